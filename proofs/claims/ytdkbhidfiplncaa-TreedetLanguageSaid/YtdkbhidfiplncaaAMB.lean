/- Sets of numbers as words: bitset. -/
import Derived.Test.YtdkbhidfiplncaaAMD
namespace Go.Abs.Det
open Go Go.Abs
set_option linter.unusedSimpArgs false
set_option linter.unusedVariables false


abbrev sw (z : Bool) (l : List Nat) : AV := .sl z l.length (w64 l)
def W (l : List Nat) : Prop := ∀ x ∈ l, x < 18446744073709551616

theorem W.get {l : List Nat} (h : W l) (i : Nat) : l.getD i 0 < 18446744073709551616 := by
  rw [List.getD_eq_getElem?_getD]
  cases e : l[i]? with
  | none => simp
  | some x => exact h x (List.mem_of_getElem? e)

theorem xE6 {l : List Nat} {i : Nat} (h : l.length ≤ i) : l.getD i 0 = 0 := by
  simp [List.getD, List.getElem?_eq_none h]

theorem yDy (z : Bool) (a : List Nat) (i : Nat) (H : xAA) : L.icall (.func 127 []) [sw z a, .int .i64 (i : Nat)] H = some (.int .u64 (a.getD i 0 : Nat), H) := by
  by_cases hi : i < a.length
  · have h1 : (i : Int) < (a.length : Nat) := by omega
    rw [xYp, xYi]
    simp (maxSteps := 30000000) (disch := first | assumption | omega | (simp only [List.length_cons, List.length_nil, List.length_append, List.length_set, List.length_replicate, List.length_map, List.length_range, List.length_take, List.length_drop, List.all_cons, List.all_nil, AV.isCell, Bool.and_self, Bool.and_true, xAh, xAb, xAe, xAa] <;> omega) | rfl | decide) only [List.append_nil, xAI, List.length_cons, List.length_nil, Nat.zero_add, Nat.reduceAdd, Nat.reduceSub, xB8, List.cons_append, List.nil_append, xAo, xAf, xAc, xAk, xAE, opv, xAp, List.set_cons_succ, List.set_cons_zero, xAi, xAg, xAj, xAd, List.getD_cons_succ, List.getD_cons_zero, xBr, xBf, xAl, xAH, xAL, h1, decide_true, xAq, xAn, ↓reduceIte, xA4, xA6, Int.toNat_natCast, Nat.mul_one, xAP, xBu, xD2, xCT, xGw, xD8, Nat.add_zero, xAV, xAO, xBa, xAx, xAF, xAU, xAr]
  · have h1 : ¬ (i : Int) < (a.length : Nat) := by omega
    rw [xE6 (by omega), xYp, xYi]
    simp (maxSteps := 30000000) (disch := first | assumption | omega | (simp only [List.length_cons, List.length_nil, List.length_append, List.length_set, List.length_replicate, List.length_map, List.length_range, List.length_take, List.length_drop, List.all_cons, List.all_nil, AV.isCell, Bool.and_self, Bool.and_true, xAh, xAb, xAe, xAa] <;> omega) | rfl | decide) only [List.append_nil, xAI, List.length_cons, List.length_nil, Nat.zero_add, Nat.reduceAdd, Nat.reduceSub, xB8, List.cons_append, List.nil_append, xAo, xAf, xAc, xAk, xAE, opv, xAp, List.set_cons_succ, List.set_cons_zero, xAi, xAg, xAj, xAd, List.getD_cons_succ, List.getD_cons_zero, xBr, xBf, xAl, xAH, xAL, h1, decide_false, xAq, xAn, Bool.false_eq_true, ↓reduceIte, xAG, xAO, xAx, xAF, xAU, xAr, xDg]

theorem yEz (x y : Nat) (H : xAA) (hx : x < 18446744073709551616) (hy : y < 18446744073709551616) : L.icall (.func 126 []) [.int .u64 (x : Nat), .int .u64 (y : Nat)] H = some (.int .u64 (x ||| y : Nat), H) := by
  have h := xX6 hx hy
  rw [yBf, xZ7]
  simp (maxSteps := 30000000) (disch := first | assumption | omega | (simp only [List.length_cons, List.length_nil, List.length_append, List.length_set, List.length_replicate, List.length_map, List.length_range, List.length_take, List.length_drop, List.all_cons, List.all_nil, AV.isCell, Bool.and_self, Bool.and_true, xAh, xAb, xAe, xAa] <;> omega) | rfl | decide) only [List.append_nil, xAI, List.length_cons, List.length_nil, Nat.zero_add, Nat.reduceAdd, Nat.reduceSub, xB8, List.cons_append, List.nil_append, xAo, xAf, xAc, xAk, xAE, opv, xAp, List.set_cons_succ, List.set_cons_zero, xAi, xAg, xAj, xAd, List.getD_cons_zero, List.getD_cons_succ, xAH, xHA, h, xAl, xAO, xAx, xAF, xAU, xAr]

def xFl (op : Nat → Nat → Nat) (a b : List Nat) (n : Nat) : List Nat := (List.range n).map fun i => op (a.getD i 0) (b.getD i 0)
theorem xEl (op : Nat → Nat → Nat) (a b : List Nat) (n : Nat) : (xFl op a b n).length = n := by simp [xFl]
theorem xRK (op : Nat → Nat → Nat) (a b : List Nat) (n : Nat) : xFl op a b n ++ [op (a.getD n 0) (b.getD n 0)] = xFl op a b (n + 1) := by simp [xFl, List.range_succ]

def xPs : Nat → AV
  | 0 => .sl true 0 []
  | k + 1 => .own false k 0 (k + 1) 1
def xKd (op : Nat → Nat → Nat) (a b : List Nat) : Nat → xAA
  | 0 => []
  | k + 1 => List.replicate k .dead ++ [.cells false false (w64 (xFl op a b (k + 1)))]

theorem xMv {g : Nat} {op : Nat → Nat → Nat} {a b : List Nat} {za zb : Bool} {N : Nat} (hN : N ≤ 64)
    (hop : ∀ x y H, x < 18446744073709551616 → y < 18446744073709551616 → L.icall (.func g []) [.int .u64 (x : Nat), .int .u64 (y : Nat)] H = some (.int .u64 (op x y : Nat), H)) (wa : W a) (wb : W b) : ∀ d i, i + d = N →
    L.loop xIp xN0 ⟨xIq (sw za a) (sw zb b) (.func g []) (.func 127 []) (xPs i) (.int .i64 (N : Nat)) (.int .i64 (i : Nat)), xKd op a b i⟩ =
      some (.exit 0, ⟨xIq (sw za a) (sw zb b) (.func g []) (.func 127 []) (xPs N) (.int .i64 (N : Nat)) (.int .i64 (N : Nat)), xKd op a b N⟩)
  | 0, i, h => by
    obtain rfl : i = N := by omega
    rw [xMN]
    simp (maxSteps := 30000000) (disch := first | assumption | omega | (simp only [List.length_cons, List.length_nil, List.length_append, List.length_set, List.length_replicate, List.length_map, List.length_range, List.length_take, List.length_drop, List.all_cons, List.all_nil, AV.isCell, Bool.and_self, Bool.and_true, xAh, xAb, xAe, xAa] <;> omega) | rfl | decide) only [xIo, xAo, xAf, xAc, xAk, xAH, opv, List.getD_cons_succ, List.getD_cons_zero, xAL, Int.lt_irrefl, decide_false, xAl, xAp, List.set_cons_succ, List.set_cons_zero, xAi, xAg, xAj, xAd, xAq, xAn, Bool.false_eq_true, ↓reduceIte, xBy, xBh, xA9, xIr]
  | d + 1, i, h => by
    have hlt : (i : Int) < (N : Nat) := by omega
    have h1 := yDy za a i
    have h2 := yDy zb b i
    have h3 := fun H => hop _ _ H (wa.get i) (wb.get i)
    have ih := xMv (za := za) (zb := zb) hN hop wa wb d (i + 1) (by omega)
    cases i with
    | zero =>
      have hv : w64 (xFl op a b (0 + 1)) = [AV.int .u64 (op (a.getD 0 0) (b.getD 0 0) : Nat)] := rfl
      simp only [xPs, xKd, hv, List.replicate, List.nil_append, Nat.zero_add, Int.natCast_zero, Int.natCast_one] at ih h1 h2 h3 hlt ⊢
      rw [xMN]
      simp (maxSteps := 30000000) (disch := first | assumption | omega | (simp only [List.length_cons, List.length_nil, List.length_append, List.length_set, List.length_replicate, List.length_map, List.length_range, List.length_take, List.length_drop, List.all_cons, List.all_nil, AV.isCell, Bool.and_self, Bool.and_true, xAh, xAb, xAe, xAa] <;> omega) | rfl | decide) only [xIo, xAo, xAf, xAc, xAk, xAH, opv, List.getD_cons_succ, List.getD_cons_zero, xAL, hlt, decide_true, xAl, xAp, List.set_cons_succ, List.set_cons_zero, xAi, xAg, xAj, xAd, xAq, xAn, ↓reduceIte, xAG, xAs, xAE, xBY, List.map_cons, List.map_nil, h1, h2, h3, xCc, AV.cells, List.all_cons, List.length_cons, List.length_nil, Nat.zero_add, beq_self_eq_true, List.all_nil, Bool.and_self, xDM, List.append_nil, Nat.mul_one, xCp, Nat.le_refl, AV.isCell, and_self, xBd, List.take_zero, List.nil_append, List.drop_succ_cons, List.drop_nil, xCb, xCn, xBI, List.flatMap_cons, xBR, List.flatMap_nil, List.isEmpty_nil, List.mapM_cons, xAW, List.mapM_nil, Option.pure_def, Option.bind_eq_bind, Option.bind_some, xB5, xB1, xDx, xDw, Nat.reduceBEq, xCO, xAu, xBq, Int.zero_add, xDf, xAM, xIr, ih]
    | succ k =>
      have hl := xEl op a b (k + 1)
      have htk : List.take (k + 1) (xFl op a b (k + 1)) = xFl op a b (k + 1) := List.take_of_length_le (by omega)
      have hsn : w64 (xFl op a b (k + 1)) ++ [AV.int .u64 (op (a.getD (k + 1) 0) (b.getD (k + 1) 0) : Nat)] = w64 (xFl op a b (k + 1 + 1)) := by rw [xOw, xRK]
      simp only [xPs, xKd, List.replicate_succ', List.append_assoc, List.cons_append, List.nil_append] at ih ⊢
      rw [xMN]
      simp (maxSteps := 30000000) (disch := first | assumption | omega | (simp only [List.length_cons, List.length_nil, List.length_append, List.length_set, List.length_replicate, List.length_map, List.length_range, List.length_take, List.length_drop, List.all_cons, List.all_nil, AV.isCell, Bool.and_self, Bool.and_true, xAh, xAb, xAe, xAa] <;> omega) | rfl | decide) only [xIo, xAo, xAf, xAc, xAk, xAH, opv, List.getD_cons_succ, List.getD_cons_zero, xAL, hlt, decide_true, xAl, xAp, List.set_cons_succ, List.set_cons_zero, xAi, xAg, xAj, xAd, xAq, xAn, ↓reduceIte, xAG, xAs, xAE, xBY, List.map_cons, List.map_nil, h1, h2, h3, xCc, AV.cells, List.all_cons, List.length_cons, List.length_nil, Nat.zero_add, beq_self_eq_true, List.all_nil, Bool.and_self, xDM, List.append_nil, Nat.mul_one, xCp, Nat.le_refl, AV.isCell, and_self, xBd, List.take_zero, List.nil_append, List.drop_succ_cons, List.drop_nil, xCb, xCn, xBI, List.flatMap_cons, xBR, List.flatMap_nil, List.isEmpty_nil, List.mapM_cons, xAW, List.mapM_nil, Option.pure_def, Option.bind_eq_bind, Option.bind_some, xB5, xB1, xDx, xEo, xH2, List.getElem?_cons_zero, xDh, Nat.reduceBEq, List.length_append, List.length_replicate, xTO, xCT, htk, hsn, List.append_assoc, List.cons_append, xAu, xBq, xCE, xDf, xAM, xIr, ih]

def xC4 (l : List Nat) : Nat → Nat
  | 0 => 0
  | n + 1 => if l.getD n 0 = 0 then xC4 l n else n + 1
theorem xGX (l : List Nat) : ∀ n, xC4 l n ≤ n
  | 0 => Nat.le_refl _
  | n + 1 => by unfold xC4; split; have := xGX l n; omega; omega
theorem xJe (l : List Nat) : ∀ n i, xC4 l n ≤ i → i < n → l.getD i 0 = 0
  | 0, i, h, h2 => by omega
  | n + 1, i, h, h2 => by
    unfold xC4 at h
    split at h
    · rename_i e
      by_cases hi : i = n
      · subst hi; exact e
      · exact xJe l n i h (by omega)
    · omega
theorem xJf (l : List Nat) : ∀ n, 0 < xC4 l n → l.getD (xC4 l n - 1) 0 ≠ 0
  | 0, h => by simp [xC4] at h
  | n + 1, h => by
    unfold xC4 at h ⊢
    split
    · rename_i e
      rw [if_pos e] at h
      exact xJf l n h
    · rename_i e; simpa using e

theorem xKe {l : List Nat} {k : Nat} : ∀ n, n ≤ l.length → n ≤ 64 →
    L.loop xG8 xLC ⟨xGj (.own false k 0 n 1), List.replicate k .dead ++ [.cells false false (w64 l)]⟩ = some (.exit 2, ⟨xGj (.own false k 0 (xC4 l n) 1), List.replicate k .dead ++ [.cells false false (w64 l)]⟩)
  | 0, _, _ => by
    rw [xMO]
    simp (maxSteps := 30000000) (disch := first | assumption | omega | (simp only [List.length_cons, List.length_nil, List.length_append, List.length_set, List.length_replicate, List.length_map, List.length_range, List.length_take, List.length_drop, List.all_cons, List.all_nil, AV.isCell, Bool.and_self, Bool.and_true, xAh, xAb, xAe, xAa] <;> omega) | rfl | decide) only [xG7, xAo, xAf, xAc, xAk, xAE, opv, List.getD_cons_succ, List.getD_cons_zero, xAp, List.set_cons_succ, List.set_cons_zero, xAi, xBr, xDK, xDg, xAl, xAH, xBP, Int.lt_irrefl, decide_false, xAJ, xAD, Bool.false_eq_true, ↓reduceIte, xCf, xA7, xAK, xAg, xAj, xAd, xAq, xAn, xBy, xBh, xA9, xG9, xC4]
  | n + 1, h, h2 => by
    have h0 : (0 : Int) < ((n + 1 : Nat) : Int) := by omega
    have ih := xKe (l := l) (k := k) n (by omega) (by omega)
    unfold xC4
    rw [xMO]
    by_cases e : l.getD n 0 = 0
    · have e' : (((l.getD n 0 : Nat) : Int) = 0) = True := eq_true (by omega)
      simp (maxSteps := 30000000) (disch := first | assumption | omega | (simp only [List.length_cons, List.length_nil, List.length_append, List.length_set, List.length_replicate, List.length_map, List.length_range, List.length_take, List.length_drop, List.all_cons, List.all_nil, AV.isCell, Bool.and_self, Bool.and_true, xAh, xAb, xAe, xAa] <;> omega) | rfl | decide) only [xG7, xAo, xAf, xAc, xAk, xAE, opv, List.getD_cons_succ, List.getD_cons_zero, xAp, List.set_cons_succ, List.set_cons_zero, xAi, xBr, xDK, xAl, xAH, xBP, h0, decide_true, xAJ, xAD, ↓reduceIte, xEQ, xVx, Nat.add_sub_cancel, xDf, xA4, xBV, Int.toNat_natCast, Nat.mul_one, Nat.zero_add, xAP, xA5, xH2, List.getElem?_cons_zero, xAz, xD2, xCT, xGw, xD8, Nat.add_zero, e, xDg, xAV, xBK, xA7, xAK, xAg, xAj, xAd, xAq, xAn, xAG, xAs, xDt, Option.map_none, Option.map_some, xJO, xDv, xN3, Nat.sub_zero, xAu, xAM, xG9, ih]
    · have e' : (((l.getD n 0 : Nat) : Int) = 0) = False := eq_false (by omega)
      simp (maxSteps := 30000000) (disch := first | assumption | omega | (simp only [List.length_cons, List.length_nil, List.length_append, List.length_set, List.length_replicate, List.length_map, List.length_range, List.length_take, List.length_drop, List.all_cons, List.all_nil, AV.isCell, Bool.and_self, Bool.and_true, xAh, xAb, xAe, xAa] <;> omega) | rfl | decide) only [xG7, xAo, xAf, xAc, xAk, xAE, opv, List.getD_cons_succ, List.getD_cons_zero, xAp, List.set_cons_succ, List.set_cons_zero, xAi, xBr, xDK, xAl, xAH, xBP, h0, decide_true, xAJ, xAD, ↓reduceIte, xEQ, xVx, Nat.add_sub_cancel, xDf, xA4, xBV, Int.toNat_natCast, Nat.mul_one, Nat.zero_add, xAP, xA5, xH2, List.getElem?_cons_zero, xAz, xD2, xCT, xGw, xD8, Nat.add_zero, xAV, xBK, e', decide_false, xA7, xAK, xAg, xAj, xAd, xAq, xAn, Bool.false_eq_true, xBy, xBh, xA9, xG9, e]

theorem xU7 (z : Bool) (l : List Nat) (n : Nat) (h : l.length = n) (h64 : n ≤ 64) : L.pcall 128 [.sl z n (w64 l)] = some (.sl z n (w64 l)) := by
  have htk : List.take n l = l := List.take_of_length_le (by omega)
  rw [yBg, xZ8, xAT]
  simp (maxSteps := 30000000) (disch := first | assumption | omega | (simp only [List.length_cons, List.length_nil, List.length_append, List.length_set, List.length_replicate, List.length_map, List.length_range, List.length_take, List.length_drop, List.all_cons, List.all_nil, AV.isCell, Bool.and_self, Bool.and_true, xAh, xAb, xAe, xAa] <;> omega) | rfl | decide) only [xAI, List.length_cons, List.length_nil, Nat.zero_add, Nat.reduceSub, xB8, List.cons_append, List.nil_append, xAo, xAf, xAc, xAk, xAE, opv, xAp, List.set_cons_succ, List.set_cons_zero, xAi, xAg, xAj, xAd, List.getD_cons_zero, xBr, List.getD_cons_succ, xBf, xAl, xDt, Option.map_none, Option.map_some, xDu, xKc, Int.toNat_natCast, xER, Nat.sub_zero, Nat.mul_one, List.drop_zero, xCT, htk, xAO, xAx, xAF, xAU, xAr, xAt, xBI, xBE]

def xDz (op : Nat → Nat → Nat) (a b : List Nat) : List Nat :=
  (xFl op a b (min (max a.length b.length) 64)).take (xC4 (xFl op a b (min (max a.length b.length) 64)) (min (max a.length b.length) 64))

theorem xW8 {g : Nat} {op : Nat → Nat → Nat} {a b : List Nat} {za zb : Bool} (hop : ∀ x y H, x < 18446744073709551616 → y < 18446744073709551616 → L.icall (.func g []) [.int .u64 (x : Nat), .int .u64 (y : Nat)] H = some (.int .u64 (op x y : Nat), H)) (wa : W a) (wb : W b) :
    ∃ z H', L.icall (.func 125 []) [sw za a, sw zb b, .func g []] [] = some (sw z (xDz op a b), H') := by
  unfold xDz
  have hm : min (max (a.length : Int) (b.length : Int)) 64 = ((min (max a.length b.length) 64 : Nat) : Int) := by omega
  have hN : min (max a.length b.length) 64 ≤ 64 := by omega
  have hl := xMv (za := za) (zb := zb) hN hop wa wb (min (max a.length b.length) 64) 0 (by omega)
  generalize min (max a.length b.length) 64 = N at *
  simp only [Int.natCast_zero] at hl
  cases N with
  | zero =>
    refine ⟨true, [], ?_⟩
    simp only [xPs, xKd, Int.natCast_zero] at hl hm
    have hs : L.loop xG8 xLC ⟨xGj (.sl true 0 []), []⟩ = some (.exit 2, ⟨xGj (.sl true 0 []), []⟩) := by
      rw [xMO]
      simp (maxSteps := 30000000) (disch := first | assumption | omega | (simp only [List.length_cons, List.length_nil, List.length_append, List.length_set, List.length_replicate, List.length_map, List.length_range, List.length_take, List.length_drop, List.all_cons, List.all_nil, AV.isCell, Bool.and_self, Bool.and_true, xAh, xAb, xAe, xAa] <;> omega) | rfl | decide) only [xG7, xAo, xAf, xAc, xAk, xAE, opv, List.getD_cons_succ, List.getD_cons_zero, xAp, List.set_cons_succ, List.set_cons_zero, xAi, xBr, xBf, xDg, xAl, xAH, xBP, Int.lt_irrefl, decide_false, xAJ, xAD, Bool.false_eq_true, ↓reduceIte, xCf, xA7, xAK, xAg, xAj, xAd, xAq, xAn, xBy, xBh, xA9, xG9]
    have hc := xU7 true [] 0 rfl (by omega)
    rw [xW7] at hc
    rw [xYo, xYh]
    simp (maxSteps := 30000000) (disch := first | assumption | omega | (simp only [List.length_cons, List.length_nil, List.length_append, List.length_set, List.length_replicate, List.length_map, List.length_range, List.length_take, List.length_drop, List.all_cons, List.all_nil, AV.isCell, Bool.and_self, Bool.and_true, xAh, xAb, xAe, xAa] <;> omega) | rfl | decide) only [List.append_nil, xAI, List.length_cons, List.length_nil, Nat.zero_add, Nat.reduceAdd, Nat.reduceSub, xB8, List.cons_append, List.nil_append, xAo, xAf, xAc, xAk, xAE, opv, xAp, List.set_cons_succ, List.set_cons_zero, xAi, xAg, xAj, xAd, List.getD_cons_zero, xBr, List.getD_cons_succ, xBf, xAl, xQn, xN4, xET, xDW, hm, xAs, xBe, xIr, hl, xA0, ↓reduceIte, xG9, hs, xBi, List.map_cons, List.map_nil, xAZ, xBI, List.mapM_cons, xBE, List.mapM_nil, Option.pure_def, Option.bind_eq_bind, Option.bind_some, xAY, hc, xAX, xCZ, xBU, Bool.false_eq_true, xCz, List.flatMap_cons, xDk, List.flatMap_nil, List.foldl_nil, xAO, xAx, xAF, xAU, xAr]
    rfl
  | succ k =>
    simp only [xPs, xKd] at hl
    have hvl := xEl op a b (k + 1)
    have hs := xKe (l := xFl op a b (k + 1)) (k := k) (k + 1) (by omega) hN
    have hle := xGX (xFl op a b (k + 1)) (k + 1)
    generalize xC4 (xFl op a b (k + 1)) (k + 1) = n at *
    have hlen : ((xFl op a b (k + 1)).take n).length = n := by rw [List.length_take]; omega
    have hc := xU7 false ((xFl op a b (k + 1)).take n) n hlen (by omega)
    refine ⟨false, List.replicate k .dead ++ [.cells true false (w64 (xFl op a b (k + 1)))], ?_⟩
    rw [xYo, xYh]
    simp (maxSteps := 30000000) (disch := first | assumption | omega | (simp only [List.length_cons, List.length_nil, List.length_append, List.length_set, List.length_replicate, List.length_map, List.length_range, List.length_take, List.length_drop, List.all_cons, List.all_nil, AV.isCell, Bool.and_self, Bool.and_true, xAh, xAb, xAe, xAa] <;> omega) | rfl | decide) only [List.append_nil, xAI, List.length_cons, List.length_nil, Nat.zero_add, Nat.reduceAdd, Nat.reduceSub, xB8, List.cons_append, List.nil_append, xAo, xAf, xAc, xAk, xAE, opv, xAp, List.set_cons_succ, List.set_cons_zero, xAi, xAg, xAj, xAd, List.getD_cons_zero, xBr, List.getD_cons_succ, xBf, xAl, xQn, xN4, xET, xDW, hm, xAs, xBe, xIr, hl, xA0, ↓reduceIte, xG9, hs, xBi, List.map_cons, List.map_nil, xAZ, xBI, List.mapM_cons, xFn, xH2, List.getElem?_cons_zero, xDj, Nat.mul_one, List.drop_zero, xCT, xKO, xB5, List.mapM_nil, Option.pure_def, Option.bind_eq_bind, Option.bind_some, xAY, hc, xAX, xCZ, xBU, Bool.false_eq_true, xCz, List.flatMap_cons, xMS, xHa, xRJ, List.flatMap_nil, List.foldl_cons, xTP, List.modify_cons, xGt, List.foldl_nil, xAO, xAx, xAF, xAU, xAr]
    rw [xU6 hlen]
end Go.Abs.Det

/- Sets by what they hold. -/
namespace Go.Abs.Det
open Go Go.Abs
set_option linter.unusedSimpArgs false
set_option linter.unusedVariables false

theorem xJg (op : Nat → Nat → Nat) (a b : List Nat) (h0 : op 0 0 = 0) (i : Nat) (hi : i < 64) : (xDz op a b).getD i 0 = op (a.getD i 0) (b.getD i 0) := by
  unfold xDz
  generalize hN : min (max a.length b.length) 64 = N
  have hv : ∀ i, i < N → (xFl op a b N).getD i 0 = op (a.getD i 0) (b.getD i 0) := fun i hi => by simp [xFl, hi]
  have hle := xGX (xFl op a b N) N
  by_cases h : i < xC4 (xFl op a b N) N
  · rw [← hv i (by omega)]
    simp [List.getD, List.getElem?_take, h]
  · rw [xE6 (by rw [List.length_take, xEl]; omega)]
    by_cases h2 : i < N
    · rw [← hv i h2]
      exact (xJe _ N i (by omega) h2).symm
    · rw [xE6 (l := a) (by omega), xE6 (l := b) (by omega), h0]

theorem xFI (op : Nat → Nat → Nat) (a b : List Nat) : (xDz op a b).length ≤ 64 := by
  unfold xDz
  rw [List.length_take, xEl]; omega

theorem xRL {op : Nat → Nat → Nat} {a b : List Nat} (hop : ∀ x y, x < 18446744073709551616 → y < 18446744073709551616 → op x y < 18446744073709551616) (wa : W a) (wb : W b) : W (xDz op a b) := by
  intro x hx
  have := List.mem_of_mem_take hx
  simp only [xFl, List.mem_map] at this
  obtain ⟨i, _, rfl⟩ := this
  exact hop _ _ (wa.get i) (wb.get i)

theorem xKf (op : Nat → Nat → Nat) (a b : List Nat) (h : xDz op a b ≠ []) : (xDz op a b).getD ((xDz op a b).length - 1) 0 ≠ 0 := by
  unfold xDz at h ⊢
  generalize hN : min (max a.length b.length) 64 = N at *
  have hle := xGX (xFl op a b N) N
  have hl : ((xFl op a b N).take (xC4 (xFl op a b N) N)).length = xC4 (xFl op a b N) N := by rw [List.length_take, xEl]; omega
  have hp : 0 < xC4 (xFl op a b N) N := by
    rw [← hl]; exact List.length_pos_iff.2 h
  rw [hl]
  have := xJf _ N hp
  rw [show ((xFl op a b N).take (xC4 (xFl op a b N) N)).getD (xC4 (xFl op a b N) N - 1) 0 = (xFl op a b N).getD (xC4 (xFl op a b N) N - 1) 0 from by
    simp [List.getD, List.getElem?_take, show xC4 (xFl op a b N) N - 1 < xC4 (xFl op a b N) N by omega]]
  exact this

def mem (l : List Nat) (j : Nat) : Bool := decide (j < 4096) && (l.getD (j / 64) 0).testBit (j % 64)

theorem xOy {op : Nat → Nat → Nat} {f : Bool → Bool → Bool} (a b : List Nat) (h0 : op 0 0 = 0) (hf : ∀ x y i, (op x y).testBit i = f (x.testBit i) (y.testBit i)) (j : Nat) (hj : j < 4096) : mem (xDz op a b) j = f (mem a j) (mem b j) := by
  unfold mem
  rw [xJg op a b h0 _ (by omega), hf]
  simp [hj]

def HasSet (v : AV) (S : Nat → Bool) : Prop := ∃ z l, v = sw z l ∧ W l ∧ l.length < 1099511627776 ∧ ∀ j, mem l j = S j

theorem HasSet.out {v : AV} {S : Nat → Bool} (h : HasSet v S) {j : Nat} (hj : 4096 ≤ j) : S j = false := by
  obtain ⟨z, l, rfl, _, _, h⟩ := h
  rw [← h j]
  simp [mem, show ¬ j < 4096 by omega]

theorem HasSet.congr {v : AV} {S T : Nat → Bool} (h : HasSet v S) (e : ∀ j, S j = T j) : HasSet v T := by
  obtain ⟨z, l, rfl, w, hl, h⟩ := h
  exact ⟨z, l, rfl, w, hl, fun j => (h j).trans (e j)⟩

theorem xMw {z : Bool} : HasSet (.sl z 0 []) (fun _ => false) := ⟨z, [], rfl, by intro x hx; simp at hx, by simp, fun j => by simp [mem]⟩

theorem xKP {x y : Nat} (hx : x < 18446744073709551616) (hy : y < 18446744073709551616) : x ||| y < 18446744073709551616 := by
  have : x ||| y < 2 ^ 64 := Nat.or_lt_two_pow (by omega) (by omega)
  omega

theorem xJh {za zb : Bool} {a b : List Nat} (wa : W a) (wb : W b) (ha : a.length < 1099511627776) (hb : b.length < 1099511627776) : ∃ z, L.pcall 117 [sw za a, sw zb b] = some (sw z (xDz (· ||| ·) a b)) := by
  obtain ⟨z, H', h⟩ := xW8 (za := za) (zb := zb) (g := 126) (op := (· ||| ·)) (fun x y H hx hy => yEz x y H hx hy) wa wb
  refine ⟨z, ?_⟩
  rw [yBd, xZ5, xAT]
  simp (maxSteps := 30000000) (disch := first | assumption | omega | (simp only [List.length_cons, List.length_nil, List.length_append, List.length_set, List.length_replicate, List.length_map, List.length_range, List.length_take, List.length_drop, List.all_cons, List.all_nil, AV.isCell, Bool.and_self, Bool.and_true, xAh, xAb, xAe, xAa] <;> omega) | rfl | decide) only [xAI, List.length_cons, List.length_nil, Nat.zero_add, Nat.reduceAdd, Nat.reduceSub, xB8, List.cons_append, List.nil_append, xAo, xAf, xAc, xAk, xAE, opv, xAp, List.set_cons_succ, List.set_cons_zero, xAi, xAg, xAj, xAd, List.getD_cons_zero, List.getD_cons_succ, xBY, List.map_cons, List.map_nil, h, xAO, xAx, xAF, xAU, xAr, xAt, xBI, xBE]

theorem xMx {v u : AV} {S T : Nat → Bool} (hv : HasSet v S) (hu : HasSet u T) : ∃ z l, L.pcall 117 [v, u] = some (sw z l) ∧ HasSet (sw z l) (fun j => S j || T j) := by
  obtain ⟨za, a, rfl, wa, la, ha⟩ := id hv
  obtain ⟨zb, b, rfl, wb, lb, hb⟩ := id hu
  obtain ⟨z, h⟩ := xJh (za := za) (zb := zb) wa wb la lb
  refine ⟨z, _, h, z, _, rfl, xRL (fun x y hx hy => xKP hx hy) wa wb, by have := xFI (· ||| ·) a b; omega, fun j => ?_⟩
  by_cases hj : j < 4096
  · rw [xOy (f := (· || ·)) a b (by simp) (fun x y i => by simp) j hj, ha, hb]
  · show mem _ j = (S j || T j)
    rw [hv.out (j := j) (by omega), hu.out (j := j) (by omega)]
    simp [mem, hj]

theorem xTR (n : Nat) : xEg [AV.int .u64 0] n = w64 (List.replicate n 0) := by
  induction n with
  | zero => rfl
  | succ n ih => simp [xEg, ih, w64, List.replicate_succ]

def xTS (k : Nat) : List Nat := (List.replicate (k / 64 + 1) 0).set (k / 64) (2 ^ (k % 64))

theorem xRM (k : Nat) (hk : k < 4096) : L.pcall 118 [.int .i64 (k : Nat)] = some (.sl false (k / 64 + 1) (w64 (xTS k))) := by
  have h1 : ¬ ((4095 : Int) < (k : Nat)) := by omega
  have h64 : ((k : Nat) : Int).tdiv 64 = ((k / 64 : Nat) : Int) := by rw [show (64 : Int) = ((64 : Nat) : Int) from rfl, yBi]
  have hm64 : ((k : Nat) : Int).tmod 64 = ((k % 64 : Nat) : Int) := by rw [show (64 : Int) = ((64 : Nat) : Int) from rfl, yBj]
  have hlt : k % 64 < 64 := Nat.mod_lt _ (by omega)
  have hd : k / 64 < 64 := by omega
  have hsh : IntKind.u64.wrap (1 * 2 ^ min (k % 64) IntKind.u64.bits) = ((2 ^ (k % 64) : Nat) : Int) := by
    have e1 : min (k % 64) IntKind.u64.bits = k % 64 := Nat.min_eq_left (by show k % 64 ≤ 64; omega)
    have e2 : (2 : Nat) ^ (k % 64) < 2 ^ 64 := Nat.pow_lt_pow_right (by omega) hlt
    rw [e1, Int.one_mul, show (2 : Int) ^ (k % 64) = ((2 ^ (k % 64) : Nat) : Int) from by rw [Int.natCast_pow]; rfl]
    exact xTM (by omega)
  unfold xTS
  generalize k / 64 = d at *
  generalize k % 64 = r at *
  have hlen : ((List.replicate (d + 1) 0).set d (2 ^ r)).length = d + 1 := by simp
  have htk : List.take (d + 1) ((List.replicate (d + 1) 0).set d (2 ^ r)) = (List.replicate (d + 1) 0).set d (2 ^ r) := List.take_of_length_le (by omega)
  rw [yBe, xZ6, xAT]
  simp (maxSteps := 30000000) (disch := first | assumption | omega | (simp only [List.length_cons, List.length_nil, List.length_append, List.length_set, List.length_replicate, List.length_map, List.length_range, List.length_take, List.length_drop, List.all_cons, List.all_nil, AV.isCell, Bool.and_self, Bool.and_true, xAh, xAb, xAe, xAa] <;> omega) | rfl | decide) only [xAI, List.length_cons, List.length_nil, Nat.zero_add, Nat.reduceSub, xB8, List.cons_append, List.nil_append, xAo, xAf, xAc, xAk, xAE, opv, xAp, List.set_cons_succ, List.set_cons_zero, xAi, xAg, xAj, xAd, List.getD_cons_zero, xAH, List.getD_cons_succ, xAL, xQd, decide_false, xAl, xAJ, xAD, ↓reduceIte, xBP, h1, xA7, xAK, Bool.false_eq_true, xAq, xAn, xAG, xVI, h64, xDf, xBq, xCE, xFN, xHP, Int.toNat_natCast, xTR, xCO, xVJ, hm64, xDs, hsh, xA4, xBV, Nat.mul_one, xBb, AV.cells, xBH, List.getElem?_cons_zero, xA3, xBd, xCT, xD2, List.append_assoc, xTK, xAR, xBl, xAO, xAx, xAF, xAU, xAr, xAt, xBI, xFn, xDj, List.drop_zero, htk, xKO, xB5]

theorem xZK (k : Nat) : W (xTS k) := by
  intro x hx
  rcases List.mem_or_eq_of_mem_set hx with h | rfl
  · rw [(List.mem_replicate.1 h).2]; omega
  · have : (2 : Nat) ^ (k % 64) < 2 ^ 64 := Nat.pow_lt_pow_right (by omega) (Nat.mod_lt _ (by omega))
    omega

theorem xTT (k : Nat) (hk : k < 4096) (j : Nat) : mem (xTS k) j = decide (j = k) := by
  unfold mem xTS
  rw [List.getD_eq_getElem?_getD, List.getElem?_set]
  by_cases h : k / 64 = j / 64
  · rw [if_pos h, if_pos (by simp <;> omega)]
    simp only [Option.getD_some, Nat.testBit_two_pow]
    by_cases e : j = k
    · subst e; simp [hk]
    · have : ¬ k % 64 = j % 64 := by omega
      simp [e, this]
  · rw [if_neg h]
    have e : ¬ j = k := by rintro rfl; exact h rfl
    simp [e, List.getElem?_replicate]
    split <;> simp

theorem xPt (k : Nat) (hk : k < 4096) : ∃ z l, L.pcall 118 [.int .i64 (k : Nat)] = some (sw z l) ∧ HasSet (sw z l) (fun j => decide (j = k)) := by
  have hlen : (xTS k).length = k / 64 + 1 := by simp [xTS]
  refine ⟨false, xTS k, ?_, false, xTS k, rfl, xZK k, by omega, xTT k hk⟩
  rw [xRM k hk, xU6 hlen]

theorem xTU {v : AV} {S : Nat → Bool} (hv : HasSet v S) (k : Nat) (hk : k < 4096) : ∃ z l, L.pcall 96 [v, .int .i64 (k : Nat)] = some (sw z l) ∧ HasSet (sw z l) (fun j => S j || decide (j = k)) := by
  obtain ⟨z, l, h1, h2⟩ := xPt k hk
  obtain ⟨z', l', h3, h4⟩ := xMx hv h2
  obtain ⟨za, a, rfl, wa, la, ha⟩ := id hv
  refine ⟨z', l', ?_, h4⟩
  rw [yD1, a96, xAT]
  simp (maxSteps := 30000000) (disch := first | assumption | omega | (simp only [List.length_cons, List.length_nil, List.length_append, List.length_set, List.length_replicate, List.length_map, List.length_range, List.length_take, List.length_drop, List.all_cons, List.all_nil, AV.isCell, Bool.and_self, Bool.and_true, xAh, xAb, xAe, xAa] <;> omega) | rfl | decide) only [xAI, List.length_cons, List.length_nil, Nat.zero_add, Nat.reduceAdd, Nat.reduceSub, xB8, List.cons_append, List.nil_append, xAo, xAf, xAc, xAk, xAE, opv, xAp, List.set_cons_succ, List.set_cons_zero, xAi, xAg, xAj, xAd, List.getD_cons_zero, List.getD_cons_succ, xBi, List.map_cons, List.map_nil, xAZ, xBI, List.mapM_cons, xAW, List.mapM_nil, Option.pure_def, Option.bind_eq_bind, Option.bind_some, xAY, h1, xAX, xCZ, xBU, Bool.false_eq_true, ↓reduceIte, xCz, List.flatMap_cons, xBR, List.flatMap_nil, List.append_nil, List.foldl_nil, xBE, h3, xDk, xAO, xAx, xAF, xAU, xAr, xAt]
end Go.Abs.Det

/- Of, Equal; automata as values; cubes; words. -/
namespace Go.Abs.Det
open Go Go.Abs
set_option linter.unusedSimpArgs false
set_option linter.unusedVariables false

theorem xRN {v : AV} {S : Nat → Bool} (hv : HasSet v S) (k : Int) (h0 : 0 ≤ k) (hk : k < 4096) : ∃ z l, L.pcall 96 [v, .int .i64 k] = some (sw z l) ∧ HasSet (sw z l) (fun j => S j || decide (j = k.toNat)) := by
  have := xTU hv k.toNat (by omega)
  rwa [Int.toNat_of_nonneg h0] at this

theorem xRO {l : List Int} {z : Bool} {H : xAA} (hl : l.length < 1099511627776) (hq : ∀ q ∈ l, 0 ≤ q ∧ q < 4096) : ∀ d i zv r S, i + d = l.length → HasSet (sw zv r) S →
    ∃ z' r', L.loop xJB xPT ⟨xJC (sw zv r) (iw z l) (.int .i64 (l.length : Nat)) (.int .i64 (i : Nat)), H⟩ = some (.exit 0, ⟨xJC (sw z' r') (iw z l) (.int .i64 (l.length : Nat)) (.int .i64 (l.length : Nat)), H⟩) ∧ HasSet (sw z' r') (fun j => S j || (l.drop i).contains (j : Int))
  | 0, i, zv, r, S, h, hS => by
    obtain rfl : i = l.length := by omega
    refine ⟨zv, r, ?_, hS.congr (fun j => by simp)⟩
    rw [xUp]
    simp (maxSteps := 30000000) (disch := first | assumption | omega | (simp only [List.length_cons, List.length_nil, List.length_append, List.length_set, List.length_replicate, List.length_map, List.length_range, List.length_take, List.length_drop, List.all_cons, List.all_nil, AV.isCell, Bool.and_self, Bool.and_true, xAh, xAb, xAe, xAa] <;> omega) | rfl | decide) only [xNG, xAo, xAf, xAc, xAk, xAH, opv, List.getD_cons_succ, List.getD_cons_zero, xAL, Int.lt_irrefl, decide_false, xAl, xAp, List.set_cons_succ, List.set_cons_zero, xAi, xAg, xAj, xAd, xAq, xAn, Bool.false_eq_true, ↓reduceIte, xBy, xBh, xA9, xPU]
  | d + 1, i, zv, r, S, h, hS => by
    have hlt : (i : Int) < (l.length : Nat) := by omega
    have hm : l.getD i 0 ∈ l := by
      rw [List.getD_eq_getElem?_getD, List.getElem?_eq_getElem (by omega)]
      exact List.getElem_mem _
    obtain ⟨z1, r1, h1, h2⟩ := xRN hS (l.getD i 0) (hq _ hm).1 (hq _ hm).2
    obtain ⟨z2, r2, h3, h4⟩ := xRO (z := z) (H := H) hl hq d (i + 1) z1 r1 _ (by omega) h2
    refine ⟨z2, r2, ?_, h4.congr (fun j => ?_)⟩
    · rw [xUp]
      simp (maxSteps := 30000000) (disch := first | assumption | omega | (simp only [List.length_cons, List.length_nil, List.length_append, List.length_set, List.length_replicate, List.length_map, List.length_range, List.length_take, List.length_drop, List.all_cons, List.all_nil, AV.isCell, Bool.and_self, Bool.and_true, xAh, xAb, xAe, xAa] <;> omega) | rfl | decide) only [xNG, xAo, xAf, xAc, xAk, xAH, opv, List.getD_cons_succ, List.getD_cons_zero, xAL, hlt, decide_true, xAl, xAp, List.set_cons_succ, List.set_cons_zero, xAi, xAg, xAj, xAd, xAq, xAn, ↓reduceIte, xAG, xAs, xA4, xA6, Int.toNat_natCast, Nat.mul_one, xAP, xBu, xCq, xB7, xDa, xCm, Nat.add_zero, xAV, xAE, xBi, List.map_cons, List.map_nil, xAZ, xBI, List.mapM_cons, xBE, xAW, List.mapM_nil, Option.pure_def, Option.bind_eq_bind, Option.bind_some, xAY, h1, xAX, xCZ, xBU, Bool.false_eq_true, xCz, List.flatMap_cons, xDk, xBR, List.flatMap_nil, List.append_nil, List.foldl_nil, xAu, xBq, xCE, xDf, xAM, xPU, h3]
    · rw [xFG (by omega : i < l.length), List.contains_cons]
      have hn := (hq _ hm).1
      have : (decide (j = (l.getD i 0).toNat)) = ((j : Int) == l.getD i 0) := by
        rw [Bool.eq_iff_iff]
        simp only [decide_eq_true_eq, beq_iff_eq]
        omega
      rw [this, Bool.or_assoc]

theorem xZL {l : List Int} {z : Bool} (hl : l.length < 1099511627776) (hq : ∀ q ∈ l, 0 ≤ q ∧ q < 4096) : ∃ z' r, L.pcall 50 [iw z l] = some (sw z' r) ∧ HasSet (sw z' r) (fun j => l.contains (j : Int)) := by
  obtain ⟨z', r, h1, h2⟩ := xRO (z := z) (H := []) hl hq l.length 0 true [] _ (by omega) (xMw (z := true))
  refine ⟨z', r, ?_, h2.congr (fun j => by simp)⟩
  simp only [Int.natCast_zero] at h1
  change L.loop xJB xPT ⟨xJC (.sl true 0 []) _ _ _, _⟩ = _ at h1
  rw [yDK, a50, xAT]
  simp (maxSteps := 30000000) (disch := first | assumption | omega | (simp only [List.length_cons, List.length_nil, List.length_append, List.length_set, List.length_replicate, List.length_map, List.length_range, List.length_take, List.length_drop, List.all_cons, List.all_nil, AV.isCell, Bool.and_self, Bool.and_true, xAh, xAb, xAe, xAa] <;> omega) | rfl | decide) only [xAI, List.length_cons, List.length_nil, Nat.zero_add, Nat.reduceSub, xB8, List.cons_append, List.nil_append, xAo, xAf, xAc, xAk, xAE, opv, xAp, List.set_cons_succ, List.set_cons_zero, xAi, xAg, xAj, xAd, List.getD_cons_zero, xBr, List.getD_cons_succ, xBf, xAl, xAs, xBe, xPU, h1, xA0, ↓reduceIte, xAO, xAx, xAF, xAU, xAr, xAt, xBI, xBE]

theorem xMy {l : List Nat} {i : Nat} (h : i < l.length) : l.drop i = l.getD i 0 :: l.drop (i + 1) := by
  rw [List.drop_eq_getElem_cons h]
  simp [List.getD, List.getElem?_eq_getElem h]

theorem xMz {l l' : List Nat} {z z' : Bool} {s4 : AV} {H : xAA} (hl : l.length < 1099511627776) (he : l'.length = l.length) : ∀ d i, i + d = l.length →
    ∃ i' : Nat, L.loop xLB xSG ⟨xJJ (sw z l) (sw z' l') s4 (.int .i64 (l.length : Nat)) (.int .i64 (i : Nat)), H⟩ =
      some (if l.drop i = l'.drop i then (.exit 0, ⟨xJJ (sw z l) (sw z' l') s4 (.int .i64 (l.length : Nat)) (.int .i64 (l.length : Nat)), H⟩) else (.ret, ⟨xJJ (sw z l) (sw z' l') (.bool false) (.int .i64 (l.length : Nat)) (.int .i64 (i' : Nat)), H⟩))
  | 0, i, h => by
    obtain rfl : i = l.length := by omega
    refine ⟨0, ?_⟩
    rw [if_pos (by rw [List.drop_length, List.drop_of_length_le (by omega)]), xQb]
    simp (maxSteps := 30000000) (disch := first | assumption | omega | (simp only [List.length_cons, List.length_nil, List.length_append, List.length_set, List.length_replicate, List.length_map, List.length_range, List.length_take, List.length_drop, List.all_cons, List.all_nil, AV.isCell, Bool.and_self, Bool.and_true, xAh, xAb, xAe, xAa] <;> omega) | rfl | decide) only [xJI, xAo, xAf, xAc, xAk, xAH, opv, List.getD_cons_succ, List.getD_cons_zero, xAL, Int.lt_irrefl, decide_false, xAl, xAp, List.set_cons_succ, List.set_cons_zero, xAi, xAg, xAj, xAd, xAq, xAn, Bool.false_eq_true, ↓reduceIte, xBy, xBh, xA9, xJK]
  | d + 1, i, h => by
    have hlt : (i : Int) < (l.length : Nat) := by omega
    obtain ⟨i', ih⟩ := xMz (z := z) (z' := z') (s4 := s4) (H := H) hl he d (i + 1) (by omega)
    rw [xMy (by omega : i < l.length), xMy (by omega : i < l'.length)]
    by_cases e : l.getD i 0 = l'.getD i 0
    · have e' : (((l.getD i 0 : Nat) : Int) = ((l'.getD i 0 : Nat) : Int)) = True := eq_true (by omega)
      refine ⟨i', ?_⟩
      rw [xQb]
      simp only [List.cons.injEq, e, true_and]
      by_cases e2 : l.drop (i + 1) = l'.drop (i + 1)
      · rw [if_pos e2] at ih ⊢
        simp (maxSteps := 30000000) (disch := first | assumption | omega | (simp only [List.length_cons, List.length_nil, List.length_append, List.length_set, List.length_replicate, List.length_map, List.length_range, List.length_take, List.length_drop, List.all_cons, List.all_nil, AV.isCell, Bool.and_self, Bool.and_true, xAh, xAb, xAe, xAa] <;> omega) | rfl | decide) only [xJI, xAo, xAf, xAc, xAk, xAH, opv, List.getD_cons_succ, List.getD_cons_zero, xAL, hlt, decide_true, xAl, xAp, List.set_cons_succ, List.set_cons_zero, xAi, xAg, xAj, xAd, xAq, xAn, ↓reduceIte, xAG, xAs, xAE, xBT, List.take_succ_cons, List.take_zero, xBg, xBo, xCU, xBB, xBM, xBA, xCC, xA4, xA6, Int.toNat_natCast, Nat.mul_one, xB4, xAP, xBu, xD2, xCT, xGw, xD8, Nat.add_zero, xAV, xBp, xBz, List.drop_succ_cons, List.drop_zero, xCJ, xBG, xA8, e', Bool.not_true, Bool.false_eq_true, xAu, xBq, xCE, xDf, xAM, xJK, ih]
      · rw [if_neg e2] at ih ⊢
        simp (maxSteps := 30000000) (disch := first | assumption | omega | (simp only [List.length_cons, List.length_nil, List.length_append, List.length_set, List.length_replicate, List.length_map, List.length_range, List.length_take, List.length_drop, List.all_cons, List.all_nil, AV.isCell, Bool.and_self, Bool.and_true, xAh, xAb, xAe, xAa] <;> omega) | rfl | decide) only [xJI, xAo, xAf, xAc, xAk, xAH, opv, List.getD_cons_succ, List.getD_cons_zero, xAL, hlt, decide_true, xAl, xAp, List.set_cons_succ, List.set_cons_zero, xAi, xAg, xAj, xAd, xAq, xAn, ↓reduceIte, xAG, xAs, xAE, xBT, List.take_succ_cons, List.take_zero, xBg, xBo, xCU, xBB, xBM, xBA, xCC, xA4, xA6, Int.toNat_natCast, Nat.mul_one, xB4, xAP, xBu, xD2, xCT, xGw, xD8, Nat.add_zero, xAV, xBp, xBz, List.drop_succ_cons, List.drop_zero, xCJ, xBG, xA8, e', Bool.not_true, Bool.false_eq_true, xAu, xBq, xCE, xDf, xAM, xJK, ih]
    · have e' : (((l.getD i 0 : Nat) : Int) = ((l'.getD i 0 : Nat) : Int)) = False := eq_false (by omega)
      refine ⟨i, ?_⟩
      rw [if_neg (fun q => e (List.cons.inj q).1), xQb]
      simp (maxSteps := 30000000) (disch := first | assumption | omega | (simp only [List.length_cons, List.length_nil, List.length_append, List.length_set, List.length_replicate, List.length_map, List.length_range, List.length_take, List.length_drop, List.all_cons, List.all_nil, AV.isCell, Bool.and_self, Bool.and_true, xAh, xAb, xAe, xAa] <;> omega) | rfl | decide) only [xJI, xAo, xAf, xAc, xAk, xAH, opv, List.getD_cons_succ, List.getD_cons_zero, xAL, hlt, decide_true, xAl, xAp, List.set_cons_succ, List.set_cons_zero, xAi, xAg, xAj, xAd, xAq, xAn, ↓reduceIte, xAG, xAs, xAE, xBT, List.take_succ_cons, List.take_zero, xBg, xBo, xCU, xBB, xBM, xBA, xCC, xA4, xA6, Int.toNat_natCast, Nat.mul_one, xB4, xAP, xBu, xD2, xCT, xGw, xD8, Nat.add_zero, xAV, xBp, xBz, List.drop_succ_cons, List.drop_zero, xCJ, xBG, xA8, e', decide_false, Bool.not_false, xAO, xBj, xBa, xCi, xJK]

theorem yEA (z z' : Bool) (l l' : List Nat) (hl : l.length < 1099511627776) (hl' : l'.length < 1099511627776) : L.pcall 94 [sw z l, sw z' l'] = some (.bool (decide (l = l'))) := by
  rw [yD0, a94, xAT]
  by_cases h : l.length = l'.length
  · obtain ⟨i', ih⟩ := xMz (z := z) (z' := z') (s4 := .bool false) (H := []) hl h.symm l.length 0 (by omega)
    simp only [Int.natCast_zero, List.drop_zero] at ih
    have e' : (((l.length : Nat) : Int) = ((l'.length : Nat) : Int)) = True := eq_true (by omega)
    by_cases e : l = l'
    · subst e
      rw [if_pos rfl] at ih
      simp (maxSteps := 30000000) (disch := first | assumption | omega | (simp only [List.length_cons, List.length_nil, List.length_append, List.length_set, List.length_replicate, List.length_map, List.length_range, List.length_take, List.length_drop, List.all_cons, List.all_nil, AV.isCell, Bool.and_self, Bool.and_true, xAh, xAb, xAe, xAa] <;> omega) | rfl | decide) only [xAI, List.length_cons, List.length_nil, Nat.zero_add, Nat.reduceAdd, Nat.reduceSub, xB8, List.cons_append, List.nil_append, xAo, xAf, xAc, xAk, xAE, opv, xAp, List.set_cons_succ, List.set_cons_zero, xAi, xAg, xAj, xAd, List.getD_cons_zero, xBr, List.getD_cons_succ, xBf, xAl, xAH, xA8, decide_true, Bool.not_true, xAq, xAn, Bool.false_eq_true, ↓reduceIte, xAG, xAs, xBe, xJK, ih, xA0, xAO, xAx, xAF, xAU, xAr, xAt, xBI, xB2]
    · rw [if_neg e] at ih
      simp (maxSteps := 30000000) (disch := first | assumption | omega | (simp only [List.length_cons, List.length_nil, List.length_append, List.length_set, List.length_replicate, List.length_map, List.length_range, List.length_take, List.length_drop, List.all_cons, List.all_nil, AV.isCell, Bool.and_self, Bool.and_true, xAh, xAb, xAe, xAa] <;> omega) | rfl | decide) only [xAI, List.length_cons, List.length_nil, Nat.zero_add, Nat.reduceAdd, Nat.reduceSub, xB8, List.cons_append, List.nil_append, xAo, xAf, xAc, xAk, xAE, opv, xAp, List.set_cons_succ, List.set_cons_zero, xAi, xAg, xAj, xAd, List.getD_cons_zero, xBr, List.getD_cons_succ, xBf, xAl, xAH, xA8, e', decide_true, Bool.not_true, xAq, xAn, Bool.false_eq_true, ↓reduceIte, xAG, xAs, xBe, xJK, ih, xBj, xBa, xAx, xAF, xAU, xAr, xAt, xBI, xB2, e, decide_false]
  · have e' : (((l.length : Nat) : Int) = ((l'.length : Nat) : Int)) = False := eq_false (by omega)
    have e : ¬ l = l' := by rintro rfl; exact h rfl
    simp (maxSteps := 30000000) (disch := first | assumption | omega | (simp only [List.length_cons, List.length_nil, List.length_append, List.length_set, List.length_replicate, List.length_map, List.length_range, List.length_take, List.length_drop, List.all_cons, List.all_nil, AV.isCell, Bool.and_self, Bool.and_true, xAh, xAb, xAe, xAa] <;> omega) | rfl | decide) only [xAI, List.length_cons, List.length_nil, Nat.zero_add, Nat.reduceAdd, Nat.reduceSub, xB8, List.cons_append, List.nil_append, xAo, xAf, xAc, xAk, xAE, opv, xAp, List.set_cons_succ, List.set_cons_zero, xAi, xAg, xAj, xAd, List.getD_cons_zero, xBr, List.getD_cons_succ, xBf, xAl, xAH, xA8, e', decide_false, Bool.not_false, xAq, xAn, ↓reduceIte, xAO, xBa, xAx, xAF, xAU, xAr, xAt, xBI, xB2, e]

theorem xRP {a b : List Nat} (wa : W a) (wb : W b) (h : ∀ j, mem a j = mem b j) : xDz (· ||| ·) a [] = xDz (· ||| ·) b [] := by
  have hw : ∀ a, W a → W (xDz (· ||| ·) a []) := fun a wa => xRL (fun x y hx hy => xKP hx hy) wa (by intro x hx; simp at hx)
  have xMJ : ∀ i, i < 64 → (xDz (· ||| ·) a []).getD i 0 = (xDz (· ||| ·) b []).getD i 0 := by
    intro i hi
    rw [xJg _ _ _ (by simp) _ hi, xJg _ _ _ (by simp) _ hi]
    simp only [List.getD_nil, Nat.or_zero]
    apply Nat.eq_of_testBit_eq
    intro t
    by_cases ht : t < 64
    · have := h (64 * i + t)
      unfold mem at this
      rw [show (64 * i + t) / 64 = i by omega, show (64 * i + t) % 64 = t by omega] at this
      simpa [show 64 * i + t < 4096 by omega] using this
    · have big : ∀ x, x < 18446744073709551616 → x.testBit t = false := fun x hx => Nat.testBit_lt_two_pow (Nat.lt_of_lt_of_le hx (by
        have : 2 ^ 64 ≤ 2 ^ t := Nat.pow_le_pow_right (by omega) (by omega)
        omega))
      rw [big _ (wa.get i), big _ (wb.get i)]
  have la := xFI (· ||| ·) a []
  have lb := xFI (· ||| ·) b []
  have hlen : (xDz (· ||| ·) a []).length = (xDz (· ||| ·) b []).length := by
    rcases Nat.lt_trichotomy (xDz (· ||| ·) a []).length (xDz (· ||| ·) b []).length with q | q | q
    · exfalso
      have hne : xDz (· ||| ·) b [] ≠ [] := by intro e; rw [e] at q; simp at q
      refine xKf _ b [] hne ?_
      rw [← xMJ _ (by omega)]
      exact xE6 (by omega)
    · exact q
    · exfalso
      have hne : xDz (· ||| ·) a [] ≠ [] := by intro e; rw [e] at q; simp at q
      refine xKf _ a [] hne ?_
      rw [xMJ _ (by omega)]
      exact xE6 (by omega)
  apply List.ext_getElem hlen
  intro i h1 h2
  have := xMJ i (by omega)
  simpa [List.getD, List.getElem?_eq_getElem h1, List.getElem?_eq_getElem h2] using this

theorem xRQ {v u : AV} {S T : Nat → Bool} (hv : HasSet v S) (hu : HasSet u T) : ∃ t, L.pcall 49 [v, u] = some (.bool t) ∧ (t = true ↔ ∀ j, S j = T j) := by
  obtain ⟨za, a, rfl, wa, la, ha⟩ := id hv
  obtain ⟨zb, b, rfl, wb, lb, hb⟩ := id hu
  have wn : W [] := by intro x hx; simp at hx
  obtain ⟨z1, h1⟩ := xJh (za := za) (zb := true) wa wn la (by simp)
  obtain ⟨z2, h2⟩ := xJh (za := zb) (zb := true) wb wn lb (by simp)
  have l1 := xFI (· ||| ·) a []
  have l2 := xFI (· ||| ·) b []
  change L.pcall 117 [sw za a, .sl true 0 []] = _ at h1
  change L.pcall 117 [sw zb b, .sl true 0 []] = _ at h2
  have g : ∀ z l v, L.pcall 117 [sw z l, .sl true 0 []] = some v → (∃ z' l', v = sw z' l') → L.pcall 95 [sw z l] = some v := by
    rintro z l v h ⟨z', l', rfl⟩
    rw [yCS, a95, xAT]
    simp (maxSteps := 30000000) (disch := first | assumption | omega | (simp only [List.length_cons, List.length_nil, List.length_append, List.length_set, List.length_replicate, List.length_map, List.length_range, List.length_take, List.length_drop, List.all_cons, List.all_nil, AV.isCell, Bool.and_self, Bool.and_true, xAh, xAb, xAe, xAa] <;> omega) | rfl | decide) only [xAI, List.length_cons, List.length_nil, Nat.zero_add, Nat.reduceSub, xB8, List.cons_append, List.nil_append, xAo, xAf, xAc, xAk, xAE, opv, xAp, List.set_cons_succ, List.set_cons_zero, xAi, xAg, xAj, xAd, List.getD_cons_zero, xBi, List.map_cons, List.getD_cons_succ, List.map_nil, xAZ, xBI, List.mapM_cons, xBE, List.mapM_nil, Option.pure_def, Option.bind_eq_bind, Option.bind_some, xAY, h, xAX, xCZ, xBU, Bool.false_eq_true, ↓reduceIte, xCz, List.flatMap_cons, xDk, List.flatMap_nil, List.append_nil, List.foldl_nil, xAO, xAx, xAF, xAU, xAr, xAt]
  have g1 := g _ _ _ h1 ⟨_, _, rfl⟩
  have g2 := g _ _ _ h2 ⟨_, _, rfl⟩
  have g3 := yEA z1 z2 (xDz (· ||| ·) a []) (xDz (· ||| ·) b []) (by omega) (by omega)
  refine ⟨decide (xDz (· ||| ·) a [] = xDz (· ||| ·) b []), ?_, ?_⟩
  · rw [yDJ, a49, xAT]
    simp (maxSteps := 30000000) (disch := first | assumption | omega | (simp only [List.length_cons, List.length_nil, List.length_append, List.length_set, List.length_replicate, List.length_map, List.length_range, List.length_take, List.length_drop, List.all_cons, List.all_nil, AV.isCell, Bool.and_self, Bool.and_true, xAh, xAb, xAe, xAa] <;> omega) | rfl | decide) only [xAI, List.length_cons, List.length_nil, Nat.zero_add, Nat.reduceAdd, Nat.reduceSub, xB8, List.cons_append, List.nil_append, xAo, xAf, xAc, xAk, xAE, opv, xAp, List.set_cons_succ, List.set_cons_zero, xAi, xAg, xAj, xAd, List.getD_cons_zero, xBi, List.map_cons, List.getD_cons_succ, List.map_nil, xAZ, xBI, List.mapM_cons, xBE, List.mapM_nil, Option.pure_def, Option.bind_eq_bind, Option.bind_some, xAY, g1, xAX, xCZ, xBU, Bool.false_eq_true, ↓reduceIte, xCz, List.flatMap_cons, xDk, List.flatMap_nil, List.append_nil, List.foldl_nil, g2, g3, xAO, xAx, xAF, xAU, xAr, xAt, xB2]
  · rw [decide_eq_true_eq]
    constructor
    · intro e j
      by_cases hj : j < 4096
      · have q : ∀ l, mem (xDz (· ||| ·) l []) j = mem l j := fun l => by
          rw [xOy (f := (· || ·)) l [] (by simp) (fun x y i => by simp) j hj]
          simp [mem]
        rw [← ha, ← hb, ← q a, ← q b, e]
      · rw [hv.out (j := j) (by omega), hu.out (j := j) (by omega)]
    · intro h
      exact xRP wa wb (fun j => by rw [ha, hb, h])
end Go.Abs.Det

/- Cubes. -/
namespace Go.Abs.Det
open Go Go.Abs
set_option linter.unusedSimpArgs false
set_option linter.unusedVariables false

def xSo (p n x : Nat) : Bool := decide (x &&& p = p) && decide (x &&& n = 0)

theorem xW9 (p n x : Nat) (hp : p < 256) (hn : n < 256) (hx : x < 256) : L.pcall 113 [.agg [.int .u8 (p : Nat), .int .u8 (n : Nat)], .int .u8 (x : Nat)] = some (.bool (xSo p n x)) := by
  have h1 := xVy hx hp
  have h2 := xVy hx hn
  have e1 : (((x &&& p : Nat) : Int) = ((p : Nat) : Int)) = (x &&& p = p) := propext ⟨fun h => by omega, fun h => by omega⟩
  have e2 : (((x &&& n : Nat) : Int) = 0) = (x &&& n = 0) := propext ⟨fun h => by omega, fun h => by omega⟩
  unfold xSo
  rw [yBc, xZ4, xAT]
  by_cases c1 : x &&& p = p <;> by_cases c2 : x &&& n = 0 <;> simp (maxSteps := 30000000) (disch := first | assumption | omega | (simp only [List.length_cons, List.length_nil, List.length_append, List.length_set, List.length_replicate, List.length_map, List.length_range, List.length_take, List.length_drop, List.all_cons, List.all_nil, AV.isCell, Bool.and_self, Bool.and_true, xAh, xAb, xAe, xAa] <;> omega) | rfl | decide) only [xAI, List.length_cons, List.length_nil, Nat.zero_add, Nat.reduceAdd, Nat.reduceSub, xB8, List.cons_append, List.nil_append, xAo, xAf, xAc, xAk, xBn, AV.cells, opv, List.getD_cons_zero, List.all_cons, AV.isCell, List.all_nil, Bool.and_self, ↓reduceIte, xAp, List.set_cons_succ, List.set_cons_zero, xAi, xAE, xAg, xAj, xAd, List.getD_cons_succ, xA1, xAQ, Nat.add_zero, xAl, xAP, xA5, List.getElem?_cons_zero, xAz, List.drop_zero, List.take_succ_cons, List.take_zero, xAV, xAH, xCP, h1, c1, xBK, decide_true, xAJ, xAD, List.drop_succ_cons, List.take_nil, h2, c2, xDg, xA7, xAK, xAO, xAx, xAF, xAU, xAr, xAt, xBI, xB2, e2, decide_false, Bool.and_false, e1, Bool.false_eq_true, xCf, Bool.and_true]

def xJi (v p n : Nat) : Int := if 2 ^ v ≤ p ||| n then 7 else if p &&& n = 0 then 0 else 2

theorem yEB {v : Nat} (hv : v ≤ 6) : IntKind.i64.wrap (1 * 2 ^ min v IntKind.i64.bits) = ((2 ^ v : Nat) : Int) := by
  have : v = 0 ∨ v = 1 ∨ v = 2 ∨ v = 3 ∨ v = 4 ∨ v = 5 ∨ v = 6 := by omega
  rcases this with rfl | rfl | rfl | rfl | rfl | rfl | rfl <;> rfl

theorem xRR (v p n : Nat) (hv : v ≤ 6) (hp : p < 256) (hn : n < 256) : L.pcall 90 [.agg [.int .u8 (p : Nat), .int .u8 (n : Nat)], .int .i64 (v : Nat)] = some (.int .i64 (xJi v p n)) := by
  have h1 := or8 hp hn
  have h2 := xVy hp hn
  have h3 : ¬ ((6 : Int) < (v : Nat)) := by omega
  have hor : p ||| n < 256 := by
    have := Nat.or_lt_two_pow (x := p) (y := n) (n := 8) (by omega) (by omega)
    omega
  have e1 : (((2 ^ v : Nat) : Int) ≤ ((p ||| n : Nat) : Int)) = (2 ^ v ≤ p ||| n) := propext ⟨fun h => by omega, fun h => by omega⟩
  have e2 : (((p &&& n : Nat) : Int) = 0) = (p &&& n = 0) := propext ⟨fun h => by omega, fun h => by omega⟩
  have hsh := yEB hv
  unfold xJi
  rw [yDY, a90, xAT]
  by_cases c1 : 2 ^ v ≤ p ||| n
  · simp (maxSteps := 30000000) (disch := first | assumption | omega | (simp only [List.length_cons, List.length_nil, List.length_append, List.length_set, List.length_replicate, List.length_map, List.length_range, List.length_take, List.length_drop, List.all_cons, List.all_nil, AV.isCell, Bool.and_self, Bool.and_true, xAh, xAb, xAe, xAa] <;> omega) | rfl | decide) only [xAI, List.length_cons, List.length_nil, Nat.zero_add, Nat.reduceAdd, Nat.reduceSub, xB8, List.cons_append, List.nil_append, xAo, xAf, xAc, xAk, xBn, AV.cells, opv, List.getD_cons_zero, List.all_cons, AV.isCell, List.all_nil, Bool.and_self, ↓reduceIte, xAp, List.set_cons_succ, List.set_cons_zero, xAi, xAE, xAg, xAj, xAd, xAs, List.getD_cons_succ, xAH, xAL, xQd, decide_false, xAl, xAJ, xAD, xBP, h3, xA7, xAK, Bool.false_eq_true, xAq, xAn, xBT, List.take_succ_cons, List.take_zero, xBg, xBo, xCs, xA1, xAQ, Nat.add_zero, xBB, xBM, xBA, xB4, xAP, xA5, List.getElem?_cons_zero, xAz, List.drop_zero, xAV, List.drop_succ_cons, List.take_nil, xGc, xHA, h1, xFp, xEb, xC1, xDf, xBp, xBz, xCJ, xBG, xDs, Int.toNat_natCast, hsh, xCj, e1, c1, decide_true, xAO, xBj, xBa, xAx, xAF, xAU, xAr, xAt, xBI, xAW]
  · by_cases c2 : p &&& n = 0 <;> simp (maxSteps := 30000000) (disch := first | assumption | omega | (simp only [List.length_cons, List.length_nil, List.length_append, List.length_set, List.length_replicate, List.length_map, List.length_range, List.length_take, List.length_drop, List.all_cons, List.all_nil, AV.isCell, Bool.and_self, Bool.and_true, xAh, xAb, xAe, xAa] <;> omega) | rfl | decide) only [xAI, List.length_cons, List.length_nil, Nat.zero_add, Nat.reduceAdd, Nat.reduceSub, xB8, List.cons_append, List.nil_append, xAo, xAf, xAc, xAk, xBn, AV.cells, opv, List.getD_cons_zero, List.all_cons, AV.isCell, List.all_nil, Bool.and_self, ↓reduceIte, xAp, List.set_cons_succ, List.set_cons_zero, xAi, xAE, xAg, xAj, xAd, xAs, List.getD_cons_succ, xAH, xAL, xQd, decide_false, xAl, xAJ, xAD, xBP, h3, xA7, xAK, Bool.false_eq_true, xAq, xAn, xBT, List.take_succ_cons, List.take_zero, xBg, xBo, xCs, xA1, xAQ, Nat.add_zero, xBB, xBM, xBA, xB4, xAP, xA5, List.getElem?_cons_zero, xAz, List.drop_zero, xAV, List.drop_succ_cons, List.take_nil, xGc, xHA, h1, xFp, xEb, xC1, xDf, xBp, xBz, xCJ, xBG, xDs, Int.toNat_natCast, hsh, xCj, e1, c1, xCP, h2, c2, xDg, xA8, decide_true, Bool.not_true, xAG, xAu, xAO, xAx, xAF, xAU, xAr, xAt, xBI, xAW, e2, Bool.not_false, xBj, xBa]
end Go.Abs.Det

/- Automata and trees as values; the lists of states; Check. -/
namespace Go.Abs.Det
open Go Go.Abs
set_option linter.unusedSimpArgs false
set_option linter.unusedVariables false

structure Rl where
  l : Int
  r : Int
  t : Int
  p : Nat
  n : Nat
def rl0 : Rl := ⟨0, 0, 0, 0, 0⟩
def xHr (e : Rl) : List AV := [.int .i64 e.l, .int .i64 e.r, .int .i64 e.t, .int .u8 (e.p : Nat), .int .u8 (e.n : Nat)]
def rls (l : List Rl) : List AV := rows xHr l
theorem xAB (l : List Rl) : (rls l).length = l.length * 5 := xJb (enc := xHr) (k := 5) (fun _ => rfl) l
theorem xFJ {l : List Rl} {i : Nat} (h : i < l.length) : List.take 5 (List.drop (i * 5) (rls l)) = [.int .i64 (l.getD i rl0).l, .int .i64 (l.getD i rl0).r, .int .i64 (l.getD i rl0).t, .int .u8 ((l.getD i rl0).p : Nat), .int .u8 ((l.getD i rl0).n : Nat)] := by
  unfold rls
  rw [xJc (enc := xHr) (k := 5) (fun _ => rfl), List.drop_eq_getElem_cons h]
  have : l.getD i rl0 = l[i] := by simp [List.getD, List.getElem?_eq_getElem h]
  rw [this]
  rfl
theorem xGY {l : List Rl} {i : Nat} (h : i < l.length) : l.drop i = l.getD i rl0 :: l.drop (i + 1) := by
  rw [List.drop_eq_getElem_cons h]
  simp [List.getD, List.getElem?_eq_getElem h]
theorem xH3 {l : List Rl} {i : Nat} (h : i < l.length) : l.getD i rl0 ∈ l := by
  rw [List.getD_eq_getElem?_getD, List.getElem?_eq_getElem h]
  exact List.getElem_mem _

structure Aut where
  vars : Int
  states : Int
  z1 : Bool
  st : List Int
  z2 : Bool
  fi : List Int
  z3 : Bool
  rl : List Rl

abbrev Aut.cells (n : Aut) : List AV := [.int .i64 n.vars, .int .i64 n.states, iw n.z1 n.st, iw n.z2 n.fi, .sl n.z3 n.rl.length (rls n.rl)]
abbrev Aut.av (n : Aut) : AV := .agg n.cells

def xOz (s : Int) : Int → List Int → Bool
  | _, [] => true
  | last, q :: t => if q ≤ last ∨ s ≤ q then false else xOz s q t

theorem xOA {s : Int} {z : Bool} {l : List Int} {s4 : AV} {H : xAA} (hl : l.length < 1099511627776) : ∀ d i last, i + d = l.length →
    ∃ (last' : Int) (i' : Nat), L.loop xLA xSF ⟨xJH (.int .i64 s) s4 (.int .i64 last) (iw z l) (.int .i64 (l.length : Nat)) (.int .i64 (i : Nat)), H⟩ =
      some (if xOz s last (l.drop i) = true then (.exit 0, ⟨xJH (.int .i64 s) s4 (.int .i64 last') (iw z l) (.int .i64 (l.length : Nat)) (.int .i64 (l.length : Nat)), H⟩)
        else (.ret, ⟨xJH (.int .i64 s) (.int .i64 8) (.int .i64 last') (iw z l) (.int .i64 (l.length : Nat)) (.int .i64 (i' : Nat)), H⟩))
  | 0, i, last, h => by
    obtain rfl : i = l.length := by omega
    refine ⟨last, 0, ?_⟩
    rw [if_pos (by rw [List.drop_length]; rfl), xNW]
    simp (maxSteps := 30000000) (disch := first | assumption | omega | (simp only [List.length_cons, List.length_nil, List.length_append, List.length_set, List.length_replicate, List.length_map, List.length_range, List.length_take, List.length_drop, List.all_cons, List.all_nil, AV.isCell, Bool.and_self, Bool.and_true, xAh, xAb, xAe, xAa, xAB] <;> omega) | rfl | decide) only [xIf, xAo, xAf, xAc, xAk, xAH, opv, List.getD_cons_succ, List.getD_cons_zero, xAL, Int.lt_irrefl, decide_false, xAl, xAp, List.set_cons_succ, List.set_cons_zero, xAi, xAg, xAj, xAd, xAq, xAn, Bool.false_eq_true, ↓reduceIte, xBy, xBh, xA9, xIg]
  | d + 1, i, last, h => by
    have hlt : (i : Int) < (l.length : Nat) := by omega
    rw [xFG (by omega : i < l.length)]
    by_cases c1 : l.getD i 0 ≤ last
    · refine ⟨last, i, ?_⟩
      have ea : xOz s last (l.getD i 0 :: l.drop (i + 1)) = false := if_pos (.inl c1)
      rw [ea, if_neg (by simp), xNW]
      simp (maxSteps := 30000000) (disch := first | assumption | omega | (simp only [List.length_cons, List.length_nil, List.length_append, List.length_set, List.length_replicate, List.length_map, List.length_range, List.length_take, List.length_drop, List.all_cons, List.all_nil, AV.isCell, Bool.and_self, Bool.and_true, xAh, xAb, xAe, xAa, xAB] <;> omega) | rfl | decide) only [xIf, xAo, xAf, xAc, xAk, xAH, opv, List.getD_cons_succ, List.getD_cons_zero, xAL, hlt, decide_true, xAl, xAp, List.set_cons_succ, List.set_cons_zero, xAi, xAg, xAj, xAd, xAq, xAn, ↓reduceIte, xAG, xAs, xA4, xA6, Int.toNat_natCast, Nat.mul_one, xAP, xBu, xCq, xB7, xDa, xCm, Nat.add_zero, xAV, xAE, xDR, c1, xAJ, xAD, Bool.true_eq_false, xCf, xA7, xAK, xAO, xBa, xBj, xCi, xIg]
    · by_cases c2 : s ≤ l.getD i 0
      · refine ⟨last, i, ?_⟩
        have ea : xOz s last (l.getD i 0 :: l.drop (i + 1)) = false := if_pos (.inr c2)
        rw [ea, if_neg (by simp), xNW]
        simp (maxSteps := 30000000) (disch := first | assumption | omega | (simp only [List.length_cons, List.length_nil, List.length_append, List.length_set, List.length_replicate, List.length_map, List.length_range, List.length_take, List.length_drop, List.all_cons, List.all_nil, AV.isCell, Bool.and_self, Bool.and_true, xAh, xAb, xAe, xAa, xAB] <;> omega) | rfl | decide) only [xIf, xAo, xAf, xAc, xAk, xAH, opv, List.getD_cons_succ, List.getD_cons_zero, xAL, hlt, decide_true, xAl, xAp, List.set_cons_succ, List.set_cons_zero, xAi, xAg, xAj, xAd, xAq, xAn, ↓reduceIte, xAG, xAs, xA4, xA6, Int.toNat_natCast, Nat.mul_one, xAP, xBu, xCq, xB7, xDa, xCm, Nat.add_zero, xAV, xAE, xDR, c1, decide_false, xAJ, xAD, xCj, c2, xA7, xAK, Bool.false_eq_true, xAO, xBa, xBj, xCi, xIg]
      · obtain ⟨last', i', ih⟩ := xOA (s := s) (z := z) (s4 := s4) (H := H) hl d (i + 1) (l.getD i 0) (by omega)
        refine ⟨last', i', ?_⟩
        have ea : xOz s last (l.getD i 0 :: l.drop (i + 1)) = xOz s (l.getD i 0) (l.drop (i + 1)) := if_neg (by omega)
        rw [ea, xNW]
        by_cases e : xOz s (l.getD i 0) (l.drop (i + 1)) = true
        · rw [if_pos e] at ih ⊢
          simp (maxSteps := 30000000) (disch := first | assumption | omega | (simp only [List.length_cons, List.length_nil, List.length_append, List.length_set, List.length_replicate, List.length_map, List.length_range, List.length_take, List.length_drop, List.all_cons, List.all_nil, AV.isCell, Bool.and_self, Bool.and_true, xAh, xAb, xAe, xAa, xAB] <;> omega) | rfl | decide) only [xIf, xAo, xAf, xAc, xAk, xAH, opv, List.getD_cons_succ, List.getD_cons_zero, xAL, hlt, decide_true, xAl, xAp, List.set_cons_succ, List.set_cons_zero, xAi, xAg, xAj, xAd, xAq, xAn, ↓reduceIte, xAG, xAs, xA4, xA6, Int.toNat_natCast, Nat.mul_one, xAP, xBu, xCq, xB7, xDa, xCm, Nat.add_zero, xAV, xAE, xDR, c1, decide_false, xAJ, xAD, xCj, c2, xA7, xAK, Bool.false_eq_true, xAu, xBq, xCE, xDf, xAM, xIg, ih]
        · rw [if_neg e] at ih ⊢
          simp (maxSteps := 30000000) (disch := first | assumption | omega | (simp only [List.length_cons, List.length_nil, List.length_append, List.length_set, List.length_replicate, List.length_map, List.length_range, List.length_take, List.length_drop, List.all_cons, List.all_nil, AV.isCell, Bool.and_self, Bool.and_true, xAh, xAb, xAe, xAa, xAB] <;> omega) | rfl | decide) only [xIf, xAo, xAf, xAc, xAk, xAH, opv, List.getD_cons_succ, List.getD_cons_zero, xAL, hlt, decide_true, xAl, xAp, List.set_cons_succ, List.set_cons_zero, xAi, xAg, xAj, xAd, xAq, xAn, ↓reduceIte, xAG, xAs, xA4, xA6, Int.toNat_natCast, Nat.mul_one, xAP, xBu, xCq, xB7, xDa, xCm, Nat.add_zero, xAV, xAE, xDR, c1, decide_false, xAJ, xAD, xCj, c2, xA7, xAK, Bool.false_eq_true, xAu, xBq, xCE, xDf, xAM, xIg, ih]

def xEN (s : Int) (l : List Int) : Int := if xOz s (-1) l = true then 0 else 8
theorem xU8 (s : Int) (z : Bool) (l : List Int) (hl : l.length < 1099511627776) : L.pcall 89 [iw z l, .int .i64 s] = some (.int .i64 (xEN s l)) := by
  obtain ⟨last', i', h⟩ := xOA (s := s) (z := z) (s4 := .int .i64 0) (H := []) hl l.length 0 (-1) (by omega)
  simp only [Int.natCast_zero, List.drop_zero] at h
  unfold xEN
  rw [yDX, a89, xAT]
  by_cases e : xOz s (-1) l = true
  · rw [if_pos e] at h ⊢
    simp (maxSteps := 30000000) (disch := first | assumption | omega | (simp only [List.length_cons, List.length_nil, List.length_append, List.length_set, List.length_replicate, List.length_map, List.length_range, List.length_take, List.length_drop, List.all_cons, List.all_nil, AV.isCell, Bool.and_self, Bool.and_true, xAh, xAb, xAe, xAa, xAB] <;> omega) | rfl | decide) only [Int.reduceNeg, xAI, List.length_cons, List.length_nil, Nat.zero_add, Nat.reduceAdd, Nat.reduceSub, xB8, List.cons_append, List.nil_append, xAo, xAf, xAc, xAk, xAE, opv, xAp, List.set_cons_succ, List.set_cons_zero, xAi, xAg, xAj, xAd, List.getD_cons_zero, xBr, List.getD_cons_succ, xBf, xAl, xAs, xBe, xIg, h, xA0, ↓reduceIte, xAO, xAx, xAF, xAU, xAr, xAt, xBI, xAW]
  · rw [if_neg e] at h ⊢
    simp (maxSteps := 30000000) (disch := first | assumption | omega | (simp only [List.length_cons, List.length_nil, List.length_append, List.length_set, List.length_replicate, List.length_map, List.length_range, List.length_take, List.length_drop, List.all_cons, List.all_nil, AV.isCell, Bool.and_self, Bool.and_true, xAh, xAb, xAe, xAa, xAB] <;> omega) | rfl | decide) only [Int.reduceNeg, xAI, List.length_cons, List.length_nil, Nat.zero_add, Nat.reduceAdd, Nat.reduceSub, xB8, List.cons_append, List.nil_append, xAo, xAf, xAc, xAk, xAE, opv, xAp, List.set_cons_succ, List.set_cons_zero, xAi, xAg, xAj, xAd, List.getD_cons_zero, xBr, List.getD_cons_succ, xBf, xAl, xAs, xBe, xIg, h, xBj, xBa, xAx, xAF, xAU, xAr, xAt, xBI, xAW]

def xJx (s : Int) (v : Nat) (e : Rl) : Int := if min (min e.l e.r) e.t < 0 ∨ s ≤ max (max e.l e.r) e.t then 8 else xJi v e.p e.n
def xFg (s : Int) (v : Nat) : List Rl → Int
  | [] => 0
  | e :: t => if xJx s v e = 0 then xFg s v t else xJx s v e
theorem xJj {s : Int} {v : Nat} {e : Rl} {t : List Rl} (h : xJx s v e ≠ 0) : xFg s v (e :: t) = xJx s v e := if_neg h
theorem xRS {s : Int} {v : Nat} {e : Rl} {t : List Rl} (h : xJx s v e = 0) : xFg s v (e :: t) = xFg s v t := if_pos h

theorem xPu (n : Aut) {s2 : AV} (h1 : n.st.length < 1099511627776) (h2 : n.fi.length < 1099511627776) :
    ∃ i' : AV, L.loop xJy xPS ⟨xHw (.ptr 0 0) s2 (.agg [iw n.z1 n.st, iw n.z2 n.fi]) (.int .i64 0), [.cells false false n.cells]⟩ =
      some (if xEN n.states n.st = 0 ∧ xEN n.states n.fi = 0 then (.exit 1, ⟨xHw (.ptr 0 0) s2 (.agg [iw n.z1 n.st, iw n.z2 n.fi]) (.int .i64 2), [.cells false false n.cells]⟩)
        else (.ret, ⟨xHw (.ptr 0 0) (.int .i64 8) (.agg [iw n.z1 n.st, iw n.z2 n.fi]) i', [.cells false false n.cells]⟩)) := by
  have e1 := xU8 n.states n.z1 n.st h1
  have e2 := xU8 n.states n.z2 n.fi h2
  have k2 : L.loop xJy xPS ⟨xHw (.ptr 0 0) s2 (.agg [iw n.z1 n.st, iw n.z2 n.fi]) (.int .i64 2), [.cells false false n.cells]⟩ = some (.exit 1, ⟨xHw (.ptr 0 0) s2 (.agg [iw n.z1 n.st, iw n.z2 n.fi]) (.int .i64 2), [.cells false false n.cells]⟩) := by
    rw [xJz]
    simp (maxSteps := 30000000) (disch := first | assumption | omega | (simp only [List.length_cons, List.length_nil, List.length_append, List.length_set, List.length_replicate, List.length_map, List.length_range, List.length_take, List.length_drop, List.all_cons, List.all_nil, AV.isCell, Bool.and_self, Bool.and_true, xAh, xAb, xAe, xAa, xAB] <;> omega) | rfl | decide) only [xHv, xAo, xAf, xAc, xAk, xAH, opv, List.getD_cons_succ, List.getD_cons_zero, xAL, Int.lt_irrefl, decide_false, xAl, xAp, List.set_cons_succ, List.set_cons_zero, xAi, xAg, xAj, xAd, xAq, xAn, Bool.false_eq_true, ↓reduceIte, xBy, xBh, xA9, xGy]
  have g : ∀ l, xEN n.states l = 0 ∨ xEN n.states l = 8 := fun l => by unfold xEN; split <;> simp
  rcases g n.st with c1 | c1
  · rcases g n.fi with c2 | c2
    · refine ⟨.int .i64 2, ?_⟩
      rw [c1] at e1
      rw [c2] at e2
      rw [if_pos ⟨c1, c2⟩, xJz]
      simp (maxSteps := 30000000) (disch := first | assumption | omega | (simp only [List.length_cons, List.length_nil, List.length_append, List.length_set, List.length_replicate, List.length_map, List.length_range, List.length_take, List.length_drop, List.all_cons, List.all_nil, AV.isCell, Bool.and_self, Bool.and_true, xAh, xAb, xAe, xAa, xAB] <;> omega) | rfl | decide) only [xHv, xAo, xAf, xAc, xAk, xAH, opv, List.getD_cons_succ, List.getD_cons_zero, xAL, Int.reduceLT, decide_true, xAl, xAp, List.set_cons_succ, List.set_cons_zero, xAi, xAg, xAj, xAd, xAq, xAn, ↓reduceIte, xAG, xAs, xDy, xCk, Int.toNat_zero, Nat.mul_one, List.drop_zero, List.take_succ_cons, List.take_zero, xGm, xAE, xA1, xAQ, Nat.zero_add, xAP, xA5, List.getElem?_cons_zero, xAz, List.drop_succ_cons, xAV, xBi, List.map_cons, List.map_nil, xAZ, xBI, List.mapM_cons, xBE, xAW, List.mapM_nil, Option.pure_def, Option.bind_eq_bind, Option.bind_some, xAY, e1, xAX, xCZ, xBU, xA8, Bool.not_true, Bool.false_eq_true, xAu, xBq, Int.zero_add, xDf, xAM, xGy]
      rw [xJz]
      simp (maxSteps := 30000000) (disch := first | assumption | omega | (simp only [List.length_cons, List.length_nil, List.length_append, List.length_set, List.length_replicate, List.length_map, List.length_range, List.length_take, List.length_drop, List.all_cons, List.all_nil, AV.isCell, Bool.and_self, Bool.and_true, xAh, xAb, xAe, xAa, xAB] <;> omega) | rfl | decide) only [xHv, xAo, xAf, xAc, xAk, xAH, opv, List.getD_cons_succ, List.getD_cons_zero, xAL, Int.reduceLT, decide_true, xAl, xAp, List.set_cons_succ, List.set_cons_zero, xAi, xAg, xAj, xAd, xAq, xAn, ↓reduceIte, xAG, xAs, xDy, xCk, Int.toNat_one, Nat.mul_one, List.drop_succ_cons, List.drop_zero, List.take_succ_cons, List.take_nil, xGm, xAE, xA1, xAQ, Nat.zero_add, xAP, xA5, List.getElem?_cons_zero, xAz, List.take_zero, xAV, xBi, List.map_cons, List.map_nil, xAZ, xBI, List.mapM_cons, xBE, xAW, List.mapM_nil, Option.pure_def, Option.bind_eq_bind, Option.bind_some, xAY, e2, xAX, xCZ, xBU, xA8, Bool.not_true, Bool.false_eq_true, xAu, xBq, Int.reduceAdd, xDf, xAM, xGy, k2]
    · refine ⟨.int .i64 1, ?_⟩
      rw [c1] at e1
      rw [c2] at e2
      rw [if_neg (by omega), xJz]
      simp (maxSteps := 30000000) (disch := first | assumption | omega | (simp only [List.length_cons, List.length_nil, List.length_append, List.length_set, List.length_replicate, List.length_map, List.length_range, List.length_take, List.length_drop, List.all_cons, List.all_nil, AV.isCell, Bool.and_self, Bool.and_true, xAh, xAb, xAe, xAa, xAB] <;> omega) | rfl | decide) only [xHv, xAo, xAf, xAc, xAk, xAH, opv, List.getD_cons_succ, List.getD_cons_zero, xAL, Int.reduceLT, decide_true, xAl, xAp, List.set_cons_succ, List.set_cons_zero, xAi, xAg, xAj, xAd, xAq, xAn, ↓reduceIte, xAG, xAs, xDy, xCk, Int.toNat_zero, Nat.mul_one, List.drop_zero, List.take_succ_cons, List.take_zero, xGm, xAE, xA1, xAQ, Nat.zero_add, xAP, xA5, List.getElem?_cons_zero, xAz, List.drop_succ_cons, xAV, xBi, List.map_cons, List.map_nil, xAZ, xBI, List.mapM_cons, xBE, xAW, List.mapM_nil, Option.pure_def, Option.bind_eq_bind, Option.bind_some, xAY, e1, xAX, xCZ, xBU, xA8, Bool.not_true, Bool.false_eq_true, xAu, xBq, Int.zero_add, xDf, xAM, xGy]
      rw [xJz]
      simp (maxSteps := 30000000) (disch := first | assumption | omega | (simp only [List.length_cons, List.length_nil, List.length_append, List.length_set, List.length_replicate, List.length_map, List.length_range, List.length_take, List.length_drop, List.all_cons, List.all_nil, AV.isCell, Bool.and_self, Bool.and_true, xAh, xAb, xAe, xAa, xAB] <;> omega) | rfl | decide) only [xHv, xAo, xAf, xAc, xAk, xAH, opv, List.getD_cons_succ, List.getD_cons_zero, xAL, Int.reduceLT, decide_true, xAl, xAp, List.set_cons_succ, List.set_cons_zero, xAi, xAg, xAj, xAd, xAq, xAn, ↓reduceIte, xAG, xAs, xDy, xCk, Int.toNat_one, Nat.mul_one, List.drop_succ_cons, List.drop_zero, List.take_succ_cons, List.take_nil, xGm, xAE, xA1, xAQ, Nat.zero_add, xAP, xA5, List.getElem?_cons_zero, xAz, List.take_zero, xAV, xBi, List.map_cons, List.map_nil, xAZ, xBI, List.mapM_cons, xBE, xAW, List.mapM_nil, Option.pure_def, Option.bind_eq_bind, Option.bind_some, xAY, e2, xAX, xCZ, xBU, xA8, Int.reduceEq, decide_false, Bool.not_false, xAO, xBj, xBa, xCi, xGy]
  · refine ⟨.int .i64 0, ?_⟩
    rw [c1] at e1
    rw [if_neg (by omega), xJz]
    simp (maxSteps := 30000000) (disch := first | assumption | omega | (simp only [List.length_cons, List.length_nil, List.length_append, List.length_set, List.length_replicate, List.length_map, List.length_range, List.length_take, List.length_drop, List.all_cons, List.all_nil, AV.isCell, Bool.and_self, Bool.and_true, xAh, xAb, xAe, xAa, xAB] <;> omega) | rfl | decide) only [xHv, xAo, xAf, xAc, xAk, xAH, opv, List.getD_cons_succ, List.getD_cons_zero, xAL, Int.reduceLT, decide_true, xAl, xAp, List.set_cons_succ, List.set_cons_zero, xAi, xAg, xAj, xAd, xAq, xAn, ↓reduceIte, xAG, xAs, xDy, xCk, Int.toNat_zero, Nat.mul_one, List.drop_zero, List.take_succ_cons, List.take_zero, xGm, xAE, xA1, xAQ, Nat.zero_add, xAP, xA5, List.getElem?_cons_zero, xAz, List.drop_succ_cons, xAV, xBi, List.map_cons, List.map_nil, xAZ, xBI, List.mapM_cons, xBE, xAW, List.mapM_nil, Option.pure_def, Option.bind_eq_bind, Option.bind_some, xAY, e1, xAX, xCZ, xBU, xA8, Int.reduceEq, decide_false, Bool.not_false, xAO, xBj, xBa, xCi, xGy]

set_option maxHeartbeats 4000000 in
theorem xKg {n : Aut} {v : Nat} {s2 : AV} (hv : v ≤ 6) (hnv : n.vars = (v : Nat)) (hl : n.rl.length < 1099511627776) (hb : ∀ e ∈ n.rl, e.p < 256 ∧ e.n < 256) : ∀ d i T, i + d = n.rl.length →
    ∃ (T' : xAA) (i' : Nat), L.loop xK4 xSt ⟨xJA (.ptr 0 0) s2 (.sl n.z3 n.rl.length (rls n.rl)) (.int .i64 (n.rl.length : Nat)) (.int .i64 (i : Nat)), .cells false false n.cells :: T⟩ =
      some (if xFg n.states v (n.rl.drop i) = 0 then (.exit 3, ⟨xJA (.ptr 0 0) s2 (.sl n.z3 n.rl.length (rls n.rl)) (.int .i64 (n.rl.length : Nat)) (.int .i64 (n.rl.length : Nat)), .cells false false n.cells :: T'⟩)
        else (.ret, ⟨xJA (.ptr 0 0) (.int .i64 (xFg n.states v (n.rl.drop i))) (.sl n.z3 n.rl.length (rls n.rl)) (.int .i64 (n.rl.length : Nat)) (.int .i64 (i' : Nat)), .cells false false n.cells :: T'⟩))
  | 0, i, T, h => by
    obtain rfl : i = n.rl.length := by omega
    refine ⟨T, 0, ?_⟩
    rw [if_pos (by rw [List.drop_length]; rfl), xK5]
    simp (maxSteps := 30000000) (disch := first | assumption | omega | (simp only [List.length_cons, List.length_nil, List.length_append, List.length_set, List.length_replicate, List.length_map, List.length_range, List.length_take, List.length_drop, List.all_cons, List.all_nil, AV.isCell, Bool.and_self, Bool.and_true, xAh, xAb, xAe, xAa, xAB] <;> omega) | rfl | decide) only [xHx, xAo, xAf, xAc, xAk, xAH, opv, List.getD_cons_succ, List.getD_cons_zero, xAL, Int.lt_irrefl, decide_false, xAl, xAp, List.set_cons_succ, List.set_cons_zero, xAi, xAg, xAj, xAd, xAq, xAn, Bool.false_eq_true, ↓reduceIte, xBy, xBh, xA9, xHy]
  | d + 1, i, T, h => by
    have hlt : (i : Int) < (n.rl.length : Nat) := by omega
    have hm := hb _ (xH3 (by omega : i < n.rl.length))
    have hcube := xRR v (n.rl.getD i rl0).p (n.rl.getD i rl0).n hv hm.1 hm.2
    rw [xGY (by omega : i < n.rl.length)]
    by_cases c1 : min (min (n.rl.getD i rl0).l (n.rl.getD i rl0).r) (n.rl.getD i rl0).t < 0
    · refine ⟨T ++ [.cells false false (xHr (n.rl.getD i rl0))], i, ?_⟩
      have ee : xJx n.states v (n.rl.getD i rl0) = 8 := if_pos (.inl c1)
      rw [xJj (by rw [ee]; omega), ee, if_neg (by omega), xK5]
      simp (maxSteps := 30000000) (disch := first | assumption | omega | (simp only [List.length_cons, List.length_nil, List.length_append, List.length_set, List.length_replicate, List.length_map, List.length_range, List.length_take, List.length_drop, List.all_cons, List.all_nil, AV.isCell, Bool.and_self, Bool.and_true, xAh, xAb, xAe, xAa, xAB] <;> omega) | rfl | decide) only [xHx, xAo, xAf, xAc, xAk, xAH, opv, List.getD_cons_succ, List.getD_cons_zero, xAL, hlt, decide_true, xAl, xAp, List.set_cons_succ, List.set_cons_zero, xAi, xAg, xAj, xAd, xAq, xAn, ↓reduceIte, xAG, xAs, xA4, xA6, Int.toNat_natCast, xAP, xBu, xFJ, xBs, xBn, AV.cells, List.all_cons, AV.isCell, List.all_nil, Bool.and_self, List.length_cons, List.cons_append, xBb, List.length_nil, Nat.zero_add, Nat.reduceAdd, xBH, List.getElem?_cons_succ, xCY, List.getElem?_cons_zero, xA3, xBd, List.take_zero, List.nil_append, List.drop_succ_cons, List.drop_nil, List.append_nil, xDr, xAR, xBl, xA1, xAQ, Nat.add_zero, xA5, xAz, List.drop_zero, List.take_succ_cons, xAV, xQC, List.map_cons, List.map_nil, xIC, xIB, c1, xAE, xAJ, xAD, Bool.true_eq_false, xCf, xA7, xAK, xAO, xBa, xBj, xCi, xHy, xHr]
    · by_cases c2 : n.states ≤ max (max (n.rl.getD i rl0).l (n.rl.getD i rl0).r) (n.rl.getD i rl0).t
      · refine ⟨T ++ [.cells false false (xHr (n.rl.getD i rl0))], i, ?_⟩
        have ee : xJx n.states v (n.rl.getD i rl0) = 8 := if_pos (.inr c2)
        rw [xJj (by rw [ee]; omega), ee, if_neg (by omega), xK5]
        simp (maxSteps := 30000000) (disch := first | assumption | omega | (simp only [List.length_cons, List.length_nil, List.length_append, List.length_set, List.length_replicate, List.length_map, List.length_range, List.length_take, List.length_drop, List.all_cons, List.all_nil, AV.isCell, Bool.and_self, Bool.and_true, xAh, xAb, xAe, xAa, xAB] <;> omega) | rfl | decide) only [xHx, xAo, xAf, xAc, xAk, xAH, opv, List.getD_cons_succ, List.getD_cons_zero, xAL, hlt, decide_true, xAl, xAp, List.set_cons_succ, List.set_cons_zero, xAi, xAg, xAj, xAd, xAq, xAn, ↓reduceIte, xAG, xAs, xA4, xA6, Int.toNat_natCast, xAP, xBu, xFJ, xBs, xBn, AV.cells, List.all_cons, AV.isCell, List.all_nil, Bool.and_self, List.length_cons, List.cons_append, xBb, List.length_nil, Nat.zero_add, Nat.reduceAdd, xBH, List.getElem?_cons_succ, xCY, List.getElem?_cons_zero, xA3, xBd, List.take_zero, List.nil_append, List.drop_succ_cons, List.drop_nil, List.append_nil, xDr, xAR, xBl, xA1, xAQ, Nat.add_zero, xA5, xAz, List.drop_zero, List.take_succ_cons, xAV, xQC, List.map_cons, List.map_nil, xIC, xIB, c1, decide_false, xAE, xAJ, xAD, xKl, xCj, c2, xA7, xAK, Bool.false_eq_true, xAO, xBa, xBj, xCi, xHy, xHr]
      · have ee : xJx n.states v (n.rl.getD i rl0) = xJi v (n.rl.getD i rl0).p (n.rl.getD i rl0).n := if_neg (by omega)
        by_cases c3 : xJi v (n.rl.getD i rl0).p (n.rl.getD i rl0).n = 0
        · obtain ⟨T', i', ih⟩ := xKg (s2 := s2) hv hnv hl hb d (i + 1) (T ++ [.cells false false (xHr (n.rl.getD i rl0))]) (by omega)
          refine ⟨T', i', ?_⟩
          rw [c3] at hcube
          rw [xRS (by rw [ee]; exact c3), xK5]
          simp only [xHr] at ih
          by_cases e : xFg n.states v (n.rl.drop (i + 1)) = 0
          · rw [if_pos e] at ih ⊢
            simp (maxSteps := 30000000) (disch := first | assumption | omega | (simp only [List.length_cons, List.length_nil, List.length_append, List.length_set, List.length_replicate, List.length_map, List.length_range, List.length_take, List.length_drop, List.all_cons, List.all_nil, AV.isCell, Bool.and_self, Bool.and_true, xAh, xAb, xAe, xAa, xAB] <;> omega) | rfl | decide) only [xHx, xAo, xAf, xAc, xAk, xAH, opv, List.getD_cons_succ, List.getD_cons_zero, xAL, hlt, decide_true, xAl, xAp, List.set_cons_succ, List.set_cons_zero, xAi, xAg, xAj, xAd, xAq, xAn, ↓reduceIte, xAG, xAs, xA4, xA6, Int.toNat_natCast, xAP, xBu, xFJ, xBs, xBn, AV.cells, List.all_cons, AV.isCell, List.all_nil, Bool.and_self, List.length_cons, List.cons_append, xBb, List.length_nil, Nat.zero_add, Nat.reduceAdd, xBH, List.getElem?_cons_succ, xCY, List.getElem?_cons_zero, xA3, xBd, List.take_zero, List.nil_append, List.drop_succ_cons, List.drop_nil, List.append_nil, xDr, xAR, xBl, xA1, xAQ, Nat.add_zero, xA5, xAz, List.drop_zero, List.take_succ_cons, xAV, xQC, List.map_cons, List.map_nil, xIC, xIB, c1, decide_false, xAE, xAJ, xAD, xKl, xCj, c2, xA7, xAK, Bool.false_eq_true, List.take_nil, xCB, beq_self_eq_true, xCp, Nat.reduceLeDiff, and_self, Nat.le_refl, Option.map_some, hnv, xBi, xAZ, xBI, List.mapM_cons, xBQ, xAW, List.mapM_nil, Option.pure_def, Option.bind_eq_bind, Option.bind_some, xAY, hcube, xAX, xCZ, xBU, xA8, Bool.not_true, xAu, xBq, xCE, xDf, xAM, xHy, ih]
          · rw [if_neg e] at ih ⊢
            simp (maxSteps := 30000000) (disch := first | assumption | omega | (simp only [List.length_cons, List.length_nil, List.length_append, List.length_set, List.length_replicate, List.length_map, List.length_range, List.length_take, List.length_drop, List.all_cons, List.all_nil, AV.isCell, Bool.and_self, Bool.and_true, xAh, xAb, xAe, xAa, xAB] <;> omega) | rfl | decide) only [xHx, xAo, xAf, xAc, xAk, xAH, opv, List.getD_cons_succ, List.getD_cons_zero, xAL, hlt, decide_true, xAl, xAp, List.set_cons_succ, List.set_cons_zero, xAi, xAg, xAj, xAd, xAq, xAn, ↓reduceIte, xAG, xAs, xA4, xA6, Int.toNat_natCast, xAP, xBu, xFJ, xBs, xBn, AV.cells, List.all_cons, AV.isCell, List.all_nil, Bool.and_self, List.length_cons, List.cons_append, xBb, List.length_nil, Nat.zero_add, Nat.reduceAdd, xBH, List.getElem?_cons_succ, xCY, List.getElem?_cons_zero, xA3, xBd, List.take_zero, List.nil_append, List.drop_succ_cons, List.drop_nil, List.append_nil, xDr, xAR, xBl, xA1, xAQ, Nat.add_zero, xA5, xAz, List.drop_zero, List.take_succ_cons, xAV, xQC, List.map_cons, List.map_nil, xIC, xIB, c1, decide_false, xAE, xAJ, xAD, xKl, xCj, c2, xA7, xAK, Bool.false_eq_true, List.take_nil, xCB, beq_self_eq_true, xCp, Nat.reduceLeDiff, and_self, Nat.le_refl, Option.map_some, hnv, xBi, xAZ, xBI, List.mapM_cons, xBQ, xAW, List.mapM_nil, Option.pure_def, Option.bind_eq_bind, Option.bind_some, xAY, hcube, xAX, xCZ, xBU, xA8, Bool.not_true, xAu, xBq, xCE, xDf, xAM, xHy, ih]
        · refine ⟨T ++ [.cells false false (xHr (n.rl.getD i rl0))], i, ?_⟩
          rw [xJj (by rw [ee]; exact c3), ee, if_neg c3, xK5]
          simp (maxSteps := 30000000) (disch := first | assumption | omega | (simp only [List.length_cons, List.length_nil, List.length_append, List.length_set, List.length_replicate, List.length_map, List.length_range, List.length_take, List.length_drop, List.all_cons, List.all_nil, AV.isCell, Bool.and_self, Bool.and_true, xAh, xAb, xAe, xAa, xAB] <;> omega) | rfl | decide) only [xHx, xAo, xAf, xAc, xAk, xAH, opv, List.getD_cons_succ, List.getD_cons_zero, xAL, hlt, decide_true, xAl, xAp, List.set_cons_succ, List.set_cons_zero, xAi, xAg, xAj, xAd, xAq, xAn, ↓reduceIte, xAG, xAs, xA4, xA6, Int.toNat_natCast, xAP, xBu, xFJ, xBs, xBn, AV.cells, List.all_cons, AV.isCell, List.all_nil, Bool.and_self, List.length_cons, List.cons_append, xBb, List.length_nil, Nat.zero_add, Nat.reduceAdd, xBH, List.getElem?_cons_succ, xCY, List.getElem?_cons_zero, xA3, xBd, List.take_zero, List.nil_append, List.drop_succ_cons, List.drop_nil, List.append_nil, xDr, xAR, xBl, xA1, xAQ, Nat.add_zero, xA5, xAz, List.drop_zero, List.take_succ_cons, xAV, xQC, List.map_cons, List.map_nil, xIC, xIB, c1, decide_false, xAE, xAJ, xAD, xKl, xCj, c2, xA7, xAK, Bool.false_eq_true, List.take_nil, xCB, beq_self_eq_true, xCp, Nat.reduceLeDiff, and_self, Nat.le_refl, Option.map_some, hnv, xBi, xAZ, xBI, List.mapM_cons, xBQ, xAW, List.mapM_nil, Option.pure_def, Option.bind_eq_bind, Option.bind_some, xAY, hcube, xAX, xCZ, xBU, xA8, c3, Bool.not_false, xAO, xBj, xBa, xCi, xHy, xHr]

def xMK (n : Aut) : Int :=
  if n.vars < 0 ∨ 3 < n.vars then 7 else if n.states < 0 then 1 else if 64 < n.states ∨ 512 < n.rl.length then 4
  else if xEN n.states n.st = 0 ∧ xEN n.states n.fi = 0 then xFg n.states n.vars.toNat n.rl else 8

set_option maxHeartbeats 4000000 in
theorem xFY (n : Aut) (h1 : n.st.length < 1099511627776) (h2 : n.fi.length < 1099511627776) (h3 : n.rl.length < 1099511627776) (hb : ∀ e ∈ n.rl, e.p < 256 ∧ e.n < 256) : L.pcall 45 [n.av] = some (.int .i64 (xMK n)) := by
  have e5 : ((512 : Int) < (n.rl.length : Nat)) = (512 < n.rl.length) := propext ⟨fun h => by omega, fun h => by omega⟩
  unfold xMK
  rw [yDG, a45, xAT]
  by_cases c1 : n.vars < 0
  · rw [if_pos (.inl c1)]
    simp (maxSteps := 30000000) (disch := first | assumption | omega | (simp only [List.length_cons, List.length_nil, List.length_append, List.length_set, List.length_replicate, List.length_map, List.length_range, List.length_take, List.length_drop, List.all_cons, List.all_nil, AV.isCell, Bool.and_self, Bool.and_true, xAh, xAb, xAe, xAa, xAB] <;> omega) | rfl | decide) only [xAI, List.length_cons, List.length_nil, Nat.zero_add, Nat.reduceSub, xB8, List.cons_append, List.nil_append, xAo, xAf, xAc, xAk, xBn, AV.cells, opv, List.getD_cons_zero, List.all_cons, AV.isCell, List.all_nil, Bool.and_self, ↓reduceIte, xAp, List.set_cons_succ, List.set_cons_zero, xAi, xAE, xAg, xAj, xAd, xAs, xA1, List.getD_cons_succ, xAQ, Nat.add_zero, xAl, xAP, xA5, List.getElem?_cons_zero, xAz, List.drop_zero, List.take_succ_cons, List.take_zero, xAV, xAH, xAL, c1, decide_true, xAJ, xAD, Bool.true_eq_false, xCf, xA7, xAK, xAq, xAn, xAO, xBj, xBa, xAx, xAF, xAU, xAr, xAt, xBI, xAW]
  · by_cases c2 : 3 < n.vars
    · rw [if_pos (.inr c2)]
      simp (maxSteps := 30000000) (disch := first | assumption | omega | (simp only [List.length_cons, List.length_nil, List.length_append, List.length_set, List.length_replicate, List.length_map, List.length_range, List.length_take, List.length_drop, List.all_cons, List.all_nil, AV.isCell, Bool.and_self, Bool.and_true, xAh, xAb, xAe, xAa, xAB] <;> omega) | rfl | decide) only [xAI, List.length_cons, List.length_nil, Nat.zero_add, Nat.reduceSub, xB8, List.cons_append, List.nil_append, xAo, xAf, xAc, xAk, xBn, AV.cells, opv, List.getD_cons_zero, List.all_cons, AV.isCell, List.all_nil, Bool.and_self, ↓reduceIte, xAp, List.set_cons_succ, List.set_cons_zero, xAi, xAE, xAg, xAj, xAd, xAs, xA1, List.getD_cons_succ, xAQ, Nat.add_zero, xAl, xAP, xA5, List.getElem?_cons_zero, xAz, List.drop_zero, List.take_succ_cons, List.take_zero, xAV, xAH, xAL, c1, decide_false, xAJ, xAD, xBP, c2, decide_true, xA7, xAK, Bool.false_eq_true, xAq, xAn, xAO, xBj, xBa, xAx, xAF, xAU, xAr, xAt, xBI, xAW]
    · rw [if_neg (by omega)]
      by_cases c3 : n.states < 0
      · rw [if_pos c3]
        simp (maxSteps := 30000000) (disch := first | assumption | omega | (simp only [List.length_cons, List.length_nil, List.length_append, List.length_set, List.length_replicate, List.length_map, List.length_range, List.length_take, List.length_drop, List.all_cons, List.all_nil, AV.isCell, Bool.and_self, Bool.and_true, xAh, xAb, xAe, xAa, xAB] <;> omega) | rfl | decide) only [xAI, List.length_cons, List.length_nil, Nat.zero_add, Nat.reduceSub, xB8, List.cons_append, List.nil_append, xAo, xAf, xAc, xAk, xBn, AV.cells, opv, List.getD_cons_zero, List.all_cons, AV.isCell, List.all_nil, Bool.and_self, ↓reduceIte, xAp, List.set_cons_succ, List.set_cons_zero, xAi, xAE, xAg, xAj, xAd, xAs, xA1, List.getD_cons_succ, xAQ, Nat.add_zero, xAl, xAP, xA5, List.getElem?_cons_zero, xAz, List.drop_zero, List.take_succ_cons, List.take_zero, xAV, xAH, xAL, c1, decide_false, xAJ, xAD, xBP, c2, xA7, xAK, Bool.false_eq_true, xAq, xAn, List.drop_succ_cons, c3, decide_true, xAO, xBj, xBa, xAx, xAF, xAU, xAr, xAt, xBI, xAW]
      · rw [if_neg c3]
        by_cases c4 : 64 < n.states
        · rw [if_pos (.inl c4)]
          simp (maxSteps := 30000000) (disch := first | assumption | omega | (simp only [List.length_cons, List.length_nil, List.length_append, List.length_set, List.length_replicate, List.length_map, List.length_range, List.length_take, List.length_drop, List.all_cons, List.all_nil, AV.isCell, Bool.and_self, Bool.and_true, xAh, xAb, xAe, xAa, xAB] <;> omega) | rfl | decide) only [xAI, List.length_cons, List.length_nil, Nat.zero_add, Nat.reduceSub, xB8, List.cons_append, List.nil_append, xAo, xAf, xAc, xAk, xBn, AV.cells, opv, List.getD_cons_zero, List.all_cons, AV.isCell, List.all_nil, Bool.and_self, ↓reduceIte, xAp, List.set_cons_succ, List.set_cons_zero, xAi, xAE, xAg, xAj, xAd, xAs, xA1, List.getD_cons_succ, xAQ, Nat.add_zero, xAl, xAP, xA5, List.getElem?_cons_zero, xAz, List.drop_zero, List.take_succ_cons, List.take_zero, xAV, xAH, xAL, c1, decide_false, xAJ, xAD, xBP, c2, xA7, xAK, Bool.false_eq_true, xAq, xAn, List.drop_succ_cons, c3, c4, decide_true, Bool.true_eq_false, xCf, xAO, xBj, xBa, xAx, xAF, xAU, xAr, xAt, xBI, xAW]
        · by_cases c5 : 512 < n.rl.length
          · rw [if_pos (.inr c5)]
            simp (maxSteps := 30000000) (disch := first | assumption | omega | (simp only [List.length_cons, List.length_nil, List.length_append, List.length_set, List.length_replicate, List.length_map, List.length_range, List.length_take, List.length_drop, List.all_cons, List.all_nil, AV.isCell, Bool.and_self, Bool.and_true, xAh, xAb, xAe, xAa, xAB] <;> omega) | rfl | decide) only [xAI, List.length_cons, List.length_nil, Nat.zero_add, Nat.reduceSub, xB8, List.cons_append, List.nil_append, xAo, xAf, xAc, xAk, xBn, AV.cells, opv, List.getD_cons_zero, List.all_cons, AV.isCell, List.all_nil, Bool.and_self, ↓reduceIte, xAp, List.set_cons_succ, List.set_cons_zero, xAi, xAE, xAg, xAj, xAd, xAs, xA1, List.getD_cons_succ, xAQ, Nat.add_zero, xAl, xAP, xA5, List.getElem?_cons_zero, xAz, List.drop_zero, List.take_succ_cons, List.take_zero, xAV, xAH, xAL, c1, decide_false, xAJ, xAD, xBP, c2, xA7, xAK, Bool.false_eq_true, xAq, xAn, List.drop_succ_cons, c3, c4, List.take_nil, xBr, xBf, e5, c5, decide_true, xAO, xBj, xBa, xAx, xAF, xAU, xAr, xAt, xBI, xAW]
          · rw [if_neg (by omega)]
            obtain ⟨i', g⟩ := xPu n (s2 := .int .i64 0) h1 h2
            by_cases c6 : xEN n.states n.st = 0 ∧ xEN n.states n.fi = 0
            · rw [if_pos c6] at g ⊢
              obtain ⟨v, hv⟩ : ∃ v : Nat, n.vars = (v : Nat) := ⟨n.vars.toNat, by omega⟩
              have htv : n.vars.toNat = v := by omega
              obtain ⟨T', i2, g2⟩ := xKg (n := n) (v := v) (s2 := .int .i64 0) (by omega) hv h3 hb n.rl.length 0 [] (by omega)
              simp only [Int.natCast_zero, List.drop_zero] at g2
              rw [htv]
              by_cases c7 : xFg n.states v n.rl = 0
              · rw [if_pos c7] at g2
                rw [c7]
                simp (maxSteps := 30000000) (disch := first | assumption | omega | (simp only [List.length_cons, List.length_nil, List.length_append, List.length_set, List.length_replicate, List.length_map, List.length_range, List.length_take, List.length_drop, List.all_cons, List.all_nil, AV.isCell, Bool.and_self, Bool.and_true, xAh, xAb, xAe, xAa, xAB] <;> omega) | rfl | decide) only [xAI, List.length_cons, List.length_nil, Nat.zero_add, Nat.reduceSub, xB8, List.cons_append, List.nil_append, xAo, xAf, xAc, xAk, xBn, AV.cells, opv, List.getD_cons_zero, List.all_cons, AV.isCell, List.all_nil, Bool.and_self, ↓reduceIte, xAp, List.set_cons_succ, List.set_cons_zero, xAi, xAE, xAg, xAj, xAd, xAs, xA1, List.getD_cons_succ, xAQ, Nat.add_zero, xAl, xAP, xA5, List.getElem?_cons_zero, xAz, List.drop_zero, List.take_succ_cons, List.take_zero, xAV, xAH, xAL, c1, decide_false, xAJ, xAD, xBP, c2, xA7, xAK, Bool.false_eq_true, xAq, xAn, List.drop_succ_cons, c3, c4, List.take_nil, xBr, xBf, e5, c5, xAG, xAu, xCB, beq_self_eq_true, List.map_cons, List.map_nil, xCp, Nat.reduceAdd, Nat.reduceLeDiff, and_self, xBd, Nat.le_refl, List.drop_nil, List.append_nil, Option.map_some, xBe, xGy, g, xA0, xHy, g2, xAO, xAx, xAF, xAU, xAr, xAt, xBI, xAW]
              · rw [if_neg c7] at g2
                simp (maxSteps := 30000000) (disch := first | assumption | omega | (simp only [List.length_cons, List.length_nil, List.length_append, List.length_set, List.length_replicate, List.length_map, List.length_range, List.length_take, List.length_drop, List.all_cons, List.all_nil, AV.isCell, Bool.and_self, Bool.and_true, xAh, xAb, xAe, xAa, xAB] <;> omega) | rfl | decide) only [xAI, List.length_cons, List.length_nil, Nat.zero_add, Nat.reduceSub, xB8, List.cons_append, List.nil_append, xAo, xAf, xAc, xAk, xBn, AV.cells, opv, List.getD_cons_zero, List.all_cons, AV.isCell, List.all_nil, Bool.and_self, ↓reduceIte, xAp, List.set_cons_succ, List.set_cons_zero, xAi, xAE, xAg, xAj, xAd, xAs, xA1, List.getD_cons_succ, xAQ, Nat.add_zero, xAl, xAP, xA5, List.getElem?_cons_zero, xAz, List.drop_zero, List.take_succ_cons, List.take_zero, xAV, xAH, xAL, c1, decide_false, xAJ, xAD, xBP, c2, xA7, xAK, Bool.false_eq_true, xAq, xAn, List.drop_succ_cons, c3, c4, List.take_nil, xBr, xBf, e5, c5, xAG, xAu, xCB, beq_self_eq_true, List.map_cons, List.map_nil, xCp, Nat.reduceAdd, Nat.reduceLeDiff, and_self, xBd, Nat.le_refl, List.drop_nil, List.append_nil, Option.map_some, xBe, xGy, g, xA0, xHy, g2, xBj, xBa, xAx, xAF, xAU, xAr, xAt, xBI, xAW]
            · rw [if_neg c6] at g ⊢
              simp (maxSteps := 30000000) (disch := first | assumption | omega | (simp only [List.length_cons, List.length_nil, List.length_append, List.length_set, List.length_replicate, List.length_map, List.length_range, List.length_take, List.length_drop, List.all_cons, List.all_nil, AV.isCell, Bool.and_self, Bool.and_true, xAh, xAb, xAe, xAa, xAB] <;> omega) | rfl | decide) only [xAI, List.length_cons, List.length_nil, Nat.zero_add, Nat.reduceSub, xB8, List.cons_append, List.nil_append, xAo, xAf, xAc, xAk, xBn, AV.cells, opv, List.getD_cons_zero, List.all_cons, AV.isCell, List.all_nil, Bool.and_self, ↓reduceIte, xAp, List.set_cons_succ, List.set_cons_zero, xAi, xAE, xAg, xAj, xAd, xAs, xA1, List.getD_cons_succ, xAQ, Nat.add_zero, xAl, xAP, xA5, List.getElem?_cons_zero, xAz, List.drop_zero, List.take_succ_cons, List.take_zero, xAV, xAH, xAL, c1, decide_false, xAJ, xAD, xBP, c2, xA7, xAK, Bool.false_eq_true, xAq, xAn, List.drop_succ_cons, c3, c4, List.take_nil, xBr, xBf, e5, c5, xAG, xAu, xCB, beq_self_eq_true, List.map_cons, List.map_nil, xCp, Nat.reduceAdd, Nat.reduceLeDiff, and_self, xBd, Nat.le_refl, List.drop_nil, List.append_nil, Option.map_some, xBe, xGy, g, xBj, xBa, xAx, xAF, xAU, xAr, xAt, xBI, xAW]
end Go.Abs.Det

/- The tree's Check, words of states. -/
namespace Go.Abs.Det
open Go Go.Abs
set_option linter.unusedSimpArgs false
set_option linter.unusedVariables false

theorem xRT (z : Bool) (t : List Lf) (v : Nat) (hv : v ≤ 3) (hl : t.length < 1099511627776) (hx : ∀ e ∈ t, e.x < 256) :
    ∃ e : Int, L.pcall 99 [tw z t, .int .i64 (v : Nat)] = some (.int .i64 e) ∧ (e = 0 → (∀ e ∈ t, e.x >>> v = 0) ∧ ∃ T, xEj t T) := by
  have hv3 : ¬ ((3 : Int) < (v : Nat)) := by omega
  have e31 : ((31 : Int) < (t.length : Nat)) = (31 < t.length) := propext ⟨fun h => by omega, fun h => by omega⟩
  by_cases c : 31 < t.length
  · refine ⟨4, ?_, fun h => by omega⟩
    rw [xUB, a99, xAT]
    simp (maxSteps := 30000000) (disch := first | assumption | omega | (simp only [List.length_cons, List.length_nil, List.length_append, List.length_set, List.length_replicate, List.length_map, List.length_range, List.length_take, List.length_drop, List.all_cons, List.all_nil, AV.isCell, Bool.and_self, Bool.and_true, xAh, xAb, xAe, xAa, xAC] <;> omega) | rfl | decide) only [xAI, List.length_cons, List.length_nil, Nat.zero_add, Nat.reduceAdd, Nat.reduceSub, xB8, List.cons_append, List.nil_append, xAo, xAf, xAc, xAk, xAE, opv, xAp, List.set_cons_succ, List.set_cons_zero, xAi, xAg, xAj, xAd, xAs, List.getD_cons_succ, List.getD_cons_zero, xAH, xAL, xQd, decide_false, xAl, xAJ, xAD, ↓reduceIte, xBP, hv3, xA7, xAK, Bool.false_eq_true, xAq, xAn, xBr, xBf, e31, c, decide_true, xAO, xBj, xBa, xAx, xAF, xAU, xAr, xAt, xBI, xAW]
  · obtain ⟨H', i', g⟩ := xKM (z := z) (s4 := .int .i64 0) hv hl hx t.length 0 [] (by omega)
    simp only [Int.natCast_zero, List.drop_zero] at g
    rcases g with ⟨g1, g⟩ | ⟨g1, g⟩
    · rcases xMs z t hl with q | ⟨q, q2⟩
      · refine ⟨2, ?_, fun h => by omega⟩
        rw [xUB, a99, xAT]
        simp (maxSteps := 30000000) (disch := first | assumption | omega | (simp only [List.length_cons, List.length_nil, List.length_append, List.length_set, List.length_replicate, List.length_map, List.length_range, List.length_take, List.length_drop, List.all_cons, List.all_nil, AV.isCell, Bool.and_self, Bool.and_true, xAh, xAb, xAe, xAa, xAC] <;> omega) | rfl | decide) only [xAI, List.length_cons, List.length_nil, Nat.zero_add, Nat.reduceAdd, Nat.reduceSub, xB8, List.cons_append, List.nil_append, xAo, xAf, xAc, xAk, xAE, opv, xAp, List.set_cons_succ, List.set_cons_zero, xAi, xAg, xAj, xAd, xAs, List.getD_cons_succ, List.getD_cons_zero, xAH, xAL, xQd, decide_false, xAl, xAJ, xAD, ↓reduceIte, xBP, hv3, xA7, xAK, Bool.false_eq_true, xAq, xAn, xBr, xBf, e31, c, xAG, xAu, xBe, xF9, g, xA0, xBi, List.map_cons, List.map_nil, xAZ, xBI, List.mapM_cons, xBE, List.mapM_nil, Option.pure_def, Option.bind_eq_bind, Option.bind_some, xAY, q, xAX, xCZ, xBU, xGl, xEa, Bool.not_false, xAO, xBa, xAx, xAF, xAU, xAr, xAt, xAW]
      · refine ⟨0, ?_, fun h => ⟨g1, q2⟩⟩
        rw [xUB, a99, xAT]
        simp (maxSteps := 30000000) (disch := first | assumption | omega | (simp only [List.length_cons, List.length_nil, List.length_append, List.length_set, List.length_replicate, List.length_map, List.length_range, List.length_take, List.length_drop, List.all_cons, List.all_nil, AV.isCell, Bool.and_self, Bool.and_true, xAh, xAb, xAe, xAa, xAC] <;> omega) | rfl | decide) only [xAI, List.length_cons, List.length_nil, Nat.zero_add, Nat.reduceAdd, Nat.reduceSub, xB8, List.cons_append, List.nil_append, xAo, xAf, xAc, xAk, xAE, opv, xAp, List.set_cons_succ, List.set_cons_zero, xAi, xAg, xAj, xAd, xAs, List.getD_cons_succ, List.getD_cons_zero, xAH, xAL, xQd, decide_false, xAl, xAJ, xAD, ↓reduceIte, xBP, hv3, xA7, xAK, Bool.false_eq_true, xAq, xAn, xBr, xBf, e31, c, xAG, xAu, xBe, xF9, g, xA0, xBi, List.map_cons, List.map_nil, xAZ, xBI, List.mapM_cons, xBE, List.mapM_nil, Option.pure_def, Option.bind_eq_bind, Option.bind_some, xAY, q, xAX, xCZ, xBU, xGl, xEa, Bool.not_true, xAO, xAx, xAF, xAU, xAr, xAt, xAW]
    · refine ⟨1, ?_, fun h => by omega⟩
      rw [xUB, a99, xAT]
      simp (maxSteps := 30000000) (disch := first | assumption | omega | (simp only [List.length_cons, List.length_nil, List.length_append, List.length_set, List.length_replicate, List.length_map, List.length_range, List.length_take, List.length_drop, List.all_cons, List.all_nil, AV.isCell, Bool.and_self, Bool.and_true, xAh, xAb, xAe, xAa, xAC] <;> omega) | rfl | decide) only [xAI, List.length_cons, List.length_nil, Nat.zero_add, Nat.reduceAdd, Nat.reduceSub, xB8, List.cons_append, List.nil_append, xAo, xAf, xAc, xAk, xAE, opv, xAp, List.set_cons_succ, List.set_cons_zero, xAi, xAg, xAj, xAd, xAs, List.getD_cons_succ, List.getD_cons_zero, xAH, xAL, xQd, decide_false, xAl, xAJ, xAD, ↓reduceIte, xBP, hv3, xA7, xAK, Bool.false_eq_true, xAq, xAn, xBr, xBf, e31, c, xAG, xAu, xBe, xF9, g, xBj, xBa, xAx, xAF, xAU, xAr, xAt, xBI, xAW]

def xDi (a : Nat) : List Int → Nat
  | [] => a
  | q :: l => xDi (a ||| 2 ^ q.toNat) l

theorem xRU {v : Nat} (hv : v < 64) : IntKind.u64.wrap (1 * 2 ^ min v IntKind.u64.bits) = ((2 ^ v : Nat) : Int) := by
  have e1 : min v IntKind.u64.bits = v := Nat.min_eq_left (by show v ≤ 64; omega)
  have e2 : (2 : Nat) ^ v < 2 ^ 64 := Nat.pow_lt_pow_right (by omega) hv
  rw [e1, Int.one_mul, show (2 : Int) ^ v = ((2 ^ v : Nat) : Int) from by rw [Int.natCast_pow]; rfl]
  exact xTM (by omega)
theorem xNo {v : Nat} (hv : v < 64) : 2 ^ v < 18446744073709551616 := Nat.pow_lt_pow_right (m := v) (n := 64) (a := 2) (by omega) hv

theorem xMA {z : Bool} {l : List Int} {H : xAA} (hl : l.length < 1099511627776) (hq : ∀ q ∈ l, 0 ≤ q ∧ q < 64) : ∀ d i a, i + d = l.length → a < 18446744073709551616 →
    L.loop xLy xSE ⟨xLz (.int .u64 (a : Nat)) (iw z l) (.int .i64 (l.length : Nat)) (.int .i64 (i : Nat)), H⟩ = some (.exit 0, ⟨xLz (.int .u64 (xDi a (l.drop i) : Nat)) (iw z l) (.int .i64 (l.length : Nat)) (.int .i64 (l.length : Nat)), H⟩)
  | 0, i, a, h, ha => by
    obtain rfl : i = l.length := by omega
    rw [List.drop_length, xDi, xUA]
    simp (maxSteps := 30000000) (disch := first | assumption | omega | (simp only [List.length_cons, List.length_nil, List.length_append, List.length_set, List.length_replicate, List.length_map, List.length_range, List.length_take, List.length_drop, List.all_cons, List.all_nil, AV.isCell, Bool.and_self, Bool.and_true, xAh, xAb, xAe, xAa, xAC] <;> omega) | rfl | decide) only [xNV, xAo, xAf, xAc, xAk, xAH, opv, List.getD_cons_succ, List.getD_cons_zero, xAL, Int.lt_irrefl, decide_false, xAl, xAp, List.set_cons_succ, List.set_cons_zero, xAi, xAg, xAj, xAd, xAq, xAn, Bool.false_eq_true, ↓reduceIte, xBy, xBh, xA9, xQa]
  | d + 1, i, a, h, ha => by
    have hlt : (i : Int) < (l.length : Nat) := by omega
    have hm := hq (l.getD i 0) (by rw [List.getD_eq_getElem?_getD, List.getElem?_eq_getElem (by omega : i < l.length)]; exact List.getElem_mem _)
    have hs := xRU (show (l.getD i 0).toNat < 64 by omega)
    have hp := xNo (show (l.getD i 0).toNat < 64 by omega)
    have ho := xX6 ha hp
    have h0 := hm.1
    have ih := xMA (z := z) (H := H) hl hq d (i + 1) (a ||| 2 ^ (l.getD i 0).toNat) (by omega) (xKP ha hp)
    rw [xFG (by omega : i < l.length), xDi, xUA]
    simp (maxSteps := 30000000) (disch := first | assumption | omega | (simp only [List.length_cons, List.length_nil, List.length_append, List.length_set, List.length_replicate, List.length_map, List.length_range, List.length_take, List.length_drop, List.all_cons, List.all_nil, AV.isCell, Bool.and_self, Bool.and_true, xAh, xAb, xAe, xAa, xAC] <;> omega) | rfl | decide) only [xNV, xAo, xAf, xAc, xAk, xAH, opv, List.getD_cons_succ, List.getD_cons_zero, xAL, hlt, decide_true, xAl, xAp, List.set_cons_succ, List.set_cons_zero, xAi, xAg, xAj, xAd, xAq, xAn, ↓reduceIte, xAG, xAs, xA4, xA6, Int.toNat_natCast, Nat.mul_one, xAP, xBu, xCq, xB7, xDa, xCm, Nat.add_zero, xAV, xAE, xDs, hs, xHA, ho, xAu, xBq, xCE, xDf, xAM, xQa, ih]

theorem xRV (z : Bool) (l : List Int) (hl : l.length < 1099511627776) (hq : ∀ q ∈ l, 0 ≤ q ∧ q < 64) : L.pcall 88 [iw z l] = some (.int .u64 (xDi 0 l : Nat)) := by
  have h := xMA (z := z) (H := []) hl hq l.length 0 0 (by omega) (by omega)
  simp only [Int.natCast_zero, List.drop_zero] at h
  rw [yDW, a88, xAT]
  simp (maxSteps := 30000000) (disch := first | assumption | omega | (simp only [List.length_cons, List.length_nil, List.length_append, List.length_set, List.length_replicate, List.length_map, List.length_range, List.length_take, List.length_drop, List.all_cons, List.all_nil, AV.isCell, Bool.and_self, Bool.and_true, xAh, xAb, xAe, xAa, xAC] <;> omega) | rfl | decide) only [xAI, List.length_cons, List.length_nil, Nat.zero_add, Nat.reduceSub, xB8, List.cons_append, List.nil_append, xAo, xAf, xAc, xAk, xAE, opv, xAp, List.set_cons_succ, List.set_cons_zero, xAi, xAg, xAj, xAd, List.getD_cons_zero, xBr, List.getD_cons_succ, xBf, xAl, xAs, xBe, xQa, h, xA0, ↓reduceIte, xAO, xAx, xAF, xAU, xAr, xAt, xBI, xAW]

theorem xJk : ∀ (l : List Int) (a j : Nat), (∀ q ∈ l, 0 ≤ q) → (xDi a l).testBit j = (a.testBit j || l.contains (j : Int))
  | [], a, j, h => by simp [xDi]
  | q :: l, a, j, h => by
    have h0 := h q (List.mem_cons_self ..)
    have e : decide (q.toNat = j) = ((j : Int) == q) := by
      rw [Bool.eq_iff_iff]; simp only [decide_eq_true_eq, beq_iff_eq]; omega
    rw [xDi, xJk l _ j (fun q hq => h q (List.mem_cons_of_mem _ hq)), Nat.testBit_or, Nat.testBit_two_pow, List.contains_cons, e, Bool.or_assoc]
theorem xFZ : ∀ (l : List Int) (a : Nat), a < 18446744073709551616 → (∀ q ∈ l, 0 ≤ q ∧ q < 64) → xDi a l < 18446744073709551616
  | [], a, ha, h => ha
  | q :: l, a, ha, h => by
    have h0 := h q (List.mem_cons_self ..)
    exact xFZ l _ (xKP ha (xNo (by omega))) (fun q hq => h q (List.mem_cons_of_mem _ hq))
end Go.Abs.Det

/- The rules' loop of states, the stack. -/
namespace Go.Abs.Det
open Go Go.Abs
set_option linter.unusedSimpArgs false
set_option linter.unusedVariables false

theorem xZM {l : Nat} (hl : l < 18446744073709551616) (u : Nat) : xFC .and .u64 ((l >>> u : Nat) : Int) 1 = if l.testBit u = true then 1 else 0 := by
  have h1 : l >>> u < 18446744073709551616 := Nat.lt_of_le_of_lt (by rw [Nat.shiftRight_eq_div_pow]; exact Nat.div_le_self ..) hl
  have h := xTN h1 (show 1 < 18446744073709551616 by omega)
  rw [show ((1 : Nat) : Int) = 1 from rfl] at h
  rw [h, Nat.and_one_is_mod]
  have ht : l.testBit u = decide ((l >>> u) % 2 = 1) := by
    rw [Nat.testBit_eq_decide_div_mod_eq, Nat.shiftRight_eq_div_pow]
  rw [ht]
  by_cases c : (l >>> u) % 2 = 1
  · rw [c]; simp
  · have : (l >>> u) % 2 = 0 := by omega
    rw [this]; simp

def hit (l r x : Nat) (u : Rl) : Bool := l.testBit u.l.toNat && r.testBit u.r.toNat && xSo u.p u.n x
def toM (l r x : Nat) (a : Nat) : List Rl → Nat
  | [] => a
  | u :: t => toM l r x (if hit l r x u = true then a ||| 2 ^ u.t.toNat else a) t

def xNp (l : List Rl) : Prop := ∀ e ∈ l, (0 ≤ e.l ∧ e.l < 64) ∧ (0 ≤ e.r ∧ e.r < 64) ∧ (0 ≤ e.t ∧ e.t < 64) ∧ e.p < 256 ∧ e.n < 256

theorem xRW (l r x : Nat) : ∀ (t : List Rl) (a : Nat), a < 18446744073709551616 → xNp t → toM l r x a t < 18446744073709551616
  | [], a, h, _ => h
  | u :: t, a, h, hb => by
    have hu := hb u (List.mem_cons_self ..)
    refine xRW l r x t _ ?_ (fun e he => hb e (List.mem_cons_of_mem _ he))
    split
    · exact xKP h (xNo (by omega))
    · exact h

section
variable {s1 s2 s5 s6 s7 s8 : AV}
theorem xJl {z : Bool} {rl : List Rl} {b l r x : Nat} {xl xr : Int} (hl : rl.length < 1099511627776) (hb : xNp rl) (hL : l < 18446744073709551616) (hR : r < 18446744073709551616) (hx : x < 256) : ∀ d i a G, i + d = rl.length → a < 18446744073709551616 → G[b]? = some (.cells false false [.int .u8 (x : Nat), .int .i64 xl, .int .i64 xr]) →
    ∃ X, L.loop xLu xSC ⟨xLv s1 s2 s5 s6 s7 s8 (.ptr b 0) (.int .u64 (l : Nat)) (.int .u64 (r : Nat)) (.int .u64 (a : Nat)) (.sl z rl.length (rls rl)) (.int .i64 (rl.length : Nat)) (.int .i64 (i : Nat)), G⟩ =
      some (.exit 2, ⟨xLv s1 s2 s5 s6 s7 s8 (.ptr b 0) (.int .u64 (l : Nat)) (.int .u64 (r : Nat)) (.int .u64 (toM l r x a (rl.drop i) : Nat)) (.sl z rl.length (rls rl)) (.int .i64 (rl.length : Nat)) (.int .i64 (rl.length : Nat)), G ++ X⟩)
  | 0, i, a, G, h, ha, hG => by
    obtain rfl : i = rl.length := by omega
    refine ⟨[], ?_⟩
    rw [List.drop_length, toM, xLw, List.append_nil]
    simp (maxSteps := 30000000) (disch := first | assumption | omega | (simp only [List.length_cons, List.length_nil, List.length_append, List.length_set, List.length_replicate, List.length_map, List.length_range, List.length_take, List.length_drop, List.all_cons, List.all_nil, AV.isCell, Bool.and_self, Bool.and_true, xAh, xAb, xAe, xAa, xAC, xAB] <;> omega) | rfl | decide) only [xIc, xAo, xAf, xAc, xAk, xAH, opv, List.getD_cons_succ, List.getD_cons_zero, xAL, Int.lt_irrefl, decide_false, xAl, xAp, List.set_cons_succ, List.set_cons_zero, xAi, xAg, xAj, xAd, xAq, xAn, Bool.false_eq_true, ↓reduceIte, xBy, xBh, xA9, xGA]
  | d + 1, i, a, G, h, ha, hG => by
    have hlt : (i : Int) < (rl.length : Nat) := by omega
    obtain ⟨⟨l0, l1⟩, ⟨rl0', r1⟩, ⟨t0, t1⟩, p1, n1⟩ := hb _ (xH3 (by omega : i < rl.length))
    have hc := xW9 (rl.getD i rl0).p (rl.getD i rl0).n x p1 n1 hx
    have hsl := xTE l (show (rl.getD i rl0).l.toNat ≤ IntKind.u64.bits from by show _ ≤ 64; omega)
    have hsr := xTE r (show (rl.getD i rl0).r.toNat ≤ IntKind.u64.bits from by show _ ≤ 64; omega)
    have hbl := xZM hL (rl.getD i rl0).l.toNat
    have hbr := xZM hR (rl.getD i rl0).r.toNat
    have hs := xRU (show (rl.getD i rl0).t.toNat < 64 by omega)
    have hp := xNo (show (rl.getD i rl0).t.toNat < 64 by omega)
    have ho := xX6 ha hp
    have g1 := xBL (X := [.cells false false (xHr (rl.getD i rl0))]) hG
    simp only [xHr] at g1
    rw [xGY (by omega : i < rl.length), toM]
    by_cases c1 : l.testBit (rl.getD i rl0).l.toNat = true
    · rw [if_pos c1] at hbl
      by_cases c2 : r.testBit (rl.getD i rl0).r.toNat = true
      · rw [if_pos c2] at hbr
        cases c3 : xSo (rl.getD i rl0).p (rl.getD i rl0).n x with
        | true =>
          rw [c3] at hc
          rw [if_pos (by unfold hit; rw [c1, c2, c3]; rfl)]
          obtain ⟨X, ih⟩ := xJl (z := z) hl hb hL hR hx d (i + 1) (a ||| 2 ^ (rl.getD i rl0).t.toNat) (G ++ [.cells false false (xHr (rl.getD i rl0))]) (by omega) (xKP ha hp) (xBL hG)
          refine ⟨.cells false false (xHr (rl.getD i rl0)) :: X, ?_⟩
          simp only [xHr, List.append_assoc, List.cons_append, List.nil_append] at ih ⊢
          rw [xLw]
          simp (maxSteps := 30000000) (disch := first | assumption | omega | (simp only [List.length_cons, List.length_nil, List.length_append, List.length_set, List.length_replicate, List.length_map, List.length_range, List.length_take, List.length_drop, List.all_cons, List.all_nil, AV.isCell, Bool.and_self, Bool.and_true, xAh, xAb, xAe, xAa, xAC, xAB] <;> omega) | rfl | decide) only [xIc, xAo, xAf, xAc, xAk, xAH, opv, List.getD_cons_succ, List.getD_cons_zero, xAL, hlt, decide_true, xAl, xAp, List.set_cons_succ, List.set_cons_zero, xAi, xAg, xAj, xAd, xAq, xAn, ↓reduceIte, xAG, xAs, xA4, xA6, Int.toNat_natCast, xAP, xBu, xFJ, xBs, xBn, AV.cells, List.all_cons, AV.isCell, List.all_nil, Bool.and_self, xBb, List.length_cons, List.length_nil, Nat.zero_add, Nat.reduceAdd, xBH, xCY, List.getElem?_cons_zero, xA3, xBd, List.take_zero, List.nil_append, List.drop_succ_cons, List.drop_nil, List.append_nil, xDr, xAR, xBl, xAE, xA1, xAQ, Nat.add_zero, xA5, xAz, List.drop_zero, List.take_succ_cons, xAV, xCQ, hsl, xCP, hbl, xA8, Int.reduceEq, decide_false, Bool.not_false, xAJ, xAD, hsr, hbr, xA7, xAK, List.take_nil, xCB, beq_self_eq_true, List.map_cons, List.map_nil, xCp, Nat.reduceLeDiff, and_self, List.cons_append, Nat.le_refl, Option.map_some, g1, xBi, xAZ, xBI, List.mapM_cons, xBQ, xAW, List.mapM_nil, Option.pure_def, Option.bind_eq_bind, Option.bind_some, xAY, hc, xAX, xCZ, xBU, xDs, hs, xHA, ho, xAu, xBq, xCE, xDf, xAM, xGA, ih]
        | false =>
          rw [c3] at hc
          rw [if_neg (by unfold hit; rw [c1, c2, c3]; simp)]
          obtain ⟨X, ih⟩ := xJl (z := z) hl hb hL hR hx d (i + 1) a (G ++ [.cells false false (xHr (rl.getD i rl0))]) (by omega) ha (xBL hG)
          refine ⟨.cells false false (xHr (rl.getD i rl0)) :: X, ?_⟩
          simp only [xHr, List.append_assoc, List.cons_append, List.nil_append] at ih ⊢
          rw [xLw]
          simp (maxSteps := 30000000) (disch := first | assumption | omega | (simp only [List.length_cons, List.length_nil, List.length_append, List.length_set, List.length_replicate, List.length_map, List.length_range, List.length_take, List.length_drop, List.all_cons, List.all_nil, AV.isCell, Bool.and_self, Bool.and_true, xAh, xAb, xAe, xAa, xAC, xAB] <;> omega) | rfl | decide) only [xIc, xAo, xAf, xAc, xAk, xAH, opv, List.getD_cons_succ, List.getD_cons_zero, xAL, hlt, decide_true, xAl, xAp, List.set_cons_succ, List.set_cons_zero, xAi, xAg, xAj, xAd, xAq, xAn, ↓reduceIte, xAG, xAs, xA4, xA6, Int.toNat_natCast, xAP, xBu, xFJ, xBs, xBn, AV.cells, List.all_cons, AV.isCell, List.all_nil, Bool.and_self, xBb, List.length_cons, List.length_nil, Nat.zero_add, Nat.reduceAdd, xBH, xCY, List.getElem?_cons_zero, xA3, xBd, List.take_zero, List.nil_append, List.drop_succ_cons, List.drop_nil, List.append_nil, xDr, xAR, xBl, xAE, xA1, xAQ, Nat.add_zero, xA5, xAz, List.drop_zero, List.take_succ_cons, xAV, xCQ, hsl, xCP, hbl, xA8, Int.reduceEq, decide_false, Bool.not_false, xAJ, xAD, hsr, hbr, xA7, xAK, List.take_nil, xCB, beq_self_eq_true, List.map_cons, List.map_nil, xCp, Nat.reduceLeDiff, and_self, List.cons_append, Nat.le_refl, Option.map_some, g1, xBi, xAZ, xBI, List.mapM_cons, xBQ, xAW, List.mapM_nil, Option.pure_def, Option.bind_eq_bind, Option.bind_some, xAY, hc, xAX, xCZ, xBU, Bool.false_eq_true, xAu, xBq, xCE, xDf, xAM, xGA, ih]
      · rw [if_neg c2] at hbr
        rw [if_neg (by unfold hit; simp only [Bool.and_eq_true]; exact fun q => c2 q.1.2)]
        obtain ⟨X, ih⟩ := xJl (z := z) hl hb hL hR hx d (i + 1) a (G ++ [.cells false false (xHr (rl.getD i rl0))]) (by omega) ha (xBL hG)
        refine ⟨.cells false false (xHr (rl.getD i rl0)) :: X, ?_⟩
        simp only [xHr, List.append_assoc, List.cons_append, List.nil_append] at ih ⊢
        rw [xLw]
        simp (maxSteps := 30000000) (disch := first | assumption | omega | (simp only [List.length_cons, List.length_nil, List.length_append, List.length_set, List.length_replicate, List.length_map, List.length_range, List.length_take, List.length_drop, List.all_cons, List.all_nil, AV.isCell, Bool.and_self, Bool.and_true, xAh, xAb, xAe, xAa, xAC, xAB] <;> omega) | rfl | decide) only [xIc, xAo, xAf, xAc, xAk, xAH, opv, List.getD_cons_succ, List.getD_cons_zero, xAL, hlt, decide_true, xAl, xAp, List.set_cons_succ, List.set_cons_zero, xAi, xAg, xAj, xAd, xAq, xAn, ↓reduceIte, xAG, xAs, xA4, xA6, Int.toNat_natCast, xAP, xBu, xFJ, xBs, xBn, AV.cells, List.all_cons, AV.isCell, List.all_nil, Bool.and_self, xBb, List.length_cons, List.length_nil, Nat.zero_add, Nat.reduceAdd, xBH, xCY, List.getElem?_cons_zero, xA3, xBd, List.take_zero, List.nil_append, List.drop_succ_cons, List.drop_nil, List.append_nil, xDr, xAR, xBl, xAE, xA1, xAQ, Nat.add_zero, xA5, xAz, List.drop_zero, List.take_succ_cons, xAV, xCQ, hsl, xCP, hbl, xA8, Int.reduceEq, decide_false, Bool.not_false, xAJ, xAD, hsr, hbr, Bool.not_true, xA7, xAK, Bool.false_eq_true, xCf, xAu, xBq, xCE, xDf, xAM, xGA, ih]
    · rw [if_neg c1] at hbl
      rw [if_neg (by unfold hit; simp only [Bool.and_eq_true]; exact fun q => c1 q.1.1)]
      obtain ⟨X, ih⟩ := xJl (z := z) hl hb hL hR hx d (i + 1) a (G ++ [.cells false false (xHr (rl.getD i rl0))]) (by omega) ha (xBL hG)
      refine ⟨.cells false false (xHr (rl.getD i rl0)) :: X, ?_⟩
      simp only [xHr, List.append_assoc, List.cons_append, List.nil_append] at ih ⊢
      rw [xLw]
      simp (maxSteps := 30000000) (disch := first | assumption | omega | (simp only [List.length_cons, List.length_nil, List.length_append, List.length_set, List.length_replicate, List.length_map, List.length_range, List.length_take, List.length_drop, List.all_cons, List.all_nil, AV.isCell, Bool.and_self, Bool.and_true, xAh, xAb, xAe, xAa, xAC, xAB] <;> omega) | rfl | decide) only [xIc, xAo, xAf, xAc, xAk, xAH, opv, List.getD_cons_succ, List.getD_cons_zero, xAL, hlt, decide_true, xAl, xAp, List.set_cons_succ, List.set_cons_zero, xAi, xAg, xAj, xAd, xAq, xAn, ↓reduceIte, xAG, xAs, xA4, xA6, Int.toNat_natCast, xAP, xBu, xFJ, xBs, xBn, AV.cells, List.all_cons, AV.isCell, List.all_nil, Bool.and_self, xBb, List.length_cons, List.length_nil, Nat.zero_add, Nat.reduceAdd, xBH, xCY, List.getElem?_cons_zero, xA3, xBd, List.take_zero, List.nil_append, List.drop_succ_cons, List.drop_nil, List.append_nil, xDr, xAR, xBl, xAE, xA1, xAQ, Nat.add_zero, xA5, xAz, List.drop_zero, List.take_succ_cons, xAV, xCQ, hsl, xCP, hbl, xA8, Bool.not_true, xAJ, xAD, Bool.false_eq_true, xCf, xA7, xAK, xAu, xBq, xCE, xDf, xAM, xGA, ih]
end

def OwnG (G : xAA) (v : AV) (l : List Nat) : Prop := (v = .sl true 0 [] ∧ l = []) ∨ ∃ k r, 2 < k ∧ v = .own false k 0 l.length 1 ∧ G[k]? = some (.cells false false (w64 (l ++ r)))
theorem OwnG.app {G : xAA} {v : AV} {l : List Nat} (h : OwnG G v l) (X : xAA) : OwnG (G ++ X) v l := by
  rcases h with h | ⟨k, r, e0, e1, e2⟩
  · exact .inl h
  · exact .inr ⟨k, r, e0, e1, xBL e2⟩

theorem xTV {G : xAA} {E : Nat} {c : Int} (hc : c < 0) (h1 : G[1]? = some (.cells false false [.int .u64 (E : Nat)])) : L.icall (.func 112 [.ptr 1 0, .ptr 2 0]) [.int .i64 c] G = some (.int .u64 (E : Nat), G) := by
  rw [xYm, xYf]
  simp (maxSteps := 30000000) (disch := first | assumption | omega | (simp only [List.length_cons, List.length_nil, List.length_append, List.length_set, List.length_replicate, List.length_map, List.length_range, List.length_take, List.length_drop, List.all_cons, List.all_nil, AV.isCell, Bool.and_self, Bool.and_true, xAh, xAb, xAe, xAa, xAC, xAB] <;> omega) | rfl | decide) only [List.cons_append, List.nil_append, xAI, List.length_cons, List.length_nil, Nat.zero_add, Nat.reduceAdd, Nat.reduceSub, xB8, xAo, xAf, xAc, xAk, xAE, opv, xAp, List.set_cons_succ, List.set_cons_zero, xAi, xAg, xAj, xAd, List.getD_cons_zero, xAH, List.getD_cons_succ, xAL, hc, decide_true, xAl, xAq, xAn, ↓reduceIte, xAP, xA5, h1, xAz, List.drop_zero, List.take_succ_cons, List.take_nil, xAV, xAO, xBa, xAx, xAF, xAU, xAr]

theorem xTW {G : xAA} {st : List Nat} {x : Nat} {v : AV} {c : Int} (hc : ¬ c < 0) (h2 : G[2]? = some (.cells false false [v])) (hO : OwnG G v (st ++ [x])) (hl : st.length < 1099511627776) :
    ∃ v', L.icall (.func 112 [.ptr 1 0, .ptr 2 0]) [.int .i64 c] G = some (.int .u64 (x : Nat), G.set 2 (.cells false false [v'])) ∧ OwnG (G.set 2 (.cells false false [v'])) v' st := by
  rcases hO with ⟨_, h⟩ | ⟨k, r, e0, rfl, e2⟩
  · simp at h
  · refine ⟨.own false k 0 st.length 1, ?_, .inr ⟨k, x :: r, e0, rfl, ?_⟩⟩
    · have hat : (st ++ x :: r).getD st.length 0 = x := by simp [List.getD]
      have e2' : G[k]? = some (.cells false false (w64 (st ++ (x :: r)))) := by rw [e2]; simp
      have hlen : (st ++ [x]).length = st.length + 1 := by simp
      rw [hlen] at h2
      rw [xYm, xYf]
      simp (maxSteps := 30000000) (disch := first | assumption | omega | (simp only [List.length_cons, List.length_nil, List.length_append, List.length_set, List.length_replicate, List.length_map, List.length_range, List.length_take, List.length_drop, List.all_cons, List.all_nil, AV.isCell, Bool.and_self, Bool.and_true, xAh, xAb, xAe, xAa, xAC, xAB] <;> omega) | rfl | decide) only [List.cons_append, List.nil_append, xAI, List.length_cons, List.length_nil, Nat.zero_add, Nat.reduceAdd, Nat.reduceSub, xB8, xAo, xAf, xAc, xAk, xAE, opv, xAp, List.set_cons_succ, List.set_cons_zero, xAi, xAg, xAj, xAd, List.getD_cons_zero, xAH, List.getD_cons_succ, xAL, hc, decide_false, xAl, xAq, xAn, Bool.false_eq_true, ↓reduceIte, xAG, xAP, xA5, h2, xAz, List.drop_zero, List.take_succ_cons, List.take_nil, xAV, xBr, xDK, xEQ, xVx, Nat.add_sub_cancel, xDf, xA4, xBV, Int.toNat_natCast, Nat.mul_one, e2', xD2, xCT, xGw, xD8, Nat.add_zero, hat, xDt, Option.map_none, Option.map_some, xJO, xDv, xN3, Nat.sub_zero, xBb, AV.cells, xBH, xA3, xBd, List.take_zero, List.drop_succ_cons, List.drop_nil, List.append_nil, xAR, xBl, xAO, xAx, xAF, xAU, xAr]
    · rw [List.getElem?_set_ne (by omega), e2]; simp
end Go.Abs.Det

/- states: the nodes' loop. -/
namespace Go.Abs.Det
open Go Go.Abs
set_option linter.unusedSimpArgs false
set_option linter.unusedVariables false

def ev (E : Nat) (rl : List Rl) : BT → Nat
  | .nil => E
  | .node x l r => toM (ev E rl l) (ev E rl r) x 0 rl
theorem xTX {E : Nat} {rl : List Rl} (hE : E < 18446744073709551616) (hb : xNp rl) : ∀ T, ev E rl T < 18446744073709551616
  | .nil => hE
  | .node x l r => xRW _ _ _ _ _ (by omega) hb

def Pop (E : Nat) (c : Int) (st : List Nat) (v : Nat) (st' : List Nat) : Prop := c < 0 ∧ v = E ∧ st = st' ∨ ¬ c < 0 ∧ st = st' ++ [v]

structure InvA (n : Aut) (E : Nat) (G : xAA) (st : List Nat) : Prop where
  g0 : G[0]? = some (.cells false false n.cells)
  g1 : G[1]? = some (.cells false false [.int .u64 (E : Nat)])
  own : ∃ v, G[2]? = some (.cells false false [v]) ∧ OwnG G v st
theorem InvA.app {n : Aut} {E : Nat} {G : xAA} {st : List Nat} (h : InvA n E G st) (X : xAA) : InvA n E (G ++ X) st := by
  obtain ⟨v, h2, h3⟩ := h.own
  exact ⟨xBL h.g0, xBL h.g1, v, xBL h2, h3.app X⟩

theorem xRX {n : Aut} {E : Nat} {G : xAA} {st st' : List Nat} {v : Nat} {c : Int} (hI : InvA n E G st) (hp : Pop E c st v st') (hl : st.length < 1099511627776) :
    ∃ G', L.icall (.func 112 [.ptr 1 0, .ptr 2 0]) [.int .i64 c] G = some (.int .u64 (v : Nat), G') ∧ InvA n E G' st' ∧ ∀ b, 2 < b → G'[b]? = G[b]? := by
  rcases hp with ⟨hc, rfl, rfl⟩ | ⟨hc, rfl⟩
  · exact ⟨G, xTV hc hI.g1, hI, fun _ _ => rfl⟩
  · obtain ⟨w, h2, hO⟩ := hI.own
    obtain ⟨w', h3, h4⟩ := xTW hc h2 hO (by simp at hl; omega)
    refine ⟨_, h3, ⟨?_, ?_, w', ?_, h4⟩, fun b hb => ?_⟩
    · rw [List.getElem?_set_ne (by omega)]; exact hI.g0
    · rw [List.getElem?_set_ne (by omega)]; exact hI.g1
    · rw [List.getElem?_set_self (List.getElem?_eq_some_iff.1 h2).1]
    · rw [List.getElem?_set_ne (by omega)]

noncomputable abbrev LN (z : Bool) (t : List Lf) (i : Nat) (G : xAA) := L.loop xLx xSD ⟨xJG (tw z t) (.ptr 0 0) (.ptr 1 0) (.ptr 2 0) (.int .i64 (i : Nat)) (.func 112 [.ptr 1 0, .ptr 2 0]), G⟩

theorem xRY (z : Bool) (t : List Lf) (G : xAA) : LN z t 0 G = some (.exit 0, ⟨xJG (tw z t) (.ptr 0 0) (.ptr 1 0) (.ptr 2 0) (.int .i64 0) (.func 112 [.ptr 1 0, .ptr 2 0]), G⟩) := by
  unfold LN
  rw [xUz]
  simp (maxSteps := 30000000) (disch := first | assumption | omega | (simp only [List.length_cons, List.length_nil, List.length_append, List.length_set, List.length_replicate, List.length_map, List.length_range, List.length_take, List.length_drop, List.all_cons, List.all_nil, AV.isCell, Bool.and_self, Bool.and_true, xAh, xAb, xAe, xAa, xAC, xAB] <;> omega) | rfl | decide) only [xId, xDg, xAo, xAf, xAc, xAk, xAE, opv, List.getD_cons_succ, List.getD_cons_zero, xAp, List.set_cons_succ, List.set_cons_zero, xAi, xAH, xBP, Int.lt_irrefl, decide_false, xAl, xAg, xAj, xAd, xAq, xAn, Bool.false_eq_true, ↓reduceIte, xBy, xBh, xA9, xIe]

set_option maxHeartbeats 4000000 in
theorem xPv {z : Bool} {t : List Lf} {n : Aut} {E : Nat} (ht : t.length < 1099511627776) (hx : ∀ e ∈ t, e.x < 256) (hl : n.rl.length < 1099511627776) (hb : xNp n.rl) {i : Nat} (hi : i < t.length) {G : xAA} {st st1 st2 : List Nat} {l r : Nat} (hI : InvA n E G st)
    (hs : st.length + i < t.length) (hL : l < 18446744073709551616) (hR : r < 18446744073709551616) (p1 : Pop E (t.getD i f0).l st l st1) (p2 : Pop E (t.getD i f0).r st1 r st2) :
    ∃ G', LN z t (i + 1) G = LN z t i G' ∧ InvA n E G' (st2 ++ [toM l r (t.getD i f0).x 0 n.rl]) := by
  have hm := hx _ (xKK hi)
  have l1 : st1.length ≤ st.length := by
    rcases p1 with ⟨_, _, h⟩ | ⟨_, h⟩
    · rw [h]; omega
    · rw [h]; simp
  have l2 : st2.length ≤ st1.length := by
    rcases p2 with ⟨_, _, h⟩ | ⟨_, h⟩
    · rw [h]; omega
    · rw [h]; simp
  obtain ⟨Ga, a1, a2, a9993⟩ := xRX (hI.app [.cells false false (xNj (t.getD i f0))]) p1 (by omega)
  obtain ⟨Gb, b1, b2, b3⟩ := xRX a2 p2 (by omega)
  have lenG : 2 < G.length := by
    obtain ⟨v, h, _⟩ := hI.own
    exact (List.getElem?_eq_some_iff.1 h).1
  have lf0 : (G ++ [.cells false false (xNj (t.getD i f0))])[G.length]? = some (Blk.cells false false (xNj (t.getD i f0))) := by simp
  have lfa : Ga[G.length]? = some (Blk.cells false false (xNj (t.getD i f0))) := by rw [a9993 _ lenG]; exact lf0
  have lfb : Gb[G.length]? = some (Blk.cells false false (xNj (t.getD i f0))) := by rw [b3 _ lenG]; exact lfa
  obtain ⟨X, hloop⟩ := xJl (s1 := tw z t) (s2 := .ptr 0 0) (s5 := .ptr 1 0) (s6 := .ptr 2 0) (s7 := .int .i64 (i : Nat)) (s8 := .func 112 [.ptr 1 0, .ptr 2 0]) (z := n.z3) hl hb hL hR hm n.rl.length 0 0 Gb (by omega) (by omega) lfb
  have hd := b2.app X
  have hg0 := b2.g0
  simp only [Int.natCast_zero, List.drop_zero] at hloop
  generalize Gb ++ X = Gd at *
  generalize hv : toM l r (t.getD i f0).x 0 n.rl = to at *
  obtain ⟨v, d2, dO⟩ := hd.own
  have len2 := (List.getElem?_eq_some_iff.1 d2).1
  have fin : ∃ G', (∀ H0, H0 = Gd → True) ∧ InvA n E G' (st2 ++ [to]) ∧ ((v = .sl true 0 [] ∧ G' = (Gd ++ [Blk.cells false false [.int .u64 (to : Nat)]]).set 2 (.cells false false [.own false Gd.length 0 1 1])) ∨
      ∃ k r', 2 < k ∧ v = .own false k 0 st2.length 1 ∧ Gd[k]? = some (.cells false false (w64 (st2 ++ r'))) ∧ G' = (Gd.set k Blk.dead ++ [Blk.cells false false (w64 (st2 ++ [to]))]).set 2 (.cells false false [.own false Gd.length 0 (st2.length + 1) 1])) := by
    rcases dO with ⟨rfl, rfl⟩ | ⟨k, r', k2, rfl, hk⟩
    · refine ⟨_, fun _ _ => trivial, ⟨?_, ?_, .own false Gd.length 0 1 1, ?_, .inr ⟨Gd.length, [], len2, rfl, ?_⟩⟩, .inl ⟨rfl, rfl⟩⟩
      · rw [List.getElem?_set_ne (by omega)]; exact xBL hd.g0
      · rw [List.getElem?_set_ne (by omega)]; exact xBL hd.g1
      · rw [List.getElem?_set_self (by simp; omega)]
      · rw [List.getElem?_set_ne (by omega)]; simp [w64]
    · refine ⟨_, fun _ _ => trivial, ⟨?_, ?_, .own false Gd.length 0 (st2.length + 1) 1, ?_, .inr ⟨Gd.length, [], len2, by simp, ?_⟩⟩, .inr ⟨k, r', k2, rfl, hk, rfl⟩⟩
      · rw [List.getElem?_set_ne (by omega)]; exact xBL (by rw [List.getElem?_set_ne (by omega)]; exact hd.g0)
      · rw [List.getElem?_set_ne (by omega)]; exact xBL (by rw [List.getElem?_set_ne (by omega)]; exact hd.g1)
      · rw [List.getElem?_set_self (by simp; omega)]
      · rw [List.getElem?_set_ne (by omega)]; simp
  obtain ⟨G', -, hI', hcase⟩ := fin
  refine ⟨G', ?_, hI'⟩
  have hlt : (0 : Int) < ((i + 1 : Nat) : Int) := by omega
  have hi1 : ((i + 1 : Nat) : Int) - 1 = (i : Nat) := by omega
  have hn0 : i = 0 → LN z t i G' = some (.exit 0, ⟨xJG (tw z t) (.ptr 0 0) (.ptr 1 0) (.ptr 2 0) (.int .i64 (i : Nat)) (.func 112 [.ptr 1 0, .ptr 2 0]), G'⟩) := by
    rintro rfl
    exact xRY z t G'
  simp only [xNj] at a1 lf0 lfa lfb
  unfold LN
  rw [xUz]
  rcases hcase with ⟨rfl, e⟩ | ⟨k, r', k2, rfl, hk, e⟩
  · have d3 := xBL (X := [Blk.cells false false [.int .u64 (to : Nat)]]) d2
    by_cases c : i = 0
    · have c' : (((i : Nat) : Int) = 0) = True := eq_true (by omega)
      have hn0 := hn0 c
      unfold LN at hn0
      rw [e] at hn0 ⊢
      simp (maxSteps := 30000000) (disch := first | assumption | omega | (simp only [List.length_cons, List.length_nil, List.length_append, List.length_set, List.length_replicate, List.length_map, List.length_range, List.length_take, List.length_drop, List.all_cons, List.all_nil, AV.isCell, Bool.and_self, Bool.and_true, xAh, xAb, xAe, xAa, xAC, xAB] <;> omega) | rfl | decide) only [xId, xAo, xAf, xAc, xAk, xAE, opv, List.getD_cons_succ, List.getD_cons_zero, xAp, List.set_cons_succ, List.set_cons_zero, xAi, xAH, xBP, hlt, decide_true, xAl, xAg, xAj, xAd, xAq, xAn, ↓reduceIte, xAG, xAs, xEQ, hi1, xDf, xA4, xA6, Int.toNat_natCast, xAP, xBu, xI8, xBs, xBn, AV.cells, List.all_cons, AV.isCell, List.all_nil, Bool.and_self, xBb, List.length_cons, List.length_nil, Nat.zero_add, Nat.reduceAdd, xBH, xCY, List.getElem?_cons_zero, xA3, xBd, List.take_zero, List.nil_append, List.drop_succ_cons, List.drop_nil, List.append_nil, xDr, xAR, xBl, xA1, xAQ, xA5, lf0, xAz, List.drop_zero, List.take_succ_cons, xAV, xBY, List.map_cons, List.map_nil, a1, lfa, List.take_nil, b1, hg0, xBr, xBf, xBe, xGA, hloop, xA0, d2, xCc, beq_self_eq_true, xDM, Nat.mul_one, xCp, Nat.le_refl, and_self, xCb, xCn, xBI, List.flatMap_cons, xBR, List.flatMap_nil, List.isEmpty_nil, List.mapM_cons, xAW, List.mapM_nil, Option.pure_def, Option.bind_eq_bind, Option.bind_some, xB5, xB1, xDx, xDw, Nat.reduceBEq, xCO, d3, xBK, c', xBy, Nat.reduceEqDiff, xA9, xIe, hn0]
    · have c' : (((i : Nat) : Int) = 0) = False := eq_false (by omega)
      rw [e]
      simp (maxSteps := 30000000) (disch := first | assumption | omega | (simp only [List.length_cons, List.length_nil, List.length_append, List.length_set, List.length_replicate, List.length_map, List.length_range, List.length_take, List.length_drop, List.all_cons, List.all_nil, AV.isCell, Bool.and_self, Bool.and_true, xAh, xAb, xAe, xAa, xAC, xAB] <;> omega) | rfl | decide) only [xId, xAo, xAf, xAc, xAk, xAE, opv, List.getD_cons_succ, List.getD_cons_zero, xAp, List.set_cons_succ, List.set_cons_zero, xAi, xAH, xBP, hlt, decide_true, xAl, xAg, xAj, xAd, xAq, xAn, ↓reduceIte, xAG, xAs, xEQ, hi1, xDf, xA4, xA6, Int.toNat_natCast, xAP, xBu, xI8, xBs, xBn, AV.cells, List.all_cons, AV.isCell, List.all_nil, Bool.and_self, xBb, List.length_cons, List.length_nil, Nat.zero_add, Nat.reduceAdd, xBH, xCY, List.getElem?_cons_zero, xA3, xBd, List.take_zero, List.nil_append, List.drop_succ_cons, List.drop_nil, List.append_nil, xDr, xAR, xBl, xA1, xAQ, xA5, lf0, xAz, List.drop_zero, List.take_succ_cons, xAV, xBY, List.map_cons, List.map_nil, a1, lfa, List.take_nil, b1, hg0, xBr, xBf, xBe, xGA, hloop, xA0, d2, xCc, beq_self_eq_true, xDM, Nat.mul_one, xCp, Nat.le_refl, and_self, xCb, xCn, xBI, List.flatMap_cons, xBR, List.flatMap_nil, List.isEmpty_nil, List.mapM_cons, xAW, List.mapM_nil, Option.pure_def, Option.bind_eq_bind, Option.bind_some, xB5, xB1, xDx, xDw, Nat.reduceBEq, xCO, d3, xBK, c', decide_false, Bool.false_eq_true, xAu, xAM, xIe]
  · have htk : List.take st2.length (st2 ++ r') = st2 := by simp
    have hsn : w64 st2 ++ [AV.int .u64 (to : Nat)] = w64 (st2 ++ [to]) := xOw ..
    have d3 := xBL (X := [Blk.cells false false (w64 (st2 ++ [to]))]) (show (Gd.set k Blk.dead)[2]? = _ from by rw [List.getElem?_set_ne (by omega)]; exact d2)
    by_cases c : i = 0
    · have c' : (((i : Nat) : Int) = 0) = True := eq_true (by omega)
      have hn0 := hn0 c
      unfold LN at hn0
      rw [e] at hn0 ⊢
      simp (maxSteps := 30000000) (disch := first | assumption | omega | (simp only [List.length_cons, List.length_nil, List.length_append, List.length_set, List.length_replicate, List.length_map, List.length_range, List.length_take, List.length_drop, List.all_cons, List.all_nil, AV.isCell, Bool.and_self, Bool.and_true, xAh, xAb, xAe, xAa, xAC, xAB] <;> omega) | rfl | decide) only [xId, xAo, xAf, xAc, xAk, xAE, opv, List.getD_cons_succ, List.getD_cons_zero, xAp, List.set_cons_succ, List.set_cons_zero, xAi, xAH, xBP, hlt, decide_true, xAl, xAg, xAj, xAd, xAq, xAn, ↓reduceIte, xAG, xAs, xEQ, hi1, xDf, xA4, xA6, Int.toNat_natCast, xAP, xBu, xI8, xBs, xBn, AV.cells, List.all_cons, AV.isCell, List.all_nil, Bool.and_self, xBb, List.length_cons, List.length_nil, Nat.zero_add, Nat.reduceAdd, xBH, xCY, List.getElem?_cons_zero, xA3, xBd, List.take_zero, List.nil_append, List.drop_succ_cons, List.drop_nil, List.append_nil, xDr, xAR, xBl, xA1, xAQ, xA5, lf0, xAz, List.drop_zero, List.take_succ_cons, xAV, xBY, List.map_cons, List.map_nil, a1, lfa, List.take_nil, b1, hg0, xBr, xBf, xBe, xGA, hloop, xA0, d2, xCc, beq_self_eq_true, xDM, Nat.mul_one, xCp, Nat.le_refl, and_self, xCb, xCn, xBI, List.flatMap_cons, xBR, List.flatMap_nil, List.isEmpty_nil, List.mapM_cons, xAW, List.mapM_nil, Option.pure_def, Option.bind_eq_bind, Option.bind_some, xB5, xB1, xDx, xEo, hk, xDh, Nat.reduceBEq, xCT, htk, hsn, d3, xBK, c', xBy, Nat.reduceEqDiff, xA9, xIe, hn0]
    · have c' : (((i : Nat) : Int) = 0) = False := eq_false (by omega)
      rw [e]
      simp (maxSteps := 30000000) (disch := first | assumption | omega | (simp only [List.length_cons, List.length_nil, List.length_append, List.length_set, List.length_replicate, List.length_map, List.length_range, List.length_take, List.length_drop, List.all_cons, List.all_nil, AV.isCell, Bool.and_self, Bool.and_true, xAh, xAb, xAe, xAa, xAC, xAB] <;> omega) | rfl | decide) only [xId, xAo, xAf, xAc, xAk, xAE, opv, List.getD_cons_succ, List.getD_cons_zero, xAp, List.set_cons_succ, List.set_cons_zero, xAi, xAH, xBP, hlt, decide_true, xAl, xAg, xAj, xAd, xAq, xAn, ↓reduceIte, xAG, xAs, xEQ, hi1, xDf, xA4, xA6, Int.toNat_natCast, xAP, xBu, xI8, xBs, xBn, AV.cells, List.all_cons, AV.isCell, List.all_nil, Bool.and_self, xBb, List.length_cons, List.length_nil, Nat.zero_add, Nat.reduceAdd, xBH, xCY, List.getElem?_cons_zero, xA3, xBd, List.take_zero, List.nil_append, List.drop_succ_cons, List.drop_nil, List.append_nil, xDr, xAR, xBl, xA1, xAQ, xA5, lf0, xAz, List.drop_zero, List.take_succ_cons, xAV, xBY, List.map_cons, List.map_nil, a1, lfa, List.take_nil, b1, hg0, xBr, xBf, xBe, xGA, hloop, xA0, d2, xCc, beq_self_eq_true, xDM, Nat.mul_one, xCp, Nat.le_refl, and_self, xCb, xCn, xBI, List.flatMap_cons, xBR, List.flatMap_nil, List.isEmpty_nil, List.mapM_cons, xAW, List.mapM_nil, Option.pure_def, Option.bind_eq_bind, Option.bind_some, xB5, xB1, xDx, xEo, hk, xDh, Nat.reduceBEq, xCT, htk, hsn, d3, xBK, c', decide_false, Bool.false_eq_true, xAu, xAM, xIe]
end Go.Abs.Det

/- states, set. -/
namespace Go.Abs.Det
open Go Go.Abs
set_option linter.unusedSimpArgs false
set_option linter.unusedVariables false

theorem Pop.len {E : Nat} {c : Int} {st st' : List Nat} {v : Nat} (h : Pop E c st v st') : st'.length ≤ st.length := by
  rcases h with ⟨_, _, h⟩ | ⟨_, h⟩
  · rw [h]; omega
  · rw [h]; simp

theorem xXa {z : Bool} {t : List Lf} {n : Aut} {E : Nat} (ht : t.length < 1099511627776) (hx : ∀ e ∈ t, e.x < 256) (hl : n.rl.length < 1099511627776) (hb : xNp n.rl) (hE : E < 18446744073709551616) {c : Int} {m k : Nat} {T : BT} (h : Sub t c m T k) :
    ∀ G st, InvA n E G st → st.length + k ≤ t.length → ∃ G' st', LN z t k G = LN z t m G' ∧ InvA n E G' st' ∧ st'.length + m ≤ t.length ∧ Pop E c st' (ev E n.rl T) st := by
  induction h with
  | none m => exact fun G st hI hs => ⟨G, st, rfl, hI, hs, .inl ⟨by omega, rfl, rfl⟩⟩
  | @some m k q l r hm hL hR ihl ihr =>
    intro G st hI hs
    obtain ⟨G1, st1, e1, i1, s1, p1⟩ := ihr G st hI hs
    obtain ⟨G2, st2, e2, i2, s2, p2⟩ := ihl G1 st1 i1 s1
    obtain ⟨G', e3, i3⟩ := xPv (z := z) ht hx hl hb hm i2 (by omega) (xTX hE hb l) (xTX hE hb r) p2 p1
    have a1 := p1.len
    have a2 := p2.len
    exact ⟨G', _, e1.trans (e2.trans e3), i3, by simp; omega, .inr ⟨by omega, rfl⟩⟩

theorem xMB {z : Bool} {t : List Lf} {n : Aut} (ht : t.length < 1099511627776) (hx : ∀ e ∈ t, e.x < 256) (hl : n.rl.length < 1099511627776) (hb : xNp n.rl) (hn : n.st.length < 1099511627776) (hq : ∀ q ∈ n.st, 0 ≤ q ∧ q < 64) {T : BT} (hF : xEj t T) :
    L.pcall 87 [n.av, tw z t] = some (.int .u64 (ev (xDi 0 n.st) n.rl T : Nat)) := by
  have hw := xRV n.z1 n.st hn hq
  have hE := xFZ n.st 0 (by omega) hq
  generalize xDi 0 n.st = E at *
  have hI : InvA n E [.cells false false n.cells, .cells false false [.int .u64 (E : Nat)], .cells false false [.sl true 0 []]] [] := ⟨rfl, rfl, _, rfl, .inl ⟨rfl, rfl⟩⟩
  rcases hF with ⟨rfl, rfl⟩ | ⟨h31, hS⟩
  · have h := xRY z [] [.cells false false n.cells, .cells false false [.int .u64 (E : Nat)], .cells false false [.sl true 0 []]]
    unfold LN at h
    simp only [Int.natCast_zero, List.length_nil] at h
    rw [yCR, a87, xAT]
    simp (maxSteps := 30000000) (disch := first | assumption | omega | (simp only [List.length_cons, List.length_nil, List.length_append, List.length_set, List.length_replicate, List.length_map, List.length_range, List.length_take, List.length_drop, List.all_cons, List.all_nil, AV.isCell, Bool.and_self, Bool.and_true, xAh, xAb, xAe, xAa, xAC, xAB] <;> omega) | rfl | decide) only [xAI, List.length_cons, List.length_nil, Nat.zero_add, Nat.reduceAdd, Nat.reduceSub, xB8, List.cons_append, List.nil_append, xAo, xAf, xAc, xAk, xBn, AV.cells, opv, List.getD_cons_zero, List.all_cons, AV.isCell, List.all_nil, Bool.and_self, ↓reduceIte, xAp, List.set_cons_succ, List.set_cons_zero, xAi, xAE, xAg, xAj, xAd, xIt, xA1, List.getD_cons_succ, xAQ, xAl, xAP, xA5, List.getElem?_cons_zero, xAz, List.drop_succ_cons, List.drop_zero, List.take_succ_cons, List.take_zero, xAV, xBi, List.map_cons, List.map_nil, xAZ, xBI, List.mapM_cons, xBE, List.mapM_nil, Option.pure_def, Option.bind_eq_bind, Option.bind_some, xAY, hw, xAX, xCZ, xBU, xBb, xBH, List.getElem?_cons_succ, xA3, xBd, List.drop_nil, List.append_nil, xAR, xBl, xBr, xBf, xDg, xEc, xIs, xAs, xBe, xIe, h, xA0, xAH, xBK, decide_true, xAq, xAn, List.take_nil, xAO, xBa, xAx, xAF, xAU, xAr, xAt, xAW]
    rfl
  · obtain ⟨G', st', e1, i1, s1, p1⟩ := xXa (z := z) ht hx hl hb hE hS _ [] hI (by simp)
    rw [xRY] at e1
    unfold LN at e1
    rcases p1 with ⟨h, _⟩ | ⟨_, rfl⟩
    · omega
    · have hpos : ¬ t.length = 0 := by
        intro h0
        cases hS with
        | some hm _ _ => omega
      have hpos' : (((t.length : Nat) : Int) = 0) = False := eq_false (by omega)
      obtain ⟨v, d2, dO⟩ := i1.own
      rcases dO with ⟨_, h⟩ | ⟨k, r', k2, rfl, hk⟩
      · simp at h
      · simp only [List.nil_append, List.cons_append, List.length_cons, List.length_nil, Nat.zero_add] at d2 hk
        rw [yCR, a87, xAT]
        simp (maxSteps := 30000000) (disch := first | assumption | omega | (simp only [List.length_cons, List.length_nil, List.length_append, List.length_set, List.length_replicate, List.length_map, List.length_range, List.length_take, List.length_drop, List.all_cons, List.all_nil, AV.isCell, Bool.and_self, Bool.and_true, xAh, xAb, xAe, xAa, xAC, xAB] <;> omega) | rfl | decide) only [xAI, List.length_cons, List.length_nil, Nat.zero_add, Nat.reduceAdd, Nat.reduceSub, xB8, List.cons_append, List.nil_append, xAo, xAf, xAc, xAk, xBn, AV.cells, opv, List.getD_cons_zero, List.all_cons, AV.isCell, List.all_nil, Bool.and_self, ↓reduceIte, xAp, List.set_cons_succ, List.set_cons_zero, xAi, xAE, xAg, xAj, xAd, xIt, xA1, List.getD_cons_succ, xAQ, xAl, xAP, xA5, List.getElem?_cons_zero, xAz, List.drop_succ_cons, List.drop_zero, List.take_succ_cons, List.take_zero, xAV, xBi, List.map_cons, List.map_nil, xAZ, xBI, List.mapM_cons, xBE, List.mapM_nil, Option.pure_def, Option.bind_eq_bind, Option.bind_some, xAY, hw, xAX, xCZ, xBU, xBb, xBH, List.getElem?_cons_succ, xA3, xBd, List.drop_nil, List.append_nil, xAR, xBl, xBr, xBf, xEc, xIs, xAs, xBe, xIe, e1, xA0, xAH, xBK, hpos', decide_false, xAq, xAn, Bool.false_eq_true, xAG, d2, List.take_nil, xA4, xBV, Int.toNat_zero, Nat.mul_one, Nat.add_zero, hk, xCT, xW6, xAO, xAx, xAF, xAU, xAr, xAt, xAW]

theorem xRZ {w : Nat} (hw : w < 18446744073709551616) : ∃ z l, L.pcall 93 [.int .u64 (w : Nat)] = some (sw z l) ∧ HasSet (sw z l) (fun j => decide (j < 64) && w.testBit j) := by
  have h1 : HasSet (sw false [w]) (fun j => decide (j < 64) && w.testBit j) := by
    refine ⟨false, [w], rfl, ?_, by simp, fun j => ?_⟩
    · intro x hx
      simp only [List.mem_singleton] at hx
      rw [hx]; exact hw
    · unfold mem
      by_cases c : j < 64
      · rw [show j / 64 = 0 by omega, show j % 64 = j by omega]
        simp [c, show j < 4096 by omega]
      · have : ([w] : List Nat).getD (j / 64) 0 = 0 := xE6 (by simp; omega)
        rw [this]; simp [c]
  obtain ⟨z, l, h2, h3⟩ := xMx h1 (xMw (z := true))
  have h4 : L.pcall 95 [.sl false 1 [.int .u64 (w : Nat)]] = some (sw z l) := by
    have h2' : L.pcall 117 [.sl false 1 [.int .u64 (w : Nat)], .sl true 0 []] = some (sw z l) := h2
    rw [yCS, a95, xAT]
    simp (maxSteps := 30000000) (disch := first | assumption | omega | (simp only [List.length_cons, List.length_nil, List.length_append, List.length_set, List.length_replicate, List.length_map, List.length_range, List.length_take, List.length_drop, List.all_cons, List.all_nil, AV.isCell, Bool.and_self, Bool.and_true, xAh, xAb, xAe, xAa, xAC, xAB] <;> omega) | rfl | decide) only [xAI, List.length_cons, List.length_nil, Nat.zero_add, Nat.reduceSub, xB8, List.cons_append, List.nil_append, xAo, xAf, xAc, xAk, xAE, opv, xAp, List.set_cons_succ, List.set_cons_zero, xAi, xAg, xAj, xAd, List.getD_cons_zero, xBi, List.map_cons, List.getD_cons_succ, List.map_nil, xAZ, xBI, List.mapM_cons, xBE, List.mapM_nil, Option.pure_def, Option.bind_eq_bind, Option.bind_some, xAY, h2', xAX, xCZ, xBU, Bool.false_eq_true, ↓reduceIte, xCz, List.flatMap_cons, xDk, List.flatMap_nil, List.append_nil, List.foldl_nil, xAO, xAx, xAF, xAU, xAr, xAt]
  refine ⟨z, l, ?_, h3.congr (fun j => by simp)⟩
  rw [yDZ, a93, xAT]
  simp (maxSteps := 30000000) (disch := first | assumption | omega | (simp only [List.length_cons, List.length_nil, List.length_append, List.length_set, List.length_replicate, List.length_map, List.length_range, List.length_take, List.length_drop, List.all_cons, List.all_nil, AV.isCell, Bool.and_self, Bool.and_true, xAh, xAb, xAe, xAa, xAC, xAB] <;> omega) | rfl | decide) only [xAI, List.length_cons, List.length_nil, Nat.zero_add, Nat.reduceSub, xB8, List.cons_append, List.nil_append, xAo, xAf, xAc, xAk, xAE, opv, xAp, List.set_cons_succ, List.set_cons_zero, xAi, xAg, xAj, xAd, List.getD_cons_zero, xCc, AV.cells, List.all_cons, List.getD_cons_succ, beq_self_eq_true, List.all_nil, Bool.and_self, ↓reduceIte, xDM, List.append_nil, Nat.mul_one, List.map_cons, List.map_nil, xCp, Nat.le_refl, AV.isCell, and_self, xBd, List.take_zero, List.drop_succ_cons, List.drop_nil, xCb, xCn, xBI, List.flatMap_cons, xBR, List.flatMap_nil, List.isEmpty_nil, List.mapM_cons, xAW, List.mapM_nil, Option.pure_def, Option.bind_eq_bind, Option.bind_some, xB5, xAl, xBi, xAZ, xBE, xAY, h4, xAX, xCZ, xBU, Bool.false_eq_true, xCz, xDk, List.foldl_nil, xAO, xAx, xAF, xAU, xAr, xAt]
end Go.Abs.Det

/- both, States, Accepts. -/
namespace Go.Abs.Det
open Go Go.Abs
set_option linter.unusedSimpArgs false
set_option linter.unusedVariables false

structure TyA (n : Aut) : Prop where
  st : n.st.length < 1099511627776
  fi : n.fi.length < 1099511627776
  rl : n.rl.length < 1099511627776
  u8 : ∀ e ∈ n.rl, e.p < 256 ∧ e.n < 256

structure Valid (n : Aut) : Prop where
  v0 : 0 ≤ n.vars
  v3 : n.vars ≤ 3
  s0 : 0 ≤ n.states
  s64 : n.states ≤ 64
  rl : n.rl.length ≤ 512
  st : xOz n.states (-1) n.st = true
  fi : xOz n.states (-1) n.fi = true
  ru : xFg n.states n.vars.toNat n.rl = 0

theorem chkE_zero {n : Aut} : xMK n = 0 ↔ Valid n := by
  have g : ∀ l, xEN n.states l = 0 ↔ xOz n.states (-1) l = true := fun l => by unfold xEN; split <;> simp_all
  unfold xMK
  constructor
  · intro h
    split at h
    · omega
    · split at h
      · omega
      · split at h
        · omega
        · split at h
          · rename_i c1 c2 c3 c4
            exact ⟨by omega, by omega, by omega, by omega, by omega, (g _).1 c4.1, (g _).1 c4.2, h⟩
          · omega
  · rintro ⟨v0, v3, s0, s64, rl, st, fi, ru⟩
    rw [if_neg (by omega), if_neg (by omega), if_neg (by omega), if_pos ⟨(g _).2 st, (g _).2 fi⟩, ru]

theorem xKQ {s : Int} : ∀ {l : List Int} {last : Int}, xOz s last l = true → ∀ q ∈ l, last < q ∧ q < s
  | [], _, _, q, h => by simp at h
  | a :: t, last, h, q, hq => by
    unfold xOz at h
    split at h
    · cases h
    · rcases List.mem_cons.1 hq with rfl | hq
      · omega
      · have := xKQ h q hq
        omega

theorem xKh {s : Int} {v : Nat} : ∀ {l : List Rl}, xFg s v l = 0 → ∀ e ∈ l, xJx s v e = 0
  | [], _, e, h => by simp at h
  | a :: t, h, e, he => by
    unfold xFg at h
    split at h
    · rcases List.mem_cons.1 he with rfl | he
      · assumption
      · exact xKh h e he
    · contradiction

theorem Valid.sts {n : Aut} (h : Valid n) : ∀ q ∈ n.st, 0 ≤ q ∧ q < 64 := fun q hq => by
  have := xKQ h.st q hq
  have := h.s64
  omega
theorem Valid.fis {n : Aut} (h : Valid n) : ∀ q ∈ n.fi, 0 ≤ q ∧ q < 64 := fun q hq => by
  have := xKQ h.fi q hq
  have := h.s64
  omega
theorem Valid.rule {n : Aut} (h : Valid n) : ∀ e ∈ n.rl, (0 ≤ e.l ∧ e.l < n.states) ∧ (0 ≤ e.r ∧ e.r < n.states) ∧ (0 ≤ e.t ∧ e.t < n.states) := fun e he => by
  have h1 := xKh h.ru e he
  unfold xJx at h1
  split at h1
  · omega
  · omega
theorem Valid.ok {n : Aut} (h : Valid n) (hT : TyA n) : xNp n.rl := fun e he => by
  have h1 := h.rule e he
  have h2 := h.s64
  have h3 := hT.u8 e he
  omega

theorem xXb (n : Aut) (z : Bool) (t : List Lf) (hT : TyA n) (ht : t.length < 1099511627776) (hx : ∀ e ∈ t, e.x < 256) :
    ∃ e : Int, L.pcall 86 [n.av, tw z t] = some (.int .i64 e) ∧ (e = 0 → Valid n ∧ (∀ e ∈ t, e.x >>> n.vars.toNat = 0) ∧ ∃ T, xEj t T) := by
  have h1 := xFY n hT.st hT.fi hT.rl hT.u8
  by_cases c : xMK n = 0
  · have hV := chkE_zero.1 c
    obtain ⟨v, hv⟩ : ∃ v : Nat, n.vars = (v : Nat) := ⟨n.vars.toNat, by have := hV.v0; omega⟩
    have htv : n.vars.toNat = v := by omega
    obtain ⟨e, h2, h3⟩ := xRT z t v (by have := hV.v3; omega) ht hx
    rw [c] at h1
    refine ⟨e, ?_, fun h => ⟨hV, by rw [htv]; exact (h3 h).1, (h3 h).2⟩⟩
    rw [yAa, a86, xAT]
    rw [← hv] at h2
    simp (maxSteps := 30000000) (disch := first | assumption | omega | (simp only [List.length_cons, List.length_nil, List.length_append, List.length_set, List.length_replicate, List.length_map, List.length_range, List.length_take, List.length_drop, List.all_cons, List.all_nil, AV.isCell, Bool.and_self, Bool.and_true, xAh, xAb, xAe, xAa, xAC, xAB] <;> omega) | rfl | decide) only [xAI, List.length_cons, List.length_nil, Nat.zero_add, Nat.reduceAdd, Nat.reduceSub, xB8, List.cons_append, List.nil_append, xAo, xAf, xAc, xAk, xBn, AV.cells, opv, List.getD_cons_zero, List.all_cons, AV.isCell, List.all_nil, Bool.and_self, ↓reduceIte, xAp, List.set_cons_succ, List.set_cons_zero, xAi, xAE, xAg, xAj, xAd, xAP, List.getD_cons_succ, xA5, List.getElem?_cons_zero, xAz, List.drop_zero, List.take_succ_cons, List.take_nil, xBs, xAl, xBi, List.map_cons, List.map_nil, xAZ, xBI, List.mapM_cons, xBQ, xAW, xBE, List.mapM_nil, Option.pure_def, Option.bind_eq_bind, Option.bind_some, Option.map_some, xAY, h1, xAX, xCZ, xBU, xAH, xA8, decide_true, Bool.not_true, xAq, xAn, Bool.false_eq_true, xAG, xA1, xAQ, Nat.add_zero, List.take_zero, xAV, h2, xAO, xAx, xAF, xAU, xAr, xAt]
  · refine ⟨xMK n, ?_, fun h => (c h).elim⟩
    rw [yAa, a86, xAT]
    simp (maxSteps := 30000000) (disch := first | assumption | omega | (simp only [List.length_cons, List.length_nil, List.length_append, List.length_set, List.length_replicate, List.length_map, List.length_range, List.length_take, List.length_drop, List.all_cons, List.all_nil, AV.isCell, Bool.and_self, Bool.and_true, xAh, xAb, xAe, xAa, xAC, xAB] <;> omega) | rfl | decide) only [xAI, List.length_cons, List.length_nil, Nat.zero_add, Nat.reduceAdd, Nat.reduceSub, xB8, List.cons_append, List.nil_append, xAo, xAf, xAc, xAk, xBn, AV.cells, opv, List.getD_cons_zero, List.all_cons, AV.isCell, List.all_nil, Bool.and_self, ↓reduceIte, xAp, List.set_cons_succ, List.set_cons_zero, xAi, xAE, xAg, xAj, xAd, xAP, List.getD_cons_succ, xA5, List.getElem?_cons_zero, xAz, List.drop_zero, List.take_succ_cons, List.take_nil, xBs, xAl, xBi, List.map_cons, List.map_nil, xAZ, xBI, List.mapM_cons, xBQ, xAW, xBE, List.mapM_nil, Option.pure_def, Option.bind_eq_bind, Option.bind_some, Option.map_some, xAY, h1, xAX, xCZ, xBU, xAH, xA8, c, decide_false, Bool.not_false, xAq, xAn, xAO, xBa, xAx, xAF, xAU, xAr, xAt]

def evA (n : Aut) (T : BT) : Nat := ev (xDi 0 n.st) n.rl T

theorem xZN {a b : Nat} : a &&& b ≠ 0 ↔ ∃ j, a.testBit j = true ∧ b.testBit j = true := by
  constructor
  · intro h
    obtain ⟨j, hj⟩ := Nat.exists_testBit_ne_of_ne h
    rw [Nat.zero_testBit, Nat.testBit_and] at hj
    exact ⟨j, by simpa using hj⟩
  · rintro ⟨j, h1, h2⟩ h
    have : (a &&& b).testBit j = true := by rw [Nat.testBit_and, h1, h2]; rfl
    rw [h, Nat.zero_testBit] at this
    cases this

theorem xZO (n : Aut) (z : Bool) (t : List Lf) (hT : TyA n) (ht : t.length < 1099511627776) (hx : ∀ e ∈ t, e.x < 256) :
    ∃ (e : Int) (zz : Bool) (l : List Nat) (b : Bool), L.pcall 48 [n.av, tw z t] = some (.tup [sw zz l, .int .i64 e]) ∧ L.pcall 44 [n.av, tw z t] = some (.tup [.bool b, .int .i64 e]) ∧
      (e ≠ 0 → zz = true ∧ l = [] ∧ b = false) ∧
      (e = 0 → Valid n ∧ (∃ T, xEj t T) ∧ ∀ T, xEj t T → HasSet (sw zz l) (fun j => decide (j < 64) && (evA n T).testBit j) ∧ (b = true ↔ ∃ j, (evA n T).testBit j = true ∧ n.fi.contains (j : Int) = true)) := by
  obtain ⟨e, h1, h2⟩ := xXb n z t hT ht hx
  by_cases c : e = 0
  · subst c
    obtain ⟨hV, -, T, hF⟩ := h2 rfl
    have hs : ∀ T, xEj t T → L.pcall 87 [n.av, tw z t] = some (.int .u64 (evA n T : Nat)) := fun T hF => xMB ht hx hT.rl (hV.ok hT) hT.st hV.sts hF
    have hlt : ∀ T, evA n T < 18446744073709551616 := fun T => xTX (xFZ _ _ (by omega) hV.sts) (hV.ok hT) T
    have h49 := hs T hF
    have same : ∀ T', xEj t T' → evA n T' = evA n T := fun T' hF' => by
      have h := (hs T' hF').symm.trans h49
      injection h with h
      injection h with _ h
      omega
    have hw := xRV n.z2 n.fi hT.fi hV.fis
    have hwl := xFZ n.fi 0 (by omega) hV.fis
    have hand := xTN (hlt T) hwl
    obtain ⟨zz, l, h5, h6⟩ := xRZ (hlt T)
    have hb : ((((evA n T &&& xDi 0 n.fi : Nat) : Int) = 0)) = (evA n T &&& xDi 0 n.fi = 0) := propext ⟨fun h => by omega, fun h => by omega⟩
    refine ⟨0, zz, l, !decide (evA n T &&& xDi 0 n.fi = 0), ?_, ?_, fun h => (h rfl).elim, fun _ => ⟨hV, ⟨T, hF⟩, fun T' hF' => ?_⟩⟩
    · rw [xZ9, a48, xAT]
      simp (maxSteps := 30000000) (disch := first | assumption | omega | (simp only [List.length_cons, List.length_nil, List.length_append, List.length_set, List.length_replicate, List.length_map, List.length_range, List.length_take, List.length_drop, List.all_cons, List.all_nil, AV.isCell, Bool.and_self, Bool.and_true, xAh, xAb, xAe, xAa, xAC, xAB] <;> omega) | rfl | decide) only [xAI, List.length_cons, List.length_nil, Nat.zero_add, Nat.reduceAdd, Nat.reduceSub, xB8, List.cons_append, List.nil_append, xAo, xAf, xAc, xAk, xBn, AV.cells, opv, List.getD_cons_zero, List.all_cons, AV.isCell, List.all_nil, Bool.and_self, ↓reduceIte, xAp, List.set_cons_succ, List.set_cons_zero, xAi, xAE, xAg, xAj, xAd, xAP, List.getD_cons_succ, xA5, List.getElem?_cons_zero, xAz, List.drop_zero, List.take_succ_cons, List.take_nil, xBs, xAl, xBi, List.map_cons, List.map_nil, xAZ, xBI, List.mapM_cons, xBQ, xAW, xBE, List.mapM_nil, Option.pure_def, Option.bind_eq_bind, Option.bind_some, Option.map_some, xAY, h1, xAX, xCZ, xBU, xAH, xA8, decide_true, Bool.not_true, xAq, xAn, Bool.false_eq_true, xAG, h49, h5, xCz, List.flatMap_cons, xBR, List.flatMap_nil, List.append_nil, List.foldl_nil, xAO, xAx, xCH, xCG, xAU, xCF, xC5, xAr, xAt, xDS]
    · rw [yCN, a44, xAT]
      simp (maxSteps := 30000000) (disch := first | assumption | omega | (simp only [List.length_cons, List.length_nil, List.length_append, List.length_set, List.length_replicate, List.length_map, List.length_range, List.length_take, List.length_drop, List.all_cons, List.all_nil, AV.isCell, Bool.and_self, Bool.and_true, xAh, xAb, xAe, xAa, xAC, xAB] <;> omega) | rfl | decide) only [xAI, List.length_cons, List.length_nil, Nat.zero_add, Nat.reduceAdd, Nat.reduceSub, xB8, List.cons_append, List.nil_append, xAo, xAf, xAc, xAk, xBn, AV.cells, opv, List.getD_cons_zero, List.all_cons, AV.isCell, List.all_nil, Bool.and_self, ↓reduceIte, xAp, List.set_cons_succ, List.set_cons_zero, xAi, xAE, xAg, xAj, xAd, xAP, List.getD_cons_succ, xA5, List.getElem?_cons_zero, xAz, List.drop_zero, List.take_succ_cons, List.take_nil, xBs, xAl, xBi, List.map_cons, List.map_nil, xAZ, xBI, List.mapM_cons, xBQ, xAW, xBE, List.mapM_nil, Option.pure_def, Option.bind_eq_bind, Option.bind_some, Option.map_some, xAY, h1, xAX, xCZ, xBU, xAH, xA8, decide_true, Bool.not_true, xAq, xAn, Bool.false_eq_true, xAG, xBT, List.take_zero, xBg, xBo, xB4, xBB, xBM, xBA, xCU, xEU, h49, xCo, xCd, List.flatMap_cons, xEv, xBR, xDk, List.flatMap_nil, List.append_nil, Bool.or_true, xCs, xA1, xAQ, List.drop_succ_cons, xAV, xBp, xBz, xCJ, xBG, hw, xCP, hand, hb, xAO, xAx, xCH, xCG, xAU, xCF, xC5, xAr, xAt, xDS, xB2]
    · rw [same T' hF']
      refine ⟨h6, ?_⟩
      have h0 : ∀ q ∈ n.fi, 0 ≤ q := fun q hq => (hV.fis q hq).1
      rw [show ((!decide (evA n T &&& xDi 0 n.fi = 0)) = true ↔ evA n T &&& xDi 0 n.fi ≠ 0) from by simp, xZN]
      constructor
      · rintro ⟨j, a, b⟩
        rw [xJk _ _ _ h0, Nat.zero_testBit, Bool.false_or] at b
        exact ⟨j, a, b⟩
      · rintro ⟨j, a, b⟩
        exact ⟨j, a, by rw [xJk _ _ _ h0, Nat.zero_testBit, Bool.false_or]; exact b⟩
  · refine ⟨e, true, [], false, ?_, ?_, fun _ => ⟨rfl, rfl, rfl⟩, fun h => (c h).elim⟩
    · rw [xZ9, a48, xAT]
      simp (maxSteps := 30000000) (disch := first | assumption | omega | (simp only [List.length_cons, List.length_nil, List.length_append, List.length_set, List.length_replicate, List.length_map, List.length_range, List.length_take, List.length_drop, List.all_cons, List.all_nil, AV.isCell, Bool.and_self, Bool.and_true, xAh, xAb, xAe, xAa, xAC, xAB] <;> omega) | rfl | decide) only [xAI, List.length_cons, List.length_nil, Nat.zero_add, Nat.reduceAdd, Nat.reduceSub, xB8, List.cons_append, List.nil_append, xAo, xAf, xAc, xAk, xBn, AV.cells, opv, List.getD_cons_zero, List.all_cons, AV.isCell, List.all_nil, Bool.and_self, ↓reduceIte, xAp, List.set_cons_succ, List.set_cons_zero, xAi, xAE, xAg, xAj, xAd, xAP, List.getD_cons_succ, xA5, List.getElem?_cons_zero, xAz, List.drop_zero, List.take_succ_cons, List.take_nil, xBs, xAl, xBi, List.map_cons, List.map_nil, xAZ, xBI, List.mapM_cons, xBQ, xAW, xBE, List.mapM_nil, Option.pure_def, Option.bind_eq_bind, Option.bind_some, Option.map_some, xAY, h1, xAX, xCZ, xBU, xAH, xA8, c, decide_false, Bool.not_false, xAq, xAn, xAO, xBa, xAx, xCH, xCG, xAU, xCF, xC5, xAr, xAt, xDS]
      rfl
    · rw [yCN, a44, xAT]
      simp (maxSteps := 30000000) (disch := first | assumption | omega | (simp only [List.length_cons, List.length_nil, List.length_append, List.length_set, List.length_replicate, List.length_map, List.length_range, List.length_take, List.length_drop, List.all_cons, List.all_nil, AV.isCell, Bool.and_self, Bool.and_true, xAh, xAb, xAe, xAa, xAC, xAB] <;> omega) | rfl | decide) only [xAI, List.length_cons, List.length_nil, Nat.zero_add, Nat.reduceAdd, Nat.reduceSub, xB8, List.cons_append, List.nil_append, xAo, xAf, xAc, xAk, xBn, AV.cells, opv, List.getD_cons_zero, List.all_cons, AV.isCell, List.all_nil, Bool.and_self, ↓reduceIte, xAp, List.set_cons_succ, List.set_cons_zero, xAi, xAE, xAg, xAj, xAd, xAP, List.getD_cons_succ, xA5, List.getElem?_cons_zero, xAz, List.drop_zero, List.take_succ_cons, List.take_nil, xBs, xAl, xBi, List.map_cons, List.map_nil, xAZ, xBI, List.mapM_cons, xBQ, xAW, xBE, List.mapM_nil, Option.pure_def, Option.bind_eq_bind, Option.bind_some, Option.map_some, xAY, h1, xAX, xCZ, xBU, xAH, xA8, c, decide_false, Bool.not_false, xAq, xAn, xAO, xBa, xAx, xCH, xCG, xAU, xCF, xC5, xAr, xAt, xDS, xB2]
end Go.Abs.Det

/- formed, Check and both, exactly; States and Accepts with the exact error. -/
namespace Go.Abs.Det
open Go Go.Abs
set_option linter.unusedSimpArgs false
set_option linter.unusedVariables false

open Classical in
open Classical in
noncomputable def xHs (n : Aut) (t : List Lf) : Int := if xMK n = 0 then xE4 t n.vars.toNat else xMK n
theorem bothE_zero {n : Aut} {t : List Lf} : xHs n t = 0 ↔ Valid n ∧ t.length ≤ 31 ∧ (∀ e ∈ t, e.x >>> n.vars.toNat = 0) ∧ ∃ T, xEj t T := by
  unfold xHs xE4
  rw [← chkE_zero, ← labOk_iff, ← formedB_iff]
  by_cases c : xMK n = 0
  · rw [if_pos c]
    by_cases c1 : 31 < t.length
    · rw [if_pos c1]
      exact ⟨fun h => by omega, fun h => by omega⟩
    · rw [if_neg c1]
      cases xTF t n.vars.toNat <;> cases xGv t <;> simp [c] <;> omega
  · rw [if_neg c]
    exact ⟨fun h => (c h).elim, fun h => (c h.1).elim⟩

theorem xXc (n : Aut) (z : Bool) (t : List Lf) (hT : TyA n) (ht : t.length < 1099511627776) (hx : ∀ e ∈ t, e.x < 256) :
    L.pcall 86 [n.av, tw z t] = some (.int .i64 (xHs n t)) := by
  have h1 := xFY n hT.st hT.fi hT.rl hT.u8
  unfold xHs
  by_cases c : xMK n = 0
  · have hV := chkE_zero.1 c
    obtain ⟨v, hv⟩ : ∃ v : Nat, n.vars = (v : Nat) := ⟨n.vars.toNat, by have := hV.v0; omega⟩
    have htv : n.vars.toNat = v := by omega
    have h2 := xMt z t v (by have := hV.v3; omega) ht hx
    rw [c] at h1
    rw [if_pos c, htv, yAa, a86, xAT]
    rw [← hv] at h2
    simp (maxSteps := 30000000) (disch := first | assumption | omega | (simp only [List.length_cons, List.length_nil, List.length_append, List.length_set, List.length_replicate, List.length_map, List.length_range, List.length_take, List.length_drop, List.all_cons, List.all_nil, AV.isCell, Bool.and_self, Bool.and_true, xAh, xAb, xAe, xAa, xAC, xAB] <;> omega) | rfl | decide) only [xAI, List.length_cons, List.length_nil, Nat.zero_add, Nat.reduceAdd, Nat.reduceSub, xB8, List.cons_append, List.nil_append, xAo, xAf, xAc, xAk, xBn, AV.cells, opv, List.getD_cons_zero, List.all_cons, AV.isCell, List.all_nil, Bool.and_self, ↓reduceIte, xAp, List.set_cons_succ, List.set_cons_zero, xAi, xAE, xAg, xAj, xAd, xAP, List.getD_cons_succ, xA5, List.getElem?_cons_zero, xAz, List.drop_zero, List.take_succ_cons, List.take_nil, xBs, xAl, xBi, List.map_cons, List.map_nil, xAZ, xBI, List.mapM_cons, xBQ, xAW, xBE, List.mapM_nil, Option.pure_def, Option.bind_eq_bind, Option.bind_some, Option.map_some, xAY, h1, xAX, xCZ, xBU, xAH, xA8, decide_true, Bool.not_true, xAq, xAn, Bool.false_eq_true, xAG, xA1, xAQ, Nat.add_zero, List.take_zero, xAV, h2, xAO, xAx, xAF, xAU, xAr, xAt]
  · rw [if_neg c, yAa, a86, xAT]
    simp (maxSteps := 30000000) (disch := first | assumption | omega | (simp only [List.length_cons, List.length_nil, List.length_append, List.length_set, List.length_replicate, List.length_map, List.length_range, List.length_take, List.length_drop, List.all_cons, List.all_nil, AV.isCell, Bool.and_self, Bool.and_true, xAh, xAb, xAe, xAa, xAC, xAB] <;> omega) | rfl | decide) only [xAI, List.length_cons, List.length_nil, Nat.zero_add, Nat.reduceAdd, Nat.reduceSub, xB8, List.cons_append, List.nil_append, xAo, xAf, xAc, xAk, xBn, AV.cells, opv, List.getD_cons_zero, List.all_cons, AV.isCell, List.all_nil, Bool.and_self, ↓reduceIte, xAp, List.set_cons_succ, List.set_cons_zero, xAi, xAE, xAg, xAj, xAd, xAP, List.getD_cons_succ, xA5, List.getElem?_cons_zero, xAz, List.drop_zero, List.take_succ_cons, List.take_nil, xBs, xAl, xBi, List.map_cons, List.map_nil, xAZ, xBI, List.mapM_cons, xBQ, xAW, xBE, List.mapM_nil, Option.pure_def, Option.bind_eq_bind, Option.bind_some, Option.map_some, xAY, h1, xAX, xCZ, xBU, xAH, xA8, c, decide_false, Bool.not_false, xAq, xAn, xAO, xBa, xAx, xAF, xAU, xAr, xAt]

theorem xZP (n : Aut) (z : Bool) (t : List Lf) (hT : TyA n) (ht : t.length < 1099511627776) (hx : ∀ e ∈ t, e.x < 256) :
    ∃ (zz : Bool) (l : List Nat) (b : Bool), L.pcall 48 [n.av, tw z t] = some (.tup [sw zz l, .int .i64 (xHs n t)]) ∧ L.pcall 44 [n.av, tw z t] = some (.tup [.bool b, .int .i64 (xHs n t)]) ∧
      (xHs n t ≠ 0 → zz = true ∧ l = [] ∧ b = false) ∧
      (xHs n t = 0 → ∀ T, xEj t T → HasSet (sw zz l) (fun j => decide (j < 64) && (evA n T).testBit j) ∧ (b = true ↔ ∃ j, (evA n T).testBit j = true ∧ n.fi.contains (j : Int) = true)) := by
  obtain ⟨e, zz, l, b, s1, s2, s3, s4⟩ := xZO n z t hT ht hx
  have hb := xXc n z t hT ht hx
  have he : xHs n t = e := by
    by_cases c : xHs n t = 0
    · obtain ⟨hV, -, -, T, hF⟩ := bothE_zero.1 c
      have h49 := xMB (z := z) ht hx hT.rl (hV.ok hT) hT.st hV.sts hF
      obtain ⟨zz', l', h5, -⟩ := xRZ (xTX (xFZ n.st 0 (by omega) hV.sts) (hV.ok hT) T)
      have : L.pcall 48 [n.av, tw z t] = some (.tup [sw zz' l', .int .i64 0]) := by
        rw [c] at hb
        rw [xZ9, a48, xAT]
        simp (maxSteps := 30000000) (disch := first | assumption | omega | (simp only [List.length_cons, List.length_nil, List.length_append, List.length_set, List.length_replicate, List.length_map, List.length_range, List.length_take, List.length_drop, List.all_cons, List.all_nil, AV.isCell, Bool.and_self, Bool.and_true, xAh, xAb, xAe, xAa, xAC, xAB] <;> omega) | rfl | decide) only [xAI, List.length_cons, List.length_nil, Nat.zero_add, Nat.reduceAdd, Nat.reduceSub, xB8, List.cons_append, List.nil_append, xAo, xAf, xAc, xAk, xBn, AV.cells, opv, List.getD_cons_zero, List.all_cons, AV.isCell, List.all_nil, Bool.and_self, ↓reduceIte, xAp, List.set_cons_succ, List.set_cons_zero, xAi, xAE, xAg, xAj, xAd, xAP, List.getD_cons_succ, xA5, List.getElem?_cons_zero, xAz, List.drop_zero, List.take_succ_cons, List.take_nil, xBs, xAl, xBi, List.map_cons, List.map_nil, xAZ, xBI, List.mapM_cons, xBQ, xAW, xBE, List.mapM_nil, Option.pure_def, Option.bind_eq_bind, Option.bind_some, Option.map_some, xAY, hb, xAX, xCZ, xBU, xAH, xA8, decide_true, Bool.not_true, xAq, xAn, Bool.false_eq_true, xAG, h49, h5, xCz, List.flatMap_cons, xBR, List.flatMap_nil, List.append_nil, List.foldl_nil, xAO, xAx, xCH, xCG, xAU, xCF, xC5, xAr, xAt, xDS]
      rw [s1] at this
      simp only [Option.some.injEq, AV.tup.injEq, List.cons.injEq, AV.int.injEq] at this
      omega
    · have : L.pcall 48 [n.av, tw z t] = some (.tup [.sl true 0 [], .int .i64 (xHs n t)]) := by
        rw [xZ9, a48, xAT]
        simp (maxSteps := 30000000) (disch := first | assumption | omega | (simp only [List.length_cons, List.length_nil, List.length_append, List.length_set, List.length_replicate, List.length_map, List.length_range, List.length_take, List.length_drop, List.all_cons, List.all_nil, AV.isCell, Bool.and_self, Bool.and_true, xAh, xAb, xAe, xAa, xAC, xAB] <;> omega) | rfl | decide) only [xAI, List.length_cons, List.length_nil, Nat.zero_add, Nat.reduceAdd, Nat.reduceSub, xB8, List.cons_append, List.nil_append, xAo, xAf, xAc, xAk, xBn, AV.cells, opv, List.getD_cons_zero, List.all_cons, AV.isCell, List.all_nil, Bool.and_self, ↓reduceIte, xAp, List.set_cons_succ, List.set_cons_zero, xAi, xAE, xAg, xAj, xAd, xAP, List.getD_cons_succ, xA5, List.getElem?_cons_zero, xAz, List.drop_zero, List.take_succ_cons, List.take_nil, xBs, xAl, xBi, List.map_cons, List.map_nil, xAZ, xBI, List.mapM_cons, xBQ, xAW, xBE, List.mapM_nil, Option.pure_def, Option.bind_eq_bind, Option.bind_some, Option.map_some, xAY, hb, xAX, xCZ, xBU, xAH, xA8, c, decide_false, Bool.not_false, xAq, xAn, xAO, xBa, xAx, xCH, xCG, xAU, xCF, xC5, xAr, xAt, xDS]
      rw [s1] at this
      simp only [Option.some.injEq, AV.tup.injEq, List.cons.injEq, AV.int.injEq] at this
      omega
  rw [he]
  exact ⟨zz, l, b, s1, s2, s3, fun h T hF => (s4 h).2.2 T hF⟩
end Go.Abs.Det

/- Copies, small. -/
namespace Go.Abs.Det
open Go Go.Abs
set_option linter.unusedSimpArgs false
set_option linter.unusedVariables false

theorem xXd (l : List Rl) : (rls l).all xCA = true := by
  induction l with
  | nil => rfl
  | cons e l ih =>
    have : rls (e :: l) = xHr e ++ rls l := rfl
    rw [this, List.all_append, ih]; rfl
theorem xXe (d : Nat) (H : xAA) (l : List Rl) : (rls l).mapM (frz d H) = some (rls l) := by
  induction l with
  | nil => rfl
  | cons e l ih =>
    have : rls (e :: l) = .int .i64 e.l :: .int .i64 e.r :: .int .i64 e.t :: .int .u8 (e.p : Nat) :: .int .u8 (e.n : Nat) :: rls l := rfl
    rw [this]
    simp only [List.mapM_cons, xAW, ih]
    rfl
theorem xU9 (z : Bool) (l : List Int) (hl : l.length < 1099511627776) : L.pcall 47 [iw z l] = some (iw (l.length == 0) l) := by
  rw [yDH, a47, xAT]
  simp (maxSteps := 30000000) (disch := first | assumption | omega | (simp only [List.length_cons, List.length_nil, List.length_append, List.length_set, List.length_replicate, List.length_map, List.length_range, List.length_take, List.length_drop, List.all_cons, List.all_nil, AV.isCell, Bool.and_self, Bool.and_true, xAh, xAb, xAe, xAa, xAC, xAB] <;> omega) | rfl | decide) only [xAI, List.length_cons, List.length_nil, Nat.zero_add, Nat.reduceSub, xB8, List.cons_append, List.nil_append, xAo, xAf, xAc, xAk, xAE, opv, xAp, List.set_cons_succ, List.set_cons_zero, xAi, xAg, xAj, xAd, List.getD_cons_zero, xB1, List.getD_cons_succ, xDx, xDw, xCO, xAO, xAx, xAF, xAU, xAr, xAt, xBI, xFn, List.getElem?_cons_zero, xDj, Nat.mul_one, List.drop_zero, xB7, List.take_length, xH1, xB5]
theorem xXf (z : Bool) (l : List Rl) (hl : l.length < 1099511627776) : L.pcall 108 [.sl z l.length (rls l)] = some (.sl (l.length == 0) l.length (rls l)) := by
  have htk : List.take (l.length * 5) (rls l) = rls l := List.take_of_length_le (by rw [xAB]; omega)
  rw [yBa, xYd, xAT]
  simp (maxSteps := 30000000) (disch := first | assumption | omega | (simp only [List.length_cons, List.length_nil, List.length_append, List.length_set, List.length_replicate, List.length_map, List.length_range, List.length_take, List.length_drop, List.all_cons, List.all_nil, AV.isCell, Bool.and_self, Bool.and_true, xAh, xAb, xAe, xAa, xAC, xAB] <;> omega) | rfl | decide) only [xAI, List.length_cons, List.length_nil, Nat.zero_add, Nat.reduceSub, xB8, List.cons_append, List.nil_append, xAo, xAf, xAc, xAk, xAE, opv, xAp, List.set_cons_succ, List.set_cons_zero, xAi, xAg, xAj, xAd, List.getD_cons_zero, xB1, List.getD_cons_succ, xDx, xDw, xCO, xAO, xAx, xAF, xAU, xAr, xAt, xBI, xFn, List.getElem?_cons_zero, xDj, List.drop_zero, htk, xXe, xB5]

theorem xTY (z : Bool) (l : List Rl) (hl : l.length < 1099511627776) : xEu L 108 [.sl z l.length (rls l)] = some (.own (l.length == 0) 0 0 l.length 5, [.cells false (l.length == 0) (rls l)]) := by
  have htk : List.take (l.length * 5) (rls l) = rls l := List.take_of_length_le (by rw [xAB]; omega)
  rw [xLJ, yBb, xYd, xAI]
  simp (maxSteps := 30000000) (disch := first | assumption | omega | (simp only [List.length_cons, List.length_nil, List.length_append, List.length_set, List.length_replicate, List.length_map, List.length_range, List.length_take, List.length_drop, List.all_cons, List.all_nil, AV.isCell, Bool.and_self, Bool.and_true, xAh, xAb, xAe, xAa, xAC, xAB] <;> omega) | rfl | decide) only [List.append_nil, List.length_cons, List.length_nil, Nat.zero_add, Nat.reduceSub, xB8, List.cons_append, List.nil_append, xAo, xAf, xAc, xAk, xAE, opv, xAp, List.set_cons_succ, List.set_cons_zero, xAi, xAg, xAj, xAd, List.getD_cons_zero, xB1, List.getD_cons_succ, xDx, xDw, xCO, xAO, xAx, xAF, xAU, xAr, xIy, xIz, xLK, List.getElem?_cons_zero, xLL, xQx, xXd, ↓reduceIte, Option.map_some, List.map_cons, List.map_nil]

theorem xR0 (z : Bool) (l : List Int) (hl : l.length < 1099511627776) : xEu L 47 [iw z l] = some (.own (l.length == 0) 0 0 l.length 1, [.cells false (l.length == 0) (xCK l)]) := by
  have htk : List.take l.length l = l := List.take_length
  rw [xLJ, yDI, a47, xAI]
  simp (maxSteps := 30000000) (disch := first | assumption | omega | (simp only [List.length_cons, List.length_nil, List.length_append, List.length_set, List.length_replicate, List.length_map, List.length_range, List.length_take, List.length_drop, List.all_cons, List.all_nil, AV.isCell, Bool.and_self, Bool.and_true, xAh, xAb, xAe, xAa, xAC, xAB] <;> omega) | rfl | decide) only [List.append_nil, List.length_cons, List.length_nil, Nat.zero_add, Nat.reduceSub, xB8, List.cons_append, List.nil_append, xAo, xAf, xAc, xAk, xAE, opv, xAp, List.set_cons_succ, List.set_cons_zero, xAi, xAg, xAj, xAd, List.getD_cons_zero, xB1, List.getD_cons_succ, xDx, xDw, xCO, xAO, xAx, xAF, xAU, xAr, xIy, xIz, xLK, List.getElem?_cons_zero, xLL, xQx, xTQ, ↓reduceIte, Option.map_some, List.map_cons, List.map_nil]

abbrev cpA (n : Aut) : Aut := ⟨n.vars, n.states, n.st.length == 0, n.st, n.fi.length == 0, n.fi, n.rl.length == 0, n.rl⟩
theorem xZQ (n : Aut) (h1 : n.st.length < 1099511627776) (h2 : n.fi.length < 1099511627776) (h3 : n.rl.length < 1099511627776) : L.pcall 72 [n.av] = some (cpA n).av := by
  have k1 := xU9 n.z1 n.st h1
  have k2 := xU9 n.z2 n.fi h2
  have k3 := xXf n.z3 n.rl h3
  have k4 := xTY n.z3 n.rl h3
  have htk : List.take (n.rl.length * 5) (rls n.rl) = rls n.rl := List.take_of_length_le (by rw [xAB]; omega)
  have k5 := xR0 n.z1 n.st h1
  have k6 := xR0 n.z2 n.fi h2
  have t1 : List.take n.st.length n.st = n.st := List.take_length
  have t2 : List.take n.fi.length n.fi = n.fi := List.take_length
  rw [yDO, a72, xAT]
  simp (maxSteps := 30000000) (disch := first | assumption | omega | (simp only [List.length_cons, List.length_nil, List.length_append, List.length_set, List.length_replicate, List.length_map, List.length_range, List.length_take, List.length_drop, List.all_cons, List.all_nil, AV.isCell, Bool.and_self, Bool.and_true, xAh, xAb, xAe, xAa, xAC, xAB] <;> omega) | rfl | decide) only [xAI, List.length_cons, List.length_nil, Nat.zero_add, Nat.reduceSub, xB8, List.cons_append, List.nil_append, xAo, xAf, xAc, xAk, xBn, AV.cells, opv, List.getD_cons_zero, List.all_cons, AV.isCell, List.all_nil, Bool.and_self, ↓reduceIte, xAp, List.set_cons_succ, List.set_cons_zero, xAi, xAg, xAj, xAd, xBT, List.take_succ_cons, List.take_zero, xBg, xBo, xCs, xA1, List.getD_cons_succ, xAQ, Nat.add_zero, xAl, xBB, xBM, xBA, xB4, xAP, xA5, List.getElem?_cons_zero, xAz, List.drop_zero, xAV, List.drop_succ_cons, xEU, List.map_cons, List.map_nil, xAZ, xBI, List.mapM_cons, xBE, List.mapM_nil, Option.pure_def, Option.bind_eq_bind, Option.bind_some, xAY, k1, xAX, xCZ, xBU, Bool.false_eq_true, xCz, List.flatMap_cons, xDk, List.flatMap_nil, List.append_nil, List.foldl_nil, xCo, xCd, Bool.or_true, k2, List.take_nil, k3, xBp, xBz, xCJ, xBG, xCB, beq_self_eq_true, xCp, Nat.reduceAdd, Nat.reduceLeDiff, and_self, xBd, Nat.le_refl, List.drop_nil, Option.map_some, xBb, xBH, List.getElem?_cons_succ, xA3, xAR, xBl, xAO, xAx, xAF, xFP, xD3, xJt, xAr, xAt, xBQ, xAW]

end Go.Abs.Det

/- The law's automaton: small. -/
namespace Go.Abs.Det
open Go Go.Abs
set_option linter.unusedSimpArgs false
set_option linter.unusedVariables false

abbrev smA (n : Aut) : Aut := ⟨n.vars, n.states, n.z1, n.st.take 70, n.z2, n.fi.take 70, n.z3, n.rl.take 60⟩
theorem xXg (n : Aut) : L.pcall 36 [n.av] = some (cpA (smA n)).av := by
  have h := xZQ (smA n) (by simp; omega) (by simp; omega) (by simp; omega)
  have e1 : min ((n.st.length : Nat) : Int) 70 = ((n.st.take 70).length : Nat) := by rw [List.length_take]; omega
  have e2 : min ((n.fi.length : Nat) : Int) 70 = ((n.fi.take 70).length : Nat) := by rw [List.length_take]; omega
  have e3 : min ((n.rl.length : Nat) : Int) 60 = ((n.rl.take 60).length : Nat) := by rw [List.length_take]; omega
  have t1 : List.take (n.st.take 70).length n.st = n.st.take 70 := xHZ ..
  have t2 : List.take (n.fi.take 70).length n.fi = n.fi.take 70 := xHZ ..
  have t3 : List.take ((n.rl.take 60).length * 5) (rls n.rl) = rls (n.rl.take 60) := by
    unfold rls
    rw [xJd (enc := xHr) (k := 5) (fun _ => rfl)]
    rw [xHZ]
  have l1 : (n.st.take 70).length ≤ n.st.length := by rw [List.length_take]; omega
  have l2 : (n.fi.take 70).length ≤ n.fi.length := by rw [List.length_take]; omega
  have l3 : (n.rl.take 60).length ≤ n.rl.length := by rw [List.length_take]; omega
  have c1 : (n.st.take 70).length ≤ 70 := by rw [List.length_take]; omega
  have c2 : (n.fi.take 70).length ≤ 70 := by rw [List.length_take]; omega
  have c3 : (n.rl.take 60).length ≤ 60 := by rw [List.length_take]; omega
  dsimp only [smA, cpA, Aut.av, Aut.cells, iw] at h ⊢
  generalize n.st.take 70 = st at *
  generalize n.fi.take 70 = fi at *
  generalize n.rl.take 60 = rl at *
  rw [yDF, a36, xAT]
  simp (maxSteps := 30000000) (disch := first | assumption | omega | (simp only [List.length_cons, List.length_nil, List.length_append, List.length_set, List.length_replicate, List.length_map, List.length_range, List.length_take, List.length_drop, List.all_cons, List.all_nil, AV.isCell, Bool.and_self, Bool.and_true, xAh, xAb, xAe, xAa, xAC, xAB] <;> omega) | rfl | decide) only [xAI, List.length_cons, List.length_nil, Nat.zero_add, Nat.reduceSub, xB8, List.cons_append, List.nil_append, xAo, xAf, xAc, xAk, xBn, AV.cells, opv, List.getD_cons_zero, List.all_cons, AV.isCell, List.all_nil, Bool.and_self, ↓reduceIte, xAp, List.set_cons_succ, List.set_cons_zero, xAi, xAg, xAj, xAd, xA1, List.getD_cons_succ, xAQ, xAl, xAP, xA5, List.getElem?_cons_zero, xAz, List.drop_succ_cons, List.drop_zero, List.take_succ_cons, List.take_zero, xAV, xBr, xBf, xET, xDW, e1, xDt, Option.map_none, Option.map_some, xDu, xDv, Int.toNat_natCast, xER, Nat.sub_zero, Nat.mul_one, xB7, t1, xBb, xBH, xA3, xBd, Nat.reduceAdd, xAR, xBl, e2, t2, List.take_nil, e3, Nat.reduceMul, t3, List.drop_nil, List.append_nil, xBs, xBi, List.map_cons, List.map_nil, xAZ, xBI, List.mapM_cons, xBQ, xAW, xBE, List.mapM_nil, Option.pure_def, Option.bind_eq_bind, Option.bind_some, xAY, h, xAX, xCZ, xBU, Bool.and_true, Bool.and_false, Bool.false_eq_true, xCz, List.flatMap_cons, xEv, xBR, xDk, List.flatMap_nil, List.foldl_nil, List.getElem?_cons_succ, xAO, xAx, xAF, xFP, xD3, xJt, xAr, xAt]
end Go.Abs.Det
