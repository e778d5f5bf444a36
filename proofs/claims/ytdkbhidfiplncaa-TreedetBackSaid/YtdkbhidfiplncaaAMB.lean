/- Sets of numbers as words: bitset. -/
import Derived.Test.YtdkbhidfiplncaaAMD
namespace Go.Abs.Det
open Go Go.Abs
set_option linter.unusedSimpArgs false
set_option linter.unusedVariables false


abbrev sw (z : Bool) (l : List Nat) : AV := .sl z l.length (w64 l)
def W (l : List Nat) : Prop := ∀ x ∈ l, x < 18446744073709551616

theorem W.get {l : List Nat} (h : W l) (i : Nat) : l.getD i 0 < 18446744073709551616 := by
  rw [List.getD_eq_getElem?_getD]
  cases e : l[i]? with
  | none => simp
  | some x => exact h x (List.mem_of_getElem? e)

end Go.Abs.Det

/- Sets by what they hold. -/
namespace Go.Abs.Det
open Go Go.Abs
set_option linter.unusedSimpArgs false
set_option linter.unusedVariables false

def mem (l : List Nat) (j : Nat) : Bool := decide (j < 4096) && (l.getD (j / 64) 0).testBit (j % 64)

def HasSet (v : AV) (S : Nat → Bool) : Prop := ∃ z l, v = sw z l ∧ W l ∧ l.length < 1099511627776 ∧ ∀ j, mem l j = S j

theorem HasSet.out {v : AV} {S : Nat → Bool} (h : HasSet v S) {j : Nat} (hj : 4096 ≤ j) : S j = false := by
  obtain ⟨z, l, rfl, _, _, h⟩ := h
  rw [← h j]
  simp [mem, show ¬ j < 4096 by omega]

theorem HasSet.congr {v : AV} {S T : Nat → Bool} (h : HasSet v S) (e : ∀ j, S j = T j) : HasSet v T := by
  obtain ⟨z, l, rfl, w, hl, h⟩ := h
  exact ⟨z, l, rfl, w, hl, fun j => (h j).trans (e j)⟩

theorem xNX {x y : Nat} (hx : x < 18446744073709551616) (hy : y < 18446744073709551616) : x ||| y < 18446744073709551616 := by
  have : x ||| y < 2 ^ 64 := Nat.or_lt_two_pow (by omega) (by omega)
  omega

end Go.Abs.Det

/- Of, Equal; automata as values; cubes; words. -/
namespace Go.Abs.Det
open Go Go.Abs
set_option linter.unusedSimpArgs false
set_option linter.unusedVariables false

end Go.Abs.Det

/- Cubes. -/
namespace Go.Abs.Det
open Go Go.Abs
set_option linter.unusedSimpArgs false
set_option linter.unusedVariables false

def xQs (p n x : Nat) : Bool := decide (x &&& p = p) && decide (x &&& n = 0)

theorem xX0 (p n x : Nat) (hp : p < 256) (hn : n < 256) (hx : x < 256) : L.pcall 113 [.agg [.int .u8 (p : Nat), .int .u8 (n : Nat)], .int .u8 (x : Nat)] = some (.bool (xQs p n x)) := by
  have h1 := xWo hx hp
  have h2 := xWo hx hn
  have e1 : (((x &&& p : Nat) : Int) = ((p : Nat) : Int)) = (x &&& p = p) := propext ⟨fun h => by omega, fun h => by omega⟩
  have e2 : (((x &&& n : Nat) : Int) = 0) = (x &&& n = 0) := propext ⟨fun h => by omega, fun h => by omega⟩
  unfold xQs
  rw [yCp, yBh, xA7]
  by_cases c1 : x &&& p = p <;> by_cases c2 : x &&& n = 0 <;> simp (maxSteps := 30000000) (disch := first | assumption | omega | (simp only [List.length_cons, List.length_nil, List.length_append, List.length_set, List.length_replicate, List.length_map, List.length_range, List.length_take, List.length_drop, List.all_cons, List.all_nil, AV.isCell, Bool.and_self, Bool.and_true, xAh, xAb, xAe, xAa] <;> omega) | rfl | decide) only [xAU, List.length_cons, List.length_nil, Nat.zero_add, Nat.reduceAdd, Nat.reduceSub, xCL, List.cons_append, List.nil_append, xAp, xAf, xAc, xAk, xBz, AV.cells, opv, List.getD_cons_zero, List.all_cons, AV.isCell, List.all_nil, Bool.and_self, ↓reduceIte, xAq, List.set_cons_succ, List.set_cons_zero, xAi, xAA, xAg, xAj, xAd, List.getD_cons_succ, xAV, xAB, Nat.add_zero, xAl, xAJ, xA1, List.getElem?_cons_zero, xAt, List.drop_zero, List.take_succ_cons, List.take_zero, xAO, xAy, xCS, h1, c1, xBM, decide_true, xAM, xAD, List.drop_succ_cons, List.take_nil, h2, c2, xD8, xBb, xAN, xAW, xAI, xAR, xA2, xAw, xAQ, xBL, xB2, e2, decide_false, Bool.and_false, e1, Bool.false_eq_true, xCy, Bool.and_true]

def xGp (v p n : Nat) : Int := if 2 ^ v ≤ p ||| n then 7 else if p &&& n = 0 then 0 else 2

theorem yFt {v : Nat} (hv : v ≤ 6) : IntKind.i64.wrap (1 * 2 ^ min v IntKind.i64.bits) = ((2 ^ v : Nat) : Int) := by
  have : v = 0 ∨ v = 1 ∨ v = 2 ∨ v = 3 ∨ v = 4 ∨ v = 5 ∨ v = 6 := by omega
  rcases this with rfl | rfl | rfl | rfl | rfl | rfl | rfl <;> rfl

theorem xSt (v p n : Nat) (hv : v ≤ 6) (hp : p < 256) (hn : n < 256) : L.pcall 90 [.agg [.int .u8 (p : Nat), .int .u8 (n : Nat)], .int .i64 (v : Nat)] = some (.int .i64 (xGp v p n)) := by
  have h1 := or8 hp hn
  have h2 := xWo hp hn
  have h3 : ¬ ((6 : Int) < (v : Nat)) := by omega
  have hor : p ||| n < 256 := by
    have := Nat.or_lt_two_pow (x := p) (y := n) (n := 8) (by omega) (by omega)
    omega
  have e1 : (((2 ^ v : Nat) : Int) ≤ ((p ||| n : Nat) : Int)) = (2 ^ v ≤ p ||| n) := propext ⟨fun h => by omega, fun h => by omega⟩
  have e2 : (((p &&& n : Nat) : Int) = 0) = (p &&& n = 0) := propext ⟨fun h => by omega, fun h => by omega⟩
  have hsh := yFt hv
  unfold xGp
  rw [yE0, a90, xA7]
  by_cases c1 : 2 ^ v ≤ p ||| n
  · simp (maxSteps := 30000000) (disch := first | assumption | omega | (simp only [List.length_cons, List.length_nil, List.length_append, List.length_set, List.length_replicate, List.length_map, List.length_range, List.length_take, List.length_drop, List.all_cons, List.all_nil, AV.isCell, Bool.and_self, Bool.and_true, xAh, xAb, xAe, xAa] <;> omega) | rfl | decide) only [xAU, List.length_cons, List.length_nil, Nat.zero_add, Nat.reduceAdd, Nat.reduceSub, xCL, List.cons_append, List.nil_append, xAp, xAf, xAc, xAk, xBz, AV.cells, opv, List.getD_cons_zero, List.all_cons, AV.isCell, List.all_nil, Bool.and_self, ↓reduceIte, xAq, List.set_cons_succ, List.set_cons_zero, xAi, xAA, xAg, xAj, xAd, xAr, List.getD_cons_succ, xAy, xAz, xYx, decide_false, xAl, xAM, xAD, xCm, h3, xBb, xAN, Bool.false_eq_true, xAo, xAn, xBI, List.take_succ_cons, List.take_zero, xA5, xBf, xBY, xAV, xAB, Nat.add_zero, xBq, xBC, xBo, xBR, xAJ, xA1, List.getElem?_cons_zero, xAt, List.drop_zero, xAO, List.drop_succ_cons, List.take_nil, xEa, xIs, h1, xFo, xDW, xCW, xCV, xBe, xBn, xCt, xBy, xDb, Int.toNat_natCast, hsh, xCz, e1, c1, decide_true, xAW, xBs, xBu, xAI, xAR, xA2, xAw, xAQ, xBL, xA0]
  · by_cases c2 : p &&& n = 0 <;> simp (maxSteps := 30000000) (disch := first | assumption | omega | (simp only [List.length_cons, List.length_nil, List.length_append, List.length_set, List.length_replicate, List.length_map, List.length_range, List.length_take, List.length_drop, List.all_cons, List.all_nil, AV.isCell, Bool.and_self, Bool.and_true, xAh, xAb, xAe, xAa] <;> omega) | rfl | decide) only [xAU, List.length_cons, List.length_nil, Nat.zero_add, Nat.reduceAdd, Nat.reduceSub, xCL, List.cons_append, List.nil_append, xAp, xAf, xAc, xAk, xBz, AV.cells, opv, List.getD_cons_zero, List.all_cons, AV.isCell, List.all_nil, Bool.and_self, ↓reduceIte, xAq, List.set_cons_succ, List.set_cons_zero, xAi, xAA, xAg, xAj, xAd, xAr, List.getD_cons_succ, xAy, xAz, xYx, decide_false, xAl, xAM, xAD, xCm, h3, xBb, xAN, Bool.false_eq_true, xAo, xAn, xBI, List.take_succ_cons, List.take_zero, xA5, xBf, xBY, xAV, xAB, Nat.add_zero, xBq, xBC, xBo, xBR, xAJ, xA1, List.getElem?_cons_zero, xAt, List.drop_zero, xAO, List.drop_succ_cons, List.take_nil, xEa, xIs, h1, xFo, xDW, xCW, xCV, xBe, xBn, xCt, xBy, xDb, Int.toNat_natCast, hsh, xCz, e1, c1, xCS, h2, c2, xD8, xBm, decide_true, Bool.not_true, xAx, xAs, xAW, xAI, xAR, xA2, xAw, xAQ, xBL, xA0, e2, Bool.not_false, xBs, xBu]
end Go.Abs.Det

/- Automata and trees as values; the lists of states; Check. -/
namespace Go.Abs.Det
open Go Go.Abs
set_option linter.unusedSimpArgs false
set_option linter.unusedVariables false

structure Rl where
  l : Int
  r : Int
  t : Int
  p : Nat
  n : Nat
def rl0 : Rl := ⟨0, 0, 0, 0, 0⟩
def xGr (e : Rl) : List AV := [.int .i64 e.l, .int .i64 e.r, .int .i64 e.t, .int .u8 (e.p : Nat), .int .u8 (e.n : Nat)]
def rls (l : List Rl) : List AV := rows xGr l
theorem xAE (l : List Rl) : (rls l).length = l.length * 5 := xJc (enc := xGr) (k := 5) (fun _ => rfl) l
theorem xFJ {l : List Rl} {i : Nat} (h : i < l.length) : List.take 5 (List.drop (i * 5) (rls l)) = [.int .i64 (l.getD i rl0).l, .int .i64 (l.getD i rl0).r, .int .i64 (l.getD i rl0).t, .int .u8 ((l.getD i rl0).p : Nat), .int .u8 ((l.getD i rl0).n : Nat)] := by
  unfold rls
  rw [xJd (enc := xGr) (k := 5) (fun _ => rfl), List.drop_eq_getElem_cons h]
  have : l.getD i rl0 = l[i] := by simp [List.getD, List.getElem?_eq_getElem h]
  rw [this]
  rfl
theorem xGV {l : List Rl} {i : Nat} (h : i < l.length) : l.drop i = l.getD i rl0 :: l.drop (i + 1) := by
  rw [List.drop_eq_getElem_cons h]
  simp [List.getD, List.getElem?_eq_getElem h]
theorem xHX {l : List Rl} {i : Nat} (h : i < l.length) : l.getD i rl0 ∈ l := by
  rw [List.getD_eq_getElem?_getD, List.getElem?_eq_getElem h]
  exact List.getElem_mem _

structure Aut where
  vars : Int
  states : Int
  z1 : Bool
  st : List Int
  z2 : Bool
  fi : List Int
  z3 : Bool
  rl : List Rl

abbrev Aut.cells (n : Aut) : List AV := [.int .i64 n.vars, .int .i64 n.states, iw n.z1 n.st, iw n.z2 n.fi, .sl n.z3 n.rl.length (rls n.rl)]
abbrev Aut.av (n : Aut) : AV := .agg n.cells

def xK9 (s : Int) : Int → List Int → Bool
  | _, [] => true
  | last, q :: t => if q ≤ last ∨ s ≤ q then false else xK9 s q t

theorem xPn {s : Int} {z : Bool} {l : List Int} {s4 : AV} {H : xAu} (hl : l.length < 1099511627776) : ∀ d i last, i + d = l.length →
    ∃ (last' : Int) (i' : Nat), L.loop xMb xTB ⟨xJJ (.int .i64 s) s4 (.int .i64 last) (iw z l) (.int .i64 (l.length : Nat)) (.int .i64 (i : Nat)), H⟩ =
      some (if xK9 s last (l.drop i) = true then (.exit 0, ⟨xJJ (.int .i64 s) s4 (.int .i64 last') (iw z l) (.int .i64 (l.length : Nat)) (.int .i64 (l.length : Nat)), H⟩)
        else (.ret, ⟨xJJ (.int .i64 s) (.int .i64 8) (.int .i64 last') (iw z l) (.int .i64 (l.length : Nat)) (.int .i64 (i' : Nat)), H⟩))
  | 0, i, last, h => by
    obtain rfl : i = l.length := by omega
    refine ⟨last, 0, ?_⟩
    rw [if_pos (by rw [List.drop_length]; rfl), xOO]
    simp (maxSteps := 30000000) (disch := first | assumption | omega | (simp only [List.length_cons, List.length_nil, List.length_append, List.length_set, List.length_replicate, List.length_map, List.length_range, List.length_take, List.length_drop, List.all_cons, List.all_nil, AV.isCell, Bool.and_self, Bool.and_true, xAh, xAb, xAe, xAa, xAE] <;> omega) | rfl | decide) only [xIe, xAp, xAf, xAc, xAk, xAy, opv, List.getD_cons_succ, List.getD_cons_zero, xAz, Int.lt_irrefl, decide_false, xAl, xAq, List.set_cons_succ, List.set_cons_zero, xAi, xAg, xAj, xAd, xAo, xAn, Bool.false_eq_true, ↓reduceIte, xBt, xBc, xA3, xIf]
  | d + 1, i, last, h => by
    have hlt : (i : Int) < (l.length : Nat) := by omega
    rw [xGR (by omega : i < l.length)]
    by_cases c1 : l.getD i 0 ≤ last
    · refine ⟨last, i, ?_⟩
      have ea : xK9 s last (l.getD i 0 :: l.drop (i + 1)) = false := if_pos (.inl c1)
      rw [ea, if_neg (by simp), xOO]
      simp (maxSteps := 30000000) (disch := first | assumption | omega | (simp only [List.length_cons, List.length_nil, List.length_append, List.length_set, List.length_replicate, List.length_map, List.length_range, List.length_take, List.length_drop, List.all_cons, List.all_nil, AV.isCell, Bool.and_self, Bool.and_true, xAh, xAb, xAe, xAa, xAE] <;> omega) | rfl | decide) only [xIe, xAp, xAf, xAc, xAk, xAy, opv, List.getD_cons_succ, List.getD_cons_zero, xAz, hlt, decide_true, xAl, xAq, List.set_cons_succ, List.set_cons_zero, xAi, xAg, xAj, xAd, xAo, xAn, ↓reduceIte, xAx, xAr, xAZ, xAY, Int.toNat_natCast, Nat.mul_one, xAJ, xBj, xB1, xBW, xCr, xBV, Nat.add_zero, xAO, xAA, xDV, c1, xAM, xAD, Bool.true_eq_false, xCy, xBb, xAN, xAW, xBu, xBs, xCs, xIf]
    · by_cases c2 : s ≤ l.getD i 0
      · refine ⟨last, i, ?_⟩
        have ea : xK9 s last (l.getD i 0 :: l.drop (i + 1)) = false := if_pos (.inr c2)
        rw [ea, if_neg (by simp), xOO]
        simp (maxSteps := 30000000) (disch := first | assumption | omega | (simp only [List.length_cons, List.length_nil, List.length_append, List.length_set, List.length_replicate, List.length_map, List.length_range, List.length_take, List.length_drop, List.all_cons, List.all_nil, AV.isCell, Bool.and_self, Bool.and_true, xAh, xAb, xAe, xAa, xAE] <;> omega) | rfl | decide) only [xIe, xAp, xAf, xAc, xAk, xAy, opv, List.getD_cons_succ, List.getD_cons_zero, xAz, hlt, decide_true, xAl, xAq, List.set_cons_succ, List.set_cons_zero, xAi, xAg, xAj, xAd, xAo, xAn, ↓reduceIte, xAx, xAr, xAZ, xAY, Int.toNat_natCast, Nat.mul_one, xAJ, xBj, xB1, xBW, xCr, xBV, Nat.add_zero, xAO, xAA, xDV, c1, decide_false, xAM, xAD, xCz, c2, xBb, xAN, Bool.false_eq_true, xAW, xBu, xBs, xCs, xIf]
      · obtain ⟨last', i', ih⟩ := xPn (s := s) (z := z) (s4 := s4) (H := H) hl d (i + 1) (l.getD i 0) (by omega)
        refine ⟨last', i', ?_⟩
        have ea : xK9 s last (l.getD i 0 :: l.drop (i + 1)) = xK9 s (l.getD i 0) (l.drop (i + 1)) := if_neg (by omega)
        rw [ea, xOO]
        by_cases e : xK9 s (l.getD i 0) (l.drop (i + 1)) = true
        · rw [if_pos e] at ih ⊢
          simp (maxSteps := 30000000) (disch := first | assumption | omega | (simp only [List.length_cons, List.length_nil, List.length_append, List.length_set, List.length_replicate, List.length_map, List.length_range, List.length_take, List.length_drop, List.all_cons, List.all_nil, AV.isCell, Bool.and_self, Bool.and_true, xAh, xAb, xAe, xAa, xAE] <;> omega) | rfl | decide) only [xIe, xAp, xAf, xAc, xAk, xAy, opv, List.getD_cons_succ, List.getD_cons_zero, xAz, hlt, decide_true, xAl, xAq, List.set_cons_succ, List.set_cons_zero, xAi, xAg, xAj, xAd, xAo, xAn, ↓reduceIte, xAx, xAr, xAZ, xAY, Int.toNat_natCast, Nat.mul_one, xAJ, xBj, xB1, xBW, xCr, xBV, Nat.add_zero, xAO, xAA, xDV, c1, decide_false, xAM, xAD, xCz, c2, xBb, xAN, Bool.false_eq_true, xAs, xBa, xCi, xCV, xAv, xIf, ih]
        · rw [if_neg e] at ih ⊢
          simp (maxSteps := 30000000) (disch := first | assumption | omega | (simp only [List.length_cons, List.length_nil, List.length_append, List.length_set, List.length_replicate, List.length_map, List.length_range, List.length_take, List.length_drop, List.all_cons, List.all_nil, AV.isCell, Bool.and_self, Bool.and_true, xAh, xAb, xAe, xAa, xAE] <;> omega) | rfl | decide) only [xIe, xAp, xAf, xAc, xAk, xAy, opv, List.getD_cons_succ, List.getD_cons_zero, xAz, hlt, decide_true, xAl, xAq, List.set_cons_succ, List.set_cons_zero, xAi, xAg, xAj, xAd, xAo, xAn, ↓reduceIte, xAx, xAr, xAZ, xAY, Int.toNat_natCast, Nat.mul_one, xAJ, xBj, xB1, xBW, xCr, xBV, Nat.add_zero, xAO, xAA, xDV, c1, decide_false, xAM, xAD, xCz, c2, xBb, xAN, Bool.false_eq_true, xAs, xBa, xCi, xCV, xAv, xIf, ih]

def xEH (s : Int) (l : List Int) : Int := if xK9 s (-1) l = true then 0 else 8
theorem xVX (s : Int) (z : Bool) (l : List Int) (hl : l.length < 1099511627776) : L.pcall 89 [iw z l, .int .i64 s] = some (.int .i64 (xEH s l)) := by
  obtain ⟨last', i', h⟩ := xPn (s := s) (z := z) (s4 := .int .i64 0) (H := []) hl l.length 0 (-1) (by omega)
  simp only [Int.natCast_zero, List.drop_zero] at h
  unfold xEH
  rw [yEZ, a89, xA7]
  by_cases e : xK9 s (-1) l = true
  · rw [if_pos e] at h ⊢
    simp (maxSteps := 30000000) (disch := first | assumption | omega | (simp only [List.length_cons, List.length_nil, List.length_append, List.length_set, List.length_replicate, List.length_map, List.length_range, List.length_take, List.length_drop, List.all_cons, List.all_nil, AV.isCell, Bool.and_self, Bool.and_true, xAh, xAb, xAe, xAa, xAE] <;> omega) | rfl | decide) only [Int.reduceNeg, xAU, List.length_cons, List.length_nil, Nat.zero_add, Nat.reduceAdd, Nat.reduceSub, xCL, List.cons_append, List.nil_append, xAp, xAf, xAc, xAk, xAA, opv, xAq, List.set_cons_succ, List.set_cons_zero, xAi, xAg, xAj, xAd, List.getD_cons_zero, xBk, List.getD_cons_succ, xA8, xAl, xAr, xA6, xIf, h, xAS, ↓reduceIte, xAW, xAI, xAR, xA2, xAw, xAQ, xBL, xA0]
  · rw [if_neg e] at h ⊢
    simp (maxSteps := 30000000) (disch := first | assumption | omega | (simp only [List.length_cons, List.length_nil, List.length_append, List.length_set, List.length_replicate, List.length_map, List.length_range, List.length_take, List.length_drop, List.all_cons, List.all_nil, AV.isCell, Bool.and_self, Bool.and_true, xAh, xAb, xAe, xAa, xAE] <;> omega) | rfl | decide) only [Int.reduceNeg, xAU, List.length_cons, List.length_nil, Nat.zero_add, Nat.reduceAdd, Nat.reduceSub, xCL, List.cons_append, List.nil_append, xAp, xAf, xAc, xAk, xAA, opv, xAq, List.set_cons_succ, List.set_cons_zero, xAi, xAg, xAj, xAd, List.getD_cons_zero, xBk, List.getD_cons_succ, xA8, xAl, xAr, xA6, xIf, h, xBs, xBu, xAI, xAR, xA2, xAw, xAQ, xBL, xA0]

def xHL (s : Int) (v : Nat) (e : Rl) : Int := if min (min e.l e.r) e.t < 0 ∨ s ≤ max (max e.l e.r) e.t then 8 else xGp v e.p e.n
def xEI (s : Int) (v : Nat) : List Rl → Int
  | [] => 0
  | e :: t => if xHL s v e = 0 then xEI s v t else xHL s v e
theorem xJi {s : Int} {v : Nat} {e : Rl} {t : List Rl} (h : xHL s v e ≠ 0) : xEI s v (e :: t) = xHL s v e := if_neg h
theorem xM3 {s : Int} {v : Nat} {e : Rl} {t : List Rl} (h : xHL s v e = 0) : xEI s v (e :: t) = xEI s v t := if_pos h

theorem xQc (n : Aut) {s2 : AV} (h1 : n.st.length < 1099511627776) (h2 : n.fi.length < 1099511627776) :
    ∃ i' : AV, L.loop xJC xQK ⟨xHq (.ptr 0 0) s2 (.agg [iw n.z1 n.st, iw n.z2 n.fi]) (.int .i64 0), [.cells false false n.cells]⟩ =
      some (if xEH n.states n.st = 0 ∧ xEH n.states n.fi = 0 then (.exit 1, ⟨xHq (.ptr 0 0) s2 (.agg [iw n.z1 n.st, iw n.z2 n.fi]) (.int .i64 2), [.cells false false n.cells]⟩)
        else (.ret, ⟨xHq (.ptr 0 0) (.int .i64 8) (.agg [iw n.z1 n.st, iw n.z2 n.fi]) i', [.cells false false n.cells]⟩)) := by
  have e1 := xVX n.states n.z1 n.st h1
  have e2 := xVX n.states n.z2 n.fi h2
  have k2 : L.loop xJC xQK ⟨xHq (.ptr 0 0) s2 (.agg [iw n.z1 n.st, iw n.z2 n.fi]) (.int .i64 2), [.cells false false n.cells]⟩ = some (.exit 1, ⟨xHq (.ptr 0 0) s2 (.agg [iw n.z1 n.st, iw n.z2 n.fi]) (.int .i64 2), [.cells false false n.cells]⟩) := by
    rw [xJD]
    simp (maxSteps := 30000000) (disch := first | assumption | omega | (simp only [List.length_cons, List.length_nil, List.length_append, List.length_set, List.length_replicate, List.length_map, List.length_range, List.length_take, List.length_drop, List.all_cons, List.all_nil, AV.isCell, Bool.and_self, Bool.and_true, xAh, xAb, xAe, xAa, xAE] <;> omega) | rfl | decide) only [xHp, xAp, xAf, xAc, xAk, xAy, opv, List.getD_cons_succ, List.getD_cons_zero, xAz, Int.lt_irrefl, decide_false, xAl, xAq, List.set_cons_succ, List.set_cons_zero, xAi, xAg, xAj, xAd, xAo, xAn, Bool.false_eq_true, ↓reduceIte, xBt, xBc, xA3, xGt]
  have g : ∀ l, xEH n.states l = 0 ∨ xEH n.states l = 8 := fun l => by unfold xEH; split <;> simp
  rcases g n.st with c1 | c1
  · rcases g n.fi with c2 | c2
    · refine ⟨.int .i64 2, ?_⟩
      rw [c1] at e1
      rw [c2] at e2
      rw [if_pos ⟨c1, c2⟩, xJD]
      simp (maxSteps := 30000000) (disch := first | assumption | omega | (simp only [List.length_cons, List.length_nil, List.length_append, List.length_set, List.length_replicate, List.length_map, List.length_range, List.length_take, List.length_drop, List.all_cons, List.all_nil, AV.isCell, Bool.and_self, Bool.and_true, xAh, xAb, xAe, xAa, xAE] <;> omega) | rfl | decide) only [xHp, xAp, xAf, xAc, xAk, xAy, opv, List.getD_cons_succ, List.getD_cons_zero, xAz, Int.reduceLT, decide_true, xAl, xAq, List.set_cons_succ, List.set_cons_zero, xAi, xAg, xAj, xAd, xAo, xAn, ↓reduceIte, xAx, xAr, xDs, xCp, Int.toNat_zero, Nat.mul_one, List.drop_zero, List.take_succ_cons, List.take_zero, xGg, xAA, xAV, xAB, Nat.zero_add, xAJ, xA1, List.getElem?_cons_zero, xAt, List.drop_succ_cons, xAO, xBJ, List.map_cons, List.map_nil, xBi, xBL, List.mapM_cons, xCa, xA0, List.mapM_nil, Option.pure_def, Option.bind_eq_bind, Option.bind_some, xBh, e1, xBg, xDT, xCw, xBm, Bool.not_true, Bool.false_eq_true, xAs, xBa, Int.zero_add, xCV, xAv, xGt]
      rw [xJD]
      simp (maxSteps := 30000000) (disch := first | assumption | omega | (simp only [List.length_cons, List.length_nil, List.length_append, List.length_set, List.length_replicate, List.length_map, List.length_range, List.length_take, List.length_drop, List.all_cons, List.all_nil, AV.isCell, Bool.and_self, Bool.and_true, xAh, xAb, xAe, xAa, xAE] <;> omega) | rfl | decide) only [xHp, xAp, xAf, xAc, xAk, xAy, opv, List.getD_cons_succ, List.getD_cons_zero, xAz, Int.reduceLT, decide_true, xAl, xAq, List.set_cons_succ, List.set_cons_zero, xAi, xAg, xAj, xAd, xAo, xAn, ↓reduceIte, xAx, xAr, xDs, xCp, Int.toNat_one, Nat.mul_one, List.drop_succ_cons, List.drop_zero, List.take_succ_cons, List.take_nil, xGg, xAA, xAV, xAB, Nat.zero_add, xAJ, xA1, List.getElem?_cons_zero, xAt, List.take_zero, xAO, xBJ, List.map_cons, List.map_nil, xBi, xBL, List.mapM_cons, xCa, xA0, List.mapM_nil, Option.pure_def, Option.bind_eq_bind, Option.bind_some, xBh, e2, xBg, xDT, xCw, xBm, Bool.not_true, Bool.false_eq_true, xAs, xBa, Int.reduceAdd, xCV, xAv, xGt, k2]
    · refine ⟨.int .i64 1, ?_⟩
      rw [c1] at e1
      rw [c2] at e2
      rw [if_neg (by omega), xJD]
      simp (maxSteps := 30000000) (disch := first | assumption | omega | (simp only [List.length_cons, List.length_nil, List.length_append, List.length_set, List.length_replicate, List.length_map, List.length_range, List.length_take, List.length_drop, List.all_cons, List.all_nil, AV.isCell, Bool.and_self, Bool.and_true, xAh, xAb, xAe, xAa, xAE] <;> omega) | rfl | decide) only [xHp, xAp, xAf, xAc, xAk, xAy, opv, List.getD_cons_succ, List.getD_cons_zero, xAz, Int.reduceLT, decide_true, xAl, xAq, List.set_cons_succ, List.set_cons_zero, xAi, xAg, xAj, xAd, xAo, xAn, ↓reduceIte, xAx, xAr, xDs, xCp, Int.toNat_zero, Nat.mul_one, List.drop_zero, List.take_succ_cons, List.take_zero, xGg, xAA, xAV, xAB, Nat.zero_add, xAJ, xA1, List.getElem?_cons_zero, xAt, List.drop_succ_cons, xAO, xBJ, List.map_cons, List.map_nil, xBi, xBL, List.mapM_cons, xCa, xA0, List.mapM_nil, Option.pure_def, Option.bind_eq_bind, Option.bind_some, xBh, e1, xBg, xDT, xCw, xBm, Bool.not_true, Bool.false_eq_true, xAs, xBa, Int.zero_add, xCV, xAv, xGt]
      rw [xJD]
      simp (maxSteps := 30000000) (disch := first | assumption | omega | (simp only [List.length_cons, List.length_nil, List.length_append, List.length_set, List.length_replicate, List.length_map, List.length_range, List.length_take, List.length_drop, List.all_cons, List.all_nil, AV.isCell, Bool.and_self, Bool.and_true, xAh, xAb, xAe, xAa, xAE] <;> omega) | rfl | decide) only [xHp, xAp, xAf, xAc, xAk, xAy, opv, List.getD_cons_succ, List.getD_cons_zero, xAz, Int.reduceLT, decide_true, xAl, xAq, List.set_cons_succ, List.set_cons_zero, xAi, xAg, xAj, xAd, xAo, xAn, ↓reduceIte, xAx, xAr, xDs, xCp, Int.toNat_one, Nat.mul_one, List.drop_succ_cons, List.drop_zero, List.take_succ_cons, List.take_nil, xGg, xAA, xAV, xAB, Nat.zero_add, xAJ, xA1, List.getElem?_cons_zero, xAt, List.take_zero, xAO, xBJ, List.map_cons, List.map_nil, xBi, xBL, List.mapM_cons, xCa, xA0, List.mapM_nil, Option.pure_def, Option.bind_eq_bind, Option.bind_some, xBh, e2, xBg, xDT, xCw, xBm, Int.reduceEq, decide_false, Bool.not_false, xAW, xBs, xBu, xCs, xGt]
  · refine ⟨.int .i64 0, ?_⟩
    rw [c1] at e1
    rw [if_neg (by omega), xJD]
    simp (maxSteps := 30000000) (disch := first | assumption | omega | (simp only [List.length_cons, List.length_nil, List.length_append, List.length_set, List.length_replicate, List.length_map, List.length_range, List.length_take, List.length_drop, List.all_cons, List.all_nil, AV.isCell, Bool.and_self, Bool.and_true, xAh, xAb, xAe, xAa, xAE] <;> omega) | rfl | decide) only [xHp, xAp, xAf, xAc, xAk, xAy, opv, List.getD_cons_succ, List.getD_cons_zero, xAz, Int.reduceLT, decide_true, xAl, xAq, List.set_cons_succ, List.set_cons_zero, xAi, xAg, xAj, xAd, xAo, xAn, ↓reduceIte, xAx, xAr, xDs, xCp, Int.toNat_zero, Nat.mul_one, List.drop_zero, List.take_succ_cons, List.take_zero, xGg, xAA, xAV, xAB, Nat.zero_add, xAJ, xA1, List.getElem?_cons_zero, xAt, List.drop_succ_cons, xAO, xBJ, List.map_cons, List.map_nil, xBi, xBL, List.mapM_cons, xCa, xA0, List.mapM_nil, Option.pure_def, Option.bind_eq_bind, Option.bind_some, xBh, e1, xBg, xDT, xCw, xBm, Int.reduceEq, decide_false, Bool.not_false, xAW, xBs, xBu, xCs, xGt]

set_option maxHeartbeats 4000000 in
theorem xKi {n : Aut} {v : Nat} {s2 : AV} (hv : v ≤ 6) (hnv : n.vars = (v : Nat)) (hl : n.rl.length < 1099511627776) (hb : ∀ e ∈ n.rl, e.p < 256 ∧ e.n < 256) : ∀ d i T, i + d = n.rl.length →
    ∃ (T' : xAu) (i' : Nat), L.loop xLA xTn ⟨xJE (.ptr 0 0) s2 (.sl n.z3 n.rl.length (rls n.rl)) (.int .i64 (n.rl.length : Nat)) (.int .i64 (i : Nat)), .cells false false n.cells :: T⟩ =
      some (if xEI n.states v (n.rl.drop i) = 0 then (.exit 3, ⟨xJE (.ptr 0 0) s2 (.sl n.z3 n.rl.length (rls n.rl)) (.int .i64 (n.rl.length : Nat)) (.int .i64 (n.rl.length : Nat)), .cells false false n.cells :: T'⟩)
        else (.ret, ⟨xJE (.ptr 0 0) (.int .i64 (xEI n.states v (n.rl.drop i))) (.sl n.z3 n.rl.length (rls n.rl)) (.int .i64 (n.rl.length : Nat)) (.int .i64 (i' : Nat)), .cells false false n.cells :: T'⟩))
  | 0, i, T, h => by
    obtain rfl : i = n.rl.length := by omega
    refine ⟨T, 0, ?_⟩
    rw [if_pos (by rw [List.drop_length]; rfl), xLB]
    simp (maxSteps := 30000000) (disch := first | assumption | omega | (simp only [List.length_cons, List.length_nil, List.length_append, List.length_set, List.length_replicate, List.length_map, List.length_range, List.length_take, List.length_drop, List.all_cons, List.all_nil, AV.isCell, Bool.and_self, Bool.and_true, xAh, xAb, xAe, xAa, xAE] <;> omega) | rfl | decide) only [xHr, xAp, xAf, xAc, xAk, xAy, opv, List.getD_cons_succ, List.getD_cons_zero, xAz, Int.lt_irrefl, decide_false, xAl, xAq, List.set_cons_succ, List.set_cons_zero, xAi, xAg, xAj, xAd, xAo, xAn, Bool.false_eq_true, ↓reduceIte, xBt, xBc, xA3, xHs]
  | d + 1, i, T, h => by
    have hlt : (i : Int) < (n.rl.length : Nat) := by omega
    have hm := hb _ (xHX (by omega : i < n.rl.length))
    have hcube := xSt v (n.rl.getD i rl0).p (n.rl.getD i rl0).n hv hm.1 hm.2
    rw [xGV (by omega : i < n.rl.length)]
    by_cases c1 : min (min (n.rl.getD i rl0).l (n.rl.getD i rl0).r) (n.rl.getD i rl0).t < 0
    · refine ⟨T ++ [.cells false false (xGr (n.rl.getD i rl0))], i, ?_⟩
      have ee : xHL n.states v (n.rl.getD i rl0) = 8 := if_pos (.inl c1)
      rw [xJi (by rw [ee]; omega), ee, if_neg (by omega), xLB]
      simp (maxSteps := 30000000) (disch := first | assumption | omega | (simp only [List.length_cons, List.length_nil, List.length_append, List.length_set, List.length_replicate, List.length_map, List.length_range, List.length_take, List.length_drop, List.all_cons, List.all_nil, AV.isCell, Bool.and_self, Bool.and_true, xAh, xAb, xAe, xAa, xAE] <;> omega) | rfl | decide) only [xHr, xAp, xAf, xAc, xAk, xAy, opv, List.getD_cons_succ, List.getD_cons_zero, xAz, hlt, decide_true, xAl, xAq, List.set_cons_succ, List.set_cons_zero, xAi, xAg, xAj, xAd, xAo, xAn, ↓reduceIte, xAx, xAr, xAZ, xAY, Int.toNat_natCast, xAJ, xBj, xFJ, xBH, xBz, AV.cells, List.all_cons, AV.isCell, List.all_nil, Bool.and_self, List.length_cons, List.cons_append, xA4, List.length_nil, Nat.zero_add, Nat.reduceAdd, xBE, List.getElem?_cons_succ, xCM, List.getElem?_cons_zero, xAX, xBd, List.take_zero, List.nil_append, List.drop_succ_cons, List.drop_nil, List.append_nil, xDq, xAK, xBl, xAV, xAB, Nat.add_zero, xA1, xAt, List.drop_zero, List.take_succ_cons, xAO, xRr, List.map_cons, List.map_nil, xIC, xIB, c1, xAA, xAM, xAD, Bool.true_eq_false, xCy, xBb, xAN, xAW, xBu, xBs, xCs, xHs, xGr]
    · by_cases c2 : n.states ≤ max (max (n.rl.getD i rl0).l (n.rl.getD i rl0).r) (n.rl.getD i rl0).t
      · refine ⟨T ++ [.cells false false (xGr (n.rl.getD i rl0))], i, ?_⟩
        have ee : xHL n.states v (n.rl.getD i rl0) = 8 := if_pos (.inr c2)
        rw [xJi (by rw [ee]; omega), ee, if_neg (by omega), xLB]
        simp (maxSteps := 30000000) (disch := first | assumption | omega | (simp only [List.length_cons, List.length_nil, List.length_append, List.length_set, List.length_replicate, List.length_map, List.length_range, List.length_take, List.length_drop, List.all_cons, List.all_nil, AV.isCell, Bool.and_self, Bool.and_true, xAh, xAb, xAe, xAa, xAE] <;> omega) | rfl | decide) only [xHr, xAp, xAf, xAc, xAk, xAy, opv, List.getD_cons_succ, List.getD_cons_zero, xAz, hlt, decide_true, xAl, xAq, List.set_cons_succ, List.set_cons_zero, xAi, xAg, xAj, xAd, xAo, xAn, ↓reduceIte, xAx, xAr, xAZ, xAY, Int.toNat_natCast, xAJ, xBj, xFJ, xBH, xBz, AV.cells, List.all_cons, AV.isCell, List.all_nil, Bool.and_self, List.length_cons, List.cons_append, xA4, List.length_nil, Nat.zero_add, Nat.reduceAdd, xBE, List.getElem?_cons_succ, xCM, List.getElem?_cons_zero, xAX, xBd, List.take_zero, List.nil_append, List.drop_succ_cons, List.drop_nil, List.append_nil, xDq, xAK, xBl, xAV, xAB, Nat.add_zero, xA1, xAt, List.drop_zero, List.take_succ_cons, xAO, xRr, List.map_cons, List.map_nil, xIC, xIB, c1, decide_false, xAA, xAM, xAD, xKt, xCz, c2, xBb, xAN, Bool.false_eq_true, xAW, xBu, xBs, xCs, xHs, xGr]
      · have ee : xHL n.states v (n.rl.getD i rl0) = xGp v (n.rl.getD i rl0).p (n.rl.getD i rl0).n := if_neg (by omega)
        by_cases c3 : xGp v (n.rl.getD i rl0).p (n.rl.getD i rl0).n = 0
        · obtain ⟨T', i', ih⟩ := xKi (s2 := s2) hv hnv hl hb d (i + 1) (T ++ [.cells false false (xGr (n.rl.getD i rl0))]) (by omega)
          refine ⟨T', i', ?_⟩
          rw [c3] at hcube
          rw [xM3 (by rw [ee]; exact c3), xLB]
          simp only [xGr] at ih
          by_cases e : xEI n.states v (n.rl.drop (i + 1)) = 0
          · rw [if_pos e] at ih ⊢
            simp (maxSteps := 30000000) (disch := first | assumption | omega | (simp only [List.length_cons, List.length_nil, List.length_append, List.length_set, List.length_replicate, List.length_map, List.length_range, List.length_take, List.length_drop, List.all_cons, List.all_nil, AV.isCell, Bool.and_self, Bool.and_true, xAh, xAb, xAe, xAa, xAE] <;> omega) | rfl | decide) only [xHr, xAp, xAf, xAc, xAk, xAy, opv, List.getD_cons_succ, List.getD_cons_zero, xAz, hlt, decide_true, xAl, xAq, List.set_cons_succ, List.set_cons_zero, xAi, xAg, xAj, xAd, xAo, xAn, ↓reduceIte, xAx, xAr, xAZ, xAY, Int.toNat_natCast, xAJ, xBj, xFJ, xBH, xBz, AV.cells, List.all_cons, AV.isCell, List.all_nil, Bool.and_self, List.length_cons, List.cons_append, xA4, List.length_nil, Nat.zero_add, Nat.reduceAdd, xBE, List.getElem?_cons_succ, xCM, List.getElem?_cons_zero, xAX, xBd, List.take_zero, List.nil_append, List.drop_succ_cons, List.drop_nil, List.append_nil, xDq, xAK, xBl, xAV, xAB, Nat.add_zero, xA1, xAt, List.drop_zero, List.take_succ_cons, xAO, xRr, List.map_cons, List.map_nil, xIC, xIB, c1, decide_false, xAA, xAM, xAD, xKt, xCz, c2, xBb, xAN, Bool.false_eq_true, List.take_nil, xCv, beq_self_eq_true, xCd, Nat.reduceLeDiff, and_self, Nat.le_refl, Option.map_some, hnv, xBJ, xBi, xBL, List.mapM_cons, xCA, xA0, List.mapM_nil, Option.pure_def, Option.bind_eq_bind, Option.bind_some, xBh, hcube, xBg, xDT, xCw, xBm, Bool.not_true, xAs, xBa, xCi, xCV, xAv, xHs, ih]
          · rw [if_neg e] at ih ⊢
            simp (maxSteps := 30000000) (disch := first | assumption | omega | (simp only [List.length_cons, List.length_nil, List.length_append, List.length_set, List.length_replicate, List.length_map, List.length_range, List.length_take, List.length_drop, List.all_cons, List.all_nil, AV.isCell, Bool.and_self, Bool.and_true, xAh, xAb, xAe, xAa, xAE] <;> omega) | rfl | decide) only [xHr, xAp, xAf, xAc, xAk, xAy, opv, List.getD_cons_succ, List.getD_cons_zero, xAz, hlt, decide_true, xAl, xAq, List.set_cons_succ, List.set_cons_zero, xAi, xAg, xAj, xAd, xAo, xAn, ↓reduceIte, xAx, xAr, xAZ, xAY, Int.toNat_natCast, xAJ, xBj, xFJ, xBH, xBz, AV.cells, List.all_cons, AV.isCell, List.all_nil, Bool.and_self, List.length_cons, List.cons_append, xA4, List.length_nil, Nat.zero_add, Nat.reduceAdd, xBE, List.getElem?_cons_succ, xCM, List.getElem?_cons_zero, xAX, xBd, List.take_zero, List.nil_append, List.drop_succ_cons, List.drop_nil, List.append_nil, xDq, xAK, xBl, xAV, xAB, Nat.add_zero, xA1, xAt, List.drop_zero, List.take_succ_cons, xAO, xRr, List.map_cons, List.map_nil, xIC, xIB, c1, decide_false, xAA, xAM, xAD, xKt, xCz, c2, xBb, xAN, Bool.false_eq_true, List.take_nil, xCv, beq_self_eq_true, xCd, Nat.reduceLeDiff, and_self, Nat.le_refl, Option.map_some, hnv, xBJ, xBi, xBL, List.mapM_cons, xCA, xA0, List.mapM_nil, Option.pure_def, Option.bind_eq_bind, Option.bind_some, xBh, hcube, xBg, xDT, xCw, xBm, Bool.not_true, xAs, xBa, xCi, xCV, xAv, xHs, ih]
        · refine ⟨T ++ [.cells false false (xGr (n.rl.getD i rl0))], i, ?_⟩
          rw [xJi (by rw [ee]; exact c3), ee, if_neg c3, xLB]
          simp (maxSteps := 30000000) (disch := first | assumption | omega | (simp only [List.length_cons, List.length_nil, List.length_append, List.length_set, List.length_replicate, List.length_map, List.length_range, List.length_take, List.length_drop, List.all_cons, List.all_nil, AV.isCell, Bool.and_self, Bool.and_true, xAh, xAb, xAe, xAa, xAE] <;> omega) | rfl | decide) only [xHr, xAp, xAf, xAc, xAk, xAy, opv, List.getD_cons_succ, List.getD_cons_zero, xAz, hlt, decide_true, xAl, xAq, List.set_cons_succ, List.set_cons_zero, xAi, xAg, xAj, xAd, xAo, xAn, ↓reduceIte, xAx, xAr, xAZ, xAY, Int.toNat_natCast, xAJ, xBj, xFJ, xBH, xBz, AV.cells, List.all_cons, AV.isCell, List.all_nil, Bool.and_self, List.length_cons, List.cons_append, xA4, List.length_nil, Nat.zero_add, Nat.reduceAdd, xBE, List.getElem?_cons_succ, xCM, List.getElem?_cons_zero, xAX, xBd, List.take_zero, List.nil_append, List.drop_succ_cons, List.drop_nil, List.append_nil, xDq, xAK, xBl, xAV, xAB, Nat.add_zero, xA1, xAt, List.drop_zero, List.take_succ_cons, xAO, xRr, List.map_cons, List.map_nil, xIC, xIB, c1, decide_false, xAA, xAM, xAD, xKt, xCz, c2, xBb, xAN, Bool.false_eq_true, List.take_nil, xCv, beq_self_eq_true, xCd, Nat.reduceLeDiff, and_self, Nat.le_refl, Option.map_some, hnv, xBJ, xBi, xBL, List.mapM_cons, xCA, xA0, List.mapM_nil, Option.pure_def, Option.bind_eq_bind, Option.bind_some, xBh, hcube, xBg, xDT, xCw, xBm, c3, Bool.not_false, xAW, xBs, xBu, xCs, xHs, xGr]

def xS8 (n : Aut) : Int :=
  if n.vars < 0 ∨ 3 < n.vars then 7 else if n.states < 0 then 1 else if 64 < n.states ∨ 512 < n.rl.length then 4
  else if xEH n.states n.st = 0 ∧ xEH n.states n.fi = 0 then xEI n.states n.vars.toNat n.rl else 8

set_option maxHeartbeats 4000000 in
theorem xKX (n : Aut) (h1 : n.st.length < 1099511627776) (h2 : n.fi.length < 1099511627776) (h3 : n.rl.length < 1099511627776) (hb : ∀ e ∈ n.rl, e.p < 256 ∧ e.n < 256) : L.pcall 45 [n.av] = some (.int .i64 (xS8 n)) := by
  have e5 : ((512 : Int) < (n.rl.length : Nat)) = (512 < n.rl.length) := propext ⟨fun h => by omega, fun h => by omega⟩
  unfold xS8
  rw [yEK, a45, xA7]
  by_cases c1 : n.vars < 0
  · rw [if_pos (.inl c1)]
    simp (maxSteps := 30000000) (disch := first | assumption | omega | (simp only [List.length_cons, List.length_nil, List.length_append, List.length_set, List.length_replicate, List.length_map, List.length_range, List.length_take, List.length_drop, List.all_cons, List.all_nil, AV.isCell, Bool.and_self, Bool.and_true, xAh, xAb, xAe, xAa, xAE] <;> omega) | rfl | decide) only [xAU, List.length_cons, List.length_nil, Nat.zero_add, Nat.reduceSub, xCL, List.cons_append, List.nil_append, xAp, xAf, xAc, xAk, xBz, AV.cells, opv, List.getD_cons_zero, List.all_cons, AV.isCell, List.all_nil, Bool.and_self, ↓reduceIte, xAq, List.set_cons_succ, List.set_cons_zero, xAi, xAA, xAg, xAj, xAd, xAr, xAV, List.getD_cons_succ, xAB, Nat.add_zero, xAl, xAJ, xA1, List.getElem?_cons_zero, xAt, List.drop_zero, List.take_succ_cons, List.take_zero, xAO, xAy, xAz, c1, decide_true, xAM, xAD, Bool.true_eq_false, xCy, xBb, xAN, xAo, xAn, xAW, xBs, xBu, xAI, xAR, xA2, xAw, xAQ, xBL, xA0]
  · by_cases c2 : 3 < n.vars
    · rw [if_pos (.inr c2)]
      simp (maxSteps := 30000000) (disch := first | assumption | omega | (simp only [List.length_cons, List.length_nil, List.length_append, List.length_set, List.length_replicate, List.length_map, List.length_range, List.length_take, List.length_drop, List.all_cons, List.all_nil, AV.isCell, Bool.and_self, Bool.and_true, xAh, xAb, xAe, xAa, xAE] <;> omega) | rfl | decide) only [xAU, List.length_cons, List.length_nil, Nat.zero_add, Nat.reduceSub, xCL, List.cons_append, List.nil_append, xAp, xAf, xAc, xAk, xBz, AV.cells, opv, List.getD_cons_zero, List.all_cons, AV.isCell, List.all_nil, Bool.and_self, ↓reduceIte, xAq, List.set_cons_succ, List.set_cons_zero, xAi, xAA, xAg, xAj, xAd, xAr, xAV, List.getD_cons_succ, xAB, Nat.add_zero, xAl, xAJ, xA1, List.getElem?_cons_zero, xAt, List.drop_zero, List.take_succ_cons, List.take_zero, xAO, xAy, xAz, c1, decide_false, xAM, xAD, xCm, c2, decide_true, xBb, xAN, Bool.false_eq_true, xAo, xAn, xAW, xBs, xBu, xAI, xAR, xA2, xAw, xAQ, xBL, xA0]
    · rw [if_neg (by omega)]
      by_cases c3 : n.states < 0
      · rw [if_pos c3]
        simp (maxSteps := 30000000) (disch := first | assumption | omega | (simp only [List.length_cons, List.length_nil, List.length_append, List.length_set, List.length_replicate, List.length_map, List.length_range, List.length_take, List.length_drop, List.all_cons, List.all_nil, AV.isCell, Bool.and_self, Bool.and_true, xAh, xAb, xAe, xAa, xAE] <;> omega) | rfl | decide) only [xAU, List.length_cons, List.length_nil, Nat.zero_add, Nat.reduceSub, xCL, List.cons_append, List.nil_append, xAp, xAf, xAc, xAk, xBz, AV.cells, opv, List.getD_cons_zero, List.all_cons, AV.isCell, List.all_nil, Bool.and_self, ↓reduceIte, xAq, List.set_cons_succ, List.set_cons_zero, xAi, xAA, xAg, xAj, xAd, xAr, xAV, List.getD_cons_succ, xAB, Nat.add_zero, xAl, xAJ, xA1, List.getElem?_cons_zero, xAt, List.drop_zero, List.take_succ_cons, List.take_zero, xAO, xAy, xAz, c1, decide_false, xAM, xAD, xCm, c2, xBb, xAN, Bool.false_eq_true, xAo, xAn, List.drop_succ_cons, c3, decide_true, xAW, xBs, xBu, xAI, xAR, xA2, xAw, xAQ, xBL, xA0]
      · rw [if_neg c3]
        by_cases c4 : 64 < n.states
        · rw [if_pos (.inl c4)]
          simp (maxSteps := 30000000) (disch := first | assumption | omega | (simp only [List.length_cons, List.length_nil, List.length_append, List.length_set, List.length_replicate, List.length_map, List.length_range, List.length_take, List.length_drop, List.all_cons, List.all_nil, AV.isCell, Bool.and_self, Bool.and_true, xAh, xAb, xAe, xAa, xAE] <;> omega) | rfl | decide) only [xAU, List.length_cons, List.length_nil, Nat.zero_add, Nat.reduceSub, xCL, List.cons_append, List.nil_append, xAp, xAf, xAc, xAk, xBz, AV.cells, opv, List.getD_cons_zero, List.all_cons, AV.isCell, List.all_nil, Bool.and_self, ↓reduceIte, xAq, List.set_cons_succ, List.set_cons_zero, xAi, xAA, xAg, xAj, xAd, xAr, xAV, List.getD_cons_succ, xAB, Nat.add_zero, xAl, xAJ, xA1, List.getElem?_cons_zero, xAt, List.drop_zero, List.take_succ_cons, List.take_zero, xAO, xAy, xAz, c1, decide_false, xAM, xAD, xCm, c2, xBb, xAN, Bool.false_eq_true, xAo, xAn, List.drop_succ_cons, c3, c4, decide_true, Bool.true_eq_false, xCy, xAW, xBs, xBu, xAI, xAR, xA2, xAw, xAQ, xBL, xA0]
        · by_cases c5 : 512 < n.rl.length
          · rw [if_pos (.inr c5)]
            simp (maxSteps := 30000000) (disch := first | assumption | omega | (simp only [List.length_cons, List.length_nil, List.length_append, List.length_set, List.length_replicate, List.length_map, List.length_range, List.length_take, List.length_drop, List.all_cons, List.all_nil, AV.isCell, Bool.and_self, Bool.and_true, xAh, xAb, xAe, xAa, xAE] <;> omega) | rfl | decide) only [xAU, List.length_cons, List.length_nil, Nat.zero_add, Nat.reduceSub, xCL, List.cons_append, List.nil_append, xAp, xAf, xAc, xAk, xBz, AV.cells, opv, List.getD_cons_zero, List.all_cons, AV.isCell, List.all_nil, Bool.and_self, ↓reduceIte, xAq, List.set_cons_succ, List.set_cons_zero, xAi, xAA, xAg, xAj, xAd, xAr, xAV, List.getD_cons_succ, xAB, Nat.add_zero, xAl, xAJ, xA1, List.getElem?_cons_zero, xAt, List.drop_zero, List.take_succ_cons, List.take_zero, xAO, xAy, xAz, c1, decide_false, xAM, xAD, xCm, c2, xBb, xAN, Bool.false_eq_true, xAo, xAn, List.drop_succ_cons, c3, c4, List.take_nil, xBk, xA8, e5, c5, decide_true, xAW, xBs, xBu, xAI, xAR, xA2, xAw, xAQ, xBL, xA0]
          · rw [if_neg (by omega)]
            obtain ⟨i', g⟩ := xQc n (s2 := .int .i64 0) h1 h2
            by_cases c6 : xEH n.states n.st = 0 ∧ xEH n.states n.fi = 0
            · rw [if_pos c6] at g ⊢
              obtain ⟨v, hv⟩ : ∃ v : Nat, n.vars = (v : Nat) := ⟨n.vars.toNat, by omega⟩
              have htv : n.vars.toNat = v := by omega
              obtain ⟨T', i2, g2⟩ := xKi (n := n) (v := v) (s2 := .int .i64 0) (by omega) hv h3 hb n.rl.length 0 [] (by omega)
              simp only [Int.natCast_zero, List.drop_zero] at g2
              rw [htv]
              by_cases c7 : xEI n.states v n.rl = 0
              · rw [if_pos c7] at g2
                rw [c7]
                simp (maxSteps := 30000000) (disch := first | assumption | omega | (simp only [List.length_cons, List.length_nil, List.length_append, List.length_set, List.length_replicate, List.length_map, List.length_range, List.length_take, List.length_drop, List.all_cons, List.all_nil, AV.isCell, Bool.and_self, Bool.and_true, xAh, xAb, xAe, xAa, xAE] <;> omega) | rfl | decide) only [xAU, List.length_cons, List.length_nil, Nat.zero_add, Nat.reduceSub, xCL, List.cons_append, List.nil_append, xAp, xAf, xAc, xAk, xBz, AV.cells, opv, List.getD_cons_zero, List.all_cons, AV.isCell, List.all_nil, Bool.and_self, ↓reduceIte, xAq, List.set_cons_succ, List.set_cons_zero, xAi, xAA, xAg, xAj, xAd, xAr, xAV, List.getD_cons_succ, xAB, Nat.add_zero, xAl, xAJ, xA1, List.getElem?_cons_zero, xAt, List.drop_zero, List.take_succ_cons, List.take_zero, xAO, xAy, xAz, c1, decide_false, xAM, xAD, xCm, c2, xBb, xAN, Bool.false_eq_true, xAo, xAn, List.drop_succ_cons, c3, c4, List.take_nil, xBk, xA8, e5, c5, xAx, xAs, xCv, beq_self_eq_true, List.map_cons, List.map_nil, xCd, Nat.reduceAdd, Nat.reduceLeDiff, and_self, xBd, Nat.le_refl, List.drop_nil, List.append_nil, Option.map_some, xA6, xGt, g, xAS, xHs, g2, xAW, xAI, xAR, xA2, xAw, xAQ, xBL, xA0]
              · rw [if_neg c7] at g2
                simp (maxSteps := 30000000) (disch := first | assumption | omega | (simp only [List.length_cons, List.length_nil, List.length_append, List.length_set, List.length_replicate, List.length_map, List.length_range, List.length_take, List.length_drop, List.all_cons, List.all_nil, AV.isCell, Bool.and_self, Bool.and_true, xAh, xAb, xAe, xAa, xAE] <;> omega) | rfl | decide) only [xAU, List.length_cons, List.length_nil, Nat.zero_add, Nat.reduceSub, xCL, List.cons_append, List.nil_append, xAp, xAf, xAc, xAk, xBz, AV.cells, opv, List.getD_cons_zero, List.all_cons, AV.isCell, List.all_nil, Bool.and_self, ↓reduceIte, xAq, List.set_cons_succ, List.set_cons_zero, xAi, xAA, xAg, xAj, xAd, xAr, xAV, List.getD_cons_succ, xAB, Nat.add_zero, xAl, xAJ, xA1, List.getElem?_cons_zero, xAt, List.drop_zero, List.take_succ_cons, List.take_zero, xAO, xAy, xAz, c1, decide_false, xAM, xAD, xCm, c2, xBb, xAN, Bool.false_eq_true, xAo, xAn, List.drop_succ_cons, c3, c4, List.take_nil, xBk, xA8, e5, c5, xAx, xAs, xCv, beq_self_eq_true, List.map_cons, List.map_nil, xCd, Nat.reduceAdd, Nat.reduceLeDiff, and_self, xBd, Nat.le_refl, List.drop_nil, List.append_nil, Option.map_some, xA6, xGt, g, xAS, xHs, g2, xBs, xBu, xAI, xAR, xA2, xAw, xAQ, xBL, xA0]
            · rw [if_neg c6] at g ⊢
              simp (maxSteps := 30000000) (disch := first | assumption | omega | (simp only [List.length_cons, List.length_nil, List.length_append, List.length_set, List.length_replicate, List.length_map, List.length_range, List.length_take, List.length_drop, List.all_cons, List.all_nil, AV.isCell, Bool.and_self, Bool.and_true, xAh, xAb, xAe, xAa, xAE] <;> omega) | rfl | decide) only [xAU, List.length_cons, List.length_nil, Nat.zero_add, Nat.reduceSub, xCL, List.cons_append, List.nil_append, xAp, xAf, xAc, xAk, xBz, AV.cells, opv, List.getD_cons_zero, List.all_cons, AV.isCell, List.all_nil, Bool.and_self, ↓reduceIte, xAq, List.set_cons_succ, List.set_cons_zero, xAi, xAA, xAg, xAj, xAd, xAr, xAV, List.getD_cons_succ, xAB, Nat.add_zero, xAl, xAJ, xA1, List.getElem?_cons_zero, xAt, List.drop_zero, List.take_succ_cons, List.take_zero, xAO, xAy, xAz, c1, decide_false, xAM, xAD, xCm, c2, xBb, xAN, Bool.false_eq_true, xAo, xAn, List.drop_succ_cons, c3, c4, List.take_nil, xBk, xA8, e5, c5, xAx, xAs, xCv, beq_self_eq_true, List.map_cons, List.map_nil, xCd, Nat.reduceAdd, Nat.reduceLeDiff, and_self, xBd, Nat.le_refl, List.drop_nil, List.append_nil, Option.map_some, xA6, xGt, g, xBs, xBu, xAI, xAR, xA2, xAw, xAQ, xBL, xA0]
end Go.Abs.Det

/- The tree's Check, words of states. -/
namespace Go.Abs.Det
open Go Go.Abs
set_option linter.unusedSimpArgs false
set_option linter.unusedVariables false

def xDd (a : Nat) : List Int → Nat
  | [] => a
  | q :: l => xDd (a ||| 2 ^ q.toNat) l

theorem xSu {v : Nat} (hv : v < 64) : IntKind.u64.wrap (1 * 2 ^ min v IntKind.u64.bits) = ((2 ^ v : Nat) : Int) := by
  have e1 : min v IntKind.u64.bits = v := Nat.min_eq_left (by show v ≤ 64; omega)
  have e2 : (2 : Nat) ^ v < 2 ^ 64 := Nat.pow_lt_pow_right (by omega) hv
  rw [e1, Int.one_mul, show (2 : Int) ^ v = ((2 ^ v : Nat) : Int) from by rw [Int.natCast_pow]; rfl]
  exact xXB (by omega)
theorem xNY {v : Nat} (hv : v < 64) : 2 ^ v < 18446744073709551616 := Nat.pow_lt_pow_right (m := v) (n := 64) (a := 2) (by omega) hv

theorem xM4 {z : Bool} {l : List Int} {H : xAu} (hl : l.length < 1099511627776) (hq : ∀ q ∈ l, 0 ≤ q ∧ q < 64) : ∀ d i a, i + d = l.length → a < 18446744073709551616 →
    L.loop xL9 xTA ⟨xMa (.int .u64 (a : Nat)) (iw z l) (.int .i64 (l.length : Nat)) (.int .i64 (i : Nat)), H⟩ = some (.exit 0, ⟨xMa (.int .u64 (xDd a (l.drop i) : Nat)) (iw z l) (.int .i64 (l.length : Nat)) (.int .i64 (l.length : Nat)), H⟩)
  | 0, i, a, h, ha => by
    obtain rfl : i = l.length := by omega
    rw [List.drop_length, xDd, xVu]
    simp (maxSteps := 30000000) (disch := first | assumption | omega | (simp only [List.length_cons, List.length_nil, List.length_append, List.length_set, List.length_replicate, List.length_map, List.length_range, List.length_take, List.length_drop, List.all_cons, List.all_nil, AV.isCell, Bool.and_self, Bool.and_true, xAh, xAb, xAe, xAa, xAP] <;> omega) | rfl | decide) only [xON, xAp, xAf, xAc, xAk, xAy, opv, List.getD_cons_succ, List.getD_cons_zero, xAz, Int.lt_irrefl, decide_false, xAl, xAq, List.set_cons_succ, List.set_cons_zero, xAi, xAg, xAj, xAd, xAo, xAn, Bool.false_eq_true, ↓reduceIte, xBt, xBc, xA3, xQZ]
  | d + 1, i, a, h, ha => by
    have hlt : (i : Int) < (l.length : Nat) := by omega
    have hm := hq (l.getD i 0) (by rw [List.getD_eq_getElem?_getD, List.getElem?_eq_getElem (by omega : i < l.length)]; exact List.getElem_mem _)
    have hs := xSu (show (l.getD i 0).toNat < 64 by omega)
    have hp := xNY (show (l.getD i 0).toNat < 64 by omega)
    have ho := yAx ha hp
    have h0 := hm.1
    have ih := xM4 (z := z) (H := H) hl hq d (i + 1) (a ||| 2 ^ (l.getD i 0).toNat) (by omega) (xNX ha hp)
    rw [xGR (by omega : i < l.length), xDd, xVu]
    simp (maxSteps := 30000000) (disch := first | assumption | omega | (simp only [List.length_cons, List.length_nil, List.length_append, List.length_set, List.length_replicate, List.length_map, List.length_range, List.length_take, List.length_drop, List.all_cons, List.all_nil, AV.isCell, Bool.and_self, Bool.and_true, xAh, xAb, xAe, xAa, xAP] <;> omega) | rfl | decide) only [xON, xAp, xAf, xAc, xAk, xAy, opv, List.getD_cons_succ, List.getD_cons_zero, xAz, hlt, decide_true, xAl, xAq, List.set_cons_succ, List.set_cons_zero, xAi, xAg, xAj, xAd, xAo, xAn, ↓reduceIte, xAx, xAr, xAZ, xAY, Int.toNat_natCast, Nat.mul_one, xAJ, xBj, xB1, xBW, xCr, xBV, Nat.add_zero, xAO, xAA, xDb, hs, xIs, ho, xAs, xBa, xCi, xCV, xAv, xQZ, ih]

theorem xSv (z : Bool) (l : List Int) (hl : l.length < 1099511627776) (hq : ∀ q ∈ l, 0 ≤ q ∧ q < 64) : L.pcall 88 [iw z l] = some (.int .u64 (xDd 0 l : Nat)) := by
  have h := xM4 (z := z) (H := []) hl hq l.length 0 0 (by omega) (by omega)
  simp only [Int.natCast_zero, List.drop_zero] at h
  rw [yEY, a88, xA7]
  simp (maxSteps := 30000000) (disch := first | assumption | omega | (simp only [List.length_cons, List.length_nil, List.length_append, List.length_set, List.length_replicate, List.length_map, List.length_range, List.length_take, List.length_drop, List.all_cons, List.all_nil, AV.isCell, Bool.and_self, Bool.and_true, xAh, xAb, xAe, xAa, xAP] <;> omega) | rfl | decide) only [xAU, List.length_cons, List.length_nil, Nat.zero_add, Nat.reduceSub, xCL, List.cons_append, List.nil_append, xAp, xAf, xAc, xAk, xAA, opv, xAq, List.set_cons_succ, List.set_cons_zero, xAi, xAg, xAj, xAd, List.getD_cons_zero, xBk, List.getD_cons_succ, xA8, xAl, xAr, xA6, xQZ, h, xAS, ↓reduceIte, xAW, xAI, xAR, xA2, xAw, xAQ, xBL, xA0]

theorem xJj : ∀ (l : List Int) (a j : Nat), (∀ q ∈ l, 0 ≤ q) → (xDd a l).testBit j = (a.testBit j || l.contains (j : Int))
  | [], a, j, h => by simp [xDd]
  | q :: l, a, j, h => by
    have h0 := h q (List.mem_cons_self ..)
    have e : decide (q.toNat = j) = ((j : Int) == q) := by
      rw [Bool.eq_iff_iff]; simp only [decide_eq_true_eq, beq_iff_eq]; omega
    rw [xDd, xJj l _ j (fun q hq => h q (List.mem_cons_of_mem _ hq)), Nat.testBit_or, Nat.testBit_two_pow, List.contains_cons, e, Bool.or_assoc]
theorem xGW : ∀ (l : List Int) (a : Nat), a < 18446744073709551616 → (∀ q ∈ l, 0 ≤ q ∧ q < 64) → xDd a l < 18446744073709551616
  | [], a, ha, h => ha
  | q :: l, a, ha, h => by
    have h0 := h q (List.mem_cons_self ..)
    exact xGW l _ (xNX ha (xNY (by omega))) (fun q hq => h q (List.mem_cons_of_mem _ hq))
end Go.Abs.Det

/- The rules' loop of states, the stack. -/
namespace Go.Abs.Det
open Go Go.Abs
set_option linter.unusedSimpArgs false
set_option linter.unusedVariables false

theorem yAP {l : Nat} (hl : l < 18446744073709551616) (u : Nat) : xFE .and .u64 ((l >>> u : Nat) : Int) 1 = if l.testBit u = true then 1 else 0 := by
  have h1 : l >>> u < 18446744073709551616 := Nat.lt_of_le_of_lt (by rw [Nat.shiftRight_eq_div_pow]; exact Nat.div_le_self ..) hl
  have h := xUo h1 (show 1 < 18446744073709551616 by omega)
  rw [show ((1 : Nat) : Int) = 1 from rfl] at h
  rw [h, Nat.and_one_is_mod]
  have ht : l.testBit u = decide ((l >>> u) % 2 = 1) := by
    rw [Nat.testBit_eq_decide_div_mod_eq, Nat.shiftRight_eq_div_pow]
  rw [ht]
  by_cases c : (l >>> u) % 2 = 1
  · rw [c]; simp
  · have : (l >>> u) % 2 = 0 := by omega
    rw [this]; simp

def hit (l r x : Nat) (u : Rl) : Bool := l.testBit u.l.toNat && r.testBit u.r.toNat && xQs u.p u.n x
def toM (l r x : Nat) (a : Nat) : List Rl → Nat
  | [] => a
  | u :: t => toM l r x (if hit l r x u = true then a ||| 2 ^ u.t.toNat else a) t

def xNZ (l : List Rl) : Prop := ∀ e ∈ l, (0 ≤ e.l ∧ e.l < 64) ∧ (0 ≤ e.r ∧ e.r < 64) ∧ (0 ≤ e.t ∧ e.t < 64) ∧ e.p < 256 ∧ e.n < 256

theorem xSw (l r x : Nat) : ∀ (t : List Rl) (a : Nat), a < 18446744073709551616 → xNZ t → toM l r x a t < 18446744073709551616
  | [], a, h, _ => h
  | u :: t, a, h, hb => by
    have hu := hb u (List.mem_cons_self ..)
    refine xSw l r x t _ ?_ (fun e he => hb e (List.mem_cons_of_mem _ he))
    split
    · exact xNX h (xNY (by omega))
    · exact h

theorem xSx (l r x : Nat) : ∀ (t : List Rl) (a j : Nat), (∀ e ∈ t, 0 ≤ e.t) → (toM l r x a t).testBit j = (a.testBit j || t.any (fun u => hit l r x u && decide (u.t = (j : Int))))
  | [], a, j, _ => by simp [toM]
  | u :: t, a, j, hb => by
    have hu := hb u (List.mem_cons_self ..)
    rw [toM, xSx l r x t _ j (fun e he => hb e (List.mem_cons_of_mem _ he)), List.any_cons, ← Bool.or_assoc]
    congr 1
    by_cases c : hit l r x u = true
    · have e : decide (u.t.toNat = j) = decide (u.t = (j : Int)) := by
        rw [Bool.eq_iff_iff]; simp only [decide_eq_true_eq]; omega
      rw [if_pos c, c, Nat.testBit_or, Nat.testBit_two_pow, Bool.true_and, e]
    · rw [if_neg c]
      simp [c]

section
variable {s1 s2 s5 s6 s7 s8 : AV}
theorem xJk {z : Bool} {rl : List Rl} {b l r x : Nat} {xl xr : Int} (hl : rl.length < 1099511627776) (hb : xNZ rl) (hL : l < 18446744073709551616) (hR : r < 18446744073709551616) (hx : x < 256) : ∀ d i a G, i + d = rl.length → a < 18446744073709551616 → G[b]? = some (.cells false false [.int .u8 (x : Nat), .int .i64 xl, .int .i64 xr]) →
    ∃ X, L.loop xL5 xTy ⟨xL6 s1 s2 s5 s6 s7 s8 (.ptr b 0) (.int .u64 (l : Nat)) (.int .u64 (r : Nat)) (.int .u64 (a : Nat)) (.sl z rl.length (rls rl)) (.int .i64 (rl.length : Nat)) (.int .i64 (i : Nat)), G⟩ =
      some (.exit 2, ⟨xL6 s1 s2 s5 s6 s7 s8 (.ptr b 0) (.int .u64 (l : Nat)) (.int .u64 (r : Nat)) (.int .u64 (toM l r x a (rl.drop i) : Nat)) (.sl z rl.length (rls rl)) (.int .i64 (rl.length : Nat)) (.int .i64 (rl.length : Nat)), G ++ X⟩)
  | 0, i, a, G, h, ha, hG => by
    obtain rfl : i = rl.length := by omega
    refine ⟨[], ?_⟩
    rw [List.drop_length, toM, xL7, List.append_nil]
    simp (maxSteps := 30000000) (disch := first | assumption | omega | (simp only [List.length_cons, List.length_nil, List.length_append, List.length_set, List.length_replicate, List.length_map, List.length_range, List.length_take, List.length_drop, List.all_cons, List.all_nil, AV.isCell, Bool.and_self, Bool.and_true, xAh, xAb, xAe, xAa, xAP, xAE] <;> omega) | rfl | decide) only [xIb, xAp, xAf, xAc, xAk, xAy, opv, List.getD_cons_succ, List.getD_cons_zero, xAz, Int.lt_irrefl, decide_false, xAl, xAq, List.set_cons_succ, List.set_cons_zero, xAi, xAg, xAj, xAd, xAo, xAn, Bool.false_eq_true, ↓reduceIte, xBt, xBc, xA3, xGv]
  | d + 1, i, a, G, h, ha, hG => by
    have hlt : (i : Int) < (rl.length : Nat) := by omega
    obtain ⟨⟨l0, l1⟩, ⟨rl0', r1⟩, ⟨t0, t1⟩, p1, n1⟩ := hb _ (xHX (by omega : i < rl.length))
    have hc := xX0 (rl.getD i rl0).p (rl.getD i rl0).n x p1 n1 hx
    have hsl := xUc l (show (rl.getD i rl0).l.toNat ≤ IntKind.u64.bits from by show _ ≤ 64; omega)
    have hsr := xUc r (show (rl.getD i rl0).r.toNat ≤ IntKind.u64.bits from by show _ ≤ 64; omega)
    have hbl := yAP hL (rl.getD i rl0).l.toNat
    have hbr := yAP hR (rl.getD i rl0).r.toNat
    have hs := xSu (show (rl.getD i rl0).t.toNat < 64 by omega)
    have hp := xNY (show (rl.getD i rl0).t.toNat < 64 by omega)
    have ho := yAx ha hp
    have g1 := xA9 (X := [.cells false false (xGr (rl.getD i rl0))]) hG
    simp only [xGr] at g1
    rw [xGV (by omega : i < rl.length), toM]
    by_cases c1 : l.testBit (rl.getD i rl0).l.toNat = true
    · rw [if_pos c1] at hbl
      by_cases c2 : r.testBit (rl.getD i rl0).r.toNat = true
      · rw [if_pos c2] at hbr
        cases c3 : xQs (rl.getD i rl0).p (rl.getD i rl0).n x with
        | true =>
          rw [c3] at hc
          rw [if_pos (by unfold hit; rw [c1, c2, c3]; rfl)]
          obtain ⟨X, ih⟩ := xJk (z := z) hl hb hL hR hx d (i + 1) (a ||| 2 ^ (rl.getD i rl0).t.toNat) (G ++ [.cells false false (xGr (rl.getD i rl0))]) (by omega) (xNX ha hp) (xA9 hG)
          refine ⟨.cells false false (xGr (rl.getD i rl0)) :: X, ?_⟩
          simp only [xGr, List.append_assoc, List.cons_append, List.nil_append] at ih ⊢
          rw [xL7]
          simp (maxSteps := 30000000) (disch := first | assumption | omega | (simp only [List.length_cons, List.length_nil, List.length_append, List.length_set, List.length_replicate, List.length_map, List.length_range, List.length_take, List.length_drop, List.all_cons, List.all_nil, AV.isCell, Bool.and_self, Bool.and_true, xAh, xAb, xAe, xAa, xAP, xAE] <;> omega) | rfl | decide) only [xIb, xAp, xAf, xAc, xAk, xAy, opv, List.getD_cons_succ, List.getD_cons_zero, xAz, hlt, decide_true, xAl, xAq, List.set_cons_succ, List.set_cons_zero, xAi, xAg, xAj, xAd, xAo, xAn, ↓reduceIte, xAx, xAr, xAZ, xAY, Int.toNat_natCast, xAJ, xBj, xFJ, xBH, xBz, AV.cells, List.all_cons, AV.isCell, List.all_nil, Bool.and_self, xA4, List.length_cons, List.length_nil, Nat.zero_add, Nat.reduceAdd, xBE, xCM, List.getElem?_cons_zero, xAX, xBd, List.take_zero, List.nil_append, List.drop_succ_cons, List.drop_nil, List.append_nil, xDq, xAK, xBl, xAA, xAV, xAB, Nat.add_zero, xA1, xAt, List.drop_zero, List.take_succ_cons, xAO, xCT, hsl, xCS, hbl, xBm, Int.reduceEq, decide_false, Bool.not_false, xAM, xAD, hsr, hbr, xBb, xAN, List.take_nil, xCv, beq_self_eq_true, List.map_cons, List.map_nil, xCd, Nat.reduceLeDiff, and_self, List.cons_append, Nat.le_refl, Option.map_some, g1, xBJ, xBi, xBL, List.mapM_cons, xCA, xA0, List.mapM_nil, Option.pure_def, Option.bind_eq_bind, Option.bind_some, xBh, hc, xBg, xDT, xCw, xDb, hs, xIs, ho, xAs, xBa, xCi, xCV, xAv, xGv, ih]
        | false =>
          rw [c3] at hc
          rw [if_neg (by unfold hit; rw [c1, c2, c3]; simp)]
          obtain ⟨X, ih⟩ := xJk (z := z) hl hb hL hR hx d (i + 1) a (G ++ [.cells false false (xGr (rl.getD i rl0))]) (by omega) ha (xA9 hG)
          refine ⟨.cells false false (xGr (rl.getD i rl0)) :: X, ?_⟩
          simp only [xGr, List.append_assoc, List.cons_append, List.nil_append] at ih ⊢
          rw [xL7]
          simp (maxSteps := 30000000) (disch := first | assumption | omega | (simp only [List.length_cons, List.length_nil, List.length_append, List.length_set, List.length_replicate, List.length_map, List.length_range, List.length_take, List.length_drop, List.all_cons, List.all_nil, AV.isCell, Bool.and_self, Bool.and_true, xAh, xAb, xAe, xAa, xAP, xAE] <;> omega) | rfl | decide) only [xIb, xAp, xAf, xAc, xAk, xAy, opv, List.getD_cons_succ, List.getD_cons_zero, xAz, hlt, decide_true, xAl, xAq, List.set_cons_succ, List.set_cons_zero, xAi, xAg, xAj, xAd, xAo, xAn, ↓reduceIte, xAx, xAr, xAZ, xAY, Int.toNat_natCast, xAJ, xBj, xFJ, xBH, xBz, AV.cells, List.all_cons, AV.isCell, List.all_nil, Bool.and_self, xA4, List.length_cons, List.length_nil, Nat.zero_add, Nat.reduceAdd, xBE, xCM, List.getElem?_cons_zero, xAX, xBd, List.take_zero, List.nil_append, List.drop_succ_cons, List.drop_nil, List.append_nil, xDq, xAK, xBl, xAA, xAV, xAB, Nat.add_zero, xA1, xAt, List.drop_zero, List.take_succ_cons, xAO, xCT, hsl, xCS, hbl, xBm, Int.reduceEq, decide_false, Bool.not_false, xAM, xAD, hsr, hbr, xBb, xAN, List.take_nil, xCv, beq_self_eq_true, List.map_cons, List.map_nil, xCd, Nat.reduceLeDiff, and_self, List.cons_append, Nat.le_refl, Option.map_some, g1, xBJ, xBi, xBL, List.mapM_cons, xCA, xA0, List.mapM_nil, Option.pure_def, Option.bind_eq_bind, Option.bind_some, xBh, hc, xBg, xDT, xCw, Bool.false_eq_true, xAs, xBa, xCi, xCV, xAv, xGv, ih]
      · rw [if_neg c2] at hbr
        rw [if_neg (by unfold hit; simp only [Bool.and_eq_true]; exact fun q => c2 q.1.2)]
        obtain ⟨X, ih⟩ := xJk (z := z) hl hb hL hR hx d (i + 1) a (G ++ [.cells false false (xGr (rl.getD i rl0))]) (by omega) ha (xA9 hG)
        refine ⟨.cells false false (xGr (rl.getD i rl0)) :: X, ?_⟩
        simp only [xGr, List.append_assoc, List.cons_append, List.nil_append] at ih ⊢
        rw [xL7]
        simp (maxSteps := 30000000) (disch := first | assumption | omega | (simp only [List.length_cons, List.length_nil, List.length_append, List.length_set, List.length_replicate, List.length_map, List.length_range, List.length_take, List.length_drop, List.all_cons, List.all_nil, AV.isCell, Bool.and_self, Bool.and_true, xAh, xAb, xAe, xAa, xAP, xAE] <;> omega) | rfl | decide) only [xIb, xAp, xAf, xAc, xAk, xAy, opv, List.getD_cons_succ, List.getD_cons_zero, xAz, hlt, decide_true, xAl, xAq, List.set_cons_succ, List.set_cons_zero, xAi, xAg, xAj, xAd, xAo, xAn, ↓reduceIte, xAx, xAr, xAZ, xAY, Int.toNat_natCast, xAJ, xBj, xFJ, xBH, xBz, AV.cells, List.all_cons, AV.isCell, List.all_nil, Bool.and_self, xA4, List.length_cons, List.length_nil, Nat.zero_add, Nat.reduceAdd, xBE, xCM, List.getElem?_cons_zero, xAX, xBd, List.take_zero, List.nil_append, List.drop_succ_cons, List.drop_nil, List.append_nil, xDq, xAK, xBl, xAA, xAV, xAB, Nat.add_zero, xA1, xAt, List.drop_zero, List.take_succ_cons, xAO, xCT, hsl, xCS, hbl, xBm, Int.reduceEq, decide_false, Bool.not_false, xAM, xAD, hsr, hbr, Bool.not_true, xBb, xAN, Bool.false_eq_true, xCy, xAs, xBa, xCi, xCV, xAv, xGv, ih]
    · rw [if_neg c1] at hbl
      rw [if_neg (by unfold hit; simp only [Bool.and_eq_true]; exact fun q => c1 q.1.1)]
      obtain ⟨X, ih⟩ := xJk (z := z) hl hb hL hR hx d (i + 1) a (G ++ [.cells false false (xGr (rl.getD i rl0))]) (by omega) ha (xA9 hG)
      refine ⟨.cells false false (xGr (rl.getD i rl0)) :: X, ?_⟩
      simp only [xGr, List.append_assoc, List.cons_append, List.nil_append] at ih ⊢
      rw [xL7]
      simp (maxSteps := 30000000) (disch := first | assumption | omega | (simp only [List.length_cons, List.length_nil, List.length_append, List.length_set, List.length_replicate, List.length_map, List.length_range, List.length_take, List.length_drop, List.all_cons, List.all_nil, AV.isCell, Bool.and_self, Bool.and_true, xAh, xAb, xAe, xAa, xAP, xAE] <;> omega) | rfl | decide) only [xIb, xAp, xAf, xAc, xAk, xAy, opv, List.getD_cons_succ, List.getD_cons_zero, xAz, hlt, decide_true, xAl, xAq, List.set_cons_succ, List.set_cons_zero, xAi, xAg, xAj, xAd, xAo, xAn, ↓reduceIte, xAx, xAr, xAZ, xAY, Int.toNat_natCast, xAJ, xBj, xFJ, xBH, xBz, AV.cells, List.all_cons, AV.isCell, List.all_nil, Bool.and_self, xA4, List.length_cons, List.length_nil, Nat.zero_add, Nat.reduceAdd, xBE, xCM, List.getElem?_cons_zero, xAX, xBd, List.take_zero, List.nil_append, List.drop_succ_cons, List.drop_nil, List.append_nil, xDq, xAK, xBl, xAA, xAV, xAB, Nat.add_zero, xA1, xAt, List.drop_zero, List.take_succ_cons, xAO, xCT, hsl, xCS, hbl, xBm, Bool.not_true, xAM, xAD, Bool.false_eq_true, xCy, xBb, xAN, xAs, xBa, xCi, xCV, xAv, xGv, ih]
end

def OwnG (G : xAu) (v : AV) (l : List Nat) : Prop := (v = .sl true 0 [] ∧ l = []) ∨ ∃ k r, 2 < k ∧ v = .own false k 0 l.length 1 ∧ G[k]? = some (.cells false false (w64 (l ++ r)))
theorem OwnG.app {G : xAu} {v : AV} {l : List Nat} (h : OwnG G v l) (X : xAu) : OwnG (G ++ X) v l := by
  rcases h with h | ⟨k, r, e0, e1, e2⟩
  · exact .inl h
  · exact .inr ⟨k, r, e0, e1, xA9 e2⟩

theorem xUK {G : xAu} {E : Nat} {c : Int} (hc : c < 0) (h1 : G[1]? = some (.cells false false [.int .u64 (E : Nat)])) : L.icall (.func 112 [.ptr 1 0, .ptr 2 0]) [.int .i64 c] G = some (.int .u64 (E : Nat), G) := by
  rw [xZm, xZh]
  simp (maxSteps := 30000000) (disch := first | assumption | omega | (simp only [List.length_cons, List.length_nil, List.length_append, List.length_set, List.length_replicate, List.length_map, List.length_range, List.length_take, List.length_drop, List.all_cons, List.all_nil, AV.isCell, Bool.and_self, Bool.and_true, xAh, xAb, xAe, xAa, xAP, xAE] <;> omega) | rfl | decide) only [List.cons_append, List.nil_append, xAU, List.length_cons, List.length_nil, Nat.zero_add, Nat.reduceAdd, Nat.reduceSub, xCL, xAp, xAf, xAc, xAk, xAA, opv, xAq, List.set_cons_succ, List.set_cons_zero, xAi, xAg, xAj, xAd, List.getD_cons_zero, xAy, List.getD_cons_succ, xAz, hc, decide_true, xAl, xAo, xAn, ↓reduceIte, xAJ, xA1, h1, xAt, List.drop_zero, List.take_succ_cons, List.take_nil, xAO, xAW, xBu, xAI, xAR, xA2, xAw]

theorem xUL {G : xAu} {st : List Nat} {x : Nat} {v : AV} {c : Int} (hc : ¬ c < 0) (h2 : G[2]? = some (.cells false false [v])) (hO : OwnG G v (st ++ [x])) (hl : st.length < 1099511627776) :
    ∃ v', L.icall (.func 112 [.ptr 1 0, .ptr 2 0]) [.int .i64 c] G = some (.int .u64 (x : Nat), G.set 2 (.cells false false [v'])) ∧ OwnG (G.set 2 (.cells false false [v'])) v' st := by
  rcases hO with ⟨_, h⟩ | ⟨k, r, e0, rfl, e2⟩
  · simp at h
  · refine ⟨.own false k 0 st.length 1, ?_, .inr ⟨k, x :: r, e0, rfl, ?_⟩⟩
    · have hat : (st ++ x :: r).getD st.length 0 = x := by simp [List.getD]
      have e2' : G[k]? = some (.cells false false (w64 (st ++ (x :: r)))) := by rw [e2]; simp
      have hlen : (st ++ [x]).length = st.length + 1 := by simp
      rw [hlen] at h2
      rw [xZm, xZh]
      simp (maxSteps := 30000000) (disch := first | assumption | omega | (simp only [List.length_cons, List.length_nil, List.length_append, List.length_set, List.length_replicate, List.length_map, List.length_range, List.length_take, List.length_drop, List.all_cons, List.all_nil, AV.isCell, Bool.and_self, Bool.and_true, xAh, xAb, xAe, xAa, xAP, xAE] <;> omega) | rfl | decide) only [List.cons_append, List.nil_append, xAU, List.length_cons, List.length_nil, Nat.zero_add, Nat.reduceAdd, Nat.reduceSub, xCL, xAp, xAf, xAc, xAk, xAA, opv, xAq, List.set_cons_succ, List.set_cons_zero, xAi, xAg, xAj, xAd, List.getD_cons_zero, xAy, List.getD_cons_succ, xAz, hc, decide_false, xAl, xAo, xAn, Bool.false_eq_true, ↓reduceIte, xAx, xAJ, xA1, h2, xAt, List.drop_zero, List.take_succ_cons, List.take_nil, xAO, xBk, xC0, xFl, xZo, Nat.add_sub_cancel, xCV, xAZ, xBU, Int.toNat_natCast, Nat.mul_one, e2', xPh, xGS, xXy, xQ3, Nat.add_zero, hat, xKo, Option.map_none, Option.map_some, xPA, xIt, xTH, Nat.sub_zero, xA4, AV.cells, xBE, xAX, xBd, List.take_zero, List.drop_succ_cons, List.drop_nil, List.append_nil, xAK, xBl, xAW, xAI, xAR, xA2, xAw]
    · rw [List.getElem?_set_ne (by omega), e2]; simp
end Go.Abs.Det

/- states: the nodes' loop. -/
namespace Go.Abs.Det
open Go Go.Abs
set_option linter.unusedSimpArgs false
set_option linter.unusedVariables false

def ev (E : Nat) (rl : List Rl) : BT → Nat
  | .nil => E
  | .node x l r => toM (ev E rl l) (ev E rl r) x 0 rl
theorem xX1 {E : Nat} {rl : List Rl} (hE : E < 18446744073709551616) (hb : xNZ rl) : ∀ T, ev E rl T < 18446744073709551616
  | .nil => hE
  | .node x l r => xSw _ _ _ _ _ (by omega) hb

def Pop (E : Nat) (c : Int) (st : List Nat) (v : Nat) (st' : List Nat) : Prop := c < 0 ∧ v = E ∧ st = st' ∨ ¬ c < 0 ∧ st = st' ++ [v]

structure InvA (n : Aut) (E : Nat) (G : xAu) (st : List Nat) : Prop where
  g0 : G[0]? = some (.cells false false n.cells)
  g1 : G[1]? = some (.cells false false [.int .u64 (E : Nat)])
  own : ∃ v, G[2]? = some (.cells false false [v]) ∧ OwnG G v st
theorem InvA.app {n : Aut} {E : Nat} {G : xAu} {st : List Nat} (h : InvA n E G st) (X : xAu) : InvA n E (G ++ X) st := by
  obtain ⟨v, h2, h3⟩ := h.own
  exact ⟨xA9 h.g0, xA9 h.g1, v, xA9 h2, h3.app X⟩

theorem xSy {n : Aut} {E : Nat} {G : xAu} {st st' : List Nat} {v : Nat} {c : Int} (hI : InvA n E G st) (hp : Pop E c st v st') (hl : st.length < 1099511627776) :
    ∃ G', L.icall (.func 112 [.ptr 1 0, .ptr 2 0]) [.int .i64 c] G = some (.int .u64 (v : Nat), G') ∧ InvA n E G' st' ∧ ∀ b, 2 < b → G'[b]? = G[b]? := by
  rcases hp with ⟨hc, rfl, rfl⟩ | ⟨hc, rfl⟩
  · exact ⟨G, xUK hc hI.g1, hI, fun _ _ => rfl⟩
  · obtain ⟨w, h2, hO⟩ := hI.own
    obtain ⟨w', h3, h4⟩ := xUL hc h2 hO (by simp at hl; omega)
    refine ⟨_, h3, ⟨?_, ?_, w', ?_, h4⟩, fun b hb => ?_⟩
    · rw [List.getElem?_set_ne (by omega)]; exact hI.g0
    · rw [List.getElem?_set_ne (by omega)]; exact hI.g1
    · rw [List.getElem?_set_self (List.getElem?_eq_some_iff.1 h2).1]
    · rw [List.getElem?_set_ne (by omega)]

noncomputable abbrev LN (z : Bool) (t : List Lf) (i : Nat) (G : xAu) := L.loop xL8 xTz ⟨xJI (tw z t) (.ptr 0 0) (.ptr 1 0) (.ptr 2 0) (.int .i64 (i : Nat)) (.func 112 [.ptr 1 0, .ptr 2 0]), G⟩

theorem xSz (z : Bool) (t : List Lf) (G : xAu) : LN z t 0 G = some (.exit 0, ⟨xJI (tw z t) (.ptr 0 0) (.ptr 1 0) (.ptr 2 0) (.int .i64 0) (.func 112 [.ptr 1 0, .ptr 2 0]), G⟩) := by
  unfold LN
  rw [xVt]
  simp (maxSteps := 30000000) (disch := first | assumption | omega | (simp only [List.length_cons, List.length_nil, List.length_append, List.length_set, List.length_replicate, List.length_map, List.length_range, List.length_take, List.length_drop, List.all_cons, List.all_nil, AV.isCell, Bool.and_self, Bool.and_true, xAh, xAb, xAe, xAa, xAP, xAE] <;> omega) | rfl | decide) only [xIc, xD8, xAp, xAf, xAc, xAk, xAA, opv, List.getD_cons_succ, List.getD_cons_zero, xAq, List.set_cons_succ, List.set_cons_zero, xAi, xAy, xCm, Int.lt_irrefl, decide_false, xAl, xAg, xAj, xAd, xAo, xAn, Bool.false_eq_true, ↓reduceIte, xBt, xBc, xA3, xId]

set_option maxHeartbeats 4000000 in
theorem xQd {z : Bool} {t : List Lf} {n : Aut} {E : Nat} (ht : t.length < 1099511627776) (hx : ∀ e ∈ t, e.x < 256) (hl : n.rl.length < 1099511627776) (hb : xNZ n.rl) {i : Nat} (hi : i < t.length) {G : xAu} {st st1 st2 : List Nat} {l r : Nat} (hI : InvA n E G st)
    (hs : st.length + i < t.length) (hL : l < 18446744073709551616) (hR : r < 18446744073709551616) (p1 : Pop E (t.getD i f0).l st l st1) (p2 : Pop E (t.getD i f0).r st1 r st2) :
    ∃ G', LN z t (i + 1) G = LN z t i G' ∧ InvA n E G' (st2 ++ [toM l r (t.getD i f0).x 0 n.rl]) := by
  have hm := hx _ (xKP hi)
  have l1 : st1.length ≤ st.length := by
    rcases p1 with ⟨_, _, h⟩ | ⟨_, h⟩
    · rw [h]; omega
    · rw [h]; simp
  have l2 : st2.length ≤ st1.length := by
    rcases p2 with ⟨_, _, h⟩ | ⟨_, h⟩
    · rw [h]; omega
    · rw [h]; simp
  obtain ⟨Ga, a1, a2, a9993⟩ := xSy (hI.app [.cells false false (xNQ (t.getD i f0))]) p1 (by omega)
  obtain ⟨Gb, b1, b2, b3⟩ := xSy a2 p2 (by omega)
  have lenG : 2 < G.length := by
    obtain ⟨v, h, _⟩ := hI.own
    exact (List.getElem?_eq_some_iff.1 h).1
  have lf0 : (G ++ [.cells false false (xNQ (t.getD i f0))])[G.length]? = some (Blk.cells false false (xNQ (t.getD i f0))) := by simp
  have lfa : Ga[G.length]? = some (Blk.cells false false (xNQ (t.getD i f0))) := by rw [a9993 _ lenG]; exact lf0
  have lfb : Gb[G.length]? = some (Blk.cells false false (xNQ (t.getD i f0))) := by rw [b3 _ lenG]; exact lfa
  obtain ⟨X, hloop⟩ := xJk (s1 := tw z t) (s2 := .ptr 0 0) (s5 := .ptr 1 0) (s6 := .ptr 2 0) (s7 := .int .i64 (i : Nat)) (s8 := .func 112 [.ptr 1 0, .ptr 2 0]) (z := n.z3) hl hb hL hR hm n.rl.length 0 0 Gb (by omega) (by omega) lfb
  have hd := b2.app X
  have hg0 := b2.g0
  simp only [Int.natCast_zero, List.drop_zero] at hloop
  generalize Gb ++ X = Gd at *
  generalize hv : toM l r (t.getD i f0).x 0 n.rl = to at *
  obtain ⟨v, d2, dO⟩ := hd.own
  have len2 := (List.getElem?_eq_some_iff.1 d2).1
  have fin : ∃ G', (∀ H0, H0 = Gd → True) ∧ InvA n E G' (st2 ++ [to]) ∧ ((v = .sl true 0 [] ∧ G' = (Gd ++ [Blk.cells false false [.int .u64 (to : Nat)]]).set 2 (.cells false false [.own false Gd.length 0 1 1])) ∨
      ∃ k r', 2 < k ∧ v = .own false k 0 st2.length 1 ∧ Gd[k]? = some (.cells false false (w64 (st2 ++ r'))) ∧ G' = (Gd.set k Blk.dead ++ [Blk.cells false false (w64 (st2 ++ [to]))]).set 2 (.cells false false [.own false Gd.length 0 (st2.length + 1) 1])) := by
    rcases dO with ⟨rfl, rfl⟩ | ⟨k, r', k2, rfl, hk⟩
    · refine ⟨_, fun _ _ => trivial, ⟨?_, ?_, .own false Gd.length 0 1 1, ?_, .inr ⟨Gd.length, [], len2, rfl, ?_⟩⟩, .inl ⟨rfl, rfl⟩⟩
      · rw [List.getElem?_set_ne (by omega)]; exact xA9 hd.g0
      · rw [List.getElem?_set_ne (by omega)]; exact xA9 hd.g1
      · rw [List.getElem?_set_self (by simp; omega)]
      · rw [List.getElem?_set_ne (by omega)]; simp [w64]
    · refine ⟨_, fun _ _ => trivial, ⟨?_, ?_, .own false Gd.length 0 (st2.length + 1) 1, ?_, .inr ⟨Gd.length, [], len2, by simp, ?_⟩⟩, .inr ⟨k, r', k2, rfl, hk, rfl⟩⟩
      · rw [List.getElem?_set_ne (by omega)]; exact xA9 (by rw [List.getElem?_set_ne (by omega)]; exact hd.g0)
      · rw [List.getElem?_set_ne (by omega)]; exact xA9 (by rw [List.getElem?_set_ne (by omega)]; exact hd.g1)
      · rw [List.getElem?_set_self (by simp; omega)]
      · rw [List.getElem?_set_ne (by omega)]; simp
  obtain ⟨G', -, hI', hcase⟩ := fin
  refine ⟨G', ?_, hI'⟩
  have hlt : (0 : Int) < ((i + 1 : Nat) : Int) := by omega
  have hi1 : ((i + 1 : Nat) : Int) - 1 = (i : Nat) := by omega
  have hn0 : i = 0 → LN z t i G' = some (.exit 0, ⟨xJI (tw z t) (.ptr 0 0) (.ptr 1 0) (.ptr 2 0) (.int .i64 (i : Nat)) (.func 112 [.ptr 1 0, .ptr 2 0]), G'⟩) := by
    rintro rfl
    exact xSz z t G'
  simp only [xNQ] at a1 lf0 lfa lfb
  unfold LN
  rw [xVt]
  rcases hcase with ⟨rfl, e⟩ | ⟨k, r', k2, rfl, hk, e⟩
  · have d3 := xA9 (X := [Blk.cells false false [.int .u64 (to : Nat)]]) d2
    by_cases c : i = 0
    · have c' : (((i : Nat) : Int) = 0) = True := eq_true (by omega)
      have hn0 := hn0 c
      unfold LN at hn0
      rw [e] at hn0 ⊢
      simp (maxSteps := 30000000) (disch := first | assumption | omega | (simp only [List.length_cons, List.length_nil, List.length_append, List.length_set, List.length_replicate, List.length_map, List.length_range, List.length_take, List.length_drop, List.all_cons, List.all_nil, AV.isCell, Bool.and_self, Bool.and_true, xAh, xAb, xAe, xAa, xAP, xAE] <;> omega) | rfl | decide) only [xIc, xAp, xAf, xAc, xAk, xAA, opv, List.getD_cons_succ, List.getD_cons_zero, xAq, List.set_cons_succ, List.set_cons_zero, xAi, xAy, xCm, hlt, decide_true, xAl, xAg, xAj, xAd, xAo, xAn, ↓reduceIte, xAx, xAr, xFl, hi1, xCV, xAZ, xAY, Int.toNat_natCast, xAJ, xBj, xI3, xBH, xBz, AV.cells, List.all_cons, AV.isCell, List.all_nil, Bool.and_self, xA4, List.length_cons, List.length_nil, Nat.zero_add, Nat.reduceAdd, xBE, xCM, List.getElem?_cons_zero, xAX, xBd, List.take_zero, List.nil_append, List.drop_succ_cons, List.drop_nil, List.append_nil, xDq, xAK, xBl, xAV, xAB, xA1, lf0, xAt, List.drop_zero, List.take_succ_cons, xAO, xCb, List.map_cons, List.map_nil, a1, lfa, List.take_nil, b1, hg0, xBk, xA8, xA6, xGv, hloop, xAS, d2, xBP, beq_self_eq_true, xC1, Nat.mul_one, xCd, Nat.le_refl, and_self, xBO, xB5, xBL, List.flatMap_cons, xCn, List.flatMap_nil, List.isEmpty_nil, List.mapM_cons, xA0, List.mapM_nil, Option.pure_def, Option.bind_eq_bind, Option.bind_some, xB6, xBT, xDk, xDK, Nat.reduceBEq, xCR, d3, xBM, c', xBt, Nat.reduceEqDiff, xA3, xId, hn0]
    · have c' : (((i : Nat) : Int) = 0) = False := eq_false (by omega)
      rw [e]
      simp (maxSteps := 30000000) (disch := first | assumption | omega | (simp only [List.length_cons, List.length_nil, List.length_append, List.length_set, List.length_replicate, List.length_map, List.length_range, List.length_take, List.length_drop, List.all_cons, List.all_nil, AV.isCell, Bool.and_self, Bool.and_true, xAh, xAb, xAe, xAa, xAP, xAE] <;> omega) | rfl | decide) only [xIc, xAp, xAf, xAc, xAk, xAA, opv, List.getD_cons_succ, List.getD_cons_zero, xAq, List.set_cons_succ, List.set_cons_zero, xAi, xAy, xCm, hlt, decide_true, xAl, xAg, xAj, xAd, xAo, xAn, ↓reduceIte, xAx, xAr, xFl, hi1, xCV, xAZ, xAY, Int.toNat_natCast, xAJ, xBj, xI3, xBH, xBz, AV.cells, List.all_cons, AV.isCell, List.all_nil, Bool.and_self, xA4, List.length_cons, List.length_nil, Nat.zero_add, Nat.reduceAdd, xBE, xCM, List.getElem?_cons_zero, xAX, xBd, List.take_zero, List.nil_append, List.drop_succ_cons, List.drop_nil, List.append_nil, xDq, xAK, xBl, xAV, xAB, xA1, lf0, xAt, List.drop_zero, List.take_succ_cons, xAO, xCb, List.map_cons, List.map_nil, a1, lfa, List.take_nil, b1, hg0, xBk, xA8, xA6, xGv, hloop, xAS, d2, xBP, beq_self_eq_true, xC1, Nat.mul_one, xCd, Nat.le_refl, and_self, xBO, xB5, xBL, List.flatMap_cons, xCn, List.flatMap_nil, List.isEmpty_nil, List.mapM_cons, xA0, List.mapM_nil, Option.pure_def, Option.bind_eq_bind, Option.bind_some, xB6, xBT, xDk, xDK, Nat.reduceBEq, xCR, d3, xBM, c', decide_false, Bool.false_eq_true, xAs, xAv, xId]
  · have htk : List.take st2.length (st2 ++ r') = st2 := by simp
    have hsn : w64 st2 ++ [AV.int .u64 (to : Nat)] = w64 (st2 ++ [to]) := xUm ..
    have d3 := xA9 (X := [Blk.cells false false (w64 (st2 ++ [to]))]) (show (Gd.set k Blk.dead)[2]? = _ from by rw [List.getElem?_set_ne (by omega)]; exact d2)
    by_cases c : i = 0
    · have c' : (((i : Nat) : Int) = 0) = True := eq_true (by omega)
      have hn0 := hn0 c
      unfold LN at hn0
      rw [e] at hn0 ⊢
      simp (maxSteps := 30000000) (disch := first | assumption | omega | (simp only [List.length_cons, List.length_nil, List.length_append, List.length_set, List.length_replicate, List.length_map, List.length_range, List.length_take, List.length_drop, List.all_cons, List.all_nil, AV.isCell, Bool.and_self, Bool.and_true, xAh, xAb, xAe, xAa, xAP, xAE] <;> omega) | rfl | decide) only [xIc, xAp, xAf, xAc, xAk, xAA, opv, List.getD_cons_succ, List.getD_cons_zero, xAq, List.set_cons_succ, List.set_cons_zero, xAi, xAy, xCm, hlt, decide_true, xAl, xAg, xAj, xAd, xAo, xAn, ↓reduceIte, xAx, xAr, xFl, hi1, xCV, xAZ, xAY, Int.toNat_natCast, xAJ, xBj, xI3, xBH, xBz, AV.cells, List.all_cons, AV.isCell, List.all_nil, Bool.and_self, xA4, List.length_cons, List.length_nil, Nat.zero_add, Nat.reduceAdd, xBE, xCM, List.getElem?_cons_zero, xAX, xBd, List.take_zero, List.nil_append, List.drop_succ_cons, List.drop_nil, List.append_nil, xDq, xAK, xBl, xAV, xAB, xA1, lf0, xAt, List.drop_zero, List.take_succ_cons, xAO, xCb, List.map_cons, List.map_nil, a1, lfa, List.take_nil, b1, hg0, xBk, xA8, xA6, xGv, hloop, xAS, d2, xBP, beq_self_eq_true, xC1, Nat.mul_one, xCd, Nat.le_refl, and_self, xBO, xB5, xBL, List.flatMap_cons, xCn, List.flatMap_nil, List.isEmpty_nil, List.mapM_cons, xA0, List.mapM_nil, Option.pure_def, Option.bind_eq_bind, Option.bind_some, xB6, xBT, xDk, xDh, hk, xCG, Nat.reduceBEq, xGS, htk, hsn, d3, xBM, c', xBt, Nat.reduceEqDiff, xA3, xId, hn0]
    · have c' : (((i : Nat) : Int) = 0) = False := eq_false (by omega)
      rw [e]
      simp (maxSteps := 30000000) (disch := first | assumption | omega | (simp only [List.length_cons, List.length_nil, List.length_append, List.length_set, List.length_replicate, List.length_map, List.length_range, List.length_take, List.length_drop, List.all_cons, List.all_nil, AV.isCell, Bool.and_self, Bool.and_true, xAh, xAb, xAe, xAa, xAP, xAE] <;> omega) | rfl | decide) only [xIc, xAp, xAf, xAc, xAk, xAA, opv, List.getD_cons_succ, List.getD_cons_zero, xAq, List.set_cons_succ, List.set_cons_zero, xAi, xAy, xCm, hlt, decide_true, xAl, xAg, xAj, xAd, xAo, xAn, ↓reduceIte, xAx, xAr, xFl, hi1, xCV, xAZ, xAY, Int.toNat_natCast, xAJ, xBj, xI3, xBH, xBz, AV.cells, List.all_cons, AV.isCell, List.all_nil, Bool.and_self, xA4, List.length_cons, List.length_nil, Nat.zero_add, Nat.reduceAdd, xBE, xCM, List.getElem?_cons_zero, xAX, xBd, List.take_zero, List.nil_append, List.drop_succ_cons, List.drop_nil, List.append_nil, xDq, xAK, xBl, xAV, xAB, xA1, lf0, xAt, List.drop_zero, List.take_succ_cons, xAO, xCb, List.map_cons, List.map_nil, a1, lfa, List.take_nil, b1, hg0, xBk, xA8, xA6, xGv, hloop, xAS, d2, xBP, beq_self_eq_true, xC1, Nat.mul_one, xCd, Nat.le_refl, and_self, xBO, xB5, xBL, List.flatMap_cons, xCn, List.flatMap_nil, List.isEmpty_nil, List.mapM_cons, xA0, List.mapM_nil, Option.pure_def, Option.bind_eq_bind, Option.bind_some, xB6, xBT, xDk, xDh, hk, xCG, Nat.reduceBEq, xGS, htk, hsn, d3, xBM, c', decide_false, Bool.false_eq_true, xAs, xAv, xId]
end Go.Abs.Det

/- states, set. -/
namespace Go.Abs.Det
open Go Go.Abs
set_option linter.unusedSimpArgs false
set_option linter.unusedVariables false

theorem Pop.len {E : Nat} {c : Int} {st st' : List Nat} {v : Nat} (h : Pop E c st v st') : st'.length ≤ st.length := by
  rcases h with ⟨_, _, h⟩ | ⟨_, h⟩
  · rw [h]; omega
  · rw [h]; simp

theorem xX2 {z : Bool} {t : List Lf} {n : Aut} {E : Nat} (ht : t.length < 1099511627776) (hx : ∀ e ∈ t, e.x < 256) (hl : n.rl.length < 1099511627776) (hb : xNZ n.rl) (hE : E < 18446744073709551616) {c : Int} {m k : Nat} {T : BT} (h : Sub t c m T k) :
    ∀ G st, InvA n E G st → st.length + k ≤ t.length → ∃ G' st', LN z t k G = LN z t m G' ∧ InvA n E G' st' ∧ st'.length + m ≤ t.length ∧ Pop E c st' (ev E n.rl T) st := by
  induction h with
  | none m => exact fun G st hI hs => ⟨G, st, rfl, hI, hs, .inl ⟨by omega, rfl, rfl⟩⟩
  | @some m k q l r hm hL hR ihl ihr =>
    intro G st hI hs
    obtain ⟨G1, st1, e1, i1, s1, p1⟩ := ihr G st hI hs
    obtain ⟨G2, st2, e2, i2, s2, p2⟩ := ihl G1 st1 i1 s1
    obtain ⟨G', e3, i3⟩ := xQd (z := z) ht hx hl hb hm i2 (by omega) (xX1 hE hb l) (xX1 hE hb r) p2 p1
    have a1 := p1.len
    have a2 := p2.len
    exact ⟨G', _, e1.trans (e2.trans e3), i3, by simp; omega, .inr ⟨by omega, rfl⟩⟩

theorem xSA {z : Bool} {t : List Lf} {n : Aut} (ht : t.length < 1099511627776) (hx : ∀ e ∈ t, e.x < 256) (hl : n.rl.length < 1099511627776) (hb : xNZ n.rl) (hn : n.st.length < 1099511627776) (hq : ∀ q ∈ n.st, 0 ≤ q ∧ q < 64) {T : BT} (hF : xFH t T) :
    L.pcall 87 [n.av, tw z t] = some (.int .u64 (ev (xDd 0 n.st) n.rl T : Nat)) := by
  have hw := xSv n.z1 n.st hn hq
  have hE := xGW n.st 0 (by omega) hq
  generalize xDd 0 n.st = E at *
  have hI : InvA n E [.cells false false n.cells, .cells false false [.int .u64 (E : Nat)], .cells false false [.sl true 0 []]] [] := ⟨rfl, rfl, _, rfl, .inl ⟨rfl, rfl⟩⟩
  rcases hF with ⟨rfl, rfl⟩ | ⟨h31, hS⟩
  · have h := xSz z [] [.cells false false n.cells, .cells false false [.int .u64 (E : Nat)], .cells false false [.sl true 0 []]]
    unfold LN at h
    simp only [Int.natCast_zero, List.length_nil] at h
    rw [yDV, a87, xA7]
    simp (maxSteps := 30000000) (disch := first | assumption | omega | (simp only [List.length_cons, List.length_nil, List.length_append, List.length_set, List.length_replicate, List.length_map, List.length_range, List.length_take, List.length_drop, List.all_cons, List.all_nil, AV.isCell, Bool.and_self, Bool.and_true, xAh, xAb, xAe, xAa, xAP, xAE] <;> omega) | rfl | decide) only [xAU, List.length_cons, List.length_nil, Nat.zero_add, Nat.reduceAdd, Nat.reduceSub, xCL, List.cons_append, List.nil_append, xAp, xAf, xAc, xAk, xBz, AV.cells, opv, List.getD_cons_zero, List.all_cons, AV.isCell, List.all_nil, Bool.and_self, ↓reduceIte, xAq, List.set_cons_succ, List.set_cons_zero, xAi, xAA, xAg, xAj, xAd, xIp, xAV, List.getD_cons_succ, xAB, xAl, xAJ, xA1, List.getElem?_cons_zero, xAt, List.drop_succ_cons, List.drop_zero, List.take_succ_cons, List.take_zero, xAO, xBJ, List.map_cons, List.map_nil, xBi, xBL, List.mapM_cons, xCa, List.mapM_nil, Option.pure_def, Option.bind_eq_bind, Option.bind_some, xBh, hw, xBg, xDT, xCw, xA4, xBE, List.getElem?_cons_succ, xAX, xBd, List.drop_nil, List.append_nil, xAK, xBl, xBk, xA8, xD8, xDL, xIo, xAr, xA6, xId, h, xAS, xAy, xBM, decide_true, xAo, xAn, List.take_nil, xAW, xBu, xAI, xAR, xA2, xAw, xAQ, xA0]
    rfl
  · obtain ⟨G', st', e1, i1, s1, p1⟩ := xX2 (z := z) ht hx hl hb hE hS _ [] hI (by simp)
    rw [xSz] at e1
    unfold LN at e1
    rcases p1 with ⟨h, _⟩ | ⟨_, rfl⟩
    · omega
    · have hpos : ¬ t.length = 0 := by
        intro h0
        cases hS with
        | some hm _ _ => omega
      have hpos' : (((t.length : Nat) : Int) = 0) = False := eq_false (by omega)
      obtain ⟨v, d2, dO⟩ := i1.own
      rcases dO with ⟨_, h⟩ | ⟨k, r', k2, rfl, hk⟩
      · simp at h
      · simp only [List.nil_append, List.cons_append, List.length_cons, List.length_nil, Nat.zero_add] at d2 hk
        rw [yDV, a87, xA7]
        simp (maxSteps := 30000000) (disch := first | assumption | omega | (simp only [List.length_cons, List.length_nil, List.length_append, List.length_set, List.length_replicate, List.length_map, List.length_range, List.length_take, List.length_drop, List.all_cons, List.all_nil, AV.isCell, Bool.and_self, Bool.and_true, xAh, xAb, xAe, xAa, xAP, xAE] <;> omega) | rfl | decide) only [xAU, List.length_cons, List.length_nil, Nat.zero_add, Nat.reduceAdd, Nat.reduceSub, xCL, List.cons_append, List.nil_append, xAp, xAf, xAc, xAk, xBz, AV.cells, opv, List.getD_cons_zero, List.all_cons, AV.isCell, List.all_nil, Bool.and_self, ↓reduceIte, xAq, List.set_cons_succ, List.set_cons_zero, xAi, xAA, xAg, xAj, xAd, xIp, xAV, List.getD_cons_succ, xAB, xAl, xAJ, xA1, List.getElem?_cons_zero, xAt, List.drop_succ_cons, List.drop_zero, List.take_succ_cons, List.take_zero, xAO, xBJ, List.map_cons, List.map_nil, xBi, xBL, List.mapM_cons, xCa, List.mapM_nil, Option.pure_def, Option.bind_eq_bind, Option.bind_some, xBh, hw, xBg, xDT, xCw, xA4, xBE, List.getElem?_cons_succ, xAX, xBd, List.drop_nil, List.append_nil, xAK, xBl, xBk, xA8, xDL, xIo, xAr, xA6, xId, e1, xAS, xAy, xBM, hpos', decide_false, xAo, xAn, Bool.false_eq_true, xAx, d2, List.take_nil, xAZ, xBU, Int.toNat_zero, Nat.mul_one, Nat.add_zero, hk, xGS, xXz, xAW, xAI, xAR, xA2, xAw, xAQ, xA0]

end Go.Abs.Det

/- both, States, Accepts. -/
namespace Go.Abs.Det
open Go Go.Abs
set_option linter.unusedSimpArgs false
set_option linter.unusedVariables false

structure TyA (n : Aut) : Prop where
  st : n.st.length < 1099511627776
  fi : n.fi.length < 1099511627776
  rl : n.rl.length < 1099511627776
  u8 : ∀ e ∈ n.rl, e.p < 256 ∧ e.n < 256

structure Valid (n : Aut) : Prop where
  v0 : 0 ≤ n.vars
  v3 : n.vars ≤ 3
  s0 : 0 ≤ n.states
  s64 : n.states ≤ 64
  rl : n.rl.length ≤ 512
  st : xK9 n.states (-1) n.st = true
  fi : xK9 n.states (-1) n.fi = true
  ru : xEI n.states n.vars.toNat n.rl = 0

theorem chkE_zero {n : Aut} : xS8 n = 0 ↔ Valid n := by
  have g : ∀ l, xEH n.states l = 0 ↔ xK9 n.states (-1) l = true := fun l => by unfold xEH; split <;> simp_all
  unfold xS8
  constructor
  · intro h
    split at h
    · omega
    · split at h
      · omega
      · split at h
        · omega
        · split at h
          · rename_i c1 c2 c3 c4
            exact ⟨by omega, by omega, by omega, by omega, by omega, (g _).1 c4.1, (g _).1 c4.2, h⟩
          · omega
  · rintro ⟨v0, v3, s0, s64, rl, st, fi, ru⟩
    rw [if_neg (by omega), if_neg (by omega), if_neg (by omega), if_pos ⟨(g _).2 st, (g _).2 fi⟩, ru]

theorem xKY {s : Int} : ∀ {l : List Int} {last : Int}, xK9 s last l = true → ∀ q ∈ l, last < q ∧ q < s
  | [], _, _, q, h => by simp at h
  | a :: t, last, h, q, hq => by
    unfold xK9 at h
    split at h
    · cases h
    · rcases List.mem_cons.1 hq with rfl | hq
      · omega
      · have := xKY h q hq
        omega

theorem xKj {s : Int} {v : Nat} : ∀ {l : List Rl}, xEI s v l = 0 → ∀ e ∈ l, xHL s v e = 0
  | [], _, e, h => by simp at h
  | a :: t, h, e, he => by
    unfold xEI at h
    split at h
    · rcases List.mem_cons.1 he with rfl | he
      · assumption
      · exact xKj h e he
    · contradiction

theorem Valid.sts {n : Aut} (h : Valid n) : ∀ q ∈ n.st, 0 ≤ q ∧ q < 64 := fun q hq => by
  have := xKY h.st q hq
  have := h.s64
  omega
theorem Valid.fis {n : Aut} (h : Valid n) : ∀ q ∈ n.fi, 0 ≤ q ∧ q < 64 := fun q hq => by
  have := xKY h.fi q hq
  have := h.s64
  omega
theorem Valid.rule {n : Aut} (h : Valid n) : ∀ e ∈ n.rl, (0 ≤ e.l ∧ e.l < n.states) ∧ (0 ≤ e.r ∧ e.r < n.states) ∧ (0 ≤ e.t ∧ e.t < n.states) := fun e he => by
  have h1 := xKj h.ru e he
  unfold xHL at h1
  split at h1
  · omega
  · omega
theorem Valid.ok {n : Aut} (h : Valid n) (hT : TyA n) : xNZ n.rl := fun e he => by
  have h1 := h.rule e he
  have h2 := h.s64
  have h3 := hT.u8 e he
  omega

def evA (n : Aut) (T : BT) : Nat := ev (xDd 0 n.st) n.rl T

theorem yAQ {a b : Nat} : a &&& b ≠ 0 ↔ ∃ j, a.testBit j = true ∧ b.testBit j = true := by
  constructor
  · intro h
    obtain ⟨j, hj⟩ := Nat.exists_testBit_ne_of_ne h
    rw [Nat.zero_testBit, Nat.testBit_and] at hj
    exact ⟨j, by simpa using hj⟩
  · rintro ⟨j, h1, h2⟩ h
    have : (a &&& b).testBit j = true := by rw [Nat.testBit_and, h1, h2]; rfl
    rw [h, Nat.zero_testBit] at this
    cases this

end Go.Abs.Det

/- formed, Check and both, exactly; States and Accepts with the exact error. -/
namespace Go.Abs.Det
open Go Go.Abs
set_option linter.unusedSimpArgs false
set_option linter.unusedVariables false

open Classical in
open Classical in
noncomputable def xJl (n : Aut) (t : List Lf) : Int := if xS8 n = 0 then xHh t n.vars.toNat else xS8 n
theorem bothE_zero {n : Aut} {t : List Lf} : xJl n t = 0 ↔ Valid n ∧ t.length ≤ 31 ∧ (∀ e ∈ t, e.x >>> n.vars.toNat = 0) ∧ ∃ T, xFH t T := by
  unfold xJl xHh
  rw [← chkE_zero, ← labOk_iff, ← formedB_iff]
  by_cases c : xS8 n = 0
  · rw [if_pos c]
    by_cases c1 : 31 < t.length
    · rw [if_pos c1]
      exact ⟨fun h => by omega, fun h => by omega⟩
    · rw [if_neg c1]
      cases xUd t n.vars.toNat <;> cases xGn t <;> simp [c] <;> omega
  · rw [if_neg c]
    exact ⟨fun h => (c h).elim, fun h => (c h.1).elim⟩

theorem xX3 (n : Aut) (z : Bool) (t : List Lf) (hT : TyA n) (ht : t.length < 1099511627776) (hx : ∀ e ∈ t, e.x < 256) :
    L.pcall 86 [n.av, tw z t] = some (.int .i64 (xJl n t)) := by
  have h1 := xKX n hT.st hT.fi hT.rl hT.u8
  unfold xJl
  by_cases c : xS8 n = 0
  · have hV := chkE_zero.1 c
    obtain ⟨v, hv⟩ : ∃ v : Nat, n.vars = (v : Nat) := ⟨n.vars.toNat, by have := hV.v0; omega⟩
    have htv : n.vars.toNat = v := by omega
    have h2 := xMV z t v (by have := hV.v3; omega) ht hx
    rw [c] at h1
    rw [if_pos c, htv, yDU, a86, xA7]
    rw [← hv] at h2
    simp (maxSteps := 30000000) (disch := first | assumption | omega | (simp only [List.length_cons, List.length_nil, List.length_append, List.length_set, List.length_replicate, List.length_map, List.length_range, List.length_take, List.length_drop, List.all_cons, List.all_nil, AV.isCell, Bool.and_self, Bool.and_true, xAh, xAb, xAe, xAa, xAP, xAE] <;> omega) | rfl | decide) only [xAU, List.length_cons, List.length_nil, Nat.zero_add, Nat.reduceAdd, Nat.reduceSub, xCL, List.cons_append, List.nil_append, xAp, xAf, xAc, xAk, xBz, AV.cells, opv, List.getD_cons_zero, List.all_cons, AV.isCell, List.all_nil, Bool.and_self, ↓reduceIte, xAq, List.set_cons_succ, List.set_cons_zero, xAi, xAA, xAg, xAj, xAd, xAJ, List.getD_cons_succ, xA1, List.getElem?_cons_zero, xAt, List.drop_zero, List.take_succ_cons, List.take_nil, xBH, xAl, xBJ, List.map_cons, List.map_nil, xBi, xBL, List.mapM_cons, xCA, xA0, xCa, List.mapM_nil, Option.pure_def, Option.bind_eq_bind, Option.bind_some, Option.map_some, xBh, h1, xBg, xDT, xCw, xAy, xBm, decide_true, Bool.not_true, xAo, xAn, Bool.false_eq_true, xAx, xAV, xAB, Nat.add_zero, List.take_zero, xAO, h2, xAW, xAI, xAR, xA2, xAw, xAQ]
  · rw [if_neg c, yDU, a86, xA7]
    simp (maxSteps := 30000000) (disch := first | assumption | omega | (simp only [List.length_cons, List.length_nil, List.length_append, List.length_set, List.length_replicate, List.length_map, List.length_range, List.length_take, List.length_drop, List.all_cons, List.all_nil, AV.isCell, Bool.and_self, Bool.and_true, xAh, xAb, xAe, xAa, xAP, xAE] <;> omega) | rfl | decide) only [xAU, List.length_cons, List.length_nil, Nat.zero_add, Nat.reduceAdd, Nat.reduceSub, xCL, List.cons_append, List.nil_append, xAp, xAf, xAc, xAk, xBz, AV.cells, opv, List.getD_cons_zero, List.all_cons, AV.isCell, List.all_nil, Bool.and_self, ↓reduceIte, xAq, List.set_cons_succ, List.set_cons_zero, xAi, xAA, xAg, xAj, xAd, xAJ, List.getD_cons_succ, xA1, List.getElem?_cons_zero, xAt, List.drop_zero, List.take_succ_cons, List.take_nil, xBH, xAl, xBJ, List.map_cons, List.map_nil, xBi, xBL, List.mapM_cons, xCA, xA0, xCa, List.mapM_nil, Option.pure_def, Option.bind_eq_bind, Option.bind_some, Option.map_some, xBh, h1, xBg, xDT, xCw, xAy, xBm, c, decide_false, Bool.not_false, xAo, xAn, xAW, xBu, xAI, xAR, xA2, xAw, xAQ]

end Go.Abs.Det

/- Copies, small. -/
namespace Go.Abs.Det
open Go Go.Abs
set_option linter.unusedSimpArgs false
set_option linter.unusedVariables false

theorem xX4 (l : List Rl) : (rls l).all xCB = true := by
  induction l with
  | nil => rfl
  | cons e l ih =>
    have : rls (e :: l) = xGr e ++ rls l := rfl
    rw [this, List.all_append, ih]; rfl
end Go.Abs.Det

/- Accepts alone, exactly. -/
namespace Go.Abs.Det
open Go Go.Abs
set_option linter.unusedSimpArgs false
set_option linter.unusedVariables false

theorem yAR (n : Aut) (z : Bool) (t : List Lf) (hT : TyA n) (ht : t.length < 1099511627776) (hx : ∀ e ∈ t, e.x < 256) :
    ∃ b : Bool, L.pcall 44 [n.av, tw z t] = some (.tup [.bool b, .int .i64 (xJl n t)]) ∧ (xJl n t ≠ 0 → b = false) ∧
      (xJl n t = 0 → ∀ T, xFH t T → (b = true ↔ ∃ j, (evA n T).testBit j = true ∧ n.fi.contains (j : Int) = true)) := by
  have h1 := xX3 n z t hT ht hx
  by_cases c : xJl n t = 0
  · obtain ⟨hV, -, -, T, hF⟩ := bothE_zero.1 c
    have hs : ∀ T, xFH t T → L.pcall 87 [n.av, tw z t] = some (.int .u64 (evA n T : Nat)) := fun T hF => xSA ht hx hT.rl (hV.ok hT) hT.st hV.sts hF
    have hlt : ∀ T, evA n T < 18446744073709551616 := fun T => xX1 (xGW _ _ (by omega) hV.sts) (hV.ok hT) T
    have h49 := hs T hF
    have same : ∀ T', xFH t T' → evA n T' = evA n T := fun T' hF' => by
      have h := (hs T' hF').symm.trans h49
      injection h with h
      injection h with _ h
      omega
    have hw := xSv n.z2 n.fi hT.fi hV.fis
    have hwl := xGW n.fi 0 (by omega) hV.fis
    have hand := xUo (hlt T) hwl
    have hb : ((((evA n T &&& xDd 0 n.fi : Nat) : Int) = 0)) = (evA n T &&& xDd 0 n.fi = 0) := propext ⟨fun h => by omega, fun h => by omega⟩
    rw [c] at h1 ⊢
    refine ⟨!decide (evA n T &&& xDd 0 n.fi = 0), ?_, fun h => (h rfl).elim, fun _ T' hF' => ?_⟩
    · rw [yDQ, a44, xA7]
      simp (maxSteps := 30000000) (disch := first | assumption | omega | (simp only [List.length_cons, List.length_nil, List.length_append, List.length_set, List.length_replicate, List.length_map, List.length_range, List.length_take, List.length_drop, List.all_cons, List.all_nil, AV.isCell, Bool.and_self, Bool.and_true, xAh, xAb, xAe, xAa, xAP, xAE] <;> omega) | rfl | decide) only [xAU, List.length_cons, List.length_nil, Nat.zero_add, Nat.reduceAdd, Nat.reduceSub, xCL, List.cons_append, List.nil_append, xAp, xAf, xAc, xAk, xBz, AV.cells, opv, List.getD_cons_zero, List.all_cons, AV.isCell, List.all_nil, Bool.and_self, ↓reduceIte, xAq, List.set_cons_succ, List.set_cons_zero, xAi, xAA, xAg, xAj, xAd, xAJ, List.getD_cons_succ, xA1, List.getElem?_cons_zero, xAt, List.drop_zero, List.take_succ_cons, List.take_nil, xBH, xAl, xBJ, List.map_cons, List.map_nil, xBi, xBL, List.mapM_cons, xCA, xA0, xCa, List.mapM_nil, Option.pure_def, Option.bind_eq_bind, Option.bind_some, Option.map_some, xBh, h1, xBg, xDT, xCw, xAy, xBm, decide_true, Bool.not_true, xAo, xAn, Bool.false_eq_true, xAx, xBI, List.take_zero, xA5, xBf, xBR, xBq, xBC, xBo, xCx, xKr, h49, xDC, xCY, List.flatMap_cons, xIx, xCn, xIw, List.flatMap_nil, List.append_nil, Bool.or_true, xBY, xAV, xAB, List.drop_succ_cons, xAO, xBe, xBn, xCt, xBy, hw, xCS, hand, hb, xAW, xAI, xDO, xDN, xA2, xDM, xEi, xAw, xAQ, xG2, xB2]
    · rw [same T' hF']
      have h0 : ∀ q ∈ n.fi, 0 ≤ q := fun q hq => (hV.fis q hq).1
      rw [show ((!decide (evA n T &&& xDd 0 n.fi = 0)) = true ↔ evA n T &&& xDd 0 n.fi ≠ 0) from by simp, yAQ]
      constructor
      · rintro ⟨j, a, b⟩
        rw [xJj _ _ _ h0, Nat.zero_testBit, Bool.false_or] at b
        exact ⟨j, a, b⟩
      · rintro ⟨j, a, b⟩
        exact ⟨j, a, by rw [xJj _ _ _ h0, Nat.zero_testBit, Bool.false_or]; exact b⟩
  · refine ⟨false, ?_, fun _ => rfl, fun h => (c h).elim⟩
    generalize xJl n t = e at *
    rw [yDQ, a44, xA7]
    simp (maxSteps := 30000000) (disch := first | assumption | omega | (simp only [List.length_cons, List.length_nil, List.length_append, List.length_set, List.length_replicate, List.length_map, List.length_range, List.length_take, List.length_drop, List.all_cons, List.all_nil, AV.isCell, Bool.and_self, Bool.and_true, xAh, xAb, xAe, xAa, xAP, xAE] <;> omega) | rfl | decide) only [xAU, List.length_cons, List.length_nil, Nat.zero_add, Nat.reduceAdd, Nat.reduceSub, xCL, List.cons_append, List.nil_append, xAp, xAf, xAc, xAk, xBz, AV.cells, opv, List.getD_cons_zero, List.all_cons, AV.isCell, List.all_nil, Bool.and_self, ↓reduceIte, xAq, List.set_cons_succ, List.set_cons_zero, xAi, xAA, xAg, xAj, xAd, xAJ, List.getD_cons_succ, xA1, List.getElem?_cons_zero, xAt, List.drop_zero, List.take_succ_cons, List.take_nil, xBH, xAl, xBJ, List.map_cons, List.map_nil, xBi, xBL, List.mapM_cons, xCA, xA0, xCa, List.mapM_nil, Option.pure_def, Option.bind_eq_bind, Option.bind_some, Option.map_some, xBh, h1, xBg, xDT, xCw, xAy, xBm, c, decide_false, Bool.not_false, xAo, xAn, xAW, xBu, xAI, xDO, xDN, xA2, xDM, xEi, xAw, xAQ, xG2, xB2]
end Go.Abs.Det
