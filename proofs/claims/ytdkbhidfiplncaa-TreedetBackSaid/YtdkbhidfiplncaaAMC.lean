/- Words of states: word, list. -/
import Derived.Test.YtdkbhidfiplncaaAMB
import Derived.Test.YtdkbhidfiplncaaAGL
import Derived.Test.YtdkbhidfiplncaaAMR
namespace Go.Abs.Det
open Go Go.Abs
set_option linter.unusedSimpArgs false
set_option linter.unusedVariables false

theorem xJs {z : Bool} {l : List Int} {H : xAu} (hl : l.length < 1099511627776) (hq : ∀ q ∈ l, 0 ≤ q ∧ q < 64) : ∀ d i a, i + d = l.length → a < 18446744073709551616 →
    L.loop xLP xTt ⟨xLQ (.int .u64 (a : Nat)) (iw z l) (.int .i64 (l.length : Nat)) (.int .i64 (i : Nat)), H⟩ = some (.exit 0, ⟨xLQ (.int .u64 (xDd a (l.drop i) : Nat)) (iw z l) (.int .i64 (l.length : Nat)) (.int .i64 (l.length : Nat)), H⟩)
  | 0, i, a, h, ha => by
    obtain rfl : i = l.length := by omega
    rw [List.drop_length, xDd, xVs]
    simp (maxSteps := 30000000) (disch := first | assumption | omega | (simp only [List.length_cons, List.length_nil, List.length_append, List.length_set, List.length_replicate, List.length_map, List.length_range, List.length_take, List.length_drop, List.all_cons, List.all_nil, AV.isCell, Bool.and_self, Bool.and_true, xAh, xAb, xAe, xAa, xAa, List.length_map] <;> omega) | rfl | decide) only [xOK, xAp, xAf, xAc, xAk, xAy, opv, List.getD_cons_succ, List.getD_cons_zero, xAz, Int.lt_irrefl, decide_false, xAl, xAq, List.set_cons_succ, List.set_cons_zero, xAi, xAg, xAj, xAd, xAo, xAn, Bool.false_eq_true, ↓reduceIte, xBt, xBc, xA3, xQU]
  | d + 1, i, a, h, ha => by
    have hlt : (i : Int) < (l.length : Nat) := by omega
    have hm := hq (l.getD i 0) (by rw [List.getD_eq_getElem?_getD, List.getElem?_eq_getElem (by omega : i < l.length)]; exact List.getElem_mem _)
    have hs := xSu (show (l.getD i 0).toNat < 64 by omega)
    have hp := xNY (show (l.getD i 0).toNat < 64 by omega)
    have ho := yAx ha hp
    have h0 := hm.1
    have ih := xJs (z := z) (H := H) hl hq d (i + 1) (a ||| 2 ^ (l.getD i 0).toNat) (by omega) (xNX ha hp)
    rw [xGR (by omega : i < l.length), xDd, xVs]
    simp (maxSteps := 30000000) (disch := first | assumption | omega | (simp only [List.length_cons, List.length_nil, List.length_append, List.length_set, List.length_replicate, List.length_map, List.length_range, List.length_take, List.length_drop, List.all_cons, List.all_nil, AV.isCell, Bool.and_self, Bool.and_true, xAh, xAb, xAe, xAa, xAa, List.length_map] <;> omega) | rfl | decide) only [xOK, xAp, xAf, xAc, xAk, xAy, opv, List.getD_cons_succ, List.getD_cons_zero, xAz, hlt, decide_true, xAl, xAq, List.set_cons_succ, List.set_cons_zero, xAi, xAg, xAj, xAd, xAo, xAn, ↓reduceIte, xAx, xAr, xAZ, xAY, Int.toNat_natCast, Nat.mul_one, xAJ, xBj, xB1, xBW, xCr, xBV, Nat.add_zero, xAO, xAA, xDb, hs, xIs, ho, xAs, xBa, xCi, xCV, xAv, xQU, ih]

theorem yA4 (z : Bool) (l : List Int) (hl : l.length < 1099511627776) (hq : ∀ q ∈ l, 0 ≤ q ∧ q < 64) : L.pcall 73 [iw z l] = some (.int .u64 (xDd 0 l : Nat)) := by
  have h := xJs (z := z) (H := []) hl hq l.length 0 0 (by omega) (by omega)
  simp only [Int.natCast_zero, List.drop_zero] at h
  rw [yER, a73, xA7]
  simp (maxSteps := 30000000) (disch := first | assumption | omega | (simp only [List.length_cons, List.length_nil, List.length_append, List.length_set, List.length_replicate, List.length_map, List.length_range, List.length_take, List.length_drop, List.all_cons, List.all_nil, AV.isCell, Bool.and_self, Bool.and_true, xAh, xAb, xAe, xAa, xAa, List.length_map] <;> omega) | rfl | decide) only [xAU, List.length_cons, List.length_nil, Nat.zero_add, Nat.reduceSub, xCL, List.cons_append, List.nil_append, xAp, xAf, xAc, xAk, xAA, opv, xAq, List.set_cons_succ, List.set_cons_zero, xAi, xAg, xAj, xAd, List.getD_cons_zero, xBk, List.getD_cons_succ, xA8, xAl, xAr, xA6, xQU, h, xAS, ↓reduceIte, xAW, xAI, xAR, xA2, xAw, xAQ, xBL, xA0]

def lsW (w i : Nat) : List Int := ((List.range i).filter (fun s => w.testBit s)).map fun (s : Nat) => (s : Int)
theorem xU3 (w i : Nat) : lsW w (i + 1) = if w.testBit i = true then lsW w i ++ [(i : Int)] else lsW w i := by
  unfold lsW
  rw [List.range_succ, List.filter_append, List.map_append]
  by_cases c : w.testBit i = true
  · rw [if_pos c]; simp [c]
  · rw [if_neg c]; simp [c]
theorem xYp (w i : Nat) : (lsW w i).length ≤ i := by
  unfold lsW
  rw [List.length_map]
  have := List.length_filter_le (fun s => w.testBit s) (List.range i)
  rwa [List.length_range] at this
theorem xSX (l : List Int) : (xCh l).all xCB = true := by
  induction l with
  | nil => rfl
  | cons a l ih => simp [xCh, xCB]

theorem xSY {w : Nat} (hw : w < 18446744073709551616) : ∀ d i v H, i + d = 64 → Lst 0 H v (xCh (lsW w i)) →
    ∃ v' H', L.loop xL3 xTx ⟨xL4 (.int .u64 (w : Nat)) v (.int .i64 (i : Nat)), H⟩ = some (.exit 0, ⟨xL4 (.int .u64 (w : Nat)) v' (.int .i64 64), H'⟩) ∧ Lst 0 H' v' (xCh (lsW w 64)) := by
  intro d
  induction d with
  | zero =>
    intro i v H h hv
    obtain rfl : i = 64 := by omega
    refine ⟨v, H, ?_, hv⟩
    rw [xQY]
    simp (maxSteps := 30000000) (disch := first | assumption | omega | (simp only [List.length_cons, List.length_nil, List.length_append, List.length_set, List.length_replicate, List.length_map, List.length_range, List.length_take, List.length_drop, List.all_cons, List.all_nil, AV.isCell, Bool.and_self, Bool.and_true, xAh, xAb, xAe, xAa, xAa, List.length_map] <;> omega) | rfl | decide) only [xL2, xD8, xAp, xAf, xAc, xAk, xAy, opv, List.getD_cons_succ, List.getD_cons_zero, xAz, Int.lt_irrefl, decide_false, xAl, xAq, List.set_cons_succ, List.set_cons_zero, xAi, xAg, xAj, xAd, xAo, xAn, Bool.false_eq_true, ↓reduceIte, xBt, xBc, xA3, xOM]
  | succ d ih =>
    intro i v H h hv
    have hlt : (i : Int) < 64 := by omega
    have hsl := xUc w (show i ≤ IntKind.u64.bits from by show _ ≤ 64; omega)
    have hb := yAP hw i
    have hs := xU3 w i
    have hln := xYp w i
    by_cases c : w.testBit i = true
    · rw [if_pos c] at hb hs
      obtain ⟨v1, H1, p1, p2, _⟩ := hv.push (.int .i64 (i : Nat)) (bytes := 8) (by rw [xAa]; omega) (by rw [xAa]; omega) (Nat.zero_le _)
      have e2 : xCh (lsW w i) ++ [AV.int .i64 (i : Nat)] = xCh (lsW w (i + 1)) := by rw [hs]; simp [xCh]
      rw [e2] at p2
      obtain ⟨v', H', q1, q2⟩ := ih (i + 1) v1 H1 (by omega) p2
      refine ⟨v', H', ?_, q2⟩
      rw [xQY]
      simp (maxSteps := 30000000) (disch := first | assumption | omega | (simp only [List.length_cons, List.length_nil, List.length_append, List.length_set, List.length_replicate, List.length_map, List.length_range, List.length_take, List.length_drop, List.all_cons, List.all_nil, AV.isCell, Bool.and_self, Bool.and_true, xAh, xAb, xAe, xAa, xAa, List.length_map] <;> omega) | rfl | decide) only [xL2, xAp, xAf, xAc, xAk, xAy, opv, List.getD_cons_succ, List.getD_cons_zero, xAz, hlt, decide_true, xAl, xAq, List.set_cons_succ, List.set_cons_zero, xAi, xAg, xAj, xAd, xAo, xAn, ↓reduceIte, xAx, xAr, xAA, xCT, Int.toNat_natCast, hsl, xCS, hb, xBm, Int.reduceEq, decide_false, Bool.not_false, xBP, AV.cells, List.all_cons, List.length_cons, List.length_nil, Nat.zero_add, beq_self_eq_true, List.all_nil, Bool.and_self, xC1, List.append_nil, Nat.mul_one, List.map_cons, List.map_nil, xCd, Nat.le_refl, AV.isCell, and_self, xBd, List.take_zero, List.nil_append, List.drop_succ_cons, List.drop_nil, xBO, xB5, xBL, List.flatMap_cons, xCn, List.flatMap_nil, List.isEmpty_nil, List.mapM_cons, xA0, List.mapM_nil, Option.pure_def, Option.bind_eq_bind, Option.bind_some, xB6, xBT, xDk, p1, xAs, xBa, xCi, xCV, xAv, xOM, q1]
    · rw [if_neg c] at hb hs
      obtain ⟨v', H', q1, q2⟩ := ih (i + 1) v H (by omega) (by rw [hs]; exact hv)
      refine ⟨v', H', ?_, q2⟩
      rw [xQY]
      simp (maxSteps := 30000000) (disch := first | assumption | omega | (simp only [List.length_cons, List.length_nil, List.length_append, List.length_set, List.length_replicate, List.length_map, List.length_range, List.length_take, List.length_drop, List.all_cons, List.all_nil, AV.isCell, Bool.and_self, Bool.and_true, xAh, xAb, xAe, xAa, xAa, List.length_map] <;> omega) | rfl | decide) only [xL2, xAp, xAf, xAc, xAk, xAy, opv, List.getD_cons_succ, List.getD_cons_zero, xAz, hlt, decide_true, xAl, xAq, List.set_cons_succ, List.set_cons_zero, xAi, xAg, xAj, xAd, xAo, xAn, ↓reduceIte, xAx, xAr, xAA, xCT, Int.toNat_natCast, hsl, xCS, hb, xBm, Bool.not_true, Bool.false_eq_true, xAs, xBa, xCi, xCV, xAv, xOM, q1]

theorem yA5 {w : Nat} (hw : w < 18446744073709551616) : L.pcall 77 [.int .u64 (w : Nat)] = some (.sl ((lsW w 64).length == 0) (lsW w 64).length (xCh (lsW w 64))) := by
  obtain ⟨v', H', q1, q2⟩ := xSY hw 64 0 (.sl true 0 []) [] (by omega) (.nil _ _)
  have hf := q2.dat (xSX _) 5
  rw [xAa] at hf
  simp only [Int.natCast_zero] at q1
  rw [yEV, a77, xA7]
  simp (maxSteps := 30000000) (disch := first | assumption | omega | (simp only [List.length_cons, List.length_nil, List.length_append, List.length_set, List.length_replicate, List.length_map, List.length_range, List.length_take, List.length_drop, List.all_cons, List.all_nil, AV.isCell, Bool.and_self, Bool.and_true, xAh, xAb, xAe, xAa, xAa, List.length_map] <;> omega) | rfl | decide) only [xAU, List.length_cons, List.length_nil, Nat.zero_add, Nat.reduceSub, xCL, List.cons_append, List.nil_append, xAp, xAf, xAc, xAk, xAA, opv, xAq, List.set_cons_succ, List.set_cons_zero, xAi, xAg, xAj, xAd, xAr, xA6, xOM, q1, xAS, ↓reduceIte, List.getD_cons_succ, List.getD_cons_zero, xAW, xAI, xAR, xA2, xAw, xAQ, xBL, hf]
def xJy (w : Nat) : AV := .sl ((lsW w 64).length == 0) (lsW w 64).length (xCh (lsW w 64))
theorem xU4 (l : List Nat) : (l.map xJy).all xCB = true := by simp [xJy, xCB]
end Go.Abs.Det

/- The states of a node, from two numbered sets: after. -/
namespace Go.Abs.Det
open Go Go.Abs
set_option linter.unusedSimpArgs false
set_option linter.unusedVariables false

theorem xNf {a : Nat} (h : a < 18446744073709551616) (k : Nat) : a >>> k < 18446744073709551616 := Nat.lt_of_le_of_lt (by rw [Nat.shiftRight_eq_div_pow]; exact Nat.div_le_self ..) h
theorem yED {a b : Nat} (ha : a < 18446744073709551616) (hb : b < 18446744073709551616) (k m : Nat) : xFE .and .u64 (((a >>> k) &&& (b >>> m) : Nat) : Int) 1 = if a.testBit k = true ∧ b.testBit m = true then 1 else 0 := by
  have hc : (a >>> k) &&& (b >>> m) < 18446744073709551616 := Nat.lt_of_le_of_lt Nat.and_le_left (xNf ha k)
  have h := yAP hc 0
  rw [Nat.shiftRight_zero] at h
  rw [h, Nat.testBit_and, Nat.testBit_shiftRight, Nat.testBit_shiftRight, Nat.add_zero, Nat.add_zero]
  simp only [Bool.and_eq_true]

set_option maxHeartbeats 1000000 in
theorem xOd {z : Bool} {rl : List Rl} {o : List Nat} {l r x : Nat} {q lb : Nat} (hl : rl.length < 1099511627776) (hb : xNZ rl) (ho : ∀ w ∈ o, w < 18446744073709551616) (hol : o.length ≤ 65) (hlo : l < o.length) (hro : r < o.length) (hx : x < 256) : ∀ d i a G, i + d = rl.length → a < 18446744073709551616 → G[q]? = some (.cells false false [.own false lb 0 o.length 1]) → G[lb]? = some (.cells false false (w64 o)) →
    ∃ X, L.loop xJG xQV ⟨xH6 (.int .i64 (l : Nat)) (.int .i64 (r : Nat)) (.int .i64 (x : Nat)) (.ptr q 0) (.int .u64 (a : Nat)) (.sl z rl.length (rls rl)) (.int .i64 (rl.length : Nat)) (.int .i64 (i : Nat)), G⟩ =
      some (.exit 0, ⟨xH6 (.int .i64 (l : Nat)) (.int .i64 (r : Nat)) (.int .i64 (x : Nat)) (.ptr q 0) (.int .u64 (toM (o.getD l 0) (o.getD r 0) x a (rl.drop i) : Nat)) (.sl z rl.length (rls rl)) (.int .i64 (rl.length : Nat)) (.int .i64 (rl.length : Nat)), G ++ X⟩) := by
  have hA := ho _ (xBF (a := (0 : Nat)) hlo)
  have hB := ho _ (xBF (a := (0 : Nat)) hro)
  have gl : List.take 1 (List.drop l (w64 o)) = [.int .u64 (o.getD l 0 : Nat)] := xCe _ _ hlo
  have gr : List.take 1 (List.drop r (w64 o)) = [.int .u64 (o.getD r 0 : Nat)] := xCe _ _ hro
  generalize o.getD l 0 = A at *
  generalize o.getD r 0 = B at *
  intro d
  induction d with
  | zero =>
    intro i a G h ha hq hlb
    obtain rfl : i = rl.length := by omega
    refine ⟨[], ?_⟩
    rw [List.drop_length, toM, xF5, List.append_nil]
    simp (maxSteps := 30000000) (disch := first | assumption | omega | (simp only [List.length_cons, List.length_nil, List.length_append, List.length_set, List.length_replicate, List.length_map, List.length_range, List.length_take, List.length_drop, List.all_cons, List.all_nil, AV.isCell, Bool.and_self, Bool.and_true, xAh, xAb, xAe, xAa, xAE] <;> omega) | rfl | decide) only [xE5, xAp, xAf, xAc, xAk, xAy, opv, List.getD_cons_succ, List.getD_cons_zero, xAz, Int.lt_irrefl, decide_false, xAl, xAq, List.set_cons_succ, List.set_cons_zero, xAi, xAg, xAj, xAd, xAo, xAn, Bool.false_eq_true, ↓reduceIte, xBt, xBc, xA3, xE6]
  | succ d ih =>
    intro i a G h ha hq hlb
    have hlt : (i : Int) < (rl.length : Nat) := by omega
    obtain ⟨⟨l0, l1⟩, ⟨rl0', r1⟩, ⟨t0, t1⟩, p1, n1⟩ := hb _ (xHX (by omega : i < rl.length))
    rw [xGV (by omega : i < rl.length), toM]
    have hat := xFJ (by omega : i < rl.length)
    generalize rl.getD i rl0 = u at *
    have hsl := xUc A (show u.l.toNat ≤ IntKind.u64.bits from by show _ ≤ 64; omega)
    have hsr := xUc B (show u.r.toNat ≤ IntKind.u64.bits from by show _ ≤ 64; omega)
    have hab := xUo (xNf hA u.l.toNat) (xNf hB u.r.toNat)
    have hbit := yED hA hB u.l.toNat u.r.toNat
    have hs := xSu (show u.t.toNat < 64 by omega)
    have hp := xNY (show u.t.toNat < 64 by omega)
    have hor := yAx ha hp
    have h1 := xWo hx p1
    have h2 := xWo hx n1
    have e1 : (((x &&& u.p : Nat) : Int) = ((u.p : Nat) : Int)) = (x &&& u.p = u.p) := propext ⟨fun h => by omega, fun h => by omega⟩
    have e2 : (((x &&& u.n : Nat) : Int) = 0) = (x &&& u.n = 0) := propext ⟨fun h => by omega, fun h => by omega⟩
    obtain ⟨Y, hY⟩ : ∃ Y, Y = Blk.cells false false [.int .i64 u.l, .int .i64 u.r, .int .i64 u.t, .int .u8 (u.p : Nat), .int .u8 (u.n : Nat)] := ⟨_, rfl⟩
    have g1 := xA9 (X := [Y]) hq
    have g2 := xA9 (X := [Y]) hlb
    rw [hY] at g1 g2
    have ihA : ∀ a', a' < 18446744073709551616 → ∃ X, _ := fun a' ha' => ih (i + 1) a' (G ++ [Y]) (by omega) ha' (xA9 hq) (xA9 hlb)
    by_cases c1 : A.testBit u.l.toNat = true ∧ B.testBit u.r.toNat = true
    · rw [if_pos c1] at hbit
      by_cases c2 : x &&& u.p = u.p
      · by_cases c3 : x &&& u.n = 0
        · rw [if_pos (by unfold hit xQs; rw [c1.1, c1.2, c2, c3]; simp)]
          obtain ⟨X, ih⟩ := ihA (a ||| 2 ^ u.t.toNat) (xNX ha hp)
          refine ⟨Y :: X, ?_⟩
          rw [hY] at ih ⊢
          simp only [List.append_assoc, List.cons_append, List.nil_append] at ih ⊢
          rw [xF5]
          simp (maxSteps := 30000000) (disch := first | assumption | omega | (simp only [List.length_cons, List.length_nil, List.length_append, List.length_set, List.length_replicate, List.length_map, List.length_range, List.length_take, List.length_drop, List.all_cons, List.all_nil, AV.isCell, Bool.and_self, Bool.and_true, xAh, xAb, xAe, xAa, xAE] <;> omega) | rfl | decide) only [xE5, xAp, xAf, xAc, xAk, xAy, opv, List.getD_cons_succ, List.getD_cons_zero, xAz, hlt, decide_true, xAl, xAq, List.set_cons_succ, List.set_cons_zero, xAi, xAg, xAj, xAd, xAo, xAn, ↓reduceIte, xAx, xAr, xAZ, xAY, Int.toNat_natCast, xAJ, xBj, hat, xBH, xBz, AV.cells, List.all_cons, AV.isCell, List.all_nil, Bool.and_self, xA4, List.length_cons, List.length_nil, Nat.zero_add, Nat.reduceAdd, xBE, xCM, List.getElem?_cons_zero, xAX, xBd, List.take_zero, List.nil_append, List.drop_succ_cons, List.drop_nil, List.append_nil, xDq, xAK, xBl, xBI, List.take_succ_cons, xA5, xBf, xBR, xA1, g1, xAt, List.drop_zero, List.take_nil, xAO, xBq, xBC, xBo, xCx, xAA, xCg, xBU, Nat.mul_one, g2, gl, xBY, xAV, xAB, Nat.add_zero, xEa, xCT, hsl, gr, hsr, xCS, hab, hbit, xBm, Int.reduceEq, decide_false, Bool.not_false, xCl, xB9, xFo, xDW, xCW, xS4, h1, c2, xBM, xFn, xBb, xAN, xBe, xBn, xCt, xBy, xAM, xAD, h2, c3, xD8, xDb, hs, xIs, hor, xAs, xBa, xCi, xCV, xAv, xE6, ih]
        · rw [if_neg (by unfold hit xQs; rw [c1.1, c1.2, c2]; simp [c3])]
          obtain ⟨X, ih⟩ := ihA a ha
          refine ⟨Y :: X, ?_⟩
          rw [hY] at ih ⊢
          simp only [List.append_assoc, List.cons_append, List.nil_append] at ih ⊢
          rw [xF5]
          simp (maxSteps := 30000000) (disch := first | assumption | omega | (simp only [List.length_cons, List.length_nil, List.length_append, List.length_set, List.length_replicate, List.length_map, List.length_range, List.length_take, List.length_drop, List.all_cons, List.all_nil, AV.isCell, Bool.and_self, Bool.and_true, xAh, xAb, xAe, xAa, xAE] <;> omega) | rfl | decide) only [xE5, xAp, xAf, xAc, xAk, xAy, opv, List.getD_cons_succ, List.getD_cons_zero, xAz, hlt, decide_true, xAl, xAq, List.set_cons_succ, List.set_cons_zero, xAi, xAg, xAj, xAd, xAo, xAn, ↓reduceIte, xAx, xAr, xAZ, xAY, Int.toNat_natCast, xAJ, xBj, hat, xBH, xBz, AV.cells, List.all_cons, AV.isCell, List.all_nil, Bool.and_self, xA4, List.length_cons, List.length_nil, Nat.zero_add, Nat.reduceAdd, xBE, xCM, List.getElem?_cons_zero, xAX, xBd, List.take_zero, List.nil_append, List.drop_succ_cons, List.drop_nil, List.append_nil, xDq, xAK, xBl, xBI, List.take_succ_cons, xA5, xBf, xBR, xA1, g1, xAt, List.drop_zero, List.take_nil, xAO, xBq, xBC, xBo, xCx, xAA, xCg, xBU, Nat.mul_one, g2, gl, xBY, xAV, xAB, Nat.add_zero, xEa, xCT, hsl, gr, hsr, xCS, hab, hbit, xBm, Int.reduceEq, decide_false, Bool.not_false, xCl, xB9, xFo, xDW, xCW, xS4, h1, c2, xBM, xFn, xBb, xAN, xBe, xBn, xCt, xBy, xAM, xAD, h2, e2, c3, Bool.false_eq_true, xAs, xBa, xCi, xCV, xAv, xE6, ih]
      · rw [if_neg (by unfold hit xQs; rw [c1.1, c1.2]; simp [c2])]
        obtain ⟨X, ih⟩ := ihA a ha
        refine ⟨Y :: X, ?_⟩
        rw [hY] at ih ⊢
        simp only [List.append_assoc, List.cons_append, List.nil_append] at ih ⊢
        rw [xF5]
        simp (maxSteps := 30000000) (disch := first | assumption | omega | (simp only [List.length_cons, List.length_nil, List.length_append, List.length_set, List.length_replicate, List.length_map, List.length_range, List.length_take, List.length_drop, List.all_cons, List.all_nil, AV.isCell, Bool.and_self, Bool.and_true, xAh, xAb, xAe, xAa, xAE] <;> omega) | rfl | decide) only [xE5, xAp, xAf, xAc, xAk, xAy, opv, List.getD_cons_succ, List.getD_cons_zero, xAz, hlt, decide_true, xAl, xAq, List.set_cons_succ, List.set_cons_zero, xAi, xAg, xAj, xAd, xAo, xAn, ↓reduceIte, xAx, xAr, xAZ, xAY, Int.toNat_natCast, xAJ, xBj, hat, xBH, xBz, AV.cells, List.all_cons, AV.isCell, List.all_nil, Bool.and_self, xA4, List.length_cons, List.length_nil, Nat.zero_add, Nat.reduceAdd, xBE, xCM, List.getElem?_cons_zero, xAX, xBd, List.take_zero, List.nil_append, List.drop_succ_cons, List.drop_nil, List.append_nil, xDq, xAK, xBl, xBI, List.take_succ_cons, xA5, xBf, xBR, xA1, g1, xAt, List.drop_zero, List.take_nil, xAO, xBq, xBC, xBo, xCx, xAA, xCg, xBU, Nat.mul_one, g2, gl, xBY, xAV, xAB, Nat.add_zero, xEa, xCT, hsl, gr, hsr, xCS, hab, hbit, xBm, Int.reduceEq, decide_false, Bool.not_false, xCl, xB9, xFo, xDW, xCW, xS4, h1, xBM, e1, c2, xFn, xBb, xAN, Bool.false_eq_true, xCy, xBe, xBn, xCt, xBy, xAM, xAD, xAs, xBa, xCi, xCV, xAv, xE6, ih]
    · rw [if_neg c1] at hbit
      rw [if_neg (by unfold hit; intro q; simp only [Bool.and_eq_true] at q; exact c1 q.1)]
      obtain ⟨X, ih⟩ := ihA a ha
      refine ⟨Y :: X, ?_⟩
      rw [hY] at ih ⊢
      simp only [List.append_assoc, List.cons_append, List.nil_append] at ih ⊢
      rw [xF5]
      simp (maxSteps := 30000000) (disch := first | assumption | omega | (simp only [List.length_cons, List.length_nil, List.length_append, List.length_set, List.length_replicate, List.length_map, List.length_range, List.length_take, List.length_drop, List.all_cons, List.all_nil, AV.isCell, Bool.and_self, Bool.and_true, xAh, xAb, xAe, xAa, xAE] <;> omega) | rfl | decide) only [xE5, xAp, xAf, xAc, xAk, xAy, opv, List.getD_cons_succ, List.getD_cons_zero, xAz, hlt, decide_true, xAl, xAq, List.set_cons_succ, List.set_cons_zero, xAi, xAg, xAj, xAd, xAo, xAn, ↓reduceIte, xAx, xAr, xAZ, xAY, Int.toNat_natCast, xAJ, xBj, hat, xBH, xBz, AV.cells, List.all_cons, AV.isCell, List.all_nil, Bool.and_self, xA4, List.length_cons, List.length_nil, Nat.zero_add, Nat.reduceAdd, xBE, xCM, List.getElem?_cons_zero, xAX, xBd, List.take_zero, List.nil_append, List.drop_succ_cons, List.drop_nil, List.append_nil, xDq, xAK, xBl, xBI, List.take_succ_cons, xA5, xBf, xBR, xA1, g1, xAt, List.drop_zero, List.take_nil, xAO, xBq, xBC, xBo, xCx, xAA, xCg, xBU, Nat.mul_one, g2, gl, xBY, xAV, xAB, Nat.add_zero, xEa, xCT, hsl, gr, hsr, xCS, hab, hbit, xBm, Bool.not_true, xCl, xB9, Bool.false_eq_true, xCy, xFn, xBb, xAN, xBe, xBn, xCt, xBy, xAM, xAD, xAs, xBa, xCi, xCV, xAv, xE6, ih]

set_option maxHeartbeats 1000000 in
theorem xOe {z : Bool} {rl : List Rl} {o : List Nat} {l r x : Nat} (hl : rl.length < 1099511627776) (hb : xNZ rl) (ho : ∀ w ∈ o, w < 18446744073709551616) (hol : o.length ≤ 65) (hlo : l < o.length) (hro : r < o.length) (hx : x < 256) : ∀ d i a G, i + d = rl.length → a < 18446744073709551616 →
    ∃ X, L.loop xJG xQV ⟨xH6 (.int .i64 (l : Nat)) (.int .i64 (r : Nat)) (.int .i64 (x : Nat)) (.vptr [.sl false o.length (w64 o)] 0) (.int .u64 (a : Nat)) (.sl z rl.length (rls rl)) (.int .i64 (rl.length : Nat)) (.int .i64 (i : Nat)), G⟩ =
      some (.exit 0, ⟨xH6 (.int .i64 (l : Nat)) (.int .i64 (r : Nat)) (.int .i64 (x : Nat)) (.vptr [.sl false o.length (w64 o)] 0) (.int .u64 (toM (o.getD l 0) (o.getD r 0) x a (rl.drop i) : Nat)) (.sl z rl.length (rls rl)) (.int .i64 (rl.length : Nat)) (.int .i64 (rl.length : Nat)), G ++ X⟩) := by
  have hA := ho _ (xBF (a := (0 : Nat)) hlo)
  have hB := ho _ (xBF (a := (0 : Nat)) hro)
  have gl : List.take 1 (List.drop l (w64 o)) = [.int .u64 (o.getD l 0 : Nat)] := xCe _ _ hlo
  have gr : List.take 1 (List.drop r (w64 o)) = [.int .u64 (o.getD r 0 : Nat)] := xCe _ _ hro
  generalize o.getD l 0 = A at *
  generalize o.getD r 0 = B at *
  intro d
  induction d with
  | zero =>
    intro i a G h ha
    obtain rfl : i = rl.length := by omega
    refine ⟨[], ?_⟩
    rw [List.drop_length, toM, xF5, List.append_nil]
    simp (maxSteps := 30000000) (disch := first | assumption | omega | (simp only [List.length_cons, List.length_nil, List.length_append, List.length_set, List.length_replicate, List.length_map, List.length_range, List.length_take, List.length_drop, List.all_cons, List.all_nil, AV.isCell, Bool.and_self, Bool.and_true, xAh, xAb, xAe, xAa, xAE] <;> omega) | rfl | decide) only [xE5, xAp, xAf, xAc, xAk, xAy, opv, List.getD_cons_succ, List.getD_cons_zero, xAz, Int.lt_irrefl, decide_false, xAl, xAq, List.set_cons_succ, List.set_cons_zero, xAi, xAg, xAj, xAd, xAo, xAn, Bool.false_eq_true, ↓reduceIte, xBt, xBc, xA3, xE6]
  | succ d ih =>
    intro i a G h ha
    have hlt : (i : Int) < (rl.length : Nat) := by omega
    obtain ⟨⟨l0, l1⟩, ⟨rl0', r1⟩, ⟨t0, t1⟩, p1, n1⟩ := hb _ (xHX (by omega : i < rl.length))
    rw [xGV (by omega : i < rl.length), toM]
    have hat := xFJ (by omega : i < rl.length)
    generalize rl.getD i rl0 = u at *
    have hsl := xUc A (show u.l.toNat ≤ IntKind.u64.bits from by show _ ≤ 64; omega)
    have hsr := xUc B (show u.r.toNat ≤ IntKind.u64.bits from by show _ ≤ 64; omega)
    have hab := xUo (xNf hA u.l.toNat) (xNf hB u.r.toNat)
    have hbit := yED hA hB u.l.toNat u.r.toNat
    have hs := xSu (show u.t.toNat < 64 by omega)
    have hp := xNY (show u.t.toNat < 64 by omega)
    have hor := yAx ha hp
    have h1 := xWo hx p1
    have h2 := xWo hx n1
    have e1 : (((x &&& u.p : Nat) : Int) = ((u.p : Nat) : Int)) = (x &&& u.p = u.p) := propext ⟨fun h => by omega, fun h => by omega⟩
    have e2 : (((x &&& u.n : Nat) : Int) = 0) = (x &&& u.n = 0) := propext ⟨fun h => by omega, fun h => by omega⟩
    obtain ⟨Y, hY⟩ : ∃ Y, Y = Blk.cells false false [.int .i64 u.l, .int .i64 u.r, .int .i64 u.t, .int .u8 (u.p : Nat), .int .u8 (u.n : Nat)] := ⟨_, rfl⟩

    have ihA : ∀ a', a' < 18446744073709551616 → ∃ X, _ := fun a' ha' => ih (i + 1) a' (G ++ [Y]) (by omega) ha'
    by_cases c1 : A.testBit u.l.toNat = true ∧ B.testBit u.r.toNat = true
    · rw [if_pos c1] at hbit
      by_cases c2 : x &&& u.p = u.p
      · by_cases c3 : x &&& u.n = 0
        · rw [if_pos (by unfold hit xQs; rw [c1.1, c1.2, c2, c3]; simp)]
          obtain ⟨X, ih⟩ := ihA (a ||| 2 ^ u.t.toNat) (xNX ha hp)
          refine ⟨Y :: X, ?_⟩
          rw [hY] at ih ⊢
          simp only [List.append_assoc, List.cons_append, List.nil_append] at ih ⊢
          rw [xF5]
          simp (maxSteps := 30000000) (disch := first | assumption | omega | (simp only [List.length_cons, List.length_nil, List.length_append, List.length_set, List.length_replicate, List.length_map, List.length_range, List.length_take, List.length_drop, List.all_cons, List.all_nil, AV.isCell, Bool.and_self, Bool.and_true, xAh, xAb, xAe, xAa, xAE] <;> omega) | rfl | decide) only [xE5, xAp, xAf, xAc, xAk, xAy, opv, List.getD_cons_succ, List.getD_cons_zero, xAz, hlt, decide_true, xAl, xAq, List.set_cons_succ, List.set_cons_zero, xAi, xAg, xAj, xAd, xAo, xAn, ↓reduceIte, xAx, xAr, xAZ, xAY, Int.toNat_natCast, xAJ, xBj, hat, xBH, xBz, AV.cells, List.all_cons, AV.isCell, List.all_nil, Bool.and_self, xA4, List.length_cons, List.length_nil, Nat.zero_add, Nat.reduceAdd, xBE, xCM, List.getElem?_cons_zero, xAX, xBd, List.take_zero, List.nil_append, List.drop_succ_cons, List.drop_nil, List.append_nil, xDq, xAK, xBl, xBI, List.take_succ_cons, xA5, xBf, xBR, List.drop_zero, List.take_nil, xAO, xBq, xBC, xBo, xCx, xAA, xCg, Nat.mul_one, gl, xBY, xAV, xAB, Nat.add_zero, xA1, xAt, xEa, xCT, hsl, gr, hsr, xCS, hab, hbit, xBm, Int.reduceEq, decide_false, Bool.not_false, xCl, xB9, xFo, xDW, xCW, xS4, h1, c2, xBM, xFn, xBb, xAN, xBe, xBn, xCt, xBy, xAM, xAD, h2, c3, xD8, xDb, hs, xIs, hor, xAs, xBa, xCi, xCV, xAv, xE6, ih]
        · rw [if_neg (by unfold hit xQs; rw [c1.1, c1.2, c2]; simp [c3])]
          obtain ⟨X, ih⟩ := ihA a ha
          refine ⟨Y :: X, ?_⟩
          rw [hY] at ih ⊢
          simp only [List.append_assoc, List.cons_append, List.nil_append] at ih ⊢
          rw [xF5]
          simp (maxSteps := 30000000) (disch := first | assumption | omega | (simp only [List.length_cons, List.length_nil, List.length_append, List.length_set, List.length_replicate, List.length_map, List.length_range, List.length_take, List.length_drop, List.all_cons, List.all_nil, AV.isCell, Bool.and_self, Bool.and_true, xAh, xAb, xAe, xAa, xAE] <;> omega) | rfl | decide) only [xE5, xAp, xAf, xAc, xAk, xAy, opv, List.getD_cons_succ, List.getD_cons_zero, xAz, hlt, decide_true, xAl, xAq, List.set_cons_succ, List.set_cons_zero, xAi, xAg, xAj, xAd, xAo, xAn, ↓reduceIte, xAx, xAr, xAZ, xAY, Int.toNat_natCast, xAJ, xBj, hat, xBH, xBz, AV.cells, List.all_cons, AV.isCell, List.all_nil, Bool.and_self, xA4, List.length_cons, List.length_nil, Nat.zero_add, Nat.reduceAdd, xBE, xCM, List.getElem?_cons_zero, xAX, xBd, List.take_zero, List.nil_append, List.drop_succ_cons, List.drop_nil, List.append_nil, xDq, xAK, xBl, xBI, List.take_succ_cons, xA5, xBf, xBR, List.drop_zero, List.take_nil, xAO, xBq, xBC, xBo, xCx, xAA, xCg, Nat.mul_one, gl, xBY, xAV, xAB, Nat.add_zero, xA1, xAt, xEa, xCT, hsl, gr, hsr, xCS, hab, hbit, xBm, Int.reduceEq, decide_false, Bool.not_false, xCl, xB9, xFo, xDW, xCW, xS4, h1, c2, xBM, xFn, xBb, xAN, xBe, xBn, xCt, xBy, xAM, xAD, h2, e2, c3, Bool.false_eq_true, xAs, xBa, xCi, xCV, xAv, xE6, ih]
      · rw [if_neg (by unfold hit xQs; rw [c1.1, c1.2]; simp [c2])]
        obtain ⟨X, ih⟩ := ihA a ha
        refine ⟨Y :: X, ?_⟩
        rw [hY] at ih ⊢
        simp only [List.append_assoc, List.cons_append, List.nil_append] at ih ⊢
        rw [xF5]
        simp (maxSteps := 30000000) (disch := first | assumption | omega | (simp only [List.length_cons, List.length_nil, List.length_append, List.length_set, List.length_replicate, List.length_map, List.length_range, List.length_take, List.length_drop, List.all_cons, List.all_nil, AV.isCell, Bool.and_self, Bool.and_true, xAh, xAb, xAe, xAa, xAE] <;> omega) | rfl | decide) only [xE5, xAp, xAf, xAc, xAk, xAy, opv, List.getD_cons_succ, List.getD_cons_zero, xAz, hlt, decide_true, xAl, xAq, List.set_cons_succ, List.set_cons_zero, xAi, xAg, xAj, xAd, xAo, xAn, ↓reduceIte, xAx, xAr, xAZ, xAY, Int.toNat_natCast, xAJ, xBj, hat, xBH, xBz, AV.cells, List.all_cons, AV.isCell, List.all_nil, Bool.and_self, xA4, List.length_cons, List.length_nil, Nat.zero_add, Nat.reduceAdd, xBE, xCM, List.getElem?_cons_zero, xAX, xBd, List.take_zero, List.nil_append, List.drop_succ_cons, List.drop_nil, List.append_nil, xDq, xAK, xBl, xBI, List.take_succ_cons, xA5, xBf, xBR, List.drop_zero, List.take_nil, xAO, xBq, xBC, xBo, xCx, xAA, xCg, Nat.mul_one, gl, xBY, xAV, xAB, Nat.add_zero, xA1, xAt, xEa, xCT, hsl, gr, hsr, xCS, hab, hbit, xBm, Int.reduceEq, decide_false, Bool.not_false, xCl, xB9, xFo, xDW, xCW, xS4, h1, xBM, e1, c2, xFn, xBb, xAN, Bool.false_eq_true, xCy, xBe, xBn, xCt, xBy, xAM, xAD, xAs, xBa, xCi, xCV, xAv, xE6, ih]
    · rw [if_neg c1] at hbit
      rw [if_neg (by unfold hit; intro q; simp only [Bool.and_eq_true] at q; exact c1 q.1)]
      obtain ⟨X, ih⟩ := ihA a ha
      refine ⟨Y :: X, ?_⟩
      rw [hY] at ih ⊢
      simp only [List.append_assoc, List.cons_append, List.nil_append] at ih ⊢
      rw [xF5]
      simp (maxSteps := 30000000) (disch := first | assumption | omega | (simp only [List.length_cons, List.length_nil, List.length_append, List.length_set, List.length_replicate, List.length_map, List.length_range, List.length_take, List.length_drop, List.all_cons, List.all_nil, AV.isCell, Bool.and_self, Bool.and_true, xAh, xAb, xAe, xAa, xAE] <;> omega) | rfl | decide) only [xE5, xAp, xAf, xAc, xAk, xAy, opv, List.getD_cons_succ, List.getD_cons_zero, xAz, hlt, decide_true, xAl, xAq, List.set_cons_succ, List.set_cons_zero, xAi, xAg, xAj, xAd, xAo, xAn, ↓reduceIte, xAx, xAr, xAZ, xAY, Int.toNat_natCast, xAJ, xBj, hat, xBH, xBz, AV.cells, List.all_cons, AV.isCell, List.all_nil, Bool.and_self, xA4, List.length_cons, List.length_nil, Nat.zero_add, Nat.reduceAdd, xBE, xCM, List.getElem?_cons_zero, xAX, xBd, List.take_zero, List.nil_append, List.drop_succ_cons, List.drop_nil, List.append_nil, xDq, xAK, xBl, xBI, List.take_succ_cons, xA5, xBf, xBR, List.drop_zero, List.take_nil, xAO, xBq, xBC, xBo, xCx, xAA, xCg, Nat.mul_one, gl, xBY, xAV, xAB, Nat.add_zero, xA1, xAt, xEa, xCT, hsl, gr, hsr, xCS, hab, hbit, xBm, Bool.not_true, xCl, xB9, Bool.false_eq_true, xCy, xFn, xBb, xAN, xBe, xBn, xCt, xBy, xAM, xAD, xAs, xBa, xCi, xCV, xAv, xE6, ih]

theorem xYq {n : Aut} {o : List Nat} {l r x p q lb : Nat} {G : xAu} (hl : n.rl.length < 1099511627776) (hb : xNZ n.rl) (ho : ∀ w ∈ o, w < 18446744073709551616) (hol : o.length ≤ 65) (hlo : l < o.length) (hro : r < o.length) (hx : x < 256)
    (hp : G[p]? = some (.cells false false n.cells)) (hq : G[q]? = some (.cells false false [.own false lb 0 o.length 1])) (hlb : G[lb]? = some (.cells false false (w64 o))) :
    ∃ X, L.icall (.func 74 [.ptr p 0, .ptr q 0]) [.int .i64 (l : Nat), .int .i64 (r : Nat), .int .i64 (x : Nat)] G = some (.int .u64 (toM (o.getD l 0) (o.getD r 0) x 0 n.rl : Nat), G ++ X) := by
  obtain ⟨X, h⟩ := xOd (z := n.z3) hl hb ho hol hlo hro hx n.rl.length 0 0 G (by omega) (by omega) hq hlb
  refine ⟨X, ?_⟩
  simp only [Int.natCast_zero, List.drop_zero] at h
  rw [yET, a74]
  simp (maxSteps := 30000000) (disch := first | assumption | omega | (simp only [List.length_cons, List.length_nil, List.length_append, List.length_set, List.length_replicate, List.length_map, List.length_range, List.length_take, List.length_drop, List.all_cons, List.all_nil, AV.isCell, Bool.and_self, Bool.and_true, xAh, xAb, xAe, xAa, xAE] <;> omega) | rfl | decide) only [List.cons_append, List.nil_append, xAU, List.length_cons, List.length_nil, Nat.zero_add, Nat.reduceAdd, Nat.reduceSub, xCL, xAp, xAf, xAc, xAk, xAA, opv, xAq, List.set_cons_succ, List.set_cons_zero, xAi, xAg, xAj, xAd, xAV, List.getD_cons_succ, List.getD_cons_zero, xAB, xAl, xAJ, xA1, hp, xAt, List.drop_succ_cons, List.drop_zero, List.take_succ_cons, List.take_nil, xAO, xBk, xA8, xAr, xA6, xE6, h, xAS, ↓reduceIte, xAW, xAI, xAR, xA2, xAw]
theorem xU5 {n : Aut} {o : List Nat} {l r x : Nat} (hl : n.rl.length < 1099511627776) (hb : xNZ n.rl) (ho : ∀ w ∈ o, w < 18446744073709551616) (hol : o.length ≤ 65) (hlo : l < o.length) (hro : r < o.length) (hx : x < 256) :
    L.pcall 74 [.int .i64 (l : Nat), .int .i64 (r : Nat), .int .i64 (x : Nat), .vptr n.cells 0, .vptr [.sl false o.length (w64 o)] 0] = some (.int .u64 (toM (o.getD l 0) (o.getD r 0) x 0 n.rl : Nat)) := by
  obtain ⟨X, h⟩ := xOe (z := n.z3) hl hb ho hol hlo hro hx n.rl.length 0 0 [] (by omega) (by omega)
  simp only [Int.natCast_zero, List.drop_zero] at h
  rw [yES, a74, xA7]
  simp (maxSteps := 30000000) (disch := first | assumption | omega | (simp only [List.length_cons, List.length_nil, List.length_append, List.length_set, List.length_replicate, List.length_map, List.length_range, List.length_take, List.length_drop, List.all_cons, List.all_nil, AV.isCell, Bool.and_self, Bool.and_true, xAh, xAb, xAe, xAa, xAE] <;> omega) | rfl | decide) only [xAU, List.length_cons, List.length_nil, Nat.zero_add, Nat.reduceAdd, Nat.reduceSub, xCL, List.cons_append, List.nil_append, xAp, xAf, xAc, xAk, xAA, opv, xAq, List.set_cons_succ, List.set_cons_zero, xAi, xAg, xAj, xAd, xAV, List.getD_cons_succ, List.getD_cons_zero, xEN, xAl, xAJ, xBj, List.drop_succ_cons, List.drop_zero, List.take_succ_cons, List.take_nil, xAO, xBk, xA8, xAr, xA6, xE6, h, xAS, ↓reduceIte, xAW, xAI, xAR, xA2, xAw, xAQ, xBL, xA0]
end Go.Abs.Det

/- Determinize: the numbered words, the call of explore. -/
namespace Go.Abs.Det
open Go Go.Abs
set_option linter.unusedSimpArgs false
set_option linter.unusedVariables false

def xQt (k : Nat) : List Nat → Nat → Option Nat
  | [], _ => none
  | k' :: ks, i => if k = k' then some i else xQt k ks (i + 1)
def xQu : List Nat → Nat → List (AV × AV)
  | [], _ => []
  | k :: ks, i => (.int .u64 (k : Nat), .int .i64 (i : Nat)) :: xQu ks (i + 1)
theorem xNg (k : Nat) : ∀ (ks : List Nat) (i : Nat), xQu (ks ++ [k]) i = xQu ks i ++ [(.int .u64 (k : Nat), .int .i64 ((i + ks.length : Nat) : Int))]
  | [], i => rfl
  | k' :: ks, i => by
    rw [List.cons_append, xQu, xQu, xNg k ks (i + 1), List.length_cons, List.cons_append]
    congr 4
    rw [show i + 1 + ks.length = i + (ks.length + 1) by omega]
theorem xNh (a b : Nat) : xFf (.int .u64 (a : Nat)) (.int .u64 (b : Nat)) = some (decide (a = b)) := by
  simp only [xFf, xKa]
  by_cases h : a = b
  · simp [h]
  · have : ((a : Int) == (b : Int)) = false := by rw [beq_eq_false_iff_ne]; omega
    simp [h, this]
theorem xJt {k : Nat} : ∀ (ks : List Nat) (i : Nat), xHf (.int .u64 (k : Nat)) (xQu ks i) = some ((xQt k ks i).map fun (j : Nat) => AV.int .i64 (j : Nat))
  | [], i => rfl
  | k' :: ks, i => by
    simp only [xQu, xHf, xNh, xQt]
    by_cases c : k = k'
    · simp [c]
    · simp only [c, decide_false]
      rw [xJt ks (i + 1)]
      simp
theorem xPw {k : Nat} {v : AV} : ∀ (ks : List Nat) (i : Nat), xQt k ks i = none → xPd (.int .u64 (k : Nat)) v (xQu ks i) = some (xQu ks i ++ [(.int .u64 (k : Nat), v)])
  | [], i, _ => rfl
  | k' :: ks, i, hn => by
    unfold xQt at hn
    split at hn
    · cases hn
    rename_i c
    simp only [xQu, xPd, xNh, c, decide_false]
    rw [xPw ks (i + 1) hn]
    rfl
theorem idxN_none {k : Nat} : ∀ {ks : List Nat} {i : Nat}, xQt k ks i = none ↔ k ∉ ks
  | [], i => by simp [xQt]
  | k' :: ks, i => by
    unfold xQt
    split
    · rename_i c; simp [c]
    · rename_i c
      rw [idxN_none (ks := ks)]
      simp [c]
def yA6 (o : List Nat) (s : Nat) : Nat := (xQt s o 0).getD 0
def xQn (n : Aut) (o : List Nat) (l r x : Nat) : Nat := toM (o.getD l 0) (o.getD r 0) x 0 n.rl
def xDz (n : Aut) (o : List Nat) (l r x : Nat) : List Nat := if xQn n o l r x ∈ o then o else o ++ [xQn n o l r x]

structure DetI (n : Aut) (bu : Nat) (o : List Nat) (lb : Nat) (G : xAu) : Prop where
  nd : o.Nodup
  bd : ∀ w ∈ o, w < 18446744073709551616
  b0 : G[0]? = some (.cells false false n.cells)
  b1 : G[1]? = some (.cells false false [.int .i64 (bu : Nat)])
  b2 : G[2]? = some (.cells false false [.int .i64 0, .int .i64 0, .sl true 0 [], .sl true 0 []])
  b5 : G[5]? = some (.mp (xQu o 0))
  b6 : G[6]? = some (.cells false false [.mp 5])
  b7 : G[7]? = some (.cells false false [.func 74 [.ptr 0 0, .ptr 4 0]])
  b8 : G[8]? = some (.cells false false [.bool (decide (bu < o.length))])
  b4 : G[4]? = some (.cells false false [.own false lb 0 o.length 1])
  bl : G[lb]? = some (.cells false false (w64 o))
  lo : lb = 3 ∨ 9 ≤ lb

theorem DetI.app {n : Aut} {bu : Nat} {o : List Nat} {lb : Nat} {G : xAu} (h : DetI n bu o lb G) (X : xAu) : DetI n bu o lb (G ++ X) :=
  ⟨h.nd, h.bd, xA9 h.b0, xA9 h.b1, xA9 h.b2, xA9 h.b5, xA9 h.b6, xA9 h.b7, xA9 h.b8, xA9 h.b4, xA9 h.bl, h.lo⟩
theorem yA7 {n : Aut} (hb : xNZ n.rl) (o : List Nat) (l r x : Nat) : xQn n o l r x < 18446744073709551616 := xSw _ _ _ _ _ (by omega) hb

set_option maxRecDepth 10000 in
set_option maxHeartbeats 4000000 in
theorem yA8 {n : Aut} {bu : Nat} {o : List Nat} {lb : Nat} {G : xAu} {l r x p : Nat} (hrl : n.rl.length < 1099511627776) (hb : xNZ n.rl) (hbu : bu ≤ 64) (hI : DetI n bu o lb G) (hok : o.length ≤ bu) (hl : l < o.length) (hr : r < o.length) (hx : x < 256) (hp : 9 ≤ p) (hpl : p ≠ lb) (hpg : p < G.length) :
    ∃ G' lb', L.icall (.func 76 [.ptr 7 0, .ptr 6 0, .ptr 4 0, .ptr 1 0, .ptr 8 0]) [.int .i64 (l : Nat), .int .i64 (r : Nat), .int .i64 (x : Nat)] G = some (.int .i64 (xH0 (xDz n o l r x).length (decide (bu < (xDz n o l r x).length))), G') ∧
      DetI n bu (xDz n o l r x) lb' G' ∧ G'[p]? = G[p]? ∧ p ≠ lb' := by
  have hlt := yA7 hb o l r x
  obtain ⟨X, ha⟩ := xYq (G := G) hrl hb hI.bd (by omega) hl hr hx hI.b0 hI.b4 hI.bl
  have hI2 := hI.app X
  have hpg2 : (G ++ X)[p]? = G[p]? := List.getElem?_append_left hpg
  have hpl2 : p < (G ++ X).length := by rw [List.length_append]; omega
  have hb7 := hI.b7
  have hord : xDz n o l r x = if xQn n o l r x ∈ o then o else o ++ [xQn n o l r x] := rfl
  rw [show toM (o.getD l 0) (o.getD r 0) x 0 n.rl = xQn n o l r x from rfl] at ha
  generalize xQn n o l r x = w at *
  generalize xDz n o l r x = o2 at *
  rw [← hpg2]
  generalize hG2 : G ++ X = G2 at *
  obtain ⟨nd, bd, b0, b1, b2, b5, b6, b7, b8, b4, bl, lo⟩ := hI2
  have hbl := (List.getElem?_eq_some_iff.1 bl).1
  have hb8 := (List.getElem?_eq_some_iff.1 b8).1
  have hf := xJt (k := w) o 0
  cases hidx : xQt w o 0 with
  | some j =>
    rw [hidx] at hf
    have hmem : w ∈ o := Classical.byContradiction fun h => by rw [idxN_none.2 h] at hidx; cases hidx
    rw [if_pos hmem] at hord
    subst hord
    have c : ¬ bu < o2.length := by omega
    have c2 : ¬ ((bu : Nat) : Int) < (o2.length : Nat) := by omega
    have xDU : G2.set 8 (.cells false false [.bool false]) = G2 := by
      have : G2[8] = .cells false false [.bool false] := by
        have := (List.getElem?_eq_some_iff.1 b8).2
        rw [this]; simp [c]
      rw [← this, List.set_getElem_self]
    have b8' : G2[8]? = some (.cells false false [.bool false]) := by rw [b8]; simp [c]
    refine ⟨G2, lb, ?_, ⟨nd, bd, b0, b1, b2, b5, b6, b7, b8, b4, bl, lo⟩, rfl, hpl⟩
    rw [show decide (bu < o2.length) = false by simp [c]]
    unfold xH0
    rw [yCm, a76]
    simp (maxSteps := 30000000) (disch := first | assumption | omega | (simp only [List.length_cons, List.length_nil, List.length_append, List.length_set, List.length_replicate, List.length_map, List.length_range, List.length_take, List.length_drop, List.all_cons, List.all_nil, AV.isCell, Bool.and_self, Bool.and_true, xAh, xAb, xAe, xAa, List.length_map] <;> omega) | rfl | decide) only [Int.reduceNeg, List.cons_append, List.nil_append, xAU, List.length_cons, List.length_nil, Nat.zero_add, Nat.reduceAdd, Nat.reduceSub, xCL, xAp, xAf, xAc, xAk, xAA, opv, xAq, List.set_cons_succ, List.set_cons_zero, xAi, xAg, xAj, xAd, xAJ, List.getD_cons_succ, List.getD_cons_zero, xA1, hb7, xAt, List.drop_zero, List.take_succ_cons, List.take_nil, xAO, xAl, xCb, List.map_cons, List.map_nil, ha, b6, xE4, xC9, ↓reduceIte, xGq, b5, xDg, xDJ, hf, Option.map_some, xGZ, xIu, xEO, List.getElem?_cons_zero, List.getElem?_cons_succ, xHI, xE7, Bool.not_true, xAo, xAn, Bool.false_eq_true, xAx, b4, xBk, xC0, b1, xAy, xCm, c2, decide_false, xA4, AV.cells, xBE, b8', xAX, xBd, List.take_zero, List.drop_succ_cons, List.drop_nil, List.append_nil, xDU, xAK, xBl, xAW, xAI, xAR, xA2, xAw]
  | none =>
    rw [hidx] at hf
    have hmem : w ∉ o := idxN_none.1 hidx
    rw [if_neg hmem] at hord
    have hupd := xPw (v := .int .i64 ((o.length : Nat) : Int)) o 0 hidx
    have hsn := xNg w o 0
    rw [Nat.zero_add] at hsn
    rw [← hsn] at hupd
    have hln : o2.length = o.length + 1 := by rw [hord]; simp
    have z4 : ∀ X : Blk, (G2.set 5 X)[4]? = some (.cells false false [.own false lb 0 o.length 1]) := fun X => by rw [List.getElem?_set_ne (by omega)]; exact b4
    have zl : ∀ X : Blk, (G2.set 5 X)[lb]? = some (.cells false false (w64 o)) := fun X => by rw [List.getElem?_set_ne (by omega)]; exact bl
    have htk : List.take o.length (w64 o) = w64 o := by rw [List.take_of_length_le]; rw [xAe]; exact Nat.le_refl _
    have hw : w64 o ++ [AV.int .u64 (w : Nat)] = w64 o2 := by rw [hord]; simp [w64]
    rw [← hord] at hupd
    have z4b : ∀ (X : Blk) (T : xAu), ((G2.set 5 X).set lb .dead ++ T)[4]? = some (.cells false false [.own false lb 0 o.length 1]) := fun X T => xA9 (by rw [List.getElem?_set_ne (by omega)]; exact z4 X)
    have z4c : ∀ (X Y : Blk) (T : xAu), (((G2.set 5 X).set lb .dead ++ T).set 4 Y)[4]? = some Y := fun X Y T => List.getElem?_set_self (by simp; omega)
    have z1c : ∀ (X Y : Blk) (T : xAu), (((G2.set 5 X).set lb .dead ++ T).set 4 Y)[1]? = some (.cells false false [.int .i64 (bu : Nat)]) := fun X Y T => by
      rw [List.getElem?_set_ne (by omega), List.getElem?_append_left (by simp; omega), List.getElem?_set_ne (by omega), List.getElem?_set_ne (by omega)]; exact b1
    have z8c : ∀ (X Y : Blk) (T : xAu), (((G2.set 5 X).set lb .dead ++ T).set 4 Y)[8]? = some (.cells false false [.bool (decide (bu < o.length))]) := fun X Y T => by
      rw [List.getElem?_set_ne (by omega), List.getElem?_append_left (by simp; omega), List.getElem?_set_ne (by omega), List.getElem?_set_ne (by omega)]; exact b8
    have z8d : ∀ (X Y Z : Blk) (T : xAu), ((((G2.set 5 X).set lb .dead ++ T).set 4 Y).set 8 Z)[8]? = some Z := fun X Y Z T => List.getElem?_set_self (by simp; omega)
    have z4d : ∀ (X Y Z : Blk) (T : xAu), ((((G2.set 5 X).set lb .dead ++ T).set 4 Y).set 8 Z)[4]? = some Y := fun X Y Z T => by rw [List.getElem?_set_ne (by omega)]; exact z4c X Y T
    obtain ⟨G', hG'⟩ : ∃ G' : xAu, G' = ((((G2.set 5 (.mp (xQu o2 0))).set lb .dead) ++ [Blk.cells false false (w64 o2)]).set 4 (.cells false false [.own false G2.length 0 (o.length + 1) 1])).set 8 (.cells false false [.bool (decide (bu < o.length + 1))]) := ⟨_, rfl⟩
    have old : ∀ b, b ≠ 5 → b ≠ lb → b ≠ 4 → b ≠ 8 → b < G2.length → G'[b]? = G2[b]? := fun b h2 h3 h4 h6 h5 => by
      rw [hG', List.getElem?_set_ne (Ne.symm h6), List.getElem?_set_ne (Ne.symm h4), List.getElem?_append_left (by simpa using h5), List.getElem?_set_ne (Ne.symm h3), List.getElem?_set_ne (Ne.symm h2)]
    refine ⟨G', G2.length, ?_, ⟨?_, ?_, (old 0 (by omega) (by omega) (by omega) (by omega) (by omega)).trans b0, (old 1 (by omega) (by omega) (by omega) (by omega) (by omega)).trans b1, (old 2 (by omega) (by omega) (by omega) (by omega) (by omega)).trans b2, ?_, (old 6 (by omega) (by omega) (by omega) (by omega) (by omega)).trans b6, (old 7 (by omega) (by omega) (by omega) (by omega) (by omega)).trans b7, ?_, ?_, ?_, .inr (by omega)⟩, old p (by omega) hpl (by omega) (by omega) hpl2, by omega⟩
    · rw [hln, hG']
      by_cases c : bu < o.length + 1
      · have c2 : ((bu : Nat) : Int) < (o.length + 1 : Nat) := by omega
        have c3 : ((bu : Nat) : Int) < (o.length : Nat) + 1 := by omega
        rw [show decide (bu < o.length + 1) = true by simp [c]]
        unfold xH0
        rw [yCm, a76]
        simp (maxSteps := 30000000) (disch := first | assumption | omega | (simp only [List.length_cons, List.length_nil, List.length_append, List.length_set, List.length_replicate, List.length_map, List.length_range, List.length_take, List.length_drop, List.all_cons, List.all_nil, AV.isCell, Bool.and_self, Bool.and_true, xAh, xAb, xAe, xAa, List.length_map] <;> omega) | rfl | decide) only [Int.reduceNeg, List.cons_append, List.nil_append, xAU, List.length_cons, List.length_nil, Nat.zero_add, Nat.reduceAdd, Nat.reduceSub, xCL, xAp, xAf, xAc, xAk, xAA, opv, xAq, List.set_cons_succ, List.set_cons_zero, xAi, xAg, xAj, xAd, xAJ, List.getD_cons_succ, List.getD_cons_zero, xA1, hb7, xAt, List.drop_zero, List.take_succ_cons, List.take_nil, xAO, xAl, xCb, List.map_cons, List.map_nil, ha, b6, xE4, xC9, ↓reduceIte, xGq, b5, xDg, xDJ, hf, Option.map_none, xK6, xIu, xEO, List.getElem?_cons_zero, List.getElem?_cons_succ, xHI, xE7, Bool.not_false, xAo, xAn, b4, xBk, xC0, xJr, xJq, xEL, hupd, xFL, xBl, z4, xBP, AV.cells, List.all_cons, beq_self_eq_true, List.all_nil, Bool.and_self, xC1, List.append_nil, Nat.mul_one, xCd, Nat.le_refl, AV.isCell, and_self, xBd, List.take_zero, List.drop_succ_cons, List.drop_nil, xBO, xB5, xBL, List.flatMap_cons, xCn, List.flatMap_nil, List.isEmpty_nil, List.mapM_cons, xA0, List.mapM_nil, Option.pure_def, Option.bind_eq_bind, Option.bind_some, xB6, xBT, xDk, xDh, zl, xCG, Nat.reduceBEq, List.length_set, htk, hw, xA4, xBE, z4b, xAX, xAK, z4c, z1c, xAy, xCm, c2, decide_true, z8c, z8d, xAW, xBu, xAI, xAR, xA2, xAw]
      · have c2 : ¬ ((bu : Nat) : Int) < (o.length + 1 : Nat) := by omega
        have c3 : ¬ ((bu : Nat) : Int) < (o.length : Nat) + 1 := by omega
        rw [show decide (bu < o.length + 1) = false by simp [c]]
        unfold xH0
        rw [yCm, a76]
        simp (maxSteps := 30000000) (disch := first | assumption | omega | (simp only [List.length_cons, List.length_nil, List.length_append, List.length_set, List.length_replicate, List.length_map, List.length_range, List.length_take, List.length_drop, List.all_cons, List.all_nil, AV.isCell, Bool.and_self, Bool.and_true, xAh, xAb, xAe, xAa, List.length_map] <;> omega) | rfl | decide) only [Int.reduceNeg, List.cons_append, List.nil_append, xAU, List.length_cons, List.length_nil, Nat.zero_add, Nat.reduceAdd, Nat.reduceSub, xCL, xAp, xAf, xAc, xAk, xAA, opv, xAq, List.set_cons_succ, List.set_cons_zero, xAi, xAg, xAj, xAd, xAJ, List.getD_cons_succ, List.getD_cons_zero, xA1, hb7, xAt, List.drop_zero, List.take_succ_cons, List.take_nil, xAO, xAl, xCb, List.map_cons, List.map_nil, ha, b6, xE4, xC9, ↓reduceIte, xGq, b5, xDg, xDJ, hf, Option.map_none, xK6, xIu, xEO, List.getElem?_cons_zero, List.getElem?_cons_succ, xHI, xE7, Bool.not_false, xAo, xAn, b4, xBk, xC0, xJr, xJq, xEL, hupd, xFL, xBl, z4, xBP, AV.cells, List.all_cons, beq_self_eq_true, List.all_nil, Bool.and_self, xC1, List.append_nil, Nat.mul_one, xCd, Nat.le_refl, AV.isCell, and_self, xBd, List.take_zero, List.drop_succ_cons, List.drop_nil, xBO, xB5, xBL, List.flatMap_cons, xCn, List.flatMap_nil, List.isEmpty_nil, List.mapM_cons, xA0, List.mapM_nil, Option.pure_def, Option.bind_eq_bind, Option.bind_some, xB6, xBT, xDk, xDh, zl, xCG, Nat.reduceBEq, List.length_set, htk, hw, xA4, xBE, z4b, xAX, xAK, z4c, z1c, xAy, xCm, c2, decide_false, z8c, z8d, Bool.false_eq_true, xAx, z4d, xAW, xAI, xAR, xA2, xAw]
    · rw [hord, List.nodup_append]
      refine ⟨nd, by simp, fun a ha' b hb' => ?_⟩
      rw [List.mem_singleton] at hb'
      intro e
      exact hmem (by rw [← hb', ← e]; exact ha')
    · intro s hs
      rw [hord] at hs
      rcases List.mem_append.1 hs with q | q
      · exact bd s q
      · rw [List.mem_singleton] at q
        subst q
        exact hlt
    · rw [hG', List.getElem?_set_ne (by omega), List.getElem?_set_ne (by omega), List.getElem?_append_left (by simp; omega), List.getElem?_set_ne (by omega), List.getElem?_set_self (by omega)]
    · rw [hG', List.getElem?_set_self (by simp; omega), hln]
    · rw [hG', List.getElem?_set_ne (by omega), List.getElem?_set_self (by simp; omega), hln]
    · rw [hG', List.getElem?_set_ne (by omega), List.getElem?_set_ne (by omega), List.getElem?_append_right (by simp)]; simp
end Go.Abs.Det

/- Determinize: explore over its call; the reading calls. -/
namespace Go.Abs.Det
open Go Go.Abs
set_option linter.unusedSimpArgs false
set_option linter.unusedVariables false

theorem xYr {v : Int} (h3 : v ≤ 3) : two v ≤ 8 := (xDy h3).1

theorem xYs {n : Aut} {bu : Nat} (hV : Valid n) (hb : xNZ n.rl) (hbu : bu ≤ 64) : Exp n.vars 9 bu (.func 76 [.ptr 7 0, .ptr 6 0, .ptr 4 0, .ptr 1 0, .ptr 8 0]) List.length (fun o => decide (bu < o.length)) (xDz n) (DetI n bu) where
  v0 := hV.v0
  v3 := hV.v3
  n64 := hbu
  grow := fun s lb G X h => h.app [X]
  lb := fun s lb G h => ⟨(List.getElem?_eq_some_iff.1 h.bl).1, (List.getElem?_eq_some_iff.1 h.b8).1⟩
  le := fun s lb G h hb => by simpa using hb
  mono := fun s l r x => by
    unfold xDz
    split
    · exact Nat.le_refl _
    · simp
  call := fun s lb G l r x p hI hbd hl hr hx hp hpl hpg => by
    have h8 := xYr hV.v3
    have hbd' : s.length ≤ bu := by simpa using hbd
    obtain ⟨G', lb', h1, h2, h3, h4⟩ := yA8 (by have := hV.rl; omega) hb hbu hI hbd' hl hr (show x < 256 by omega) hp hpl hpg
    exact ⟨G', lb', h1, h2, h3, h4⟩

def xKm (n : Aut) (bu : Nat) : List Nat := goK List.length (fun o => decide (bu < o.length)) (xDz n) (two n.vars) 0 bu [xDd 0 n.st]

set_option maxRecDepth 10000 in
set_option maxHeartbeats 2000000 in
theorem yA9 {n : Aut} {bu : Nat} {o : List Nat} {lb : Nat} {G : xAu} {l r x : Nat} (hrl : n.rl.length < 1099511627776) (hb : xNZ n.rl) (hol : o.length ≤ 65) (hI : DetI n bu o lb G) (hl : l < o.length) (hr : r < o.length) (hx : x < 256) (hm : xQn n o l r x ∈ o) :
    L.icall (.func 78 [.ptr 6 0, .ptr 7 0]) [.int .i64 (l : Nat), .int .i64 (r : Nat), .int .i64 (x : Nat)] G = some (.int .i64 (yA6 o (xQn n o l r x) : Nat), G) := by
  have ha := xU5 hrl hb hI.bd hol hl hr hx
  rw [show toM (o.getD l 0) (o.getD r 0) x 0 n.rl = xQn n o l r x from rfl] at ha
  obtain ⟨nd, bd, b0, b1, b2, b5, b6, b7, b8, b4, bl, lo⟩ := hI
  generalize xQn n o l r x = w at *
  have hf := xJt (k := w) o 0
  unfold yA6
  have htk : List.take o.length (w64 o) = w64 o := by rw [List.take_of_length_le]; rw [xAe]; exact Nat.le_refl _
  cases hidx : xQt w o 0 with
  | none => exact absurd hm (idxN_none.1 hidx)
  | some j =>
    rw [hidx] at hf
    rw [yEW, a78]
    simp (maxSteps := 30000000) (disch := first | assumption | omega | (simp only [List.length_cons, List.length_nil, List.length_append, List.length_set, List.length_replicate, List.length_map, List.length_range, List.length_take, List.length_drop, List.all_cons, List.all_nil, AV.isCell, Bool.and_self, Bool.and_true, xAh, xAb, xAe, xAa, List.length_map] <;> omega) | rfl | decide) only [List.cons_append, List.nil_append, xAU, List.length_cons, List.length_nil, Nat.zero_add, Nat.reduceAdd, Nat.reduceSub, xCL, xAp, xAf, xAc, xAk, xAA, opv, xAq, List.set_cons_succ, List.set_cons_zero, xAi, xAg, xAj, xAd, xBI, List.take_succ_cons, List.take_zero, xA5, xBf, xBR, xAJ, List.getD_cons_succ, List.getD_cons_zero, xA1, b6, xAt, List.drop_zero, List.take_nil, xAO, xAl, xBq, xBC, xBo, b7, xCx, xOU, List.map_cons, List.map_nil, xHu, xBi, xBL, List.mapM_cons, xA0, xRc, b0, xJO, xCa, List.mapM_nil, Option.pure_def, Option.bind_eq_bind, Option.bind_some, Option.map_some, b4, xKq, bl, xFO, Nat.mul_one, htk, xSb, xB6, xBh, ha, xBg, xDT, xCw, ↓reduceIte, xDC, xCY, List.flatMap_cons, xCn, xRd, xIv, xIw, List.flatMap_nil, List.append_nil, xRe, xJQ, xXA, List.all_cons, xJP, List.all_nil, Bool.and_true, Bool.true_or, xBe, xBn, List.drop_succ_cons, xCt, xBy, xE4, xC9, xGq, b5, xDg, xDJ, hf, xGZ, Bool.false_eq_true, xAW, xAI, xAR, xA2, xAw, Option.getD_some]

theorem yBa {o : List Nat} {lb b : Nat} {G : xAu} {l : Nat} {f : Int} (ho : ∀ w ∈ o, w < 18446744073709551616) (hl : l < o.length) (h0 : 0 ≤ f) (h64 : f < 64) (b4 : G[4]? = some (.cells false false [.own false lb 0 o.length 1])) (bl : G[lb]? = some (.cells false false (w64 o))) (bb : G[b]? = some (.cells false false [.int .i64 (l : Nat)])) :
    L.icall (.func 81 [.ptr 4 0, .ptr b 0]) [.int .i64 f] G = some (.bool ((o.getD l 0).testBit f.toNat), G) := by
  have hA := ho _ (xBF (a := (0 : Nat)) hl)
  have gl : List.take 1 (List.drop l (w64 o)) = [.int .u64 (o.getD l 0 : Nat)] := xCe _ _ hl
  generalize o.getD l 0 = A at *
  have hs := xUc A (show f.toNat ≤ IntKind.u64.bits from by show _ ≤ 64; omega)
  have hb := yAP hA f.toNat
  cases c : A.testBit f.toNat with
  | true =>
    rw [if_pos c] at hb
    rw [yDT, a81]
    simp (maxSteps := 30000000) (disch := first | assumption | omega | (simp only [List.length_cons, List.length_nil, List.length_append, List.length_set, List.length_replicate, List.length_map, List.length_range, List.length_take, List.length_drop, List.all_cons, List.all_nil, AV.isCell, Bool.and_self, Bool.and_true, xAh, xAb, xAe, xAa, List.length_map] <;> omega) | rfl | decide) only [List.cons_append, List.nil_append, xAU, List.length_cons, List.length_nil, Nat.zero_add, Nat.reduceAdd, Nat.reduceSub, xCL, xAp, xAf, xAc, xAk, xAA, opv, xAq, List.set_cons_succ, List.set_cons_zero, xAi, xAg, xAj, xAd, xAJ, List.getD_cons_succ, List.getD_cons_zero, xA1, b4, xAt, List.drop_zero, List.take_succ_cons, List.take_nil, xAO, xAl, bb, xAZ, xBU, Int.toNat_natCast, Nat.mul_one, bl, gl, xAy, xCT, hs, xCS, hb, xBm, Int.reduceEq, decide_false, Bool.not_false, xAW, xAI, xAR, xA2, xAw]
  | false =>
    rw [if_neg (by rw [c]; simp)] at hb
    rw [yDT, a81]
    simp (maxSteps := 30000000) (disch := first | assumption | omega | (simp only [List.length_cons, List.length_nil, List.length_append, List.length_set, List.length_replicate, List.length_map, List.length_range, List.length_take, List.length_drop, List.all_cons, List.all_nil, AV.isCell, Bool.and_self, Bool.and_true, xAh, xAb, xAe, xAa, List.length_map] <;> omega) | rfl | decide) only [List.cons_append, List.nil_append, xAU, List.length_cons, List.length_nil, Nat.zero_add, Nat.reduceAdd, Nat.reduceSub, xCL, xAp, xAf, xAc, xAk, xAA, opv, xAq, List.set_cons_succ, List.set_cons_zero, xAi, xAg, xAj, xAd, xAJ, List.getD_cons_succ, List.getD_cons_zero, xA1, b4, xAt, List.drop_zero, List.take_succ_cons, List.take_nil, xAO, xAl, bb, xAZ, xBU, Int.toNat_natCast, Nat.mul_one, bl, gl, xAy, xCT, hs, xCS, hb, xBm, decide_true, Bool.not_true, xAW, xAI, xAR, xA2, xAw]

set_option maxHeartbeats 1000000 in
theorem xQo {o : List Nat} {lb b : Nat} {G : xAu} {l : Nat} {z : Bool} {fi : List Int} {s4 : AV} (hfl : fi.length < 1099511627776) (hf : ∀ q ∈ fi, 0 ≤ q ∧ q < 64) (ho : ∀ w ∈ o, w < 18446744073709551616) (hl : l < o.length) (b4 : G[4]? = some (.cells false false [.own false lb 0 o.length 1])) (bl : G[lb]? = some (.cells false false (w64 o))) (bb : G[b]? = some (.cells false false [.int .i64 (l : Nat)])) :
    ∀ d i, i + d = fi.length → ∃ e s s8, L.loop xIj xOQ ⟨xIk (iw z fi) (.func 81 [.ptr 4 0, .ptr b 0]) s4 (.int .i64 (fi.length : Nat)) (.int .i64 (i : Nat)), G⟩ = some (e, ⟨xIk (iw z fi) (.func 81 [.ptr 4 0, .ptr b 0]) s (.int .i64 (fi.length : Nat)) s8, G⟩) ∧
      ((e = .ret ∧ (∃ j : Nat, s = .int .i64 (j : Nat)) ∧ (fi.drop i).any (fun f => (o.getD l 0).testBit f.toNat) = true) ∨ (e = .exit 0 ∧ (fi.drop i).any (fun f => (o.getD l 0).testBit f.toNat) = false)) := by
  intro d
  induction d with
  | zero =>
    intro i h
    obtain rfl : i = fi.length := by omega
    refine ⟨.exit 0, s4, .int .i64 (fi.length : Nat), ?_, .inr ⟨rfl, by simp⟩⟩
    rw [xNj]
    simp (maxSteps := 30000000) (disch := first | assumption | omega | (simp only [List.length_cons, List.length_nil, List.length_append, List.length_set, List.length_replicate, List.length_map, List.length_range, List.length_take, List.length_drop, List.all_cons, List.all_nil, AV.isCell, Bool.and_self, Bool.and_true, xAh, xAb, xAe, xAa, List.length_map] <;> omega) | rfl | decide) only [xIi, xAp, xAf, xAc, xAk, xAy, opv, List.getD_cons_succ, List.getD_cons_zero, xAz, Int.lt_irrefl, decide_false, xAl, xAq, List.set_cons_succ, List.set_cons_zero, xAi, xAg, xAj, xAd, xAo, xAn, Bool.false_eq_true, ↓reduceIte, xBt, xBc, xA3, xIl]
  | succ d ih =>
    intro i h
    have hlt : (i : Int) < (fi.length : Nat) := by omega
    have hq := hf (fi.getD i 0) (xBF (by omega))
    have hc := yBa ho hl hq.1 hq.2 b4 bl bb
    have g1 : List.take 1 (List.drop i (xCh fi)) = [.int .i64 (fi.getD i 0)] := xCe _ _ (by omega)
    rw [xGR (by omega : i < fi.length), List.any_cons]
    cases c : (o.getD l 0).testBit (fi.getD i 0).toNat with
    | true =>
      rw [c] at hc
      refine ⟨.ret, .int .i64 (i : Nat), .int .i64 (i : Nat), ?_, .inl ⟨rfl, ⟨i, rfl⟩, rfl⟩⟩
      rw [xNj]
      simp (maxSteps := 30000000) (disch := first | assumption | omega | (simp only [List.length_cons, List.length_nil, List.length_append, List.length_set, List.length_replicate, List.length_map, List.length_range, List.length_take, List.length_drop, List.all_cons, List.all_nil, AV.isCell, Bool.and_self, Bool.and_true, xAh, xAb, xAe, xAa, List.length_map] <;> omega) | rfl | decide) only [xIi, xAp, xAf, xAc, xAk, xAy, opv, List.getD_cons_succ, List.getD_cons_zero, xAz, hlt, decide_true, xAl, xAq, List.set_cons_succ, List.set_cons_zero, xAi, xAg, xAj, xAd, xAo, xAn, ↓reduceIte, xAx, xAr, xAA, xAZ, xAY, Int.toNat_natCast, Nat.mul_one, xAJ, xBj, xB1, xBW, xCr, xBV, Nat.add_zero, xAO, xCb, List.map_cons, List.map_nil, hc, xAW, xBs, xBu, xCs, xIl]
    | false =>
      rw [c] at hc
      obtain ⟨e, s, s8, q1, q2⟩ := ih (i + 1) (by omega)
      refine ⟨e, s, s8, ?_, by simpa using q2⟩
      rw [xNj]
      simp (maxSteps := 30000000) (disch := first | assumption | omega | (simp only [List.length_cons, List.length_nil, List.length_append, List.length_set, List.length_replicate, List.length_map, List.length_range, List.length_take, List.length_drop, List.all_cons, List.all_nil, AV.isCell, Bool.and_self, Bool.and_true, xAh, xAb, xAe, xAa, List.length_map] <;> omega) | rfl | decide) only [xIi, xAp, xAf, xAc, xAk, xAy, opv, List.getD_cons_succ, List.getD_cons_zero, xAz, hlt, decide_true, xAl, xAq, List.set_cons_succ, List.set_cons_zero, xAi, xAg, xAj, xAd, xAo, xAn, ↓reduceIte, xAx, xAr, xAA, xAZ, xAY, Int.toNat_natCast, Nat.mul_one, xAJ, xBj, xB1, xBW, xCr, xBV, Nat.add_zero, xAO, xCb, List.map_cons, List.map_nil, hc, Bool.false_eq_true, xAs, xBa, xCi, xCV, xAv, xIl, q1]

theorem yBb {o : List Nat} {lb b : Nat} {G : xAu} {l : Nat} {z : Bool} {fi : List Int} (hfl : fi.length < 1099511627776) (hf : ∀ q ∈ fi, 0 ≤ q ∧ q < 64) (ho : ∀ w ∈ o, w < 18446744073709551616) (hl : l < o.length) (b4 : G[4]? = some (.cells false false [.own false lb 0 o.length 1])) (bl : G[lb]? = some (.cells false false (w64 o))) (bb : G[b]? = some (.cells false false [.int .i64 (l : Nat)])) :
    L.icall (.func 80 []) [iw z fi, .func 81 [.ptr 4 0, .ptr b 0]] G = some (.bool (fi.any (fun f => (o.getD l 0).testBit f.toNat)), G) := by
  obtain ⟨e, s, s8, q1, q2⟩ := xQo (z := z) (s4 := .int .i64 0) hfl hf ho hl b4 bl bb fi.length 0 (by omega)
  simp only [Int.natCast_zero, List.drop_zero] at q1 q2
  rcases q2 with ⟨rfl, ⟨j, rfl⟩, hc⟩ | ⟨rfl, hc⟩
  · rw [hc]
    have hi : L.icall (.func 109 []) [iw z fi, .func 81 [.ptr 4 0, .ptr b 0]] G = some (.int .i64 (j : Nat), G) := by
      rw [xZl, xZg]
      simp (maxSteps := 30000000) (disch := first | assumption | omega | (simp only [List.length_cons, List.length_nil, List.length_append, List.length_set, List.length_replicate, List.length_map, List.length_range, List.length_take, List.length_drop, List.all_cons, List.all_nil, AV.isCell, Bool.and_self, Bool.and_true, xAh, xAb, xAe, xAa, List.length_map] <;> omega) | rfl | decide) only [Int.reduceNeg, List.append_nil, xAU, List.length_cons, List.length_nil, Nat.zero_add, Nat.reduceAdd, Nat.reduceSub, xCL, List.cons_append, List.nil_append, xAp, xAf, xAc, xAk, xAA, opv, xAq, List.set_cons_succ, List.set_cons_zero, xAi, xAg, xAj, xAd, List.getD_cons_zero, xBk, List.getD_cons_succ, xA8, xAl, xAr, xA6, xIl, q1, xBs, xBu, xAI, xAR, xA2, xAw]
    have hj : (0 : Int) ≤ (j : Nat) := by omega
    rw [yDS, a80]
    simp (maxSteps := 30000000) (disch := first | assumption | omega | (simp only [List.length_cons, List.length_nil, List.length_append, List.length_set, List.length_replicate, List.length_map, List.length_range, List.length_take, List.length_drop, List.all_cons, List.all_nil, AV.isCell, Bool.and_self, Bool.and_true, xAh, xAb, xAe, xAa, List.length_map] <;> omega) | rfl | decide) only [List.append_nil, xAU, List.length_cons, List.length_nil, Nat.zero_add, Nat.reduceAdd, Nat.reduceSub, xCL, List.cons_append, List.nil_append, xAp, xAf, xAc, xAk, xAA, opv, xAq, List.set_cons_succ, List.set_cons_zero, xAi, xAg, xAj, xAd, List.getD_cons_zero, List.getD_cons_succ, xCb, List.map_cons, List.map_nil, hi, xAy, xCz, hj, decide_true, xAl, xAW, xAI, xAR, xA2, xAw]
  · rw [hc]
    have hi : L.icall (.func 109 []) [iw z fi, .func 81 [.ptr 4 0, .ptr b 0]] G = some (.int .i64 (-1), G) := by
      rw [xZl, xZg]
      simp (maxSteps := 30000000) (disch := first | assumption | omega | (simp only [List.length_cons, List.length_nil, List.length_append, List.length_set, List.length_replicate, List.length_map, List.length_range, List.length_take, List.length_drop, List.all_cons, List.all_nil, AV.isCell, Bool.and_self, Bool.and_true, xAh, xAb, xAe, xAa, List.length_map] <;> omega) | rfl | decide) only [Int.reduceNeg, List.append_nil, xAU, List.length_cons, List.length_nil, Nat.zero_add, Nat.reduceAdd, Nat.reduceSub, xCL, List.cons_append, List.nil_append, xAp, xAf, xAc, xAk, xAA, opv, xAq, List.set_cons_succ, List.set_cons_zero, xAi, xAg, xAj, xAd, List.getD_cons_zero, xBk, List.getD_cons_succ, xA8, xAl, xAr, xA6, xIl, q1, xAS, ↓reduceIte, xAW, xAI, xAR, xA2, xAw]
    rw [yDS, a80]
    simp (maxSteps := 30000000) (disch := first | assumption | omega | (simp only [List.length_cons, List.length_nil, List.length_append, List.length_set, List.length_replicate, List.length_map, List.length_range, List.length_take, List.length_drop, List.all_cons, List.all_nil, AV.isCell, Bool.and_self, Bool.and_true, xAh, xAb, xAe, xAa, List.length_map] <;> omega) | rfl | decide) only [List.append_nil, xAU, List.length_cons, List.length_nil, Nat.zero_add, Nat.reduceAdd, Nat.reduceSub, xCL, List.cons_append, List.nil_append, xAp, xAf, xAc, xAk, xAA, opv, xAq, List.set_cons_succ, List.set_cons_zero, xAi, xAg, xAj, xAd, List.getD_cons_zero, List.getD_cons_succ, xCb, List.map_cons, List.map_nil, hi, Int.reduceNeg, xAy, xCz, Int.reduceLE, decide_false, xAl, xAW, xAI, xAR, xA2, xAw]

def xZc (n : Aut) (o : List Nat) (l : Nat) : Bool := n.fi.any fun f => (o.getD l 0).testBit f.toNat

theorem yBc {n : Aut} {bu : Nat} {o : List Nat} {lb : Nat} {G : xAu} {l : Nat} (hfl : n.fi.length < 1099511627776) (hf : ∀ q ∈ n.fi, 0 ≤ q ∧ q < 64) (hI : DetI n bu o lb G) (hl : l < o.length) :
    ∃ T : xAu, L.icall (.func 79 [.ptr 0 0, .ptr 4 0]) [.int .i64 (l : Nat)] G = some (.bool (xZc n o l), G ++ T) := by
  have hI2 := hI.app [.cells false false [.int .i64 (l : Nat)]]
  have h := yBb (z := n.z2) (b := G.length) hfl hf hI2.bd hl hI2.b4 hI2.bl (xCM _ _)
  have b0 := hI2.b0
  refine ⟨[.cells false false [.int .i64 (l : Nat)]], ?_⟩
  unfold xZc
  rw [yEX, a79]
  simp (maxSteps := 30000000) (disch := first | assumption | omega | (simp only [List.length_cons, List.length_nil, List.length_append, List.length_set, List.length_replicate, List.length_map, List.length_range, List.length_take, List.length_drop, List.all_cons, List.all_nil, AV.isCell, Bool.and_self, Bool.and_true, xAh, xAb, xAe, xAa, List.length_map] <;> omega) | rfl | decide) only [List.cons_append, List.nil_append, xAU, List.length_cons, List.length_nil, Nat.zero_add, Nat.reduceAdd, Nat.reduceSub, xCL, xAp, xAf, xAc, xAk, xBz, AV.cells, opv, List.getD_cons_zero, List.all_cons, AV.isCell, List.all_nil, Bool.and_self, ↓reduceIte, xAq, List.set_cons_succ, List.set_cons_zero, xAi, xAA, xAg, xAj, xAd, xAV, List.getD_cons_succ, xAB, xAl, xAJ, xA1, b0, xAt, List.drop_succ_cons, List.drop_zero, List.take_succ_cons, List.take_zero, xAO, xDL, List.map_cons, List.map_nil, xCb, h, xAW, xAI, xAR, xA2, xAw]
end Go.Abs.Det

/- Determinize: the list of words is closed. Plain facts (printed by C5gen.py). -/
namespace Go.Abs.Det
open Go Go.Abs
set_option linter.unusedSimpArgs false
set_option linter.unusedVariables false

abbrev aft (n : Aut) (a b x : Nat) : Nat := toM a b x 0 n.rl
section
variable {A : Aut}
abbrev xFh : List Nat → Bool := fun _ => false
theorem xOf (o : List Nat) (l r x : Nat) : o <+: xDz A o l r x := by
  unfold xDz
  split
  · exact List.prefix_rfl
  · exact List.prefix_append _ _
theorem xYt (o : List Nat) (l r x : Nat) : aft A (o.getD l 0) (o.getD r 0) x ∈ xDz A o l r x := by
  show xQn A o l r x ∈ _
  unfold xDz
  split
  · assumption
  · simp
theorem xF1 {o o' : List Nat} (h : o <+: o') {i : Nat} (hi : i < o.length) : o'.getD i 0 = o.getD i 0 := by
  obtain ⟨t, rfl⟩ := h
  simp only [List.getD_eq_getElem?_getD]
  rw [List.getElem?_append_left hi]
theorem xF2 {o o' : List Nat} (h : o <+: o') : o.length ≤ o'.length := h.length_le
theorem xPx {o o' : List Nat} (h : o <+: o') {a : Nat} (ha : a ∈ o) : a ∈ o' := h.subset ha

theorem xOg (l r x e : Nat) (o : List Nat) : goX xFh (xDz A) l r x (e + 1) o = goX xFh (xDz A) l r (x + 1) e (xDz A o l r x) := rfl
theorem xJu (l r : Nat) : ∀ e x o, o <+: goX xFh (xDz A) l r x e o
  | 0, _, o => List.prefix_rfl
  | e + 1, x, o => by rw [xOg]; exact (xOf o l r x).trans (xJu l r e (x + 1) _)
theorem xWa (l r : Nat) : ∀ e x o, l < o.length → r < o.length → ∀ y, x ≤ y → y < x + e → aft A (o.getD l 0) (o.getD r 0) y ∈ goX xFh (xDz A) l r x e o
  | 0, x, o, _, _, y, h1, h2 => by omega
  | e + 1, x, o, hl, hr, y, h1, h2 => by
    rw [xOg]
    have hp := xOf (A := A) o l r x
    rcases Nat.eq_or_lt_of_le h1 with q | q
    · subst q
      exact xPx (xJu l r e (x + 1) _) (xYt o l r x)
    · have := xWa l r e (x + 1) (xDz A o l r x) (by have := xF2 hp; omega) (by have := xF2 hp; omega) y q (by omega)
      rwa [xF1 hp hl, xF1 hp hr] at this

def DoneW (A : Aut) (o : List Nat) (i j : Nat) : Prop := ∀ x, x < two A.vars → aft A (o.getD i 0) (o.getD j 0) x ∈ o
theorem DoneW.pre {o o' : List Nat} {i j : Nat} (h : DoneW A o i j) (hp : o <+: o') (hi : i < o.length) (hj : j < o.length) : DoneW A o' i j := fun x hx => by
  rw [xF1 hp hi, xF1 hp hj]; exact xPx hp (h x hx)
theorem xSZ {l r : Nat} {o : List Nat} (hl : l < o.length) (hr : r < o.length) : DoneW A (goX xFh (xDz A) l r 0 (two A.vars) o) l r := fun x hx => by
  have hp := xJu (A := A) l r (two A.vars) 0 o
  rw [xF1 hp hl, xF1 hp hr]
  exact xWa l r _ 0 o hl hr x (Nat.zero_le _) (by omega)
theorem xYu (n j k : Nat) (o : List Nat) : goP xFh (xDz A) n j k o = goX xFh (xDz A) k j 0 n (goX xFh (xDz A) j k 0 n o) := rfl
theorem xWb (n j k : Nat) (o : List Nat) : o <+: goP xFh (xDz A) n j k o := by
  rw [xYu]; exact (xJu j k n 0 o).trans (xJu k j n 0 _)
theorem xYv {j k : Nat} {o : List Nat} (hj : j < o.length) (hk : k < o.length) : DoneW A (goP xFh (xDz A) (two A.vars) j k o) j k ∧ DoneW A (goP xFh (xDz A) (two A.vars) j k o) k j := by
  rw [xYu]
  have hp := xF2 (xJu (A := A) j k (two A.vars) 0 o)
  exact ⟨(xSZ hj hk).pre (xJu k j _ 0 _) (by omega) (by omega), xSZ (by omega) (by omega)⟩
theorem xOh (n k j e : Nat) (o : List Nat) : goJ xFh (xDz A) n k j (e + 1) o = goJ xFh (xDz A) n k (j + 1) e (goP xFh (xDz A) n j k o) := rfl
theorem xNi (n k : Nat) : ∀ e j o, o <+: goJ xFh (xDz A) n k j e o
  | 0, _, o => List.prefix_rfl
  | e + 1, j, o => by rw [xOh]; exact (xWb n j k o).trans (xNi n k e (j + 1) _)
theorem xOi {k : Nat} : ∀ e j o, j + e = k + 1 → k < o.length → ∀ i, j ≤ i → i ≤ k → DoneW A (goJ xFh (xDz A) (two A.vars) k j e o) i k ∧ DoneW A (goJ xFh (xDz A) (two A.vars) k j e o) k i
  | 0, j, o, h, hk, i, h1, h2 => by omega
  | e + 1, j, o, h, hk, i, h1, h2 => by
    rw [xOh]
    have hp := xF2 (xWb (A := A) (two A.vars) j k o)
    rcases Nat.eq_or_lt_of_le h1 with q | q
    · subst q
      obtain ⟨d1, d2⟩ := xYv (A := A) (show j < o.length by omega) hk
      exact ⟨d1.pre (xNi _ k e (j + 1) _) (by omega) (by omega), d2.pre (xNi _ k e (j + 1) _) (by omega) (by omega)⟩
    · exact xOi e (j + 1) _ (by omega) (by omega) i q h2
theorem xWc (n : Nat) : ∀ e k o, o <+: goK List.length xFh (xDz A) n k e o
  | 0, _, o => List.prefix_rfl
  | e + 1, k, o => by
    unfold goK
    split
    · exact (xNi n k (k + 1) 0 o).trans (xWc n e (k + 1) _)
    · exact List.prefix_rfl
theorem xS0 {N : Nat} : ∀ e k o, k + e = N → (goK List.length xFh (xDz A) (two A.vars) k e o).length ≤ N → (∀ i j, i < k → j < k → i < o.length → j < o.length → DoneW A o i j) →
    ∀ i j, i < (goK List.length xFh (xDz A) (two A.vars) k e o).length → j < (goK List.length xFh (xDz A) (two A.vars) k e o).length → DoneW A (goK List.length xFh (xDz A) (two A.vars) k e o) i j
  | 0, k, o, h, hN, hd, i, j, hi, hj => by
    have hN' : o.length ≤ N := hN
    have hi' : i < o.length := hi
    have hj' : j < o.length := hj
    exact hd i j (by omega) (by omega) hi' hj'
  | e + 1, k, o, h, hN, hd, i, j, hi, hj => by
    by_cases c : k < o.length
    · have he : goK List.length xFh (xDz A) (two A.vars) k (e + 1) o = goK List.length xFh (xDz A) (two A.vars) (k + 1) e (goJ xFh (xDz A) (two A.vars) k 0 (k + 1) o) := by
        show (if k < o.length then _ else _) = _
        rw [if_pos c]; rfl
      rw [he] at hN hi hj ⊢
      have hp := xNi (A := A) (two A.vars) k (k + 1) 0 o
      refine xS0 e (k + 1) _ (by omega) hN (fun i j hi hj hi' hj' => ?_) i j hi hj
      by_cases ci : i = k
      · subst ci
        exact (xOi (i + 1) 0 o (by omega) c j (Nat.zero_le _) (by omega)).2
      · by_cases cj : j = k
        · subst cj
          exact (xOi (j + 1) 0 o (by omega) c i (Nat.zero_le _) (by omega)).1
        · exact (hd i j (by omega) (by omega) (by omega) (by omega)).pre hp (by omega) (by omega)
    · have he : goK List.length xFh (xDz A) (two A.vars) k (e + 1) o = o := by
        show (if k < o.length then _ else _) = _
        rw [if_neg c]
      rw [he] at hi hj ⊢
      exact hd i j (by omega) (by omega) hi hj
end
section
variable {A : Aut} {P : List Nat → Prop}
end


section
variable {σ : Type} {size : σ → Nat} {bad : σ → Bool} {stp : σ → Nat → Nat → Nat → σ}
abbrev xFi : σ → Bool := fun _ => false
theorem xS1 (l r : Nat) : ∀ e x s, bad (goX bad stp l r x e s) = false → goX bad stp l r x e s = goX xFi stp l r x e s
  | 0, _, _, _ => rfl
  | e + 1, x, s, h => by
    unfold goX at h ⊢
    simp only [xFi, Bool.false_eq_true, if_false]
    split
    · rename_i c
      rw [if_pos c] at h
      rw [c] at h; cases h
    · rename_i c
      rw [if_neg c] at h
      exact xS1 l r e (x + 1) _ h
theorem yBd (m j k : Nat) (s : σ) (h : bad (goP bad stp m j k s) = false) : goP bad stp m j k s = goP xFi stp m j k s := by
  unfold goP at h ⊢
  simp only [xFi, Bool.false_eq_true, if_false]
  split
  · rename_i c
    rw [if_pos c] at h
    rw [c] at h; cases h
  · rename_i c
    rw [if_neg c] at h
    rw [xS1 k j m 0 _ h, xS1 j k m 0 s (by simpa using c)]
theorem xWd (m k : Nat) : ∀ e j s, bad (goJ bad stp m k j e s) = false → goJ bad stp m k j e s = goJ xFi stp m k j e s
  | 0, _, _, _ => rfl
  | e + 1, j, s, h => by
    unfold goJ at h ⊢
    simp only [xFi, Bool.false_eq_true, if_false]
    split
    · rename_i c
      rw [if_pos c] at h
      rw [c] at h; cases h
    · rename_i c
      rw [if_neg c] at h
      rw [xWd m k e (j + 1) _ h, yBd m j k s (by simpa using c)]
theorem xWe (m : Nat) : ∀ e k s, bad (goK size bad stp m k e s) = false → goK size bad stp m k e s = goK size xFi stp m k e s
  | 0, _, _, _ => rfl
  | e + 1, k, s, h => by
    unfold goK at h ⊢
    simp only [xFi, Bool.false_eq_true, if_false]
    by_cases c0 : k < size s
    · rw [if_pos c0] at h ⊢
      rw [if_pos c0]
      split
      · rename_i c
        rw [if_pos c] at h
        rw [c] at h; cases h
      · rename_i c
        rw [if_neg c] at h
        rw [xWe m e (k + 1) _ h, xWd m k (k + 1) 0 s (by simpa using c)]
    · rw [if_neg c0, if_neg c0]
end

theorem xPy {n : Aut} {bu : Nat} (h : (xKm n bu).length ≤ bu) : xKm n bu = goK List.length xFh (xDz n) (two n.vars) 0 bu [xDd 0 n.st] :=
  xWe (size := List.length) (bad := fun o => decide (bu < o.length)) (stp := xDz n) _ _ _ _ (by
    show decide (bu < (xKm n bu).length) = false
    simp [h])
theorem xS2 {n : Aut} {bu : Nat} (h : (xKm n bu).length ≤ bu) {i j x : Nat} (hi : i < (xKm n bu).length) (hj : j < (xKm n bu).length) (hx : x < two n.vars) : aft n ((xKm n bu).getD i 0) ((xKm n bu).getD j 0) x ∈ xKm n bu := by
  have e := xPy h
  rw [e] at h hi hj ⊢
  exact xS0 (N := bu) bu 0 [xDd 0 n.st] (by omega) h (fun i j h => by omega) i j hi hj x hx
theorem xU6 {n : Aut} {bu : Nat} (h : (xKm n bu).length ≤ bu) : [xDd 0 n.st] <+: xKm n bu := by
  rw [xPy h]; exact xWc _ _ 0 _
theorem xU7 {n : Aut} {bu : Nat} (h : (xKm n bu).length ≤ bu) : 0 < (xKm n bu).length := by have := xF2 (xU6 h); simp at this; omega
end Go.Abs.Det

/- Determinize: the whole. -/
namespace Go.Abs.Det
open Go Go.Abs
set_option linter.unusedSimpArgs false
set_option linter.unusedVariables false

def yCh (n : Aut) (o : List Nat) (l r x : Nat) : Int := (yA6 o (aft n (o.getD l 0) (o.getD r 0) x) : Nat)
def yCi (n : Aut) (o : List Nat) : Da := ⟨n.vars, 0, xEv n.vars (yCh n o) o.length o.length, xHM (xZc n o) o.length⟩
def xYw (o : List Nat) : AV := .sl false o.length (o.map xJy)

set_option maxHeartbeats 1000000 in
theorem xS3 {o : List Nat} {lb B : Nat} {s2 s4 s8 s9 s10 : AV} (ho : ∀ w ∈ o, w < 18446744073709551616) (hol : o.length ≤ 65) : ∀ d i v G, i + d = o.length → G[lb]? = some (.cells false false (w64 o)) → lb < B → B ≤ G.length → Lst B G v ((o.take i).map xJy) →
    ∃ v' G', L.loop xLp xTi ⟨xLq s2 s4 v s8 s9 s10 (.own false lb 0 o.length 1) (.int .i64 (o.length : Nat)) (.int .i64 (i : Nat)), G⟩ = some (.exit 0, ⟨xLq s2 s4 v' s8 s9 s10 (.own false lb 0 o.length 1) (.int .i64 (o.length : Nat)) (.int .i64 (o.length : Nat)), G'⟩) ∧
      Lst B G' v' (o.map xJy) ∧ Kp B G G' := by
  intro d
  induction d with
  | zero =>
    intro i v G h hlb hB hG hv
    obtain rfl : i = o.length := by omega
    rw [List.take_length] at hv
    refine ⟨v, G, ?_, hv, Kp.refl _ _⟩
    rw [xVg]
    simp (maxSteps := 30000000) (disch := first | assumption | omega | (simp only [List.length_cons, List.length_nil, List.length_append, List.length_set, List.length_replicate, List.length_map, List.length_range, List.length_take, List.length_drop, List.all_cons, List.all_nil, AV.isCell, Bool.and_self, Bool.and_true, xAh, xAb, xAe, xAa, List.length_map, xAE] <;> omega) | rfl | decide) only [xOu, xAp, xAf, xAc, xAk, xAy, opv, List.getD_cons_succ, List.getD_cons_zero, xAz, Int.lt_irrefl, decide_false, xAl, xAq, List.set_cons_succ, List.set_cons_zero, xAi, xAg, xAj, xAd, xAo, xAn, Bool.false_eq_true, ↓reduceIte, xBt, xBc, xA3, xQE]
  | succ d ih =>
    intro i v G h hlb hB hG hv
    have hlt : (i : Int) < (o.length : Nat) := by omega
    have hi : i < o.length := by omega
    have g1 : List.take 1 (List.drop i (w64 o)) = [.int .u64 (o.getD i 0 : Nat)] := xCe _ _ hi
    have hl := yA5 (ho _ (xBF (a := (0 : Nat)) hi))
    have htl : (o.take i).length = i := by rw [List.length_take]; omega
    obtain ⟨v1, G1, p1, p2, p3⟩ := hv.push (xJy (o.getD i 0)) (bytes := 24) (by rw [List.length_map, htl]; omega) (by rw [List.length_map, htl]; omega) hG
    have e2 : (o.take i).map xJy ++ [xJy (o.getD i 0)] = (o.take (i + 1)).map xJy := by
      rw [List.take_add_one, List.map_append, List.getD_eq_getElem?_getD, List.getElem?_eq_getElem hi]; rfl
    rw [e2] at p2
    obtain ⟨v', G', q1, q2, q3⟩ := ih (i + 1) v1 G1 (by omega) (p3.get hB hlb) hB (by have := p3.1; omega) p2
    refine ⟨v', G', ?_, q2, p3.trans q3⟩
    unfold xJy at p1
    generalize o.getD i 0 = w at *
    rw [xVg]
    simp (maxSteps := 30000000) (disch := first | assumption | omega | (simp only [List.length_cons, List.length_nil, List.length_append, List.length_set, List.length_replicate, List.length_map, List.length_range, List.length_take, List.length_drop, List.all_cons, List.all_nil, AV.isCell, Bool.and_self, Bool.and_true, xAh, xAb, xAe, xAa, List.length_map, xAE] <;> omega) | rfl | decide) only [xOu, xAp, xAf, xAc, xAk, xAy, opv, List.getD_cons_succ, List.getD_cons_zero, xAz, hlt, decide_true, xAl, xAq, List.set_cons_succ, List.set_cons_zero, xAi, xAg, xAj, xAd, xAo, xAn, ↓reduceIte, xAx, xAr, xAZ, xBU, Int.toNat_natCast, Nat.mul_one, Nat.zero_add, xAJ, xA1, hlb, xAt, g1, xAO, xAA, xBJ, List.map_cons, List.map_nil, xBi, xBL, List.mapM_cons, xA0, List.mapM_nil, Option.pure_def, Option.bind_eq_bind, Option.bind_some, xBh, hl, xBg, xDT, xCw, Bool.false_eq_true, xDj, List.flatMap_cons, xCn, List.flatMap_nil, List.append_nil, List.foldl_nil, xBP, AV.cells, List.all_cons, List.length_cons, List.length_nil, beq_self_eq_true, List.all_nil, Bool.and_self, xC1, xCd, Nat.le_refl, AV.isCell, and_self, xBd, List.take_zero, List.nil_append, List.drop_succ_cons, List.drop_nil, xBO, xB5, xIw, List.isEmpty_nil, xCa, xB6, xBT, xDk, p1, xAs, xBa, xCi, xCV, xAv, xQE, q1]

theorem DetI.keep {n : Aut} {bu : Nat} {o : List Nat} {lb : Nat} {G G' : xAu} (h : DetI n bu o lb G) (hk : ∀ b, b < G.length → G'[b]? = G[b]?) : DetI n bu o lb G' := by
  have l1 := (List.getElem?_eq_some_iff.1 h.bl).1
  have l2 := (List.getElem?_eq_some_iff.1 h.b8).1
  exact ⟨h.nd, h.bd, (hk 0 (by omega)).trans h.b0, (hk 1 (by omega)).trans h.b1, (hk 2 (by omega)).trans h.b2, (hk 5 (by omega)).trans h.b5, (hk 6 (by omega)).trans h.b6, (hk 7 (by omega)).trans h.b7, (hk 8 (by omega)).trans h.b8, (hk 4 (by omega)).trans h.b4, (hk lb l1).trans h.bl, h.lo⟩

theorem xOj {n : Aut} (hT : TyA n) (hV : Valid n) {bu : Nat} (h1 : 1 ≤ bu) (h64 : bu ≤ 64) :
    ∃ G lb, L.icall (.func 75 []) [.int .i64 n.vars, .func 76 [.ptr 7 0, .ptr 6 0, .ptr 4 0, .ptr 1 0, .ptr 8 0]]
      [.cells false false n.cells, .cells false false [.int .i64 (bu : Nat)], .cells false false [.int .i64 0, .int .i64 0, .sl true 0 [], .sl true 0 []], .cells false false [.int .u64 (xDd 0 n.st : Nat)], .cells false false [.own false 3 0 1 1], .mp [(.int .u64 (xDd 0 n.st : Nat), .int .i64 0)], .cells false false [.mp 5], .cells false false [.func 74 [.ptr 0 0, .ptr 4 0]], .cells false false [.bool false]] = some (.tup [], G) ∧
      DetI n bu (xKm n bu) lb G := by
  have hb := hV.ok hT
  have hI0 : DetI n bu [xDd 0 n.st] 3 [.cells false false n.cells, .cells false false [.int .i64 (bu : Nat)], .cells false false [.int .i64 0, .int .i64 0, .sl true 0 [], .sl true 0 []], .cells false false [.int .u64 (xDd 0 n.st : Nat)], .cells false false [.own false 3 0 1 1], .mp [(.int .u64 (xDd 0 n.st : Nat), .int .i64 0)], .cells false false [.mp 5], .cells false false [.func 74 [.ptr 0 0, .ptr 4 0]], .cells false false [.bool false]] :=
    ⟨by simp, fun w hw => by rw [List.mem_singleton] at hw; rw [hw]; exact xGW _ _ (by omega) hV.sts, rfl, rfl, rfl, rfl, rfl, rfl, by simp [show ¬ bu < 1 by omega], rfl, rfl, .inl rfl⟩
  obtain ⟨G, lb, e1, e2⟩ := xM6 (xYs hV hb h64) hI0 (by simp; omega) rfl
  exact ⟨G, lb, e1, e2⟩

section
variable {n : Aut}
set_option maxRecDepth 10000 in
set_option maxHeartbeats 4000000 in
theorem xU8 (hT : TyA n) (hc : xS8 n = 0) {bu : Nat} (h1 : 1 ≤ bu) (h64 : bu ≤ 64) (ho : (xKm n bu).length ≤ bu) : L.pcall 37 [n.av, .int .i64 (bu : Nat)] = some (.tup [(yCi n (xKm n bu)).av, xYw (xKm n bu), .int .i64 0]) := by
  have hk := xKX n hT.st hT.fi hT.rl hT.u8
  rw [hc] at hk
  have hV := chkE_zero.1 hc
  obtain ⟨G1, lb, e1, e2⟩ := xOj hT hV h1 h64
  have hw := yA4 n.z1 n.st hT.st hV.sts
  have hdone := fun (i j x : Nat) => xS2 (n := n) (bu := bu) ho (i := i) (j := j) (x := x)
  have hpos := xU7 ho
  generalize xKm n bu = o at *
  have hrl := hV.rl
  have hb := hV.ok hT
  have h3l := (List.getElem?_eq_some_iff.1 e2.bl).1
  have h8l := (List.getElem?_eq_some_iff.1 e2.b8).1
  obtain ⟨vs, G2, q1, q2, q3⟩ := xS3 (s2 := .ptr 0 0) (s4 := .ptr 2 0) (s8 := .ptr 4 0) (s9 := .ptr 6 0) (s10 := .ptr 7 0) (B := G1.length) e2.bd (by omega) o.length 0 (.sl true 0 []) G1 (by omega) e2.bl h3l (Nat.le_refl _) (.nil _ _)
  have hI2 : DetI n bu o lb G2 := e2.keep q3.2
  have hR : Rd n.vars o.length G2.length (.func 78 [.ptr 6 0, .ptr 7 0]) (.func 79 [.ptr 0 0, .ptr 4 0]) (yCh n o) (xZc n o) (fun G => DetI n bu o lb G) :=
    ⟨hV.v0, hV.v3, hpos, by omega, fun G G' hJ hb => by
      have l5 := (List.getElem?_eq_some_iff.1 hI2.bl).1
      have l8 := (List.getElem?_eq_some_iff.1 hI2.b8).1
      exact ⟨hJ.nd, hJ.bd, (hb 0 (by omega)).trans hJ.b0, (hb 1 (by omega)).trans hJ.b1, (hb 2 (by omega)).trans hJ.b2, (hb 5 (by omega)).trans hJ.b5, (hb 6 (by omega)).trans hJ.b6, (hb 7 (by omega)).trans hJ.b7, (hb 8 (by omega)).trans hJ.b8, (hb 4 (by omega)).trans hJ.b4, (hb lb l5).trans hJ.bl, hJ.lo⟩,
     fun G l r x hJ hl hr hx => yA9 (by omega) hb (by omega) hJ hl hr (by have := (xDy hV.v3).1; omega) (hdone l r x hl hr hx),
     fun G l hJ hl => yBc hT.fi hV.fis hJ hl⟩
  obtain ⟨G3, i, k, f1, f2, f3, f4, f5⟩ := xSJ hR hI2
  have k0 := q3.1
  have b2 := (f4 2 (by omega)).trans hI2.b2
  have hGl : 2 < G3.length := by omega
  have same : ∀ (Z : Blk) b, b ≠ 2 → (G3.set 2 Z)[b]? = G3[b]? := fun Z b hb => List.getElem?_set_ne (Ne.symm hb)
  have g3 := fun Z => f2.frame (G' := G3.set 2 Z) (by simp) fun d hd b hb => same Z b (by have := (f2 d hd).2 b hb; omega)
  have g1 := fun Z => f3.frame (G' := G3.set 2 Z) (by simp) fun d hd b hb => same Z b (by have := (f3 d hd).2 b hb; omega)
  have qs : ∀ Z : Blk, Lst G1.length (G3.set 2 Z) vs (o.map xJy) := fun Z => (q2.other fun b hb => by
    have := q2.inb hb
    rw [same Z b (by omega)]
    exact f4 b (by omega))
  have sl := fun Z : Blk => (List.getElem?_set_self (l := G3) (a := Z) hGl)
  have sl2 := fun Z Y : Blk => (List.set_set (l := G3) (i := 2) (a := Z) (b := Y))
  have b8 := e2.b8
  rw [decide_eq_false (show ¬ bu < o.length by omega)] at b8
  have b4 := e2.b4
  have b4' := hI2.b4
  have b0' := hI2.b0
  have c1 : ¬ ((bu : Nat) : Int) < 1 := by omega
  have c2 : ¬ (64 : Int) < (bu : Nat) := by omega
  have hu0 : ∀ a b : AV, xPd a b [] = some [(a, b)] := fun _ _ => rfl
  simp only [Int.natCast_zero] at q1
  have hb : xBN L a37 [n.av, .int .i64 (bu : Nat)] [] =
      some (.tup [.agg [.int .i64 n.vars, .int .i64 0, .own false i 0 o.length 1, .own false k 0 o.length 1], vs, .int .i64 0], G3.set 2 (.cells false false [.int .i64 n.vars, .int .i64 0, .own false i 0 o.length 1, .own false k 0 o.length 1])) := by
    rw [a37]
    simp (maxSteps := 30000000) (disch := first | assumption | omega | (simp only [List.length_cons, List.length_nil, List.length_append, List.length_set, List.length_replicate, List.length_map, List.length_range, List.length_take, List.length_drop, List.all_cons, List.all_nil, AV.isCell, Bool.and_self, Bool.and_true, xAh, xAb, xAe, xAa, List.length_map, xAE] <;> omega) | rfl | decide) only [xAU, List.length_cons, List.length_nil, Nat.zero_add, Nat.reduceAdd, Nat.reduceSub, xCL, List.cons_append, List.nil_append, xAp, xAf, xAc, xAk, xBz, AV.cells, opv, List.getD_cons_zero, List.all_cons, AV.isCell, List.all_nil, Bool.and_self, ↓reduceIte, xAq, List.set_cons_succ, List.set_cons_zero, xAi, List.getD_cons_succ, xAA, xAg, xAj, xAd, xAJ, xA1, List.getElem?_cons_zero, xAt, List.drop_zero, List.take_succ_cons, List.take_nil, xBH, xAl, xBJ, List.map_cons, List.map_nil, xBi, xBL, List.mapM_cons, xCA, xA0, xCa, List.mapM_nil, Option.pure_def, Option.bind_eq_bind, Option.bind_some, Option.map_some, xBh, hk, xBg, xDT, xCw, xAy, xBm, decide_true, Bool.not_true, xAo, xAn, Bool.false_eq_true, xAx, List.getElem?_cons_succ, xAO, xAz, c1, decide_false, xAM, xAD, xCm, c2, xBb, xAN, xAV, xAB, List.drop_succ_cons, List.take_zero, hw, xBP, beq_self_eq_true, xC1, List.append_nil, Nat.mul_one, xCd, Nat.le_refl, and_self, xBd, List.drop_nil, xBO, xCR, xA4, xBE, xAX, xAK, xBl, xPu, xAZ, xBU, Int.toNat_zero, Nat.add_zero, xJr, xC9, xJq, xDg, xEL, hu0, xFL, xDL, xCb, e1, b8, b4, xBk, xC0, xAr, xA6, xQE, q1, xAS, b0', b4', f1, b2, sl, sl2, xAW, xAI, xDO, xDN, xEh, xDm, xHJ, xDM, xA2, xEi, xAw]
  unfold yCi xYw
  unfold Da.av Da.cells
  simp only [xCu, xFX]
  rw [yEI]
  refine xHW hb ?_
  have hz : ((o.map xJy).length == 0) = false := by rw [List.length_map, beq_eq_false_iff_ne]; omega
  have hs := fun Z => (qs Z).dat (xU4 _) 4
  rw [hz, List.length_map] at hs
  show ((([AV.agg [.int .i64 n.vars, .int .i64 0, .own false i 0 o.length 1, .own false k 0 o.length 1], vs, AV.int .i64 0]).mapM (frz 5 _)).map AV.tup) = _
  simp only [List.mapM_cons, List.mapM_nil, xA0, xCA, (g3 _ 4 (by omega)).1, (g1 _ 4 (by omega)).1, hs, Option.pure_def, Option.bind_eq_bind, Option.bind_some, Option.map_some]
end
end Go.Abs.Det

/- Plain law: the state of a tree in the determinized automaton is its set. -/
namespace Go.Abs.Det
open Go Go.Abs
set_option linter.unusedSimpArgs false
set_option linter.unusedVariables false

section
variable {n : Aut} {bu : Nat}
end
end Go.Abs.Det
