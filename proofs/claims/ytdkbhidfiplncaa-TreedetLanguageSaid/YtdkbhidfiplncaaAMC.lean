/- Words of states: word, list. -/
import Derived.Test.YtdkbhidfiplncaaAMB
import Derived.Test.YtdkbhidfiplncaaAGL
import Derived.Test.YtdkbhidfiplncaaAMR
namespace Go.Abs.Det
open Go Go.Abs
set_option linter.unusedSimpArgs false
set_option linter.unusedVariables false

theorem xJo {z : Bool} {l : List Int} {H : xAA} (hl : l.length < 1099511627776) (hq : ∀ q ∈ l, 0 ≤ q ∧ q < 64) : ∀ d i a, i + d = l.length → a < 18446744073709551616 →
    L.loop xLe xSx ⟨xLf (.int .u64 (a : Nat)) (iw z l) (.int .i64 (l.length : Nat)) (.int .i64 (i : Nat)), H⟩ = some (.exit 0, ⟨xLf (.int .u64 (xDi a (l.drop i) : Nat)) (iw z l) (.int .i64 (l.length : Nat)) (.int .i64 (l.length : Nat)), H⟩)
  | 0, i, a, h, ha => by
    obtain rfl : i = l.length := by omega
    rw [List.drop_length, xDi, xUy]
    simp (maxSteps := 30000000) (disch := first | assumption | omega | (simp only [List.length_cons, List.length_nil, List.length_append, List.length_set, List.length_replicate, List.length_map, List.length_range, List.length_take, List.length_drop, List.all_cons, List.all_nil, AV.isCell, Bool.and_self, Bool.and_true, xAh, xAb, xAe, xAa, xAa, List.length_map] <;> omega) | rfl | decide) only [xNS, xAo, xAf, xAc, xAk, xAH, opv, List.getD_cons_succ, List.getD_cons_zero, xAL, Int.lt_irrefl, decide_false, xAl, xAp, List.set_cons_succ, List.set_cons_zero, xAi, xAg, xAj, xAd, xAq, xAn, Bool.false_eq_true, ↓reduceIte, xBy, xBh, xA9, xP5]
  | d + 1, i, a, h, ha => by
    have hlt : (i : Int) < (l.length : Nat) := by omega
    have hm := hq (l.getD i 0) (by rw [List.getD_eq_getElem?_getD, List.getElem?_eq_getElem (by omega : i < l.length)]; exact List.getElem_mem _)
    have hs := xRU (show (l.getD i 0).toNat < 64 by omega)
    have hp := xNo (show (l.getD i 0).toNat < 64 by omega)
    have ho := xX6 ha hp
    have h0 := hm.1
    have ih := xJo (z := z) (H := H) hl hq d (i + 1) (a ||| 2 ^ (l.getD i 0).toNat) (by omega) (xKP ha hp)
    rw [xFG (by omega : i < l.length), xDi, xUy]
    simp (maxSteps := 30000000) (disch := first | assumption | omega | (simp only [List.length_cons, List.length_nil, List.length_append, List.length_set, List.length_replicate, List.length_map, List.length_range, List.length_take, List.length_drop, List.all_cons, List.all_nil, AV.isCell, Bool.and_self, Bool.and_true, xAh, xAb, xAe, xAa, xAa, List.length_map] <;> omega) | rfl | decide) only [xNS, xAo, xAf, xAc, xAk, xAH, opv, List.getD_cons_succ, List.getD_cons_zero, xAL, hlt, decide_true, xAl, xAp, List.set_cons_succ, List.set_cons_zero, xAi, xAg, xAj, xAd, xAq, xAn, ↓reduceIte, xAG, xAs, xA4, xA6, Int.toNat_natCast, Nat.mul_one, xAP, xBu, xCq, xB7, xDa, xCm, Nat.add_zero, xAV, xAE, xDs, hs, xHA, ho, xAu, xBq, xCE, xDf, xAM, xP5, ih]

theorem xVb (z : Bool) (l : List Int) (hl : l.length < 1099511627776) (hq : ∀ q ∈ l, 0 ≤ q ∧ q < 64) : L.pcall 73 [iw z l] = some (.int .u64 (xDi 0 l : Nat)) := by
  have h := xJo (z := z) (H := []) hl hq l.length 0 0 (by omega) (by omega)
  simp only [Int.natCast_zero, List.drop_zero] at h
  rw [yDP, a73, xAT]
  simp (maxSteps := 30000000) (disch := first | assumption | omega | (simp only [List.length_cons, List.length_nil, List.length_append, List.length_set, List.length_replicate, List.length_map, List.length_range, List.length_take, List.length_drop, List.all_cons, List.all_nil, AV.isCell, Bool.and_self, Bool.and_true, xAh, xAb, xAe, xAa, xAa, List.length_map] <;> omega) | rfl | decide) only [xAI, List.length_cons, List.length_nil, Nat.zero_add, Nat.reduceSub, xB8, List.cons_append, List.nil_append, xAo, xAf, xAc, xAk, xAE, opv, xAp, List.set_cons_succ, List.set_cons_zero, xAi, xAg, xAj, xAd, List.getD_cons_zero, xBr, List.getD_cons_succ, xBf, xAl, xAs, xBe, xP5, h, xA0, ↓reduceIte, xAO, xAx, xAF, xAU, xAr, xAt, xBI, xAW]

def lsW (w i : Nat) : List Int := ((List.range i).filter (fun s => w.testBit s)).map fun (s : Nat) => (s : Int)
theorem xT7 (w i : Nat) : lsW w (i + 1) = if w.testBit i = true then lsW w i ++ [(i : Int)] else lsW w i := by
  unfold lsW
  rw [List.range_succ, List.filter_append, List.map_append]
  by_cases c : w.testBit i = true
  · rw [if_pos c]; simp [c]
  · rw [if_neg c]; simp [c]
theorem xR7 (w i : Nat) : (lsW w i).length ≤ i := by
  unfold lsW
  rw [List.length_map]
  have := List.length_filter_le (fun s => w.testBit s) (List.range i)
  rwa [List.length_range] at this
theorem xR8 (l : List Int) : (xCK l).all xCA = true := by
  induction l with
  | nil => rfl
  | cons a l ih => simp [xCK, xCA]

theorem xR9 {w : Nat} (hw : w < 18446744073709551616) : ∀ d i v H, i + d = 64 → Lst 0 H v (xCK (lsW w i)) →
    ∃ v' H', L.loop xLs xSB ⟨xLt (.int .u64 (w : Nat)) v (.int .i64 (i : Nat)), H⟩ = some (.exit 0, ⟨xLt (.int .u64 (w : Nat)) v' (.int .i64 64), H'⟩) ∧ Lst 0 H' v' (xCK (lsW w 64)) := by
  intro d
  induction d with
  | zero =>
    intro i v H h hv
    obtain rfl : i = 64 := by omega
    refine ⟨v, H, ?_, hv⟩
    rw [xP9]
    simp (maxSteps := 30000000) (disch := first | assumption | omega | (simp only [List.length_cons, List.length_nil, List.length_append, List.length_set, List.length_replicate, List.length_map, List.length_range, List.length_take, List.length_drop, List.all_cons, List.all_nil, AV.isCell, Bool.and_self, Bool.and_true, xAh, xAb, xAe, xAa, xAa, List.length_map] <;> omega) | rfl | decide) only [xLr, xDg, xAo, xAf, xAc, xAk, xAH, opv, List.getD_cons_succ, List.getD_cons_zero, xAL, Int.lt_irrefl, decide_false, xAl, xAp, List.set_cons_succ, List.set_cons_zero, xAi, xAg, xAj, xAd, xAq, xAn, Bool.false_eq_true, ↓reduceIte, xBy, xBh, xA9, xNU]
  | succ d ih =>
    intro i v H h hv
    have hlt : (i : Int) < 64 := by omega
    have hsl := xTE w (show i ≤ IntKind.u64.bits from by show _ ≤ 64; omega)
    have hb := xZM hw i
    have hs := xT7 w i
    have hln := xR7 w i
    by_cases c : w.testBit i = true
    · rw [if_pos c] at hb hs
      obtain ⟨v1, H1, p1, p2, _⟩ := hv.push (.int .i64 (i : Nat)) (bytes := 8) (by rw [xAa]; omega) (by rw [xAa]; omega) (Nat.zero_le _)
      have e2 : xCK (lsW w i) ++ [AV.int .i64 (i : Nat)] = xCK (lsW w (i + 1)) := by rw [hs]; simp [xCK]
      rw [e2] at p2
      obtain ⟨v', H', q1, q2⟩ := ih (i + 1) v1 H1 (by omega) p2
      refine ⟨v', H', ?_, q2⟩
      rw [xP9]
      simp (maxSteps := 30000000) (disch := first | assumption | omega | (simp only [List.length_cons, List.length_nil, List.length_append, List.length_set, List.length_replicate, List.length_map, List.length_range, List.length_take, List.length_drop, List.all_cons, List.all_nil, AV.isCell, Bool.and_self, Bool.and_true, xAh, xAb, xAe, xAa, xAa, List.length_map] <;> omega) | rfl | decide) only [xLr, xAo, xAf, xAc, xAk, xAH, opv, List.getD_cons_succ, List.getD_cons_zero, xAL, hlt, decide_true, xAl, xAp, List.set_cons_succ, List.set_cons_zero, xAi, xAg, xAj, xAd, xAq, xAn, ↓reduceIte, xAG, xAs, xAE, xCQ, Int.toNat_natCast, hsl, xCP, hb, xA8, Int.reduceEq, decide_false, Bool.not_false, xCc, AV.cells, List.all_cons, List.length_cons, List.length_nil, Nat.zero_add, beq_self_eq_true, List.all_nil, Bool.and_self, xDM, List.append_nil, Nat.mul_one, List.map_cons, List.map_nil, xCp, Nat.le_refl, AV.isCell, and_self, xBd, List.take_zero, List.nil_append, List.drop_succ_cons, List.drop_nil, xCb, xCn, xBI, List.flatMap_cons, xBR, List.flatMap_nil, List.isEmpty_nil, List.mapM_cons, xAW, List.mapM_nil, Option.pure_def, Option.bind_eq_bind, Option.bind_some, xB5, xB1, xDx, p1, xAu, xBq, xCE, xDf, xAM, xNU, q1]
    · rw [if_neg c] at hb hs
      obtain ⟨v', H', q1, q2⟩ := ih (i + 1) v H (by omega) (by rw [hs]; exact hv)
      refine ⟨v', H', ?_, q2⟩
      rw [xP9]
      simp (maxSteps := 30000000) (disch := first | assumption | omega | (simp only [List.length_cons, List.length_nil, List.length_append, List.length_set, List.length_replicate, List.length_map, List.length_range, List.length_take, List.length_drop, List.all_cons, List.all_nil, AV.isCell, Bool.and_self, Bool.and_true, xAh, xAb, xAe, xAa, xAa, List.length_map] <;> omega) | rfl | decide) only [xLr, xAo, xAf, xAc, xAk, xAH, opv, List.getD_cons_succ, List.getD_cons_zero, xAL, hlt, decide_true, xAl, xAp, List.set_cons_succ, List.set_cons_zero, xAi, xAg, xAj, xAd, xAq, xAn, ↓reduceIte, xAG, xAs, xAE, xCQ, Int.toNat_natCast, hsl, xCP, hb, xA8, Bool.not_true, Bool.false_eq_true, xAu, xBq, xCE, xDf, xAM, xNU, q1]

theorem xZU {w : Nat} (hw : w < 18446744073709551616) : L.pcall 77 [.int .u64 (w : Nat)] = some (.sl ((lsW w 64).length == 0) (lsW w 64).length (xCK (lsW w 64))) := by
  obtain ⟨v', H', q1, q2⟩ := xR9 hw 64 0 (.sl true 0 []) [] (by omega) (.nil _ _)
  have hf := q2.dat (xR8 _) 5
  rw [xAa] at hf
  simp only [Int.natCast_zero] at q1
  rw [yDT, a77, xAT]
  simp (maxSteps := 30000000) (disch := first | assumption | omega | (simp only [List.length_cons, List.length_nil, List.length_append, List.length_set, List.length_replicate, List.length_map, List.length_range, List.length_take, List.length_drop, List.all_cons, List.all_nil, AV.isCell, Bool.and_self, Bool.and_true, xAh, xAb, xAe, xAa, xAa, List.length_map] <;> omega) | rfl | decide) only [xAI, List.length_cons, List.length_nil, Nat.zero_add, Nat.reduceSub, xB8, List.cons_append, List.nil_append, xAo, xAf, xAc, xAk, xAE, opv, xAp, List.set_cons_succ, List.set_cons_zero, xAi, xAg, xAj, xAd, xAs, xBe, xNU, q1, xA0, ↓reduceIte, List.getD_cons_succ, List.getD_cons_zero, xAO, xAx, xAF, xAU, xAr, xAt, xBI, hf]
end Go.Abs.Det

/- The states of a node, from two numbered sets: after. -/
namespace Go.Abs.Det
open Go Go.Abs
set_option linter.unusedSimpArgs false
set_option linter.unusedVariables false

theorem xME {a : Nat} (h : a < 18446744073709551616) (k : Nat) : a >>> k < 18446744073709551616 := Nat.lt_of_le_of_lt (by rw [Nat.shiftRight_eq_div_pow]; exact Nat.div_le_self ..) h
theorem yDC {a b : Nat} (ha : a < 18446744073709551616) (hb : b < 18446744073709551616) (k m : Nat) : xFC .and .u64 (((a >>> k) &&& (b >>> m) : Nat) : Int) 1 = if a.testBit k = true ∧ b.testBit m = true then 1 else 0 := by
  have hc : (a >>> k) &&& (b >>> m) < 18446744073709551616 := Nat.lt_of_le_of_lt Nat.and_le_left (xME ha k)
  have h := xZM hc 0
  rw [Nat.shiftRight_zero] at h
  rw [h, Nat.testBit_and, Nat.testBit_shiftRight, Nat.testBit_shiftRight, Nat.add_zero, Nat.add_zero]
  simp only [Bool.and_eq_true]

set_option maxHeartbeats 1000000 in
theorem xNr {z : Bool} {rl : List Rl} {o : List Nat} {l r x : Nat} {q lb : Nat} (hl : rl.length < 1099511627776) (hb : xNp rl) (ho : ∀ w ∈ o, w < 18446744073709551616) (hol : o.length ≤ 65) (hlo : l < o.length) (hro : r < o.length) (hx : x < 256) : ∀ d i a G, i + d = rl.length → a < 18446744073709551616 → G[q]? = some (.cells false false [.own false lb 0 o.length 1]) → G[lb]? = some (.cells false false (w64 o)) →
    ∃ X, L.loop xJE xP6 ⟨xH7 (.int .i64 (l : Nat)) (.int .i64 (r : Nat)) (.int .i64 (x : Nat)) (.ptr q 0) (.int .u64 (a : Nat)) (.sl z rl.length (rls rl)) (.int .i64 (rl.length : Nat)) (.int .i64 (i : Nat)), G⟩ =
      some (.exit 0, ⟨xH7 (.int .i64 (l : Nat)) (.int .i64 (r : Nat)) (.int .i64 (x : Nat)) (.ptr q 0) (.int .u64 (toM (o.getD l 0) (o.getD r 0) x a (rl.drop i) : Nat)) (.sl z rl.length (rls rl)) (.int .i64 (rl.length : Nat)) (.int .i64 (rl.length : Nat)), G ++ X⟩) := by
  have hA := ho _ (xCy (a := (0 : Nat)) hlo)
  have hB := ho _ (xCy (a := (0 : Nat)) hro)
  have gl : List.take 1 (List.drop l (w64 o)) = [.int .u64 (o.getD l 0 : Nat)] := xDd _ _ hlo
  have gr : List.take 1 (List.drop r (w64 o)) = [.int .u64 (o.getD r 0 : Nat)] := xDd _ _ hro
  generalize o.getD l 0 = A at *
  generalize o.getD r 0 = B at *
  intro d
  induction d with
  | zero =>
    intro i a G h ha hq hlb
    obtain rfl : i = rl.length := by omega
    refine ⟨[], ?_⟩
    rw [List.drop_length, toM, xF8, List.append_nil]
    simp (maxSteps := 30000000) (disch := first | assumption | omega | (simp only [List.length_cons, List.length_nil, List.length_append, List.length_set, List.length_replicate, List.length_map, List.length_range, List.length_take, List.length_drop, List.all_cons, List.all_nil, AV.isCell, Bool.and_self, Bool.and_true, xAh, xAb, xAe, xAa, xAB] <;> omega) | rfl | decide) only [xE9, xAo, xAf, xAc, xAk, xAH, opv, List.getD_cons_succ, List.getD_cons_zero, xAL, Int.lt_irrefl, decide_false, xAl, xAp, List.set_cons_succ, List.set_cons_zero, xAi, xAg, xAj, xAd, xAq, xAn, Bool.false_eq_true, ↓reduceIte, xBy, xBh, xA9, xFa]
  | succ d ih =>
    intro i a G h ha hq hlb
    have hlt : (i : Int) < (rl.length : Nat) := by omega
    obtain ⟨⟨l0, l1⟩, ⟨rl0', r1⟩, ⟨t0, t1⟩, p1, n1⟩ := hb _ (xH3 (by omega : i < rl.length))
    rw [xGY (by omega : i < rl.length), toM]
    have hat := xFJ (by omega : i < rl.length)
    generalize rl.getD i rl0 = u at *
    have hsl := xTE A (show u.l.toNat ≤ IntKind.u64.bits from by show _ ≤ 64; omega)
    have hsr := xTE B (show u.r.toNat ≤ IntKind.u64.bits from by show _ ≤ 64; omega)
    have hab := xTN (xME hA u.l.toNat) (xME hB u.r.toNat)
    have hbit := yDC hA hB u.l.toNat u.r.toNat
    have hs := xRU (show u.t.toNat < 64 by omega)
    have hp := xNo (show u.t.toNat < 64 by omega)
    have hor := xX6 ha hp
    have h1 := xVy hx p1
    have h2 := xVy hx n1
    have e1 : (((x &&& u.p : Nat) : Int) = ((u.p : Nat) : Int)) = (x &&& u.p = u.p) := propext ⟨fun h => by omega, fun h => by omega⟩
    have e2 : (((x &&& u.n : Nat) : Int) = 0) = (x &&& u.n = 0) := propext ⟨fun h => by omega, fun h => by omega⟩
    obtain ⟨Y, hY⟩ : ∃ Y, Y = Blk.cells false false [.int .i64 u.l, .int .i64 u.r, .int .i64 u.t, .int .u8 (u.p : Nat), .int .u8 (u.n : Nat)] := ⟨_, rfl⟩
    have g1 := xBL (X := [Y]) hq
    have g2 := xBL (X := [Y]) hlb
    rw [hY] at g1 g2
    have ihA : ∀ a', a' < 18446744073709551616 → ∃ X, _ := fun a' ha' => ih (i + 1) a' (G ++ [Y]) (by omega) ha' (xBL hq) (xBL hlb)
    by_cases c1 : A.testBit u.l.toNat = true ∧ B.testBit u.r.toNat = true
    · rw [if_pos c1] at hbit
      by_cases c2 : x &&& u.p = u.p
      · by_cases c3 : x &&& u.n = 0
        · rw [if_pos (by unfold hit xSo; rw [c1.1, c1.2, c2, c3]; simp)]
          obtain ⟨X, ih⟩ := ihA (a ||| 2 ^ u.t.toNat) (xKP ha hp)
          refine ⟨Y :: X, ?_⟩
          rw [hY] at ih ⊢
          simp only [List.append_assoc, List.cons_append, List.nil_append] at ih ⊢
          rw [xF8]
          simp (maxSteps := 30000000) (disch := first | assumption | omega | (simp only [List.length_cons, List.length_nil, List.length_append, List.length_set, List.length_replicate, List.length_map, List.length_range, List.length_take, List.length_drop, List.all_cons, List.all_nil, AV.isCell, Bool.and_self, Bool.and_true, xAh, xAb, xAe, xAa, xAB] <;> omega) | rfl | decide) only [xE9, xAo, xAf, xAc, xAk, xAH, opv, List.getD_cons_succ, List.getD_cons_zero, xAL, hlt, decide_true, xAl, xAp, List.set_cons_succ, List.set_cons_zero, xAi, xAg, xAj, xAd, xAq, xAn, ↓reduceIte, xAG, xAs, xA4, xA6, Int.toNat_natCast, xAP, xBu, hat, xBs, xBn, AV.cells, List.all_cons, AV.isCell, List.all_nil, Bool.and_self, xBb, List.length_cons, List.length_nil, Nat.zero_add, Nat.reduceAdd, xBH, xCY, List.getElem?_cons_zero, xA3, xBd, List.take_zero, List.nil_append, List.drop_succ_cons, List.drop_nil, List.append_nil, xDr, xAR, xBl, xBT, List.take_succ_cons, xBg, xBo, xB4, xA5, g1, xAz, List.drop_zero, List.take_nil, xAV, xBB, xBM, xBA, xCU, xAE, xCC, xBV, Nat.mul_one, g2, gl, xCs, xA1, xAQ, Nat.add_zero, xGc, xCQ, hsl, gr, hsr, xCP, hab, hbit, xA8, Int.reduceEq, decide_false, Bool.not_false, xC0, xCL, xFp, xEb, xC1, xSH, h1, c2, xBK, xFo, xA7, xAK, xBp, xBz, xCJ, xBG, xAJ, xAD, h2, c3, xDg, xDs, hs, xHA, hor, xAu, xBq, xCE, xDf, xAM, xFa, ih]
        · rw [if_neg (by unfold hit xSo; rw [c1.1, c1.2, c2]; simp [c3])]
          obtain ⟨X, ih⟩ := ihA a ha
          refine ⟨Y :: X, ?_⟩
          rw [hY] at ih ⊢
          simp only [List.append_assoc, List.cons_append, List.nil_append] at ih ⊢
          rw [xF8]
          simp (maxSteps := 30000000) (disch := first | assumption | omega | (simp only [List.length_cons, List.length_nil, List.length_append, List.length_set, List.length_replicate, List.length_map, List.length_range, List.length_take, List.length_drop, List.all_cons, List.all_nil, AV.isCell, Bool.and_self, Bool.and_true, xAh, xAb, xAe, xAa, xAB] <;> omega) | rfl | decide) only [xE9, xAo, xAf, xAc, xAk, xAH, opv, List.getD_cons_succ, List.getD_cons_zero, xAL, hlt, decide_true, xAl, xAp, List.set_cons_succ, List.set_cons_zero, xAi, xAg, xAj, xAd, xAq, xAn, ↓reduceIte, xAG, xAs, xA4, xA6, Int.toNat_natCast, xAP, xBu, hat, xBs, xBn, AV.cells, List.all_cons, AV.isCell, List.all_nil, Bool.and_self, xBb, List.length_cons, List.length_nil, Nat.zero_add, Nat.reduceAdd, xBH, xCY, List.getElem?_cons_zero, xA3, xBd, List.take_zero, List.nil_append, List.drop_succ_cons, List.drop_nil, List.append_nil, xDr, xAR, xBl, xBT, List.take_succ_cons, xBg, xBo, xB4, xA5, g1, xAz, List.drop_zero, List.take_nil, xAV, xBB, xBM, xBA, xCU, xAE, xCC, xBV, Nat.mul_one, g2, gl, xCs, xA1, xAQ, Nat.add_zero, xGc, xCQ, hsl, gr, hsr, xCP, hab, hbit, xA8, Int.reduceEq, decide_false, Bool.not_false, xC0, xCL, xFp, xEb, xC1, xSH, h1, c2, xBK, xFo, xA7, xAK, xBp, xBz, xCJ, xBG, xAJ, xAD, h2, e2, c3, Bool.false_eq_true, xAu, xBq, xCE, xDf, xAM, xFa, ih]
      · rw [if_neg (by unfold hit xSo; rw [c1.1, c1.2]; simp [c2])]
        obtain ⟨X, ih⟩ := ihA a ha
        refine ⟨Y :: X, ?_⟩
        rw [hY] at ih ⊢
        simp only [List.append_assoc, List.cons_append, List.nil_append] at ih ⊢
        rw [xF8]
        simp (maxSteps := 30000000) (disch := first | assumption | omega | (simp only [List.length_cons, List.length_nil, List.length_append, List.length_set, List.length_replicate, List.length_map, List.length_range, List.length_take, List.length_drop, List.all_cons, List.all_nil, AV.isCell, Bool.and_self, Bool.and_true, xAh, xAb, xAe, xAa, xAB] <;> omega) | rfl | decide) only [xE9, xAo, xAf, xAc, xAk, xAH, opv, List.getD_cons_succ, List.getD_cons_zero, xAL, hlt, decide_true, xAl, xAp, List.set_cons_succ, List.set_cons_zero, xAi, xAg, xAj, xAd, xAq, xAn, ↓reduceIte, xAG, xAs, xA4, xA6, Int.toNat_natCast, xAP, xBu, hat, xBs, xBn, AV.cells, List.all_cons, AV.isCell, List.all_nil, Bool.and_self, xBb, List.length_cons, List.length_nil, Nat.zero_add, Nat.reduceAdd, xBH, xCY, List.getElem?_cons_zero, xA3, xBd, List.take_zero, List.nil_append, List.drop_succ_cons, List.drop_nil, List.append_nil, xDr, xAR, xBl, xBT, List.take_succ_cons, xBg, xBo, xB4, xA5, g1, xAz, List.drop_zero, List.take_nil, xAV, xBB, xBM, xBA, xCU, xAE, xCC, xBV, Nat.mul_one, g2, gl, xCs, xA1, xAQ, Nat.add_zero, xGc, xCQ, hsl, gr, hsr, xCP, hab, hbit, xA8, Int.reduceEq, decide_false, Bool.not_false, xC0, xCL, xFp, xEb, xC1, xSH, h1, xBK, e1, c2, xFo, xA7, xAK, Bool.false_eq_true, xCf, xBp, xBz, xCJ, xBG, xAJ, xAD, xAu, xBq, xCE, xDf, xAM, xFa, ih]
    · rw [if_neg c1] at hbit
      rw [if_neg (by unfold hit; intro q; simp only [Bool.and_eq_true] at q; exact c1 q.1)]
      obtain ⟨X, ih⟩ := ihA a ha
      refine ⟨Y :: X, ?_⟩
      rw [hY] at ih ⊢
      simp only [List.append_assoc, List.cons_append, List.nil_append] at ih ⊢
      rw [xF8]
      simp (maxSteps := 30000000) (disch := first | assumption | omega | (simp only [List.length_cons, List.length_nil, List.length_append, List.length_set, List.length_replicate, List.length_map, List.length_range, List.length_take, List.length_drop, List.all_cons, List.all_nil, AV.isCell, Bool.and_self, Bool.and_true, xAh, xAb, xAe, xAa, xAB] <;> omega) | rfl | decide) only [xE9, xAo, xAf, xAc, xAk, xAH, opv, List.getD_cons_succ, List.getD_cons_zero, xAL, hlt, decide_true, xAl, xAp, List.set_cons_succ, List.set_cons_zero, xAi, xAg, xAj, xAd, xAq, xAn, ↓reduceIte, xAG, xAs, xA4, xA6, Int.toNat_natCast, xAP, xBu, hat, xBs, xBn, AV.cells, List.all_cons, AV.isCell, List.all_nil, Bool.and_self, xBb, List.length_cons, List.length_nil, Nat.zero_add, Nat.reduceAdd, xBH, xCY, List.getElem?_cons_zero, xA3, xBd, List.take_zero, List.nil_append, List.drop_succ_cons, List.drop_nil, List.append_nil, xDr, xAR, xBl, xBT, List.take_succ_cons, xBg, xBo, xB4, xA5, g1, xAz, List.drop_zero, List.take_nil, xAV, xBB, xBM, xBA, xCU, xAE, xCC, xBV, Nat.mul_one, g2, gl, xCs, xA1, xAQ, Nat.add_zero, xGc, xCQ, hsl, gr, hsr, xCP, hab, hbit, xA8, Bool.not_true, xC0, xCL, Bool.false_eq_true, xCf, xFo, xA7, xAK, xBp, xBz, xCJ, xBG, xAJ, xAD, xAu, xBq, xCE, xDf, xAM, xFa, ih]

set_option maxHeartbeats 1000000 in
theorem xNs {z : Bool} {rl : List Rl} {o : List Nat} {l r x : Nat} (hl : rl.length < 1099511627776) (hb : xNp rl) (ho : ∀ w ∈ o, w < 18446744073709551616) (hol : o.length ≤ 65) (hlo : l < o.length) (hro : r < o.length) (hx : x < 256) : ∀ d i a G, i + d = rl.length → a < 18446744073709551616 →
    ∃ X, L.loop xJE xP6 ⟨xH7 (.int .i64 (l : Nat)) (.int .i64 (r : Nat)) (.int .i64 (x : Nat)) (.vptr [.sl false o.length (w64 o)] 0) (.int .u64 (a : Nat)) (.sl z rl.length (rls rl)) (.int .i64 (rl.length : Nat)) (.int .i64 (i : Nat)), G⟩ =
      some (.exit 0, ⟨xH7 (.int .i64 (l : Nat)) (.int .i64 (r : Nat)) (.int .i64 (x : Nat)) (.vptr [.sl false o.length (w64 o)] 0) (.int .u64 (toM (o.getD l 0) (o.getD r 0) x a (rl.drop i) : Nat)) (.sl z rl.length (rls rl)) (.int .i64 (rl.length : Nat)) (.int .i64 (rl.length : Nat)), G ++ X⟩) := by
  have hA := ho _ (xCy (a := (0 : Nat)) hlo)
  have hB := ho _ (xCy (a := (0 : Nat)) hro)
  have gl : List.take 1 (List.drop l (w64 o)) = [.int .u64 (o.getD l 0 : Nat)] := xDd _ _ hlo
  have gr : List.take 1 (List.drop r (w64 o)) = [.int .u64 (o.getD r 0 : Nat)] := xDd _ _ hro
  generalize o.getD l 0 = A at *
  generalize o.getD r 0 = B at *
  intro d
  induction d with
  | zero =>
    intro i a G h ha
    obtain rfl : i = rl.length := by omega
    refine ⟨[], ?_⟩
    rw [List.drop_length, toM, xF8, List.append_nil]
    simp (maxSteps := 30000000) (disch := first | assumption | omega | (simp only [List.length_cons, List.length_nil, List.length_append, List.length_set, List.length_replicate, List.length_map, List.length_range, List.length_take, List.length_drop, List.all_cons, List.all_nil, AV.isCell, Bool.and_self, Bool.and_true, xAh, xAb, xAe, xAa, xAB] <;> omega) | rfl | decide) only [xE9, xAo, xAf, xAc, xAk, xAH, opv, List.getD_cons_succ, List.getD_cons_zero, xAL, Int.lt_irrefl, decide_false, xAl, xAp, List.set_cons_succ, List.set_cons_zero, xAi, xAg, xAj, xAd, xAq, xAn, Bool.false_eq_true, ↓reduceIte, xBy, xBh, xA9, xFa]
  | succ d ih =>
    intro i a G h ha
    have hlt : (i : Int) < (rl.length : Nat) := by omega
    obtain ⟨⟨l0, l1⟩, ⟨rl0', r1⟩, ⟨t0, t1⟩, p1, n1⟩ := hb _ (xH3 (by omega : i < rl.length))
    rw [xGY (by omega : i < rl.length), toM]
    have hat := xFJ (by omega : i < rl.length)
    generalize rl.getD i rl0 = u at *
    have hsl := xTE A (show u.l.toNat ≤ IntKind.u64.bits from by show _ ≤ 64; omega)
    have hsr := xTE B (show u.r.toNat ≤ IntKind.u64.bits from by show _ ≤ 64; omega)
    have hab := xTN (xME hA u.l.toNat) (xME hB u.r.toNat)
    have hbit := yDC hA hB u.l.toNat u.r.toNat
    have hs := xRU (show u.t.toNat < 64 by omega)
    have hp := xNo (show u.t.toNat < 64 by omega)
    have hor := xX6 ha hp
    have h1 := xVy hx p1
    have h2 := xVy hx n1
    have e1 : (((x &&& u.p : Nat) : Int) = ((u.p : Nat) : Int)) = (x &&& u.p = u.p) := propext ⟨fun h => by omega, fun h => by omega⟩
    have e2 : (((x &&& u.n : Nat) : Int) = 0) = (x &&& u.n = 0) := propext ⟨fun h => by omega, fun h => by omega⟩
    obtain ⟨Y, hY⟩ : ∃ Y, Y = Blk.cells false false [.int .i64 u.l, .int .i64 u.r, .int .i64 u.t, .int .u8 (u.p : Nat), .int .u8 (u.n : Nat)] := ⟨_, rfl⟩

    have ihA : ∀ a', a' < 18446744073709551616 → ∃ X, _ := fun a' ha' => ih (i + 1) a' (G ++ [Y]) (by omega) ha'
    by_cases c1 : A.testBit u.l.toNat = true ∧ B.testBit u.r.toNat = true
    · rw [if_pos c1] at hbit
      by_cases c2 : x &&& u.p = u.p
      · by_cases c3 : x &&& u.n = 0
        · rw [if_pos (by unfold hit xSo; rw [c1.1, c1.2, c2, c3]; simp)]
          obtain ⟨X, ih⟩ := ihA (a ||| 2 ^ u.t.toNat) (xKP ha hp)
          refine ⟨Y :: X, ?_⟩
          rw [hY] at ih ⊢
          simp only [List.append_assoc, List.cons_append, List.nil_append] at ih ⊢
          rw [xF8]
          simp (maxSteps := 30000000) (disch := first | assumption | omega | (simp only [List.length_cons, List.length_nil, List.length_append, List.length_set, List.length_replicate, List.length_map, List.length_range, List.length_take, List.length_drop, List.all_cons, List.all_nil, AV.isCell, Bool.and_self, Bool.and_true, xAh, xAb, xAe, xAa, xAB] <;> omega) | rfl | decide) only [xE9, xAo, xAf, xAc, xAk, xAH, opv, List.getD_cons_succ, List.getD_cons_zero, xAL, hlt, decide_true, xAl, xAp, List.set_cons_succ, List.set_cons_zero, xAi, xAg, xAj, xAd, xAq, xAn, ↓reduceIte, xAG, xAs, xA4, xA6, Int.toNat_natCast, xAP, xBu, hat, xBs, xBn, AV.cells, List.all_cons, AV.isCell, List.all_nil, Bool.and_self, xBb, List.length_cons, List.length_nil, Nat.zero_add, Nat.reduceAdd, xBH, xCY, List.getElem?_cons_zero, xA3, xBd, List.take_zero, List.nil_append, List.drop_succ_cons, List.drop_nil, List.append_nil, xDr, xAR, xBl, xBT, List.take_succ_cons, xBg, xBo, xB4, List.drop_zero, List.take_nil, xAV, xBB, xBM, xBA, xCU, xAE, xCC, Nat.mul_one, gl, xCs, xA1, xAQ, Nat.add_zero, xA5, xAz, xGc, xCQ, hsl, gr, hsr, xCP, hab, hbit, xA8, Int.reduceEq, decide_false, Bool.not_false, xC0, xCL, xFp, xEb, xC1, xSH, h1, c2, xBK, xFo, xA7, xAK, xBp, xBz, xCJ, xBG, xAJ, xAD, h2, c3, xDg, xDs, hs, xHA, hor, xAu, xBq, xCE, xDf, xAM, xFa, ih]
        · rw [if_neg (by unfold hit xSo; rw [c1.1, c1.2, c2]; simp [c3])]
          obtain ⟨X, ih⟩ := ihA a ha
          refine ⟨Y :: X, ?_⟩
          rw [hY] at ih ⊢
          simp only [List.append_assoc, List.cons_append, List.nil_append] at ih ⊢
          rw [xF8]
          simp (maxSteps := 30000000) (disch := first | assumption | omega | (simp only [List.length_cons, List.length_nil, List.length_append, List.length_set, List.length_replicate, List.length_map, List.length_range, List.length_take, List.length_drop, List.all_cons, List.all_nil, AV.isCell, Bool.and_self, Bool.and_true, xAh, xAb, xAe, xAa, xAB] <;> omega) | rfl | decide) only [xE9, xAo, xAf, xAc, xAk, xAH, opv, List.getD_cons_succ, List.getD_cons_zero, xAL, hlt, decide_true, xAl, xAp, List.set_cons_succ, List.set_cons_zero, xAi, xAg, xAj, xAd, xAq, xAn, ↓reduceIte, xAG, xAs, xA4, xA6, Int.toNat_natCast, xAP, xBu, hat, xBs, xBn, AV.cells, List.all_cons, AV.isCell, List.all_nil, Bool.and_self, xBb, List.length_cons, List.length_nil, Nat.zero_add, Nat.reduceAdd, xBH, xCY, List.getElem?_cons_zero, xA3, xBd, List.take_zero, List.nil_append, List.drop_succ_cons, List.drop_nil, List.append_nil, xDr, xAR, xBl, xBT, List.take_succ_cons, xBg, xBo, xB4, List.drop_zero, List.take_nil, xAV, xBB, xBM, xBA, xCU, xAE, xCC, Nat.mul_one, gl, xCs, xA1, xAQ, Nat.add_zero, xA5, xAz, xGc, xCQ, hsl, gr, hsr, xCP, hab, hbit, xA8, Int.reduceEq, decide_false, Bool.not_false, xC0, xCL, xFp, xEb, xC1, xSH, h1, c2, xBK, xFo, xA7, xAK, xBp, xBz, xCJ, xBG, xAJ, xAD, h2, e2, c3, Bool.false_eq_true, xAu, xBq, xCE, xDf, xAM, xFa, ih]
      · rw [if_neg (by unfold hit xSo; rw [c1.1, c1.2]; simp [c2])]
        obtain ⟨X, ih⟩ := ihA a ha
        refine ⟨Y :: X, ?_⟩
        rw [hY] at ih ⊢
        simp only [List.append_assoc, List.cons_append, List.nil_append] at ih ⊢
        rw [xF8]
        simp (maxSteps := 30000000) (disch := first | assumption | omega | (simp only [List.length_cons, List.length_nil, List.length_append, List.length_set, List.length_replicate, List.length_map, List.length_range, List.length_take, List.length_drop, List.all_cons, List.all_nil, AV.isCell, Bool.and_self, Bool.and_true, xAh, xAb, xAe, xAa, xAB] <;> omega) | rfl | decide) only [xE9, xAo, xAf, xAc, xAk, xAH, opv, List.getD_cons_succ, List.getD_cons_zero, xAL, hlt, decide_true, xAl, xAp, List.set_cons_succ, List.set_cons_zero, xAi, xAg, xAj, xAd, xAq, xAn, ↓reduceIte, xAG, xAs, xA4, xA6, Int.toNat_natCast, xAP, xBu, hat, xBs, xBn, AV.cells, List.all_cons, AV.isCell, List.all_nil, Bool.and_self, xBb, List.length_cons, List.length_nil, Nat.zero_add, Nat.reduceAdd, xBH, xCY, List.getElem?_cons_zero, xA3, xBd, List.take_zero, List.nil_append, List.drop_succ_cons, List.drop_nil, List.append_nil, xDr, xAR, xBl, xBT, List.take_succ_cons, xBg, xBo, xB4, List.drop_zero, List.take_nil, xAV, xBB, xBM, xBA, xCU, xAE, xCC, Nat.mul_one, gl, xCs, xA1, xAQ, Nat.add_zero, xA5, xAz, xGc, xCQ, hsl, gr, hsr, xCP, hab, hbit, xA8, Int.reduceEq, decide_false, Bool.not_false, xC0, xCL, xFp, xEb, xC1, xSH, h1, xBK, e1, c2, xFo, xA7, xAK, Bool.false_eq_true, xCf, xBp, xBz, xCJ, xBG, xAJ, xAD, xAu, xBq, xCE, xDf, xAM, xFa, ih]
    · rw [if_neg c1] at hbit
      rw [if_neg (by unfold hit; intro q; simp only [Bool.and_eq_true] at q; exact c1 q.1)]
      obtain ⟨X, ih⟩ := ihA a ha
      refine ⟨Y :: X, ?_⟩
      rw [hY] at ih ⊢
      simp only [List.append_assoc, List.cons_append, List.nil_append] at ih ⊢
      rw [xF8]
      simp (maxSteps := 30000000) (disch := first | assumption | omega | (simp only [List.length_cons, List.length_nil, List.length_append, List.length_set, List.length_replicate, List.length_map, List.length_range, List.length_take, List.length_drop, List.all_cons, List.all_nil, AV.isCell, Bool.and_self, Bool.and_true, xAh, xAb, xAe, xAa, xAB] <;> omega) | rfl | decide) only [xE9, xAo, xAf, xAc, xAk, xAH, opv, List.getD_cons_succ, List.getD_cons_zero, xAL, hlt, decide_true, xAl, xAp, List.set_cons_succ, List.set_cons_zero, xAi, xAg, xAj, xAd, xAq, xAn, ↓reduceIte, xAG, xAs, xA4, xA6, Int.toNat_natCast, xAP, xBu, hat, xBs, xBn, AV.cells, List.all_cons, AV.isCell, List.all_nil, Bool.and_self, xBb, List.length_cons, List.length_nil, Nat.zero_add, Nat.reduceAdd, xBH, xCY, List.getElem?_cons_zero, xA3, xBd, List.take_zero, List.nil_append, List.drop_succ_cons, List.drop_nil, List.append_nil, xDr, xAR, xBl, xBT, List.take_succ_cons, xBg, xBo, xB4, List.drop_zero, List.take_nil, xAV, xBB, xBM, xBA, xCU, xAE, xCC, Nat.mul_one, gl, xCs, xA1, xAQ, Nat.add_zero, xA5, xAz, xGc, xCQ, hsl, gr, hsr, xCP, hab, hbit, xA8, Bool.not_true, xC0, xCL, Bool.false_eq_true, xCf, xFo, xA7, xAK, xBp, xBz, xCJ, xBG, xAJ, xAD, xAu, xBq, xCE, xDf, xAM, xFa, ih]

theorem xXo {n : Aut} {o : List Nat} {l r x p q lb : Nat} {G : xAA} (hl : n.rl.length < 1099511627776) (hb : xNp n.rl) (ho : ∀ w ∈ o, w < 18446744073709551616) (hol : o.length ≤ 65) (hlo : l < o.length) (hro : r < o.length) (hx : x < 256)
    (hp : G[p]? = some (.cells false false n.cells)) (hq : G[q]? = some (.cells false false [.own false lb 0 o.length 1])) (hlb : G[lb]? = some (.cells false false (w64 o))) :
    ∃ X, L.icall (.func 74 [.ptr p 0, .ptr q 0]) [.int .i64 (l : Nat), .int .i64 (r : Nat), .int .i64 (x : Nat)] G = some (.int .u64 (toM (o.getD l 0) (o.getD r 0) x 0 n.rl : Nat), G ++ X) := by
  obtain ⟨X, h⟩ := xNr (z := n.z3) hl hb ho hol hlo hro hx n.rl.length 0 0 G (by omega) (by omega) hq hlb
  refine ⟨X, ?_⟩
  simp only [Int.natCast_zero, List.drop_zero] at h
  rw [yDR, a74]
  simp (maxSteps := 30000000) (disch := first | assumption | omega | (simp only [List.length_cons, List.length_nil, List.length_append, List.length_set, List.length_replicate, List.length_map, List.length_range, List.length_take, List.length_drop, List.all_cons, List.all_nil, AV.isCell, Bool.and_self, Bool.and_true, xAh, xAb, xAe, xAa, xAB] <;> omega) | rfl | decide) only [List.cons_append, List.nil_append, xAI, List.length_cons, List.length_nil, Nat.zero_add, Nat.reduceAdd, Nat.reduceSub, xB8, xAo, xAf, xAc, xAk, xAE, opv, xAp, List.set_cons_succ, List.set_cons_zero, xAi, xAg, xAj, xAd, xA1, List.getD_cons_succ, List.getD_cons_zero, xAQ, xAl, xAP, xA5, hp, xAz, List.drop_succ_cons, List.drop_zero, List.take_succ_cons, List.take_nil, xAV, xBr, xBf, xAs, xBe, xFa, h, xA0, ↓reduceIte, xAO, xAx, xAF, xAU, xAr]
theorem xT8 {n : Aut} {o : List Nat} {l r x : Nat} (hl : n.rl.length < 1099511627776) (hb : xNp n.rl) (ho : ∀ w ∈ o, w < 18446744073709551616) (hol : o.length ≤ 65) (hlo : l < o.length) (hro : r < o.length) (hx : x < 256) :
    L.pcall 74 [.int .i64 (l : Nat), .int .i64 (r : Nat), .int .i64 (x : Nat), .vptr n.cells 0, .vptr [.sl false o.length (w64 o)] 0] = some (.int .u64 (toM (o.getD l 0) (o.getD r 0) x 0 n.rl : Nat)) := by
  obtain ⟨X, h⟩ := xNs (z := n.z3) hl hb ho hol hlo hro hx n.rl.length 0 0 [] (by omega) (by omega)
  simp only [Int.natCast_zero, List.drop_zero] at h
  rw [yDQ, a74, xAT]
  simp (maxSteps := 30000000) (disch := first | assumption | omega | (simp only [List.length_cons, List.length_nil, List.length_append, List.length_set, List.length_replicate, List.length_map, List.length_range, List.length_take, List.length_drop, List.all_cons, List.all_nil, AV.isCell, Bool.and_self, Bool.and_true, xAh, xAb, xAe, xAa, xAB] <;> omega) | rfl | decide) only [xAI, List.length_cons, List.length_nil, Nat.zero_add, Nat.reduceAdd, Nat.reduceSub, xB8, List.cons_append, List.nil_append, xAo, xAf, xAc, xAk, xAE, opv, xAp, List.set_cons_succ, List.set_cons_zero, xAi, xAg, xAj, xAd, xA1, List.getD_cons_succ, List.getD_cons_zero, xES, xAl, xAP, xBu, List.drop_succ_cons, List.drop_zero, List.take_succ_cons, List.take_nil, xAV, xBr, xBf, xAs, xBe, xFa, h, xA0, ↓reduceIte, xAO, xAx, xAF, xAU, xAr, xAt, xBI, xAW]
end Go.Abs.Det

/- Determinize: the numbered words, the call of explore. -/
namespace Go.Abs.Det
open Go Go.Abs
set_option linter.unusedSimpArgs false
set_option linter.unusedVariables false

def xOF (k : Nat) : List Nat → Nat → Option Nat
  | [], _ => none
  | k' :: ks, i => if k = k' then some i else xOF k ks (i + 1)
def xPE : List Nat → Nat → List (AV × AV)
  | [], _ => []
  | k :: ks, i => (.int .u64 (k : Nat), .int .i64 (i : Nat)) :: xPE ks (i + 1)
theorem xMF (k : Nat) : ∀ (ks : List Nat) (i : Nat), xPE (ks ++ [k]) i = xPE ks i ++ [(.int .u64 (k : Nat), .int .i64 ((i + ks.length : Nat) : Int))]
  | [], i => rfl
  | k' :: ks, i => by
    rw [List.cons_append, xPE, xPE, xMF k ks (i + 1), List.length_cons, List.cons_append]
    congr 4
    rw [show i + 1 + ks.length = i + (ks.length + 1) by omega]
theorem xMG (a b : Nat) : xF6 (.int .u64 (a : Nat)) (.int .u64 (b : Nat)) = some (decide (a = b)) := by
  simp only [xF6, xMj]
  by_cases h : a = b
  · simp [h]
  · have : ((a : Int) == (b : Int)) = false := by rw [beq_eq_false_iff_ne]; omega
    simp [h, this]
theorem xJp {k : Nat} : ∀ (ks : List Nat) (i : Nat), xI0 (.int .u64 (k : Nat)) (xPE ks i) = some ((xOF k ks i).map fun (j : Nat) => AV.int .i64 (j : Nat))
  | [], i => rfl
  | k' :: ks, i => by
    simp only [xPE, xI0, xMG, xOF]
    by_cases c : k = k'
    · simp [c]
    · simp only [c, decide_false]
      rw [xJp ks (i + 1)]
      simp
theorem xOG {k : Nat} {v : AV} : ∀ (ks : List Nat) (i : Nat), xOF k ks i = none → xPD (.int .u64 (k : Nat)) v (xPE ks i) = some (xPE ks i ++ [(.int .u64 (k : Nat), v)])
  | [], i, _ => rfl
  | k' :: ks, i, hn => by
    unfold xOF at hn
    split at hn
    · cases hn
    rename_i c
    simp only [xPE, xPD, xMG, c, decide_false]
    rw [xOG ks (i + 1) hn]
    rfl
theorem xMH {k : Nat} : ∀ {ks : List Nat} {i j : Nat}, xOF k ks i = some j → i ≤ j ∧ ks[j - i]? = some k
  | [], i, j, h => by cases h
  | k' :: ks, i, j, h => by
    unfold xOF at h
    split at h
    · rename_i c
      cases h
      exact ⟨Nat.le_refl _, by rw [Nat.sub_self, c]; rfl⟩
    · obtain ⟨h1, h2⟩ := xMH h
      refine ⟨by omega, ?_⟩
      rw [show j - i = (j - (i + 1)) + 1 by omega]
      exact h2
theorem idxN_none {k : Nat} : ∀ {ks : List Nat} {i : Nat}, xOF k ks i = none ↔ k ∉ ks
  | [], i => by simp [xOF]
  | k' :: ks, i => by
    unfold xOF
    split
    · rename_i c; simp [c]
    · rename_i c
      rw [idxN_none (ks := ks)]
      simp [c]
def xYa (o : List Nat) (s : Nat) : Nat := (xOF s o 0).getD 0
theorem xOH {o : List Nat} {s : Nat} (h : s ∈ o) : xYa o s < o.length ∧ o.getD (xYa o s) 0 = s := by
  unfold xYa
  cases hi : xOF s o 0 with
  | none => exact absurd h (idxN_none.1 hi)
  | some j =>
    obtain ⟨_, q⟩ := xMH hi
    rw [Nat.sub_zero] at q
    obtain ⟨h1, h2⟩ := List.getElem?_eq_some_iff.1 q
    refine ⟨h1, ?_⟩
    show o.getD j 0 = s
    rw [List.getD_eq_getElem?_getD, q]; rfl

def xPF (n : Aut) (o : List Nat) (l r x : Nat) : Nat := toM (o.getD l 0) (o.getD r 0) x 0 n.rl
def xED (n : Aut) (o : List Nat) (l r x : Nat) : List Nat := if xPF n o l r x ∈ o then o else o ++ [xPF n o l r x]

structure DetI (n : Aut) (bu : Nat) (o : List Nat) (lb : Nat) (G : xAA) : Prop where
  nd : o.Nodup
  bd : ∀ w ∈ o, w < 18446744073709551616
  b0 : G[0]? = some (.cells false false n.cells)
  b1 : G[1]? = some (.cells false false [.int .i64 (bu : Nat)])
  b2 : G[2]? = some (.cells false false [.int .i64 0, .int .i64 0, .sl true 0 [], .sl true 0 []])
  b5 : G[5]? = some (.mp (xPE o 0))
  b6 : G[6]? = some (.cells false false [.mp 5])
  b7 : G[7]? = some (.cells false false [.func 74 [.ptr 0 0, .ptr 4 0]])
  b8 : G[8]? = some (.cells false false [.bool (decide (bu < o.length))])
  b4 : G[4]? = some (.cells false false [.own false lb 0 o.length 1])
  bl : G[lb]? = some (.cells false false (w64 o))
  lo : lb = 3 ∨ 9 ≤ lb

theorem DetI.app {n : Aut} {bu : Nat} {o : List Nat} {lb : Nat} {G : xAA} (h : DetI n bu o lb G) (X : xAA) : DetI n bu o lb (G ++ X) :=
  ⟨h.nd, h.bd, xBL h.b0, xBL h.b1, xBL h.b2, xBL h.b5, xBL h.b6, xBL h.b7, xBL h.b8, xBL h.b4, xBL h.bl, h.lo⟩
theorem xZV {n : Aut} (hb : xNp n.rl) (o : List Nat) (l r x : Nat) : xPF n o l r x < 18446744073709551616 := xRW _ _ _ _ _ (by omega) hb

set_option maxRecDepth 10000 in
set_option maxHeartbeats 4000000 in
theorem xZW {n : Aut} {bu : Nat} {o : List Nat} {lb : Nat} {G : xAA} {l r x p : Nat} (hrl : n.rl.length < 1099511627776) (hb : xNp n.rl) (hbu : bu ≤ 64) (hI : DetI n bu o lb G) (hok : o.length ≤ bu) (hl : l < o.length) (hr : r < o.length) (hx : x < 256) (hp : 9 ≤ p) (hpl : p ≠ lb) (hpg : p < G.length) :
    ∃ G' lb', L.icall (.func 76 [.ptr 7 0, .ptr 6 0, .ptr 4 0, .ptr 1 0, .ptr 8 0]) [.int .i64 (l : Nat), .int .i64 (r : Nat), .int .i64 (x : Nat)] G = some (.int .i64 (xJm (xED n o l r x).length (decide (bu < (xED n o l r x).length))), G') ∧
      DetI n bu (xED n o l r x) lb' G' ∧ G'[p]? = G[p]? ∧ p ≠ lb' := by
  have hlt := xZV hb o l r x
  obtain ⟨X, ha⟩ := xXo (G := G) hrl hb hI.bd (by omega) hl hr hx hI.b0 hI.b4 hI.bl
  have hI2 := hI.app X
  have hpg2 : (G ++ X)[p]? = G[p]? := List.getElem?_append_left hpg
  have hpl2 : p < (G ++ X).length := by rw [List.length_append]; omega
  have hb7 := hI.b7
  have hord : xED n o l r x = if xPF n o l r x ∈ o then o else o ++ [xPF n o l r x] := rfl
  rw [show toM (o.getD l 0) (o.getD r 0) x 0 n.rl = xPF n o l r x from rfl] at ha
  generalize xPF n o l r x = w at *
  generalize xED n o l r x = o2 at *
  rw [← hpg2]
  generalize hG2 : G ++ X = G2 at *
  obtain ⟨nd, bd, b0, b1, b2, b5, b6, b7, b8, b4, bl, lo⟩ := hI2
  have hbl := (List.getElem?_eq_some_iff.1 bl).1
  have hb8 := (List.getElem?_eq_some_iff.1 b8).1
  have hf := xJp (k := w) o 0
  cases hidx : xOF w o 0 with
  | some j =>
    rw [hidx] at hf
    have hmem : w ∈ o := Classical.byContradiction fun h => by rw [idxN_none.2 h] at hidx; cases hidx
    rw [if_pos hmem] at hord
    subst hord
    have c : ¬ bu < o2.length := by omega
    have c2 : ¬ ((bu : Nat) : Int) < (o2.length : Nat) := by omega
    have xEn : G2.set 8 (.cells false false [.bool false]) = G2 := by
      have : G2[8] = .cells false false [.bool false] := by
        have := (List.getElem?_eq_some_iff.1 b8).2
        rw [this]; simp [c]
      rw [← this, List.set_getElem_self]
    have b8' : G2[8]? = some (.cells false false [.bool false]) := by rw [b8]; simp [c]
    refine ⟨G2, lb, ?_, ⟨nd, bd, b0, b1, b2, b5, b6, b7, b8, b4, bl, lo⟩, rfl, hpl⟩
    rw [show decide (bu < o2.length) = false by simp [c]]
    unfold xJm
    rw [yA9, a76]
    simp (maxSteps := 30000000) (disch := first | assumption | omega | (simp only [List.length_cons, List.length_nil, List.length_append, List.length_set, List.length_replicate, List.length_map, List.length_range, List.length_take, List.length_drop, List.all_cons, List.all_nil, AV.isCell, Bool.and_self, Bool.and_true, xAh, xAb, xAe, xAa, List.length_map] <;> omega) | rfl | decide) only [Int.reduceNeg, List.cons_append, List.nil_append, xAI, List.length_cons, List.length_nil, Nat.zero_add, Nat.reduceAdd, Nat.reduceSub, xB8, xAo, xAf, xAc, xAk, xAE, opv, xAp, List.set_cons_succ, List.set_cons_zero, xAi, xAg, xAj, xAd, xAP, List.getD_cons_succ, List.getD_cons_zero, xA5, hb7, xAz, List.drop_zero, List.take_succ_cons, List.take_nil, xAV, xAl, xBY, List.map_cons, List.map_nil, ha, b6, xH5, xD7, ↓reduceIte, xKT, b5, xEm, xF3, hf, Option.map_some, xMD, xGD, xDV, List.getElem?_cons_zero, List.getElem?_cons_succ, xGl, xEa, Bool.not_true, xAq, xAn, Bool.false_eq_true, xAG, b4, xBr, xDK, b1, xAH, xBP, c2, decide_false, xBb, AV.cells, xBH, b8', xA3, xBd, List.take_zero, List.drop_succ_cons, List.drop_nil, List.append_nil, xEn, xAR, xBl, xAO, xAx, xAF, xAU, xAr]
  | none =>
    rw [hidx] at hf
    have hmem : w ∉ o := idxN_none.1 hidx
    rw [if_neg hmem] at hord
    have hupd := xOG (v := .int .i64 ((o.length : Nat) : Int)) o 0 hidx
    have hsn := xMF w o 0
    rw [Nat.zero_add] at hsn
    rw [← hsn] at hupd
    have hln : o2.length = o.length + 1 := by rw [hord]; simp
    have z4 : ∀ X : Blk, (G2.set 5 X)[4]? = some (.cells false false [.own false lb 0 o.length 1]) := fun X => by rw [List.getElem?_set_ne (by omega)]; exact b4
    have zl : ∀ X : Blk, (G2.set 5 X)[lb]? = some (.cells false false (w64 o)) := fun X => by rw [List.getElem?_set_ne (by omega)]; exact bl
    have htk : List.take o.length (w64 o) = w64 o := by rw [List.take_of_length_le]; rw [xAe]; exact Nat.le_refl _
    have hw : w64 o ++ [AV.int .u64 (w : Nat)] = w64 o2 := by rw [hord]; simp [w64]
    rw [← hord] at hupd
    have z4b : ∀ (X : Blk) (T : xAA), ((G2.set 5 X).set lb .dead ++ T)[4]? = some (.cells false false [.own false lb 0 o.length 1]) := fun X T => xBL (by rw [List.getElem?_set_ne (by omega)]; exact z4 X)
    have z4c : ∀ (X Y : Blk) (T : xAA), (((G2.set 5 X).set lb .dead ++ T).set 4 Y)[4]? = some Y := fun X Y T => List.getElem?_set_self (by simp; omega)
    have z1c : ∀ (X Y : Blk) (T : xAA), (((G2.set 5 X).set lb .dead ++ T).set 4 Y)[1]? = some (.cells false false [.int .i64 (bu : Nat)]) := fun X Y T => by
      rw [List.getElem?_set_ne (by omega), List.getElem?_append_left (by simp; omega), List.getElem?_set_ne (by omega), List.getElem?_set_ne (by omega)]; exact b1
    have z8c : ∀ (X Y : Blk) (T : xAA), (((G2.set 5 X).set lb .dead ++ T).set 4 Y)[8]? = some (.cells false false [.bool (decide (bu < o.length))]) := fun X Y T => by
      rw [List.getElem?_set_ne (by omega), List.getElem?_append_left (by simp; omega), List.getElem?_set_ne (by omega), List.getElem?_set_ne (by omega)]; exact b8
    have z8d : ∀ (X Y Z : Blk) (T : xAA), ((((G2.set 5 X).set lb .dead ++ T).set 4 Y).set 8 Z)[8]? = some Z := fun X Y Z T => List.getElem?_set_self (by simp; omega)
    have z4d : ∀ (X Y Z : Blk) (T : xAA), ((((G2.set 5 X).set lb .dead ++ T).set 4 Y).set 8 Z)[4]? = some Y := fun X Y Z T => by rw [List.getElem?_set_ne (by omega)]; exact z4c X Y T
    obtain ⟨G', hG'⟩ : ∃ G' : xAA, G' = ((((G2.set 5 (.mp (xPE o2 0))).set lb .dead) ++ [Blk.cells false false (w64 o2)]).set 4 (.cells false false [.own false G2.length 0 (o.length + 1) 1])).set 8 (.cells false false [.bool (decide (bu < o.length + 1))]) := ⟨_, rfl⟩
    have old : ∀ b, b ≠ 5 → b ≠ lb → b ≠ 4 → b ≠ 8 → b < G2.length → G'[b]? = G2[b]? := fun b h2 h3 h4 h6 h5 => by
      rw [hG', List.getElem?_set_ne (Ne.symm h6), List.getElem?_set_ne (Ne.symm h4), List.getElem?_append_left (by simpa using h5), List.getElem?_set_ne (Ne.symm h3), List.getElem?_set_ne (Ne.symm h2)]
    refine ⟨G', G2.length, ?_, ⟨?_, ?_, (old 0 (by omega) (by omega) (by omega) (by omega) (by omega)).trans b0, (old 1 (by omega) (by omega) (by omega) (by omega) (by omega)).trans b1, (old 2 (by omega) (by omega) (by omega) (by omega) (by omega)).trans b2, ?_, (old 6 (by omega) (by omega) (by omega) (by omega) (by omega)).trans b6, (old 7 (by omega) (by omega) (by omega) (by omega) (by omega)).trans b7, ?_, ?_, ?_, .inr (by omega)⟩, old p (by omega) hpl (by omega) (by omega) hpl2, by omega⟩
    · rw [hln, hG']
      by_cases c : bu < o.length + 1
      · have c2 : ((bu : Nat) : Int) < (o.length + 1 : Nat) := by omega
        have c3 : ((bu : Nat) : Int) < (o.length : Nat) + 1 := by omega
        rw [show decide (bu < o.length + 1) = true by simp [c]]
        unfold xJm
        rw [yA9, a76]
        simp (maxSteps := 30000000) (disch := first | assumption | omega | (simp only [List.length_cons, List.length_nil, List.length_append, List.length_set, List.length_replicate, List.length_map, List.length_range, List.length_take, List.length_drop, List.all_cons, List.all_nil, AV.isCell, Bool.and_self, Bool.and_true, xAh, xAb, xAe, xAa, List.length_map] <;> omega) | rfl | decide) only [Int.reduceNeg, List.cons_append, List.nil_append, xAI, List.length_cons, List.length_nil, Nat.zero_add, Nat.reduceAdd, Nat.reduceSub, xB8, xAo, xAf, xAc, xAk, xAE, opv, xAp, List.set_cons_succ, List.set_cons_zero, xAi, xAg, xAj, xAd, xAP, List.getD_cons_succ, List.getD_cons_zero, xA5, hb7, xAz, List.drop_zero, List.take_succ_cons, List.take_nil, xAV, xAl, xBY, List.map_cons, List.map_nil, ha, b6, xH5, xD7, ↓reduceIte, xKT, b5, xEm, xF3, hf, Option.map_none, xOE, xGD, xDV, List.getElem?_cons_zero, List.getElem?_cons_succ, xGl, xEa, Bool.not_false, xAq, xAn, b4, xBr, xDK, xKV, xKU, xFK, hupd, xG3, xBl, z4, xCc, AV.cells, List.all_cons, beq_self_eq_true, List.all_nil, Bool.and_self, xDM, List.append_nil, Nat.mul_one, xCp, Nat.le_refl, AV.isCell, and_self, xBd, List.take_zero, List.drop_succ_cons, List.drop_nil, xCb, xCn, xBI, List.flatMap_cons, xBR, List.flatMap_nil, List.isEmpty_nil, List.mapM_cons, xAW, List.mapM_nil, Option.pure_def, Option.bind_eq_bind, Option.bind_some, xB5, xB1, xDx, xEo, zl, xDh, Nat.reduceBEq, List.length_set, htk, hw, xBb, xBH, z4b, xA3, xAR, z4c, z1c, xAH, xBP, c2, decide_true, z8c, z8d, xAO, xBa, xAx, xAF, xAU, xAr]
      · have c2 : ¬ ((bu : Nat) : Int) < (o.length + 1 : Nat) := by omega
        have c3 : ¬ ((bu : Nat) : Int) < (o.length : Nat) + 1 := by omega
        rw [show decide (bu < o.length + 1) = false by simp [c]]
        unfold xJm
        rw [yA9, a76]
        simp (maxSteps := 30000000) (disch := first | assumption | omega | (simp only [List.length_cons, List.length_nil, List.length_append, List.length_set, List.length_replicate, List.length_map, List.length_range, List.length_take, List.length_drop, List.all_cons, List.all_nil, AV.isCell, Bool.and_self, Bool.and_true, xAh, xAb, xAe, xAa, List.length_map] <;> omega) | rfl | decide) only [Int.reduceNeg, List.cons_append, List.nil_append, xAI, List.length_cons, List.length_nil, Nat.zero_add, Nat.reduceAdd, Nat.reduceSub, xB8, xAo, xAf, xAc, xAk, xAE, opv, xAp, List.set_cons_succ, List.set_cons_zero, xAi, xAg, xAj, xAd, xAP, List.getD_cons_succ, List.getD_cons_zero, xA5, hb7, xAz, List.drop_zero, List.take_succ_cons, List.take_nil, xAV, xAl, xBY, List.map_cons, List.map_nil, ha, b6, xH5, xD7, ↓reduceIte, xKT, b5, xEm, xF3, hf, Option.map_none, xOE, xGD, xDV, List.getElem?_cons_zero, List.getElem?_cons_succ, xGl, xEa, Bool.not_false, xAq, xAn, b4, xBr, xDK, xKV, xKU, xFK, hupd, xG3, xBl, z4, xCc, AV.cells, List.all_cons, beq_self_eq_true, List.all_nil, Bool.and_self, xDM, List.append_nil, Nat.mul_one, xCp, Nat.le_refl, AV.isCell, and_self, xBd, List.take_zero, List.drop_succ_cons, List.drop_nil, xCb, xCn, xBI, List.flatMap_cons, xBR, List.flatMap_nil, List.isEmpty_nil, List.mapM_cons, xAW, List.mapM_nil, Option.pure_def, Option.bind_eq_bind, Option.bind_some, xB5, xB1, xDx, xEo, zl, xDh, Nat.reduceBEq, List.length_set, htk, hw, xBb, xBH, z4b, xA3, xAR, z4c, z1c, xAH, xBP, c2, decide_false, z8c, z8d, Bool.false_eq_true, xAG, z4d, xAO, xAx, xAF, xAU, xAr]
    · rw [hord, List.nodup_append]
      refine ⟨nd, by simp, fun a ha' b hb' => ?_⟩
      rw [List.mem_singleton] at hb'
      intro e
      exact hmem (by rw [← hb', ← e]; exact ha')
    · intro s hs
      rw [hord] at hs
      rcases List.mem_append.1 hs with q | q
      · exact bd s q
      · rw [List.mem_singleton] at q
        subst q
        exact hlt
    · rw [hG', List.getElem?_set_ne (by omega), List.getElem?_set_ne (by omega), List.getElem?_append_left (by simp; omega), List.getElem?_set_ne (by omega), List.getElem?_set_self (by omega)]
    · rw [hG', List.getElem?_set_self (by simp; omega), hln]
    · rw [hG', List.getElem?_set_ne (by omega), List.getElem?_set_self (by simp; omega), hln]
    · rw [hG', List.getElem?_set_ne (by omega), List.getElem?_set_ne (by omega), List.getElem?_append_right (by simp)]; simp
end Go.Abs.Det

/- Determinize: explore over its call; the reading calls. -/
namespace Go.Abs.Det
open Go Go.Abs
set_option linter.unusedSimpArgs false
set_option linter.unusedVariables false

theorem xXp {v : Int} (h3 : v ≤ 3) : two v ≤ 8 := (xFf h3).1

theorem xXq {n : Aut} {bu : Nat} (hV : Valid n) (hb : xNp n.rl) (hbu : bu ≤ 64) : Exp n.vars 9 bu (.func 76 [.ptr 7 0, .ptr 6 0, .ptr 4 0, .ptr 1 0, .ptr 8 0]) List.length (fun o => decide (bu < o.length)) (xED n) (DetI n bu) where
  v0 := hV.v0
  v3 := hV.v3
  n64 := hbu
  grow := fun s lb G X h => h.app [X]
  lb := fun s lb G h => ⟨(List.getElem?_eq_some_iff.1 h.bl).1, (List.getElem?_eq_some_iff.1 h.b8).1⟩
  le := fun s lb G h hb => by simpa using hb
  mono := fun s l r x => by
    unfold xED
    split
    · exact Nat.le_refl _
    · simp
  call := fun s lb G l r x p hI hbd hl hr hx hp hpl hpg => by
    have h8 := xXp hV.v3
    have hbd' : s.length ≤ bu := by simpa using hbd
    obtain ⟨G', lb', h1, h2, h3, h4⟩ := xZW (by have := hV.rl; omega) hb hbu hI hbd' hl hr (show x < 256 by omega) hp hpl hpg
    exact ⟨G', lb', h1, h2, h3, h4⟩

def xDq (n : Aut) (bu : Nat) : List Nat := goK List.length (fun o => decide (bu < o.length)) (xED n) (two n.vars) 0 bu [xDi 0 n.st]

set_option maxRecDepth 10000 in
set_option maxHeartbeats 2000000 in
theorem xZX {n : Aut} {bu : Nat} {o : List Nat} {lb : Nat} {G : xAA} {l r x : Nat} (hrl : n.rl.length < 1099511627776) (hb : xNp n.rl) (hol : o.length ≤ 65) (hI : DetI n bu o lb G) (hl : l < o.length) (hr : r < o.length) (hx : x < 256) (hm : xPF n o l r x ∈ o) :
    L.icall (.func 78 [.ptr 6 0, .ptr 7 0]) [.int .i64 (l : Nat), .int .i64 (r : Nat), .int .i64 (x : Nat)] G = some (.int .i64 (xYa o (xPF n o l r x) : Nat), G) := by
  have ha := xT8 hrl hb hI.bd hol hl hr hx
  rw [show toM (o.getD l 0) (o.getD r 0) x 0 n.rl = xPF n o l r x from rfl] at ha
  obtain ⟨nd, bd, b0, b1, b2, b5, b6, b7, b8, b4, bl, lo⟩ := hI
  generalize xPF n o l r x = w at *
  have hf := xJp (k := w) o 0
  unfold xYa
  have htk : List.take o.length (w64 o) = w64 o := by rw [List.take_of_length_le]; rw [xAe]; exact Nat.le_refl _
  cases hidx : xOF w o 0 with
  | none => exact absurd hm (idxN_none.1 hidx)
  | some j =>
    rw [hidx] at hf
    rw [yDU, a78]
    simp (maxSteps := 30000000) (disch := first | assumption | omega | (simp only [List.length_cons, List.length_nil, List.length_append, List.length_set, List.length_replicate, List.length_map, List.length_range, List.length_take, List.length_drop, List.all_cons, List.all_nil, AV.isCell, Bool.and_self, Bool.and_true, xAh, xAb, xAe, xAa, List.length_map] <;> omega) | rfl | decide) only [List.cons_append, List.nil_append, xAI, List.length_cons, List.length_nil, Nat.zero_add, Nat.reduceAdd, Nat.reduceSub, xB8, xAo, xAf, xAc, xAk, xAE, opv, xAp, List.set_cons_succ, List.set_cons_zero, xAi, xAg, xAj, xAd, xBT, List.take_succ_cons, List.take_zero, xBg, xBo, xB4, xAP, List.getD_cons_succ, List.getD_cons_zero, xA5, b6, xAz, List.drop_zero, List.take_nil, xAV, xAl, xBB, xBM, xBA, b7, xCU, xN6, List.map_cons, List.map_nil, xHB, xAZ, xBI, List.mapM_cons, xAW, xQo, b0, xJR, xBE, List.mapM_nil, Option.pure_def, Option.bind_eq_bind, Option.bind_some, Option.map_some, b4, xFn, bl, xDj, Nat.mul_one, htk, xKO, xB5, xAY, ha, xAX, xCZ, xBU, ↓reduceIte, xCo, xCd, List.flatMap_cons, xBR, xQp, xIw, xDk, List.flatMap_nil, List.append_nil, xMS, xHa, xRJ, List.all_cons, xJS, List.all_nil, Bool.and_true, Bool.true_or, xBp, xBz, List.drop_succ_cons, xCJ, xBG, xH5, xD7, xKT, b5, xEm, xF3, hf, xMD, Bool.false_eq_true, xAO, xAx, xAF, xAU, xAr, Option.getD_some]

theorem xZY {o : List Nat} {lb b : Nat} {G : xAA} {l : Nat} {f : Int} (ho : ∀ w ∈ o, w < 18446744073709551616) (hl : l < o.length) (h0 : 0 ≤ f) (h64 : f < 64) (b4 : G[4]? = some (.cells false false [.own false lb 0 o.length 1])) (bl : G[lb]? = some (.cells false false (w64 o))) (bb : G[b]? = some (.cells false false [.int .i64 (l : Nat)])) :
    L.icall (.func 81 [.ptr 4 0, .ptr b 0]) [.int .i64 f] G = some (.bool ((o.getD l 0).testBit f.toNat), G) := by
  have hA := ho _ (xCy (a := (0 : Nat)) hl)
  have gl : List.take 1 (List.drop l (w64 o)) = [.int .u64 (o.getD l 0 : Nat)] := xDd _ _ hl
  generalize o.getD l 0 = A at *
  have hs := xTE A (show f.toNat ≤ IntKind.u64.bits from by show _ ≤ 64; omega)
  have hb := xZM hA f.toNat
  cases c : A.testBit f.toNat with
  | true =>
    rw [if_pos c] at hb
    rw [yCQ, a81]
    simp (maxSteps := 30000000) (disch := first | assumption | omega | (simp only [List.length_cons, List.length_nil, List.length_append, List.length_set, List.length_replicate, List.length_map, List.length_range, List.length_take, List.length_drop, List.all_cons, List.all_nil, AV.isCell, Bool.and_self, Bool.and_true, xAh, xAb, xAe, xAa, List.length_map] <;> omega) | rfl | decide) only [List.cons_append, List.nil_append, xAI, List.length_cons, List.length_nil, Nat.zero_add, Nat.reduceAdd, Nat.reduceSub, xB8, xAo, xAf, xAc, xAk, xAE, opv, xAp, List.set_cons_succ, List.set_cons_zero, xAi, xAg, xAj, xAd, xAP, List.getD_cons_succ, List.getD_cons_zero, xA5, b4, xAz, List.drop_zero, List.take_succ_cons, List.take_nil, xAV, xAl, bb, xA4, xBV, Int.toNat_natCast, Nat.mul_one, bl, gl, xAH, xCQ, hs, xCP, hb, xA8, Int.reduceEq, decide_false, Bool.not_false, xAO, xAx, xAF, xAU, xAr]
  | false =>
    rw [if_neg (by rw [c]; simp)] at hb
    rw [yCQ, a81]
    simp (maxSteps := 30000000) (disch := first | assumption | omega | (simp only [List.length_cons, List.length_nil, List.length_append, List.length_set, List.length_replicate, List.length_map, List.length_range, List.length_take, List.length_drop, List.all_cons, List.all_nil, AV.isCell, Bool.and_self, Bool.and_true, xAh, xAb, xAe, xAa, List.length_map] <;> omega) | rfl | decide) only [List.cons_append, List.nil_append, xAI, List.length_cons, List.length_nil, Nat.zero_add, Nat.reduceAdd, Nat.reduceSub, xB8, xAo, xAf, xAc, xAk, xAE, opv, xAp, List.set_cons_succ, List.set_cons_zero, xAi, xAg, xAj, xAd, xAP, List.getD_cons_succ, List.getD_cons_zero, xA5, b4, xAz, List.drop_zero, List.take_succ_cons, List.take_nil, xAV, xAl, bb, xA4, xBV, Int.toNat_natCast, Nat.mul_one, bl, gl, xAH, xCQ, hs, xCP, hb, xA8, decide_true, Bool.not_true, xAO, xAx, xAF, xAU, xAr]

set_option maxHeartbeats 1000000 in
theorem xPz {o : List Nat} {lb b : Nat} {G : xAA} {l : Nat} {z : Bool} {fi : List Int} {s4 : AV} (hfl : fi.length < 1099511627776) (hf : ∀ q ∈ fi, 0 ≤ q ∧ q < 64) (ho : ∀ w ∈ o, w < 18446744073709551616) (hl : l < o.length) (b4 : G[4]? = some (.cells false false [.own false lb 0 o.length 1])) (bl : G[lb]? = some (.cells false false (w64 o))) (bb : G[b]? = some (.cells false false [.int .i64 (l : Nat)])) :
    ∀ d i, i + d = fi.length → ∃ e s s8, L.loop xIj xNY ⟨xIk (iw z fi) (.func 81 [.ptr 4 0, .ptr b 0]) s4 (.int .i64 (fi.length : Nat)) (.int .i64 (i : Nat)), G⟩ = some (e, ⟨xIk (iw z fi) (.func 81 [.ptr 4 0, .ptr b 0]) s (.int .i64 (fi.length : Nat)) s8, G⟩) ∧
      ((e = .ret ∧ (∃ j : Nat, s = .int .i64 (j : Nat)) ∧ (fi.drop i).any (fun f => (o.getD l 0).testBit f.toNat) = true) ∨ (e = .exit 0 ∧ (fi.drop i).any (fun f => (o.getD l 0).testBit f.toNat) = false)) := by
  intro d
  induction d with
  | zero =>
    intro i h
    obtain rfl : i = fi.length := by omega
    refine ⟨.exit 0, s4, .int .i64 (fi.length : Nat), ?_, .inr ⟨rfl, by simp⟩⟩
    rw [xMM]
    simp (maxSteps := 30000000) (disch := first | assumption | omega | (simp only [List.length_cons, List.length_nil, List.length_append, List.length_set, List.length_replicate, List.length_map, List.length_range, List.length_take, List.length_drop, List.all_cons, List.all_nil, AV.isCell, Bool.and_self, Bool.and_true, xAh, xAb, xAe, xAa, List.length_map] <;> omega) | rfl | decide) only [xIi, xAo, xAf, xAc, xAk, xAH, opv, List.getD_cons_succ, List.getD_cons_zero, xAL, Int.lt_irrefl, decide_false, xAl, xAp, List.set_cons_succ, List.set_cons_zero, xAi, xAg, xAj, xAd, xAq, xAn, Bool.false_eq_true, ↓reduceIte, xBy, xBh, xA9, xIl]
  | succ d ih =>
    intro i h
    have hlt : (i : Int) < (fi.length : Nat) := by omega
    have hq := hf (fi.getD i 0) (xCy (by omega))
    have hc := xZY ho hl hq.1 hq.2 b4 bl bb
    have g1 : List.take 1 (List.drop i (xCK fi)) = [.int .i64 (fi.getD i 0)] := xDd _ _ (by omega)
    rw [xFG (by omega : i < fi.length), List.any_cons]
    cases c : (o.getD l 0).testBit (fi.getD i 0).toNat with
    | true =>
      rw [c] at hc
      refine ⟨.ret, .int .i64 (i : Nat), .int .i64 (i : Nat), ?_, .inl ⟨rfl, ⟨i, rfl⟩, rfl⟩⟩
      rw [xMM]
      simp (maxSteps := 30000000) (disch := first | assumption | omega | (simp only [List.length_cons, List.length_nil, List.length_append, List.length_set, List.length_replicate, List.length_map, List.length_range, List.length_take, List.length_drop, List.all_cons, List.all_nil, AV.isCell, Bool.and_self, Bool.and_true, xAh, xAb, xAe, xAa, List.length_map] <;> omega) | rfl | decide) only [xIi, xAo, xAf, xAc, xAk, xAH, opv, List.getD_cons_succ, List.getD_cons_zero, xAL, hlt, decide_true, xAl, xAp, List.set_cons_succ, List.set_cons_zero, xAi, xAg, xAj, xAd, xAq, xAn, ↓reduceIte, xAG, xAs, xAE, xA4, xA6, Int.toNat_natCast, Nat.mul_one, xAP, xBu, xCq, xB7, xDa, xCm, Nat.add_zero, xAV, xBY, List.map_cons, List.map_nil, hc, xAO, xBj, xBa, xCi, xIl]
    | false =>
      rw [c] at hc
      obtain ⟨e, s, s8, q1, q2⟩ := ih (i + 1) (by omega)
      refine ⟨e, s, s8, ?_, by simpa using q2⟩
      rw [xMM]
      simp (maxSteps := 30000000) (disch := first | assumption | omega | (simp only [List.length_cons, List.length_nil, List.length_append, List.length_set, List.length_replicate, List.length_map, List.length_range, List.length_take, List.length_drop, List.all_cons, List.all_nil, AV.isCell, Bool.and_self, Bool.and_true, xAh, xAb, xAe, xAa, List.length_map] <;> omega) | rfl | decide) only [xIi, xAo, xAf, xAc, xAk, xAH, opv, List.getD_cons_succ, List.getD_cons_zero, xAL, hlt, decide_true, xAl, xAp, List.set_cons_succ, List.set_cons_zero, xAi, xAg, xAj, xAd, xAq, xAn, ↓reduceIte, xAG, xAs, xAE, xA4, xA6, Int.toNat_natCast, Nat.mul_one, xAP, xBu, xCq, xB7, xDa, xCm, Nat.add_zero, xAV, xBY, List.map_cons, List.map_nil, hc, Bool.false_eq_true, xAu, xBq, xCE, xDf, xAM, xIl, q1]

theorem xZZ {o : List Nat} {lb b : Nat} {G : xAA} {l : Nat} {z : Bool} {fi : List Int} (hfl : fi.length < 1099511627776) (hf : ∀ q ∈ fi, 0 ≤ q ∧ q < 64) (ho : ∀ w ∈ o, w < 18446744073709551616) (hl : l < o.length) (b4 : G[4]? = some (.cells false false [.own false lb 0 o.length 1])) (bl : G[lb]? = some (.cells false false (w64 o))) (bb : G[b]? = some (.cells false false [.int .i64 (l : Nat)])) :
    L.icall (.func 80 []) [iw z fi, .func 81 [.ptr 4 0, .ptr b 0]] G = some (.bool (fi.any (fun f => (o.getD l 0).testBit f.toNat)), G) := by
  obtain ⟨e, s, s8, q1, q2⟩ := xPz (z := z) (s4 := .int .i64 0) hfl hf ho hl b4 bl bb fi.length 0 (by omega)
  simp only [Int.natCast_zero, List.drop_zero] at q1 q2
  rcases q2 with ⟨rfl, ⟨j, rfl⟩, hc⟩ | ⟨rfl, hc⟩
  · rw [hc]
    have hi : L.icall (.func 109 []) [iw z fi, .func 81 [.ptr 4 0, .ptr b 0]] G = some (.int .i64 (j : Nat), G) := by
      rw [xYl, xYe]
      simp (maxSteps := 30000000) (disch := first | assumption | omega | (simp only [List.length_cons, List.length_nil, List.length_append, List.length_set, List.length_replicate, List.length_map, List.length_range, List.length_take, List.length_drop, List.all_cons, List.all_nil, AV.isCell, Bool.and_self, Bool.and_true, xAh, xAb, xAe, xAa, List.length_map] <;> omega) | rfl | decide) only [Int.reduceNeg, List.append_nil, xAI, List.length_cons, List.length_nil, Nat.zero_add, Nat.reduceAdd, Nat.reduceSub, xB8, List.cons_append, List.nil_append, xAo, xAf, xAc, xAk, xAE, opv, xAp, List.set_cons_succ, List.set_cons_zero, xAi, xAg, xAj, xAd, List.getD_cons_zero, xBr, List.getD_cons_succ, xBf, xAl, xAs, xBe, xIl, q1, xBj, xBa, xAx, xAF, xAU, xAr]
    have hj : (0 : Int) ≤ (j : Nat) := by omega
    rw [yCP, a80]
    simp (maxSteps := 30000000) (disch := first | assumption | omega | (simp only [List.length_cons, List.length_nil, List.length_append, List.length_set, List.length_replicate, List.length_map, List.length_range, List.length_take, List.length_drop, List.all_cons, List.all_nil, AV.isCell, Bool.and_self, Bool.and_true, xAh, xAb, xAe, xAa, List.length_map] <;> omega) | rfl | decide) only [List.append_nil, xAI, List.length_cons, List.length_nil, Nat.zero_add, Nat.reduceAdd, Nat.reduceSub, xB8, List.cons_append, List.nil_append, xAo, xAf, xAc, xAk, xAE, opv, xAp, List.set_cons_succ, List.set_cons_zero, xAi, xAg, xAj, xAd, List.getD_cons_zero, List.getD_cons_succ, xBY, List.map_cons, List.map_nil, hi, xAH, xCj, hj, decide_true, xAl, xAO, xAx, xAF, xAU, xAr]
  · rw [hc]
    have hi : L.icall (.func 109 []) [iw z fi, .func 81 [.ptr 4 0, .ptr b 0]] G = some (.int .i64 (-1), G) := by
      rw [xYl, xYe]
      simp (maxSteps := 30000000) (disch := first | assumption | omega | (simp only [List.length_cons, List.length_nil, List.length_append, List.length_set, List.length_replicate, List.length_map, List.length_range, List.length_take, List.length_drop, List.all_cons, List.all_nil, AV.isCell, Bool.and_self, Bool.and_true, xAh, xAb, xAe, xAa, List.length_map] <;> omega) | rfl | decide) only [Int.reduceNeg, List.append_nil, xAI, List.length_cons, List.length_nil, Nat.zero_add, Nat.reduceAdd, Nat.reduceSub, xB8, List.cons_append, List.nil_append, xAo, xAf, xAc, xAk, xAE, opv, xAp, List.set_cons_succ, List.set_cons_zero, xAi, xAg, xAj, xAd, List.getD_cons_zero, xBr, List.getD_cons_succ, xBf, xAl, xAs, xBe, xIl, q1, xA0, ↓reduceIte, xAO, xAx, xAF, xAU, xAr]
    rw [yCP, a80]
    simp (maxSteps := 30000000) (disch := first | assumption | omega | (simp only [List.length_cons, List.length_nil, List.length_append, List.length_set, List.length_replicate, List.length_map, List.length_range, List.length_take, List.length_drop, List.all_cons, List.all_nil, AV.isCell, Bool.and_self, Bool.and_true, xAh, xAb, xAe, xAa, List.length_map] <;> omega) | rfl | decide) only [List.append_nil, xAI, List.length_cons, List.length_nil, Nat.zero_add, Nat.reduceAdd, Nat.reduceSub, xB8, List.cons_append, List.nil_append, xAo, xAf, xAc, xAk, xAE, opv, xAp, List.set_cons_succ, List.set_cons_zero, xAi, xAg, xAj, xAd, List.getD_cons_zero, List.getD_cons_succ, xBY, List.map_cons, List.map_nil, hi, Int.reduceNeg, xAH, xCj, Int.reduceLE, decide_false, xAl, xAO, xAx, xAF, xAU, xAr]

def xXr (n : Aut) (o : List Nat) (l : Nat) : Bool := n.fi.any fun f => (o.getD l 0).testBit f.toNat

theorem xZ0 {n : Aut} {bu : Nat} {o : List Nat} {lb : Nat} {G : xAA} {l : Nat} (hfl : n.fi.length < 1099511627776) (hf : ∀ q ∈ n.fi, 0 ≤ q ∧ q < 64) (hI : DetI n bu o lb G) (hl : l < o.length) :
    ∃ T : xAA, L.icall (.func 79 [.ptr 0 0, .ptr 4 0]) [.int .i64 (l : Nat)] G = some (.bool (xXr n o l), G ++ T) := by
  have hI2 := hI.app [.cells false false [.int .i64 (l : Nat)]]
  have h := xZZ (z := n.z2) (b := G.length) hfl hf hI2.bd hl hI2.b4 hI2.bl (xCY _ _)
  have b0 := hI2.b0
  refine ⟨[.cells false false [.int .i64 (l : Nat)]], ?_⟩
  unfold xXr
  rw [yDV, a79]
  simp (maxSteps := 30000000) (disch := first | assumption | omega | (simp only [List.length_cons, List.length_nil, List.length_append, List.length_set, List.length_replicate, List.length_map, List.length_range, List.length_take, List.length_drop, List.all_cons, List.all_nil, AV.isCell, Bool.and_self, Bool.and_true, xAh, xAb, xAe, xAa, List.length_map] <;> omega) | rfl | decide) only [List.cons_append, List.nil_append, xAI, List.length_cons, List.length_nil, Nat.zero_add, Nat.reduceAdd, Nat.reduceSub, xB8, xAo, xAf, xAc, xAk, xBn, AV.cells, opv, List.getD_cons_zero, List.all_cons, AV.isCell, List.all_nil, Bool.and_self, ↓reduceIte, xAp, List.set_cons_succ, List.set_cons_zero, xAi, xAE, xAg, xAj, xAd, xA1, List.getD_cons_succ, xAQ, xAl, xAP, xA5, b0, xAz, List.drop_succ_cons, List.drop_zero, List.take_succ_cons, List.take_zero, xAV, xEc, List.map_cons, List.map_nil, xBY, h, xAO, xAx, xAF, xAU, xAr]
end Go.Abs.Det

/- Determinize: the list of words is closed. Plain facts (printed by C5gen.py). -/
namespace Go.Abs.Det
open Go Go.Abs
set_option linter.unusedSimpArgs false
set_option linter.unusedVariables false

abbrev aft (n : Aut) (a b x : Nat) : Nat := toM a b x 0 n.rl
section
variable {A : Aut}
abbrev xHu : List Nat → Bool := fun _ => false
theorem xSa (o : List Nat) (l r x : Nat) : o <+: xED A o l r x := by
  unfold xED
  split
  · exact List.prefix_rfl
  · exact List.prefix_append _ _
theorem xXs (o : List Nat) (l r x : Nat) : aft A (o.getD l 0) (o.getD r 0) x ∈ xED A o l r x := by
  show xPF A o l r x ∈ _
  unfold xED
  split
  · assumption
  · simp
theorem xE8 {o o' : List Nat} (h : o <+: o') {i : Nat} (hi : i < o.length) : o'.getD i 0 = o.getD i 0 := by
  obtain ⟨t, rfl⟩ := h
  simp only [List.getD_eq_getElem?_getD]
  rw [List.getElem?_append_left hi]
theorem xG4 {o o' : List Nat} (h : o <+: o') : o.length ≤ o'.length := h.length_le
theorem xOI {o o' : List Nat} (h : o <+: o') {a : Nat} (ha : a ∈ o) : a ∈ o' := h.subset ha

theorem xSb (l r x e : Nat) (o : List Nat) : goX xHu (xED A) l r x (e + 1) o = goX xHu (xED A) l r (x + 1) e (xED A o l r x) := rfl
theorem xJq (l r : Nat) : ∀ e x o, o <+: goX xHu (xED A) l r x e o
  | 0, _, o => List.prefix_rfl
  | e + 1, x, o => by rw [xSb]; exact (xSa o l r x).trans (xJq l r e (x + 1) _)
theorem xVc (l r : Nat) : ∀ e x o, l < o.length → r < o.length → ∀ y, x ≤ y → y < x + e → aft A (o.getD l 0) (o.getD r 0) y ∈ goX xHu (xED A) l r x e o
  | 0, x, o, _, _, y, h1, h2 => by omega
  | e + 1, x, o, hl, hr, y, h1, h2 => by
    rw [xSb]
    have hp := xSa (A := A) o l r x
    rcases Nat.eq_or_lt_of_le h1 with q | q
    · subst q
      exact xOI (xJq l r e (x + 1) _) (xXs o l r x)
    · have := xVc l r e (x + 1) (xED A o l r x) (by have := xG4 hp; omega) (by have := xG4 hp; omega) y q (by omega)
      rwa [xE8 hp hl, xE8 hp hr] at this

def DoneW (A : Aut) (o : List Nat) (i j : Nat) : Prop := ∀ x, x < two A.vars → aft A (o.getD i 0) (o.getD j 0) x ∈ o
theorem DoneW.pre {o o' : List Nat} {i j : Nat} (h : DoneW A o i j) (hp : o <+: o') (hi : i < o.length) (hj : j < o.length) : DoneW A o' i j := fun x hx => by
  rw [xE8 hp hi, xE8 hp hj]; exact xOI hp (h x hx)
theorem xSc {l r : Nat} {o : List Nat} (hl : l < o.length) (hr : r < o.length) : DoneW A (goX xHu (xED A) l r 0 (two A.vars) o) l r := fun x hx => by
  have hp := xJq (A := A) l r (two A.vars) 0 o
  rw [xE8 hp hl, xE8 hp hr]
  exact xVc l r _ 0 o hl hr x (Nat.zero_le _) (by omega)
theorem xZ1 (n j k : Nat) (o : List Nat) : goP xHu (xED A) n j k o = goX xHu (xED A) k j 0 n (goX xHu (xED A) j k 0 n o) := rfl
theorem xVd (n j k : Nat) (o : List Nat) : o <+: goP xHu (xED A) n j k o := by
  rw [xZ1]; exact (xJq j k n 0 o).trans (xJq k j n 0 _)
theorem xXt {j k : Nat} {o : List Nat} (hj : j < o.length) (hk : k < o.length) : DoneW A (goP xHu (xED A) (two A.vars) j k o) j k ∧ DoneW A (goP xHu (xED A) (two A.vars) j k o) k j := by
  rw [xZ1]
  have hp := xG4 (xJq (A := A) j k (two A.vars) 0 o)
  exact ⟨(xSc hj hk).pre (xJq k j _ 0 _) (by omega) (by omega), xSc (by omega) (by omega)⟩
theorem xSd (n k j e : Nat) (o : List Nat) : goJ xHu (xED A) n k j (e + 1) o = goJ xHu (xED A) n k (j + 1) e (goP xHu (xED A) n j k o) := rfl
theorem xMI (n k : Nat) : ∀ e j o, o <+: goJ xHu (xED A) n k j e o
  | 0, _, o => List.prefix_rfl
  | e + 1, j, o => by rw [xSd]; exact (xVd n j k o).trans (xMI n k e (j + 1) _)
theorem xNt {k : Nat} : ∀ e j o, j + e = k + 1 → k < o.length → ∀ i, j ≤ i → i ≤ k → DoneW A (goJ xHu (xED A) (two A.vars) k j e o) i k ∧ DoneW A (goJ xHu (xED A) (two A.vars) k j e o) k i
  | 0, j, o, h, hk, i, h1, h2 => by omega
  | e + 1, j, o, h, hk, i, h1, h2 => by
    rw [xSd]
    have hp := xG4 (xVd (A := A) (two A.vars) j k o)
    rcases Nat.eq_or_lt_of_le h1 with q | q
    · subst q
      obtain ⟨d1, d2⟩ := xXt (A := A) (show j < o.length by omega) hk
      exact ⟨d1.pre (xMI _ k e (j + 1) _) (by omega) (by omega), d2.pre (xMI _ k e (j + 1) _) (by omega) (by omega)⟩
    · exact xNt e (j + 1) _ (by omega) (by omega) i q h2
theorem xVe (n : Nat) : ∀ e k o, o <+: goK List.length xHu (xED A) n k e o
  | 0, _, o => List.prefix_rfl
  | e + 1, k, o => by
    unfold goK
    split
    · exact (xMI n k (k + 1) 0 o).trans (xVe n e (k + 1) _)
    · exact List.prefix_rfl
theorem xSe {N : Nat} : ∀ e k o, k + e = N → (goK List.length xHu (xED A) (two A.vars) k e o).length ≤ N → (∀ i j, i < k → j < k → i < o.length → j < o.length → DoneW A o i j) →
    ∀ i j, i < (goK List.length xHu (xED A) (two A.vars) k e o).length → j < (goK List.length xHu (xED A) (two A.vars) k e o).length → DoneW A (goK List.length xHu (xED A) (two A.vars) k e o) i j
  | 0, k, o, h, hN, hd, i, j, hi, hj => by
    have hN' : o.length ≤ N := hN
    have hi' : i < o.length := hi
    have hj' : j < o.length := hj
    exact hd i j (by omega) (by omega) hi' hj'
  | e + 1, k, o, h, hN, hd, i, j, hi, hj => by
    by_cases c : k < o.length
    · have he : goK List.length xHu (xED A) (two A.vars) k (e + 1) o = goK List.length xHu (xED A) (two A.vars) (k + 1) e (goJ xHu (xED A) (two A.vars) k 0 (k + 1) o) := by
        show (if k < o.length then _ else _) = _
        rw [if_pos c]; rfl
      rw [he] at hN hi hj ⊢
      have hp := xMI (A := A) (two A.vars) k (k + 1) 0 o
      refine xSe e (k + 1) _ (by omega) hN (fun i j hi hj hi' hj' => ?_) i j hi hj
      by_cases ci : i = k
      · subst ci
        exact (xNt (i + 1) 0 o (by omega) c j (Nat.zero_le _) (by omega)).2
      · by_cases cj : j = k
        · subst cj
          exact (xNt (j + 1) 0 o (by omega) c i (Nat.zero_le _) (by omega)).1
        · exact (hd i j (by omega) (by omega) (by omega) (by omega)).pre hp (by omega) (by omega)
    · have he : goK List.length xHu (xED A) (two A.vars) k (e + 1) o = o := by
        show (if k < o.length then _ else _) = _
        rw [if_neg c]
      rw [he] at hi hj ⊢
      exact hd i j (by omega) (by omega) hi hj
end
section
variable {A : Aut} {P : List Nat → Prop}
end


section
variable {σ : Type} {size : σ → Nat} {bad : σ → Bool} {stp : σ → Nat → Nat → Nat → σ}
abbrev xVf : σ → Bool := fun _ => false
theorem xSf (l r : Nat) : ∀ e x s, bad (goX bad stp l r x e s) = false → goX bad stp l r x e s = goX xVf stp l r x e s
  | 0, _, _, _ => rfl
  | e + 1, x, s, h => by
    unfold goX at h ⊢
    simp only [xVf, Bool.false_eq_true, if_false]
    split
    · rename_i c
      rw [if_pos c] at h
      rw [c] at h; cases h
    · rename_i c
      rw [if_neg c] at h
      exact xSf l r e (x + 1) _ h
theorem xZ2 (m j k : Nat) (s : σ) (h : bad (goP bad stp m j k s) = false) : goP bad stp m j k s = goP xVf stp m j k s := by
  unfold goP at h ⊢
  simp only [xVf, Bool.false_eq_true, if_false]
  split
  · rename_i c
    rw [if_pos c] at h
    rw [c] at h; cases h
  · rename_i c
    rw [if_neg c] at h
    rw [xSf k j m 0 _ h, xSf j k m 0 s (by simpa using c)]
theorem xVg (m k : Nat) : ∀ e j s, bad (goJ bad stp m k j e s) = false → goJ bad stp m k j e s = goJ xVf stp m k j e s
  | 0, _, _, _ => rfl
  | e + 1, j, s, h => by
    unfold goJ at h ⊢
    simp only [xVf, Bool.false_eq_true, if_false]
    split
    · rename_i c
      rw [if_pos c] at h
      rw [c] at h; cases h
    · rename_i c
      rw [if_neg c] at h
      rw [xVg m k e (j + 1) _ h, xZ2 m j k s (by simpa using c)]
theorem xVh (m : Nat) : ∀ e k s, bad (goK size bad stp m k e s) = false → goK size bad stp m k e s = goK size xVf stp m k e s
  | 0, _, _, _ => rfl
  | e + 1, k, s, h => by
    unfold goK at h ⊢
    simp only [xVf, Bool.false_eq_true, if_false]
    by_cases c0 : k < size s
    · rw [if_pos c0] at h ⊢
      rw [if_pos c0]
      split
      · rename_i c
        rw [if_pos c] at h
        rw [c] at h; cases h
      · rename_i c
        rw [if_neg c] at h
        rw [xVh m e (k + 1) _ h, xVg m k (k + 1) 0 s (by simpa using c)]
    · rw [if_neg c0, if_neg c0]
end

theorem xOJ {n : Aut} {bu : Nat} (h : (xDq n bu).length ≤ bu) : xDq n bu = goK List.length xHu (xED n) (two n.vars) 0 bu [xDi 0 n.st] :=
  xVh (size := List.length) (bad := fun o => decide (bu < o.length)) (stp := xED n) _ _ _ _ (by
    show decide (bu < (xDq n bu).length) = false
    simp [h])
theorem xJr {n : Aut} {bu : Nat} (h : (xDq n bu).length ≤ bu) {i j x : Nat} (hi : i < (xDq n bu).length) (hj : j < (xDq n bu).length) (hx : x < two n.vars) : aft n ((xDq n bu).getD i 0) ((xDq n bu).getD j 0) x ∈ xDq n bu := by
  have e := xOJ h
  rw [e] at h hi hj ⊢
  exact xSe (N := bu) bu 0 [xDi 0 n.st] (by omega) h (fun i j h => by omega) i j hi hj x hx
theorem xOK {n : Aut} {bu : Nat} (h : (xDq n bu).length ≤ bu) : [xDi 0 n.st] <+: xDq n bu := by
  rw [xOJ h]; exact xVe _ _ 0 _
theorem xG5 {n : Aut} {bu : Nat} (h : (xDq n bu).length ≤ bu) : 0 < (xDq n bu).length := by have := xG4 (xOK h); simp at this; omega
theorem xSg {n : Aut} {bu : Nat} (h : (xDq n bu).length ≤ bu) : (xDq n bu).getD 0 0 = xDi 0 n.st := by
  have := xE8 (xOK h) (i := 0) (by simp)
  simpa using this
end Go.Abs.Det

/- Determinize: the whole. -/
namespace Go.Abs.Det
open Go Go.Abs
set_option linter.unusedSimpArgs false
set_option linter.unusedVariables false

def xML (w : Nat) : AV := .sl ((lsW w 64).length == 0) (lsW w 64).length (xCK (lsW w 64))
def xYb (n : Aut) (o : List Nat) (l r x : Nat) : Int := (xYa o (aft n (o.getD l 0) (o.getD r 0) x) : Nat)
def xHO (n : Aut) (o : List Nat) : Da := ⟨n.vars, 0, xFj n.vars (xYb n o) o.length o.length, xJn (xXr n o) o.length⟩
def xT9 (o : List Nat) : AV := .sl false o.length (o.map xML)
theorem xUa (l : List Nat) : (l.map xML).all xCA = true := by simp [xML, xCA]

set_option maxHeartbeats 1000000 in
theorem xSh {o : List Nat} {lb B : Nat} {s2 s4 s8 s9 s10 : AV} (ho : ∀ w ∈ o, w < 18446744073709551616) (hol : o.length ≤ 65) : ∀ d i v G, i + d = o.length → G[lb]? = some (.cells false false (w64 o)) → lb < B → B ≤ G.length → Lst B G v ((o.take i).map xML) →
    ∃ v' G', L.loop xK2 xSs ⟨xK3 s2 s4 v s8 s9 s10 (.own false lb 0 o.length 1) (.int .i64 (o.length : Nat)) (.int .i64 (i : Nat)), G⟩ = some (.exit 0, ⟨xK3 s2 s4 v' s8 s9 s10 (.own false lb 0 o.length 1) (.int .i64 (o.length : Nat)) (.int .i64 (o.length : Nat)), G'⟩) ∧
      Lst B G' v' (o.map xML) ∧ Kp B G G' := by
  intro d
  induction d with
  | zero =>
    intro i v G h hlb hB hG hv
    obtain rfl : i = o.length := by omega
    rw [List.take_length] at hv
    refine ⟨v, G, ?_, hv, Kp.refl _ _⟩
    rw [xUl]
    simp (maxSteps := 30000000) (disch := first | assumption | omega | (simp only [List.length_cons, List.length_nil, List.length_append, List.length_set, List.length_replicate, List.length_map, List.length_range, List.length_take, List.length_drop, List.all_cons, List.all_nil, AV.isCell, Bool.and_self, Bool.and_true, xAh, xAb, xAe, xAa, List.length_map, xAB] <;> omega) | rfl | decide) only [xNC, xAo, xAf, xAc, xAk, xAH, opv, List.getD_cons_succ, List.getD_cons_zero, xAL, Int.lt_irrefl, decide_false, xAl, xAp, List.set_cons_succ, List.set_cons_zero, xAi, xAg, xAj, xAd, xAq, xAn, Bool.false_eq_true, ↓reduceIte, xBy, xBh, xA9, xPO]
  | succ d ih =>
    intro i v G h hlb hB hG hv
    have hlt : (i : Int) < (o.length : Nat) := by omega
    have hi : i < o.length := by omega
    have g1 : List.take 1 (List.drop i (w64 o)) = [.int .u64 (o.getD i 0 : Nat)] := xDd _ _ hi
    have hl := xZU (ho _ (xCy (a := (0 : Nat)) hi))
    have htl : (o.take i).length = i := by rw [List.length_take]; omega
    obtain ⟨v1, G1, p1, p2, p3⟩ := hv.push (xML (o.getD i 0)) (bytes := 24) (by rw [List.length_map, htl]; omega) (by rw [List.length_map, htl]; omega) hG
    have e2 : (o.take i).map xML ++ [xML (o.getD i 0)] = (o.take (i + 1)).map xML := by
      rw [List.take_add_one, List.map_append, List.getD_eq_getElem?_getD, List.getElem?_eq_getElem hi]; rfl
    rw [e2] at p2
    obtain ⟨v', G', q1, q2, q3⟩ := ih (i + 1) v1 G1 (by omega) (p3.get hB hlb) hB (by have := p3.1; omega) p2
    refine ⟨v', G', ?_, q2, p3.trans q3⟩
    unfold xML at p1
    generalize o.getD i 0 = w at *
    rw [xUl]
    simp (maxSteps := 30000000) (disch := first | assumption | omega | (simp only [List.length_cons, List.length_nil, List.length_append, List.length_set, List.length_replicate, List.length_map, List.length_range, List.length_take, List.length_drop, List.all_cons, List.all_nil, AV.isCell, Bool.and_self, Bool.and_true, xAh, xAb, xAe, xAa, List.length_map, xAB] <;> omega) | rfl | decide) only [xNC, xAo, xAf, xAc, xAk, xAH, opv, List.getD_cons_succ, List.getD_cons_zero, xAL, hlt, decide_true, xAl, xAp, List.set_cons_succ, List.set_cons_zero, xAi, xAg, xAj, xAd, xAq, xAn, ↓reduceIte, xAG, xAs, xA4, xBV, Int.toNat_natCast, Nat.mul_one, Nat.zero_add, xAP, xA5, hlb, xAz, g1, xAV, xAE, xBi, List.map_cons, List.map_nil, xAZ, xBI, List.mapM_cons, xAW, List.mapM_nil, Option.pure_def, Option.bind_eq_bind, Option.bind_some, xAY, hl, xAX, xCZ, xBU, Bool.false_eq_true, xCz, List.flatMap_cons, xBR, List.flatMap_nil, List.append_nil, List.foldl_nil, xCc, AV.cells, List.all_cons, List.length_cons, List.length_nil, beq_self_eq_true, List.all_nil, Bool.and_self, xDM, xCp, Nat.le_refl, AV.isCell, and_self, xBd, List.take_zero, List.nil_append, List.drop_succ_cons, List.drop_nil, xCb, xCn, xDk, List.isEmpty_nil, xBE, xB5, xB1, xDx, p1, xAu, xBq, xCE, xDf, xAM, xPO, q1]

abbrev zD : AV := .agg [.int .i64 0, .int .i64 0, .sl true 0 [], .sl true 0 []]

theorem DetI.keep {n : Aut} {bu : Nat} {o : List Nat} {lb : Nat} {G G' : xAA} (h : DetI n bu o lb G) (hk : ∀ b, b < G.length → G'[b]? = G[b]?) : DetI n bu o lb G' := by
  have l1 := (List.getElem?_eq_some_iff.1 h.bl).1
  have l2 := (List.getElem?_eq_some_iff.1 h.b8).1
  exact ⟨h.nd, h.bd, (hk 0 (by omega)).trans h.b0, (hk 1 (by omega)).trans h.b1, (hk 2 (by omega)).trans h.b2, (hk 5 (by omega)).trans h.b5, (hk 6 (by omega)).trans h.b6, (hk 7 (by omega)).trans h.b7, (hk 8 (by omega)).trans h.b8, (hk 4 (by omega)).trans h.b4, (hk lb l1).trans h.bl, h.lo⟩

theorem xJs {n : Aut} (hT : TyA n) (hV : Valid n) {bu : Nat} (h1 : 1 ≤ bu) (h64 : bu ≤ 64) :
    ∃ G lb, L.icall (.func 75 []) [.int .i64 n.vars, .func 76 [.ptr 7 0, .ptr 6 0, .ptr 4 0, .ptr 1 0, .ptr 8 0]]
      [.cells false false n.cells, .cells false false [.int .i64 (bu : Nat)], .cells false false [.int .i64 0, .int .i64 0, .sl true 0 [], .sl true 0 []], .cells false false [.int .u64 (xDi 0 n.st : Nat)], .cells false false [.own false 3 0 1 1], .mp [(.int .u64 (xDi 0 n.st : Nat), .int .i64 0)], .cells false false [.mp 5], .cells false false [.func 74 [.ptr 0 0, .ptr 4 0]], .cells false false [.bool false]] = some (.tup [], G) ∧
      DetI n bu (xDq n bu) lb G := by
  have hb := hV.ok hT
  have hI0 : DetI n bu [xDi 0 n.st] 3 [.cells false false n.cells, .cells false false [.int .i64 (bu : Nat)], .cells false false [.int .i64 0, .int .i64 0, .sl true 0 [], .sl true 0 []], .cells false false [.int .u64 (xDi 0 n.st : Nat)], .cells false false [.own false 3 0 1 1], .mp [(.int .u64 (xDi 0 n.st : Nat), .int .i64 0)], .cells false false [.mp 5], .cells false false [.func 74 [.ptr 0 0, .ptr 4 0]], .cells false false [.bool false]] :=
    ⟨by simp, fun w hw => by rw [List.mem_singleton] at hw; rw [hw]; exact xFZ _ _ (by omega) hV.sts, rfl, rfl, rfl, rfl, rfl, rfl, by simp [show ¬ bu < 1 by omega], rfl, rfl, .inl rfl⟩
  obtain ⟨G, lb, e1, e2⟩ := xR1 (xXq hV hb h64) hI0 (by simp; omega) rfl
  exact ⟨G, lb, e1, e2⟩

section
variable {n : Aut}
theorem xSi (hT : TyA n) (bu : Int) (h : xMK n ≠ 0) : L.pcall 37 [n.av, .int .i64 bu] = some (.tup [zD, .sl true 0 [], .int .i64 (xMK n)]) := by
  have h1 := xFY n hT.st hT.fi hT.rl hT.u8
  rw [yA8, a37, xAT]
  simp (maxSteps := 30000000) (disch := first | assumption | omega | (simp only [List.length_cons, List.length_nil, List.length_append, List.length_set, List.length_replicate, List.length_map, List.length_range, List.length_take, List.length_drop, List.all_cons, List.all_nil, AV.isCell, Bool.and_self, Bool.and_true, xAh, xAb, xAe, xAa, List.length_map, xAB] <;> omega) | rfl | decide) only [xAI, List.length_cons, List.length_nil, Nat.zero_add, Nat.reduceAdd, Nat.reduceSub, xB8, List.cons_append, List.nil_append, xAo, xAf, xAc, xAk, xBn, AV.cells, opv, List.getD_cons_zero, List.all_cons, AV.isCell, List.all_nil, Bool.and_self, ↓reduceIte, xAp, List.set_cons_succ, List.set_cons_zero, xAi, List.getD_cons_succ, xAE, xAg, xAj, xAd, xAP, xA5, List.getElem?_cons_zero, xAz, List.drop_zero, List.take_succ_cons, List.take_nil, xBs, xAl, xBi, List.map_cons, List.map_nil, xAZ, xBI, List.mapM_cons, xBQ, xAW, xBE, List.mapM_nil, Option.pure_def, Option.bind_eq_bind, Option.bind_some, Option.map_some, xAY, h1, xAX, xCZ, xBU, xAH, xA8, h, decide_false, Bool.not_false, xAq, xAn, xCB, xCp, xBb, xBH, List.getElem?_cons_succ, xA3, xBd, List.take_zero, List.drop_succ_cons, List.drop_nil, List.append_nil, xAR, xBl, xAO, xBa, xAx, xCH, xCG, xFP, xD3, xJt, xCF, xAU, xC5, xAr, xAt, xDS]
set_option maxRecDepth 10000 in
set_option maxHeartbeats 2000000 in
theorem xPA (hT : TyA n) (hc : xMK n = 0) {bu : Nat} (h1 : 1 ≤ bu) (h64 : bu ≤ 64) (ho : bu < (xDq n bu).length) : L.pcall 37 [n.av, .int .i64 (bu : Nat)] = some (.tup [zD, .sl true 0 [], .int .i64 10]) := by
  have hk := xFY n hT.st hT.fi hT.rl hT.u8
  rw [hc] at hk
  have hV := chkE_zero.1 hc
  obtain ⟨G, lb, e1, e2⟩ := xJs hT hV h1 h64
  have hw := xVb n.z1 n.st hT.st hV.sts
  have b8 := e2.b8
  have b2 := e2.b2
  have l2 := (List.getElem?_eq_some_iff.1 b2).1
  rw [decide_eq_true ho] at b8
  have c1 : ¬ ((bu : Nat) : Int) < 1 := by omega
  have c2 : ¬ (64 : Int) < (bu : Nat) := by omega
  have hu0 : ∀ a b : AV, xPD a b [] = some [(a, b)] := fun _ _ => rfl
  have sl := fun Z : Blk => (List.getElem?_set_self (l := G) (a := Z) l2)
  rw [yA8, a37, xAT]
  simp (maxSteps := 30000000) (disch := first | assumption | omega | (simp only [List.length_cons, List.length_nil, List.length_append, List.length_set, List.length_replicate, List.length_map, List.length_range, List.length_take, List.length_drop, List.all_cons, List.all_nil, AV.isCell, Bool.and_self, Bool.and_true, xAh, xAb, xAe, xAa, List.length_map, xAB] <;> omega) | rfl | decide) only [xAI, List.length_cons, List.length_nil, Nat.zero_add, Nat.reduceAdd, Nat.reduceSub, xB8, List.cons_append, List.nil_append, xAo, xAf, xAc, xAk, xBn, AV.cells, opv, List.getD_cons_zero, List.all_cons, AV.isCell, List.all_nil, Bool.and_self, ↓reduceIte, xAp, List.set_cons_succ, List.set_cons_zero, xAi, List.getD_cons_succ, xAE, xAg, xAj, xAd, xAP, xA5, List.getElem?_cons_zero, xAz, List.drop_zero, List.take_succ_cons, List.take_nil, xBs, xAl, xBi, List.map_cons, List.map_nil, xAZ, xBI, List.mapM_cons, xBQ, xAW, xBE, List.mapM_nil, Option.pure_def, Option.bind_eq_bind, Option.bind_some, Option.map_some, xAY, hk, xAX, xCZ, xBU, xAH, xA8, decide_true, Bool.not_true, xAq, xAn, Bool.false_eq_true, xAG, List.getElem?_cons_succ, xAV, xAL, c1, decide_false, xAJ, xAD, xBP, c2, xA7, xAK, xA1, xAQ, List.drop_succ_cons, List.take_zero, hw, xCc, beq_self_eq_true, xDM, List.append_nil, Nat.mul_one, xCp, Nat.le_refl, and_self, xBd, List.drop_nil, xCb, xCO, xBb, xBH, xA3, xAR, xBl, xOD, xA4, xBV, Int.toNat_zero, Nat.add_zero, xKV, xD7, xKU, xEm, xFK, hu0, xG3, xEc, xBY, e1, b8, xCB, b2, xAO, xBa, xAx, xCH, xCG, xFP, sl, xD3, xJt, xCF, xAU, xC5, xAr, xAt, xDS]

set_option maxRecDepth 10000 in
set_option maxHeartbeats 4000000 in
theorem xUb (hT : TyA n) (hc : xMK n = 0) {bu : Nat} (h1 : 1 ≤ bu) (h64 : bu ≤ 64) (ho : (xDq n bu).length ≤ bu) : L.pcall 37 [n.av, .int .i64 (bu : Nat)] = some (.tup [(xHO n (xDq n bu)).av, xT9 (xDq n bu), .int .i64 0]) := by
  have hk := xFY n hT.st hT.fi hT.rl hT.u8
  rw [hc] at hk
  have hV := chkE_zero.1 hc
  obtain ⟨G1, lb, e1, e2⟩ := xJs hT hV h1 h64
  have hw := xVb n.z1 n.st hT.st hV.sts
  have hdone := fun (i j x : Nat) => xJr (n := n) (bu := bu) ho (i := i) (j := j) (x := x)
  have hpos := xG5 ho
  generalize xDq n bu = o at *
  have hrl := hV.rl
  have hb := hV.ok hT
  have h3l := (List.getElem?_eq_some_iff.1 e2.bl).1
  have h8l := (List.getElem?_eq_some_iff.1 e2.b8).1
  obtain ⟨vs, G2, q1, q2, q3⟩ := xSh (s2 := .ptr 0 0) (s4 := .ptr 2 0) (s8 := .ptr 4 0) (s9 := .ptr 6 0) (s10 := .ptr 7 0) (B := G1.length) e2.bd (by omega) o.length 0 (.sl true 0 []) G1 (by omega) e2.bl h3l (Nat.le_refl _) (.nil _ _)
  have hI2 : DetI n bu o lb G2 := e2.keep q3.2
  have hR : Rd n.vars o.length G2.length (.func 78 [.ptr 6 0, .ptr 7 0]) (.func 79 [.ptr 0 0, .ptr 4 0]) (xYb n o) (xXr n o) (fun G => DetI n bu o lb G) :=
    ⟨hV.v0, hV.v3, hpos, by omega, fun G G' hJ hb => by
      have l5 := (List.getElem?_eq_some_iff.1 hI2.bl).1
      have l8 := (List.getElem?_eq_some_iff.1 hI2.b8).1
      exact ⟨hJ.nd, hJ.bd, (hb 0 (by omega)).trans hJ.b0, (hb 1 (by omega)).trans hJ.b1, (hb 2 (by omega)).trans hJ.b2, (hb 5 (by omega)).trans hJ.b5, (hb 6 (by omega)).trans hJ.b6, (hb 7 (by omega)).trans hJ.b7, (hb 8 (by omega)).trans hJ.b8, (hb 4 (by omega)).trans hJ.b4, (hb lb l5).trans hJ.bl, hJ.lo⟩,
     fun G l r x hJ hl hr hx => xZX (by omega) hb (by omega) hJ hl hr (by have := (xFf hV.v3).1; omega) (hdone l r x hl hr hx),
     fun G l hJ hl => xZ0 hT.fi hV.fis hJ hl⟩
  obtain ⟨G3, i, k, f1, f2, f3, f4, f5⟩ := xXj hR hI2
  have k0 := q3.1
  have b2 := (f4 2 (by omega)).trans hI2.b2
  have hGl : 2 < G3.length := by omega
  have same : ∀ (Z : Blk) b, b ≠ 2 → (G3.set 2 Z)[b]? = G3[b]? := fun Z b hb => List.getElem?_set_ne (Ne.symm hb)
  have g3 := fun Z => f2.frame (G' := G3.set 2 Z) (by simp) fun d hd b hb => same Z b (by have := (f2 d hd).2 b hb; omega)
  have g1 := fun Z => f3.frame (G' := G3.set 2 Z) (by simp) fun d hd b hb => same Z b (by have := (f3 d hd).2 b hb; omega)
  have qs : ∀ Z : Blk, Lst G1.length (G3.set 2 Z) vs (o.map xML) := fun Z => (q2.other fun b hb => by
    have := q2.inb hb
    rw [same Z b (by omega)]
    exact f4 b (by omega))
  have sl := fun Z : Blk => (List.getElem?_set_self (l := G3) (a := Z) hGl)
  have sl2 := fun Z Y : Blk => (List.set_set (l := G3) (i := 2) (a := Z) (b := Y))
  have b8 := e2.b8
  rw [decide_eq_false (show ¬ bu < o.length by omega)] at b8
  have b4 := e2.b4
  have b4' := hI2.b4
  have b0' := hI2.b0
  have c1 : ¬ ((bu : Nat) : Int) < 1 := by omega
  have c2 : ¬ (64 : Int) < (bu : Nat) := by omega
  have hu0 : ∀ a b : AV, xPD a b [] = some [(a, b)] := fun _ _ => rfl
  simp only [Int.natCast_zero] at q1
  have hb : xBD L a37 [n.av, .int .i64 (bu : Nat)] [] =
      some (.tup [.agg [.int .i64 n.vars, .int .i64 0, .own false i 0 o.length 1, .own false k 0 o.length 1], vs, .int .i64 0], G3.set 2 (.cells false false [.int .i64 n.vars, .int .i64 0, .own false i 0 o.length 1, .own false k 0 o.length 1])) := by
    rw [a37]
    simp (maxSteps := 30000000) (disch := first | assumption | omega | (simp only [List.length_cons, List.length_nil, List.length_append, List.length_set, List.length_replicate, List.length_map, List.length_range, List.length_take, List.length_drop, List.all_cons, List.all_nil, AV.isCell, Bool.and_self, Bool.and_true, xAh, xAb, xAe, xAa, List.length_map, xAB] <;> omega) | rfl | decide) only [xAI, List.length_cons, List.length_nil, Nat.zero_add, Nat.reduceAdd, Nat.reduceSub, xB8, List.cons_append, List.nil_append, xAo, xAf, xAc, xAk, xBn, AV.cells, opv, List.getD_cons_zero, List.all_cons, AV.isCell, List.all_nil, Bool.and_self, ↓reduceIte, xAp, List.set_cons_succ, List.set_cons_zero, xAi, List.getD_cons_succ, xAE, xAg, xAj, xAd, xAP, xA5, List.getElem?_cons_zero, xAz, List.drop_zero, List.take_succ_cons, List.take_nil, xBs, xAl, xBi, List.map_cons, List.map_nil, xAZ, xBI, List.mapM_cons, xBQ, xAW, xBE, List.mapM_nil, Option.pure_def, Option.bind_eq_bind, Option.bind_some, Option.map_some, xAY, hk, xAX, xCZ, xBU, xAH, xA8, decide_true, Bool.not_true, xAq, xAn, Bool.false_eq_true, xAG, List.getElem?_cons_succ, xAV, xAL, c1, decide_false, xAJ, xAD, xBP, c2, xA7, xAK, xA1, xAQ, List.drop_succ_cons, List.take_zero, hw, xCc, beq_self_eq_true, xDM, List.append_nil, Nat.mul_one, xCp, Nat.le_refl, and_self, xBd, List.drop_nil, xCb, xCO, xBb, xBH, xA3, xAR, xBl, xOD, xA4, xBV, Int.toNat_zero, Nat.add_zero, xKV, xD7, xKU, xEm, xFK, hu0, xG3, xEc, xBY, e1, b8, b4, xBr, xDK, xAs, xBe, xPO, q1, xA0, b0', b4', f1, b2, sl, sl2, xAO, xAx, xCH, xCG, xFP, xD3, xJt, xCF, xAU, xC5, xAr]
  unfold xHO xT9
  unfold Da.av Da.cells
  simp only [xCr, xG0]
  rw [yA8]
  refine xTG hb ?_
  have hz : ((o.map xML).length == 0) = false := by rw [List.length_map, beq_eq_false_iff_ne]; omega
  have hs := fun Z => (qs Z).dat (xUa _) 4
  rw [hz, List.length_map] at hs
  show ((([AV.agg [.int .i64 n.vars, .int .i64 0, .own false i 0 o.length 1, .own false k 0 o.length 1], vs, AV.int .i64 0]).mapM (frz 5 _)).map AV.tup) = _
  simp only [List.mapM_cons, List.mapM_nil, xAW, xBQ, (g3 _ 4 (by omega)).1, (g1 _ 4 (by omega)).1, hs, Option.pure_def, Option.bind_eq_bind, Option.bind_some, Option.map_some]
end
end Go.Abs.Det

/- Plain law: the state of a tree in the determinized automaton is its set. -/
namespace Go.Abs.Det
open Go Go.Abs
set_option linter.unusedSimpArgs false
set_option linter.unusedVariables false

section
variable {n : Aut} {bu : Nat}
theorem xPB (hV : Valid n) (h64 : bu ≤ 64) (ho : (xDq n bu).length ≤ bu) : Va (xHO n (xDq n bu)) := by
  have hp := xG5 ho
  have hd := fun (i j x : Nat) => xJr (n := n) (bu := bu) ho (i := i) (j := j) (x := x)
  refine xNq hV.v0 hV.v3 hp (by omega) (Int.le_refl _) (by omega) fun i j x hi hj hx => ?_
  have := (xOH (hd i j x hi hj hx)).1
  unfold xYb
  omega
theorem xUc (n : Aut) (o : List Nat) : (xHO n o).next.length = o.length := xCr ..
theorem xOL (ho : (xDq n bu).length ≤ bu) : ∀ T : BT, T.labs (· < two n.vars) → 0 ≤ stB (xHO n (xDq n bu)) T ∧ (stB (xHO n (xDq n bu)) T).toNat < (xDq n bu).length ∧ (xDq n bu).getD (stB (xHO n (xDq n bu)) T).toNat 0 = evA n T
  | .nil, _ => ⟨Int.le_refl _, xG5 ho, xSg ho⟩
  | .node x l r, h => by
    obtain ⟨a1, a2, a3⟩ := xOL ho l h.2.1
    obtain ⟨b1, b2, b3⟩ := xOL ho r h.2.2
    obtain ⟨k1, k2⟩ := xOH (xJr ho a2 b2 h.1)
    have e1 : stB (xHO n (xDq n bu)) (.node x l r) = nx (xHO n (xDq n bu)) (stB (xHO n (xDq n bu)) l) (stB (xHO n (xDq n bu)) r) x := rfl
    have e2 := xT3 (v := n.vars) (e := 0) (nxt := xYb n (xDq n bu)) (fi := xJn (xXr n (xDq n bu)) (xDq n bu).length) a2 b2 h.1
    rw [Int.toNat_of_nonneg a1, Int.toNat_of_nonneg b1] at e2
    have e3 : stB (xHO n (xDq n bu)) (.node x l r) = xYb n (xDq n bu) (stB (xHO n (xDq n bu)) l).toNat (stB (xHO n (xDq n bu)) r).toNat x := e1.trans e2
    rw [e3]
    unfold xYb
    refine ⟨by omega, by rw [Int.toNat_natCast]; exact k1, ?_⟩
    rw [Int.toNat_natCast, k2, a3, b3]
    rfl
theorem xXu (ho : (xDq n bu).length ≤ bu) {T : BT} (h : T.labs (· < two n.vars)) : (xHO n (xDq n bu)).fin.getD (stB (xHO n (xDq n bu)) T).toNat false = n.fi.any fun f => (evA n T).testBit f.toNat := by
  obtain ⟨a1, a2, a3⟩ := xOL ho T h
  show (xJn (xXr n (xDq n bu)) _).getD _ false = _
  unfold xJn
  rw [xH4 a2]
  unfold xXr
  rw [a3]
end
theorem xXv (w : Nat) (j : Nat) : (lsW w 64).contains (j : Int) = (decide (j < 64) && w.testBit j) := by
  rw [Bool.eq_iff_iff, List.contains_iff_mem]
  unfold lsW
  simp only [List.mem_map, List.mem_filter, List.mem_range, Bool.and_eq_true, decide_eq_true_eq]
  constructor
  · rintro ⟨s, ⟨h1, h2⟩, h3⟩
    have : s = j := by omega
    subst this
    exact ⟨h1, h2⟩
  · rintro ⟨h1, h2⟩
    exact ⟨j, ⟨h1, h2⟩, rfl⟩
theorem xZ3 (w : Nat) : ∀ q ∈ lsW w 64, 0 ≤ q ∧ q < 64 := fun q hq => by
  unfold lsW at hq
  simp only [List.mem_map, List.mem_filter, List.mem_range] at hq
  obtain ⟨s, ⟨h1, _⟩, rfl⟩ := hq
  omega
end Go.Abs.Det
