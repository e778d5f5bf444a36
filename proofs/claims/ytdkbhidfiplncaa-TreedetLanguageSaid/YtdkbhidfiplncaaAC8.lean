/- TreedetLanguage on the interpreter's values. -/
import Derived.Test.YtdkbhidfiplncaaAMC
import Derived.Test.YtdkbhidfiplncaaAMR
import Derived.Test.YtdkbhidfiplncaaAMB
import Derived.Test.YtdkbhidfiplncaaAB14
import Derived.Test.YtdkbhidfiplncaaAK1
namespace Go.Abs.Det
open Go Go.Abs
set_option linter.unusedSimpArgs false
set_option linter.unusedVariables false

theorem xZk {n : Aut} (hb : ∀ e ∈ n.rl, e.p < 256 ∧ e.n < 256) : TyA (cpA (smA n)) :=
  ⟨by simp; omega, by simp; omega, by simp; omega, fun e he => hb e (List.mem_of_mem_take he)⟩

set_option maxRecDepth 20000 in
set_option maxHeartbeats 4000000 in
theorem yBY (n : Aut) (hb : ∀ e ∈ n.rl, e.p < 256 ∧ e.n < 256) (z : Bool) (t : List Lf) (hx : ∀ e ∈ t, e.x < 256) : L.pcall 11 [n.av, tw z t] = some (.bool true) := by
  have hkk := k15
  have hsm := xXg n
  have hT := xZk hb
  have e1 : min ((t.length : Nat) : Int) 15 = ((t.take 15).length : Nat) := by rw [List.length_take]; omega
  have l1 : (t.take 15).length ≤ t.length := by rw [List.length_take]; omega
  have k1 : List.take ((t.take 15).length * 3) (lfs t) = lfs (t.take 15) := by
    unfold lfs
    rw [xJd (enc := xNj) (k := 3) (fun _ => rfl), xHZ]
  have c1 := xZE z (t.take 15) (by rw [List.length_take]; omega)
  have hx1 : ∀ e ∈ t.take 15, e.x < 256 := fun e he => hx e (List.mem_of_mem_take he)
  have m1 : (t.take 15).length ≤ 15 := by rw [List.length_take]; omega
  generalize t.take 15 = a at *
  generalize (a.length == 0) = y1 at *
  generalize cpA (smA n) = A at *
  have hck := xFY A hT.st hT.fi hT.rl hT.u8
  by_cases hc : xMK A = 0
  · by_cases ho : (xDq A 64).length ≤ 64
    · have hd := xUb hT hc (bu := 64) (by omega) (by omega) ho
      rw [show ((64 : Nat) : Int) = 64 from rfl] at hd
      have hVA := chkE_zero.1 hc
      have hV := xPB hVA (bu := 64) (by omega) ho
      have hk := xOu _ hV
      obtain ⟨zz, ls, b, s1, s2, s3, s4⟩ := xZP A y1 a hT (by omega) hx1
      have hbe : xHs A a = xE4 a A.vars.toNat := by unfold xHs; rw [if_pos hc]
      rw [hbe] at s1 s2 s3 s4
      have hln := xUc A (xDq A 64)
      by_cases he : xE4 a A.vars.toNat = 0
      · obtain ⟨T, rfl, q2, q3⟩ := (xJa hVA.v0).1 he
        obtain ⟨hh, hbb⟩ := s4 he T (xKb q2)
        have r1 := xTJ hV y1 q2 q3
        have r2 := xMC hV y1 q2 q3
        obtain ⟨a1, a2, a3⟩ := xOL ho T q3
        have hacc := xXu ho q3
        have hsz := xCg T 0
        have hroot := xTI (xHO A (xDq A 64)) (T := T)
        have hnil : T.size = 0 → stB (xHO A (xDq A 64)) T = 0 := fun h => by
          cases T with
          | nil => rfl
          | node x l r => simp [BT.size] at h
        have hsl := xFH (xHO A (xDq A 64)) T
        have hEm : (xHO A (xDq A 64)).empty = 0 := rfl
        generalize stL (xHO A (xDq A 64)) T = SL at *
        generalize hS : stB (xHO A (xDq A 64)) T = S at *
        obtain ⟨z5, l5, o1, o2⟩ := xZL (z := ((lsW (evA A T) 64).length == 0)) (l := lsW (evA A T) 64) (by have := xR7 (evA A T) 64; omega) (fun q hq => by have := xZ3 (evA A T) q hq; omega)
        obtain ⟨te, p1, p2⟩ := xRQ hh o2
        have hte : te = true := p2.2 fun j => (xXv _ j).symm
        subst hte
        have hbt : ∀ b' : Bool, b' = A.fi.any (fun f => (evA A T).testBit f.toNat) → b' = b := fun b' hb' => by
          rw [hb', Bool.eq_iff_iff, hbb, List.any_eq_true]
          constructor
          · rintro ⟨f, f1, f2⟩
            have := hVA.fis f f1
            exact ⟨f.toNat, f2, by rw [List.contains_iff_mem, Int.toNat_of_nonneg this.1]; exact f1⟩
          · rintro ⟨j, f1, f2⟩
            exact ⟨(j : Int), List.contains_iff_mem.1 f2, by rw [Int.toNat_natCast]; exact f1⟩
        have hbb2 := hbt _ hacc
        rw [hbb2] at r2
        have gS : List.take 1 (List.drop S.toNat ((xDq A 64).map xML)) = [xML (evA A T)] := by
          have := xDd (f := xML) (l := xDq A 64) (i := S.toNat) 0 a2
          rw [this, a3]
        rw [he] at s1 s2
        have hTl : T.size ≤ 15 := by omega
        have ho0 := xG5 ho
        generalize (xHO A (xDq A 64)) = D at *
        generalize evA A T = w at *
        generalize xDp 0 T = a at *
        have c2 : S < ((xDq A 64).length : Nat) := by omega
        generalize xDq A 64 = o at *
        have he2 : (((o.length : Nat) : Int) = (D.next.length : Nat)) = True := eq_true (by omega)
        unfold Aut.av Aut.cells at hsm hck hd s1 s2
        unfold Da.av Da.cells at hd hk r1 r2
        rw [hEm] at hd hk r1 r2
        unfold xT9 at hd
        replace gS : List.take 1 (List.drop S.toNat (List.map xML o)) = [.sl ((lsW w 64).length == 0) (lsW w 64).length (xCK (lsW w 64))] := gS
        unfold tw at c1 s1 s2 r1 r2 ⊢
        unfold iw at o1
        unfold Aut.av Aut.cells
        rw [xYj, a11, xAT]
        by_cases h0 : T.size = 0
        · have hS0 := hnil h0
          rw [hS0] at gS c2
          simp only [Int.toNat_zero, List.drop_zero] at gS
          have h0' : ¬ (0 : Int) < (a.length : Nat) := by omega
          simp (maxSteps := 30000000) (disch := first | assumption | omega | (simp only [List.length_cons, List.length_nil, List.length_append, List.length_set, List.length_replicate, List.length_map, List.length_range, List.length_take, List.length_drop, List.all_cons, List.all_nil, AV.isCell, Bool.and_self, Bool.and_true, xAh, xAb, xAe, xAa, xAa, xA2, List.length_map, xAC, xAB] <;> omega) | rfl | decide) only [xAI, List.length_cons, List.length_nil, Nat.zero_add, Nat.reduceAdd, Nat.reduceSub, xB8, List.cons_append, List.nil_append, xAo, xAf, xAc, xAk, xBn, AV.cells, opv, List.getD_cons_zero, List.all_cons, AV.isCell, List.all_nil, Bool.and_self, ↓reduceIte, xAp, List.set_cons_succ, List.set_cons_zero, xAi, xAE, xAg, xAj, xAd, xBi, List.map_nil, xAZ, xBI, List.mapM_nil, Option.pure_def, xAY, hkk, xAX, xCZ, xBU, xGl, List.getD_cons_succ, xEa, Bool.not_true, xAl, xAq, xAn, Bool.false_eq_true, xAG, xBT, List.take_succ_cons, List.take_zero, xBg, xBo, xB4, xAP, xA5, List.getElem?_cons_zero, xAz, List.drop_zero, List.take_nil, xBs, xBB, xBM, xBA, xEU, List.map_cons, List.mapM_cons, xBQ, xAW, xBE, Option.bind_eq_bind, Option.bind_some, Option.map_some, hsm, Bool.and_true, Bool.and_false, xCz, List.flatMap_cons, xEv, xBR, xDk, List.flatMap_nil, List.append_nil, List.foldl_nil, xCo, xCd, Bool.or_true, xCU, xJU, xBr, xBf, xHb, xET, xDW, e1, xFO, xDt, Option.map_none, xDu, xDv, Int.toNat_natCast, xER, Nat.sub_zero, Nat.reduceMul, k1, c1, xJT, xBp, xBz, List.drop_succ_cons, xCJ, xBG, xCf, xBb, xBH, List.getElem?_cons_succ, xA3, xBd, List.drop_nil, xAR, xBl, hd, xGD, xDV, xAH, xA8, decide_true, hk, xAJ, xAD, xA1, xAQ, xAV, he2, xA7, xAK, r1, s1, r2, s2, xBP, h0', decide_false, xBK, xUE, xUD, xCj, Int.reduceLE, xAL, c2, xA4, xA6, Int.toNat_zero, Nat.mul_one, xBu, gS, o1, p1, xAO, xAx, xAF, xAU, xAr, xAt, xB2]
        · have h0' : (0 : Int) < (a.length : Nat) := by omega
          have gSL : List.take 1 (xCK SL) = [.int .i64 S] := by rw [← hroot (by omega)]; exact xDd (i := 0) _ _ (by omega)
          simp (maxSteps := 30000000) (disch := first | assumption | omega | (simp only [List.length_cons, List.length_nil, List.length_append, List.length_set, List.length_replicate, List.length_map, List.length_range, List.length_take, List.length_drop, List.all_cons, List.all_nil, AV.isCell, Bool.and_self, Bool.and_true, xAh, xAb, xAe, xAa, xAa, xA2, List.length_map, xAC, xAB] <;> omega) | rfl | decide) only [xAI, List.length_cons, List.length_nil, Nat.zero_add, Nat.reduceAdd, Nat.reduceSub, xB8, List.cons_append, List.nil_append, xAo, xAf, xAc, xAk, xBn, AV.cells, opv, List.getD_cons_zero, List.all_cons, AV.isCell, List.all_nil, Bool.and_self, ↓reduceIte, xAp, List.set_cons_succ, List.set_cons_zero, xAi, xAE, xAg, xAj, xAd, xBi, List.map_nil, xAZ, xBI, List.mapM_nil, Option.pure_def, xAY, hkk, xAX, xCZ, xBU, xGl, List.getD_cons_succ, xEa, Bool.not_true, xAl, xAq, xAn, Bool.false_eq_true, xAG, xBT, List.take_succ_cons, List.take_zero, xBg, xBo, xB4, xAP, xA5, List.getElem?_cons_zero, xAz, List.drop_zero, List.take_nil, xBs, xBB, xBM, xBA, xEU, List.map_cons, List.mapM_cons, xBQ, xAW, xBE, Option.bind_eq_bind, Option.bind_some, Option.map_some, hsm, Bool.and_true, Bool.and_false, xCz, List.flatMap_cons, xEv, xBR, xDk, List.flatMap_nil, List.append_nil, List.foldl_nil, xCo, xCd, Bool.or_true, xCU, xJU, xBr, xBf, xHb, xET, xDW, e1, xFO, xDt, Option.map_none, xDu, xDv, Int.toNat_natCast, xER, Nat.sub_zero, Nat.reduceMul, k1, c1, xJT, xBp, xBz, List.drop_succ_cons, xCJ, xBG, xCf, xBb, xBH, List.getElem?_cons_succ, xA3, xBd, List.drop_nil, xAR, xBl, hd, xGD, xDV, xAH, xA8, decide_true, hk, xAJ, xAD, xA1, xAQ, xAV, he2, xA7, xAK, r1, s1, r2, s2, xBP, h0', xA4, xA6, Int.toNat_zero, Nat.mul_one, xBu, gSL, xBK, xUE, xUD, xCj, a1, xAL, c2, gS, o1, p1, xAO, xAx, xAF, xAU, xAr, xAt, xB2]
      · have r1 := xRI hV y1 a (by omega) hx1 (show xE4 a A.vars.toNat ≠ 0 from he)
        have r2 := xKS hV y1 a (by omega) hx1 (show xE4 a A.vars.toNat ≠ 0 from he)
        rw [show (xHO A (xDq A 64)).vars = A.vars from rfl] at r1 r2
        generalize xE4 a A.vars.toNat = e at *
        have ho0 := xG5 ho
        generalize (xHO A (xDq A 64)) = D at *
        generalize xDq A 64 = o at *
        have he2 : (((o.length : Nat) : Int) = (D.next.length : Nat)) = True := eq_true (by omega)
        unfold Aut.av Aut.cells at hsm hck hd s1 s2
        unfold Da.av Da.cells at hd hk r1 r2
        unfold xT9 at hd
        unfold tw at c1 s1 s2 r1 r2 ⊢
        unfold Aut.av Aut.cells
        rw [xYj, a11, xAT]
        simp (maxSteps := 30000000) (disch := first | assumption | omega | (simp only [List.length_cons, List.length_nil, List.length_append, List.length_set, List.length_replicate, List.length_map, List.length_range, List.length_take, List.length_drop, List.all_cons, List.all_nil, AV.isCell, Bool.and_self, Bool.and_true, xAh, xAb, xAe, xAa, xAa, xA2, List.length_map, xAC, xAB] <;> omega) | rfl | decide) only [xAI, List.length_cons, List.length_nil, Nat.zero_add, Nat.reduceAdd, Nat.reduceSub, xB8, List.cons_append, List.nil_append, xAo, xAf, xAc, xAk, xBn, AV.cells, opv, List.getD_cons_zero, List.all_cons, AV.isCell, List.all_nil, Bool.and_self, ↓reduceIte, xAp, List.set_cons_succ, List.set_cons_zero, xAi, xAE, xAg, xAj, xAd, xBi, List.map_nil, xAZ, xBI, List.mapM_nil, Option.pure_def, xAY, hkk, xAX, xCZ, xBU, xGl, List.getD_cons_succ, xEa, Bool.not_true, xAl, xAq, xAn, Bool.false_eq_true, xAG, xBT, List.take_succ_cons, List.take_zero, xBg, xBo, xB4, xAP, xA5, List.getElem?_cons_zero, xAz, List.drop_zero, List.take_nil, xBs, xBB, xBM, xBA, xEU, List.map_cons, List.mapM_cons, xBQ, xAW, xBE, Option.bind_eq_bind, Option.bind_some, Option.map_some, hsm, Bool.and_true, Bool.and_false, xCz, List.flatMap_cons, xEv, xBR, xDk, List.flatMap_nil, List.append_nil, List.foldl_nil, xCo, xCd, Bool.or_true, xCU, xJU, xBr, xBf, xHb, xET, xDW, e1, xFO, xDt, Option.map_none, xDu, xDv, Int.toNat_natCast, xER, Nat.sub_zero, Nat.reduceMul, k1, c1, xJT, xBp, xBz, List.drop_succ_cons, xCJ, xBG, xCf, xBb, xBH, List.getElem?_cons_succ, xA3, xBd, List.drop_nil, xAR, xBl, hd, xGD, xDV, xAH, xA8, decide_true, hk, xAJ, xAD, xA1, xAQ, xAV, he2, xA7, xAK, r1, s1, r2, s2, he, decide_false, Bool.not_false, xBK, xAO, xBa, xAx, xAF, xAU, xAr, xAt, xB2]
    · have hd := xPA hT hc (bu := 64) (by omega) (by omega) (by omega)
      rw [show ((64 : Nat) : Int) = 64 from rfl] at hd
      unfold Aut.av Aut.cells at hsm hck hd
      unfold tw at c1 ⊢
      unfold Aut.av Aut.cells
      rw [xYj, a11, xAT]
      simp (maxSteps := 30000000) (disch := first | assumption | omega | (simp only [List.length_cons, List.length_nil, List.length_append, List.length_set, List.length_replicate, List.length_map, List.length_range, List.length_take, List.length_drop, List.all_cons, List.all_nil, AV.isCell, Bool.and_self, Bool.and_true, xAh, xAb, xAe, xAa, xAa, xA2, List.length_map, xAC, xAB] <;> omega) | rfl | decide) only [xAI, List.length_cons, List.length_nil, Nat.zero_add, Nat.reduceAdd, Nat.reduceSub, xB8, List.cons_append, List.nil_append, xAo, xAf, xAc, xAk, xBn, AV.cells, opv, List.getD_cons_zero, List.all_cons, AV.isCell, List.all_nil, Bool.and_self, ↓reduceIte, xAp, List.set_cons_succ, List.set_cons_zero, xAi, xAE, xAg, xAj, xAd, xBi, List.map_nil, xAZ, xBI, List.mapM_nil, Option.pure_def, xAY, hkk, xAX, xCZ, xBU, xGl, List.getD_cons_succ, xEa, Bool.not_true, xAl, xAq, xAn, Bool.false_eq_true, xAG, xBT, List.take_succ_cons, List.take_zero, xBg, xBo, xB4, xAP, xA5, List.getElem?_cons_zero, xAz, List.drop_zero, List.take_nil, xBs, xBB, xBM, xBA, xEU, List.map_cons, List.mapM_cons, xBQ, xAW, xBE, Option.bind_eq_bind, Option.bind_some, Option.map_some, hsm, Bool.and_true, Bool.and_false, xCz, List.flatMap_cons, xEv, xBR, xDk, List.flatMap_nil, List.append_nil, List.foldl_nil, xCo, xCd, Bool.or_true, xCU, xJU, xBr, xBf, xHb, xET, xDW, e1, xFO, xDt, Option.map_none, xDu, xDv, Int.toNat_natCast, xER, Nat.sub_zero, Nat.reduceMul, k1, c1, xJT, xBp, xBz, List.drop_succ_cons, xCJ, xBG, xCf, xBb, xBH, List.getElem?_cons_succ, xA3, xBd, List.drop_nil, xAR, xBl, hd, xGD, xDV, xAH, xA8, Int.reduceEq, decide_false, Bool.not_false, xA1, xAQ, xAV, xDg, xBK, decide_true, xAJ, xAD, xA7, xAK, Bool.true_eq_false, xAO, xBa, xAx, xAF, xAU, xAr, xAt, xB2]
  · have hd := xSi hT 64 hc
    unfold Aut.av Aut.cells at hsm hck hd
    unfold tw at c1 ⊢
    unfold Aut.av Aut.cells
    generalize xMK A = ee at *
    by_cases c10 : ee = 10
    · rw [xYj, a11, xAT]
      simp (maxSteps := 30000000) (disch := first | assumption | omega | (simp only [List.length_cons, List.length_nil, List.length_append, List.length_set, List.length_replicate, List.length_map, List.length_range, List.length_take, List.length_drop, List.all_cons, List.all_nil, AV.isCell, Bool.and_self, Bool.and_true, xAh, xAb, xAe, xAa, xAa, xA2, List.length_map, xAC, xAB] <;> omega) | rfl | decide) only [xAI, List.length_cons, List.length_nil, Nat.zero_add, Nat.reduceAdd, Nat.reduceSub, xB8, List.cons_append, List.nil_append, xAo, xAf, xAc, xAk, xBn, AV.cells, opv, List.getD_cons_zero, List.all_cons, AV.isCell, List.all_nil, Bool.and_self, ↓reduceIte, xAp, List.set_cons_succ, List.set_cons_zero, xAi, xAE, xAg, xAj, xAd, xBi, List.map_nil, xAZ, xBI, List.mapM_nil, Option.pure_def, xAY, hkk, xAX, xCZ, xBU, xGl, List.getD_cons_succ, xEa, Bool.not_true, xAl, xAq, xAn, Bool.false_eq_true, xAG, xBT, List.take_succ_cons, List.take_zero, xBg, xBo, xB4, xAP, xA5, List.getElem?_cons_zero, xAz, List.drop_zero, List.take_nil, xBs, xBB, xBM, xBA, xEU, List.map_cons, List.mapM_cons, xBQ, xAW, xBE, Option.bind_eq_bind, Option.bind_some, Option.map_some, hsm, Bool.and_true, Bool.and_false, xCz, List.flatMap_cons, xEv, xBR, xDk, List.flatMap_nil, List.append_nil, List.foldl_nil, xCo, xCd, Bool.or_true, xCU, xJU, xBr, xBf, xHb, xET, xDW, e1, xFO, xDt, Option.map_none, xDu, xDv, Int.toNat_natCast, xER, Nat.sub_zero, Nat.reduceMul, k1, c1, xJT, xBp, xBz, List.drop_succ_cons, xCJ, xBG, xCf, xBb, xBH, List.getElem?_cons_succ, xA3, xBd, List.drop_nil, xAR, xBl, hd, c10, xGD, xDV, xAH, xA8, Int.reduceEq, decide_false, Bool.not_false, xA1, xAQ, xAV, xDg, xBK, decide_true, xAJ, xAD, xA7, xAK, Bool.true_eq_false, xAO, xBa, xAx, xAF, xAU, xAr, xAt, xB2]
    · rw [xYj, a11, xAT]
      simp (maxSteps := 30000000) (disch := first | assumption | omega | (simp only [List.length_cons, List.length_nil, List.length_append, List.length_set, List.length_replicate, List.length_map, List.length_range, List.length_take, List.length_drop, List.all_cons, List.all_nil, AV.isCell, Bool.and_self, Bool.and_true, xAh, xAb, xAe, xAa, xAa, xA2, List.length_map, xAC, xAB] <;> omega) | rfl | decide) only [xAI, List.length_cons, List.length_nil, Nat.zero_add, Nat.reduceAdd, Nat.reduceSub, xB8, List.cons_append, List.nil_append, xAo, xAf, xAc, xAk, xBn, AV.cells, opv, List.getD_cons_zero, List.all_cons, AV.isCell, List.all_nil, Bool.and_self, ↓reduceIte, xAp, List.set_cons_succ, List.set_cons_zero, xAi, xAE, xAg, xAj, xAd, xBi, List.map_nil, xAZ, xBI, List.mapM_nil, Option.pure_def, xAY, hkk, xAX, xCZ, xBU, xGl, List.getD_cons_succ, xEa, Bool.not_true, xAl, xAq, xAn, Bool.false_eq_true, xAG, xBT, List.take_succ_cons, List.take_zero, xBg, xBo, xB4, xAP, xA5, List.getElem?_cons_zero, xAz, List.drop_zero, List.take_nil, xBs, xBB, xBM, xBA, xEU, List.map_cons, List.mapM_cons, xBQ, xAW, xBE, Option.bind_eq_bind, Option.bind_some, Option.map_some, hsm, Bool.and_true, Bool.and_false, xCz, List.flatMap_cons, xEv, xBR, xDk, List.flatMap_nil, List.append_nil, List.foldl_nil, xCo, xCd, Bool.or_true, xCU, xJU, xBr, xBf, xHb, xET, xDW, e1, xFO, xDt, Option.map_none, xDu, xDv, Int.toNat_natCast, xER, Nat.sub_zero, Nat.reduceMul, k1, c1, xJT, xBp, xBz, List.drop_succ_cons, xCJ, xBG, xCf, xBb, xBH, List.getElem?_cons_succ, xA3, xBd, List.drop_nil, xAR, xBl, hd, xGD, xDV, xAH, xA8, hc, decide_false, Bool.not_false, xA1, xAQ, xAV, xDg, xBK, decide_true, xAJ, xAD, xA7, xAK, c10, hck, xAO, xBa, xAx, xAF, xAU, xAr, xAt, xB2]

theorem law11t (avs : List AV) (h : xNi [yB6, TTr] avs) : L.pcall 11 avs = some (.bool true) := by
  obtain ⟨_, r, rfl, h0, h⟩ := xJ9 h
  obtain ⟨_, r, rfl, h1, h⟩ := xJ9 h
  obtain rfl := xRw h
  obtain ⟨n, rfl, hb⟩ := xW0 h0
  obtain ⟨z, t, rfl, hx⟩ := xTD (xTC h1)
  exact yBY n hb z t hx
end Go.Abs.Det
