/- Sets by what they hold. -/
import Derived.Test.YtbfnjdhafgnlnaaAN1
namespace Go.Abs.Nfa
open Go Go.Abs
set_option linter.unusedSimpArgs false
set_option linter.unusedVariables false

theorem xLl (op : Nat → Nat → Nat) (a b : List Nat) (h0 : op 0 0 = 0) (i : Nat) (hi : i < 64) : (xHD op a b).getD i 0 = op (a.getD i 0) (b.getD i 0) := by
  unfold xHD
  generalize hN : min (max a.length b.length) 64 = N
  have hv : ∀ i, i < N → (xI0 op a b N).getD i 0 = op (a.getD i 0) (b.getD i 0) := fun i hi => by simp [xI0, hi]
  have hle := xJ4 (xI0 op a b N) N
  by_cases h : i < xHO (xI0 op a b N) N
  · rw [← hv i (by omega)]
    simp [List.getD, List.getElem?_take, h]
  · rw [xJq (by rw [List.length_take, xIu]; omega)]
    by_cases h2 : i < N
    · rw [← hv i h2]
      exact (xLn _ N i (by omega) h2).symm
    · rw [xJq (l := a) (by omega), xJq (l := b) (by omega), h0]

theorem xIN (op : Nat → Nat → Nat) (a b : List Nat) : (xHD op a b).length ≤ 64 := by
  unfold xHD
  rw [List.length_take, xIu]; omega

theorem xNQ {op : Nat → Nat → Nat} {a b : List Nat} (hop : ∀ x y, x < 18446744073709551616 → y < 18446744073709551616 → op x y < 18446744073709551616) (wa : W a) (wb : W b) : W (xHD op a b) := by
  intro x hx
  have := List.mem_of_mem_take hx
  simp only [xI0, List.mem_map] at this
  obtain ⟨i, _, rfl⟩ := this
  exact hop _ _ (wa.get i) (wb.get i)

theorem xKj (op : Nat → Nat → Nat) (a b : List Nat) (h : xHD op a b ≠ []) : (xHD op a b).getD ((xHD op a b).length - 1) 0 ≠ 0 := by
  unfold xHD at h ⊢
  generalize hN : min (max a.length b.length) 64 = N at *
  have hle := xJ4 (xI0 op a b N) N
  have hl : ((xI0 op a b N).take (xHO (xI0 op a b N) N)).length = xHO (xI0 op a b N) N := by rw [List.length_take, xIu]; omega
  have hp : 0 < xHO (xI0 op a b N) N := by
    rw [← hl]; exact List.length_pos_iff.2 h
  rw [hl]
  have := xLo _ N hp
  rw [show ((xI0 op a b N).take (xHO (xI0 op a b N) N)).getD (xHO (xI0 op a b N) N - 1) 0 = (xI0 op a b N).getD (xHO (xI0 op a b N) N - 1) 0 from by
    simp [List.getD, List.getElem?_take, show xHO (xI0 op a b N) N - 1 < xHO (xI0 op a b N) N by omega]]
  exact this

def mem (l : List Nat) (j : Nat) : Bool := decide (j < 4096) && (l.getD (j / 64) 0).testBit (j % 64)

theorem xMu {op : Nat → Nat → Nat} {f : Bool → Bool → Bool} (a b : List Nat) (h0 : op 0 0 = 0) (hf : ∀ x y i, (op x y).testBit i = f (x.testBit i) (y.testBit i)) (j : Nat) (hj : j < 4096) : mem (xHD op a b) j = f (mem a j) (mem b j) := by
  unfold mem
  rw [xLl op a b h0 _ (by omega), hf]
  simp [hj]

theorem xQW {x : Nat} (h : x ≠ 0) (hx : x < 18446744073709551616) : ∃ i, i < 64 ∧ x.testBit i = true := by
  obtain ⟨i, hi⟩ := Nat.exists_testBit_ne_of_ne h
  rw [Nat.zero_testBit] at hi
  have h1 : x.testBit i = true := by simpa using hi
  refine ⟨i, ?_, h1⟩
  rcases Nat.lt_or_ge i 64 with q | q
  · exact q
  · have : x.testBit i = false := Nat.testBit_lt_two_pow (Nat.lt_of_lt_of_le hx (by
      have : 2 ^ 64 ≤ 2 ^ i := Nat.pow_le_pow_right (by omega) q
      omega))
    rw [this] at h1; cases h1

def HasSet (v : AV) (S : Nat → Bool) : Prop := ∃ z l, v = sw z l ∧ W l ∧ l.length < 1099511627776 ∧ ∀ j, mem l j = S j

theorem HasSet.out {v : AV} {S : Nat → Bool} (h : HasSet v S) {j : Nat} (hj : 4096 ≤ j) : S j = false := by
  obtain ⟨z, l, rfl, _, _, h⟩ := h
  rw [← h j]
  simp [mem, show ¬ j < 4096 by omega]

theorem HasSet.congr {v : AV} {S T : Nat → Bool} (h : HasSet v S) (e : ∀ j, S j = T j) : HasSet v T := by
  obtain ⟨z, l, rfl, w, hl, h⟩ := h
  exact ⟨z, l, rfl, w, hl, fun j => (h j).trans (e j)⟩

theorem xNn {z : Bool} : HasSet (.sl z 0 []) (fun _ => false) := ⟨z, [], rfl, by intro x hx; simp at hx, by simp, fun j => by simp [mem]⟩

theorem xTQ {x y : Nat} (hx : x < 18446744073709551616) (hy : y < 18446744073709551616) : x ||| y < 18446744073709551616 := by
  have : x ||| y < 2 ^ 64 := Nat.or_lt_two_pow (by omega) (by omega)
  omega

theorem xLm {za zb : Bool} {a b : List Nat} (wa : W a) (wb : W b) (ha : a.length < 1099511627776) (hb : b.length < 1099511627776) : ∃ z, L.pcall 30 [sw za a, sw zb b] = some (sw z (xHD (· ||| ·) a b)) := by
  obtain ⟨z, H', h⟩ := xQ0 (za := za) (zb := zb) (g := 59) (op := (· ||| ·)) (fun x y H hx hy => xVV x y H hx hy) wa wb
  refine ⟨z, ?_⟩
  rw [xVs, a30, xAt]
  simp (maxSteps := 2000000) (disch := first | assumption | omega | (simp only [List.length_cons, List.length_nil, List.length_append, List.length_set, List.length_replicate, List.length_map, List.length_range, List.length_take, List.length_drop, List.all_cons, List.all_nil, AV.isCell, Bool.and_self, Bool.and_true, xAe, xAb, xAc, xAa] <;> omega) | rfl | decide) only [xDW, xAu, xBG, xCN, xBH, xCO, xCP, xAR, xBI, xAv, xAi, xAS, xAw, xAT, xAn, xAU, xBJ, xBK, xBL, xBM, xCQ, xAV, xCR, xBN, xCS, xDX, xBO, xBP, xAW, xAx, xBQ, xBR, xCT, xDY, xDZ, xBS, xCU, xBT, xAX, xAy, xAY, xD0, xD1, xCV, xAZ, xA0, xBU, xBV, xAz, xAA, xA1, xAB, xAC, xA2, apart, xGZ, xAD, xAo, xA3, xA4, xBW, xCW, xCX, xA5, xBX, xA6, xAE, xAp, xAF, xBY, xBZ, xCY, xEY, xA7, xD2, xEZ, xCZ, xB0, xC0, xC1, xB1, xB2, xD3, xD4, xD5, xE0, xB3, xD6, xE1, xB4, xAG, xC2, xC3, xB5, xB6, xA8, xB7, xE2, xD7, xD8, xD9, xEa, xEb, xEc, xE3, xEd, xA9, xEe, xEf, xEg, xEh, xEi, xEj, xEk, xEl, xE4, xE5, xE6, xBa, xBb, xAH, xAI, xC4, xFQ, xE7, xE8, xE9, xB8, xEm, xB9, xC5, xBc, xC6, xCa, xBd, xEn, xC7, xCb, xCc, xCd, xCe, xBe, xAJ, xC8, xBf, xFR, xFS, xC9, xCf, xBg, xDa, xDb, xFa, xEo, xDc, xFb, xFc, xDd, xFd, xBz, xDe, xDf, xAK, xFe, xEp, xBh, xBi, xCg, xDg, xDh, xEq, xEr, xCh, xCi, xDq, xCj, xCk, xEG, xDr, xAL, xDs, xAM, xAN, xBl, xEH, xAq, xDt, xFr, xCl, xCm, xDu, xFs, xEI, xDv, xCn, xEJ, xCo, xFt, xFu, xDw, xFT, xEK, xCp, xBm, xDx, xDy, xDz, xDA, xFv, xFw, xFx, xFy, xEL, xEM, xDB, xCq, xBn, xAr, xCr, xBo, xCs, xCD, xAO, xAP, xBp, xAt, xBq, xEN, xDC, xCt, xCu, xCv, xDD, xCw, xCx, xCy, xAQ, xCM, xAf, xAj, xAh, xAk, xAg, xAl, xAs, xAm, xBr, xBs, List.zip_cons_cons, List.zip_nil_right, List.zip_nil_left, opv, xFD, xCA, xBv, xGG, xFH, xFF, xFG, List.foldl_nil, List.foldl_cons, List.map_nil, List.map_cons, ite_self, Bool.not_true, Bool.not_false, Bool.or_true, Bool.true_or, Bool.false_or, Bool.or_false, List.length_cons, List.length_nil, List.length_append, List.append_assoc, xG1, List.cons_append, List.nil_append, List.getD_cons_succ, List.getD_cons_zero, List.set_cons_succ, List.set_cons_zero, AV.cells, List.all_cons, List.all_nil, AV.isCell, Bool.and_self, Bool.and_true, Bool.true_and, Bool.and_false, Bool.false_and, if_true, if_false, Bool.false_eq_true, Bool.true_eq_false, Option.map_some, Option.map_none, xES, xFE, List.getElem?_cons_zero, List.getElem?_cons_succ, List.drop_zero, List.drop_succ_cons, List.take_succ_cons, List.take_zero, List.drop_nil, List.take_nil, Nat.zero_add, Nat.reduceAdd, Nat.reduceSub, Nat.reduceLeDiff, Nat.reduceMul, xDO, xDi, xEv, xDj, xDk, xEw, xDl, xFp, xEx, xEy, xEz, xBj, decide_true, decide_false, decide_eq_true_eq, decide_eq_false_iff_not, Bool.not_eq_true', Bool.not_eq_eq_eq_not, ne_eq, not_false_eq_true, not_true_eq_false, and_self, and_true, true_and, List.mapM_cons, List.mapM_nil, Option.pure_def, Option.bind_eq_bind, Option.bind_some, xGb, Nat.le_refl, List.append_nil, List.flatMap_nil, List.flatMap_cons, xDN, xDm, xEA, xDn, xDo, xEB, xDp, xEC, xFq, xED, xEE, xEF, xBk, xEX, xCL, List.isEmpty_nil, beq_self_eq_true, Nat.mul_one, Nat.add_zero, Nat.sub_zero, Int.toNat_natCast, Int.toNat_zero, Int.toNat_one, Int.reduceAdd, Int.reduceSub, Int.reduceMul, Int.reduceLT, Int.reduceLE, Int.reduceEq, Int.reduceToNat, Int.reduceNeg, Int.zero_add, Int.add_zero, Int.sub_zero, Int.natCast_zero, Int.natCast_one, Int.lt_irrefl, Int.zero_tmod, Nat.reduceEqDiff, Nat.reduceBEq, Nat.reduceLT, xAe, xDP, xDQ, xEV, xEW, xBE, xDV, xEU, xAb, xBx, xBy, xCJ, xCK, xBD, xCG, xBC, xDU, List.length_replicate, List.length_set, List.take_length, List.drop_length, xBF, xFf, xFg, xFh, xFi, xFj, xFk, xFl, xFm, xFn, xFo, xEs, xEt, xEu, xGE, xFL, xGd, xFN, xG2, xFM, List.modify_cons, xG3, xDT, xG4, xFO, xG5, xFP, xFK, xFJ, xG6, xGH, xG0, xAc, xCH, xCI, xEO, xEP, xDE, xEQ, xDR, xDS, xER, xAa, xBA, xBB, xDF, xDG, xCz, xCF, xDH, xCE, xDI, xBt, xFI, xBu, xDJ, xDK, xDL, h]

theorem xQX {v u : AV} {S T : Nat → Bool} (hv : HasSet v S) (hu : HasSet u T) : ∃ z l, L.pcall 30 [v, u] = some (sw z l) ∧ HasSet (sw z l) (fun j => S j || T j) := by
  obtain ⟨za, a, rfl, wa, la, ha⟩ := id hv
  obtain ⟨zb, b, rfl, wb, lb, hb⟩ := id hu
  obtain ⟨z, h⟩ := xLm (za := za) (zb := zb) wa wb la lb
  refine ⟨z, _, h, z, _, rfl, xNQ (fun x y hx hy => xTQ hx hy) wa wb, by have := xIN (· ||| ·) a b; omega, fun j => ?_⟩
  by_cases hj : j < 4096
  · rw [xMu (f := (· || ·)) a b (by simp) (fun x y i => by simp) j hj, ha, hb]
  · show mem _ j = (S j || T j)
    rw [hv.out (j := j) (by omega), hu.out (j := j) (by omega)]
    simp [mem, hj]

theorem xNo {v u : AV} {S T : Nat → Bool} (hv : HasSet v S) (hu : HasSet u T) : ∃ t, L.pcall 32 [v, u] = some (.bool t) ∧ (t = true ↔ ∃ j, S j = true ∧ T j = true) := by
  obtain ⟨za, a, rfl, wa, la, ha⟩ := id hv
  obtain ⟨zb, b, rfl, wb, lb, hb⟩ := id hu
  obtain ⟨z, H', h⟩ := xQ0 (za := za) (zb := zb) (g := 73) (op := (· &&& ·)) (fun x y H hx hy => xUq x y H hx hy) wa wb
  have hlen := xIN (· &&& ·) a b
  have h62 : L.pcall 62 [sw za a, sw zb b] = some (sw z (xHD (· &&& ·) a b)) := by
    rw [xVI, a62, xAt]
    simp (maxSteps := 2000000) (disch := first | assumption | omega | (simp only [List.length_cons, List.length_nil, List.length_append, List.length_set, List.length_replicate, List.length_map, List.length_range, List.length_take, List.length_drop, List.all_cons, List.all_nil, AV.isCell, Bool.and_self, Bool.and_true, xAe, xAb, xAc, xAa] <;> omega) | rfl | decide) only [xDW, xAu, xBG, xCN, xBH, xCO, xCP, xAR, xBI, xAv, xAi, xAS, xAw, xAT, xAn, xAU, xBJ, xBK, xBL, xBM, xCQ, xAV, xCR, xBN, xCS, xDX, xBO, xBP, xAW, xAx, xBQ, xBR, xCT, xDY, xDZ, xBS, xCU, xBT, xAX, xAy, xAY, xD0, xD1, xCV, xAZ, xA0, xBU, xBV, xAz, xAA, xA1, xAB, xAC, xA2, apart, xGZ, xAD, xAo, xA3, xA4, xBW, xCW, xCX, xA5, xBX, xA6, xAE, xAp, xAF, xBY, xBZ, xCY, xEY, xA7, xD2, xEZ, xCZ, xB0, xC0, xC1, xB1, xB2, xD3, xD4, xD5, xE0, xB3, xD6, xE1, xB4, xAG, xC2, xC3, xB5, xB6, xA8, xB7, xE2, xD7, xD8, xD9, xEa, xEb, xEc, xE3, xEd, xA9, xEe, xEf, xEg, xEh, xEi, xEj, xEk, xEl, xE4, xE5, xE6, xBa, xBb, xAH, xAI, xC4, xFQ, xE7, xE8, xE9, xB8, xEm, xB9, xC5, xBc, xC6, xCa, xBd, xEn, xC7, xCb, xCc, xCd, xCe, xBe, xAJ, xC8, xBf, xFR, xFS, xC9, xCf, xBg, xDa, xDb, xFa, xEo, xDc, xFb, xFc, xDd, xFd, xBz, xDe, xDf, xAK, xFe, xEp, xBh, xBi, xCg, xDg, xDh, xEq, xEr, xCh, xCi, xDq, xCj, xCk, xEG, xDr, xAL, xDs, xAM, xAN, xBl, xEH, xAq, xDt, xFr, xCl, xCm, xDu, xFs, xEI, xDv, xCn, xEJ, xCo, xFt, xFu, xDw, xFT, xEK, xCp, xBm, xDx, xDy, xDz, xDA, xFv, xFw, xFx, xFy, xEL, xEM, xDB, xCq, xBn, xAr, xCr, xBo, xCs, xCD, xAO, xAP, xBp, xAt, xBq, xEN, xDC, xCt, xCu, xCv, xDD, xCw, xCx, xCy, xAQ, xCM, xAf, xAj, xAh, xAk, xAg, xAl, xAs, xAm, xBr, xBs, List.zip_cons_cons, List.zip_nil_right, List.zip_nil_left, opv, xFD, xCA, xBv, xGG, xFH, xFF, xFG, List.foldl_nil, List.foldl_cons, List.map_nil, List.map_cons, ite_self, Bool.not_true, Bool.not_false, Bool.or_true, Bool.true_or, Bool.false_or, Bool.or_false, List.length_cons, List.length_nil, List.length_append, List.append_assoc, xG1, List.cons_append, List.nil_append, List.getD_cons_succ, List.getD_cons_zero, List.set_cons_succ, List.set_cons_zero, AV.cells, List.all_cons, List.all_nil, AV.isCell, Bool.and_self, Bool.and_true, Bool.true_and, Bool.and_false, Bool.false_and, if_true, if_false, Bool.false_eq_true, Bool.true_eq_false, Option.map_some, Option.map_none, xES, xFE, List.getElem?_cons_zero, List.getElem?_cons_succ, List.drop_zero, List.drop_succ_cons, List.take_succ_cons, List.take_zero, List.drop_nil, List.take_nil, Nat.zero_add, Nat.reduceAdd, Nat.reduceSub, Nat.reduceLeDiff, Nat.reduceMul, xDO, xDi, xEv, xDj, xDk, xEw, xDl, xFp, xEx, xEy, xEz, xBj, decide_true, decide_false, decide_eq_true_eq, decide_eq_false_iff_not, Bool.not_eq_true', Bool.not_eq_eq_eq_not, ne_eq, not_false_eq_true, not_true_eq_false, and_self, and_true, true_and, List.mapM_cons, List.mapM_nil, Option.pure_def, Option.bind_eq_bind, Option.bind_some, xGb, Nat.le_refl, List.append_nil, List.flatMap_nil, List.flatMap_cons, xDN, xDm, xEA, xDn, xDo, xEB, xDp, xEC, xFq, xED, xEE, xEF, xBk, xEX, xCL, List.isEmpty_nil, beq_self_eq_true, Nat.mul_one, Nat.add_zero, Nat.sub_zero, Int.toNat_natCast, Int.toNat_zero, Int.toNat_one, Int.reduceAdd, Int.reduceSub, Int.reduceMul, Int.reduceLT, Int.reduceLE, Int.reduceEq, Int.reduceToNat, Int.reduceNeg, Int.zero_add, Int.add_zero, Int.sub_zero, Int.natCast_zero, Int.natCast_one, Int.lt_irrefl, Int.zero_tmod, Nat.reduceEqDiff, Nat.reduceBEq, Nat.reduceLT, xAe, xDP, xDQ, xEV, xEW, xBE, xDV, xEU, xAb, xBx, xBy, xCJ, xCK, xBD, xCG, xBC, xDU, List.length_replicate, List.length_set, List.take_length, List.drop_length, xBF, xFf, xFg, xFh, xFi, xFj, xFk, xFl, xFm, xFn, xFo, xEs, xEt, xEu, xGE, xFL, xGd, xFN, xG2, xFM, List.modify_cons, xG3, xDT, xG4, xFO, xG5, xFP, xFK, xFJ, xG6, xGH, xG0, xAc, xCH, xCI, xEO, xEP, xDE, xEQ, xDR, xDS, xER, xAa, xBA, xBB, xDF, xDG, xCz, xCF, xDH, xCE, xDI, xBt, xFI, xBu, xDJ, xDK, xDL, h]
  refine ⟨decide (0 < (xHD (· &&& ·) a b).length), ?_, ?_⟩
  · have e : ((0 : Int) < ((xHD (· &&& ·) a b).length : Nat)) = (0 < (xHD (· &&& ·) a b).length) := propext ⟨fun h => by omega, fun h => by omega⟩
    rw [xVu, a32, xAt]
    simp (maxSteps := 2000000) (disch := first | assumption | omega | (simp only [List.length_cons, List.length_nil, List.length_append, List.length_set, List.length_replicate, List.length_map, List.length_range, List.length_take, List.length_drop, List.all_cons, List.all_nil, AV.isCell, Bool.and_self, Bool.and_true, xAe, xAb, xAc, xAa] <;> omega) | rfl | decide) only [xDW, xAu, xBG, xCN, xBH, xCO, xCP, xAR, xBI, xAv, xAi, xAS, xAw, xAT, xAn, xAU, xBJ, xBK, xBL, xBM, xCQ, xAV, xCR, xBN, xCS, xDX, xBO, xBP, xAW, xAx, xBQ, xBR, xCT, xDY, xDZ, xBS, xCU, xBT, xAX, xAy, xAY, xD0, xD1, xCV, xAZ, xA0, xBU, xBV, xAz, xAA, xA1, xAB, xAC, xA2, apart, xGZ, xAD, xAo, xA3, xA4, xBW, xCW, xCX, xA5, xBX, xA6, xAE, xAp, xAF, xBY, xBZ, xCY, xEY, xA7, xD2, xEZ, xCZ, xB0, xC0, xC1, xB1, xB2, xD3, xD4, xD5, xE0, xB3, xD6, xE1, xB4, xAG, xC2, xC3, xB5, xB6, xA8, xB7, xE2, xD7, xD8, xD9, xEa, xEb, xEc, xE3, xEd, xA9, xEe, xEf, xEg, xEh, xEi, xEj, xEk, xEl, xE4, xE5, xE6, xBa, xBb, xAH, xAI, xC4, xFQ, xE7, xE8, xE9, xB8, xEm, xB9, xC5, xBc, xC6, xCa, xBd, xEn, xC7, xCb, xCc, xCd, xCe, xBe, xAJ, xC8, xBf, xFR, xFS, xC9, xCf, xBg, xDa, xDb, xFa, xEo, xDc, xFb, xFc, xDd, xFd, xBz, xDe, xDf, xAK, xFe, xEp, xBh, xBi, xCg, xDg, xDh, xEq, xEr, xCh, xCi, xDq, xCj, xCk, xEG, xDr, xAL, xDs, xAM, xAN, xBl, xEH, xAq, xDt, xFr, xCl, xCm, xDu, xFs, xEI, xDv, xCn, xEJ, xCo, xFt, xFu, xDw, xFT, xEK, xCp, xBm, xDx, xDy, xDz, xDA, xFv, xFw, xFx, xFy, xEL, xEM, xDB, xCq, xBn, xAr, xCr, xBo, xCs, xCD, xAO, xAP, xBp, xAt, xBq, xEN, xDC, xCt, xCu, xCv, xDD, xCw, xCx, xCy, xAQ, xCM, xAf, xAj, xAh, xAk, xAg, xAl, xAs, xAm, xBr, xBs, List.zip_cons_cons, List.zip_nil_right, List.zip_nil_left, opv, xFD, xCA, xBv, xGG, xFH, xFF, xFG, List.foldl_nil, List.foldl_cons, List.map_nil, List.map_cons, ite_self, Bool.not_true, Bool.not_false, Bool.or_true, Bool.true_or, Bool.false_or, Bool.or_false, List.length_cons, List.length_nil, List.length_append, List.append_assoc, xG1, List.cons_append, List.nil_append, List.getD_cons_succ, List.getD_cons_zero, List.set_cons_succ, List.set_cons_zero, AV.cells, List.all_cons, List.all_nil, AV.isCell, Bool.and_self, Bool.and_true, Bool.true_and, Bool.and_false, Bool.false_and, if_true, if_false, Bool.false_eq_true, Bool.true_eq_false, Option.map_some, Option.map_none, xES, xFE, List.getElem?_cons_zero, List.getElem?_cons_succ, List.drop_zero, List.drop_succ_cons, List.take_succ_cons, List.take_zero, List.drop_nil, List.take_nil, Nat.zero_add, Nat.reduceAdd, Nat.reduceSub, Nat.reduceLeDiff, Nat.reduceMul, xDO, xDi, xEv, xDj, xDk, xEw, xDl, xFp, xEx, xEy, xEz, xBj, decide_true, decide_false, decide_eq_true_eq, decide_eq_false_iff_not, Bool.not_eq_true', Bool.not_eq_eq_eq_not, ne_eq, not_false_eq_true, not_true_eq_false, and_self, and_true, true_and, List.mapM_cons, List.mapM_nil, Option.pure_def, Option.bind_eq_bind, Option.bind_some, xGb, Nat.le_refl, List.append_nil, List.flatMap_nil, List.flatMap_cons, xDN, xDm, xEA, xDn, xDo, xEB, xDp, xEC, xFq, xED, xEE, xEF, xBk, xEX, xCL, List.isEmpty_nil, beq_self_eq_true, Nat.mul_one, Nat.add_zero, Nat.sub_zero, Int.toNat_natCast, Int.toNat_zero, Int.toNat_one, Int.reduceAdd, Int.reduceSub, Int.reduceMul, Int.reduceLT, Int.reduceLE, Int.reduceEq, Int.reduceToNat, Int.reduceNeg, Int.zero_add, Int.add_zero, Int.sub_zero, Int.natCast_zero, Int.natCast_one, Int.lt_irrefl, Int.zero_tmod, Nat.reduceEqDiff, Nat.reduceBEq, Nat.reduceLT, xAe, xDP, xDQ, xEV, xEW, xBE, xDV, xEU, xAb, xBx, xBy, xCJ, xCK, xBD, xCG, xBC, xDU, List.length_replicate, List.length_set, List.take_length, List.drop_length, xBF, xFf, xFg, xFh, xFi, xFj, xFk, xFl, xFm, xFn, xFo, xEs, xEt, xEu, xGE, xFL, xGd, xFN, xG2, xFM, List.modify_cons, xG3, xDT, xG4, xFO, xG5, xFP, xFK, xFJ, xG6, xGH, xG0, xAc, xCH, xCI, xEO, xEP, xDE, xEQ, xDR, xDS, xER, xAa, xBA, xBB, xDF, xDG, xCz, xCF, xDH, xCE, xDI, xBt, xFI, xBu, xDJ, xDK, xDL, h62, e]
  · rw [decide_eq_true_eq]
    have hmem : ∀ j, j < 4096 → mem (xHD (· &&& ·) a b) j = (S j && T j) := fun j hj => by
      rw [xMu (f := (· && ·)) a b (by simp) (fun x y i => by simp) j hj, ha, hb]
    constructor
    · intro hpos
      have hne : xHD (· &&& ·) a b ≠ [] := List.length_pos_iff.1 hpos
      have hlast := xKj (· &&& ·) a b hne
      obtain ⟨i, hi, hbit⟩ := xQW hlast ((xNQ (fun x y hx hy => Nat.lt_of_le_of_lt Nat.and_le_left hx) wa wb).get _)
      have hj : 64 * ((xHD (· &&& ·) a b).length - 1) + i < 4096 := by omega
      have := hmem _ hj
      have hm : mem (xHD (· &&& ·) a b) (64 * ((xHD (· &&& ·) a b).length - 1) + i) = true := by
        unfold mem
        rw [show (64 * ((xHD (· &&& ·) a b).length - 1) + i) / 64 = (xHD (· &&& ·) a b).length - 1 by omega, show (64 * ((xHD (· &&& ·) a b).length - 1) + i) % 64 = i by omega, hbit]
        simp [hj]
      rw [hm] at this
      have h2 := this.symm
      simp only [Bool.and_eq_true] at h2
      exact ⟨_, h2⟩
    · rintro ⟨j, h1, h2⟩
      have hj : j < 4096 := by
        rcases Nat.lt_or_ge j 4096 with q | q
        · exact q
        · rw [hv.out q] at h1; cases h1
      have := hmem j hj
      rw [h1, h2] at this
      rcases Nat.eq_zero_or_pos (xHD (· &&& ·) a b).length with q | q
      · rw [List.length_eq_zero_iff.1 q] at this
        simp [mem] at this
      · exact q

theorem xRH (n : Nat) : xIV [AV.int .u64 0] n = w64 (List.replicate n 0) := by
  induction n with
  | zero => rfl
  | succ n ih => simp [xIV, ih, w64, List.replicate_succ]

def xRI (k : Nat) : List Nat := (List.replicate (k / 64 + 1) 0).set (k / 64) (2 ^ (k % 64))

theorem xQY (k : Nat) (hk : k < 4096) : L.pcall 74 [.int .i64 (k : Nat)] = some (.sl false (k / 64 + 1) (w64 (xRI k))) := by
  have h1 : ¬ ((4095 : Int) < (k : Nat)) := by omega
  have h64 : ((k : Nat) : Int).tdiv 64 = ((k / 64 : Nat) : Int) := by rw [show (64 : Int) = ((64 : Nat) : Int) from rfl, xFJ]
  have hm64 : ((k : Nat) : Int).tmod 64 = ((k % 64 : Nat) : Int) := by rw [show (64 : Int) = ((64 : Nat) : Int) from rfl, xFK]
  have hlt : k % 64 < 64 := Nat.mod_lt _ (by omega)
  have hd : k / 64 < 64 := by omega
  have hsh : IntKind.u64.wrap (1 * 2 ^ min (k % 64) IntKind.u64.bits) = ((2 ^ (k % 64) : Nat) : Int) := by
    have e1 : min (k % 64) IntKind.u64.bits = k % 64 := Nat.min_eq_left (by show k % 64 ≤ 64; omega)
    have e2 : (2 : Nat) ^ (k % 64) < 2 ^ 64 := Nat.pow_lt_pow_right (by omega) hlt
    rw [e1, Int.one_mul, show (2 : Int) ^ (k % 64) = ((2 ^ (k % 64) : Nat) : Int) from by rw [Int.natCast_pow]; rfl]
    exact xFI (by omega)
  unfold xRI
  generalize k / 64 = d at *
  generalize k % 64 = r at *
  have hlen : ((List.replicate (d + 1) 0).set d (2 ^ r)).length = d + 1 := by simp
  have htk : List.take (d + 1) ((List.replicate (d + 1) 0).set d (2 ^ r)) = (List.replicate (d + 1) 0).set d (2 ^ r) := List.take_of_length_le (by omega)
  rw [xVP, a74, xAt]
  simp (maxSteps := 2000000) (disch := first | assumption | omega | (simp only [List.length_cons, List.length_nil, List.length_append, List.length_set, List.length_replicate, List.length_map, List.length_range, List.length_take, List.length_drop, List.all_cons, List.all_nil, AV.isCell, Bool.and_self, Bool.and_true, xAe, xAb, xAc, xAa] <;> omega) | rfl | decide) only [xDW, xAu, xBG, xCN, xBH, xCO, xCP, xAR, xBI, xAv, xAi, xAS, xAw, xAT, xAn, xAU, xBJ, xBK, xBL, xBM, xCQ, xAV, xCR, xBN, xCS, xDX, xBO, xBP, xAW, xAx, xBQ, xBR, xCT, xDY, xDZ, xBS, xCU, xBT, xAX, xAy, xAY, xD0, xD1, xCV, xAZ, xA0, xBU, xBV, xAz, xAA, xA1, xAB, xAC, xA2, apart, xGZ, xAD, xAo, xA3, xA4, xBW, xCW, xCX, xA5, xBX, xA6, xAE, xAp, xAF, xBY, xBZ, xCY, xEY, xA7, xD2, xEZ, xCZ, xB0, xC0, xC1, xB1, xB2, xD3, xD4, xD5, xE0, xB3, xD6, xE1, xB4, xAG, xC2, xC3, xB5, xB6, xA8, xB7, xE2, xD7, xD8, xD9, xEa, xEb, xEc, xE3, xEd, xA9, xEe, xEf, xEg, xEh, xEi, xEj, xEk, xEl, xE4, xE5, xE6, xBa, xBb, xAH, xAI, xC4, xFQ, xE7, xE8, xE9, xB8, xEm, xB9, xC5, xBc, xC6, xCa, xBd, xEn, xC7, xCb, xCc, xCd, xCe, xBe, xAJ, xC8, xBf, xFR, xFS, xC9, xCf, xBg, xDa, xDb, xFa, xEo, xDc, xFb, xFc, xDd, xFd, xBz, xDe, xDf, xAK, xFe, xEp, xBh, xBi, xCg, xDg, xDh, xEq, xEr, xCh, xCi, xDq, xCj, xCk, xEG, xDr, xAL, xDs, xAM, xAN, xBl, xEH, xAq, xDt, xFr, xCl, xCm, xDu, xFs, xEI, xDv, xCn, xEJ, xCo, xFt, xFu, xDw, xFT, xEK, xCp, xBm, xDx, xDy, xDz, xDA, xFv, xFw, xFx, xFy, xEL, xEM, xDB, xCq, xBn, xAr, xCr, xBo, xCs, xCD, xAO, xAP, xBp, xAt, xBq, xEN, xDC, xCt, xCu, xCv, xDD, xCw, xCx, xCy, xAQ, xCM, xAf, xAj, xAh, xAk, xAg, xAl, xAs, xAm, xBr, xBs, List.zip_cons_cons, List.zip_nil_right, List.zip_nil_left, opv, xFD, xCA, xBv, xGG, xFH, xFF, xFG, List.foldl_nil, List.foldl_cons, List.map_nil, List.map_cons, ite_self, Bool.not_true, Bool.not_false, Bool.or_true, Bool.true_or, Bool.false_or, Bool.or_false, List.length_cons, List.length_nil, List.length_append, List.append_assoc, xG1, List.cons_append, List.nil_append, List.getD_cons_succ, List.getD_cons_zero, List.set_cons_succ, List.set_cons_zero, AV.cells, List.all_cons, List.all_nil, AV.isCell, Bool.and_self, Bool.and_true, Bool.true_and, Bool.and_false, Bool.false_and, if_true, if_false, Bool.false_eq_true, Bool.true_eq_false, Option.map_some, Option.map_none, xES, xFE, List.getElem?_cons_zero, List.getElem?_cons_succ, List.drop_zero, List.drop_succ_cons, List.take_succ_cons, List.take_zero, List.drop_nil, List.take_nil, Nat.zero_add, Nat.reduceAdd, Nat.reduceSub, Nat.reduceLeDiff, Nat.reduceMul, xDO, xDi, xEv, xDj, xDk, xEw, xDl, xFp, xEx, xEy, xEz, xBj, decide_true, decide_false, decide_eq_true_eq, decide_eq_false_iff_not, Bool.not_eq_true', Bool.not_eq_eq_eq_not, ne_eq, not_false_eq_true, not_true_eq_false, and_self, and_true, true_and, List.mapM_cons, List.mapM_nil, Option.pure_def, Option.bind_eq_bind, Option.bind_some, xGb, Nat.le_refl, List.append_nil, List.flatMap_nil, List.flatMap_cons, xDN, xDm, xEA, xDn, xDo, xEB, xDp, xEC, xFq, xED, xEE, xEF, xBk, xEX, xCL, List.isEmpty_nil, beq_self_eq_true, Nat.mul_one, Nat.add_zero, Nat.sub_zero, Int.toNat_natCast, Int.toNat_zero, Int.toNat_one, Int.reduceAdd, Int.reduceSub, Int.reduceMul, Int.reduceLT, Int.reduceLE, Int.reduceEq, Int.reduceToNat, Int.reduceNeg, Int.zero_add, Int.add_zero, Int.sub_zero, Int.natCast_zero, Int.natCast_one, Int.lt_irrefl, Int.zero_tmod, Nat.reduceEqDiff, Nat.reduceBEq, Nat.reduceLT, xAe, xDP, xDQ, xEV, xEW, xBE, xDV, xEU, xAb, xBx, xBy, xCJ, xCK, xBD, xCG, xBC, xDU, List.length_replicate, List.length_set, List.take_length, List.drop_length, xBF, xFf, xFg, xFh, xFi, xFj, xFk, xFl, xFm, xFn, xFo, xEs, xEt, xEu, xGE, xFL, xGd, xFN, xG2, xFM, List.modify_cons, xG3, xDT, xG4, xFO, xG5, xFP, xFK, xFJ, xG6, xGH, xG0, xAc, xCH, xCI, xEO, xEP, xDE, xEQ, xDR, xDS, xER, xAa, xBA, xBB, xDF, xDG, xCz, xCF, xDH, xCE, xDI, xBt, xFI, xBu, xDJ, xDK, xDL, h1, h64, hm64, hsh, xRH, htk]

theorem xTR (k : Nat) : W (xRI k) := by
  intro x hx
  rcases List.mem_or_eq_of_mem_set hx with h | rfl
  · rw [(List.mem_replicate.1 h).2]; omega
  · have : (2 : Nat) ^ (k % 64) < 2 ^ 64 := Nat.pow_lt_pow_right (by omega) (Nat.mod_lt _ (by omega))
    omega

theorem xRJ (k : Nat) (hk : k < 4096) (j : Nat) : mem (xRI k) j = decide (j = k) := by
  unfold mem xRI
  rw [List.getD_eq_getElem?_getD, List.getElem?_set]
  by_cases h : k / 64 = j / 64
  · rw [if_pos h, if_pos (by simp <;> omega)]
    simp only [Option.getD_some, Nat.testBit_two_pow]
    by_cases e : j = k
    · subst e; simp [hk]
    · have : ¬ k % 64 = j % 64 := by omega
      simp [e, this]
  · rw [if_neg h]
    have e : ¬ j = k := by rintro rfl; exact h rfl
    simp [e, List.getElem?_replicate]
    split <;> simp

theorem xLX (k : Nat) (hk : k < 4096) : ∃ z l, L.pcall 74 [.int .i64 (k : Nat)] = some (sw z l) ∧ HasSet (sw z l) (fun j => decide (j = k)) := by
  have hlen : (xRI k).length = k / 64 + 1 := by simp [xRI]
  refine ⟨false, xRI k, ?_, false, xRI k, rfl, xTR k, by omega, xRJ k hk⟩
  rw [xQY k hk, xSn hlen]

theorem xTn {v : AV} {S : Nat → Bool} (hv : HasSet v S) (k : Nat) (hk : k < 4096) : L.pcall 70 [v, .int .i64 (k : Nat)] = some (.bool (S k)) := by
  obtain ⟨z, l, h1, h2⟩ := xLX k hk
  obtain ⟨t, h3, h4⟩ := xNo hv h2
  obtain ⟨za, a, rfl, wa, la, ha⟩ := id hv
  have e : t = S k := by
    rw [Bool.eq_iff_iff, h4]
    constructor
    · rintro ⟨j, hj, hk⟩
      simp only [decide_eq_true_eq] at hk
      rw [← hk]; exact hj
    · intro h
      exact ⟨k, h, by simp⟩
  rw [e] at h3
  rw [xVM, a70, xAt]
  simp (maxSteps := 2000000) (disch := first | assumption | omega | (simp only [List.length_cons, List.length_nil, List.length_append, List.length_set, List.length_replicate, List.length_map, List.length_range, List.length_take, List.length_drop, List.all_cons, List.all_nil, AV.isCell, Bool.and_self, Bool.and_true, xAe, xAb, xAc, xAa] <;> omega) | rfl | decide) only [xDW, xAu, xBG, xCN, xBH, xCO, xCP, xAR, xBI, xAv, xAi, xAS, xAw, xAT, xAn, xAU, xBJ, xBK, xBL, xBM, xCQ, xAV, xCR, xBN, xCS, xDX, xBO, xBP, xAW, xAx, xBQ, xBR, xCT, xDY, xDZ, xBS, xCU, xBT, xAX, xAy, xAY, xD0, xD1, xCV, xAZ, xA0, xBU, xBV, xAz, xAA, xA1, xAB, xAC, xA2, apart, xGZ, xAD, xAo, xA3, xA4, xBW, xCW, xCX, xA5, xBX, xA6, xAE, xAp, xAF, xBY, xBZ, xCY, xEY, xA7, xD2, xEZ, xCZ, xB0, xC0, xC1, xB1, xB2, xD3, xD4, xD5, xE0, xB3, xD6, xE1, xB4, xAG, xC2, xC3, xB5, xB6, xA8, xB7, xE2, xD7, xD8, xD9, xEa, xEb, xEc, xE3, xEd, xA9, xEe, xEf, xEg, xEh, xEi, xEj, xEk, xEl, xE4, xE5, xE6, xBa, xBb, xAH, xAI, xC4, xFQ, xE7, xE8, xE9, xB8, xEm, xB9, xC5, xBc, xC6, xCa, xBd, xEn, xC7, xCb, xCc, xCd, xCe, xBe, xAJ, xC8, xBf, xFR, xFS, xC9, xCf, xBg, xDa, xDb, xFa, xEo, xDc, xFb, xFc, xDd, xFd, xBz, xDe, xDf, xAK, xFe, xEp, xBh, xBi, xCg, xDg, xDh, xEq, xEr, xCh, xCi, xDq, xCj, xCk, xEG, xDr, xAL, xDs, xAM, xAN, xBl, xEH, xAq, xDt, xFr, xCl, xCm, xDu, xFs, xEI, xDv, xCn, xEJ, xCo, xFt, xFu, xDw, xFT, xEK, xCp, xBm, xDx, xDy, xDz, xDA, xFv, xFw, xFx, xFy, xEL, xEM, xDB, xCq, xBn, xAr, xCr, xBo, xCs, xCD, xAO, xAP, xBp, xAt, xBq, xEN, xDC, xCt, xCu, xCv, xDD, xCw, xCx, xCy, xAQ, xCM, xAf, xAj, xAh, xAk, xAg, xAl, xAs, xAm, xBr, xBs, List.zip_cons_cons, List.zip_nil_right, List.zip_nil_left, opv, xFD, xCA, xBv, xGG, xFH, xFF, xFG, List.foldl_nil, List.foldl_cons, List.map_nil, List.map_cons, ite_self, Bool.not_true, Bool.not_false, Bool.or_true, Bool.true_or, Bool.false_or, Bool.or_false, List.length_cons, List.length_nil, List.length_append, List.append_assoc, xG1, List.cons_append, List.nil_append, List.getD_cons_succ, List.getD_cons_zero, List.set_cons_succ, List.set_cons_zero, AV.cells, List.all_cons, List.all_nil, AV.isCell, Bool.and_self, Bool.and_true, Bool.true_and, Bool.and_false, Bool.false_and, if_true, if_false, Bool.false_eq_true, Bool.true_eq_false, Option.map_some, Option.map_none, xES, xFE, List.getElem?_cons_zero, List.getElem?_cons_succ, List.drop_zero, List.drop_succ_cons, List.take_succ_cons, List.take_zero, List.drop_nil, List.take_nil, Nat.zero_add, Nat.reduceAdd, Nat.reduceSub, Nat.reduceLeDiff, Nat.reduceMul, xDO, xDi, xEv, xDj, xDk, xEw, xDl, xFp, xEx, xEy, xEz, xBj, decide_true, decide_false, decide_eq_true_eq, decide_eq_false_iff_not, Bool.not_eq_true', Bool.not_eq_eq_eq_not, ne_eq, not_false_eq_true, not_true_eq_false, and_self, and_true, true_and, List.mapM_cons, List.mapM_nil, Option.pure_def, Option.bind_eq_bind, Option.bind_some, xGb, Nat.le_refl, List.append_nil, List.flatMap_nil, List.flatMap_cons, xDN, xDm, xEA, xDn, xDo, xEB, xDp, xEC, xFq, xED, xEE, xEF, xBk, xEX, xCL, List.isEmpty_nil, beq_self_eq_true, Nat.mul_one, Nat.add_zero, Nat.sub_zero, Int.toNat_natCast, Int.toNat_zero, Int.toNat_one, Int.reduceAdd, Int.reduceSub, Int.reduceMul, Int.reduceLT, Int.reduceLE, Int.reduceEq, Int.reduceToNat, Int.reduceNeg, Int.zero_add, Int.add_zero, Int.sub_zero, Int.natCast_zero, Int.natCast_one, Int.lt_irrefl, Int.zero_tmod, Nat.reduceEqDiff, Nat.reduceBEq, Nat.reduceLT, xAe, xDP, xDQ, xEV, xEW, xBE, xDV, xEU, xAb, xBx, xBy, xCJ, xCK, xBD, xCG, xBC, xDU, List.length_replicate, List.length_set, List.take_length, List.drop_length, xBF, xFf, xFg, xFh, xFi, xFj, xFk, xFl, xFm, xFn, xFo, xEs, xEt, xEu, xGE, xFL, xGd, xFN, xG2, xFM, List.modify_cons, xG3, xDT, xG4, xFO, xG5, xFP, xFK, xFJ, xG6, xGH, xG0, xAc, xCH, xCI, xEO, xEP, xDE, xEQ, xDR, xDS, xER, xAa, xBA, xBB, xDF, xDG, xCz, xCF, xDH, xCE, xDI, xBt, xFI, xBu, xDJ, xDK, xDL, h1, h3]

theorem xRK {v : AV} {S : Nat → Bool} (hv : HasSet v S) (k : Nat) (hk : k < 4096) : ∃ z l, L.pcall 63 [v, .int .i64 (k : Nat)] = some (sw z l) ∧ HasSet (sw z l) (fun j => S j || decide (j = k)) := by
  obtain ⟨z, l, h1, h2⟩ := xLX k hk
  obtain ⟨z', l', h3, h4⟩ := xQX hv h2
  obtain ⟨za, a, rfl, wa, la, ha⟩ := id hv
  refine ⟨z', l', ?_, h4⟩
  rw [xVJ, a63, xAt]
  simp (maxSteps := 2000000) (disch := first | assumption | omega | (simp only [List.length_cons, List.length_nil, List.length_append, List.length_set, List.length_replicate, List.length_map, List.length_range, List.length_take, List.length_drop, List.all_cons, List.all_nil, AV.isCell, Bool.and_self, Bool.and_true, xAe, xAb, xAc, xAa] <;> omega) | rfl | decide) only [xDW, xAu, xBG, xCN, xBH, xCO, xCP, xAR, xBI, xAv, xAi, xAS, xAw, xAT, xAn, xAU, xBJ, xBK, xBL, xBM, xCQ, xAV, xCR, xBN, xCS, xDX, xBO, xBP, xAW, xAx, xBQ, xBR, xCT, xDY, xDZ, xBS, xCU, xBT, xAX, xAy, xAY, xD0, xD1, xCV, xAZ, xA0, xBU, xBV, xAz, xAA, xA1, xAB, xAC, xA2, apart, xGZ, xAD, xAo, xA3, xA4, xBW, xCW, xCX, xA5, xBX, xA6, xAE, xAp, xAF, xBY, xBZ, xCY, xEY, xA7, xD2, xEZ, xCZ, xB0, xC0, xC1, xB1, xB2, xD3, xD4, xD5, xE0, xB3, xD6, xE1, xB4, xAG, xC2, xC3, xB5, xB6, xA8, xB7, xE2, xD7, xD8, xD9, xEa, xEb, xEc, xE3, xEd, xA9, xEe, xEf, xEg, xEh, xEi, xEj, xEk, xEl, xE4, xE5, xE6, xBa, xBb, xAH, xAI, xC4, xFQ, xE7, xE8, xE9, xB8, xEm, xB9, xC5, xBc, xC6, xCa, xBd, xEn, xC7, xCb, xCc, xCd, xCe, xBe, xAJ, xC8, xBf, xFR, xFS, xC9, xCf, xBg, xDa, xDb, xFa, xEo, xDc, xFb, xFc, xDd, xFd, xBz, xDe, xDf, xAK, xFe, xEp, xBh, xBi, xCg, xDg, xDh, xEq, xEr, xCh, xCi, xDq, xCj, xCk, xEG, xDr, xAL, xDs, xAM, xAN, xBl, xEH, xAq, xDt, xFr, xCl, xCm, xDu, xFs, xEI, xDv, xCn, xEJ, xCo, xFt, xFu, xDw, xFT, xEK, xCp, xBm, xDx, xDy, xDz, xDA, xFv, xFw, xFx, xFy, xEL, xEM, xDB, xCq, xBn, xAr, xCr, xBo, xCs, xCD, xAO, xAP, xBp, xAt, xBq, xEN, xDC, xCt, xCu, xCv, xDD, xCw, xCx, xCy, xAQ, xCM, xAf, xAj, xAh, xAk, xAg, xAl, xAs, xAm, xBr, xBs, List.zip_cons_cons, List.zip_nil_right, List.zip_nil_left, opv, xFD, xCA, xBv, xGG, xFH, xFF, xFG, List.foldl_nil, List.foldl_cons, List.map_nil, List.map_cons, ite_self, Bool.not_true, Bool.not_false, Bool.or_true, Bool.true_or, Bool.false_or, Bool.or_false, List.length_cons, List.length_nil, List.length_append, List.append_assoc, xG1, List.cons_append, List.nil_append, List.getD_cons_succ, List.getD_cons_zero, List.set_cons_succ, List.set_cons_zero, AV.cells, List.all_cons, List.all_nil, AV.isCell, Bool.and_self, Bool.and_true, Bool.true_and, Bool.and_false, Bool.false_and, if_true, if_false, Bool.false_eq_true, Bool.true_eq_false, Option.map_some, Option.map_none, xES, xFE, List.getElem?_cons_zero, List.getElem?_cons_succ, List.drop_zero, List.drop_succ_cons, List.take_succ_cons, List.take_zero, List.drop_nil, List.take_nil, Nat.zero_add, Nat.reduceAdd, Nat.reduceSub, Nat.reduceLeDiff, Nat.reduceMul, xDO, xDi, xEv, xDj, xDk, xEw, xDl, xFp, xEx, xEy, xEz, xBj, decide_true, decide_false, decide_eq_true_eq, decide_eq_false_iff_not, Bool.not_eq_true', Bool.not_eq_eq_eq_not, ne_eq, not_false_eq_true, not_true_eq_false, and_self, and_true, true_and, List.mapM_cons, List.mapM_nil, Option.pure_def, Option.bind_eq_bind, Option.bind_some, xGb, Nat.le_refl, List.append_nil, List.flatMap_nil, List.flatMap_cons, xDN, xDm, xEA, xDn, xDo, xEB, xDp, xEC, xFq, xED, xEE, xEF, xBk, xEX, xCL, List.isEmpty_nil, beq_self_eq_true, Nat.mul_one, Nat.add_zero, Nat.sub_zero, Int.toNat_natCast, Int.toNat_zero, Int.toNat_one, Int.reduceAdd, Int.reduceSub, Int.reduceMul, Int.reduceLT, Int.reduceLE, Int.reduceEq, Int.reduceToNat, Int.reduceNeg, Int.zero_add, Int.add_zero, Int.sub_zero, Int.natCast_zero, Int.natCast_one, Int.lt_irrefl, Int.zero_tmod, Nat.reduceEqDiff, Nat.reduceBEq, Nat.reduceLT, xAe, xDP, xDQ, xEV, xEW, xBE, xDV, xEU, xAb, xBx, xBy, xCJ, xCK, xBD, xCG, xBC, xDU, List.length_replicate, List.length_set, List.take_length, List.drop_length, xBF, xFf, xFg, xFh, xFi, xFj, xFk, xFl, xFm, xFn, xFo, xEs, xEt, xEu, xGE, xFL, xGd, xFN, xG2, xFM, List.modify_cons, xG3, xDT, xG4, xFO, xG5, xFP, xFK, xFJ, xG6, xGH, xG0, xAc, xCH, xCI, xEO, xEP, xDE, xEQ, xDR, xDS, xER, xAa, xBA, xBB, xDF, xDG, xCz, xCF, xDH, xCE, xDI, xBt, xFI, xBu, xDJ, xDK, xDL, h1, h3]
end Go.Abs.Nfa
