/- Sizes, what comes in, the reversed automaton: the part of N8 that NfaReaches wants. -/
import Derived.Test.YtbfnjdhafgnlnaaAN7
import Derived.Test.YtbfnjdhafgnlnaaAwake
import Derived.Test.YtbfnjdhafgnlnaaAbsIn
namespace Go.Abs.Nfa
open Go Go.Abs
set_option linter.unusedSimpArgs false
set_option linter.unusedVariables false

theorem xVT (n : Aut) : L.pcall 8 [.sl false 1 n.cells] = some (.bool (decide (100 < n.st.length) || decide (100 < n.fi.length) || decide (520 < n.ed.length))) := by
  have e1 : ((100 : Int) < (n.st.length : Nat)) = (100 < n.st.length) := propext ⟨fun h => by omega, fun h => by omega⟩
  have e2 : ((100 : Int) < (n.fi.length : Nat)) = (100 < n.fi.length) := propext ⟨fun h => by omega, fun h => by omega⟩
  have e3 : ((520 : Int) < (n.ed.length : Nat)) = (520 < n.ed.length) := propext ⟨fun h => by omega, fun h => by omega⟩
  rw [a8p, a8, xAt]
  by_cases c1 : 100 < n.st.length
  · simp (maxSteps := 2000000) (disch := first | assumption | omega | (simp only [List.length_cons, List.length_nil, List.length_append, List.length_set, List.length_replicate, List.length_map, List.length_range, List.length_take, List.length_drop, List.all_cons, List.all_nil, AV.isCell, Bool.and_self, Bool.and_true, xAe, xAb, xAc, xAa, xAd] <;> omega) | rfl | decide) only [xDW, xAu, xBG, xCN, xBH, xCO, xCP, xAR, xBI, xAv, xAi, xAS, xAw, xAT, xAn, xAU, xBJ, xBK, xBL, xBM, xCQ, xAV, xCR, xBN, xCS, xDX, xBO, xBP, xAW, xAx, xBQ, xBR, xCT, xDY, xDZ, xBS, xCU, xBT, xAX, xAy, xAY, xD0, xD1, xCV, xAZ, xA0, xBU, xBV, xAz, xAA, xA1, xAB, xAC, xA2, apart, xGZ, xAD, xAo, xA3, xA4, xBW, xCW, xCX, xA5, xBX, xA6, xAE, xAp, xAF, xBY, xBZ, xCY, xEY, xA7, xD2, xEZ, xCZ, xB0, xC0, xC1, xB1, xB2, xD3, xD4, xD5, xE0, xB3, xD6, xE1, xB4, xAG, xC2, xC3, xB5, xB6, xA8, xB7, xE2, xD7, xD8, xD9, xEa, xEb, xEc, xE3, xEd, xA9, xEe, xEf, xEg, xEh, xEi, xEj, xEk, xEl, xE4, xE5, xE6, xBa, xBb, xAH, xAI, xC4, xFQ, xE7, xE8, xE9, xB8, xEm, xB9, xC5, xBc, xC6, xCa, xBd, xEn, xC7, xCb, xCc, xCd, xCe, xBe, xAJ, xC8, xBf, xFR, xFS, xC9, xCf, xBg, xDa, xDb, xFa, xEo, xDc, xFb, xFc, xDd, xFd, xBz, xDe, xDf, xAK, xFe, xEp, xBh, xBi, xCg, xDg, xDh, xEq, xEr, xCh, xCi, xDq, xCj, xCk, xEG, xDr, xAL, xDs, xAM, xAN, xBl, xEH, xAq, xDt, xFr, xCl, xCm, xDu, xFs, xEI, xDv, xCn, xEJ, xCo, xFt, xFu, xDw, xFT, xEK, xCp, xBm, xDx, xDy, xDz, xDA, xFv, xFw, xFx, xFy, xEL, xEM, xDB, xCq, xBn, xAr, xCr, xBo, xCs, xCD, xAO, xAP, xBp, xAt, xBq, xEN, xDC, xCt, xCu, xCv, xDD, xCw, xCx, xCy, xAQ, xCM, xAf, xAj, xAh, xAk, xAg, xAl, xAs, xAm, xBr, xBs, List.zip_cons_cons, List.zip_nil_right, List.zip_nil_left, opv, xFD, xCA, xBv, xGG, xFH, xFF, xFG, List.foldl_nil, List.foldl_cons, List.map_nil, List.map_cons, ite_self, Bool.not_true, Bool.not_false, Bool.or_true, Bool.true_or, Bool.false_or, Bool.or_false, List.length_cons, List.length_nil, List.length_append, List.append_assoc, xG1, List.cons_append, List.nil_append, List.getD_cons_succ, List.getD_cons_zero, List.set_cons_succ, List.set_cons_zero, AV.cells, List.all_cons, List.all_nil, AV.isCell, Bool.and_self, Bool.and_true, Bool.true_and, Bool.and_false, Bool.false_and, if_true, if_false, Bool.false_eq_true, Bool.true_eq_false, Option.map_some, Option.map_none, xES, xFE, List.getElem?_cons_zero, List.getElem?_cons_succ, List.drop_zero, List.drop_succ_cons, List.take_succ_cons, List.take_zero, List.drop_nil, List.take_nil, Nat.zero_add, Nat.reduceAdd, Nat.reduceSub, Nat.reduceLeDiff, Nat.reduceMul, xDO, xDi, xEv, xDj, xDk, xEw, xDl, xFp, xEx, xEy, xEz, xBj, decide_true, decide_false, decide_eq_true_eq, decide_eq_false_iff_not, Bool.not_eq_true', Bool.not_eq_eq_eq_not, ne_eq, not_false_eq_true, not_true_eq_false, and_self, and_true, true_and, List.mapM_cons, List.mapM_nil, Option.pure_def, Option.bind_eq_bind, Option.bind_some, xGb, Nat.le_refl, List.append_nil, List.flatMap_nil, List.flatMap_cons, xDN, xDm, xEA, xDn, xDo, xEB, xDp, xEC, xFq, xED, xEE, xEF, xBk, xEX, xCL, List.isEmpty_nil, beq_self_eq_true, Nat.mul_one, Nat.add_zero, Nat.sub_zero, Int.toNat_natCast, Int.toNat_zero, Int.toNat_one, Int.reduceAdd, Int.reduceSub, Int.reduceMul, Int.reduceLT, Int.reduceLE, Int.reduceEq, Int.reduceToNat, Int.reduceNeg, Int.zero_add, Int.add_zero, Int.sub_zero, Int.natCast_zero, Int.natCast_one, Int.lt_irrefl, Int.zero_tmod, Nat.reduceEqDiff, Nat.reduceBEq, Nat.reduceLT, xAe, xDP, xDQ, xEV, xEW, xBE, xDV, xEU, xAb, xBx, xBy, xCJ, xCK, xBD, xCG, xBC, xDU, List.length_replicate, List.length_set, List.take_length, List.drop_length, xBF, xFf, xFg, xFh, xFi, xFj, xFk, xFl, xFm, xFn, xFo, xEs, xEt, xEu, xGE, xFL, xGd, xFN, xG2, xFM, List.modify_cons, xG3, xDT, xG4, xFO, xG5, xFP, xFK, xFJ, xG6, xGH, xG0, xAc, xCH, xCI, xEO, xEP, xDE, xEQ, xDR, xDS, xER, xAa, xBA, xBB, xDF, xDG, xCz, xCF, xDH, xCE, xDI, xBt, xFI, xBu, xDJ, xDK, xDL, xAd, xET, xFB, xFC, xKM, xKN, xJ6, e1, c1]
  · by_cases c2 : 100 < n.fi.length
    · simp (maxSteps := 2000000) (disch := first | assumption | omega | (simp only [List.length_cons, List.length_nil, List.length_append, List.length_set, List.length_replicate, List.length_map, List.length_range, List.length_take, List.length_drop, List.all_cons, List.all_nil, AV.isCell, Bool.and_self, Bool.and_true, xAe, xAb, xAc, xAa, xAd] <;> omega) | rfl | decide) only [xDW, xAu, xBG, xCN, xBH, xCO, xCP, xAR, xBI, xAv, xAi, xAS, xAw, xAT, xAn, xAU, xBJ, xBK, xBL, xBM, xCQ, xAV, xCR, xBN, xCS, xDX, xBO, xBP, xAW, xAx, xBQ, xBR, xCT, xDY, xDZ, xBS, xCU, xBT, xAX, xAy, xAY, xD0, xD1, xCV, xAZ, xA0, xBU, xBV, xAz, xAA, xA1, xAB, xAC, xA2, apart, xGZ, xAD, xAo, xA3, xA4, xBW, xCW, xCX, xA5, xBX, xA6, xAE, xAp, xAF, xBY, xBZ, xCY, xEY, xA7, xD2, xEZ, xCZ, xB0, xC0, xC1, xB1, xB2, xD3, xD4, xD5, xE0, xB3, xD6, xE1, xB4, xAG, xC2, xC3, xB5, xB6, xA8, xB7, xE2, xD7, xD8, xD9, xEa, xEb, xEc, xE3, xEd, xA9, xEe, xEf, xEg, xEh, xEi, xEj, xEk, xEl, xE4, xE5, xE6, xBa, xBb, xAH, xAI, xC4, xFQ, xE7, xE8, xE9, xB8, xEm, xB9, xC5, xBc, xC6, xCa, xBd, xEn, xC7, xCb, xCc, xCd, xCe, xBe, xAJ, xC8, xBf, xFR, xFS, xC9, xCf, xBg, xDa, xDb, xFa, xEo, xDc, xFb, xFc, xDd, xFd, xBz, xDe, xDf, xAK, xFe, xEp, xBh, xBi, xCg, xDg, xDh, xEq, xEr, xCh, xCi, xDq, xCj, xCk, xEG, xDr, xAL, xDs, xAM, xAN, xBl, xEH, xAq, xDt, xFr, xCl, xCm, xDu, xFs, xEI, xDv, xCn, xEJ, xCo, xFt, xFu, xDw, xFT, xEK, xCp, xBm, xDx, xDy, xDz, xDA, xFv, xFw, xFx, xFy, xEL, xEM, xDB, xCq, xBn, xAr, xCr, xBo, xCs, xCD, xAO, xAP, xBp, xAt, xBq, xEN, xDC, xCt, xCu, xCv, xDD, xCw, xCx, xCy, xAQ, xCM, xAf, xAj, xAh, xAk, xAg, xAl, xAs, xAm, xBr, xBs, List.zip_cons_cons, List.zip_nil_right, List.zip_nil_left, opv, xFD, xCA, xBv, xGG, xFH, xFF, xFG, List.foldl_nil, List.foldl_cons, List.map_nil, List.map_cons, ite_self, Bool.not_true, Bool.not_false, Bool.or_true, Bool.true_or, Bool.false_or, Bool.or_false, List.length_cons, List.length_nil, List.length_append, List.append_assoc, xG1, List.cons_append, List.nil_append, List.getD_cons_succ, List.getD_cons_zero, List.set_cons_succ, List.set_cons_zero, AV.cells, List.all_cons, List.all_nil, AV.isCell, Bool.and_self, Bool.and_true, Bool.true_and, Bool.and_false, Bool.false_and, if_true, if_false, Bool.false_eq_true, Bool.true_eq_false, Option.map_some, Option.map_none, xES, xFE, List.getElem?_cons_zero, List.getElem?_cons_succ, List.drop_zero, List.drop_succ_cons, List.take_succ_cons, List.take_zero, List.drop_nil, List.take_nil, Nat.zero_add, Nat.reduceAdd, Nat.reduceSub, Nat.reduceLeDiff, Nat.reduceMul, xDO, xDi, xEv, xDj, xDk, xEw, xDl, xFp, xEx, xEy, xEz, xBj, decide_true, decide_false, decide_eq_true_eq, decide_eq_false_iff_not, Bool.not_eq_true', Bool.not_eq_eq_eq_not, ne_eq, not_false_eq_true, not_true_eq_false, and_self, and_true, true_and, List.mapM_cons, List.mapM_nil, Option.pure_def, Option.bind_eq_bind, Option.bind_some, xGb, Nat.le_refl, List.append_nil, List.flatMap_nil, List.flatMap_cons, xDN, xDm, xEA, xDn, xDo, xEB, xDp, xEC, xFq, xED, xEE, xEF, xBk, xEX, xCL, List.isEmpty_nil, beq_self_eq_true, Nat.mul_one, Nat.add_zero, Nat.sub_zero, Int.toNat_natCast, Int.toNat_zero, Int.toNat_one, Int.reduceAdd, Int.reduceSub, Int.reduceMul, Int.reduceLT, Int.reduceLE, Int.reduceEq, Int.reduceToNat, Int.reduceNeg, Int.zero_add, Int.add_zero, Int.sub_zero, Int.natCast_zero, Int.natCast_one, Int.lt_irrefl, Int.zero_tmod, Nat.reduceEqDiff, Nat.reduceBEq, Nat.reduceLT, xAe, xDP, xDQ, xEV, xEW, xBE, xDV, xEU, xAb, xBx, xBy, xCJ, xCK, xBD, xCG, xBC, xDU, List.length_replicate, List.length_set, List.take_length, List.drop_length, xBF, xFf, xFg, xFh, xFi, xFj, xFk, xFl, xFm, xFn, xFo, xEs, xEt, xEu, xGE, xFL, xGd, xFN, xG2, xFM, List.modify_cons, xG3, xDT, xG4, xFO, xG5, xFP, xFK, xFJ, xG6, xGH, xG0, xAc, xCH, xCI, xEO, xEP, xDE, xEQ, xDR, xDS, xER, xAa, xBA, xBB, xDF, xDG, xCz, xCF, xDH, xCE, xDI, xBt, xFI, xBu, xDJ, xDK, xDL, xAd, xET, xFB, xFC, xKM, xKN, xJ6, e1, e2, c1, c2]
    · by_cases c3 : 520 < n.ed.length
      · simp (maxSteps := 2000000) (disch := first | assumption | omega | (simp only [List.length_cons, List.length_nil, List.length_append, List.length_set, List.length_replicate, List.length_map, List.length_range, List.length_take, List.length_drop, List.all_cons, List.all_nil, AV.isCell, Bool.and_self, Bool.and_true, xAe, xAb, xAc, xAa, xAd] <;> omega) | rfl | decide) only [xDW, xAu, xBG, xCN, xBH, xCO, xCP, xAR, xBI, xAv, xAi, xAS, xAw, xAT, xAn, xAU, xBJ, xBK, xBL, xBM, xCQ, xAV, xCR, xBN, xCS, xDX, xBO, xBP, xAW, xAx, xBQ, xBR, xCT, xDY, xDZ, xBS, xCU, xBT, xAX, xAy, xAY, xD0, xD1, xCV, xAZ, xA0, xBU, xBV, xAz, xAA, xA1, xAB, xAC, xA2, apart, xGZ, xAD, xAo, xA3, xA4, xBW, xCW, xCX, xA5, xBX, xA6, xAE, xAp, xAF, xBY, xBZ, xCY, xEY, xA7, xD2, xEZ, xCZ, xB0, xC0, xC1, xB1, xB2, xD3, xD4, xD5, xE0, xB3, xD6, xE1, xB4, xAG, xC2, xC3, xB5, xB6, xA8, xB7, xE2, xD7, xD8, xD9, xEa, xEb, xEc, xE3, xEd, xA9, xEe, xEf, xEg, xEh, xEi, xEj, xEk, xEl, xE4, xE5, xE6, xBa, xBb, xAH, xAI, xC4, xFQ, xE7, xE8, xE9, xB8, xEm, xB9, xC5, xBc, xC6, xCa, xBd, xEn, xC7, xCb, xCc, xCd, xCe, xBe, xAJ, xC8, xBf, xFR, xFS, xC9, xCf, xBg, xDa, xDb, xFa, xEo, xDc, xFb, xFc, xDd, xFd, xBz, xDe, xDf, xAK, xFe, xEp, xBh, xBi, xCg, xDg, xDh, xEq, xEr, xCh, xCi, xDq, xCj, xCk, xEG, xDr, xAL, xDs, xAM, xAN, xBl, xEH, xAq, xDt, xFr, xCl, xCm, xDu, xFs, xEI, xDv, xCn, xEJ, xCo, xFt, xFu, xDw, xFT, xEK, xCp, xBm, xDx, xDy, xDz, xDA, xFv, xFw, xFx, xFy, xEL, xEM, xDB, xCq, xBn, xAr, xCr, xBo, xCs, xCD, xAO, xAP, xBp, xAt, xBq, xEN, xDC, xCt, xCu, xCv, xDD, xCw, xCx, xCy, xAQ, xCM, xAf, xAj, xAh, xAk, xAg, xAl, xAs, xAm, xBr, xBs, List.zip_cons_cons, List.zip_nil_right, List.zip_nil_left, opv, xFD, xCA, xBv, xGG, xFH, xFF, xFG, List.foldl_nil, List.foldl_cons, List.map_nil, List.map_cons, ite_self, Bool.not_true, Bool.not_false, Bool.or_true, Bool.true_or, Bool.false_or, Bool.or_false, List.length_cons, List.length_nil, List.length_append, List.append_assoc, xG1, List.cons_append, List.nil_append, List.getD_cons_succ, List.getD_cons_zero, List.set_cons_succ, List.set_cons_zero, AV.cells, List.all_cons, List.all_nil, AV.isCell, Bool.and_self, Bool.and_true, Bool.true_and, Bool.and_false, Bool.false_and, if_true, if_false, Bool.false_eq_true, Bool.true_eq_false, Option.map_some, Option.map_none, xES, xFE, List.getElem?_cons_zero, List.getElem?_cons_succ, List.drop_zero, List.drop_succ_cons, List.take_succ_cons, List.take_zero, List.drop_nil, List.take_nil, Nat.zero_add, Nat.reduceAdd, Nat.reduceSub, Nat.reduceLeDiff, Nat.reduceMul, xDO, xDi, xEv, xDj, xDk, xEw, xDl, xFp, xEx, xEy, xEz, xBj, decide_true, decide_false, decide_eq_true_eq, decide_eq_false_iff_not, Bool.not_eq_true', Bool.not_eq_eq_eq_not, ne_eq, not_false_eq_true, not_true_eq_false, and_self, and_true, true_and, List.mapM_cons, List.mapM_nil, Option.pure_def, Option.bind_eq_bind, Option.bind_some, xGb, Nat.le_refl, List.append_nil, List.flatMap_nil, List.flatMap_cons, xDN, xDm, xEA, xDn, xDo, xEB, xDp, xEC, xFq, xED, xEE, xEF, xBk, xEX, xCL, List.isEmpty_nil, beq_self_eq_true, Nat.mul_one, Nat.add_zero, Nat.sub_zero, Int.toNat_natCast, Int.toNat_zero, Int.toNat_one, Int.reduceAdd, Int.reduceSub, Int.reduceMul, Int.reduceLT, Int.reduceLE, Int.reduceEq, Int.reduceToNat, Int.reduceNeg, Int.zero_add, Int.add_zero, Int.sub_zero, Int.natCast_zero, Int.natCast_one, Int.lt_irrefl, Int.zero_tmod, Nat.reduceEqDiff, Nat.reduceBEq, Nat.reduceLT, xAe, xDP, xDQ, xEV, xEW, xBE, xDV, xEU, xAb, xBx, xBy, xCJ, xCK, xBD, xCG, xBC, xDU, List.length_replicate, List.length_set, List.take_length, List.drop_length, xBF, xFf, xFg, xFh, xFi, xFj, xFk, xFl, xFm, xFn, xFo, xEs, xEt, xEu, xGE, xFL, xGd, xFN, xG2, xFM, List.modify_cons, xG3, xDT, xG4, xFO, xG5, xFP, xFK, xFJ, xG6, xGH, xG0, xAc, xCH, xCI, xEO, xEP, xDE, xEQ, xDR, xDS, xER, xAa, xBA, xBB, xDF, xDG, xCz, xCF, xDH, xCE, xDI, xBt, xFI, xBu, xDJ, xDK, xDL, xAd, xET, xFB, xFC, xKM, xKN, xJ6, e1, e2, e3, c1, c2, c3]
      · simp (maxSteps := 2000000) (disch := first | assumption | omega | (simp only [List.length_cons, List.length_nil, List.length_append, List.length_set, List.length_replicate, List.length_map, List.length_range, List.length_take, List.length_drop, List.all_cons, List.all_nil, AV.isCell, Bool.and_self, Bool.and_true, xAe, xAb, xAc, xAa, xAd] <;> omega) | rfl | decide) only [xDW, xAu, xBG, xCN, xBH, xCO, xCP, xAR, xBI, xAv, xAi, xAS, xAw, xAT, xAn, xAU, xBJ, xBK, xBL, xBM, xCQ, xAV, xCR, xBN, xCS, xDX, xBO, xBP, xAW, xAx, xBQ, xBR, xCT, xDY, xDZ, xBS, xCU, xBT, xAX, xAy, xAY, xD0, xD1, xCV, xAZ, xA0, xBU, xBV, xAz, xAA, xA1, xAB, xAC, xA2, apart, xGZ, xAD, xAo, xA3, xA4, xBW, xCW, xCX, xA5, xBX, xA6, xAE, xAp, xAF, xBY, xBZ, xCY, xEY, xA7, xD2, xEZ, xCZ, xB0, xC0, xC1, xB1, xB2, xD3, xD4, xD5, xE0, xB3, xD6, xE1, xB4, xAG, xC2, xC3, xB5, xB6, xA8, xB7, xE2, xD7, xD8, xD9, xEa, xEb, xEc, xE3, xEd, xA9, xEe, xEf, xEg, xEh, xEi, xEj, xEk, xEl, xE4, xE5, xE6, xBa, xBb, xAH, xAI, xC4, xFQ, xE7, xE8, xE9, xB8, xEm, xB9, xC5, xBc, xC6, xCa, xBd, xEn, xC7, xCb, xCc, xCd, xCe, xBe, xAJ, xC8, xBf, xFR, xFS, xC9, xCf, xBg, xDa, xDb, xFa, xEo, xDc, xFb, xFc, xDd, xFd, xBz, xDe, xDf, xAK, xFe, xEp, xBh, xBi, xCg, xDg, xDh, xEq, xEr, xCh, xCi, xDq, xCj, xCk, xEG, xDr, xAL, xDs, xAM, xAN, xBl, xEH, xAq, xDt, xFr, xCl, xCm, xDu, xFs, xEI, xDv, xCn, xEJ, xCo, xFt, xFu, xDw, xFT, xEK, xCp, xBm, xDx, xDy, xDz, xDA, xFv, xFw, xFx, xFy, xEL, xEM, xDB, xCq, xBn, xAr, xCr, xBo, xCs, xCD, xAO, xAP, xBp, xAt, xBq, xEN, xDC, xCt, xCu, xCv, xDD, xCw, xCx, xCy, xAQ, xCM, xAf, xAj, xAh, xAk, xAg, xAl, xAs, xAm, xBr, xBs, List.zip_cons_cons, List.zip_nil_right, List.zip_nil_left, opv, xFD, xCA, xBv, xGG, xFH, xFF, xFG, List.foldl_nil, List.foldl_cons, List.map_nil, List.map_cons, ite_self, Bool.not_true, Bool.not_false, Bool.or_true, Bool.true_or, Bool.false_or, Bool.or_false, List.length_cons, List.length_nil, List.length_append, List.append_assoc, xG1, List.cons_append, List.nil_append, List.getD_cons_succ, List.getD_cons_zero, List.set_cons_succ, List.set_cons_zero, AV.cells, List.all_cons, List.all_nil, AV.isCell, Bool.and_self, Bool.and_true, Bool.true_and, Bool.and_false, Bool.false_and, if_true, if_false, Bool.false_eq_true, Bool.true_eq_false, Option.map_some, Option.map_none, xES, xFE, List.getElem?_cons_zero, List.getElem?_cons_succ, List.drop_zero, List.drop_succ_cons, List.take_succ_cons, List.take_zero, List.drop_nil, List.take_nil, Nat.zero_add, Nat.reduceAdd, Nat.reduceSub, Nat.reduceLeDiff, Nat.reduceMul, xDO, xDi, xEv, xDj, xDk, xEw, xDl, xFp, xEx, xEy, xEz, xBj, decide_true, decide_false, decide_eq_true_eq, decide_eq_false_iff_not, Bool.not_eq_true', Bool.not_eq_eq_eq_not, ne_eq, not_false_eq_true, not_true_eq_false, and_self, and_true, true_and, List.mapM_cons, List.mapM_nil, Option.pure_def, Option.bind_eq_bind, Option.bind_some, xGb, Nat.le_refl, List.append_nil, List.flatMap_nil, List.flatMap_cons, xDN, xDm, xEA, xDn, xDo, xEB, xDp, xEC, xFq, xED, xEE, xEF, xBk, xEX, xCL, List.isEmpty_nil, beq_self_eq_true, Nat.mul_one, Nat.add_zero, Nat.sub_zero, Int.toNat_natCast, Int.toNat_zero, Int.toNat_one, Int.reduceAdd, Int.reduceSub, Int.reduceMul, Int.reduceLT, Int.reduceLE, Int.reduceEq, Int.reduceToNat, Int.reduceNeg, Int.zero_add, Int.add_zero, Int.sub_zero, Int.natCast_zero, Int.natCast_one, Int.lt_irrefl, Int.zero_tmod, Nat.reduceEqDiff, Nat.reduceBEq, Nat.reduceLT, xAe, xDP, xDQ, xEV, xEW, xBE, xDV, xEU, xAb, xBx, xBy, xCJ, xCK, xBD, xCG, xBC, xDU, List.length_replicate, List.length_set, List.take_length, List.drop_length, xBF, xFf, xFg, xFh, xFi, xFj, xFk, xFl, xFm, xFn, xFo, xEs, xEt, xEu, xGE, xFL, xGd, xFN, xG2, xFM, List.modify_cons, xG3, xDT, xG4, xFO, xG5, xFP, xFK, xFJ, xG6, xGH, xG0, xAc, xCH, xCI, xEO, xEP, xDE, xEQ, xDR, xDS, xER, xAa, xBA, xBB, xDF, xDG, xCz, xCF, xDH, xCE, xDI, xBt, xFI, xBu, xDJ, xDK, xDL, xAd, xET, xFB, xFC, xKM, xKN, xJ6, e1, e2, e3, c1, c2, c3]

abbrev xTs : TS := ⟨true, [.int .i64, .int .i64, .sl [.int .i64], .sl [.int .i64], .sl [.int .i64, .int .i64, .int .u8, .int .u8]]⟩
abbrev xTH : TS := ⟨false, [.sl [.int .u8]]⟩
abbrev TU8 : TS := ⟨false, [.int .u8]⟩
abbrev xXC : TS := ⟨false, [.sl [.int .u64]]⟩

theorem xNd : ∀ (cs : List AV), (∀ x ∈ cs, Fit (.int .i64) x) → ∃ l : List Int, cs = xHV l
  | [], _ => ⟨[], rfl⟩
  | a :: cs, h => by
    obtain ⟨n, rfl, _⟩ := xLg (h a (by simp))
    obtain ⟨l, rfl⟩ := xNd cs (fun x hx => h x (by simp [hx]))
    exact ⟨n :: l, rfl⟩

theorem xSi {a : AV} (h : Fit (.sl [.int .i64]) a) : ∃ z l, a = iw z l ∧ (z = true → l = []) := by
  obtain ⟨z, cs, rfl, hz, hl, hf⟩ := xQL h
  obtain ⟨l, rfl⟩ := xNd cs hf
  exact ⟨z, l, by rw [xAa], fun e => List.map_eq_nil_iff.1 (hz e)⟩

theorem xOI : ∀ (rs : List (List AV)), (∀ r ∈ rs, r.length = 4) → (∀ r ∈ rs, ∀ (i : Nat) (c : CS) (a : AV), ([.int .i64, .int .i64, .int .u8, .int .u8] : List CS)[i]? = some c → r[i]? = some a → Fit c a) →
    ∃ l : List Ed, rs.flatten = xGY l ∧ l.length = rs.length ∧ ∀ e ∈ l, e.p < 256 ∧ e.n < 256
  | [], _, _ => ⟨[], rfl, rfl, by simp⟩
  | r :: rs, hl, hf => by
    obtain ⟨l, h1, h2, h3⟩ := xOI rs (fun r hr => hl r (by simp [hr])) (fun r hr => hf r (by simp [hr]))
    have hr := hl r (by simp)
    match r, hr with
    | [x0, x1, x2, x3], _ =>
      have hfr := hf [x0, x1, x2, x3] (by simp)
      obtain ⟨a, rfl, _⟩ := xLg (hfr 0 _ _ rfl rfl)
      obtain ⟨b, rfl, _⟩ := xLg (hfr 1 _ _ rfl rfl)
      obtain ⟨p, rfl, hp⟩ := xQK (hfr 2 _ _ rfl rfl)
      obtain ⟨n, rfl, hn⟩ := xQK (hfr 3 _ _ rfl rfl)
      refine ⟨⟨a, b, p, n⟩ :: l, ?_, by simp [h2], ?_⟩
      · rw [List.flatten_cons, h1]; rfl
      · intro e he
        rcases List.mem_cons.1 he with rfl | he
        · exact ⟨hp, hn⟩
        · exact h3 e he

theorem xTe {a : AV} (h : Fit (.sl [.int .i64, .int .i64, .int .u8, .int .u8]) a) : ∃ z l, a = .sl z l.length (xGY l) ∧ (z = true → l = []) ∧ ∀ e ∈ l, e.p < 256 ∧ e.n < 256 := by
  cases h with
  | nil => exact ⟨true, [], rfl, fun _ => rfl, by simp⟩
  | @sl _ rs hn hl hr =>
    obtain ⟨l, h1, h2, h3⟩ := xOI rs hl hr
    exact ⟨false, l, by rw [h1, h2], by simp, h3⟩

theorem xOJ {a : AV} (h : xQO xTs a) : ∃ n : Aut, a = n.av ∧ (n.z1 = true → n.st = []) ∧ (n.z2 = true → n.fi = []) ∧ (n.z3 = true → n.ed = []) ∧ ∀ e ∈ n.ed, e.p < 256 ∧ e.n < 256 := by
  obtain ⟨cs, rfl, h'⟩ := xQM h
  obtain ⟨a1, cs, rfl, h1, h'⟩ := xIs h'
  obtain ⟨a2, cs, rfl, h2, h'⟩ := xIs h'
  obtain ⟨a3, cs, rfl, h3, h'⟩ := xIs h'
  obtain ⟨a4, cs, rfl, h4, h'⟩ := xIs h'
  obtain ⟨a5, cs, rfl, h5, h'⟩ := xIs h'
  obtain rfl := xPh h'
  obtain ⟨v, rfl, _⟩ := xLg h1
  obtain ⟨s, rfl, _⟩ := xLg h2
  obtain ⟨z1, st, rfl, hz1⟩ := xSi h3
  obtain ⟨z2, fi, rfl, hz2⟩ := xSi h4
  obtain ⟨z3, ed, rfl, hz3, hb⟩ := xTe h5
  exact ⟨⟨v, s, z1, st, z2, fi, z3, ed⟩, rfl, hz1, hz2, hz3, hb⟩

theorem xTf {a : AV} (h : xQO xTs a) : ∃ n : Aut, a = n.av ∧ (n.z1 = true → n.st = []) ∧ (n.z2 = true → n.fi = []) ∧ ∀ e ∈ n.ed, e.p < 256 ∧ e.n < 256 := by
  obtain ⟨n, h1, h2, h3, _, h4⟩ := xOJ h
  exact ⟨n, h1, h2, h3, h4⟩

theorem xTI {n : Aut} (h : Valid n) (z : Bool) : Valid (xTh n z) := by
  refine ⟨h.v0, h.v6, h.s0, h.s64, by simpa [xTh] using h.el, h.fi, h.st, ?_⟩
  have : ∀ (l : List Ed), xIf n.states n.vars.toNat (l.map xIt) = xIf n.states n.vars.toNat l := by
    intro l
    induction l with
    | nil => rfl
    | cons e l ih =>
      have : xIM n.states n.vars.toNat (xIt e) = xIM n.states n.vars.toNat e := by
        unfold xIM xIt
        simp only [Int.min_comm e.b, Int.max_comm e.b]
      show (if xIM n.states n.vars.toNat (xIt e) = 0 then _ else _) = (if xIM n.states n.vars.toNat e = 0 then _ else _)
      rw [this, ih]
  show xIf n.states n.vars.toNat (n.ed.map xIt) = 0
  rw [this]
  exact h.ed

theorem xTX {n : Aut} (h : Fits n) (z : Bool) : Fits (xTh n z) := by
  refine ⟨h.l2, h.l1, by simpa [xTh] using h.l3, fun e he => ?_⟩
  simp only [xTh, List.mem_map] at he
  obtain ⟨e', he', rfl⟩ := he
  exact h.by_ e' he'

end Go.Abs.Nfa
