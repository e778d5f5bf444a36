/- MealyMatches: the law. -/
import Derived.Test.YtkpbekcgigigkaaDoorAbsBun
import Derived.Test.YtkpbekcgigigkaaDoorAU7
namespace Go.Abs.Mealy
open Go Go.Abs
set_option linter.unusedSimpArgs false
set_option linter.unusedVariables false
set_option maxRecDepth 100000 in
theorem law3 (avs : List AV) (h : xPa [TMa,yCI,yDX] avs) : L.pcall 3 avs = some (.bool true) := by
  obtain ⟨v1,avs,rfl,f1,h⟩ := xF7 h
  obtain ⟨v2,avs,rfl,f2,h⟩ := xF7 h
  obtain ⟨v3,avs,rfl,f3,h⟩ := xF7 h
  obtain rfl := xV2 h
  obtain ⟨m,rfl,hm⟩ := yCK f1
  obtain ⟨wd,rfl,hz,hw⟩ := xRM (xYe f2)
  obtain ⟨zw,w⟩ := wd
  obtain ⟨z1,z2,p,q,rfl,hz1,hz2,hp,hq⟩ := yAS f3
  simp only at hz hw
  change L.pcall 3 [m.av,xBf zw w,las z1 z2 p q] = _
  have hk : L.pcall 13 [] = some (.bool true) := k1
  have l1 := xYc m
  have l2 := xOT z1 z2 p q
  cases c1 : xFE m with
  | true =>
    rw [c1] at l1
    simp only [las,xBf] at l2 ⊢
    unfold Mf.av
    unfold Mf.cells at l1 ⊢
    rw [a3p,a3,xAB]
    simp (maxSteps := 30000000) (disch := first | assumption | omega | (simp only [WL,AV.isCell] <;> omega) | rfl | decide) only [↓reduceIte,WB,xAL,xAb,xAK,xAp,xAo,AV.cells,AV.isCell,xAa,xAd,xAe,xAr,xAs,xAt,xAu,xAv,xAw,xAJ,xAx,xAy,xAj,xAz,xAk,xAl,xAA,xAm,xAn,xAi,Nat.reduceDiv,Nat.reduceMod,WP,xAG,xAC,xA2,xA0,xAZ,xAF,xAI,xAH,W2,xAf,xAg,xAh,Nat.reduceAdd,Nat.reduceSub,Nat.reduceLeDiff,Nat.reduceMul,Int.reduceAdd,Int.reduceSub,Int.reduceMul,Int.reduceLT,Int.reduceLE,Int.reduceEq,Int.reduceToNat,Int.reduceNeg,Nat.reduceEqDiff,Nat.reduceBEq,Nat.reduceLT,l1,hk]
  | false =>
  rw [c1] at l1
  have hS := xYd hm c1
  by_cases c3 : 70 < w.length
  · have c3' : (70 : Int) < (w.length : Nat) := by omega
    simp only [las,xBf] at l2 ⊢
    unfold Mf.av
    unfold Mf.cells at l1 ⊢
    rw [a3p,a3,xAB]
    simp (maxSteps := 30000000) (disch := first | assumption | omega | (simp only [WL,AV.isCell] <;> omega) | rfl | decide) only [↓reduceIte,WB,xAL,xAb,xAK,xAp,xAo,AV.cells,AV.isCell,xAa,xAd,xAe,xAr,xAs,xAt,xAu,xAv,xAw,xAJ,xAx,xAy,xAj,xAz,xAk,xAl,xAA,xAm,xAn,xAi,Nat.reduceDiv,Nat.reduceMod,WP,xAG,xAC,xA2,xA0,xAZ,xAF,xAI,xAH,W2,xAf,xAg,xAh,Nat.reduceAdd,Nat.reduceSub,Nat.reduceLeDiff,Nat.reduceMul,Int.reduceAdd,Int.reduceSub,Int.reduceMul,Int.reduceLT,Int.reduceLE,Int.reduceEq,Int.reduceToNat,Int.reduceNeg,Nat.reduceEqDiff,Nat.reduceBEq,Nat.reduceLT,l1,hk,c3']
  by_cases c2 : 70 < p.length ∨ 70 < q.length
  · rw [decide_eq_true c2] at l2
    have c3' : ¬ (70 : Int) < (w.length : Nat) := by omega
    simp only [las,xBf] at l2 ⊢
    unfold Mf.av
    unfold Mf.cells at l1 ⊢
    rw [a3p,a3,xAB]
    simp (maxSteps := 30000000) (disch := first | assumption | omega | (simp only [WL,AV.isCell] <;> omega) | rfl | decide) only [↓reduceIte,WB,xAL,xAb,xAK,xAp,xAo,AV.cells,AV.isCell,xAa,xAd,xAe,xAr,xAs,xAt,xAu,xAv,xAw,xAJ,xAx,xAy,xAj,xAz,xAk,xAl,xAA,xAm,xAn,xAi,Nat.reduceDiv,Nat.reduceMod,WP,xAG,xAC,xA2,xA0,xAZ,xAF,xAI,xAH,W2,xAf,xAg,xAh,Nat.reduceAdd,Nat.reduceSub,Nat.reduceLeDiff,Nat.reduceMul,Int.reduceAdd,Int.reduceSub,Int.reduceMul,Int.reduceLT,Int.reduceLE,Int.reduceEq,Int.reduceToNat,Int.reduceNeg,Nat.reduceEqDiff,Nat.reduceBEq,Nat.reduceLT,l1,l2,hk,c3']
  by_cases d1 : xFH m = 0
  · obtain ⟨M,hV,rfl⟩ : ∃ M,Vm M ∧ m = M.toF := ⟨m.fromF,(xWz hm.cn d1).1,(xWz hm.cn d1).2.symm⟩
    rw [xSP] at l1
    rw [M.toF_av]
    by_cases d2 : xLg M.i p q = 0
    · have hL := lasE_zero.1 d2
      by_cases d3 : xI5 M.i w = 0
      · rcases (xSe (zw := w.length == 0) hV d3).2 with ⟨rfl,h⟩ | h
        · exact yAf hV d3 h hL (by omega) (by omega) (by omega) l1
        · exact yAh hV d3 h hL (by omega) (by omega) (by omega) l1
      · exact yAd hV d3 hw hL (by omega) (by omega) (by omega) l1
    · by_cases d3 : xI5 M.i w = 0
      · rcases (xSe (zw := w.length == 0) hV d3).2 with ⟨rfl,h⟩ | h
        · exact yAe hV d3 h d2 hp hq (by omega) (by omega) (by omega) l1
        · exact yAg hV d3 h d2 hp hq (by omega) (by omega) (by omega) l1
      · exact yAc hV d3 hw d2 hp hq (by omega) (by omega) (by omega) l1
  · exact xXO hS d1 (by omega) (by omega) (by omega) l1 hz
end Go.Abs.Mealy
