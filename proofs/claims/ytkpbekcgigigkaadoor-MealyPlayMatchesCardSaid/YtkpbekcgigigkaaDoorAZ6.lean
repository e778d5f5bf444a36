/- MealyPlayMatches: the law. -/
import Derived.Test.YtkpbekcgigigkaaDoorAbsBun
import Derived.Test.YtkpbekcgigigkaaDoorAMC
import Derived.Test.YtkpbekcgigigkaaDoorAMB
import Derived.Test.YtkpbekcgigigkaaDoorAK1
namespace Go.Abs.Mealy
open Go Go.Abs
set_option linter.unusedSimpArgs false
set_option linter.unusedVariables false
theorem xTI {M : Ma} {N : Mo} (hO : Ok2 M N) : ∃ n0 z p' q',EndP M N n0 ∧ Canon (xAZ ((xK9 M N n0).take (pos (cfg M N n0) (xEk M N n0))) ((xK9 M N n0).drop (pos (cfg M N n0) (xEk M N n0)))) p' q' ∧
    L.pcall 32 [M.av,N.av] = some (.tup [las z false p' q',.int .i64 0]) := by
  have hc1 := xRh hO.m
  have hc2 := xRj hO.n
  have hi := hO.i
  have ho := hO.o
  obtain ⟨n0,F',G',z,p',q',k0,k1,k2,k3,k4,k5⟩ := xUF hO (M.next.length * N.next.length + 1) 0
    [.cells false false M.cells,.cells false false N.cells,.cells false false [.sl true 0 [],.sl true 0 []]] (.sl true 0 []) (.sl true 0 [])
    (by omega) (by simp [xEk]) ⟨rfl,rfl,rfl,.inl ⟨rfl,rfl,rfl,rfl⟩,by simp⟩
  refine ⟨n0,z,p',q',k0,k5,?_⟩
  have e1 : (cfg M N 0).1 = M.s := rfl
  have e2 : (cfg M N 0).2 = N.s := rfl
  rw [e1,e2] at k1
  unfold yAa at k1
  unfold Ma.av at hc1 ⊢
  unfold Mo.av at hc2 ⊢
  unfold Ma.cells at hc1 k1 ⊢
  unfold Mo.cells at hc2 k1 ⊢
  rw [hi,ho] at hc2 k1 ⊢
  rw [yAl,a32,xAm]
  simp (maxSteps := 30000000) (disch := first | assumption | omega | (simp only [WL,AV.isCell] <;> omega) | rfl | decide) only [↓reduceIte,WB,xAw,xAc,xAu,xAl,xAk,AV.cells,AV.isCell,xAb,xAd,xAe,WP,xAG,xAy,xBn,xBl,xBg,xAD,xAJ,xAH,W2,xAf,xAg,xAh,Nat.reduceAdd,Nat.reduceSub,Nat.reduceLeDiff,Nat.reduceMul,Int.reduceAdd,Int.reduceSub,Int.reduceMul,Int.reduceLT,Int.reduceLE,Int.reduceEq,Int.reduceToNat,Int.reduceNeg,Nat.reduceEqDiff,Nat.reduceBEq,Nat.reduceLT,xOR,hc1,hc2,k1,k2,k3,k4]
theorem yBX {z1 z2 : Bool} {p q : List Nat} (hp : p.length < 1000000000) (hq : q.length < 1000000000) : L.pcall 25 [.agg [.sl false p.length (bs p),.sl false q.length (bs q)],.agg [.sl z1 p.length (bs p),.sl z2 q.length (bs q)]] = some (.bool true) := xT9 false false z1 z2 p q (by omega) (by omega)
theorem yA4 : L.pcall 25 [xE6,xE6] = some (.bool true) := by
  have h := xT9 true true true true [] [] (by decide) (by decide)
  simpa [las,xBF,bs] using h
theorem law4 (avs : List AV) (h : xNS [TMa,TMo] avs) : L.pcall 4 avs = some (.bool true) := by
  obtain ⟨v1,avs,rfl,f1,h⟩ := xKo h
  obtain ⟨v2,avs,rfl,f2,h⟩ := xKo h
  obtain rfl := xUH h
  obtain ⟨m,rfl,hm⟩ := yAb f1
  obtain ⟨n,rfl,hn⟩ := yAc f2
  have hk : L.pcall 13 [] = some (.bool true) := k1
  have l1 := xWc m
  have l2 := yAg hn
  unfold Mf.av
  unfold Mf.cells at l1 ⊢
  unfold Nf.av at l2 ⊢
  unfold Nf.cells at l2 ⊢
  cases c1 : xE7 m with
  | true =>
    rw [c1] at l1
    rw [a4p,a4,xAm]
    simp (maxSteps := 30000000) (disch := first | assumption | omega | (simp only [WL,AV.isCell] <;> omega) | rfl | decide) only [↓reduceIte,WB,xAw,xAc,xAu,xAl,xAk,AV.cells,AV.isCell,xAb,xAd,xAe,WP,xAG,xAy,xBn,xBl,xBg,xAD,xAJ,xAH,W2,xAf,xAg,xAh,Nat.reduceAdd,Nat.reduceSub,Nat.reduceLeDiff,Nat.reduceMul,Int.reduceAdd,Int.reduceSub,Int.reduceMul,Int.reduceLT,Int.reduceLE,Int.reduceEq,Int.reduceToNat,Int.reduceNeg,Nat.reduceEqDiff,Nat.reduceBEq,Nat.reduceLT,l1,hk]
  | false =>
  cases c2 : xUG n with
  | true =>
    rw [c1] at l1
    rw [c2] at l2
    rw [a4p,a4,xAm]
    simp (maxSteps := 30000000) (disch := first | assumption | omega | (simp only [WL,AV.isCell] <;> omega) | rfl | decide) only [↓reduceIte,WB,xAw,xAc,xAu,xAl,xAk,AV.cells,AV.isCell,xAb,xAd,xAe,WP,xAG,xAy,xBn,xBl,xBg,xAD,xAJ,xAH,W2,xAf,xAg,xAh,Nat.reduceAdd,Nat.reduceSub,Nat.reduceLeDiff,Nat.reduceMul,Int.reduceAdd,Int.reduceSub,Int.reduceMul,Int.reduceLT,Int.reduceLE,Int.reduceEq,Int.reduceToNat,Int.reduceNeg,Nat.reduceEqDiff,Nat.reduceBEq,Nat.reduceLT,l1,l2,hk]
  | false =>
  rw [c1] at l1
  rw [c2] at l2
  have hS := xWd hm c1
  have hN := xWe hn c2
  have hg1 := xK3 hN
  have hg2 := xK4 hN
  have hin := yA4
  by_cases d1 : xKc m = 0
  · by_cases d2 : xK2 n = 0
    · by_cases d3 : m.i = n.i ∧ m.o = n.o
      · obtain ⟨v1,e1⟩ := xYv hm.cn d1
        obtain ⟨v2,e2⟩ := xYw hn.cn d2
        have hO : Ok2 m.fromF n.fromF := ⟨v1,v2,by show n.i.toNat = m.i.toNat; rw [d3.1],by show n.o.toNat = m.o.toNat; rw [d3.2]⟩
        obtain ⟨n0,p,q,k1,k2,k3,k4,k5⟩ := xUx hO
        obtain ⟨n1,z,p',q',j1,j2,j3⟩ := xTI hO
        obtain rfl := k1.uniq j1
        obtain ⟨rfl,rfl⟩ := k2.uniq j2
        rw [← Ma.toF_av,← Mo.toF_av,e1,e2] at k5 j3
        have hle := xDI k1.1 (xIf hO n0)
        rw [xCt] at hle
        have hmm := Nat.mul_le_mul hO.m.n9 hO.n.n9
        have hi := yBX (z1 := z) (z2 := false) (p := p) (q := q) (by omega) (by omega)
        rw [d2] at hg1 hg2
        unfold Mf.av Mf.cells Nf.av Nf.cells at k5 j3
        unfold Nf.av Nf.cells at hg1 hg2
        rw [a4p,a4,xAm]
        simp (maxSteps := 30000000) (disch := first | assumption | omega | (simp only [WL,AV.isCell] <;> omega) | rfl | decide) only [↓reduceIte,WB,xAw,xAc,xAu,xAl,xAk,AV.cells,AV.isCell,xAb,xAd,xAe,WP,xAG,xAy,xBn,xBl,xBg,xAD,xAJ,xAH,W2,xAf,xAg,xAh,Nat.reduceAdd,Nat.reduceSub,Nat.reduceLeDiff,Nat.reduceMul,Int.reduceAdd,Int.reduceSub,Int.reduceMul,Int.reduceLT,Int.reduceLE,Int.reduceEq,Int.reduceToNat,Int.reduceNeg,Nat.reduceEqDiff,Nat.reduceBEq,Nat.reduceLT,l1,l2,hk,k5,j3,hg1,hg2,hi]
      · have k5 := xUA hS hN d1 d2 d3
        have j3 := xUD hS hN d1 d2 d3
        rw [d2] at hg1 hg2
        unfold Mf.av Mf.cells Nf.av Nf.cells at k5 j3
        unfold Nf.av Nf.cells at hg1 hg2
        rw [a4p,a4,xAm]
        simp (maxSteps := 30000000) (disch := first | assumption | omega | (simp only [WL,AV.isCell] <;> omega) | rfl | decide) only [↓reduceIte,WB,xAw,xAc,xAu,xAl,xAk,AV.cells,AV.isCell,xAb,xAd,xAe,WP,xAG,xAy,xBn,xBl,xBg,xAD,xAJ,xAH,W2,xAf,xAg,xAh,Nat.reduceAdd,Nat.reduceSub,Nat.reduceLeDiff,Nat.reduceMul,Int.reduceAdd,Int.reduceSub,Int.reduceMul,Int.reduceLT,Int.reduceLE,Int.reduceEq,Int.reduceToNat,Int.reduceNeg,Nat.reduceEqDiff,Nat.reduceBEq,Nat.reduceLT,l1,l2,hk,k5,j3,hg1,hg2,hin]
    · have k5 := xUz hS hN d1 d2
      have j3 := xUC hS hN d1 d2
      generalize xK2 n = e at *
      unfold Mf.av Mf.cells Nf.av Nf.cells at k5 j3
      unfold Nf.av Nf.cells at hg1 hg2
      rw [a4p,a4,xAm]
      simp (maxSteps := 30000000) (disch := first | assumption | omega | (simp only [WL,AV.isCell] <;> omega) | rfl | decide) only [↓reduceIte,WB,xAw,xAc,xAu,xAl,xAk,AV.cells,AV.isCell,xAb,xAd,xAe,WP,xAG,xAy,xBn,xBl,xBg,xAD,xAJ,xAH,W2,xAf,xAg,xAh,Nat.reduceAdd,Nat.reduceSub,Nat.reduceLeDiff,Nat.reduceMul,Int.reduceAdd,Int.reduceSub,Int.reduceMul,Int.reduceLT,Int.reduceLE,Int.reduceEq,Int.reduceToNat,Int.reduceNeg,Nat.reduceEqDiff,Nat.reduceBEq,Nat.reduceLT,l1,l2,hk,k5,j3,hg1,hg2,hin]
  · have k5 := xUy (n := n) hS d1
    have j3 := xUB (n := n) hS d1
    generalize xK2 n = e at *
    generalize xKc m = e' at *
    unfold Mf.av Mf.cells Nf.av Nf.cells at k5 j3
    unfold Nf.av Nf.cells at hg1 hg2
    rw [a4p,a4,xAm]
    simp (maxSteps := 30000000) (disch := first | assumption | omega | (simp only [WL,AV.isCell] <;> omega) | rfl | decide) only [↓reduceIte,WB,xAw,xAc,xAu,xAl,xAk,AV.cells,AV.isCell,xAb,xAd,xAe,WP,xAG,xAy,xBn,xBl,xBg,xAD,xAJ,xAH,W2,xAf,xAg,xAh,Nat.reduceAdd,Nat.reduceSub,Nat.reduceLeDiff,Nat.reduceMul,Int.reduceAdd,Int.reduceSub,Int.reduceMul,Int.reduceLT,Int.reduceLE,Int.reduceEq,Int.reduceToNat,Int.reduceNeg,Nat.reduceEqDiff,Nat.reduceBEq,Nat.reduceLT,l1,l2,hk,k5,j3,hg1,hg2,hin]
end Go.Abs.Mealy
