/- MealyPlays: the law. -/
import Derived.Test.YtkpbekcgigigkaaDoorAbsBun
import Derived.Test.YtkpbekcgigigkaaDoorAMC
import Derived.Test.YtkpbekcgigigkaaDoorAMB
import Derived.Test.YtkpbekcgigigkaaDoorAK1
namespace Go.Abs.Mealy
open Go Go.Abs
set_option linter.unusedSimpArgs false
set_option linter.unusedVariables false
theorem xRn (M : Ma) : M.toF.cells = M.cells := by
  have := M.toF_av
  unfold Mf.av Ma.av at this
  injection this
set_option maxRecDepth 100000 in
set_option maxHeartbeats 4000000 in
theorem xYx {M : Ma} {N : Mo} {c : Nat} (hO : Ok2 M N) (hc : c < 256) (hl : L.pcall 11 [.sl false 1 M.cells] = some (.bool false)) (hl2 : L.pcall 30 [N.av] = some (.bool false)) : L.pcall 9 [M.av,N.av,.int .u8 (c : Nat)] = some (.bool true) := by
  have hk : L.pcall 13 [] = some (.bool true) := k1
  have io := hO.m.io
  obtain ⟨t1,t2⟩ := two_sub' (a := M.i) (by omega)
  have hb6 := xDf (v := M.i) (by omega)
  have hc22 := xRA hO.m
  have hc34 := xRC hO.n
  obtain ⟨n0,p',q',k1,k2,k3,k4,k5⟩ := xUW hO
  rw [xWJ k1] at k2
  have hle := xCW k1.1 (xOO hO n0)
  rw [xGx] at hle
  have hmm := Nat.mul_le_mul hO.m.n9 hO.n.n9
  have hSl : HasLas (las false false p' q') (SP M N) 20000000 := HasLas.mono (xOH (B := 20000000) (fun h => by cases h) (by omega) (by omega)) (Nat.le_refl _) k2.2.1
  obtain ⟨v',hpj,hv'⟩ := xOF (m := two M.i - 1) hSl (fun i => by have := yB9 hO i; omega) (by omega) (by omega)
  have hinp : ∀ i,SP M N i &&& (two M.i - 1) = SI M N i := fun i => by rw [xWK,xQP (xU6 hO i)]
  obtain ⟨y1,y2,pp,qq,rfl,hy,hpp,hqq,hsq⟩ := hv'
  have hsi : ∀ j,xAY pp qq j = SI M N j := fun j => (hsq j).trans (hinp j)
  obtain ⟨lb1,lb2⟩ := xRH hsi (fun j => xU6 hO j)
  have hck := xU2 (v := M.i) (z1 := y1) (z2 := y2) (p := pp) (q := qq) (by omega) (by omega) (by omega) (fun x hx => by have := lb1 x hx; omega) (fun x hx => by have := lb2 x hx; omega)
  have hlp := fun G g0 g1 g2 => xRI (M := M) (N := N) (p' := p') (q' := q') (n := c) (G := G) (z1' := false) (z2' := false) hO hc (by omega) (by omega) (fun h => by cases h) k2.2.1 g0 g1 g2 c 0 (Nat.zero_add _)
  have e0 : (cfg M N 0).2 = N.s := rfl
  have hi := hO.i
  have ho := hO.o
  by_cases d : xZj M.i pp qq = 0
  · have hL := lasE_zero.1 d
    rw [d] at hck
    obtain ⟨p2,q2,j1,j2,j3,j4,_⟩ := xRG y1 y2 hO.m hL
    have hSd : HasLas (las false false p2 q2) (SP M N) 20000000 := HasLas.mono (xOH (B := 20000000) (fun h => by cases h) (by omega) (by omega)) (Nat.le_refl _) (fun i => (j1.2.1 i).trans (yCa hO hL hsi i))
    have heql := xUA hSl hSd (by omega) (by omega) (fun _ => rfl)
    have hlp2 := hlp [.cells false false M.cells,.cells false false N.cells,.cells false false [xBc false p',xBc false q'],.cells false false [xBc y1 pp,xBc y2 qq],.cells false false [xBc false p2,xBc false q2]] rfl rfl rfl
    rw [e0] at hlp2
    simp only [las,xBc,Int.natCast_zero] at k5 hpj hck j4 heql hlp2 ⊢
    unfold Ma.av at hc22 k5 j4 ⊢
    unfold Mo.av at hl2 hc34 k5 ⊢
    unfold Ma.cells at hc22 k5 j4 hl hlp2 ⊢
    unfold Mo.cells at hl2 hc34 k5 hlp2 ⊢
    rw [hi,ho] at hl2 hc34 k5 hlp2 ⊢
    rw [a9p,a9,xAl]
    simp (maxSteps := 30000000) (disch := first | assumption | omega | (simp only [WL,AV.isCell] <;> omega) | rfl | decide) only [↓reduceIte,WB,xAu,xAc,xAt,xAk,xAj,AV.cells,AV.isCell,xAa,xAd,xAe,WP,xAH,xAA,xBz,xBw,xBn,xAF,xAM,xAJ,W2,xAf,xAg,xAh,Nat.reduceAdd,Nat.reduceSub,Nat.reduceLeDiff,Nat.reduceMul,Int.reduceAdd,Int.reduceSub,Int.reduceMul,Int.reduceLT,Int.reduceLE,Int.reduceEq,Int.reduceToNat,Int.reduceNeg,Nat.reduceEqDiff,Nat.reduceBEq,Nat.reduceLT,xVI,hl,hl2,hk,k5,hc22,hc34,t1,t2,hpj,hck,j4,heql,hlp2]
  · have hlp2 := hlp [.cells false false M.cells,.cells false false N.cells,.cells false false [xBc false p',xBc false q'],.cells false false [xBc y1 pp,xBc y2 qq]] rfl rfl rfl
    rw [e0] at hlp2
    generalize xZj M.i pp qq = e at *
    simp only [las,xBc,Int.natCast_zero] at k5 hpj hck hlp2 ⊢
    unfold Ma.av at hc22 k5 ⊢
    unfold Mo.av at hl2 hc34 k5 ⊢
    unfold Ma.cells at hc22 k5 hl hlp2 ⊢
    unfold Mo.cells at hl2 hc34 k5 hlp2 ⊢
    rw [hi,ho] at hl2 hc34 k5 hlp2 ⊢
    rw [a9p,a9,xAl]
    simp (maxSteps := 30000000) (disch := first | assumption | omega | (simp only [WL,AV.isCell] <;> omega) | rfl | decide) only [↓reduceIte,WB,xAu,xAc,xAt,xAk,xAj,AV.cells,AV.isCell,xAa,xAd,xAe,WP,xAH,xAA,xBz,xBw,xBn,xAF,xAM,xAJ,W2,xAf,xAg,xAh,Nat.reduceAdd,Nat.reduceSub,Nat.reduceLeDiff,Nat.reduceMul,Int.reduceAdd,Int.reduceSub,Int.reduceMul,Int.reduceLT,Int.reduceLE,Int.reduceEq,Int.reduceToNat,Int.reduceNeg,Nat.reduceEqDiff,Nat.reduceBEq,Nat.reduceLT,xVI,hl,hl2,hk,k5,hc22,hc34,t1,t2,hpj,hck,d,hlp2]
set_option maxRecDepth 100000 in
set_option maxHeartbeats 4000000 in
theorem law9 (avs : List AV) (h : xN4 [TMa,TMo,TU8] avs) : L.pcall 9 avs = some (.bool true) := by
  obtain ⟨v1,avs,rfl,f1,h⟩ := xFF h
  obtain ⟨v2,avs,rfl,f2,h⟩ := xFF h
  obtain ⟨v3,avs,rfl,f3,h⟩ := xFF h
  obtain rfl := xU7 h
  obtain ⟨m,rfl,hm⟩ := yAV f1
  obtain ⟨n,rfl,hn⟩ := yAW f2
  obtain ⟨c,rfl,hc⟩ := xXW (xWL f3)
  have hk : L.pcall 13 [] = some (.bool true) := k1
  have l1 := xWF m
  have l2 := yA0 hn
  cases c1 : xFb m with
  | true =>
    rw [c1] at l1
    unfold Mf.av Nf.av
    unfold Mf.cells at l1 ⊢
    unfold Nf.cells
    rw [a9p,a9,xAl]
    simp (maxSteps := 30000000) (disch := first | assumption | omega | (simp only [WL,AV.isCell] <;> omega) | rfl | decide) only [↓reduceIte,WB,xAu,xAc,xAt,xAk,xAj,AV.cells,AV.isCell,xAa,xAd,xAe,WP,xAH,xAA,xBz,xBw,xBn,xAF,xAM,xAJ,W2,xAf,xAg,xAh,Nat.reduceAdd,Nat.reduceSub,Nat.reduceLeDiff,Nat.reduceMul,Int.reduceAdd,Int.reduceSub,Int.reduceMul,Int.reduceLT,Int.reduceLE,Int.reduceEq,Int.reduceToNat,Int.reduceNeg,Nat.reduceEqDiff,Nat.reduceBEq,Nat.reduceLT,l1,hk]
  | false =>
  rw [c1] at l1
  cases c2 : xU5 n with
  | true =>
    rw [c2] at l2
    unfold Mf.av
    unfold Nf.av at l2 ⊢
    unfold Mf.cells at l1 ⊢
    unfold Nf.cells at l2 ⊢
    rw [a9p,a9,xAl]
    simp (maxSteps := 30000000) (disch := first | assumption | omega | (simp only [WL,AV.isCell] <;> omega) | rfl | decide) only [↓reduceIte,WB,xAu,xAc,xAt,xAk,xAj,AV.cells,AV.isCell,xAa,xAd,xAe,WP,xAH,xAA,xBz,xBw,xBn,xAF,xAM,xAJ,W2,xAf,xAg,xAh,Nat.reduceAdd,Nat.reduceSub,Nat.reduceLeDiff,Nat.reduceMul,Int.reduceAdd,Int.reduceSub,Int.reduceMul,Int.reduceLT,Int.reduceLE,Int.reduceEq,Int.reduceToNat,Int.reduceNeg,Nat.reduceEqDiff,Nat.reduceBEq,Nat.reduceLT,l1,l2,hk]
  | false =>
  rw [c2] at l2
  have hS := xWG hm c1
  have hN := xWH hn c2
  by_cases d1 : xOI m = 0
  · by_cases d2 : xQz n = 0
    · by_cases d3 : m.i = n.i ∧ m.o = n.o
      · obtain ⟨M,hV,rfl⟩ : ∃ M,Vm M ∧ m = M.toF := ⟨m.fromF,(xUF hm.cn d1).1,(xUF hm.cn d1).2.symm⟩
        obtain ⟨N,hW,rfl⟩ : ∃ N,Vo N ∧ n = N.toF := ⟨n.fromF,(xUH hn.cn d2).1,(xUH hn.cn d2).2.symm⟩
        rw [xRn] at l1
        rw [Mo.toF_av] at l2 ⊢
        rw [Ma.toF_av]
        have h1 : ((M.i : Nat) : Int) = ((N.i : Nat) : Int) := d3.1
        have h2 : ((M.o : Nat) : Int) = ((N.o : Nat) : Int) := d3.2
        exact xYx ⟨hV,hW,by omega,by omega⟩ hc l1 l2
      · have k5 := xUZ hS hN d1 d2 d3
        unfold Mf.av at k5 ⊢
        unfold Nf.av at k5 l2 ⊢
        unfold Mf.cells at k5 l1 ⊢
        unfold Nf.cells at k5 l2 ⊢
        rw [a9p,a9,xAl]
        simp (maxSteps := 30000000) (disch := first | assumption | omega | (simp only [WL,AV.isCell] <;> omega) | rfl | decide) only [↓reduceIte,WB,xAu,xAc,xAt,xAk,xAj,AV.cells,AV.isCell,xAa,xAd,xAe,WP,xAH,xAA,xBz,xBw,xBn,xAF,xAM,xAJ,W2,xAf,xAg,xAh,Nat.reduceAdd,Nat.reduceSub,Nat.reduceLeDiff,Nat.reduceMul,Int.reduceAdd,Int.reduceSub,Int.reduceMul,Int.reduceLT,Int.reduceLE,Int.reduceEq,Int.reduceToNat,Int.reduceNeg,Nat.reduceEqDiff,Nat.reduceBEq,Nat.reduceLT,l1,l2,hk,k5]
    · have k5 := xUY hS hN d1 d2
      generalize xQz n = e at *
      unfold Mf.av at k5 ⊢
      unfold Nf.av at k5 l2 ⊢
      unfold Mf.cells at k5 l1 ⊢
      unfold Nf.cells at k5 l2 ⊢
      rw [a9p,a9,xAl]
      simp (maxSteps := 30000000) (disch := first | assumption | omega | (simp only [WL,AV.isCell] <;> omega) | rfl | decide) only [↓reduceIte,WB,xAu,xAc,xAt,xAk,xAj,AV.cells,AV.isCell,xAa,xAd,xAe,WP,xAH,xAA,xBz,xBw,xBn,xAF,xAM,xAJ,W2,xAf,xAg,xAh,Nat.reduceAdd,Nat.reduceSub,Nat.reduceLeDiff,Nat.reduceMul,Int.reduceAdd,Int.reduceSub,Int.reduceMul,Int.reduceLT,Int.reduceLE,Int.reduceEq,Int.reduceToNat,Int.reduceNeg,Nat.reduceEqDiff,Nat.reduceBEq,Nat.reduceLT,l1,l2,hk,k5,d2]
  · have k5 := xUX (n := n) hS d1
    generalize xOI m = e at *
    unfold Mf.av at k5 ⊢
    unfold Nf.av at k5 l2 ⊢
    unfold Mf.cells at k5 l1 ⊢
    unfold Nf.cells at k5 l2 ⊢
    rw [a9p,a9,xAl]
    simp (maxSteps := 30000000) (disch := first | assumption | omega | (simp only [WL,AV.isCell] <;> omega) | rfl | decide) only [↓reduceIte,WB,xAu,xAc,xAt,xAk,xAj,AV.cells,AV.isCell,xAa,xAd,xAe,WP,xAH,xAA,xBz,xBw,xBn,xAF,xAM,xAJ,W2,xAf,xAg,xAh,Nat.reduceAdd,Nat.reduceSub,Nat.reduceLeDiff,Nat.reduceMul,Int.reduceAdd,Int.reduceSub,Int.reduceMul,Int.reduceLT,Int.reduceLE,Int.reduceEq,Int.reduceToNat,Int.reduceNeg,Nat.reduceEqDiff,Nat.reduceBEq,Nat.reduceLT,l1,l2,hk,k5,d1]
end Go.Abs.Mealy
