/- MealyRuns: the law. -/
import Derived.Test.YtkpbekcgigigkaaDoorAbsBun
import Derived.Test.YtkpbekcgigigkaaDoorAMC
import Derived.Test.YtkpbekcgigigkaaDoorAMB
import Derived.Test.YtkpbekcgigigkaaDoorAK1
namespace Go.Abs.Mealy
open Go Go.Abs
set_option linter.unusedSimpArgs false
set_option linter.unusedVariables false
theorem xZZ {p q : List Nat} (hp : ∀ x ∈ p,x < 256) (hq : ∀ x ∈ q,x < 256) (i : Nat) : xAJ p q i < 256 := by
  by_cases h : i < p.length
  · rw [xDU h]; exact hp _ (xA8 h)
  · rw [xBg (by omega)]
    have h2 := xA8 (a := (0 : Nat)) (show (i - p.length) % (xAK q).length < (xAK q).length from Nat.mod_lt _ (xB4 q))
    unfold xAK at h2 ⊢
    split at h2
    · simp only [List.mem_singleton] at h2
      rw [if_pos (by assumption),h2]; decide
    · rw [if_neg (by assumption)]
      exact hq _ h2
theorem xX7 {a : Nat} (h : a ≤ 6) : IntKind.u8.wrap (1 * 2 ^ min a IntKind.u8.bits) = (two a : Nat) ∧ IntKind.u8.wrap (((two a : Nat) : Int) - 1) = ((two a - 1 : Nat) : Int) := by
  have : a = 0 ∨ a = 1 ∨ a = 2 ∨ a = 3 ∨ a = 4 ∨ a = 5 ∨ a = 6 := by omega
  rcases this with rfl | rfl | rfl | rfl | rfl | rfl | rfl <;> decide
theorem xTP (M : Ma) : M.toF.cells = M.cells := by
  have := M.toF_av
  unfold Mf.av Ma.av at this
  injection this
set_option maxRecDepth 100000 in
set_option maxHeartbeats 4000000 in
theorem xVE {M : Ma} {z1 z2 : Bool} {p q : List Nat} {c : Nat} (hV : Vm M) (hL : Lo M.i p q) (hz1 : z1 = true → p = []) (hc : c < 256) (hl : L.pcall 11 [.sl false 1 M.cells] = some (.bool false)) : L.pcall 10 [M.av,las z1 z2 p q,.int .u8 (c : Nat)] = some (.bool true) := by
  have hk : L.pcall 13 [] = some (.bool true) := k1
  have p4 := hL.p4
  have q4 := hL.q4
  have l2 := yAk z1 z2 p q
  rw [decide_eq_false (by omega)] at l2
  have hn : c % 64 ≤ 63 := by omega
  have hLv : HasLas (las z1 z2 p q) (xAJ p q) 70 := xKZ hz1 (by omega) (by omega)
  obtain ⟨zw,htk⟩ := xQi (n := c % 64) hLv (by omega) (by omega)
  have hwl : (xAV (xAJ p q) (c % 64)).length = c % 64 := xBN _ _
  have io := hV.io
  have htwo := xX7 (a := M.i) (by omega)
  have hb6 := xE3 (v := M.i) (by omega)
  have hc21 := xCh hV
  have hc22 := xRh hV
  obtain ⟨p',q',k1,k2,k3,k4,-⟩ := xRi z1 z2 hV hL
  have hwt : ∀ x ∈ xAV (xAJ p q) (c % 64),x < two M.i := by
    intro x hx
    obtain ⟨j,_,rfl⟩ := List.mem_map.1 hx
    exact xFy hL j
  obtain ⟨za,hr⟩ := (xLa (zw := zw) hV (runE_zero.2 ⟨by omega,hwt⟩)).1
  obtain ⟨zb,hr2⟩ := (xLa (w := (xAV (xAJ p q) (c % 64)).take (c % 64 / 2)) (zw := zw) hV (runE_zero.2 ⟨by rw [List.length_take]; omega,fun x hx => hwt x (List.mem_of_mem_take hx)⟩)).1
  have hwl2 : ((xAV (xAJ p q) (c % 64)).take (c % 64 / 2)).length = c % 64 / 2 := by rw [List.length_take]; omega
  have hlp := fun G h3 h11 => xUJ (M := M) (p := p) (q := q) (p' := p') (q' := q') (n := c % 64) (G := G) (zw := zw) (za := za) (z1' := false) (z2' := false) (s4 := .ptr 1 0) hV hL (by omega) k2 k3 (fun h => by cases h) k1.2.1 h3 h11 _ 0 (Nat.zero_add _)
  have hlp2 := hlp [.cells false false M.cells,.cells false false [xA2 z1 p,xA2 z2 q],.cells false false [xA2 false p',xA2 false q']] rfl rfl
  have hbt : (xF8 M M.s (xAV (xAJ p q) (c % 64))).take (c % 64 / 2) = xF8 M M.s ((xAV (xAJ p q) (c % 64)).take (c % 64 / 2)) := (xNR _ _ _ _).symm
  have heq := yCG (z1 := zb) (z2 := za) (a := xF8 M M.s ((xAV (xAJ p q) (c % 64)).take (c % 64 / 2))) (b := xF8 M M.s ((xAV (xAJ p q) (c % 64)).take (c % 64 / 2))) (by rw [xDW,hwl2]; omega)
  rw [decide_eq_true rfl,xDW,hwl2] at heq
  have hSl : HasLas (las false false p' q') (SL M p q) 1000000 := HasLas.mono (xKZ (fun h => by cases h) k2 k3) (Nat.le_refl _) k1.2.1
  obtain ⟨v',hpj,hv'⟩ := xOu (m := two M.i - 1) hSl (fun i => by have := yBO hV hL i; omega) (by omega) (by omega)
  have hinp : ∀ i,SL M p q i &&& (two M.i - 1) = xAJ p q i := fun i => by rw [xYW hV hL,xWj (xFy hL i)]
  have heql := xUf hv' hLv (by omega) (by omega) hinp
  obtain ⟨y1,y2,pp,qq,rfl,_,_,_,_⟩ := hv'
  obtain ⟨p2,q2,j1,j2,j3,j4,_⟩ := xH4 false p' q' (by omega) (by omega)
  have hS' : xAJ p' q' = SL M p q := funext k1.2.1
  rw [hS'] at j1
  obtain ⟨rfl,rfl⟩ := k1.uniq j1
  have hi25 := xYy false false false false p' q' (by omega) (by omega)
  have hs0 : (stL M M.s (xAV (xAJ p q) (c % 64))).getD 0 0 = M.s := rfl
  have hst : M.s :: xNT M M.s (xAV (xAJ p q) (c % 64)) = stL M M.s (xAV (xAJ p q) (c % 64)) := rfl
  have hsl := xUH M M.s (xAV (xAJ p q) (c % 64))
  have hol := xDW M (xAV (xAJ p q) (c % 64)) M.s
  rw [hst] at hr
  rw [hwl] at hr hol hsl
  rw [hwl2] at hr2
  simp only [las,xA2,hwl,hwl2] at htk hr hr2 k4 hlp2 heq hpj heql j4 hi25 l2 ⊢
  generalize hR2 : M.s :: xNT M M.s ((xAV (xAJ p q) (c % 64)).take (c % 64 / 2)) = r2 at *
  rw [← hbt] at hr2 heq
  generalize hO : xF8 M M.s (xAV (xAJ p q) (c % 64)) = oo at *
  generalize hSS : stL M M.s (xAV (xAJ p q) (c % 64)) = ss at *
  generalize xAV (xAJ p q) (c % 64) = w at *
  simp only [Int.natCast_zero] at hlp2
  unfold Ma.av at hc21 hc22 hr hr2 k4 ⊢
  unfold Ma.cells at hc21 hc22 hr hr2 k4 hl hlp2 ⊢
  have n1 : ¬ ((M.i : Nat) : Int) < 0 := by omega
  have n2 : ¬ (6 : Int) < ((M.i : Nat) : Int) := by omega
  have n3 : ((c : Nat) : Int).tmod 64 = ((c % 64 : Nat) : Int) := xVz c 64
  have n4 : ((c % 64 : Nat) : Int).tdiv 2 = ((c % 64 / 2 : Nat) : Int) := xXU (c % 64) 2
  have n5 : ((c % 64 / 2 : Nat) : Int) ≤ ((c % 64 : Nat) : Int) := by omega
  obtain ⟨t1,t2⟩ := htwo
  generalize c % 64 = n at *
  rw [xYY,a10,xAl]
  simp (maxSteps := 30000000) (disch := first | assumption | omega | (simp only [WL,AV.isCell] <;> omega) | rfl | decide) only [↓reduceIte,WB,xAs,xAc,xAr,xAk,xAj,AV.cells,AV.isCell,xAb,xAd,xAe,WP,xAF,xAt,xBj,xBh,xBd,xAz,xAI,xAG,W2,xAf,xAg,xAh,Nat.reduceAdd,Nat.reduceSub,Nat.reduceLeDiff,Nat.reduceMul,Int.reduceAdd,Int.reduceSub,Int.reduceMul,Int.reduceLT,Int.reduceLE,Int.reduceEq,Int.reduceToNat,Int.reduceNeg,Nat.reduceEqDiff,Nat.reduceBEq,Nat.reduceLT,xR8,hl,l2,hk,n3,htk,hr,k4,hc21,hc22,hol,hsl,hs0,n1,n2,hlp2,n4,n5,hr2,t1,t2,hpj,heq,heql,j4,hi25]
set_option maxRecDepth 100000 in
set_option maxHeartbeats 4000000 in
theorem law10 (avs : List AV) (h : xNU [TMa,yBN,TU8] avs) : L.pcall 10 avs = some (.bool true) := by
  obtain ⟨v1,avs,rfl,f1,h⟩ := xFz h
  obtain ⟨v2,avs,rfl,f2,h⟩ := xFz h
  obtain ⟨v3,avs,rfl,f3,h⟩ := xFz h
  obtain rfl := xUK h
  obtain ⟨m,rfl,hm⟩ := yAB f1
  obtain ⟨z1,z2,p,q,rfl,hz1,hz2,hp,hq⟩ := xYU f2
  obtain ⟨c,rfl,hc⟩ := xXu (xWk f3)
  have hk : L.pcall 13 [] = some (.bool true) := k1
  have l1 := xWh m
  have l2 := yAk z1 z2 p q
  cases c1 : xE6 m with
  | true =>
    rw [c1] at l1
    unfold Mf.av
    unfold Mf.cells at l1 ⊢
    rw [xYY,a10,xAl]
    simp (maxSteps := 30000000) (disch := first | assumption | omega | (simp only [WL,AV.isCell] <;> omega) | rfl | decide) only [↓reduceIte,WB,xAs,xAc,xAr,xAk,xAj,AV.cells,AV.isCell,xAb,xAd,xAe,WP,xAF,xAt,xBj,xBh,xBd,xAz,xAI,xAG,W2,xAf,xAg,xAh,Nat.reduceAdd,Nat.reduceSub,Nat.reduceLeDiff,Nat.reduceMul,Int.reduceAdd,Int.reduceSub,Int.reduceMul,Int.reduceLT,Int.reduceLE,Int.reduceEq,Int.reduceToNat,Int.reduceNeg,Nat.reduceEqDiff,Nat.reduceBEq,Nat.reduceLT,l1,hk]
  | false =>
  rw [c1] at l1
  have hS := xWi hm c1
  by_cases c2 : 70 < p.length ∨ 70 < q.length
  · rw [decide_eq_true c2] at l2
    unfold Mf.av
    unfold Mf.cells at l1 ⊢
    simp only [las] at l2 ⊢
    rw [xYY,a10,xAl]
    simp (maxSteps := 30000000) (disch := first | assumption | omega | (simp only [WL,AV.isCell] <;> omega) | rfl | decide) only [↓reduceIte,WB,xAs,xAc,xAr,xAk,xAj,AV.cells,AV.isCell,xAb,xAd,xAe,WP,xAF,xAt,xBj,xBh,xBd,xAz,xAI,xAG,W2,xAf,xAg,xAh,Nat.reduceAdd,Nat.reduceSub,Nat.reduceLeDiff,Nat.reduceMul,Int.reduceAdd,Int.reduceSub,Int.reduceMul,Int.reduceLT,Int.reduceLE,Int.reduceEq,Int.reduceToNat,Int.reduceNeg,Nat.reduceEqDiff,Nat.reduceBEq,Nat.reduceLT,l1,l2,hk]
  have hn : c % 64 ≤ 63 := by omega
  have hLv : HasLas (las z1 z2 p q) (xAJ p q) 70 := xKZ hz1 (by omega) (by omega)
  obtain ⟨zw,htk⟩ := xQi (n := c % 64) hLv (by omega) (by omega)
  have hwl : (xAV (xAJ p q) (c % 64)).length = c % 64 := xBN _ _
  have hwb : ∀ x ∈ xAV (xAJ p q) (c % 64),x < 256 := by
    intro x hx
    obtain ⟨j,_,rfl⟩ := List.mem_map.1 hx
    exact xZZ hp hq j
  have n3 : ((c : Nat) : Int).tmod 64 = ((c % 64 : Nat) : Int) := xVz c 64
  by_cases d1 : xLf m = 0
  · obtain ⟨M,hV,rfl⟩ : ∃ M,Vm M ∧ m = M.toF := ⟨m.fromF,(xUk hm.cn d1).1,(xUk hm.cn d1).2.symm⟩
    rw [xTP] at l1
    rw [M.toF_av]
    by_cases d2 : xUC M.i p q = 0
    · exact xVE hV (lasE_zero.1 d2) hz1 hc l1
    · have hc21 := xCh hV
      have hla := (xRk (z1 := z1) (z2 := z2) hV (by omega) (by omega) hp hq d2).1
      rw [decide_eq_false c2] at l2
      by_cases d3 : xWc M.i (xAV (xAJ p q) (c % 64)) = 0
      · obtain ⟨z,hr⟩ := (xLa (zw := zw) hV d3).1
        generalize xUC M.i p q = e2 at *
        rw [hwl] at hr
        simp only [las,xA2,hwl] at htk hr hla l2 ⊢
        unfold Ma.av at hc21 hr hla ⊢
        unfold Ma.cells at hc21 hr hla l1 ⊢
        generalize M.s :: xNT M M.s (xAV (xAJ p q) (c % 64)) = ss at *
        generalize xF8 M M.s (xAV (xAJ p q) (c % 64)) = oo at *
        generalize xAV (xAJ p q) (c % 64) = w at *
        generalize c % 64 = n at *
        rw [xYY,a10,xAl]
        simp (maxSteps := 30000000) (disch := first | assumption | omega | (simp only [WL,AV.isCell] <;> omega) | rfl | decide) only [↓reduceIte,WB,xAs,xAc,xAr,xAk,xAj,AV.cells,AV.isCell,xAb,xAd,xAe,WP,xAF,xAt,xBj,xBh,xBd,xAz,xAI,xAG,W2,xAf,xAg,xAh,Nat.reduceAdd,Nat.reduceSub,Nat.reduceLeDiff,Nat.reduceMul,Int.reduceAdd,Int.reduceSub,Int.reduceMul,Int.reduceLT,Int.reduceLE,Int.reduceEq,Int.reduceToNat,Int.reduceNeg,Nat.reduceEqDiff,Nat.reduceBEq,Nat.reduceLT,l1,l2,hk,n3,htk,hr,hla,hc21,d2]
      · have hr := (xWe (zw := zw) hV hwb (by omega) d3).1
        generalize xUC M.i p q = e2 at *
        generalize xWc M.i (xAV (xAJ p q) (c % 64)) = e3 at *
        simp only [las,xA2,hwl] at htk hr hla l2 ⊢
        unfold Ma.av at hc21 hr hla ⊢
        unfold Ma.cells at hc21 hr hla l1 ⊢
        generalize xAV (xAJ p q) (c % 64) = w at *
        generalize c % 64 = n at *
        rw [xYY,a10,xAl]
        simp (maxSteps := 30000000) (disch := first | assumption | omega | (simp only [WL,AV.isCell] <;> omega) | rfl | decide) only [↓reduceIte,WB,xAs,xAc,xAr,xAk,xAj,AV.cells,AV.isCell,xAb,xAd,xAe,WP,xAF,xAt,xBj,xBh,xBd,xAz,xAI,xAG,W2,xAf,xAg,xAh,Nat.reduceAdd,Nat.reduceSub,Nat.reduceLeDiff,Nat.reduceMul,Int.reduceAdd,Int.reduceSub,Int.reduceMul,Int.reduceLT,Int.reduceLE,Int.reduceEq,Int.reduceToNat,Int.reduceNeg,Nat.reduceEqDiff,Nat.reduceBEq,Nat.reduceLT,l1,l2,hk,n3,htk,hr,hla,hc21,d2]
  · have hc21 := xK1 hS
    have hr := (xWd (zw := zw) (w := xAV (xAJ p q) (c % 64)) hS d1).1
    have hla := (xRj (z1 := z1) (z2 := z2) (p := p) (q := q) hS d1).1
    rw [decide_eq_false c2] at l2
    generalize xLf m = e2 at *
    simp only [las,xA2,hwl] at htk hr hla l2 ⊢
    unfold Mf.av at hc21 hr hla ⊢
    unfold Mf.cells at hc21 hr hla l1 ⊢
    generalize xAV (xAJ p q) (c % 64) = w at *
    generalize c % 64 = n at *
    rw [xYY,a10,xAl]
    simp (maxSteps := 30000000) (disch := first | assumption | omega | (simp only [WL,AV.isCell] <;> omega) | rfl | decide) only [↓reduceIte,WB,xAs,xAc,xAr,xAk,xAj,AV.cells,AV.isCell,xAb,xAd,xAe,WP,xAF,xAt,xBj,xBh,xBd,xAz,xAI,xAG,W2,xAf,xAg,xAh,Nat.reduceAdd,Nat.reduceSub,Nat.reduceLeDiff,Nat.reduceMul,Int.reduceAdd,Int.reduceSub,Int.reduceMul,Int.reduceLT,Int.reduceLE,Int.reduceEq,Int.reduceToNat,Int.reduceNeg,Nat.reduceEqDiff,Nat.reduceBEq,Nat.reduceLT,l1,l2,hk,n3,htk,hr,hla,hc21,d1]
end Go.Abs.Mealy
