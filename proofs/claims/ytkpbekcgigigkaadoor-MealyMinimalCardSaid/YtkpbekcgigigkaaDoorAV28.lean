/- MealyMinimal: the law. -/
import Derived.Test.YtkpbekcgigigkaaDoorAbsBun
import Derived.Test.YtkpbekcgigigkaaDoorAV27
namespace Go.Abs.Mealy
open Go Go.Abs
set_option linter.unusedSimpArgs false
set_option linter.unusedVariables false
theorem xOa {X : Ma} (hX : Vm X) : L.pcall 29 [X.av,X.av] = some (.bool true) := by
  have hS := xVN hX
  rw [← X.toF_av]
  exact yBJ (by have := hS.n; omega) (by have := hS.e; omega) (fun r hr => by have := hS.r r hr; omega) (fun r hr => by have := hS.w r hr; omega) ⟨rfl,rfl,rfl,rfl,rfl⟩
theorem xLB {l r : List (List Nat)} (h : l.map (List.map Int.ofNat) = r.map (List.map Int.ofNat)) : l = r := by
  refine List.map_inj_right (f := List.map Int.ofNat) ?_ |>.1 h
  intro a b e
  exact List.map_inj_right (f := Int.ofNat) (fun x y e => by injection e) |>.1 e
theorem xW3 {X Y : Ma} (hX : Vm X) (h : X ≠ Y) : L.pcall 29 [X.av,Y.av] = some (.bool false) := by
  have hS := xVN hX
  rw [← X.toF_av,← Y.toF_av]
  refine xSs (by have := hS.n; omega) (by have := hS.e; omega) (fun r hr => by have := hS.r r hr; omega) (fun r hr => by have := hS.w r hr; omega) ?_
  rintro ⟨e1,e2,e3,e4,e5⟩
  apply h
  obtain ⟨i,o,s,n,e⟩ := X
  obtain ⟨i',o',s',n',e'⟩ := Y
  simp only [Ma.toF,List.map_map] at e1 e2 e3 e4 e5
  have a1 : i = i' := by omega
  have a2 : o = o' := by omega
  have a3 : s = s' := by omega
  have a4 : n = n' := xLB e4
  have a5 : e = e' := by
    have h : ∀ l : List (List Nat),List.map (Wd.l ∘ fun w => (⟨false,w⟩ : Wd)) l = l := fun l => by
      rw [show (Wd.l ∘ fun w => (⟨false,w⟩ : Wd)) = id from rfl,List.map_id]
    rw [h,h] at e5
    exact e5
  subst a1 a2 a3 a4 a5
  rfl
theorem xUZ {A : Ma} (hA : Vm A) (hn : A.next.length ≤ 100) {zw : Bool} {w : List Nat} (hw : w.length ≤ 70) (hb : ∀ x ∈ w,x < 256) {cl : List Nat} (hN : Num A cl) (h : L.pcall 35 [A.av] = some (.tup [(xD1 A cl).av,.int .i64 0])) : FirstOk A (xD1 A cl) zw w := by
  obtain ⟨hX,hl⟩ := xFV hA hN
  obtain ⟨cx,hNx,h2⟩ := xFX hX (by omega)
  have hst := xFW hA hN
  have e : xD1 (xD1 A cl) cx = xD1 A cl := xRJ hX hA rfl rfl hNx hN hst
  rw [e] at h2
  refine ⟨h,h2,rfl,hl,xOa hX,?_⟩
  by_cases d : xWg A.i w = 0
  · obtain ⟨za,r1⟩ := (xRy (zw := zw) hA d).1
    obtain ⟨zb,r2⟩ := (xRy (zw := zw) hX (show xWg A.i w = 0 from d)).1
    have he : xCM (xD1 A cl) (xD1 A cl).s w = xCM A A.s w := hst w (runE_zero.1 d).2
    have q1 := yCN (z1 := za) (z2 := zb) (a := xCM A A.s w) (b := xCM A A.s w) (by rw [xGL]; omega)
    rw [decide_eq_true rfl,xGL] at q1
    rw [he] at r2
    exact ⟨_,_,_,_,_,_,_,_,_,_,_,_,0,r1,r2,q1⟩
  · have r1 := (xRx (zw := zw) hA hb (by omega) d).1
    have r2 := (xRx (zw := zw) hX hb (by omega) (show xWg (xD1 A cl).i w ≠ 0 from d)).1
    have q0 := yCN (z1 := true) (z2 := true) (a := []) (b := []) (by simp)
    exact ⟨_,_,_,_,_,_,_,_,_,_,_,_,_,r1,r2,q0⟩
set_option maxRecDepth 100000 in
theorem xZK {a b : Mf} (ha : In a) (hb : In b) {zw : Bool} {w : List Nat} (hw : ∀ x ∈ w,x < 256) : L.pcall 6 [a.av,b.av,xEk zw w] = some (.bool true) := by
  have hk : L.pcall 13 [] = some (.bool true) := k1
  have l1 := xXr a b
  cases c1 : (xDy a || xDy b) with
  | true =>
    rw [c1] at l1
    simp only [xEk]
    unfold Mf.av
    unfold Mf.cells at l1 ⊢
    simp only [List.cons_append,List.nil_append] at l1
    rw [a6p,a6,xAr]
    simp (maxSteps := 30000000) (disch := first | assumption | omega | (simp only [WL,AV.isCell] <;> omega) | rfl | decide) only [↓reduceIte,WB,xAC,xAc,xAB,xAk,xAj,AV.cells,AV.isCell,xAb,xAf,xAg,WP,xAt,xAm,xA0,xAZ,xAX,xAq,xAv,xAu,W2,xAd,xAe,xAh,Nat.reduceAdd,Nat.reduceSub,Nat.reduceLeDiff,Nat.reduceMul,Int.reduceAdd,Int.reduceSub,Int.reduceMul,Int.reduceLT,Int.reduceLE,Int.reduceEq,Int.reduceToNat,Int.reduceNeg,Nat.reduceEqDiff,Nat.reduceBEq,Nat.reduceLT,l1,hk]
  | false =>
  rw [c1] at l1
  by_cases c2 : 70 < w.length
  · have c2' : (70 : Int) < (w.length : Nat) := by omega
    simp only [xEk]
    unfold Mf.av
    unfold Mf.cells at l1 ⊢
    simp only [List.cons_append,List.nil_append] at l1
    rw [a6p,a6,xAr]
    simp (maxSteps := 30000000) (disch := first | assumption | omega | (simp only [WL,AV.isCell] <;> omega) | rfl | decide) only [↓reduceIte,WB,xAC,xAc,xAB,xAk,xAj,AV.cells,AV.isCell,xAb,xAf,xAg,WP,xAt,xAm,xA0,xAZ,xAX,xAq,xAv,xAu,W2,xAd,xAe,xAh,Nat.reduceAdd,Nat.reduceSub,Nat.reduceLeDiff,Nat.reduceMul,Int.reduceAdd,Int.reduceSub,Int.reduceMul,Int.reduceLT,Int.reduceLE,Int.reduceEq,Int.reduceToNat,Int.reduceNeg,Nat.reduceEqDiff,Nat.reduceBEq,Nat.reduceLT,l1,hk,c2']
  have c2' : w.length ≤ 70 := by omega
  rw [Bool.or_eq_false_iff] at c1
  have hS := xRc ha c1.1
  have hT := xRc hb c1.2
  by_cases d1 : xPf a = 0
  · obtain ⟨A,hA,rfl⟩ : ∃ M,Vm M ∧ a = M.toF := ⟨a.fromF,(xLO ha.cn d1).1,(xLO ha.cn d1).2.symm⟩
    have nA : A.next.length ≤ 100 := by
      have := c1.1
      unfold xDy at this
      simp only [Bool.or_eq_false_iff,decide_eq_false_iff_not] at this
      have h := this.1.1
      have e : A.toF.next.length = A.next.length := by simp [Ma.toF]
      omega
    obtain ⟨ca,hNA,hma⟩ := xFX hA nA
    have hf := xUZ hA nA (zw := zw) c2' hw hNA hma
    have cA : A.toF.cells = A.cells := by
      have := A.toF_av
      unfold Mf.av Ma.av at this
      injection this
    rw [A.toF_av]
    rw [cA] at l1
    by_cases d2 : xPf b = 0
    · obtain ⟨B,hB,rfl⟩ : ∃ M,Vm M ∧ b = M.toF := ⟨b.fromF,(xLO hb.cn d2).1,(xLO hb.cn d2).2.symm⟩
      have nB : B.next.length ≤ 100 := by
        have := c1.2
        unfold xDy at this
        simp only [Bool.or_eq_false_iff,decide_eq_false_iff_not] at this
        have h := this.1.1
        have e : B.toF.next.length = B.next.length := by simp [Ma.toF]
        omega
      obtain ⟨cb,hNB,hmb⟩ := xFX hB nB
      have cB : B.toF.cells = B.cells := by
        have := B.toF_av
        unfold Mf.av Ma.av at this
        injection this
      by_cases d3 : A.i = B.i ∧ A.o = B.o
      · rw [B.toF_av]
        rw [cB] at l1
        have h37 := xSt hA hB d3.1 d3.2
        cases hs : xY3 A B with
        | none =>
          rw [hs] at h37
          have e : xD1 A ca = xD1 B cb := xRJ hA hB d3.1 d3.2 hNA hNB (fun w hw => xXw hA hB d3.1 hs hw)
          refine xQ5 hf l1 hmb h37 ?_ c2'
          rw [← e]
          exact xOa (xFV hA hNA).1
        | some v =>
          rw [hs] at h37
          refine xQ5 hf l1 hmb h37 (xW3 (xFV hA hNA).1 ?_) c2'
          intro e
          have hsv := xVp hs
          obtain ⟨u,x,p,q,e1,e2,e3,e4⟩ := xVr hsv
          obtain ⟨u',x',e5,hlt,_⟩ := hsv
          have s1 := xFW hA hNA
          have s2 := xFW hB hNB
          have hv : ∀ y ∈ v,y < two A.i := hlt
          have t1 := s1 v hv
          have t2 := s2 v (fun y hy => by show y < two B.i; rw [← d3.1]; exact hv y hy)
          rw [← e,t1,e2,e3] at t2
          have := (List.append_cancel_left_eq _ _ _).mp t2
          simp only [List.cons.injEq,and_true] at this
          exact e4 this
      · have h37 := xSv hA hB d3
        rw [← B.toF_av] at h37 hmb
        exact xQ4 hf l1 hmb h37 (.inr ⟨rfl,rfl⟩) c2'
    · have h37 := xSu hS hT d1 d2
      rw [A.toF_av] at h37
      exact xQ4 hf l1 (xEp hT d2) h37 (.inl ⟨d2,rfl⟩) c2'
  · exact xW4 l1 (xEp hS d1) d1 c2'
theorem law6 (avs : List AV) (h : xOB [TMa,TMa,yBD] avs) : L.pcall 6 avs = some (.bool true) := by
  obtain ⟨v1,avs,rfl,f1,h⟩ := xFZ h
  obtain ⟨v2,avs,rfl,f2,h⟩ := xFZ h
  obtain ⟨v3,avs,rfl,f3,h⟩ := xFZ h
  obtain rfl := xWc h
  obtain ⟨a,rfl,ha⟩ := xY2 f1
  obtain ⟨b,rfl,hb⟩ := xY2 f2
  obtain ⟨wd,rfl,hz,hw⟩ := xY1 (xXO f3)
  obtain ⟨zo,w⟩ := wd
  simp only at hz hw
  change L.pcall 6 [a.av,b.av,xEk zo w] = _
  exact xZK ha hb hw
end Go.Abs.Mealy
