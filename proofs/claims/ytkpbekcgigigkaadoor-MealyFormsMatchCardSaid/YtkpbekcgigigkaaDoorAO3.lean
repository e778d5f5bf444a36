/- MealyFormsMatch: the law. -/
import Derived.Test.YtkpbekcgigigkaaDoorAbsBun
import Derived.Test.YtkpbekcgigigkaaDoorAO2
namespace Go.Abs.Mealy
open Go Go.Abs
set_option linter.unusedSimpArgs false
set_option linter.unusedVariables false
section
variable {A B : Ma}
theorem xMP (hA : Vm A) (hB : Vm B) (hAB : A.i = B.i) {u : List Nat} {c : Nat × Nat} (c1 : c.1 < A.next.length) (c2 : c.2 < B.next.length) : ∀ (l : List Nat) (S : Bs),(∀ i ∈ l,i < two A.i) → PV A B S → PV A B (xFh A B u c l S).2
 | [],S,_,hp => hp
 | i :: r,S,hl,hp => by
  have hi := hl i (by simp)
  have hr : ∀ j ∈ r,j < two A.i := fun j hj => hl j (by simp [hj])
  rw [xFh]
  split
  ·exact hp
  ·split
   ·exact xMP hA hB hAB c1 c2 r S hr hp
   ·refine xMP hA hB hAB c1 c2 r _ hr ?_
    intro x hx
    rcases List.mem_append.mp hx with hx | hx
    ·exact hp x hx
    ·rw [List.mem_singleton] at hx
     subst hx
     exact ⟨hA.nx c1 hi,hB.nx c2 (by rw [← hAB]; exact hi)⟩
end
theorem xI9 (A B : Ma) (u : List Nat) (c : Nat × Nat) : ∀ (l : List Nat) (S : Bs) (v : List Nat),(xFh A B u c l S).1 = some v → v.length = u.length + 1
 | [],S,v,h => by simp [xFh] at h
 | i :: r,S,v,h => by
  rw [xFh] at h
  split at h
  ·simp only [Option.some.injEq] at h
   rw [← h]; simp
  ·split at h
   ·exact xI9 A B u c r _ v h
   ·exact xI9 A B u c r _ v h
theorem xLR {A B : Ma} (hA : Vm A) (hB : Vm B) (hAB : A.i = B.i) : ∀ (e k : Nat) (S : Bs),BI A B S k 0 → PV A B S → ∀ v,xJq A B e k S = some v → v.length ≤ A.next.length * B.next.length + 1
 | 0,k,S,h,hp,v,hn => by simp [xJq] at hn
 | e + 1,k,S,h,hp,v,hn => by
  rw [xJq] at hn
  split at hn
  ·rename_i hk'
   have hb := xJs A B k (two A.i) 0 S (by omega) hk' h
   rw [← List.range_eq_range'] at hb
   have hv := xMP hA hB hAB (u := S.2.getD k []) (hp.at hk').1 (hp.at hk').2 (List.range (two A.i)) S (fun i hi => List.mem_range.1 hi) hp
   have hl := xI9 A B (S.2.getD k []) (S.1.getD k (0,0)) (List.range (two A.i)) S
   have h1 := h.wlen k hk'
   have h2 := h.len_le hp
   generalize xFh A B (S.2.getD k []) (S.1.getD k (0,0)) (List.range (two A.i)) S = r at hb hn hv hl
   obtain ⟨r1,r2⟩ := r
   cases r1 with
   | some v' =>
    simp only [Option.some.injEq] at hn
    subst hn
    have := hl v' rfl
    omega
   | none => exact xLR hA hB hAB e (k + 1) r2 (hb.2 r2 rfl).1.next hv v hn
  ·simp at hn
theorem yC3 {m : Mf} (h : xDZ m = false) : m.next.length ≤ 14 := by
 unfold xDZ at h
 simp only [Bool.or_eq_false_iff,decide_eq_false_iff_not] at h
 have := h.1.1
 omega
set_option maxRecDepth 100000 in
theorem yC4 {a b : Mf} (ha : In a) (hb : In b) : L.pcall 5 [a.av,b.av] = some (.bool true) := by
 have hk : L.pcall 13 [] = some (.bool true) := k1
 have l1 := yAr a b
 cases c1 : (xDZ a || xDZ b) with
 | true =>
  rw [c1] at l1
  unfold Mf.av
  unfold Mf.cells at l1 ⊢
  simp only [List.cons_append,List.nil_append] at l1
  rw [a5p,a5,xAf]
  simp (maxSteps := 30000000) (disch := first | assumption | omega | (simp only [WL,AV.isCell] <;> omega) | rfl | decide) only [WB,Nat.reduceAdd,Nat.reduceSub,AV.cells,AV.isCell,↓reduceIte,Nat.reduceMul,Nat.reduceLeDiff,l1,xBL,xAF,hk]
 | false =>
 rw [c1] at l1
 rw [Bool.or_eq_false_iff] at c1
 have hS := xTc ha c1.1
 have hT := xTc hb c1.2
 have hT' := yFC hT
 have hcb := xYj hT
 have hsb := xTD (a := cpF b) (b := b) (by have := hT'.n; omega) (by have := hT'.e; omega) (fun r hr => by have := hT'.r r hr; omega) (fun r hr => by have := hT'.w r hr; omega) (xTE b)
 by_cases d1 : xEI a = 0
 ·obtain ⟨A,hA,rfl⟩ : ∃ M,Vm M ∧ a = M.toF := ⟨a.fromF,(xM2 ha.cn d1).1,(xM2 ha.cn d1).2.symm⟩
  have nA : A.next.length ≤ 100 := by
   have := yC3 c1.1
   have e : A.toF.next.length = A.next.length := by simp [Ma.toF]
   omega
  have cA : A.toF.cells = A.cells := by
   have := A.toF_av
   unfold Mf.av Ma.av at this
   injection this
  rw [A.toF_av]
  rw [cA] at l1
  obtain ⟨cl,hN,B,pn,pe,idn,ide,hm,ho⟩ := xRe hA nA
  obtain ⟨hX,_⟩ := xUJ hA hN
  have hFM : FM A (xEP A cl) b (cpF b) B pn pe idn ide := ⟨l1,toF_av' hA,hcb,same_self' hA,hsb,ho,hm,yG7 hA hN,rfl,rfl,hX,same_self' hX⟩
  by_cases d2 : xEI b = 0
  ·obtain ⟨C,hB,rfl⟩ : ∃ M,Vm M ∧ b = M.toF := ⟨b.fromF,(xM2 hb.cn d2).1,(xM2 hb.cn d2).2.symm⟩
   rw [yCd hB] at hFM
   by_cases d3 : A.i = C.i ∧ A.o = C.o
   ·have h37 := yAX hA hB d3.1 d3.2
    have h38 := yHg hA hB d3.1 d3.2
    rw [← C.toF_av] at h37 h38
    cases hs : yD8 A C with
    | none =>
     rw [hs] at h37 h38
     exact xMQ hFM h37 h38
    | some v =>
     rw [hs] at h37 h38
     refine xZ3 hFM ?_ h37 h38
     have hl := xLR hA hB d3.1 _ 0 _ (BI.start A C) (xNf hA hB) v hs
     have := xJx hA hB
     omega
   ·have h37 := xQ7 hA hB d3
    have h38 := yAG hA hB d3
    rw [← C.toF_av] at h37 h38
    exact xMQ hFM h37 h38
  ·have h37 := xQ6 hS hT' d1 (by rw [xM3]; exact d2)
   have h38 := yAF hS hT d1 d2
   rw [xM3] at h37
   rw [A.toF_av] at h37 h38
   exact xMQ hFM h37 h38
 ·have hS' := yFC hS
  have hca := xYj hS
  have hsa := xTD (a := cpF a) (b := a) (by have := hS'.n; omega) (by have := hS'.e; omega) (fun r hr => by have := hS'.r r hr; omega) (fun r hr => by have := hS'.w r hr; omega) (xTE a)
  have d1' : xEI (cpF a) ≠ 0 := by rw [xM3]; exact d1
  obtain ⟨G,hm⟩ := xJv hS' d1'
  have h37 := xQ5 (b := cpF b) hS' d1'
  rw [xM3] at hm h37
  exact xZ4 l1 hca hcb hsa hsb hm (xYu hS d1) h37 (yAE hS d1)
theorem law5 (avs : List AV) (h : xQo [TMa,TMa] avs) : L.pcall 5 avs = some (.bool true) := by
 obtain ⟨v1,avs,rfl,f1,h⟩ := xL4 h
 obtain ⟨v2,avs,rfl,f2,h⟩ := xL4 h
 obtain rfl := xX4 h
 obtain ⟨a,rfl,ha⟩ := yB9 f1
 obtain ⟨b,rfl,hb⟩ := yB9 f2
 exact yC4 ha hb
end Go.Abs.Mealy
