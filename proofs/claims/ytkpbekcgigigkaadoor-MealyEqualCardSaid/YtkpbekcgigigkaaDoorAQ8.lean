/- MealyEqual: the law. -/
import Derived.Test.YtkpbekcgigigkaaDoorAbsBun
import Derived.Test.YtkpbekcgigigkaaDoorAQ7
namespace Go.Abs.Mealy
open Go Go.Abs
set_option linter.unusedSimpArgs false
set_option linter.unusedVariables false
theorem xKO (A B : Ma) (u : List Nat) (c : Nat × Nat) : ∀ (l : List Nat) (S : Bs) (v : List Nat),(xF4 A B u c l S).1 = some v → v.length = u.length + 1
  | [],S,v,h => by simp [xF4] at h
  | i :: r,S,v,h => by
    rw [xF4] at h
    split at h
    · simp only [Option.some.injEq] at h
      rw [← h]; simp
    · split at h
      · exact xKO A B u c r _ v h
      · exact xKO A B u c r _ v h
theorem xNg {A B : Ma} (hA : Vm A) (hB : Vm B) (hAB : A.i = B.i) : ∀ (e k : Nat) (S : Bs),BI A B S k 0 → PV A B S → ∀ v,xFx A B e k S = some v → v.length ≤ A.next.length * B.next.length + 1
  | 0,k,S,h,hp,v,hn => by simp [xFx] at hn
  | e + 1,k,S,h,hp,v,hn => by
    rw [xFx] at hn
    split at hn
    · rename_i hk'
      have hb := xFz A B k (two A.i) 0 S (by omega) hk' h
      rw [← List.range_eq_range'] at hb
      have hv := xK9 hA hB hAB (u := S.2.getD k []) (hp.at hk').1 (hp.at hk').2 (List.range (two A.i)) S (fun i hi => List.mem_range.1 hi) hp
      have hl := xKO A B (S.2.getD k []) (S.1.getD k (0,0)) (List.range (two A.i)) S
      have h1 := h.wlen k hk'
      have h2 := h.len_le hp
      generalize xF4 A B (S.2.getD k []) (S.1.getD k (0,0)) (List.range (two A.i)) S = r at hb hn hv hl
      obtain ⟨r1,r2⟩ := r
      cases r1 with
      | some v' =>
        simp only [Option.some.injEq] at hn
        subst hn
        have := hl v' rfl
        omega
      | none => exact xNg hA hB hAB e (k + 1) r2 (hb.2 r2 rfl).1.next hv v hn
    · simp at hn
set_option maxRecDepth 100000 in
theorem xW0 {a b : Mf} (ha : In a) (hb : In b) {zo : Bool} {w : List Nat} (hw : ∀ x ∈ w,x < 256) : L.pcall 7 [a.av,b.av,xCD zo w] = some (.bool true) := by
  have hk : L.pcall 13 [] = some (.bool true) := k1
  have l1 := xU0 a b
  cases c1 : (xD3 a || xD3 b) with
  | true =>
    rw [c1] at l1
    simp only [xCD]
    unfold Mf.av
    unfold Mf.cells at l1 ⊢
    simp only [List.cons_append,List.nil_append] at l1
    rw [a7p,a7,xAo]
    simp (maxSteps := 30000000) (disch := first | assumption | omega | (simp only [WL,AV.isCell] <;> omega) | rfl | decide) only [↓reduceIte,WB,xAH,xAc,xAD,xAl,xAk,AV.cells,AV.isCell,xAb,xAg,xAh,WP,xAA,xAs,xBg,xBe,xBa,xAx,xAC,xAB,W2,xAd,xAe,xAi,Nat.reduceAdd,Nat.reduceSub,Nat.reduceLeDiff,Nat.reduceMul,Int.reduceAdd,Int.reduceSub,Int.reduceMul,Int.reduceLT,Int.reduceLE,Int.reduceEq,Int.reduceToNat,Int.reduceNeg,Nat.reduceEqDiff,Nat.reduceBEq,Nat.reduceLT,l1,hk]
  | false =>
  rw [c1] at l1
  by_cases c2 : 64 < w.length
  · have c2' : (64 : Int) < (w.length : Nat) := by omega
    simp only [xCD]
    unfold Mf.av
    unfold Mf.cells at l1 ⊢
    simp only [List.cons_append,List.nil_append] at l1
    rw [a7p,a7,xAo]
    simp (maxSteps := 30000000) (disch := first | assumption | omega | (simp only [WL,AV.isCell] <;> omega) | rfl | decide) only [↓reduceIte,WB,xAH,xAc,xAD,xAl,xAk,AV.cells,AV.isCell,xAb,xAg,xAh,WP,xAA,xAs,xBg,xBe,xBa,xAx,xAC,xAB,W2,xAd,xAe,xAi,Nat.reduceAdd,Nat.reduceSub,Nat.reduceLeDiff,Nat.reduceMul,Int.reduceAdd,Int.reduceSub,Int.reduceMul,Int.reduceLT,Int.reduceLE,Int.reduceEq,Int.reduceToNat,Int.reduceNeg,Nat.reduceEqDiff,Nat.reduceBEq,Nat.reduceLT,l1,hk,c2']
  have c2' : w.length ≤ 64 := by omega
  rw [Bool.or_eq_false_iff] at c1
  have hS := xPP ha c1.1
  have hT := xPP hb c1.2
  by_cases d1 : xNu a = 0
  · by_cases d2 : xNu b = 0
    · obtain ⟨A,hA,rfl⟩ : ∃ M,Vm M ∧ a = M.toF := ⟨a.fromF,(xK2 ha.cn d1).1,(xK2 ha.cn d1).2.symm⟩
      obtain ⟨B,hB,rfl⟩ : ∃ M,Vm M ∧ b = M.toF := ⟨b.fromF,(xK2 hb.cn d2).1,(xK2 hb.cn d2).2.symm⟩
      by_cases d3 : A.i = B.i ∧ A.o = B.o
      · rw [xW1 hA hB] at l1
        rw [A.toF_av,B.toF_av]
        cases hs : xNv A B with
        | none => exact xW2 hA hB d3.1 d3.2 l1 hs c2' hw
        | some v =>
          have hvl := xNg hA hB d3.1 _ 0 _ (BI.start A B) (xK8 hA hB) v hs
          have hsz := xN6 hA hB
          by_cases c3 : v.length ≤ 64
          · exact xYJ hA hB d3.1 d3.2 l1 hs c3 c2' hw (by omega)
          · exact xYK hA hB d3.1 d3.2 l1 hs (by omega) c2' hw (by omega)
      · refine xGk l1 (e1 := 7) (e2 := 7) ?_ ?_ (by decide) (by decide) c2'
        · rw [A.toF_av,B.toF_av]; exact xKi hA hB d3
        · rw [A.toF_av,B.toF_av]; exact xKi hB hA (fun e => d3 ⟨e.1.symm,e.2.symm⟩)
    · exact xGk l1 (xKh hS hT d1 d2) (xDY hT d2) d2 d2 c2'
  · by_cases d2 : xNu b = 0
    · exact xGk l1 (xDY hS d1) (xKh hT hS d2 d1) d1 d1 c2'
    · exact xGk l1 (xDY hS d1) (xDY hT d2) d1 d2 c2'
theorem law7 (avs : List AV) (h : xNw [TMa,TMa,xY4] avs) : L.pcall 7 avs = some (.bool true) := by
  obtain ⟨v1,avs,rfl,f1,h⟩ := xFu h
  obtain ⟨v2,avs,rfl,f2,h⟩ := xFu h
  obtain ⟨v3,avs,rfl,f3,h⟩ := xFu h
  obtain rfl := xTu h
  obtain ⟨a,rfl,ha⟩ := xWm f1
  obtain ⟨b,rfl,hb⟩ := xWm f2
  obtain ⟨wd,rfl,hz,hw⟩ := xWl (xU1 f3)
  obtain ⟨zo,w⟩ := wd
  simp only at hz hw
  change L.pcall 7 [a.av,b.av,xCD zo w] = _
  exact xW0 ha hb hw
end Go.Abs.Mealy
