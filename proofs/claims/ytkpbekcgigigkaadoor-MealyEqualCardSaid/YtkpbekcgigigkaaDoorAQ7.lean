/- MealyEqual: machines that differ,and the law. (printed by q7gen.py) -/
import Derived.Test.YtkpbekcgigigkaaDoorAbsBun
import Derived.Test.YtkpbekcgigigkaaDoorAQ6
namespace Go.Abs.Mealy
open Go Go.Abs
set_option linter.unusedSimpArgs false
set_option linter.unusedVariables false
section
variable {A B : Ma} {zo : Bool} {w v : List Nat}
set_option maxRecDepth 100000 in
set_option maxHeartbeats 4000000 in
theorem xYJ (hA : Vm A) (hB : Vm B) (hAB : A.i = B.i) (hO : A.o = B.o) (hl : L.pcall 11 [.sl false 2 (A.cells ++ B.cells)] = some (.bool false)) (hs : xNv A B = some v) (hv : v.length ≤ 64) (hw : w.length ≤ 64) (hb : ∀ x ∈ w,x < 256) (hvl : v.length < 1099511627776) : L.pcall 7 [A.av,B.av,xCD zo w] = some (.bool true) := by
  have hk : L.pcall 13 [] = some (.bool true) := k1
  have c1 : ¬ (64 : Int) < (w.length : Nat) := by omega
  have h1 := xB9 hA hB hAB hO
  have h2 := xB9 hB hA hAB.symm hO.symm
  rw [xIf hA hB hAB,hs] at h2
  rw [hs] at h1
  simp only at h1 h2
  have hL := xDK hs
  have hle := fun d => xP7 (w := w) hL (d := d)
  obtain ⟨u,x,a,b,ev,o1,o2,hab⟩ := xNt hL
  have hlv : ∀ y ∈ v,y < two A.i := by obtain ⟨_,_,_,l,_⟩ := hL; exact l
  have hN : v.length = u.length + 1 := by rw [ev]; simp
  have hvz : v.isEmpty = false := by rw [ev]; simp
  have hwv : wv v = .sl false v.length (bs v) := by unfold wv xCD; rw [hvz]
  rw [hwv] at h1 h2
  have q0 := xZc (z1 := false) (z2 := false) (a := v) (b := v) (by omega)
  rw [decide_eq_true rfl] at q0
  have hio := hA.io
  have hb6 := (xH4 (show A.i ≤ 6 by omega)).1
  have hb' : ∀ y ∈ v,y < 256 := fun y hy => by have := hlv y hy; omega
  have rz : xIm A.i v = 0 := runE_zero.2 ⟨hv,hlv⟩
  obtain ⟨z3,r3⟩ := (xCv (zw := false) hA rz).1
  obtain ⟨z4,r4⟩ := (xCv (zw := false) hB (by rw [← hAB]; exact rz)).1
  have l3 : (xBJ A A.s v).length = v.length := xBr A v A.s
  have l4 : (xBJ B B.s v).length = v.length := xBr B v B.s
  have ol : (xBJ A A.s u).length = u.length := xBr A u A.s
  have t3 : (xBJ A A.s v).take (v.length - 1) = xBJ A A.s u := by rw [o1,hN,Nat.add_sub_cancel,← ol]; simp
  have t4 : (xBJ B B.s v).take (v.length - 1) = xBJ A A.s u := by rw [o2,hN,Nat.add_sub_cancel,← ol]; simp
  have g3 : (xBJ A A.s v).getD (v.length - 1) 0 = a := by rw [o1,hN,Nat.add_sub_cancel,← ol]; exact xDX _ _ _
  have g4 : (xBJ B B.s v).getD (v.length - 1) 0 = b := by rw [o2,hN,Nat.add_sub_cancel,← ol]; exact xDX _ _ _
  have q1 := xZc (z1 := z3) (z2 := z4) (a := xBJ A A.s u) (b := xBJ A A.s u) (by omega)
  rw [decide_eq_true rfl,ol,show u.length = v.length - 1 by omega] at q1
  have v1 : (((v.length : Nat) : Int) ≤ 64) := by omega
  have v2 : ¬ ((v.length : Nat) : Int) = 0 := by omega
  have v3 : ((v.length : Nat) : Int) - 1 = ((v.length - 1 : Nat) : Int) := by omega
  have v4 : v.length - 1 < v.length := by omega
  have v5 : ((v.length - 1 : Nat) : Int) ≤ (v.length : Nat) := by omega
  have v6 : ¬ ((a : Nat) : Int) = (b : Nat) := by omega
  have v7 : v.length - 1 ≤ v.length := by omega
  by_cases d : xIm A.i w = 0
  · obtain ⟨za,r1⟩ := (xCv (zw := zo) hA d).1
    obtain ⟨zb,r2⟩ := (xCv (zw := zo) hB (by rw [← hAB]; exact d)).1
    have l1 : (xBJ A A.s w).length = w.length := xBr A w A.s
    have l2 : (xBJ B B.s w).length = w.length := xBr B w B.s
    have hd := fun d' e1 e2 => hle d' (runE_zero.1 d).2 e1 e2
    clear hle
    generalize A.s :: xIg A A.s w = s1 at *
    generalize B.s :: xIg B B.s w = s2 at *
    generalize xBJ A A.s w = x1 at *
    generalize xBJ B B.s w = x2 at *
    generalize A.s :: xIg A A.s v = s3 at *
    generalize B.s :: xIg B B.s v = s4 at *
    generalize xBJ A A.s u = oo at *
    generalize xBJ A A.s v = x3 at *
    generalize xBJ B B.s v = x4 at *
    by_cases w0 : w.length = 0
    · have w0' : ((w.length : Nat) : Int) = 0 := by omega
      simp only [xCD] at r1 r2 r3 r4 ⊢
      unfold Ma.av at h1 h2 r1 r2 r3 r4 ⊢
      unfold Ma.cells at h1 h2 hl r1 r2 r3 r4 ⊢
      simp only [List.cons_append,List.nil_append] at hl
      rw [a7p,a7,xAo]
      simp (maxSteps := 30000000) (disch := first | assumption | omega | (simp only [WL,AV.isCell] <;> omega) | rfl | decide) only [↓reduceIte,WB,xAH,xAc,xAD,xAl,xAk,AV.cells,AV.isCell,xAb,xAg,xAh,WP,xAA,xAs,xBg,xBe,xBa,xAx,xAC,xAB,W2,xAd,xAe,xAi,Nat.reduceAdd,Nat.reduceSub,Nat.reduceLeDiff,Nat.reduceMul,Int.reduceAdd,Int.reduceSub,Int.reduceMul,Int.reduceLT,Int.reduceLE,Int.reduceEq,Int.reduceToNat,Int.reduceNeg,Nat.reduceEqDiff,Nat.reduceBEq,Nat.reduceLT,hl,hk,c1,h1,h2,q0,r1,r2,w0',r3,r4,l3,l4,t3,t4,g3,g4,q1,v1,v2,v3,v4,v5,v6,v7]
    · have w0' : ¬ ((w.length : Nat) : Int) = 0 := by omega
      have w3 : ((w.length : Nat) : Int) - 1 = ((w.length - 1 : Nat) : Int) := by omega
      have w4 : w.length - 1 < w.length := by omega
      by_cases w1 : x1.getD (w.length - 1) 0 = x2.getD (w.length - 1) 0
      · 
        simp only [xCD] at r1 r2 r3 r4 ⊢
        unfold Ma.av at h1 h2 r1 r2 r3 r4 ⊢
        unfold Ma.cells at h1 h2 hl r1 r2 r3 r4 ⊢
        simp only [List.cons_append,List.nil_append] at hl
        rw [a7p,a7,xAo]
        simp (maxSteps := 30000000) (disch := first | assumption | omega | (simp only [WL,AV.isCell] <;> omega) | rfl | decide) only [↓reduceIte,WB,xAH,xAc,xAD,xAl,xAk,AV.cells,AV.isCell,xAb,xAg,xAh,WP,xAA,xAs,xBg,xBe,xBa,xAx,xAC,xAB,W2,xAd,xAe,xAi,Nat.reduceAdd,Nat.reduceSub,Nat.reduceLeDiff,Nat.reduceMul,Int.reduceAdd,Int.reduceSub,Int.reduceMul,Int.reduceLT,Int.reduceLE,Int.reduceEq,Int.reduceToNat,Int.reduceNeg,Nat.reduceEqDiff,Nat.reduceBEq,Nat.reduceLT,hl,hk,c1,h1,h2,q0,r1,r2,w0',w1,w3,w4,l1,l2,r3,r4,l3,l4,t3,t4,g3,g4,q1,v1,v2,v3,v4,v5,v6,v7]
      · have w2 : ¬ (((x1.getD (w.length - 1) 0 : Nat) : Int) = ((x2.getD (w.length - 1) 0 : Nat) : Int)) := by omega
        obtain ⟨cv,cl,hc⟩ := xZk (z1 := false) (z2 := zo) (a := v) (b := w) (by omega) (hd (w.length - 1) (by omega) w1)
        simp only [xCD] at r1 r2 r3 r4 ⊢
        unfold Ma.av at h1 h2 r1 r2 r3 r4 ⊢
        unfold Ma.cells at h1 h2 hl r1 r2 r3 r4 ⊢
        simp only [List.cons_append,List.nil_append] at hl
        rw [a7p,a7,xAo]
        simp (maxSteps := 30000000) (disch := first | assumption | omega | (simp only [WL,AV.isCell] <;> omega) | rfl | decide) only [↓reduceIte,WB,xAH,xAc,xAD,xAl,xAk,AV.cells,AV.isCell,xAb,xAg,xAh,WP,xAA,xAs,xBg,xBe,xBa,xAx,xAC,xAB,W2,xAd,xAe,xAi,Nat.reduceAdd,Nat.reduceSub,Nat.reduceLeDiff,Nat.reduceMul,Int.reduceAdd,Int.reduceSub,Int.reduceMul,Int.reduceLT,Int.reduceLE,Int.reduceEq,Int.reduceToNat,Int.reduceNeg,Nat.reduceEqDiff,Nat.reduceBEq,Nat.reduceLT,hl,hk,c1,h1,h2,q0,r1,r2,w0',w2,w3,w4,l1,l2,hc,cl,r3,r4,l3,l4,t3,t4,g3,g4,q1,v1,v2,v3,v4,v5,v6,v7]
  · have r1 := (xCu (zw := zo) hA hb (by omega) d).1
    have r2 := (xCu (zw := zo) hB hb (by omega) (by rw [← hAB]; exact d)).1
    clear hle
    generalize xIm A.i w = e1 at *
    generalize xIm B.i w = e2 at *
    generalize A.s :: xIg A A.s v = s3 at *
    generalize B.s :: xIg B B.s v = s4 at *
    generalize xBJ A A.s u = oo at *
    generalize xBJ A A.s v = x3 at *
    generalize xBJ B B.s v = x4 at *
    simp only [xCD] at r1 r2 r3 r4 ⊢
    unfold Ma.av at h1 h2 r1 r2 r3 r4 ⊢
    unfold Ma.cells at h1 h2 hl r1 r2 r3 r4 ⊢
    simp only [List.cons_append,List.nil_append] at hl
    rw [a7p,a7,xAo]
    simp (maxSteps := 30000000) (disch := first | assumption | omega | (simp only [WL,AV.isCell] <;> omega) | rfl | decide) only [↓reduceIte,WB,xAH,xAc,xAD,xAl,xAk,AV.cells,AV.isCell,xAb,xAg,xAh,WP,xAA,xAs,xBg,xBe,xBa,xAx,xAC,xAB,W2,xAd,xAe,xAi,Nat.reduceAdd,Nat.reduceSub,Nat.reduceLeDiff,Nat.reduceMul,Int.reduceAdd,Int.reduceSub,Int.reduceMul,Int.reduceLT,Int.reduceLE,Int.reduceEq,Int.reduceToNat,Int.reduceNeg,Nat.reduceEqDiff,Nat.reduceBEq,Nat.reduceLT,hl,hk,c1,h1,h2,q0,r1,r2,d,r3,r4,l3,l4,t3,t4,g3,g4,q1,v1,v2,v3,v4,v5,v6,v7]
set_option maxRecDepth 100000 in
set_option maxHeartbeats 4000000 in
theorem xYK (hA : Vm A) (hB : Vm B) (hAB : A.i = B.i) (hO : A.o = B.o) (hl : L.pcall 11 [.sl false 2 (A.cells ++ B.cells)] = some (.bool false)) (hs : xNv A B = some v) (hv : 64 < v.length) (hw : w.length ≤ 64) (hb : ∀ x ∈ w,x < 256) (hvl : v.length < 1099511627776) : L.pcall 7 [A.av,B.av,xCD zo w] = some (.bool true) := by
  have hk : L.pcall 13 [] = some (.bool true) := k1
  have c1 : ¬ (64 : Int) < (w.length : Nat) := by omega
  have h1 := xB9 hA hB hAB hO
  have h2 := xB9 hB hA hAB.symm hO.symm
  rw [xIf hA hB hAB,hs] at h2
  rw [hs] at h1
  simp only at h1 h2
  have hL := xDK hs
  have hle := fun d => xP7 (w := w) hL (d := d)
  obtain ⟨u,x,a,b,ev,o1,o2,hab⟩ := xNt hL
  have hlv : ∀ y ∈ v,y < two A.i := by obtain ⟨_,_,_,l,_⟩ := hL; exact l
  have hN : v.length = u.length + 1 := by rw [ev]; simp
  have hvz : v.isEmpty = false := by rw [ev]; simp
  have hwv : wv v = .sl false v.length (bs v) := by unfold wv xCD; rw [hvz]
  rw [hwv] at h1 h2
  have q0 := xZc (z1 := false) (z2 := false) (a := v) (b := v) (by omega)
  rw [decide_eq_true rfl] at q0
  have hio := hA.io
  have hb6 := (xH4 (show A.i ≤ 6 by omega)).1
  have hb' : ∀ y ∈ v,y < 256 := fun y hy => by have := hlv y hy; omega
  have rz : xIm A.i v ≠ 0 := fun e => by have := (runE_zero.1 e).1; omega
  have r3 := (xCu (zw := false) hA hb' (by omega) rz).1
  have r4 := (xCu (zw := false) hB hb' (by omega) (by rw [← hAB]; exact rz)).1
  have v1 : ¬ (((v.length : Nat) : Int) ≤ 64) := by omega
  by_cases d : xIm A.i w = 0
  · obtain ⟨za,r1⟩ := (xCv (zw := zo) hA d).1
    obtain ⟨zb,r2⟩ := (xCv (zw := zo) hB (by rw [← hAB]; exact d)).1
    have l1 : (xBJ A A.s w).length = w.length := xBr A w A.s
    have l2 : (xBJ B B.s w).length = w.length := xBr B w B.s
    have hd := fun d' e1 e2 => hle d' (runE_zero.1 d).2 e1 e2
    clear hle
    generalize A.s :: xIg A A.s w = s1 at *
    generalize B.s :: xIg B B.s w = s2 at *
    generalize xBJ A A.s w = x1 at *
    generalize xBJ B B.s w = x2 at *
    generalize xIm A.i v = e3 at *
    generalize xIm B.i v = e4 at *
    by_cases w0 : w.length = 0
    · have w0' : ((w.length : Nat) : Int) = 0 := by omega
      simp only [xCD] at r1 r2 r3 r4 ⊢
      unfold Ma.av at h1 h2 r1 r2 r3 r4 ⊢
      unfold Ma.cells at h1 h2 hl r1 r2 r3 r4 ⊢
      simp only [List.cons_append,List.nil_append] at hl
      rw [a7p,a7,xAo]
      simp (maxSteps := 30000000) (disch := first | assumption | omega | (simp only [WL,AV.isCell] <;> omega) | rfl | decide) only [↓reduceIte,WB,xAH,xAc,xAD,xAl,xAk,AV.cells,AV.isCell,xAb,xAg,xAh,WP,xAA,xAs,xBg,xBe,xBa,xAx,xAC,xAB,W2,xAd,xAe,xAi,Nat.reduceAdd,Nat.reduceSub,Nat.reduceLeDiff,Nat.reduceMul,Int.reduceAdd,Int.reduceSub,Int.reduceMul,Int.reduceLT,Int.reduceLE,Int.reduceEq,Int.reduceToNat,Int.reduceNeg,Nat.reduceEqDiff,Nat.reduceBEq,Nat.reduceLT,hl,hk,c1,h1,h2,q0,r1,r2,w0',r3,r4,v1]
    · have w0' : ¬ ((w.length : Nat) : Int) = 0 := by omega
      have w3 : ((w.length : Nat) : Int) - 1 = ((w.length - 1 : Nat) : Int) := by omega
      have w4 : w.length - 1 < w.length := by omega
      by_cases w1 : x1.getD (w.length - 1) 0 = x2.getD (w.length - 1) 0
      · 
        simp only [xCD] at r1 r2 r3 r4 ⊢
        unfold Ma.av at h1 h2 r1 r2 r3 r4 ⊢
        unfold Ma.cells at h1 h2 hl r1 r2 r3 r4 ⊢
        simp only [List.cons_append,List.nil_append] at hl
        rw [a7p,a7,xAo]
        simp (maxSteps := 30000000) (disch := first | assumption | omega | (simp only [WL,AV.isCell] <;> omega) | rfl | decide) only [↓reduceIte,WB,xAH,xAc,xAD,xAl,xAk,AV.cells,AV.isCell,xAb,xAg,xAh,WP,xAA,xAs,xBg,xBe,xBa,xAx,xAC,xAB,W2,xAd,xAe,xAi,Nat.reduceAdd,Nat.reduceSub,Nat.reduceLeDiff,Nat.reduceMul,Int.reduceAdd,Int.reduceSub,Int.reduceMul,Int.reduceLT,Int.reduceLE,Int.reduceEq,Int.reduceToNat,Int.reduceNeg,Nat.reduceEqDiff,Nat.reduceBEq,Nat.reduceLT,hl,hk,c1,h1,h2,q0,r1,r2,w0',w1,w3,w4,l1,l2,r3,r4,v1]
      · have w2 : ¬ (((x1.getD (w.length - 1) 0 : Nat) : Int) = ((x2.getD (w.length - 1) 0 : Nat) : Int)) := by omega
        obtain ⟨cv,cl,hc⟩ := xZk (z1 := false) (z2 := zo) (a := v) (b := w) (by omega) (hd (w.length - 1) (by omega) w1)
        simp only [xCD] at r1 r2 r3 r4 ⊢
        unfold Ma.av at h1 h2 r1 r2 r3 r4 ⊢
        unfold Ma.cells at h1 h2 hl r1 r2 r3 r4 ⊢
        simp only [List.cons_append,List.nil_append] at hl
        rw [a7p,a7,xAo]
        simp (maxSteps := 30000000) (disch := first | assumption | omega | (simp only [WL,AV.isCell] <;> omega) | rfl | decide) only [↓reduceIte,WB,xAH,xAc,xAD,xAl,xAk,AV.cells,AV.isCell,xAb,xAg,xAh,WP,xAA,xAs,xBg,xBe,xBa,xAx,xAC,xAB,W2,xAd,xAe,xAi,Nat.reduceAdd,Nat.reduceSub,Nat.reduceLeDiff,Nat.reduceMul,Int.reduceAdd,Int.reduceSub,Int.reduceMul,Int.reduceLT,Int.reduceLE,Int.reduceEq,Int.reduceToNat,Int.reduceNeg,Nat.reduceEqDiff,Nat.reduceBEq,Nat.reduceLT,hl,hk,c1,h1,h2,q0,r1,r2,w0',w2,w3,w4,l1,l2,hc,cl,r3,r4,v1]
  · have r1 := (xCu (zw := zo) hA hb (by omega) d).1
    have r2 := (xCu (zw := zo) hB hb (by omega) (by rw [← hAB]; exact d)).1
    clear hle
    generalize xIm A.i w = e1 at *
    generalize xIm B.i w = e2 at *
    generalize xIm A.i v = e3 at *
    generalize xIm B.i v = e4 at *
    simp only [xCD] at r1 r2 r3 r4 ⊢
    unfold Ma.av at h1 h2 r1 r2 r3 r4 ⊢
    unfold Ma.cells at h1 h2 hl r1 r2 r3 r4 ⊢
    simp only [List.cons_append,List.nil_append] at hl
    rw [a7p,a7,xAo]
    simp (maxSteps := 30000000) (disch := first | assumption | omega | (simp only [WL,AV.isCell] <;> omega) | rfl | decide) only [↓reduceIte,WB,xAH,xAc,xAD,xAl,xAk,AV.cells,AV.isCell,xAb,xAg,xAh,WP,xAA,xAs,xBg,xBe,xBa,xAx,xAC,xAB,W2,xAd,xAe,xAi,Nat.reduceAdd,Nat.reduceSub,Nat.reduceLeDiff,Nat.reduceMul,Int.reduceAdd,Int.reduceSub,Int.reduceMul,Int.reduceLT,Int.reduceLE,Int.reduceEq,Int.reduceToNat,Int.reduceNeg,Nat.reduceEqDiff,Nat.reduceBEq,Nat.reduceLT,hl,hk,c1,h1,h2,q0,r1,r2,d,r3,r4,v1]
end
theorem xW1 {A B : Ma} (hA : Vm A) (hB : Vm B) : A.toF.cells ++ B.toF.cells = A.cells ++ B.cells := by
  have h : ∀ M : Ma,M.toF.cells = M.cells := by
    intro M
    have := M.toF_av
    unfold Mf.av Ma.av at this
    injection this
  rw [h A,h B]
end Go.Abs.Mealy
