/- MealyEqual: the law. -/
import Derived.Test.YtkpbekcgigigkaaDoorAbsBun
import Derived.Test.YtkpbekcgigigkaaDoorAMD
import Derived.Test.YtkpbekcgigigkaaDoorAMC
import Derived.Test.YtkpbekcgigigkaaDoorAK1
namespace Go.Abs.Mealy
open Go Go.Abs
set_option linter.unusedSimpArgs false
set_option linter.unusedVariables false
section
variable {a b : Mf} {zo : Bool} {w : List Nat}
set_option maxRecDepth 100000 in
theorem xGk {e1 e2 : Int} (hl : L.pcall 11 [.sl false 2 (a.cells ++ b.cells)] = some (.bool false)) (h1 : L.pcall 37 [a.av,b.av] = some (eqE e1)) (h2 : L.pcall 37 [b.av,a.av] = some (eqE e2)) (n1 : e1 ≠ 0) (n2 : e2 ≠ 0) (hw : w.length ≤ 64) : L.pcall 7 [a.av,b.av,xCD zo w] = some (.bool true) := by
  have hk : L.pcall 13 [] = some (.bool true) := k1
  have c1 : ¬ (64 : Int) < (w.length : Nat) := by omega
  unfold eqE at h1 h2
  simp only [xCD]
  unfold Mf.av at h1 h2 ⊢
  unfold Mf.cells at h1 h2 hl ⊢
  simp only [List.cons_append,List.nil_append] at hl
  rw [a7p,a7,xAo]
  simp (maxSteps := 30000000) (disch := first | assumption | omega | (simp only [WL,AV.isCell] <;> omega) | rfl | decide) only [↓reduceIte,WB,xAH,xAc,xAD,xAl,xAk,AV.cells,AV.isCell,xAb,xAg,xAh,WP,xAA,xAs,xBg,xBe,xBa,xAx,xAC,xAB,W2,xAd,xAe,xAi,Nat.reduceAdd,Nat.reduceSub,Nat.reduceLeDiff,Nat.reduceMul,Int.reduceAdd,Int.reduceSub,Int.reduceMul,Int.reduceLT,Int.reduceLE,Int.reduceEq,Int.reduceToNat,Int.reduceNeg,Nat.reduceEqDiff,Nat.reduceBEq,Nat.reduceLT,hl,hk,c1,h1,h2,n1,n2]
end
section
variable {A B : Ma} {zo : Bool} {w : List Nat}
set_option maxRecDepth 100000 in
set_option maxHeartbeats 2000000 in
theorem xW2 (hA : Vm A) (hB : Vm B) (hAB : A.i = B.i) (hO : A.o = B.o) (hl : L.pcall 11 [.sl false 2 (A.cells ++ B.cells)] = some (.bool false)) (hs : xNv A B = none) (hw : w.length ≤ 64) (hb : ∀ x ∈ w,x < 256) : L.pcall 7 [A.av,B.av,xCD zo w] = some (.bool true) := by
  have hk : L.pcall 13 [] = some (.bool true) := k1
  have c1 : ¬ (64 : Int) < (w.length : Nat) := by omega
  have h1 := xB9 hA hB hAB hO
  have h2 := xB9 hB hA hAB.symm hO.symm
  rw [xIf hA hB hAB,hs] at h2
  rw [hs] at h1
  simp only at h1 h2
  have q0 := xZc (z1 := true) (z2 := true) (a := []) (b := []) (by simp)
  simp only [decide_true,List.length_nil,bs,List.map_nil] at q0
  by_cases d : xIm A.i w = 0
  · obtain ⟨za,r1⟩ := (xCv (zw := zo) hA d).1
    obtain ⟨zb,r2⟩ := (xCv (zw := zo) hB (by rw [← hAB]; exact d)).1
    have he := xVd hA hB hAB hs (w := w) (fun z hz => (runE_zero.1 d).2 z hz)
    have q1 := xZc (z1 := za) (z2 := zb) (a := xBJ B B.s w) (b := xBJ B B.s w) (by rw [xBr]; omega)
    rw [decide_eq_true rfl,xBr] at q1
    rw [he] at r1
    generalize A.s :: xIg A A.s w = s1 at *
    generalize B.s :: xIg B B.s w = s2 at *
    generalize xBJ B B.s w = oo at *
    simp only [xCD] at r1 r2 ⊢
    unfold Ma.av at h1 h2 r1 r2 ⊢
    unfold Ma.cells at h1 h2 hl r1 r2 ⊢
    simp only [List.cons_append,List.nil_append] at hl
    rw [a7p,a7,xAo]
    simp (maxSteps := 30000000) (disch := first | assumption | omega | (simp only [WL,AV.isCell] <;> omega) | rfl | decide) only [↓reduceIte,WB,xAH,xAc,xAD,xAl,xAk,AV.cells,AV.isCell,xAb,xAg,xAh,WP,xAA,xAs,xBg,xBe,xBa,xAx,xAC,xAB,W2,xAd,xAe,xAi,Nat.reduceAdd,Nat.reduceSub,Nat.reduceLeDiff,Nat.reduceMul,Int.reduceAdd,Int.reduceSub,Int.reduceMul,Int.reduceLT,Int.reduceLE,Int.reduceEq,Int.reduceToNat,Int.reduceNeg,Nat.reduceEqDiff,Nat.reduceBEq,Nat.reduceLT,hl,hk,c1,h1,h2,q0,r1,r2,q1]
  · have r1 := (xCu (zw := zo) hA hb (by omega) d).1
    have r2 := (xCu (zw := zo) hB hb (by omega) (by rw [← hAB]; exact d)).1
    rw [← hAB] at r2
    generalize xIm A.i w = e at *
    simp only [xCD] at r1 r2 ⊢
    unfold Ma.av at h1 h2 r1 r2 ⊢
    unfold Ma.cells at h1 h2 hl r1 r2 ⊢
    simp only [List.cons_append,List.nil_append] at hl
    rw [a7p,a7,xAo]
    simp (maxSteps := 30000000) (disch := first | assumption | omega | (simp only [WL,AV.isCell] <;> omega) | rfl | decide) only [↓reduceIte,WB,xAH,xAc,xAD,xAl,xAk,AV.cells,AV.isCell,xAb,xAg,xAh,WP,xAA,xAs,xBg,xBe,xBa,xAx,xAC,xAB,W2,xAd,xAe,xAi,Nat.reduceAdd,Nat.reduceSub,Nat.reduceLeDiff,Nat.reduceMul,Int.reduceAdd,Int.reduceSub,Int.reduceMul,Int.reduceLT,Int.reduceLE,Int.reduceEq,Int.reduceToNat,Int.reduceNeg,Nat.reduceEqDiff,Nat.reduceBEq,Nat.reduceLT,hl,hk,c1,h1,h2,q0,r1,r2]
end
end Go.Abs.Mealy
