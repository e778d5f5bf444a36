/- MealyMinimal: the law's walks. -/
import Derived.Test.YtkpbekcgigigkaaDoorAbsBun
import Derived.Test.YtkpbekcgigigkaaDoorAMF
import Derived.Test.YtkpbekcgigigkaaDoorAMD
import Derived.Test.YtkpbekcgigigkaaDoorAMG
import Derived.Test.YtkpbekcgigigkaaDoorAK1
namespace Go.Abs.Mealy
open Go Go.Abs
set_option linter.unusedSimpArgs false
set_option linter.unusedVariables false
section
variable {a b : Mf} {zw : Bool} {w : List Nat}
set_option maxRecDepth 100000 in
theorem xW4 {e : Int} (hl : L.pcall 11 [.sl false 2 (a.cells ++ b.cells)] = some (.bool false)) (h1 : L.pcall 35 [a.av] = some (.tup [.agg [.int .i64 0,.int .i64 0,.int .i64 0,.sl true 0 [],.sl true 0 []],.int .i64 e])) (n1 : e ≠ 0) (hw : w.length ≤ 70) : L.pcall 6 [a.av,b.av,xEk zw w] = some (.bool true) := by
  have hk : L.pcall 13 [] = some (.bool true) := k1
  have c1 : ¬ (70 : Int) < (w.length : Nat) := by omega
  simp only [xEk]
  unfold Mf.av at h1 ⊢
  unfold Mf.cells at h1 hl ⊢
  simp only [List.cons_append,List.nil_append] at hl
  rw [a6p,a6,xAr]
  simp (maxSteps := 30000000) (disch := first | assumption | omega | (simp only [WL,AV.isCell] <;> omega) | rfl | decide) only [↓reduceIte,WB,xAC,xAc,xAB,xAk,xAj,AV.cells,AV.isCell,xAb,xAf,xAg,WP,xAt,xAm,xA0,xAZ,xAX,xAq,xAv,xAu,W2,xAd,xAe,xAh,Nat.reduceAdd,Nat.reduceSub,Nat.reduceLeDiff,Nat.reduceMul,Int.reduceAdd,Int.reduceSub,Int.reduceMul,Int.reduceLT,Int.reduceLE,Int.reduceEq,Int.reduceToNat,Int.reduceNeg,Nat.reduceEqDiff,Nat.reduceBEq,Nat.reduceLT,hl,hk,c1,h1,n1]
structure FirstOk (A X : Ma) (zw : Bool) (w : List Nat) : Prop where
  m : L.pcall 35 [A.av] = some (.tup [X.av,.int .i64 0])
  again : L.pcall 35 [X.av] = some (.tup [X.av,.int .i64 0])
  s : X.s = 0
  len : X.next.length ≤ A.next.length
  same : L.pcall 29 [X.av,X.av] = some (.bool true)
  run : ∃ z1 m1 c1 z2 m2 c2 z3 m3 c3 z4 m4 c4,∃ e : Int,L.pcall 16 [A.av,xEk zw w] = some (.tup [.sl z1 m1 c1,.sl z2 m2 c2,.int .i64 e]) ∧ L.pcall 16 [X.av,xEk zw w] = some (.tup [.sl z3 m3 c3,.sl z4 m4 c4,.int .i64 e]) ∧ L.pcall 23 [.sl z1 m1 c1,.sl z3 m3 c3] = some (.bool true)
end
section
variable {A X : Ma} {b : Mf} {zw : Bool} {w : List Nat}
set_option maxRecDepth 100000 in
set_option maxHeartbeats 2000000 in
theorem xQ4 {i j : Int} {y0 y1 y2 : Int} {z3 z4 : Bool} {n3 n4 : Nat} {c3 c4 : List AV} {eq : Bool} (hf : FirstOk A X zw w) (hl : L.pcall 11 [.sl false 2 (A.cells ++ b.cells)] = some (.bool false))
    (h1 : L.pcall 35 [b.av] = some (.tup [.agg [.int .i64 y0,.int .i64 y1,.int .i64 y2,.sl z3 n3 c3,.sl z4 n4 c4],.int .i64 i])) (h2 : L.pcall 37 [A.av,b.av] = some (.tup [.sl true 0 [],.bool eq,.int .i64 j]))
    (n1 : i ≠ 0 ∧ j = i ∨ i = 0 ∧ j = 7) (hw : w.length ≤ 70) : L.pcall 6 [A.av,b.av,xEk zw w] = some (.bool true) := by
  obtain ⟨f1,f2,f3,f4,f5,za,ma,ca,zb,mb,cb,zc,mc,cc,zd,md,cd,e,r1,r2,r3⟩ := hf
  have hk : L.pcall 13 [] = some (.bool true) := k1
  have c1 : ¬ (70 : Int) < (w.length : Nat) := by omega
  have c2 : ¬ ((A.next.length : Nat) : Int) < (X.next.length : Nat) := by omega
  have c3' : (((X.s : Nat) : Int) = 0) ↔ True := iff_true_intro (by omega)
  simp only [xEk] at r1 r2 ⊢
  unfold Ma.av Mf.av at *
  unfold Ma.cells Mf.cells at *
  simp only [List.cons_append,List.nil_append] at hl
  rw [a6p,a6,xAr]
  rcases n1 with ⟨n1,rfl⟩ | ⟨rfl,rfl⟩
  · simp (maxSteps := 30000000) (disch := first | assumption | omega | (simp only [WL,AV.isCell] <;> omega) | rfl | decide) only [↓reduceIte,WB,xAC,xAc,xAB,xAk,xAj,AV.cells,AV.isCell,xAb,xAf,xAg,WP,xAt,xAm,xA0,xAZ,xAX,xAq,xAv,xAu,W2,xAd,xAe,xAh,Nat.reduceAdd,Nat.reduceSub,Nat.reduceLeDiff,Nat.reduceMul,Int.reduceAdd,Int.reduceSub,Int.reduceMul,Int.reduceLT,Int.reduceLE,Int.reduceEq,Int.reduceToNat,Int.reduceNeg,Nat.reduceEqDiff,Nat.reduceBEq,Nat.reduceLT,hl,hk,c1,c2,c3',f1,f2,f5,r1,r2,r3,h1,h2,n1]
  · simp (maxSteps := 30000000) (disch := first | assumption | omega | (simp only [WL,AV.isCell] <;> omega) | rfl | decide) only [↓reduceIte,WB,xAC,xAc,xAB,xAk,xAj,AV.cells,AV.isCell,xAb,xAf,xAg,WP,xAt,xAm,xA0,xAZ,xAX,xAq,xAv,xAu,W2,xAd,xAe,xAh,Nat.reduceAdd,Nat.reduceSub,Nat.reduceLeDiff,Nat.reduceMul,Int.reduceAdd,Int.reduceSub,Int.reduceMul,Int.reduceLT,Int.reduceLE,Int.reduceEq,Int.reduceToNat,Int.reduceNeg,Nat.reduceEqDiff,Nat.reduceBEq,Nat.reduceLT,hl,hk,c1,c2,c3',f1,f2,f5,r1,r2,r3,h1,h2]
set_option maxRecDepth 100000 in
set_option maxHeartbeats 2000000 in
theorem xQ5 {B Y : Ma} {zv : Bool} {nv : Nat} {cv : List AV} {eq : Bool} (hf : FirstOk A X zw w) (hl : L.pcall 11 [.sl false 2 (A.cells ++ B.cells)] = some (.bool false))
    (h1 : L.pcall 35 [B.av] = some (.tup [Y.av,.int .i64 0])) (h2 : L.pcall 37 [A.av,B.av] = some (.tup [.sl zv nv cv,.bool eq,.int .i64 0])) (h3 : L.pcall 29 [X.av,Y.av] = some (.bool eq)) (hw : w.length ≤ 70) : L.pcall 6 [A.av,B.av,xEk zw w] = some (.bool true) := by
  obtain ⟨f1,f2,f3,f4,f5,za,ma,ca,zb,mb,cb,zc,mc,cc,zd,md,cd,e,r1,r2,r3⟩ := hf
  have hk : L.pcall 13 [] = some (.bool true) := k1
  have c1 : ¬ (70 : Int) < (w.length : Nat) := by omega
  have c2 : ¬ ((A.next.length : Nat) : Int) < (X.next.length : Nat) := by omega
  have c3' : (((X.s : Nat) : Int) = 0) ↔ True := iff_true_intro (by omega)
  simp only [xEk] at r1 r2 ⊢
  unfold Ma.av at *
  unfold Ma.cells at *
  simp only [List.cons_append,List.nil_append] at hl
  rw [a6p,a6,xAr]
  cases eq
  · simp (maxSteps := 30000000) (disch := first | assumption | omega | (simp only [WL,AV.isCell] <;> omega) | rfl | decide) only [↓reduceIte,WB,xAC,xAc,xAB,xAk,xAj,AV.cells,AV.isCell,xAb,xAf,xAg,WP,xAt,xAm,xA0,xAZ,xAX,xAq,xAv,xAu,W2,xAd,xAe,xAh,Nat.reduceAdd,Nat.reduceSub,Nat.reduceLeDiff,Nat.reduceMul,Int.reduceAdd,Int.reduceSub,Int.reduceMul,Int.reduceLT,Int.reduceLE,Int.reduceEq,Int.reduceToNat,Int.reduceNeg,Nat.reduceEqDiff,Nat.reduceBEq,Nat.reduceLT,hl,hk,c1,c2,c3',f1,f2,f5,r1,r2,r3,h1,h2,h3]
  · simp (maxSteps := 30000000) (disch := first | assumption | omega | (simp only [WL,AV.isCell] <;> omega) | rfl | decide) only [↓reduceIte,WB,xAC,xAc,xAB,xAk,xAj,AV.cells,AV.isCell,xAb,xAf,xAg,WP,xAt,xAm,xA0,xAZ,xAX,xAq,xAv,xAu,W2,xAd,xAe,xAh,Nat.reduceAdd,Nat.reduceSub,Nat.reduceLeDiff,Nat.reduceMul,Int.reduceAdd,Int.reduceSub,Int.reduceMul,Int.reduceLT,Int.reduceLE,Int.reduceEq,Int.reduceToNat,Int.reduceNeg,Nat.reduceEqDiff,Nat.reduceBEq,Nat.reduceLT,hl,hk,c1,c2,c3',f1,f2,f5,r1,r2,r3,h1,h2,h3]
end
end Go.Abs.Mealy
