/- The trees' reference: Formed and Check. -/
import Derived.Test.YtijmhicopfphnaaDoorAbsBun
import Derived.Test.YtijmhicopfphnaaDoorAMM
namespace Go.Abs.Tree
open Go Go.Abs
set_option linter.unusedSimpArgs false
set_option linter.unusedVariables false
theorem lfs_at0' {l : List Lf} {i : Nat} (h : i < l.length) : List.take 1 (List.drop (i * 3) (lfs l)) = [.int .u8 ((l.getD i f0).x : Nat)] := by
 rw [xHB h]; rfl
section
variable {z : Bool} {t : List Lf}
theorem xTn {i : Nat} (h : t.length ≤ i) : L.pcall 101 [tw z t,.int .i64 (i : Nat)] = some (.int .i64 (-1)) := by
 have h' : ((t.length : Nat) : Int) ≤ (i : Nat) := by omega
 rw [xFI,xOu,xAu]
 simp (maxSteps := 30000000) (disch := first | assumption | omega | (simp only [WL,AV.isCell,xAb] <;> omega) | rfl | decide) only [↓reduceIte,WB,xAW,xAd,xAV,xAm,xAl,AV.cells,AV.isCell,xAc,xAi,xAj,W2,xAe,xAf,xAh,Nat.reduceAdd,Nat.reduceSub,Nat.reduceLeDiff,Nat.reduceMul,Int.reduceAdd,Int.reduceSub,Int.reduceMul,Int.reduceLT,Int.reduceLE,Int.reduceEq,Int.reduceToNat,Int.reduceNeg,Nat.reduceEqDiff,Nat.reduceBEq,Nat.reduceLT,xAb,xAJ,xAv,xAw,lfs_at0',h']
set_option maxHeartbeats 1000000 in
theorem xX0 (ht : t.length < 1099511627776) : ∀ k i,t.length ≤ i + k →
  L.pcall 101 [tw z t,.int .i64 (i : Nat)] = some (.int .i64 (-1)) ∨ ∃ n T,L.pcall 101 [tw z t,.int .i64 (i : Nat)] = some (.int .i64 (n : Nat)) ∧ i < n ∧ n ≤ t.length ∧ Sub t (i : Int) i T n
 | 0,i,hk => .inl (xTn (by omega))
 | k + 1,i,hk => by
  have ih := fun i' (h : i < i') => xX0 ht k i' (by omega)
  by_cases hi : t.length ≤ i
  ·exact .inl (xTn hi)
  have hi' : ¬ ((t.length : Nat) : Int) ≤ (i : Nat) := by omega
  have hi2 : i < t.length := by omega
  by_cases c1 : (t.getD i f0).l = -1
  ·have hL : Sub t (t.getD i f0).l (i + 1) .nil (i + 1) := by rw [c1]; exact .none _
   by_cases d1 : (t.getD i f0).r = -1
   ·refine .inr ⟨i + 1,.node (t.getD i f0).x .nil .nil,?_,by omega,by omega,.some hi2 hL (by rw [d1]; exact .none _)⟩
    rw [xFI,xOu,xAu]
    simp (maxSteps := 30000000) (disch := first | assumption | omega | (simp only [WL,AV.isCell,xAb] <;> omega) | rfl | decide) only [↓reduceIte,WB,xAW,xAd,xAV,xAm,xAl,AV.cells,AV.isCell,xAc,xAi,xAj,W2,xAe,xAf,xAh,Nat.reduceAdd,Nat.reduceSub,Nat.reduceLeDiff,Nat.reduceMul,Int.reduceAdd,Int.reduceSub,Int.reduceMul,Int.reduceLT,Int.reduceLE,Int.reduceEq,Int.reduceToNat,Int.reduceNeg,Nat.reduceEqDiff,Nat.reduceBEq,Nat.reduceLT,xAb,xAJ,xAv,xAw,lfs_at0',hi',c1,d1]
   ·by_cases d2 : (t.getD i f0).r = ((i + 1 : Nat) : Int)
    ·have d1' : ¬ (((i + 1 : Nat) : Int) = -1) := by omega
     rcases ih (i + 1) (by omega) with q | ⟨n,T',q,q1,q2,q3⟩
     ·left
      rw [xFI,xOu,xAu]
      simp (maxSteps := 30000000) (disch := first | assumption | omega | (simp only [WL,AV.isCell,xAb] <;> omega) | rfl | decide) only [↓reduceIte,WB,xAW,xAd,xAV,xAm,xAl,AV.cells,AV.isCell,xAc,xAi,xAj,W2,xAe,xAf,xAh,Nat.reduceAdd,Nat.reduceSub,Nat.reduceLeDiff,Nat.reduceMul,Int.reduceAdd,Int.reduceSub,Int.reduceMul,Int.reduceLT,Int.reduceLE,Int.reduceEq,Int.reduceToNat,Int.reduceNeg,Nat.reduceEqDiff,Nat.reduceBEq,Nat.reduceLT,xAb,xAJ,xAv,xAw,lfs_at0',hi',c1,d1,d2,q,d1']
     ·refine .inr ⟨n,.node (t.getD i f0).x .nil T',?_,by omega,q2,.some hi2 hL (by rw [d2]; exact q3)⟩
      rw [xFI,xOu,xAu]
      simp (maxSteps := 30000000) (disch := first | assumption | omega | (simp only [WL,AV.isCell,xAb] <;> omega) | rfl | decide) only [↓reduceIte,WB,xAW,xAd,xAV,xAm,xAl,AV.cells,AV.isCell,xAc,xAi,xAj,W2,xAe,xAf,xAh,Nat.reduceAdd,Nat.reduceSub,Nat.reduceLeDiff,Nat.reduceMul,Int.reduceAdd,Int.reduceSub,Int.reduceMul,Int.reduceLT,Int.reduceLE,Int.reduceEq,Int.reduceToNat,Int.reduceNeg,Nat.reduceEqDiff,Nat.reduceBEq,Nat.reduceLT,xAb,xAJ,xAv,xAw,lfs_at0',hi',c1,d1,d2,q,d1']
    ·left
     rw [xFI,xOu,xAu]
     simp (maxSteps := 30000000) (disch := first | assumption | omega | (simp only [WL,AV.isCell,xAb] <;> omega) | rfl | decide) only [↓reduceIte,WB,xAW,xAd,xAV,xAm,xAl,AV.cells,AV.isCell,xAc,xAi,xAj,W2,xAe,xAf,xAh,Nat.reduceAdd,Nat.reduceSub,Nat.reduceLeDiff,Nat.reduceMul,Int.reduceAdd,Int.reduceSub,Int.reduceMul,Int.reduceLT,Int.reduceLE,Int.reduceEq,Int.reduceToNat,Int.reduceNeg,Nat.reduceEqDiff,Nat.reduceBEq,Nat.reduceLT,xAb,xAJ,xAv,xAw,lfs_at0',hi',c1,d1,d2]
  ·by_cases c2 : (t.getD i f0).l = ((i + 1 : Nat) : Int)
   ·have c1' : ¬ (((i + 1 : Nat) : Int) = -1) := by omega
    rcases ih (i + 1) (by omega) with q0 | ⟨m,T0,q0,m1,m2,m3⟩
    ·left
     rw [xFI,xOu,xAu]
     simp (maxSteps := 30000000) (disch := first | assumption | omega | (simp only [WL,AV.isCell,xAb] <;> omega) | rfl | decide) only [↓reduceIte,WB,xAW,xAd,xAV,xAm,xAl,AV.cells,AV.isCell,xAc,xAi,xAj,W2,xAe,xAf,xAh,Nat.reduceAdd,Nat.reduceSub,Nat.reduceLeDiff,Nat.reduceMul,Int.reduceAdd,Int.reduceSub,Int.reduceMul,Int.reduceLT,Int.reduceLE,Int.reduceEq,Int.reduceToNat,Int.reduceNeg,Nat.reduceEqDiff,Nat.reduceBEq,Nat.reduceLT,xAb,xAJ,xAv,xAw,lfs_at0',hi',c1,c2,c1',q0]
    ·have m0 : ¬ ((m : Nat) : Int) < 0 := by omega
     have hL : Sub t (t.getD i f0).l (i + 1) T0 m := by rw [c2]; exact m3
     by_cases d1 : (t.getD i f0).r = -1
     ·refine .inr ⟨m,.node (t.getD i f0).x T0 .nil,?_,by omega,by omega,.some hi2 hL (by rw [d1]; exact .none _)⟩
      rw [xFI,xOu,xAu]
      simp (maxSteps := 30000000) (disch := first | assumption | omega | (simp only [WL,AV.isCell,xAb] <;> omega) | rfl | decide) only [↓reduceIte,WB,xAW,xAd,xAV,xAm,xAl,AV.cells,AV.isCell,xAc,xAi,xAj,W2,xAe,xAf,xAh,Nat.reduceAdd,Nat.reduceSub,Nat.reduceLeDiff,Nat.reduceMul,Int.reduceAdd,Int.reduceSub,Int.reduceMul,Int.reduceLT,Int.reduceLE,Int.reduceEq,Int.reduceToNat,Int.reduceNeg,Nat.reduceEqDiff,Nat.reduceBEq,Nat.reduceLT,xAb,xAJ,xAv,xAw,lfs_at0',hi',c1,c2,c1',q0,m0,d1]
     ·by_cases d2 : (t.getD i f0).r = ((m : Nat) : Int)
      ·have d1' : ¬ (((m : Nat) : Int) = -1) := by omega
       rcases ih (m) (by omega) with q | ⟨n,T',q,q1,q2,q3⟩
       ·left
        rw [xFI,xOu,xAu]
        simp (maxSteps := 30000000) (disch := first | assumption | omega | (simp only [WL,AV.isCell,xAb] <;> omega) | rfl | decide) only [↓reduceIte,WB,xAW,xAd,xAV,xAm,xAl,AV.cells,AV.isCell,xAc,xAi,xAj,W2,xAe,xAf,xAh,Nat.reduceAdd,Nat.reduceSub,Nat.reduceLeDiff,Nat.reduceMul,Int.reduceAdd,Int.reduceSub,Int.reduceMul,Int.reduceLT,Int.reduceLE,Int.reduceEq,Int.reduceToNat,Int.reduceNeg,Nat.reduceEqDiff,Nat.reduceBEq,Nat.reduceLT,xAb,xAJ,xAv,xAw,lfs_at0',hi',c1,c2,c1',q0,m0,d1,d2,q,d1']
       ·refine .inr ⟨n,.node (t.getD i f0).x T0 T',?_,by omega,q2,.some hi2 hL (by rw [d2]; exact q3)⟩
        rw [xFI,xOu,xAu]
        simp (maxSteps := 30000000) (disch := first | assumption | omega | (simp only [WL,AV.isCell,xAb] <;> omega) | rfl | decide) only [↓reduceIte,WB,xAW,xAd,xAV,xAm,xAl,AV.cells,AV.isCell,xAc,xAi,xAj,W2,xAe,xAf,xAh,Nat.reduceAdd,Nat.reduceSub,Nat.reduceLeDiff,Nat.reduceMul,Int.reduceAdd,Int.reduceSub,Int.reduceMul,Int.reduceLT,Int.reduceLE,Int.reduceEq,Int.reduceToNat,Int.reduceNeg,Nat.reduceEqDiff,Nat.reduceBEq,Nat.reduceLT,xAb,xAJ,xAv,xAw,lfs_at0',hi',c1,c2,c1',q0,m0,d1,d2,q,d1']
      ·left
       rw [xFI,xOu,xAu]
       simp (maxSteps := 30000000) (disch := first | assumption | omega | (simp only [WL,AV.isCell,xAb] <;> omega) | rfl | decide) only [↓reduceIte,WB,xAW,xAd,xAV,xAm,xAl,AV.cells,AV.isCell,xAc,xAi,xAj,W2,xAe,xAf,xAh,Nat.reduceAdd,Nat.reduceSub,Nat.reduceLeDiff,Nat.reduceMul,Int.reduceAdd,Int.reduceSub,Int.reduceMul,Int.reduceLT,Int.reduceLE,Int.reduceEq,Int.reduceToNat,Int.reduceNeg,Nat.reduceEqDiff,Nat.reduceBEq,Nat.reduceLT,xAb,xAJ,xAv,xAw,lfs_at0',hi',c1,c2,c1',q0,m0,d1,d2]
   ·left
    rw [xFI,xOu,xAu]
    simp (maxSteps := 30000000) (disch := first | assumption | omega | (simp only [WL,AV.isCell,xAb] <;> omega) | rfl | decide) only [↓reduceIte,WB,xAW,xAd,xAV,xAm,xAl,AV.cells,AV.isCell,xAc,xAi,xAj,W2,xAe,xAf,xAh,Nat.reduceAdd,Nat.reduceSub,Nat.reduceLeDiff,Nat.reduceMul,Int.reduceAdd,Int.reduceSub,Int.reduceMul,Int.reduceLT,Int.reduceLE,Int.reduceEq,Int.reduceToNat,Int.reduceNeg,Nat.reduceEqDiff,Nat.reduceBEq,Nat.reduceLT,xAb,xAJ,xAv,xAw,lfs_at0',hi',c1,c2]
theorem yC7 (ht : t.length < 1099511627776) {c : Int} {m n : Nat} {T : BT} (h : Sub t c m T n) : 0 ≤ c → L.pcall 101 [tw z t,.int .i64 (m : Nat)] = some (.int .i64 (n : Nat)) := by
 induction h with
 | none m => intro h; omega
 | @some m k n l r hm hl hr ihl ihr =>
  intro _
  have hi' : ¬ ((t.length : Nat) : Int) ≤ (m : Nat) := by omega
  rcases xD7 hl with ⟨c1,e2,_⟩ | ⟨c2,e2⟩
  ·subst e2
   rcases xD7 hr with ⟨d1,e3,_⟩ | ⟨d2,e3⟩
   ·subst e3
    rw [xFI,xOu,xAu]
    simp (maxSteps := 30000000) (disch := first | assumption | omega | (simp only [WL,AV.isCell,xAb] <;> omega) | rfl | decide) only [↓reduceIte,WB,xAW,xAd,xAV,xAm,xAl,AV.cells,AV.isCell,xAc,xAi,xAj,W2,xAe,xAf,xAh,Nat.reduceAdd,Nat.reduceSub,Nat.reduceLeDiff,Nat.reduceMul,Int.reduceAdd,Int.reduceSub,Int.reduceMul,Int.reduceLT,Int.reduceLE,Int.reduceEq,Int.reduceToNat,Int.reduceNeg,Nat.reduceEqDiff,Nat.reduceBEq,Nat.reduceLT,xAb,xAJ,xAv,xAw,lfs_at0',hi',c1,d1]
   ·have q := ihr (by omega)
    have d1' : ¬ (((m + 1 : Nat) : Int) = -1) := by omega
    rw [xFI,xOu,xAu]
    simp (maxSteps := 30000000) (disch := first | assumption | omega | (simp only [WL,AV.isCell,xAb] <;> omega) | rfl | decide) only [↓reduceIte,WB,xAW,xAd,xAV,xAm,xAl,AV.cells,AV.isCell,xAc,xAi,xAj,W2,xAe,xAf,xAh,Nat.reduceAdd,Nat.reduceSub,Nat.reduceLeDiff,Nat.reduceMul,Int.reduceAdd,Int.reduceSub,Int.reduceMul,Int.reduceLT,Int.reduceLE,Int.reduceEq,Int.reduceToNat,Int.reduceNeg,Nat.reduceEqDiff,Nat.reduceBEq,Nat.reduceLT,xAb,xAJ,xAv,xAw,lfs_at0',hi',c1,d2,q,d1']
  ·have q0 := ihl (by omega)
   have c1' : ¬ (((m + 1 : Nat) : Int) = -1) := by omega
   have m0 : ¬ ((k : Nat) : Int) < 0 := by omega
   rcases xD7 hr with ⟨d1,e3,_⟩ | ⟨d2,e3⟩
   ·subst e3
    rw [xFI,xOu,xAu]
    simp (maxSteps := 30000000) (disch := first | assumption | omega | (simp only [WL,AV.isCell,xAb] <;> omega) | rfl | decide) only [↓reduceIte,WB,xAW,xAd,xAV,xAm,xAl,AV.cells,AV.isCell,xAc,xAi,xAj,W2,xAe,xAf,xAh,Nat.reduceAdd,Nat.reduceSub,Nat.reduceLeDiff,Nat.reduceMul,Int.reduceAdd,Int.reduceSub,Int.reduceMul,Int.reduceLT,Int.reduceLE,Int.reduceEq,Int.reduceToNat,Int.reduceNeg,Nat.reduceEqDiff,Nat.reduceBEq,Nat.reduceLT,xAb,xAJ,xAv,xAw,lfs_at0',hi',c1',c2,q0,m0,d1]
   ·have q := ihr (by omega)
    have d1' : ¬ (((k : Nat) : Int) = -1) := by omega
    rw [xFI,xOu,xAu]
    simp (maxSteps := 30000000) (disch := first | assumption | omega | (simp only [WL,AV.isCell,xAb] <;> omega) | rfl | decide) only [↓reduceIte,WB,xAW,xAd,xAV,xAm,xAl,AV.cells,AV.isCell,xAc,xAi,xAj,W2,xAe,xAf,xAh,Nat.reduceAdd,Nat.reduceSub,Nat.reduceLeDiff,Nat.reduceMul,Int.reduceAdd,Int.reduceSub,Int.reduceMul,Int.reduceLT,Int.reduceLE,Int.reduceEq,Int.reduceToNat,Int.reduceNeg,Nat.reduceEqDiff,Nat.reduceBEq,Nat.reduceLT,xAb,xAJ,xAv,xAw,lfs_at0',hi',c1',c2,q0,m0,d2,q,d1']
theorem xX1 (z : Bool) (t : List Lf) (ht : t.length < 1099511627776) : L.pcall 84 [tw z t] = some (.bool (xDa t)) := by
 by_cases h31 : 31 < t.length
 ·have e : xDa t = false := by
   rw [Bool.eq_false_iff]
   intro q
   obtain ⟨T,hT⟩ := formedB_iff.1 q
   rcases hT with ⟨h,_⟩ | ⟨h,_⟩
   ·rw [h] at h31; simp at h31
   ·omega
  have h' : (31 : Int) < (t.length : Nat) := by omega
  rw [e,yDT,a84,xAu]
  simp (maxSteps := 30000000) (disch := first | assumption | omega | (simp only [WL,AV.isCell,xAb] <;> omega) | rfl | decide) only [↓reduceIte,WB,xAW,xAd,xAV,xAm,xAl,AV.cells,AV.isCell,xAc,xAi,xAj,W2,xAe,xAf,xAh,Nat.reduceAdd,Nat.reduceSub,Nat.reduceLeDiff,Nat.reduceMul,Int.reduceAdd,Int.reduceSub,Int.reduceMul,Int.reduceLT,Int.reduceLE,Int.reduceEq,Int.reduceToNat,Int.reduceNeg,Nat.reduceEqDiff,Nat.reduceBEq,Nat.reduceLT,xAb,xAJ,xAv,xAw,lfs_at0',h']
 have h' : ¬ (31 : Int) < (t.length : Nat) := by omega
 by_cases h0 : t.length = 0
 ·have e : xDa t = true := formedB_iff.2 ⟨.nil,.inl ⟨List.eq_nil_of_length_eq_zero h0,rfl⟩⟩
  have h0' : (((t.length : Nat) : Int) = 0) = True := eq_true (by omega)
  rw [e,yDT,a84,xAu]
  simp (maxSteps := 30000000) (disch := first | assumption | omega | (simp only [WL,AV.isCell,xAb] <;> omega) | rfl | decide) only [↓reduceIte,WB,xAW,xAd,xAV,xAm,xAl,AV.cells,AV.isCell,xAc,xAi,xAj,W2,xAe,xAf,xAh,Nat.reduceAdd,Nat.reduceSub,Nat.reduceLeDiff,Nat.reduceMul,Int.reduceAdd,Int.reduceSub,Int.reduceMul,Int.reduceLT,Int.reduceLE,Int.reduceEq,Int.reduceToNat,Int.reduceNeg,Nat.reduceEqDiff,Nat.reduceBEq,Nat.reduceLT,xAb,xAJ,xAv,xAw,lfs_at0',h',h0']
 have h0' : (((t.length : Nat) : Int) = 0) = False := eq_false (by omega)
 by_cases hf : ∃ T,Formed t T
 ·rw [formedB_iff.2 hf]
  obtain ⟨T,hT⟩ := hf
  rcases hT with ⟨h,_⟩ | ⟨_,hS⟩
  ·rw [h] at h0; simp at h0
  ·have q := yC7 (z := z) ht hS (by omega)
   simp only [Int.natCast_zero] at q
   rw [yDT,a84,xAu]
   simp (maxSteps := 30000000) (disch := first | assumption | omega | (simp only [WL,AV.isCell,xAb] <;> omega) | rfl | decide) only [↓reduceIte,WB,xAW,xAd,xAV,xAm,xAl,AV.cells,AV.isCell,xAc,xAi,xAj,W2,xAe,xAf,xAh,Nat.reduceAdd,Nat.reduceSub,Nat.reduceLeDiff,Nat.reduceMul,Int.reduceAdd,Int.reduceSub,Int.reduceMul,Int.reduceLT,Int.reduceLE,Int.reduceEq,Int.reduceToNat,Int.reduceNeg,Nat.reduceEqDiff,Nat.reduceBEq,Nat.reduceLT,xAb,xAJ,xAv,xAw,lfs_at0',h',h0',q]
 ·have e : xDa t = false := by
   rw [Bool.eq_false_iff]
   intro q
   exact hf (formedB_iff.1 q)
  rw [e]
  rcases xX0 (z := z) ht t.length 0 (by omega) with q | ⟨n,T,q,q1,q2,q3⟩
  ·have h2 : ((-1 : Int) = (t.length : Nat)) = False := eq_false (by omega)
   simp only [Int.natCast_zero] at q
   rw [yDT,a84,xAu]
   simp (maxSteps := 30000000) (disch := first | assumption | omega | (simp only [WL,AV.isCell,xAb] <;> omega) | rfl | decide) only [↓reduceIte,WB,xAW,xAd,xAV,xAm,xAl,AV.cells,AV.isCell,xAc,xAi,xAj,W2,xAe,xAf,xAh,Nat.reduceAdd,Nat.reduceSub,Nat.reduceLeDiff,Nat.reduceMul,Int.reduceAdd,Int.reduceSub,Int.reduceMul,Int.reduceLT,Int.reduceLE,Int.reduceEq,Int.reduceToNat,Int.reduceNeg,Nat.reduceEqDiff,Nat.reduceBEq,Nat.reduceLT,xAb,xAJ,xAv,xAw,lfs_at0',h',h0',q,h2]
  ·have h2 : (((n : Nat) : Int) = (t.length : Nat)) = False := by
    refine eq_false fun h => hf ⟨T,.inr ⟨by omega,?_⟩⟩
    have e1 : n = t.length := by omega
    rw [e1] at q3
    exact q3
   simp only [Int.natCast_zero] at q
   rw [yDT,a84,xAu]
   simp (maxSteps := 30000000) (disch := first | assumption | omega | (simp only [WL,AV.isCell,xAb] <;> omega) | rfl | decide) only [↓reduceIte,WB,xAW,xAd,xAV,xAm,xAl,AV.cells,AV.isCell,xAc,xAi,xAj,W2,xAe,xAf,xAh,Nat.reduceAdd,Nat.reduceSub,Nat.reduceLeDiff,Nat.reduceMul,Int.reduceAdd,Int.reduceSub,Int.reduceMul,Int.reduceLT,Int.reduceLE,Int.reduceEq,Int.reduceToNat,Int.reduceNeg,Nat.reduceEqDiff,Nat.reduceBEq,Nat.reduceLT,xAb,xAJ,xAv,xAw,lfs_at0',h',h0',q,h2]
theorem xP6 {v : Nat} {s4 : AV} {H : Heap} (hv : v ≤ 3) (hl : t.length ≤ 31) (hx : ∀ e ∈ t,e.x < 256) : ∀ d i,i + d = t.length →
  ∃ i' : Nat,L.loop xNE xYS ⟨xKt (tw z t) (.int .i64 (v : Nat)) s4 (.int .i64 (i : Nat)),H⟩ =
   some (if (t.drop i).all (fun e => decide (e.x >>> v = 0)) = true then (.exit 0,⟨xKt (tw z t) (.int .i64 (v : Nat)) s4 (.int .i64 (t.length : Nat)),H⟩)
    else (.ret,⟨xKt (tw z t) (.int .i64 (v : Nat)) (.int .i64 1) (.int .i64 (i' : Nat)),H⟩))
 | 0,i,h => by
  obtain rfl : i = t.length := by omega
  refine ⟨0,?_⟩
  rw [if_pos (by rw [List.drop_length]; rfl),xVh]
  simp (maxSteps := 30000000) (disch := first | assumption | omega | (simp only [WL,AV.isCell,xAb] <;> omega) | rfl | decide) only [↓reduceIte,WB,xAW,xAd,xAV,xAm,xAl,AV.cells,AV.isCell,xAc,xAi,xAj,W2,xAe,xAf,xAh,Nat.reduceAdd,Nat.reduceSub,Nat.reduceLeDiff,Nat.reduceMul,Int.reduceAdd,Int.reduceSub,Int.reduceMul,Int.reduceLT,Int.reduceLE,Int.reduceEq,Int.reduceToNat,Int.reduceNeg,Nat.reduceEqDiff,Nat.reduceBEq,Nat.reduceLT,xAb,xAJ,xAv,xAw,lfs_at0',xKs,xIn]
 | d + 1,i,h => by
  have hlt : (i : Int) < (t.length : Nat) := by omega
  obtain ⟨i',ih⟩ := xP6 (s4 := s4) (H := H) hv hl hx d (i + 1) (by omega)
  have hxi := hx _ (xHC (show i < t.length by omega))
  rw [xPP (by omega : i < t.length),List.all_cons]
  have hsh : IntKind.i64.wrap (1 * 2 ^ min v IntKind.i64.bits) = ((2 ^ v : Nat) : Int) := by
   have : v = 0 ∨ v = 1 ∨ v = 2 ∨ v = 3 := by omega
   rcases this with rfl | rfl | rfl | rfl <;> decide
  have cx : IntKind.i64.wrap (((t.getD i f0).x : Nat) : Int) = (((t.getD i f0).x : Nat) : Int) := by
   generalize (t.getD i f0).x = y at *
   simp [IntKind.wrap,IntKind.bits,IntKind.signed]; omega
  have hdv : (t.getD i f0).x >>> v = 0 ↔ (t.getD i f0).x < 2 ^ v := by
   rw [Nat.shiftRight_eq_div_pow]
   exact Nat.div_eq_zero_iff_lt (Nat.two_pow_pos _)
  by_cases c : (t.getD i f0).x < 2 ^ v
  ·rw [decide_eq_true (hdv.2 c),Bool.true_and]
   refine ⟨i',?_⟩
   have c' : ¬ (((2 ^ v : Nat) : Int) ≤ (((t.getD i f0).x : Nat) : Int)) := by omega
   generalize (2 : Nat) ^ v = w at *
   rw [xVh]
   by_cases e : (t.drop (i + 1)).all (fun e => decide (e.x >>> v = 0)) = true
   ·rw [if_pos e] at ih ⊢
    simp (maxSteps := 30000000) (disch := first | assumption | omega | (simp only [WL,AV.isCell,xAb] <;> omega) | rfl | decide) only [↓reduceIte,WB,xAW,xAd,xAV,xAm,xAl,AV.cells,AV.isCell,xAc,xAi,xAj,W2,xAe,xAf,xAh,Nat.reduceAdd,Nat.reduceSub,Nat.reduceLeDiff,Nat.reduceMul,Int.reduceAdd,Int.reduceSub,Int.reduceMul,Int.reduceLT,Int.reduceLE,Int.reduceEq,Int.reduceToNat,Int.reduceNeg,Nat.reduceEqDiff,Nat.reduceBEq,Nat.reduceLT,xAb,xAJ,xAv,xAw,lfs_at0',xKs,xIn,hlt,hsh,cx,c',ih]
   ·rw [if_neg e] at ih ⊢
    simp (maxSteps := 30000000) (disch := first | assumption | omega | (simp only [WL,AV.isCell,xAb] <;> omega) | rfl | decide) only [↓reduceIte,WB,xAW,xAd,xAV,xAm,xAl,AV.cells,AV.isCell,xAc,xAi,xAj,W2,xAe,xAf,xAh,Nat.reduceAdd,Nat.reduceSub,Nat.reduceLeDiff,Nat.reduceMul,Int.reduceAdd,Int.reduceSub,Int.reduceMul,Int.reduceLT,Int.reduceLE,Int.reduceEq,Int.reduceToNat,Int.reduceNeg,Nat.reduceEqDiff,Nat.reduceBEq,Nat.reduceLT,xAb,xAJ,xAv,xAw,lfs_at0',xKs,xIn,hlt,hsh,cx,c',ih]
  ·rw [decide_eq_false (fun h => c (hdv.1 h)),Bool.false_and]
   refine ⟨i,?_⟩
   rw [if_neg (by simp)]
   have c' : ((2 ^ v : Nat) : Int) ≤ (((t.getD i f0).x : Nat) : Int) := by omega
   generalize (2 : Nat) ^ v = w at *
   rw [xVh]
   simp (maxSteps := 30000000) (disch := first | assumption | omega | (simp only [WL,AV.isCell,xAb] <;> omega) | rfl | decide) only [↓reduceIte,WB,xAW,xAd,xAV,xAm,xAl,AV.cells,AV.isCell,xAc,xAi,xAj,W2,xAe,xAf,xAh,Nat.reduceAdd,Nat.reduceSub,Nat.reduceLeDiff,Nat.reduceMul,Int.reduceAdd,Int.reduceSub,Int.reduceMul,Int.reduceLT,Int.reduceLE,Int.reduceEq,Int.reduceToNat,Int.reduceNeg,Nat.reduceEqDiff,Nat.reduceBEq,Nat.reduceLT,xAb,xAJ,xAv,xAw,lfs_at0',xKs,xIn,hlt,hsh,cx,c']
theorem xTo (z : Bool) (t : List Lf) (v : Nat) (hv : v ≤ 3) (hl : t.length < 1099511627776) (hx : ∀ e ∈ t,e.x < 256) : L.pcall 50 [tw z t,.int .i64 (v : Nat)] = some (.int .i64 (xPO t v)) := by
 have hv0 : ¬ ((v : Nat) : Int) < 0 := by omega
 have hv3 : ¬ (3 : Int) < (v : Nat) := by omega
 unfold xPO
 by_cases h31 : 31 < t.length
 ·rw [if_pos h31]
  have h' : (31 : Int) < (t.length : Nat) := by omega
  rw [yEW,a50,xAu]
  simp (maxSteps := 30000000) (disch := first | assumption | omega | (simp only [WL,AV.isCell,xAb] <;> omega) | rfl | decide) only [↓reduceIte,WB,xAW,xAd,xAV,xAm,xAl,AV.cells,AV.isCell,xAc,xAi,xAj,W2,xAe,xAf,xAh,Nat.reduceAdd,Nat.reduceSub,Nat.reduceLeDiff,Nat.reduceMul,Int.reduceAdd,Int.reduceSub,Int.reduceMul,Int.reduceLT,Int.reduceLE,Int.reduceEq,Int.reduceToNat,Int.reduceNeg,Nat.reduceEqDiff,Nat.reduceBEq,Nat.reduceLT,xAb,xAJ,xAv,xAw,lfs_at0',hv0,hv3,h']
 rw [if_neg h31]
 have h' : ¬ (31 : Int) < (t.length : Nat) := by omega
 obtain ⟨i',h⟩ := xP6 (z := z) (s4 := .int .i64 0) (H := []) hv (by omega) hx t.length 0 (by omega)
 simp only [Int.natCast_zero,List.drop_zero] at h
 have el : t.all (fun e => decide (e.x >>> v = 0)) = xT8 t v := rfl
 rw [el] at h
 have hf := xX1 z t hl
 cases hlb : xT8 t v with
 | true =>
  rw [hlb] at h
  simp only [if_true] at h ⊢
  cases hfb : xDa t with
  | true =>
   rw [hfb] at hf
   simp only [if_true]
   rw [yEW,a50,xAu]
   simp (maxSteps := 30000000) (disch := first | assumption | omega | (simp only [WL,AV.isCell,xAb] <;> omega) | rfl | decide) only [↓reduceIte,WB,xAW,xAd,xAV,xAm,xAl,AV.cells,AV.isCell,xAc,xAi,xAj,W2,xAe,xAf,xAh,Nat.reduceAdd,Nat.reduceSub,Nat.reduceLeDiff,Nat.reduceMul,Int.reduceAdd,Int.reduceSub,Int.reduceMul,Int.reduceLT,Int.reduceLE,Int.reduceEq,Int.reduceToNat,Int.reduceNeg,Nat.reduceEqDiff,Nat.reduceBEq,Nat.reduceLT,xAb,xAJ,xAv,xAw,lfs_at0',xIn,hv0,hv3,h',h,hf]
  | false =>
   rw [hfb] at hf
   simp only [Bool.false_eq_true,if_false]
   rw [yEW,a50,xAu]
   simp (maxSteps := 30000000) (disch := first | assumption | omega | (simp only [WL,AV.isCell,xAb] <;> omega) | rfl | decide) only [↓reduceIte,WB,xAW,xAd,xAV,xAm,xAl,AV.cells,AV.isCell,xAc,xAi,xAj,W2,xAe,xAf,xAh,Nat.reduceAdd,Nat.reduceSub,Nat.reduceLeDiff,Nat.reduceMul,Int.reduceAdd,Int.reduceSub,Int.reduceMul,Int.reduceLT,Int.reduceLE,Int.reduceEq,Int.reduceToNat,Int.reduceNeg,Nat.reduceEqDiff,Nat.reduceBEq,Nat.reduceLT,xAb,xAJ,xAv,xAw,lfs_at0',xIn,hv0,hv3,h',h,hf]
 | false =>
  rw [hlb] at h
  simp only [Bool.false_eq_true,if_false] at h ⊢
  rw [yEW,a50,xAu]
  simp (maxSteps := 30000000) (disch := first | assumption | omega | (simp only [WL,AV.isCell,xAb] <;> omega) | rfl | decide) only [↓reduceIte,WB,xAW,xAd,xAV,xAm,xAl,AV.cells,AV.isCell,xAc,xAi,xAj,W2,xAe,xAf,xAh,Nat.reduceAdd,Nat.reduceSub,Nat.reduceLeDiff,Nat.reduceMul,Int.reduceAdd,Int.reduceSub,Int.reduceMul,Int.reduceLT,Int.reduceLE,Int.reduceEq,Int.reduceToNat,Int.reduceNeg,Nat.reduceEqDiff,Nat.reduceBEq,Nat.reduceLT,xAb,xAJ,xAv,xAw,lfs_at0',xIn,hv0,hv3,h',h]
end
end Go.Abs.Tree
