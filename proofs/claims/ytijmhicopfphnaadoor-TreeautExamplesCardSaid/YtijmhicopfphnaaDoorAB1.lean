/- The trees' reference: Formed and Check. -/
import Derived.Test.YtijmhicopfphnaaDoorAbsBun
import Derived.Test.YtijmhicopfphnaaDoorAMM
namespace Go.Abs.Tree
open Go Go.Abs
set_option linter.unusedSimpArgs false
set_option linter.unusedVariables false
theorem lfs_at0' {l : List Lf} {i : Nat} (h : i < l.length) : List.take 1 (List.drop (i * 3) (lfs l)) = [.int .u8 ((l.getD i f0).x : Nat)] := by
 rw [xNq h]; rfl
section
variable {z : Bool} {t : List Lf}
theorem xVc {i : Nat} (h : t.length ≤ i) : L.pcall 101 [tw z t,.int .i64 (i : Nat)] = some (.int .i64 (-1)) := by
 have h' : ((t.length : Nat) : Int) ≤ (i : Nat) := by omega
 rw [xLU,xSl,xAd]
 simp (disch := omega) only [Int.reduceNeg,WB,Nat.reduceAdd,Nat.reduceSub,h',↓reduceIte]
set_option maxHeartbeats 1000000 in
theorem xY8 (ht : t.length < 1099511627776) : ∀ k i,t.length ≤ i + k →
  L.pcall 101 [tw z t,.int .i64 (i : Nat)] = some (.int .i64 (-1)) ∨ ∃ n T,L.pcall 101 [tw z t,.int .i64 (i : Nat)] = some (.int .i64 (n : Nat)) ∧ i < n ∧ n ≤ t.length ∧ Sub t (i : Int) i T n
 | 0,i,hk => .inl (xVc (by omega))
 | k + 1,i,hk => by
  have ih := fun i' (h : i < i') => xY8 ht k i' (by omega)
  by_cases hi : t.length ≤ i
  ·exact .inl (xVc hi)
  have hi' : ¬ ((t.length : Nat) : Int) ≤ (i : Nat) := by omega
  have hi2 : i < t.length := by omega
  by_cases c1 : (t.getD i f0).l = -1
  ·have hL : Sub t (t.getD i f0).l (i + 1) .nil (i + 1) := by rw [c1]; exact .none _
   by_cases d1 : (t.getD i f0).r = -1
   ·refine .inr ⟨i + 1,.node (t.getD i f0).x .nil .nil,?_,by omega,by omega,.some hi2 hL (by rw [d1]; exact .none _)⟩
    rw [xLU,xSl,xAd]
    simp (maxSteps := 30000000) (disch := first | assumption | omega | (simp only [WL,AV.isCell,xAb] <;> omega) | rfl | decide) only [Int.reduceNeg,WB,Nat.reduceAdd,Nat.reduceSub,hi',↓reduceIte,xDx,c1,xDK,d1]
   ·by_cases d2 : (t.getD i f0).r = ((i + 1 : Nat) : Int)
    ·have d1' : ¬ (((i + 1 : Nat) : Int) = -1) := by omega
     rcases ih (i + 1) (by omega) with q | ⟨n,T',q,q1,q2,q3⟩
     ·left
      rw [xLU,xSl,xAd]
      simp (maxSteps := 30000000) (disch := first | assumption | omega | (simp only [WL,AV.isCell,xAb] <;> omega) | rfl | decide) only [Int.reduceNeg,WB,Nat.reduceAdd,Nat.reduceSub,hi',↓reduceIte,xDx,c1,xDK,d2,d1',q,xE0,xAJ]
     ·refine .inr ⟨n,.node (t.getD i f0).x .nil T',?_,by omega,q2,.some hi2 hL (by rw [d2]; exact q3)⟩
      rw [xLU,xSl,xAd]
      simp (maxSteps := 30000000) (disch := first | assumption | omega | (simp only [WL,AV.isCell,xAb] <;> omega) | rfl | decide) only [Int.reduceNeg,WB,Nat.reduceAdd,Nat.reduceSub,hi',↓reduceIte,xDx,c1,xDK,d2,d1',q,xE0,xAJ]
    ·left
     rw [xLU,xSl,xAd]
     simp (maxSteps := 30000000) (disch := first | assumption | omega | (simp only [WL,AV.isCell,xAb] <;> omega) | rfl | decide) only [Int.reduceNeg,WB,Nat.reduceAdd,Nat.reduceSub,hi',↓reduceIte,xDx,c1,xDK,d1,d2]
  ·by_cases c2 : (t.getD i f0).l = ((i + 1 : Nat) : Int)
   ·have c1' : ¬ (((i + 1 : Nat) : Int) = -1) := by omega
    rcases ih (i + 1) (by omega) with q0 | ⟨m,T0,q0,m1,m2,m3⟩
    ·left
     rw [xLU,xSl,xAd]
     simp (maxSteps := 30000000) (disch := first | assumption | omega | (simp only [WL,AV.isCell,xAb] <;> omega) | rfl | decide) only [Int.reduceNeg,WB,Nat.reduceAdd,Nat.reduceSub,hi',↓reduceIte,xDx,c2,c1',q0,xE0,xAJ,Int.reduceLT]
    ·have m0 : ¬ ((m : Nat) : Int) < 0 := by omega
     have hL : Sub t (t.getD i f0).l (i + 1) T0 m := by rw [c2]; exact m3
     by_cases d1 : (t.getD i f0).r = -1
     ·refine .inr ⟨m,.node (t.getD i f0).x T0 .nil,?_,by omega,by omega,.some hi2 hL (by rw [d1]; exact .none _)⟩
      rw [xLU,xSl,xAd]
      simp (maxSteps := 30000000) (disch := first | assumption | omega | (simp only [WL,AV.isCell,xAb] <;> omega) | rfl | decide) only [Int.reduceNeg,WB,Nat.reduceAdd,Nat.reduceSub,hi',↓reduceIte,xDx,c2,c1',q0,xE0,xAJ,m0,xDK,d1]
     ·by_cases d2 : (t.getD i f0).r = ((m : Nat) : Int)
      ·have d1' : ¬ (((m : Nat) : Int) = -1) := by omega
       rcases ih (m) (by omega) with q | ⟨n,T',q,q1,q2,q3⟩
       ·left
        rw [xLU,xSl,xAd]
        simp (maxSteps := 30000000) (disch := first | assumption | omega | (simp only [WL,AV.isCell,xAb] <;> omega) | rfl | decide) only [Int.reduceNeg,WB,Nat.reduceAdd,Nat.reduceSub,hi',↓reduceIte,xDx,c2,c1',q0,xE0,xAJ,m0,xDK,d2,d1',q]
       ·refine .inr ⟨n,.node (t.getD i f0).x T0 T',?_,by omega,q2,.some hi2 hL (by rw [d2]; exact q3)⟩
        rw [xLU,xSl,xAd]
        simp (maxSteps := 30000000) (disch := first | assumption | omega | (simp only [WL,AV.isCell,xAb] <;> omega) | rfl | decide) only [Int.reduceNeg,WB,Nat.reduceAdd,Nat.reduceSub,hi',↓reduceIte,xDx,c2,c1',q0,xE0,xAJ,m0,xDK,d2,d1',q]
      ·left
       rw [xLU,xSl,xAd]
       simp (maxSteps := 30000000) (disch := first | assumption | omega | (simp only [WL,AV.isCell,xAb] <;> omega) | rfl | decide) only [Int.reduceNeg,WB,Nat.reduceAdd,Nat.reduceSub,hi',↓reduceIte,xDx,c2,c1',q0,xE0,xAJ,m0,xDK,d1,d2]
   ·left
    rw [xLU,xSl,xAd]
    simp (maxSteps := 30000000) (disch := first | assumption | omega | (simp only [WL,AV.isCell,xAb] <;> omega) | rfl | decide) only [Int.reduceNeg,WB,Nat.reduceAdd,Nat.reduceSub,hi',↓reduceIte,xDx,c1,c2]
theorem yD8 (ht : t.length < 1099511627776) {c : Int} {m n : Nat} {T : BT} (h : Sub t c m T n) : 0 ≤ c → L.pcall 101 [tw z t,.int .i64 (m : Nat)] = some (.int .i64 (n : Nat)) := by
 induction h with
 | none m => intro h; omega
 | @some m k n l r hm hl hr ihl ihr =>
  intro _
  have hi' : ¬ ((t.length : Nat) : Int) ≤ (m : Nat) := by omega
  rcases xKi hl with ⟨c1,e2,_⟩ | ⟨c2,e2⟩
  ·subst e2
   rcases xKi hr with ⟨d1,e3,_⟩ | ⟨d2,e3⟩
   ·subst e3
    rw [xLU,xSl,xAd]
    simp (maxSteps := 30000000) (disch := first | assumption | omega | (simp only [WL,AV.isCell,xAb] <;> omega) | rfl | decide) only [Int.reduceNeg,WB,Nat.reduceAdd,Nat.reduceSub,hi',↓reduceIte,xDx,c1,xDK,d1]
   ·have q := ihr (by omega)
    have d1' : ¬ (((m + 1 : Nat) : Int) = -1) := by omega
    rw [xLU,xSl,xAd]
    simp (maxSteps := 30000000) (disch := first | assumption | omega | (simp only [WL,AV.isCell,xAb] <;> omega) | rfl | decide) only [Int.reduceNeg,WB,Nat.reduceAdd,Nat.reduceSub,hi',↓reduceIte,xDx,c1,xDK,d2,d1',q,xE0,xAJ]
  ·have q0 := ihl (by omega)
   have c1' : ¬ (((m + 1 : Nat) : Int) = -1) := by omega
   have m0 : ¬ ((k : Nat) : Int) < 0 := by omega
   rcases xKi hr with ⟨d1,e3,_⟩ | ⟨d2,e3⟩
   ·subst e3
    rw [xLU,xSl,xAd]
    simp (maxSteps := 30000000) (disch := first | assumption | omega | (simp only [WL,AV.isCell,xAb] <;> omega) | rfl | decide) only [Int.reduceNeg,WB,Nat.reduceAdd,Nat.reduceSub,hi',↓reduceIte,xDx,c2,c1',q0,xE0,xAJ,m0,xDK,d1]
   ·have q := ihr (by omega)
    have d1' : ¬ (((k : Nat) : Int) = -1) := by omega
    rw [xLU,xSl,xAd]
    simp (maxSteps := 30000000) (disch := first | assumption | omega | (simp only [WL,AV.isCell,xAb] <;> omega) | rfl | decide) only [Int.reduceNeg,WB,Nat.reduceAdd,Nat.reduceSub,hi',↓reduceIte,xDx,c2,c1',q0,xE0,xAJ,m0,xDK,d2,d1',q]
theorem xY9 (z : Bool) (t : List Lf) (ht : t.length < 1099511627776) : L.pcall 84 [tw z t] = some (.bool (xJh t)) := by
 by_cases h31 : 31 < t.length
 ·have e : xJh t = false := by
   rw [Bool.eq_false_iff]
   intro q
   obtain ⟨T,hT⟩ := formedB_iff.1 q
   rcases hT with ⟨h,_⟩ | ⟨h,_⟩
   ·rw [h] at h31; simp at h31
   ·omega
  have h' : (31 : Int) < (t.length : Nat) := by omega
  rw [e,yEP,a84,xAd]
  simp (disch := omega) only [WB,Nat.reduceSub,h',↓reduceIte]
 have h' : ¬ (31 : Int) < (t.length : Nat) := by omega
 by_cases h0 : t.length = 0
 ·have e : xJh t = true := formedB_iff.2 ⟨.nil,.inl ⟨List.eq_nil_of_length_eq_zero h0,rfl⟩⟩
  have h0' : (((t.length : Nat) : Int) = 0) = True := eq_true (by omega)
  rw [e,yEP,a84,xAd]
  simp (disch := omega) only [WB,Nat.reduceSub,h',↓reduceIte,h0']
 have h0' : (((t.length : Nat) : Int) = 0) = False := eq_false (by omega)
 by_cases hf : ∃ T,Formed t T
 ·rw [formedB_iff.2 hf]
  obtain ⟨T,hT⟩ := hf
  rcases hT with ⟨h,_⟩ | ⟨_,hS⟩
  ·rw [h] at h0; simp at h0
  ·have q := yD8 (z := z) ht hS (by omega)
   simp only [Int.natCast_zero] at q
   rw [yEP,a84,xAd]
   simp (disch := omega) only [WB,Nat.reduceSub,h',↓reduceIte,h0',q,xE0,xAJ]
 ·have e : xJh t = false := by
   rw [Bool.eq_false_iff]
   intro q
   exact hf (formedB_iff.1 q)
  rw [e]
  rcases xY8 (z := z) ht t.length 0 (by omega) with q | ⟨n,T,q,q1,q2,q3⟩
  ·have h2 : ((-1 : Int) = (t.length : Nat)) = False := eq_false (by omega)
   simp only [Int.natCast_zero] at q
   rw [yEP,a84,xAd]
   simp (disch := omega) only [WB,Nat.reduceSub,h',↓reduceIte,h0',q,Int.reduceNeg,xE0,xAJ,h2]
  ·have h2 : (((n : Nat) : Int) = (t.length : Nat)) = False := by
    refine eq_false fun h => hf ⟨T,.inr ⟨by omega,?_⟩⟩
    have e1 : n = t.length := by omega
    rw [e1] at q3
    exact q3
   simp only [Int.natCast_zero] at q
   rw [yEP,a84,xAd]
   simp (disch := omega) only [WB,Nat.reduceSub,h',↓reduceIte,h0',q,xE0,xAJ,h2]
theorem xST {v : Nat} {s4 : AV} {H : Heap} (hv : v ≤ 3) (hl : t.length ≤ 31) (hx : ∀ e ∈ t,e.x < 256) : ∀ d i,i + d = t.length →
  ∃ i' : Nat,L.loop xRB yAc ⟨xPd (tw z t) (.int .i64 (v : Nat)) s4 (.int .i64 (i : Nat)),H⟩ =
   some (if (t.drop i).all (fun e => decide (e.x >>> v = 0)) = true then (.exit 0,⟨xPd (tw z t) (.int .i64 (v : Nat)) s4 (.int .i64 (t.length : Nat)),H⟩)
    else (.ret,⟨xPd (tw z t) (.int .i64 (v : Nat)) (.int .i64 1) (.int .i64 (i' : Nat)),H⟩))
 | 0,i,h => by
  obtain rfl : i = t.length := by omega
  refine ⟨0,?_⟩
  rw [if_pos (by rw [List.drop_length]; rfl),xXm]
  simp (maxSteps := 30000000) (disch := first | assumption | omega | (simp only [WL,AV.isCell,xAb] <;> omega) | rfl | decide) only [xPc,WB,↓reduceIte,xN5]
 | d + 1,i,h => by
  have hlt : (i : Int) < (t.length : Nat) := by omega
  obtain ⟨i',ih⟩ := xST (s4 := s4) (H := H) hv hl hx d (i + 1) (by omega)
  have hxi := hx _ (xNr (show i < t.length by omega))
  rw [xSz (by omega : i < t.length),List.all_cons]
  have hsh : IntKind.i64.wrap (1 * 2 ^ min v IntKind.i64.bits) = ((2 ^ v : Nat) : Int) := by
   have : v = 0 ∨ v = 1 ∨ v = 2 ∨ v = 3 := by omega
   rcases this with rfl | rfl | rfl | rfl <;> decide
  have cx : IntKind.i64.wrap (((t.getD i f0).x : Nat) : Int) = (((t.getD i f0).x : Nat) : Int) := by
   generalize (t.getD i f0).x = y at *
   simp [IntKind.wrap,IntKind.bits,IntKind.signed]; omega
  have hdv : (t.getD i f0).x >>> v = 0 ↔ (t.getD i f0).x < 2 ^ v := by
   rw [Nat.shiftRight_eq_div_pow]
   exact Nat.div_eq_zero_iff_lt (Nat.two_pow_pos _)
  by_cases c : (t.getD i f0).x < 2 ^ v
  ·rw [decide_eq_true (hdv.2 c),Bool.true_and]
   refine ⟨i',?_⟩
   have c' : ¬ (((2 ^ v : Nat) : Int) ≤ (((t.getD i f0).x : Nat) : Int)) := by omega
   generalize (2 : Nat) ^ v = w at *
   rw [xXm]
   by_cases e : (t.drop (i + 1)).all (fun e => decide (e.x >>> v = 0)) = true
   ·rw [if_pos e] at ih ⊢
    simp (maxSteps := 30000000) (disch := first | assumption | omega | (simp only [WL,AV.isCell,xAb] <;> omega) | rfl | decide) only [xPc,WB,hlt,↓reduceIte,lfs_at0',cx,xAm,hsh,c',xN5,ih]
   ·rw [if_neg e] at ih ⊢
    simp (maxSteps := 30000000) (disch := first | assumption | omega | (simp only [WL,AV.isCell,xAb] <;> omega) | rfl | decide) only [xPc,WB,hlt,↓reduceIte,lfs_at0',cx,xAm,hsh,c',xN5,ih]
  ·rw [decide_eq_false (fun h => c (hdv.1 h)),Bool.false_and]
   refine ⟨i,?_⟩
   rw [if_neg (by simp)]
   have c' : ((2 ^ v : Nat) : Int) ≤ (((t.getD i f0).x : Nat) : Int) := by omega
   generalize (2 : Nat) ^ v = w at *
   rw [xXm]
   simp (maxSteps := 30000000) (disch := first | assumption | omega | (simp only [WL,AV.isCell,xAb] <;> omega) | rfl | decide) only [xPc,WB,hlt,↓reduceIte,lfs_at0',cx,xAm,hsh,c',xN5]
theorem xVd (z : Bool) (t : List Lf) (v : Nat) (hv : v ≤ 3) (hl : t.length < 1099511627776) (hx : ∀ e ∈ t,e.x < 256) : L.pcall 50 [tw z t,.int .i64 (v : Nat)] = some (.int .i64 (xSy t v)) := by
 have hv0 : ¬ ((v : Nat) : Int) < 0 := by omega
 have hv3 : ¬ (3 : Int) < (v : Nat) := by omega
 unfold xSy
 by_cases h31 : 31 < t.length
 ·rw [if_pos h31]
  have h' : (31 : Int) < (t.length : Nat) := by omega
  rw [yFR,a50,xAd]
  simp (disch := omega) only [WB,Nat.reduceAdd,Nat.reduceSub,hv0,↓reduceIte,hv3,h']
 rw [if_neg h31]
 have h' : ¬ (31 : Int) < (t.length : Nat) := by omega
 obtain ⟨i',h⟩ := xST (z := z) (s4 := .int .i64 0) (H := []) hv (by omega) hx t.length 0 (by omega)
 simp only [Int.natCast_zero,List.drop_zero] at h
 have el : t.all (fun e => decide (e.x >>> v = 0)) = xVR t v := rfl
 rw [el] at h
 have hf := xY9 z t hl
 cases hlb : xVR t v with
 | true =>
  rw [hlb] at h
  simp only [if_true] at h ⊢
  cases hfb : xJh t with
  | true =>
   rw [hfb] at hf
   simp only [if_true]
   rw [yFR,a50,xAd]
   simp (disch := omega) only [WB,Nat.reduceAdd,Nat.reduceSub,hv0,↓reduceIte,hv3,h',xN5,h,hf,xE0,xAJ]
  | false =>
   rw [hfb] at hf
   simp only [Bool.false_eq_true,if_false]
   rw [yFR,a50,xAd]
   simp (disch := omega) only [WB,Nat.reduceAdd,Nat.reduceSub,hv0,↓reduceIte,hv3,h',xN5,h,hf,xE0,xAJ]
 | false =>
  rw [hlb] at h
  simp only [Bool.false_eq_true,if_false] at h ⊢
  rw [yFR,a50,xAd]
  simp (disch := omega) only [WB,Nat.reduceAdd,Nat.reduceSub,hv0,↓reduceIte,hv3,h',xN5,h]
end
end Go.Abs.Tree
