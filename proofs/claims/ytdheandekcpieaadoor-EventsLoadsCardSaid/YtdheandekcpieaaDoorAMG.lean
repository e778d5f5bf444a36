/- The reference's check of a node (printed by d5gen.py). -/
import Derived.Test.YtdheandekcpieaaDoorAbsBun
import Derived.Test.YtdheandekcpieaaDoorAMF
import Derived.Laws.Strings
namespace Go.Abs.Events
open Go Go.Abs
set_option linter.unusedSimpArgs false
set_option linter.unusedVariables false
theorem xXw (lo hi x : Int) : wi lo hi [x] = (decide (lo ≤ x) && decide (x ≤ hi)) := by simp [wi]
theorem yAU {op : Nat} (h : 1 ≤ op ∧ op ≤ 10) : ((fnm op).toList == (⟨#[]⟩ : ByteArray).toList) = false := by
 have : op = 1 ∨ op = 2 ∨ op = 3 ∨ op = 4 ∨ op = 5 ∨ op = 6 ∨ op = 7 ∨ op = 8 ∨ op = 9 ∨ op = 10 := by omega
 rcases this with rfl | rfl | rfl | rfl | rfl | rfl | rfl | rfl | rfl | rfl <;> decide +kernel
theorem yAV {op : Nat} (h : op = 0 ∨ 10 < op) : ((fnm op).toList == (⟨#[]⟩ : ByteArray).toList) = true := by
 have : fnm op = ⟨#[]⟩ := by
  unfold fnm
  simp [show op ≠ 1 by omega,show op ≠ 2 by omega,show op ≠ 3 by omega,show op ≠ 4 by omega,show op ≠ 5 by omega,show op ≠ 6 by omega,show op ≠ 7 by omega,show op ≠ 8 by omega,show op ≠ 9 by omega,show op ≠ 10 by omega]
 rw [this]; exact beq_self_eq_true _
section
variable {n : Nd} {G : Heap} {p : Nat}
set_option maxHeartbeats 2000000 in
theorem yAW (hl : n.args.length ≤ 100) (gp : G[p]? = some (.cells false false n.c)) : ∀ k i,i + k = n.args.length → ∃ i' : Nat,
  L.loop xJ1 xT9 ⟨xE6 (.ptr p 0) (.int .i64 0) (.int .i64 (i : Nat)),G⟩ =
   some (if wi 0 10 (n.args.drop i) = true then (.exit 0,⟨xE6 (.ptr p 0) (.int .i64 0) (.int .i64 (i' : Nat)),G⟩) else (.ret,⟨xE6 (.ptr p 0) (.int .i64 1) (.int .i64 (i' : Nat)),G⟩)) := by
 have hnv : xA3 n.z n.args = .sl n.z n.args.length (xAE n.args) := rfl
 unfold Nd.c at gp
 rw [hnv] at gp
 intro k
 induction k with
 | zero =>
  intro i hi
  obtain rfl : i = n.args.length := by omega
  refine ⟨n.args.length,?_⟩
  rw [if_pos (by rw [List.drop_length]; rfl),xP4]
  simp (maxSteps := 30000000) (disch := first | assumption | omega | (simp only [WZ,AV.isCell] <;> omega) | rfl | decide) only [xJ0,WB,gp,↓reduceIte,xDr]
 | succ k ih =>
  intro i hi'
  have hlt : (i : Int) < (n.args.length : Nat) := by omega
  have hl1 : i < n.args.length := by omega
  obtain ⟨i',ih'⟩ := ih (i + 1) (by omega)
  have em : wi 0 10 (n.args.drop i) = ((decide (0 ≤ n.args.getD i 0) && decide (n.args.getD i 0 ≤ 10)) && wi 0 10 (n.args.drop (i + 1))) := by
   rw [List.drop_eq_getElem_cons hl1,List.getD_eq_getElem?_getD,List.getElem?_eq_getElem hl1]
   rfl
  rw [em]
  generalize hN : n.args.getD i 0 = t at *
  by_cases c1 : t < 0
  ·have c1' : ¬ 0 ≤ t := by omega
   simp only [c1',decide_false,Bool.false_and,Bool.false_eq_true,if_false]
   refine ⟨i,?_⟩
   rw [xP4]
   simp (maxSteps := 30000000) (disch := first | assumption | omega | (simp only [WZ,AV.isCell] <;> omega) | rfl | decide) only [xJ0,WB,gp,hlt,↓reduceIte,W2,hN,c1,xDr]
  have c1' : 0 ≤ t := by omega
  by_cases c2 : 10 < t
  ·have c2' : ¬ t ≤ 10 := by omega
   simp only [c1',c2',decide_true,decide_false,Bool.true_and,Bool.false_and,Bool.false_eq_true,if_false]
   refine ⟨i,?_⟩
   rw [xP4]
   simp (maxSteps := 30000000) (disch := first | assumption | omega | (simp only [WZ,AV.isCell] <;> omega) | rfl | decide) only [xJ0,WB,gp,hlt,↓reduceIte,W2,hN,c1,c2,xDr]
  have c2' : t ≤ 10 := by omega
  simp only [c1',c2',decide_true,Bool.true_and]
  refine ⟨i',?_⟩
  rw [xP4]
  simp (maxSteps := 30000000) (disch := first | assumption | omega | (simp only [WZ,AV.isCell] <;> omega) | rfl | decide) only [xJ0,WB,gp,hlt,↓reduceIte,W2,hN,c1,c2,xDr,ih']
set_option maxHeartbeats 16000000 in
theorem yAX (n : Nd) (size : Nat) : L.pcall 53 [.agg n.c,.int .i64 (size : Nat)] = some (.int .i64 (xLh n size : Nat)) := by
 by_cases hop : n.op = 0 ∨ 10 < n.op
 ·have hx : xLh n size = 6 := by
   unfold xLh
   rw [if_pos (yAV hop)]
  rw [hx]
  unfold Nd.c
  rcases hop with h | h
  ·have d1 : ((n.op : Nat) : Int) < 1 := by omega
   rw [xE8,a53,xAb]
   simp (maxSteps := 30000000) (disch := first | assumption | omega | (simp only [WZ,AV.isCell] <;> omega) | rfl | decide) only [WB,Nat.reduceAdd,Nat.reduceSub,AV.cells,AV.isCell,d1,↓reduceIte]
   try rfl
  ·have d1 : ¬ ((n.op : Nat) : Int) < 1 := by omega
   have d2 : (10 : Int) < ((n.op : Nat) : Int) := by omega
   rw [xE8,a53,xAb]
   simp (maxSteps := 30000000) (disch := first | assumption | omega | (simp only [WZ,AV.isCell] <;> omega) | rfl | decide) only [WB,Nat.reduceAdd,Nat.reduceSub,AV.cells,AV.isCell,d1,↓reduceIte,d2]
   try rfl
 have hop' : 1 ≤ n.op ∧ n.op ≤ 10 := by omega
 have hne := yAU hop'
 have d1 : ¬ ((n.op : Nat) : Int) < 1 := by omega
 have d2 : ¬ (10 : Int) < ((n.op : Nat) : Int) := by omega
 unfold xLh
 rw [if_neg (by rw [hne]; simp)]
 unfold yB0 yB1
 rw [xXw,xXw]
 have hL : n.args.length ≤ 100 → ∃ i' : Nat,L.loop xJ1 xT9 ⟨xE6 (.ptr 0 0) (.int .i64 0) (.int .i64 0),[.cells false false n.c]⟩ =
   some (if wi 0 10 n.args = true then (.exit 0,⟨xE6 (.ptr 0 0) (.int .i64 0) (.int .i64 (i' : Nat)),[.cells false false n.c]⟩) else (.ret,⟨xE6 (.ptr 0 0) (.int .i64 1) (.int .i64 (i' : Nat)),[.cells false false n.c]⟩)) := by
  intro hl
  obtain ⟨i',e⟩ := yAW (n := n) (p := 0) (G := [.cells false false n.c]) hl rfl n.args.length 0 (by omega)
  rw [List.drop_zero] at e
  exact ⟨i',e⟩
 have hnv : xA3 n.z n.args = .sl n.z n.args.length (xAE n.args) := rfl
 have hgl : ∀ h : n.args.length = 0,wi 0 10 n.args = true := fun h => by rw [List.eq_nil_of_length_eq_zero h]; rfl
 unfold Nd.c at hL ⊢
 rw [hnv] at hL ⊢
 by_cases o2 : n.op = 2
 case pos =>
  have e2 : ((n.op : Nat) : Int) = 2 := by omega
  have fl : flo n.op = 0 := by rw [o2]; rfl
  have fh : fhi n.op = 2 := by rw [o2]; rfl
  have b2 : decide (n.op = 2) = true := by rw [o2]; rfl
  have b3 : decide (n.op = 3) = false := by rw [o2]; rfl
  have b7 : decide (n.op = 7) = false := by rw [o2]; rfl
  by_cases c2 : n.x = 0
  case neg =>
   simp only [b2,b7,fl,fh,c2,if_true,if_false,Bool.not_true,Bool.not_false,Bool.true_and,Bool.false_and,Bool.and_true,Bool.and_false,Bool.or_true,Bool.true_or,Bool.or_false,Bool.false_or,decide_true,decide_false,not_false_eq_true,not_true_eq_false,Bool.false_eq_true,Nat.not_lt_zero]
   rw [xE8,a53,xAb]
   simp (maxSteps := 30000000) (disch := first | assumption | omega | (simp only [WZ,AV.isCell] <;> omega) | rfl | decide) only [e2,WB,Nat.reduceAdd,Nat.reduceSub,AV.cells,AV.isCell,↓reduceIte,Int.reduceLT,Int.reduceEq,c2]
  have z2 := eq_true c2
  by_cases c3 : size = 0
  case pos =>
   subst c3
   simp only [b2,b7,fl,fh,z2,if_true,if_false,Bool.not_true,Bool.not_false,Bool.true_and,Bool.false_and,Bool.and_true,Bool.and_false,Bool.or_true,Bool.true_or,Bool.or_false,Bool.false_or,decide_true,decide_false,not_false_eq_true,not_true_eq_false,Bool.false_eq_true,Nat.not_lt_zero]
   rw [xE8,a53,xAb]
   simp (maxSteps := 30000000) (disch := first | assumption | omega | (simp only [WZ,AV.isCell] <;> omega) | rfl | decide) only [e2,WB,Nat.reduceAdd,Nat.reduceSub,AV.cells,AV.isCell,↓reduceIte,Int.reduceLT,Int.reduceEq,z2]
  have d3 : ¬ ((size : Nat) : Int) = 0 := by omega
  by_cases c4 : 2 < n.args.length
  case pos =>
   have d4 : (2 : Int) < ((n.args.length : Nat) : Int) := by omega
   simp only [b2,b7,fl,fh,z2,c3,c4,if_true,if_false,Bool.not_true,Bool.not_false,Bool.true_and,Bool.false_and,Bool.and_true,Bool.and_false,Bool.or_true,Bool.true_or,Bool.or_false,Bool.false_or,decide_true,decide_false,not_false_eq_true,not_true_eq_false,Bool.false_eq_true,Nat.not_lt_zero]
   rw [xE8,a53,xAb]
   simp (maxSteps := 30000000) (disch := first | assumption | omega | (simp only [WZ,AV.isCell] <;> omega) | rfl | decide) only [e2,WB,Nat.reduceAdd,Nat.reduceSub,AV.cells,AV.isCell,↓reduceIte,Int.reduceLT,Int.reduceEq,z2,d3,d4]
  have d4 : ¬ (2 : Int) < ((n.args.length : Nat) : Int) := by omega
  by_cases c7 : n.name < 0
  case pos =>
   have d7 : ¬ 0 ≤ n.name := by omega
   simp only [b2,b7,fl,fh,z2,c3,c4,d7,if_true,if_false,Bool.not_true,Bool.not_false,Bool.true_and,Bool.false_and,Bool.and_true,Bool.and_false,Bool.or_true,Bool.true_or,Bool.or_false,Bool.false_or,decide_true,decide_false,not_false_eq_true,not_true_eq_false,Bool.false_eq_true,Nat.not_lt_zero]
   rw [xE8,a53,xAb]
   simp (maxSteps := 30000000) (disch := first | assumption | omega | (simp only [WZ,AV.isCell] <;> omega) | rfl | decide) only [e2,WB,Nat.reduceAdd,Nat.reduceSub,AV.cells,AV.isCell,↓reduceIte,Int.reduceLT,Int.reduceEq,z2,d3,d4,c7]
  have d7 : 0 ≤ n.name := by omega
  by_cases c8 : 8 ≤ n.name
  case pos =>
   have d8 : ¬ n.name ≤ 7 := by omega
   simp only [b2,b7,fl,fh,z2,c3,c4,d7,d8,if_true,if_false,Bool.not_true,Bool.not_false,Bool.true_and,Bool.false_and,Bool.and_true,Bool.and_false,Bool.or_true,Bool.true_or,Bool.or_false,Bool.false_or,decide_true,decide_false,not_false_eq_true,not_true_eq_false,Bool.false_eq_true,Nat.not_lt_zero]
   rw [xE8,a53,xAb]
   simp (maxSteps := 30000000) (disch := first | assumption | omega | (simp only [WZ,AV.isCell] <;> omega) | rfl | decide) only [e2,WB,Nat.reduceAdd,Nat.reduceSub,AV.cells,AV.isCell,↓reduceIte,Int.reduceLT,Int.reduceEq,z2,d3,d4,c7,c8]
  have d8 : n.name ≤ 7 := by omega
  obtain ⟨i',eL⟩ := hL (by omega)
  rw [e2] at eL
  cases hw : wi 0 10 n.args with
  | true =>
   rw [hw] at eL
   simp only [if_true] at eL
   simp only [b2,b7,fl,fh,z2,c3,c4,d7,d8,hw,if_true,if_false,Bool.not_true,Bool.not_false,Bool.true_and,Bool.false_and,Bool.and_true,Bool.and_false,Bool.or_true,Bool.true_or,Bool.or_false,Bool.false_or,decide_true,decide_false,not_false_eq_true,not_true_eq_false,Bool.false_eq_true,Nat.not_lt_zero]
   rw [xE8,a53,xAb]
   simp (maxSteps := 30000000) (disch := first | assumption | omega | (simp only [WZ,AV.isCell] <;> omega) | rfl | decide) only [e2,WB,Nat.reduceAdd,Nat.reduceSub,AV.cells,AV.isCell,↓reduceIte,Int.reduceLT,Int.reduceEq,z2,d3,d4,c7,c8,xDr,eL]
  | false =>
   rw [hw] at eL
   simp only [Bool.false_eq_true,if_false] at eL
   simp only [b2,b7,fl,fh,z2,c3,c4,d7,d8,hw,if_true,if_false,Bool.not_true,Bool.not_false,Bool.true_and,Bool.false_and,Bool.and_true,Bool.and_false,Bool.or_true,Bool.true_or,Bool.or_false,Bool.false_or,decide_true,decide_false,not_false_eq_true,not_true_eq_false,Bool.false_eq_true,Nat.not_lt_zero]
   rw [xE8,a53,xAb]
   simp (maxSteps := 30000000) (disch := first | assumption | omega | (simp only [WZ,AV.isCell] <;> omega) | rfl | decide) only [e2,WB,Nat.reduceAdd,Nat.reduceSub,AV.cells,AV.isCell,↓reduceIte,Int.reduceLT,Int.reduceEq,z2,d3,d4,c7,c8,xDr,eL]
 by_cases o3 : n.op = 3
 case pos =>
  have e3 : ((n.op : Nat) : Int) = 3 := by omega
  have fl : flo n.op = 2 := by rw [o3]; rfl
  have fh : fhi n.op = 2 := by rw [o3]; rfl
  have b2 : decide (n.op = 2) = false := by rw [o3]; rfl
  have b3 : decide (n.op = 3) = true := by rw [o3]; rfl
  have b7 : decide (n.op = 7) = false := by rw [o3]; rfl
  by_cases c1 : n.name = 0
  case neg =>
   simp only [b2,b7,fl,fh,c1,if_true,if_false,Bool.not_true,Bool.not_false,Bool.true_and,Bool.false_and,Bool.and_true,Bool.and_false,Bool.or_true,Bool.true_or,Bool.or_false,Bool.false_or,decide_true,decide_false,not_false_eq_true,not_true_eq_false,Bool.false_eq_true,Nat.not_lt_zero]
   rw [xE8,a53,xAb]
   simp (maxSteps := 30000000) (disch := first | assumption | omega | (simp only [WZ,AV.isCell] <;> omega) | rfl | decide) only [e3,WB,Nat.reduceAdd,Nat.reduceSub,AV.cells,AV.isCell,↓reduceIte,Int.reduceLT,Int.reduceEq,c1]
  have z1 := eq_true c1
  by_cases c2 : n.x = 0
  case neg =>
   simp only [b2,b7,fl,fh,z1,c2,if_true,if_false,Bool.not_true,Bool.not_false,Bool.true_and,Bool.false_and,Bool.and_true,Bool.and_false,Bool.or_true,Bool.true_or,Bool.or_false,Bool.false_or,decide_true,decide_false,not_false_eq_true,not_true_eq_false,Bool.false_eq_true,Nat.not_lt_zero]
   rw [xE8,a53,xAb]
   simp (maxSteps := 30000000) (disch := first | assumption | omega | (simp only [WZ,AV.isCell] <;> omega) | rfl | decide) only [e3,WB,Nat.reduceAdd,Nat.reduceSub,AV.cells,AV.isCell,↓reduceIte,Int.reduceLT,Int.reduceEq,z1,c2]
  have z2 := eq_true c2
  by_cases c3 : size = 0
  case pos =>
   subst c3
   simp only [b2,b7,fl,fh,z1,z2,if_true,if_false,Bool.not_true,Bool.not_false,Bool.true_and,Bool.false_and,Bool.and_true,Bool.and_false,Bool.or_true,Bool.true_or,Bool.or_false,Bool.false_or,decide_true,decide_false,not_false_eq_true,not_true_eq_false,Bool.false_eq_true,Nat.not_lt_zero]
   rw [xE8,a53,xAb]
   simp (maxSteps := 30000000) (disch := first | assumption | omega | (simp only [WZ,AV.isCell] <;> omega) | rfl | decide) only [e3,WB,Nat.reduceAdd,Nat.reduceSub,AV.cells,AV.isCell,↓reduceIte,Int.reduceLT,Int.reduceEq,z1,z2]
  have d3 : ¬ ((size : Nat) : Int) = 0 := by omega
  by_cases c4 : n.args.length = 2
  case neg =>
   have d4 : ¬ ((n.args.length : Nat) : Int) = 2 := by omega
   have hb : (decide (n.args.length < 2) || decide (2 < n.args.length)) = true := by simp; omega
   by_cases c5 : n.args.length < 2
   case pos =>
    simp only [b2,b7,fl,fh,z1,z2,c3,c5,if_true,if_false,Bool.not_true,Bool.not_false,Bool.true_and,Bool.false_and,Bool.and_true,Bool.and_false,Bool.or_true,Bool.true_or,Bool.or_false,Bool.false_or,decide_true,decide_false,not_false_eq_true,not_true_eq_false,Bool.false_eq_true,Nat.not_lt_zero]
    rw [xE8,a53,xAb]
    simp (maxSteps := 30000000) (disch := first | assumption | omega | (simp only [WZ,AV.isCell] <;> omega) | rfl | decide) only [e3,WB,Nat.reduceAdd,Nat.reduceSub,AV.cells,AV.isCell,↓reduceIte,Int.reduceLT,Int.reduceEq,z1,z2,d3,d4]
   have c6 : 2 < n.args.length := by omega
   simp only [b2,b7,fl,fh,z1,z2,c3,c5,c6,if_true,if_false,Bool.not_true,Bool.not_false,Bool.true_and,Bool.false_and,Bool.and_true,Bool.and_false,Bool.or_true,Bool.true_or,Bool.or_false,Bool.false_or,decide_true,decide_false,not_false_eq_true,not_true_eq_false,Bool.false_eq_true,Nat.not_lt_zero]
   rw [xE8,a53,xAb]
   simp (maxSteps := 30000000) (disch := first | assumption | omega | (simp only [WZ,AV.isCell] <;> omega) | rfl | decide) only [e3,WB,Nat.reduceAdd,Nat.reduceSub,AV.cells,AV.isCell,↓reduceIte,Int.reduceLT,Int.reduceEq,z1,z2,d3,d4]
  have d4 : ((n.args.length : Nat) : Int) = 2 := by omega
  have c5 : ¬ n.args.length < 2 := by omega
  have c6 : ¬ 2 < n.args.length := by omega
  have d4' := eq_true d4
  have d7 : 0 ≤ n.name := by omega
  have d8 : n.name ≤ 7 := by omega
  have c7 : ¬ n.name < 0 := by omega
  have c8 : ¬ 8 ≤ n.name := by omega
  obtain ⟨i',eL⟩ := hL (by omega)
  rw [e3] at eL
  cases hw : wi 0 10 n.args with
  | true =>
   rw [hw] at eL
   simp only [if_true] at eL
   simp only [b2,b7,fl,fh,z2,c3,c5,c6,d7,d8,z1,hw,if_true,if_false,Bool.not_true,Bool.not_false,Bool.true_and,Bool.false_and,Bool.and_true,Bool.and_false,Bool.or_true,Bool.true_or,Bool.or_false,Bool.false_or,decide_true,decide_false,not_false_eq_true,not_true_eq_false,Bool.false_eq_true,Nat.not_lt_zero]
   rw [xE8,a53,xAb]
   simp (maxSteps := 30000000) (disch := first | assumption | omega | (simp only [WZ,AV.isCell] <;> omega) | rfl | decide) only [e3,WB,Nat.reduceAdd,Nat.reduceSub,AV.cells,AV.isCell,↓reduceIte,Int.reduceLT,Int.reduceEq,z1,z2,d3,d4',c7,c8,xDr,eL]
  | false =>
   rw [hw] at eL
   simp only [Bool.false_eq_true,if_false] at eL
   simp only [b2,b7,fl,fh,z2,c3,c5,c6,d7,d8,z1,hw,if_true,if_false,Bool.not_true,Bool.not_false,Bool.true_and,Bool.false_and,Bool.and_true,Bool.and_false,Bool.or_true,Bool.true_or,Bool.or_false,Bool.false_or,decide_true,decide_false,not_false_eq_true,not_true_eq_false,Bool.false_eq_true,Nat.not_lt_zero]
   rw [xE8,a53,xAb]
   simp (maxSteps := 30000000) (disch := first | assumption | omega | (simp only [WZ,AV.isCell] <;> omega) | rfl | decide) only [e3,WB,Nat.reduceAdd,Nat.reduceSub,AV.cells,AV.isCell,↓reduceIte,Int.reduceLT,Int.reduceEq,z1,z2,d3,d4',c7,c8,xDr,eL]
 by_cases o7 : n.op = 7
 case pos =>
  have e7 : ((n.op : Nat) : Int) = 7 := by omega
  have fl : flo n.op = 0 := by rw [o7]; rfl
  have fh : fhi n.op = 0 := by rw [o7]; rfl
  have b2 : decide (n.op = 2) = false := by rw [o7]; rfl
  have b3 : decide (n.op = 3) = false := by rw [o7]; rfl
  have b7 : decide (n.op = 7) = true := by rw [o7]; rfl
  by_cases c1 : n.name = 0
  case neg =>
   simp only [b2,b7,fl,fh,c1,if_true,if_false,Bool.not_true,Bool.not_false,Bool.true_and,Bool.false_and,Bool.and_true,Bool.and_false,Bool.or_true,Bool.true_or,Bool.or_false,Bool.false_or,decide_true,decide_false,not_false_eq_true,not_true_eq_false,Bool.false_eq_true,Nat.not_lt_zero]
   rw [xE8,a53,xAb]
   simp (maxSteps := 30000000) (disch := first | assumption | omega | (simp only [WZ,AV.isCell] <;> omega) | rfl | decide) only [e7,WB,Nat.reduceAdd,Nat.reduceSub,AV.cells,AV.isCell,↓reduceIte,Int.reduceLT,Int.reduceEq,c1]
  have z1 := eq_true c1
  by_cases c3 : size = 0
  case pos =>
   subst c3
   simp only [b2,b7,fl,fh,z1,if_true,if_false,Bool.not_true,Bool.not_false,Bool.true_and,Bool.false_and,Bool.and_true,Bool.and_false,Bool.or_true,Bool.true_or,Bool.or_false,Bool.false_or,decide_true,decide_false,not_false_eq_true,not_true_eq_false,Bool.false_eq_true,Nat.not_lt_zero]
   rw [xE8,a53,xAb]
   simp (maxSteps := 30000000) (disch := first | assumption | omega | (simp only [WZ,AV.isCell] <;> omega) | rfl | decide) only [e7,WB,Nat.reduceAdd,Nat.reduceSub,AV.cells,AV.isCell,↓reduceIte,Int.reduceLT,Int.reduceEq,z1]
  have d3 : ¬ ((size : Nat) : Int) = 0 := by omega
  by_cases c4 : 0 < n.args.length
  case pos =>
   have d4 : (0 : Int) < ((n.args.length : Nat) : Int) := by omega
   simp only [b2,b7,fl,fh,z1,c3,c4,if_true,if_false,Bool.not_true,Bool.not_false,Bool.true_and,Bool.false_and,Bool.and_true,Bool.and_false,Bool.or_true,Bool.true_or,Bool.or_false,Bool.false_or,decide_true,decide_false,not_false_eq_true,not_true_eq_false,Bool.false_eq_true,Nat.not_lt_zero]
   rw [xE8,a53,xAb]
   simp (maxSteps := 30000000) (disch := first | assumption | omega | (simp only [WZ,AV.isCell] <;> omega) | rfl | decide) only [e7,WB,Nat.reduceAdd,Nat.reduceSub,AV.cells,AV.isCell,↓reduceIte,Int.reduceLT,Int.reduceEq,z1,d3,d4]
  have d4 : ¬ (0 : Int) < ((n.args.length : Nat) : Int) := by omega
  have d7 : 0 ≤ n.name := by omega
  have d8 : n.name ≤ 7 := by omega
  have c7 : ¬ n.name < 0 := by omega
  have c8 : ¬ 8 ≤ n.name := by omega
  by_cases c9 : n.x < 8
  case pos =>
   have d9 : ¬ 8 ≤ n.x := by omega
   simp only [b2,b7,fl,fh,c3,c4,d7,d8,z1,d9,if_true,if_false,Bool.not_true,Bool.not_false,Bool.true_and,Bool.false_and,Bool.and_true,Bool.and_false,Bool.or_true,Bool.true_or,Bool.or_false,Bool.false_or,decide_true,decide_false,not_false_eq_true,not_true_eq_false,Bool.false_eq_true,Nat.not_lt_zero]
   rw [xE8,a53,xAb]
   simp (maxSteps := 30000000) (disch := first | assumption | omega | (simp only [WZ,AV.isCell] <;> omega) | rfl | decide) only [e7,WB,Nat.reduceAdd,Nat.reduceSub,AV.cells,AV.isCell,↓reduceIte,Int.reduceLT,Int.reduceEq,z1,d3,d4,c7,c8,c9]
  have d9 : 8 ≤ n.x := by omega
  by_cases c10 : 10 < n.x
  case pos =>
   have d10 : ¬ n.x ≤ 10 := by omega
   simp only [b2,b7,fl,fh,c3,c4,d7,d8,z1,d9,d10,if_true,if_false,Bool.not_true,Bool.not_false,Bool.true_and,Bool.false_and,Bool.and_true,Bool.and_false,Bool.or_true,Bool.true_or,Bool.or_false,Bool.false_or,decide_true,decide_false,not_false_eq_true,not_true_eq_false,Bool.false_eq_true,Nat.not_lt_zero]
   rw [xE8,a53,xAb]
   simp (maxSteps := 30000000) (disch := first | assumption | omega | (simp only [WZ,AV.isCell] <;> omega) | rfl | decide) only [e7,WB,Nat.reduceAdd,Nat.reduceSub,AV.cells,AV.isCell,↓reduceIte,Int.reduceLT,Int.reduceEq,z1,d3,d4,c7,c8,c9,c10]
  have d10 : n.x ≤ 10 := by omega
  obtain ⟨i',eL⟩ := hL (by omega)
  rw [e7] at eL
  cases hw : wi 0 10 n.args with
  | true =>
   rw [hw] at eL
   simp only [if_true] at eL
   simp only [b2,b7,fl,fh,c3,c4,d7,d8,z1,d9,d10,hw,if_true,if_false,Bool.not_true,Bool.not_false,Bool.true_and,Bool.false_and,Bool.and_true,Bool.and_false,Bool.or_true,Bool.true_or,Bool.or_false,Bool.false_or,decide_true,decide_false,not_false_eq_true,not_true_eq_false,Bool.false_eq_true,Nat.not_lt_zero]
   rw [xE8,a53,xAb]
   simp (maxSteps := 30000000) (disch := first | assumption | omega | (simp only [WZ,AV.isCell] <;> omega) | rfl | decide) only [e7,WB,Nat.reduceAdd,Nat.reduceSub,AV.cells,AV.isCell,↓reduceIte,Int.reduceLT,Int.reduceEq,z1,d3,d4,c7,c8,c9,c10,xDr,eL]
  | false =>
   rw [hw] at eL
   simp only [Bool.false_eq_true,if_false] at eL
   simp only [b2,b7,fl,fh,c3,c4,d7,d8,z1,d9,d10,hw,if_true,if_false,Bool.not_true,Bool.not_false,Bool.true_and,Bool.false_and,Bool.and_true,Bool.and_false,Bool.or_true,Bool.true_or,Bool.or_false,Bool.false_or,decide_true,decide_false,not_false_eq_true,not_true_eq_false,Bool.false_eq_true,Nat.not_lt_zero]
   rw [xE8,a53,xAb]
   simp (maxSteps := 30000000) (disch := first | assumption | omega | (simp only [WZ,AV.isCell] <;> omega) | rfl | decide) only [e7,WB,Nat.reduceAdd,Nat.reduceSub,AV.cells,AV.isCell,↓reduceIte,Int.reduceLT,Int.reduceEq,z1,d3,d4,c7,c8,c9,c10,xDr,eL]
 have e2 : ¬ ((n.op : Nat) : Int) = 2 := by omega
 have e3 : ¬ ((n.op : Nat) : Int) = 3 := by omega
 have e7 : ¬ ((n.op : Nat) : Int) = 7 := by omega
 have fl : flo n.op = 0 := by unfold flo; rw [if_neg o3]
 have fh : fhi n.op = 0 := by unfold fhi; rw [if_neg (by omega)]
 have b2 : decide (n.op = 2) = false := decide_eq_false o2
 have b7 : decide (n.op = 7) = false := decide_eq_false o7
 by_cases c1 : n.name = 0
 case neg =>
  simp only [b2,b7,fl,fh,c1,if_true,if_false,Bool.not_true,Bool.not_false,Bool.true_and,Bool.false_and,Bool.and_true,Bool.and_false,Bool.or_true,Bool.true_or,Bool.or_false,Bool.false_or,decide_true,decide_false,not_false_eq_true,not_true_eq_false,Bool.false_eq_true,Nat.not_lt_zero]
  rw [xE8,a53,xAb]
  simp (maxSteps := 30000000) (disch := first | assumption | omega | (simp only [WZ,AV.isCell] <;> omega) | rfl | decide) only [WB,Nat.reduceAdd,Nat.reduceSub,AV.cells,AV.isCell,↓reduceIte,d1,d2,e2,c1]
 have z1 := eq_true c1
 by_cases c2 : n.x = 0
 case neg =>
  simp only [b2,b7,fl,fh,z1,c2,if_true,if_false,Bool.not_true,Bool.not_false,Bool.true_and,Bool.false_and,Bool.and_true,Bool.and_false,Bool.or_true,Bool.true_or,Bool.or_false,Bool.false_or,decide_true,decide_false,not_false_eq_true,not_true_eq_false,Bool.false_eq_true,Nat.not_lt_zero]
  rw [xE8,a53,xAb]
  simp (maxSteps := 30000000) (disch := first | assumption | omega | (simp only [WZ,AV.isCell] <;> omega) | rfl | decide) only [WB,Nat.reduceAdd,Nat.reduceSub,AV.cells,AV.isCell,↓reduceIte,d1,d2,e2,z1,e7,c2]
 have z2 := eq_true c2
 by_cases c3 : size = 0
 case pos =>
  subst c3
  simp only [b2,b7,fl,fh,z1,z2,if_true,if_false,Bool.not_true,Bool.not_false,Bool.true_and,Bool.false_and,Bool.and_true,Bool.and_false,Bool.or_true,Bool.true_or,Bool.or_false,Bool.false_or,decide_true,decide_false,not_false_eq_true,not_true_eq_false,Bool.false_eq_true,Nat.not_lt_zero]
  rw [xE8,a53,xAb]
  simp (maxSteps := 30000000) (disch := first | assumption | omega | (simp only [WZ,AV.isCell] <;> omega) | rfl | decide) only [WB,Nat.reduceAdd,Nat.reduceSub,AV.cells,AV.isCell,↓reduceIte,d1,d2,e2,z1,e7,z2]
 have d3 : ¬ ((size : Nat) : Int) = 0 := by omega
 by_cases c4 : 0 < n.args.length
 case pos =>
  have d4 : (0 : Int) < ((n.args.length : Nat) : Int) := by omega
  simp only [b2,b7,fl,fh,z1,z2,c3,c4,if_true,if_false,Bool.not_true,Bool.not_false,Bool.true_and,Bool.false_and,Bool.and_true,Bool.and_false,Bool.or_true,Bool.true_or,Bool.or_false,Bool.false_or,decide_true,decide_false,not_false_eq_true,not_true_eq_false,Bool.false_eq_true,Nat.not_lt_zero]
  rw [xE8,a53,xAb]
  simp (maxSteps := 30000000) (disch := first | assumption | omega | (simp only [WZ,AV.isCell] <;> omega) | rfl | decide) only [WB,Nat.reduceAdd,Nat.reduceSub,AV.cells,AV.isCell,↓reduceIte,d1,d2,e2,z1,e7,z2,d3,e3,d4]
 have d4 : ¬ (0 : Int) < ((n.args.length : Nat) : Int) := by omega
 have d7 : 0 ≤ n.name := by omega
 have d8 : n.name ≤ 7 := by omega
 have c7 : ¬ n.name < 0 := by omega
 have c8 : ¬ 8 ≤ n.name := by omega
 obtain ⟨i',eL⟩ := hL (by omega)
 skip
 cases hw : wi 0 10 n.args with
 | true =>
  rw [hw] at eL
  simp only [if_true] at eL
  simp only [b2,b7,fl,fh,z2,c3,c4,d7,d8,z1,hw,if_true,if_false,Bool.not_true,Bool.not_false,Bool.true_and,Bool.false_and,Bool.and_true,Bool.and_false,Bool.or_true,Bool.true_or,Bool.or_false,Bool.false_or,decide_true,decide_false,not_false_eq_true,not_true_eq_false,Bool.false_eq_true,Nat.not_lt_zero]
  rw [xE8,a53,xAb]
  simp (maxSteps := 30000000) (disch := first | assumption | omega | (simp only [WZ,AV.isCell] <;> omega) | rfl | decide) only [WB,Nat.reduceAdd,Nat.reduceSub,AV.cells,AV.isCell,↓reduceIte,d1,d2,e2,z1,e7,z2,d3,e3,d4,c7,c8,xDr,eL]
 | false =>
  rw [hw] at eL
  simp only [Bool.false_eq_true,if_false] at eL
  simp only [b2,b7,fl,fh,z2,c3,c4,d7,d8,z1,hw,if_true,if_false,Bool.not_true,Bool.not_false,Bool.true_and,Bool.false_and,Bool.and_true,Bool.and_false,Bool.or_true,Bool.true_or,Bool.or_false,Bool.false_or,decide_true,decide_false,not_false_eq_true,not_true_eq_false,Bool.false_eq_true,Nat.not_lt_zero]
  rw [xE8,a53,xAb]
  simp (maxSteps := 30000000) (disch := first | assumption | omega | (simp only [WZ,AV.isCell] <;> omega) | rfl | decide) only [WB,Nat.reduceAdd,Nat.reduceSub,AV.cells,AV.isCell,↓reduceIte,d1,d2,e2,z1,e7,z2,d3,e3,d4,c7,c8,xDr,eL]
end
section
variable {z zs : Bool} {fs : List Nd} {ss : List Nat}
abbrev F20 (z zs : Bool) (fs : List Nd) (ss : List Nat) (r : Int) (i : Nat) : List AV := xMM (.sl z fs.length (nds fs)) (.int .i64 r) (.sl zs fs.length (xAU ss)) (.int .i64 (i : Nat))
set_option maxHeartbeats 4000000 in
theorem yAY (hlen : fs.length ≤ 64) (hs : ss.length = fs.length) : ∀ k i,i + k = fs.length → ∀ G,∃ (i' : Nat) (G' : Heap),
  L.loop xJz xTO ⟨F20 z zs fs ss 0 i,G⟩ =
   some (if xGw (fs.drop i) (ss.drop i) = 0 then (.exit 0,⟨F20 z zs fs ss 0 fs.length,G'⟩) else (.ret,⟨F20 z zs fs ss (xGw (fs.drop i) (ss.drop i) : Nat) i',G'⟩)) := by
 intro k
 induction k with
 | zero =>
  intro i hi G
  obtain rfl : i = fs.length := by omega
  refine ⟨fs.length,G,?_⟩
  rw [if_pos (by rw [List.drop_length]; rfl),xTP]
  simp (maxSteps := 30000000) (disch := first | assumption | omega | (simp only [WZ,AV.isCell] <;> omega) | rfl | decide) only [xML,WB,↓reduceIte,xHQ]
 | succ k ih =>
  intro i hi G
  have hlt : i < fs.length := by omega
  have hltI : ((i : Nat) : Int) < (fs.length : Nat) := by omega
  have em : xGw (fs.drop i) (ss.drop i) = (if xLh (fs.getD i nd0) (ss.getD i 0) = 0 then xGw (fs.drop (i + 1)) (ss.drop (i + 1)) else xLh (fs.getD i nd0) (ss.getD i 0)) := by
   rw [List.drop_eq_getElem_cons hlt,List.drop_eq_getElem_cons (show i < ss.length by omega),xGw,List.getD_eq_getElem?_getD,List.getElem?_eq_getElem hlt,List.getD_eq_getElem?_getD,List.getElem?_eq_getElem (by omega)]
   rfl
  rw [em]
  obtain ⟨i',G',ih'⟩ := ih (i + 1) (by omega) G
  generalize hn : fs.getD i nd0 = n at *
  have h53 := yAX n (ss.getD i 0)
  generalize hsv : ss.getD i 0 = sv at *
  have hnv : xA3 n.z n.args = .sl n.z n.args.length (xAE n.args) := rfl
  unfold Nd.c at h53
  rw [hnv] at h53
  generalize hcv : xLh n sv = e at *
  by_cases c : e = 0
  ·subst c
   simp only [if_true]
   refine ⟨i',G',?_⟩
   rw [xTP]
   simp (maxSteps := 30000000) (disch := first | assumption | omega | (simp only [WZ,AV.isCell] <;> omega) | rfl | decide) only [xML,WB,hltI,↓reduceIte,xAv,Nd.c,hn,hnv,xAh,hsv,h53,xAy,xAl,xHQ,ih']
  ·have c' : ¬ ((e : Nat) : Int) = 0 := by omega
   simp only [if_neg c]
   refine ⟨i,G,?_⟩
   rw [xTP]
   simp (maxSteps := 30000000) (disch := first | assumption | omega | (simp only [WZ,AV.isCell] <;> omega) | rfl | decide) only [xML,WB,hltI,↓reduceIte,xAv,Nd.c,hn,hnv,xAh,hsv,h53,xAy,xAl,c',xHQ]
set_option maxHeartbeats 4000000 in
theorem xUx (z : Bool) (fs : List Nd) (h47 : fs.length < 1000) : L.pcall 20 [.sl z fs.length (nds fs)] = some (.int .i64 (chk fs : Nat)) := by
 unfold chk
 by_cases c1 : fs.length = 0
 ·rw [if_pos c1]
  have c1' : ((fs.length : Nat) : Int) = 0 := by omega
  rw [xZO,a20,xAb]
  simp (maxSteps := 30000000) (disch := first | assumption | omega | (simp only [WZ,AV.isCell] <;> omega) | rfl | decide) only [WB,Nat.reduceSub,c1',↓reduceIte]
 have c1' : ¬ ((fs.length : Nat) : Int) = 0 := by omega
 rw [if_neg c1]
 by_cases c2 : 64 < fs.length
 ·rw [if_pos c2]
  have c2' : (64 : Int) < ((fs.length : Nat) : Int) := by omega
  rw [xZO,a20,xAb]
  simp (maxSteps := 30000000) (disch := first | assumption | omega | (simp only [WZ,AV.isCell] <;> omega) | rfl | decide) only [WB,Nat.reduceSub,c1',↓reduceIte,c2']
 have c2' : ¬ (64 : Int) < ((fs.length : Nat) : Int) := by omega
 rw [if_neg c2]
 have h52 := xYY (z := z) (show fs.length ≤ 64 by omega)
 have hsl := xF2 fs []
 have hv0 := xQk fs [] (by simp)
 have hend : xGw fs (szs fs []) = 0 → ∀ j,j < fs.length → Vn j (fs.getD j nd0) := by
  intro h0 j hj
  have := hv0 (by simpa using h0) j hj
  simpa using this
 simp only [List.length_nil,Nat.zero_add] at hsl
 generalize szs fs [] = ss at *
 obtain ⟨i',G',e1⟩ := yAY (z := z) (zs := fs.isEmpty) (show fs.length ≤ 64 by omega) hsl fs.length 0 (by omega) []
 simp only [List.drop_zero] at e1
 have e1' : L.loop xJz xTO ⟨xMM (.sl z fs.length (nds fs)) (.int .i64 0) (.sl fs.isEmpty fs.length (xAU ss)) (.int .i64 0),[]⟩ = _ := e1
 by_cases c3 : xGw fs ss = 0
 ·rw [if_pos c3] at e1' ⊢
  have h44 := yA9 (fz := z) (show fs.length ≤ 64 by omega) (hend c3) fs.length (fs.length - 1) 0 (by omega) (by omega) (by omega)
  have h44 : L.pcall 44 [.sl z fs.length (nds fs),.int .i64 (fs.length - 1 : Nat),.agg [.bool false,.bool false,.bool false]] = _ := h44
  have hsub : ((fs.length : Nat) : Int) - 1 = ((fs.length - 1 : Nat) : Int) := by omega
  generalize hsv : ss.getD (fs.length - 1) 0 = v
  by_cases c4 : v = fs.length
  ·rw [if_pos c4]
   have c4' : (((v : Nat) : Int) = (fs.length : Nat)) = True := eq_true (by omega)
   cases ho : opn fs fs.length (fs.length - 1) 0 with
   | true =>
    rw [ho] at h44
    rw [xZO,a20,xAb]
    simp (maxSteps := 30000000) (disch := first | assumption | omega | (simp only [WZ,AV.isCell] <;> omega) | rfl | decide) only [WB,Nat.reduceSub,c1',↓reduceIte,c2',h52,xAy,xAl,xHQ,e1',hsub,hsv,c4',AV.cells,h44]
   | false =>
    rw [ho] at h44
    rw [xZO,a20,xAb]
    simp (maxSteps := 30000000) (disch := first | assumption | omega | (simp only [WZ,AV.isCell] <;> omega) | rfl | decide) only [WB,Nat.reduceSub,c1',↓reduceIte,c2',h52,xAy,xAl,xHQ,e1',hsub,hsv,c4',AV.cells,h44]
  ·rw [if_neg c4]
   have c4' : ¬ (((v : Nat) : Int) = (fs.length : Nat)) := by omega
   rw [xZO,a20,xAb]
   simp (maxSteps := 30000000) (disch := first | assumption | omega | (simp only [WZ,AV.isCell] <;> omega) | rfl | decide) only [WB,Nat.reduceSub,c1',↓reduceIte,c2',h52,xAy,xAl,xHQ,e1',hsub,hsv,c4']
 ·rw [if_neg c3] at e1' ⊢
  generalize xGw fs ss = r at *
  rw [xZO,a20,xAb]
  simp (maxSteps := 30000000) (disch := first | assumption | omega | (simp only [WZ,AV.isCell] <;> omega) | rfl | decide) only [WB,Nat.reduceSub,c1',↓reduceIte,c2',h52,xAy,xAl,xHQ,e1']
end
abbrev F30 (z : Bool) (fs : List Nd) (b : AV) (c i : Nat) : List AV := xJF (.sl z fs.length (nds fs)) b (.int .i64 (c : Nat)) (.int .i64 (i : Nat))
section
variable {z : Bool} {fs : List Nd} {b : AV} {G : Heap}
theorem xYQ {l : List Nd} {i : Nat} (h : i < l.length) : List.take 1 (List.drop (i * 6) (nds l)) = [.int .u8 ((l.getD i nd0).op : Nat)] := by
 have h1 := congrArg (List.take 1) (xAv h)
 rw [List.take_take] at h1
 exact h1
set_option maxHeartbeats 2000000 in
theorem xXx (hl : fs.length ≤ 64) : ∀ k i,i + k = fs.length → ∀ c,c = nT (fs.take i) → L.loop xHS xQ8 ⟨F30 z fs b c i,G⟩ = some (.exit 0,⟨F30 z fs b (nT fs) fs.length,G⟩) := by
 intro k
 induction k with
 | zero =>
  intro i hi c hc
  obtain rfl : i = fs.length := by omega
  rw [List.take_length] at hc
  subst hc
  rw [xTU]
  simp (maxSteps := 30000000) (disch := first | assumption | omega | (simp only [WZ,AV.isCell] <;> omega) | rfl | decide) only [xMP,WB,↓reduceIte,xGl]
 | succ k ih =>
  intro i hi c hc
  have hlt : i < fs.length := by omega
  have hltI : ((i : Nat) : Int) < (fs.length : Nat) := by omega
  have hs := xUS hlt
  have hcl : c ≤ 64 := by
   rw [hc]
   have := xRt (fs.take i)
   rw [List.length_take] at this
   omega
  have h61 := xFU (fs.getD i nd0).op
  have hat := xYQ hlt
  generalize fs.getD i nd0 = n at *
  cases ht : tmp n.op with
  | false =>
   rw [ht] at h61 hs
   simp only [Bool.false_eq_true,if_false,Nat.add_zero] at hs
   have e1 := ih (i + 1) (by omega) c (hc.trans hs.symm)
   rw [xTU]
   simp (maxSteps := 30000000) (disch := first | assumption | omega | (simp only [WZ,AV.isCell] <;> omega) | rfl | decide) only [xMP,WB,hltI,↓reduceIte,hat,h61,xAy,xAl,xGl,e1]
  | true =>
   rw [ht] at h61 hs
   simp only [if_true] at hs
   have e1 := ih (i + 1) (by omega) (c + 1) (by rw [hs,hc])
   rw [xTU]
   simp (maxSteps := 30000000) (disch := first | assumption | omega | (simp only [WZ,AV.isCell] <;> omega) | rfl | decide) only [xMP,WB,hltI,↓reduceIte,hat,h61,xAy,xAl,xGl,e1]
end
def zer (l : List Nat) : Bool := l.all fun x => decide (x = 0)
def ldc (fs : List Nd) (B : List Nat) : Nat :=
 if chk fs = 0 then
  if B.length = 64 * nT fs + 1 ∧ B.getD 0 0 ≤ 1 then (if B.getD 0 0 = 0 ∧ zer (B.drop 1) = false then 2 else 0) else 2
 else chk fs
section
variable {o : Nat} {B : List Nat} {G : Heap} {fs : List Nd} {z : Bool}
abbrev yC0 (o : Nat) (B : List Nat) (r : AV) (i : Nat) : List AV := xMQ (.own false o 0 B.length 1) r (.int .i64 (i : Nat))
set_option maxHeartbeats 2000000 in
theorem xYR (r : AV) (hl : B.length ≤ 100000) (h1 : 0 < B.length) (go : G[o]? = some (.cells false false (bs B))) : ∀ k i,i + k = B.length → ∃ i' : Nat,L.loop xJH xTV ⟨yC0 o B r i,G⟩ =
  some (if B.getD 0 0 = 0 ∧ zer (B.drop i) = false then (.ret,⟨yC0 o B (.int .i64 2) i',G⟩) else (.exit 2,⟨yC0 o B r B.length,G⟩)) := by
 intro k
 induction k with
 | zero =>
  intro i hi
  obtain rfl : i = B.length := by omega
  refine ⟨B.length,?_⟩
  rw [if_neg (by rw [List.drop_length]; simp [zer]),xPX]
  simp (maxSteps := 30000000) (disch := first | assumption | omega | (simp only [WZ,AV.isCell] <;> omega) | rfl | decide) only [xJG,WB,↓reduceIte,xJI]
 | succ k ih =>
  intro i hi
  have hlt : i < B.length := by omega
  have hltI : ((i : Nat) : Int) < (B.length : Nat) := by omega
  obtain ⟨i',ih'⟩ := ih (i + 1) (by omega)
  have em : zer (B.drop i) = (decide (B.getD i 0 = 0) && zer (B.drop (i + 1))) := by
   rw [List.drop_eq_getElem_cons hlt,List.getD_eq_getElem?_getD,List.getElem?_eq_getElem hlt]
   rfl
  have h0I : (0 : Int) < (B.length : Nat) := by omega
  rw [em]
  generalize hb0 : B.getD 0 0 = b0 at *
  generalize hbi : B.getD i 0 = bi at *
  by_cases c0 : b0 = 0
  ·have d0 : (((b0 : Nat) : Int) = 0) = True := eq_true (by omega)
   by_cases c1 : bi = 0
   ·have d1 : (((bi : Nat) : Int) = 0) = True := eq_true (by omega)
    simp only [c1,decide_true,Bool.true_and]
    refine ⟨i',?_⟩
    rw [xPX]
    simp (maxSteps := 30000000) (disch := first | assumption | omega | (simp only [WZ,AV.isCell] <;> omega) | rfl | decide) only [xJG,WB,hltI,↓reduceIte,go,hb0,d0,hbi,d1,xJI,ih']
   ·have d1 : ¬ ((bi : Nat) : Int) = 0 := by omega
    refine ⟨i,?_⟩
    rw [if_pos ⟨c0,by simp [c1]⟩]
    rw [xPX]
    simp (maxSteps := 30000000) (disch := first | assumption | omega | (simp only [WZ,AV.isCell] <;> omega) | rfl | decide) only [xJG,WB,hltI,↓reduceIte,go,hb0,d0,hbi,d1,xJI]
  ·have d0 : ¬ ((b0 : Nat) : Int) = 0 := by omega
   rw [if_neg fun q => c0 q.1] at ih'
   refine ⟨i',?_⟩
   rw [if_neg fun q => c0 q.1]
   rw [xPX]
   simp (maxSteps := 30000000) (disch := first | assumption | omega | (simp only [WZ,AV.isCell] <;> omega) | rfl | decide) only [xJG,WB,hltI,↓reduceIte,go,hb0,d0,xJI,ih']
set_option maxHeartbeats 4000000 in
theorem xUy (hf : fs.length < 1000) (hl : B.length ≤ 100000) (h1 : 0 < B.length) (go : G[o]? = some (.cells false false (bs B))) : L.icall (.func 30 []) [.sl z fs.length (nds fs),.own false o 0 B.length 1] G = some (.int .i64 (ldc fs B : Nat),G) := by
 have h20 := xUx z fs hf
 unfold ldc
 by_cases hc : chk fs = 0
 ·obtain ⟨h0,hlen,-⟩ := xIx hc
  rw [if_pos hc]
  rw [hc] at h20
  have h20 : L.pcall 20 [.sl z fs.length (nds fs)] = some (.int .i64 0) := h20
  have e1 := xXx (z := z) (fs := fs) (b := .own false o 0 B.length 1) (G := G) hlen fs.length 0 (by omega) 0 (by simp [nT])
  have e1' : L.loop xHS xQ8 ⟨xJF (.sl z fs.length (nds fs)) (.own false o 0 B.length 1) (.int .i64 0) (.int .i64 0),G⟩ = _ := e1
  have hnl := xRt fs
  have h0I : (0 : Int) < (B.length : Nat) := by omega
  have hmul : (64 : Int) * ((nT fs : Nat) : Int) = ((64 * nT fs : Nat) : Int) := by omega
  have hadd : (1 : Int) + ((64 * nT fs : Nat) : Int) = ((64 * nT fs + 1 : Nat) : Int) := by omega
  have hadd2 : (1 + 64 * nT fs : Nat) = 64 * nT fs + 1 := by omega
  obtain ⟨i',e2⟩ := xYR .any hl h1 go (B.length - 1) 1 (by omega)
  have e2' : L.loop xJH xTV ⟨xMQ (.own false o 0 B.length 1) .any (.int .i64 1),G⟩ = _ := e2
  generalize hcn : nT fs = c at *
  by_cases c1 : B.length = 64 * c + 1
  ·have d1 : (((B.length : Nat) : Int) = ((64 * c + 1 : Nat) : Int)) = True := eq_true (by omega)
   generalize hb0 : B.getD 0 0 = b0 at *
   by_cases c2 : b0 ≤ 1
   ·have d2 : ¬ (1 : Int) < ((b0 : Nat) : Int) := by omega
    rw [if_pos ⟨c1,c2⟩]
    by_cases c3 : b0 = 0 ∧ zer (B.drop 1) = false
    ·rw [if_pos c3] at e2' ⊢
     rw [xYC,a30,xAm]
     simp (maxSteps := 30000000) (disch := first | assumption | omega | (simp only [WZ,AV.isCell] <;> omega) | rfl | decide) only [WB,Nat.reduceAdd,Nat.reduceSub,h20,xAy,xAl,↓reduceIte,xGl,e1',hmul,hadd,d1,go,hb0,d2,xJI,e2']
    ·rw [if_neg c3] at e2' ⊢
     rw [xYC,a30,xAm]
     simp (maxSteps := 30000000) (disch := first | assumption | omega | (simp only [WZ,AV.isCell] <;> omega) | rfl | decide) only [WB,Nat.reduceAdd,Nat.reduceSub,h20,xAy,xAl,↓reduceIte,xGl,e1',hmul,hadd,d1,go,hb0,d2,xJI,e2']
   ·have d2 : (1 : Int) < ((b0 : Nat) : Int) := by omega
    rw [if_neg fun q => c2 q.2]
    rw [xYC,a30,xAm]
    simp (maxSteps := 30000000) (disch := first | assumption | omega | (simp only [WZ,AV.isCell] <;> omega) | rfl | decide) only [WB,Nat.reduceAdd,Nat.reduceSub,h20,xAy,xAl,↓reduceIte,xGl,e1',hmul,hadd,d1,go,hb0,d2]
  ·have d1 : ¬ ((B.length : Nat) : Int) = ((64 * c + 1 : Nat) : Int) := by omega
   rw [if_neg fun q => c1 q.1]
   rw [xYC,a30,xAm]
   simp (maxSteps := 30000000) (disch := first | assumption | omega | (simp only [WZ,AV.isCell] <;> omega) | rfl | decide) only [WB,Nat.reduceAdd,Nat.reduceSub,h20,xAy,xAl,↓reduceIte,xGl,e1',hmul,hadd,d1]
 ·rw [if_neg hc]
  have hci : ¬ ((chk fs : Nat) : Int) = 0 := by omega
  generalize chk fs = c at *
  rw [xYC,a30,xAm]
  simp (maxSteps := 30000000) (disch := first | assumption | omega | (simp only [WZ,AV.isCell] <;> omega) | rfl | decide) only [WB,Nat.reduceAdd,Nat.reduceSub,h20,xAy,xAl,↓reduceIte,hci]
end
theorem xUz : ∀ {a b : List Nat},(∀ x ∈ a,x < 256) → (∀ x ∈ b,x < 256) → by8 a = by8 b → a = b
 | [],[],_,_,_ => rfl
 | [],y :: b,_,_,h => by cases h
 | x :: a,[],_,_,h => by cases h
 | x :: a,y :: b,ha,hb,h => by
  have h' : UInt8.ofNat x :: by8 a = UInt8.ofNat y :: by8 b := h
  have h1 := (List.cons.inj h').1
  have h2 := xUz (a := a) (b := b) (fun z hz => ha z (List.mem_cons_of_mem _ hz)) (fun z hz => hb z (List.mem_cons_of_mem _ hz)) (List.cons.inj h').2
  have hx := ha x List.mem_cons_self
  have hy := hb y List.mem_cons_self
  have h3 := congrArg UInt8.toNat h1
  simp only [UInt8.toNat_ofNat',Nat.reducePow] at h3
  rw [Nat.mod_eq_of_lt hx,Nat.mod_eq_of_lt hy] at h3
  rw [h2,h3]
theorem toL (l : List UInt8) : (⟨⟨l⟩⟩ : ByteArray).toList = l := ByteArray.toList_eq _
theorem eqL {a b : List Nat} (ha : ∀ x ∈ a,x < 256) (hb : ∀ x ∈ b,x < 256) : ((⟨⟨by8 a⟩⟩ : ByteArray).toList == (⟨⟨by8 b⟩⟩ : ByteArray).toList) = decide (a = b) := by
 rw [toL,toL,Bool.eq_iff_iff,decide_eq_true_eq,beq_iff_eq]
 exact ⟨xUz ha hb,fun h => by rw [h]⟩
theorem xWh {o1 o2 : Nat} {a b : List Nat} {H : Heap} {f1 f2 z1 z2 : Bool} (h1 : H[o1]? = some (.cells f1 z1 (bs a))) (h2 : H[o2]? = some (.cells f2 z2 (bs b))) (ha : ∀ x ∈ a,x < 256) (hb : ∀ x ∈ b,x < 256) :
  L.icall (.func 62 []) [.own false o1 0 a.length 1,.own false o2 0 b.length 1] H = some (.bool (decide (a = b)),H) := by
 have hu := xIj ha
 have hbl := xAz a
 have hbt := xCj a
 have hu2 := xIj hb
 have hbl2 := xAz b
 have hbt2 := xCj b
 have he := eqL ha hb
 generalize decide (a = b) = r at *
 rw [yDD,a62,xAm]
 simp (disch := omega) only [WB,Nat.reduceAdd,Nat.reduceSub,xUJ,h1,hbt,xFW,hu,xKh,h2,hbt2,hu2,xAH,xAA,he]
def xNm : Nat → List Nat → List (List Nat)
 | 0,_ => []
 | c + 1,l => l.take 64 :: xNm c (l.drop 64)
theorem xK3 : ∀ (c : Nat) (l : List Nat),(xNm c l).length = c
 | 0,_ => rfl
 | c + 1,l => by simp [xNm,xK3 c]
theorem xNn : ∀ {c : Nat} {l : List Nat},l.length = 64 * c → (xNm c l).flatten = l
 | 0,l,h => by
  have : l = [] := List.eq_nil_of_length_eq_zero (by omega)
  subst this; rfl
 | c + 1,l,h => by
  rw [xNm,List.flatten_cons,xNn (c := c) (by rw [List.length_drop]; omega),List.take_append_drop]
theorem xUA {fs : List Nd} {l : List Nat} (h : l.length = 64 * nT fs) (hb : ∀ x ∈ l,x < 256) : Rows fs (xNm (nT fs) l) := by
 refine ⟨xK3 _ _,?_⟩
 generalize nT fs = c at *
 induction c generalizing l with
 | zero => intro w hw; cases hw
 | succ c ih =>
  intro w hw
  rcases List.mem_cons.1 hw with rfl | hw
  ·exact ⟨by rw [List.length_take]; omega,fun x hx => hb x (List.mem_of_mem_take hx)⟩
  ·exact ih (l := l.drop 64) (fun x hx => hb x (List.mem_of_mem_drop hx)) (by rw [List.length_drop]; omega) w hw
theorem yAZ {l : List Nat} (h : zer l = true) : l = List.replicate l.length 0 := by
 unfold zer at h
 rw [List.all_eq_true] at h
 exact List.eq_replicate_iff.2 ⟨rfl,fun x hx => by simpa using h x hx⟩
theorem xYS (n : Nat) : zer (List.replicate n 0) = true := by
 unfold zer
 rw [List.all_eq_true]
 intro x hx
 have := List.eq_of_mem_replicate hx
 simpa using this
theorem xNo : ∀ (c : Nat),xNm c (List.replicate (64 * c) 0) = zr c
 | 0 => rfl
 | c + 1 => by
  have h1 : List.take 64 (List.replicate (64 * (c + 1)) 0) = List.replicate 64 0 := by rw [List.take_replicate]; congr 1
  have h2 : List.drop 64 (List.replicate (64 * (c + 1)) 0) = List.replicate (64 * c) 0 := by rw [List.drop_replicate]; congr 1
  rw [xNm,h1,h2,xNo c]; rfl
section
variable {fs : List Nd} {B : List Nat} {o : Nat} {G : Heap}
set_option maxHeartbeats 4000000 in
theorem xRq (hw : ∀ j,j < fs.length → WN (fs.getD j nd0)) (fz : Bool) (hfz : fs.length ≠ 0 → fz = false) (hf : fs.length < 1000) (h1 : 0 < B.length) (hb : ∀ x ∈ B,x < 256) (gb : G[o]? = some (.cells false false (bs B))) (he : ldc fs B ≠ 0) :
  ∃ G',L.icall (.func 29 []) [.sl fz fs.length (nds fs),.own false o 0 B.length 1] G = some (.tup [.nilp,.int .i64 (ldc fs B : Nat)],G') ∧ Kp G.length G G' := by
 by_cases hc : chk fs = 0
 ·obtain ⟨h0,hlen,-⟩ := xIx hc
  obtain rfl := hfz (by omega)
  unfold ldc at he ⊢
  rw [if_pos hc] at he ⊢
  by_cases c1 : B.length = 64 * nT fs + 1
  ·obtain ⟨G1,m,sb,e1,m1,k1,b1,b2⟩ := xRu hc hw G
   obtain ⟨gm,gb1,ne,-,-⟩ := m1
   have hzl : (zr (nT fs)).length = nT fs := by simp [zr]
   rw [hzl] at gm
   have lob := xA7 gb
   have gob : G1[o]? = some (.cells false false (bs B)) := by rw [k1.2 o lob]; exact gb
   have h0I : (0 : Int) < (B.length : Nat) := by omega
   have hnl := xRt fs
   by_cases c2 : B.getD 0 0 ≤ 1
   ·rw [if_pos ⟨c1,c2⟩] at he ⊢
    have c3 : B.getD 0 0 = 0 ∧ zer (B.drop 1) = false := by
     by_cases c3 : B.getD 0 0 = 0 ∧ zer (B.drop 1) = false
     ·exact c3
     ·rw [if_neg c3] at he; exact absurd rfl he
    rw [if_pos c3]
    have hst : (0 :: (zr (nT fs)).flatten).length = 64 * nT fs + 1 := by rw [List.length_cons,xLa]; simp
    have h62 := xWh gob gb1 hb (by
     intro x hx
     rw [xLa] at hx
     rcases List.mem_cons.1 hx with rfl | hx
     ·omega
     ·have := List.eq_of_mem_replicate hx; omega)
    have hne : ¬ B = 0 :: (zr (nT fs)).flatten := by
     intro q
     have := c3.2
     rw [q,xLa,List.drop_succ_cons,List.drop_zero,xYS] at this
     cases this
    rw [decide_eq_false hne,hst,c1] at h62
    have hb0 := c3.1
    have hbl : B.length = 64 * nT fs + 1 := c1
    refine ⟨G1,?_,k1⟩
    rw [c1]
    generalize nT fs = c at *
    rw [xXn,a29,xAm]
    simp (maxSteps := 30000000) (disch := first | assumption | omega | (simp only [WZ,AV.isCell] <;> omega) | rfl | decide) only [WB,Nat.reduceAdd,Nat.reduceSub,e1,↓reduceIte,gm,gob,hb0,Int.reduceLT,h62]
   ·rw [if_neg fun q => c2 q.2] at he ⊢
    have hbl : B.length = 64 * nT fs + 1 := c1
    generalize hb0 : B.getD 0 0 = b0 at *
    have d2 : (1 : Int) < ((b0 : Nat) : Int) := by omega
    refine ⟨G1,?_,k1⟩
    rw [c1]
    generalize nT fs = c at *
    rw [xXn,a29,xAm]
    simp (maxSteps := 30000000) (disch := first | assumption | omega | (simp only [WZ,AV.isCell] <;> omega) | rfl | decide) only [WB,Nat.reduceAdd,Nat.reduceSub,e1,↓reduceIte,gm,gob,hb0,d2]
  ·rw [if_neg fun q => c1 q.1] at he ⊢
   exact xKj hc hw c1
 ·have e1 := xNu fz fs hf hc G
  have hx : ldc fs B = chk fs := by unfold ldc; rw [if_neg hc]
  rw [hx]
  have hci : ¬ ((chk fs : Nat) : Int) = 0 := by omega
  refine ⟨G,?_,.refl _ _⟩
  generalize chk fs = c at *
  rw [xXn,a29,xAm]
  simp (maxSteps := 30000000) (disch := first | assumption | omega | (simp only [WZ,AV.isCell] <;> omega) | rfl | decide) only [WB,Nat.reduceAdd,Nat.reduceSub,e1,hci,↓reduceIte]
theorem xRr (hw : ∀ j,j < fs.length → WN (fs.getD j nd0)) (fz : Bool) (hfz : fs.length ≠ 0 → fz = false) (h1 : 0 < B.length) (hb : ∀ x ∈ B,x < 256) (gb : G[o]? = some (.cells false false (bs B))) (he : ldc fs B = 0) :
  ∃ (G' : Heap) (m sb : Nat),L.icall (.func 29 []) [.sl fz fs.length (nds fs),.own false o 0 B.length 1] G = some (.tup [.ptr m 0,.int .i64 0],G') ∧ Mo false fs m sb G' (xNm (nT fs) (B.drop 1)) (B.getD 0 0) ∧ B = B.getD 0 0 :: (xNm (nT fs) (B.drop 1)).flatten ∧ Kp G.length G G' ∧ G.length ≤ m ∧ G.length ≤ sb := by
 have hc : chk fs = 0 := by
  by_cases hc : chk fs = 0
  ·exact hc
  ·unfold ldc at he; rw [if_neg hc] at he; exact absurd he hc
 obtain ⟨h0,hlen,-⟩ := xIx hc
 obtain rfl := hfz (by omega)
 unfold ldc at he
 rw [if_pos hc] at he
 by_cases c1 : B.length = 64 * nT fs + 1 ∧ B.getD 0 0 ≤ 1
 ·rw [if_pos c1] at he
  have c3 : ¬ (B.getD 0 0 = 0 ∧ zer (B.drop 1) = false) := fun q => by rw [if_pos q] at he; cases he
  have hdl : (B.drop 1).length = 64 * nT fs := by rw [List.length_drop]; omega
  have hfl := xNn hdl
  have hB : B = B.getD 0 0 :: (xNm (nT fs) (B.drop 1)).flatten := by
   rw [hfl]
   cases B with
   | nil => simp at h1
   | cons x l => rfl
  have hr := xUA hdl (fun x hx => hb x (List.mem_of_mem_drop hx))
  have hwl := xK3 (nT fs) (B.drop 1)
  have hh : B.getD 0 0 = 1 ∨ (B.getD 0 0 = 0 ∧ xNm (nT fs) (B.drop 1) = zr (nT fs)) := by
   by_cases q : B.getD 0 0 = 0
   ·right
    refine ⟨q,?_⟩
    have hz : zer (B.drop 1) = true := by
     cases hz : zer (B.drop 1) with
     | true => rfl
     | false => exact absurd ⟨q,hz⟩ c3
    have := yAZ hz
    rw [hdl] at this
    rw [this,xNo]
   ·left; omega
  have gb' := gb
  rw [hB] at gb'
  obtain ⟨G',m,sb,e1,m1,k1,b1,b2⟩ := yBb (ob := o) hc hw hr gb' hh
  rw [hwl,← c1.1] at e1
  exact ⟨G',m,sb,e1,m1,hB,k1,b1,b2⟩
 ·rw [if_neg c1] at he; cases he
end
theorem xK4 {t : Int} (ht : 0 ≤ t ∧ t ≤ 10) {a : Nat} (ha : a < 512) : L.pcall 64 [.int .i64 t,.int .i64 (a : Nat)] = some (.int .i64 (tvs t a)) := by
 unfold tvs tv
 by_cases c8 : t = 8
 ·subst c8
  have h : ((a : Nat) : Int).tdiv 64 = ((a / 64 : Nat) : Int) := by rw [Int.tdiv_eq_ediv_of_nonneg (by omega)]; omega
  rw [yBX,a64,xAb]
  simp (disch := omega) only [WB,Nat.reduceAdd,Nat.reduceSub,↓reduceIte,h]
  try rfl
 by_cases c9 : t = 9
 ·subst c9
  have h : ((a : Nat) : Int).tdiv 8 = ((a / 8 : Nat) : Int) := by rw [Int.tdiv_eq_ediv_of_nonneg (by omega)]; omega
  have h2 : ((a / 8 : Nat) : Int).tmod 8 = ((a / 8 % 8 : Nat) : Int) := by rw [Int.tmod_eq_emod_of_nonneg (by omega)]; omega
  rw [yBX,a64,xAb]
  simp (disch := omega) only [WB,Nat.reduceAdd,Nat.reduceSub,Int.reduceEq,↓reduceIte,h,h2,Int.reduceLT]
  try rfl
 by_cases c10 : t = 10
 ·subst c10
  have h2 : ((a : Nat) : Int).tmod 8 = ((a % 8 : Nat) : Int) := by rw [Int.tmod_eq_emod_of_nonneg (by omega)]; omega
  rw [yBX,a64,xAb]
  simp (disch := omega) only [WB,Nat.reduceAdd,Nat.reduceSub,Int.reduceEq,↓reduceIte,h2,Int.reduceLT]
  try rfl
 have hlt : t < 8 := by omega
 rw [yBX,a64,xAb]
 simp (disch := omega) only [WB,Nat.reduceAdd,Nat.reduceSub,c8,↓reduceIte,c9,c10,hlt]
def wth (x a v : Nat) : Nat := if x = 8 then v * 64 + a % 64 else if x = 9 then a / 64 * 64 + v * 8 + a % 8 else a / 8 * 8 + v
theorem yA0 {x a v : Nat} (hx : x = 8 ∨ x = 9 ∨ x = 10) (ha : a < 512) (hv : v < 8) : L.pcall 65 [.int .i64 (a : Nat),.int .i64 (x : Nat),.int .i64 (v : Nat)] = some (.int .i64 (wth x a v : Nat)) := by
 have h64 := xK4 (t := ((x : Nat) : Int)) (by omega) ha
 rcases hx with rfl | rfl | rfl
 ·have h64 : L.pcall 64 [.int .i64 8,.int .i64 (a : Nat)] = some (.int .i64 ((a / 64 : Nat) : Int)) := h64
  have hw : (a : Int) + (((v : Nat) : Int) - ((a / 64 : Nat) : Int)) * 64 = ((wth 8 a v : Nat) : Int) := by
   show _ = ((v * 64 + a % 64 : Nat) : Int); omega
  have hm : IntKind.i64.wrap ((((v : Nat) : Int) - ((a / 64 : Nat) : Int)) * 64) = (((v : Nat) : Int) - ((a / 64 : Nat) : Int)) * 64 := xYE (by omega) (by omega)
  have hs : IntKind.i64.wrap (((v : Nat) : Int) - ((a / 64 : Nat) : Int)) = ((v : Nat) : Int) - ((a / 64 : Nat) : Int) := xYE (by omega) (by omega)
  have hb : wth 8 a v < 1000 := by show v * 64 + a % 64 < 1000; omega
  rw [yCG,a65,xAb]
  simp (disch := first | assumption | omega | rfl | decide) only [WB,Nat.reduceAdd,Nat.reduceSub,AV.cells,↓reduceIte,Nat.reduceLeDiff,AV.isCell,Int.reduceSub,h64,xAy,xAl]
  rw [hw]
 ·have h64 : L.pcall 64 [.int .i64 9,.int .i64 (a : Nat)] = some (.int .i64 ((a / 8 % 8 : Nat) : Int)) := h64
  have hw : (a : Int) + (((v : Nat) : Int) - ((a / 8 % 8 : Nat) : Int)) * 8 = ((wth 9 a v : Nat) : Int) := by
   show _ = ((a / 64 * 64 + v * 8 + a % 8 : Nat) : Int); omega
  have hm : IntKind.i64.wrap ((((v : Nat) : Int) - ((a / 8 % 8 : Nat) : Int)) * 8) = (((v : Nat) : Int) - ((a / 8 % 8 : Nat) : Int)) * 8 := xYE (by omega) (by omega)
  have hs : IntKind.i64.wrap (((v : Nat) : Int) - ((a / 8 % 8 : Nat) : Int)) = ((v : Nat) : Int) - ((a / 8 % 8 : Nat) : Int) := xYE (by omega) (by omega)
  have hb : wth 9 a v < 1000 := by show a / 64 * 64 + v * 8 + a % 8 < 1000; omega
  rw [yCG,a65,xAb]
  simp (disch := first | assumption | omega | rfl | decide) only [WB,Nat.reduceAdd,Nat.reduceSub,AV.cells,↓reduceIte,Nat.reduceLeDiff,AV.isCell,Int.reduceSub,h64,xAy,xAl]
  rw [hw]
 ·have h64 : L.pcall 64 [.int .i64 10,.int .i64 (a : Nat)] = some (.int .i64 ((a % 8 : Nat) : Int)) := h64
  have hw : (a : Int) + (((v : Nat) : Int) - ((a % 8 : Nat) : Int)) = ((wth 10 a v : Nat) : Int) := by
   show _ = ((a / 8 * 8 + v : Nat) : Int); omega
  have hs : IntKind.i64.wrap (((v : Nat) : Int) - ((a % 8 : Nat) : Int)) = ((v : Nat) : Int) - ((a % 8 : Nat) : Int) := xYE (by omega) (by omega)
  have hb : wth 10 a v < 1000 := by show a / 8 * 8 + v < 1000; omega
  have hm : (((v : Nat) : Int) - ((a % 8 : Nat) : Int)) * 1 = ((v : Nat) : Int) - ((a % 8 : Nat) : Int) := Int.mul_one _
  rw [yCG,a65,xAb]
  simp (disch := first | assumption | omega | rfl | decide) only [WB,Nat.reduceAdd,Nat.reduceSub,AV.cells,↓reduceIte,Nat.reduceLeDiff,AV.isCell,Int.reduceSub,Int.reduceToNat,h64,xAy,xAl]
  rw [hm,hw]
section
variable {n : Nd} {e : Ev} {G : Heap} {p q a : Nat}
set_option maxHeartbeats 2000000 in
theorem yA1 (hz : n.args.length = e.args.length) (h2 : n.args.length ≤ 100) (hok : ∀ t ∈ n.args,0 ≤ t ∧ t ≤ 10) (ha : a < 512) (gp : G[p]? = some (.cells false false n.c)) (gq : G[q]? = some (.cells false false (evC e))) : ∀ k i,i + k = n.args.length → ∃ i' : Nat,
  L.loop xJ6 xUe ⟨xH0 (.int .i64 (a : Nat)) (.ptr p 0) (.ptr q 0) (.bool false) (.int .i64 (i : Nat)),G⟩ =
   some (if mat a (n.args.drop i) (e.args.drop i) = true then (.exit 0,⟨xH0 (.int .i64 (a : Nat)) (.ptr p 0) (.ptr q 0) (.bool false) (.int .i64 (i' : Nat)),G⟩)
    else (.ret,⟨xH0 (.int .i64 (a : Nat)) (.ptr p 0) (.ptr q 0) (.bool false) (.int .i64 (i' : Nat)),G⟩)) := by
 have hnv : xA3 n.z n.args = .sl n.z n.args.length (xAE n.args) := rfl
 have hev : xA3 e.z e.args = .sl e.z e.args.length (xAE e.args) := rfl
 unfold Nd.c at gp
 unfold evC at gq
 rw [hnv] at gp
 rw [hev] at gq
 intro k
 induction k with
 | zero =>
  intro i hi
  obtain rfl : i = n.args.length := by omega
  refine ⟨n.args.length,?_⟩
  rw [if_pos (by rw [List.drop_length]; rfl),xUf]
  simp (maxSteps := 30000000) (disch := first | assumption | omega | (simp only [WZ,AV.isCell] <;> omega) | rfl | decide) only [xM2,WB,gp,↓reduceIte,xM3]
 | succ k ih =>
  intro i hi
  have hlt : (i : Int) < (n.args.length : Nat) := by omega
  have hl1 : i < n.args.length := by omega
  have hl2 : i < e.args.length := by omega
  obtain ⟨i',ih'⟩ := ih (i + 1) (by omega)
  have hm : n.args.getD i 0 ∈ n.args := by rw [List.getD_eq_getElem?_getD,List.getElem?_eq_getElem hl1]; exact List.getElem_mem hl1
  have hv := xK4 (hok _ hm) ha
  have em : mat a (n.args.drop i) (e.args.drop i) = (tvs (n.args.getD i 0) a == e.args.getD i 0 && mat a (n.args.drop (i + 1)) (e.args.drop (i + 1))) := by
   rw [List.drop_eq_getElem_cons hl1,List.drop_eq_getElem_cons hl2]
   show (tvs _ _ == _ && _) = _
   rw [List.getD_eq_getElem?_getD,List.getElem?_eq_getElem hl1,List.getD_eq_getElem?_getD,List.getElem?_eq_getElem hl2]
   rfl
  rw [em]
  generalize hN : n.args.getD i 0 = t at *
  generalize hE : e.args.getD i 0 = v at *
  generalize tvs t a = w at *
  by_cases c1 : w = v
  ·have cb : (w == v) = true := by simpa using c1
   simp only [cb,Bool.true_and]
   refine ⟨i',?_⟩
   rw [xUf]
   simp (maxSteps := 30000000) (disch := first | assumption | omega | (simp only [WZ,AV.isCell] <;> omega) | rfl | decide) only [xM2,WB,gp,hlt,↓reduceIte,W2,hN,hv,c1,xAy,xAl,gq,hE,xAh,xM3,ih']
  ·have cb : (w == v) = false := by simpa using c1
   simp only [cb,Bool.false_and,Bool.false_eq_true,if_false]
   refine ⟨i,?_⟩
   rw [xUf]
   simp (maxSteps := 30000000) (disch := first | assumption | omega | (simp only [WZ,AV.isCell] <;> omega) | rfl | decide) only [xM2,WB,gp,hlt,↓reduceIte,W2,hN,hv,xAy,xAl,gq,hE,xAh,c1,xM3]
end
end Go.Abs.Events
