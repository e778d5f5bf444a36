/- The walk's words for drawn regions in which a call leaves what a slot points at as it was. -/
import Derived.Test.YtdheandekcpieaaDoorAbsWalk
namespace Go.Abs
set_option linter.unusedVariables false
set_option linter.unusedSimpArgs false
section
variable {R : Rec} {F : List AV} {H : Heap} {s : St}
def xXY (b : Bool) (x : Option (AExit × St)) : Option (AExit × St) := if b = true then x else none
theorem xLg (x : Option (AExit × St)) : xXY true x = x := rfl
def xWg (R : Rec) (hs : List (Nat × Nat × Nat)) (als : List (Nat × Nat)) (ls : List (Nat × Nat × Nat × Nat)) (m : Nat) (ops : List AOper) : Option (St × List Pr) → Option (AExit × St)
 | some (s,pl) => xXY (xCl R hs m (ops.drop m) (xBa als pl s)) (xGR ls (xAr R (ops.drop m) (xBa als pl s)))
 | none => none
theorem xOu (hs : List (Nat × Nat × Nat)) (als : List (Nat × Nat)) (ls : List (Nat × Nat × Nat × Nat)) (m : Nat) (ops : List AOper) : run R (.drawh hs als ls m ops) s = xWg R hs als ls m ops (xAA R (ops.take m) s) := by
 simp only [run,xWg]
 cases xAA R (ops.take m) s with
 | none => rfl
 | some r =>
  obtain ⟨s1,pl⟩ := r
  simp only [xXY]
  cases xAr R (ops.drop m) (xBa als pl s1) with
  | none => simp [xGR]
  | some s' =>
   simp only [xGR]
   by_cases h1 : ls.all (apart s'.F) = true <;> by_cases h2 : xCl R hs m (ops.drop m) (xBa als pl s1) = true <;> simp [h1,h2]
theorem xJe (hs : List (Nat × Nat × Nat)) (als : List (Nat × Nat)) (ls : List (Nat × Nat × Nat × Nat)) (m : Nat) (ops : List AOper) (pl : List Pr) : xWg R hs als ls m ops (some (s,pl)) = xXY (xCl R hs m (ops.drop m) (xBa als pl s)) (xGR ls (xAr R (ops.drop m) (xBa als pl s))) := rfl
def xXZ (H : Heap) (v : AV) (c : Nat) : Option St → Bool
 | none => true
 | some s' => xHU H s'.H v c
theorem xLh (H : Heap) (v : AV) (c : Nat) (F' : List AV) (H' : Heap) : xXZ H v c (some ⟨F',H'⟩) = xHU H H' v c := rfl
def xX0 (R : Rec) (p c : Nat) : List AOper → Option St → Bool
 | o :: _,some s1 => xXZ s1.H (s1.F.getD p .any) c (xAy R o s1)
 | _,_ => true
theorem xLi (p c : Nat) (o : AOper) (r : List AOper) : xX0 R p c (o :: r) (some ⟨F,H⟩) = xXZ H (F.getD p .any) c (xAy R o ⟨F,H⟩) := rfl
theorem xLj {p c k0 : Nat} : ∀ (ops : List AOper) (k : Nat) (s : St),k0 < k → xCl R [(p,c,k0)] k ops s = true
 | [],k,s,_ => rfl
 | o :: rest,k,s,h => by
  simp only [xCl]
  cases xAy R o s with
  | none => rfl
  | some s' =>
   have hne : (k0 != k) = true := by simp; omega
   simp only [List.all_cons,List.all_nil,hne,Bool.true_or,Bool.true_and]
   exact xLj rest (k + 1) s' (by omega)
theorem xRD {p c : Nat} : ∀ (j : Nat) (ops : List AOper) (k : Nat) (s : St),xCl R [(p,c,k + j)] k ops s = xX0 R p c (ops.drop j) (xAr R (ops.take j) s)
 | 0,[],k,s => rfl
 | 0,o :: rest,k,s => by
  simp only [xCl,Nat.add_zero,List.drop_zero,List.take_zero]
  show _ = xXZ s.H (s.F.getD p .any) c (xAy R o s)
  cases xAy R o s with
  | none => rfl
  | some s' =>
   have h := xLj (R := R) (p := p) (c := c) (k0 := k) rest (k + 1) s' (by omega)
   simp only [List.all_cons,List.all_nil,h,bne_self_eq_false,Bool.false_or,Bool.and_true]
   rfl
 | j + 1,[],k,s => by
  simp only [List.drop_nil,List.take_nil]
  rfl
 | j + 1,o :: rest,k,s => by
  simp only [xCl,List.drop_succ_cons,List.take_succ_cons]
  rw [xE3]
  cases xAy R o s with
  | none =>
   show true = xX0 R p c (List.drop j rest) none
   cases List.drop j rest <;> rfl
  | some s' =>
   have hne : (k + (j + 1) != k) = true := by simp
   simp only [List.all_cons,List.all_nil,hne,Bool.true_or,Bool.true_and,xH6]
   rw [← xRD j rest (k + 1) s',show k + 1 + j = k + (j + 1) by omega]
theorem xOv {p c k0 m : Nat} (h : m ≤ k0) (ops : List AOper) (s : St) : xCl R [(p,c,k0)] m ops s = xX0 R p c (ops.drop (k0 - m)) (xAr R (ops.take (k0 - m)) s) := by
 have := xRD (R := R) (p := p) (c := c) (k0 - m) ops m s
 rwa [show m + (k0 - m) = k0 by omega] at this
end
end Go.Abs
