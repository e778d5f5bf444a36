/- The walk's words for drawn regions in which a call leaves what a slot points at as it was. -/
import Derived.Test.YtdheandekcpieaaDoorAbsWalk
namespace Go.Abs
set_option linter.unusedVariables false
set_option linter.unusedSimpArgs false
section
variable {R : Rec} {F : List AV} {H : Heap} {s : St}
def xVD (b : Bool) (x : Option (AExit × St)) : Option (AExit × St) := if b = true then x else none
theorem xJT (x : Option (AExit × St)) : xVD true x = x := rfl
def xTn (R : Rec) (hs : List (Nat × Nat × Nat)) (als : List (Nat × Nat)) (ls : List (Nat × Nat × Nat × Nat)) (m : Nat) (ops : List AOper) : Option (St × List Pr) → Option (AExit × St)
 | some (s,pl) => xVD (xCr R hs m (ops.drop m) (xA9 als pl s)) (xGJ ls (xAq R (ops.drop m) (xA9 als pl s)))
 | none => none
theorem xMW (hs : List (Nat × Nat × Nat)) (als : List (Nat × Nat)) (ls : List (Nat × Nat × Nat × Nat)) (m : Nat) (ops : List AOper) : run R (.drawh hs als ls m ops) s = xTn R hs als ls m ops (xAA R (ops.take m) s) := by
 simp only [run,xTn]
 cases xAA R (ops.take m) s with
 | none => rfl
 | some r =>
  obtain ⟨s1,pl⟩ := r
  simp only [xVD]
  cases xAq R (ops.drop m) (xA9 als pl s1) with
  | none => simp [xGJ]
  | some s' =>
   simp only [xGJ]
   by_cases h1 : ls.all (apart s'.F) = true <;> by_cases h2 : xCr R hs m (ops.drop m) (xA9 als pl s1) = true <;> simp [h1,h2]
theorem xIk (hs : List (Nat × Nat × Nat)) (als : List (Nat × Nat)) (ls : List (Nat × Nat × Nat × Nat)) (m : Nat) (ops : List AOper) (pl : List Pr) : xTn R hs als ls m ops (some (s,pl)) = xVD (xCr R hs m (ops.drop m) (xA9 als pl s)) (xGJ ls (xAq R (ops.drop m) (xA9 als pl s))) := rfl
def xVE (H : Heap) (v : AV) (c : Nat) : Option St → Bool
 | none => true
 | some s' => xCP H s'.H v c
theorem xJU (H : Heap) (v : AV) (c : Nat) (F' : List AV) (H' : Heap) : xVE H v c (some ⟨F',H'⟩) = xCP H H' v c := rfl
def xVF (R : Rec) (p c : Nat) : List AOper → Option St → Bool
 | o :: _,some s1 => xVE s1.H (s1.F.getD p .any) c (xAE R o s1)
 | _,_ => true
theorem xJV (p c : Nat) (o : AOper) (r : List AOper) : xVF R p c (o :: r) (some ⟨F,H⟩) = xVE H (F.getD p .any) c (xAE R o ⟨F,H⟩) := rfl
theorem xJW {p c k0 : Nat} : ∀ (ops : List AOper) (k : Nat) (s : St),k0 < k → xCr R [(p,c,k0)] k ops s = true
 | [],k,s,_ => rfl
 | o :: rest,k,s,h => by
  simp only [xCr]
  cases xAE R o s with
  | none => rfl
  | some s' =>
   have hne : (k0 != k) = true := by simp; omega
   simp only [List.all_cons,List.all_nil,hne,Bool.true_or,Bool.true_and]
   exact xJW rest (k + 1) s' (by omega)
theorem xP1 {p c : Nat} : ∀ (j : Nat) (ops : List AOper) (k : Nat) (s : St),xCr R [(p,c,k + j)] k ops s = xVF R p c (ops.drop j) (xAq R (ops.take j) s)
 | 0,[],k,s => rfl
 | 0,o :: rest,k,s => by
  simp only [xCr,Nat.add_zero,List.drop_zero,List.take_zero]
  show _ = xVE s.H (s.F.getD p .any) c (xAE R o s)
  cases xAE R o s with
  | none => rfl
  | some s' =>
   have h := xJW (R := R) (p := p) (c := c) (k0 := k) rest (k + 1) s' (by omega)
   simp only [List.all_cons,List.all_nil,h,bne_self_eq_false,Bool.false_or,Bool.and_true]
   rfl
 | j + 1,[],k,s => by
  simp only [List.drop_nil,List.take_nil]
  rfl
 | j + 1,o :: rest,k,s => by
  simp only [xCr,List.drop_succ_cons,List.take_succ_cons]
  rw [xE3]
  cases xAE R o s with
  | none =>
   show true = xVF R p c (List.drop j rest) none
   cases List.drop j rest <;> rfl
  | some s' =>
   have hne : (k + (j + 1) != k) = true := by simp
   simp only [List.all_cons,List.all_nil,hne,Bool.true_or,Bool.true_and,xHW]
   rw [← xP1 j rest (k + 1) s',show k + 1 + j = k + (j + 1) by omega]
theorem xMX {p c k0 m : Nat} (h : m ≤ k0) (ops : List AOper) (s : St) : xCr R [(p,c,k0)] m ops s = xVF R p c (ops.drop (k0 - m)) (xAq R (ops.take (k0 - m)) s) := by
 have := xP1 (R := R) (p := p) (c := c) (k0 - m) ops m s
 rwa [show m + (k0 - m) = k0 by omega] at this
end
end Go.Abs
