/- The walk's words for drawn regions in which a call leaves what a slot points at as it was. -/
import Derived.Test.YtkpbekcgigigkaaDoorAbsWalk
namespace Go.Abs
set_option linter.unusedVariables false
set_option linter.unusedSimpArgs false
section
variable {R : Rec} {F : List AV} {H : Heap} {s : St}
def yAs (b : Bool) (x : Option (AExit × St)) : Option (AExit × St) := if b = true then x else none
theorem xLV (x : Option (AExit × St)) : yAs true x = x := rfl
def xXW (R : Rec) (hs : List (Nat × Nat × Nat)) (als : List (Nat × Nat)) (ls : List (Nat × Nat × Nat × Nat)) (m : Nat) (ops : List AOper) : Option (St × List Pr) → Option (AExit × St)
 | some (s,pl) => yAs (xB7 R hs m (ops.drop m) (xA0 als pl s)) (xCP ls (xAn R (ops.drop m) (xA0 als pl s)))
 | none => none
theorem xPZ (hs : List (Nat × Nat × Nat)) (als : List (Nat × Nat)) (ls : List (Nat × Nat × Nat × Nat)) (m : Nat) (ops : List AOper) : run R (.drawh hs als ls m ops) s = xXW R hs als ls m ops (xAw R (ops.take m) s) := by
 simp only [run,xXW]
 cases xAw R (ops.take m) s with
 | none => rfl
 | some r =>
  obtain ⟨s1,pl⟩ := r
  simp only [yAs]
  cases xAn R (ops.drop m) (xA0 als pl s1) with
  | none => simp [xCP]
  | some s' =>
   simp only [xCP]
   by_cases h1 : ls.all (apart s'.F) = true <;> by_cases h2 : xB7 R hs m (ops.drop m) (xA0 als pl s1) = true <;> simp [h1,h2]
theorem xJi (hs : List (Nat × Nat × Nat)) (als : List (Nat × Nat)) (ls : List (Nat × Nat × Nat × Nat)) (m : Nat) (ops : List AOper) (pl : List Pr) : xXW R hs als ls m ops (some (s,pl)) = yAs (xB7 R hs m (ops.drop m) (xA0 als pl s)) (xCP ls (xAn R (ops.drop m) (xA0 als pl s))) := rfl
def yAt (H : Heap) (v : AV) (c : Nat) : Option St → Bool
 | none => true
 | some s' => xFz H s'.H v c
theorem xLW (H : Heap) (v : AV) (c : Nat) (F' : List AV) (H' : Heap) : yAt H v c (some ⟨F',H'⟩) = xFz H H' v c := rfl
def yAu (R : Rec) (p c : Nat) : List AOper → Option St → Bool
 | o :: _,some s1 => yAt s1.H (s1.F.getD p .any) c (xAu R o s1)
 | _,_ => true
theorem xLX (p c : Nat) (o : AOper) (r : List AOper) : yAu R p c (o :: r) (some ⟨F,H⟩) = yAt H (F.getD p .any) c (xAu R o ⟨F,H⟩) := rfl
theorem xLY {p c k0 : Nat} : ∀ (ops : List AOper) (k : Nat) (s : St),k0 < k → xB7 R [(p,c,k0)] k ops s = true
 | [],k,s,_ => rfl
 | o :: rest,k,s,h => by
  simp only [xB7]
  cases xAu R o s with
  | none => rfl
  | some s' =>
   have hne : (k0 != k) = true := by simp; omega
   simp only [List.all_cons,List.all_nil,hne,Bool.true_or,Bool.true_and]
   exact xLY rest (k + 1) s' (by omega)
theorem xTn {p c : Nat} : ∀ (j : Nat) (ops : List AOper) (k : Nat) (s : St),xB7 R [(p,c,k + j)] k ops s = yAu R p c (ops.drop j) (xAn R (ops.take j) s)
 | 0,[],k,s => rfl
 | 0,o :: rest,k,s => by
  simp only [xB7,Nat.add_zero,List.drop_zero,List.take_zero]
  show _ = yAt s.H (s.F.getD p .any) c (xAu R o s)
  cases xAu R o s with
  | none => rfl
  | some s' =>
   have h := xLY (R := R) (p := p) (c := c) (k0 := k) rest (k + 1) s' (by omega)
   simp only [List.all_cons,List.all_nil,h,bne_self_eq_false,Bool.false_or,Bool.and_true]
   rfl
 | j + 1,[],k,s => by
  simp only [List.drop_nil,List.take_nil]
  rfl
 | j + 1,o :: rest,k,s => by
  simp only [xB7,List.drop_succ_cons,List.take_succ_cons]
  rw [xFa]
  cases xAu R o s with
  | none =>
   show true = yAu R p c (List.drop j rest) none
   cases List.drop j rest <;> rfl
  | some s' =>
   have hne : (k + (j + 1) != k) = true := by simp
   simp only [List.all_cons,List.all_nil,hne,Bool.true_or,Bool.true_and,xIe]
   rw [← xTn j rest (k + 1) s',show k + 1 + j = k + (j + 1) by omega]
theorem xP0 {p c k0 m : Nat} (h : m ≤ k0) (ops : List AOper) (s : St) : xB7 R [(p,c,k0)] m ops s = yAu R p c (ops.drop (k0 - m)) (xAn R (ops.take (k0 - m)) s) := by
 have := xTn (R := R) (p := p) (c := c) (k0 - m) ops m s
 rwa [show m + (k0 - m) = k0 by omega] at this
end
end Go.Abs
