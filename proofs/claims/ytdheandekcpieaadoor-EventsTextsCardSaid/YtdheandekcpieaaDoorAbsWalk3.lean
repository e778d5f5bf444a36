/- The walk's words for drawn regions in which a call leaves what a slot points at as it was. -/
import Derived.Test.YtdheandekcpieaaDoorAbsWalk
namespace Go.Abs
set_option linter.unusedVariables false
set_option linter.unusedSimpArgs false
section
variable {R : Rec} {F : List AV} {H : Heap} {s : St}
def xU9 (b : Bool) (x : Option (AExit × St)) : Option (AExit × St) := if b = true then x else none
theorem xJh (x : Option (AExit × St)) : xU9 true x = x := rfl
def xSJ (R : Rec) (hs : List (Nat × Nat × Nat)) (als : List (Nat × Nat)) (ls : List (Nat × Nat × Nat × Nat)) (m : Nat) (ops : List AOper) : Option (St × List Pr) → Option (AExit × St)
 | some (s,pl) => xU9 (xCg R hs m (ops.drop m) (xBj als pl s)) (xGe ls (xAx R (ops.drop m) (xBj als pl s)))
 | none => none
theorem xMq (hs : List (Nat × Nat × Nat)) (als : List (Nat × Nat)) (ls : List (Nat × Nat × Nat × Nat)) (m : Nat) (ops : List AOper) : run R (.drawh hs als ls m ops) s = xSJ R hs als ls m ops (xAD R (ops.take m) s) := by
 simp only [run,xSJ]
 cases xAD R (ops.take m) s with
 | none => rfl
 | some r =>
  obtain ⟨s1,pl⟩ := r
  simp only [xU9]
  cases xAx R (ops.drop m) (xBj als pl s1) with
  | none => simp [xGe]
  | some s' =>
   simp only [xGe]
   by_cases h1 : ls.all (apart s'.F) = true <;> by_cases h2 : xCg R hs m (ops.drop m) (xBj als pl s1) = true <;> simp [h1,h2]
theorem xHG (hs : List (Nat × Nat × Nat)) (als : List (Nat × Nat)) (ls : List (Nat × Nat × Nat × Nat)) (m : Nat) (ops : List AOper) (pl : List Pr) : xSJ R hs als ls m ops (some (s,pl)) = xU9 (xCg R hs m (ops.drop m) (xBj als pl s)) (xGe ls (xAx R (ops.drop m) (xBj als pl s))) := rfl
def xVa (H : Heap) (v : AV) (c : Nat) : Option St → Bool
 | none => true
 | some s' => xBR H s'.H v c
theorem xJi (H : Heap) (v : AV) (c : Nat) (F' : List AV) (H' : Heap) : xVa H v c (some ⟨F',H'⟩) = xBR H H' v c := rfl
def xVb (R : Rec) (p c : Nat) : List AOper → Option St → Bool
 | o :: _,some s1 => xVa s1.H (s1.F.getD p .any) c (xAJ R o s1)
 | _,_ => true
theorem xJj (p c : Nat) (o : AOper) (r : List AOper) : xVb R p c (o :: r) (some ⟨F,H⟩) = xVa H (F.getD p .any) c (xAJ R o ⟨F,H⟩) := rfl
theorem xJk {p c k0 : Nat} : ∀ (ops : List AOper) (k : Nat) (s : St),k0 < k → xCg R [(p,c,k0)] k ops s = true
 | [],k,s,_ => rfl
 | o :: rest,k,s,h => by
  simp only [xCg]
  cases xAJ R o s with
  | none => rfl
  | some s' =>
   have hne : (k0 != k) = true := by simp; omega
   simp only [List.all_cons,List.all_nil,hne,Bool.true_or,Bool.true_and]
   exact xJk rest (k + 1) s' (by omega)
theorem xPj {p c : Nat} : ∀ (j : Nat) (ops : List AOper) (k : Nat) (s : St),xCg R [(p,c,k + j)] k ops s = xVb R p c (ops.drop j) (xAx R (ops.take j) s)
 | 0,[],k,s => rfl
 | 0,o :: rest,k,s => by
  simp only [xCg,Nat.add_zero,List.drop_zero,List.take_zero]
  show _ = xVa s.H (s.F.getD p .any) c (xAJ R o s)
  cases xAJ R o s with
  | none => rfl
  | some s' =>
   have h := xJk (R := R) (p := p) (c := c) (k0 := k) rest (k + 1) s' (by omega)
   simp only [List.all_cons,List.all_nil,h,bne_self_eq_false,Bool.false_or,Bool.and_true]
   rfl
 | j + 1,[],k,s => by
  simp only [List.drop_nil,List.take_nil]
  rfl
 | j + 1,o :: rest,k,s => by
  simp only [xCg,List.drop_succ_cons,List.take_succ_cons]
  rw [xEO]
  cases xAJ R o s with
  | none =>
   show true = xVb R p c (List.drop j rest) none
   cases List.drop j rest <;> rfl
  | some s' =>
   have hne : (k + (j + 1) != k) = true := by simp
   simp only [List.all_cons,List.all_nil,hne,Bool.true_or,Bool.true_and,xHi]
   rw [← xPj j rest (k + 1) s',show k + 1 + j = k + (j + 1) by omega]
theorem xMr {p c k0 m : Nat} (h : m ≤ k0) (ops : List AOper) (s : St) : xCg R [(p,c,k0)] m ops s = xVb R p c (ops.drop (k0 - m)) (xAx R (ops.take (k0 - m)) s) := by
 have := xPj (R := R) (p := p) (c := c) (k0 - m) ops m s
 rwa [show m + (k0 - m) = k0 by omega] at this
end
end Go.Abs
