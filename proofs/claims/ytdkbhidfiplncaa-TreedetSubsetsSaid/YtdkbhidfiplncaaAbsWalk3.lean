/- The walk's words for drawn regions in which a call leaves what a slot points at as it was. -/
import Derived.Test.YtdkbhidfiplncaaAbsWalk
namespace Go.Abs
set_option linter.unusedVariables false
set_option linter.unusedSimpArgs false

section
variable {R : Rec} {F : List AV} {H : xAv} {s : St}

def xUJ (b : Bool) (x : Option (AExit × St)) : Option (AExit × St) := if b = true then x else none
theorem xFZ (x : Option (AExit × St)) : xUJ true x = x := rfl
def xSO (R : Rec) (hs : List (Nat × Nat × Nat)) (als : List (Nat × Nat)) (ls : List (Nat × Nat × Nat × Nat)) (m : Nat) (ops : List AOper) : Option (St × List Pr) → Option (AExit × St)
  | some (s,pl) => xUJ (xEb R hs m (ops.drop m) (xCP als pl s)) (xEg ls (xBO R (ops.drop m) (xCP als pl s)))
  | none => none
theorem xG8 (hs : List (Nat × Nat × Nat)) (als : List (Nat × Nat)) (ls : List (Nat × Nat × Nat × Nat)) (m : Nat) (ops : List AOper) : run R (.drawh hs als ls m ops) s = xSO R hs als ls m ops (xBV R (ops.take m) s) := by
  simp only [run,xSO]
  cases xBV R (ops.take m) s with
  | none => rfl
  | some r =>
    obtain ⟨s1,pl⟩ := r
    simp only [xUJ]
    cases xBO R (ops.drop m) (xCP als pl s1) with
    | none => simp [xEg]
    | some s' =>
      simp only [xEg]
      by_cases h1 : ls.all (apart s'.F) = true <;> by_cases h2 : xEb R hs m (ops.drop m) (xCP als pl s1) = true <;> simp [h1,h2]
theorem xE7 (hs : List (Nat × Nat × Nat)) (als : List (Nat × Nat)) (ls : List (Nat × Nat × Nat × Nat)) (m : Nat) (ops : List AOper) (pl : List Pr) : xSO R hs als ls m ops (some (s,pl)) = xUJ (xEb R hs m (ops.drop m) (xCP als pl s)) (xEg ls (xBO R (ops.drop m) (xCP als pl s))) := rfl

def xUK (H : xAv) (v : AV) (c : Nat) : Option St → Bool
  | none => true
  | some s' => xER H s'.H v c
theorem xF0 (H : xAv) (v : AV) (c : Nat) (F' : List AV) (H' : xAv) : xUK H v c (some ⟨F',H'⟩) = xER H H' v c := rfl
def xUL (R : Rec) (p c : Nat) : List AOper → Option St → Bool
  | o :: _,some s1 => xUK s1.H (s1.F.getD p .any) c (xBU R o s1)
  | _,_ => true
theorem xF1 (p c : Nat) (o : AOper) (r : List AOper) : xUL R p c (o :: r) (some ⟨F,H⟩) = xUK H (F.getD p .any) c (xBU R o ⟨F,H⟩) := rfl

theorem xKp {p c k0 : Nat} : ∀ (ops : List AOper) (k : Nat) (s : St),k0 < k → xEb R [(p,c,k0)] k ops s = true
  | [],k,s,_ => rfl
  | o :: rest,k,s,h => by
    simp only [xEb]
    cases xBU R o s with
    | none => rfl
    | some s' =>
      have hne : (k0 != k) = true := by simp; omega
      simp only [List.all_cons,List.all_nil,hne,Bool.true_or,Bool.true_and]
      exact xKp rest (k + 1) s' (by omega)
theorem xPl {p c : Nat} : ∀ (j : Nat) (ops : List AOper) (k : Nat) (s : St),xEb R [(p,c,k + j)] k ops s = xUL R p c (ops.drop j) (xBO R (ops.take j) s)
  | 0,[],k,s => rfl
  | 0,o :: rest,k,s => by
    simp only [xEb,Nat.add_zero,List.drop_zero,List.take_zero]
    show _ = xUK s.H (s.F.getD p .any) c (xBU R o s)
    cases xBU R o s with
    | none => rfl
    | some s' =>
      have h := xKp (R := R) (p := p) (c := c) (k0 := k) rest (k + 1) s' (by omega)
      simp only [List.all_cons,List.all_nil,h,bne_self_eq_false,Bool.false_or,Bool.and_true]
      rfl
  | j + 1,[],k,s => by
    simp only [List.drop_nil,List.take_nil]
    rfl
  | j + 1,o :: rest,k,s => by
    simp only [xEb,List.drop_succ_cons,List.take_succ_cons]
    rw [xAc]
    cases xBU R o s with
    | none =>
      show true = xUL R p c (List.drop j rest) none
      cases List.drop j rest <;> rfl
    | some s' =>
      have hne : (k + (j + 1) != k) = true := by simp
      simp only [List.all_cons,List.all_nil,hne,Bool.true_or,Bool.true_and,xAi]
      rw [← xPl j rest (k + 1) s',show k + 1 + j = k + (j + 1) by omega]
theorem xG9 {p c k0 m : Nat} (h : m ≤ k0) (ops : List AOper) (s : St) : xEb R [(p,c,k0)] m ops s = xUL R p c (ops.drop (k0 - m)) (xBO R (ops.take (k0 - m)) s) := by
  have := xPl (R := R) (p := p) (c := c) (k0 - m) ops m s
  rwa [show m + (k0 - m) = k0 by omega] at this
end
end Go.Abs
