/- The walk's words for drawn regions in which a call leaves what a slot points at as it was. -/
import Derived.Test.YtdkbhidfiplncaaAbsWalk
namespace Go.Abs
set_option linter.unusedVariables false
set_option linter.unusedSimpArgs false

section
variable {R : Rec} {F : List AV} {H : xAA} {s : St}

def xT4 (b : Bool) (x : Option (AExit × St)) : Option (AExit × St) := if b = true then x else none
theorem xF0 (x : Option (AExit × St)) : xT4 true x = x := rfl
def xR4 (R : Rec) (hs : List (Nat × Nat × Nat)) (als : List (Nat × Nat)) (ls : List (Nat × Nat × Nat × Nat)) (m : Nat) (ops : List AOper) : Option (St × List Pr) → Option (AExit × St)
  | some (s, pl) => xT4 (xD1 R hs m (ops.drop m) (xCN als pl s)) (xD9 ls (xBJ R (ops.drop m) (xCN als pl s)))
  | none => none
theorem xG1 (hs : List (Nat × Nat × Nat)) (als : List (Nat × Nat)) (ls : List (Nat × Nat × Nat × Nat)) (m : Nat) (ops : List AOper) : run R (.drawh hs als ls m ops) s = xR4 R hs als ls m ops (xBO R (ops.take m) s) := by
  simp only [run, xR4]
  cases xBO R (ops.take m) s with
  | none => rfl
  | some r =>
    obtain ⟨s1, pl⟩ := r
    simp only [xT4]
    cases xBJ R (ops.drop m) (xCN als pl s1) with
    | none => simp [xD9]
    | some s' =>
      simp only [xD9]
      by_cases h1 : ls.all (apart s'.F) = true <;> by_cases h2 : xD1 R hs m (ops.drop m) (xCN als pl s1) = true <;> simp [h1, h2]
theorem xE7 (hs : List (Nat × Nat × Nat)) (als : List (Nat × Nat)) (ls : List (Nat × Nat × Nat × Nat)) (m : Nat) (ops : List AOper) (pl : List Pr) : xR4 R hs als ls m ops (some (s, pl)) = xT4 (xD1 R hs m (ops.drop m) (xCN als pl s)) (xD9 ls (xBJ R (ops.drop m) (xCN als pl s))) := rfl

def xT5 (H : xAA) (v : AV) (c : Nat) : Option St → Bool
  | none => true
  | some s' => xEL H s'.H v c
theorem xF1 (H : xAA) (v : AV) (c : Nat) (F' : List AV) (H' : xAA) : xT5 H v c (some ⟨F', H'⟩) = xEL H H' v c := rfl
def xT6 (R : Rec) (p c : Nat) : List AOper → Option St → Bool
  | o :: _, some s1 => xT5 s1.H (s1.F.getD p .any) c (xBN R o s1)
  | _, _ => true
theorem xF2 (p c : Nat) (o : AOper) (r : List AOper) : xT6 R p c (o :: r) (some ⟨F, H⟩) = xT5 H (F.getD p .any) c (xBN R o ⟨F, H⟩) := rfl

theorem xKi {p c k0 : Nat} : ∀ (ops : List AOper) (k : Nat) (s : St), k0 < k → xD1 R [(p, c, k0)] k ops s = true
  | [], k, s, _ => rfl
  | o :: rest, k, s, h => by
    simp only [xD1]
    cases xBN R o s with
    | none => rfl
    | some s' =>
      have hne : (k0 != k) = true := by simp; omega
      simp only [List.all_cons, List.all_nil, hne, Bool.true_or, Bool.true_and]
      exact xKi rest (k + 1) s' (by omega)
theorem xOC {p c : Nat} : ∀ (j : Nat) (ops : List AOper) (k : Nat) (s : St), xD1 R [(p, c, k + j)] k ops s = xT6 R p c (ops.drop j) (xBJ R (ops.take j) s)
  | 0, [], k, s => rfl
  | 0, o :: rest, k, s => by
    simp only [xD1, Nat.add_zero, List.drop_zero, List.take_zero]
    show _ = xT5 s.H (s.F.getD p .any) c (xBN R o s)
    cases xBN R o s with
    | none => rfl
    | some s' =>
      have h := xKi (R := R) (p := p) (c := c) (k0 := k) rest (k + 1) s' (by omega)
      simp only [List.all_cons, List.all_nil, h, bne_self_eq_false, Bool.false_or, Bool.and_true]
      rfl
  | j + 1, [], k, s => by
    simp only [List.drop_nil, List.take_nil]
    rfl
  | j + 1, o :: rest, k, s => by
    simp only [xD1, List.drop_succ_cons, List.take_succ_cons]
    rw [xAc]
    cases xBN R o s with
    | none =>
      show true = xT6 R p c (List.drop j rest) none
      cases List.drop j rest <;> rfl
    | some s' =>
      have hne : (k + (j + 1) != k) = true := by simp
      simp only [List.all_cons, List.all_nil, hne, Bool.true_or, Bool.true_and, xAi]
      rw [← xOC j rest (k + 1) s', show k + 1 + j = k + (j + 1) by omega]
theorem xG2 {p c k0 m : Nat} (h : m ≤ k0) (ops : List AOper) (s : St) : xD1 R [(p, c, k0)] m ops s = xT6 R p c (ops.drop (k0 - m)) (xBJ R (ops.take (k0 - m)) s) := by
  have := xOC (R := R) (p := p) (c := c) (k0 - m) ops m s
  rwa [show m + (k0 - m) = k0 by omega] at this
end
end Go.Abs
