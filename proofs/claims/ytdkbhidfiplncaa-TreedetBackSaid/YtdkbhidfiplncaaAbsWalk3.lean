/- The walk's words for drawn regions in which a call leaves what a slot points at as it was. -/
import Derived.Test.YtdkbhidfiplncaaAbsWalk
namespace Go.Abs
set_option linter.unusedVariables false
set_option linter.unusedSimpArgs false

section
variable {R : Rec} {F : List AV} {H : xAu} {s : St}

def xUV (b : Bool) (x : Option (AExit × St)) : Option (AExit × St) := if b = true then x else none
theorem xFY (x : Option (AExit × St)) : xUV true x = x := rfl
def xSO (R : Rec) (hs : List (Nat × Nat × Nat)) (als : List (Nat × Nat)) (ls : List (Nat × Nat × Nat × Nat)) (m : Nat) (ops : List AOper) : Option (St × List Pr) → Option (AExit × St)
  | some (s, pl) => xUV (xD4 R hs m (ops.drop m) (xCQ als pl s)) (xD9 ls (xBK R (ops.drop m) (xCQ als pl s)))
  | none => none
theorem xGX (hs : List (Nat × Nat × Nat)) (als : List (Nat × Nat)) (ls : List (Nat × Nat × Nat × Nat)) (m : Nat) (ops : List AOper) : run R (.drawh hs als ls m ops) s = xSO R hs als ls m ops (xBS R (ops.take m) s) := by
  simp only [run, xSO]
  cases xBS R (ops.take m) s with
  | none => rfl
  | some r =>
    obtain ⟨s1, pl⟩ := r
    simp only [xUV]
    cases xBK R (ops.drop m) (xCQ als pl s1) with
    | none => simp [xD9]
    | some s' =>
      simp only [xD9]
      by_cases h1 : ls.all (apart s'.F) = true <;> by_cases h2 : xD4 R hs m (ops.drop m) (xCQ als pl s1) = true <;> simp [h1, h2]
theorem xE3 (hs : List (Nat × Nat × Nat)) (als : List (Nat × Nat)) (ls : List (Nat × Nat × Nat × Nat)) (m : Nat) (ops : List AOper) (pl : List Pr) : xSO R hs als ls m ops (some (s, pl)) = xUV (xD4 R hs m (ops.drop m) (xCQ als pl s)) (xD9 ls (xBK R (ops.drop m) (xCQ als pl s))) := rfl

def xUW (H : xAu) (v : AV) (c : Nat) : Option St → Bool
  | none => true
  | some s' => xEE H s'.H v c
theorem xFZ (H : xAu) (v : AV) (c : Nat) (F' : List AV) (H' : xAu) : xUW H v c (some ⟨F', H'⟩) = xEE H H' v c := rfl
def xUX (R : Rec) (p c : Nat) : List AOper → Option St → Bool
  | o :: _, some s1 => xUW s1.H (s1.F.getD p .any) c (xBQ R o s1)
  | _, _ => true
theorem xF0 (p c : Nat) (o : AOper) (r : List AOper) : xUX R p c (o :: r) (some ⟨F, H⟩) = xUW H (F.getD p .any) c (xBQ R o ⟨F, H⟩) := rfl

theorem xKl {p c k0 : Nat} : ∀ (ops : List AOper) (k : Nat) (s : St), k0 < k → xD4 R [(p, c, k0)] k ops s = true
  | [], k, s, _ => rfl
  | o :: rest, k, s, h => by
    simp only [xD4]
    cases xBQ R o s with
    | none => rfl
    | some s' =>
      have hne : (k0 != k) = true := by simp; omega
      simp only [List.all_cons, List.all_nil, hne, Bool.true_or, Bool.true_and]
      exact xKl rest (k + 1) s' (by omega)
theorem xPt {p c : Nat} : ∀ (j : Nat) (ops : List AOper) (k : Nat) (s : St), xD4 R [(p, c, k + j)] k ops s = xUX R p c (ops.drop j) (xBK R (ops.take j) s)
  | 0, [], k, s => rfl
  | 0, o :: rest, k, s => by
    simp only [xD4, Nat.add_zero, List.drop_zero, List.take_zero]
    show _ = xUW s.H (s.F.getD p .any) c (xBQ R o s)
    cases xBQ R o s with
    | none => rfl
    | some s' =>
      have h := xKl (R := R) (p := p) (c := c) (k0 := k) rest (k + 1) s' (by omega)
      simp only [List.all_cons, List.all_nil, h, bne_self_eq_false, Bool.false_or, Bool.and_true]
      rfl
  | j + 1, [], k, s => by
    simp only [List.drop_nil, List.take_nil]
    rfl
  | j + 1, o :: rest, k, s => by
    simp only [xD4, List.drop_succ_cons, List.take_succ_cons]
    rw [xAc]
    cases xBQ R o s with
    | none =>
      show true = xUX R p c (List.drop j rest) none
      cases List.drop j rest <;> rfl
    | some s' =>
      have hne : (k + (j + 1) != k) = true := by simp
      simp only [List.all_cons, List.all_nil, hne, Bool.true_or, Bool.true_and, xAi]
      rw [← xPt j rest (k + 1) s', show k + 1 + j = k + (j + 1) by omega]
theorem xGY {p c k0 m : Nat} (h : m ≤ k0) (ops : List AOper) (s : St) : xD4 R [(p, c, k0)] m ops s = xUX R p c (ops.drop (k0 - m)) (xBK R (ops.take (k0 - m)) s) := by
  have := xPt (R := R) (p := p) (c := c) (k0 - m) ops m s
  rwa [show m + (k0 - m) = k0 by omega] at this
end
end Go.Abs
