/- The walk's words for drawn regions in which a call leaves what a slot points at as it was. -/
import Derived.Test.YtdkbhidfiplncaaAbsWalk
namespace Go.Abs
set_option linter.unusedVariables false
set_option linter.unusedSimpArgs false

section
variable {R : Rec} {F : List AV} {H : Heap} {s : St}

def holdK (b : Bool) (x : Option (AExit × St)) : Option (AExit × St) := if b = true then x else none
theorem holdK_true (x : Option (AExit × St)) : holdK true x = x := rfl
def drawhK (R : Rec) (hs : List (Nat × Nat × Nat)) (als : List (Nat × Nat)) (ls : List (Nat × Nat × Nat × Nat)) (m : Nat) (ops : List AOper) : Option (St × List Pr) → Option (AExit × St)
  | some (s, pl) => holdK (heldB R hs m (ops.drop m) (adoptS als pl s)) (apartK ls (runOps R (ops.drop m) (adoptS als pl s)))
  | none => none
theorem run_drawh (hs : List (Nat × Nat × Nat)) (als : List (Nat × Nat)) (ls : List (Nat × Nat × Nat × Nat)) (m : Nat) (ops : List AOper) : run R (.drawh hs als ls m ops) s = drawhK R hs als ls m ops (runPriv R (ops.take m) s) := by
  simp only [run, drawhK]
  cases runPriv R (ops.take m) s with
  | none => rfl
  | some r =>
    obtain ⟨s1, pl⟩ := r
    simp only [holdK]
    cases runOps R (ops.drop m) (adoptS als pl s1) with
    | none => simp [apartK]
    | some s' =>
      simp only [apartK]
      by_cases h1 : ls.all (apart s'.F) = true <;> by_cases h2 : heldB R hs m (ops.drop m) (adoptS als pl s1) = true <;> simp [h1, h2]
theorem drawhK_some (hs : List (Nat × Nat × Nat)) (als : List (Nat × Nat)) (ls : List (Nat × Nat × Nat × Nat)) (m : Nat) (ops : List AOper) (pl : List Pr) : drawhK R hs als ls m ops (some (s, pl)) = holdK (heldB R hs m (ops.drop m) (adoptS als pl s)) (apartK ls (runOps R (ops.drop m) (adoptS als pl s))) := rfl

def heldU (H : Heap) (v : AV) (c : Nat) : Option St → Bool
  | none => true
  | some s' => rdSame H s'.H v c
theorem heldU_some (H : Heap) (v : AV) (c : Nat) (F' : List AV) (H' : Heap) : heldU H v c (some ⟨F', H'⟩) = rdSame H H' v c := rfl
def heldT (R : Rec) (p c : Nat) : List AOper → Option St → Bool
  | o :: _, some s1 => heldU s1.H (s1.F.getD p .any) c (execOperA R o s1)
  | _, _ => true
theorem heldT_some (p c : Nat) (o : AOper) (r : List AOper) : heldT R p c (o :: r) (some ⟨F, H⟩) = heldU H (F.getD p .any) c (execOperA R o ⟨F, H⟩) := rfl

theorem heldB_past {p c k0 : Nat} : ∀ (ops : List AOper) (k : Nat) (s : St), k0 < k → heldB R [(p, c, k0)] k ops s = true
  | [], k, s, _ => rfl
  | o :: rest, k, s, h => by
    simp only [heldB]
    cases execOperA R o s with
    | none => rfl
    | some s' =>
      have hne : (k0 != k) = true := by simp; omega
      simp only [List.all_cons, List.all_nil, hne, Bool.true_or, Bool.true_and]
      exact heldB_past rest (k + 1) s' (by omega)
theorem heldB_at {p c : Nat} : ∀ (j : Nat) (ops : List AOper) (k : Nat) (s : St), heldB R [(p, c, k + j)] k ops s = heldT R p c (ops.drop j) (runOps R (ops.take j) s)
  | 0, [], k, s => rfl
  | 0, o :: rest, k, s => by
    simp only [heldB, Nat.add_zero, List.drop_zero, List.take_zero]
    show _ = heldU s.H (s.F.getD p .any) c (execOperA R o s)
    cases execOperA R o s with
    | none => rfl
    | some s' =>
      have h := heldB_past (R := R) (p := p) (c := c) (k0 := k) rest (k + 1) s' (by omega)
      simp only [List.all_cons, List.all_nil, h, bne_self_eq_false, Bool.false_or, Bool.and_true]
      rfl
  | j + 1, [], k, s => by
    simp only [List.drop_nil, List.take_nil]
    rfl
  | j + 1, o :: rest, k, s => by
    simp only [heldB, List.drop_succ_cons, List.take_succ_cons]
    rw [runOps_cons]
    cases execOperA R o s with
    | none =>
      show true = heldT R p c (List.drop j rest) none
      cases List.drop j rest <;> rfl
    | some s' =>
      have hne : (k + (j + 1) != k) = true := by simp
      simp only [List.all_cons, List.all_nil, hne, Bool.true_or, Bool.true_and, opsK_some]
      rw [← heldB_at j rest (k + 1) s', show k + 1 + j = k + (j + 1) by omega]
theorem heldB_one {p c k0 m : Nat} (h : m ≤ k0) (ops : List AOper) (s : St) : heldB R [(p, c, k0)] m ops s = heldT R p c (ops.drop (k0 - m)) (runOps R (ops.take (k0 - m)) s) := by
  have := heldB_at (R := R) (p := p) (c := c) (k0 - m) ops m s
  rwa [show m + (k0 - m) = k0 by omega] at this
end
end Go.Abs
