/- The walk's words for drawn regions in which a call leaves what a slot points at as it was. -/
import Derived.Test.YtkpbekcgigigkaaDoorAbsWalk
namespace Go.Abs
set_option linter.unusedVariables false
set_option linter.unusedSimpArgs false
section
variable {R : Rec} {F : List AV} {H : Heap} {s : St}
def xXA (b : Bool) (x : Option (AExit × St)) : Option (AExit × St) := if b = true then x else none
theorem xKV (x : Option (AExit × St)) : xXA true x = x := rfl
def xVJ (R : Rec) (hs : List (Nat × Nat × Nat)) (als : List (Nat × Nat)) (ls : List (Nat × Nat × Nat × Nat)) (m : Nat) (ops : List AOper) : Option (St × List Pr) → Option (AExit × St)
  | some (s,pl) => xXA (xCk R hs m (ops.drop m) (xA3 als pl s)) (xCA ls (xAx R (ops.drop m) (xA3 als pl s)))
  | none => none
theorem xOo (hs : List (Nat × Nat × Nat)) (als : List (Nat × Nat)) (ls : List (Nat × Nat × Nat × Nat)) (m : Nat) (ops : List AOper) : run R (.drawh hs als ls m ops) s = xVJ R hs als ls m ops (xAF R (ops.take m) s) := by
  simp only [run,xVJ]
  cases xAF R (ops.take m) s with
  | none => rfl
  | some r =>
    obtain ⟨s1,pl⟩ := r
    simp only [xXA]
    cases xAx R (ops.drop m) (xA3 als pl s1) with
    | none => simp [xCA]
    | some s' =>
      simp only [xCA]
      by_cases h1 : ls.all (apart s'.F) = true <;> by_cases h2 : xCk R hs m (ops.drop m) (xA3 als pl s1) = true <;> simp [h1,h2]
theorem xIy (hs : List (Nat × Nat × Nat)) (als : List (Nat × Nat)) (ls : List (Nat × Nat × Nat × Nat)) (m : Nat) (ops : List AOper) (pl : List Pr) : xVJ R hs als ls m ops (some (s,pl)) = xXA (xCk R hs m (ops.drop m) (xA3 als pl s)) (xCA ls (xAx R (ops.drop m) (xA3 als pl s))) := rfl
def xXB (H : Heap) (v : AV) (c : Nat) : Option St → Bool
  | none => true
  | some s' => xHi H s'.H v c
theorem xKW (H : Heap) (v : AV) (c : Nat) (F' : List AV) (H' : Heap) : xXB H v c (some ⟨F',H'⟩) = xHi H H' v c := rfl
def xXC (R : Rec) (p c : Nat) : List AOper → Option St → Bool
  | o :: _,some s1 => xXB s1.H (s1.F.getD p .any) c (xAG R o s1)
  | _,_ => true
theorem xKX (p c : Nat) (o : AOper) (r : List AOper) : xXC R p c (o :: r) (some ⟨F,H⟩) = xXB H (F.getD p .any) c (xAG R o ⟨F,H⟩) := rfl
theorem xKY {p c k0 : Nat} : ∀ (ops : List AOper) (k : Nat) (s : St),k0 < k → xCk R [(p,c,k0)] k ops s = true
  | [],k,s,_ => rfl
  | o :: rest,k,s,h => by
    simp only [xCk]
    cases xAG R o s with
    | none => rfl
    | some s' =>
      have hne : (k0 != k) = true := by simp; omega
      simp only [List.all_cons,List.all_nil,hne,Bool.true_or,Bool.true_and]
      exact xKY rest (k + 1) s' (by omega)
theorem xRv {p c : Nat} : ∀ (j : Nat) (ops : List AOper) (k : Nat) (s : St),xCk R [(p,c,k + j)] k ops s = xXC R p c (ops.drop j) (xAx R (ops.take j) s)
  | 0,[],k,s => rfl
  | 0,o :: rest,k,s => by
    simp only [xCk,Nat.add_zero,List.drop_zero,List.take_zero]
    show _ = xXB s.H (s.F.getD p .any) c (xAG R o s)
    cases xAG R o s with
    | none => rfl
    | some s' =>
      have h := xKY (R := R) (p := p) (c := c) (k0 := k) rest (k + 1) s' (by omega)
      simp only [List.all_cons,List.all_nil,h,bne_self_eq_false,Bool.false_or,Bool.and_true]
      rfl
  | j + 1,[],k,s => by
    simp only [List.drop_nil,List.take_nil]
    rfl
  | j + 1,o :: rest,k,s => by
    simp only [xCk,List.drop_succ_cons,List.take_succ_cons]
    rw [xEB]
    cases xAG R o s with
    | none =>
      show true = xXC R p c (List.drop j rest) none
      cases List.drop j rest <;> rfl
    | some s' =>
      have hne : (k + (j + 1) != k) = true := by simp
      simp only [List.all_cons,List.all_nil,hne,Bool.true_or,Bool.true_and,xHw]
      rw [← xRv j rest (k + 1) s',show k + 1 + j = k + (j + 1) by omega]
theorem xOp {p c k0 m : Nat} (h : m ≤ k0) (ops : List AOper) (s : St) : xCk R [(p,c,k0)] m ops s = xXC R p c (ops.drop (k0 - m)) (xAx R (ops.take (k0 - m)) s) := by
  have := xRv (R := R) (p := p) (c := c) (k0 - m) ops m s
  rwa [show m + (k0 - m) = k0 by omega] at this
end
end Go.Abs
