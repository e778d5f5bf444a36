/- The walk's words for drawn regions in which a call leaves what a slot points at as it was. -/
import Derived.Test.YtdkbhidfiplncaaAbsWalk
namespace Go.Abs
set_option linter.unusedVariables false
set_option linter.unusedSimpArgs false
section
variable {R : Rec} {F : List AV} {H : xAc} {s : St}
def yBv (b : Bool) (x : Option (AExit × St)) : Option (AExit × St) := if b = true then x else none
theorem xLz (x : Option (AExit × St)) : yBv true x = x := rfl
def xYS (R : Rec) (hs : List (Nat × Nat × Nat)) (als : List (Nat × Nat)) (ls : List (Nat × Nat × Nat × Nat)) (m : Nat) (ops : List AOper) : Option (St × List Pr) → Option (AExit × St)
 | some (s,pl) => yBv (xCe R hs m (ops.drop m) (xBe als pl s)) (xCm ls (xAA R (ops.drop m) (xBe als pl s)))
 | none => none
theorem xQm (hs : List (Nat × Nat × Nat)) (als : List (Nat × Nat)) (ls : List (Nat × Nat × Nat × Nat)) (m : Nat) (ops : List AOper) : run R (.drawh hs als ls m ops) s = xYS R hs als ls m ops (xAC R (ops.take m) s) := by
 simp only [run,xYS]
 cases xAC R (ops.take m) s with
 | none => rfl
 | some r =>
  obtain ⟨s1,pl⟩ := r
  simp only [yBv]
  cases xAA R (ops.drop m) (xBe als pl s1) with
  | none => simp [xCm]
  | some s' =>
   simp only [xCm]
   by_cases h1 : ls.all (apart s'.F) = true <;> by_cases h2 : xCe R hs m (ops.drop m) (xBe als pl s1) = true <;> simp [h1,h2]
theorem xI4 (hs : List (Nat × Nat × Nat)) (als : List (Nat × Nat)) (ls : List (Nat × Nat × Nat × Nat)) (m : Nat) (ops : List AOper) (pl : List Pr) : xYS R hs als ls m ops (some (s,pl)) = yBv (xCe R hs m (ops.drop m) (xBe als pl s)) (xCm ls (xAA R (ops.drop m) (xBe als pl s))) := rfl
def yBw (H : xAc) (v : AV) (c : Nat) : Option St → Bool
 | none => true
 | some s' => xCW H s'.H v c
theorem xLA (H : xAc) (v : AV) (c : Nat) (F' : List AV) (H' : xAc) : yBw H v c (some ⟨F',H'⟩) = xCW H H' v c := rfl
def yBx (R : Rec) (p c : Nat) : List AOper → Option St → Bool
 | o :: _,some s1 => yBw s1.H (s1.F.getD p .any) c (xAB R o s1)
 | _,_ => true
theorem xLB (p c : Nat) (o : AOper) (r : List AOper) : yBx R p c (o :: r) (some ⟨F,H⟩) = yBw H (F.getD p .any) c (xAB R o ⟨F,H⟩) := rfl
theorem xLC {p c k0 : Nat} : ∀ (ops : List AOper) (k : Nat) (s : St),k0 < k → xCe R [(p,c,k0)] k ops s = true
 | [],k,s,_ => rfl
 | o :: rest,k,s,h => by
  simp only [xCe]
  cases xAB R o s with
  | none => rfl
  | some s' =>
   have hne : (k0 != k) = true := by simp; omega
   simp only [List.all_cons,List.all_nil,hne,Bool.true_or,Bool.true_and]
   exact xLC rest (k + 1) s' (by omega)
theorem xUh {p c : Nat} : ∀ (j : Nat) (ops : List AOper) (k : Nat) (s : St),xCe R [(p,c,k + j)] k ops s = yBx R p c (ops.drop j) (xAA R (ops.take j) s)
 | 0,[],k,s => rfl
 | 0,o :: rest,k,s => by
  simp only [xCe,Nat.add_zero,List.drop_zero,List.take_zero]
  show _ = yBw s.H (s.F.getD p .any) c (xAB R o s)
  cases xAB R o s with
  | none => rfl
  | some s' =>
   have h := xLC (R := R) (p := p) (c := c) (k0 := k) rest (k + 1) s' (by omega)
   simp only [List.all_cons,List.all_nil,h,bne_self_eq_false,Bool.false_or,Bool.and_true]
   rfl
 | j + 1,[],k,s => by
  simp only [List.drop_nil,List.take_nil]
  rfl
 | j + 1,o :: rest,k,s => by
  simp only [xCe,List.drop_succ_cons,List.take_succ_cons]
  rw [xEt]
  cases xAB R o s with
  | none =>
   show true = yBx R p c (List.drop j rest) none
   cases List.drop j rest <;> rfl
  | some s' =>
   have hne : (k + (j + 1) != k) = true := by simp
   simp only [List.all_cons,List.all_nil,hne,Bool.true_or,Bool.true_and,xHz]
   rw [← xUh j rest (k + 1) s',show k + 1 + j = k + (j + 1) by omega]
theorem xQn {p c k0 m : Nat} (h : m ≤ k0) (ops : List AOper) (s : St) : xCe R [(p,c,k0)] m ops s = yBx R p c (ops.drop (k0 - m)) (xAA R (ops.take (k0 - m)) s) := by
 have := xUh (R := R) (p := p) (c := c) (k0 - m) ops m s
 rwa [show m + (k0 - m) = k0 by omega] at this
end
end Go.Abs
