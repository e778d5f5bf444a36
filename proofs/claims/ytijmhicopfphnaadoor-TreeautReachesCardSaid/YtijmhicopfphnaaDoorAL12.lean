/- Every state of a tree is reachable: the plain law. -/
import Derived.Test.YtijmhicopfphnaaDoorAL11
namespace Go.Abs.Tree
open Go Go.Abs

theorem ev_in {E : Nat} {rl : List Rl} {U : Nat → Bool} (h0 : ∀ e ∈ rl, 0 ≤ e.t) (hU : Clo rl U) (hE : ∀ j, E.testBit j = true → U j = true) : ∀ (T : BT) (j : Nat), (ev E rl T).testBit j = true → U j = true
  | .nil, j, hj => hE j hj
  | .node x l r, j, hj => by
    have hl := ev_in (E := E) h0 hU hE l
    have hr := ev_in (E := E) h0 hU hE r
    rw [ev, toM_bit _ _ _ _ _ _ h0, Nat.zero_testBit, Bool.false_or, List.any_eq_true] at hj
    obtain ⟨u, hu, hh⟩ := hj
    unfold hit at hh
    simp only [Bool.and_eq_true, decide_eq_true_eq] at hh
    have e : u.t.toNat = j := by omega
    rw [← e]
    exact hU u hu (hl _ hh.1.1.1) (hr _ hh.1.1.2)
end Go.Abs.Tree
