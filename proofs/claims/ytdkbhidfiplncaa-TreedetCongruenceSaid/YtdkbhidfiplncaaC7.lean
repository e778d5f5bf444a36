/- The classes of equivalent states are a congruence, numbered in the order of their smallest states (TreedetCongruence), without conditions. -/
import Derived.Test.YtdkbhidfiplncaaAE11
import Derived.Test.YtdkbhidfiplncaaAOk
import Derived.Test.YtdkbhidfiplncaaRows
namespace Go.Proofs.Ytdkbhidfiplncaa
open Go.ChangeShapes Go.WideShapes Go.ChangeAt Go.RowKit Go.Abs Go.Abs.Det

theorem treedetCongruence_own : ownKnob Try.prog.godebug = none := by kernel_rfl
theorem treedetCongruence_laid : laidOutB Try.prog = true := by kernel_rfl
theorem treedetCongruence_rec : (Try.f7.params.toList.all fun t => Try.prog.readableRec t && decide (t < Try.prog.types.size)) = true := by kernel_rfl
theorem treedetCongruence_types : Try.f7.params.toList.map (tyOf Try.prog 20) = ([TDfa] : List TS).map some := by kernel_rfl

set_option maxRecDepth 100000 in
theorem treedetCongruence_lifted (os : Os) (started : os.Started) (H : Type) (enc : TypeId × Value → H) :
    ReturnsInHanded {} Try.checked os 7 .any (Rows.treedetCongruenceSpec.pre6 enc Try.prog Try.f7 Rows.treedetCongruenceRow.domain false) (Rows.treedetCongruenceSpec.post enc Try.prog Try.f7 false true false false) := by
  refine law_lifted (C := Try.checked) (d := 20) treedetCongruence_own started (by kernel_rfl) Try.func7
    (ChangeSpec.witness6 (enc := enc) (C := Try.checked) false ⟨#[], #[.agg #[.int .i64 0, .int .i64 0, .slice none 0 0, .slice none 0 0]], []⟩ 8 (by kernel_rfl) (by kernel_rfl) (by kernel_rfl) (by kernel_rfl))
    Det.progOk treedetCongruence_laid ?_ treedetCongruence_types rfl ?_ (hnog := fun _ => rfl) (tb := Try.f7.resultTypes[0]!) (by kernel_rfl) (by kernel_rfl) Det.law7t
  · intro t ht
    have := List.all_eq_true.1 treedetCongruence_rec t ht
    simp only [Bool.and_eq_true, decide_eq_true_eq] at this
    exact this
  · intro ds hds
    match ds, hds with
    | [_], _ => rfl

theorem treedetCongruence_over : Rows.treedetCongruenceRow.holds Try.pinned (OpenSpec.ofChange Rows.treedetCongruenceSpec) :=
  OpenClaim.holds_of_wide 7 Try.f7 rfl rfl rfl rfl rfl rfl rfl ⟨rfl, rfl, rfl, rfl, rfl⟩ rfl rfl rfl rfl rfl (by kernel_rfl) Try.func7 (by kernel_rfl)
    (of_decide_eq_true (by kernel_rfl)) (by unfold Func.isWrapper; first | (rw [if_pos (by decide +kernel)]; kernel_rfl) | (rw [if_neg (by decide +kernel)]; exact ⟨rfl, rfl⟩))
    (fun os started H enc _ => treedetCongruence_lifted os started H enc)

theorem treedetCongruence_proved : Rows.TreedetCongruenceSaid := treedetCongruence_over
#print axioms treedetCongruence_proved
end Go.Proofs.Ytdkbhidfiplncaa
