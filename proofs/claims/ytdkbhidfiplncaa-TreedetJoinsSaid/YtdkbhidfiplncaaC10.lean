/- The state of a joined tree is the successor of the states of its subtrees, and Run returns the states of all subtrees (TreedetJoins), without conditions. -/
import Derived.Test.YtdkbhidfiplncaaAD15
import Derived.Test.YtdkbhidfiplncaaAOk
import Derived.Test.YtdkbhidfiplncaaRows
namespace Go.Proofs.Ytdkbhidfiplncaa
open Go.ChangeShapes Go.WideShapes Go.ChangeAt Go.RowKit Go.Abs Go.Abs.Det

theorem treedetJoins_own : ownKnob Try.prog.godebug = none := by kernel_rfl
theorem treedetJoins_laid : laidOutB Try.prog = true := by kernel_rfl
theorem treedetJoins_rec : (Try.f10.params.toList.all fun t => Try.prog.readableRec t && decide (t < Try.prog.types.size)) = true := by kernel_rfl
theorem treedetJoins_types : Try.f10.params.toList.map (tyOf Try.prog 20) = ([TDfa, TU8, TTr2] : List TS).map some := by kernel_rfl

set_option maxRecDepth 100000 in
theorem treedetJoins_lifted (os : Os) (started : os.Started) (H : Type) (enc : TypeId × Value → H) :
    ReturnsInHanded {} Try.checked os 10 .any (Rows.treedetJoinsSpec.pre6 enc Try.prog Try.f10 Rows.treedetJoinsRow.domain false) (Rows.treedetJoinsSpec.post enc Try.prog Try.f10 false true false false) := by
  refine law_lifted (C := Try.checked) (d := 20) treedetJoins_own started (by kernel_rfl) Try.func10
    (ChangeSpec.witness6 (enc := enc) (C := Try.checked) false ⟨#[], #[.agg #[.int .i64 0, .int .i64 0, .slice none 0 0, .slice none 0 0], .int .u8 0, .agg #[.slice none 0 0, .slice none 0 0]], []⟩ 8 (by kernel_rfl) (by kernel_rfl) (by kernel_rfl) (by kernel_rfl))
    Det.progOk treedetJoins_laid ?_ treedetJoins_types rfl ?_ (hnog := fun _ => rfl) (tb := Try.f10.resultTypes[0]!) (by kernel_rfl) (by kernel_rfl) Det.law10t
  · intro t ht
    have := List.all_eq_true.1 treedetJoins_rec t ht
    simp only [Bool.and_eq_true, decide_eq_true_eq] at this
    exact this
  · intro ds hds
    match ds, hds with
    | [_, _, _], _ => rfl

theorem treedetJoins_over : Rows.treedetJoinsRow.holds Try.pinned (OpenSpec.ofChange Rows.treedetJoinsSpec) :=
  OpenClaim.holds_of_wide 10 Try.f10 rfl rfl rfl rfl rfl rfl rfl ⟨rfl, rfl, rfl, rfl, rfl⟩ rfl rfl rfl rfl rfl (by kernel_rfl) Try.func10 (by kernel_rfl)
    (of_decide_eq_true (by kernel_rfl)) (by unfold Func.isWrapper; first | (rw [if_pos (by decide +kernel)]; kernel_rfl) | (rw [if_neg (by decide +kernel)]; exact ⟨rfl, rfl⟩))
    (fun os started H enc _ => treedetJoins_lifted os started H enc)

theorem treedetJoins_proved : Rows.TreedetJoinsSaid := treedetJoins_over
#print axioms treedetJoins_proved
end Go.Proofs.Ytdkbhidfiplncaa
