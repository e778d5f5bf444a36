/- Determinize returns what the reference returns (TreedetSubsets), without conditions. -/
import Derived.Test.YtdkbhidfiplncaaAH8
import Derived.Test.YtdkbhidfiplncaaAOk
import Derived.Test.YtdkbhidfiplncaaRows
namespace Go.Proofs.Ytdkbhidfiplncaa
open Go.ChangeShapes Go.WideShapes Go.ChangeAt Go.RowKit Go.Abs Go.Abs.Det

theorem xGy : ownKnob Try.prog.godebug = none := by kernel_rfl
theorem xGk : laidOutB Try.prog = true := by kernel_rfl
theorem xGz : (Try.f4.params.toList.all fun t => Try.prog.readableRec t && decide (t < Try.prog.types.size)) = true := by kernel_rfl
theorem xF4 : Try.f4.params.toList.map (xZ9 Try.prog 20) = ([yCB, TI4] : List TS).map some := by kernel_rfl

set_option maxRecDepth 100000 in
theorem xFj (os : Os) (started : os.Started) (H : Type) (enc : TypeId × Value → H) :
    ReturnsInHanded {} Try.checked os 4 .any (Rows.treedetSubsetsSpec.pre6 enc Try.prog Try.f4 Rows.treedetSubsetsRow.domain false) (Rows.treedetSubsetsSpec.post enc Try.prog Try.f4 false true false false) := by
  refine xP3 (C := Try.checked) (d := 20) xGy started (by kernel_rfl) Try.func4
    (ChangeSpec.witness6 (enc := enc) (C := Try.checked) false ⟨#[], #[.agg #[.int .i64 0, .int .i64 0, .slice none 0 0, .slice none 0 0, .slice none 0 0], .int .i64 0], []⟩ 8 (by kernel_rfl) (by kernel_rfl) (by kernel_rfl) (by kernel_rfl))
    Det.progOk xGk ?_ xF4 rfl ?_ (hnog := fun _ => rfl) (tb := Try.f4.resultTypes[0]!) (by kernel_rfl) (by kernel_rfl) Det.law4t
  · intro t ht
    have := List.all_eq_true.1 xGz t ht
    simp only [Bool.and_eq_true, decide_eq_true_eq] at this
    exact this
  · intro ds hds
    match ds, hds with
    | [_, _], _ => rfl

theorem xGl : Rows.treedetSubsetsRow.holds Try.pinned (OpenSpec.ofChange Rows.treedetSubsetsSpec) :=
  OpenClaim.holds_of_wide 4 Try.f4 rfl rfl rfl rfl rfl rfl rfl ⟨rfl, rfl, rfl, rfl, rfl⟩ rfl rfl rfl rfl rfl (by kernel_rfl) Try.func4 (by kernel_rfl)
    (of_decide_eq_true (by kernel_rfl)) (by unfold Func.isWrapper; first | (rw [if_pos (by decide +kernel)]; kernel_rfl) | (rw [if_neg (by decide +kernel)]; exact ⟨rfl, rfl⟩))
    (fun os started H enc _ => xFj os started H enc)

theorem treedetSubsets_proved : Rows.TreedetSubsetsSaid := xGl
#print axioms treedetSubsets_proved
end Go.Proofs.Ytdkbhidfiplncaa
