/- Renumber and Minimize preserve the language and are idempotent (TreedetPreserves), without conditions. -/
import Derived.Test.YtdkbhidfiplncaaAS12
import Derived.Test.YtdkbhidfiplncaaAOk
import Derived.Test.YtdkbhidfiplncaaRows
namespace Go.Proofs.Ytdkbhidfiplncaa
open Go.ChangeShapes Go.WideShapes Go.ChangeAt Go.RowKit Go.Abs Go.Abs.Det

theorem treedetPreserves_own : ownKnob Try.prog.godebug = none := by kernel_rfl
theorem treedetPreserves_laid : laidOutB Try.prog = true := by kernel_rfl
theorem treedetPreserves_rec : (Try.f6.params.toList.all fun t => Try.prog.readableRec t && decide (t < Try.prog.types.size)) = true := by kernel_rfl
theorem treedetPreserves_types : Try.f6.params.toList.map (tyOf Try.prog 20) = ([TDfa, TTr] : List TS).map some := by kernel_rfl

set_option maxRecDepth 100000 in
theorem treedetPreserves_lifted (os : Os) (started : os.Started) (H : Type) (enc : TypeId × Value → H) :
    ReturnsInHanded {} Try.checked os 6 .any (Rows.treedetPreservesSpec.pre6 enc Try.prog Try.f6 Rows.treedetPreservesRow.domain false) (Rows.treedetPreservesSpec.post enc Try.prog Try.f6 false true false false) := by
  refine law_lifted (C := Try.checked) (d := 20) treedetPreserves_own started (by kernel_rfl) Try.func6
    (ChangeSpec.witness6 (enc := enc) (C := Try.checked) false ⟨#[], #[.agg #[.int .i64 0, .int .i64 0, .slice none 0 0, .slice none 0 0], .slice none 0 0], []⟩ 8 (by kernel_rfl) (by kernel_rfl) (by kernel_rfl) (by kernel_rfl))
    Det.progOk treedetPreserves_laid ?_ treedetPreserves_types rfl ?_ (hnog := fun _ => rfl) (tb := Try.f6.resultTypes[0]!) (by kernel_rfl) (by kernel_rfl) Det.law6t
  · intro t ht
    have := List.all_eq_true.1 treedetPreserves_rec t ht
    simp only [Bool.and_eq_true, decide_eq_true_eq] at this
    exact this
  · intro ds hds
    match ds, hds with
    | [_, _], _ => rfl

theorem treedetPreserves_over : Rows.treedetPreservesRow.holds Try.pinned (OpenSpec.ofChange Rows.treedetPreservesSpec) :=
  OpenClaim.holds_of_wide 6 Try.f6 rfl rfl rfl rfl rfl rfl rfl ⟨rfl, rfl, rfl, rfl, rfl⟩ rfl rfl rfl rfl rfl (by kernel_rfl) Try.func6 (by kernel_rfl)
    (of_decide_eq_true (by kernel_rfl)) (by unfold Func.isWrapper; first | (rw [if_pos (by decide +kernel)]; kernel_rfl) | (rw [if_neg (by decide +kernel)]; exact ⟨rfl, rfl⟩))
    (fun os started H enc _ => treedetPreserves_lifted os started H enc)

theorem treedetPreserves_proved : Rows.TreedetPreservesSaid := treedetPreserves_over
#print axioms treedetPreserves_proved
end Go.Proofs.Ytdkbhidfiplncaa
