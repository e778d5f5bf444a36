/- An automaton and its doubled automaton have the same minimal automaton (TreedetDoubled), without conditions. -/
import Derived.Test.YtdkbhidfiplncaaAT7
import Derived.Test.YtdkbhidfiplncaaAOk
import Derived.Test.YtdkbhidfiplncaaRows
namespace Go.Proofs.Ytdkbhidfiplncaa
open Go.ChangeShapes Go.WideShapes Go.ChangeAt Go.RowKit Go.Abs Go.Abs.Det

theorem treedetDoubled_own : ownKnob Try.prog.godebug = none := by kernel_rfl
theorem treedetDoubled_laid : laidOutB Try.prog = true := by kernel_rfl
theorem treedetDoubled_rec : (Try.f8.params.toList.all fun t => Try.prog.readableRec t && decide (t < Try.prog.types.size)) = true := by kernel_rfl
theorem treedetDoubled_types : Try.f8.params.toList.map (tyOf Try.prog 20) = ([TDfa, TI] : List TS).map some := by kernel_rfl

set_option maxRecDepth 100000 in
theorem treedetDoubled_lifted (os : Os) (started : os.Started) (H : Type) (enc : TypeId × Value → H) :
    ReturnsInHanded {} Try.checked os 8 .any (Rows.treedetDoubledSpec.pre6 enc Try.prog Try.f8 Rows.treedetDoubledRow.domain false) (Rows.treedetDoubledSpec.post enc Try.prog Try.f8 false true false false) := by
  refine law_lifted (C := Try.checked) (d := 20) treedetDoubled_own started (by kernel_rfl) Try.func8
    (ChangeSpec.witness6 (enc := enc) (C := Try.checked) false ⟨#[], #[.agg #[.int .i64 0, .int .i64 0, .slice none 0 0, .slice none 0 0], .int .i64 0], []⟩ 8 (by kernel_rfl) (by kernel_rfl) (by kernel_rfl) (by kernel_rfl))
    Det.progOk treedetDoubled_laid ?_ treedetDoubled_types rfl ?_ (hnog := fun _ => rfl) (tb := Try.f8.resultTypes[0]!) (by kernel_rfl) (by kernel_rfl) Det.law8t
  · intro t ht
    have := List.all_eq_true.1 treedetDoubled_rec t ht
    simp only [Bool.and_eq_true, decide_eq_true_eq] at this
    exact this
  · intro ds hds
    match ds, hds with
    | [_, _], _ => rfl

theorem treedetDoubled_over : Rows.treedetDoubledRow.holds Try.pinned (OpenSpec.ofChange Rows.treedetDoubledSpec) :=
  OpenClaim.holds_of_wide 8 Try.f8 rfl rfl rfl rfl rfl rfl rfl ⟨rfl, rfl, rfl, rfl, rfl⟩ rfl rfl rfl rfl rfl (by kernel_rfl) Try.func8 (by kernel_rfl)
    (of_decide_eq_true (by kernel_rfl)) (by unfold Func.isWrapper; first | (rw [if_pos (by decide +kernel)]; kernel_rfl) | (rw [if_neg (by decide +kernel)]; exact ⟨rfl, rfl⟩))
    (fun os started H enc _ => treedetDoubled_lifted os started H enc)

theorem treedetDoubled_proved : Rows.TreedetDoubledSaid := treedetDoubled_over
#print axioms treedetDoubled_proved
end Go.Proofs.Ytdkbhidfiplncaa
