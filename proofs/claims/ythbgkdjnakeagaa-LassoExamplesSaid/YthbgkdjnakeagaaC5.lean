/- LassoExamples: the examples of the chapter on lassos hold, with their errors and limits: the statement is true of the program, for every heap and every schedule of its draws; it has no arguments and no further conditions. -/
import Derived.Test.YthbgkdjnakeagaaAE4
import Derived.Test.YthbgkdjnakeagaaAOk
import Derived.Test.YthbgkdjnakeagaaRows
namespace Go.Proofs.Ythbgkdjnakeagaa
open Go.ChangeShapes Go.WideShapes Go.ChangeAt Go.RowKit Go.Abs Go.Abs.Lasso

theorem lassoExamples_own : ownKnob Try.prog.godebug = none := by kernel_rfl
theorem lassoExamples_laid : laidOutB Try.prog = true := by kernel_rfl
theorem lassoExamples_rec : (Try.f5.params.toList.all fun t => Try.prog.readableRec t && decide (t < Try.prog.types.size)) = true := by kernel_rfl
theorem lassoExamples_types : Try.f5.params.toList.map (tyOf Try.prog 20) = ([] : List TS).map some := by kernel_rfl

set_option maxRecDepth 100000 in
theorem lassoExamples_lifted (os : Os) (started : os.Started) (H : Type) (enc : TypeId × Value → H) :
    ReturnsInHanded {} Try.checked os 5 .any (Rows.lassoExamplesSpec.pre6 enc Try.prog Try.f5 Rows.lassoExamplesRow.domain false) (Rows.lassoExamplesSpec.post enc Try.prog Try.f5 false true false false) := by
  refine law_lifted (C := Try.checked) (d := 20) lassoExamples_own started (by kernel_rfl) Try.func5
    (ChangeSpec.witness6 (enc := enc) (C := Try.checked) false ⟨#[], #[], []⟩ 8 (by kernel_rfl) (by kernel_rfl) (by kernel_rfl) (by kernel_rfl))
    Lasso.progOk lassoExamples_laid ?_ lassoExamples_types rfl ?_ (hnog := fun _ => rfl) (tb := Try.f5.resultTypes[0]!) (by kernel_rfl) (by kernel_rfl) Lasso.law5
  · intro t ht
    have := List.all_eq_true.1 lassoExamples_rec t ht
    simp only [Bool.and_eq_true, decide_eq_true_eq] at this
    exact this
  · intro ds hds
    match ds, hds with
    | [], _ => rfl

theorem lassoExamples_over : Rows.lassoExamplesRow.holds Try.pinned (OpenSpec.ofChange Rows.lassoExamplesSpec) :=
  OpenClaim.holds_of_wide 5 Try.f5 rfl rfl rfl rfl rfl rfl rfl ⟨rfl, rfl, rfl, rfl, rfl⟩ rfl rfl rfl rfl rfl (by kernel_rfl) Try.func5 (by kernel_rfl)
    (of_decide_eq_true (by kernel_rfl)) (by unfold Func.isWrapper; first | (rw [if_pos (by decide +kernel)]; kernel_rfl) | (rw [if_neg (by decide +kernel)]; exact ⟨rfl, rfl⟩))
    (fun os started H enc _ => lassoExamples_lifted os started H enc)

theorem lassoExamples_proved : Rows.LassoExamplesSaid := lassoExamples_over
#print axioms lassoExamples_proved
end Go.Proofs.Ythbgkdjnakeagaa
