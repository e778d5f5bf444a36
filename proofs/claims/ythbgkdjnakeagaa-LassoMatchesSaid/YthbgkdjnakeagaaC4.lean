/- The law LassoMatches returns true for every input, and its arguments read afterwards as they read before; no condition. -/
import Derived.Test.YthbgkdjnakeagaaAW25
import Derived.Test.YthbgkdjnakeagaaAOk
import Derived.Test.YthbgkdjnakeagaaRows
namespace Go.Proofs.Ythbgkdjnakeagaa
open Go.ChangeShapes Go.WideShapes Go.ChangeAt Go.RowKit Go.Abs Go.Abs.Lasso

theorem lassoMatches_own : ownKnob Try.prog.godebug = none := by kernel_rfl
theorem lassoMatches_laid : laidOutB Try.prog = true := by kernel_rfl
theorem lassoMatches_rec : (Try.f4.params.toList.all fun t => Try.prog.readableRec t && decide (t < Try.prog.types.size)) = true := by kernel_rfl
theorem lassoMatches_types : Try.f4.params.toList.map (tyOf Try.prog 20) = ([TLas, TI64, TI64, TI64] : List TS).map some := by kernel_rfl

set_option maxRecDepth 100000 in
theorem lassoMatches_lifted (os : Os) (started : os.Started) (H : Type) (enc : TypeId × Value → H) :
    ReturnsInHanded {} Try.checked os 4 .any (Rows.lassoMatchesSpec.pre6 enc Try.prog Try.f4 Rows.lassoMatchesRow.domain false) (Rows.lassoMatchesSpec.post enc Try.prog Try.f4 false true false false) := by
  refine law_lifted (C := Try.checked) (d := 20) lassoMatches_own started (by kernel_rfl) Try.func4
    (ChangeSpec.witness6 (enc := enc) (C := Try.checked) false ⟨#[], #[.agg #[.slice none 0 0, .slice none 0 0], .int .i64 0, .int .i64 0, .int .i64 0], []⟩ 8 (by kernel_rfl) (by kernel_rfl) (by kernel_rfl) (by kernel_rfl))
    Lasso.progOk lassoMatches_laid ?_ lassoMatches_types rfl ?_ (hnog := fun _ => rfl) (tb := Try.f4.resultTypes[0]!) (by kernel_rfl) (by kernel_rfl) Lasso.law4
  · intro t ht
    have := List.all_eq_true.1 lassoMatches_rec t ht
    simp only [Bool.and_eq_true, decide_eq_true_eq] at this
    exact this
  · intro ds hds
    match ds, hds with
    | [_, _, _, _], _ => rfl

theorem lassoMatches_over : Rows.lassoMatchesRow.holds Try.pinned (OpenSpec.ofChange Rows.lassoMatchesSpec) :=
  OpenClaim.holds_of_wide 4 Try.f4 rfl rfl rfl rfl rfl rfl rfl ⟨rfl, rfl, rfl, rfl, rfl⟩ rfl rfl rfl rfl rfl (by kernel_rfl) Try.func4 (by kernel_rfl)
    (of_decide_eq_true (by kernel_rfl)) (by unfold Func.isWrapper; first | (rw [if_pos (by decide +kernel)]; kernel_rfl) | (rw [if_neg (by decide +kernel)]; exact ⟨rfl, rfl⟩))
    (fun os started H enc _ => lassoMatches_lifted os started H enc)

theorem lassoMatches_proved : Rows.LassoMatchesSaid := lassoMatches_over
#print axioms lassoMatches_proved
end Go.Proofs.Ythbgkdjnakeagaa
