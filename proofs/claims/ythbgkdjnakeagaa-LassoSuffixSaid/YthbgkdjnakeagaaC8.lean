/- The law LassoSuffix returns true for every input, and its arguments read afterwards as they read before; no condition. -/
import Derived.Test.YthbgkdjnakeagaaAW13
import Derived.Test.YthbgkdjnakeagaaAOk
import Derived.Test.YthbgkdjnakeagaaRows
namespace Go.Proofs.Ythbgkdjnakeagaa
open Go.ChangeShapes Go.WideShapes Go.ChangeAt Go.RowKit Go.Abs Go.Abs.Lasso

theorem lassoSuffix_own : ownKnob Try.prog.godebug = none := by kernel_rfl
theorem lassoSuffix_laid : laidOutB Try.prog = true := by kernel_rfl
theorem lassoSuffix_rec : (Try.f8.params.toList.all fun t => Try.prog.readableRec t && decide (t < Try.prog.types.size)) = true := by kernel_rfl
theorem lassoSuffix_types : Try.f8.params.toList.map (tyOf Try.prog 20) = ([TLas, TWord, TU8, TU8, TU8] : List TS).map some := by kernel_rfl

set_option maxRecDepth 100000 in
theorem lassoSuffix_lifted (os : Os) (started : os.Started) (H : Type) (enc : TypeId × Value → H) :
    ReturnsInHanded {} Try.checked os 8 .any (Rows.lassoSuffixSpec.pre6 enc Try.prog Try.f8 Rows.lassoSuffixRow.domain false) (Rows.lassoSuffixSpec.post enc Try.prog Try.f8 false true false false) := by
  refine law_lifted (C := Try.checked) (d := 20) lassoSuffix_own started (by kernel_rfl) Try.func8
    (ChangeSpec.witness6 (enc := enc) (C := Try.checked) false ⟨#[], #[.agg #[.slice none 0 0, .slice none 0 0], .slice none 0 0, .int .u8 0, .int .u8 0, .int .u8 0], []⟩ 8 (by kernel_rfl) (by kernel_rfl) (by kernel_rfl) (by kernel_rfl))
    Lasso.progOk lassoSuffix_laid ?_ lassoSuffix_types rfl ?_ (tb := Try.f8.resultTypes[0]!) (by kernel_rfl) (by kernel_rfl) Lasso.law8
  · intro t ht
    have := List.all_eq_true.1 lassoSuffix_rec t ht
    simp only [Bool.and_eq_true, decide_eq_true_eq] at this
    exact this
  · intro ds hds
    match ds, hds with
    | [_, _, _, _, _], _ => rfl

theorem lassoSuffix_over : Rows.lassoSuffixRow.holds Try.pinned (OpenSpec.ofChange Rows.lassoSuffixSpec) :=
  OpenClaim.holds_of_wide 8 Try.f8 rfl rfl rfl rfl rfl rfl rfl ⟨rfl, rfl, rfl, rfl, rfl⟩ rfl rfl rfl rfl rfl (by kernel_rfl) Try.func8 (by kernel_rfl)
    (of_decide_eq_true (by kernel_rfl)) (by unfold Func.isWrapper; first | (rw [if_pos (by decide +kernel)]; kernel_rfl) | (rw [if_neg (by decide +kernel)]; exact ⟨rfl, rfl⟩))
    (fun os started H enc _ => lassoSuffix_lifted os started H enc)

theorem lassoSuffix_proved : Rows.LassoSuffixSaid := lassoSuffix_over
#print axioms lassoSuffix_proved
end Go.Proofs.Ythbgkdjnakeagaa
