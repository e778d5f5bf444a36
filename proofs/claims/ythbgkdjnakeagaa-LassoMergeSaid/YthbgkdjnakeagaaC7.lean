/- The law LassoMerge returns true for every input, and its arguments read afterwards as they read before; no condition. -/
import Derived.Test.YthbgkdjnakeagaaAW15
import Derived.Test.YthbgkdjnakeagaaAOk
import Derived.Test.YthbgkdjnakeagaaRows
namespace Go.Proofs.Ythbgkdjnakeagaa
open Go.ChangeShapes Go.WideShapes Go.ChangeAt Go.RowKit Go.Abs Go.Abs.Lasso

theorem lassoMerge_own : ownKnob Try.prog.godebug = none := by kernel_rfl
theorem lassoMerge_laid : laidOutB Try.prog = true := by kernel_rfl
theorem lassoMerge_rec : (Try.f7.params.toList.all fun t => Try.prog.readableRec t && decide (t < Try.prog.types.size)) = true := by kernel_rfl
theorem lassoMerge_types : Try.f7.params.toList.map (tyOf Try.prog 20) = ([TLas, TLas, TU8, TU8] : List TS).map some := by kernel_rfl

set_option maxRecDepth 100000 in
theorem lassoMerge_lifted (os : Os) (started : os.Started) (H : Type) (enc : TypeId × Value → H) :
    ReturnsInHanded {} Try.checked os 7 .any (Rows.lassoMergeSpec.pre6 enc Try.prog Try.f7 Rows.lassoMergeRow.domain false) (Rows.lassoMergeSpec.post enc Try.prog Try.f7 false true false false) := by
  refine law_lifted (C := Try.checked) (d := 20) lassoMerge_own started (by kernel_rfl) Try.func7
    (ChangeSpec.witness6 (enc := enc) (C := Try.checked) false ⟨#[], #[.agg #[.slice none 0 0, .slice none 0 0], .agg #[.slice none 0 0, .slice none 0 0], .int .u8 0, .int .u8 0], []⟩ 8 (by kernel_rfl) (by kernel_rfl) (by kernel_rfl) (by kernel_rfl))
    Lasso.progOk lassoMerge_laid ?_ lassoMerge_types rfl ?_ (tb := Try.f7.resultTypes[0]!) (by kernel_rfl) (by kernel_rfl) Lasso.law7
  · intro t ht
    have := List.all_eq_true.1 lassoMerge_rec t ht
    simp only [Bool.and_eq_true, decide_eq_true_eq] at this
    exact this
  · intro ds hds
    match ds, hds with
    | [_, _, _, _], _ => rfl

theorem lassoMerge_over : Rows.lassoMergeRow.holds Try.pinned (OpenSpec.ofChange Rows.lassoMergeSpec) :=
  OpenClaim.holds_of_wide 7 Try.f7 rfl rfl rfl rfl rfl rfl rfl ⟨rfl, rfl, rfl, rfl, rfl⟩ rfl rfl rfl rfl rfl (by kernel_rfl) Try.func7 (by kernel_rfl)
    (of_decide_eq_true (by kernel_rfl)) (by unfold Func.isWrapper; first | (rw [if_pos (by decide +kernel)]; kernel_rfl) | (rw [if_neg (by decide +kernel)]; exact ⟨rfl, rfl⟩))
    (fun os started H enc _ => lassoMerge_lifted os started H enc)

theorem lassoMerge_proved : Rows.LassoMergeSaid := lassoMerge_over
#print axioms lassoMerge_proved
end Go.Proofs.Ythbgkdjnakeagaa
