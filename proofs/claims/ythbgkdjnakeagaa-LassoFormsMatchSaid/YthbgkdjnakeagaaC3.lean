/- The law LassoFormsMatch returns true for every input, and its arguments read afterwards as they read before; no condition. -/
import Derived.Test.YthbgkdjnakeagaaAF16
import Derived.Test.YthbgkdjnakeagaaAOk
import Derived.Test.YthbgkdjnakeagaaRows
namespace Go.Proofs.Ythbgkdjnakeagaa
open Go.ChangeShapes Go.WideShapes Go.ChangeAt Go.RowKit Go.Abs Go.Abs.Lasso

theorem lassoFormsMatch_own : ownKnob Try.prog.godebug = none := by kernel_rfl
theorem lassoFormsMatch_laid : laidOutB Try.prog = true := by kernel_rfl
theorem lassoFormsMatch_rec : (Try.f3.params.toList.all fun t => Try.prog.readableRec t && decide (t < Try.prog.types.size)) = true := by kernel_rfl
theorem lassoFormsMatch_types : Try.f3.params.toList.map (tyOf Try.prog 20) = ([TLas, TI64, TWord, TU8] : List TS).map some := by kernel_rfl

set_option maxRecDepth 100000 in
theorem lassoFormsMatch_lifted (os : Os) (started : os.Started) (H : Type) (enc : TypeId × Value → H) :
    ReturnsInHanded {} Try.checked os 3 .any (Rows.lassoFormsMatchSpec.pre6 enc Try.prog Try.f3 Rows.lassoFormsMatchRow.domain false) (Rows.lassoFormsMatchSpec.post enc Try.prog Try.f3 false true false false) := by
  refine law_lifted (C := Try.checked) (d := 20) lassoFormsMatch_own started (by kernel_rfl) Try.func3
    (ChangeSpec.witness6 (enc := enc) (C := Try.checked) false ⟨#[], #[.agg #[.slice none 0 0, .slice none 0 0], .int .i64 0, .slice none 0 0, .int .u8 0], []⟩ 8 (by kernel_rfl) (by kernel_rfl) (by kernel_rfl) (by kernel_rfl))
    Lasso.progOk lassoFormsMatch_laid ?_ lassoFormsMatch_types rfl ?_ (hnog := fun _ => rfl) (tb := Try.f3.resultTypes[0]!) (by kernel_rfl) (by kernel_rfl) Lasso.law3
  · intro t ht
    have := List.all_eq_true.1 lassoFormsMatch_rec t ht
    simp only [Bool.and_eq_true, decide_eq_true_eq] at this
    exact this
  · intro ds hds
    match ds, hds with
    | [_, _, _, _], _ => rfl

theorem lassoFormsMatch_over : Rows.lassoFormsMatchRow.holds Try.pinned (OpenSpec.ofChange Rows.lassoFormsMatchSpec) :=
  OpenClaim.holds_of_wide 3 Try.f3 rfl rfl rfl rfl rfl rfl rfl ⟨rfl, rfl, rfl, rfl, rfl⟩ rfl rfl rfl rfl rfl (by kernel_rfl) Try.func3 (by kernel_rfl)
    (of_decide_eq_true (by kernel_rfl)) (by unfold Func.isWrapper; first | (rw [if_pos (by decide +kernel)]; kernel_rfl) | (rw [if_neg (by decide +kernel)]; exact ⟨rfl, rfl⟩))
    (fun os started H enc _ => lassoFormsMatch_lifted os started H enc)

theorem lassoFormsMatch_proved : Rows.LassoFormsMatchSaid := lassoFormsMatch_over
#print axioms lassoFormsMatch_proved
end Go.Proofs.Ythbgkdjnakeagaa
