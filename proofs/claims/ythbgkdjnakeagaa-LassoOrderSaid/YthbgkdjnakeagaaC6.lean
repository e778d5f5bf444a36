/- The law LassoOrder returns true for every input, and its arguments read afterwards as they read before; no condition. -/
import Derived.Test.YthbgkdjnakeagaaAW14
import Derived.Test.YthbgkdjnakeagaaAOk
import Derived.Test.YthbgkdjnakeagaaRows
namespace Go.Proofs.Ythbgkdjnakeagaa
open Go.ChangeShapes Go.WideShapes Go.ChangeAt Go.RowKit Go.Abs Go.Abs.Lasso

theorem lassoOrder_own : ownKnob Try.prog.godebug = none := by kernel_rfl
theorem lassoOrder_laid : laidOutB Try.prog = true := by kernel_rfl
theorem lassoOrder_rec : (Try.f6.params.toList.all fun t => Try.prog.readableRec t && decide (t < Try.prog.types.size)) = true := by kernel_rfl
theorem lassoOrder_types : Try.f6.params.toList.map (tyOf Try.prog 20) = ([TLas, TLas, TLas, TWord] : List TS).map some := by kernel_rfl

set_option maxRecDepth 100000 in
theorem lassoOrder_lifted (os : Os) (started : os.Started) (H : Type) (enc : TypeId × Value → H) :
    ReturnsInHanded {} Try.checked os 6 .any (Rows.lassoOrderSpec.pre6 enc Try.prog Try.f6 Rows.lassoOrderRow.domain false) (Rows.lassoOrderSpec.post enc Try.prog Try.f6 false true false false) := by
  refine law_lifted (C := Try.checked) (d := 20) lassoOrder_own started (by kernel_rfl) Try.func6
    (ChangeSpec.witness6 (enc := enc) (C := Try.checked) false ⟨#[], #[.agg #[.slice none 0 0, .slice none 0 0], .agg #[.slice none 0 0, .slice none 0 0], .agg #[.slice none 0 0, .slice none 0 0], .slice none 0 0], []⟩ 8 (by kernel_rfl) (by kernel_rfl) (by kernel_rfl) (by kernel_rfl))
    Lasso.progOk lassoOrder_laid ?_ lassoOrder_types rfl ?_ (tb := Try.f6.resultTypes[0]!) (by kernel_rfl) (by kernel_rfl) Lasso.law6
  · intro t ht
    have := List.all_eq_true.1 lassoOrder_rec t ht
    simp only [Bool.and_eq_true, decide_eq_true_eq] at this
    exact this
  · intro ds hds
    match ds, hds with
    | [_, _, _, _], _ => rfl

theorem lassoOrder_over : Rows.lassoOrderRow.holds Try.pinned (OpenSpec.ofChange Rows.lassoOrderSpec) :=
  OpenClaim.holds_of_wide 6 Try.f6 rfl rfl rfl rfl rfl rfl rfl ⟨rfl, rfl, rfl, rfl, rfl⟩ rfl rfl rfl rfl rfl (by kernel_rfl) Try.func6 (by kernel_rfl)
    (of_decide_eq_true (by kernel_rfl)) (by unfold Func.isWrapper; first | (rw [if_pos (by decide +kernel)]; kernel_rfl) | (rw [if_neg (by decide +kernel)]; exact ⟨rfl, rfl⟩))
    (fun os started H enc _ => lassoOrder_lifted os started H enc)

theorem lassoOrder_proved : Rows.LassoOrderSaid := lassoOrder_over
#print axioms lassoOrder_proved
end Go.Proofs.Ythbgkdjnakeagaa
