/- The law NfaReverses returns true for every input, and its arguments read afterwards as they read before; no condition. -/
import Derived.Test.YtbfnjdhafgnlnaaAN8
import Derived.Test.YtbfnjdhafgnlnaaAOk
import Derived.Test.YtbfnjdhafgnlnaaRows
namespace Go.Proofs.Ytbfnjdhafgnlnaa
open Go.ChangeShapes Go.WideShapes Go.ChangeAt Go.RowKit Go.Abs Go.Abs.Nfa

theorem nfaReverses_own : ownKnob Try.prog.godebug = none := by kernel_rfl
theorem nfaReverses_laid : laidOutB Try.prog = true := by kernel_rfl
theorem nfaReverses_rec : (Try.f3.params.toList.all fun t => Try.prog.readableRec t && decide (t < Try.prog.types.size)) = true := by kernel_rfl
theorem nfaReverses_types : Try.f3.params.toList.map (tyOf Try.prog 20) = ([TNfa, TWord] : List TS).map some := by kernel_rfl

set_option maxRecDepth 100000 in
theorem nfaReverses_lifted (os : Os) (started : os.Started) (H : Type) (enc : TypeId × Value → H) :
    ReturnsInHanded {} Try.checked os 3 .any (Rows.nfaReversesSpec.pre6 enc Try.prog Try.f3 Rows.nfaReversesRow.domain false) (Rows.nfaReversesSpec.post enc Try.prog Try.f3 false true false false) := by
  refine law_lifted (C := Try.checked) (d := 20) nfaReverses_own started (by kernel_rfl) Try.func3
    (ChangeSpec.witness6 (enc := enc) (C := Try.checked) false ⟨#[], #[.agg #[.int .i64 0, .int .i64 0, .slice none 0 0, .slice none 0 0, .slice none 0 0], .slice none 0 0], []⟩ 8 (by kernel_rfl) (by kernel_rfl) (by kernel_rfl) (by kernel_rfl))
    Nfa.progOk nfaReverses_laid ?_ nfaReverses_types rfl ?_ (tb := Try.f3.resultTypes[0]!) (by kernel_rfl) (by kernel_rfl) Nfa.law3
  · intro t ht
    have := List.all_eq_true.1 nfaReverses_rec t ht
    simp only [Bool.and_eq_true, decide_eq_true_eq] at this
    exact this
  · intro ds hds
    match ds, hds with
    | [_, _], _ => rfl

theorem nfaReverses_over : Rows.nfaReversesRow.holds Try.pinned (OpenSpec.ofChange Rows.nfaReversesSpec) :=
  OpenClaim.holds_of_wide 3 Try.f3 rfl rfl rfl rfl rfl rfl rfl ⟨rfl, rfl, rfl, rfl, rfl⟩ rfl rfl rfl rfl rfl (by kernel_rfl) Try.func3 (by kernel_rfl)
    (of_decide_eq_true (by kernel_rfl)) (by unfold Func.isWrapper; first | (rw [if_pos (by decide +kernel)]; kernel_rfl) | (rw [if_neg (by decide +kernel)]; exact ⟨rfl, rfl⟩))
    (fun os started H enc _ => nfaReverses_lifted os started H enc)

theorem nfaReverses_proved : Rows.NfaReversesSaid := nfaReverses_over
#print axioms nfaReverses_proved
end Go.Proofs.Ytbfnjdhafgnlnaa
