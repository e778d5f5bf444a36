/- The law NfaSteps returns true for every input, and its arguments read afterwards as they read before; no condition. -/
import Derived.Test.YtbfnjdhafgnlnaaAN9
import Derived.Test.YtbfnjdhafgnlnaaAOk
import Derived.Test.YtbfnjdhafgnlnaaAbsLaw2
import Derived.Test.YtbfnjdhafgnlnaaRows
namespace Go.Proofs.Ytbfnjdhafgnlnaa
open Go.ChangeShapes Go.WideShapes Go.ChangeAt Go.RowKit Go.Abs Go.Abs.Nfa

theorem nfaSteps_own : ownKnob Try.prog.godebug = none := by kernel_rfl
theorem nfaSteps_laid : laidOutB Try.prog = true := by kernel_rfl
theorem nfaSteps_rec : (Try.f5.params.toList.all fun t => Try.prog.readableRec t && decide (t < Try.prog.types.size)) = true := by kernel_rfl
theorem nfaSteps_types : Try.f5.params.toList.map (tyOf Try.prog 20) = ([TNfa, TSet, TSet, TU8, TWord, TWord] : List TS).map some := by kernel_rfl

set_option maxRecDepth 100000 in
theorem nfaSteps_lifted (os : Os) (started : os.Started) (H : Type) (enc : TypeId × Value → H) :
    ReturnsInHanded {} Try.checked os 5 .any (Rows.nfaStepsSpec.pre6 enc Try.prog Try.f5 Rows.nfaStepsRow.domain false) (Rows.nfaStepsSpec.post enc Try.prog Try.f5 false true false false) := by
  refine law_lifted_sized (C := Try.checked) (d := 20) nfaSteps_own started (by kernel_rfl) Try.func5
    (ChangeSpec.witness6 (enc := enc) (C := Try.checked) false ⟨#[], #[.agg #[.int .i64 0, .int .i64 0, .slice none 0 0, .slice none 0 0, .slice none 0 0], .slice none 0 0, .slice none 0 0, .int .u8 0, .slice none 0 0, .slice none 0 0], []⟩ 8 (by kernel_rfl) (by kernel_rfl) (by kernel_rfl) (by kernel_rfl))
    Nfa.progOk nfaSteps_laid ?_ nfaSteps_types rfl ?_ (tb := Try.f5.resultTypes[0]!) (by kernel_rfl) (by kernel_rfl) (fun avs h hs => Nfa.law5 avs h (hs.len 4 (by kernel_rfl)) (hs.len 5 (by kernel_rfl)))
  · intro t ht
    have := List.all_eq_true.1 nfaSteps_rec t ht
    simp only [Bool.and_eq_true, decide_eq_true_eq] at this
    exact this
  · intro ds hds
    match ds, hds with
    | [_, _, _, _, _, _], _ => rfl

theorem nfaSteps_over : Rows.nfaStepsRow.holds Try.pinned (OpenSpec.ofChange Rows.nfaStepsSpec) :=
  OpenClaim.holds_of_wide 5 Try.f5 rfl rfl rfl rfl rfl rfl rfl ⟨rfl, rfl, rfl, rfl, rfl⟩ rfl rfl rfl rfl rfl (by kernel_rfl) Try.func5 (by kernel_rfl)
    (of_decide_eq_true (by kernel_rfl)) (by unfold Func.isWrapper; first | (rw [if_pos (by decide +kernel)]; kernel_rfl) | (rw [if_neg (by decide +kernel)]; exact ⟨rfl, rfl⟩))
    (fun os started H enc _ => nfaSteps_lifted os started H enc)

theorem nfaSteps_proved : Rows.NfaStepsSaid := nfaSteps_over
#print axioms nfaSteps_proved
end Go.Proofs.Ytbfnjdhafgnlnaa
