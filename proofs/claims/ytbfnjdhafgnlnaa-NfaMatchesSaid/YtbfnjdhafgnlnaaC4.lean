/- The law NfaMatches returns true for every input, and its arguments read afterwards as they read before; no condition. -/
import Derived.Test.YtbfnjdhafgnlnaaAM15
import Derived.Test.YtbfnjdhafgnlnaaAOk
import Derived.Test.YtbfnjdhafgnlnaaRows
namespace Go.Proofs.Ytbfnjdhafgnlnaa
open Go.ChangeShapes Go.WideShapes Go.ChangeAt Go.RowKit Go.Abs Go.Abs.Nfa

theorem nfaMatches_own : ownKnob Try.prog.godebug = none := by kernel_rfl
theorem nfaMatches_laid : laidOutB Try.prog = true := by kernel_rfl
theorem nfaMatches_rec : (Try.f4.params.toList.all fun t => Try.prog.readableRec t && decide (t < Try.prog.types.size)) = true := by kernel_rfl
theorem nfaMatches_types : Try.f4.params.toList.map (tyOf Try.prog 20) = ([TNfa, TSet, TU8, TWord] : List TS).map some := by kernel_rfl

set_option maxRecDepth 100000 in
theorem nfaMatches_lifted (os : Os) (started : os.Started) (H : Type) (enc : TypeId × Value → H) :
    ReturnsInHanded {} Try.checked os 4 .any (Rows.nfaMatchesSpec.pre6 enc Try.prog Try.f4 Rows.nfaMatchesRow.domain false) (Rows.nfaMatchesSpec.post enc Try.prog Try.f4 false true false false) := by
  refine law_lifted (C := Try.checked) (d := 20) nfaMatches_own started (by kernel_rfl) Try.func4
    (ChangeSpec.witness6 (enc := enc) (C := Try.checked) false ⟨#[], #[.agg #[.int .i64 0, .int .i64 0, .slice none 0 0, .slice none 0 0, .slice none 0 0], .slice none 0 0, .int .u8 0, .slice none 0 0], []⟩ 8 (by kernel_rfl) (by kernel_rfl) (by kernel_rfl) (by kernel_rfl))
    Nfa.progOk nfaMatches_laid ?_ nfaMatches_types rfl ?_ (hnog := fun _ => rfl) (tb := Try.f4.resultTypes[0]!) (by kernel_rfl) (by kernel_rfl) Nfa.law4
  · intro t ht
    have := List.all_eq_true.1 nfaMatches_rec t ht
    simp only [Bool.and_eq_true, decide_eq_true_eq] at this
    exact this
  · intro ds hds
    match ds, hds with
    | [_, _, _, _], _ => rfl

theorem nfaMatches_over : Rows.nfaMatchesRow.holds Try.pinned (OpenSpec.ofChange Rows.nfaMatchesSpec) :=
  OpenClaim.holds_of_wide 4 Try.f4 rfl rfl rfl rfl rfl rfl rfl ⟨rfl, rfl, rfl, rfl, rfl⟩ rfl rfl rfl rfl rfl (by kernel_rfl) Try.func4 (by kernel_rfl)
    (of_decide_eq_true (by kernel_rfl)) (by unfold Func.isWrapper; first | (rw [if_pos (by decide +kernel)]; kernel_rfl) | (rw [if_neg (by decide +kernel)]; exact ⟨rfl, rfl⟩))
    (fun os started H enc _ => nfaMatches_lifted os started H enc)

theorem nfaMatches_proved : Rows.NfaMatchesSaid := nfaMatches_over
#print axioms nfaMatches_proved
end Go.Proofs.Ytbfnjdhafgnlnaa
