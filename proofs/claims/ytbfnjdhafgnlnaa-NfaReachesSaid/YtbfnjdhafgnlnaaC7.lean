/- The law NfaReaches returns true for every input, and its argument reads afterwards as it read before; no condition. -/
import Derived.Test.YtbfnjdhafgnlnaaAN11
import Derived.Test.YtbfnjdhafgnlnaaAOk
import Derived.Test.YtbfnjdhafgnlnaaRows
namespace Go.Proofs.Ytbfnjdhafgnlnaa
open Go.ChangeShapes Go.WideShapes Go.ChangeAt Go.RowKit Go.Abs Go.Abs.Nfa

theorem nfaReaches_own : ownKnob Try.prog.godebug = none := by kernel_rfl
theorem nfaReaches_laid : laidOutB Try.prog = true := by kernel_rfl
theorem nfaReaches_rec : (Try.f7.params.toList.all fun t => Try.prog.readableRec t && decide (t < Try.prog.types.size)) = true := by kernel_rfl
theorem nfaReaches_types : Try.f7.params.toList.map (tyOf Try.prog 20) = ([TNfa] : List TS).map some := by kernel_rfl

set_option maxRecDepth 100000 in
theorem nfaReaches_lifted (os : Os) (started : os.Started) (H : Type) (enc : TypeId × Value → H) :
    ReturnsInHanded {} Try.checked os 7 .any (Rows.nfaReachesSpec.pre6 enc Try.prog Try.f7 Rows.nfaReachesRow.domain false) (Rows.nfaReachesSpec.post enc Try.prog Try.f7 false true false false) := by
  refine law_lifted (C := Try.checked) (d := 20) nfaReaches_own started (by kernel_rfl) Try.func7
    (ChangeSpec.witness6 (enc := enc) (C := Try.checked) false ⟨#[], #[.agg #[.int .i64 0, .int .i64 0, .slice none 0 0, .slice none 0 0, .slice none 0 0]], []⟩ 8 (by kernel_rfl) (by kernel_rfl) (by kernel_rfl) (by kernel_rfl))
    Nfa.progOk nfaReaches_laid ?_ nfaReaches_types rfl ?_ (tb := Try.f7.resultTypes[0]!) (by kernel_rfl) (by kernel_rfl) Nfa.law7
  · intro t ht
    have := List.all_eq_true.1 nfaReaches_rec t ht
    simp only [Bool.and_eq_true, decide_eq_true_eq] at this
    exact this
  · intro ds hds
    match ds, hds with
    | [_], _ => rfl

theorem nfaReaches_over : Rows.nfaReachesRow.holds Try.pinned (OpenSpec.ofChange Rows.nfaReachesSpec) :=
  OpenClaim.holds_of_wide 7 Try.f7 rfl rfl rfl rfl rfl rfl rfl ⟨rfl, rfl, rfl, rfl, rfl⟩ rfl rfl rfl rfl rfl (by kernel_rfl) Try.func7 (by kernel_rfl)
    (of_decide_eq_true (by kernel_rfl)) (by unfold Func.isWrapper; first | (rw [if_pos (by decide +kernel)]; kernel_rfl) | (rw [if_neg (by decide +kernel)]; exact ⟨rfl, rfl⟩))
    (fun os started H enc _ => nfaReaches_lifted os started H enc)

theorem nfaReaches_proved : Rows.NfaReachesSaid := nfaReaches_over
#print axioms nfaReaches_proved
end Go.Proofs.Ytbfnjdhafgnlnaa
