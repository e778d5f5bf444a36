/- The union of two automata accepts exactly the words that one of the two accepts: for all automata and words, without conditions. -/
import Derived.Test.YtbfnjdhafgnlnaaAN17
import Derived.Test.YtbfnjdhafgnlnaaAOk
import Derived.Test.YtbfnjdhafgnlnaaRows
namespace Go.Proofs.Ytbfnjdhafgnlnaa
open Go.ChangeShapes Go.WideShapes Go.ChangeAt Go.RowKit Go.Abs Go.Abs.Nfa

theorem xL0 : ownKnob Try.prog.godebug = none := by kernel_rfl
theorem xLp : laidOutB Try.prog = true := by kernel_rfl
theorem xL1 : (Try.f6.params.toList.all fun t => Try.prog.readableRec t && decide (t < Try.prog.types.size)) = true := by kernel_rfl
theorem xKL : Try.f6.params.toList.map (xTJ Try.prog 20) = ([xTs, xTs, xTH] : List TS).map some := by kernel_rfl

set_option maxRecDepth 100000 in
theorem xKy (os : Os) (started : os.Started) (H : Type) (enc : TypeId × Value → H) :
    ReturnsInHanded {} Try.checked os 6 .any (Rows.nfaUnionsSpec.pre6 enc Try.prog Try.f6 Rows.nfaUnionsRow.domain false) (Rows.nfaUnionsSpec.post enc Try.prog Try.f6 false true false false) := by
  refine xPi (C := Try.checked) (d := 20) xL0 started (by kernel_rfl) Try.func6
    (ChangeSpec.witness6 (enc := enc) (C := Try.checked) false ⟨#[], #[.agg #[.int .i64 0, .int .i64 0, .slice none 0 0, .slice none 0 0, .slice none 0 0], .agg #[.int .i64 0, .int .i64 0, .slice none 0 0, .slice none 0 0, .slice none 0 0], .slice none 0 0], []⟩ 8 (by kernel_rfl) (by kernel_rfl) (by kernel_rfl) (by kernel_rfl))
    Nfa.progOk xLp ?_ xKL rfl ?_ (tb := Try.f6.resultTypes[0]!) (by kernel_rfl) (by kernel_rfl) Nfa.law6
  · intro t ht
    have := List.all_eq_true.1 xL1 t ht
    simp only [Bool.and_eq_true, decide_eq_true_eq] at this
    exact this
  · intro ds hds
    match ds, hds with
    | [_, _, _], _ => rfl

theorem xLq : Rows.nfaUnionsRow.holds Try.pinned (OpenSpec.ofChange Rows.nfaUnionsSpec) :=
  OpenClaim.holds_of_wide 6 Try.f6 rfl rfl rfl rfl rfl rfl rfl ⟨rfl, rfl, rfl, rfl, rfl⟩ rfl rfl rfl rfl rfl (by kernel_rfl) Try.func6 (by kernel_rfl)
    (of_decide_eq_true (by kernel_rfl)) (by unfold Func.isWrapper; first | (rw [if_pos (by decide +kernel)]; kernel_rfl) | (rw [if_neg (by decide +kernel)]; exact ⟨rfl, rfl⟩))
    (fun os started H enc _ => xKy os started H enc)

theorem nfaUnions_proved : Rows.NfaUnionsSaid := xLq
#print axioms nfaUnions_proved
end Go.Proofs.Ytbfnjdhafgnlnaa
