/- Check,Run,Accepts,Renumber,Classes,Minimize and ToNFA return what the reference returns (TreedetMatches),without conditions. -/
import Derived.Test.YtdkbhidfiplncaaAV7
import Derived.Test.YtdkbhidfiplncaaAOk
import Derived.Test.YtdkbhidfiplncaaRows
namespace Go.Proofs.Ytdkbhidfiplncaa
open Go.ChangeShapes Go.WideShapes Go.ChangeAt Go.RowKit Go.Abs Go.Abs.Det
theorem xEG : ownKnob Try.prog.godebug = none := by kernel_rfl
theorem xEp : laidOutB Try.prog = true := by kernel_rfl
theorem xEH : (Try.f3.params.toList.all fun t => Try.prog.readableRec t && decide (t < Try.prog.types.size)) = true := by kernel_rfl
theorem xEa : Try.f3.params.toList.map (yGw Try.prog 20) = ([yIj,TTr] : List TS).map some := by kernel_rfl
set_option maxRecDepth 100000 in
theorem xDo (os : Os) (started : os.Started) (H : Type) (enc : TypeId × Value → H) :
  ReturnsInHanded {} Try.checked os 3 .any (Rows.treedetMatchesSpec.pre6 enc Try.prog Try.f3 Rows.treedetMatchesRow.domain false) (Rows.treedetMatchesSpec.post enc Try.prog Try.f3 false true false false) := by
 refine xVf (C := Try.checked) (d := 20) xEG started (by kernel_rfl) Try.func3
  (ChangeSpec.witness6 (enc := enc) (C := Try.checked) false ⟨#[],#[.agg #[.int .i64 0,.int .i64 0,.slice none 0 0,.slice none 0 0],.slice none 0 0],[]⟩ 8 (by kernel_rfl) (by kernel_rfl) (by kernel_rfl) (by kernel_rfl))
  Det.progOk xEp ?_ xEa rfl ?_ (hnog := fun _ => rfl) (tb := Try.f3.resultTypes[0]!) (by kernel_rfl) (by kernel_rfl) Det.law3t
 ·intro t ht
  have := List.all_eq_true.1 xEH t ht
  simp only [Bool.and_eq_true,decide_eq_true_eq] at this
  exact this
 ·intro ds hds
  match ds,hds with
  | [_,_],_ => rfl
theorem xEq : Rows.treedetMatchesRow.holds Try.pinned (OpenSpec.ofChange Rows.treedetMatchesSpec) :=
 OpenClaim.holds_of_wide 3 Try.f3 rfl rfl rfl rfl rfl rfl rfl ⟨rfl,rfl,rfl,rfl,rfl⟩ rfl rfl rfl rfl rfl (by kernel_rfl) Try.func3 (by kernel_rfl)
  (of_decide_eq_true (by kernel_rfl)) (by unfold Func.isWrapper; first | (rw [if_pos (by decide +kernel)]; kernel_rfl) | (rw [if_neg (by decide +kernel)]; exact ⟨rfl,rfl⟩))
  (fun os started H enc _ => xDo os started H enc)
theorem treedetMatches_proved : Rows.TreedetMatchesSaid := xEq
#print axioms treedetMatches_proved
end Go.Proofs.Ytdkbhidfiplncaa
