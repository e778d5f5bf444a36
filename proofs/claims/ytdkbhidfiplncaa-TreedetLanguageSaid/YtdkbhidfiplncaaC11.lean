/- A nondeterministic tree automaton and its subset automaton accept the same trees (TreedetLanguage), without conditions. -/
import Derived.Test.YtdkbhidfiplncaaAC8
import Derived.Test.YtdkbhidfiplncaaAOk
import Derived.Test.YtdkbhidfiplncaaRows
namespace Go.Proofs.Ytdkbhidfiplncaa
open Go.ChangeShapes Go.WideShapes Go.ChangeAt Go.RowKit Go.Abs Go.Abs.Det

theorem xGh : ownKnob Try.prog.godebug = none := by kernel_rfl
theorem xF4 : laidOutB Try.prog = true := by kernel_rfl
theorem xGi : (Try.f11.params.toList.all fun t => Try.prog.readableRec t && decide (t < Try.prog.types.size)) = true := by kernel_rfl
theorem xFm : Try.f11.params.toList.map (xZC Try.prog 20) = ([yB6, TTr] : List TS).map some := by kernel_rfl

set_option maxRecDepth 100000 in
theorem xFh (os : Os) (started : os.Started) (H : Type) (enc : TypeId × Value → H) :
    ReturnsInHanded {} Try.checked os 11 .any (Rows.treedetLanguageSpec.pre6 enc Try.prog Try.f11 Rows.treedetLanguageRow.domain false) (Rows.treedetLanguageSpec.post enc Try.prog Try.f11 false true false false) := by
  refine xPm (C := Try.checked) (d := 20) xGh started (by kernel_rfl) Try.func11
    (ChangeSpec.witness6 (enc := enc) (C := Try.checked) false ⟨#[], #[.agg #[.int .i64 0, .int .i64 0, .slice none 0 0, .slice none 0 0, .slice none 0 0], .slice none 0 0], []⟩ 8 (by kernel_rfl) (by kernel_rfl) (by kernel_rfl) (by kernel_rfl))
    Det.progOk xF4 ?_ xFm rfl ?_ (hnog := fun _ => rfl) (tb := Try.f11.resultTypes[0]!) (by kernel_rfl) (by kernel_rfl) Det.law11t
  · intro t ht
    have := List.all_eq_true.1 xGi t ht
    simp only [Bool.and_eq_true, decide_eq_true_eq] at this
    exact this
  · intro ds hds
    match ds, hds with
    | [_, _], _ => rfl

theorem xF5 : Rows.treedetLanguageRow.holds Try.pinned (OpenSpec.ofChange Rows.treedetLanguageSpec) :=
  OpenClaim.holds_of_wide 11 Try.f11 rfl rfl rfl rfl rfl rfl rfl ⟨rfl, rfl, rfl, rfl, rfl⟩ rfl rfl rfl rfl rfl (by kernel_rfl) Try.func11 (by kernel_rfl)
    (of_decide_eq_true (by kernel_rfl)) (by unfold Func.isWrapper; first | (rw [if_pos (by decide +kernel)]; kernel_rfl) | (rw [if_neg (by decide +kernel)]; exact ⟨rfl, rfl⟩))
    (fun os started H enc _ => xFh os started H enc)

theorem treedetLanguage_proved : Rows.TreedetLanguageSaid := xF5
#print axioms treedetLanguage_proved
end Go.Proofs.Ytdkbhidfiplncaa
