/- Determinizing the nondeterministic version of a tree automaton yields the renumbered automaton (TreedetBack), without conditions. -/
import Derived.Test.YtdkbhidfiplncaaAC12
import Derived.Test.YtdkbhidfiplncaaAOk
import Derived.Test.YtdkbhidfiplncaaRows
namespace Go.Proofs.Ytdkbhidfiplncaa
open Go.ChangeShapes Go.WideShapes Go.ChangeAt Go.RowKit Go.Abs Go.Abs.Det

theorem xH1 : ownKnob Try.prog.godebug = none := by kernel_rfl
theorem xHG : laidOutB Try.prog = true := by kernel_rfl
theorem xH2 : (Try.f9.params.toList.all fun t => Try.prog.readableRec t && decide (t < Try.prog.types.size)) = true := by kernel_rfl
theorem xG0 : Try.f9.params.toList.map (yAS Try.prog 20) = ([yDm, TTr] : List TS).map some := by kernel_rfl

set_option maxRecDepth 100000 in
theorem xGs (os : Os) (started : os.Started) (H : Type) (enc : TypeId × Value → H) :
    ReturnsInHanded {} Try.checked os 9 .any (Rows.treedetBackSpec.pre6 enc Try.prog Try.f9 Rows.treedetBackRow.domain false) (Rows.treedetBackSpec.post enc Try.prog Try.f9 false true false false) := by
  refine xQf (C := Try.checked) (d := 20) xH1 started (by kernel_rfl) Try.func9
    (ChangeSpec.witness6 (enc := enc) (C := Try.checked) false ⟨#[], #[.agg #[.int .i64 0, .int .i64 0, .slice none 0 0, .slice none 0 0], .slice none 0 0], []⟩ 8 (by kernel_rfl) (by kernel_rfl) (by kernel_rfl) (by kernel_rfl))
    Det.progOk xHG ?_ xG0 rfl ?_ (hnog := fun _ => rfl) (tb := Try.f9.resultTypes[0]!) (by kernel_rfl) (by kernel_rfl) Det.law9t
  · intro t ht
    have := List.all_eq_true.1 xH2 t ht
    simp only [Bool.and_eq_true, decide_eq_true_eq] at this
    exact this
  · intro ds hds
    match ds, hds with
    | [_, _], _ => rfl

theorem xHH : Rows.treedetBackRow.holds Try.pinned (OpenSpec.ofChange Rows.treedetBackSpec) :=
  OpenClaim.holds_of_wide 9 Try.f9 rfl rfl rfl rfl rfl rfl rfl ⟨rfl, rfl, rfl, rfl, rfl⟩ rfl rfl rfl rfl rfl (by kernel_rfl) Try.func9 (by kernel_rfl)
    (of_decide_eq_true (by kernel_rfl)) (by unfold Func.isWrapper; first | (rw [if_pos (by decide +kernel)]; kernel_rfl) | (rw [if_neg (by decide +kernel)]; exact ⟨rfl, rfl⟩))
    (fun os started H enc _ => xGs os started H enc)

theorem treedetBack_proved : Rows.TreedetBackSaid := xHH
#print axioms treedetBack_proved
end Go.Proofs.Ytdkbhidfiplncaa
