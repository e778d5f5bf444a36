/- TreeautExamples returns true in every world that the statement allows: the examples' automata,odd ones and long ones,pass TreeautMatches and TreeautUnionMatches. -/
import Derived.Test.YtijmhicopfphnaaDoorAE6
import Derived.Test.YtijmhicopfphnaaDoorAOk
import Derived.Test.YtijmhicopfphnaaDoorAbsGlob
import Derived.Test.YtijmhicopfphnaaDoorCards
import Derived.Test.YtijmhicopfphnaaDoorTie
import Derived.ProofKit
import Derived.LaidMore
import Derived.Lay
import Derived.Stop.Joined
import Derived.SevenTiedAt
namespace Go.Proofs.YtijmhicopfphnaaDoor
open Go.ChangeShapes Go.WideShapes Go.ChangeAt Go.RowKit Go.Abs Go.Abs.Tree
theorem xLN : ownKnob Tryd.prog.godebug = none := by kernel_rfl
theorem xLz : laidOutB Tryd.prog = true := by kernel_rfl
theorem xLO : (Tryd.f5.params.toList.all fun t => Tryd.prog.readableRec t && decide (t < Tryd.prog.types.size)) = true := by kernel_rfl
theorem xKL : Tryd.f5.params.toList.map (yEm Tryd.prog 20) = ([] : List TS).map some := by kernel_rfl
theorem xKE (W : World) (_ : laidMetH Tryd.prog Rows.treeautExamplesRow.laid W) : GlobOk (xPP W) := by
 intro g cs hg
 cases (show (xVE g) = none from rfl).symm.trans hg
set_option maxRecDepth 100000 in
theorem xKF (os : Os) (started : os.Started) (H : Type) (enc : TypeId × Value → H) :
  ReturnsInHanded {} Tryd.checked os 5 .any (fun w args => (Rows.treeautExamplesSpec.pre enc Tryd.prog Tryd.f5 [] false w args ∧ laidMetH Tryd.prog Rows.treeautExamplesRow.laid w) ∧ sizedMet enc Tryd.prog Tryd.f5 (OpenSpec.ofChange Rows.treeautExamplesSpec) false w args) (Rows.treeautExamplesSpec.post enc Tryd.prog Tryd.f5 false true false false) := by
 refine xNw (C := Tryd.checked) (d := 20) (X := fun w => laidMetH Tryd.prog Rows.treeautExamplesRow.laid w) (fun _ _ hh h => h.of_heap hh) xKE xLN started (by kernel_rfl) Tryd.func5
  (ChangeSpec.witness_shaped (enc := enc) (C := Tryd.checked) (os := os) (X := fun w _ => laidMetH Tryd.prog Rows.treeautExamplesRow.laid w) false (World.laidAll Tryd.prog os Rows.treeautExamplesRow.laid) #[] 8 (World.laidAll_os _ _ _) (World.shaped_of_ZipB (by kernel_rfl) (by kernel_rfl)) (by kernel_rfl) (by kernel_rfl) (by kernel_rfl) (by rw [MakeChecks.laidMetH_plain _ _ _ (by kernel_rfl)]; exact laidMet_laidAll _ (by kernel_rfl) (by kernel_rfl)))
  Tree.progOk xLz ?_ xKL rfl ?_ (tb := Tryd.f5.resultTypes[0]!) (by kernel_rfl) (by kernel_rfl) (fun avs h _ => Tree.law5t avs h)
 ·intro t ht
  have := List.all_eq_true.1 xLO t ht
  simp only [Bool.and_eq_true,decide_eq_true_eq] at this
  exact this
 ·intro ds hds
  match ds,hds with
  | [],_ => rfl
theorem xLA : Rows.TreeautExamplesSaid :=
 OpenClaim.holds_of_wide 5 Tryd.f5 rfl rfl rfl rfl rfl rfl rfl ⟨rfl,rfl,rfl,rfl,rfl⟩ rfl rfl rfl rfl rfl (by kernel_rfl) Tryd.func5 (by kernel_rfl)
  (of_decide_eq_true (by kernel_rfl)) (by unfold Func.isWrapper; first | (rw [if_pos (by decide +kernel)]; kernel_rfl) | (rw [if_neg (by decide +kernel)]; exact ⟨rfl,rfl⟩))
  (fun os started H enc _ => xKF os started H enc)
theorem treeautExamples_card : Rows.TreeautExamplesCardSaid :=
 Claim7.holds_tied_plain_at .later [] [.data,.pinned] true (true, "d5f40ec9953343fff21912b0a4d02aa7b8904d070377a1d3ff130fb2d6a59821") false
  xLA (fun _ h => by cases h) (by kernel_rfl) (fun _ h => by cases h) treeautExamples_row_tie rfl ⟨rfl,rfl⟩ (by kernel_rfl) rfl
  (fun f fn hf hfn => by
   obtain rfl : f = 5 := Option.some.inj ((show Tryd.prog.funcNamed "sentinel/sentinellaw18.TreeautExamples" = some 5 by kernel_rfl).symm.trans hf) |>.symm
   obtain rfl : fn = Tryd.f5 := (Option.some.inj (Tryd.func5.symm.trans hfn)).symm
   exact ⟨by kernel_rfl,fun j t ht => by
    have hall : (Tryd.f5.params.toList.all fun u => !Tryd.prog.wantsStandIn u) = true := by kernel_rfl
    have hm : t ∈ Tryd.f5.params.toList := by
     rw [← Array.getElem?_toList] at ht
     exact List.mem_of_getElem? ht
    exact (show Tryd.prog.wantsStandIn t = false by simpa using List.all_eq_true.1 hall t hm)⟩)
  (by kernel_rfl)
#print axioms treeautExamples_card
end Go.Proofs.YtijmhicopfphnaaDoor
