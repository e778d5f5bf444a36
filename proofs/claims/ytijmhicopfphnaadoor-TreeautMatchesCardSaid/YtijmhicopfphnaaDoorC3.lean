/- TreeautMatches returns true for every automaton and tree and every world that the statement allows: Check,States,Accepts,Reachable and Trim return what the reference returns,leave their arguments alone,and their results may be overwritten. -/
import Derived.Test.YtijmhicopfphnaaDoorAD5
import Derived.Test.YtijmhicopfphnaaDoorAOk
import Derived.Test.YtijmhicopfphnaaDoorAbsGlob
import Derived.Test.YtijmhicopfphnaaDoorCards
import Derived.Test.YtijmhicopfphnaaDoorTie
import Derived.ProofKit
import Derived.LaidMore
import Derived.Lay
import Derived.Stop.Joined
import Derived.SevenTiedAt
namespace Go.Proofs.YtijmhicopfphnaaDoor
open Go.ChangeShapes Go.WideShapes Go.ChangeAt Go.RowKit Go.Abs Go.Abs.Tree
theorem xFN : ownKnob Tryd.prog.godebug = none := by kernel_rfl
theorem xFA : laidOutB Tryd.prog = true := by kernel_rfl
theorem xFO : (Tryd.f3.params.toList.all fun t => Tryd.prog.readableRec t && decide (t < Tryd.prog.types.size)) = true := by kernel_rfl
theorem xFn : Tryd.f3.params.toList.map (yDh Tryd.prog 20) = ([yFM,yEz] : List TS).map some := by kernel_rfl
theorem xEw (W : World) (_ : laidMetH Tryd.prog Rows.treeautMatchesRow.laid W) : GlobOk (xLX W) := by
 intro g cs hg
 cases (show (xTR g) = none from rfl).symm.trans hg
set_option maxRecDepth 100000 in
theorem xEx (os : Os) (started : os.Started) (H : Type) (enc : TypeId × Value → H) :
  ReturnsInHanded {} Tryd.checked os 3 .any (fun w args => (Rows.treeautMatchesSpec.pre enc Tryd.prog Tryd.f3 [] false w args ∧ laidMetH Tryd.prog Rows.treeautMatchesRow.laid w) ∧ sizedMet enc Tryd.prog Tryd.f3 (OpenSpec.ofChange Rows.treeautMatchesSpec) false w args) (Rows.treeautMatchesSpec.post enc Tryd.prog Tryd.f3 false true false false) := by
 refine xHG (C := Tryd.checked) (d := 20) (X := fun w => laidMetH Tryd.prog Rows.treeautMatchesRow.laid w) (fun _ _ hh h => h.of_heap hh) xEw xFN started (by kernel_rfl) Tryd.func3
  (ChangeSpec.witness_shaped (enc := enc) (C := Tryd.checked) (os := os) (X := fun w _ => laidMetH Tryd.prog Rows.treeautMatchesRow.laid w) false (World.laidAll Tryd.prog os Rows.treeautMatchesRow.laid) #[.agg #[.int .i64 0,.int .i64 0,.slice none 0 0,.slice none 0 0,.slice none 0 0],.slice none 0 0] 8 (World.laidAll_os _ _ _) (World.shaped_of_ZipB (by kernel_rfl) (by kernel_rfl)) (by kernel_rfl) (by kernel_rfl) (by kernel_rfl) (by rw [MakeChecks.laidMetH_plain _ _ _ (by kernel_rfl)]; exact laidMet_laidAll _ (by kernel_rfl) (by kernel_rfl)))
  Tree.progOk xFA ?_ xFn rfl ?_ (tb := Tryd.f3.resultTypes[0]!) (by kernel_rfl) (by kernel_rfl) (fun avs h _ => Tree.law3t avs h)
 ·intro t ht
  have := List.all_eq_true.1 xFO t ht
  simp only [Bool.and_eq_true,decide_eq_true_eq] at this
  exact this
 ·intro ds hds
  match ds,hds with
  | [_,_],_ => rfl
theorem xFB : Rows.TreeautMatchesSaid :=
 OpenClaim.holds_of_wide 3 Tryd.f3 rfl rfl rfl rfl rfl rfl rfl ⟨rfl,rfl,rfl,rfl,rfl⟩ rfl rfl rfl rfl rfl (by kernel_rfl) Tryd.func3 (by kernel_rfl)
  (of_decide_eq_true (by kernel_rfl)) (by unfold Func.isWrapper; first | (rw [if_pos (by decide +kernel)]; kernel_rfl) | (rw [if_neg (by decide +kernel)]; exact ⟨rfl,rfl⟩))
  (fun os started H enc _ => xEx os started H enc)
theorem treeautMatches_card : Rows.TreeautMatchesCardSaid :=
 Claim7.holds_tied_plain_at .later [] [.data,.pinned] true (true, "d5f40ec9953343fff21912b0a4d02aa7b8904d070377a1d3ff130fb2d6a59821") false
  xFB (fun _ h => by cases h) (by kernel_rfl) (fun _ h => by cases h) treeautMatches_row_tie rfl ⟨rfl,rfl⟩ (by kernel_rfl) rfl
  (fun f fn hf hfn => by
   obtain rfl : f = 3 := Option.some.inj ((show Tryd.prog.funcNamed "sentinel/sentinellaw18.TreeautMatches" = some 3 by kernel_rfl).symm.trans hf) |>.symm
   obtain rfl : fn = Tryd.f3 := (Option.some.inj (Tryd.func3.symm.trans hfn)).symm
   exact ⟨by kernel_rfl,fun j t ht => by
    have hall : (Tryd.f3.params.toList.all fun u => !Tryd.prog.wantsStandIn u) = true := by kernel_rfl
    have hm : t ∈ Tryd.f3.params.toList := by
     rw [← Array.getElem?_toList] at ht
     exact List.mem_of_getElem? ht
    exact (show Tryd.prog.wantsStandIn t = false by simpa using List.all_eq_true.1 hall t hm)⟩)
  (by kernel_rfl)
#print axioms treeautMatches_card
end Go.Proofs.YtijmhicopfphnaaDoor
