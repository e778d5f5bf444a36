/- EventsLoads returns true,for every world that the statement allows: Load returns the errors of the reference,and a loaded monitor takes steps from its bits. -/
import Derived.Test.YtdheandekcpieaaDoorAD26
import Derived.Test.YtdheandekcpieaaDoorAOk
import Derived.Test.YtdheandekcpieaaDoorAbsGlob
import Derived.Test.YtdheandekcpieaaDoorCards
import Derived.Test.YtdheandekcpieaaDoorTie
import Derived.ProofKit
import Derived.LaidMore
import Derived.Lay
import Derived.Stop.Joined
import Derived.SevenTiedAt
namespace Go.Proofs.YtdheandekcpieaaDoor
open Go.ChangeShapes Go.WideShapes Go.ChangeAt Go.RowKit Go.Abs Go.Abs.Events
theorem xGL : ownKnob Tryd.prog.godebug = none := by kernel_rfl
theorem xGr : laidOutB Tryd.prog = true := by kernel_rfl
theorem xGM : (Tryd.f5.params.toList.all fun t => Tryd.prog.readableRec t && decide (t < Tryd.prog.types.size)) = true := by kernel_rfl
theorem xFj : Tryd.f5.params.toList.map (xZQ Tryd.prog 20) = ([yA2,xXu,xXy] : List TS).map some := by kernel_rfl
theorem xEE (W : World) (_ : laidMetH Tryd.prog Rows.eventsLoadsRow.laid W) : GlobOk (xKn W) := by
 intro g cs hg
 cases (show (xVG g) = none from rfl).symm.trans hg
set_option maxRecDepth 100000 in
theorem xEF (os : Os) (started : os.Started) (H : Type) (enc : TypeId × Value → H) :
  ReturnsInHanded {} Tryd.checked os 5 .any (fun w args => (Rows.eventsLoadsSpec.pre enc Tryd.prog Tryd.f5 [] false w args ∧ laidMetH Tryd.prog Rows.eventsLoadsRow.laid w) ∧ sizedMet enc Tryd.prog Tryd.f5 (OpenSpec.ofChange Rows.eventsLoadsSpec) false w args) (Rows.eventsLoadsSpec.post enc Tryd.prog Tryd.f5 false true false false) := by
 refine xGN (C := Tryd.checked) (d := 20) (X := fun w => laidMetH Tryd.prog Rows.eventsLoadsRow.laid w) (fun _ _ hh h => h.of_heap hh) xEE xGL started (by kernel_rfl) Tryd.func5
  (ChangeSpec.witness_shaped (enc := enc) (C := Tryd.checked) (os := os) (X := fun w _ => laidMetH Tryd.prog Rows.eventsLoadsRow.laid w) false (World.laidAll Tryd.prog os Rows.eventsLoadsRow.laid) #[.slice none 0 0,.slice none 0 0,.slice none 0 0] 8 (World.laidAll_os _ _ _) (World.shaped_of_ZipB (by kernel_rfl) (by kernel_rfl)) (by kernel_rfl) (by kernel_rfl) (by kernel_rfl) (by rw [MakeChecks.laidMetH_plain _ _ _ (by kernel_rfl)]; exact laidMet_laidAll _ (by kernel_rfl) (by kernel_rfl)))
  Events.progOk xGr ?_ xFj rfl ?_ (tb := Tryd.f5.resultTypes[0]!) (by kernel_rfl) (by kernel_rfl) (fun avs h _ => Events.law5 avs h)
 ·intro t ht
  have := List.all_eq_true.1 xGM t ht
  simp only [Bool.and_eq_true,decide_eq_true_eq] at this
  exact this
 ·intro ds hds
  match ds,hds with
  | [_,_,_],_ => rfl
theorem xGs : Rows.EventsLoadsSaid :=
 OpenClaim.holds_of_wide 5 Tryd.f5 rfl rfl rfl rfl rfl rfl rfl ⟨rfl,rfl,rfl,rfl,rfl⟩ rfl rfl rfl rfl rfl (by kernel_rfl) Tryd.func5 (by kernel_rfl)
  (of_decide_eq_true (by kernel_rfl)) (by unfold Func.isWrapper; first | (rw [if_pos (by decide +kernel)]; kernel_rfl) | (rw [if_neg (by decide +kernel)]; exact ⟨rfl,rfl⟩))
  (fun os started H enc _ => xEF os started H enc)
theorem eventsLoads_card : Rows.EventsLoadsCardSaid :=
 Claim7.holds_tied_plain_at .later [] [.data,.pinned] true (true, "41bc55b555fbaed9a660faec64b603b8831f2b2ca2b4e9e1066ced267b355f79") true
  xGs (fun _ h => by cases h) (by kernel_rfl) (fun _ h => by cases h) eventsLoads_row_tie rfl ⟨rfl,rfl⟩ (by kernel_rfl) rfl
  (fun f fn hf hfn => by
   obtain rfl : f = 5 := Option.some.inj ((show Tryd.prog.funcNamed "sentinel/sentinellaw40.EventsLoads" = some 5 by kernel_rfl).symm.trans hf) |>.symm
   obtain rfl : fn = Tryd.f5 := (Option.some.inj (Tryd.func5.symm.trans hfn)).symm
   exact ⟨by kernel_rfl,fun j t ht => by
    have hall : (Tryd.f5.params.toList.all fun u => !Tryd.prog.wantsStandIn u) = true := by kernel_rfl
    have hm : t ∈ Tryd.f5.params.toList := by
     rw [← Array.getElem?_toList] at ht
     exact List.mem_of_getElem? ht
    exact (show Tryd.prog.wantsStandIn t = false by simpa using List.all_eq_true.1 hall t hm)⟩)
  (by kernel_rfl)
#print axioms eventsLoads_card
end Go.Proofs.YtdheandekcpieaaDoor
