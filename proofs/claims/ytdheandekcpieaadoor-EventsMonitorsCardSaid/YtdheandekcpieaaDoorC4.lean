/- EventsMonitors returns true,for every world that the statement allows: a monitor returns the verdicts of the reference step by step,and its state is the one of the definition. -/
import Derived.Test.YtdheandekcpieaaDoorAT11
import Derived.Test.YtdheandekcpieaaDoorAOk
import Derived.Test.YtdheandekcpieaaDoorAbsGlob
import Derived.Test.YtdheandekcpieaaDoorCards
import Derived.Test.YtdheandekcpieaaDoorTie
import Derived.ProofKit
import Derived.LaidMore
import Derived.Lay
import Derived.Stop.Joined
import Derived.SevenTiedAt
namespace Go.Proofs.YtdheandekcpieaaDoor
open Go.ChangeShapes Go.WideShapes Go.ChangeAt Go.RowKit Go.Abs Go.Abs.Events
theorem xE9 : ownKnob Tryd.prog.godebug = none := by kernel_rfl
theorem xEQ : laidOutB Tryd.prog = true := by kernel_rfl
theorem xFa : (Tryd.f4.params.toList.all fun t => Tryd.prog.readableRec t && decide (t < Tryd.prog.types.size)) = true := by kernel_rfl
theorem xEE : Tryd.f4.params.toList.map (yBB Tryd.prog 20) = ([yCW,xY7] : List TS).map some := by kernel_rfl
theorem xDT (W : World) (_ : laidMetH Tryd.prog Rows.eventsMonitorsRow.laid W) : GlobOk (xLo W) := by
 intro g cs hg
 cases (show (xWY g) = none from rfl).symm.trans hg
set_option maxRecDepth 100000 in
theorem xDU (os : Os) (started : os.Started) (H : Type) (enc : TypeId × Value → H) :
  ReturnsInHanded {} Tryd.checked os 4 .any (fun w args => (Rows.eventsMonitorsSpec.pre enc Tryd.prog Tryd.f4 [] false w args ∧ laidMetH Tryd.prog Rows.eventsMonitorsRow.laid w) ∧ sizedMet enc Tryd.prog Tryd.f4 (OpenSpec.ofChange Rows.eventsMonitorsSpec) false w args) (Rows.eventsMonitorsSpec.post enc Tryd.prog Tryd.f4 false true false false) := by
 refine xHs (C := Tryd.checked) (d := 20) (X := fun w => laidMetH Tryd.prog Rows.eventsMonitorsRow.laid w) (fun _ _ hh h => h.of_heap hh) xDT xE9 started (by kernel_rfl) Tryd.func4
  (ChangeSpec.witness_shaped (enc := enc) (C := Tryd.checked) (os := os) (X := fun w _ => laidMetH Tryd.prog Rows.eventsMonitorsRow.laid w) false (World.laidAll Tryd.prog os Rows.eventsMonitorsRow.laid) #[.slice none 0 0,.slice none 0 0] 8 (World.laidAll_os _ _ _) (World.shaped_of_ZipB (by kernel_rfl) (by kernel_rfl)) (by kernel_rfl) (by kernel_rfl) (by kernel_rfl) (by rw [MakeChecks.laidMetH_plain _ _ _ (by kernel_rfl)]; exact laidMet_laidAll _ (by kernel_rfl) (by kernel_rfl)))
  Events.progOk xEQ ?_ xEE rfl ?_ (tb := Tryd.f4.resultTypes[0]!) (by kernel_rfl) (by kernel_rfl) (fun avs h _ => Events.law4 avs h)
 ·intro t ht
  have := List.all_eq_true.1 xFa t ht
  simp only [Bool.and_eq_true,decide_eq_true_eq] at this
  exact this
 ·intro ds hds
  match ds,hds with
  | [_,_],_ => rfl
theorem xER : Rows.EventsMonitorsSaid :=
 OpenClaim.holds_of_wide 4 Tryd.f4 rfl rfl rfl rfl rfl rfl rfl ⟨rfl,rfl,rfl,rfl,rfl⟩ rfl rfl rfl rfl rfl (by kernel_rfl) Tryd.func4 (by kernel_rfl)
  (of_decide_eq_true (by kernel_rfl)) (by unfold Func.isWrapper; first | (rw [if_pos (by decide +kernel)]; kernel_rfl) | (rw [if_neg (by decide +kernel)]; exact ⟨rfl,rfl⟩))
  (fun os started H enc _ => xDU os started H enc)
theorem eventsMonitors_card : Rows.EventsMonitorsCardSaid :=
 Claim7.holds_tied_plain_at .later [] [.data,.pinned] true (true, "41bc55b555fbaed9a660faec64b603b8831f2b2ca2b4e9e1066ced267b355f79") true
  xER (fun _ h => by cases h) (by kernel_rfl) (fun _ h => by cases h) eventsMonitors_row_tie rfl ⟨rfl,rfl⟩ (by kernel_rfl) rfl
  (fun f fn hf hfn => by
   obtain rfl : f = 4 := Option.some.inj ((show Tryd.prog.funcNamed "sentinel/sentinellaw40.EventsMonitors" = some 4 by kernel_rfl).symm.trans hf) |>.symm
   obtain rfl : fn = Tryd.f4 := (Option.some.inj (Tryd.func4.symm.trans hfn)).symm
   exact ⟨by kernel_rfl,fun j t ht => by
    have hall : (Tryd.f4.params.toList.all fun u => !Tryd.prog.wantsStandIn u) = true := by kernel_rfl
    have hm : t ∈ Tryd.f4.params.toList := by
     rw [← Array.getElem?_toList] at ht
     exact List.mem_of_getElem? ht
    exact (show Tryd.prog.wantsStandIn t = false by simpa using List.all_eq_true.1 hall t hm)⟩)
  (by kernel_rfl)
#print axioms eventsMonitors_card
end Go.Proofs.YtdheandekcpieaaDoor
