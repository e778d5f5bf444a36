/- EventsMatches returns true,for every world that the statement allows: Check,Format and Verdicts return what the reference returns. -/
import Derived.Test.YtdheandekcpieaaGreatDoorAMK
import Derived.Test.YtdheandekcpieaaGreatDoorAOk
import Derived.Test.YtdheandekcpieaaGreatDoorAbsGlob
import Derived.Test.YtdheandekcpieaaGreatDoorCards
import Derived.Test.YtdheandekcpieaaGreatDoorTie
import Derived.ProofKit
import Derived.LaidMore
import Derived.Lay
import Derived.Stop.Joined
import Derived.SevenTiedAt
namespace Go.Proofs.YtdheandekcpieaaGreatDoor
open Go.ChangeShapes Go.WideShapes Go.ChangeAt Go.RowKit Go.Abs Go.Abs.Events
theorem xFr : ownKnob Tryz.prog.godebug = none := by kernel_rfl
theorem xEO : laidOutB Tryz.prog = true := by kernel_rfl
theorem xFs : (Tryz.f3.params.toList.all fun t => Tryz.prog.readableRec t && decide (t < Tryz.prog.types.size)) = true := by kernel_rfl
theorem xEs : Tryz.f3.params.toList.map (yAO Tryz.prog 20) = ([yCk,xX8] : List TS).map some := by kernel_rfl
theorem xEa (W : World) (_ : laidMetH Tryz.prog Rows.eventsMatchesRow.laid W) : GlobOk (xKe W) := by
 intro g cs hg
 cases (show (xVT g) = none from rfl).symm.trans hg
set_option maxRecDepth 100000 in
theorem xEb (os : Os) (started : os.Started) (H : Type) (enc : TypeId × Value → H) :
  ReturnsInHanded {} Tryz.checked os 3 .any (fun w args => (Rows.eventsMatchesSpec.pre enc Tryz.prog Tryz.f3 [] false w args ∧ laidMetH Tryz.prog Rows.eventsMatchesRow.laid w) ∧ sizedMet enc Tryz.prog Tryz.f3 (OpenSpec.ofChange Rows.eventsMatchesSpec) false w args) (Rows.eventsMatchesSpec.post enc Tryz.prog Tryz.f3 false true false false) := by
 refine xGP (C := Tryz.checked) (d := 20) (X := fun w => laidMetH Tryz.prog Rows.eventsMatchesRow.laid w) (fun _ _ hh h => h.of_heap hh) xEa xFr started (by kernel_rfl) Tryz.func3
  (ChangeSpec.witness_shaped (enc := enc) (C := Tryz.checked) (os := os) (X := fun w _ => laidMetH Tryz.prog Rows.eventsMatchesRow.laid w) false (World.laidAll Tryz.prog os Rows.eventsMatchesRow.laid) #[.slice none 0 0,.slice none 0 0] 8 (World.laidAll_os _ _ _) (World.shaped_of_ZipB (by kernel_rfl) (by kernel_rfl)) (by kernel_rfl) (by kernel_rfl) (by kernel_rfl) (by rw [MakeChecks.laidMetH_plain _ _ _ (by kernel_rfl)]; exact laidMet_laidAll _ (by kernel_rfl) (by kernel_rfl)))
  Events.progOk xEO ?_ xEs rfl ?_ (tb := Tryz.f3.resultTypes[0]!) (by kernel_rfl) (by kernel_rfl) (fun avs h _ => Events.law3 avs h)
 ·intro t ht
  have := List.all_eq_true.1 xFs t ht
  simp only [Bool.and_eq_true,decide_eq_true_eq] at this
  exact this
 ·intro ds hds
  match ds,hds with
  | [_,_],_ => rfl
theorem xEP : Rows.EventsMatchesSaid :=
 OpenClaim.holds_of_wide 3 Tryz.f3 rfl rfl rfl rfl rfl rfl rfl ⟨rfl,rfl,rfl,rfl,rfl⟩ rfl rfl rfl rfl rfl (by kernel_rfl) Tryz.func3 (by kernel_rfl)
  (of_decide_eq_true (by kernel_rfl)) (by unfold Func.isWrapper; first | (rw [if_pos (by decide +kernel)]; kernel_rfl) | (rw [if_neg (by decide +kernel)]; exact ⟨rfl,rfl⟩))
  (fun os started H enc _ => xEb os started H enc)
theorem eventsMatches_card : Rows.EventsMatchesCardSaid :=
 Claim7.holds_tied_plain_at .later [] [.data,.pinned] true (true, "ac051202e3316171f16e4afd5196618bf4b66b979911afed2bd23271c3301fb7") true
  xEP (fun _ h => by cases h) (by kernel_rfl) (fun _ h => by cases h) eventsMatches_row_tie rfl ⟨rfl,rfl⟩ (by kernel_rfl) rfl
  (fun f fn hf hfn => by
   obtain rfl : f = 3 := Option.some.inj ((show Tryz.prog.funcNamed "sentinel/sentinellaw40.EventsMatches" = some 3 by kernel_rfl).symm.trans hf) |>.symm
   obtain rfl : fn = Tryz.f3 := (Option.some.inj (Tryz.func3.symm.trans hfn)).symm
   exact ⟨by kernel_rfl,fun j t ht => by
    have hall : (Tryz.f3.params.toList.all fun u => !Tryz.prog.wantsStandIn u) = true := by kernel_rfl
    have hm : t ∈ Tryz.f3.params.toList := by
     rw [← Array.getElem?_toList] at ht
     exact List.mem_of_getElem? ht
    exact (show Tryz.prog.wantsStandIn t = false by simpa using List.all_eq_true.1 hall t hm)⟩)
  (by kernel_rfl)
#print axioms eventsMatches_card
end Go.Proofs.YtdheandekcpieaaGreatDoor
