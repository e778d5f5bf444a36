/- EventsRound returns true,for every world that the statement allows: Parse inverts Format,and a text that parses is the text of the parsed formula. -/
import Derived.Test.YtdheandekcpieaaDoorAR2
import Derived.Test.YtdheandekcpieaaDoorAOk
import Derived.Test.YtdheandekcpieaaDoorAbsGlob
import Derived.Test.YtdheandekcpieaaDoorCards
import Derived.Test.YtdheandekcpieaaDoorTie
import Derived.ProofKit
import Derived.LaidMore
import Derived.Lay
import Derived.Stop.Joined
import Derived.SevenTiedAt
namespace Go.Proofs.YtdheandekcpieaaDoor
open Go.ChangeShapes Go.WideShapes Go.ChangeAt Go.RowKit Go.Abs Go.Abs.Events
theorem xHk : ownKnob Tryd.prog.godebug = none := by kernel_rfl
theorem xGZ : laidOutB Tryd.prog = true := by kernel_rfl
theorem xHl : (Tryd.f10.params.toList.all fun t => Tryd.prog.readableRec t && decide (t < Tryd.prog.types.size)) = true := by kernel_rfl
theorem xFP : Tryd.f10.params.toList.map (xZD Tryd.prog 20) = ([yAd,yDj] : List TS).map some := by kernel_rfl
theorem xE9 (W : World) (_ : laidMetH Tryd.prog Rows.eventsRoundRow.laid W) : GlobOk (xKD W) := by
 intro g cs hg
 cases (show (xXU g) = none from rfl).symm.trans hg
set_option maxRecDepth 100000 in
theorem xFa (os : Os) (started : os.Started) (H : Type) (enc : TypeId × Value → H) :
  ReturnsInHanded {} Tryd.checked os 10 .any (fun w args => (Rows.eventsRoundSpec.pre enc Tryd.prog Tryd.f10 [] false w args ∧ laidMetH Tryd.prog Rows.eventsRoundRow.laid w) ∧ sizedMet enc Tryd.prog Tryd.f10 (OpenSpec.ofChange Rows.eventsRoundSpec) false w args) (Rows.eventsRoundSpec.post enc Tryd.prog Tryd.f10 false true false false) := by
 refine xHm (C := Tryd.checked) (d := 20) (X := fun w => laidMetH Tryd.prog Rows.eventsRoundRow.laid w) (fun _ _ hh h => h.of_heap hh) xE9 xHk started (by kernel_rfl) Tryd.func10
  (ChangeSpec.witness_shaped (enc := enc) (C := Tryd.checked) (os := os) (X := fun w _ => laidMetH Tryd.prog Rows.eventsRoundRow.laid w) false (World.laidAll Tryd.prog os Rows.eventsRoundRow.laid) #[.slice none 0 0,.string ⟨#[]⟩] 8 (World.laidAll_os _ _ _) (World.shaped_of_ZipB (by kernel_rfl) (by kernel_rfl)) (by kernel_rfl) (by kernel_rfl) (by kernel_rfl) (by rw [MakeChecks.laidMetH_plain _ _ _ (by kernel_rfl)]; exact laidMet_laidAll _ (by kernel_rfl) (by kernel_rfl)))
  Events.progOk xGZ ?_ xFP rfl ?_ (tb := Tryd.f10.resultTypes[0]!) (by kernel_rfl) (by kernel_rfl) (fun avs h _ => Events.law10 avs h)
 ·intro t ht
  have := List.all_eq_true.1 xHl t ht
  simp only [Bool.and_eq_true,decide_eq_true_eq] at this
  exact this
 ·intro ds hds
  match ds,hds with
  | [_,_],_ => rfl
theorem xG0 : Rows.EventsRoundSaid :=
 OpenClaim.holds_of_wide 10 Tryd.f10 rfl rfl rfl rfl rfl rfl rfl ⟨rfl,rfl,rfl,rfl,rfl⟩ rfl rfl rfl rfl rfl (by kernel_rfl) Tryd.func10 (by kernel_rfl)
  (of_decide_eq_true (by kernel_rfl)) (by unfold Func.isWrapper; first | (rw [if_pos (by decide +kernel)]; kernel_rfl) | (rw [if_neg (by decide +kernel)]; exact ⟨rfl,rfl⟩))
  (fun os started H enc _ => xFa os started H enc)
theorem eventsRound_card : Rows.EventsRoundCardSaid :=
 Claim7.holds_tied_plain_at .later [] [.data,.pinned] true (true, "41bc55b555fbaed9a660faec64b603b8831f2b2ca2b4e9e1066ced267b355f79") true
  xG0 (fun _ h => by cases h) (by kernel_rfl) (fun _ h => by cases h) eventsRound_row_tie rfl ⟨rfl,rfl⟩ (by kernel_rfl) rfl
  (fun f fn hf hfn => by
   obtain rfl : f = 10 := Option.some.inj ((show Tryd.prog.funcNamed "sentinel/sentinellaw40.EventsRound" = some 10 by kernel_rfl).symm.trans hf) |>.symm
   obtain rfl : fn = Tryd.f10 := (Option.some.inj (Tryd.func10.symm.trans hfn)).symm
   exact ⟨by kernel_rfl,fun j t ht => by
    have hall : (Tryd.f10.params.toList.all fun u => !Tryd.prog.wantsStandIn u) = true := by kernel_rfl
    have hm : t ∈ Tryd.f10.params.toList := by
     rw [← Array.getElem?_toList] at ht
     exact List.mem_of_getElem? ht
    exact (show Tryd.prog.wantsStandIn t = false by simpa using List.all_eq_true.1 hall t hm)⟩)
  (by kernel_rfl)
#print axioms eventsRound_card
end Go.Proofs.YtdheandekcpieaaDoor
