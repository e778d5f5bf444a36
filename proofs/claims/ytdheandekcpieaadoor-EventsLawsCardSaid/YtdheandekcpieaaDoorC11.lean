/- EventsLaws returns true,for every world that the statement allows: expansions of once,since and exists have the same verdicts. -/
import Derived.Test.YtdheandekcpieaaDoorAG4
import Derived.Test.YtdheandekcpieaaDoorAOk
import Derived.Test.YtdheandekcpieaaDoorAbsGlob
import Derived.Test.YtdheandekcpieaaDoorCards
import Derived.Test.YtdheandekcpieaaDoorTie
import Derived.ProofKit
import Derived.LaidMore
import Derived.Lay
import Derived.Stop.Joined
import Derived.SevenTiedAt
namespace Go.Proofs.YtdheandekcpieaaDoor
open Go.ChangeShapes Go.WideShapes Go.ChangeAt Go.RowKit Go.Abs Go.Abs.Events
theorem xI3 : ownKnob Tryd.prog.godebug = none := by kernel_rfl
theorem xHn : laidOutB Tryd.prog = true := by kernel_rfl
theorem xI4 : (Tryd.f11.params.toList.all fun t => Tryd.prog.readableRec t && decide (t < Tryd.prog.types.size)) = true := by kernel_rfl
theorem xG5 : Tryd.f11.params.toList.map (yA8 Tryd.prog 20) = ([xWW,xWW,xYo] : List TS).map some := by kernel_rfl
theorem xFQ (W : World) (_ : laidMetH Tryd.prog Rows.eventsLawsRow.laid W) : GlobOk (xKM W) := by
 intro g cs hg
 cases (show (xV2 g) = none from rfl).symm.trans hg
set_option maxRecDepth 100000 in
theorem xFR (os : Os) (started : os.Started) (H : Type) (enc : TypeId × Value → H) :
  ReturnsInHanded {} Tryd.checked os 11 .any (fun w args => (Rows.eventsLawsSpec.pre enc Tryd.prog Tryd.f11 [] false w args ∧ laidMetH Tryd.prog Rows.eventsLawsRow.laid w) ∧ sizedMet enc Tryd.prog Tryd.f11 (OpenSpec.ofChange Rows.eventsLawsSpec) false w args) (Rows.eventsLawsSpec.post enc Tryd.prog Tryd.f11 false true false false) := by
 refine xHp (C := Tryd.checked) (d := 20) (X := fun w => laidMetH Tryd.prog Rows.eventsLawsRow.laid w) (fun _ _ hh h => h.of_heap hh) xFQ xI3 started (by kernel_rfl) Tryd.func11
  (ChangeSpec.witness_shaped (enc := enc) (C := Tryd.checked) (os := os) (X := fun w _ => laidMetH Tryd.prog Rows.eventsLawsRow.laid w) false (World.laidAll Tryd.prog os Rows.eventsLawsRow.laid) #[.slice none 0 0,.slice none 0 0,.slice none 0 0] 8 (World.laidAll_os _ _ _) (World.shaped_of_ZipB (by kernel_rfl) (by kernel_rfl)) (by kernel_rfl) (by kernel_rfl) (by kernel_rfl) (by rw [MakeChecks.laidMetH_plain _ _ _ (by kernel_rfl)]; exact laidMet_laidAll _ (by kernel_rfl) (by kernel_rfl)))
  Events.progOk xHn ?_ xG5 rfl ?_ (tb := Tryd.f11.resultTypes[0]!) (by kernel_rfl) (by kernel_rfl) (fun avs h _ => Events.law11 avs h)
 ·intro t ht
  have := List.all_eq_true.1 xI4 t ht
  simp only [Bool.and_eq_true,decide_eq_true_eq] at this
  exact this
 ·intro ds hds
  match ds,hds with
  | [_,_,_],_ => rfl
theorem xHo : Rows.EventsLawsSaid :=
 OpenClaim.holds_of_wide 11 Tryd.f11 rfl rfl rfl rfl rfl rfl rfl ⟨rfl,rfl,rfl,rfl,rfl⟩ rfl rfl rfl rfl rfl (by kernel_rfl) Tryd.func11 (by kernel_rfl)
  (of_decide_eq_true (by kernel_rfl)) (by unfold Func.isWrapper; first | (rw [if_pos (by decide +kernel)]; kernel_rfl) | (rw [if_neg (by decide +kernel)]; exact ⟨rfl,rfl⟩))
  (fun os started H enc _ => xFR os started H enc)
theorem eventsLaws_card : Rows.EventsLawsCardSaid :=
 Claim7.holds_tied_plain_at .later [] [.data,.pinned] true (true, "41bc55b555fbaed9a660faec64b603b8831f2b2ca2b4e9e1066ced267b355f79") true
  xHo (fun _ h => by cases h) (by kernel_rfl) (fun _ h => by cases h) eventsLaws_row_tie rfl ⟨rfl,rfl⟩ (by kernel_rfl) rfl
  (fun f fn hf hfn => by
   obtain rfl : f = 11 := Option.some.inj ((show Tryd.prog.funcNamed "sentinel/sentinellaw40.EventsLaws" = some 11 by kernel_rfl).symm.trans hf) |>.symm
   obtain rfl : fn = Tryd.f11 := (Option.some.inj (Tryd.func11.symm.trans hfn)).symm
   exact ⟨by kernel_rfl,fun j t ht => by
    have hall : (Tryd.f11.params.toList.all fun u => !Tryd.prog.wantsStandIn u) = true := by kernel_rfl
    have hm : t ∈ Tryd.f11.params.toList := by
     rw [← Array.getElem?_toList] at ht
     exact List.mem_of_getElem? ht
    exact (show Tryd.prog.wantsStandIn t = false by simpa using List.all_eq_true.1 hall t hm)⟩)
  (by kernel_rfl)
#print axioms eventsLaws_card
end Go.Proofs.YtdheandekcpieaaDoor
