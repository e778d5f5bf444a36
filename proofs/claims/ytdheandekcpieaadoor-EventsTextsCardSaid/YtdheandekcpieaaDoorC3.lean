/- EventsTexts returns true,for every world that the statement allows: Parse returns what the reference returns. -/
import Derived.Test.YtdheandekcpieaaDoorAMX
import Derived.Test.YtdheandekcpieaaDoorAOk
import Derived.Test.YtdheandekcpieaaDoorAbsGlob
import Derived.Test.YtdheandekcpieaaDoorCards
import Derived.Test.YtdheandekcpieaaDoorTie
import Derived.ProofKit
import Derived.LaidMore
import Derived.Lay
import Derived.Stop.Joined
import Derived.SevenTiedAt
namespace Go.Proofs.YtdheandekcpieaaDoor
open Go.ChangeShapes Go.WideShapes Go.ChangeAt Go.RowKit Go.Abs Go.Abs.Events
theorem xGO : ownKnob Tryd.prog.godebug = none := by kernel_rfl
theorem xGx : laidOutB Tryd.prog = true := by kernel_rfl
theorem xGP : (Tryd.f3.params.toList.all fun t => Tryd.prog.readableRec t && decide (t < Tryd.prog.types.size)) = true := by kernel_rfl
theorem xFt : Tryd.f3.params.toList.map (xZp Tryd.prog 20) = ([yC3] : List TS).map some := by kernel_rfl
theorem xET (W : World) (_ : laidMetH Tryd.prog Rows.eventsTextsRow.laid W) : GlobOk (xIn W) := by
 intro g cs hg
 cases (show (xXr g) = none from rfl).symm.trans hg
set_option maxRecDepth 100000 in
theorem xEU (os : Os) (started : os.Started) (H : Type) (enc : TypeId × Value → H) :
  ReturnsInHanded {} Tryd.checked os 3 .any (fun w args => (Rows.eventsTextsSpec.pre enc Tryd.prog Tryd.f3 [] false w args ∧ laidMetH Tryd.prog Rows.eventsTextsRow.laid w) ∧ sizedMet enc Tryd.prog Tryd.f3 (OpenSpec.ofChange Rows.eventsTextsSpec) false w args) (Rows.eventsTextsSpec.post enc Tryd.prog Tryd.f3 false true false false) := by
 refine xGC (C := Tryd.checked) (d := 20) (X := fun w => laidMetH Tryd.prog Rows.eventsTextsRow.laid w) (fun _ _ hh h => h.of_heap hh) xET xGO started (by kernel_rfl) Tryd.func3
  (ChangeSpec.witness_shaped (enc := enc) (C := Tryd.checked) (os := os) (X := fun w _ => laidMetH Tryd.prog Rows.eventsTextsRow.laid w) false (World.laidAll Tryd.prog os Rows.eventsTextsRow.laid) #[.string ⟨#[]⟩] 8 (World.laidAll_os _ _ _) (World.shaped_of_ZipB (by kernel_rfl) (by kernel_rfl)) (by kernel_rfl) (by kernel_rfl) (by kernel_rfl) (by rw [MakeChecks.laidMetH_plain _ _ _ (by kernel_rfl)]; exact laidMet_laidAll _ (by kernel_rfl) (by kernel_rfl)))
  xGx ?_ xFt rfl ?_ (tb := Tryd.f3.resultTypes[0]!) (by kernel_rfl) (by kernel_rfl) (fun avs h _ => Events.law3_calls avs h)
 ·intro t ht
  have := List.all_eq_true.1 xGP t ht
  simp only [Bool.and_eq_true,decide_eq_true_eq] at this
  exact this
 ·intro ds hds
  match ds,hds with
  | [_],_ => rfl
theorem xGy : Rows.EventsTextsSaid :=
 OpenClaim.holds_of_wide 3 Tryd.f3 rfl rfl rfl rfl rfl rfl rfl ⟨rfl,rfl,rfl,rfl,rfl⟩ rfl rfl rfl rfl rfl (by kernel_rfl) Tryd.func3 (by kernel_rfl)
  (of_decide_eq_true (by kernel_rfl)) (by unfold Func.isWrapper; first | (rw [if_pos (by decide +kernel)]; kernel_rfl) | (rw [if_neg (by decide +kernel)]; exact ⟨rfl,rfl⟩))
  (fun os started H enc _ => xEU os started H enc)
theorem eventsTexts_card : Rows.EventsTextsCardSaid :=
 Claim7.holds_tied_plain_at .later [] [.data,.pinned] true (true, "41bc55b555fbaed9a660faec64b603b8831f2b2ca2b4e9e1066ced267b355f79") true
  xGy (fun _ h => by cases h) (by kernel_rfl) (fun _ h => by cases h) eventsTexts_row_tie rfl ⟨rfl,rfl⟩ (by kernel_rfl) rfl
  (fun f fn hf hfn => by
   obtain rfl : f = 3 := Option.some.inj ((show Tryd.prog.funcNamed "sentinel/sentinellaw40.EventsTexts" = some 3 by kernel_rfl).symm.trans hf) |>.symm
   obtain rfl : fn = Tryd.f3 := (Option.some.inj (Tryd.func3.symm.trans hfn)).symm
   exact ⟨by kernel_rfl,fun j t ht => by
    have hall : (Tryd.f3.params.toList.all fun u => !Tryd.prog.wantsStandIn u) = true := by kernel_rfl
    have hm : t ∈ Tryd.f3.params.toList := by
     rw [← Array.getElem?_toList] at ht
     exact List.mem_of_getElem? ht
    exact (show Tryd.prog.wantsStandIn t = false by simpa using List.all_eq_true.1 hall t hm)⟩)
  (by kernel_rfl)
#print axioms eventsTexts_card
end Go.Proofs.YtdheandekcpieaaDoor
