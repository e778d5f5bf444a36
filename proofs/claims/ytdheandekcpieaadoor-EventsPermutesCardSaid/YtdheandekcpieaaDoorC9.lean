/- EventsPermutes returns true,for every world that the statement allows: values exchanged in the formula and in the trace do not change the verdicts. -/
import Derived.Test.YtdheandekcpieaaDoorAO4
import Derived.Test.YtdheandekcpieaaDoorAOk
import Derived.Test.YtdheandekcpieaaDoorAbsGlob
import Derived.Test.YtdheandekcpieaaDoorCards
import Derived.Test.YtdheandekcpieaaDoorTie
import Derived.ProofKit
import Derived.LaidMore
import Derived.Lay
import Derived.Stop.Joined
import Derived.SevenTiedAt
namespace Go.Proofs.YtdheandekcpieaaDoor
open Go.ChangeShapes Go.WideShapes Go.ChangeAt Go.RowKit Go.Abs Go.Abs.Events
theorem xEB : ownKnob Tryd.prog.godebug = none := by kernel_rfl
theorem xEg : laidOutB Tryd.prog = true := by kernel_rfl
theorem xEC : (Tryd.f9.params.toList.all fun t => Tryd.prog.readableRec t && decide (t < Tryd.prog.types.size)) = true := by kernel_rfl
theorem xD6 : Tryd.f9.params.toList.map (xYL Tryd.prog 20) = ([yAF,xWv,xZK] : List TS).map some := by kernel_rfl
theorem xDm (W : World) (_ : laidMetH Tryd.prog Rows.eventsPermutesRow.laid W) : GlobOk (xJC W) := by
 intro g cs hg
 cases (show (xUs g) = none from rfl).symm.trans hg
set_option maxRecDepth 100000 in
theorem xDn (os : Os) (started : os.Started) (H : Type) (enc : TypeId × Value → H) :
  ReturnsInHanded {} Tryd.checked os 9 .any (fun w args => (Rows.eventsPermutesSpec.pre enc Tryd.prog Tryd.f9 [] false w args ∧ laidMetH Tryd.prog Rows.eventsPermutesRow.laid w) ∧ sizedMet enc Tryd.prog Tryd.f9 (OpenSpec.ofChange Rows.eventsPermutesSpec) false w args) (Rows.eventsPermutesSpec.post enc Tryd.prog Tryd.f9 false true false false) := by
 refine xGy (C := Tryd.checked) (d := 20) (X := fun w => laidMetH Tryd.prog Rows.eventsPermutesRow.laid w) (fun _ _ hh h => h.of_heap hh) xDm xEB started (by kernel_rfl) Tryd.func9
  (ChangeSpec.witness_shaped (enc := enc) (C := Tryd.checked) (os := os) (X := fun w _ => laidMetH Tryd.prog Rows.eventsPermutesRow.laid w) false (World.laidAll Tryd.prog os Rows.eventsPermutesRow.laid) #[.slice none 0 0,.slice none 0 0,.agg #[.int .i64 0,.int .i64 0]] 8 (World.laidAll_os _ _ _) (World.shaped_of_ZipB (by kernel_rfl) (by kernel_rfl)) (by kernel_rfl) (by kernel_rfl) (by kernel_rfl) (by rw [MakeChecks.laidMetH_plain _ _ _ (by kernel_rfl)]; exact laidMet_laidAll _ (by kernel_rfl) (by kernel_rfl)))
  Events.progOk xEg ?_ xD6 rfl ?_ (tb := Tryd.f9.resultTypes[0]!) (by kernel_rfl) (by kernel_rfl) (fun avs h _ => Events.law9 avs h)
 ·intro t ht
  have := List.all_eq_true.1 xEC t ht
  simp only [Bool.and_eq_true,decide_eq_true_eq] at this
  exact this
 ·intro ds hds
  match ds,hds with
  | [_,_,_],_ => rfl
theorem xEh : Rows.EventsPermutesSaid :=
 OpenClaim.holds_of_wide 9 Tryd.f9 rfl rfl rfl rfl rfl rfl rfl ⟨rfl,rfl,rfl,rfl,rfl⟩ rfl rfl rfl rfl rfl (by kernel_rfl) Tryd.func9 (by kernel_rfl)
  (of_decide_eq_true (by kernel_rfl)) (by unfold Func.isWrapper; first | (rw [if_pos (by decide +kernel)]; kernel_rfl) | (rw [if_neg (by decide +kernel)]; exact ⟨rfl,rfl⟩))
  (fun os started H enc _ => xDn os started H enc)
theorem eventsPermutes_card : Rows.EventsPermutesCardSaid :=
 Claim7.holds_tied_plain_at .later [] [.data,.pinned] true (true, "41bc55b555fbaed9a660faec64b603b8831f2b2ca2b4e9e1066ced267b355f79") true
  xEh (fun _ h => by cases h) (by kernel_rfl) (fun _ h => by cases h) eventsPermutes_row_tie rfl ⟨rfl,rfl⟩ (by kernel_rfl) rfl
  (fun f fn hf hfn => by
   obtain rfl : f = 9 := Option.some.inj ((show Tryd.prog.funcNamed "sentinel/sentinellaw40.EventsPermutes" = some 9 by kernel_rfl).symm.trans hf) |>.symm
   obtain rfl : fn = Tryd.f9 := (Option.some.inj (Tryd.func9.symm.trans hfn)).symm
   exact ⟨by kernel_rfl,fun j t ht => by
    have hall : (Tryd.f9.params.toList.all fun u => !Tryd.prog.wantsStandIn u) = true := by kernel_rfl
    have hm : t ∈ Tryd.f9.params.toList := by
     rw [← Array.getElem?_toList] at ht
     exact List.mem_of_getElem? ht
    exact (show Tryd.prog.wantsStandIn t = false by simpa using List.all_eq_true.1 hall t hm)⟩)
  (by kernel_rfl)
#print axioms eventsPermutes_card
end Go.Proofs.YtdheandekcpieaaDoor
