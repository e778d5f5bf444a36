/- EventsSaved returns true,for every world that the statement allows: a monitor that is saved and loaded returns the same verdicts. -/
import Derived.Test.YtdheandekcpieaaDoorAB34
import Derived.Test.YtdheandekcpieaaDoorAOk
import Derived.Test.YtdheandekcpieaaDoorAbsGlob
import Derived.Test.YtdheandekcpieaaDoorCards
import Derived.Test.YtdheandekcpieaaDoorTie
import Derived.ProofKit
import Derived.LaidMore
import Derived.Lay
import Derived.Stop.Joined
import Derived.SevenTiedAt
namespace Go.Proofs.YtdheandekcpieaaDoor
open Go.ChangeShapes Go.WideShapes Go.ChangeAt Go.RowKit Go.Abs Go.Abs.Events
theorem xHC : ownKnob Tryd.prog.godebug = none := by kernel_rfl
theorem xHi : laidOutB Tryd.prog = true := by kernel_rfl
theorem xHD : (Tryd.f7.params.toList.all fun t => Tryd.prog.readableRec t && decide (t < Tryd.prog.types.size)) = true := by kernel_rfl
theorem xF2 : Tryd.f7.params.toList.map (xZf Tryd.prog 20) = ([xS2,xLH] : List TS).map some := by kernel_rfl
theorem xFg (W : World) (_ : laidMetH Tryd.prog Rows.eventsSavedRow.laid W) : GlobOk (xJL W) := by
  intro g cs hg
  cases (show (xNb g) = none from rfl).symm.trans hg
set_option maxRecDepth 100000 in
theorem xFh (os : Os) (started : os.Started) (H : Type) (enc : TypeId × Value → H) :
    ReturnsInHanded {} Tryd.checked os 7 .any (fun w args => (Rows.eventsSavedSpec.pre enc Tryd.prog Tryd.f7 [] false w args ∧ laidMetH Tryd.prog Rows.eventsSavedRow.laid w) ∧ sizedMet enc Tryd.prog Tryd.f7 (OpenSpec.ofChange Rows.eventsSavedSpec) false w args) (Rows.eventsSavedSpec.post enc Tryd.prog Tryd.f7 false true false false) := by
  refine xC6 (C := Tryd.checked) (d := 20) (X := fun w => laidMetH Tryd.prog Rows.eventsSavedRow.laid w) (fun _ _ hh h => h.of_heap hh) xFg xHC started (by kernel_rfl) Tryd.func7
    (ChangeSpec.witness_shaped (enc := enc) (C := Tryd.checked) (os := os) (X := fun w _ => laidMetH Tryd.prog Rows.eventsSavedRow.laid w) false (World.laidAll Tryd.prog os Rows.eventsSavedRow.laid) #[.slice none 0 0,.slice none 0 0] 8 (World.laidAll_os _ _ _) (World.shaped_of_ZipB (by kernel_rfl) (by kernel_rfl)) (by kernel_rfl) (by kernel_rfl) (by kernel_rfl) (by rw [MakeChecks.laidMetH_plain _ _ _ (by kernel_rfl)]; exact laidMet_laidAll _ (by kernel_rfl) (by kernel_rfl)))
    Events.progOk xHi ?_ xF2 rfl ?_ (tb := Tryd.f7.resultTypes[0]!) (by kernel_rfl) (by kernel_rfl) (fun avs h _ => Events.law7 avs h)
  · intro t ht
    have := List.all_eq_true.1 xHD t ht
    simp only [Bool.and_eq_true,decide_eq_true_eq] at this
    exact this
  · intro ds hds
    match ds,hds with
    | [_,_],_ => rfl
theorem xHj : Rows.EventsSavedSaid :=
  OpenClaim.holds_of_wide 7 Tryd.f7 rfl rfl rfl rfl rfl rfl rfl ⟨rfl,rfl,rfl,rfl,rfl⟩ rfl rfl rfl rfl rfl (by kernel_rfl) Tryd.func7 (by kernel_rfl)
    (of_decide_eq_true (by kernel_rfl)) (by unfold Func.isWrapper; first | (rw [if_pos (by decide +kernel)]; kernel_rfl) | (rw [if_neg (by decide +kernel)]; exact ⟨rfl,rfl⟩))
    (fun os started H enc _ => xFh os started H enc)
theorem eventsSaved_card : Rows.EventsSavedCardSaid :=
  Claim7.holds_tied_plain_at .later [] [.data,.pinned] true (true, "41bc55b555fbaed9a660faec64b603b8831f2b2ca2b4e9e1066ced267b355f79") true
    xHj (fun _ h => by cases h) (by kernel_rfl) (fun _ h => by cases h) eventsSaved_row_tie rfl ⟨rfl,rfl⟩ (by kernel_rfl) rfl
    (fun f fn hf hfn => by
      obtain rfl : f = 7 := Option.some.inj ((show Tryd.prog.funcNamed "sentinel/sentinellaw40.EventsSaved" = some 7 by kernel_rfl).symm.trans hf) |>.symm
      obtain rfl : fn = Tryd.f7 := (Option.some.inj (Tryd.func7.symm.trans hfn)).symm
      exact ⟨by kernel_rfl,fun j t ht => by
        have hall : (Tryd.f7.params.toList.all fun u => !Tryd.prog.wantsStandIn u) = true := by kernel_rfl
        have hm : t ∈ Tryd.f7.params.toList := by
          rw [← Array.getElem?_toList] at ht
          exact List.mem_of_getElem? ht
        exact (show Tryd.prog.wantsStandIn t = false by simpa using List.all_eq_true.1 hall t hm)⟩)
    (by kernel_rfl)
#print axioms eventsSaved_card
end Go.Proofs.YtdheandekcpieaaDoor
