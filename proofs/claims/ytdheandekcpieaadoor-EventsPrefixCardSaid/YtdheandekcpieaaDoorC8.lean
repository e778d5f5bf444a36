/- EventsPrefix returns true,for every world that the statement allows: the verdicts of a part of a trace are that part of the verdicts. -/
import Derived.Test.YtdheandekcpieaaDoorAMF
import Derived.Test.YtdheandekcpieaaDoorAOk
import Derived.Test.YtdheandekcpieaaDoorAbsGlob
import Derived.Test.YtdheandekcpieaaDoorCards
import Derived.Test.YtdheandekcpieaaDoorTie
import Derived.ProofKit
import Derived.LaidMore
import Derived.Lay
import Derived.Stop.Joined
import Derived.SevenTiedAt
namespace Go.Proofs.YtdheandekcpieaaDoor
open Go.ChangeShapes Go.WideShapes Go.ChangeAt Go.RowKit Go.Abs Go.Abs.Events
theorem xHo : ownKnob Tryd.prog.godebug = none := by kernel_rfl
theorem xGL : laidOutB Tryd.prog = true := by kernel_rfl
theorem xHp : (Tryd.f8.params.toList.all fun t => Tryd.prog.readableRec t && decide (t < Tryd.prog.types.size)) = true := by kernel_rfl
theorem xF0 : Tryd.f8.params.toList.map (xZf Tryd.prog 20) = ([xS2,xLH,yEJ] : List TS).map some := by kernel_rfl
theorem xFd (W : World) (_ : laidMetH Tryd.prog Rows.eventsPrefixRow.laid W) : GlobOk (xJL W) := by
  intro g cs hg
  cases (show (xNb g) = none from rfl).symm.trans hg
set_option maxRecDepth 100000 in
theorem xFe (os : Os) (started : os.Started) (H : Type) (enc : TypeId × Value → H) :
    ReturnsInHanded {} Tryd.checked os 8 .any (fun w args => (Rows.eventsPrefixSpec.pre enc Tryd.prog Tryd.f8 [] false w args ∧ laidMetH Tryd.prog Rows.eventsPrefixRow.laid w) ∧ sizedMet enc Tryd.prog Tryd.f8 (OpenSpec.ofChange Rows.eventsPrefixSpec) false w args) (Rows.eventsPrefixSpec.post enc Tryd.prog Tryd.f8 false true false false) := by
  refine xC6 (C := Tryd.checked) (d := 20) (X := fun w => laidMetH Tryd.prog Rows.eventsPrefixRow.laid w) (fun _ _ hh h => h.of_heap hh) xFd xHo started (by kernel_rfl) Tryd.func8
    (ChangeSpec.witness_shaped (enc := enc) (C := Tryd.checked) (os := os) (X := fun w _ => laidMetH Tryd.prog Rows.eventsPrefixRow.laid w) false (World.laidAll Tryd.prog os Rows.eventsPrefixRow.laid) #[.slice none 0 0,.slice none 0 0,.int .i64 0] 8 (World.laidAll_os _ _ _) (World.shaped_of_ZipB (by kernel_rfl) (by kernel_rfl)) (by kernel_rfl) (by kernel_rfl) (by kernel_rfl) (by rw [MakeChecks.laidMetH_plain _ _ _ (by kernel_rfl)]; exact laidMet_laidAll _ (by kernel_rfl) (by kernel_rfl)))
    Events.progOk xGL ?_ xF0 rfl ?_ (tb := Tryd.f8.resultTypes[0]!) (by kernel_rfl) (by kernel_rfl) (fun avs h _ => Events.law8 avs h)
  · intro t ht
    have := List.all_eq_true.1 xHp t ht
    simp only [Bool.and_eq_true,decide_eq_true_eq] at this
    exact this
  · intro ds hds
    match ds,hds with
    | [_,_,_],_ => rfl
theorem xGM : Rows.EventsPrefixSaid :=
  OpenClaim.holds_of_wide 8 Tryd.f8 rfl rfl rfl rfl rfl rfl rfl ⟨rfl,rfl,rfl,rfl,rfl⟩ rfl rfl rfl rfl rfl (by kernel_rfl) Tryd.func8 (by kernel_rfl)
    (of_decide_eq_true (by kernel_rfl)) (by unfold Func.isWrapper; first | (rw [if_pos (by decide +kernel)]; kernel_rfl) | (rw [if_neg (by decide +kernel)]; exact ⟨rfl,rfl⟩))
    (fun os started H enc _ => xFe os started H enc)
theorem eventsPrefix_card : Rows.EventsPrefixCardSaid :=
  Claim7.holds_tied_plain_at .later [] [.data,.pinned] true (true, "41bc55b555fbaed9a660faec64b603b8831f2b2ca2b4e9e1066ced267b355f79") true
    xGM (fun _ h => by cases h) (by kernel_rfl) (fun _ h => by cases h) eventsPrefix_row_tie rfl ⟨rfl,rfl⟩ (by kernel_rfl) rfl
    (fun f fn hf hfn => by
      obtain rfl : f = 8 := Option.some.inj ((show Tryd.prog.funcNamed "sentinel/sentinellaw40.EventsPrefix" = some 8 by kernel_rfl).symm.trans hf) |>.symm
      obtain rfl : fn = Tryd.f8 := (Option.some.inj (Tryd.func8.symm.trans hfn)).symm
      exact ⟨by kernel_rfl,fun j t ht => by
        have hall : (Tryd.f8.params.toList.all fun u => !Tryd.prog.wantsStandIn u) = true := by kernel_rfl
        have hm : t ∈ Tryd.f8.params.toList := by
          rw [← Array.getElem?_toList] at ht
          exact List.mem_of_getElem? ht
        exact (show Tryd.prog.wantsStandIn t = false by simpa using List.all_eq_true.1 hall t hm)⟩)
    (by kernel_rfl)
#print axioms eventsPrefix_card
end Go.Proofs.YtdheandekcpieaaDoor
