/- Trimming keeps the language and leaves useful states only, and trimming again changes nothing (TreeautTrims): the card's tied statement, without conditions. -/
import Derived.Test.YtijmhicopfphnaaDoorAL39
import Derived.Test.YtijmhicopfphnaaDoorAOk
import Derived.Test.YtijmhicopfphnaaDoorAbsGlob
import Derived.Test.YtijmhicopfphnaaDoorCards
import Derived.Test.YtijmhicopfphnaaDoorTie
import Derived.ProofKit
import Derived.LaidMore
import Derived.Lay
import Derived.Stop.Joined
import Derived.SevenTiedAt
namespace Go.Proofs.YtijmhicopfphnaaDoor
open Go.ChangeShapes Go.WideShapes Go.ChangeAt Go.RowKit Go.Abs Go.Abs.Tree

theorem treeautTrims_own : ownKnob Tryd.prog.godebug = none := by kernel_rfl
theorem treeautTrims_laid : laidOutB Tryd.prog = true := by kernel_rfl
theorem treeautTrims_rec : (Tryd.f9.params.toList.all fun t => Tryd.prog.readableRec t && decide (t < Tryd.prog.types.size)) = true := by kernel_rfl
theorem treeautTrims_types : Tryd.f9.params.toList.map (tyOf Tryd.prog 20) = ([TAut, TTree] : List TS).map some := by kernel_rfl
theorem treeautTrims_globOk (W : World) (_ : laidMetH Tryd.prog Rows.treeautTrimsRow.laid W) : GlobOk (imOf W) := by
  intro g cs hg
  cases (show (globs g) = none from rfl).symm.trans hg

set_option maxRecDepth 100000 in
theorem treeautTrims_lifted (os : Os) (started : os.Started) (H : Type) (enc : TypeId × Value → H) :
    ReturnsInHanded {} Tryd.checked os 9 .any (fun w args => (Rows.treeautTrimsSpec.pre enc Tryd.prog Tryd.f9 [] false w args ∧ laidMetH Tryd.prog Rows.treeautTrimsRow.laid w) ∧ sizedMet enc Tryd.prog Tryd.f9 (OpenSpec.ofChange Rows.treeautTrimsSpec) false w args) (Rows.treeautTrimsSpec.post enc Tryd.prog Tryd.f9 false true false false) := by
  refine law_lifted_laid (C := Tryd.checked) (d := 20) (X := fun w => laidMetH Tryd.prog Rows.treeautTrimsRow.laid w) (fun _ _ hh h => h.of_heap hh) treeautTrims_globOk treeautTrims_own started (by kernel_rfl) Tryd.func9
    (ChangeSpec.witness_shaped (enc := enc) (C := Tryd.checked) (os := os) (X := fun w _ => laidMetH Tryd.prog Rows.treeautTrimsRow.laid w) false (World.laidAll Tryd.prog os Rows.treeautTrimsRow.laid) #[.agg #[.int .i64 0, .int .i64 0, .slice none 0 0, .slice none 0 0, .slice none 0 0], .slice none 0 0] 8 (World.laidAll_os _ _ _) (World.shaped_of_ZipB (by kernel_rfl) (by kernel_rfl)) (by kernel_rfl) (by kernel_rfl) (by kernel_rfl) (by rw [MakeChecks.laidMetH_plain _ _ _ (by kernel_rfl)]; exact laidMet_laidAll _ (by kernel_rfl) (by kernel_rfl)))
    Tree.progOk treeautTrims_laid ?_ treeautTrims_types rfl ?_ (tb := Tryd.f9.resultTypes[0]!) (by kernel_rfl) (by kernel_rfl) (fun avs h _ => Tree.law9t avs h)
  · intro t ht
    have := List.all_eq_true.1 treeautTrims_rec t ht
    simp only [Bool.and_eq_true, decide_eq_true_eq] at this
    exact this
  · intro ds hds
    match ds, hds with
    | [_, _], _ => rfl

theorem treeautTrims_said : Rows.TreeautTrimsSaid :=
  OpenClaim.holds_of_wide 9 Tryd.f9 rfl rfl rfl rfl rfl rfl rfl ⟨rfl, rfl, rfl, rfl, rfl⟩ rfl rfl rfl rfl rfl (by kernel_rfl) Tryd.func9 (by kernel_rfl)
    (of_decide_eq_true (by kernel_rfl)) (by unfold Func.isWrapper; first | (rw [if_pos (by decide +kernel)]; kernel_rfl) | (rw [if_neg (by decide +kernel)]; exact ⟨rfl, rfl⟩))
    (fun os started H enc _ => treeautTrims_lifted os started H enc)

theorem treeautTrims_card : Rows.TreeautTrimsCardSaid :=
  Claim7.holds_tied_plain_at .later [] [.data, .pinned] true (true, "d5f40ec9953343fff21912b0a4d02aa7b8904d070377a1d3ff130fb2d6a59821") false
    treeautTrims_said (fun _ h => by cases h) (by kernel_rfl) (fun _ h => by cases h) treeautTrims_row_tie rfl ⟨rfl, rfl⟩ (by kernel_rfl) rfl
    (fun f fn hf hfn => by
      obtain rfl : f = 9 := Option.some.inj ((show Tryd.prog.funcNamed "sentinel/sentinellaw18.TreeautTrims" = some 9 by kernel_rfl).symm.trans hf) |>.symm
      obtain rfl : fn = Tryd.f9 := (Option.some.inj (Tryd.func9.symm.trans hfn)).symm
      exact ⟨by kernel_rfl, fun j t ht => by
        have hall : (Tryd.f9.params.toList.all fun u => !Tryd.prog.wantsStandIn u) = true := by kernel_rfl
        have hm : t ∈ Tryd.f9.params.toList := by
          rw [← Array.getElem?_toList] at ht
          exact List.mem_of_getElem? ht
        exact (show Tryd.prog.wantsStandIn t = false by simpa using List.all_eq_true.1 hall t hm)⟩)
    (by kernel_rfl)
#print axioms treeautTrims_card
end Go.Proofs.YtijmhicopfphnaaDoor
