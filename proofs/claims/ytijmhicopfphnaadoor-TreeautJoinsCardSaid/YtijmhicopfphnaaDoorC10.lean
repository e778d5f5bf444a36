/- The states of a joined tree are those that the rules give from the states of its two subtrees (TreeautJoins): the card's tied statement, without conditions. -/
import Derived.Test.YtijmhicopfphnaaDoorAL22
import Derived.Test.YtijmhicopfphnaaDoorAOk
import Derived.Test.YtijmhicopfphnaaDoorAbsGlob
import Derived.Test.YtijmhicopfphnaaDoorCards
import Derived.Test.YtijmhicopfphnaaDoorTie
import Derived.ProofKit
import Derived.LaidMore
import Derived.Lay
import Derived.Stop.Joined
import Derived.SevenTiedAt
namespace Go.Proofs.YtijmhicopfphnaaDoor
open Go.ChangeShapes Go.WideShapes Go.ChangeAt Go.RowKit Go.Abs Go.Abs.Tree

theorem treeautJoins_own : ownKnob Tryd.prog.godebug = none := by kernel_rfl
theorem treeautJoins_laid : laidOutB Tryd.prog = true := by kernel_rfl
theorem treeautJoins_rec : (Tryd.f10.params.toList.all fun t => Tryd.prog.readableRec t && decide (t < Tryd.prog.types.size)) = true := by kernel_rfl
theorem treeautJoins_types : Tryd.f10.params.toList.map (tyOf Tryd.prog 20) = ([TAut, TU8, TT2] : List TS).map some := by kernel_rfl
theorem treeautJoins_globOk (W : World) (h : laidMetH Tryd.prog Rows.treeautJoinsRow.laid W) : GlobOk (imOf W) := by
  intro g cs hg
  cases (show (globs g) = none from rfl).symm.trans hg

set_option maxRecDepth 100000 in
theorem treeautJoins_lifted (os : Os) (started : os.Started) (H : Type) (enc : TypeId × Value → H) :
    ReturnsInHanded {} Tryd.checked os 10 .any (fun w args => (Rows.treeautJoinsSpec.pre enc Tryd.prog Tryd.f10 [] false w args ∧ laidMetH Tryd.prog Rows.treeautJoinsRow.laid w) ∧ sizedMet enc Tryd.prog Tryd.f10 (OpenSpec.ofChange Rows.treeautJoinsSpec) false w args) (Rows.treeautJoinsSpec.post enc Tryd.prog Tryd.f10 false true false false) := by
  refine law_lifted_laid (C := Tryd.checked) (d := 20) (X := fun w => laidMetH Tryd.prog Rows.treeautJoinsRow.laid w) (fun _ _ hh h => h.of_heap hh) treeautJoins_globOk treeautJoins_own started (by kernel_rfl) Tryd.func10
    (ChangeSpec.witness_shaped (enc := enc) (C := Tryd.checked) (os := os) (X := fun w _ => laidMetH Tryd.prog Rows.treeautJoinsRow.laid w) false (World.laidAll Tryd.prog os Rows.treeautJoinsRow.laid) #[.agg #[.int .i64 0, .int .i64 0, .slice none 0 0, .slice none 0 0, .slice none 0 0], .int .u8 0, .agg #[.slice none 0 0, .slice none 0 0]] 8 (World.laidAll_os _ _ _) (World.shaped_of_ZipB (by kernel_rfl) (by kernel_rfl)) (by kernel_rfl) (by kernel_rfl) (by kernel_rfl) (by rw [MakeChecks.laidMetH_plain _ _ _ (by kernel_rfl)]; exact laidMet_laidAll _ (by kernel_rfl) (by kernel_rfl)))
    Tree.progOk treeautJoins_laid ?_ treeautJoins_types rfl ?_ (tb := Tryd.f10.resultTypes[0]!) (by kernel_rfl) (by kernel_rfl) (fun avs h _ => Tree.law10t avs h)
  · intro t ht
    have := List.all_eq_true.1 treeautJoins_rec t ht
    simp only [Bool.and_eq_true, decide_eq_true_eq] at this
    exact this
  · intro ds hds
    match ds, hds with
    | [_, _, _], _ => rfl

theorem treeautJoins_said : Rows.TreeautJoinsSaid :=
  OpenClaim.holds_of_wide 10 Tryd.f10 rfl rfl rfl rfl rfl rfl rfl ⟨rfl, rfl, rfl, rfl, rfl⟩ rfl rfl rfl rfl rfl (by kernel_rfl) Tryd.func10 (by kernel_rfl)
    (of_decide_eq_true (by kernel_rfl)) (by unfold Func.isWrapper; first | (rw [if_pos (by decide +kernel)]; kernel_rfl) | (rw [if_neg (by decide +kernel)]; exact ⟨rfl, rfl⟩))
    (fun os started H enc _ => treeautJoins_lifted os started H enc)

theorem treeautJoins_card : Rows.TreeautJoinsCardSaid :=
  Claim7.holds_tied_plain_at .later [] [.data, .pinned] true (true, "d5f40ec9953343fff21912b0a4d02aa7b8904d070377a1d3ff130fb2d6a59821") false
    treeautJoins_said (fun _ h => by cases h) (by kernel_rfl) (fun _ h => by cases h) treeautJoins_row_tie rfl ⟨rfl, rfl⟩ (by kernel_rfl) rfl
    (fun f fn hf hfn => by
      obtain rfl : f = 10 := Option.some.inj ((show Tryd.prog.funcNamed "sentinel/sentinellaw18.TreeautJoins" = some 10 by kernel_rfl).symm.trans hf) |>.symm
      obtain rfl : fn = Tryd.f10 := (Option.some.inj (Tryd.func10.symm.trans hfn)).symm
      exact ⟨by kernel_rfl, fun j t ht => by
        have hall : (Tryd.f10.params.toList.all fun u => !Tryd.prog.wantsStandIn u) = true := by kernel_rfl
        have hm : t ∈ Tryd.f10.params.toList := by
          rw [← Array.getElem?_toList] at ht
          exact List.mem_of_getElem? ht
        exact (show Tryd.prog.wantsStandIn t = false by simpa using List.all_eq_true.1 hall t hm)⟩)
    (by kernel_rfl)
#print axioms treeautJoins_card
end Go.Proofs.YtijmhicopfphnaaDoor
