/- Union returns what the reference returns, for all pairs of automata, and arguments are not modified (TreeautUnionMatches): the card's tied statement, without conditions. -/
import Derived.Test.YtijmhicopfphnaaDoorAR11
import Derived.Test.YtijmhicopfphnaaDoorAOk
import Derived.Test.YtijmhicopfphnaaDoorAbsGlob
import Derived.Test.YtijmhicopfphnaaDoorCards
import Derived.Test.YtijmhicopfphnaaDoorTie
import Derived.ProofKit
import Derived.LaidMore
import Derived.Lay
import Derived.Stop.Joined
import Derived.SevenTiedAt
namespace Go.Proofs.YtijmhicopfphnaaDoor
open Go.ChangeShapes Go.WideShapes Go.ChangeAt Go.RowKit Go.Abs Go.Abs.Tree

theorem treeautUnionMatches_own : ownKnob Tryd.prog.godebug = none := by kernel_rfl
theorem treeautUnionMatches_laid : laidOutB Tryd.prog = true := by kernel_rfl
theorem treeautUnionMatches_rec : (Tryd.f4.params.toList.all fun t => Tryd.prog.readableRec t && decide (t < Tryd.prog.types.size)) = true := by kernel_rfl
theorem treeautUnionMatches_types : Tryd.f4.params.toList.map (tyOf Tryd.prog 20) = ([TAut, TAut] : List TS).map some := by kernel_rfl
theorem treeautUnionMatches_globOk (W : World) (_ : laidMetH Tryd.prog Rows.treeautUnionMatchesRow.laid W) : GlobOk (imOf W) := by
  intro g cs hg
  cases (show (globs g) = none from rfl).symm.trans hg

set_option maxRecDepth 100000 in
theorem treeautUnionMatches_lifted (os : Os) (started : os.Started) (H : Type) (enc : TypeId × Value → H) :
    ReturnsInHanded {} Tryd.checked os 4 .any (fun w args => (Rows.treeautUnionMatchesSpec.pre enc Tryd.prog Tryd.f4 [] false w args ∧ laidMetH Tryd.prog Rows.treeautUnionMatchesRow.laid w) ∧ sizedMet enc Tryd.prog Tryd.f4 (OpenSpec.ofChange Rows.treeautUnionMatchesSpec) false w args) (Rows.treeautUnionMatchesSpec.post enc Tryd.prog Tryd.f4 false true false false) := by
  refine law_lifted_laid (C := Tryd.checked) (d := 20) (X := fun w => laidMetH Tryd.prog Rows.treeautUnionMatchesRow.laid w) (fun _ _ hh h => h.of_heap hh) treeautUnionMatches_globOk treeautUnionMatches_own started (by kernel_rfl) Tryd.func4
    (ChangeSpec.witness_shaped (enc := enc) (C := Tryd.checked) (os := os) (X := fun w _ => laidMetH Tryd.prog Rows.treeautUnionMatchesRow.laid w) false (World.laidAll Tryd.prog os Rows.treeautUnionMatchesRow.laid) #[.agg #[.int .i64 0, .int .i64 0, .slice none 0 0, .slice none 0 0, .slice none 0 0], .agg #[.int .i64 0, .int .i64 0, .slice none 0 0, .slice none 0 0, .slice none 0 0]] 8 (World.laidAll_os _ _ _) (World.shaped_of_ZipB (by kernel_rfl) (by kernel_rfl)) (by kernel_rfl) (by kernel_rfl) (by kernel_rfl) (by rw [MakeChecks.laidMetH_plain _ _ _ (by kernel_rfl)]; exact laidMet_laidAll _ (by kernel_rfl) (by kernel_rfl)))
    Tree.progOk treeautUnionMatches_laid ?_ treeautUnionMatches_types rfl ?_ (tb := Tryd.f4.resultTypes[0]!) (by kernel_rfl) (by kernel_rfl) (fun avs h _ => Tree.law4t avs h)
  · intro t ht
    have := List.all_eq_true.1 treeautUnionMatches_rec t ht
    simp only [Bool.and_eq_true, decide_eq_true_eq] at this
    exact this
  · intro ds hds
    match ds, hds with
    | [_, _], _ => rfl

theorem treeautUnionMatches_said : Rows.TreeautUnionMatchesSaid :=
  OpenClaim.holds_of_wide 4 Tryd.f4 rfl rfl rfl rfl rfl rfl rfl ⟨rfl, rfl, rfl, rfl, rfl⟩ rfl rfl rfl rfl rfl (by kernel_rfl) Tryd.func4 (by kernel_rfl)
    (of_decide_eq_true (by kernel_rfl)) (by unfold Func.isWrapper; first | (rw [if_pos (by decide +kernel)]; kernel_rfl) | (rw [if_neg (by decide +kernel)]; exact ⟨rfl, rfl⟩))
    (fun os started H enc _ => treeautUnionMatches_lifted os started H enc)

theorem treeautUnionMatches_card : Rows.TreeautUnionMatchesCardSaid :=
  Claim7.holds_tied_plain_at .later [] [.data, .pinned] true (true, "d5f40ec9953343fff21912b0a4d02aa7b8904d070377a1d3ff130fb2d6a59821") false
    treeautUnionMatches_said (fun _ h => by cases h) (by kernel_rfl) (fun _ h => by cases h) treeautUnionMatches_row_tie rfl ⟨rfl, rfl⟩ (by kernel_rfl) rfl
    (fun f fn hf hfn => by
      obtain rfl : f = 4 := Option.some.inj ((show Tryd.prog.funcNamed "sentinel/sentinellaw18.TreeautUnionMatches" = some 4 by kernel_rfl).symm.trans hf) |>.symm
      obtain rfl : fn = Tryd.f4 := (Option.some.inj (Tryd.func4.symm.trans hfn)).symm
      exact ⟨by kernel_rfl, fun j t ht => by
        have hall : (Tryd.f4.params.toList.all fun u => !Tryd.prog.wantsStandIn u) = true := by kernel_rfl
        have hm : t ∈ Tryd.f4.params.toList := by
          rw [← Array.getElem?_toList] at ht
          exact List.mem_of_getElem? ht
        exact (show Tryd.prog.wantsStandIn t = false by simpa using List.all_eq_true.1 hall t hm)⟩)
    (by kernel_rfl)
#print axioms treeautUnionMatches_card
end Go.Proofs.YtijmhicopfphnaaDoor
