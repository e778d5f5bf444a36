/- The language of a union is the union of the languages (TreeautUnites): the card's tied statement, without conditions. -/
import Derived.Test.YtijmhicopfphnaaDoorAL32
import Derived.Test.YtijmhicopfphnaaDoorAOk
import Derived.Test.YtijmhicopfphnaaDoorAbsGlob
import Derived.Test.YtijmhicopfphnaaDoorCards
import Derived.Test.YtijmhicopfphnaaDoorTie
import Derived.ProofKit
import Derived.LaidMore
import Derived.Lay
import Derived.Stop.Joined
import Derived.SevenTiedAt
namespace Go.Proofs.YtijmhicopfphnaaDoor
open Go.ChangeShapes Go.WideShapes Go.ChangeAt Go.RowKit Go.Abs Go.Abs.Tree

theorem treeautUnites_own : ownKnob Tryd.prog.godebug = none := by kernel_rfl
theorem treeautUnites_laid : laidOutB Tryd.prog = true := by kernel_rfl
theorem treeautUnites_rec : (Tryd.f6.params.toList.all fun t => Tryd.prog.readableRec t && decide (t < Tryd.prog.types.size)) = true := by kernel_rfl
theorem treeautUnites_types : Tryd.f6.params.toList.map (tyOf Tryd.prog 20) = ([TAut, TAut, TTree] : List TS).map some := by kernel_rfl
theorem treeautUnites_globOk (W : World) (_ : laidMetH Tryd.prog Rows.treeautUnitesRow.laid W) : GlobOk (imOf W) := by
  intro g cs hg
  cases (show (globs g) = none from rfl).symm.trans hg

set_option maxRecDepth 100000 in
theorem treeautUnites_lifted (os : Os) (started : os.Started) (H : Type) (enc : TypeId × Value → H) :
    ReturnsInHanded {} Tryd.checked os 6 .any (fun w args => (Rows.treeautUnitesSpec.pre enc Tryd.prog Tryd.f6 [] false w args ∧ laidMetH Tryd.prog Rows.treeautUnitesRow.laid w) ∧ sizedMet enc Tryd.prog Tryd.f6 (OpenSpec.ofChange Rows.treeautUnitesSpec) false w args) (Rows.treeautUnitesSpec.post enc Tryd.prog Tryd.f6 false true false false) := by
  refine law_lifted_laid (C := Tryd.checked) (d := 20) (X := fun w => laidMetH Tryd.prog Rows.treeautUnitesRow.laid w) (fun _ _ hh h => h.of_heap hh) treeautUnites_globOk treeautUnites_own started (by kernel_rfl) Tryd.func6
    (ChangeSpec.witness_shaped (enc := enc) (C := Tryd.checked) (os := os) (X := fun w _ => laidMetH Tryd.prog Rows.treeautUnitesRow.laid w) false (World.laidAll Tryd.prog os Rows.treeautUnitesRow.laid) #[.agg #[.int .i64 0, .int .i64 0, .slice none 0 0, .slice none 0 0, .slice none 0 0], .agg #[.int .i64 0, .int .i64 0, .slice none 0 0, .slice none 0 0, .slice none 0 0], .slice none 0 0] 8 (World.laidAll_os _ _ _) (World.shaped_of_ZipB (by kernel_rfl) (by kernel_rfl)) (by kernel_rfl) (by kernel_rfl) (by kernel_rfl) (by rw [MakeChecks.laidMetH_plain _ _ _ (by kernel_rfl)]; exact laidMet_laidAll _ (by kernel_rfl) (by kernel_rfl)))
    Tree.progOk treeautUnites_laid ?_ treeautUnites_types rfl ?_ (tb := Tryd.f6.resultTypes[0]!) (by kernel_rfl) (by kernel_rfl) (fun avs h _ => Tree.law6t avs h)
  · intro t ht
    have := List.all_eq_true.1 treeautUnites_rec t ht
    simp only [Bool.and_eq_true, decide_eq_true_eq] at this
    exact this
  · intro ds hds
    match ds, hds with
    | [_, _, _], _ => rfl

theorem treeautUnites_said : Rows.TreeautUnitesSaid :=
  OpenClaim.holds_of_wide 6 Tryd.f6 rfl rfl rfl rfl rfl rfl rfl ⟨rfl, rfl, rfl, rfl, rfl⟩ rfl rfl rfl rfl rfl (by kernel_rfl) Tryd.func6 (by kernel_rfl)
    (of_decide_eq_true (by kernel_rfl)) (by unfold Func.isWrapper; first | (rw [if_pos (by decide +kernel)]; kernel_rfl) | (rw [if_neg (by decide +kernel)]; exact ⟨rfl, rfl⟩))
    (fun os started H enc _ => treeautUnites_lifted os started H enc)

theorem treeautUnites_card : Rows.TreeautUnitesCardSaid :=
  Claim7.holds_tied_plain_at .later [] [.data, .pinned] true (true, "d5f40ec9953343fff21912b0a4d02aa7b8904d070377a1d3ff130fb2d6a59821") false
    treeautUnites_said (fun _ h => by cases h) (by kernel_rfl) (fun _ h => by cases h) treeautUnites_row_tie rfl ⟨rfl, rfl⟩ (by kernel_rfl) rfl
    (fun f fn hf hfn => by
      obtain rfl : f = 6 := Option.some.inj ((show Tryd.prog.funcNamed "sentinel/sentinellaw18.TreeautUnites" = some 6 by kernel_rfl).symm.trans hf) |>.symm
      obtain rfl : fn = Tryd.f6 := (Option.some.inj (Tryd.func6.symm.trans hfn)).symm
      exact ⟨by kernel_rfl, fun j t ht => by
        have hall : (Tryd.f6.params.toList.all fun u => !Tryd.prog.wantsStandIn u) = true := by kernel_rfl
        have hm : t ∈ Tryd.f6.params.toList := by
          rw [← Array.getElem?_toList] at ht
          exact List.mem_of_getElem? ht
        exact (show Tryd.prog.wantsStandIn t = false by simpa using List.all_eq_true.1 hall t hm)⟩)
    (by kernel_rfl)
#print axioms treeautUnites_card
end Go.Proofs.YtijmhicopfphnaaDoor
