/- MealyExamples returns true, for every world that the statement allows: the examples of chapter 34, the order of errors, and limits. -/
import Derived.Test.YtkpbekcgigigkaaDoorAX8
import Derived.Test.YtkpbekcgigigkaaDoorAOk
import Derived.Test.YtkpbekcgigigkaaDoorAbsGlob
import Derived.Test.YtkpbekcgigigkaaDoorCards
import Derived.Test.YtkpbekcgigigkaaDoorTie
import Derived.ProofKit
import Derived.LaidMore
import Derived.Lay
import Derived.Stop.Joined
import Derived.SevenTiedAt
namespace Go.Proofs.YtkpbekcgigigkaaDoor
open Go.ChangeShapes Go.WideShapes Go.ChangeAt Go.RowKit Go.Abs Go.Abs.Mealy

theorem mealyExamples_own : ownKnob Tryd.prog.godebug = none := by kernel_rfl
theorem mealyExamples_laid : laidOutB Tryd.prog = true := by kernel_rfl
theorem mealyExamples_rec : (Tryd.f8.params.toList.all fun t => Tryd.prog.readableRec t && decide (t < Tryd.prog.types.size)) = true := by kernel_rfl
theorem mealyExamples_types : Tryd.f8.params.toList.map (tyOf Tryd.prog 20) = ([] : List TS).map some := by kernel_rfl
theorem mealyExamples_globOk (W : World) (_ : laidMetH Tryd.prog Rows.mealyExamplesRow.laid W) : GlobOk (imOf W) := by
  intro g cs hg
  cases (show (globs g) = none from rfl).symm.trans hg

set_option maxRecDepth 100000 in
theorem mealyExamples_lifted (os : Os) (started : os.Started) (H : Type) (enc : TypeId × Value → H) :
    ReturnsInHanded {} Tryd.checked os 8 .any (fun w args => (Rows.mealyExamplesSpec.pre enc Tryd.prog Tryd.f8 [] false w args ∧ laidMetH Tryd.prog Rows.mealyExamplesRow.laid w) ∧ sizedMet enc Tryd.prog Tryd.f8 (OpenSpec.ofChange Rows.mealyExamplesSpec) false w args) (Rows.mealyExamplesSpec.post enc Tryd.prog Tryd.f8 false true false false) := by
  refine law_lifted_laid (C := Tryd.checked) (d := 20) (X := fun w => laidMetH Tryd.prog Rows.mealyExamplesRow.laid w) (fun _ _ hh h => h.of_heap hh) mealyExamples_globOk mealyExamples_own started (by kernel_rfl) Tryd.func8
    (ChangeSpec.witness_shaped (enc := enc) (C := Tryd.checked) (os := os) (X := fun w _ => laidMetH Tryd.prog Rows.mealyExamplesRow.laid w) false (World.laidAll Tryd.prog os Rows.mealyExamplesRow.laid) #[] 8 (World.laidAll_os _ _ _) (World.shaped_of_ZipB (by kernel_rfl) (by kernel_rfl)) (by kernel_rfl) (by kernel_rfl) (by kernel_rfl) (by rw [MakeChecks.laidMetH_plain _ _ _ (by kernel_rfl)]; exact laidMet_laidAll _ (by kernel_rfl) (by kernel_rfl)))
    Mealy.progOk mealyExamples_laid ?_ mealyExamples_types rfl ?_ (tb := Tryd.f8.resultTypes[0]!) (by kernel_rfl) (by kernel_rfl) (fun avs h _ => Mealy.law8 avs h)
  · intro t ht
    have := List.all_eq_true.1 mealyExamples_rec t ht
    simp only [Bool.and_eq_true, decide_eq_true_eq] at this
    exact this
  · intro ds hds
    match ds, hds with
    | [], _ => rfl

theorem mealyExamples_said : Rows.MealyExamplesSaid :=
  OpenClaim.holds_of_wide 8 Tryd.f8 rfl rfl rfl rfl rfl rfl rfl ⟨rfl, rfl, rfl, rfl, rfl⟩ rfl rfl rfl rfl rfl (by kernel_rfl) Tryd.func8 (by kernel_rfl)
    (of_decide_eq_true (by kernel_rfl)) (by unfold Func.isWrapper; first | (rw [if_pos (by decide +kernel)]; kernel_rfl) | (rw [if_neg (by decide +kernel)]; exact ⟨rfl, rfl⟩))
    (fun os started H enc _ => mealyExamples_lifted os started H enc)

theorem mealyExamples_card : Rows.MealyExamplesCardSaid :=
  Claim7.holds_tied_plain_at .later [] [.data, .data, .data] true (true, "8f29363363e7e3f60b588ba9987ca75bc114b837e402e67eb701aefd772f4ece") false
    mealyExamples_said (fun _ h => by cases h) (by kernel_rfl) (fun _ h => by cases h) mealyExamples_row_tie rfl ⟨rfl, rfl⟩ (by kernel_rfl) rfl
    (fun f fn hf hfn => by
      obtain rfl : f = 8 := Option.some.inj ((show Tryd.prog.funcNamed "sentinel/sentinellaw34.MealyExamples" = some 8 by kernel_rfl).symm.trans hf) |>.symm
      obtain rfl : fn = Tryd.f8 := (Option.some.inj (Tryd.func8.symm.trans hfn)).symm
      exact ⟨by kernel_rfl, fun j t ht => by
        have hall : (Tryd.f8.params.toList.all fun u => !Tryd.prog.wantsStandIn u) = true := by kernel_rfl
        have hm : t ∈ Tryd.f8.params.toList := by
          rw [← Array.getElem?_toList] at ht
          exact List.mem_of_getElem? ht
        exact (show Tryd.prog.wantsStandIn t = false by simpa using List.all_eq_true.1 hall t hm)⟩)
    (by kernel_rfl)
#print axioms mealyExamples_card
end Go.Proofs.YtkpbekcgigigkaaDoor
