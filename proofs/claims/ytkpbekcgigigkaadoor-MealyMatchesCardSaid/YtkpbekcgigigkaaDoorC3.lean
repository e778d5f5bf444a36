/- MealyMatches returns true,for every world that the statement allows: Check,Run and Lasso return what the reference returns,the arguments are not changed,and results may be overwritten. -/
import Derived.Test.YtkpbekcgigigkaaDoorAU8
import Derived.Test.YtkpbekcgigigkaaDoorAOk
import Derived.Test.YtkpbekcgigigkaaDoorAbsGlob
import Derived.Test.YtkpbekcgigigkaaDoorCards
import Derived.Test.YtkpbekcgigigkaaDoorTie
import Derived.ProofKit
import Derived.LaidMore
import Derived.Lay
import Derived.Stop.Joined
import Derived.SevenTiedAt
namespace Go.Proofs.YtkpbekcgigigkaaDoor
open Go.ChangeShapes Go.WideShapes Go.ChangeAt Go.RowKit Go.Abs Go.Abs.Mealy
theorem xGP : ownKnob Tryd.prog.godebug = none := by kernel_rfl
theorem xFI : laidOutB Tryd.prog = true := by kernel_rfl
theorem xGQ : (Tryd.f3.params.toList.all fun t => Tryd.prog.readableRec t && decide (t < Tryd.prog.types.size)) = true := by kernel_rfl
theorem xEW : Tryd.f3.params.toList.map (yBk Tryd.prog 20) = ([TMa,yCI,yDX] : List TS).map some := by kernel_rfl
theorem xEE (W : World) (_ : laidMetH Tryd.prog Rows.mealyMatchesRow.laid W) : GlobOk (xLk W) := by
  intro g cs hg
  cases (show (xW9 g) = none from rfl).symm.trans hg
set_option maxRecDepth 100000 in
theorem xEF (os : Os) (started : os.Started) (H : Type) (enc : TypeId × Value → H) :
    ReturnsInHanded {} Tryd.checked os 3 .any (fun w args => (Rows.mealyMatchesSpec.pre enc Tryd.prog Tryd.f3 [] false w args ∧ laidMetH Tryd.prog Rows.mealyMatchesRow.laid w) ∧ sizedMet enc Tryd.prog Tryd.f3 (OpenSpec.ofChange Rows.mealyMatchesSpec) false w args) (Rows.mealyMatchesSpec.post enc Tryd.prog Tryd.f3 false true false false) := by
  refine xG4 (C := Tryd.checked) (d := 20) (X := fun w => laidMetH Tryd.prog Rows.mealyMatchesRow.laid w) (fun _ _ hh h => h.of_heap hh) xEE xGP started (by kernel_rfl) Tryd.func3
    (ChangeSpec.witness_shaped (enc := enc) (C := Tryd.checked) (os := os) (X := fun w _ => laidMetH Tryd.prog Rows.mealyMatchesRow.laid w) false (World.laidAll Tryd.prog os Rows.mealyMatchesRow.laid) #[.agg #[.int .i64 0,.int .i64 0,.int .i64 0,.slice none 0 0,.slice none 0 0],.slice none 0 0,.agg #[.slice none 0 0,.slice none 0 0]] 8 (World.laidAll_os _ _ _) (World.shaped_of_ZipB (by kernel_rfl) (by kernel_rfl)) (by kernel_rfl) (by kernel_rfl) (by kernel_rfl) (by rw [MakeChecks.laidMetH_plain _ _ _ (by kernel_rfl)]; exact laidMet_laidAll _ (by kernel_rfl) (by kernel_rfl)))
    Mealy.progOk xFI ?_ xEW rfl ?_ (tb := Tryd.f3.resultTypes[0]!) (by kernel_rfl) (by kernel_rfl) (fun avs h _ => Mealy.law3 avs h)
  · intro t ht
    have := List.all_eq_true.1 xGQ t ht
    simp only [Bool.and_eq_true,decide_eq_true_eq] at this
    exact this
  · intro ds hds
    match ds,hds with
    | [_,_,_],_ => rfl
theorem xFJ : Rows.MealyMatchesSaid :=
  OpenClaim.holds_of_wide 3 Tryd.f3 rfl rfl rfl rfl rfl rfl rfl ⟨rfl,rfl,rfl,rfl,rfl⟩ rfl rfl rfl rfl rfl (by kernel_rfl) Tryd.func3 (by kernel_rfl)
    (of_decide_eq_true (by kernel_rfl)) (by unfold Func.isWrapper; first | (rw [if_pos (by decide +kernel)]; kernel_rfl) | (rw [if_neg (by decide +kernel)]; exact ⟨rfl,rfl⟩))
    (fun os started H enc _ => xEF os started H enc)
theorem mealyMatches_card : Rows.MealyMatchesCardSaid :=
  Claim7.holds_tied_plain_at .later [] [.data,.data,.data] true (true, "8f29363363e7e3f60b588ba9987ca75bc114b837e402e67eb701aefd772f4ece") false
    xFJ (fun _ h => by cases h) (by kernel_rfl) (fun _ h => by cases h) mealyMatches_row_tie rfl ⟨rfl,rfl⟩ (by kernel_rfl) rfl
    (fun f fn hf hfn => by
      obtain rfl : f = 3 := Option.some.inj ((show Tryd.prog.funcNamed "sentinel/sentinellaw34.MealyMatches" = some 3 by kernel_rfl).symm.trans hf) |>.symm
      obtain rfl : fn = Tryd.f3 := (Option.some.inj (Tryd.func3.symm.trans hfn)).symm
      exact ⟨by kernel_rfl,fun j t ht => by
        have hall : (Tryd.f3.params.toList.all fun u => !Tryd.prog.wantsStandIn u) = true := by kernel_rfl
        have hm : t ∈ Tryd.f3.params.toList := by
          rw [← Array.getElem?_toList] at ht
          exact List.mem_of_getElem? ht
        exact (show Tryd.prog.wantsStandIn t = false by simpa using List.all_eq_true.1 hall t hm)⟩)
    (by kernel_rfl)
#print axioms mealyMatches_card
end Go.Proofs.YtkpbekcgigigkaaDoor
