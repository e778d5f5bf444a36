/- MealyRuns returns true,for every world that the statement allows: outputs of a prefix are a prefix of the outputs,states and outputs follow the tables,and the lasso contains the outputs of its first letters. -/
import Derived.Test.YtkpbekcgigigkaaDoorAQ3
import Derived.Test.YtkpbekcgigigkaaDoorAOk
import Derived.Test.YtkpbekcgigigkaaDoorAbsGlob
import Derived.Test.YtkpbekcgigigkaaDoorCards
import Derived.Test.YtkpbekcgigigkaaDoorTie
import Derived.ProofKit
import Derived.LaidMore
import Derived.Lay
import Derived.Stop.Joined
import Derived.SevenTiedAt
namespace Go.Proofs.YtkpbekcgigigkaaDoor
open Go.ChangeShapes Go.WideShapes Go.ChangeAt Go.RowKit Go.Abs Go.Abs.Mealy
theorem xKn : ownKnob Tryd.prog.godebug = none := by kernel_rfl
theorem xIe : laidOutB Tryd.prog = true := by kernel_rfl
theorem xKo : (Tryd.f10.params.toList.all fun t => Tryd.prog.readableRec t && decide (t < Tryd.prog.types.size)) = true := by kernel_rfl
theorem xGm : Tryd.f10.params.toList.map (xY0 Tryd.prog 20) = ([TMa,yBN,TU8] : List TS).map some := by kernel_rfl
theorem xF9 (W : World) (_ : laidMetH Tryd.prog Rows.mealyRunsRow.laid W) : GlobOk (xKr W) := by
  intro g cs hg
  cases (show (xVf g) = none from rfl).symm.trans hg
set_option maxRecDepth 100000 in
theorem xGa (os : Os) (started : os.Started) (H : Type) (enc : TypeId × Value → H) :
    ReturnsInHanded {} Tryd.checked os 10 .any (fun w args => (Rows.mealyRunsSpec.pre enc Tryd.prog Tryd.f10 [] false w args ∧ laidMetH Tryd.prog Rows.mealyRunsRow.laid w) ∧ sizedMet enc Tryd.prog Tryd.f10 (OpenSpec.ofChange Rows.mealyRunsSpec) false w args) (Rows.mealyRunsSpec.post enc Tryd.prog Tryd.f10 false true false false) := by
  refine xGn (C := Tryd.checked) (d := 20) (X := fun w => laidMetH Tryd.prog Rows.mealyRunsRow.laid w) (fun _ _ hh h => h.of_heap hh) xF9 xKn started (by kernel_rfl) Tryd.func10
    (ChangeSpec.witness_shaped (enc := enc) (C := Tryd.checked) (os := os) (X := fun w _ => laidMetH Tryd.prog Rows.mealyRunsRow.laid w) false (World.laidAll Tryd.prog os Rows.mealyRunsRow.laid) #[.agg #[.int .i64 0,.int .i64 0,.int .i64 0,.slice none 0 0,.slice none 0 0],.agg #[.slice none 0 0,.slice none 0 0],.int .u8 0] 8 (World.laidAll_os _ _ _) (World.shaped_of_ZipB (by kernel_rfl) (by kernel_rfl)) (by kernel_rfl) (by kernel_rfl) (by kernel_rfl) (by rw [MakeChecks.laidMetH_plain _ _ _ (by kernel_rfl)]; exact laidMet_laidAll _ (by kernel_rfl) (by kernel_rfl)))
    Mealy.progOk xIe ?_ xGm rfl ?_ (tb := Tryd.f10.resultTypes[0]!) (by kernel_rfl) (by kernel_rfl) (fun avs h _ => Mealy.law10 avs h)
  · intro t ht
    have := List.all_eq_true.1 xKo t ht
    simp only [Bool.and_eq_true,decide_eq_true_eq] at this
    exact this
  · intro ds hds
    match ds,hds with
    | [_,_,_],_ => rfl
theorem xIf : Rows.MealyRunsSaid :=
  OpenClaim.holds_of_wide 10 Tryd.f10 rfl rfl rfl rfl rfl rfl rfl ⟨rfl,rfl,rfl,rfl,rfl⟩ rfl rfl rfl rfl rfl (by kernel_rfl) Tryd.func10 (by kernel_rfl)
    (of_decide_eq_true (by kernel_rfl)) (by unfold Func.isWrapper; first | (rw [if_pos (by decide +kernel)]; kernel_rfl) | (rw [if_neg (by decide +kernel)]; exact ⟨rfl,rfl⟩))
    (fun os started H enc _ => xGa os started H enc)
theorem mealyRuns_card : Rows.MealyRunsCardSaid :=
  Claim7.holds_tied_plain_at .later [] [.data,.data,.data] true (true, "8f29363363e7e3f60b588ba9987ca75bc114b837e402e67eb701aefd772f4ece") false
    xIf (fun _ h => by cases h) (by kernel_rfl) (fun _ h => by cases h) mealyRuns_row_tie rfl ⟨rfl,rfl⟩ (by kernel_rfl) rfl
    (fun f fn hf hfn => by
      obtain rfl : f = 10 := Option.some.inj ((show Tryd.prog.funcNamed "sentinel/sentinellaw34.MealyRuns" = some 10 by kernel_rfl).symm.trans hf) |>.symm
      obtain rfl : fn = Tryd.f10 := (Option.some.inj (Tryd.func10.symm.trans hfn)).symm
      exact ⟨by kernel_rfl,fun j t ht => by
        have hall : (Tryd.f10.params.toList.all fun u => !Tryd.prog.wantsStandIn u) = true := by kernel_rfl
        have hm : t ∈ Tryd.f10.params.toList := by
          rw [← Array.getElem?_toList] at ht
          exact List.mem_of_getElem? ht
        exact (show Tryd.prog.wantsStandIn t = false by simpa using List.all_eq_true.1 hall t hm)⟩)
    (by kernel_rfl)
#print axioms mealyRuns_card
end Go.Proofs.YtkpbekcgigigkaaDoor
