/- MealyPlays returns true,for every world that the statement allows: the xBc of a play is the machine's xBc for the inputs that the environment gives,and the environment follows the outputs. -/
import Derived.Test.YtkpbekcgigigkaaDoorAQ5
import Derived.Test.YtkpbekcgigigkaaDoorAOk
import Derived.Test.YtkpbekcgigigkaaDoorAbsGlob
import Derived.Test.YtkpbekcgigigkaaDoorCards
import Derived.Test.YtkpbekcgigigkaaDoorTie
import Derived.ProofKit
import Derived.LaidMore
import Derived.Lay
import Derived.Stop.Joined
import Derived.SevenTiedAt
namespace Go.Proofs.YtkpbekcgigigkaaDoor
open Go.ChangeShapes Go.WideShapes Go.ChangeAt Go.RowKit Go.Abs Go.Abs.Mealy
theorem xIp : ownKnob Tryd.prog.godebug = none := by kernel_rfl
theorem xGz : laidOutB Tryd.prog = true := by kernel_rfl
theorem xIq : (Tryd.f9.params.toList.all fun t => Tryd.prog.readableRec t && decide (t < Tryd.prog.types.size)) = true := by kernel_rfl
theorem xGj : Tryd.f9.params.toList.map (xZk Tryd.prog 20) = ([TMa,TMo,TU8] : List TS).map some := by kernel_rfl
theorem xFd (W : World) (_ : laidMetH Tryd.prog Rows.mealyPlaysRow.laid W) : GlobOk (xKH W) := by
  intro g cs hg
  cases (show (xVD g) = none from rfl).symm.trans hg
set_option maxRecDepth 100000 in
theorem xFe (os : Os) (started : os.Started) (H : Type) (enc : TypeId × Value → H) :
    ReturnsInHanded {} Tryd.checked os 9 .any (fun w args => (Rows.mealyPlaysSpec.pre enc Tryd.prog Tryd.f9 [] false w args ∧ laidMetH Tryd.prog Rows.mealyPlaysRow.laid w) ∧ sizedMet enc Tryd.prog Tryd.f9 (OpenSpec.ofChange Rows.mealyPlaysSpec) false w args) (Rows.mealyPlaysSpec.post enc Tryd.prog Tryd.f9 false true false false) := by
  refine xGB (C := Tryd.checked) (d := 20) (X := fun w => laidMetH Tryd.prog Rows.mealyPlaysRow.laid w) (fun _ _ hh h => h.of_heap hh) xFd xIp started (by kernel_rfl) Tryd.func9
    (ChangeSpec.witness_shaped (enc := enc) (C := Tryd.checked) (os := os) (X := fun w _ => laidMetH Tryd.prog Rows.mealyPlaysRow.laid w) false (World.laidAll Tryd.prog os Rows.mealyPlaysRow.laid) #[.agg #[.int .i64 0,.int .i64 0,.int .i64 0,.slice none 0 0,.slice none 0 0],.agg #[.int .i64 0,.int .i64 0,.int .i64 0,.slice none 0 0,.slice none 0 0],.int .u8 0] 8 (World.laidAll_os _ _ _) (World.shaped_of_ZipB (by kernel_rfl) (by kernel_rfl)) (by kernel_rfl) (by kernel_rfl) (by kernel_rfl) (by rw [MakeChecks.laidMetH_plain _ _ _ (by kernel_rfl)]; exact laidMet_laidAll _ (by kernel_rfl) (by kernel_rfl)))
    Mealy.progOk xGz ?_ xGj rfl ?_ (tb := Tryd.f9.resultTypes[0]!) (by kernel_rfl) (by kernel_rfl) (fun avs h _ => Mealy.law9 avs h)
  · intro t ht
    have := List.all_eq_true.1 xIq t ht
    simp only [Bool.and_eq_true,decide_eq_true_eq] at this
    exact this
  · intro ds hds
    match ds,hds with
    | [_,_,_],_ => rfl
theorem xGA : Rows.MealyPlaysSaid :=
  OpenClaim.holds_of_wide 9 Tryd.f9 rfl rfl rfl rfl rfl rfl rfl ⟨rfl,rfl,rfl,rfl,rfl⟩ rfl rfl rfl rfl rfl (by kernel_rfl) Tryd.func9 (by kernel_rfl)
    (of_decide_eq_true (by kernel_rfl)) (by unfold Func.isWrapper; first | (rw [if_pos (by decide +kernel)]; kernel_rfl) | (rw [if_neg (by decide +kernel)]; exact ⟨rfl,rfl⟩))
    (fun os started H enc _ => xFe os started H enc)
theorem mealyPlays_card : Rows.MealyPlaysCardSaid :=
  Claim7.holds_tied_plain_at .later [] [.data,.data,.data] true (true, "8f29363363e7e3f60b588ba9987ca75bc114b837e402e67eb701aefd772f4ece") false
    xGA (fun _ h => by cases h) (by kernel_rfl) (fun _ h => by cases h) mealyPlays_row_tie rfl ⟨rfl,rfl⟩ (by kernel_rfl) rfl
    (fun f fn hf hfn => by
      obtain rfl : f = 9 := Option.some.inj ((show Tryd.prog.funcNamed "sentinel/sentinellaw34.MealyPlays" = some 9 by kernel_rfl).symm.trans hf) |>.symm
      obtain rfl : fn = Tryd.f9 := (Option.some.inj (Tryd.func9.symm.trans hfn)).symm
      exact ⟨by kernel_rfl,fun j t ht => by
        have hall : (Tryd.f9.params.toList.all fun u => !Tryd.prog.wantsStandIn u) = true := by kernel_rfl
        have hm : t ∈ Tryd.f9.params.toList := by
          rw [← Array.getElem?_toList] at ht
          exact List.mem_of_getElem? ht
        exact (show Tryd.prog.wantsStandIn t = false by simpa using List.all_eq_true.1 hall t hm)⟩)
    (by kernel_rfl)
#print axioms mealyPlays_card
end Go.Proofs.YtkpbekcgigigkaaDoor
