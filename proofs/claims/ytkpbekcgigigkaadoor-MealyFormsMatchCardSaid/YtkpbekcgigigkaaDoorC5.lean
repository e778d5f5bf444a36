/- MealyFormsMatch returns true,for every world that the statement allows: Minimize and Equal return what the reference returns,the arguments are not changed,and results may be overwritten. -/
import Derived.Test.YtkpbekcgigigkaaDoorAO3
import Derived.Test.YtkpbekcgigigkaaDoorAOk
import Derived.Test.YtkpbekcgigigkaaDoorAbsGlob
import Derived.Test.YtkpbekcgigigkaaDoorCards
import Derived.Test.YtkpbekcgigigkaaDoorTie
import Derived.ProofKit
import Derived.LaidMore
import Derived.Lay
import Derived.Stop.Joined
import Derived.SevenTiedAt
namespace Go.Proofs.YtkpbekcgigigkaaDoor
open Go.ChangeShapes Go.WideShapes Go.ChangeAt Go.RowKit Go.Abs Go.Abs.Mealy
theorem xEY : ownKnob Tryd.prog.godebug = none := by kernel_rfl
theorem xEL : laidOutB Tryd.prog = true := by kernel_rfl
theorem xEZ : (Tryd.f5.params.toList.all fun t => Tryd.prog.readableRec t && decide (t < Tryd.prog.types.size)) = true := by kernel_rfl
theorem xD4 : Tryd.f5.params.toList.map (yEh Tryd.prog 20) = ([TMa,TMa] : List TS).map some := by kernel_rfl
theorem xDV (W : World) (_ : laidMetH Tryd.prog Rows.mealyFormsMatchRow.laid W) : GlobOk (xMi W) := by
 intro g cs hg
 cases (show (xUp g) = none from rfl).symm.trans hg
set_option maxRecDepth 100000 in
theorem xDW (os : Os) (started : os.Started) (H : Type) (enc : TypeId × Value → H) :
  ReturnsInHanded {} Tryd.checked os 5 .any (fun w args => (Rows.mealyFormsMatchSpec.pre enc Tryd.prog Tryd.f5 [] false w args ∧ laidMetH Tryd.prog Rows.mealyFormsMatchRow.laid w) ∧ sizedMet enc Tryd.prog Tryd.f5 (OpenSpec.ofChange Rows.mealyFormsMatchSpec) false w args) (Rows.mealyFormsMatchSpec.post enc Tryd.prog Tryd.f5 false true false false) := by
 refine xHs (C := Tryd.checked) (d := 20) (X := fun w => laidMetH Tryd.prog Rows.mealyFormsMatchRow.laid w) (fun _ _ hh h => h.of_heap hh) xDV xEY started (by kernel_rfl) Tryd.func5
  (ChangeSpec.witness_shaped (enc := enc) (C := Tryd.checked) (os := os) (X := fun w _ => laidMetH Tryd.prog Rows.mealyFormsMatchRow.laid w) false (World.laidAll Tryd.prog os Rows.mealyFormsMatchRow.laid) #[.agg #[.int .i64 0,.int .i64 0,.int .i64 0,.slice none 0 0,.slice none 0 0],.agg #[.int .i64 0,.int .i64 0,.int .i64 0,.slice none 0 0,.slice none 0 0]] 8 (World.laidAll_os _ _ _) (World.shaped_of_ZipB (by kernel_rfl) (by kernel_rfl)) (by kernel_rfl) (by kernel_rfl) (by kernel_rfl) (by rw [MakeChecks.laidMetH_plain _ _ _ (by kernel_rfl)]; exact laidMet_laidAll _ (by kernel_rfl) (by kernel_rfl)))
  Mealy.progOk xEL ?_ xD4 rfl ?_ (tb := Tryd.f5.resultTypes[0]!) (by kernel_rfl) (by kernel_rfl) (fun avs h _ => Mealy.law5 avs h)
 ·intro t ht
  have := List.all_eq_true.1 xEZ t ht
  simp only [Bool.and_eq_true,decide_eq_true_eq] at this
  exact this
 ·intro ds hds
  match ds,hds with
  | [_,_],_ => rfl
theorem xEM : Rows.MealyFormsMatchSaid :=
 OpenClaim.holds_of_wide 5 Tryd.f5 rfl rfl rfl rfl rfl rfl rfl ⟨rfl,rfl,rfl,rfl,rfl⟩ rfl rfl rfl rfl rfl (by kernel_rfl) Tryd.func5 (by kernel_rfl)
  (of_decide_eq_true (by kernel_rfl)) (by unfold Func.isWrapper; first | (rw [if_pos (by decide +kernel)]; kernel_rfl) | (rw [if_neg (by decide +kernel)]; exact ⟨rfl,rfl⟩))
  (fun os started H enc _ => xDW os started H enc)
theorem mealyFormsMatch_card : Rows.MealyFormsMatchCardSaid :=
 Claim7.holds_tied_plain_at .later [] [.data,.data,.data] true (true, "8f29363363e7e3f60b588ba9987ca75bc114b837e402e67eb701aefd772f4ece") false
  xEM (fun _ h => by cases h) (by kernel_rfl) (fun _ h => by cases h) mealyFormsMatch_row_tie rfl ⟨rfl,rfl⟩ (by kernel_rfl) rfl
  (fun f fn hf hfn => by
   obtain rfl : f = 5 := Option.some.inj ((show Tryd.prog.funcNamed "sentinel/sentinellaw34.MealyFormsMatch" = some 5 by kernel_rfl).symm.trans hf) |>.symm
   obtain rfl : fn = Tryd.f5 := (Option.some.inj (Tryd.func5.symm.trans hfn)).symm
   exact ⟨by kernel_rfl,fun j t ht => by
    have hall : (Tryd.f5.params.toList.all fun u => !Tryd.prog.wantsStandIn u) = true := by kernel_rfl
    have hm : t ∈ Tryd.f5.params.toList := by
     rw [← Array.getElem?_toList] at ht
     exact List.mem_of_getElem? ht
    exact (show Tryd.prog.wantsStandIn t = false by simpa using List.all_eq_true.1 hall t hm)⟩)
  (by kernel_rfl)
#print axioms mealyFormsMatch_card
end Go.Proofs.YtkpbekcgigigkaaDoor
