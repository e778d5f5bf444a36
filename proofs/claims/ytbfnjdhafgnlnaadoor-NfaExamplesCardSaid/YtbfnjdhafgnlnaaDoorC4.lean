/- NfaExamples returns true,for every world that the statement allows: the examples of the chapter,the order of errors,the limits,and automata without states. -/
import Derived.Test.YtbfnjdhafgnlnaaDoorAX2
import Derived.Test.YtbfnjdhafgnlnaaDoorAOk
import Derived.Test.YtbfnjdhafgnlnaaDoorAbsGlob
import Derived.Test.YtbfnjdhafgnlnaaDoorCards
import Derived.Test.YtbfnjdhafgnlnaaDoorTie
import Derived.ProofKit
import Derived.LaidMore
import Derived.Stop.Joined
import Derived.SevenTiedAt
namespace Go.Proofs.YtbfnjdhafgnlnaaDoor
open Go.ChangeShapes Go.WideShapes Go.ChangeAt Go.RowKit Go.Abs Go.Abs.NfaD
def nfaExamples_tab : List Nat := [0,1,56,2,57,49,28,3,61,58,42,50,38,29,17,4,62,47,59,36,45,43,51,22,53,39,33,30,24,18,12,5,63,55,48,27,60,41,37,16,46,35,44,21,52,32,23,11,54,26,40,15,34,20,31,10,25,14,19,9,13,8,7,6]
theorem xH1 : ∀ g cs,xIP g = some cs → g = 0 ∧ cs = nfaExamples_tab.map fun (k : Nat) => AV.int .u8 k := by
  intro g cs h
  unfold xIP at h
  split at h
  · rename_i e; cases h; exact ⟨e,rfl⟩
  · cases h
theorem xIl : ownKnob Tryd.prog.godebug = none := by kernel_rfl
theorem xH2 : laidOutB Tryd.prog = true := by kernel_rfl
theorem xIm : (Tryd.f4.params.toList.all fun t => Tryd.prog.readableRec t && decide (t < Tryd.prog.types.size)) = true := by kernel_rfl
theorem xG5 : Tryd.f4.params.toList.map (xXM Tryd.prog 20) = ([] : List TS).map some := by kernel_rfl
theorem xIn (os : Os) (args : Array Value) : laidMetH Tryd.prog Rows.nfaExamplesRow.laid ((World.doorLaid Tryd.prog 14 os).forCall (fun _ _ => 0) ⟨#[],args,[]⟩).memory :=
  laidMetH_of_parts3 (fuel := 8) (laidMet_of_run' 8 (by kernel_rfl) (by kernel_rfl)) (by kernel_rfl) (by kernel_rfl)
theorem xGl (W : World) (h : laidMetH Tryd.prog Rows.nfaExamplesRow.laid W) : GlobOk (xKg W) := by
  rw [MakeChecks.laidMetH_plain _ _ _ (by kernel_rfl)] at h
  exact xRE (P := Tryd.prog) (W := W) (name := "math/bits.deBruijn64tab") (g := 0) (t := (Tryd.prog.globals[0]!).type) (e := (match Tryd.prog.underlying (Tryd.prog.globals[0]!).type with | some (.array _ e) => e | _ => 0)) (n := 64) nfaExamples_tab (by kernel_rfl) (by kernel_rfl) (by kernel_rfl) (by kernel_rfl) (by kernel_rfl) (by kernel_rfl) xH1 h
set_option maxRecDepth 100000 in
theorem xGm (os : Os) (started : os.Started) (H : Type) (enc : TypeId × Value → H) :
    ReturnsInHanded {} Tryd.checked os 4 .any (fun w args => (Rows.nfaExamplesSpec.pre enc Tryd.prog Tryd.f4 [] false w args ∧ laidMetH Tryd.prog Rows.nfaExamplesRow.laid w) ∧ sizedMet enc Tryd.prog Tryd.f4 (OpenSpec.ofChange Rows.nfaExamplesSpec) false w args) (Rows.nfaExamplesSpec.post enc Tryd.prog Tryd.f4 false true false false) := by
  refine xIo (C := Tryd.checked) (d := 20) (X := fun w => laidMetH Tryd.prog Rows.nfaExamplesRow.laid w) (fun _ _ hh h => h.of_heap hh) xGl xIl started (by kernel_rfl) Tryd.func4
    (ChangeSpec.witness_shaped (enc := enc) (C := Tryd.checked) (os := os) (X := fun w _ => laidMetH Tryd.prog Rows.nfaExamplesRow.laid w) false (World.doorLaid Tryd.prog 14 os) #[] 8 rfl (World.shaped_of_RefB (by kernel_rfl) (by kernel_rfl)) (by kernel_rfl) (by kernel_rfl) (by kernel_rfl) (xIn os _))
    NfaD.progOk xH2 ?_ xG5 rfl ?_ (tb := Tryd.f4.resultTypes[0]!) (by kernel_rfl) (by kernel_rfl) (fun avs h _ => NfaD.law4 avs h)
  · intro t ht
    have := List.all_eq_true.1 xIm t ht
    simp only [Bool.and_eq_true,decide_eq_true_eq] at this
    exact this
  · intro ds hds
    match ds,hds with
    | [],_ => rfl
theorem xH3 : Rows.NfaExamplesSaid :=
  OpenClaim.holds_of_wide 4 Tryd.f4 rfl rfl rfl rfl rfl rfl rfl ⟨rfl,rfl,rfl,rfl,rfl⟩ rfl rfl rfl rfl rfl (by kernel_rfl) Tryd.func4 (by kernel_rfl)
    (of_decide_eq_true (by kernel_rfl)) (by unfold Func.isWrapper; first | (rw [if_pos (by decide +kernel)]; kernel_rfl) | (rw [if_neg (by decide +kernel)]; exact ⟨rfl,rfl⟩))
    (fun os started H enc _ => xGm os started H enc)
theorem nfaExamples_card : Rows.NfaExamplesCardSaid :=
  Claim7.holds_tied_plain_at .later [] [.data] true (true, "31c9a0897527a5f9554ddc574be7821f830a9df2d1b19ede39914c7693164103") false
    xH3 (fun _ h => by cases h) (by kernel_rfl) (fun _ h => by cases h) nfaExamples_row_tie rfl ⟨rfl,rfl⟩ (by kernel_rfl) rfl
    (fun f fn hf hfn => by
      obtain rfl : f = 4 := Option.some.inj ((show Tryd.prog.funcNamed "sentinel/sentinellaw06.NfaExamples" = some 4 by kernel_rfl).symm.trans hf) |>.symm
      obtain rfl : fn = Tryd.f4 := (Option.some.inj (Tryd.func4.symm.trans hfn)).symm
      exact ⟨by kernel_rfl,fun j t ht => by
        have hall : (Tryd.f4.params.toList.all fun u => !Tryd.prog.wantsStandIn u) = true := by kernel_rfl
        have hm : t ∈ Tryd.f4.params.toList := by
          rw [← Array.getElem?_toList] at ht
          exact List.mem_of_getElem? ht
        exact (show Tryd.prog.wantsStandIn t = false by simpa using List.all_eq_true.1 hall t hm)⟩)
    (by kernel_rfl)
#print axioms nfaExamples_card
end Go.Proofs.YtbfnjdhafgnlnaaDoor
