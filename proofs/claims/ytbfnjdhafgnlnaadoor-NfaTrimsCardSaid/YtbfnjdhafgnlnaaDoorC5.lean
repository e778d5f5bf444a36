/- NfaTrims: trimming an automaton does not change the accepted words, all states of a trimmed automaton are useful and trimming it again does not change it: the statement is true of the program for every automaton and word, whatever the heap and the drawn orders; the package-level table of math/bits reads as the program's text lays it (the tied card). -/
import Derived.Test.YtbfnjdhafgnlnaaDoorAT12
import Derived.Test.YtbfnjdhafgnlnaaDoorAOk
import Derived.Test.YtbfnjdhafgnlnaaDoorAbsGlob
import Derived.Test.YtbfnjdhafgnlnaaDoorCards
import Derived.Test.YtbfnjdhafgnlnaaDoorTie
import Derived.ProofKit
import Derived.LaidMore
import Derived.Stop.Joined
import Derived.SevenTiedAt
namespace Go.Proofs.YtbfnjdhafgnlnaaDoor
open Go.ChangeShapes Go.WideShapes Go.ChangeAt Go.RowKit Go.Abs Go.Abs.NfaD

def nfaTrims_tab : List Nat := [0, 1, 56, 2, 57, 49, 28, 3, 61, 58, 42, 50, 38, 29, 17, 4, 62, 47, 59, 36, 45, 43, 51, 22, 53, 39, 33, 30, 24, 18, 12, 5, 63, 55, 48, 27, 60, 41, 37, 16, 46, 35, 44, 21, 52, 32, 23, 11, 54, 26, 40, 15, 34, 20, 31, 10, 25, 14, 19, 9, 13, 8, 7, 6]
theorem nfaTrims_glob : ∀ g cs, globs g = some cs → g = 0 ∧ cs = nfaTrims_tab.map fun (k : Nat) => AV.int .u8 k := by
  intro g cs h
  unfold globs at h
  split at h
  · rename_i e; cases h; exact ⟨e, rfl⟩
  · cases h
theorem nfaTrims_own : ownKnob Tryd.prog.godebug = none := by kernel_rfl
theorem nfaTrims_laid : laidOutB Tryd.prog = true := by kernel_rfl
theorem nfaTrims_rec : (Tryd.f5.params.toList.all fun t => Tryd.prog.readableRec t && decide (t < Tryd.prog.types.size)) = true := by kernel_rfl
theorem nfaTrims_types : Tryd.f5.params.toList.map (tyOf Tryd.prog 20) = ([TNfa, TWord] : List TS).map some := by kernel_rfl
theorem nfaTrims_met (os : Os) (args : Array Value) : laidMetH Tryd.prog Rows.nfaTrimsRow.laid ((World.doorLaid Tryd.prog 14 os).forCall (fun _ _ => 0) ⟨#[], args, []⟩).memory :=
  laidMetH_of_parts3 (fuel := 8) (laidMet_of_run' 8 (by kernel_rfl) (by kernel_rfl)) (by kernel_rfl) (by kernel_rfl)
theorem nfaTrims_globOk (W : World) (h : laidMetH Tryd.prog Rows.nfaTrimsRow.laid W) : GlobOk (imOf W) := by
  rw [MakeChecks.laidMetH_plain _ _ _ (by kernel_rfl)] at h
  exact globOk_u8 (P := Tryd.prog) (W := W) (name := "math/bits.deBruijn64tab") (g := 0) (t := (Tryd.prog.globals[0]!).type) (e := (match Tryd.prog.underlying (Tryd.prog.globals[0]!).type with | some (.array _ e) => e | _ => 0)) (n := 64) nfaTrims_tab (by kernel_rfl) (by kernel_rfl) (by kernel_rfl) (by kernel_rfl) (by kernel_rfl) (by kernel_rfl) nfaTrims_glob h

set_option maxRecDepth 100000 in
theorem nfaTrims_lifted (os : Os) (started : os.Started) (H : Type) (enc : TypeId × Value → H) :
    ReturnsInHanded {} Tryd.checked os 5 .any (fun w args => (Rows.nfaTrimsSpec.pre enc Tryd.prog Tryd.f5 [] false w args ∧ laidMetH Tryd.prog Rows.nfaTrimsRow.laid w) ∧ sizedMet enc Tryd.prog Tryd.f5 (OpenSpec.ofChange Rows.nfaTrimsSpec) false w args) (Rows.nfaTrimsSpec.post enc Tryd.prog Tryd.f5 false true false false) := by
  refine law_lifted_laid (C := Tryd.checked) (d := 20) (X := fun w => laidMetH Tryd.prog Rows.nfaTrimsRow.laid w) (fun _ _ hh h => h.of_heap hh) nfaTrims_globOk nfaTrims_own started (by kernel_rfl) Tryd.func5
    (ChangeSpec.witness_shaped (enc := enc) (C := Tryd.checked) (os := os) (X := fun w _ => laidMetH Tryd.prog Rows.nfaTrimsRow.laid w) false (World.doorLaid Tryd.prog 14 os) #[.agg #[.int .i64 0, .int .i64 0, .slice none 0 0, .slice none 0 0, .slice none 0 0], .slice none 0 0] 8 rfl (World.shaped_of_RefB (by kernel_rfl) (by kernel_rfl)) (by kernel_rfl) (by kernel_rfl) (by kernel_rfl) (nfaTrims_met os _))
    NfaD.progOk nfaTrims_laid ?_ nfaTrims_types rfl ?_ (tb := Tryd.f5.resultTypes[0]!) (by kernel_rfl) (by kernel_rfl) (fun avs h _ => NfaD.law5 avs h)
  · intro t ht
    have := List.all_eq_true.1 nfaTrims_rec t ht
    simp only [Bool.and_eq_true, decide_eq_true_eq] at this
    exact this
  · intro ds hds
    match ds, hds with
    | [_, _], _ => rfl

theorem nfaTrims_said : Rows.NfaTrimsSaid :=
  OpenClaim.holds_of_wide 5 Tryd.f5 rfl rfl rfl rfl rfl rfl rfl ⟨rfl, rfl, rfl, rfl, rfl⟩ rfl rfl rfl rfl rfl (by kernel_rfl) Tryd.func5 (by kernel_rfl)
    (of_decide_eq_true (by kernel_rfl)) (by unfold Func.isWrapper; first | (rw [if_pos (by decide +kernel)]; kernel_rfl) | (rw [if_neg (by decide +kernel)]; exact ⟨rfl, rfl⟩))
    (fun os started H enc _ => nfaTrims_lifted os started H enc)

theorem nfaTrims_card : Rows.NfaTrimsCardSaid :=
  Claim7.holds_tied_plain_at .later [] [.data] true (true, "31c9a0897527a5f9554ddc574be7821f830a9df2d1b19ede39914c7693164103") false
    nfaTrims_said (fun _ h => by cases h) (by kernel_rfl) (fun _ h => by cases h) nfaTrims_row_tie rfl ⟨rfl, rfl⟩ (by kernel_rfl) rfl
    (fun f fn hf hfn => by
      obtain rfl : f = 5 := Option.some.inj ((show Tryd.prog.funcNamed "sentinel/sentinellaw06.NfaTrims" = some 5 by kernel_rfl).symm.trans hf) |>.symm
      obtain rfl : fn = Tryd.f5 := (Option.some.inj (Tryd.func5.symm.trans hfn)).symm
      exact ⟨by kernel_rfl, fun j t ht => by
        have hall : (Tryd.f5.params.toList.all fun u => !Tryd.prog.wantsStandIn u) = true := by kernel_rfl
        have hm : t ∈ Tryd.f5.params.toList := by
          rw [← Array.getElem?_toList] at ht
          exact List.mem_of_getElem? ht
        exact (show Tryd.prog.wantsStandIn t = false by simpa using List.all_eq_true.1 hall t hm)⟩)
    (by kernel_rfl)
#print axioms nfaTrims_card
end Go.Proofs.YtbfnjdhafgnlnaaDoor
