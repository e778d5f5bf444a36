/- NfaBuilds returns true for all automata and every world that the statement allows: Reachable,Productive,Trim,Reverse and Union return what the reference returns,leave their arguments alone,and their results may be overwritten. -/
import Derived.Test.YtbfnjdhafgnlnaaDoorAMI
import Derived.Test.YtbfnjdhafgnlnaaDoorAOk
import Derived.Test.YtbfnjdhafgnlnaaDoorAbsGlob
import Derived.Test.YtbfnjdhafgnlnaaDoorCards
import Derived.Test.YtbfnjdhafgnlnaaDoorTie
import Derived.ProofKit
import Derived.LaidMore
import Derived.Stop.Joined
import Derived.SevenTiedAt
namespace Go.Proofs.YtbfnjdhafgnlnaaDoor
open Go.ChangeShapes Go.WideShapes Go.ChangeAt Go.RowKit Go.Abs Go.Abs.NfaD
def nfaBuilds_tab : List Nat := [0,1,56,2,57,49,28,3,61,58,42,50,38,29,17,4,62,47,59,36,45,43,51,22,53,39,33,30,24,18,12,5,63,55,48,27,60,41,37,16,46,35,44,21,52,32,23,11,54,26,40,15,34,20,31,10,25,14,19,9,13,8,7,6]
theorem xNR : ∀ g cs,xNV g = some cs → g = 0 ∧ cs = nfaBuilds_tab.map fun (k : Nat) => AV.int .u8 k := by
 intro g cs h
 unfold xNV at h
 split at h
 ·rename_i e; cases h; exact ⟨e,rfl⟩
 ·cases h
theorem xPY : ownKnob Tryd.prog.godebug = none := by kernel_rfl
theorem xNS : laidOutB Tryd.prog = true := by kernel_rfl
theorem xPZ : (Tryd.f3.params.toList.all fun t => Tryd.prog.readableRec t && decide (t < Tryd.prog.types.size)) = true := by kernel_rfl
theorem xMB : Tryd.f3.params.toList.map (yB8 Tryd.prog 20) = ([yB7,yB7] : List TS).map some := by kernel_rfl
theorem xP0 (os : Os) (args : Array Value) : laidMetH Tryd.prog Rows.nfaBuildsRow.laid ((World.doorLaid Tryd.prog 14 os).forCall (fun _ _ => 0) ⟨#[],args,[]⟩).memory :=
 laidMetH_of_parts3 (fuel := 8) (laidMet_of_run' 8 (by kernel_rfl) (by kernel_rfl)) (by kernel_rfl) (by kernel_rfl)
theorem xMf (W : World) (h : laidMetH Tryd.prog Rows.nfaBuildsRow.laid W) : GlobOk (xN1 W) := by
 rw [MakeChecks.laidMetH_plain _ _ _ (by kernel_rfl)] at h
 exact xWa (P := Tryd.prog) (W := W) (name := "math/bits.deBruijn64tab") (g := 0) (t := (Tryd.prog.globals[0]!).type) (e := (match Tryd.prog.underlying (Tryd.prog.globals[0]!).type with | some (.array _ e) => e | _ => 0)) (n := 64) nfaBuilds_tab (by kernel_rfl) (by kernel_rfl) (by kernel_rfl) (by kernel_rfl) (by kernel_rfl) (by kernel_rfl) xNR h
set_option maxRecDepth 100000 in
theorem xMg (os : Os) (started : os.Started) (H : Type) (enc : TypeId × Value → H) :
  ReturnsInHanded {} Tryd.checked os 3 .any (fun w args => (Rows.nfaBuildsSpec.pre enc Tryd.prog Tryd.f3 [] false w args ∧ laidMetH Tryd.prog Rows.nfaBuildsRow.laid w) ∧ sizedMet enc Tryd.prog Tryd.f3 (OpenSpec.ofChange Rows.nfaBuildsSpec) false w args) (Rows.nfaBuildsSpec.post enc Tryd.prog Tryd.f3 false true false false) := by
 refine xMC (C := Tryd.checked) (d := 20) (X := fun w => laidMetH Tryd.prog Rows.nfaBuildsRow.laid w) (fun _ _ hh h => h.of_heap hh) xMf xPY started (by kernel_rfl) Tryd.func3
  (ChangeSpec.witness_shaped (enc := enc) (C := Tryd.checked) (os := os) (X := fun w _ => laidMetH Tryd.prog Rows.nfaBuildsRow.laid w) false (World.doorLaid Tryd.prog 14 os) #[.agg #[.int .i64 0,.int .i64 0,.slice none 0 0,.slice none 0 0,.slice none 0 0],.agg #[.int .i64 0,.int .i64 0,.slice none 0 0,.slice none 0 0,.slice none 0 0]] 8 rfl (World.shaped_of_RefB (by kernel_rfl) (by kernel_rfl)) (by kernel_rfl) (by kernel_rfl) (by kernel_rfl) (xP0 os _))
  NfaD.progOk xNS ?_ xMB rfl ?_ (tb := Tryd.f3.resultTypes[0]!) (by kernel_rfl) (by kernel_rfl) (fun avs h _ => NfaD.law3 avs h)
 ·intro t ht
  have := List.all_eq_true.1 xPZ t ht
  simp only [Bool.and_eq_true,decide_eq_true_eq] at this
  exact this
 ·intro ds hds
  match ds,hds with
  | [_,_],_ => rfl
theorem xNT : Rows.NfaBuildsSaid :=
 OpenClaim.holds_of_wide 3 Tryd.f3 rfl rfl rfl rfl rfl rfl rfl ⟨rfl,rfl,rfl,rfl,rfl⟩ rfl rfl rfl rfl rfl (by kernel_rfl) Tryd.func3 (by kernel_rfl)
  (of_decide_eq_true (by kernel_rfl)) (by unfold Func.isWrapper; first | (rw [if_pos (by decide +kernel)]; kernel_rfl) | (rw [if_neg (by decide +kernel)]; exact ⟨rfl,rfl⟩))
  (fun os started H enc _ => xMg os started H enc)
theorem nfaBuilds_card : Rows.NfaBuildsCardSaid :=
 Claim7.holds_tied_plain_at .later [] [.data] true (true, "31c9a0897527a5f9554ddc574be7821f830a9df2d1b19ede39914c7693164103") false
  xNT (fun _ h => by cases h) (by kernel_rfl) (fun _ h => by cases h) nfaBuilds_row_tie rfl ⟨rfl,rfl⟩ (by kernel_rfl) rfl
  (fun f fn hf hfn => by
   obtain rfl : f = 3 := Option.some.inj ((show Tryd.prog.funcNamed "sentinel/sentinellaw06.NfaBuilds" = some 3 by kernel_rfl).symm.trans hf) |>.symm
   obtain rfl : fn = Tryd.f3 := (Option.some.inj (Tryd.func3.symm.trans hfn)).symm
   exact ⟨by kernel_rfl,fun j t ht => by
    have hall : (Tryd.f3.params.toList.all fun u => !Tryd.prog.wantsStandIn u) = true := by kernel_rfl
    have hm : t ∈ Tryd.f3.params.toList := by
     rw [← Array.getElem?_toList] at ht
     exact List.mem_of_getElem? ht
    exact (show Tryd.prog.wantsStandIn t = false by simpa using List.all_eq_true.1 hall t hm)⟩)
  (by kernel_rfl)
#print axioms nfaBuilds_card
end Go.Proofs.YtbfnjdhafgnlnaaDoor
