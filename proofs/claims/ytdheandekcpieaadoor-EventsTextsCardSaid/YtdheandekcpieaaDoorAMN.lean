/- The parser's panics: a byte that is needed. -/
import Derived.Test.YtdheandekcpieaaDoorAbsBun
import Derived.Test.YtdheandekcpieaaDoorAMG
import Derived.Test.YtdheandekcpieaaDoorAbsPan
namespace Go.Abs.Events
open Go Go.Abs Go.Proofs
set_option maxHeartbeats 8000000
set_option linter.unusedSimpArgs false
set_option linter.unusedVariables false
set_option maxRecDepth 100000
def yAK : ACode → ACode
 | .block _ b => b
 | c => c
def yBt : ACode → ACode
 | .cond _ a _ => a
 | c => c
def yDz : ACode → ACode
 | .cond _ _ b => b
 | c => c
noncomputable abbrev PP : Program := Tryd.prog
theorem tr_thr' {P : Program} {R : Rec} {pre : List AOper} {t T : Nat} {x : Arg} {s : St} {F1 : List AV} {H1 : Heap} {v : AV} (h : xAx R pre s = some ⟨F1,H1⟩) (ht : t < F1.length) (hv : opv F1 x = v) (hs : xAN v = true) : TR P R (.thr pre t T x) s T v ⟨F1.set t .any,H1⟩ := by
 subst hv
 exact yAP h ht hs
theorem tr_call' {P : Program} {R : Rec} {pre : List AOper} {g : Nat} {args : List Arg} {s : St} {F1 : List AV} {H1 : Heap} {a : List AV} {T : Nat} {v : AV} {H' : Heap} (h : xAx R pre s = some ⟨F1,H1⟩) (ha : args.map (opv F1) = a) (ht : Thr P g a H1 T v H') : TR P R (.call pre g args) s T v ⟨F1,H'⟩ := by
 subst ha
 exact xYV h ht
abbrev wv (a e : Nat) : AV := .agg [.int .i64 (a : Nat),.int .i64 (e : Nat)]
def P1 : Prop := RecOk (xAn PP) PP L1 ∧ LoopOk PP L1 ∧ PP.follows .mixedOrders = true
theorem xPV : ∀ n,pads n = List.replicate n (.tup [])
 | 0 => rfl
 | n + 1 => by rw [pads,xPV n]; rfl
theorem thr_of' (hP : P1) {f : Nat} {tf : TFunc} (hf : tp f = some tf) {args : List AV} {H H' : Heap} {T : Nat} {v : AV} (h : ∃ F',TR PP L1 tf.code ⟨args ++ pads (tf.ntmps - args.length),H⟩ T v ⟨F',H'⟩) : Thr PP f args H T v H' := by
 obtain ⟨F',h⟩ := h
 rw [xPV] at h
 exact yAQ hP.1 hP.2.1 hP.2.2 (yBV f tf hf) h
def yCS : ACode := sqA (yAK (sqA (sqB a70.code)))
def yDA : ACode := sqA (yDz (sqB (yAK (sqA (sqB a70.code)))))
def yDB : TCode := .thr [⟨some 18,.mov (.t 0),none⟩,⟨some 19,.nilchk (.t 18),none⟩,⟨some 20,.faddr 1 (.t 19),none⟩,⟨some 21,.load false 1 (.t 20),none⟩,⟨some 22,.build zW [(0,1,.t 21),(1,1,.c (.int .i64 3))],none⟩] 23 82 (.t 22)
def yDC : TCode := .thr [⟨some 37,.mov (.t 0),none⟩,⟨some 38,.nilchk (.t 37),none⟩,⟨some 39,.faddr 1 (.t 38),none⟩,⟨some 40,.load false 1 (.t 39),none⟩,⟨some 41,.mov (.t 2),none⟩,⟨some 42,.build zW [(0,1,.t 40),(1,1,.t 41)],none⟩] 43 82 (.t 42)
theorem xPW : t70.code = .seq (sqA a70.code) .no (.seq (sqA (sqB a70.code)) (.block (.seq yCS .no (.cond (.t 7) yDB (.seq yDA .no (.cond (.t 24) yDC .no))))) .no) := by kernel_rfl
section
variable {G : Heap} {rb at_ many : Nat} {S cs : List UInt8} {lv : AV} {e : Nat} {c : UInt8}
theorem xTX (hP : P1) (h : RD G rb S at_ lv many) (hS : S.length ≤ 4096) (ha : at_ = S.length) : Thr PP 70 [.ptr rb 0,zS cs,.int .i64 (e : Nat)] G 82 (wv at_ 3) G := by
 unfold RD at h
 have hne : (((at_ : Nat) : Int) = (S.length : Nat)) = True := by simp [ha]
 have hsz : (⟨S.toArray⟩ : ByteArray).size = S.length := by simp [ByteArray.size]
 refine thr_of' hP (tf := t70) rfl ?_
 show ∃ F',TR PP L1 t70.code ⟨[.ptr rb 0,zS cs,.int .i64 (e : Nat)] ++ pads 50,G⟩ 82 _ ⟨F',G⟩
 rw [xPW]
 apply Exists.intro
 apply TR.seqR
 ·simp (maxSteps := 30000000) (disch := first|exact D5|fail) only [sqA,a70,WB]
  rfl
 apply TR.seqL
 apply TR.block
 apply TR.seqR
 ·simp (maxSteps := 30000000) (disch := first|exact D5|fail) only [yCS,sqA,yAK,sqB,a70,WB,h,xAh,WA,hsz,hne]
  rfl
 apply TR.condT
 ·rfl
 unfold yDB
 apply tr_thr'
 ·simp (maxSteps := 30000000) (disch := first|exact D5|fail) only [zW,WB,h,AV.cells,↓reduceIte,Nat.reduceAdd,Nat.reduceLeDiff,AV.isCell]
  rfl
 ·simp
 ·rfl
 ·rfl
theorem xTY (hP : P1) (h : RD G rb S at_ lv many) (hS : S.length ≤ 4096) (hc : S[at_]? = some c) (hm : cs.contains c = false) : Thr PP 70 [.ptr rb 0,zS cs,.int .i64 (e : Nat)] G 82 (wv at_ e) G := by
 unfold RD at h
 have hlt : at_ < S.length := (List.getElem?_eq_some_iff.1 hc).1
 have hne : (((at_ : Nat) : Int) = (S.length : Nat)) = False := by simp; omega
 have hsz : (⟨S.toArray⟩ : ByteArray).size = S.length := by simp [ByteArray.size]
 have hidx : (Lib.indexByte cs c < 0) = True := by rw [xSQ,if_neg (by rw [hm]; simp)]; simp
 have hs := fun H => xBC H hc
 refine thr_of' hP (tf := t70) rfl ?_
 show ∃ F',TR PP L1 t70.code ⟨[.ptr rb 0,zS cs,.int .i64 (e : Nat)] ++ pads 50,G⟩ 82 _ ⟨F',G⟩
 rw [xPW]
 apply Exists.intro
 apply TR.seqR
 ·simp (maxSteps := 30000000) (disch := first|exact D5|fail) only [sqA,a70,WB]
  rfl
 apply TR.seqL
 apply TR.block
 apply TR.seqR
 ·simp (maxSteps := 30000000) (disch := first|exact D5|fail) only [yCS,sqA,yAK,sqB,a70,WB,h,xAh,WA,hsz,hne]
  rfl
 apply TR.condF
 ·rfl
 apply TR.seqR
 ·simp (maxSteps := 30000000) (disch := first|exact D5|fail) only [yDA,sqA,yDz,sqB,yAK,a70,WB,h,xAh,xAK,hs,p98,xAN,xAt,↓reduceIte,hidx]
  rfl
 apply TR.condT
 ·rfl
 unfold yDC
 apply tr_thr'
 ·simp (maxSteps := 30000000) (disch := first|exact D5|fail) only [zW,WB,h,AV.cells,↓reduceIte,Nat.reduceAdd,Nat.reduceLeDiff,AV.isCell]
  rfl
 ·simp
 ·rfl
 ·rfl
end
end Go.Abs.Events
/- The parser's panics: past,one,name. -/
namespace Go.Abs.Events
open Go Go.Abs Go.Proofs
set_option linter.unusedSimpArgs false
set_option linter.unusedVariables false
set_option maxRecDepth 100000
theorem xVN : t73.code = .seq (sqA a73.code) (.call [⟨some 4,.mov (.t 0),none⟩,⟨some 5,.mov (.t 1),none⟩] 70 [.t 4,.t 5,.c (.int .i64 2)]) .no := by kernel_rfl
theorem xPX : t72.code = .seq (sqA a72.code) .no (.seq (sqA (sqB a72.code)) (.call [⟨some 6,.mov (.t 0),none⟩] 73 [.t 6,.c (.str ⟨#[32]⟩)]) (.seq (sqA (sqB (sqB a72.code))) (.call [⟨some 8,.mov (.t 0),none⟩,⟨some 9,.mov (.t 1),none⟩] 70 [.t 8,.t 9,.c (.int .i64 1)]) .no)) := by kernel_rfl
def l71 : TCode := .thr [⟨some 53,.mov (.t 0),none⟩,⟨some 54,.nilchk (.t 53),none⟩,⟨some 55,.faddr 1 (.t 54),none⟩,⟨some 56,.load false 1 (.t 55),none⟩,⟨some 57,.build zW [(0,1,.t 56),(1,1,.c (.int .i64 6))],none⟩] 58 82 (.t 57)
def yBu : ACode := sqA (sqB (sqB a71.code))
def yCT : ACode := sqA (sqB (sqB (sqB a71.code)))
theorem xK1 : t71.code = .seq (sqA a71.code) .no (.seq (sqA (sqB a71.code)) .no (.seq yBu (.seq (sqA yBu) (.call [⟨some 8,.mov (.t 0),none⟩] 70 [.t 8,.c (.str ⟨(61 :: ltB).toArray⟩),.c (.int .i64 2)]) .no) (.seq yCT .no l71))) := by kernel_rfl
section
variable {G G' G1 : Heap} {rb at_ many : Nat} {S cs : List UInt8} {lv v : AV} {e : Nat} {c : UInt8} {ins : Bool}
theorem yCU (hP : P1) (h : Thr PP 70 [.ptr rb 0,zS cs,.int .i64 2] G 82 v G') : Thr PP 73 [.ptr rb 0,zS cs] G 82 v G' := by
 refine thr_of' hP (tf := t73) rfl ?_
 show ∃ F',TR PP L1 t73.code ⟨[.ptr rb 0,zS cs] ++ pads 12,G⟩ 82 _ ⟨F',G'⟩
 rw [xVN]
 apply Exists.intro
 apply TR.seqL
 apply tr_call' (ht := h)
 ·simp (disch := omega) only [WB]
  rfl
 ·rfl
theorem yAL (hP : P1) (h : Thr PP 73 [.ptr rb 0,zS [32]] G 82 v G') : Thr PP 72 [.ptr rb 0,zS cs] G 82 v G' := by
 refine thr_of' hP (tf := t72) rfl ?_
 show ∃ F',TR PP L1 t72.code ⟨[.ptr rb 0,zS cs] ++ pads 19,G⟩ 82 _ ⟨F',G'⟩
 rw [xPX]
 apply Exists.intro
 apply TR.seqR
 ·simp (disch := omega) only [sqA,a72,WB]
  rfl
 apply TR.seqL
 apply tr_call' (ht := h)
 ·simp (disch := omega) only [WB]
  rfl
 ·rfl
theorem yAM (hP : P1) (hn : L1.icall (.func 73 []) [.ptr rb 0,zS [32]] G = some (.tup [],G1)) (h : Thr PP 70 [.ptr rb 0,zS cs,.int .i64 1] G1 82 v G') : Thr PP 72 [.ptr rb 0,zS cs] G 82 v G' := by
 refine thr_of' hP (tf := t72) rfl ?_
 show ∃ F',TR PP L1 t72.code ⟨[.ptr rb 0,zS cs] ++ pads 19,G⟩ 82 _ ⟨F',G'⟩
 rw [xPX]
 apply Exists.intro
 apply TR.seqR
 ·simp (disch := omega) only [sqA,a72,WB]
  rfl
 apply TR.seqR
 ·simp (disch := omega) only [sqA,sqB,a72,WB,hn]
  rfl
 apply TR.seqL
 apply tr_call' (ht := h)
 ·simp (disch := omega) only [WB]
  rfl
 ·rfl
theorem yAN (hP : P1) (h : Thr PP 70 [.ptr rb 0,zS (61 :: ltB),.int .i64 2] G 82 v G') : Thr PP 71 [.ptr rb 0,.bool ins] G 82 v G' := by
 refine thr_of' hP (tf := t71) rfl ?_
 show ∃ F',TR PP L1 t71.code ⟨[.ptr rb 0,.bool ins] ++ pads 57,G⟩ 82 _ ⟨F',G'⟩
 rw [xK1]
 apply Exists.intro
 apply TR.seqR
 ·simp (disch := omega) only [sqA,a71,WB]
  rfl
 apply TR.seqR
 ·simp (disch := omega) only [sqA,sqB,a71,WB]
  rfl
 apply TR.seqL
 apply TR.seqL
 apply tr_call' (ht := h)
 ·simp (disch := omega) only [WB]
  rfl
 ·rfl
theorem xTZ {w : List UInt8} (hw : w.length ≤ 4096) : ∀ k j,j + k = 11 → 1 ≤ j → fnd w ins j k = none →
  L1.loop xEA xKE ⟨xCF (.ptr rb 0) (.bool ins) (.int .u8 0) (zS w) (.int .u8 (j : Nat)),G⟩ = some (.exit 0,⟨xCF (.ptr rb 0) (.bool ins) (.int .u8 0) (zS w) (.int .u8 11),G⟩) := by
 have hwz : (⟨w.toArray⟩ : ByteArray).size = w.length := by simp [ByteArray.size]
 intro k
 induction k with
 | zero =>
  intro j hj h1 hf
  obtain rfl : j = 11 := by omega
  rw [xJU]
  simp (maxSteps := 30000000) (disch := first|exact D5|fail) only [xGt,WB,Int.reduceLE,↓reduceIte,xEB]
 | succ k ih =>
  intro j hj h1 hf
  have hle : ((j : Nat) : Int) ≤ 10 := by omega
  have hq := xGL j
  unfold foC at hq
  have hsb := xST j w
  have hj1 : decide (((j : Nat) : Int) = 1) = decide (j = 1) := by rw [decide_eq_decide]; omega
  unfold fnd at hf
  rw [List.range'_succ,List.find?_cons] at hf
  cases hb : (opB j == w) with
  | false =>
   rw [hb,Bool.false_and] at hf
   have := ih (j + 1) (by omega) (by omega) hf
   rw [xJU]
   simp (maxSteps := 30000000) (disch := first|exact D5|fail) only [xGt,WB,hle,↓reduceIte,hq,xAN,xAt,xAF,hsb,hb,xEB,this]
  | true =>
   rw [hb,Bool.true_and] at hf
   cases hi : (decide (j ≠ 1) == ins) with
   | false =>
    rw [hi] at hf
    have := ih (j + 1) (by omega) (by omega) hf
    have hcond : (decide (((j : Nat) : Int) = 1) = !ins) = False := by
     rw [hj1]
     by_cases c : j = 1 <;> cases ins <;> simp [c] at hi ⊢
    rw [xJU]
    simp (maxSteps := 30000000) (disch := first|exact D5|fail) only [xGt,WB,hle,↓reduceIte,hq,xAN,xAt,xAF,hsb,hb,hcond,xEB,this]
   | true =>
    rw [hi] at hf
    cases hf
theorem yAO {r : List UInt8} (hP : P1) (h : RD G rb S at_ lv many) (hS : S.length ≤ 4096) (hr : S.drop at_ = c :: r) (hc : (c == 61 || smB c) = true) (hp : pop (xA0 (c :: r)) ins = none) : Thr PP 71 [.ptr rb 0,.bool ins] G 82 (wv at_ 6) G := by
 obtain ⟨hcs,hr2,hlt⟩ := xAX hr
 have hmem : (61 :: ltB).contains c = true := by rw [List.contains_cons,xJn]; exact hc
 have hn : L1.icall (.func 70 []) [.ptr rb 0,.str ⟨#[61,97,98,99,100,101,102,103,104,105,106,107,108,109,110,111,112,113,114,115,116,117,118,119,120,121,122]⟩,.int .i64 2] G = some (.int .u8 (c.toNat : Nat),G) := xDZ (cs := 61 :: ltB) h hS hcs hmem
 by_cases h61 : c = 61
 ·subst h61
  have hw : xA0 (61 :: r) = [61] := rfl
  rw [hw] at hp
  have hlp : L1.loop xEA xKE ⟨xCF (.ptr rb 0) (.bool ins) (.int .u8 0) (.str ⟨#[61]⟩) (.int .u8 1),G⟩ = some (.exit 0,⟨xCF (.ptr rb 0) (.bool ins) (.int .u8 0) (.str ⟨#[61]⟩) (.int .u8 11),G⟩) := xTZ (w := [61]) (by decide) 10 1 rfl (Nat.le_refl _) (by rw [← xKB]; exact hp)
  have hn' : L1.icall (.func 70 []) [.ptr rb 0,.str ⟨#[61,97,98,99,100,101,102,103,104,105,106,107,108,109,110,111,112,113,114,115,116,117,118,119,120,121,122]⟩,.int .i64 2] G = some (.int .u8 61,G) := hn
  unfold RD at h
  refine thr_of' hP (tf := t71) rfl ?_
  show ∃ F',TR PP L1 t71.code ⟨[.ptr rb 0,.bool ins] ++ pads 57,G⟩ 82 _ ⟨F',G⟩
  rw [xK1]
  apply Exists.intro
  apply TR.seqR
  ·simp (maxSteps := 30000000) (disch := first|exact D5|fail) only [sqA,a71,WB]
   rfl
  apply TR.seqR
  ·simp (maxSteps := 30000000) (disch := first|exact D5|fail) only [sqA,sqB,a71,WB]
   rfl
  apply TR.seqR
  ·simp (maxSteps := 30000000) (disch := first|exact D5|fail) only [yBu,sqA,sqB,a71,WB,hn',↓reduceIte]
   rfl
  apply TR.seqR
  ·simp (maxSteps := 30000000) (disch := first|exact D5|fail) only [yCT,sqA,sqB,a71,WB,xEB,hlp,↓reduceIte]
   rfl
  unfold l71
  apply tr_thr'
  ·simp (maxSteps := 30000000) (disch := first|exact D5|fail) only [zW,WB,h,AV.cells,↓reduceIte,Nat.reduceAdd,Nat.reduceLeDiff,AV.isCell]
   rfl
  ·simp
  ·rfl
  ·rfl
 ·have hne : (((c.toNat : Nat) : Int) = 61) = False := by
   simp only [eq_iff_iff,iff_false]
   intro e
   apply h61
   have : c.toNat = 61 := by omega
   exact UInt8.toNat_inj.1 this
  have hw : xA0 (c :: r) = (c :: r).takeWhile smB := by
   unfold xA0
   rw [if_neg (by intro e; cases e; exact h61 rfl)]
  obtain ⟨t1,t2,t3⟩ := xZT (c :: r)
  have hlo := fun H => xPo (S := S) (a := at_) H (by omega)
  have hhi := fun H => xSU (S := c :: r) (a := ((c :: r).takeWhile smB).length) H (by omega)
  rw [hr] at hlo
  rw [t3] at hhi
  have h99 : L1.pcall 99 [zS (c :: r),.str ⟨#[97,98,99,100,101,102,103,104,105,106,107,108,109,110,111,112,113,114,115,116,117,118,119,120,121,122]⟩] = some (zS ((c :: r).dropWhile smB)) := p99 (c :: r)
  have hz1 : (⟨(c :: r).toArray⟩ : ByteArray).size = (c :: r).length := by simp [ByteArray.size]
  have hz2 : (⟨((c :: r).dropWhile smB).toArray⟩ : ByteArray).size = ((c :: r).dropWhile smB).length := by simp [ByteArray.size]
  have hsub : (((c :: r).length : Nat) : Int) - (((c :: r).dropWhile smB).length : Nat) = (((c :: r).takeWhile smB).length : Nat) := by omega
  have hrl : (c :: r).length ≤ 4096 := by rw [← hr]; simp; omega
  rw [hw] at hp
  have hlp := xTZ (rb := rb) (G := G) (w := (c :: r).takeWhile smB) (by omega) 10 1 rfl (Nat.le_refl _) (by rw [← xKB]; exact hp)
  unfold RD at h
  generalize (c :: r).takeWhile smB = w at *
  generalize (c :: r).dropWhile smB = d at *
  generalize c :: r = q at *
  have hlp' : L1.loop xEA xKE ⟨xCF (.ptr rb 0) (.bool ins) (.int .u8 0) (zS w) (.int .u8 1),G⟩ = some (.exit 0,⟨xCF (.ptr rb 0) (.bool ins) (.int .u8 0) (zS w) (.int .u8 11),G⟩) := hlp
  refine thr_of' hP (tf := t71) rfl ?_
  show ∃ F',TR PP L1 t71.code ⟨[.ptr rb 0,.bool ins] ++ pads 57,G⟩ 82 _ ⟨F',G⟩
  rw [xK1]
  apply Exists.intro
  apply TR.seqR
  ·simp (maxSteps := 30000000) (disch := first|exact D5|fail) only [sqA,a71,WB]
   rfl
  apply TR.seqR
  ·simp (maxSteps := 30000000) (disch := first|exact D5|fail) only [sqA,sqB,a71,WB]
   rfl
  apply TR.seqR
  ·simp (maxSteps := 30000000) (disch := first|exact D5|fail) only [yBu,sqA,sqB,a71,WB,hn,hne,↓reduceIte,h,xAh,xBS,hlo,WA,hz1,h99,xAN,xAt,hz2,hsub,hhi]
   rfl
  apply TR.seqR
  ·simp (maxSteps := 30000000) (disch := first|exact D5|fail) only [yCT,sqA,sqB,a71,WB,xEB,hlp',↓reduceIte]
   rfl
  unfold l71
  apply tr_thr'
  ·simp (maxSteps := 30000000) (disch := first|exact D5|fail) only [zW,WB,h,AV.cells,↓reduceIte,Nat.reduceAdd,Nat.reduceLeDiff,AV.isCell]
   rfl
  ·simp
  ·rfl
  ·rfl
end
end Go.Abs.Events
/- The parser's panics: a node's terms (n3gen.py). -/
namespace Go.Abs.Events
open Go Go.Abs Go.Proofs
set_option linter.unusedSimpArgs false
set_option linter.unusedVariables false
set_option maxRecDepth 100000
theorem tr_dcall' {P : Program} {R : Rec} {pre : List AOper} {g : Nat} {args : List Arg} {s s1 : St} {pl : List Pr} {a : List AV} {T : Nat} {v : AV} {H' : Heap} (h : xAD R pre s = some (s1,pl)) (ha : args.map (opv s1.F) = a) (ht : Thr P g a s.H T v H') : TR P R (.dcall pre g args) s T v ⟨List.replicate s.F.length .any,H'⟩ := by
 subst ha
 exact xVP h ht
def xYU : ACode := sqA xCc
def xLb : TCode := .seq xYU .no (.block (.dcall [⟨some 92,.faddr 2 (.t 4),none⟩,⟨some 93,.load false 1 (.t 92),none⟩,⟨some 94,.mov (.t 0),none⟩] 72 [.t 94,.c (.str ⟨#[48,49,50,51,52,53,54,55,120,121,122]⟩)]))
theorem xM7 {G G' : Heap} {rb ix io at_ many op : Nat} {S : List UInt8} {lv s3 v : AV} {nm x a b : Int} {c : UInt8} (h : RD G rb S at_ lv many) (hS : S.length ≤ 4096) (hx : G[ix]? = some (xB op nm (.sl true 0 []) x a b)) (ho : G[io]? = some (.cells false false (foC op))) (hl : 0 < fhi op) (hlo : 0 < flo op)
  (ht : Thr PP 72 [.ptr rb 0,zS splB] G 82 v G') : ∃ F',TR PP L1 xLb ⟨xAI (.ptr rb 0) s3 (.ptr ix 0) (.ptr io 0),G⟩ 82 v ⟨F',G'⟩ := by
 have hf2 := xCf op
 have hlI : ((0 : Int) < (fhi op : Nat)) = True := by simp; omega
 have hlo' : ((0 : Int) < (flo op : Nat)) = True := by simp; omega
 have lx := xAp hx
 have lio := xAp ho
 have lo := xAp (show G[rb]? = some _ from h)
 unfold foC at ho
 unfold RD at h
 unfold xLb
 apply Exists.intro
 apply TR.seqR
 ·simp (maxSteps := 30000000) (disch := first|exact D5|fail) only [xYU,sqA,xCc,WB,hx,ho,hlI,↓reduceIte,hlo',xAh]
  rfl
 apply TR.block
 apply tr_dcall' (ht := ht)
 ·simp (maxSteps := 30000000) (disch := first|exact D5|fail) only [WP,WB,↓reduceIte,hx]
  rfl
 ·rfl
theorem xK2 {G G' : Heap} {rb ix io at_ many op : Nat} {S : List UInt8} {lv s3 v : AV} {nm x a b : Int} {c : UInt8} (h : RD G rb S at_ lv many) (hS : S.length ≤ 4096) (hx : G[ix]? = some (xB op nm (.sl true 0 []) x a b)) (ho : G[io]? = some (.cells false false (foC op))) (hl : 0 < fhi op) (hlo : ¬ 0 < flo op) (he : at_ = S.length)
  (ht : Thr PP 72 [.ptr rb 0,zS splB] G 82 v G') : ∃ F',TR PP L1 xLb ⟨xAI (.ptr rb 0) s3 (.ptr ix 0) (.ptr io 0),G⟩ 82 v ⟨F',G'⟩ := by
 have hf2 := xCf op
 have hlI : ((0 : Int) < (fhi op : Nat)) = True := by simp; omega
 have hlo' : ((0 : Int) < (flo op : Nat)) = False := by simp; omega
 have lx := xAp hx
 have lio := xAp ho
 have lo := xAp (show G[rb]? = some _ from h)
 have hsz : (⟨S.toArray⟩ : ByteArray).size = S.length := by simp [ByteArray.size]
 have hne : (((at_ : Nat) : Int) = (S.length : Nat)) = True := by simp [he]
 unfold foC at ho
 unfold RD at h
 unfold xLb
 apply Exists.intro
 apply TR.seqR
 ·simp (maxSteps := 30000000) (disch := first|exact D5|fail) only [xYU,sqA,xCc,WB,hx,ho,hlI,↓reduceIte,hlo',h,WA,hsz,hne,xAh]
  rfl
 apply TR.block
 apply tr_dcall' (ht := ht)
 ·simp (maxSteps := 30000000) (disch := first|exact D5|fail) only [WP,WB,↓reduceIte,hx]
  rfl
 ·rfl
theorem xM8 {G G' : Heap} {rb ix io at_ many op : Nat} {S : List UInt8} {lv s3 v : AV} {nm x a b : Int} {c : UInt8} (h : RD G rb S at_ lv many) (hS : S.length ≤ 4096) (hx : G[ix]? = some (xB op nm (.sl true 0 []) x a b)) (ho : G[io]? = some (.cells false false (foC op))) (hl : 0 < fhi op) (hlo : ¬ 0 < flo op) (hc : S[at_]? = some c) (h41 : c ≠ 41)
  (ht : Thr PP 72 [.ptr rb 0,zS splB] G 82 v G') : ∃ F',TR PP L1 xLb ⟨xAI (.ptr rb 0) s3 (.ptr ix 0) (.ptr io 0),G⟩ 82 v ⟨F',G'⟩ := by
 have hf2 := xCf op
 have hlI : ((0 : Int) < (fhi op : Nat)) = True := by simp; omega
 have hlo' : ((0 : Int) < (flo op : Nat)) = False := by simp; omega
 have lx := xAp hx
 have lio := xAp ho
 have lo := xAp (show G[rb]? = some _ from h)
 have hlt : at_ < S.length := (List.getElem?_eq_some_iff.1 hc).1
 have hsz : (⟨S.toArray⟩ : ByteArray).size = S.length := by simp [ByteArray.size]
 have hne : (((at_ : Nat) : Int) = (S.length : Nat)) = False := by simp; omega
 have hsi := fun H => xBC H hc
 have hc41 : (((c.toNat : Nat) : Int) = 41) = False := by
  simp only [eq_iff_iff,iff_false]
  intro e
  apply h41
  have : c.toNat = 41 := by omega
  exact UInt8.toNat_inj.1 this
 unfold foC at ho
 unfold RD at h
 unfold xLb
 apply Exists.intro
 apply TR.seqR
 ·simp (maxSteps := 30000000) (disch := first|exact D5|fail) only [xYU,sqA,xCc,WB,hx,ho,hlI,↓reduceIte,hlo',h,WA,hsz,hne,xAh,xAK,hsi,hc41]
  rfl
 apply TR.block
 apply tr_dcall' (ht := ht)
 ·simp (maxSteps := 30000000) (disch := first|exact D5|fail) only [WP,WB,↓reduceIte,hx]
  rfl
 ·rfl
theorem xM9 {G G' : Heap} {rb ix io at_ many op : Nat} {us : List Int} {ka m : Nat} {S : List UInt8} {lv s3 v : AV} {nm x a b : Int} {c : UInt8} (h : RD G rb S at_ lv many) (hS : S.length ≤ 4096) (hx : G[ix]? = some (xB op nm (.own false ka 0 m 1) x a b)) (ho : G[io]? = some (.cells false false (foC op))) (ga : G[ka]? = some (.cells false false (xAG us))) (hl : m < fhi op) (hlo : m < flo op)
  (ht : Thr PP 72 [.ptr rb 0,zS splB] G 82 v G') : ∃ F',TR PP L1 xLb ⟨xAI (.ptr rb 0) s3 (.ptr ix 0) (.ptr io 0),G⟩ 82 v ⟨F',G'⟩ := by
 have hf2 := xCf op
 have hlI : (((m : Nat) : Int) < (fhi op : Nat)) = True := by simp; omega
 have hlo' : (((m : Nat) : Int) < (flo op : Nat)) = True := by simp; omega
 have lx := xAp hx
 have lio := xAp ho
 have lo := xAp (show G[rb]? = some _ from h)
 unfold foC at ho
 unfold RD at h
 unfold xLb
 apply Exists.intro
 apply TR.seqR
 ·simp (maxSteps := 30000000) (disch := first|exact D5|fail) only [xYU,sqA,xCc,WB,hx,ho,hlI,↓reduceIte,hlo',xAh]
  rfl
 apply TR.block
 apply tr_dcall' (ht := ht)
 ·simp (maxSteps := 30000000) (disch := first|exact D5|fail) only [WP,WB,↓reduceIte,hx]
  rfl
 ·rfl
theorem xK3 {G G' : Heap} {rb ix io at_ many op : Nat} {us : List Int} {ka m : Nat} {S : List UInt8} {lv s3 v : AV} {nm x a b : Int} {c : UInt8} (h : RD G rb S at_ lv many) (hS : S.length ≤ 4096) (hx : G[ix]? = some (xB op nm (.own false ka 0 m 1) x a b)) (ho : G[io]? = some (.cells false false (foC op))) (ga : G[ka]? = some (.cells false false (xAG us))) (hl : m < fhi op) (hlo : ¬ m < flo op) (he : at_ = S.length)
  (ht : Thr PP 72 [.ptr rb 0,zS splB] G 82 v G') : ∃ F',TR PP L1 xLb ⟨xAI (.ptr rb 0) s3 (.ptr ix 0) (.ptr io 0),G⟩ 82 v ⟨F',G'⟩ := by
 have hf2 := xCf op
 have hlI : (((m : Nat) : Int) < (fhi op : Nat)) = True := by simp; omega
 have hlo' : (((m : Nat) : Int) < (flo op : Nat)) = False := by simp; omega
 have lx := xAp hx
 have lio := xAp ho
 have lo := xAp (show G[rb]? = some _ from h)
 have hsz : (⟨S.toArray⟩ : ByteArray).size = S.length := by simp [ByteArray.size]
 have hne : (((at_ : Nat) : Int) = (S.length : Nat)) = True := by simp [he]
 unfold foC at ho
 unfold RD at h
 unfold xLb
 apply Exists.intro
 apply TR.seqR
 ·simp (maxSteps := 30000000) (disch := first|exact D5|fail) only [xYU,sqA,xCc,WB,hx,ho,hlI,↓reduceIte,hlo',h,WA,hsz,hne,xAh]
  rfl
 apply TR.block
 apply tr_dcall' (ht := ht)
 ·simp (maxSteps := 30000000) (disch := first|exact D5|fail) only [WP,WB,↓reduceIte,hx]
  rfl
 ·rfl
theorem xNa {G G' : Heap} {rb ix io at_ many op : Nat} {us : List Int} {ka m : Nat} {S : List UInt8} {lv s3 v : AV} {nm x a b : Int} {c : UInt8} (h : RD G rb S at_ lv many) (hS : S.length ≤ 4096) (hx : G[ix]? = some (xB op nm (.own false ka 0 m 1) x a b)) (ho : G[io]? = some (.cells false false (foC op))) (ga : G[ka]? = some (.cells false false (xAG us))) (hl : m < fhi op) (hlo : ¬ m < flo op) (hc : S[at_]? = some c) (h41 : c ≠ 41)
  (ht : Thr PP 72 [.ptr rb 0,zS splB] G 82 v G') : ∃ F',TR PP L1 xLb ⟨xAI (.ptr rb 0) s3 (.ptr ix 0) (.ptr io 0),G⟩ 82 v ⟨F',G'⟩ := by
 have hf2 := xCf op
 have hlI : (((m : Nat) : Int) < (fhi op : Nat)) = True := by simp; omega
 have hlo' : (((m : Nat) : Int) < (flo op : Nat)) = False := by simp; omega
 have lx := xAp hx
 have lio := xAp ho
 have lo := xAp (show G[rb]? = some _ from h)
 have hlt : at_ < S.length := (List.getElem?_eq_some_iff.1 hc).1
 have hsz : (⟨S.toArray⟩ : ByteArray).size = S.length := by simp [ByteArray.size]
 have hne : (((at_ : Nat) : Int) = (S.length : Nat)) = False := by simp; omega
 have hsi := fun H => xBC H hc
 have hc41 : (((c.toNat : Nat) : Int) = 41) = False := by
  simp only [eq_iff_iff,iff_false]
  intro e
  apply h41
  have : c.toNat = 41 := by omega
  exact UInt8.toNat_inj.1 this
 unfold foC at ho
 unfold RD at h
 unfold xLb
 apply Exists.intro
 apply TR.seqR
 ·simp (maxSteps := 30000000) (disch := first|exact D5|fail) only [xYU,sqA,xCc,WB,hx,ho,hlI,↓reduceIte,hlo',h,WA,hsz,hne,xAh,xAK,hsi,hc41]
  rfl
 apply TR.block
 apply tr_dcall' (ht := ht)
 ·simp (maxSteps := 30000000) (disch := first|exact D5|fail) only [WP,WB,↓reduceIte,hx]
  rfl
 ·rfl
end Go.Abs.Events
/- The parser's panics: the stages of formula. -/
namespace Go.Abs.Events
open Go Go.Abs Go.Proofs
set_option linter.unusedSimpArgs false
set_option linter.unusedVariables false
set_option maxRecDepth 100000
def m1 : TCode := .call [⟨some 6,.mov (.t 0),none⟩] 70 [.t 6,.c (.str ⟨(40 :: ltB).toArray⟩),.c (.int .i64 2)]
def m2 : TCode := .seq (sqA pc2) .no (.cond (.t 13) (.thr [⟨some 14,.mov (.t 0),none⟩,⟨some 15,.nilchk (.t 14),none⟩,⟨some 16,.faddr 1 (.t 15),none⟩,⟨some 17,.load false 1 (.t 16),none⟩,⟨some 18,.build zW [(0,1,.t 17),(1,1,.c (.int .i64 4))],none⟩] 19 82 (.t 18)) .no)
def m5 : TCode := .call [⟨some 35,.mov (.t 0),none⟩,⟨some 36,.mov (.t 3),none⟩] 71 [.t 35,.t 36]
def m7 : TCode := .seq (sqA pc7) .no (.cond (.t 43) (.call [⟨some 44,.mov (.t 0),none⟩] 72 [.t 44,.c (.str ⟨#[97,98,99,100,101,102,103,104]⟩)]) .no)
def m8 : TCode := .seq (sqA pc8) .no (.cond (.t 48) (.call [⟨some 49,.mov (.t 0),none⟩,⟨some 50,.sslice (.c (.str ⟨#[48,49,50,51,52,53,54,55,120,121,122]⟩)) (some (.c (.int .i64 8))) none,none⟩] 72 [.t 49,.t 50]) .no)
def m9 : TCode := .block (.loop xAT xBb xLb)
def m10 : TCode := .seq (sqA xPS) .no (.cond (.t 101) (.seq (sqA (yBt (sqB xPS))) (.call [⟨some 102,.mov (.t 0),none⟩] 73 [.t 102,.c (.str ⟨#[32]⟩)]) (.call [⟨some 104,.mov (.t 0),none⟩] 41 [.t 104])) .no)
def m11 : TCode := .seq (sqA xPT) .no (.cond (.t 109) (.seq (sqA (yBt (sqB xPT))) (.call [⟨some 110,.mov (.t 0),none⟩] 73 [.t 110,.c (.str ⟨#[32]⟩)]) (.call [⟨some 112,.mov (.t 0),none⟩] 41 [.t 112])) .no)
def m12 : TCode := .seq (sqA xUz) .no (.cond (.t 115) (.call [⟨some 116,.mov (.t 0),none⟩] 73 [.t 116,.c (.str ⟨#[41]⟩)]) .no)
theorem xVO : t41.code = .seq pc0 .no (.seq pc1 m1 (.seq pc2 m2 (.seq pc3 .no (.seq pc4 .no (.seq pc5 m5 (.seq pc6 .no (.seq pc7 m7 (.seq pc8 m8 (.seq pc9 m9 (.seq xPS m10 (.seq xPT m11 (.seq xUz m12 .no)))))))))))) := by kernel_rfl
section
variable {F : List AV} {G G' G1 : Heap} {rb ix io at_ many op : Nat} {S : List UInt8} {lv av v : AV} {ins : Bool} {nm x a b : Int} {c : UInt8}
theorem pt1 (hF : FrA F rb) (ht : Thr PP 70 [.ptr rb 0,zS (40 :: ltB),.int .i64 2] G 82 v G') : ∃ F',TR PP L1 m1 ⟨F,G⟩ 82 v ⟨F',G'⟩ := by
 obtain ⟨hl,h0⟩ := hF
 rw [xA3 hl,h0]
 unfold m1
 apply Exists.intro
 apply tr_call' (ht := ht)
 ·simp (disch := omega) only [WB]
  rfl
 ·rfl
theorem pt2 (hF : FrB F rb ins) (h : RD G rb S at_ lv many) (hm : many = 64) : ∃ F',TR PP L1 m2 ⟨F,G⟩ 82 (wv at_ 4) ⟨F',G⟩ := by
 obtain ⟨hl,h0,h3⟩ := hF
 have hne : (((many : Nat) : Int) = 64) = True := by simp [hm]
 unfold RD at h
 rw [xA3 hl,h0,h3]
 unfold m2
 apply Exists.intro
 apply TR.seqR
 ·simp (maxSteps := 30000000) (disch := first|exact D5|fail) only [sqA,pc2,sqB,a41,WB,h,hne]
  rfl
 apply TR.condT
 ·rfl
 apply tr_thr'
 ·simp (maxSteps := 30000000) (disch := first|exact D5|fail) only [zW,WB,h,AV.cells,↓reduceIte,Nat.reduceAdd,Nat.reduceLeDiff,AV.isCell]
  rfl
 ·simp
 ·rfl
 ·rfl
theorem pt5 (hF : FrB F rb ins) (ht : Thr PP 71 [.ptr rb 0,.bool ins] G 82 v G') : ∃ F',TR PP L1 m5 ⟨F,G⟩ 82 v ⟨F',G'⟩ := by
 obtain ⟨hl,h0,h3⟩ := hF
 rw [xA3 hl,h0,h3]
 unfold m5
 apply Exists.intro
 apply tr_call' (ht := ht)
 ·simp (disch := omega) only [WB]
  rfl
 ·rfl
theorem pt7 (hop : op = 2) (hF : Fr F rb ins ix io) (ho : G[io]? = some (.cells false false (foC op))) (ht : Thr PP 72 [.ptr rb 0,zS nmsB] G 82 v G') : ∃ F',TR PP L1 m7 ⟨F,G⟩ 82 v ⟨F',G'⟩ := by
 obtain ⟨hl,h0,h3,h4,h5⟩ := hF
 unfold foC at ho
 have lio := xAp ho
 have hd : decide (op = 2) = true := decide_eq_true hop
 rw [xA3 hl,h0,h3,h4,h5]
 unfold m7
 apply Exists.intro
 apply TR.seqR
 ·simp (disch := omega) only [sqA,pc7,sqB,a41,WB,ho,hd]
  rfl
 apply TR.condT
 ·rfl
 apply tr_call' (ht := ht)
 ·simp (disch := omega) only [WB]
  rfl
 ·rfl
theorem pt8 (hop : op = 7) (hF : Fr F rb ins ix io) (ho : G[io]? = some (.cells false false (foC op))) (ht : Thr PP 72 [.ptr rb 0,zS vrsB] G 82 v G') : ∃ F',TR PP L1 m8 ⟨F,G⟩ 82 v ⟨F',G'⟩ := by
 obtain ⟨hl,h0,h3,h4,h5⟩ := hF
 have hsl : ∀ H,xX0 H (.str ⟨#[48,49,50,51,52,53,54,55,120,121,122]⟩) (some (.int .i64 8)) none = some (zS vrsB,H) := fun H => xPo (S := splB) (a := 8) H (by decide)
 unfold foC at ho
 have lio := xAp ho
 have hd : decide (op = 7) = true := decide_eq_true hop
 rw [xA3 hl,h0,h3,h4,h5]
 unfold m8
 apply Exists.intro
 apply TR.seqR
 ·simp (disch := omega) only [sqA,pc8,sqB,a41,WB,ho,hd]
  rfl
 apply TR.condT
 ·rfl
 apply tr_call' (ht := ht)
 ·simp (disch := omega) only [WB,xBS,hsl]
  rfl
 ·rfl
theorem yEK (hi : ins = true) (hF : Fr F rb ins ix io) (ht : Thr PP 73 [.ptr rb 0,zS [41]] G 82 v G') : ∃ F',TR PP L1 m12 ⟨F,G⟩ 82 v ⟨F',G'⟩ := by
 subst hi
 obtain ⟨hl,h0,h3,h4,h5⟩ := hF
 rw [xA3 hl,h0,h3,h4,h5]
 unfold m12
 apply Exists.intro
 apply TR.seqR
 ·simp (disch := omega) only [sqA,xUz,sqB,a41,WB]
  rfl
 apply TR.condT
 ·rfl
 apply tr_call' (ht := ht)
 ·simp (disch := omega) only [WB]
  rfl
 ·rfl
theorem yCV (hop : 1 ≤ chn op) (hF : Fr F rb ins ix io) (ho : G[io]? = some (.cells false false (foC op))) (ht : Thr PP 73 [.ptr rb 0,zS [32]] G 82 v G') : ∃ F',TR PP L1 m10 ⟨F,G⟩ 82 v ⟨F',G'⟩ := by
 obtain ⟨hl,h0,h3,h4,h5⟩ := hF
 unfold foC at ho
 have lio := xAp ho
 have hd : ((0 : Int) < ((chn op : Nat) : Int)) = True := by simp; omega
 rw [xA3 hl,h0,h3,h4,h5]
 unfold m10
 apply Exists.intro
 apply TR.seqR
 ·simp (maxSteps := 30000000) (disch := first|exact D5|fail) only [sqA,xPS,sqB,a41,WB,ho,hd]
  rfl
 apply TR.condT
 ·rfl
 apply TR.seqL
 apply tr_call' (ht := ht)
 ·simp (maxSteps := 30000000) (disch := first|exact D5|fail) only [WB]
  rfl
 ·rfl
theorem yCW (hop : 1 ≤ chn op) (hF : Fr F rb ins ix io) (ho : G[io]? = some (.cells false false (foC op))) (hn : L1.icall (.func 73 []) [.ptr rb 0,.str ⟨#[32]⟩] G = some (.tup [],G1)) (ht : Thr PP 41 [.ptr rb 0] G1 82 v G') : ∃ F',TR PP L1 m10 ⟨F,G⟩ 82 v ⟨F',G'⟩ := by
 obtain ⟨hl,h0,h3,h4,h5⟩ := hF
 unfold foC at ho
 have lio := xAp ho
 have hd : ((0 : Int) < ((chn op : Nat) : Int)) = True := by simp; omega
 rw [xA3 hl,h0,h3,h4,h5]
 unfold m10
 apply Exists.intro
 apply TR.seqR
 ·simp (maxSteps := 30000000) (disch := first|exact D5|fail) only [sqA,xPS,sqB,a41,WB,ho,hd]
  rfl
 apply TR.condT
 ·rfl
 apply TR.seqR
 ·simp (maxSteps := 30000000) (disch := first|exact D5|fail) only [sqA,yBt,sqB,xPS,a41,WB,hn]
  rfl
 apply tr_call' (ht := ht)
 ·simp (maxSteps := 30000000) (disch := first|exact D5|fail) only [WB]
  rfl
 ·rfl
theorem yCX (hop : chn op = 2) (hF : Fr F rb ins ix io) (ho : G[io]? = some (.cells false false (foC op))) (ht : Thr PP 73 [.ptr rb 0,zS [32]] G 82 v G') : ∃ F',TR PP L1 m11 ⟨F,G⟩ 82 v ⟨F',G'⟩ := by
 obtain ⟨hl,h0,h3,h4,h5⟩ := hF
 unfold foC at ho
 have lio := xAp ho
 have hd : ((1 : Int) < ((chn op : Nat) : Int)) = True := by simp; omega
 rw [xA3 hl,h0,h3,h4,h5]
 unfold m11
 apply Exists.intro
 apply TR.seqR
 ·simp (maxSteps := 30000000) (disch := first|exact D5|fail) only [sqA,xPT,sqB,a41,WB,ho,hd]
  rfl
 apply TR.condT
 ·rfl
 apply TR.seqL
 apply tr_call' (ht := ht)
 ·simp (maxSteps := 30000000) (disch := first|exact D5|fail) only [WB]
  rfl
 ·rfl
theorem yCY (hop : chn op = 2) (hF : Fr F rb ins ix io) (ho : G[io]? = some (.cells false false (foC op))) (hn : L1.icall (.func 73 []) [.ptr rb 0,.str ⟨#[32]⟩] G = some (.tup [],G1)) (ht : Thr PP 41 [.ptr rb 0] G1 82 v G') : ∃ F',TR PP L1 m11 ⟨F,G⟩ 82 v ⟨F',G'⟩ := by
 obtain ⟨hl,h0,h3,h4,h5⟩ := hF
 unfold foC at ho
 have lio := xAp ho
 have hd : ((1 : Int) < ((chn op : Nat) : Int)) = True := by simp; omega
 rw [xA3 hl,h0,h3,h4,h5]
 unfold m11
 apply Exists.intro
 apply TR.seqR
 ·simp (maxSteps := 30000000) (disch := first|exact D5|fail) only [sqA,xPT,sqB,a41,WB,ho,hd]
  rfl
 apply TR.condT
 ·rfl
 apply TR.seqR
 ·simp (maxSteps := 30000000) (disch := first|exact D5|fail) only [sqA,yBt,sqB,xPT,a41,WB,hn]
  rfl
 apply tr_call' (ht := ht)
 ·simp (maxSteps := 30000000) (disch := first|exact D5|fail) only [WB]
  rfl
 ·rfl
end
end Go.Abs.Events
