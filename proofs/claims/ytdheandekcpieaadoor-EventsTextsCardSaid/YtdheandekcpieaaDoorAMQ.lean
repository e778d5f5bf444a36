/- The parser's walks: the program without Parse; a byte that is needed. -/
import Derived.Test.YtdheandekcpieaaDoorAbsBun
import Derived.Test.YtdheandekcpieaaDoorAMP
import Derived.Test.YtdheandekcpieaaDoorAMT
namespace Go.Abs.Events
open Go Go.Abs
set_option maxHeartbeats 8000000
set_option linter.unusedSimpArgs false
set_option linter.unusedVariables false
noncomputable abbrev L1 : Rec := lim Go.Proofs.prog1
theorem yDJ (caps args : List AV) (H : Heap) : L1.icall (.func 70 caps) args H = xAS L1 a70 (args ++ caps) H := xAk rfl caps args H
theorem yDm (caps args : List AV) (H : Heap) : L1.icall (.func 71 caps) args H = xAS L1 a71 (args ++ caps) H := xAk rfl caps args H
theorem yDK (caps args : List AV) (H : Heap) : L1.icall (.func 72 caps) args H = xAS L1 a72 (args ++ caps) H := xAk rfl caps args H
theorem yDL (caps args : List AV) (H : Heap) : L1.icall (.func 73 caps) args H = xAS L1 a73 (args ++ caps) H := xAk rfl caps args H
theorem yDM (caps args : List AV) (H : Heap) : L1.icall (.func 41 caps) args H = xAS L1 a41 (args ++ caps) H := xAk rfl caps args H
theorem xSP (args : List AV) : L1.pcall 68 args = xAE L1 a68 args := xAo rfl args
theorem xSQ (l : List UInt8) (c : UInt8) : Lib.indexByte l c = if l.contains c = true then ((l.idxOf c : Nat) : Int) else -1 := by
 induction l with
 | nil => rfl
 | cons b l ih =>
  unfold Lib.indexByte
  rw [ih]
  by_cases h : b = c
  ·subst h; simp
  ·have h1 : (b == c) = false := by simp [h]
   have h2 : (c == b) = false := beq_eq_false_iff_ne.2 fun e => h e.symm
   rw [h1,List.contains_cons,h2,List.idxOf_cons,h1]
   simp only [Bool.false_eq_true,if_false,Bool.false_or,cond_false]
   by_cases hc : l.contains c = true
   ·rw [if_pos hc,if_pos hc]
    have : ((((l.idxOf c : Nat) : Int)) == -1) = false := beq_eq_false_iff_ne.2 (by omega)
    rw [this]; simp
   ·rw [if_neg hc,if_neg hc]; rfl
theorem p98 (cs : List UInt8) (c : UInt8) : L1.pcall 98 [zS cs,.int .u8 (c.toNat : Nat)] = some (.int .i64 (Lib.indexByte cs c)) := by
 refine xB3 rfl ?_
 show some (AV.int .i64 (Lib.indexByte cs (((c.toNat : Nat) : Int).toNat.toUInt8))) = _
 simp
def xQQ (H : Heap) (x i : AV) : Option (AV × Heap) := match x,xA7 i with
 | .str s,some j => (s[j]?).map fun b => (.int .u8 b.toNat,H)
 | _,_ => none
theorem xAK {R : Rec} {F : List AV} {H : Heap} (x i : Arg) : xAb R F H (.sidx x i) = xQQ H (opv F x) (opv F i) := rfl
theorem xZS (S : List UInt8) (i : Nat) : (⟨S.toArray⟩ : ByteArray)[i]? = S[i]? := by
 by_cases h : i < S.length
 ·have h' : i < (⟨S.toArray⟩ : ByteArray).size := h
  rw [getElem?_pos (⟨S.toArray⟩ : ByteArray) i h',List.getElem?_eq_getElem h]; rfl
 ·have h' : ¬ i < (⟨S.toArray⟩ : ByteArray).size := h
  rw [getElem?_neg (⟨S.toArray⟩ : ByteArray) i h',List.getElem?_eq_none (by omega)]
theorem xBC {S : List UInt8} {at_ : Nat} {c : UInt8} (H : Heap) (h : S[at_]? = some c) : xQQ H (zS S) (.int .i64 (at_ : Nat)) = some (.int .u8 (c.toNat : Nat),H) := by
 have hn : xA7 (.int .i64 (at_ : Nat)) = some at_ := by simp [xA7]
 unfold xQQ
 rw [hn]
 show Option.map (fun b : UInt8 => (AV.int .u8 (b.toNat : Nat),H)) ((⟨S.toArray⟩ : ByteArray)[at_]?) = _
 rw [xZS,h]; rfl
def RD (G : Heap) (rb : Nat) (S : List UInt8) (at_ : Nat) (lv : AV) (many : Nat) : Prop := G[rb]? = some (.cells false false [zS S,.int .i64 (at_ : Nat),lv,.int .i64 (many : Nat)])
theorem xDZ {G : Heap} {rb at_ many : Nat} {S cs : List UInt8} {lv : AV} {e : Int} {c : UInt8} (h : RD G rb S at_ lv many) (hS : S.length ≤ 4096) (hc : S[at_]? = some c) (hm : cs.contains c = true) :
  L1.icall (.func 70 []) [.ptr rb 0,zS cs,.int .i64 e] G = some (.int .u8 (c.toNat : Nat),G) := by
 unfold RD at h
 have hlt : at_ < S.length := (List.getElem?_eq_some_iff.1 hc).1
 have hne : (((at_ : Nat) : Int) = (S.length : Nat)) = False := by simp; omega
 have hsz : (⟨S.toArray⟩ : ByteArray).size = S.length := by simp [ByteArray.size]
 have hidx : (Lib.indexByte cs c < 0) = False := by rw [xSQ,if_pos hm]; simp
 have hs := fun H => xBC H hc
 rw [yDJ,a70,xAj]
 simp (maxSteps := 30000000) (disch := first|exact D5|fail) only [WB,Nat.reduceAdd,Nat.reduceSub,h,xAh,WA,hsz,hne,↓reduceIte,xAK,hs,p98,xAN,xAt,hidx]
abbrev rdB (S : List UInt8) (at_ : Nat) (lv : AV) (many : Nat) : Blk := .cells false false [zS S,.int .i64 (at_ : Nat),lv,.int .i64 (many : Nat)]
theorem xCD {G : Heap} {rb at_ many : Nat} {S cs : List UInt8} {lv : AV} {c : UInt8} (h : RD G rb S at_ lv many) (hS : S.length ≤ 4096) (hc : S[at_]? = some c) (hm : cs.contains c = true) :
  L1.icall (.func 73 []) [.ptr rb 0,zS cs] G = some (.tup [],G.set rb (rdB S (at_ + 1) lv many)) := by
 have hn := xDZ (e := 2) h hS hc hm
 have hlt : at_ < S.length := (List.getElem?_eq_some_iff.1 hc).1
 unfold RD at h
 have lo := xAp h
 rw [yDL,a73,xAj]
 simp (maxSteps := 30000000) (disch := first|exact D5|fail) only [WB,Nat.reduceAdd,Nat.reduceSub,hn,h,AV.cells,↓reduceIte]
theorem xEi {G : Heap} {rb at_ many : Nat} {S cs : List UInt8} {lv : AV} {c : UInt8} (h : RD G rb S at_ lv many) (hS : S.length ≤ 4096) (h32 : S[at_]? = some 32) (hc : S[at_ + 1]? = some c) (hm : cs.contains c = true) :
  L1.icall (.func 72 []) [.ptr rb 0,zS cs] G = some (.int .i64 (cs.idxOf c : Nat),G.set rb (rdB S (at_ + 2) lv many)) := by
 have hp := xCD (cs := [32]) h hS h32 (by decide)
 have hlt : at_ + 1 < S.length := (List.getElem?_eq_some_iff.1 hc).1
 have lo := xAp (show G[rb]? = some _ from h)
 have h' : RD (G.set rb (rdB S (at_ + 1) lv many)) rb S (at_ + 1) lv many := by unfold RD; rw [List.getElem?_set_self lo]
 have hn := xDZ (e := 1) h' hS hc hm
 have h98 := p98 cs c
 rw [xSQ,if_pos hm] at h98
 unfold RD at h h'
 rw [yDK,a72,xAj]
 simp (maxSteps := 30000000) (disch := first|exact D5|fail) only [WB,Nat.reduceAdd,Nat.reduceSub,hp,hn,h',AV.cells,↓reduceIte,h98,xAN,xAt]
 rw [List.set_set]
set_option maxHeartbeats 4000000
theorem xVg : L1.pcall 68 [.int .u8 (1 : Nat)] = some (.agg (foC 1)) := by
 rw [xSP,a68,xAe]
 simp (disch := omega) only [WB,Nat.reduceSub,AV.cells,AV.isCell,↓reduceIte,Nat.reduceAdd,Nat.reduceLeDiff]
 rfl
theorem xVh : L1.pcall 68 [.int .u8 (2 : Nat)] = some (.agg (foC 2)) := by
 rw [xSP,a68,xAe]
 simp (disch := omega) only [WB,Nat.reduceSub,AV.cells,AV.isCell,↓reduceIte,Int.reduceEq,Nat.reduceAdd,Nat.reduceLeDiff]
 rfl
theorem xVi : L1.pcall 68 [.int .u8 (3 : Nat)] = some (.agg (foC 3)) := by
 rw [xSP,a68,xAe]
 simp (disch := omega) only [WB,Nat.reduceSub,AV.cells,AV.isCell,↓reduceIte,Int.reduceEq,Nat.reduceAdd,Nat.reduceLeDiff]
 rfl
theorem xVj : L1.pcall 68 [.int .u8 (4 : Nat)] = some (.agg (foC 4)) := by
 rw [xSP,a68,xAe]
 simp (disch := omega) only [WB,Nat.reduceSub,AV.cells,AV.isCell,↓reduceIte,Int.reduceEq,Nat.reduceAdd,Nat.reduceLeDiff,xCO,xCP,xCl,Int.reduceLT,WA,Nat.reduceMul]
 rfl
theorem xVk : L1.pcall 68 [.int .u8 (5 : Nat)] = some (.agg (foC 5)) := by
 rw [xSP,a68,xAe]
 simp (disch := first | assumption | omega | rfl | decide) only [WB,Nat.reduceSub,AV.cells,AV.isCell,↓reduceIte,Int.reduceEq,Nat.reduceAdd,Nat.reduceLeDiff,xCO,xCP,xCl,Int.reduceLT,WA,Nat.reduceMul]
 rfl
theorem xVl : L1.pcall 68 [.int .u8 (6 : Nat)] = some (.agg (foC 6)) := by
 rw [xSP,a68,xAe]
 simp (disch := first | assumption | omega | rfl | decide) only [WB,Nat.reduceSub,AV.cells,AV.isCell,↓reduceIte,Int.reduceEq,Nat.reduceAdd,Nat.reduceLeDiff,xCO,xCP,xCl,Int.reduceLT,WA,Nat.reduceMul,Int.reduceAdd,Int.reduceToNat]
 rfl
theorem xVm : L1.pcall 68 [.int .u8 (7 : Nat)] = some (.agg (foC 7)) := by
 rw [xSP,a68,xAe]
 simp (disch := omega) only [WB,Nat.reduceSub,AV.cells,AV.isCell,↓reduceIte,Int.reduceEq,Nat.reduceAdd,Nat.reduceLeDiff]
 rfl
theorem xVn : L1.pcall 68 [.int .u8 (8 : Nat)] = some (.agg (foC 8)) := by
 rw [xSP,a68,xAe]
 simp (disch := first | assumption | omega | rfl | decide) only [WB,Nat.reduceSub,AV.cells,AV.isCell,↓reduceIte,Int.reduceEq,Nat.reduceAdd,Nat.reduceLeDiff,xCO,xCP,xCl,Int.reduceLT,WA,Nat.reduceMul,Int.reduceAdd,Int.reduceToNat]
 rfl
theorem xVo : L1.pcall 68 [.int .u8 (9 : Nat)] = some (.agg (foC 9)) := by
 rw [xSP,a68,xAe]
 simp (disch := first | assumption | omega | rfl | decide) only [WB,Nat.reduceSub,AV.cells,AV.isCell,↓reduceIte,Int.reduceEq,Nat.reduceAdd,Nat.reduceLeDiff,xCO,xCP,xCl,Int.reduceLT,WA,Nat.reduceMul,Int.reduceAdd,Int.reduceToNat]
 rfl
theorem xSR : L1.pcall 68 [.int .u8 (10 : Nat)] = some (.agg (foC 10)) := by
 rw [xSP,a68,xAe]
 simp (disch := first | assumption | omega | rfl | decide) only [WB,Nat.reduceSub,AV.cells,AV.isCell,↓reduceIte,Int.reduceEq,Nat.reduceAdd,Nat.reduceLeDiff,xCO,xCP,xCl,Int.reduceLT,WA,Nat.reduceMul,Int.reduceAdd,Int.reduceToNat]
 rfl
theorem xSS {op : Nat} (h : op = 0 ∨ 10 < op) : L1.pcall 68 [.int .u8 (op : Nat)] = some (.agg (foC op)) := by
 have n1 : ¬ (((op : Nat) : Int) = 1) := by omega
 have n2 : ¬ (((op : Nat) : Int) = 2) := by omega
 have n3 : ¬ (((op : Nat) : Int) = 3) := by omega
 have n7 : ¬ (((op : Nat) : Int) = 7) := by omega
 have n4 : ¬ ((4 : Int) = ((op : Nat) : Int)) := by omega
 have n5 : ¬ ((5 : Int) = ((op : Nat) : Int)) := by omega
 have n6 : ¬ ((6 : Int) = ((op : Nat) : Int)) := by omega
 have n8 : ¬ ((8 : Int) = ((op : Nat) : Int)) := by omega
 have n9 : ¬ ((9 : Int) = ((op : Nat) : Int)) := by omega
 have n10 : ¬ ((10 : Int) = ((op : Nat) : Int)) := by omega
 have hf : foC op = [.str ⟨#[]⟩,.int .i64 0,.int .i64 0,.int .i64 0,.bool false,.bool false] := by
  unfold foC fnm chn flo fhi
  have m1 : op ≠ 1 := by omega
  have m2 : op ≠ 2 := by omega
  have m3 : op ≠ 3 := by omega
  have m4 : op ≠ 4 := by omega
  have m5 : op ≠ 5 := by omega
  have m6 : op ≠ 6 := by omega
  have m7 : op ≠ 7 := by omega
  have m8 : op ≠ 8 := by omega
  have m9 : op ≠ 9 := by omega
  have m10 : op ≠ 10 := by omega
  simp [m1,m2,m3,m4,m5,m6,m7,m8,m9,m10]
 rw [hf]
 rw [xSP,a68,xAe]
 simp (disch := first | assumption | omega | rfl | decide) only [WB,Nat.reduceSub,AV.cells,AV.isCell,↓reduceIte,n1,n2,n3,n7,Nat.reduceAdd,Nat.reduceLeDiff,xCO,xCP,xCl,Int.reduceLT,WA,Nat.reduceMul,n4,n5,Int.reduceAdd,Int.reduceToNat,n6,n8,n9,n10]
theorem xGL (op : Nat) : L1.pcall 68 [.int .u8 (op : Nat)] = some (.agg (foC op)) := by
 by_cases h : op = 0 ∨ 10 < op
 ·exact xSS h
 have : op = 1 ∨ op = 2 ∨ op = 3 ∨ op = 4 ∨ op = 5 ∨ op = 6 ∨ op = 7 ∨ op = 8 ∨ op = 9 ∨ op = 10 := by omega
 rcases this with rfl | rfl | rfl | rfl | rfl | rfl | rfl | rfl | rfl | rfl
 ·exact xVg
 ·exact xVh
 ·exact xVi
 ·exact xVj
 ·exact xVk
 ·exact xVl
 ·exact xVm
 ·exact xVn
 ·exact xVo
 ·exact xSR
theorem xPn {p : UInt8 → Bool} (h : (List.range 256).all (fun n => p (UInt8.ofNat n)) = true) (c : UInt8) : p c = true := by
 have := List.all_eq_true.1 h c.toNat (List.mem_range.2 c.toNat_lt)
 simpa using this
def ltB : List UInt8 := [97,98,99,100,101,102,103,104,105,106,107,108,109,110,111,112,113,114,115,116,117,118,119,120,121,122]
theorem xJn (c : UInt8) : ltB.contains c = smB c := by
 have := xPn (p := fun c => ltB.contains c == smB c) (by decide +kernel) c
 simpa using this
theorem xXP {op : Nat} : (fnm op) = (⟨(opB op).toArray⟩ : ByteArray) := by
 unfold fnm opB
 repeat' split
 all_goals rfl
theorem baL (l : List UInt8) : (⟨l.toArray⟩ : ByteArray).toList = l := by rw [Lib.toList_data]
theorem xST (op : Nat) (w : List UInt8) : xTF false (.str (fnm op)) (zS w) = some (.bool (opB op == w)) := by
 rw [xAC,xXP,baL,baL]
theorem p99 (r : List UInt8) : L1.pcall 99 [zS r,zS ltB] = some (zS (r.dropWhile smB)) := by
 refine xB3 rfl ?_
 have e : Lib.trimLeftS r ltB = r.dropWhile smB := by
  unfold Lib.trimLeftS
  rw [show (fun c => ltB.contains c) = smB from funext xJn]
 show (if (ltB.all (fun b => decide (b.toNat < 128)) && decide (ltB.toArray.size < 4294967281)) = true then some (AV.str ⟨(Lib.trimLeftS r ltB).toArray⟩) else none) = _
 rw [if_pos (by decide),e]
def fnd (w : List UInt8) (ins : Bool) (j k : Nat) : Option Nat := (List.range' j k).find? fun op => opB op == w && (decide (op ≠ 1) == ins)
theorem xWK {G : Heap} {rb at_ many : Nat} {S w : List UInt8} {lv : AV} {ins : Bool} (h : RD G rb S at_ lv many) (hS : S.length ≤ 4096) (hw : w.length ≤ 4096) (ha : at_ ≤ 4096) : ∀ k j,j + k = 11 → 1 ≤ j → ∀ op,fnd w ins j k = some op →
  L1.loop xEA xKE ⟨xCF (.ptr rb 0) (.bool ins) (.int .u8 0) (zS w) (.int .u8 (j : Nat)),G⟩ = some (.ret,⟨xCF (.ptr rb 0) (.bool ins) (.int .u8 (op : Nat)) (zS w) (.int .u8 (op : Nat)),G.set rb (rdB S (at_ + w.length) lv many)⟩) := by
 have h0 := h
 unfold RD at h
 have lo := xAp h
 have hwz : (⟨w.toArray⟩ : ByteArray).size = w.length := by simp [ByteArray.size]
 intro k
 induction k with
 | zero => intro j hj h1 op hf; cases hf
 | succ k ih =>
  intro j hj h1 op hf
  have hle : ((j : Nat) : Int) ≤ 10 := by omega
  have hq := xGL j
  unfold foC at hq
  have hsb := xST j w
  have hj1 : decide (((j : Nat) : Int) = 1) = decide (j = 1) := by rw [decide_eq_decide]; omega
  unfold fnd at hf
  rw [List.range'_succ,List.find?_cons] at hf
  cases hb : (opB j == w) with
  | false =>
   rw [hb,Bool.false_and] at hf
   have := ih (j + 1) (by omega) (by omega) op hf
   rw [xJU]
   simp (maxSteps := 30000000) (disch := first|exact D5|fail) only [xGt,WB,hle,↓reduceIte,hq,xAN,xAt,xAF,hsb,hb,xEB,this]
  | true =>
   rw [hb,Bool.true_and] at hf
   cases hi : (decide (j ≠ 1) == ins) with
   | false =>
    rw [hi] at hf
    have := ih (j + 1) (by omega) (by omega) op hf
    have hcond : (decide (((j : Nat) : Int) = 1) = !ins) = False := by
     rw [hj1]
     by_cases c : j = 1 <;> cases ins <;> simp [c] at hi ⊢
    rw [xJU]
    simp (maxSteps := 30000000) (disch := first|exact D5|fail) only [xGt,WB,hle,↓reduceIte,hq,xAN,xAt,xAF,hsb,hb,hcond,xEB,this]
   | true =>
    rw [hi] at hf
    cases hf
    have hcond : (decide (((j : Nat) : Int) = 1) = !ins) = True := by
     rw [hj1]
     by_cases c : j = 1 <;> cases ins <;> simp [c] at hi ⊢
    rw [xJU]
    simp (maxSteps := 30000000) (disch := first|exact D5|fail) only [xGt,WB,hle,↓reduceIte,hq,xAN,xAt,xAF,hsb,hb,hcond,h,WA,hwz,AV.cells,Nat.reduceAdd,xEB]
theorem xWL (S : List UInt8) (a b : Nat) : (⟨S.toArray⟩ : ByteArray).extract a b = ⟨((S.drop a).take (b - a)).toArray⟩ := by
 have : ((⟨S.toArray⟩ : ByteArray).extract a b).data = ((S.drop a).take (b - a)).toArray := by
  rw [ByteArray.data_extract]; simp [List.extract_eq_take_drop]
 exact congrArg ByteArray.mk this
theorem xPo {S : List UInt8} {a : Nat} (H : Heap) (h : a ≤ S.length) : xX0 H (zS S) (some (.int .i64 (a : Nat))) none = some (zS (S.drop a),H) := by
 have hn : xA7 (.int .i64 (a : Nat)) = some a := by simp [xA7]
 have hs : (⟨S.toArray⟩ : ByteArray).size = S.length := by simp [ByteArray.size]
 show (xBi (⟨S.toArray⟩ : ByteArray).size (some (.int .i64 (a : Nat))) none none).map _ = _
 unfold xBi
 simp only [hn,hs]
 rw [if_pos ⟨h,Nat.le_refl _⟩]
 show some (AV.str ((⟨S.toArray⟩ : ByteArray).extract a S.length),H) = _
 rw [xWL,List.take_of_length_le (by simp)]
theorem xSU {S : List UInt8} {a : Nat} (H : Heap) (h : a ≤ S.length) : xX0 H (zS S) none (some (.int .i64 (a : Nat))) = some (zS (S.take a),H) := by
 have hn : xA7 (.int .i64 (a : Nat)) = some a := by simp [xA7]
 have hs : (⟨S.toArray⟩ : ByteArray).size = S.length := by simp [ByteArray.size]
 show (xBi (⟨S.toArray⟩ : ByteArray).size none (some (.int .i64 (a : Nat))) none).map _ = _
 unfold xBi
 simp only [hn,hs]
 rw [if_pos ⟨Nat.zero_le _,h⟩]
 show some (AV.str ((⟨S.toArray⟩ : ByteArray).extract 0 a),H) = _
 rw [xWL,List.drop_zero,Nat.sub_zero]
theorem xKB (w : List UInt8) (ins : Bool) : pop w ins = fnd w ins 1 10 := rfl
theorem xZT (r : List UInt8) : r.length - (r.dropWhile smB).length = (r.takeWhile smB).length ∧ (r.dropWhile smB).length ≤ r.length ∧ r.take (r.takeWhile smB).length = r.takeWhile smB := by
 have h := List.takeWhile_append_dropWhile (p := smB) (l := r)
 have h2 := congrArg List.length h
 rw [List.length_append] at h2
 refine ⟨by omega,by omega,?_⟩
 conv => lhs; rw [← h]
 rw [List.take_left' (by rw [h])]
theorem xMu {G : Heap} {rb at_ many : Nat} {S r : List UInt8} {lv : AV} {ins : Bool} {c : UInt8} {op : Nat} (h : RD G rb S at_ lv many) (hS : S.length ≤ 4096) (hr : S.drop at_ = c :: r) (hc : (c == 61 || smB c) = true) (hp : pop (xA0 (c :: r)) ins = some op) :
  L1.icall (.func 71 []) [.ptr rb 0,.bool ins] G = some (.int .u8 (op : Nat),G.set rb (rdB S (at_ + (xA0 (c :: r)).length) lv many)) := by
 have hlt : at_ < S.length := by
  rcases Nat.lt_or_ge at_ S.length with q | q
  ·exact q
  ·rw [List.drop_of_length_le q] at hr; cases hr
 have hcs : S[at_]? = some c := by
  have := congrArg List.head? hr
  rw [List.head?_drop] at this; exact this
 have hmem : (61 :: ltB).contains c = true := by rw [List.contains_cons,xJn]; exact hc
 have hn : L1.icall (.func 70 []) [.ptr rb 0,.str ⟨#[61,97,98,99,100,101,102,103,104,105,106,107,108,109,110,111,112,113,114,115,116,117,118,119,120,121,122]⟩,.int .i64 2] G = some (.int .u8 (c.toNat : Nat),G) := xDZ (cs := 61 :: ltB) h hS hcs hmem
 by_cases h61 : c = 61
 ·subst h61
  have hw : xA0 (61 :: r) = [61] := rfl
  rw [hw] at hp ⊢
  have hlp := xWK (w := [61]) h hS (by decide) (by omega) 10 1 rfl (Nat.le_refl _) op (by rw [← xKB]; exact hp)
  have hlp' : L1.loop xEA xKE ⟨xCF (.ptr rb 0) (.bool ins) (.int .u8 0) (.str ⟨#[61]⟩) (.int .u8 1),G⟩ = some (.ret,⟨xCF (.ptr rb 0) (.bool ins) (.int .u8 (op : Nat)) (zS [61]) (.int .u8 (op : Nat)),G.set rb (rdB S (at_ + [(61 : UInt8)].length) lv many)⟩) := hlp
  have hn' : L1.icall (.func 70 []) [.ptr rb 0,.str ⟨#[61,97,98,99,100,101,102,103,104,105,106,107,108,109,110,111,112,113,114,115,116,117,118,119,120,121,122]⟩,.int .i64 2] G = some (.int .u8 61,G) := hn
  rw [yDm,a71,xAj]
  simp (maxSteps := 30000000) (disch := first|exact D5|fail) only [WB,Nat.reduceAdd,Nat.reduceSub,hn',↓reduceIte,xEB,hlp']
 ·have hne : (((c.toNat : Nat) : Int) = 61) = False := by
   simp only [eq_iff_iff,iff_false]
   intro e
   apply h61
   have : c.toNat = 61 := by omega
   exact UInt8.toNat_inj.1 this
  have hw : xA0 (c :: r) = (c :: r).takeWhile smB := by
   unfold xA0
   rw [if_neg (by intro e; cases e; exact h61 rfl)]
  obtain ⟨t1,t2,t3⟩ := xZT (c :: r)
  have hlo := fun H => xPo (S := S) (a := at_) H (by omega)
  have hhi := fun H => xSU (S := c :: r) (a := ((c :: r).takeWhile smB).length) H (by omega)
  rw [hr] at hlo
  rw [t3] at hhi
  have h99 : L1.pcall 99 [zS (c :: r),.str ⟨#[97,98,99,100,101,102,103,104,105,106,107,108,109,110,111,112,113,114,115,116,117,118,119,120,121,122]⟩] = some (zS ((c :: r).dropWhile smB)) := p99 (c :: r)
  have hz1 : (⟨(c :: r).toArray⟩ : ByteArray).size = (c :: r).length := by simp [ByteArray.size]
  have hz2 : (⟨((c :: r).dropWhile smB).toArray⟩ : ByteArray).size = ((c :: r).dropWhile smB).length := by simp [ByteArray.size]
  have hsub : (((c :: r).length : Nat) : Int) - (((c :: r).dropWhile smB).length : Nat) = (((c :: r).takeWhile smB).length : Nat) := by omega
  have hrl : (c :: r).length ≤ 4096 := by rw [← hr]; simp; omega
  rw [hw] at hp ⊢
  have hlp := xWK (w := (c :: r).takeWhile smB) h hS (by omega) (by omega) 10 1 rfl (Nat.le_refl _) op (by rw [← xKB]; exact hp)
  unfold RD at h
  generalize (c :: r).takeWhile smB = w at *
  generalize (c :: r).dropWhile smB = d at *
  generalize c :: r = q at *
  have hlp' : L1.loop xEA xKE ⟨xCF (.ptr rb 0) (.bool ins) (.int .u8 0) (zS w) (.int .u8 1),G⟩ = some (.ret,⟨xCF (.ptr rb 0) (.bool ins) (.int .u8 (op : Nat)) (zS w) (.int .u8 (op : Nat)),G.set rb (rdB S (at_ + w.length) lv many)⟩) := hlp
  rw [yDm,a71,xAj]
  simp (maxSteps := 30000000) (disch := first|exact D5|fail) only [WB,Nat.reduceAdd,Nat.reduceSub,hn,hne,↓reduceIte,h,xAh,xBS,hlo,WA,hz1,h99,xAN,xAt,hz2,hsub,hhi,xEB,hlp']
theorem xCE {p : UInt8 → Bool} {e : Nat} {r r' : List UInt8} {c : UInt8} (h : xBU p e r = .ok c r') : ∃ q,r = c :: q ∧ r' = r ∧ p c = true := by
 cases r with
 | nil => cases h
 | cons d q =>
  by_cases hp : p d = true
  ·rw [xPG e q hp] at h
   cases h
   exact ⟨q,rfl,rfl,hp⟩
  ·have : xBU p e (d :: q) = .bad (d :: q) e := if_neg hp
   rw [this] at h; cases h
theorem xAB {α β : Type} {x : PR α} {f : α → List UInt8 → PR β} {v : β} {r : List UInt8} (h : x.bind f = .ok v r) : ∃ a q,x = .ok a q ∧ f a q = .ok v r := by
 cases x with
 | ok a q => exact ⟨a,q,rfl,h⟩
 | bad q e => cases h
theorem xBx {c : UInt8} {r r' : List UInt8} {u : Unit} (h : xBV c r = .ok u r') : r = c :: r' := by
 obtain ⟨d,q,h1,h2⟩ := xAB h
 obtain ⟨q',rfl,rfl,hp⟩ := xCE h1
 cases h2
 have : d = c := by simpa using hp
 rw [this]; rfl
theorem xCN {cs r r' : List UInt8} {t : Nat} (h : xIj cs r = .ok t r') : ∃ c,r = 32 :: c :: r' ∧ cs.contains c = true ∧ t = cs.idxOf c := by
 obtain ⟨u,q,h1,h2⟩ := xAB h
 obtain ⟨c,q2,h3,h4⟩ := xAB h2
 obtain ⟨q3,rfl,rfl,hp⟩ := xCE h3
 cases h4
 exact ⟨c,xBx h1,hp,rfl⟩
theorem xAX {S r : List UInt8} {a : Nat} {c : UInt8} (h : S.drop a = c :: r) : S[a]? = some c ∧ S.drop (a + 1) = r ∧ a < S.length := by
 have h1 := congrArg List.head? h
 rw [List.head?_drop] at h1
 refine ⟨h1,?_,(List.getElem?_eq_some_iff.1 h1).1⟩
 rw [← List.drop_drop,h]; rfl
theorem xMv (a : List Int) (t : Int) : xAG a ++ [.int .i64 t] = xAG (a ++ [t]) := by simp [xAG]
theorem xD0 (a : List Int) : (xAG a).length = a.length := by simp [xAG]
theorem xEj (a : List Int) : List.take a.length (xAG a) = xAG a := List.take_of_length_le (by rw [xD0]; omega)
abbrev xB (op : Nat) (nm : Int) (av : AV) (x a b : Int) : Blk := .cells false false [.int .u8 (op : Nat),.int .i64 nm,av,.int .i64 x,.int .i64 a,.int .i64 b]
theorem xB2 {r : Option (AExit × St)} {F1 : List AV} {G1 : Heap} {P : List AV → Prop} (h : r = some (.normal,⟨F1,G1⟩)) (hp : P F1) : ∃ F',r = some (.normal,⟨F',G1⟩) ∧ P F' := ⟨F1,h,hp⟩
theorem xJo {G : Heap} {rb ix io at_ many op : Nat} {S r' : List UInt8} {lv s3 : AV} {nm x a b : Int} {c : UInt8} (h : RD G rb S at_ lv many) (hS : S.length ≤ 4096) (hr : S.drop at_ = 32 :: c :: r') (hm : splB.contains c = true)
  (hx : G[ix]? = some (xB op nm (.sl true 0 []) x a b)) (ho : G[io]? = some (.cells false false (foC op))) (hne1 : rb ≠ ix) (hne2 : rb ≠ io) (hne3 : ix ≠ io) (hl : 0 < fhi op) (hlo : 0 < flo op) :
  ∃ F',run L1 xBb ⟨xAI (.ptr rb 0) s3 (.ptr ix 0) (.ptr io 0),G⟩ = some (.normal,⟨F',List.set (G.set rb (rdB S (at_ + 2) lv many)) ix (xB op nm (.own false G.length 0 1 1) x a b) ++ [.cells false false ([.int .i64 (splB.idxOf c : Nat)])]⟩) ∧ xAu xAT F' = xAI (.ptr rb 0) s3 (.ptr ix 0) (.ptr io 0) := by
 obtain ⟨a1,a2,a3⟩ := xAX hr
 obtain ⟨b1,b2,b3⟩ := xAX a2
 have hn' : L1.icall (.func 72 []) [.ptr rb 0,.str ⟨#[48,49,50,51,52,53,54,55,120,121,122]⟩] G = some (.int .i64 (splB.idxOf c : Nat),G.set rb (rdB S (at_ + 2) lv many)) := xEi (cs := splB) h hS a1 b1 hm
 have hf2 := xCf op
 have hlI : (0 : Int) < (fhi op : Nat) := by omega
 have hlo' : ((0 : Int) < (flo op : Nat)) = True := by simp; omega
 have lx := xAp hx
 have lio := xAp ho
 have lo := xAp (show G[rb]? = some _ from h)
 have hsz : (⟨S.toArray⟩ : ByteArray).size = S.length := by simp [ByteArray.size]
 have hne : (((at_ : Nat) : Int) = (S.length : Nat)) = False := by simp; omega
 have hsi : ∀ H,xQQ H (zS S) (.int .i64 (at_ : Nat)) = some (.int .u8 32,H) := fun H => xBC H a1
 have hrd : xBR G (List.set G rb (rdB S (at_ + 2) lv many)) (.ptr ix 2) 1 = true := by
  have e : (List.set G rb (rdB S (at_ + 2) lv many))[ix]? = G[ix]? := List.getElem?_set_ne hne1
  have e2 : rd (List.set G rb (rdB S (at_ + 2) lv many)) (.ptr ix 2) 1 = rd G (.ptr ix 2) 1 := by simp only [rd,e]
  have e3 : rd G (.ptr ix 2) 1 = some [.sl true 0 []] := by simp [rd,hx]
  unfold xBR
  rw [e2,e3]; simp [xIz]
 unfold foC at ho
 unfold RD at h
 generalize ((splB.idxOf c : Nat) : Int) = t at *
 apply xB2
 ·simp (maxSteps := 30000000) (disch := first|exact D5|fail) only [xBb,xCc,WB,hx,ho,hlI,↓reduceIte,hlo',xAh,WH,WP,Nat.reduceSub,hn',hrd,AV.cells,AV.isCell,Nat.reduceBEq,xA1,xBB,Nat.reduceAdd,xEm]
  rfl
 ·rw [xFl]
theorem xJp {G : Heap} {rb ix io at_ many op : Nat} {S r' : List UInt8} {lv s3 : AV} {nm x a b : Int} {c : UInt8} (h : RD G rb S at_ lv many) (hS : S.length ≤ 4096) (hr : S.drop at_ = 32 :: c :: r') (hm : splB.contains c = true)
  (hx : G[ix]? = some (xB op nm (.sl true 0 []) x a b)) (ho : G[io]? = some (.cells false false (foC op))) (hne1 : rb ≠ ix) (hne2 : rb ≠ io) (hne3 : ix ≠ io) (hl : 0 < fhi op) (hlo : ¬ 0 < flo op) :
  ∃ F',run L1 xBb ⟨xAI (.ptr rb 0) s3 (.ptr ix 0) (.ptr io 0),G⟩ = some (.normal,⟨F',List.set (G.set rb (rdB S (at_ + 2) lv many)) ix (xB op nm (.own false G.length 0 1 1) x a b) ++ [.cells false false ([.int .i64 (splB.idxOf c : Nat)])]⟩) ∧ xAu xAT F' = xAI (.ptr rb 0) s3 (.ptr ix 0) (.ptr io 0) := by
 obtain ⟨a1,a2,a3⟩ := xAX hr
 obtain ⟨b1,b2,b3⟩ := xAX a2
 have hn' : L1.icall (.func 72 []) [.ptr rb 0,.str ⟨#[48,49,50,51,52,53,54,55,120,121,122]⟩] G = some (.int .i64 (splB.idxOf c : Nat),G.set rb (rdB S (at_ + 2) lv many)) := xEi (cs := splB) h hS a1 b1 hm
 have hf2 := xCf op
 have hlI : (0 : Int) < (fhi op : Nat) := by omega
 have hlo' : ((0 : Int) < (flo op : Nat)) = False := by simp; omega
 have lx := xAp hx
 have lio := xAp ho
 have lo := xAp (show G[rb]? = some _ from h)
 have hsz : (⟨S.toArray⟩ : ByteArray).size = S.length := by simp [ByteArray.size]
 have hne : (((at_ : Nat) : Int) = (S.length : Nat)) = False := by simp; omega
 have hsi : ∀ H,xQQ H (zS S) (.int .i64 (at_ : Nat)) = some (.int .u8 32,H) := fun H => xBC H a1
 have hrd : xBR G (List.set G rb (rdB S (at_ + 2) lv many)) (.ptr ix 2) 1 = true := by
  have e : (List.set G rb (rdB S (at_ + 2) lv many))[ix]? = G[ix]? := List.getElem?_set_ne hne1
  have e2 : rd (List.set G rb (rdB S (at_ + 2) lv many)) (.ptr ix 2) 1 = rd G (.ptr ix 2) 1 := by simp only [rd,e]
  have e3 : rd G (.ptr ix 2) 1 = some [.sl true 0 []] := by simp [rd,hx]
  unfold xBR
  rw [e2,e3]; simp [xIz]
 unfold foC at ho
 unfold RD at h
 generalize ((splB.idxOf c : Nat) : Int) = t at *
 apply xB2
 ·simp (maxSteps := 30000000) (disch := first|exact D5|fail) only [xBb,xCc,WB,hx,ho,hlI,↓reduceIte,hlo',h,WA,hsz,hne,xAh,xAK,hsi,Int.reduceEq,WH,WP,Nat.reduceSub,hn',hrd,AV.cells,AV.isCell,Nat.reduceBEq,xA1,xBB,Nat.reduceAdd,xEm]
  rfl
 ·rw [xFl]
theorem xJq {G : Heap} {rb ix io at_ many op : Nat} {ts : List Int} {ka m : Nat} {S r' : List UInt8} {lv s3 : AV} {nm x a b : Int} {c : UInt8} (h : RD G rb S at_ lv many) (hS : S.length ≤ 4096) (hr : S.drop at_ = 32 :: c :: r') (hm : splB.contains c = true)
  (hx : G[ix]? = some (xB op nm (.own false ka 0 m 1) x a b)) (ho : G[io]? = some (.cells false false (foC op))) (hne1 : rb ≠ ix) (hne2 : rb ≠ io) (hne3 : ix ≠ io) (ga : G[ka]? = some (.cells false false (xAG ts))) (hts : ts.length = m) (hk1 : ka ≠ rb) (hk2 : ka ≠ ix) (hk3 : ka ≠ io) (hl : m < fhi op) (hlo : m < flo op) :
  ∃ F',run L1 xBb ⟨xAI (.ptr rb 0) s3 (.ptr ix 0) (.ptr io 0),G⟩ = some (.normal,⟨F',List.set (List.set (G.set rb (rdB S (at_ + 2) lv many)) ka Blk.dead) ix (xB op nm (.own false G.length 0 (m + 1) 1) x a b) ++ [.cells false false (xAG (ts ++ [((splB.idxOf c : Nat) : Int)]))]⟩) ∧ xAu xAT F' = xAI (.ptr rb 0) s3 (.ptr ix 0) (.ptr io 0) := by
 obtain ⟨a1,a2,a3⟩ := xAX hr
 obtain ⟨b1,b2,b3⟩ := xAX a2
 have hn' : L1.icall (.func 72 []) [.ptr rb 0,.str ⟨#[48,49,50,51,52,53,54,55,120,121,122]⟩] G = some (.int .i64 (splB.idxOf c : Nat),G.set rb (rdB S (at_ + 2) lv many)) := xEi (cs := splB) h hS a1 b1 hm
 have hf2 := xCf op
 have hlI : ((m : Nat) : Int) < (fhi op : Nat) := by omega
 have hlo' : (((m : Nat) : Int) < (flo op : Nat)) = True := by simp; omega
 have lx := xAp hx
 have lio := xAp ho
 have lo := xAp (show G[rb]? = some _ from h)
 have hsz : (⟨S.toArray⟩ : ByteArray).size = S.length := by simp [ByteArray.size]
 have hne : (((at_ : Nat) : Int) = (S.length : Nat)) = False := by simp; omega
 have hsi : ∀ H,xQQ H (zS S) (.int .i64 (at_ : Nat)) = some (.int .u8 32,H) := fun H => xBC H a1
 have lk := xAp ga
 have hil := xD0 ts
 have hit := xEj ts
 rw [hts] at hil hit
 have hrd : xBR G (List.set G rb (rdB S (at_ + 2) lv many)) (.ptr ix 2) 1 = true := by
  have e : (List.set G rb (rdB S (at_ + 2) lv many))[ix]? = G[ix]? := List.getElem?_set_ne hne1
  have e2 : rd (List.set G rb (rdB S (at_ + 2) lv many)) (.ptr ix 2) 1 = rd G (.ptr ix 2) 1 := by simp only [rd,e]
  have e3 : rd G (.ptr ix 2) 1 = some [.own false ka 0 m 1] := by simp [rd,hx]
  unfold xBR
  rw [e2,e3]; simp [xIz]
 unfold foC at ho
 unfold RD at h
 generalize ((splB.idxOf c : Nat) : Int) = t at *
 have happ := xMv ts t
 generalize xAG (ts ++ [t]) = LN at *
 generalize xAG ts = L0 at *
 apply xB2
 ·simp (maxSteps := 30000000) (disch := first|exact D5|fail) only [xBb,xCc,WB,hx,ho,hlI,↓reduceIte,hlo',xAh,WH,WP,Nat.reduceSub,hn',hrd,AV.cells,AV.isCell,xBB,ga,Nat.reduceBEq,hit,happ,xA1,Nat.reduceAdd,xEm]
  rfl
 ·rw [xFl]
theorem xJr {G : Heap} {rb ix io at_ many op : Nat} {ts : List Int} {ka m : Nat} {S r' : List UInt8} {lv s3 : AV} {nm x a b : Int} {c : UInt8} (h : RD G rb S at_ lv many) (hS : S.length ≤ 4096) (hr : S.drop at_ = 32 :: c :: r') (hm : splB.contains c = true)
  (hx : G[ix]? = some (xB op nm (.own false ka 0 m 1) x a b)) (ho : G[io]? = some (.cells false false (foC op))) (hne1 : rb ≠ ix) (hne2 : rb ≠ io) (hne3 : ix ≠ io) (ga : G[ka]? = some (.cells false false (xAG ts))) (hts : ts.length = m) (hk1 : ka ≠ rb) (hk2 : ka ≠ ix) (hk3 : ka ≠ io) (hl : m < fhi op) (hlo : ¬ m < flo op) :
  ∃ F',run L1 xBb ⟨xAI (.ptr rb 0) s3 (.ptr ix 0) (.ptr io 0),G⟩ = some (.normal,⟨F',List.set (List.set (G.set rb (rdB S (at_ + 2) lv many)) ka Blk.dead) ix (xB op nm (.own false G.length 0 (m + 1) 1) x a b) ++ [.cells false false (xAG (ts ++ [((splB.idxOf c : Nat) : Int)]))]⟩) ∧ xAu xAT F' = xAI (.ptr rb 0) s3 (.ptr ix 0) (.ptr io 0) := by
 obtain ⟨a1,a2,a3⟩ := xAX hr
 obtain ⟨b1,b2,b3⟩ := xAX a2
 have hn' : L1.icall (.func 72 []) [.ptr rb 0,.str ⟨#[48,49,50,51,52,53,54,55,120,121,122]⟩] G = some (.int .i64 (splB.idxOf c : Nat),G.set rb (rdB S (at_ + 2) lv many)) := xEi (cs := splB) h hS a1 b1 hm
 have hf2 := xCf op
 have hlI : ((m : Nat) : Int) < (fhi op : Nat) := by omega
 have hlo' : (((m : Nat) : Int) < (flo op : Nat)) = False := by simp; omega
 have lx := xAp hx
 have lio := xAp ho
 have lo := xAp (show G[rb]? = some _ from h)
 have hsz : (⟨S.toArray⟩ : ByteArray).size = S.length := by simp [ByteArray.size]
 have hne : (((at_ : Nat) : Int) = (S.length : Nat)) = False := by simp; omega
 have hsi : ∀ H,xQQ H (zS S) (.int .i64 (at_ : Nat)) = some (.int .u8 32,H) := fun H => xBC H a1
 have lk := xAp ga
 have hil := xD0 ts
 have hit := xEj ts
 rw [hts] at hil hit
 have hrd : xBR G (List.set G rb (rdB S (at_ + 2) lv many)) (.ptr ix 2) 1 = true := by
  have e : (List.set G rb (rdB S (at_ + 2) lv many))[ix]? = G[ix]? := List.getElem?_set_ne hne1
  have e2 : rd (List.set G rb (rdB S (at_ + 2) lv many)) (.ptr ix 2) 1 = rd G (.ptr ix 2) 1 := by simp only [rd,e]
  have e3 : rd G (.ptr ix 2) 1 = some [.own false ka 0 m 1] := by simp [rd,hx]
  unfold xBR
  rw [e2,e3]; simp [xIz]
 unfold foC at ho
 unfold RD at h
 generalize ((splB.idxOf c : Nat) : Int) = t at *
 have happ := xMv ts t
 generalize xAG (ts ++ [t]) = LN at *
 generalize xAG ts = L0 at *
 apply xB2
 ·simp (maxSteps := 30000000) (disch := first|exact D5|fail) only [xBb,xCc,WB,hx,ho,hlI,↓reduceIte,hlo',h,WA,hsz,hne,xAh,xAK,hsi,Int.reduceEq,WH,WP,Nat.reduceSub,hn',hrd,AV.cells,AV.isCell,xBB,ga,Nat.reduceBEq,hit,happ,xA1,Nat.reduceAdd,xEm]
  rfl
 ·rw [xFl]
theorem xMw {G : Heap} {rb ix io at_ many op : Nat} {S r' : List UInt8} {lv s3 : AV} {nm x a b : Int} {c : UInt8} (h : RD G rb S at_ lv many) (hS : S.length ≤ 4096) (hr : S.drop at_ = 32 :: c :: r') (hm : splB.contains c = true)
  (hx : G[ix]? = some (xB op nm (.sl true 0 []) x a b)) (ho : G[io]? = some (.cells false false (foC op))) (hne1 : rb ≠ ix) (hne2 : rb ≠ io) (hne3 : ix ≠ io) (hl : 0 < fhi op) (hlo : 0 < flo op) :
  L1.loop xAT xBb ⟨xAI (.ptr rb 0) s3 (.ptr ix 0) (.ptr io 0),G⟩ = L1.loop xAT xBb ⟨xAI (.ptr rb 0) s3 (.ptr ix 0) (.ptr io 0),List.set (G.set rb (rdB S (at_ + 2) lv many)) ix (xB op nm (.own false G.length 0 1 1) x a b) ++ [.cells false false ([.int .i64 (splB.idxOf c : Nat)])]⟩ := by
 obtain ⟨F',e,hc⟩ := xJo (s3 := s3) h hS hr hm hx ho hne1 hne2 hne3 hl hlo
 conv => lhs; rw [xGn]
 show xA5 L1 xAT xBb (run L1 xBb _) = _
 rw [e,xBL,hc]
theorem xMx {G : Heap} {rb ix io at_ many op : Nat} {S r' : List UInt8} {lv s3 : AV} {nm x a b : Int} {c : UInt8} (h : RD G rb S at_ lv many) (hS : S.length ≤ 4096) (hr : S.drop at_ = 32 :: c :: r') (hm : splB.contains c = true)
  (hx : G[ix]? = some (xB op nm (.sl true 0 []) x a b)) (ho : G[io]? = some (.cells false false (foC op))) (hne1 : rb ≠ ix) (hne2 : rb ≠ io) (hne3 : ix ≠ io) (hl : 0 < fhi op) (hlo : ¬ 0 < flo op) :
  L1.loop xAT xBb ⟨xAI (.ptr rb 0) s3 (.ptr ix 0) (.ptr io 0),G⟩ = L1.loop xAT xBb ⟨xAI (.ptr rb 0) s3 (.ptr ix 0) (.ptr io 0),List.set (G.set rb (rdB S (at_ + 2) lv many)) ix (xB op nm (.own false G.length 0 1 1) x a b) ++ [.cells false false ([.int .i64 (splB.idxOf c : Nat)])]⟩ := by
 obtain ⟨F',e,hc⟩ := xJp (s3 := s3) h hS hr hm hx ho hne1 hne2 hne3 hl hlo
 conv => lhs; rw [xGn]
 show xA5 L1 xAT xBb (run L1 xBb _) = _
 rw [e,xBL,hc]
theorem xMy {G : Heap} {rb ix io at_ many op : Nat} {ts : List Int} {ka m : Nat} {S r' : List UInt8} {lv s3 : AV} {nm x a b : Int} {c : UInt8} (h : RD G rb S at_ lv many) (hS : S.length ≤ 4096) (hr : S.drop at_ = 32 :: c :: r') (hm : splB.contains c = true)
  (hx : G[ix]? = some (xB op nm (.own false ka 0 m 1) x a b)) (ho : G[io]? = some (.cells false false (foC op))) (hne1 : rb ≠ ix) (hne2 : rb ≠ io) (hne3 : ix ≠ io) (ga : G[ka]? = some (.cells false false (xAG ts))) (hts : ts.length = m) (hk1 : ka ≠ rb) (hk2 : ka ≠ ix) (hk3 : ka ≠ io) (hl : m < fhi op) (hlo : m < flo op) :
  L1.loop xAT xBb ⟨xAI (.ptr rb 0) s3 (.ptr ix 0) (.ptr io 0),G⟩ = L1.loop xAT xBb ⟨xAI (.ptr rb 0) s3 (.ptr ix 0) (.ptr io 0),List.set (List.set (G.set rb (rdB S (at_ + 2) lv many)) ka Blk.dead) ix (xB op nm (.own false G.length 0 (m + 1) 1) x a b) ++ [.cells false false (xAG (ts ++ [((splB.idxOf c : Nat) : Int)]))]⟩ := by
 obtain ⟨F',e,hc⟩ := xJq (s3 := s3) h hS hr hm hx ho hne1 hne2 hne3 ga hts hk1 hk2 hk3 hl hlo
 conv => lhs; rw [xGn]
 show xA5 L1 xAT xBb (run L1 xBb _) = _
 rw [e,xBL,hc]
theorem xMz {G : Heap} {rb ix io at_ many op : Nat} {ts : List Int} {ka m : Nat} {S r' : List UInt8} {lv s3 : AV} {nm x a b : Int} {c : UInt8} (h : RD G rb S at_ lv many) (hS : S.length ≤ 4096) (hr : S.drop at_ = 32 :: c :: r') (hm : splB.contains c = true)
  (hx : G[ix]? = some (xB op nm (.own false ka 0 m 1) x a b)) (ho : G[io]? = some (.cells false false (foC op))) (hne1 : rb ≠ ix) (hne2 : rb ≠ io) (hne3 : ix ≠ io) (ga : G[ka]? = some (.cells false false (xAG ts))) (hts : ts.length = m) (hk1 : ka ≠ rb) (hk2 : ka ≠ ix) (hk3 : ka ≠ io) (hl : m < fhi op) (hlo : ¬ m < flo op) :
  L1.loop xAT xBb ⟨xAI (.ptr rb 0) s3 (.ptr ix 0) (.ptr io 0),G⟩ = L1.loop xAT xBb ⟨xAI (.ptr rb 0) s3 (.ptr ix 0) (.ptr io 0),List.set (List.set (G.set rb (rdB S (at_ + 2) lv many)) ka Blk.dead) ix (xB op nm (.own false G.length 0 (m + 1) 1) x a b) ++ [.cells false false (xAG (ts ++ [((splB.idxOf c : Nat) : Int)]))]⟩ := by
 obtain ⟨F',e,hc⟩ := xJr (s3 := s3) h hS hr hm hx ho hne1 hne2 hne3 ga hts hk1 hk2 hk3 hl hlo
 conv => lhs; rw [xGn]
 show xA5 L1 xAT xBb (run L1 xBb _) = _
 rw [e,xBL,hc]
theorem xQs {G : Heap} {rb ix io at_ many op : Nat} {S r' : List UInt8} {lv s3 : AV} {nm x a b : Int} (h : RD G rb S at_ lv many) (hS : S.length ≤ 4096)
  (hx : G[ix]? = some (xB op nm (.sl true 0 []) x a b)) (ho : G[io]? = some (.cells false false (foC op))) (hl : 0 = fhi op) :
  L1.loop xAT xBb ⟨xAI (.ptr rb 0) s3 (.ptr ix 0) (.ptr io 0),G⟩ = some (.exit 0,⟨xAI (.ptr rb 0) s3 (.ptr ix 0) (.ptr io 0),G⟩) := by
 have hf2 := xCf op
 have lx := xAp hx
 have lio := xAp ho
 have lo := xAp (show G[rb]? = some _ from h)
 have hlI : ((0 : Int) < (fhi op : Nat)) = False := by simp; omega
 unfold foC at ho
 unfold RD at h
 rw [xGn]
 simp (maxSteps := 30000000) (disch := first|exact D5|fail) only [xCc,WB,hx,ho,hlI,↓reduceIte,xAh,xFl]
theorem xQt {G : Heap} {rb ix io at_ many op : Nat} {S r' : List UInt8} {lv s3 : AV} {nm x a b : Int} (h : RD G rb S at_ lv many) (hS : S.length ≤ 4096)
  (hx : G[ix]? = some (xB op nm (.sl true 0 []) x a b)) (ho : G[io]? = some (.cells false false (foC op))) (hl : 0 < fhi op) (hlo : ¬ 0 < flo op) (hr : S.drop at_ = 41 :: r') :
  L1.loop xAT xBb ⟨xAI (.ptr rb 0) s3 (.ptr ix 0) (.ptr io 0),G⟩ = some (.exit 0,⟨xAI (.ptr rb 0) s3 (.ptr ix 0) (.ptr io 0),G⟩) := by
 have hf2 := xCf op
 have lx := xAp hx
 have lio := xAp ho
 have lo := xAp (show G[rb]? = some _ from h)
 obtain ⟨a1,a2,a3⟩ := xAX hr
 have hlI : ((0 : Int) < (fhi op : Nat)) = True := by simp; omega
 have hlo' : ((0 : Int) < (flo op : Nat)) = False := by simp; omega
 have hsz : (⟨S.toArray⟩ : ByteArray).size = S.length := by simp [ByteArray.size]
 have hne : (((at_ : Nat) : Int) = (S.length : Nat)) = False := by simp; omega
 have hsi : ∀ H,xQQ H (zS S) (.int .i64 (at_ : Nat)) = some (.int .u8 41,H) := fun H => xBC H a1
 unfold foC at ho
 unfold RD at h
 rw [xGn]
 simp (maxSteps := 30000000) (disch := first|exact D5|fail) only [xCc,WB,hx,ho,hlI,↓reduceIte,hlo',h,WA,hsz,hne,xAh,xAK,hsi,xFl]
theorem xQu {G : Heap} {rb ix io at_ many op : Nat} {ka m : Nat} {S r' : List UInt8} {lv s3 : AV} {nm x a b : Int} (h : RD G rb S at_ lv many) (hS : S.length ≤ 4096)
  (hx : G[ix]? = some (xB op nm (.own false ka 0 m 1) x a b)) (ho : G[io]? = some (.cells false false (foC op))) (hl : m = fhi op) :
  L1.loop xAT xBb ⟨xAI (.ptr rb 0) s3 (.ptr ix 0) (.ptr io 0),G⟩ = some (.exit 0,⟨xAI (.ptr rb 0) s3 (.ptr ix 0) (.ptr io 0),G⟩) := by
 have hf2 := xCf op
 have lx := xAp hx
 have lio := xAp ho
 have lo := xAp (show G[rb]? = some _ from h)
 have hlI : (((m : Nat) : Int) < (fhi op : Nat)) = False := by simp; omega
 unfold foC at ho
 unfold RD at h
 rw [xGn]
 simp (maxSteps := 30000000) (disch := first|exact D5|fail) only [xCc,WB,hx,ho,hlI,↓reduceIte,xAh,xFl]
theorem xQv {G : Heap} {rb ix io at_ many op : Nat} {ka m : Nat} {S r' : List UInt8} {lv s3 : AV} {nm x a b : Int} (h : RD G rb S at_ lv many) (hS : S.length ≤ 4096)
  (hx : G[ix]? = some (xB op nm (.own false ka 0 m 1) x a b)) (ho : G[io]? = some (.cells false false (foC op))) (hl : m < fhi op) (hlo : ¬ m < flo op) (hr : S.drop at_ = 41 :: r') :
  L1.loop xAT xBb ⟨xAI (.ptr rb 0) s3 (.ptr ix 0) (.ptr io 0),G⟩ = some (.exit 0,⟨xAI (.ptr rb 0) s3 (.ptr ix 0) (.ptr io 0),G⟩) := by
 have hf2 := xCf op
 have lx := xAp hx
 have lio := xAp ho
 have lo := xAp (show G[rb]? = some _ from h)
 obtain ⟨a1,a2,a3⟩ := xAX hr
 have hlI : (((m : Nat) : Int) < (fhi op : Nat)) = True := by simp; omega
 have hlo' : (((m : Nat) : Int) < (flo op : Nat)) = False := by simp; omega
 have hsz : (⟨S.toArray⟩ : ByteArray).size = S.length := by simp [ByteArray.size]
 have hne : (((at_ : Nat) : Int) = (S.length : Nat)) = False := by simp; omega
 have hsi : ∀ H,xQQ H (zS S) (.int .i64 (at_ : Nat)) = some (.int .u8 41,H) := fun H => xBC H a1
 unfold foC at ho
 unfold RD at h
 rw [xGn]
 simp (maxSteps := 30000000) (disch := first|exact D5|fail) only [xCc,WB,hx,ho,hlI,↓reduceIte,hlo',h,WA,hsz,hne,xAh,xAK,hsi,xFl]
def PT (G : Heap) (B rb ix io : Nat) (av : AV) (ts : List Int) : Prop := (ts = [] ∧ av = .sl true 0 []) ∨ ∃ ka,av = .own false ka 0 ts.length 1 ∧ G[ka]? = some (.cells false false (xAG ts)) ∧ ts ≠ [] ∧ B ≤ ka ∧ ka ≠ rb ∧ ka ≠ ix ∧ ka ≠ io
theorem xZU {rb ix io B many op : Nat} {S : List UInt8} {lv s3 : AV} {nm x a b : Int} (hS : S.length ≤ 4096) (hne1 : rb ≠ ix) (hne2 : rb ≠ io) (hne3 : ix ≠ io) (hB1 : B ≤ ix) (hB2 : B ≤ io) : ∀ k (G : Heap) (at_ : Nat) (av : AV) (ts us : List Int) (r r' : List UInt8),RD G rb S at_ lv many → S.drop at_ = r → at_ ≤ S.length → ts.length + k = fhi op →
  xCs k (flo op - ts.length) r = .ok us r' → G[ix]? = some (xB op nm av x a b) → G[io]? = some (.cells false false (foC op)) → PT G B rb ix io av ts →
  ∃ G' at' av',L1.loop xAT xBb ⟨xAI (.ptr rb 0) s3 (.ptr ix 0) (.ptr io 0),G⟩ = some (.exit 0,⟨xAI (.ptr rb 0) s3 (.ptr ix 0) (.ptr io 0),G'⟩) ∧ RD G' rb S at' lv many ∧ S.drop at' = r' ∧ at' ≤ S.length ∧ G'[ix]? = some (xB op nm av' x a b) ∧ G'[io]? = some (.cells false false (foC op)) ∧
   PT G' B rb ix io av' (ts ++ us) ∧ Kt B rb G G' := by
 intro k
 induction k with
 | zero =>
  intro G at_ av ts us r r' h hr hal hk hp hx ho hA
  cases hp
  rw [List.append_nil]
  refine ⟨G,at_,av,?_,h,hr,hal,hx,ho,hA,.refl _ _ _⟩
  rcases hA with ⟨rfl,rfl⟩ | ⟨ka,rfl,_⟩
  ·exact xQs (r' := []) h hS hx ho (by simpa using hk)
  ·exact xQu (r' := []) h hS hx ho (by omega)
 | succ k ih =>
  intro G at_ av ts us r r' h hr hal hk hp hx ho hA
  unfold xCs at hp
  split at hp
  ·rename_i hs
   cases hp
   rw [List.append_nil]
   obtain ⟨q,rfl⟩ : ∃ q,r = 41 :: q := by
    cases r with
    | nil => cases hs.2
    | cons d q => have := hs.2; simp at this; exact ⟨q,by rw [this]⟩
   refine ⟨G,at_,av,?_,h,hr,hal,hx,ho,hA,.refl _ _ _⟩
   rcases hA with ⟨rfl,rfl⟩ | ⟨ka,rfl,_⟩
   ·exact xQt h hS hx ho (by simp at hk; omega) (by simpa using hs.1) hr
   ·exact xQv h hS hx ho (by omega) (by omega) hr
  ·obtain ⟨t,q,h1,h2⟩ := xAB hp
   obtain ⟨c,rfl,hm,rfl⟩ := xCN h1
   obtain ⟨vs,q2,h3,h4⟩ := xAB h2
   cases h4
   obtain ⟨a1,a2,a3⟩ := xAX hr
   obtain ⟨b1,b2,b3⟩ := xAX a2
   have lo := xAp (show G[rb]? = some _ from h)
   have lx := xAp hx
   have lio := xAp ho
   have step : ∀ (G1 : Heap) (av1 : AV),RD G1 rb S (at_ + 2) lv many → G1[ix]? = some (xB op nm av1 x a b) → G1[io]? = some (.cells false false (foC op)) → PT G1 B rb ix io av1 (ts ++ [((splB.idxOf c : Nat) : Int)]) → Kt B rb G G1 →
     L1.loop xAT xBb ⟨xAI (.ptr rb 0) s3 (.ptr ix 0) (.ptr io 0),G⟩ = L1.loop xAT xBb ⟨xAI (.ptr rb 0) s3 (.ptr ix 0) (.ptr io 0),G1⟩ →
     ∃ G' at' av',L1.loop xAT xBb ⟨xAI (.ptr rb 0) s3 (.ptr ix 0) (.ptr io 0),G⟩ = some (.exit 0,⟨xAI (.ptr rb 0) s3 (.ptr ix 0) (.ptr io 0),G'⟩) ∧ RD G' rb S at' lv many ∧ S.drop at' = r' ∧ at' ≤ S.length ∧ G'[ix]? = some (xB op nm av' x a b) ∧ G'[io]? = some (.cells false false (foC op)) ∧
      PT G' B rb ix io av' (ts ++ ((splB.idxOf c : Nat) : Int) :: vs) ∧ Kt B rb G G' := by
    intro G1 av1 g1 g2 g3 g4 g5 g6
    obtain ⟨G',at',av',e1,e2,e3,e3',e4,e5,e6,e7⟩ := ih G1 (at_ + 2) av1 (ts ++ [((splB.idxOf c : Nat) : Int)]) vs q r' g1 b2 (by omega) (by simp; omega) (by simpa [Nat.sub_sub] using h3) g2 g3 g4
    exact ⟨G',at',av',g6.trans e1,e2,e3,e3',e4,e5,by simpa using e6,g5.trans e7⟩
   rcases hA with ⟨rfl,rfl⟩ | ⟨ka,rfl,ga,hnil,hBk,k1,k2,k3⟩
   ·refine step (List.set (G.set rb (rdB S (at_ + 2) lv many)) ix (xB op nm (.own false G.length 0 1 1) x a b) ++ [.cells false false [.int .i64 (splB.idxOf c : Nat)]]) (.own false G.length 0 1 1) ?_ ?_ ?_ ?_ ?_ ?_
    ·unfold RD
     rw [List.getElem?_append_left (by simpa using lo),List.getElem?_set_ne (Ne.symm hne1),List.getElem?_set_self lo]
    ·rw [List.getElem?_append_left (by simpa using lx),List.getElem?_set_self (by simpa using lx)]
    ·rw [List.getElem?_append_left (by simpa using lio),List.getElem?_set_ne hne3,List.getElem?_set_ne hne2]; exact ho
    ·exact .inr ⟨G.length,rfl,by rw [List.getElem?_append_right (by simp)]; simp [xAG],by simp,by omega,by omega,by omega,by omega⟩
    ·exact (Kt.set.trans (Kp.set hB1).kt).trans (Kp.appB _ _ (by simp; omega)).kt
    ·by_cases hlo : 0 < flo op
     ·exact xMw h hS hr hm hx ho hne1 hne2 hne3 (by simp at hk; omega) hlo
     ·exact xMx h hS hr hm hx ho hne1 hne2 hne3 (by simp at hk; omega) hlo
   ·have lk := xAp ga
    refine step (List.set (List.set (G.set rb (rdB S (at_ + 2) lv many)) ka Blk.dead) ix (xB op nm (.own false G.length 0 (ts.length + 1) 1) x a b) ++ [.cells false false (xAG (ts ++ [((splB.idxOf c : Nat) : Int)]))]) (.own false G.length 0 (ts.length + 1) 1) ?_ ?_ ?_ ?_ ?_ ?_
    ·unfold RD
     rw [List.getElem?_append_left (by simpa using lo),List.getElem?_set_ne (Ne.symm hne1),List.getElem?_set_ne k1,List.getElem?_set_self lo]
    ·rw [List.getElem?_append_left (by simpa using lx),List.getElem?_set_self (by simpa using lx)]
    ·rw [List.getElem?_append_left (by simpa using lio),List.getElem?_set_ne hne3,List.getElem?_set_ne k3,List.getElem?_set_ne hne2]; exact ho
    ·exact .inr ⟨G.length,by simp,by rw [List.getElem?_append_right (by simp)]; simp,by simp,by omega,by omega,by omega,by omega⟩
    ·exact ((Kt.set.trans (Kp.set hBk).kt).trans (Kp.set hB1).kt).trans (Kp.appB _ _ (by simp; omega)).kt
    ·by_cases hlo : ts.length < flo op
     ·exact xMy h hS hr hm hx ho hne1 hne2 hne3 ga rfl k1 k2 k3 (by omega) hlo
     ·exact xMz h hS hr hm hx ho hne1 hne2 hne3 ga rfl k1 k2 k3 (by omega) hlo
theorem xWM (args : List AV) : L1.pcall 42 args = xAE L1 a42 args := xAo rfl args
section
variable {fz z : Bool} {fs : List Nd} {l : List Int} {bd p : Nat} {G : Heap} {s0 : AV}
theorem xXQ (hbd : bd < 8) (hl : l.length ≤ 100) (har : ∀ t ∈ l,0 ≤ t ∧ t ≤ 10) : ∀ k i,i + k = l.length → ∃ i' : Nat,
  L1.loop xGo xNW ⟨xD3 s0 (.int .u64 (bd : Nat)) (.bool false) (.ptr p 0) (.sl z l.length (xAG l)) (.int .i64 (l.length : Nat)) (.int .i64 (i : Nat)),G⟩ =
   some (if xKt bd (l.drop i) = true then (.ret,⟨xD3 s0 (.int .u64 (bd : Nat)) (.bool true) (.ptr p 0) (.sl z l.length (xAG l)) (.int .i64 (l.length : Nat)) (.int .i64 (i' : Nat)),G⟩)
    else (.exit 0,⟨xD3 s0 (.int .u64 (bd : Nat)) (.bool false) (.ptr p 0) (.sl z l.length (xAG l)) (.int .i64 (l.length : Nat)) (.int .i64 (i' : Nat)),G⟩)) := by
 intro k
 induction k with
 | zero =>
  intro i hi
  obtain rfl : i = l.length := by omega
  refine ⟨l.length,?_⟩
  rw [if_neg (by rw [List.drop_length]; simp [xKt]),xGp]
  simp (maxSteps := 30000000) (disch := first|exact D4|fail) only [xEz,WB,↓reduceIte,xBp]
 | succ k ih =>
  intro i hi'
  have hlt : (i : Int) < (l.length : Nat) := by omega
  have hl1 : i < l.length := by omega
  obtain ⟨i',ih'⟩ := ih (i + 1) (by omega)
  have em : xKt bd (l.drop i) = ((decide (8 ≤ l.getD i 0) && !(bd.testBit ((l.getD i 0).toNat - 8))) || xKt bd (l.drop (i + 1))) := by
   rw [List.drop_eq_getElem_cons hl1,List.getD_eq_getElem?_getD,List.getElem?_eq_getElem hl1]
   rfl
  have hm : l.getD i 0 ∈ l := by rw [List.getD_eq_getElem?_getD,List.getElem?_eq_getElem hl1]; exact List.getElem_mem hl1
  have hr := har _ hm
  rw [em]
  generalize hN : l.getD i 0 = t at *
  by_cases c1 : 8 ≤ t
  ·have hs : min (t - 8).toNat IntKind.u64.bits = t.toNat - 8 := by
    rw [Nat.min_eq_left (by show _ ≤ 64; omega)]; omega
   have hb := yDv (w := bd) (by omega) (t.toNat - 8)
   have hs0 : (0 : Int) ≤ t - 8 := by omega
   cases hbit : bd.testBit (t.toNat - 8) with
   | true =>
    rw [hbit] at hb
    simp only [c1,decide_true,Bool.true_and,Bool.not_true,Bool.false_or]
    refine ⟨i',?_⟩
    rw [xGp]
    simp (maxSteps := 30000000) (disch := first|exact D4|fail) only [xEz,WB,hlt,↓reduceIte,W2,hN,c1,hs,hb,Bool.toNat_true,Int.reduceEq,xBp,ih']
   | false =>
    rw [hbit] at hb
    simp only [c1,decide_true,Bool.true_and,Bool.not_false,Bool.true_or,if_true]
    refine ⟨i,?_⟩
    rw [xGp]
    simp (maxSteps := 30000000) (disch := first|exact D4|fail) only [xEz,WB,hlt,↓reduceIte,W2,hN,c1,hs,hb,Bool.toNat_false,xBp]
  ·simp only [c1,decide_false,Bool.false_and,Bool.false_or]
   refine ⟨i',?_⟩
   rw [xGp]
   simp (maxSteps := 30000000) (disch := first|exact D4|fail) only [xEz,WB,hlt,↓reduceIte,W2,hN,c1,xBp,ih']
theorem xXR {a b : Nat} (ha : a < 8) (hb : b < 8) : a ||| b < 8 := Nat.or_lt_two_pow (n := 3) ha hb
theorem yDn {x : Int} (h : x = 8 ∨ x = 9 ∨ x = 10) : 2 ^ (x.toNat - 8) < 8 := by rcases h with rfl | rfl | rfl <;> decide
theorem xXS {n : Nd} {i : Nat} (hv : Vn i n) (h : bd < 8) : bnd n bd < 8 := by
 unfold bnd
 split
 ·rename_i c
  exact xXR h (yDn (hv.ex c))
 ·exact h
theorem xSV (hlen : fs.length ≤ 64) (hV : ∀ j,j < fs.length → Vn j (fs.getD j nd0)) : ∀ (k i bd : Nat),i < k → i < fs.length → bd < 8 →
  L1.pcall 42 [.sl fz fs.length (nds fs),.int .i64 (i : Nat),.int .u64 (bd : Nat)] = some (.bool (opn fs k i bd)) := by
 intro k
 induction k with
 | zero => intro i bd h; omega
 | succ k ih =>
  intro i bd hik hi hbd
  have hv := hV i hi
  rw [opn]
  generalize hn : fs.getD i nd0 = n at *
  obtain ⟨i',e1⟩ := xXQ (s0 := .sl fz fs.length (nds fs)) (z := n.z) (p := 0) (G := [.cells false false n.c]) hbd hv.al hv.ar n.args.length 0 (by omega)
  rw [List.drop_zero] at e1
  have h68 := xGL n.op
  have hch : List.take 1 (List.drop 1 (foC n.op)) = [.int .i64 (chn n.op : Nat)] := rfl
  have hfl : (foC n.op).length = 6 := rfl
  generalize foC n.op = C at *
  have hnv : xBW n.z n.args = .sl n.z n.args.length (xAG n.args) := rfl
  unfold Nd.c at e1
  rw [hnv] at e1
  have e1' : L1.loop xGo xNW ⟨xD3 (.sl fz fs.length (nds fs)) (.int .u64 (bd : Nat)) (.bool false) (.ptr 0 0) (.sl n.z n.args.length (xAG n.args)) (.int .i64 (n.args.length : Nat)) (.int .i64 0),[.cells false false [.int .u8 (n.op : Nat),.int .i64 n.name,.sl n.z n.args.length (xAG n.args),.int .i64 n.x,.int .i64 n.a,.int .i64 n.b]]⟩ = _ := e1
  cases hA : xKt bd n.args with
  | true =>
   rw [hA] at e1'
   simp only [if_true,Bool.true_or] at e1' ⊢
   rw [xWM,a42,xAe]
   simp (maxSteps := 30000000) (disch := first|exact D4|fail) only [WB,Nat.reduceAdd,Nat.reduceSub,xAP,Nd.c,hn,hnv,AV.cells,AV.isCell,↓reduceIte,xBp,e1']
  | false =>
   rw [hA] at e1'
   simp only [Bool.false_eq_true,if_false,Bool.false_or] at e1' ⊢
   have hbl := xXS hv hbd
   have hrec : ∀ j : Nat,j < i → L1.pcall 42 [.sl fz fs.length (nds fs),.int .i64 (j : Nat),.int .u64 (bnd n bd : Nat)] = some (.bool (opn fs k j (bnd n bd))) := fun j hj => ih j _ (by omega) (by omega) hbl
   have hca := hv.ca
   have hcb := hv.cb
   have hc2 := xBF n.op
   by_cases c7 : n.op = 7
   ·have c7' : (((n.op : Nat) : Int) = 7) = True := eq_true (by omega)
    have hx := hv.ex c7
    have hc1 : chn n.op = 1 := by rw [c7]; rfl
    have ha := xAU (hca (by omega))
    have hra := hrec _ ha.2
    rw [← ha.1] at hra
    have hs0 : (0 : Int) ≤ n.x - 8 := by omega
    have hbe : bnd n bd = bd ||| 2 ^ (n.x.toNat - 8) := by unfold bnd; rw [if_pos c7]
    have hsh : IntKind.u64.wrap (1 * 2 ^ min (n.x - 8).toNat IntKind.u64.bits) = ((2 ^ (n.x.toNat - 8) : Nat) : Int) := by
     rw [xYE (by omega),show (n.x - 8).toNat = n.x.toNat - 8 by omega]
    have hor : xDk .or .u64 (bd : Nat) ((2 ^ (n.x.toNat - 8) : Nat) : Int) = ((bnd n bd : Nat) : Int) := by
     rw [hbe,xZD (by omega) (Nat.lt_of_lt_of_le (yDn hx) (by omega))]
    have hch' : (chn n.op : Nat) = 1 := hc1
    rw [hch'] at hch ⊢
    generalize bnd n bd = bd2 at *
    generalize opn fs k n.a.toNat bd2 = r at *
    cases r with
    | true =>
     rw [xWM,a42,xAe]
     simp (maxSteps := 30000000) (disch := first|exact D4|fail) only [WB,Nat.reduceAdd,Nat.reduceSub,xAP,Nd.c,hn,hnv,AV.cells,AV.isCell,↓reduceIte,xBp,e1',c7',hsh,hor,h68,xAN,hch,Int.reduceLT,hra,xAt,Nat.reduceLT]
    | false =>
     rw [xWM,a42,xAe]
     simp (maxSteps := 30000000) (disch := first|exact D4|fail) only [WB,Nat.reduceAdd,Nat.reduceSub,xAP,Nd.c,hn,hnv,AV.cells,AV.isCell,↓reduceIte,xBp,e1',c7',hsh,hor,h68,xAN,hch,Int.reduceLT,hra,xAt,Nat.reduceLT]
   ·have c7' : ¬ ((n.op : Nat) : Int) = 7 := by omega
    have hbe : bnd n bd = bd := by unfold bnd; rw [if_neg c7]
    rw [hbe] at hrec ⊢
    rcases hc2 with hc | hc | hc
    ·rw [hc] at hch ⊢
     rw [xWM,a42,xAe]
     simp (maxSteps := 30000000) (disch := first|exact D4|fail) only [WB,Nat.reduceAdd,Nat.reduceSub,xAP,Nd.c,hn,hnv,AV.cells,AV.isCell,↓reduceIte,xBp,e1',c7',h68,xAN,hch,Int.reduceLT,Nat.reduceLT]
    ·have ha := xAU (hca (by omega))
     have hra := hrec _ ha.2
     rw [← ha.1] at hra
     rw [hc] at hch ⊢
     generalize opn fs k n.a.toNat bd = r at *
     cases r with
     | true =>
      rw [xWM,a42,xAe]
      simp (maxSteps := 30000000) (disch := first|exact D4|fail) only [WB,Nat.reduceAdd,Nat.reduceSub,xAP,Nd.c,hn,hnv,AV.cells,AV.isCell,↓reduceIte,xBp,e1',c7',h68,xAN,hch,Int.reduceLT,hra,xAt,Nat.reduceLT]
     | false =>
      rw [xWM,a42,xAe]
      simp (maxSteps := 30000000) (disch := first|exact D4|fail) only [WB,Nat.reduceAdd,Nat.reduceSub,xAP,Nd.c,hn,hnv,AV.cells,AV.isCell,↓reduceIte,xBp,e1',c7',h68,xAN,hch,Int.reduceLT,hra,xAt,Nat.reduceLT]
    ·have ha := xAU (hca (by omega))
     have hra := hrec _ ha.2
     rw [← ha.1] at hra
     have hb := xAU (hcb hc)
     have hrb := hrec _ hb.2
     rw [← hb.1] at hrb
     rw [hc] at hch ⊢
     generalize opn fs k n.a.toNat bd = r at *
     generalize opn fs k n.b.toNat bd = r2 at *
     cases r with
     | true =>
      rw [xWM,a42,xAe]
      simp (maxSteps := 30000000) (disch := first|exact D4|fail) only [WB,Nat.reduceAdd,Nat.reduceSub,xAP,Nd.c,hn,hnv,AV.cells,AV.isCell,↓reduceIte,xBp,e1',c7',h68,xAN,hch,Int.reduceLT,hra,xAt,Nat.reduceLT]
     | false =>
      rw [xWM,a42,xAe]
      simp (maxSteps := 30000000) (disch := first|exact D4|fail) only [WB,Nat.reduceAdd,Nat.reduceSub,xAP,Nd.c,hn,hnv,AV.cells,AV.isCell,↓reduceIte,xBp,e1',c7',h68,xAN,hch,Int.reduceLT,hra,xAt,hrb,Nat.reduceLT]
end
end Go.Abs.Events
