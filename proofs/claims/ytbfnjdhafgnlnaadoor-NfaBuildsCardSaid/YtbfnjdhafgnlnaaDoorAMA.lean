/- Sets of numbers as words: bitset. -/
import Derived.Test.YtbfnjdhafgnlnaaDoorAbsBun
import Derived.Test.YtbfnjdhafgnlnaaDoorAProg
import Derived.Test.YtbfnjdhafgnlnaaDoorAbsEnc2
namespace Go.Abs.NfaD
open Go Go.Abs
set_option linter.unusedSimpArgs false
set_option linter.unusedVariables false
noncomputable abbrev L : Rec := lim xAS
abbrev sw (z : Bool) (l : List Nat) : AV := .sl z l.length (w64 l)
def W (l : List Nat) : Prop := ∀ x ∈ l,x < 18446744073709551616
theorem W.get {l : List Nat} (h : W l) (i : Nat) : l.getD i 0 < 18446744073709551616 := by
 rw [List.getD_eq_getElem?_getD]
 cases e : l[i]? with
 | none => simp
 | some x => exact h x (List.mem_of_getElem? e)
theorem xEc {l : List Nat} {i : Nat} (h : l.length ≤ i) : l.getD i 0 = 0 := by
 simp [List.getD,List.getElem?_eq_none h]
theorem yEe (z : Bool) (a : List Nat) (i : Nat) (H : Heap) : L.icall (.func 82 []) [sw z a,.int .i64 (i : Nat)] H = some (.int .u64 (a.getD i 0 : Nat),H) := by
 by_cases hi : i < a.length
 ·have h1 : (i : Int) < (a.length : Nat) := by omega
  rw [yD8,a82]
  simp (maxSteps := 30000000) (disch := first | assumption | omega | (simp only [WL,AV.isCell] <;> omega) | rfl | decide) only [↓reduceIte,WB,xAR,xAc,xAQ,xAD,xAC,AV.cells,AV.isCell,xAb,xAj,xAk,xAs,xAt,xAu,xAv,xAw,xAx,xAL,xAy,xAz,xAl,xAA,xAm,xAn,xAB,xAo,xAp,xAf,Nat.reduceDiv,Nat.reduceMod,WP,xAI,xAF,xAX,xAW,xAV,xAG,xAH,xAE,W2,xAd,xAe,xAi,Nat.reduceAdd,Nat.reduceSub,Nat.reduceLeDiff,Nat.reduceMul,Int.reduceAdd,Int.reduceSub,Int.reduceMul,Int.reduceLT,Int.reduceLE,Int.reduceEq,Int.reduceToNat,Int.reduceNeg,Nat.reduceEqDiff,Nat.reduceBEq,Nat.reduceLT,h1]
 ·have h1 : ¬ (i : Int) < (a.length : Nat) := by omega
  rw [xEc (by omega),yD8,a82]
  simp (maxSteps := 30000000) (disch := first | assumption | omega | (simp only [WL,AV.isCell] <;> omega) | rfl | decide) only [↓reduceIte,WB,xAR,xAc,xAQ,xAD,xAC,AV.cells,AV.isCell,xAb,xAj,xAk,xAs,xAt,xAu,xAv,xAw,xAx,xAL,xAy,xAz,xAl,xAA,xAm,xAn,xAB,xAo,xAp,xAf,Nat.reduceDiv,Nat.reduceMod,WP,xAI,xAF,xAX,xAW,xAV,xAG,xAH,xAE,W2,xAd,xAe,xAi,Nat.reduceAdd,Nat.reduceSub,Nat.reduceLeDiff,Nat.reduceMul,Int.reduceAdd,Int.reduceSub,Int.reduceMul,Int.reduceLT,Int.reduceLE,Int.reduceEq,Int.reduceToNat,Int.reduceNeg,Nat.reduceEqDiff,Nat.reduceBEq,Nat.reduceLT,h1]
theorem yEY (x y : Nat) (H : Heap) (hx : x < 18446744073709551616) (hy : y < 18446744073709551616) : L.icall (.func 88 []) [.int .u64 (x : Nat),.int .u64 (y : Nat)] H = some (.int .u64 (x ||| y : Nat),H) := by
 have h := yEg hx hy
 rw [yEQ,a88]
 simp (maxSteps := 30000000) (disch := first | assumption | omega | (simp only [WL,AV.isCell] <;> omega) | rfl | decide) only [↓reduceIte,WB,xAR,xAc,xAQ,xAD,xAC,AV.cells,AV.isCell,xAb,xAj,xAk,xAs,xAt,xAu,xAv,xAw,xAx,xAL,xAy,xAz,xAl,xAA,xAm,xAn,xAB,xAo,xAp,xAf,Nat.reduceDiv,Nat.reduceMod,WP,xAI,xAF,xAX,xAW,xAV,xAG,xAH,xAE,W2,xAd,xAe,xAi,Nat.reduceAdd,Nat.reduceSub,Nat.reduceLeDiff,Nat.reduceMul,Int.reduceAdd,Int.reduceSub,Int.reduceMul,Int.reduceLT,Int.reduceLE,Int.reduceEq,Int.reduceToNat,Int.reduceNeg,Nat.reduceEqDiff,Nat.reduceBEq,Nat.reduceLT,h]
theorem yCQ (x y : Nat) (H : Heap) (hx : x < 18446744073709551616) (hy : y < 18446744073709551616) : L.icall (.func 71 []) [.int .u64 (x : Nat),.int .u64 (y : Nat)] H = some (.int .u64 (x &&& y : Nat),H) := by
 have h := yBX hx hy
 rw [yEJ,a71]
 simp (maxSteps := 30000000) (disch := first | assumption | omega | (simp only [WL,AV.isCell] <;> omega) | rfl | decide) only [↓reduceIte,WB,xAR,xAc,xAQ,xAD,xAC,AV.cells,AV.isCell,xAb,xAj,xAk,xAs,xAt,xAu,xAv,xAw,xAx,xAL,xAy,xAz,xAl,xAA,xAm,xAn,xAB,xAo,xAp,xAf,Nat.reduceDiv,Nat.reduceMod,WP,xAI,xAF,xAX,xAW,xAV,xAG,xAH,xAE,W2,xAd,xAe,xAi,Nat.reduceAdd,Nat.reduceSub,Nat.reduceLeDiff,Nat.reduceMul,Int.reduceAdd,Int.reduceSub,Int.reduceMul,Int.reduceLT,Int.reduceLE,Int.reduceEq,Int.reduceToNat,Int.reduceNeg,Nat.reduceEqDiff,Nat.reduceBEq,Nat.reduceLT,h]
def xHB (op : Nat → Nat → Nat) (a b : List Nat) (n : Nat) : List Nat := (List.range n).map fun i => op (a.getD i 0) (b.getD i 0)
theorem xFw (op : Nat → Nat → Nat) (a b : List Nat) (n : Nat) : (xHB op a b n).length = n := by simp [xHB]
theorem xYx (op : Nat → Nat → Nat) (a b : List Nat) (n : Nat) : xHB op a b n ++ [op (a.getD n 0) (b.getD n 0)] = xHB op a b (n + 1) := by simp [xHB,List.range_succ]
def xV8 : Nat → AV
 | 0 => .sl true 0 []
 | k + 1 => .own false k 0 (k + 1) 1
def xPT (op : Nat → Nat → Nat) (a b : List Nat) : Nat → Heap
 | 0 => []
 | k + 1 => List.replicate k .dead ++ [.cells false false (w64 (xHB op a b (k + 1)))]
theorem xSZ {g : Nat} {op : Nat → Nat → Nat} {a b : List Nat} {za zb : Bool} {N : Nat} (hN : N ≤ 64)
  (hop : ∀ x y H,x < 18446744073709551616 → y < 18446744073709551616 → L.icall (.func g []) [.int .u64 (x : Nat),.int .u64 (y : Nat)] H = some (.int .u64 (op x y : Nat),H)) (wa : W a) (wb : W b) : ∀ d i,i + d = N →
  L.loop xSp xZJ ⟨xSq (sw za a) (sw zb b) (.func g []) (.func 82 []) (xV8 i) (.int .i64 (N : Nat)) (.int .i64 (i : Nat)),xPT op a b i⟩ =
   some (.exit 0,⟨xSq (sw za a) (sw zb b) (.func g []) (.func 82 []) (xV8 N) (.int .i64 (N : Nat)) (.int .i64 (N : Nat)),xPT op a b N⟩)
 | 0,i,h => by
  obtain rfl : i = N := by omega
  rw [xXu]
  simp (maxSteps := 30000000) (disch := first | assumption | omega | (simp only [WL,AV.isCell] <;> omega) | rfl | decide) only [↓reduceIte,WB,xAR,xAc,xAQ,xAD,xAC,AV.cells,AV.isCell,xAb,xAj,xAk,xAs,xAt,xAu,xAv,xAw,xAx,xAL,xAy,xAz,xAl,xAA,xAm,xAn,xAB,xAo,xAp,xAf,Nat.reduceDiv,Nat.reduceMod,WP,xAI,xAF,xAX,xAW,xAV,xAG,xAH,xAE,W2,xAd,xAe,xAi,Nat.reduceAdd,Nat.reduceSub,Nat.reduceLeDiff,Nat.reduceMul,Int.reduceAdd,Int.reduceSub,Int.reduceMul,Int.reduceLT,Int.reduceLE,Int.reduceEq,Int.reduceToNat,Int.reduceNeg,Nat.reduceEqDiff,Nat.reduceBEq,Nat.reduceLT,xSo,xSr]
 | d + 1,i,h => by
  have hlt : (i : Int) < (N : Nat) := by omega
  have h1 := yEe za a i
  have h2 := yEe zb b i
  have h3 := fun H => hop _ _ H (wa.get i) (wb.get i)
  have ih := xSZ (za := za) (zb := zb) hN hop wa wb d (i + 1) (by omega)
  cases i with
  | zero =>
   have hv : w64 (xHB op a b (0 + 1)) = [AV.int .u64 (op (a.getD 0 0) (b.getD 0 0) : Nat)] := rfl
   simp only [xV8,xPT,hv,List.replicate,List.nil_append,Nat.zero_add,Int.natCast_zero,Int.natCast_one] at ih h1 h2 h3 hlt ⊢
   rw [xXu]
   simp (maxSteps := 30000000) (disch := first | assumption | omega | (simp only [WL,AV.isCell] <;> omega) | rfl | decide) only [↓reduceIte,WB,xAR,xAc,xAQ,xAD,xAC,AV.cells,AV.isCell,xAb,xAj,xAk,xAs,xAt,xAu,xAv,xAw,xAx,xAL,xAy,xAz,xAl,xAA,xAm,xAn,xAB,xAo,xAp,xAf,Nat.reduceDiv,Nat.reduceMod,WP,xAI,xAF,xAX,xAW,xAV,xAG,xAH,xAE,W2,xAd,xAe,xAi,Nat.reduceAdd,Nat.reduceSub,Nat.reduceLeDiff,Nat.reduceMul,Int.reduceAdd,Int.reduceSub,Int.reduceMul,Int.reduceLT,Int.reduceLE,Int.reduceEq,Int.reduceToNat,Int.reduceNeg,Nat.reduceEqDiff,Nat.reduceBEq,Nat.reduceLT,xSo,xSr,hlt,h1,h2,h3,ih]
  | succ k =>
   have hl := xFw op a b (k + 1)
   have htk : List.take (k + 1) (xHB op a b (k + 1)) = xHB op a b (k + 1) := List.take_of_length_le (by omega)
   have hsn : w64 (xHB op a b (k + 1)) ++ [AV.int .u64 (op (a.getD (k + 1) 0) (b.getD (k + 1) 0) : Nat)] = w64 (xHB op a b (k + 1 + 1)) := by rw [yAd,xYx]
   simp only [xV8,xPT,List.replicate_succ',List.append_assoc,List.cons_append,List.nil_append] at ih ⊢
   rw [xXu]
   simp (maxSteps := 30000000) (disch := first | assumption | omega | (simp only [WL,AV.isCell] <;> omega) | rfl | decide) only [↓reduceIte,WB,xAR,xAc,xAQ,xAD,xAC,AV.cells,AV.isCell,xAb,xAj,xAk,xAs,xAt,xAu,xAv,xAw,xAx,xAL,xAy,xAz,xAl,xAA,xAm,xAn,xAB,xAo,xAp,xAf,Nat.reduceDiv,Nat.reduceMod,WP,xAI,xAF,xAX,xAW,xAV,xAG,xAH,xAE,W2,xAd,xAe,xAi,Nat.reduceAdd,Nat.reduceSub,Nat.reduceLeDiff,Nat.reduceMul,Int.reduceAdd,Int.reduceSub,Int.reduceMul,Int.reduceLT,Int.reduceLE,Int.reduceEq,Int.reduceToNat,Int.reduceNeg,Nat.reduceEqDiff,Nat.reduceBEq,Nat.reduceLT,xSo,xSr,hlt,h1,h2,h3,htk,hsn,ih,hl]
def xB6 (l : List Nat) : Nat → Nat
 | 0 => 0
 | n + 1 => if l.getD n 0 = 0 then xB6 l n else n + 1
theorem xKu (l : List Nat) : ∀ n,xB6 l n ≤ n
 | 0 => Nat.le_refl _
 | n + 1 => by unfold xB6; split; have := xKu l n; omega; omega
theorem xNJ (l : List Nat) : ∀ n i,xB6 l n ≤ i → i < n → l.getD i 0 = 0
 | 0,i,h,h2 => by omega
 | n + 1,i,h,h2 => by
  unfold xB6 at h
  split at h
  ·rename_i e
   by_cases hi : i = n
   ·subst hi; exact e
   ·exact xNJ l n i h (by omega)
  ·omega
theorem xNK (l : List Nat) : ∀ n,0 < xB6 l n → l.getD (xB6 l n - 1) 0 ≠ 0
 | 0,h => by simp [xB6] at h
 | n + 1,h => by
  unfold xB6 at h ⊢
  split
  ·rename_i e
   rw [if_pos e] at h
   exact xNK l n h
  ·rename_i e; simpa using e
theorem xPU {l : List Nat} {k : Nat} : ∀ n,n ≤ l.length → n ≤ 64 →
  L.loop xOQ xXv ⟨xNs (.own false k 0 n 1),List.replicate k .dead ++ [.cells false false (w64 l)]⟩ = some (.exit 2,⟨xNs (.own false k 0 (xB6 l n) 1),List.replicate k .dead ++ [.cells false false (w64 l)]⟩)
 | 0,_,_ => by
  rw [xXw]
  simp (maxSteps := 30000000) (disch := first | assumption | omega | (simp only [WL,AV.isCell] <;> omega) | rfl | decide) only [↓reduceIte,WB,xAR,xAc,xAQ,xAD,xAC,AV.cells,AV.isCell,xAb,xAj,xAk,xAs,xAt,xAu,xAv,xAw,xAx,xAL,xAy,xAz,xAl,xAA,xAm,xAn,xAB,xAo,xAp,xAf,Nat.reduceDiv,Nat.reduceMod,WP,xAI,xAF,xAX,xAW,xAV,xAG,xAH,xAE,W2,xAd,xAe,xAi,Nat.reduceAdd,Nat.reduceSub,Nat.reduceLeDiff,Nat.reduceMul,Int.reduceAdd,Int.reduceSub,Int.reduceMul,Int.reduceLT,Int.reduceLE,Int.reduceEq,Int.reduceToNat,Int.reduceNeg,Nat.reduceEqDiff,Nat.reduceBEq,Nat.reduceLT,xOP,xOR,xB6]
 | n + 1,h,h2 => by
  have h0 : (0 : Int) < ((n + 1 : Nat) : Int) := by omega
  have ih := xPU (l := l) (k := k) n (by omega) (by omega)
  unfold xB6
  rw [xXw]
  by_cases e : l.getD n 0 = 0
  ·have e' : (((l.getD n 0 : Nat) : Int) = 0) = True := eq_true (by omega)
   simp (maxSteps := 30000000) (disch := first | assumption | omega | (simp only [WL,AV.isCell] <;> omega) | rfl | decide) only [↓reduceIte,WB,xAR,xAc,xAQ,xAD,xAC,AV.cells,AV.isCell,xAb,xAj,xAk,xAs,xAt,xAu,xAv,xAw,xAx,xAL,xAy,xAz,xAl,xAA,xAm,xAn,xAB,xAo,xAp,xAf,Nat.reduceDiv,Nat.reduceMod,WP,xAI,xAF,xAX,xAW,xAV,xAG,xAH,xAE,W2,xAd,xAe,xAi,Nat.reduceAdd,Nat.reduceSub,Nat.reduceLeDiff,Nat.reduceMul,Int.reduceAdd,Int.reduceSub,Int.reduceMul,Int.reduceLT,Int.reduceLE,Int.reduceEq,Int.reduceToNat,Int.reduceNeg,Nat.reduceEqDiff,Nat.reduceBEq,Nat.reduceLT,xOP,xOR,h0,e,e',Nat.add_sub_cancel,ih]
  ·have e' : (((l.getD n 0 : Nat) : Int) = 0) = False := eq_false (by omega)
   simp (maxSteps := 30000000) (disch := first | assumption | omega | (simp only [WL,AV.isCell] <;> omega) | rfl | decide) only [↓reduceIte,WB,xAR,xAc,xAQ,xAD,xAC,AV.cells,AV.isCell,xAb,xAj,xAk,xAs,xAt,xAu,xAv,xAw,xAx,xAL,xAy,xAz,xAl,xAA,xAm,xAn,xAB,xAo,xAp,xAf,Nat.reduceDiv,Nat.reduceMod,WP,xAI,xAF,xAX,xAW,xAV,xAG,xAH,xAE,W2,xAd,xAe,xAi,Nat.reduceAdd,Nat.reduceSub,Nat.reduceLeDiff,Nat.reduceMul,Int.reduceAdd,Int.reduceSub,Int.reduceMul,Int.reduceLT,Int.reduceLE,Int.reduceEq,Int.reduceToNat,Int.reduceNeg,Nat.reduceEqDiff,Nat.reduceBEq,Nat.reduceLT,xOP,xOR,h0,e,e',Nat.add_sub_cancel]
theorem yCR (z : Bool) (k n : Nat) (H : Heap) : L.icall (.func 83 []) [.own z k 0 n 1] H = some (.own z k 0 n 1,H) := by
 rw [yD9,a83]
 simp (maxSteps := 30000000) (disch := first | assumption | omega | (simp only [WL,AV.isCell] <;> omega) | rfl | decide) only [↓reduceIte,WB,xAR,xAc,xAQ,xAD,xAC,AV.cells,AV.isCell,xAb,xAj,xAk,xAs,xAt,xAu,xAv,xAw,xAx,xAL,xAy,xAz,xAl,xAA,xAm,xAn,xAB,xAo,xAp,xAf,Nat.reduceDiv,Nat.reduceMod,WP,xAI,xAF,xAX,xAW,xAV,xAG,xAH,xAE,W2,xAd,xAe,xAi,Nat.reduceAdd,Nat.reduceSub,Nat.reduceLeDiff,Nat.reduceMul,Int.reduceAdd,Int.reduceSub,Int.reduceMul,Int.reduceLT,Int.reduceLE,Int.reduceEq,Int.reduceToNat,Int.reduceNeg,Nat.reduceEqDiff,Nat.reduceBEq,Nat.reduceLT]
theorem yBT (H : Heap) : L.icall (.func 83 []) [.sl true 0 []] H = some (.sl true 0 [],H) := by
 rw [yD9,a83]
 simp (maxSteps := 30000000) (disch := first | assumption | omega | (simp only [WL,AV.isCell] <;> omega) | rfl | decide) only [↓reduceIte,WB,xAR,xAc,xAQ,xAD,xAC,AV.cells,AV.isCell,xAb,xAj,xAk,xAs,xAt,xAu,xAv,xAw,xAx,xAL,xAy,xAz,xAl,xAA,xAm,xAn,xAB,xAo,xAp,xAf,Nat.reduceDiv,Nat.reduceMod,WP,xAI,xAF,xAX,xAW,xAV,xAG,xAH,xAE,W2,xAd,xAe,xAi,Nat.reduceAdd,Nat.reduceSub,Nat.reduceLeDiff,Nat.reduceMul,Int.reduceAdd,Int.reduceSub,Int.reduceMul,Int.reduceLT,Int.reduceLE,Int.reduceEq,Int.reduceToNat,Int.reduceNeg,Nat.reduceEqDiff,Nat.reduceBEq,Nat.reduceLT]
def xCl (op : Nat → Nat → Nat) (a b : List Nat) : List Nat :=
 (xHB op a b (min (max a.length b.length) 64)).take (xB6 (xHB op a b (min (max a.length b.length) 64)) (min (max a.length b.length) 64))
theorem xVe {g : Nat} {op : Nat → Nat → Nat} {a b : List Nat} {za zb : Bool} (hop : ∀ x y H,x < 18446744073709551616 → y < 18446744073709551616 → L.icall (.func g []) [.int .u64 (x : Nat),.int .u64 (y : Nat)] H = some (.int .u64 (op x y : Nat),H)) (wa : W a) (wb : W b) :
  (xCl op a b = [] ∧ L.icall (.func 70 []) [sw za a,sw zb b,.func g []] [] = some (.sl true 0 [],[])) ∨
  ∃ k r,L.icall (.func 70 []) [sw za a,sw zb b,.func g []] [] = some (.own false k 0 (xCl op a b).length 1,List.replicate k .dead ++ [.cells false false (w64 (xCl op a b ++ r))]) := by
 unfold xCl
 have hm : min (max (a.length : Int) (b.length : Int)) 64 = ((min (max a.length b.length) 64 : Nat) : Int) := by omega
 have hN : min (max a.length b.length) 64 ≤ 64 := by omega
 have hl := xSZ (za := za) (zb := zb) hN hop wa wb (min (max a.length b.length) 64) 0 (by omega)
 generalize min (max a.length b.length) 64 = N at *
 simp only [Int.natCast_zero] at hl
 cases N with
 | zero =>
  refine .inl ⟨by simp [xHB],?_⟩
  simp only [xV8,xPT,Int.natCast_zero] at hl hm
  have hs : L.loop xOQ xXv ⟨xNs (.sl true 0 []),[]⟩ = some (.exit 2,⟨xNs (.sl true 0 []),[]⟩) := by
   rw [xXw]
   simp (maxSteps := 30000000) (disch := first | assumption | omega | (simp only [WL,AV.isCell] <;> omega) | rfl | decide) only [↓reduceIte,WB,xAR,xAc,xAQ,xAD,xAC,AV.cells,AV.isCell,xAb,xAj,xAk,xAs,xAt,xAu,xAv,xAw,xAx,xAL,xAy,xAz,xAl,xAA,xAm,xAn,xAB,xAo,xAp,xAf,Nat.reduceDiv,Nat.reduceMod,WP,xAI,xAF,xAX,xAW,xAV,xAG,xAH,xAE,W2,xAd,xAe,xAi,Nat.reduceAdd,Nat.reduceSub,Nat.reduceLeDiff,Nat.reduceMul,Int.reduceAdd,Int.reduceSub,Int.reduceMul,Int.reduceLT,Int.reduceLE,Int.reduceEq,Int.reduceToNat,Int.reduceNeg,Nat.reduceEqDiff,Nat.reduceBEq,Nat.reduceLT,xOP,xOR]
  rw [yD5,a70]
  simp (maxSteps := 30000000) (disch := first | assumption | omega | (simp only [WL,AV.isCell] <;> omega) | rfl | decide) only [↓reduceIte,WB,xAR,xAc,xAQ,xAD,xAC,AV.cells,AV.isCell,xAb,xAj,xAk,xAs,xAt,xAu,xAv,xAw,xAx,xAL,xAy,xAz,xAl,xAA,xAm,xAn,xAB,xAo,xAp,xAf,Nat.reduceDiv,Nat.reduceMod,WP,xAI,xAF,xAX,xAW,xAV,xAG,xAH,xAE,W2,xAd,xAe,xAi,Nat.reduceAdd,Nat.reduceSub,Nat.reduceLeDiff,Nat.reduceMul,Int.reduceAdd,Int.reduceSub,Int.reduceMul,Int.reduceLT,Int.reduceLE,Int.reduceEq,Int.reduceToNat,Int.reduceNeg,Nat.reduceEqDiff,Nat.reduceBEq,Nat.reduceLT,xSr,xOR,hm,hl,hs,yBT]
 | succ k =>
  simp only [xV8,xPT] at hl
  have hvl := xFw op a b (k + 1)
  have hs := xPU (l := xHB op a b (k + 1)) (k := k) (k + 1) (by omega) hN
  have hle := xKu (xHB op a b (k + 1)) (k + 1)
  generalize xB6 (xHB op a b (k + 1)) (k + 1) = n at *
  have hlen : ((xHB op a b (k + 1)).take n).length = n := by rw [List.length_take]; omega
  refine .inr ⟨k,(xHB op a b (k + 1)).drop n,?_⟩
  rw [List.take_append_drop,hlen,yD5,a70]
  simp (maxSteps := 30000000) (disch := first | assumption | omega | (simp only [WL,AV.isCell] <;> omega) | rfl | decide) only [↓reduceIte,WB,xAR,xAc,xAQ,xAD,xAC,AV.cells,AV.isCell,xAb,xAj,xAk,xAs,xAt,xAu,xAv,xAw,xAx,xAL,xAy,xAz,xAl,xAA,xAm,xAn,xAB,xAo,xAp,xAf,Nat.reduceDiv,Nat.reduceMod,WP,xAI,xAF,xAX,xAW,xAV,xAG,xAH,xAE,W2,xAd,xAe,xAi,Nat.reduceAdd,Nat.reduceSub,Nat.reduceLeDiff,Nat.reduceMul,Int.reduceAdd,Int.reduceSub,Int.reduceMul,Int.reduceLT,Int.reduceLE,Int.reduceEq,Int.reduceToNat,Int.reduceNeg,Nat.reduceEqDiff,Nat.reduceBEq,Nat.reduceLT,xSr,xOR,hm,hl,hs,yCR,hvl,hlen]
theorem xYy (op : Nat → Nat → Nat) (a b : List Nat) (h0 : op 0 0 = 0) (i : Nat) (hi : i < 64) : (xCl op a b).getD i 0 = op (a.getD i 0) (b.getD i 0) := by
 unfold xCl
 generalize hN : min (max a.length b.length) 64 = N
 have hv : ∀ i,i < N → (xHB op a b N).getD i 0 = op (a.getD i 0) (b.getD i 0) := fun i hi => by simp [xHB,hi]
 have hle := xKu (xHB op a b N) N
 by_cases h : i < xB6 (xHB op a b N) N
 ·rw [← hv i (by omega)]
  simp [List.getD,List.getElem?_take,h]
 ·rw [xEc (by rw [List.length_take,xFw]; omega)]
  by_cases h2 : i < N
  ·rw [← hv i h2]
   exact (xNJ _ N i (by omega) h2).symm
  ·rw [xEc (l := a) (by omega),xEc (l := b) (by omega),h0]
theorem xNL (op : Nat → Nat → Nat) (a b : List Nat) : (xCl op a b).length ≤ 64 := by
 unfold xCl
 rw [List.length_take,xFw]; omega
theorem xTT {op : Nat → Nat → Nat} {a b : List Nat} (hop : ∀ x y,x < 18446744073709551616 → y < 18446744073709551616 → op x y < 18446744073709551616) (wa : W a) (wb : W b) : W (xCl op a b) := by
 intro x hx
 have := List.mem_of_mem_take hx
 simp only [xHB,List.mem_map] at this
 obtain ⟨i,_,rfl⟩ := this
 exact hop _ _ (wa.get i) (wb.get i)
theorem xPV (op : Nat → Nat → Nat) (a b : List Nat) (h : xCl op a b ≠ []) : (xCl op a b).getD ((xCl op a b).length - 1) 0 ≠ 0 := by
 unfold xCl at h ⊢
 generalize hN : min (max a.length b.length) 64 = N at *
 have hle := xKu (xHB op a b N) N
 have hl : ((xHB op a b N).take (xB6 (xHB op a b N) N)).length = xB6 (xHB op a b N) N := by rw [List.length_take,xFw]; omega
 have hp : 0 < xB6 (xHB op a b N) N := by
  rw [← hl]; exact List.length_pos_iff.2 h
 rw [hl]
 have := xNK _ N hp
 rw [show ((xHB op a b N).take (xB6 (xHB op a b N) N)).getD (xB6 (xHB op a b N) N - 1) 0 = (xHB op a b N).getD (xB6 (xHB op a b N) N - 1) 0 from by
  simp [List.getD,List.getElem?_take,show xB6 (xHB op a b N) N - 1 < xB6 (xHB op a b N) N by omega]]
 exact this
def mem (l : List Nat) (j : Nat) : Bool := decide (j < 4096) && (l.getD (j / 64) 0).testBit (j % 64)
theorem xQH {op : Nat → Nat → Nat} {f : Bool → Bool → Bool} (a b : List Nat) (h0 : op 0 0 = 0) (hf : ∀ x y i,(op x y).testBit i = f (x.testBit i) (y.testBit i)) (j : Nat) (hj : j < 4096) : mem (xCl op a b) j = f (mem a j) (mem b j) := by
 unfold mem
 rw [xYy op a b h0 _ (by omega),hf]
 simp [hj]
theorem xYz {x : Nat} (h : x ≠ 0) (hx : x < 18446744073709551616) : ∃ i,i < 64 ∧ x.testBit i = true := by
 obtain ⟨i,hi⟩ := Nat.exists_testBit_ne_of_ne h
 rw [Nat.zero_testBit] at hi
 have h1 : x.testBit i = true := by simpa using hi
 refine ⟨i,?_,h1⟩
 rcases Nat.lt_or_ge i 64 with q | q
 ·exact q
 ·have : x.testBit i = false := Nat.testBit_lt_two_pow (Nat.lt_of_lt_of_le hx (by
   have : 2 ^ 64 ≤ 2 ^ i := Nat.pow_le_pow_right (by omega) q
   omega))
  rw [this] at h1; cases h1
def HasSet (v : AV) (S : Nat → Bool) : Prop := ∃ z l,v = sw z l ∧ W l ∧ l.length < 1099511627776 ∧ ∀ j,mem l j = S j
theorem HasSet.out {v : AV} {S : Nat → Bool} (h : HasSet v S) {j : Nat} (hj : 4096 ≤ j) : S j = false := by
 obtain ⟨z,l,rfl,_,_,h⟩ := h
 rw [← h j]
 simp [mem,show ¬ j < 4096 by omega]
theorem HasSet.congr {v : AV} {S T : Nat → Bool} (h : HasSet v S) (e : ∀ j,S j = T j) : HasSet v T := by
 obtain ⟨z,l,rfl,w,hl,h⟩ := h
 exact ⟨z,l,rfl,w,hl,fun j => (h j).trans (e j)⟩
theorem yCS {x y : Nat} (hx : x < 18446744073709551616) (hy : y < 18446744073709551616) : x ||| y < 18446744073709551616 := by
 have : x ||| y < 2 ^ 64 := Nat.or_lt_two_pow (by omega) (by omega)
 omega
def OwnS (v : AV) (B : List Blk) (l : List Nat) : Prop := (v = .sl true 0 [] ∧ B = [] ∧ l = []) ∨ ∃ r,v = .own false 0 0 l.length 1 ∧ B = [.cells false false (w64 (l ++ r))]
theorem xAO (l r : List Nat) : List.take l.length (l ++ r) = l := by simp
theorem xYA {g : Nat} {op : Nat → Nat → Nat} {a b : List Nat} {za zb : Bool} (hop : ∀ x y H,x < 18446744073709551616 → y < 18446744073709551616 → L.icall (.func g []) [.int .u64 (x : Nat),.int .u64 (y : Nat)] H = some (.int .u64 (op x y : Nat),H)) (wa : W a) (wb : W b) :
  ∃ z v H',L.icall (.func 70 []) [sw za a,sw zb b,.func g []] [] = some (v,H') ∧ frz frzN H' v = some (sw z (xCl op a b)) := by
 rcases xVe (za := za) (zb := zb) hop wa wb with ⟨h1,h2⟩ | ⟨k,r,h⟩
 ·exact ⟨true,_,_,h2,by rw [h1]; rfl⟩
 ·refine ⟨false,_,_,h,?_⟩
  simp (maxSteps := 30000000) (disch := first | assumption | omega | (simp only [WL,AV.isCell] <;> omega) | rfl | decide) only [↓reduceIte,WB,xAR,xAc,xAQ,xAD,xAC,AV.cells,AV.isCell,xAb,xAj,xAk,xAs,xAt,xAu,xAv,xAw,xAx,xAL,xAy,xAz,xAl,xAA,xAm,xAn,xAB,xAo,xAp,xAf,Nat.reduceDiv,Nat.reduceMod,WP,xAI,xAF,xAX,xAW,xAV,xAG,xAH,xAE,W2,xAd,xAe,xAi,Nat.reduceAdd,Nat.reduceSub,Nat.reduceLeDiff,Nat.reduceMul,Int.reduceAdd,Int.reduceSub,Int.reduceMul,Int.reduceLT,Int.reduceLE,Int.reduceEq,Int.reduceToNat,Int.reduceNeg,Nat.reduceEqDiff,Nat.reduceBEq,Nat.reduceLT,frzN,xAO]
theorem xYB {za zb : Bool} {a b : List Nat} (wa : W a) (wb : W b) (ha : a.length < 1099511627776) (hb : b.length < 1099511627776) : ∃ v B,xBw L 77 [sw za a,sw zb b] = some (v,B) ∧ OwnS v B (xCl (· ||| ·) a b) := by
 rcases xVe (za := za) (zb := zb) (g := 88) (op := (· ||| ·)) (fun x y H hx hy => yEY x y H hx hy) wa wb with ⟨h1,h2⟩ | ⟨k,r,h⟩
 ·refine ⟨.sl true 0 [],[],?_,.inl ⟨rfl,rfl,h1⟩⟩
  rw [xBk,yD6,a77,xA3]
  simp (maxSteps := 30000000) (disch := first | assumption | omega | (simp only [WL,AV.isCell] <;> omega) | rfl | decide) only [↓reduceIte,WB,xAR,xAc,xAQ,xAD,xAC,AV.cells,AV.isCell,xAb,xAj,xAk,xAs,xAt,xAu,xAv,xAw,xAx,xAL,xAy,xAz,xAl,xAA,xAm,xAn,xAB,xAo,xAp,xAf,Nat.reduceDiv,Nat.reduceMod,WP,xAI,xAF,xAX,xAW,xAV,xAG,xAH,xAE,W2,xAd,xAe,xAi,Nat.reduceAdd,Nat.reduceSub,Nat.reduceLeDiff,Nat.reduceMul,Int.reduceAdd,Int.reduceSub,Int.reduceMul,Int.reduceLT,Int.reduceLE,Int.reduceEq,Int.reduceToNat,Int.reduceNeg,Nat.reduceEqDiff,Nat.reduceBEq,Nat.reduceLT,h2]
 ·refine ⟨.own false 0 0 (xCl (· ||| ·) a b).length 1,[.cells false false (w64 (xCl (· ||| ·) a b ++ r))],?_,.inr ⟨r,rfl,rfl⟩⟩
  rw [xBk,yD6,a77,xA3]
  simp (maxSteps := 30000000) (disch := first | assumption | omega | (simp only [WL,AV.isCell] <;> omega) | rfl | decide) only [↓reduceIte,WB,xAR,xAc,xAQ,xAD,xAC,AV.cells,AV.isCell,xAb,xAj,xAk,xAs,xAt,xAu,xAv,xAw,xAx,xAL,xAy,xAz,xAl,xAA,xAm,xAn,xAB,xAo,xAp,xAf,Nat.reduceDiv,Nat.reduceMod,WP,xAI,xAF,xAX,xAW,xAV,xAG,xAH,xAE,W2,xAd,xAe,xAi,Nat.reduceAdd,Nat.reduceSub,Nat.reduceLeDiff,Nat.reduceMul,Int.reduceAdd,Int.reduceSub,Int.reduceMul,Int.reduceLT,Int.reduceLE,Int.reduceEq,Int.reduceToNat,Int.reduceNeg,Nat.reduceEqDiff,Nat.reduceBEq,Nat.reduceLT,h]
theorem xYC {v u : AV} {S T : Nat → Bool} (hv : HasSet v S) (hu : HasSet u T) : ∃ t,L.pcall 53 [v,u] = some (.bool t) ∧ (t = true ↔ ∃ j,S j = true ∧ T j = true) := by
 obtain ⟨za,a,rfl,wa,la,ha⟩ := id hv
 obtain ⟨zb,b,rfl,wb,lb,hb⟩ := id hu
 obtain ⟨z,cv,H',h,hf⟩ := xYA (za := za) (zb := zb) (g := 71) (op := (· &&& ·)) (fun x y H hx hy => yCQ x y H hx hy) wa wb
 have hlen := xNL (· &&& ·) a b
 have h62 : L.pcall 45 [sw za a,sw zb b] = some (sw z (xCl (· &&& ·) a b)) := by
  rw [yDX,a45,xAK]
  simp (maxSteps := 30000000) (disch := first | assumption | omega | (simp only [WL,AV.isCell] <;> omega) | rfl | decide) only [↓reduceIte,WB,xAR,xAc,xAQ,xAD,xAC,AV.cells,AV.isCell,xAb,xAj,xAk,xAs,xAt,xAu,xAv,xAw,xAx,xAL,xAy,xAz,xAl,xAA,xAm,xAn,xAB,xAo,xAp,xAf,Nat.reduceDiv,Nat.reduceMod,WP,xAI,xAF,xAX,xAW,xAV,xAG,xAH,xAE,W2,xAd,xAe,xAi,Nat.reduceAdd,Nat.reduceSub,Nat.reduceLeDiff,Nat.reduceMul,Int.reduceAdd,Int.reduceSub,Int.reduceMul,Int.reduceLT,Int.reduceLE,Int.reduceEq,Int.reduceToNat,Int.reduceNeg,Nat.reduceEqDiff,Nat.reduceBEq,Nat.reduceLT,h]
  exact hf
 refine ⟨decide (0 < (xCl (· &&& ·) a b).length),?_,?_⟩
 ·have e : ((0 : Int) < ((xCl (· &&& ·) a b).length : Nat)) = (0 < (xCl (· &&& ·) a b).length) := propext ⟨fun h => by omega,fun h => by omega⟩
  rw [yEy,a53,xAK]
  simp (maxSteps := 30000000) (disch := first | assumption | omega | (simp only [WL,AV.isCell] <;> omega) | rfl | decide) only [↓reduceIte,WB,xAR,xAc,xAQ,xAD,xAC,AV.cells,AV.isCell,xAb,xAj,xAk,xAs,xAt,xAu,xAv,xAw,xAx,xAL,xAy,xAz,xAl,xAA,xAm,xAn,xAB,xAo,xAp,xAf,Nat.reduceDiv,Nat.reduceMod,WP,xAI,xAF,xAX,xAW,xAV,xAG,xAH,xAE,W2,xAd,xAe,xAi,Nat.reduceAdd,Nat.reduceSub,Nat.reduceLeDiff,Nat.reduceMul,Int.reduceAdd,Int.reduceSub,Int.reduceMul,Int.reduceLT,Int.reduceLE,Int.reduceEq,Int.reduceToNat,Int.reduceNeg,Nat.reduceEqDiff,Nat.reduceBEq,Nat.reduceLT,h62,e]
 ·rw [decide_eq_true_eq]
  have hmem : ∀ j,j < 4096 → mem (xCl (· &&& ·) a b) j = (S j && T j) := fun j hj => by
   rw [xQH (f := (· && ·)) a b (by simp) (fun x y i => by simp) j hj,ha,hb]
  constructor
  ·intro hpos
   have hne : xCl (· &&& ·) a b ≠ [] := List.length_pos_iff.1 hpos
   have hlast := xPV (· &&& ·) a b hne
   obtain ⟨i,hi,hbit⟩ := xYz hlast ((xTT (fun x y hx hy => Nat.lt_of_le_of_lt Nat.and_le_left hx) wa wb).get _)
   have hj : 64 * ((xCl (· &&& ·) a b).length - 1) + i < 4096 := by omega
   have := hmem _ hj
   have hm : mem (xCl (· &&& ·) a b) (64 * ((xCl (· &&& ·) a b).length - 1) + i) = true := by
    unfold mem
    rw [show (64 * ((xCl (· &&& ·) a b).length - 1) + i) / 64 = (xCl (· &&& ·) a b).length - 1 by omega,show (64 * ((xCl (· &&& ·) a b).length - 1) + i) % 64 = i by omega,hbit]
    simp [hj]
   rw [hm] at this
   have h2 := this.symm
   simp only [Bool.and_eq_true] at h2
   exact ⟨_,h2⟩
  ·rintro ⟨j,h1,h2⟩
   have hj : j < 4096 := by
    rcases Nat.lt_or_ge j 4096 with q | q
    ·exact q
    ·rw [hv.out q] at h1; cases h1
   have := hmem j hj
   rw [h1,h2] at this
   rcases Nat.eq_zero_or_pos (xCl (· &&& ·) a b).length with q | q
   ·rw [List.length_eq_zero_iff.1 q] at this
    simp [mem] at this
   ·exact q
theorem xZ9 (n : Nat) : xEj [AV.int .u64 0] n = w64 (List.replicate n 0) := by
 induction n with
 | zero => rfl
 | succ n ih => simp [xEj,ih,w64,List.replicate_succ]
def yAa (k : Nat) : List Nat := (List.replicate (k / 64 + 1) 0).set (k / 64) (2 ^ (k % 64))
theorem xYD (k : Nat) (hk : k < 4096) : L.pcall 79 [.int .i64 (k : Nat)] = some (.sl false (k / 64 + 1) (w64 (yAa k))) := by
 have h1 : ¬ ((4095 : Int) < (k : Nat)) := by omega
 have h64 : ((k : Nat) : Int).tdiv 64 = ((k / 64 : Nat) : Int) := by rw [show (64 : Int) = ((64 : Nat) : Int) from rfl,xNX]
 have hm64 : ((k : Nat) : Int).tmod 64 = ((k % 64 : Nat) : Int) := by rw [show (64 : Int) = ((64 : Nat) : Int) from rfl,xSw]
 have hlt : k % 64 < 64 := Nat.mod_lt _ (by omega)
 have hd : k / 64 < 64 := by omega
 have hsh : IntKind.u64.wrap (1 * 2 ^ min (k % 64) IntKind.u64.bits) = ((2 ^ (k % 64) : Nat) : Int) := by
  have e1 : min (k % 64) IntKind.u64.bits = k % 64 := Nat.min_eq_left (by show k % 64 ≤ 64; omega)
  have e2 : (2 : Nat) ^ (k % 64) < 2 ^ 64 := Nat.pow_lt_pow_right (by omega) hlt
  rw [e1,Int.one_mul,show (2 : Int) ^ (k % 64) = ((2 ^ (k % 64) : Nat) : Int) from by rw [Int.natCast_pow]; rfl]
  exact xNZ (by omega)
 unfold yAa
 generalize k / 64 = d at *
 generalize k % 64 = r at *
 have hlen : ((List.replicate (d + 1) 0).set d (2 ^ r)).length = d + 1 := by simp
 have htk : List.take (d + 1) ((List.replicate (d + 1) 0).set d (2 ^ r)) = (List.replicate (d + 1) 0).set d (2 ^ r) := List.take_of_length_le (by omega)
 rw [yEN,a79,xAK]
 simp (maxSteps := 30000000) (disch := first | assumption | omega | (simp only [WL,AV.isCell] <;> omega) | rfl | decide) only [↓reduceIte,WB,xAR,xAc,xAQ,xAD,xAC,AV.cells,AV.isCell,xAb,xAj,xAk,xAs,xAt,xAu,xAv,xAw,xAx,xAL,xAy,xAz,xAl,xAA,xAm,xAn,xAB,xAo,xAp,xAf,Nat.reduceDiv,Nat.reduceMod,WP,xAI,xAF,xAX,xAW,xAV,xAG,xAH,xAE,W2,xAd,xAe,xAi,Nat.reduceAdd,Nat.reduceSub,Nat.reduceLeDiff,Nat.reduceMul,Int.reduceAdd,Int.reduceSub,Int.reduceMul,Int.reduceLT,Int.reduceLE,Int.reduceEq,Int.reduceToNat,Int.reduceNeg,Nat.reduceEqDiff,Nat.reduceBEq,Nat.reduceLT,h1,h64,hm64,hsh,xZ9,htk]
theorem yCT (k : Nat) : W (yAa k) := by
 intro x hx
 rcases List.mem_or_eq_of_mem_set hx with h | rfl
 ·rw [(List.mem_replicate.1 h).2]; omega
 ·have : (2 : Nat) ^ (k % 64) < 2 ^ 64 := Nat.pow_lt_pow_right (by omega) (Nat.mod_lt _ (by omega))
  omega
theorem yAb (k : Nat) (hk : k < 4096) (j : Nat) : mem (yAa k) j = decide (j = k) := by
 unfold mem yAa
 rw [List.getD_eq_getElem?_getD,List.getElem?_set]
 by_cases h : k / 64 = j / 64
 ·rw [if_pos h,if_pos (by simp <;> omega)]
  simp only [Option.getD_some,Nat.testBit_two_pow]
  by_cases e : j = k
  ·subst e; simp [hk]
  ·have : ¬ k % 64 = j % 64 := by omega
   simp [e,this]
 ·rw [if_neg h]
  have e : ¬ j = k := by rintro rfl; exact h rfl
  simp [e,List.getElem?_replicate]
  split <;> simp
theorem xPW (k : Nat) (hk : k < 4096) : ∃ z l,L.pcall 79 [.int .i64 (k : Nat)] = some (sw z l) ∧ HasSet (sw z l) (fun j => decide (j = k)) := by
 have hlen : (yAa k).length = k / 64 + 1 := by simp [yAa]
 refine ⟨false,yAa k,?_,false,yAa k,rfl,yCT k,by omega,yAb k hk⟩
 rw [xYD k hk,yCV hlen]
theorem yBU {v : AV} {S : Nat → Bool} (hv : HasSet v S) (k : Nat) (hk : k < 4096) : L.pcall 67 [v,.int .i64 (k : Nat)] = some (.bool (S k)) := by
 obtain ⟨z,l,h1,h2⟩ := xPW k hk
 obtain ⟨t,h3,h4⟩ := xYC hv h2
 obtain ⟨za,a,rfl,wa,la,ha⟩ := id hv
 have e : t = S k := by
  rw [Bool.eq_iff_iff,h4]
  constructor
  ·rintro ⟨j,hj,hk⟩
   simp only [decide_eq_true_eq] at hk
   rw [← hk]; exact hj
  ·intro h
   exact ⟨k,h,by simp⟩
 rw [e] at h3
 rw [yEI,a67,xAK]
 simp (maxSteps := 30000000) (disch := first | assumption | omega | (simp only [WL,AV.isCell] <;> omega) | rfl | decide) only [↓reduceIte,WB,xAR,xAc,xAQ,xAD,xAC,AV.cells,AV.isCell,xAb,xAj,xAk,xAs,xAt,xAu,xAv,xAw,xAx,xAL,xAy,xAz,xAl,xAA,xAm,xAn,xAB,xAo,xAp,xAf,Nat.reduceDiv,Nat.reduceMod,WP,xAI,xAF,xAX,xAW,xAV,xAG,xAH,xAE,W2,xAd,xAe,xAi,Nat.reduceAdd,Nat.reduceSub,Nat.reduceLeDiff,Nat.reduceMul,Int.reduceAdd,Int.reduceSub,Int.reduceMul,Int.reduceLT,Int.reduceLE,Int.reduceEq,Int.reduceToNat,Int.reduceNeg,Nat.reduceEqDiff,Nat.reduceBEq,Nat.reduceLT,h1,h3]
def CanS (l : List Nat) (S : Nat → Bool) : Prop := W l ∧ l.length ≤ 64 ∧ (l ≠ [] → l.getD (l.length - 1) 0 ≠ 0) ∧ ∀ j,mem l j = S j
theorem CanS.has {l : List Nat} {S : Nat → Bool} (h : CanS l S) (z : Bool) : HasSet (sw z l) S := ⟨z,l,rfl,h.1,by have := h.2.1; omega,h.2.2.2⟩
theorem CanS.congr {l : List Nat} {S T : Nat → Bool} (h : CanS l S) (e : ∀ j,S j = T j) : CanS l T := ⟨h.1,h.2.1,h.2.2.1,fun j => (h.2.2.2 j).trans (e j)⟩
theorem xVf : CanS [] (fun _ => false) := ⟨by intro x hx; simp at hx,by simp,by simp,fun j => by simp [mem]⟩
theorem xQI {l : List Nat} {i t : Nat} (hi : i < 64) (ht : t < 64) : mem l (64 * i + t) = (l.getD i 0).testBit t := by
 unfold mem
 rw [show (64 * i + t) / 64 = i by omega,show (64 * i + t) % 64 = t by omega,decide_eq_true (by omega : 64 * i + t < 4096),Bool.true_and]
theorem CanS.get {a b : List Nat} {S : Nat → Bool} (h : CanS a S) (k : CanS b S) (i : Nat) (hi : i < 64) : a.getD i 0 = b.getD i 0 := by
 apply Nat.eq_of_testBit_eq
 intro t
 by_cases ht : t < 64
 ·rw [← xQI hi ht,← xQI hi ht,h.2.2.2,k.2.2.2]
 ·have big : ∀ x,x < 18446744073709551616 → x.testBit t = false := fun x hx => Nat.testBit_lt_two_pow (Nat.lt_of_lt_of_le hx (by
   have : 2 ^ 64 ≤ 2 ^ t := Nat.pow_le_pow_right (by omega) (by omega)
   omega))
  rw [big _ (h.1.get i),big _ (k.1.get i)]
theorem CanS.uniq {a b : List Nat} {S : Nat → Bool} (h : CanS a S) (k : CanS b S) : a = b := by
 have la := h.2.1
 have lb := k.2.1
 have hlen : a.length = b.length := by
  rcases Nat.lt_trichotomy a.length b.length with q | q | q
  ·exfalso
   refine k.2.2.1 (by intro e; rw [e] at q; simp at q) ?_
   rw [← h.get k _ (by omega)]
   exact xEc (by omega)
  ·exact q
  ·exfalso
   refine h.2.2.1 (by intro e; rw [e] at q; simp at q) ?_
   rw [h.get k _ (by omega)]
   exact xEc (by omega)
 apply List.ext_getElem hlen
 intro i h1 h2
 have := h.get k i (by omega)
 simpa [List.getD,List.getElem?_eq_getElem h1,List.getElem?_eq_getElem h2] using this
theorem xYE {za zb : Bool} {a b : List Nat} {S T : Nat → Bool} (hv : HasSet (sw za a) S) (hu : HasSet (sw zb b) T) (wa : W a) (wb : W b) (ha : ∀ j,mem a j = S j) (hb : ∀ j,mem b j = T j) : CanS (xCl (· ||| ·) a b) (fun j => S j || T j) := by
 refine ⟨xTT (fun x y hx hy => yCS hx hy) wa wb,xNL _ _ _,fun h => xPV _ _ _ h,fun j => ?_⟩
 by_cases hj : j < 4096
 ·rw [xQH (f := (· || ·)) a b (by simp) (fun x y i => by simp) j hj,ha,hb]
 ·show mem _ j = (S j || T j)
  rw [hv.out (j := j) (by omega),hu.out (j := j) (by omega)]
  simp [mem,hj]
theorem yAc {v : AV} {S : Nat → Bool} (hv : HasSet v S) (k : Nat) (hk : k < 4096) : ∃ u B l,xBw L 68 [v,.int .i64 (k : Nat)] = some (u,B) ∧ OwnS u B l ∧ CanS l (fun j => S j || decide (j = k)) ∧ ∃ z,L.pcall 68 [v,.int .i64 (k : Nat)] = some (sw z l) := by
 obtain ⟨z,l,h1,h2⟩ := xPW k hk
 obtain ⟨za,a,rfl,wa,la,ha⟩ := id hv
 obtain ⟨zb,b,e,wb,lb,hb⟩ := id h2
 rw [e] at h1 h2
 obtain ⟨u,B,h3,h4⟩ := xYB (za := za) (zb := zb) wa wb la lb
 have hc := xYE hv h2 wa wb ha hb
 rcases h4 with ⟨rfl,rfl,h5⟩ | ⟨r,rfl,rfl⟩
 ·refine ⟨.sl true 0 [],[],_,?_,.inl ⟨rfl,rfl,h5⟩,hc,true,?_⟩
  ·rw [xBk,yD3,a68,xA3]
   simp (maxSteps := 30000000) (disch := first | assumption | omega | (simp only [WL,AV.isCell] <;> omega) | rfl | decide) only [↓reduceIte,WB,xAR,xAc,xAQ,xAD,xAC,AV.cells,AV.isCell,xAb,xAj,xAk,xAs,xAt,xAu,xAv,xAw,xAx,xAL,xAy,xAz,xAl,xAA,xAm,xAn,xAB,xAo,xAp,xAf,Nat.reduceDiv,Nat.reduceMod,WP,xAI,xAF,xAX,xAW,xAV,xAG,xAH,xAE,W2,xAd,xAe,xAi,Nat.reduceAdd,Nat.reduceSub,Nat.reduceLeDiff,Nat.reduceMul,Int.reduceAdd,Int.reduceSub,Int.reduceMul,Int.reduceLT,Int.reduceLE,Int.reduceEq,Int.reduceToNat,Int.reduceNeg,Nat.reduceEqDiff,Nat.reduceBEq,Nat.reduceLT,h1,h3]
  ·rw [h5,yD2,a68,xAK]
   simp (maxSteps := 30000000) (disch := first | assumption | omega | (simp only [WL,AV.isCell] <;> omega) | rfl | decide) only [↓reduceIte,WB,xAR,xAc,xAQ,xAD,xAC,AV.cells,AV.isCell,xAb,xAj,xAk,xAs,xAt,xAu,xAv,xAw,xAx,xAL,xAy,xAz,xAl,xAA,xAm,xAn,xAB,xAo,xAp,xAf,Nat.reduceDiv,Nat.reduceMod,WP,xAI,xAF,xAX,xAW,xAV,xAG,xAH,xAE,W2,xAd,xAe,xAi,Nat.reduceAdd,Nat.reduceSub,Nat.reduceLeDiff,Nat.reduceMul,Int.reduceAdd,Int.reduceSub,Int.reduceMul,Int.reduceLT,Int.reduceLE,Int.reduceEq,Int.reduceToNat,Int.reduceNeg,Nat.reduceEqDiff,Nat.reduceBEq,Nat.reduceLT,h1,h3]
   rfl
 ·refine ⟨_,_,_,?_,.inr ⟨r,rfl,rfl⟩,hc,false,?_⟩
  ·rw [xBk,yD3,a68,xA3]
   simp (maxSteps := 30000000) (disch := first | assumption | omega | (simp only [WL,AV.isCell] <;> omega) | rfl | decide) only [↓reduceIte,WB,xAR,xAc,xAQ,xAD,xAC,AV.cells,AV.isCell,xAb,xAj,xAk,xAs,xAt,xAu,xAv,xAw,xAx,xAL,xAy,xAz,xAl,xAA,xAm,xAn,xAB,xAo,xAp,xAf,Nat.reduceDiv,Nat.reduceMod,WP,xAI,xAF,xAX,xAW,xAV,xAG,xAH,xAE,W2,xAd,xAe,xAi,Nat.reduceAdd,Nat.reduceSub,Nat.reduceLeDiff,Nat.reduceMul,Int.reduceAdd,Int.reduceSub,Int.reduceMul,Int.reduceLT,Int.reduceLE,Int.reduceEq,Int.reduceToNat,Int.reduceNeg,Nat.reduceEqDiff,Nat.reduceBEq,Nat.reduceLT,h1,h3]
  ·rw [yD2,a68,xAK]
   simp (maxSteps := 30000000) (disch := first | assumption | omega | (simp only [WL,AV.isCell] <;> omega) | rfl | decide) only [↓reduceIte,WB,xAR,xAc,xAQ,xAD,xAC,AV.cells,AV.isCell,xAb,xAj,xAk,xAs,xAt,xAu,xAv,xAw,xAx,xAL,xAy,xAz,xAl,xAA,xAm,xAn,xAB,xAo,xAp,xAf,Nat.reduceDiv,Nat.reduceMod,WP,xAI,xAF,xAX,xAW,xAV,xAG,xAH,xAE,W2,xAd,xAe,xAi,Nat.reduceAdd,Nat.reduceSub,Nat.reduceLeDiff,Nat.reduceMul,Int.reduceAdd,Int.reduceSub,Int.reduceMul,Int.reduceLT,Int.reduceLE,Int.reduceEq,Int.reduceToNat,Int.reduceNeg,Nat.reduceEqDiff,Nat.reduceBEq,Nat.reduceLT,h1,h3,xAO]
abbrev iw (z : Bool) (l : List Int) : AV := .sl z l.length (xBd l)
theorem xVg {v : AV} {S : Nat → Bool} (hv : HasSet v S) (k : Int) (h0 : 0 ≤ k) (hk : k < 4096) : L.pcall 67 [v,.int .i64 k] = some (.bool (S k.toNat)) := by
 have := yBU hv k.toNat (by omega)
 rwa [Int.toNat_of_nonneg h0] at this
theorem xBz {l : List Int} {i : Nat} (h : i < l.length) : l.drop i = l.getD i 0 :: l.drop (i + 1) := by
 rw [List.drop_eq_getElem_cons h]
 simp [List.getD,List.getElem?_eq_getElem h]
def OwnT (b : Nat) (T : Heap) (v : AV) (l : List Nat) : Prop := (v = .sl true 0 [] ∧ l = []) ∨ ∃ k r,v = .own false (k + b) 0 l.length 1 ∧ T[k]? = some (.cells false false (w64 (l ++ r)))
theorem xNM {v : AV} {S : Nat → Bool} (hv : HasSet v S) (k : Int) (h0 : 0 ≤ k) (hk : k < 4096) : ∃ u B l,xBw L 68 [v,.int .i64 k] = some (u,B) ∧ OwnS u B l ∧ CanS l (fun j => S j || decide (j = k.toNat)) := by
 obtain ⟨u,B,l,h1,h2,h3,-⟩ := yAc hv k.toNat (by omega)
 rw [Int.toNat_of_nonneg h0] at h1
 exact ⟨u,B,l,h1,h2,h3⟩
theorem xNN {l : List Int} {z : Bool} (hl : l.length < 1099511627776) (hq : ∀ q ∈ l,0 ≤ q ∧ q < 4096) : ∀ d i T v r S,i + d = l.length → OwnT 0 T v r → CanS r S →
  ∃ T' v' r',L.loop xR8 xZC ⟨xR9 v (iw z l) (.int .i64 (l.length : Nat)) (.int .i64 (i : Nat)),T⟩ = some (.exit 0,⟨xR9 v' (iw z l) (.int .i64 (l.length : Nat)) (.int .i64 (l.length : Nat)),T'⟩) ∧
   OwnT 0 T' v' r' ∧ CanS r' (fun j => S j || (l.drop i).contains (j : Int))
 | 0,i,T,v,r,S,h,hO,hC => by
  obtain rfl : i = l.length := by omega
  refine ⟨T,v,r,?_,hO,hC.congr (fun j => by simp)⟩
  rw [xSa]
  simp (maxSteps := 30000000) (disch := first | assumption | omega | (simp only [WL,AV.isCell] <;> omega) | rfl | decide) only [↓reduceIte,WB,xAR,xAc,xAQ,xAD,xAC,AV.cells,AV.isCell,xAb,xAj,xAk,xAs,xAt,xAu,xAv,xAw,xAx,xAL,xAy,xAz,xAl,xAA,xAm,xAn,xAB,xAo,xAp,xAf,Nat.reduceDiv,Nat.reduceMod,WP,xAI,xAF,xAX,xAW,xAV,xAG,xAH,xAE,W2,xAd,xAe,xAi,Nat.reduceAdd,Nat.reduceSub,Nat.reduceLeDiff,Nat.reduceMul,Int.reduceAdd,Int.reduceSub,Int.reduceMul,Int.reduceLT,Int.reduceLE,Int.reduceEq,Int.reduceToNat,Int.reduceNeg,Nat.reduceEqDiff,Nat.reduceBEq,Nat.reduceLT,xNm,xKh]
 | d + 1,i,T,v,r,S,h,hO,hC => by
  have hlt : (i : Int) < (l.length : Nat) := by omega
  have hm : l.getD i 0 ∈ l := by
   rw [List.getD_eq_getElem?_getD,List.getElem?_eq_getElem (by omega)]
   exact List.getElem_mem _
  have hcongr : ∀ j,((S j || decide (j = (l.getD i 0).toNat)) || (l.drop (i + 1)).contains (j : Int)) = (S j || (l.drop i).contains (j : Int)) := fun j => by
   rw [xBz (by omega : i < l.length),List.contains_cons]
   have hn := (hq _ hm).1
   have : (decide (j = (l.getD i 0).toNat)) = ((j : Int) == l.getD i 0) := by
    rw [Bool.eq_iff_iff]
    simp only [decide_eq_true_eq,beq_iff_eq]
    omega
   rw [this,Bool.or_assoc]
  rcases hO with ⟨rfl,rfl⟩ | ⟨k,x,rfl,hk⟩
  ·obtain ⟨u,B,l2,h1,h2,h3⟩ := xNM (hC.has true) (l.getD i 0) (hq _ hm).1 (hq _ hm).2
   have h1' : xBw L 68 [.sl true 0 [],.int .i64 (l.getD i 0)] = some (u,B) := h1
   rcases h2 with ⟨rfl,rfl,rfl⟩ | ⟨x,rfl,rfl⟩
   ·obtain ⟨T',v',r',g1,g2,g3⟩ := xNN (z := z) hl hq d (i + 1) T (.sl true 0 []) [] _ (by omega) (.inl ⟨rfl,rfl⟩) h3
    refine ⟨T',v',r',?_,g2,g3.congr hcongr⟩
    rw [xSa]
    simp (maxSteps := 30000000) (disch := first | assumption | omega | (simp only [WL,AV.isCell] <;> omega) | rfl | decide) only [↓reduceIte,WB,xAR,xAc,xAQ,xAD,xAC,AV.cells,AV.isCell,xAb,xAj,xAk,xAs,xAt,xAu,xAv,xAw,xAx,xAL,xAy,xAz,xAl,xAA,xAm,xAn,xAB,xAo,xAp,xAf,Nat.reduceDiv,Nat.reduceMod,WP,xAI,xAF,xAX,xAW,xAV,xAG,xAH,xAE,W2,xAd,xAe,xAi,Nat.reduceAdd,Nat.reduceSub,Nat.reduceLeDiff,Nat.reduceMul,Int.reduceAdd,Int.reduceSub,Int.reduceMul,Int.reduceLT,Int.reduceLE,Int.reduceEq,Int.reduceToNat,Int.reduceNeg,Nat.reduceEqDiff,Nat.reduceBEq,Nat.reduceLT,xNm,xKh,hlt,h1',g1]
   ·obtain ⟨T',v',r',g1,g2,g3⟩ := xNN (z := z) hl hq d (i + 1) (T ++ [.cells false false (w64 (l2 ++ x))]) (.own false T.length 0 l2.length 1) l2 _ (by omega) (.inr ⟨T.length,x,rfl,by simp⟩) h3
    refine ⟨T',v',r',?_,g2,g3.congr hcongr⟩
    rw [xSa]
    simp (maxSteps := 30000000) (disch := first | assumption | omega | (simp only [WL,AV.isCell] <;> omega) | rfl | decide) only [↓reduceIte,WB,xAR,xAc,xAQ,xAD,xAC,AV.cells,AV.isCell,xAb,xAj,xAk,xAs,xAt,xAu,xAv,xAw,xAx,xAL,xAy,xAz,xAl,xAA,xAm,xAn,xAB,xAo,xAp,xAf,Nat.reduceDiv,Nat.reduceMod,WP,xAI,xAF,xAX,xAW,xAV,xAG,xAH,xAE,W2,xAd,xAe,xAi,Nat.reduceAdd,Nat.reduceSub,Nat.reduceLeDiff,Nat.reduceMul,Int.reduceAdd,Int.reduceSub,Int.reduceMul,Int.reduceLT,Int.reduceLE,Int.reduceEq,Int.reduceToNat,Int.reduceNeg,Nat.reduceEqDiff,Nat.reduceBEq,Nat.reduceLT,xNm,xKh,hlt,h1',g1]
  ·obtain ⟨u,B,l2,h1,h2,h3⟩ := xNM (hC.has false) (l.getD i 0) (hq _ hm).1 (hq _ hm).2
   have h1' : xBw L 68 [.sl false r.length (w64 r),.int .i64 (l.getD i 0)] = some (u,B) := h1
   have hkl := (List.getElem?_eq_some_iff.1 hk).1
   rcases h2 with ⟨rfl,rfl,rfl⟩ | ⟨y,rfl,rfl⟩
   ·obtain ⟨T',v',r',g1,g2,g3⟩ := xNN (z := z) hl hq d (i + 1) (T.modify k xAC) (.sl true 0 []) [] _ (by omega) (.inl ⟨rfl,rfl⟩) h3
    refine ⟨T',v',r',?_,g2,g3.congr hcongr⟩
    rw [xSa]
    simp (maxSteps := 30000000) (disch := first | assumption | omega | (simp only [WL,AV.isCell] <;> omega) | rfl | decide) only [↓reduceIte,WB,xAR,xAc,xAQ,xAD,xAC,AV.cells,AV.isCell,xAb,xAj,xAk,xAs,xAt,xAu,xAv,xAw,xAx,xAL,xAy,xAz,xAl,xAA,xAm,xAn,xAB,xAo,xAp,xAf,Nat.reduceDiv,Nat.reduceMod,WP,xAI,xAF,xAX,xAW,xAV,xAG,xAH,xAE,W2,xAd,xAe,xAi,Nat.reduceAdd,Nat.reduceSub,Nat.reduceLeDiff,Nat.reduceMul,Int.reduceAdd,Int.reduceSub,Int.reduceMul,Int.reduceLT,Int.reduceLE,Int.reduceEq,Int.reduceToNat,Int.reduceNeg,Nat.reduceEqDiff,Nat.reduceBEq,Nat.reduceLT,xNm,xKh,hlt,hk,xAO,h1',g1]
   ·obtain ⟨T',v',r',g1,g2,g3⟩ := xNN (z := z) hl hq d (i + 1) (T.modify k xAC ++ [.cells false false (w64 (l2 ++ y))]) (.own false T.length 0 l2.length 1) l2 _ (by omega) (.inr ⟨T.length,y,rfl,by simp [List.length_modify]⟩) h3
    refine ⟨T',v',r',?_,g2,g3.congr hcongr⟩
    rw [xSa]
    simp (maxSteps := 30000000) (disch := first | assumption | omega | (simp only [WL,AV.isCell] <;> omega) | rfl | decide) only [↓reduceIte,WB,xAR,xAc,xAQ,xAD,xAC,AV.cells,AV.isCell,xAb,xAj,xAk,xAs,xAt,xAu,xAv,xAw,xAx,xAL,xAy,xAz,xAl,xAA,xAm,xAn,xAB,xAo,xAp,xAf,Nat.reduceDiv,Nat.reduceMod,WP,xAI,xAF,xAX,xAW,xAV,xAG,xAH,xAE,W2,xAd,xAe,xAi,Nat.reduceAdd,Nat.reduceSub,Nat.reduceLeDiff,Nat.reduceMul,Int.reduceAdd,Int.reduceSub,Int.reduceMul,Int.reduceLT,Int.reduceLE,Int.reduceEq,Int.reduceToNat,Int.reduceNeg,Nat.reduceEqDiff,Nat.reduceBEq,Nat.reduceLT,xNm,xKh,hlt,hk,xAO,h1',g1]
structure Ed where
 a : Int
 b : Int
 p : Nat
 n : Nat
def e0 : Ed := ⟨0,0,0,0⟩
def xCX (e : Ed) : List AV := [.int .i64 e.a,.int .i64 e.b,.int .u8 (e.p : Nat),.int .u8 (e.n : Nat)]
def edges (l : List Ed) : List AV := rows xCX l
theorem xAa (l : List Ed) : (edges l).length = l.length * 4 := xTU (enc := xCX) (k := 4) (fun _ => rfl) l
theorem xAg {l : List Ed} {i : Nat} (h : i < l.length) : List.take 4 (List.drop (i * 4) (edges l)) = [.int .i64 (l.getD i e0).a,.int .i64 (l.getD i e0).b,.int .u8 ((l.getD i e0).p : Nat),.int .u8 ((l.getD i e0).n : Nat)] := by
 unfold edges
 rw [xKw (enc := xCX) (k := 4) (fun _ => rfl),List.drop_eq_getElem_cons h]
 have : l.getD i e0 = l[i] := by simp [List.getD,List.getElem?_eq_getElem h]
 rw [this]
 rfl
theorem xCV {l : List Ed} {i : Nat} (h : i < l.length) : l.drop i = l.getD i e0 :: l.drop (i + 1) := by
 rw [List.drop_eq_getElem_cons h]
 simp [List.getD,List.getElem?_eq_getElem h]
structure Aut where
 vars : Int
 states : Int
 z1 : Bool
 st : List Int
 z2 : Bool
 fi : List Int
 z3 : Bool
 ed : List Ed
abbrev Aut.cells (n : Aut) : List AV := [.int .i64 n.vars,.int .i64 n.states,iw n.z1 n.st,iw n.z2 n.fi,.sl n.z3 n.ed.length (edges n.ed)]
abbrev Aut.av (n : Aut) : AV := .agg n.cells
def xFK (v p n : Nat) : Int := if 2 ^ v ≤ p ||| n then 7 else if p &&& n = 0 then 0 else 2
theorem yEf {v : Nat} (hv : v ≤ 6) : IntKind.i64.wrap (1 * 2 ^ min v IntKind.i64.bits) = ((2 ^ v : Nat) : Int) := by
 have : v = 0 ∨ v = 1 ∨ v = 2 ∨ v = 3 ∨ v = 4 ∨ v = 5 ∨ v = 6 := by omega
 rcases this with rfl | rfl | rfl | rfl | rfl | rfl | rfl <;> rfl
theorem xYF (v p n : Nat) (hv : v ≤ 6) (hp : p < 256) (hn : n < 256) : L.pcall 59 [.agg [.int .u8 (p : Nat),.int .u8 (n : Nat)],.int .i64 (v : Nat)] = some (.int .i64 (xFK v p n)) := by
 have h1 := or8 hp hn
 have h2 := yEa hp hn
 have h3 : ¬ ((6 : Int) < (v : Nat)) := by omega
 have hor : p ||| n < 256 := by
  have := Nat.or_lt_two_pow (x := p) (y := n) (n := 8) (by omega) (by omega)
  omega
 have e1 : (((2 ^ v : Nat) : Int) ≤ ((p ||| n : Nat) : Int)) = (2 ^ v ≤ p ||| n) := propext ⟨fun h => by omega,fun h => by omega⟩
 have e2 : (((p &&& n : Nat) : Int) = 0) = (p &&& n = 0) := propext ⟨fun h => by omega,fun h => by omega⟩
 have hsh := yEf hv
 unfold xFK
 rw [yEE,a59,xAK]
 by_cases c1 : 2 ^ v ≤ p ||| n
 ·simp (maxSteps := 30000000) (disch := first | assumption | omega | (simp only [WL,AV.isCell] <;> omega) | rfl | decide) only [↓reduceIte,WB,xAR,xAc,xAQ,xAD,xAC,AV.cells,AV.isCell,xAb,xAj,xAk,xAs,xAt,xAu,xAv,xAw,xAx,xAL,xAy,xAz,xAl,xAA,xAm,xAn,xAB,xAo,xAp,xAf,Nat.reduceDiv,Nat.reduceMod,WP,xAI,xAF,xAX,xAW,xAV,xAG,xAH,xAE,W2,xAd,xAe,xAi,Nat.reduceAdd,Nat.reduceSub,Nat.reduceLeDiff,Nat.reduceMul,Int.reduceAdd,Int.reduceSub,Int.reduceMul,Int.reduceLT,Int.reduceLE,Int.reduceEq,Int.reduceToNat,Int.reduceNeg,Nat.reduceEqDiff,Nat.reduceBEq,Nat.reduceLT,h1,h2,h3,hsh,e1,e2,c1]
 ·by_cases c2 : p &&& n = 0 <;> simp (maxSteps := 30000000) (disch := first | assumption | omega | (simp only [WL,AV.isCell] <;> omega) | rfl | decide) only [↓reduceIte,WB,xAR,xAc,xAQ,xAD,xAC,AV.cells,AV.isCell,xAb,xAj,xAk,xAs,xAt,xAu,xAv,xAw,xAx,xAL,xAy,xAz,xAl,xAA,xAm,xAn,xAB,xAo,xAp,xAf,Nat.reduceDiv,Nat.reduceMod,WP,xAI,xAF,xAX,xAW,xAV,xAG,xAH,xAE,W2,xAd,xAe,xAi,Nat.reduceAdd,Nat.reduceSub,Nat.reduceLeDiff,Nat.reduceMul,Int.reduceAdd,Int.reduceSub,Int.reduceMul,Int.reduceLT,Int.reduceLE,Int.reduceEq,Int.reduceToNat,Int.reduceNeg,Nat.reduceEqDiff,Nat.reduceBEq,Nat.reduceLT,h1,h2,h3,hsh,e1,e2,c1,c2]
def xG9 (s : Int) : Int → List Int → Bool
 | _,[] => true
 | last,q :: t => if q ≤ last ∨ s ≤ q then false else xG9 s q t
theorem xNO {n : Aut} {z : Bool} {l : List Int} {s4 : AV} (hl : l.length < 1099511627776) : ∀ d i last,i + d = l.length →
  ∃ (last' : Int) (i' : Nat),L.loop xSl xZI ⟨xON (.ptr 0 0) s4 (.int .i64 last) (iw z l) (.int .i64 (l.length : Nat)) (.int .i64 (i : Nat)),[.cells false false n.cells]⟩ =
   some (if xG9 n.states last (l.drop i) = true then (.exit 0,⟨xON (.ptr 0 0) s4 (.int .i64 last') (iw z l) (.int .i64 (l.length : Nat)) (.int .i64 (l.length : Nat)),[.cells false false n.cells]⟩)
    else (.ret,⟨xON (.ptr 0 0) (.bool false) (.int .i64 last') (iw z l) (.int .i64 (l.length : Nat)) (.int .i64 (i' : Nat)),[.cells false false n.cells]⟩))
 | 0,i,last,h => by
  obtain rfl : i = l.length := by omega
  refine ⟨last,0,?_⟩
  rw [if_pos (by rw [List.drop_length]; rfl),xUK]
  simp (maxSteps := 30000000) (disch := first | assumption | omega | (simp only [WL,AV.isCell,xAa] <;> omega) | rfl | decide) only [↓reduceIte,WB,xAR,xAc,xAQ,xAD,xAC,AV.cells,AV.isCell,xAb,xAj,xAk,W2,xAd,xAe,xAi,Nat.reduceAdd,Nat.reduceSub,Nat.reduceLeDiff,Nat.reduceMul,Int.reduceAdd,Int.reduceSub,Int.reduceMul,Int.reduceLT,Int.reduceLE,Int.reduceEq,Int.reduceToNat,Int.reduceNeg,Nat.reduceEqDiff,Nat.reduceBEq,Nat.reduceLT,xAa,xAg,xNo,xNp]
 | d + 1,i,last,h => by
  have hlt : (i : Int) < (l.length : Nat) := by omega
  rw [xBz (by omega : i < l.length)]
  by_cases c1 : l.getD i 0 ≤ last
  ·refine ⟨last,i,?_⟩
   have ea : xG9 n.states last (l.getD i 0 :: l.drop (i + 1)) = false := if_pos (.inl c1)
   rw [ea,if_neg (by simp),xUK]
   simp (maxSteps := 30000000) (disch := first | assumption | omega | (simp only [WL,AV.isCell,xAa] <;> omega) | rfl | decide) only [↓reduceIte,WB,xAR,xAc,xAQ,xAD,xAC,AV.cells,AV.isCell,xAb,xAj,xAk,W2,xAd,xAe,xAi,Nat.reduceAdd,Nat.reduceSub,Nat.reduceLeDiff,Nat.reduceMul,Int.reduceAdd,Int.reduceSub,Int.reduceMul,Int.reduceLT,Int.reduceLE,Int.reduceEq,Int.reduceToNat,Int.reduceNeg,Nat.reduceEqDiff,Nat.reduceBEq,Nat.reduceLT,xAa,xAg,xNo,xNp,hlt,c1]
  ·by_cases c2 : n.states ≤ l.getD i 0
   ·refine ⟨last,i,?_⟩
    have ea : xG9 n.states last (l.getD i 0 :: l.drop (i + 1)) = false := if_pos (.inr c2)
    rw [ea,if_neg (by simp),xUK]
    simp (maxSteps := 30000000) (disch := first | assumption | omega | (simp only [WL,AV.isCell,xAa] <;> omega) | rfl | decide) only [↓reduceIte,WB,xAR,xAc,xAQ,xAD,xAC,AV.cells,AV.isCell,xAb,xAj,xAk,W2,xAd,xAe,xAi,Nat.reduceAdd,Nat.reduceSub,Nat.reduceLeDiff,Nat.reduceMul,Int.reduceAdd,Int.reduceSub,Int.reduceMul,Int.reduceLT,Int.reduceLE,Int.reduceEq,Int.reduceToNat,Int.reduceNeg,Nat.reduceEqDiff,Nat.reduceBEq,Nat.reduceLT,xAa,xAg,xNo,xNp,hlt,c1,c2]
   ·obtain ⟨last',i',ih⟩ := xNO (n := n) (z := z) (s4 := s4) hl d (i + 1) (l.getD i 0) (by omega)
    refine ⟨last',i',?_⟩
    have ea : xG9 n.states last (l.getD i 0 :: l.drop (i + 1)) = xG9 n.states (l.getD i 0) (l.drop (i + 1)) := if_neg (by omega)
    rw [ea,xUK]
    by_cases e : xG9 n.states (l.getD i 0) (l.drop (i + 1)) = true
    ·rw [if_pos e] at ih ⊢
     simp (maxSteps := 30000000) (disch := first | assumption | omega | (simp only [WL,AV.isCell,xAa] <;> omega) | rfl | decide) only [↓reduceIte,WB,xAR,xAc,xAQ,xAD,xAC,AV.cells,AV.isCell,xAb,xAj,xAk,W2,xAd,xAe,xAi,Nat.reduceAdd,Nat.reduceSub,Nat.reduceLeDiff,Nat.reduceMul,Int.reduceAdd,Int.reduceSub,Int.reduceMul,Int.reduceLT,Int.reduceLE,Int.reduceEq,Int.reduceToNat,Int.reduceNeg,Nat.reduceEqDiff,Nat.reduceBEq,Nat.reduceLT,xAa,xAg,xNo,xNp,hlt,c1,c2,ih]
    ·rw [if_neg e] at ih ⊢
     simp (maxSteps := 30000000) (disch := first | assumption | omega | (simp only [WL,AV.isCell,xAa] <;> omega) | rfl | decide) only [↓reduceIte,WB,xAR,xAc,xAQ,xAD,xAC,AV.cells,AV.isCell,xAb,xAj,xAk,W2,xAd,xAe,xAi,Nat.reduceAdd,Nat.reduceSub,Nat.reduceLeDiff,Nat.reduceMul,Int.reduceAdd,Int.reduceSub,Int.reduceMul,Int.reduceLT,Int.reduceLE,Int.reduceEq,Int.reduceToNat,Int.reduceNeg,Nat.reduceEqDiff,Nat.reduceBEq,Nat.reduceLT,xAa,xAg,xNo,xNp,hlt,c1,c2,ih]
theorem xS0 (n : Aut) (z : Bool) (l : List Int) (hl : l.length < 1099511627776) : L.pcall 58 [n.av,iw z l] = some (.bool (xG9 n.states (-1) l)) := by
 obtain ⟨last',i',h⟩ := xNO (n := n) (z := z) (s4 := .bool false) hl l.length 0 (-1) (by omega)
 simp only [Int.natCast_zero,List.drop_zero] at h
 rw [yED,a58,xAK]
 by_cases e : xG9 n.states (-1) l = true
 ·rw [if_pos e] at h
  rw [e]
  simp (maxSteps := 30000000) (disch := first | assumption | omega | (simp only [WL,AV.isCell,xAa] <;> omega) | rfl | decide) only [↓reduceIte,WB,xAR,xAc,xAQ,xAD,xAC,AV.cells,AV.isCell,xAb,xAj,xAk,W2,xAd,xAe,xAi,Nat.reduceAdd,Nat.reduceSub,Nat.reduceLeDiff,Nat.reduceMul,Int.reduceAdd,Int.reduceSub,Int.reduceMul,Int.reduceLT,Int.reduceLE,Int.reduceEq,Int.reduceToNat,Int.reduceNeg,Nat.reduceEqDiff,Nat.reduceBEq,Nat.reduceLT,xAa,xAg,xNp,h]
 ·rw [if_neg e] at h
  have e' : xG9 n.states (-1) l = false := by simpa using e
  rw [e']
  simp (maxSteps := 30000000) (disch := first | assumption | omega | (simp only [WL,AV.isCell,xAa] <;> omega) | rfl | decide) only [↓reduceIte,WB,xAR,xAc,xAQ,xAD,xAC,AV.cells,AV.isCell,xAb,xAj,xAk,W2,xAd,xAe,xAi,Nat.reduceAdd,Nat.reduceSub,Nat.reduceLeDiff,Nat.reduceMul,Int.reduceAdd,Int.reduceSub,Int.reduceMul,Int.reduceLT,Int.reduceLE,Int.reduceEq,Int.reduceToNat,Int.reduceNeg,Nat.reduceEqDiff,Nat.reduceBEq,Nat.reduceLT,xAa,xAg,xNp,h]
section
variable (n : Aut) (b : Nat) (H : Heap) {fz z : Bool} (hH : H[b]? = some (.cells fz z n.cells))
include hH
theorem c42 : L.icall (.func 54 [.ptr b 0]) [] H = some (.bool (decide (n.vars < 0) || decide (6 < n.vars)),H) := by
 rw [yEz,a54]
 by_cases c1 : n.vars < 0 <;> by_cases c2 : 6 < n.vars <;> simp (maxSteps := 30000000) (disch := first | assumption | omega | (simp only [WL,AV.isCell,xAa] <;> omega) | rfl | decide) only [↓reduceIte,WB,xAR,xAc,xAQ,xAD,xAC,AV.cells,AV.isCell,xAb,xAj,xAk,W2,xAd,xAe,xAi,Nat.reduceAdd,Nat.reduceSub,Nat.reduceLeDiff,Nat.reduceMul,Int.reduceAdd,Int.reduceSub,Int.reduceMul,Int.reduceLT,Int.reduceLE,Int.reduceEq,Int.reduceToNat,Int.reduceNeg,Nat.reduceEqDiff,Nat.reduceBEq,Nat.reduceLT,xAa,xAg,hH,c1,c2]
theorem c43 : L.icall (.func 55 [.ptr b 0]) [] H = some (.bool (decide (n.states < 0)),H) := by
 rw [yEA,a55]
 simp (maxSteps := 30000000) (disch := first | assumption | omega | (simp only [WL,AV.isCell,xAa] <;> omega) | rfl | decide) only [↓reduceIte,WB,xAR,xAc,xAQ,xAD,xAC,AV.cells,AV.isCell,xAb,xAj,xAk,W2,xAd,xAe,xAi,Nat.reduceAdd,Nat.reduceSub,Nat.reduceLeDiff,Nat.reduceMul,Int.reduceAdd,Int.reduceSub,Int.reduceMul,Int.reduceLT,Int.reduceLE,Int.reduceEq,Int.reduceToNat,Int.reduceNeg,Nat.reduceEqDiff,Nat.reduceBEq,Nat.reduceLT,xAa,xAg,hH]
theorem c44 : L.icall (.func 56 [.ptr b 0]) [] H = some (.bool (decide (64 < n.states) || decide (512 < n.ed.length)),H) := by
 have e : ((512 : Int) < (n.ed.length : Nat)) = (512 < n.ed.length) := propext ⟨fun h => by omega,fun h => by omega⟩
 rw [yEB,a56]
 by_cases c1 : 64 < n.states <;> by_cases c2 : 512 < n.ed.length <;> simp (maxSteps := 30000000) (disch := first | assumption | omega | (simp only [WL,AV.isCell,xAa] <;> omega) | rfl | decide) only [↓reduceIte,WB,xAR,xAc,xAQ,xAD,xAC,AV.cells,AV.isCell,xAb,xAj,xAk,W2,xAd,xAe,xAi,Nat.reduceAdd,Nat.reduceSub,Nat.reduceLeDiff,Nat.reduceMul,Int.reduceAdd,Int.reduceSub,Int.reduceMul,Int.reduceLT,Int.reduceLE,Int.reduceEq,Int.reduceToNat,Int.reduceNeg,Nat.reduceEqDiff,Nat.reduceBEq,Nat.reduceLT,xAa,xAg,hH,c1,c2,e]
theorem c45 (h1 : n.st.length < 1099511627776) (h2 : n.fi.length < 1099511627776) : L.icall (.func 57 [.ptr b 0]) [] H = some (.bool (!xG9 n.states (-1) n.st || !xG9 n.states (-1) n.fi),H) := by
 have e1 := xS0 n n.z1 n.st h1
 have e2 := xS0 n n.z2 n.fi h2
 rw [yEC,a57]
 cases c1 : xG9 n.states (-1) n.st <;> cases c2 : xG9 n.states (-1) n.fi <;> rw [c1] at e1 <;> rw [c2] at e2 <;> simp (maxSteps := 30000000) (disch := first | assumption | omega | (simp only [WL,AV.isCell,xAa] <;> omega) | rfl | decide) only [↓reduceIte,WB,xAR,xAc,xAQ,xAD,xAC,AV.cells,AV.isCell,xAb,xAj,xAk,W2,xAd,xAe,xAi,Nat.reduceAdd,Nat.reduceSub,Nat.reduceLeDiff,Nat.reduceMul,Int.reduceAdd,Int.reduceSub,Int.reduceMul,Int.reduceLT,Int.reduceLE,Int.reduceEq,Int.reduceToNat,Int.reduceNeg,Nat.reduceEqDiff,Nat.reduceBEq,Nat.reduceLT,xAa,xAg,hH,e1,e2]
end
def xHA (s : Int) (v : Nat) (e : Ed) : Int := if min e.a e.b < 0 ∨ s ≤ max e.a e.b then 8 else xFK v e.p e.n
def xCW (s : Int) (v : Nat) : List Ed → Int
 | [] => 0
 | e :: t => if xHA s v e = 0 then xCW s v t else xHA s v e
theorem xHa {s : Int} {v : Nat} {e : Ed} {t : List Ed} (h : xHA s v e ≠ 0) : xCW s v (e :: t) = xHA s v e := if_neg h
theorem xKv {s : Int} {v : Nat} {e : Ed} {t : List Ed} (h : xHA s v e = 0) : xCW s v (e :: t) = xCW s v t := if_pos h
theorem xFB {l : List Ed} {i : Nat} (h : i < l.length) : l.getD i e0 ∈ l := by
 rw [List.getD_eq_getElem?_getD,List.getElem?_eq_getElem h]
 exact List.getElem_mem _
theorem xPX {n : Aut} {v : Nat} {s2 : AV} (hv : v ≤ 6) (hnv : n.vars = (v : Nat)) (hl : n.ed.length < 1099511627776) (hb : ∀ e ∈ n.ed,e.p < 256 ∧ e.n < 256) : ∀ d i T,i + d = n.ed.length →
  ∃ (T' : Heap) (i' : Nat),L.loop xRL xZt ⟨xOv (.ptr 0 0) s2 (.sl n.z3 n.ed.length (edges n.ed)) (.int .i64 (n.ed.length : Nat)) (.int .i64 (i : Nat)),.cells false false n.cells :: T⟩ =
   some (if xCW n.states v (n.ed.drop i) = 0 then (.exit 2,⟨xOv (.ptr 0 0) s2 (.sl n.z3 n.ed.length (edges n.ed)) (.int .i64 (n.ed.length : Nat)) (.int .i64 (n.ed.length : Nat)),.cells false false n.cells :: T'⟩)
    else (.ret,⟨xOv (.ptr 0 0) (.int .i64 (xCW n.states v (n.ed.drop i))) (.sl n.z3 n.ed.length (edges n.ed)) (.int .i64 (n.ed.length : Nat)) (.int .i64 (i' : Nat)),.cells false false n.cells :: T'⟩))
 | 0,i,T,h => by
  obtain rfl : i = n.ed.length := by omega
  refine ⟨T,0,?_⟩
  rw [if_pos (by rw [List.drop_length]; rfl),xRM]
  simp (maxSteps := 30000000) (disch := first | assumption | omega | (simp only [WL,AV.isCell,xAa] <;> omega) | rfl | decide) only [↓reduceIte,WB,xAR,xAc,xAQ,xAD,xAC,AV.cells,AV.isCell,xAb,xAj,xAk,W2,xAd,xAe,xAi,Nat.reduceAdd,Nat.reduceSub,Nat.reduceLeDiff,Nat.reduceMul,Int.reduceAdd,Int.reduceSub,Int.reduceMul,Int.reduceLT,Int.reduceLE,Int.reduceEq,Int.reduceToNat,Int.reduceNeg,Nat.reduceEqDiff,Nat.reduceBEq,Nat.reduceLT,xAa,xAg,xL5,xL6]
 | d + 1,i,T,h => by
  have hlt : (i : Int) < (n.ed.length : Nat) := by omega
  have hm := hb _ (xFB (by omega : i < n.ed.length))
  have hcube := xYF v (n.ed.getD i e0).p (n.ed.getD i e0).n hv hm.1 hm.2
  rw [xCV (by omega : i < n.ed.length)]
  by_cases c1 : min (n.ed.getD i e0).a (n.ed.getD i e0).b < 0
  ·refine ⟨T ++ [.cells false false (xCX (n.ed.getD i e0))],i,?_⟩
   have ee : xHA n.states v (n.ed.getD i e0) = 8 := if_pos (.inl c1)
   rw [xHa (by rw [ee]; omega),ee,if_neg (by omega),xRM]
   simp (maxSteps := 30000000) (disch := first | assumption | omega | (simp only [WL,AV.isCell,xAa] <;> omega) | rfl | decide) only [↓reduceIte,WB,xAR,xAc,xAQ,xAD,xAC,AV.cells,AV.isCell,xAb,xAj,xAk,W2,xAd,xAe,xAi,Nat.reduceAdd,Nat.reduceSub,Nat.reduceLeDiff,Nat.reduceMul,Int.reduceAdd,Int.reduceSub,Int.reduceMul,Int.reduceLT,Int.reduceLE,Int.reduceEq,Int.reduceToNat,Int.reduceNeg,Nat.reduceEqDiff,Nat.reduceBEq,Nat.reduceLT,xAa,xAg,xL5,xL6,hlt,c1,xCX]
  ·by_cases c2 : n.states ≤ max (n.ed.getD i e0).a (n.ed.getD i e0).b
   ·refine ⟨T ++ [.cells false false (xCX (n.ed.getD i e0))],i,?_⟩
    have ee : xHA n.states v (n.ed.getD i e0) = 8 := if_pos (.inr c2)
    rw [xHa (by rw [ee]; omega),ee,if_neg (by omega),xRM]
    simp (maxSteps := 30000000) (disch := first | assumption | omega | (simp only [WL,AV.isCell,xAa] <;> omega) | rfl | decide) only [↓reduceIte,WB,xAR,xAc,xAQ,xAD,xAC,AV.cells,AV.isCell,xAb,xAj,xAk,W2,xAd,xAe,xAi,Nat.reduceAdd,Nat.reduceSub,Nat.reduceLeDiff,Nat.reduceMul,Int.reduceAdd,Int.reduceSub,Int.reduceMul,Int.reduceLT,Int.reduceLE,Int.reduceEq,Int.reduceToNat,Int.reduceNeg,Nat.reduceEqDiff,Nat.reduceBEq,Nat.reduceLT,xAa,xAg,xL5,xL6,hlt,c1,c2,xCX]
   ·have ee : xHA n.states v (n.ed.getD i e0) = xFK v (n.ed.getD i e0).p (n.ed.getD i e0).n := if_neg (by omega)
    by_cases c3 : xFK v (n.ed.getD i e0).p (n.ed.getD i e0).n = 0
    ·obtain ⟨T',i',ih⟩ := xPX (s2 := s2) hv hnv hl hb d (i + 1) (T ++ [.cells false false (xCX (n.ed.getD i e0))]) (by omega)
     refine ⟨T',i',?_⟩
     rw [c3] at hcube
     rw [xKv (by rw [ee]; exact c3),xRM]
     simp only [xCX] at ih
     by_cases e : xCW n.states v (n.ed.drop (i + 1)) = 0
     ·rw [if_pos e] at ih ⊢
      simp (maxSteps := 30000000) (disch := first | assumption | omega | (simp only [WL,AV.isCell,xAa] <;> omega) | rfl | decide) only [↓reduceIte,WB,xAR,xAc,xAQ,xAD,xAC,AV.cells,AV.isCell,xAb,xAj,xAk,W2,xAd,xAe,xAi,Nat.reduceAdd,Nat.reduceSub,Nat.reduceLeDiff,Nat.reduceMul,Int.reduceAdd,Int.reduceSub,Int.reduceMul,Int.reduceLT,Int.reduceLE,Int.reduceEq,Int.reduceToNat,Int.reduceNeg,Nat.reduceEqDiff,Nat.reduceBEq,Nat.reduceLT,xAa,xAg,xL5,xL6,hlt,c1,c2,hnv,hcube,ih]
     ·rw [if_neg e] at ih ⊢
      simp (maxSteps := 30000000) (disch := first | assumption | omega | (simp only [WL,AV.isCell,xAa] <;> omega) | rfl | decide) only [↓reduceIte,WB,xAR,xAc,xAQ,xAD,xAC,AV.cells,AV.isCell,xAb,xAj,xAk,W2,xAd,xAe,xAi,Nat.reduceAdd,Nat.reduceSub,Nat.reduceLeDiff,Nat.reduceMul,Int.reduceAdd,Int.reduceSub,Int.reduceMul,Int.reduceLT,Int.reduceLE,Int.reduceEq,Int.reduceToNat,Int.reduceNeg,Nat.reduceEqDiff,Nat.reduceBEq,Nat.reduceLT,xAa,xAg,xL5,xL6,hlt,c1,c2,hnv,hcube,ih]
    ·refine ⟨T ++ [.cells false false (xCX (n.ed.getD i e0))],i,?_⟩
     rw [xHa (by rw [ee]; exact c3),ee,if_neg c3,xRM]
     simp (maxSteps := 30000000) (disch := first | assumption | omega | (simp only [WL,AV.isCell,xAa] <;> omega) | rfl | decide) only [↓reduceIte,WB,xAR,xAc,xAQ,xAD,xAC,AV.cells,AV.isCell,xAb,xAj,xAk,W2,xAd,xAe,xAi,Nat.reduceAdd,Nat.reduceSub,Nat.reduceLeDiff,Nat.reduceMul,Int.reduceAdd,Int.reduceSub,Int.reduceMul,Int.reduceLT,Int.reduceLE,Int.reduceEq,Int.reduceToNat,Int.reduceNeg,Nat.reduceEqDiff,Nat.reduceBEq,Nat.reduceLT,xAa,xAg,xL5,xL6,hlt,c1,c2,c3,hnv,hcube,xCX]
structure Valid (n : Aut) : Prop where
 v0 : 0 ≤ n.vars
 v6 : n.vars ≤ 6
 s0 : 0 ≤ n.states
 s64 : n.states ≤ 64
 el : n.ed.length ≤ 512
 st : xG9 n.states (-1) n.st = true
 fi : xG9 n.states (-1) n.fi = true
 ed : xCW n.states n.vars.toNat n.ed = 0
structure Fits (n : Aut) : Prop where
 l1 : n.st.length < 1099511627776
 l2 : n.fi.length < 1099511627776
 l3 : n.ed.length < 1099511627776
 by_ : ∀ e ∈ n.ed,e.p < 256 ∧ e.n < 256
theorem yC7 (a b c d e f : Blk) (T : Heap) (k : Nat) (g : Blk → Blk) : (a :: b :: c :: d :: e :: f :: T).modify (k + 6) g = a :: b :: c :: d :: e :: f :: T.modify k g := rfl
theorem yBV {l : List Int} {z : Bool} (hl : l.length < 1099511627776) (hq : ∀ q ∈ l,0 ≤ q ∧ q < 4096) : ∃ u B r,xBw L 43 [iw z l] = some (u,B) ∧ OwnS u B r ∧ CanS r (fun j => l.contains (j : Int)) ∧ ∃ z',L.pcall 43 [iw z l] = some (sw z' r) := by
 obtain ⟨T',v',r',h1,h2,h3⟩ := xNN (z := z) hl hq l.length 0 [] (.sl true 0 []) [] _ (by omega) (.inl ⟨rfl,rfl⟩) xVf
 simp only [Int.natCast_zero] at h1
 have h3' := h3.congr (T := fun j => l.contains (j : Int)) (fun j => by simp)
 rcases h2 with ⟨rfl,rfl⟩ | ⟨k,x,rfl,hk⟩
 ·refine ⟨.sl true 0 [],[],[],?_,.inl ⟨rfl,rfl,rfl⟩,h3',true,?_⟩
  ·rw [xBk,yDW,a43,xA3]
   simp (maxSteps := 30000000) (disch := first | assumption | omega | (simp only [List.length_cons,List.length_nil,List.length_append,List.length_set,List.length_replicate,List.length_map,List.length_range,List.length_take,List.length_drop,List.all_cons,List.all_nil,AV.isCell,Bool.and_self,Bool.and_true,xBK,xBu,xBq,xAT,xAa] <;> omega) | rfl | decide) only [↓reduceIte,xKS,xC4,xF1,xIv,xF2,xIw,xIx,xEm,xF3,xC5,xCa,xEn,xC6,xEo,xCw,xEp,xF4,xF5,xF6,xF7,xIy,xEq,xIz,xF8,xIA,xKT,xF9,xGa,xEr,xC7,xGb,xGc,xIB,xKU,xKV,xGd,xIC,xGe,xEs,xC8,xEt,xKW,xKX,xID,xEu,xEv,xGf,xGg,xC9,xDa,xEw,xDb,xDc,xEx,apart,xAR,xDd,xCx,xEy,xEz,xGh,xIE,xIF,xEA,xGi,xEB,xDe,xCy,xDf,xGj,xGk,xIG,xOW,xEC,xKY,xOX,xIH,xGl,xII,xIJ,xGm,xGn,xKZ,xK0,xK1,xOY,xGo,xK2,xOZ,xGp,xDg,xIK,xIL,xGq,xGr,xED,xGs,xO0,xK3,xK4,xK5,xK6,xK7,xK8,xO1,xK9,xEE,xLa,xLb,xLc,xLd,xLe,xLf,xLg,xLh,xO2,xO3,xO4,xEF,xEG,xDh,xDi,xIM,xVW,xO5,xO6,xO7,xGt,xLi,xGu,xIN,xEH,xIO,xGv,xEI,xLj,xIP,xGw,xGx,xGy,xGz,xEJ,xDj,xIQ,xEK,xVX,xVY,xIR,xGA,xEL,xIS,xIT,xO9,xLk,xIU,xPa,xPb,xIV,xPc,xFt,xIW,xIX,xDk,xPd,xLl,xEM,xEN,xGB,xIY,xIZ,xLm,xLn,xGD,xGE,xJa,xGF,xGG,xLD,xJb,xDm,xJc,xDn,xDo,xES,xLE,xCz,xJd,xPr,xGH,xGI,xJe,xPs,xLF,xJf,xGJ,xLG,xGK,xPt,xPu,xJg,xVZ,xLH,xGL,xET,xJh,xJi,xJj,xJk,xPv,xPw,xPx,xPy,xLI,xLJ,xJl,xGM,xEU,xCA,xGN,xEV,xGO,xA3,xDq,xDr,xEW,xAK,xEX,xLK,xJm,xGP,xGQ,xGR,xJn,xGS,xGT,xGU,xDs,xIu,xBL,xCb,xBX,xCc,xBM,xCd,xCB,xCe,xEY,xEZ,List.zip_cons_cons,List.zip_nil_right,List.zip_nil_left,opv,adopt,xAc,quietCall,xAQ,xAD,fzIds,xAC,List.foldl_nil,List.foldl_cons,List.map_nil,List.map_cons,ite_self,Bool.not_true,Bool.not_false,Bool.or_true,Bool.true_or,Bool.false_or,Bool.or_false,List.length_cons,List.length_nil,List.length_append,List.append_assoc,pads,List.cons_append,List.nil_append,List.getD_cons_succ,List.getD_cons_zero,List.set_cons_succ,List.set_cons_zero,AV.cells,List.all_cons,List.all_nil,AV.isCell,Bool.and_self,Bool.and_true,Bool.true_and,Bool.and_false,Bool.false_and,if_true,if_false,Bool.false_eq_true,Bool.true_eq_false,Option.map_some,Option.map_none,splice,fillA,List.getElem?_cons_zero,List.getElem?_cons_succ,List.drop_zero,List.drop_succ_cons,List.take_succ_cons,List.take_zero,List.drop_nil,List.take_nil,Nat.zero_add,Nat.reduceAdd,Nat.reduceSub,Nat.reduceLeDiff,Nat.reduceMul,xHn,xI0,xLr,xI1,xI2,xLs,xI3,xPo,xLt,xLu,xAj,xEO,decide_true,decide_false,decide_eq_true_eq,decide_eq_false_iff_not,Bool.not_eq_true',Bool.not_eq_eq_eq_not,ne_eq,not_false_eq_true,not_true_eq_false,and_self,and_true,true_and,List.mapM_cons,List.mapM_nil,Option.pure_def,Option.bind_eq_bind,Option.bind_some,frzN,Nat.le_refl,List.append_nil,List.flatMap_nil,List.flatMap_cons,xFJ,xI4,xLv,xI5,xI6,xLw,xI7,xLz,xDl,xI9,xLy,xEP,xI8,xEQ,xLA,xPp,xLx,xGC,xPq,xLB,xLC,xAk,xER,xOU,xIs,List.isEmpty_nil,beq_self_eq_true,Nat.mul_one,Nat.add_zero,Nat.sub_zero,Int.toNat_natCast,Int.toNat_zero,Int.toNat_one,Int.reduceAdd,Int.reduceSub,Int.reduceMul,Int.reduceLT,Int.reduceLE,Int.reduceEq,Int.reduceToNat,Int.reduceNeg,Int.zero_add,Int.add_zero,Int.sub_zero,Int.natCast_zero,Int.natCast_one,Int.lt_irrefl,Int.zero_tmod,Nat.reduceEqDiff,Nat.reduceBEq,Nat.reduceLT,xBK,xH7,xH8,xOS,xOT,xFZ,xKQ,xNt,xBu,xD0,xD1,xIq,xIr,xFY,xHm,xAb,xKP,List.length_replicate,List.length_set,List.take_length,List.drop_length,xF0,xPe,xPf,xPg,xPh,xPi,xPj,xPk,xPl,xPm,xPn,xLo,xLp,xLq,xTy,xTz,xCm,xTB,yBp,xTA,yB3,xKO,yB4,xVU,yB5,xVV,xSw,xNX,yB6,xNP,yAD,xDt,xJo,xDu,xJp,xGV,xLL,xLM,xGW,xE0,xJq,xGX,xGY,xE1,xJr,xGZ,xG0,xG1,xE2,xJs,xE3,xDv,xG2,xDw,xDx,xDy,xE4,xG3,xE5,xG4,xDz,xE8,xDC,xCC,xDD,xDE,xJt,xE9,xCD,xFa,xDF,xDG,xDH,xDI,xDJ,xDK,xDL,xFb,xDM,xCE,xDN,xCf,xFc,xFd,xCF,xG5,xDO,xCg,xCG,xCH,xCI,xCJ,xFe,xFf,xFg,xFh,xDP,xCK,xDQ,xDR,xDS,xCL,AOp.args,xAI,xAF,xAX,xAW,xAV,xAG,xAH,xAE,adoptL,xE6,xDA,xPz,xE7,xDB,xFC,xOV,xLR,xIt,xAs,xAt,xAu,xAv,xAw,xAx,xAL,xAy,xAz,xAl,xAA,xAm,xAn,xAB,xAo,xAp,xAf,Nat.reduceDiv,Nat.reduceMod,xBq,xAd,xAe,xIg,xAi,xJv,xLP,xJX,xIh,xLQ,xAT,xD2,xFx,xHs,xJw,xHb,xCh,xJx,xBA,xJy,xFj,xNZ,xFk,xJz,xJA,xJB,xAa,xAg,xAO,yC7,xKh,h1]
  ·rw [yDV,a43,xAK]
   simp (maxSteps := 30000000) (disch := first | assumption | omega | (simp only [List.length_cons,List.length_nil,List.length_append,List.length_set,List.length_replicate,List.length_map,List.length_range,List.length_take,List.length_drop,List.all_cons,List.all_nil,AV.isCell,Bool.and_self,Bool.and_true,xBK,xBu,xBq,xAT,xAa] <;> omega) | rfl | decide) only [↓reduceIte,xKS,xC4,xF1,xIv,xF2,xIw,xIx,xEm,xF3,xC5,xCa,xEn,xC6,xEo,xCw,xEp,xF4,xF5,xF6,xF7,xIy,xEq,xIz,xF8,xIA,xKT,xF9,xGa,xEr,xC7,xGb,xGc,xIB,xKU,xKV,xGd,xIC,xGe,xEs,xC8,xEt,xKW,xKX,xID,xEu,xEv,xGf,xGg,xC9,xDa,xEw,xDb,xDc,xEx,apart,xAR,xDd,xCx,xEy,xEz,xGh,xIE,xIF,xEA,xGi,xEB,xDe,xCy,xDf,xGj,xGk,xIG,xOW,xEC,xKY,xOX,xIH,xGl,xII,xIJ,xGm,xGn,xKZ,xK0,xK1,xOY,xGo,xK2,xOZ,xGp,xDg,xIK,xIL,xGq,xGr,xED,xGs,xO0,xK3,xK4,xK5,xK6,xK7,xK8,xO1,xK9,xEE,xLa,xLb,xLc,xLd,xLe,xLf,xLg,xLh,xO2,xO3,xO4,xEF,xEG,xDh,xDi,xIM,xVW,xO5,xO6,xO7,xGt,xLi,xGu,xIN,xEH,xIO,xGv,xEI,xLj,xIP,xGw,xGx,xGy,xGz,xEJ,xDj,xIQ,xEK,xVX,xVY,xIR,xGA,xEL,xIS,xIT,xO9,xLk,xIU,xPa,xPb,xIV,xPc,xFt,xIW,xIX,xDk,xPd,xLl,xEM,xEN,xGB,xIY,xIZ,xLm,xLn,xGD,xGE,xJa,xGF,xGG,xLD,xJb,xDm,xJc,xDn,xDo,xES,xLE,xCz,xJd,xPr,xGH,xGI,xJe,xPs,xLF,xJf,xGJ,xLG,xGK,xPt,xPu,xJg,xVZ,xLH,xGL,xET,xJh,xJi,xJj,xJk,xPv,xPw,xPx,xPy,xLI,xLJ,xJl,xGM,xEU,xCA,xGN,xEV,xGO,xA3,xDq,xDr,xEW,xAK,xEX,xLK,xJm,xGP,xGQ,xGR,xJn,xGS,xGT,xGU,xDs,xIu,xBL,xCb,xBX,xCc,xBM,xCd,xCB,xCe,xEY,xEZ,List.zip_cons_cons,List.zip_nil_right,List.zip_nil_left,opv,adopt,xAc,quietCall,xAQ,xAD,fzIds,xAC,List.foldl_nil,List.foldl_cons,List.map_nil,List.map_cons,ite_self,Bool.not_true,Bool.not_false,Bool.or_true,Bool.true_or,Bool.false_or,Bool.or_false,List.length_cons,List.length_nil,List.length_append,List.append_assoc,pads,List.cons_append,List.nil_append,List.getD_cons_succ,List.getD_cons_zero,List.set_cons_succ,List.set_cons_zero,AV.cells,List.all_cons,List.all_nil,AV.isCell,Bool.and_self,Bool.and_true,Bool.true_and,Bool.and_false,Bool.false_and,if_true,if_false,Bool.false_eq_true,Bool.true_eq_false,Option.map_some,Option.map_none,splice,fillA,List.getElem?_cons_zero,List.getElem?_cons_succ,List.drop_zero,List.drop_succ_cons,List.take_succ_cons,List.take_zero,List.drop_nil,List.take_nil,Nat.zero_add,Nat.reduceAdd,Nat.reduceSub,Nat.reduceLeDiff,Nat.reduceMul,xHn,xI0,xLr,xI1,xI2,xLs,xI3,xPo,xLt,xLu,xAj,xEO,decide_true,decide_false,decide_eq_true_eq,decide_eq_false_iff_not,Bool.not_eq_true',Bool.not_eq_eq_eq_not,ne_eq,not_false_eq_true,not_true_eq_false,and_self,and_true,true_and,List.mapM_cons,List.mapM_nil,Option.pure_def,Option.bind_eq_bind,Option.bind_some,frzN,Nat.le_refl,List.append_nil,List.flatMap_nil,List.flatMap_cons,xFJ,xI4,xLv,xI5,xI6,xLw,xI7,xLz,xDl,xI9,xLy,xEP,xI8,xEQ,xLA,xPp,xLx,xGC,xPq,xLB,xLC,xAk,xER,xOU,xIs,List.isEmpty_nil,beq_self_eq_true,Nat.mul_one,Nat.add_zero,Nat.sub_zero,Int.toNat_natCast,Int.toNat_zero,Int.toNat_one,Int.reduceAdd,Int.reduceSub,Int.reduceMul,Int.reduceLT,Int.reduceLE,Int.reduceEq,Int.reduceToNat,Int.reduceNeg,Int.zero_add,Int.add_zero,Int.sub_zero,Int.natCast_zero,Int.natCast_one,Int.lt_irrefl,Int.zero_tmod,Nat.reduceEqDiff,Nat.reduceBEq,Nat.reduceLT,xBK,xH7,xH8,xOS,xOT,xFZ,xKQ,xNt,xBu,xD0,xD1,xIq,xIr,xFY,xHm,xAb,xKP,List.length_replicate,List.length_set,List.take_length,List.drop_length,xF0,xPe,xPf,xPg,xPh,xPi,xPj,xPk,xPl,xPm,xPn,xLo,xLp,xLq,xTy,xTz,xCm,xTB,yBp,xTA,yB3,xKO,yB4,xVU,yB5,xVV,xSw,xNX,yB6,xNP,yAD,xDt,xJo,xDu,xJp,xGV,xLL,xLM,xGW,xE0,xJq,xGX,xGY,xE1,xJr,xGZ,xG0,xG1,xE2,xJs,xE3,xDv,xG2,xDw,xDx,xDy,xE4,xG3,xE5,xG4,xDz,xE8,xDC,xCC,xDD,xDE,xJt,xE9,xCD,xFa,xDF,xDG,xDH,xDI,xDJ,xDK,xDL,xFb,xDM,xCE,xDN,xCf,xFc,xFd,xCF,xG5,xDO,xCg,xCG,xCH,xCI,xCJ,xFe,xFf,xFg,xFh,xDP,xCK,xDQ,xDR,xDS,xCL,AOp.args,xAI,xAF,xAX,xAW,xAV,xAG,xAH,xAE,adoptL,xE6,xDA,xPz,xE7,xDB,xFC,xOV,xLR,xIt,xAs,xAt,xAu,xAv,xAw,xAx,xAL,xAy,xAz,xAl,xAA,xAm,xAn,xAB,xAo,xAp,xAf,Nat.reduceDiv,Nat.reduceMod,xBq,xAd,xAe,xIg,xAi,xJv,xLP,xJX,xIh,xLQ,xAT,xD2,xFx,xHs,xJw,xHb,xCh,xJx,xBA,xJy,xFj,xNZ,xFk,xJz,xJA,xJB,xAa,xAg,xAO,yC7,xKh,h1]
   try rfl
 ·simp only [Nat.add_zero] at h1
  refine ⟨_,_,r',?_,.inr ⟨x,rfl,rfl⟩,h3',false,?_⟩
  ·rw [xBk,yDW,a43,xA3]
   simp (maxSteps := 30000000) (disch := first | assumption | omega | (simp only [List.length_cons,List.length_nil,List.length_append,List.length_set,List.length_replicate,List.length_map,List.length_range,List.length_take,List.length_drop,List.all_cons,List.all_nil,AV.isCell,Bool.and_self,Bool.and_true,xBK,xBu,xBq,xAT,xAa] <;> omega) | rfl | decide) only [↓reduceIte,xKS,xC4,xF1,xIv,xF2,xIw,xIx,xEm,xF3,xC5,xCa,xEn,xC6,xEo,xCw,xEp,xF4,xF5,xF6,xF7,xIy,xEq,xIz,xF8,xIA,xKT,xF9,xGa,xEr,xC7,xGb,xGc,xIB,xKU,xKV,xGd,xIC,xGe,xEs,xC8,xEt,xKW,xKX,xID,xEu,xEv,xGf,xGg,xC9,xDa,xEw,xDb,xDc,xEx,apart,xAR,xDd,xCx,xEy,xEz,xGh,xIE,xIF,xEA,xGi,xEB,xDe,xCy,xDf,xGj,xGk,xIG,xOW,xEC,xKY,xOX,xIH,xGl,xII,xIJ,xGm,xGn,xKZ,xK0,xK1,xOY,xGo,xK2,xOZ,xGp,xDg,xIK,xIL,xGq,xGr,xED,xGs,xO0,xK3,xK4,xK5,xK6,xK7,xK8,xO1,xK9,xEE,xLa,xLb,xLc,xLd,xLe,xLf,xLg,xLh,xO2,xO3,xO4,xEF,xEG,xDh,xDi,xIM,xVW,xO5,xO6,xO7,xGt,xLi,xGu,xIN,xEH,xIO,xGv,xEI,xLj,xIP,xGw,xGx,xGy,xGz,xEJ,xDj,xIQ,xEK,xVX,xVY,xIR,xGA,xEL,xIS,xIT,xO9,xLk,xIU,xPa,xPb,xIV,xPc,xFt,xIW,xIX,xDk,xPd,xLl,xEM,xEN,xGB,xIY,xIZ,xLm,xLn,xGD,xGE,xJa,xGF,xGG,xLD,xJb,xDm,xJc,xDn,xDo,xES,xLE,xCz,xJd,xPr,xGH,xGI,xJe,xPs,xLF,xJf,xGJ,xLG,xGK,xPt,xPu,xJg,xVZ,xLH,xGL,xET,xJh,xJi,xJj,xJk,xPv,xPw,xPx,xPy,xLI,xLJ,xJl,xGM,xEU,xCA,xGN,xEV,xGO,xA3,xDq,xDr,xEW,xAK,xEX,xLK,xJm,xGP,xGQ,xGR,xJn,xGS,xGT,xGU,xDs,xIu,xBL,xCb,xBX,xCc,xBM,xCd,xCB,xCe,xEY,xEZ,List.zip_cons_cons,List.zip_nil_right,List.zip_nil_left,opv,adopt,xAc,quietCall,xAQ,xAD,fzIds,xAC,List.foldl_nil,List.foldl_cons,List.map_nil,List.map_cons,ite_self,Bool.not_true,Bool.not_false,Bool.or_true,Bool.true_or,Bool.false_or,Bool.or_false,List.length_cons,List.length_nil,List.length_append,List.append_assoc,pads,List.cons_append,List.nil_append,List.getD_cons_succ,List.getD_cons_zero,List.set_cons_succ,List.set_cons_zero,AV.cells,List.all_cons,List.all_nil,AV.isCell,Bool.and_self,Bool.and_true,Bool.true_and,Bool.and_false,Bool.false_and,if_true,if_false,Bool.false_eq_true,Bool.true_eq_false,Option.map_some,Option.map_none,splice,fillA,List.getElem?_cons_zero,List.getElem?_cons_succ,List.drop_zero,List.drop_succ_cons,List.take_succ_cons,List.take_zero,List.drop_nil,List.take_nil,Nat.zero_add,Nat.reduceAdd,Nat.reduceSub,Nat.reduceLeDiff,Nat.reduceMul,xHn,xI0,xLr,xI1,xI2,xLs,xI3,xPo,xLt,xLu,xAj,xEO,decide_true,decide_false,decide_eq_true_eq,decide_eq_false_iff_not,Bool.not_eq_true',Bool.not_eq_eq_eq_not,ne_eq,not_false_eq_true,not_true_eq_false,and_self,and_true,true_and,List.mapM_cons,List.mapM_nil,Option.pure_def,Option.bind_eq_bind,Option.bind_some,frzN,Nat.le_refl,List.append_nil,List.flatMap_nil,List.flatMap_cons,xFJ,xI4,xLv,xI5,xI6,xLw,xI7,xLz,xDl,xI9,xLy,xEP,xI8,xEQ,xLA,xPp,xLx,xGC,xPq,xLB,xLC,xAk,xER,xOU,xIs,List.isEmpty_nil,beq_self_eq_true,Nat.mul_one,Nat.add_zero,Nat.sub_zero,Int.toNat_natCast,Int.toNat_zero,Int.toNat_one,Int.reduceAdd,Int.reduceSub,Int.reduceMul,Int.reduceLT,Int.reduceLE,Int.reduceEq,Int.reduceToNat,Int.reduceNeg,Int.zero_add,Int.add_zero,Int.sub_zero,Int.natCast_zero,Int.natCast_one,Int.lt_irrefl,Int.zero_tmod,Nat.reduceEqDiff,Nat.reduceBEq,Nat.reduceLT,xBK,xH7,xH8,xOS,xOT,xFZ,xKQ,xNt,xBu,xD0,xD1,xIq,xIr,xFY,xHm,xAb,xKP,List.length_replicate,List.length_set,List.take_length,List.drop_length,xF0,xPe,xPf,xPg,xPh,xPi,xPj,xPk,xPl,xPm,xPn,xLo,xLp,xLq,xTy,xTz,xCm,xTB,yBp,xTA,yB3,xKO,yB4,xVU,yB5,xVV,xSw,xNX,yB6,xNP,yAD,xDt,xJo,xDu,xJp,xGV,xLL,xLM,xGW,xE0,xJq,xGX,xGY,xE1,xJr,xGZ,xG0,xG1,xE2,xJs,xE3,xDv,xG2,xDw,xDx,xDy,xE4,xG3,xE5,xG4,xDz,xE8,xDC,xCC,xDD,xDE,xJt,xE9,xCD,xFa,xDF,xDG,xDH,xDI,xDJ,xDK,xDL,xFb,xDM,xCE,xDN,xCf,xFc,xFd,xCF,xG5,xDO,xCg,xCG,xCH,xCI,xCJ,xFe,xFf,xFg,xFh,xDP,xCK,xDQ,xDR,xDS,xCL,AOp.args,xAI,xAF,xAX,xAW,xAV,xAG,xAH,xAE,adoptL,xE6,xDA,xPz,xE7,xDB,xFC,xOV,xLR,xIt,xAs,xAt,xAu,xAv,xAw,xAx,xAL,xAy,xAz,xAl,xAA,xAm,xAn,xAB,xAo,xAp,xAf,Nat.reduceDiv,Nat.reduceMod,xBq,xAd,xAe,xIg,xAi,xJv,xLP,xJX,xIh,xLQ,xAT,xD2,xFx,xHs,xJw,xHb,xCh,xJx,xBA,xJy,xFj,xNZ,xFk,xJz,xJA,xJB,xAa,xAg,xAO,yC7,xKh,h1,hk]
  ·rw [yDV,a43,xAK]
   simp (maxSteps := 30000000) (disch := first | assumption | omega | (simp only [List.length_cons,List.length_nil,List.length_append,List.length_set,List.length_replicate,List.length_map,List.length_range,List.length_take,List.length_drop,List.all_cons,List.all_nil,AV.isCell,Bool.and_self,Bool.and_true,xBK,xBu,xBq,xAT,xAa] <;> omega) | rfl | decide) only [↓reduceIte,xKS,xC4,xF1,xIv,xF2,xIw,xIx,xEm,xF3,xC5,xCa,xEn,xC6,xEo,xCw,xEp,xF4,xF5,xF6,xF7,xIy,xEq,xIz,xF8,xIA,xKT,xF9,xGa,xEr,xC7,xGb,xGc,xIB,xKU,xKV,xGd,xIC,xGe,xEs,xC8,xEt,xKW,xKX,xID,xEu,xEv,xGf,xGg,xC9,xDa,xEw,xDb,xDc,xEx,apart,xAR,xDd,xCx,xEy,xEz,xGh,xIE,xIF,xEA,xGi,xEB,xDe,xCy,xDf,xGj,xGk,xIG,xOW,xEC,xKY,xOX,xIH,xGl,xII,xIJ,xGm,xGn,xKZ,xK0,xK1,xOY,xGo,xK2,xOZ,xGp,xDg,xIK,xIL,xGq,xGr,xED,xGs,xO0,xK3,xK4,xK5,xK6,xK7,xK8,xO1,xK9,xEE,xLa,xLb,xLc,xLd,xLe,xLf,xLg,xLh,xO2,xO3,xO4,xEF,xEG,xDh,xDi,xIM,xVW,xO5,xO6,xO7,xGt,xLi,xGu,xIN,xEH,xIO,xGv,xEI,xLj,xIP,xGw,xGx,xGy,xGz,xEJ,xDj,xIQ,xEK,xVX,xVY,xIR,xGA,xEL,xIS,xIT,xO9,xLk,xIU,xPa,xPb,xIV,xPc,xFt,xIW,xIX,xDk,xPd,xLl,xEM,xEN,xGB,xIY,xIZ,xLm,xLn,xGD,xGE,xJa,xGF,xGG,xLD,xJb,xDm,xJc,xDn,xDo,xES,xLE,xCz,xJd,xPr,xGH,xGI,xJe,xPs,xLF,xJf,xGJ,xLG,xGK,xPt,xPu,xJg,xVZ,xLH,xGL,xET,xJh,xJi,xJj,xJk,xPv,xPw,xPx,xPy,xLI,xLJ,xJl,xGM,xEU,xCA,xGN,xEV,xGO,xA3,xDq,xDr,xEW,xAK,xEX,xLK,xJm,xGP,xGQ,xGR,xJn,xGS,xGT,xGU,xDs,xIu,xBL,xCb,xBX,xCc,xBM,xCd,xCB,xCe,xEY,xEZ,List.zip_cons_cons,List.zip_nil_right,List.zip_nil_left,opv,adopt,xAc,quietCall,xAQ,xAD,fzIds,xAC,List.foldl_nil,List.foldl_cons,List.map_nil,List.map_cons,ite_self,Bool.not_true,Bool.not_false,Bool.or_true,Bool.true_or,Bool.false_or,Bool.or_false,List.length_cons,List.length_nil,List.length_append,List.append_assoc,pads,List.cons_append,List.nil_append,List.getD_cons_succ,List.getD_cons_zero,List.set_cons_succ,List.set_cons_zero,AV.cells,List.all_cons,List.all_nil,AV.isCell,Bool.and_self,Bool.and_true,Bool.true_and,Bool.and_false,Bool.false_and,if_true,if_false,Bool.false_eq_true,Bool.true_eq_false,Option.map_some,Option.map_none,splice,fillA,List.getElem?_cons_zero,List.getElem?_cons_succ,List.drop_zero,List.drop_succ_cons,List.take_succ_cons,List.take_zero,List.drop_nil,List.take_nil,Nat.zero_add,Nat.reduceAdd,Nat.reduceSub,Nat.reduceLeDiff,Nat.reduceMul,xHn,xI0,xLr,xI1,xI2,xLs,xI3,xPo,xLt,xLu,xAj,xEO,decide_true,decide_false,decide_eq_true_eq,decide_eq_false_iff_not,Bool.not_eq_true',Bool.not_eq_eq_eq_not,ne_eq,not_false_eq_true,not_true_eq_false,and_self,and_true,true_and,List.mapM_cons,List.mapM_nil,Option.pure_def,Option.bind_eq_bind,Option.bind_some,frzN,Nat.le_refl,List.append_nil,List.flatMap_nil,List.flatMap_cons,xFJ,xI4,xLv,xI5,xI6,xLw,xI7,xLz,xDl,xI9,xLy,xEP,xI8,xEQ,xLA,xPp,xLx,xGC,xPq,xLB,xLC,xAk,xER,xOU,xIs,List.isEmpty_nil,beq_self_eq_true,Nat.mul_one,Nat.add_zero,Nat.sub_zero,Int.toNat_natCast,Int.toNat_zero,Int.toNat_one,Int.reduceAdd,Int.reduceSub,Int.reduceMul,Int.reduceLT,Int.reduceLE,Int.reduceEq,Int.reduceToNat,Int.reduceNeg,Int.zero_add,Int.add_zero,Int.sub_zero,Int.natCast_zero,Int.natCast_one,Int.lt_irrefl,Int.zero_tmod,Nat.reduceEqDiff,Nat.reduceBEq,Nat.reduceLT,xBK,xH7,xH8,xOS,xOT,xFZ,xKQ,xNt,xBu,xD0,xD1,xIq,xIr,xFY,xHm,xAb,xKP,List.length_replicate,List.length_set,List.take_length,List.drop_length,xF0,xPe,xPf,xPg,xPh,xPi,xPj,xPk,xPl,xPm,xPn,xLo,xLp,xLq,xTy,xTz,xCm,xTB,yBp,xTA,yB3,xKO,yB4,xVU,yB5,xVV,xSw,xNX,yB6,xNP,yAD,xDt,xJo,xDu,xJp,xGV,xLL,xLM,xGW,xE0,xJq,xGX,xGY,xE1,xJr,xGZ,xG0,xG1,xE2,xJs,xE3,xDv,xG2,xDw,xDx,xDy,xE4,xG3,xE5,xG4,xDz,xE8,xDC,xCC,xDD,xDE,xJt,xE9,xCD,xFa,xDF,xDG,xDH,xDI,xDJ,xDK,xDL,xFb,xDM,xCE,xDN,xCf,xFc,xFd,xCF,xG5,xDO,xCg,xCG,xCH,xCI,xCJ,xFe,xFf,xFg,xFh,xDP,xCK,xDQ,xDR,xDS,xCL,AOp.args,xAI,xAF,xAX,xAW,xAV,xAG,xAH,xAE,adoptL,xE6,xDA,xPz,xE7,xDB,xFC,xOV,xLR,xIt,xAs,xAt,xAu,xAv,xAw,xAx,xAL,xAy,xAz,xAl,xAA,xAm,xAn,xAB,xAo,xAp,xAf,Nat.reduceDiv,Nat.reduceMod,xBq,xAd,xAe,xIg,xAi,xJv,xLP,xJX,xIh,xLQ,xAT,xD2,xFx,xHs,xJw,xHb,xCh,xJx,xBA,xJy,xFj,xNZ,xFk,xJz,xJA,xJB,xAa,xAg,xAO,yC7,xKh,h1,hk]
section
variable (s0 s1 s2 s3 s5 s7 s8 s9 s10 s11 s12 s13 s14 s15 s16 s17 s18 s19 s20 : AV)
def yCU (l : List Ed) : Prop := ∀ e ∈ l,(0 ≤ e.a ∧ e.a < 4096) ∧ (0 ≤ e.b ∧ e.b < 4096) ∧ e.p < 256 ∧ e.n < 256
theorem OwnT.keep {b : Nat} {T : Heap} {v : AV} {l : List Nat} (h : OwnT b T v l) (x : Blk) : OwnT b (T ++ [x]) v l := by
 rcases h with h | ⟨k,r,e1,e2⟩
 ·exact .inl h
 ·exact .inr ⟨k,r,e1,by rw [List.getElem?_append_left (List.getElem?_eq_some_iff.1 e2).1,e2]⟩
end
def xHc (n : Aut) : Int :=
 if (decide (n.vars < 0) || decide (6 < n.vars)) = true then 7 else if n.states < 0 then 1 else if (decide (64 < n.states) || decide (512 < n.ed.length)) = true then 4
 else if (!xG9 n.states (-1) n.st || !xG9 n.states (-1) n.fi) = true then 8 else xCW n.states n.vars.toNat n.ed
set_option maxHeartbeats 4000000 in
theorem xB7 (n : Aut) (hf : Fits n) : L.pcall 26 [n.av] = some (.int .i64 (xHc n)) ∧ (xHc n = 0 ↔ Valid n) := by
 have k1 := fun T => c42 n 0 (.cells false false n.cells :: T) (fz := false) (z := false) rfl
 have k2 := fun T => c43 n 0 (.cells false false n.cells :: T) (fz := false) (z := false) rfl
 have k3 := fun T => c44 n 0 (.cells false false n.cells :: T) (fz := false) (z := false) rfl
 have k4 := fun T => c45 n 0 (.cells false false n.cells :: T) (fz := false) (z := false) rfl hf.l1 hf.l2
 by_cases d1 : (decide (n.vars < 0) || decide (6 < n.vars)) = true
 ·rw [show xHc n = 7 from if_pos d1]
  refine ⟨?_,⟨fun h => by omega,fun h => ?_⟩⟩
  ·rw [yB2,a26,xAK]
   simp (maxSteps := 30000000) (disch := first | assumption | omega | (simp only [WL,AV.isCell,xAa] <;> omega) | rfl | decide) only [↓reduceIte,WB,xAR,xAc,xAQ,xAD,xAC,AV.cells,AV.isCell,xAb,xAj,xAk,xAs,xAt,xAu,xAv,xAw,xAx,xAL,xAy,xAz,xAl,xAA,xAm,xAn,xAB,xAo,xAp,xAf,Nat.reduceDiv,Nat.reduceMod,WP,xAI,xAF,xAX,xAW,xAV,xAG,xAH,xAE,W2,xAd,xAe,xAi,Nat.reduceAdd,Nat.reduceSub,Nat.reduceLeDiff,Nat.reduceMul,Int.reduceAdd,Int.reduceSub,Int.reduceMul,Int.reduceLT,Int.reduceLE,Int.reduceEq,Int.reduceToNat,Int.reduceNeg,Nat.reduceEqDiff,Nat.reduceBEq,Nat.reduceLT,xAa,xAg,xAO,xOt,xOu,xL4,k1,d1]
  ·have := h.v0; have := h.v6; simp at d1; omega
 have d1' : (decide (n.vars < 0) || decide (6 < n.vars)) = false := by simpa using d1
 by_cases d2 : n.states < 0
 ·rw [show xHc n = 1 from by unfold xHc; rw [if_neg d1,if_pos d2]]
  refine ⟨?_,⟨fun h => by omega,fun h => ?_⟩⟩
  ·rw [yB2,a26,xAK]
   simp (maxSteps := 30000000) (disch := first | assumption | omega | (simp only [WL,AV.isCell,xAa] <;> omega) | rfl | decide) only [↓reduceIte,WB,xAR,xAc,xAQ,xAD,xAC,AV.cells,AV.isCell,xAb,xAj,xAk,xAs,xAt,xAu,xAv,xAw,xAx,xAL,xAy,xAz,xAl,xAA,xAm,xAn,xAB,xAo,xAp,xAf,Nat.reduceDiv,Nat.reduceMod,WP,xAI,xAF,xAX,xAW,xAV,xAG,xAH,xAE,W2,xAd,xAe,xAi,Nat.reduceAdd,Nat.reduceSub,Nat.reduceLeDiff,Nat.reduceMul,Int.reduceAdd,Int.reduceSub,Int.reduceMul,Int.reduceLT,Int.reduceLE,Int.reduceEq,Int.reduceToNat,Int.reduceNeg,Nat.reduceEqDiff,Nat.reduceBEq,Nat.reduceLT,xAa,xAg,xAO,xOt,xOu,xL4,k1,d1',k2,d2]
  ·have := h.s0; omega
 by_cases d3 : (decide (64 < n.states) || decide (512 < n.ed.length)) = true
 ·rw [show xHc n = 4 from by unfold xHc; rw [if_neg d1,if_neg d2,if_pos d3]]
  refine ⟨?_,⟨fun h => by omega,fun h => ?_⟩⟩
  ·rw [yB2,a26,xAK]
   simp (maxSteps := 30000000) (disch := first | assumption | omega | (simp only [WL,AV.isCell,xAa] <;> omega) | rfl | decide) only [↓reduceIte,WB,xAR,xAc,xAQ,xAD,xAC,AV.cells,AV.isCell,xAb,xAj,xAk,xAs,xAt,xAu,xAv,xAw,xAx,xAL,xAy,xAz,xAl,xAA,xAm,xAn,xAB,xAo,xAp,xAf,Nat.reduceDiv,Nat.reduceMod,WP,xAI,xAF,xAX,xAW,xAV,xAG,xAH,xAE,W2,xAd,xAe,xAi,Nat.reduceAdd,Nat.reduceSub,Nat.reduceLeDiff,Nat.reduceMul,Int.reduceAdd,Int.reduceSub,Int.reduceMul,Int.reduceLT,Int.reduceLE,Int.reduceEq,Int.reduceToNat,Int.reduceNeg,Nat.reduceEqDiff,Nat.reduceBEq,Nat.reduceLT,xAa,xAg,xAO,xOt,xOu,xL4,k1,d1',k2,d2,k3,d3]
  ·have := h.s64; have := h.el; simp at d3; omega
 have d3' : (decide (64 < n.states) || decide (512 < n.ed.length)) = false := by simpa using d3
 by_cases d4 : (!xG9 n.states (-1) n.st || !xG9 n.states (-1) n.fi) = true
 ·rw [show xHc n = 8 from by unfold xHc; rw [if_neg d1,if_neg d2,if_neg d3,if_pos d4]]
  refine ⟨?_,⟨fun h => by omega,fun h => ?_⟩⟩
  ·rw [yB2,a26,xAK]
   simp (maxSteps := 30000000) (disch := first | assumption | omega | (simp only [WL,AV.isCell,xAa] <;> omega) | rfl | decide) only [↓reduceIte,WB,xAR,xAc,xAQ,xAD,xAC,AV.cells,AV.isCell,xAb,xAj,xAk,xAs,xAt,xAu,xAv,xAw,xAx,xAL,xAy,xAz,xAl,xAA,xAm,xAn,xAB,xAo,xAp,xAf,Nat.reduceDiv,Nat.reduceMod,WP,xAI,xAF,xAX,xAW,xAV,xAG,xAH,xAE,W2,xAd,xAe,xAi,Nat.reduceAdd,Nat.reduceSub,Nat.reduceLeDiff,Nat.reduceMul,Int.reduceAdd,Int.reduceSub,Int.reduceMul,Int.reduceLT,Int.reduceLE,Int.reduceEq,Int.reduceToNat,Int.reduceNeg,Nat.reduceEqDiff,Nat.reduceBEq,Nat.reduceLT,xAa,xAg,xAO,xOt,xOu,xL4,k1,d1',k2,d2,k3,d3',k4,d4]
  ·rw [h.st,h.fi] at d4; simp at d4
 have d4' : (!xG9 n.states (-1) n.st || !xG9 n.states (-1) n.fi) = false := by simpa using d4
 simp only [Bool.or_eq_false_iff,decide_eq_false_iff_not,Bool.not_eq_false'] at d1' d3' d4'
 have hM : xHc n = xCW n.states n.vars.toNat n.ed := by unfold xHc; rw [if_neg d1,if_neg d2,if_neg d3,if_neg d4]
 rw [hM]
 have hnv : n.vars = ((n.vars.toNat : Nat) : Int) := by omega
 have hv : n.vars.toNat ≤ 6 := by omega
 have hloop := fun T => xPX (n := n) (s2 := .int .i64 0) hv hnv hf.l3 hf.by_ n.ed.length 0 T (by omega)
 simp only [Int.natCast_zero,List.drop_zero] at hloop
 have e3 : (decide (64 < n.states) || decide (512 < n.ed.length)) = false := by simp; omega
 have e1 : (decide (n.vars < 0) || decide (6 < n.vars)) = false := by simp; omega
 have e4 : (!xG9 n.states (-1) n.st || !xG9 n.states (-1) n.fi) = false := by rw [d4'.1,d4'.2]; rfl
 by_cases e : xCW n.states n.vars.toNat n.ed = 0
 ·simp only [e,if_true] at hloop
  rw [e]
  refine ⟨?_,⟨fun _ => ⟨by omega,by omega,by omega,by omega,by omega,d4'.1,d4'.2,e⟩,fun _ => rfl⟩⟩
  obtain ⟨T',i',h5⟩ := hloop [.cells false false [.func 54 [.ptr 0 0],.int .i64 7,.func 55 [.ptr 0 0],.int .i64 1,.func 56 [.ptr 0 0],.int .i64 4,.func 57 [.ptr 0 0],.int .i64 8],.cells false false [.func 54 [.ptr 0 0],.int .i64 7],.cells false false [.func 55 [.ptr 0 0],.int .i64 1],.cells false false [.func 56 [.ptr 0 0],.int .i64 4],.cells false false [.func 57 [.ptr 0 0],.int .i64 8]]
  rw [yB2,a26,xAK]
  simp (maxSteps := 30000000) (disch := first | assumption | omega | (simp only [WL,AV.isCell,xAa] <;> omega) | rfl | decide) only [↓reduceIte,WB,xAR,xAc,xAQ,xAD,xAC,AV.cells,AV.isCell,xAb,xAj,xAk,xAs,xAt,xAu,xAv,xAw,xAx,xAL,xAy,xAz,xAl,xAA,xAm,xAn,xAB,xAo,xAp,xAf,Nat.reduceDiv,Nat.reduceMod,WP,xAI,xAF,xAX,xAW,xAV,xAG,xAH,xAE,W2,xAd,xAe,xAi,Nat.reduceAdd,Nat.reduceSub,Nat.reduceLeDiff,Nat.reduceMul,Int.reduceAdd,Int.reduceSub,Int.reduceMul,Int.reduceLT,Int.reduceLE,Int.reduceEq,Int.reduceToNat,Int.reduceNeg,Nat.reduceEqDiff,Nat.reduceBEq,Nat.reduceLT,xAa,xAg,xAO,xOt,xOu,xL4,xL6,k1,e1,k2,d2,k3,e3,k4,e4,h5]
 ·simp only [e,if_false] at hloop
  refine ⟨?_,⟨fun h => (e h).elim,fun h => (e h.ed).elim⟩⟩
  obtain ⟨T',i',h5⟩ := hloop [.cells false false [.func 54 [.ptr 0 0],.int .i64 7,.func 55 [.ptr 0 0],.int .i64 1,.func 56 [.ptr 0 0],.int .i64 4,.func 57 [.ptr 0 0],.int .i64 8],.cells false false [.func 54 [.ptr 0 0],.int .i64 7],.cells false false [.func 55 [.ptr 0 0],.int .i64 1],.cells false false [.func 56 [.ptr 0 0],.int .i64 4],.cells false false [.func 57 [.ptr 0 0],.int .i64 8]]
  rw [yB2,a26,xAK]
  simp (maxSteps := 30000000) (disch := first | assumption | omega | (simp only [WL,AV.isCell,xAa] <;> omega) | rfl | decide) only [↓reduceIte,WB,xAR,xAc,xAQ,xAD,xAC,AV.cells,AV.isCell,xAb,xAj,xAk,xAs,xAt,xAu,xAv,xAw,xAx,xAL,xAy,xAz,xAl,xAA,xAm,xAn,xAB,xAo,xAp,xAf,Nat.reduceDiv,Nat.reduceMod,WP,xAI,xAF,xAX,xAW,xAV,xAG,xAH,xAE,W2,xAd,xAe,xAi,Nat.reduceAdd,Nat.reduceSub,Nat.reduceLeDiff,Nat.reduceMul,Int.reduceAdd,Int.reduceSub,Int.reduceMul,Int.reduceLT,Int.reduceLE,Int.reduceEq,Int.reduceToNat,Int.reduceNeg,Nat.reduceEqDiff,Nat.reduceBEq,Nat.reduceLT,xAa,xAg,xAO,xOt,xOu,xL4,xL6,k1,e1,k2,d2,k3,e3,k4,e4,h5]
def inS (l : List Int) (j : Nat) : Bool := l.contains (j : Int)
theorem xDT {s : Int} : ∀ {l : List Int} {last : Int},xG9 s last l = true → ∀ q ∈ l,last < q ∧ q < s
 | [],_,_,q,hq => by simp at hq
 | a :: l,last,h,q,hq => by
  unfold xG9 at h
  split at h
  ·cases h
  ·rename_i hn
   rcases List.mem_cons.1 hq with rfl | hq
   ·omega
   ·have := xDT h q hq; omega
theorem xS1 {s : Int} {v : Nat} : ∀ {l : List Ed},xCW s v l = 0 → ∀ e ∈ l,xHA s v e = 0
 | [],_,e,he => by simp at he
 | a :: l,h,e,he => by
  by_cases h1 : xHA s v a = 0
  ·rw [xKv h1] at h
   rcases List.mem_cons.1 he with rfl | he
   ·exact h1
   ·exact xS1 h e he
  ·rw [xHa h1] at h
   exact (h1 h).elim
theorem yBW {s : Int} {v : Nat} {e : Ed} (h : xHA s v e = 0) : 0 ≤ e.a ∧ e.a < s ∧ 0 ≤ e.b ∧ e.b < s ∧ xFK v e.p e.n = 0 := by
 unfold xHA at h
 split at h
 ·omega
 ·rename_i hn
  exact ⟨by omega,by omega,by omega,by omega,h⟩
theorem Valid.edOk {n : Aut} (h : Valid n) (hf : Fits n) : yCU n.ed := fun e he => by
 have h1 := yBW (xS1 h.ed e he)
 have h2 := h.s64
 have h3 := hf.by_ e he
 exact ⟨by omega,by omega,h3⟩
theorem Valid.stOk {n : Aut} (h : Valid n) : ∀ q ∈ n.st,0 ≤ q ∧ q < 4096 := fun q hq => by
 have := xDT h.st q hq; have := h.s64; omega
theorem Valid.fiOk {n : Aut} (h : Valid n) : ∀ q ∈ n.fi,0 ≤ q ∧ q < 4096 := fun q hq => by
 have := xDT h.fi q hq; have := h.s64; omega
end Go.Abs.NfaD
