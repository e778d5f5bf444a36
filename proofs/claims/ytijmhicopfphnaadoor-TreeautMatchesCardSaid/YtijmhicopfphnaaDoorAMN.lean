/- Sets of numbers as words: bitset. -/
import Derived.Test.YtijmhicopfphnaaDoorAbsBun
import Derived.Test.YtijmhicopfphnaaDoorAProg
import Derived.Test.YtijmhicopfphnaaDoorAbsEnc2
namespace Go.Abs.Tree
open Go Go.Abs
set_option linter.unusedSimpArgs false
set_option linter.unusedVariables false
noncomputable abbrev L : Rec := lim xAU
abbrev sw (z : Bool) (l : List Nat) : AV := .sl z l.length (w64 l)
def W (l : List Nat) : Prop := ∀ x ∈ l,x < 18446744073709551616
theorem W.get {l : List Nat} (h : W l) (i : Nat) : l.getD i 0 < 18446744073709551616 := by
 rw [List.getD_eq_getElem?_getD]
 cases e : l[i]? with
 | none => simp
 | some x => exact h x (List.mem_of_getElem? e)
theorem xDI {l : List Nat} {i : Nat} (h : l.length ≤ i) : l.getD i 0 = 0 := by
 simp [List.getD,List.getElem?_eq_none h]
theorem yGu (z : Bool) (a : List Nat) (i : Nat) (H : Heap) : L.icall (.func 104 []) [sw z a,.int .i64 (i : Nat)] H = some (.int .u64 (a.getD i 0 : Nat),H) := by
 by_cases hi : i < a.length
 ·have h1 : (i : Int) < (a.length : Nat) := by omega
  rw [yDU,yET]
  simp (maxSteps := 30000000) (disch := first | assumption | omega | (simp only [WL,AV.isCell] <;> omega) | rfl | decide) only [↓reduceIte,WB,xAW,xAd,xAV,xAm,xAl,AV.cells,AV.isCell,xAc,xAi,xAj,xAz,xAA,xAB,xAC,xAD,xAE,xAX,xAF,xAG,xAn,xAH,xAo,xAp,xAI,xAq,xAr,xAk,Nat.reduceDiv,Nat.reduceMod,WP,xAT,xAM,xBm,xBl,xBk,xAP,xAS,xAN,W2,xAe,xAf,xAh,Nat.reduceAdd,Nat.reduceSub,Nat.reduceLeDiff,Nat.reduceMul,Int.reduceAdd,Int.reduceSub,Int.reduceMul,Int.reduceLT,Int.reduceLE,Int.reduceEq,Int.reduceToNat,Int.reduceNeg,Nat.reduceEqDiff,Nat.reduceBEq,Nat.reduceLT,h1]
 ·have h1 : ¬ (i : Int) < (a.length : Nat) := by omega
  rw [xDI (by omega),yDU,yET]
  simp (maxSteps := 30000000) (disch := first | assumption | omega | (simp only [WL,AV.isCell] <;> omega) | rfl | decide) only [↓reduceIte,WB,xAW,xAd,xAV,xAm,xAl,AV.cells,AV.isCell,xAc,xAi,xAj,xAz,xAA,xAB,xAC,xAD,xAE,xAX,xAF,xAG,xAn,xAH,xAo,xAp,xAI,xAq,xAr,xAk,Nat.reduceDiv,Nat.reduceMod,WP,xAT,xAM,xBm,xBl,xBk,xAP,xAS,xAN,W2,xAe,xAf,xAh,Nat.reduceAdd,Nat.reduceSub,Nat.reduceLeDiff,Nat.reduceMul,Int.reduceAdd,Int.reduceSub,Int.reduceMul,Int.reduceLT,Int.reduceLE,Int.reduceEq,Int.reduceToNat,Int.reduceNeg,Nat.reduceEqDiff,Nat.reduceBEq,Nat.reduceLT,h1]
theorem yHp (x y : Nat) (H : Heap) (hx : x < 18446744073709551616) (hy : y < 18446744073709551616) : L.icall (.func 106 []) [.int .u64 (x : Nat),.int .u64 (y : Nat)] H = some (.int .u64 (x ||| y : Nat),H) := by
 have h := yCY hx hy
 rw [yFl,yFh]
 simp (maxSteps := 30000000) (disch := first | assumption | omega | (simp only [WL,AV.isCell] <;> omega) | rfl | decide) only [↓reduceIte,WB,xAW,xAd,xAV,xAm,xAl,AV.cells,AV.isCell,xAc,xAi,xAj,xAz,xAA,xAB,xAC,xAD,xAE,xAX,xAF,xAG,xAn,xAH,xAo,xAp,xAI,xAq,xAr,xAk,Nat.reduceDiv,Nat.reduceMod,WP,xAT,xAM,xBm,xBl,xBk,xAP,xAS,xAN,W2,xAe,xAf,xAh,Nat.reduceAdd,Nat.reduceSub,Nat.reduceLeDiff,Nat.reduceMul,Int.reduceAdd,Int.reduceSub,Int.reduceMul,Int.reduceLT,Int.reduceLE,Int.reduceEq,Int.reduceToNat,Int.reduceNeg,Nat.reduceEqDiff,Nat.reduceBEq,Nat.reduceLT,h]
def xEv (op : Nat → Nat → Nat) (a b : List Nat) (n : Nat) : List Nat := (List.range n).map fun i => op (a.getD i 0) (b.getD i 0)
theorem xDz (op : Nat → Nat → Nat) (a b : List Nat) (n : Nat) : (xEv op a b n).length = n := by simp [xEv]
theorem xXm (op : Nat → Nat → Nat) (a b : List Nat) (n : Nat) : xEv op a b n ++ [op (a.getD n 0) (b.getD n 0)] = xEv op a b (n + 1) := by simp [xEv,List.range_succ]
def xUc : Nat → AV
 | 0 => .sl true 0 []
 | k + 1 => .own false k 0 (k + 1) 1
def xLN (op : Nat → Nat → Nat) (a b : List Nat) : Nat → Heap
 | 0 => []
 | k + 1 => List.replicate k .dead ++ [.cells false false (w64 (xEv op a b (k + 1)))]
theorem xPT {g : Nat} {op : Nat → Nat → Nat} {a b : List Nat} {za zb : Bool} {N : Nat} (hN : N ≤ 64)
  (hop : ∀ x y H,x < 18446744073709551616 → y < 18446744073709551616 → L.icall (.func g []) [.int .u64 (x : Nat),.int .u64 (y : Nat)] H = some (.int .u64 (op x y : Nat),H)) (wa : W a) (wb : W b) : ∀ d i,i + d = N →
  L.loop xOp xZb ⟨xOq (sw za a) (sw zb b) (.func g []) (.func 104 []) (xUc i) (.int .i64 (N : Nat)) (.int .i64 (i : Nat)),xLN op a b i⟩ =
   some (.exit 0,⟨xOq (sw za a) (sw zb b) (.func g []) (.func 104 []) (xUc N) (.int .i64 (N : Nat)) (.int .i64 (N : Nat)),xLN op a b N⟩)
 | 0,i,h => by
  obtain rfl : i = N := by omega
  rw [xVw]
  simp (maxSteps := 30000000) (disch := first | assumption | omega | (simp only [WL,AV.isCell] <;> omega) | rfl | decide) only [↓reduceIte,WB,xAW,xAd,xAV,xAm,xAl,AV.cells,AV.isCell,xAc,xAi,xAj,xAz,xAA,xAB,xAC,xAD,xAE,xAX,xAF,xAG,xAn,xAH,xAo,xAp,xAI,xAq,xAr,xAk,Nat.reduceDiv,Nat.reduceMod,WP,xAT,xAM,xBm,xBl,xBk,xAP,xAS,xAN,W2,xAe,xAf,xAh,Nat.reduceAdd,Nat.reduceSub,Nat.reduceLeDiff,Nat.reduceMul,Int.reduceAdd,Int.reduceSub,Int.reduceMul,Int.reduceLT,Int.reduceLE,Int.reduceEq,Int.reduceToNat,Int.reduceNeg,Nat.reduceEqDiff,Nat.reduceBEq,Nat.reduceLT,xOo,xOr]
 | d + 1,i,h => by
  have hlt : (i : Int) < (N : Nat) := by omega
  have h1 := yGu za a i
  have h2 := yGu zb b i
  have h3 := fun H => hop _ _ H (wa.get i) (wb.get i)
  have ih := xPT (za := za) (zb := zb) hN hop wa wb d (i + 1) (by omega)
  cases i with
  | zero =>
   have hv : w64 (xEv op a b (0 + 1)) = [AV.int .u64 (op (a.getD 0 0) (b.getD 0 0) : Nat)] := rfl
   simp only [xUc,xLN,hv,List.replicate,List.nil_append,Nat.zero_add,Int.natCast_zero,Int.natCast_one] at ih h1 h2 h3 hlt ⊢
   rw [xVw]
   simp (maxSteps := 30000000) (disch := first | assumption | omega | (simp only [WL,AV.isCell] <;> omega) | rfl | decide) only [↓reduceIte,WB,xAW,xAd,xAV,xAm,xAl,AV.cells,AV.isCell,xAc,xAi,xAj,xAz,xAA,xAB,xAC,xAD,xAE,xAX,xAF,xAG,xAn,xAH,xAo,xAp,xAI,xAq,xAr,xAk,Nat.reduceDiv,Nat.reduceMod,WP,xAT,xAM,xBm,xBl,xBk,xAP,xAS,xAN,W2,xAe,xAf,xAh,Nat.reduceAdd,Nat.reduceSub,Nat.reduceLeDiff,Nat.reduceMul,Int.reduceAdd,Int.reduceSub,Int.reduceMul,Int.reduceLT,Int.reduceLE,Int.reduceEq,Int.reduceToNat,Int.reduceNeg,Nat.reduceEqDiff,Nat.reduceBEq,Nat.reduceLT,xOo,xOr,hlt,h1,h2,h3,ih]
  | succ k =>
   have hl := xDz op a b (k + 1)
   have htk : List.take (k + 1) (xEv op a b (k + 1)) = xEv op a b (k + 1) := List.take_of_length_le (by omega)
   have hsn : w64 (xEv op a b (k + 1)) ++ [AV.int .u64 (op (a.getD (k + 1) 0) (b.getD (k + 1) 0) : Nat)] = w64 (xEv op a b (k + 1 + 1)) := by rw [xSZ,xXm]
   simp only [xUc,xLN,List.replicate_succ',List.append_assoc,List.cons_append,List.nil_append] at ih ⊢
   rw [xVw]
   simp (maxSteps := 30000000) (disch := first | assumption | omega | (simp only [WL,AV.isCell] <;> omega) | rfl | decide) only [↓reduceIte,WB,xAW,xAd,xAV,xAm,xAl,AV.cells,AV.isCell,xAc,xAi,xAj,xAz,xAA,xAB,xAC,xAD,xAE,xAX,xAF,xAG,xAn,xAH,xAo,xAp,xAI,xAq,xAr,xAk,Nat.reduceDiv,Nat.reduceMod,WP,xAT,xAM,xBm,xBl,xBk,xAP,xAS,xAN,W2,xAe,xAf,xAh,Nat.reduceAdd,Nat.reduceSub,Nat.reduceLeDiff,Nat.reduceMul,Int.reduceAdd,Int.reduceSub,Int.reduceMul,Int.reduceLT,Int.reduceLE,Int.reduceEq,Int.reduceToNat,Int.reduceNeg,Nat.reduceEqDiff,Nat.reduceBEq,Nat.reduceLT,xOo,xOr,hlt,h1,h2,h3,htk,hsn,ih,hl]
def xCn (l : List Nat) : Nat → Nat
 | 0 => 0
 | n + 1 => if l.getD n 0 = 0 then xCn l n else n + 1
theorem xGr (l : List Nat) : ∀ n,xCn l n ≤ n
 | 0 => Nat.le_refl _
 | n + 1 => by unfold xCn; split; have := xGr l n; omega; omega
theorem xJy (l : List Nat) : ∀ n i,xCn l n ≤ i → i < n → l.getD i 0 = 0
 | 0,i,h,h2 => by omega
 | n + 1,i,h,h2 => by
  unfold xCn at h
  split at h
  ·rename_i e
   by_cases hi : i = n
   ·subst hi; exact e
   ·exact xJy l n i h (by omega)
  ·omega
theorem xJz (l : List Nat) : ∀ n,0 < xCn l n → l.getD (xCn l n - 1) 0 ≠ 0
 | 0,h => by simp [xCn] at h
 | n + 1,h => by
  unfold xCn at h ⊢
  split
  ·rename_i e
   rw [if_pos e] at h
   exact xJz l n h
  ·rename_i e; simpa using e
theorem xLO {l : List Nat} {k : Nat} : ∀ n,n ≤ l.length → n ≤ 64 →
  L.loop xKG xVx ⟨xIu (.own false k 0 n 1),List.replicate k .dead ++ [.cells false false (w64 l)]⟩ = some (.exit 2,⟨xIu (.own false k 0 (xCn l n) 1),List.replicate k .dead ++ [.cells false false (w64 l)]⟩)
 | 0,_,_ => by
  rw [xVy]
  simp (maxSteps := 30000000) (disch := first | assumption | omega | (simp only [WL,AV.isCell] <;> omega) | rfl | decide) only [↓reduceIte,WB,xAW,xAd,xAV,xAm,xAl,AV.cells,AV.isCell,xAc,xAi,xAj,xAz,xAA,xAB,xAC,xAD,xAE,xAX,xAF,xAG,xAn,xAH,xAo,xAp,xAI,xAq,xAr,xAk,Nat.reduceDiv,Nat.reduceMod,WP,xAT,xAM,xBm,xBl,xBk,xAP,xAS,xAN,W2,xAe,xAf,xAh,Nat.reduceAdd,Nat.reduceSub,Nat.reduceLeDiff,Nat.reduceMul,Int.reduceAdd,Int.reduceSub,Int.reduceMul,Int.reduceLT,Int.reduceLE,Int.reduceEq,Int.reduceToNat,Int.reduceNeg,Nat.reduceEqDiff,Nat.reduceBEq,Nat.reduceLT,xKF,xKH,xCn]
 | n + 1,h,h2 => by
  have h0 : (0 : Int) < ((n + 1 : Nat) : Int) := by omega
  have ih := xLO (l := l) (k := k) n (by omega) (by omega)
  unfold xCn
  rw [xVy]
  by_cases e : l.getD n 0 = 0
  ·have e' : (((l.getD n 0 : Nat) : Int) = 0) = True := eq_true (by omega)
   simp (maxSteps := 30000000) (disch := first | assumption | omega | (simp only [WL,AV.isCell] <;> omega) | rfl | decide) only [↓reduceIte,WB,xAW,xAd,xAV,xAm,xAl,AV.cells,AV.isCell,xAc,xAi,xAj,xAz,xAA,xAB,xAC,xAD,xAE,xAX,xAF,xAG,xAn,xAH,xAo,xAp,xAI,xAq,xAr,xAk,Nat.reduceDiv,Nat.reduceMod,WP,xAT,xAM,xBm,xBl,xBk,xAP,xAS,xAN,W2,xAe,xAf,xAh,Nat.reduceAdd,Nat.reduceSub,Nat.reduceLeDiff,Nat.reduceMul,Int.reduceAdd,Int.reduceSub,Int.reduceMul,Int.reduceLT,Int.reduceLE,Int.reduceEq,Int.reduceToNat,Int.reduceNeg,Nat.reduceEqDiff,Nat.reduceBEq,Nat.reduceLT,xKF,xKH,h0,e,e',Nat.add_sub_cancel,ih]
  ·have e' : (((l.getD n 0 : Nat) : Int) = 0) = False := eq_false (by omega)
   simp (maxSteps := 30000000) (disch := first | assumption | omega | (simp only [WL,AV.isCell] <;> omega) | rfl | decide) only [↓reduceIte,WB,xAW,xAd,xAV,xAm,xAl,AV.cells,AV.isCell,xAc,xAi,xAj,xAz,xAA,xAB,xAC,xAD,xAE,xAX,xAF,xAG,xAn,xAH,xAo,xAp,xAI,xAq,xAr,xAk,Nat.reduceDiv,Nat.reduceMod,WP,xAT,xAM,xBm,xBl,xBk,xAP,xAS,xAN,W2,xAe,xAf,xAh,Nat.reduceAdd,Nat.reduceSub,Nat.reduceLeDiff,Nat.reduceMul,Int.reduceAdd,Int.reduceSub,Int.reduceMul,Int.reduceLT,Int.reduceLE,Int.reduceEq,Int.reduceToNat,Int.reduceNeg,Nat.reduceEqDiff,Nat.reduceBEq,Nat.reduceLT,xKF,xKH,h0,e,e',Nat.add_sub_cancel]
theorem yEB (z : Bool) (k n : Nat) (H : Heap) : L.icall (.func 105 []) [.own z k 0 n 1] H = some (.own z k 0 n 1,H) := by
 rw [yDV,yEU]
 simp (maxSteps := 30000000) (disch := first | assumption | omega | (simp only [WL,AV.isCell] <;> omega) | rfl | decide) only [↓reduceIte,WB,xAW,xAd,xAV,xAm,xAl,AV.cells,AV.isCell,xAc,xAi,xAj,xAz,xAA,xAB,xAC,xAD,xAE,xAX,xAF,xAG,xAn,xAH,xAo,xAp,xAI,xAq,xAr,xAk,Nat.reduceDiv,Nat.reduceMod,WP,xAT,xAM,xBm,xBl,xBk,xAP,xAS,xAN,W2,xAe,xAf,xAh,Nat.reduceAdd,Nat.reduceSub,Nat.reduceLeDiff,Nat.reduceMul,Int.reduceAdd,Int.reduceSub,Int.reduceMul,Int.reduceLT,Int.reduceLE,Int.reduceEq,Int.reduceToNat,Int.reduceNeg,Nat.reduceEqDiff,Nat.reduceBEq,Nat.reduceLT]
theorem yCV (H : Heap) : L.icall (.func 105 []) [.sl true 0 []] H = some (.sl true 0 [],H) := by
 rw [yDV,yEU]
 simp (maxSteps := 30000000) (disch := first | assumption | omega | (simp only [WL,AV.isCell] <;> omega) | rfl | decide) only [↓reduceIte,WB,xAW,xAd,xAV,xAm,xAl,AV.cells,AV.isCell,xAc,xAi,xAj,xAz,xAA,xAB,xAC,xAD,xAE,xAX,xAF,xAG,xAn,xAH,xAo,xAp,xAI,xAq,xAr,xAk,Nat.reduceDiv,Nat.reduceMod,WP,xAT,xAM,xBm,xBl,xBk,xAP,xAS,xAN,W2,xAe,xAf,xAh,Nat.reduceAdd,Nat.reduceSub,Nat.reduceLeDiff,Nat.reduceMul,Int.reduceAdd,Int.reduceSub,Int.reduceMul,Int.reduceLT,Int.reduceLE,Int.reduceEq,Int.reduceToNat,Int.reduceNeg,Nat.reduceEqDiff,Nat.reduceBEq,Nat.reduceLT]
def xEl (op : Nat → Nat → Nat) (a b : List Nat) : List Nat :=
 (xEv op a b (min (max a.length b.length) 64)).take (xCn (xEv op a b (min (max a.length b.length) 64)) (min (max a.length b.length) 64))
theorem xZJ {g : Nat} {op : Nat → Nat → Nat} {a b : List Nat} {za zb : Bool} (hop : ∀ x y H,x < 18446744073709551616 → y < 18446744073709551616 → L.icall (.func g []) [.int .u64 (x : Nat),.int .u64 (y : Nat)] H = some (.int .u64 (op x y : Nat),H)) (wa : W a) (wb : W b) :
  (xEl op a b = [] ∧ L.icall (.func 93 []) [sw za a,sw zb b,.func g []] [] = some (.sl true 0 [],[])) ∨
  ∃ k r,L.icall (.func 93 []) [sw za a,sw zb b,.func g []] [] = some (.own false k 0 (xEl op a b).length 1,List.replicate k .dead ++ [.cells false false (w64 (xEl op a b ++ r))]) := by
 unfold xEl
 have hm : min (max (a.length : Int) (b.length : Int)) 64 = ((min (max a.length b.length) 64 : Nat) : Int) := by omega
 have hN : min (max a.length b.length) 64 ≤ 64 := by omega
 have hl := xPT (za := za) (zb := zb) hN hop wa wb (min (max a.length b.length) 64) 0 (by omega)
 generalize min (max a.length b.length) 64 = N at *
 simp only [Int.natCast_zero] at hl
 cases N with
 | zero =>
  refine .inl ⟨by simp [xEv],?_⟩
  simp only [xUc,xLN,Int.natCast_zero] at hl hm
  have hs : L.loop xKG xVx ⟨xIu (.sl true 0 []),[]⟩ = some (.exit 2,⟨xIu (.sl true 0 []),[]⟩) := by
   rw [xVy]
   simp (maxSteps := 30000000) (disch := first | assumption | omega | (simp only [WL,AV.isCell] <;> omega) | rfl | decide) only [↓reduceIte,WB,xAW,xAd,xAV,xAm,xAl,AV.cells,AV.isCell,xAc,xAi,xAj,xAz,xAA,xAB,xAC,xAD,xAE,xAX,xAF,xAG,xAn,xAH,xAo,xAp,xAI,xAq,xAr,xAk,Nat.reduceDiv,Nat.reduceMod,WP,xAT,xAM,xBm,xBl,xBk,xAP,xAS,xAN,W2,xAe,xAf,xAh,Nat.reduceAdd,Nat.reduceSub,Nat.reduceLeDiff,Nat.reduceMul,Int.reduceAdd,Int.reduceSub,Int.reduceMul,Int.reduceLT,Int.reduceLE,Int.reduceEq,Int.reduceToNat,Int.reduceNeg,Nat.reduceEqDiff,Nat.reduceBEq,Nat.reduceLT,xKF,xKH]
  rw [yF8,a93]
  simp (maxSteps := 30000000) (disch := first | assumption | omega | (simp only [WL,AV.isCell] <;> omega) | rfl | decide) only [↓reduceIte,WB,xAW,xAd,xAV,xAm,xAl,AV.cells,AV.isCell,xAc,xAi,xAj,xAz,xAA,xAB,xAC,xAD,xAE,xAX,xAF,xAG,xAn,xAH,xAo,xAp,xAI,xAq,xAr,xAk,Nat.reduceDiv,Nat.reduceMod,WP,xAT,xAM,xBm,xBl,xBk,xAP,xAS,xAN,W2,xAe,xAf,xAh,Nat.reduceAdd,Nat.reduceSub,Nat.reduceLeDiff,Nat.reduceMul,Int.reduceAdd,Int.reduceSub,Int.reduceMul,Int.reduceLT,Int.reduceLE,Int.reduceEq,Int.reduceToNat,Int.reduceNeg,Nat.reduceEqDiff,Nat.reduceBEq,Nat.reduceLT,xOr,xKH,hm,hl,hs,yCV]
 | succ k =>
  simp only [xUc,xLN] at hl
  have hvl := xDz op a b (k + 1)
  have hs := xLO (l := xEv op a b (k + 1)) (k := k) (k + 1) (by omega) hN
  have hle := xGr (xEv op a b (k + 1)) (k + 1)
  generalize xCn (xEv op a b (k + 1)) (k + 1) = n at *
  have hlen : ((xEv op a b (k + 1)).take n).length = n := by rw [List.length_take]; omega
  refine .inr ⟨k,(xEv op a b (k + 1)).drop n,?_⟩
  rw [List.take_append_drop,hlen,yF8,a93]
  simp (maxSteps := 30000000) (disch := first | assumption | omega | (simp only [WL,AV.isCell] <;> omega) | rfl | decide) only [↓reduceIte,WB,xAW,xAd,xAV,xAm,xAl,AV.cells,AV.isCell,xAc,xAi,xAj,xAz,xAA,xAB,xAC,xAD,xAE,xAX,xAF,xAG,xAn,xAH,xAo,xAp,xAI,xAq,xAr,xAk,Nat.reduceDiv,Nat.reduceMod,WP,xAT,xAM,xBm,xBl,xBk,xAP,xAS,xAN,W2,xAe,xAf,xAh,Nat.reduceAdd,Nat.reduceSub,Nat.reduceLeDiff,Nat.reduceMul,Int.reduceAdd,Int.reduceSub,Int.reduceMul,Int.reduceLT,Int.reduceLE,Int.reduceEq,Int.reduceToNat,Int.reduceNeg,Nat.reduceEqDiff,Nat.reduceBEq,Nat.reduceLT,xOr,xKH,hm,hl,hs,yEB,hvl,hlen]
theorem xXn (op : Nat → Nat → Nat) (a b : List Nat) (h0 : op 0 0 = 0) (i : Nat) (hi : i < 64) : (xEl op a b).getD i 0 = op (a.getD i 0) (b.getD i 0) := by
 unfold xEl
 generalize hN : min (max a.length b.length) 64 = N
 have hv : ∀ i,i < N → (xEv op a b N).getD i 0 = op (a.getD i 0) (b.getD i 0) := fun i hi => by simp [xEv,hi]
 have hle := xGr (xEv op a b N) N
 by_cases h : i < xCn (xEv op a b N) N
 ·rw [← hv i (by omega)]
  simp [List.getD,List.getElem?_take,h]
 ·rw [xDI (by rw [List.length_take,xDz]; omega)]
  by_cases h2 : i < N
  ·rw [← hv i h2]
   exact (xJy _ N i (by omega) h2).symm
  ·rw [xDI (l := a) (by omega),xDI (l := b) (by omega),h0]
theorem xXo (op : Nat → Nat → Nat) (a b : List Nat) : (xEl op a b).length ≤ 64 := by
 unfold xEl
 rw [List.length_take,xDz]; omega
theorem yCW {op : Nat → Nat → Nat} {a b : List Nat} (hop : ∀ x y,x < 18446744073709551616 → y < 18446744073709551616 → op x y < 18446744073709551616) (wa : W a) (wb : W b) : W (xEl op a b) := by
 intro x hx
 have := List.mem_of_mem_take hx
 simp only [xEv,List.mem_map] at this
 obtain ⟨i,_,rfl⟩ := this
 exact hop _ _ (wa.get i) (wb.get i)
theorem xUd (op : Nat → Nat → Nat) (a b : List Nat) (h : xEl op a b ≠ []) : (xEl op a b).getD ((xEl op a b).length - 1) 0 ≠ 0 := by
 unfold xEl at h ⊢
 generalize hN : min (max a.length b.length) 64 = N at *
 have hle := xGr (xEv op a b N) N
 have hl : ((xEv op a b N).take (xCn (xEv op a b N) N)).length = xCn (xEv op a b N) N := by rw [List.length_take,xDz]; omega
 have hp : 0 < xCn (xEv op a b N) N := by
  rw [← hl]; exact List.length_pos_iff.2 h
 rw [hl]
 have := xJz _ N hp
 rw [show ((xEv op a b N).take (xCn (xEv op a b N) N)).getD (xCn (xEv op a b N) N - 1) 0 = (xEv op a b N).getD (xCn (xEv op a b N) N - 1) 0 from by
  simp [List.getD,List.getElem?_take,show xCn (xEv op a b N) N - 1 < xCn (xEv op a b N) N by omega]]
 exact this
def mem (l : List Nat) (j : Nat) : Bool := decide (j < 4096) && (l.getD (j / 64) 0).testBit (j % 64)
theorem xZK {op : Nat → Nat → Nat} {f : Bool → Bool → Bool} (a b : List Nat) (h0 : op 0 0 = 0) (hf : ∀ x y i,(op x y).testBit i = f (x.testBit i) (y.testBit i)) (j : Nat) (hj : j < 4096) : mem (xEl op a b) j = f (mem a j) (mem b j) := by
 unfold mem
 rw [xXn op a b h0 _ (by omega),hf]
 simp [hj]
def HasSet (v : AV) (S : Nat → Bool) : Prop := ∃ z l,v = sw z l ∧ W l ∧ l.length < 1099511627776 ∧ ∀ j,mem l j = S j
theorem HasSet.out {v : AV} {S : Nat → Bool} (h : HasSet v S) {j : Nat} (hj : 4096 ≤ j) : S j = false := by
 obtain ⟨z,l,rfl,_,_,h⟩ := h
 rw [← h j]
 simp [mem,show ¬ j < 4096 by omega]
theorem HasSet.congr {v : AV} {S T : Nat → Bool} (h : HasSet v S) (e : ∀ j,S j = T j) : HasSet v T := by
 obtain ⟨z,l,rfl,w,hl,h⟩ := h
 exact ⟨z,l,rfl,w,hl,fun j => (h j).trans (e j)⟩
theorem xXp {z : Bool} : HasSet (.sl z 0 []) (fun _ => false) := ⟨z,[],rfl,by intro x hx; simp at hx,by simp,fun j => by simp [mem]⟩
theorem xHs {x y : Nat} (hx : x < 18446744073709551616) (hy : y < 18446744073709551616) : x ||| y < 18446744073709551616 := by
 have : x ||| y < 2 ^ 64 := Nat.or_lt_two_pow (by omega) (by omega)
 omega
def OwnS (v : AV) (B : List Blk) (l : List Nat) : Prop := (v = .sl true 0 [] ∧ B = [] ∧ l = []) ∨ ∃ r,v = .own false 0 0 l.length 1 ∧ B = [.cells false false (w64 (l ++ r))]
theorem xCz (l r : List Nat) : List.take l.length (l ++ r) = l := by simp
theorem xXq {za zb : Bool} {a b : List Nat} (wa : W a) (wb : W b) (ha : a.length < 1099511627776) (hb : b.length < 1099511627776) : ∃ v B,xBB L 95 [sw za a,sw zb b] = some (v,B) ∧ OwnS v B (xEl (· ||| ·) a b) := by
 rcases xZJ (za := za) (zb := zb) (g := 106) (op := (· ||| ·)) (fun x y H hx hy => yHp x y H hx hy) wa wb with ⟨h1,h2⟩ | ⟨k,r,h⟩
 ·refine ⟨.sl true 0 [],[],?_,.inl ⟨rfl,rfl,h1⟩⟩
  rw [xBF,yF9,a95,xBf]
  simp (maxSteps := 30000000) (disch := first | assumption | omega | (simp only [WL,AV.isCell] <;> omega) | rfl | decide) only [↓reduceIte,WB,xAW,xAd,xAV,xAm,xAl,AV.cells,AV.isCell,xAc,xAi,xAj,xAz,xAA,xAB,xAC,xAD,xAE,xAX,xAF,xAG,xAn,xAH,xAo,xAp,xAI,xAq,xAr,xAk,Nat.reduceDiv,Nat.reduceMod,WP,xAT,xAM,xBm,xBl,xBk,xAP,xAS,xAN,W2,xAe,xAf,xAh,Nat.reduceAdd,Nat.reduceSub,Nat.reduceLeDiff,Nat.reduceMul,Int.reduceAdd,Int.reduceSub,Int.reduceMul,Int.reduceLT,Int.reduceLE,Int.reduceEq,Int.reduceToNat,Int.reduceNeg,Nat.reduceEqDiff,Nat.reduceBEq,Nat.reduceLT,h2]
 ·refine ⟨.own false 0 0 (xEl (· ||| ·) a b).length 1,[.cells false false (w64 (xEl (· ||| ·) a b ++ r))],?_,.inr ⟨r,rfl,rfl⟩⟩
  rw [xBF,yF9,a95,xBf]
  simp (maxSteps := 30000000) (disch := first | assumption | omega | (simp only [WL,AV.isCell] <;> omega) | rfl | decide) only [↓reduceIte,WB,xAW,xAd,xAV,xAm,xAl,AV.cells,AV.isCell,xAc,xAi,xAj,xAz,xAA,xAB,xAC,xAD,xAE,xAX,xAF,xAG,xAn,xAH,xAo,xAp,xAI,xAq,xAr,xAk,Nat.reduceDiv,Nat.reduceMod,WP,xAT,xAM,xBm,xBl,xBk,xAP,xAS,xAN,W2,xAe,xAf,xAh,Nat.reduceAdd,Nat.reduceSub,Nat.reduceLeDiff,Nat.reduceMul,Int.reduceAdd,Int.reduceSub,Int.reduceMul,Int.reduceLT,Int.reduceLE,Int.reduceEq,Int.reduceToNat,Int.reduceNeg,Nat.reduceEqDiff,Nat.reduceBEq,Nat.reduceLT,h]
def CanS (l : List Nat) (S : Nat → Bool) : Prop := W l ∧ l.length ≤ 64 ∧ (l ≠ [] → l.getD (l.length - 1) 0 ≠ 0) ∧ ∀ j,mem l j = S j
theorem CanS.has {l : List Nat} {S : Nat → Bool} (h : CanS l S) (z : Bool) : HasSet (sw z l) S := ⟨z,l,rfl,h.1,by have := h.2.1; omega,h.2.2.2⟩
theorem CanS.congr {l : List Nat} {S T : Nat → Bool} (h : CanS l S) (e : ∀ j,S j = T j) : CanS l T := ⟨h.1,h.2.1,h.2.2.1,fun j => (h.2.2.2 j).trans (e j)⟩
theorem canS_nil : CanS [] (fun _ => false) := ⟨by intro x hx; simp at hx,by simp,by simp,fun j => by simp [mem]⟩
theorem xSX {l : List Nat} {i t : Nat} (hi : i < 64) (ht : t < 64) : mem l (64 * i + t) = (l.getD i 0).testBit t := by
 unfold mem
 rw [show (64 * i + t) / 64 = i by omega,show (64 * i + t) % 64 = t by omega,decide_eq_true (by omega : 64 * i + t < 4096),Bool.true_and]
theorem CanS.get {a b : List Nat} {S : Nat → Bool} (h : CanS a S) (k : CanS b S) (i : Nat) (hi : i < 64) : a.getD i 0 = b.getD i 0 := by
 apply Nat.eq_of_testBit_eq
 intro t
 by_cases ht : t < 64
 ·rw [← xSX hi ht,← xSX hi ht,h.2.2.2,k.2.2.2]
 ·have big : ∀ x,x < 18446744073709551616 → x.testBit t = false := fun x hx => Nat.testBit_lt_two_pow (Nat.lt_of_lt_of_le hx (by
   have : 2 ^ 64 ≤ 2 ^ t := Nat.pow_le_pow_right (by omega) (by omega)
   omega))
  rw [big _ (h.1.get i),big _ (k.1.get i)]
theorem CanS.uniq {a b : List Nat} {S : Nat → Bool} (h : CanS a S) (k : CanS b S) : a = b := by
 have la := h.2.1
 have lb := k.2.1
 have hlen : a.length = b.length := by
  rcases Nat.lt_trichotomy a.length b.length with q | q | q
  ·exfalso
   refine k.2.2.1 (by intro e; rw [e] at q; simp at q) ?_
   rw [← h.get k _ (by omega)]
   exact xDI (by omega)
  ·exact q
  ·exfalso
   refine h.2.2.1 (by intro e; rw [e] at q; simp at q) ?_
   rw [h.get k _ (by omega)]
   exact xDI (by omega)
 apply List.ext_getElem hlen
 intro i h1 h2
 have := h.get k i (by omega)
 simpa [List.getD,List.getElem?_eq_getElem h1,List.getElem?_eq_getElem h2] using this
theorem xXr {za zb : Bool} {a b : List Nat} {S T : Nat → Bool} (hv : HasSet (sw za a) S) (hu : HasSet (sw zb b) T) (wa : W a) (wb : W b) (ha : ∀ j,mem a j = S j) (hb : ∀ j,mem b j = T j) : CanS (xEl (· ||| ·) a b) (fun j => S j || T j) := by
 refine ⟨yCW (fun x y hx hy => xHs hx hy) wa wb,xXo _ _ _,fun h => xUd _ _ _ h,fun j => ?_⟩
 by_cases hj : j < 4096
 ·rw [xZK (f := (· || ·)) a b (by simp) (fun x y i => by simp) j hj,ha,hb]
 ·show mem _ j = (S j || T j)
  rw [hv.out (j := j) (by omega),hu.out (j := j) (by omega)]
  simp [mem,hj]
abbrev iw (z : Bool) (l : List Int) : AV := .sl z l.length (xBW l)
theorem xCw {l : List Int} {i : Nat} (h : i < l.length) : l.drop i = l.getD i 0 :: l.drop (i + 1) := by
 rw [List.drop_eq_getElem_cons h]
 simp [List.getD,List.getElem?_eq_getElem h]
def xZL (p n x : Nat) : Bool := decide (x &&& p = p) && decide (x &&& n = 0)
theorem yCX (p n x : Nat) (hp : p < 256) (hn : n < 256) (hx : x < 256) : L.pcall 83 [.agg [.int .u8 (p : Nat),.int .u8 (n : Nat)],.int .u8 (x : Nat)] = some (.bool (xZL p n x)) := by
 have h1 := yDg hx hp
 have h2 := yDg hx hn
 have e1 : (((x &&& p : Nat) : Int) = ((p : Nat) : Int)) = (x &&& p = p) := propext ⟨fun h => by omega,fun h => by omega⟩
 have e2 : (((x &&& n : Nat) : Int) = 0) = (x &&& n = 0) := propext ⟨fun h => by omega,fun h => by omega⟩
 unfold xZL
 rw [yHg,a83,xAu]
 by_cases c1 : x &&& p = p <;> by_cases c2 : x &&& n = 0 <;> simp (maxSteps := 30000000) (disch := first | assumption | omega | (simp only [WL,AV.isCell] <;> omega) | rfl | decide) only [↓reduceIte,WB,xAW,xAd,xAV,xAm,xAl,AV.cells,AV.isCell,xAc,xAi,xAj,W2,xAe,xAf,xAh,Nat.reduceAdd,Nat.reduceSub,Nat.reduceLeDiff,Nat.reduceMul,Int.reduceAdd,Int.reduceSub,Int.reduceMul,Int.reduceLT,Int.reduceLE,Int.reduceEq,Int.reduceToNat,Int.reduceNeg,Nat.reduceEqDiff,Nat.reduceBEq,Nat.reduceLT,h1,h2,e1,e2,c1,c2]
def xE7 (v p n : Nat) : Int := if 2 ^ v ≤ p ||| n then 7 else if p &&& n = 0 then 0 else 2
theorem yGv {v : Nat} (hv : v ≤ 6) : IntKind.i64.wrap (1 * 2 ^ min v IntKind.i64.bits) = ((2 ^ v : Nat) : Int) := by
 have : v = 0 ∨ v = 1 ∨ v = 2 ∨ v = 3 ∨ v = 4 ∨ v = 5 ∨ v = 6 := by omega
 rcases this with rfl | rfl | rfl | rfl | rfl | rfl | rfl <;> rfl
theorem xXs (v p n : Nat) (hv : v ≤ 6) (hp : p < 256) (hn : n < 256) : L.pcall 45 [.agg [.int .u8 (p : Nat),.int .u8 (n : Nat)],.int .i64 (v : Nat)] = some (.int .i64 (xE7 v p n)) := by
 have h1 := or8 hp hn
 have h2 := yDg hp hn
 have h3 : ¬ ((6 : Int) < (v : Nat)) := by omega
 have hor : p ||| n < 256 := by
  have := Nat.or_lt_two_pow (x := p) (y := n) (n := 8) (by omega) (by omega)
  omega
 have e1 : (((2 ^ v : Nat) : Int) ≤ ((p ||| n : Nat) : Int)) = (2 ^ v ≤ p ||| n) := propext ⟨fun h => by omega,fun h => by omega⟩
 have e2 : (((p &&& n : Nat) : Int) = 0) = (p &&& n = 0) := propext ⟨fun h => by omega,fun h => by omega⟩
 have hsh := yGv hv
 unfold xE7
 rw [yG2,a45,xAu]
 by_cases c1 : 2 ^ v ≤ p ||| n
 ·simp (maxSteps := 30000000) (disch := first | assumption | omega | (simp only [WL,AV.isCell] <;> omega) | rfl | decide) only [↓reduceIte,WB,xAW,xAd,xAV,xAm,xAl,AV.cells,AV.isCell,xAc,xAi,xAj,W2,xAe,xAf,xAh,Nat.reduceAdd,Nat.reduceSub,Nat.reduceLeDiff,Nat.reduceMul,Int.reduceAdd,Int.reduceSub,Int.reduceMul,Int.reduceLT,Int.reduceLE,Int.reduceEq,Int.reduceToNat,Int.reduceNeg,Nat.reduceEqDiff,Nat.reduceBEq,Nat.reduceLT,h1,h2,h3,hsh,e1,e2,c1]
 ·by_cases c2 : p &&& n = 0 <;> simp (maxSteps := 30000000) (disch := first | assumption | omega | (simp only [WL,AV.isCell] <;> omega) | rfl | decide) only [↓reduceIte,WB,xAW,xAd,xAV,xAm,xAl,AV.cells,AV.isCell,xAc,xAi,xAj,W2,xAe,xAf,xAh,Nat.reduceAdd,Nat.reduceSub,Nat.reduceLeDiff,Nat.reduceMul,Int.reduceAdd,Int.reduceSub,Int.reduceMul,Int.reduceLT,Int.reduceLE,Int.reduceEq,Int.reduceToNat,Int.reduceNeg,Nat.reduceEqDiff,Nat.reduceBEq,Nat.reduceLT,h1,h2,h3,hsh,e1,e2,c1,c2]
end Go.Abs.Tree
