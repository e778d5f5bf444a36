/- After,Run,Accepts: their results. -/
import Derived.Test.YtbfnjdhafgnlnaaDoorAbsBun
import Derived.Test.YtbfnjdhafgnlnaaDoorAMA
namespace Go.Abs.NfaD
open Go Go.Abs
set_option linter.unusedSimpArgs false
set_option linter.unusedVariables false
theorem xHr {l : List Ed} {i : Nat} (h : i < l.length) : List.drop (i * 4) (edges l) = .int .i64 (l.getD i e0).a :: .int .i64 (l.getD i e0).b :: .int .u8 ((l.getD i e0).p : Nat) :: .int .u8 ((l.getD i e0).n : Nat) :: edges (l.drop (i + 1)) := by
 unfold edges
 rw [xKw (enc := xCX) (k := 4) (fun _ => rfl),List.drop_eq_getElem_cons h]
 have : l.getD i e0 = l[i] := by simp [List.getD,List.getElem?_eq_getElem h]
 rw [this]
 rfl
theorem xAY {l : List Ed} {i : Nat} (h : i < l.length) : List.take 1 (List.drop (i * 4) (edges l)) = [.int .i64 (l.getD i e0).a] := by rw [xHr h]; rfl
theorem xAZ {l : List Ed} {i : Nat} (h : i < l.length) : List.take 1 (List.drop (i * 4 + 1) (edges l)) = [.int .i64 (l.getD i e0).b] := by rw [← List.drop_drop,xHr h]; rfl
theorem xBb {l : List Ed} {i : Nat} (h : i < l.length) : List.take 1 (List.drop (i * 4 + 2) (edges l)) = [.int .u8 ((l.getD i e0).p : Nat)] := by rw [← List.drop_drop,xHr h]; rfl
theorem xBc {l : List Ed} {i : Nat} (h : i < l.length) : List.take 1 (List.drop (i * 4 + 3) (edges l)) = [.int .u8 ((l.getD i e0).n : Nat)] := by rw [← List.drop_drop,xHr h]; rfl
theorem xYr (v : Nat) (hv : v ≤ 6) : L.pcall 78 [.int .i64 (v : Nat)] = some (.int .i64 ((2 ^ v : Nat) : Int)) := by
 have h1 := yEf hv
 have h2 : (0 : Int) ≤ (v : Nat) := by omega
 rw [yEM,a78,xAK]
 simp (maxSteps := 30000000) (disch := first | assumption | omega | (simp only [WL,AV.isCell,xAa] <;> omega) | rfl | decide) only [↓reduceIte,WB,xAR,xAc,xAQ,xAD,xAC,AV.cells,AV.isCell,xAb,xAj,xAk,xAs,xAt,xAu,xAv,xAw,xAx,xAL,xAy,xAz,xAl,xAA,xAm,xAn,xAB,xAo,xAp,xAf,Nat.reduceDiv,Nat.reduceMod,WP,xAI,xAF,xAX,xAW,xAV,xAG,xAH,xAE,W2,xAd,xAe,xAi,Nat.reduceAdd,Nat.reduceSub,Nat.reduceLeDiff,Nat.reduceMul,Int.reduceAdd,Int.reduceSub,Int.reduceMul,Int.reduceLT,Int.reduceLE,Int.reduceEq,Int.reduceToNat,Int.reduceNeg,Nat.reduceEqDiff,Nat.reduceBEq,Nat.reduceLT,xAa,xAg,xAY,xAZ,xBb,xBc,Int.toNat_natCast,h1,h2]
theorem yDK (v p n : Nat) (hv : v ≤ 6) (hp : p < 256) (hn : n < 256) : L.pcall 64 [.agg [.int .u8 (p : Nat),.int .u8 (n : Nat)],.int .i64 (v : Nat)] = some (.int .i64 (xFK v p n)) := by
 have h2 := yEa hp hn
 have h3 : ¬ ((6 : Int) < (v : Nat)) := by omega
 have hl := xYr v hv
 have e1 : (((2 ^ v : Nat) : Int) ≤ ((p : Nat) : Int)) = (2 ^ v ≤ p) := propext ⟨fun h => by omega,fun h => by omega⟩
 have e3 : (((2 ^ v : Nat) : Int) ≤ ((n : Nat) : Int)) = (2 ^ v ≤ n) := propext ⟨fun h => by omega,fun h => by omega⟩
 have e2 : (((p &&& n : Nat) : Int) = 0) = (p &&& n = 0) := propext ⟨fun h => by omega,fun h => by omega⟩
 have ho : 2 ^ v ≤ p ||| n ↔ 2 ^ v ≤ p ∨ 2 ^ v ≤ n := by
  constructor
  ·intro h
   rcases Nat.lt_or_ge p (2 ^ v) with a | a
   ·rcases Nat.lt_or_ge n (2 ^ v) with b | b
    ·have := Nat.or_lt_two_pow a b; omega
    ·exact .inr b
   ·exact .inl a
  ·rintro (h | h)
   ·exact Nat.le_trans h Nat.left_le_or
   ·exact Nat.le_trans h Nat.right_le_or
 unfold xFK
 rw [yEF,a64,xAK]
 by_cases c1 : 2 ^ v ≤ p
 ·rw [if_pos (ho.2 (.inl c1))]
  simp (maxSteps := 30000000) (disch := first | assumption | omega | (simp only [WL,AV.isCell,xAa] <;> omega) | rfl | decide) only [↓reduceIte,WB,xAR,xAc,xAQ,xAD,xAC,AV.cells,AV.isCell,xAb,xAj,xAk,xAs,xAt,xAu,xAv,xAw,xAx,xAL,xAy,xAz,xAl,xAA,xAm,xAn,xAB,xAo,xAp,xAf,Nat.reduceDiv,Nat.reduceMod,WP,xAI,xAF,xAX,xAW,xAV,xAG,xAH,xAE,W2,xAd,xAe,xAi,Nat.reduceAdd,Nat.reduceSub,Nat.reduceLeDiff,Nat.reduceMul,Int.reduceAdd,Int.reduceSub,Int.reduceMul,Int.reduceLT,Int.reduceLE,Int.reduceEq,Int.reduceToNat,Int.reduceNeg,Nat.reduceEqDiff,Nat.reduceBEq,Nat.reduceLT,xAa,xAg,xAY,xAZ,xBb,xBc,hl,h2,h3,e1,e2,e3,c1]
 ·by_cases c2 : 2 ^ v ≤ n
  ·rw [if_pos (ho.2 (.inr c2))]
   simp (maxSteps := 30000000) (disch := first | assumption | omega | (simp only [WL,AV.isCell,xAa] <;> omega) | rfl | decide) only [↓reduceIte,WB,xAR,xAc,xAQ,xAD,xAC,AV.cells,AV.isCell,xAb,xAj,xAk,xAs,xAt,xAu,xAv,xAw,xAx,xAL,xAy,xAz,xAl,xAA,xAm,xAn,xAB,xAo,xAp,xAf,Nat.reduceDiv,Nat.reduceMod,WP,xAI,xAF,xAX,xAW,xAV,xAG,xAH,xAE,W2,xAd,xAe,xAi,Nat.reduceAdd,Nat.reduceSub,Nat.reduceLeDiff,Nat.reduceMul,Int.reduceAdd,Int.reduceSub,Int.reduceMul,Int.reduceLT,Int.reduceLE,Int.reduceEq,Int.reduceToNat,Int.reduceNeg,Nat.reduceEqDiff,Nat.reduceBEq,Nat.reduceLT,xAa,xAg,xAY,xAZ,xBb,xBc,hl,h2,h3,e1,e2,e3,c1,c2]
  ·rw [if_neg (fun h => (ho.1 h).elim c1 c2)]
   by_cases c3 : p &&& n = 0 <;> simp (maxSteps := 30000000) (disch := first | assumption | omega | (simp only [WL,AV.isCell,xAa] <;> omega) | rfl | decide) only [↓reduceIte,WB,xAR,xAc,xAQ,xAD,xAC,AV.cells,AV.isCell,xAb,xAj,xAk,xAs,xAt,xAu,xAv,xAw,xAx,xAL,xAy,xAz,xAl,xAA,xAm,xAn,xAB,xAo,xAp,xAf,Nat.reduceDiv,Nat.reduceMod,WP,xAI,xAF,xAX,xAW,xAV,xAG,xAH,xAE,W2,xAd,xAe,xAi,Nat.reduceAdd,Nat.reduceSub,Nat.reduceLeDiff,Nat.reduceMul,Int.reduceAdd,Int.reduceSub,Int.reduceMul,Int.reduceLT,Int.reduceLE,Int.reduceEq,Int.reduceToNat,Int.reduceNeg,Nat.reduceEqDiff,Nat.reduceBEq,Nat.reduceLT,xAa,xAg,xAY,xAZ,xBb,xBc,hl,h2,h3,e1,e2,e3,c1,c2,c3]
def xG8 (l : List Int) (i : Nat) : Int := if i = 0 then -1 else l.getD (i - 1) 0
theorem xIe {z : Bool} {l : List Int} {s : Int} {s4 : AV} {H : Heap} (hl : l.length < 1099511627776) : ∀ d i,i + d = l.length → -1 ≤ xG8 l i →
  ∃ i' : Nat,L.loop xRP xZv ⟨xOw (iw z l) (.int .i64 s) s4 (.int .i64 (i : Nat)),H⟩ =
   some (if xG9 s (xG8 l i) (l.drop i) = true then (.exit 0,⟨xOw (iw z l) (.int .i64 s) s4 (.int .i64 (l.length : Nat)),H⟩)
    else (.ret,⟨xOw (iw z l) (.int .i64 s) (.bool false) (.int .i64 (i' : Nat)),H⟩))
 | 0,i,h,hp => by
  obtain rfl : i = l.length := by omega
  refine ⟨0,?_⟩
  rw [if_pos (by rw [List.drop_length]; rfl),xOx]
  simp (maxSteps := 30000000) (disch := first | assumption | omega | (simp only [WL,AV.isCell,xAa] <;> omega) | rfl | decide) only [↓reduceIte,WB,xAR,xAc,xAQ,xAD,xAC,AV.cells,AV.isCell,xAb,xAj,xAk,xAs,xAt,xAu,xAv,xAw,xAx,xAL,xAy,xAz,xAl,xAA,xAm,xAn,xAB,xAo,xAp,xAf,Nat.reduceDiv,Nat.reduceMod,WP,xAI,xAF,xAX,xAW,xAV,xAG,xAH,xAE,W2,xAd,xAe,xAi,Nat.reduceAdd,Nat.reduceSub,Nat.reduceLeDiff,Nat.reduceMul,Int.reduceAdd,Int.reduceSub,Int.reduceMul,Int.reduceLT,Int.reduceLE,Int.reduceEq,Int.reduceToNat,Int.reduceNeg,Nat.reduceEqDiff,Nat.reduceBEq,Nat.reduceLT,xAa,xAg,xAY,xAZ,xBb,xBc,xJI,xJJ]
 | d + 1,i,h,hp => by
  have hlt : (i : Int) < (l.length : Nat) := by omega
  rw [xBz (by omega : i < l.length)]
  by_cases c0 : l.getD i 0 < 0
  ·refine ⟨i,?_⟩
   have ea : xG9 s (xG8 l i) (l.getD i 0 :: l.drop (i + 1)) = false := if_pos (.inl (by omega))
   rw [ea,if_neg (by simp),xOx]
   simp (maxSteps := 30000000) (disch := first | assumption | omega | (simp only [WL,AV.isCell,xAa] <;> omega) | rfl | decide) only [↓reduceIte,WB,xAR,xAc,xAQ,xAD,xAC,AV.cells,AV.isCell,xAb,xAj,xAk,xAs,xAt,xAu,xAv,xAw,xAx,xAL,xAy,xAz,xAl,xAA,xAm,xAn,xAB,xAo,xAp,xAf,Nat.reduceDiv,Nat.reduceMod,WP,xAI,xAF,xAX,xAW,xAV,xAG,xAH,xAE,W2,xAd,xAe,xAi,Nat.reduceAdd,Nat.reduceSub,Nat.reduceLeDiff,Nat.reduceMul,Int.reduceAdd,Int.reduceSub,Int.reduceMul,Int.reduceLT,Int.reduceLE,Int.reduceEq,Int.reduceToNat,Int.reduceNeg,Nat.reduceEqDiff,Nat.reduceBEq,Nat.reduceLT,xAa,xAg,xAY,xAZ,xBb,xBc,xJI,xJJ,hlt,c0]
  by_cases c1 : s ≤ l.getD i 0
  ·refine ⟨i,?_⟩
   have ea : xG9 s (xG8 l i) (l.getD i 0 :: l.drop (i + 1)) = false := if_pos (.inr c1)
   rw [ea,if_neg (by simp),xOx]
   simp (maxSteps := 30000000) (disch := first | assumption | omega | (simp only [WL,AV.isCell,xAa] <;> omega) | rfl | decide) only [↓reduceIte,WB,xAR,xAc,xAQ,xAD,xAC,AV.cells,AV.isCell,xAb,xAj,xAk,xAs,xAt,xAu,xAv,xAw,xAx,xAL,xAy,xAz,xAl,xAA,xAm,xAn,xAB,xAo,xAp,xAf,Nat.reduceDiv,Nat.reduceMod,WP,xAI,xAF,xAX,xAW,xAV,xAG,xAH,xAE,W2,xAd,xAe,xAi,Nat.reduceAdd,Nat.reduceSub,Nat.reduceLeDiff,Nat.reduceMul,Int.reduceAdd,Int.reduceSub,Int.reduceMul,Int.reduceLT,Int.reduceLE,Int.reduceEq,Int.reduceToNat,Int.reduceNeg,Nat.reduceEqDiff,Nat.reduceBEq,Nat.reduceLT,xAa,xAg,xAY,xAZ,xBb,xBc,xJI,xJJ,hlt,c0,c1]
  have hnext : xG8 l (i + 1) = l.getD i 0 := by unfold xG8; rw [if_neg (by omega),Nat.add_sub_cancel]
  by_cases c2 : 0 < i
  ·have c2' : (0 : Int) < (i : Nat) := by omega
   have hlast : xG8 l i = l.getD (i - 1) 0 := if_neg (by omega)
   by_cases c3 : l.getD i 0 ≤ l.getD (i - 1) 0
   ·refine ⟨i,?_⟩
    have ea : xG9 s (xG8 l i) (l.getD i 0 :: l.drop (i + 1)) = false := if_pos (.inl (by omega))
    rw [ea,if_neg (by simp),xOx]
    simp (maxSteps := 30000000) (disch := first | assumption | omega | (simp only [WL,AV.isCell,xAa] <;> omega) | rfl | decide) only [↓reduceIte,WB,xAR,xAc,xAQ,xAD,xAC,AV.cells,AV.isCell,xAb,xAj,xAk,xAs,xAt,xAu,xAv,xAw,xAx,xAL,xAy,xAz,xAl,xAA,xAm,xAn,xAB,xAo,xAp,xAf,Nat.reduceDiv,Nat.reduceMod,WP,xAI,xAF,xAX,xAW,xAV,xAG,xAH,xAE,W2,xAd,xAe,xAi,Nat.reduceAdd,Nat.reduceSub,Nat.reduceLeDiff,Nat.reduceMul,Int.reduceAdd,Int.reduceSub,Int.reduceMul,Int.reduceLT,Int.reduceLE,Int.reduceEq,Int.reduceToNat,Int.reduceNeg,Nat.reduceEqDiff,Nat.reduceBEq,Nat.reduceLT,xAa,xAg,xAY,xAZ,xBb,xBc,xJI,xJJ,hlt,c0,c1,c2',c3]
   ·obtain ⟨i',ih⟩ := xIe (z := z) (s := s) (s4 := s4) (H := H) hl d (i + 1) (by omega) (by rw [hnext]; omega)
    refine ⟨i',?_⟩
    have ea : xG9 s (xG8 l i) (l.getD i 0 :: l.drop (i + 1)) = xG9 s (l.getD i 0) (l.drop (i + 1)) := if_neg (by omega)
    rw [hnext] at ih
    rw [ea,xOx]
    by_cases e : xG9 s (l.getD i 0) (l.drop (i + 1)) = true
    ·rw [if_pos e] at ih ⊢
     simp (maxSteps := 30000000) (disch := first | assumption | omega | (simp only [WL,AV.isCell,xAa] <;> omega) | rfl | decide) only [↓reduceIte,WB,xAR,xAc,xAQ,xAD,xAC,AV.cells,AV.isCell,xAb,xAj,xAk,xAs,xAt,xAu,xAv,xAw,xAx,xAL,xAy,xAz,xAl,xAA,xAm,xAn,xAB,xAo,xAp,xAf,Nat.reduceDiv,Nat.reduceMod,WP,xAI,xAF,xAX,xAW,xAV,xAG,xAH,xAE,W2,xAd,xAe,xAi,Nat.reduceAdd,Nat.reduceSub,Nat.reduceLeDiff,Nat.reduceMul,Int.reduceAdd,Int.reduceSub,Int.reduceMul,Int.reduceLT,Int.reduceLE,Int.reduceEq,Int.reduceToNat,Int.reduceNeg,Nat.reduceEqDiff,Nat.reduceBEq,Nat.reduceLT,xAa,xAg,xAY,xAZ,xBb,xBc,xJI,xJJ,hlt,c0,c1,c2',c3,ih]
    ·rw [if_neg e] at ih ⊢
     simp (maxSteps := 30000000) (disch := first | assumption | omega | (simp only [WL,AV.isCell,xAa] <;> omega) | rfl | decide) only [↓reduceIte,WB,xAR,xAc,xAQ,xAD,xAC,AV.cells,AV.isCell,xAb,xAj,xAk,xAs,xAt,xAu,xAv,xAw,xAx,xAL,xAy,xAz,xAl,xAA,xAm,xAn,xAB,xAo,xAp,xAf,Nat.reduceDiv,Nat.reduceMod,WP,xAI,xAF,xAX,xAW,xAV,xAG,xAH,xAE,W2,xAd,xAe,xAi,Nat.reduceAdd,Nat.reduceSub,Nat.reduceLeDiff,Nat.reduceMul,Int.reduceAdd,Int.reduceSub,Int.reduceMul,Int.reduceLT,Int.reduceLE,Int.reduceEq,Int.reduceToNat,Int.reduceNeg,Nat.reduceEqDiff,Nat.reduceBEq,Nat.reduceLT,xAa,xAg,xAY,xAZ,xBb,xBc,xJI,xJJ,hlt,c0,c1,c2',c3,ih]
  ·have c2' : ¬ (0 : Int) < (i : Nat) := by omega
   have hlast : xG8 l i = -1 := if_pos (by omega)
   obtain ⟨i',ih⟩ := xIe (z := z) (s := s) (s4 := s4) (H := H) hl d (i + 1) (by omega) (by rw [hnext]; omega)
   refine ⟨i',?_⟩
   have ea : xG9 s (xG8 l i) (l.getD i 0 :: l.drop (i + 1)) = xG9 s (l.getD i 0) (l.drop (i + 1)) := if_neg (by omega)
   rw [hnext] at ih
   rw [ea,xOx]
   by_cases e : xG9 s (l.getD i 0) (l.drop (i + 1)) = true
   ·rw [if_pos e] at ih ⊢
    simp (maxSteps := 30000000) (disch := first | assumption | omega | (simp only [WL,AV.isCell,xAa] <;> omega) | rfl | decide) only [↓reduceIte,WB,xAR,xAc,xAQ,xAD,xAC,AV.cells,AV.isCell,xAb,xAj,xAk,xAs,xAt,xAu,xAv,xAw,xAx,xAL,xAy,xAz,xAl,xAA,xAm,xAn,xAB,xAo,xAp,xAf,Nat.reduceDiv,Nat.reduceMod,WP,xAI,xAF,xAX,xAW,xAV,xAG,xAH,xAE,W2,xAd,xAe,xAi,Nat.reduceAdd,Nat.reduceSub,Nat.reduceLeDiff,Nat.reduceMul,Int.reduceAdd,Int.reduceSub,Int.reduceMul,Int.reduceLT,Int.reduceLE,Int.reduceEq,Int.reduceToNat,Int.reduceNeg,Nat.reduceEqDiff,Nat.reduceBEq,Nat.reduceLT,xAa,xAg,xAY,xAZ,xBb,xBc,xJI,xJJ,hlt,c0,c1,c2',ih]
   ·rw [if_neg e] at ih ⊢
    simp (maxSteps := 30000000) (disch := first | assumption | omega | (simp only [WL,AV.isCell,xAa] <;> omega) | rfl | decide) only [↓reduceIte,WB,xAR,xAc,xAQ,xAD,xAC,AV.cells,AV.isCell,xAb,xAj,xAk,xAs,xAt,xAu,xAv,xAw,xAx,xAL,xAy,xAz,xAl,xAA,xAm,xAn,xAB,xAo,xAp,xAf,Nat.reduceDiv,Nat.reduceMod,WP,xAI,xAF,xAX,xAW,xAV,xAG,xAH,xAE,W2,xAd,xAe,xAi,Nat.reduceAdd,Nat.reduceSub,Nat.reduceLeDiff,Nat.reduceMul,Int.reduceAdd,Int.reduceSub,Int.reduceMul,Int.reduceLT,Int.reduceLE,Int.reduceEq,Int.reduceToNat,Int.reduceNeg,Nat.reduceEqDiff,Nat.reduceBEq,Nat.reduceLT,xAa,xAg,xAY,xAZ,xBb,xBc,xJI,xJJ,hlt,c0,c1,c2',ih]
theorem xYs (z : Bool) (l : List Int) (s : Int) (hl : l.length < 1099511627776) : L.pcall 33 [iw z l,.int .i64 s] = some (.bool (xG9 s (-1) l)) := by
 obtain ⟨i',h⟩ := xIe (z := z) (s := s) (s4 := .bool false) (H := []) hl l.length 0 (by omega) (by unfold xG8; rw [if_pos rfl]; omega)
 simp only [Int.natCast_zero,List.drop_zero,show xG8 l 0 = -1 from rfl] at h
 rw [yEp,a33,xAK]
 by_cases e : xG9 s (-1) l = true
 ·rw [if_pos e] at h
  rw [e]
  simp (maxSteps := 30000000) (disch := first | assumption | omega | (simp only [WL,AV.isCell,xAa] <;> omega) | rfl | decide) only [↓reduceIte,WB,xAR,xAc,xAQ,xAD,xAC,AV.cells,AV.isCell,xAb,xAj,xAk,xAs,xAt,xAu,xAv,xAw,xAx,xAL,xAy,xAz,xAl,xAA,xAm,xAn,xAB,xAo,xAp,xAf,Nat.reduceDiv,Nat.reduceMod,WP,xAI,xAF,xAX,xAW,xAV,xAG,xAH,xAE,W2,xAd,xAe,xAi,Nat.reduceAdd,Nat.reduceSub,Nat.reduceLeDiff,Nat.reduceMul,Int.reduceAdd,Int.reduceSub,Int.reduceMul,Int.reduceLT,Int.reduceLE,Int.reduceEq,Int.reduceToNat,Int.reduceNeg,Nat.reduceEqDiff,Nat.reduceBEq,Nat.reduceLT,xAa,xAg,xAY,xAZ,xBb,xBc,xJJ,h]
 ·rw [if_neg e] at h
  have e' : xG9 s (-1) l = false := by simpa using e
  rw [e']
  simp (maxSteps := 30000000) (disch := first | assumption | omega | (simp only [WL,AV.isCell,xAa] <;> omega) | rfl | decide) only [↓reduceIte,WB,xAR,xAc,xAQ,xAD,xAC,AV.cells,AV.isCell,xAb,xAj,xAk,xAs,xAt,xAu,xAv,xAw,xAx,xAL,xAy,xAz,xAl,xAA,xAm,xAn,xAB,xAo,xAp,xAf,Nat.reduceDiv,Nat.reduceMod,WP,xAI,xAF,xAX,xAW,xAV,xAG,xAH,xAE,W2,xAd,xAe,xAi,Nat.reduceAdd,Nat.reduceSub,Nat.reduceLeDiff,Nat.reduceMul,Int.reduceAdd,Int.reduceSub,Int.reduceMul,Int.reduceLT,Int.reduceLE,Int.reduceEq,Int.reduceToNat,Int.reduceNeg,Nat.reduceEqDiff,Nat.reduceBEq,Nat.reduceLT,xAa,xAg,xAY,xAZ,xBb,xBc,xJJ,h]
theorem xNI {v : Nat} {s : Int} {z : Bool} {ed : List Ed} {s6 : AV} {H : Heap} (hv : v ≤ 6) (hl : ed.length < 1099511627776) (hb : ∀ e ∈ ed,e.p < 256 ∧ e.n < 256) : ∀ d i,i + d = ed.length →
  ∃ i' : Nat,L.loop xRQ xZw ⟨xOy (.sl z ed.length (edges ed)) (.int .i64 (v : Nat)) (.int .i64 s) s6 (.int .i64 (i : Nat)),H⟩ =
   some (if xCW s v (ed.drop i) = 0 then (.exit 0,⟨xOy (.sl z ed.length (edges ed)) (.int .i64 (v : Nat)) (.int .i64 s) s6 (.int .i64 (ed.length : Nat)),H⟩)
    else (.ret,⟨xOy (.sl z ed.length (edges ed)) (.int .i64 (v : Nat)) (.int .i64 s) (.int .i64 (xCW s v (ed.drop i))) (.int .i64 (i' : Nat)),H⟩))
 | 0,i,h => by
  obtain rfl : i = ed.length := by omega
  refine ⟨0,?_⟩
  rw [if_pos (by rw [List.drop_length]; rfl),xNg]
  simp (maxSteps := 30000000) (disch := first | assumption | omega | (simp only [WL,AV.isCell,xAa] <;> omega) | rfl | decide) only [↓reduceIte,WB,xAR,xAc,xAQ,xAD,xAC,AV.cells,AV.isCell,xAb,xAj,xAk,xAs,xAt,xAu,xAv,xAw,xAx,xAL,xAy,xAz,xAl,xAA,xAm,xAn,xAB,xAo,xAp,xAf,Nat.reduceDiv,Nat.reduceMod,WP,xAI,xAF,xAX,xAW,xAV,xAG,xAH,xAE,W2,xAd,xAe,xAi,Nat.reduceAdd,Nat.reduceSub,Nat.reduceLeDiff,Nat.reduceMul,Int.reduceAdd,Int.reduceSub,Int.reduceMul,Int.reduceLT,Int.reduceLE,Int.reduceEq,Int.reduceToNat,Int.reduceNeg,Nat.reduceEqDiff,Nat.reduceBEq,Nat.reduceLT,xAa,xAg,xAY,xAZ,xBb,xBc,xJK,xJL]
 | d + 1,i,h => by
  have hlt : (i : Int) < (ed.length : Nat) := by omega
  have hm := hb _ (xFB (by omega : i < ed.length))
  have hcube := yDK v (ed.getD i e0).p (ed.getD i e0).n hv hm.1 hm.2
  rw [xCV (by omega : i < ed.length)]
  have bad : (min (ed.getD i e0).a (ed.getD i e0).b < 0 ∨ s ≤ max (ed.getD i e0).a (ed.getD i e0).b) → xCW s v (ed.getD i e0 :: ed.drop (i + 1)) = 8 := fun h => by
   have ee : xHA s v (ed.getD i e0) = 8 := if_pos h
   rw [xHa (by rw [ee]; omega),ee]
  by_cases c1 : (ed.getD i e0).a < 0
  ·refine ⟨i,?_⟩
   rw [bad (.inl (by omega)),if_neg (by omega),xNg]
   simp (maxSteps := 30000000) (disch := first | assumption | omega | (simp only [WL,AV.isCell,xAa] <;> omega) | rfl | decide) only [↓reduceIte,WB,xAR,xAc,xAQ,xAD,xAC,AV.cells,AV.isCell,xAb,xAj,xAk,xAs,xAt,xAu,xAv,xAw,xAx,xAL,xAy,xAz,xAl,xAA,xAm,xAn,xAB,xAo,xAp,xAf,Nat.reduceDiv,Nat.reduceMod,WP,xAI,xAF,xAX,xAW,xAV,xAG,xAH,xAE,W2,xAd,xAe,xAi,Nat.reduceAdd,Nat.reduceSub,Nat.reduceLeDiff,Nat.reduceMul,Int.reduceAdd,Int.reduceSub,Int.reduceMul,Int.reduceLT,Int.reduceLE,Int.reduceEq,Int.reduceToNat,Int.reduceNeg,Nat.reduceEqDiff,Nat.reduceBEq,Nat.reduceLT,xAa,xAg,xAY,xAZ,xBb,xBc,xJK,xJL,hlt,c1]
  by_cases c2 : s ≤ (ed.getD i e0).a
  ·refine ⟨i,?_⟩
   rw [bad (.inr (by omega)),if_neg (by omega),xNg]
   simp (maxSteps := 30000000) (disch := first | assumption | omega | (simp only [WL,AV.isCell,xAa] <;> omega) | rfl | decide) only [↓reduceIte,WB,xAR,xAc,xAQ,xAD,xAC,AV.cells,AV.isCell,xAb,xAj,xAk,xAs,xAt,xAu,xAv,xAw,xAx,xAL,xAy,xAz,xAl,xAA,xAm,xAn,xAB,xAo,xAp,xAf,Nat.reduceDiv,Nat.reduceMod,WP,xAI,xAF,xAX,xAW,xAV,xAG,xAH,xAE,W2,xAd,xAe,xAi,Nat.reduceAdd,Nat.reduceSub,Nat.reduceLeDiff,Nat.reduceMul,Int.reduceAdd,Int.reduceSub,Int.reduceMul,Int.reduceLT,Int.reduceLE,Int.reduceEq,Int.reduceToNat,Int.reduceNeg,Nat.reduceEqDiff,Nat.reduceBEq,Nat.reduceLT,xAa,xAg,xAY,xAZ,xBb,xBc,xJK,xJL,hlt,c1,c2]
  by_cases c3 : (ed.getD i e0).b < 0
  ·refine ⟨i,?_⟩
   rw [bad (.inl (by omega)),if_neg (by omega),xNg]
   simp (maxSteps := 30000000) (disch := first | assumption | omega | (simp only [WL,AV.isCell,xAa] <;> omega) | rfl | decide) only [↓reduceIte,WB,xAR,xAc,xAQ,xAD,xAC,AV.cells,AV.isCell,xAb,xAj,xAk,xAs,xAt,xAu,xAv,xAw,xAx,xAL,xAy,xAz,xAl,xAA,xAm,xAn,xAB,xAo,xAp,xAf,Nat.reduceDiv,Nat.reduceMod,WP,xAI,xAF,xAX,xAW,xAV,xAG,xAH,xAE,W2,xAd,xAe,xAi,Nat.reduceAdd,Nat.reduceSub,Nat.reduceLeDiff,Nat.reduceMul,Int.reduceAdd,Int.reduceSub,Int.reduceMul,Int.reduceLT,Int.reduceLE,Int.reduceEq,Int.reduceToNat,Int.reduceNeg,Nat.reduceEqDiff,Nat.reduceBEq,Nat.reduceLT,xAa,xAg,xAY,xAZ,xBb,xBc,xJK,xJL,hlt,c1,c2,c3]
  by_cases c4 : s ≤ (ed.getD i e0).b
  ·refine ⟨i,?_⟩
   rw [bad (.inr (by omega)),if_neg (by omega),xNg]
   simp (maxSteps := 30000000) (disch := first | assumption | omega | (simp only [WL,AV.isCell,xAa] <;> omega) | rfl | decide) only [↓reduceIte,WB,xAR,xAc,xAQ,xAD,xAC,AV.cells,AV.isCell,xAb,xAj,xAk,xAs,xAt,xAu,xAv,xAw,xAx,xAL,xAy,xAz,xAl,xAA,xAm,xAn,xAB,xAo,xAp,xAf,Nat.reduceDiv,Nat.reduceMod,WP,xAI,xAF,xAX,xAW,xAV,xAG,xAH,xAE,W2,xAd,xAe,xAi,Nat.reduceAdd,Nat.reduceSub,Nat.reduceLeDiff,Nat.reduceMul,Int.reduceAdd,Int.reduceSub,Int.reduceMul,Int.reduceLT,Int.reduceLE,Int.reduceEq,Int.reduceToNat,Int.reduceNeg,Nat.reduceEqDiff,Nat.reduceBEq,Nat.reduceLT,xAa,xAg,xAY,xAZ,xBb,xBc,xJK,xJL,hlt,c1,c2,c3,c4]
  have ee : xHA s v (ed.getD i e0) = xFK v (ed.getD i e0).p (ed.getD i e0).n := if_neg (by omega)
  by_cases c5 : xFK v (ed.getD i e0).p (ed.getD i e0).n = 0
  ·obtain ⟨i',ih⟩ := xNI (z := z) (s := s) (s6 := s6) (H := H) hv hl hb d (i + 1) (by omega)
   refine ⟨i',?_⟩
   rw [c5] at hcube
   rw [xKv (by rw [ee]; exact c5),xNg]
   by_cases e : xCW s v (ed.drop (i + 1)) = 0
   ·rw [if_pos e] at ih ⊢
    simp (maxSteps := 30000000) (disch := first | assumption | omega | (simp only [WL,AV.isCell,xAa] <;> omega) | rfl | decide) only [↓reduceIte,WB,xAR,xAc,xAQ,xAD,xAC,AV.cells,AV.isCell,xAb,xAj,xAk,xAs,xAt,xAu,xAv,xAw,xAx,xAL,xAy,xAz,xAl,xAA,xAm,xAn,xAB,xAo,xAp,xAf,Nat.reduceDiv,Nat.reduceMod,WP,xAI,xAF,xAX,xAW,xAV,xAG,xAH,xAE,W2,xAd,xAe,xAi,Nat.reduceAdd,Nat.reduceSub,Nat.reduceLeDiff,Nat.reduceMul,Int.reduceAdd,Int.reduceSub,Int.reduceMul,Int.reduceLT,Int.reduceLE,Int.reduceEq,Int.reduceToNat,Int.reduceNeg,Nat.reduceEqDiff,Nat.reduceBEq,Nat.reduceLT,xAa,xAg,xAY,xAZ,xBb,xBc,xJK,xJL,hlt,c1,c2,c3,c4,hcube,ih]
   ·rw [if_neg e] at ih ⊢
    simp (maxSteps := 30000000) (disch := first | assumption | omega | (simp only [WL,AV.isCell,xAa] <;> omega) | rfl | decide) only [↓reduceIte,WB,xAR,xAc,xAQ,xAD,xAC,AV.cells,AV.isCell,xAb,xAj,xAk,xAs,xAt,xAu,xAv,xAw,xAx,xAL,xAy,xAz,xAl,xAA,xAm,xAn,xAB,xAo,xAp,xAf,Nat.reduceDiv,Nat.reduceMod,WP,xAI,xAF,xAX,xAW,xAV,xAG,xAH,xAE,W2,xAd,xAe,xAi,Nat.reduceAdd,Nat.reduceSub,Nat.reduceLeDiff,Nat.reduceMul,Int.reduceAdd,Int.reduceSub,Int.reduceMul,Int.reduceLT,Int.reduceLE,Int.reduceEq,Int.reduceToNat,Int.reduceNeg,Nat.reduceEqDiff,Nat.reduceBEq,Nat.reduceLT,xAa,xAg,xAY,xAZ,xBb,xBc,xJK,xJL,hlt,c1,c2,c3,c4,hcube,ih]
  ·refine ⟨i,?_⟩
   rw [xHa (by rw [ee]; exact c5),ee,if_neg c5,xNg]
   simp (maxSteps := 30000000) (disch := first | assumption | omega | (simp only [WL,AV.isCell,xAa] <;> omega) | rfl | decide) only [↓reduceIte,WB,xAR,xAc,xAQ,xAD,xAC,AV.cells,AV.isCell,xAb,xAj,xAk,xAs,xAt,xAu,xAv,xAw,xAx,xAL,xAy,xAz,xAl,xAA,xAm,xAn,xAB,xAo,xAp,xAf,Nat.reduceDiv,Nat.reduceMod,WP,xAI,xAF,xAX,xAW,xAV,xAG,xAH,xAE,W2,xAd,xAe,xAi,Nat.reduceAdd,Nat.reduceSub,Nat.reduceLeDiff,Nat.reduceMul,Int.reduceAdd,Int.reduceSub,Int.reduceMul,Int.reduceLT,Int.reduceLE,Int.reduceEq,Int.reduceToNat,Int.reduceNeg,Nat.reduceEqDiff,Nat.reduceBEq,Nat.reduceLT,xAa,xAg,xAY,xAZ,xBb,xBc,xJK,xJL,hlt,c1,c2,c3,c4,c5,hcube]
theorem yCO (v : Nat) (s : Int) (z : Bool) (ed : List Ed) (hv : v ≤ 6) (hl : ed.length < 1099511627776) (hb : ∀ e ∈ ed,e.p < 256 ∧ e.n < 256) : L.pcall 34 [.sl z ed.length (edges ed),.int .i64 (v : Nat),.int .i64 s] = some (.int .i64 (xCW s v ed)) := by
 obtain ⟨i',h⟩ := xNI (z := z) (s := s) (s6 := .int .i64 0) (H := []) hv hl hb ed.length 0 (by omega)
 simp only [Int.natCast_zero,List.drop_zero] at h
 rw [yEq,a34,xAK]
 by_cases e : xCW s v ed = 0
 ·rw [if_pos e] at h
  rw [e]
  simp (maxSteps := 30000000) (disch := first | assumption | omega | (simp only [WL,AV.isCell,xAa] <;> omega) | rfl | decide) only [↓reduceIte,WB,xAR,xAc,xAQ,xAD,xAC,AV.cells,AV.isCell,xAb,xAj,xAk,xAs,xAt,xAu,xAv,xAw,xAx,xAL,xAy,xAz,xAl,xAA,xAm,xAn,xAB,xAo,xAp,xAf,Nat.reduceDiv,Nat.reduceMod,WP,xAI,xAF,xAX,xAW,xAV,xAG,xAH,xAE,W2,xAd,xAe,xAi,Nat.reduceAdd,Nat.reduceSub,Nat.reduceLeDiff,Nat.reduceMul,Int.reduceAdd,Int.reduceSub,Int.reduceMul,Int.reduceLT,Int.reduceLE,Int.reduceEq,Int.reduceToNat,Int.reduceNeg,Nat.reduceEqDiff,Nat.reduceBEq,Nat.reduceLT,xAa,xAg,xAY,xAZ,xBb,xBc,xJL,h]
 ·rw [if_neg e] at h
  simp (maxSteps := 30000000) (disch := first | assumption | omega | (simp only [WL,AV.isCell,xAa] <;> omega) | rfl | decide) only [↓reduceIte,WB,xAR,xAc,xAQ,xAD,xAC,AV.cells,AV.isCell,xAb,xAj,xAk,xAs,xAt,xAu,xAv,xAw,xAx,xAL,xAy,xAz,xAl,xAA,xAm,xAn,xAB,xAo,xAp,xAf,Nat.reduceDiv,Nat.reduceMod,WP,xAI,xAF,xAX,xAW,xAV,xAG,xAH,xAE,W2,xAd,xAe,xAi,Nat.reduceAdd,Nat.reduceSub,Nat.reduceLeDiff,Nat.reduceMul,Int.reduceAdd,Int.reduceSub,Int.reduceMul,Int.reduceLT,Int.reduceLE,Int.reduceEq,Int.reduceToNat,Int.reduceNeg,Nat.reduceEqDiff,Nat.reduceBEq,Nat.reduceLT,xAa,xAg,xAY,xAZ,xBb,xBc,xJL,h]
theorem yCP (v : Int) : L.pcall 32 [.int .i64 v] = some (.bool (decide (0 ≤ v) && decide (v ≤ 6))) := by
 rw [yEo,a32,xAK]
 by_cases c1 : 0 ≤ v <;> by_cases c2 : v ≤ 6 <;> simp (maxSteps := 30000000) (disch := first | assumption | omega | (simp only [WL,AV.isCell,xAa] <;> omega) | rfl | decide) only [↓reduceIte,WB,xAR,xAc,xAQ,xAD,xAC,AV.cells,AV.isCell,xAb,xAj,xAk,xAs,xAt,xAu,xAv,xAw,xAx,xAL,xAy,xAz,xAl,xAA,xAm,xAn,xAB,xAo,xAp,xAf,Nat.reduceDiv,Nat.reduceMod,WP,xAI,xAF,xAX,xAW,xAV,xAG,xAH,xAE,W2,xAd,xAe,xAi,Nat.reduceAdd,Nat.reduceSub,Nat.reduceLeDiff,Nat.reduceMul,Int.reduceAdd,Int.reduceSub,Int.reduceMul,Int.reduceLT,Int.reduceLE,Int.reduceEq,Int.reduceToNat,Int.reduceNeg,Nat.reduceEqDiff,Nat.reduceBEq,Nat.reduceLT,xAa,xAg,xAY,xAZ,xBb,xBc,c1,c2]
set_option maxHeartbeats 2000000 in
theorem xIf (n : Aut) (hf : Fits n) : L.pcall 8 [n.av] = some (.int .i64 (xHc n)) := by
 have h1 := yCP n.vars
 have h2 := xYs n.z1 n.st n.states hf.l1
 have h3 := xYs n.z2 n.fi n.states hf.l2
 have e5 : ((512 : Int) < (n.ed.length : Nat)) = (512 < n.ed.length) := propext ⟨fun h => by omega,fun h => by omega⟩
 unfold xHc
 rw [a8p,a8,xAK]
 by_cases d1 : (decide (n.vars < 0) || decide (6 < n.vars)) = true
 ·rw [if_pos d1]
  have hb : (decide (0 ≤ n.vars) && decide (n.vars ≤ 6)) = false := by
   simp only [Bool.or_eq_true,decide_eq_true_eq] at d1
   rw [Bool.and_eq_false_iff,decide_eq_false_iff_not,decide_eq_false_iff_not]; omega
  rw [hb] at h1
  simp (maxSteps := 30000000) (disch := first | assumption | omega | (simp only [WL,AV.isCell,xAa] <;> omega) | rfl | decide) only [↓reduceIte,WB,xAR,xAc,xAQ,xAD,xAC,AV.cells,AV.isCell,xAb,xAj,xAk,xAs,xAt,xAu,xAv,xAw,xAx,xAL,xAy,xAz,xAl,xAA,xAm,xAn,xAB,xAo,xAp,xAf,Nat.reduceDiv,Nat.reduceMod,WP,xAI,xAF,xAX,xAW,xAV,xAG,xAH,xAE,W2,xAd,xAe,xAi,Nat.reduceAdd,Nat.reduceSub,Nat.reduceLeDiff,Nat.reduceMul,Int.reduceAdd,Int.reduceSub,Int.reduceMul,Int.reduceLT,Int.reduceLE,Int.reduceEq,Int.reduceToNat,Int.reduceNeg,Nat.reduceEqDiff,Nat.reduceBEq,Nat.reduceLT,xAa,xAg,xAY,xAZ,xBb,xBc,h1]
 rw [if_neg d1]
 have d1' : ¬ n.vars < 0 ∧ ¬ 6 < n.vars := by simpa using d1
 have hb : (decide (0 ≤ n.vars) && decide (n.vars ≤ 6)) = true := by
  rw [Bool.and_eq_true,decide_eq_true_eq,decide_eq_true_eq]; omega
 rw [hb] at h1
 by_cases d2 : n.states < 0
 ·rw [if_pos d2]
  simp (maxSteps := 30000000) (disch := first | assumption | omega | (simp only [WL,AV.isCell,xAa] <;> omega) | rfl | decide) only [↓reduceIte,WB,xAR,xAc,xAQ,xAD,xAC,AV.cells,AV.isCell,xAb,xAj,xAk,xAs,xAt,xAu,xAv,xAw,xAx,xAL,xAy,xAz,xAl,xAA,xAm,xAn,xAB,xAo,xAp,xAf,Nat.reduceDiv,Nat.reduceMod,WP,xAI,xAF,xAX,xAW,xAV,xAG,xAH,xAE,W2,xAd,xAe,xAi,Nat.reduceAdd,Nat.reduceSub,Nat.reduceLeDiff,Nat.reduceMul,Int.reduceAdd,Int.reduceSub,Int.reduceMul,Int.reduceLT,Int.reduceLE,Int.reduceEq,Int.reduceToNat,Int.reduceNeg,Nat.reduceEqDiff,Nat.reduceBEq,Nat.reduceLT,xAa,xAg,xAY,xAZ,xBb,xBc,h1,d2]
 rw [if_neg d2]
 by_cases d3 : 64 < n.states
 ·rw [if_pos (by simp [d3])]
  simp (maxSteps := 30000000) (disch := first | assumption | omega | (simp only [WL,AV.isCell,xAa] <;> omega) | rfl | decide) only [↓reduceIte,WB,xAR,xAc,xAQ,xAD,xAC,AV.cells,AV.isCell,xAb,xAj,xAk,xAs,xAt,xAu,xAv,xAw,xAx,xAL,xAy,xAz,xAl,xAA,xAm,xAn,xAB,xAo,xAp,xAf,Nat.reduceDiv,Nat.reduceMod,WP,xAI,xAF,xAX,xAW,xAV,xAG,xAH,xAE,W2,xAd,xAe,xAi,Nat.reduceAdd,Nat.reduceSub,Nat.reduceLeDiff,Nat.reduceMul,Int.reduceAdd,Int.reduceSub,Int.reduceMul,Int.reduceLT,Int.reduceLE,Int.reduceEq,Int.reduceToNat,Int.reduceNeg,Nat.reduceEqDiff,Nat.reduceBEq,Nat.reduceLT,xAa,xAg,xAY,xAZ,xBb,xBc,h1,d2,d3]
 by_cases d4 : 512 < n.ed.length
 ·rw [if_pos (by simp [d4])]
  simp (maxSteps := 30000000) (disch := first | assumption | omega | (simp only [WL,AV.isCell,xAa] <;> omega) | rfl | decide) only [↓reduceIte,WB,xAR,xAc,xAQ,xAD,xAC,AV.cells,AV.isCell,xAb,xAj,xAk,xAs,xAt,xAu,xAv,xAw,xAx,xAL,xAy,xAz,xAl,xAA,xAm,xAn,xAB,xAo,xAp,xAf,Nat.reduceDiv,Nat.reduceMod,WP,xAI,xAF,xAX,xAW,xAV,xAG,xAH,xAE,W2,xAd,xAe,xAi,Nat.reduceAdd,Nat.reduceSub,Nat.reduceLeDiff,Nat.reduceMul,Int.reduceAdd,Int.reduceSub,Int.reduceMul,Int.reduceLT,Int.reduceLE,Int.reduceEq,Int.reduceToNat,Int.reduceNeg,Nat.reduceEqDiff,Nat.reduceBEq,Nat.reduceLT,xAa,xAg,xAY,xAZ,xBb,xBc,h1,d2,d3,e5,d4]
 rw [if_neg (by simp; omega)]
 obtain ⟨v,hv⟩ : ∃ v : Nat,n.vars = (v : Nat) := ⟨n.vars.toNat,by omega⟩
 have h4 := yCO v n.states n.z3 n.ed (by omega) hf.l3 hf.by_
 have hvn : n.vars.toNat = v := by omega
 rw [hvn]
 cases b1 : xG9 n.states (-1) n.st with
 | false =>
  rw [b1] at h2
  rw [if_pos (by rfl)]
  simp (maxSteps := 30000000) (disch := first | assumption | omega | (simp only [WL,AV.isCell,xAa] <;> omega) | rfl | decide) only [↓reduceIte,WB,xAR,xAc,xAQ,xAD,xAC,AV.cells,AV.isCell,xAb,xAj,xAk,xAs,xAt,xAu,xAv,xAw,xAx,xAL,xAy,xAz,xAl,xAA,xAm,xAn,xAB,xAo,xAp,xAf,Nat.reduceDiv,Nat.reduceMod,WP,xAI,xAF,xAX,xAW,xAV,xAG,xAH,xAE,W2,xAd,xAe,xAi,Nat.reduceAdd,Nat.reduceSub,Nat.reduceLeDiff,Nat.reduceMul,Int.reduceAdd,Int.reduceSub,Int.reduceMul,Int.reduceLT,Int.reduceLE,Int.reduceEq,Int.reduceToNat,Int.reduceNeg,Nat.reduceEqDiff,Nat.reduceBEq,Nat.reduceLT,xAa,xAg,xAY,xAZ,xBb,xBc,h1,d2,d3,e5,d4,h2]
 | true =>
  rw [b1] at h2
  cases b2 : xG9 n.states (-1) n.fi with
  | false =>
   rw [b2] at h3
   rw [if_pos (by rfl)]
   simp (maxSteps := 30000000) (disch := first | assumption | omega | (simp only [WL,AV.isCell,xAa] <;> omega) | rfl | decide) only [↓reduceIte,WB,xAR,xAc,xAQ,xAD,xAC,AV.cells,AV.isCell,xAb,xAj,xAk,xAs,xAt,xAu,xAv,xAw,xAx,xAL,xAy,xAz,xAl,xAA,xAm,xAn,xAB,xAo,xAp,xAf,Nat.reduceDiv,Nat.reduceMod,WP,xAI,xAF,xAX,xAW,xAV,xAG,xAH,xAE,W2,xAd,xAe,xAi,Nat.reduceAdd,Nat.reduceSub,Nat.reduceLeDiff,Nat.reduceMul,Int.reduceAdd,Int.reduceSub,Int.reduceMul,Int.reduceLT,Int.reduceLE,Int.reduceEq,Int.reduceToNat,Int.reduceNeg,Nat.reduceEqDiff,Nat.reduceBEq,Nat.reduceLT,xAa,xAg,xAY,xAZ,xBb,xBc,h1,d2,d3,e5,d4,h2,h3]
  | true =>
   rw [b2] at h3
   rw [if_neg (by simp)]
   rw [hv] at h1
   simp (maxSteps := 30000000) (disch := first | assumption | omega | (simp only [WL,AV.isCell,xAa] <;> omega) | rfl | decide) only [↓reduceIte,WB,xAR,xAc,xAQ,xAD,xAC,AV.cells,AV.isCell,xAb,xAj,xAk,xAs,xAt,xAu,xAv,xAw,xAx,xAL,xAy,xAz,xAl,xAA,xAm,xAn,xAB,xAo,xAp,xAf,Nat.reduceDiv,Nat.reduceMod,WP,xAI,xAF,xAX,xAW,xAV,xAG,xAH,xAE,W2,xAd,xAe,xAi,Nat.reduceAdd,Nat.reduceSub,Nat.reduceLeDiff,Nat.reduceMul,Int.reduceAdd,Int.reduceSub,Int.reduceMul,Int.reduceLT,Int.reduceLE,Int.reduceEq,Int.reduceToNat,Int.reduceNeg,Nat.reduceEqDiff,Nat.reduceBEq,Nat.reduceLT,xAa,xAg,xAY,xAZ,xBb,xBc,h1,d2,d3,e5,d4,h2,h3,hv,h4]
def xFL (l : List Nat) (N : Nat) : List Int := List.map Int.ofNat (List.filter (fun j => mem l j) (List.range N))
theorem xYt (l : List Nat) (N : Nat) : xFL l (N + 1) = xFL l N ++ if mem l N = true then [(N : Int)] else [] := by
 unfold xFL
 rw [List.range_succ,List.filter_append,List.map_append]
 congr 1
 by_cases h : mem l N = true
 ·simp [h]
 ·simp [h]
theorem xQE (l : List Nat) (N : Nat) : (xFL l N).length ≤ N := by
 unfold xFL
 rw [List.length_map]
 exact Nat.le_trans (List.length_filter_le _ _) (by simp)
theorem xZ8 {l : List Nat} {i k : Nat} (hi : i < 64) (hk : k < 64) : ((((l.getD i 0 : Nat) : Int).fdiv (2 ^ min k IntKind.u64.bits)).tmod 2 = 1) = (mem l (64 * i + k) = true) := by
 rw [xQI hi hk,show min k IntKind.u64.bits = k from Nat.min_eq_left (by show k ≤ 64; omega)]
 generalize l.getD i 0 = x
 have h1 : ((x : Nat) : Int).fdiv (2 ^ k) = ((x / 2 ^ k : Nat) : Int) := by
  rw [Int.fdiv_eq_ediv_of_nonneg _ (Int.le_of_lt (Int.pow_pos (by omega)))]
  simp
 rw [h1,show ((x / 2 ^ k : Nat) : Int).tmod 2 = ((x / 2 ^ k % 2 : Nat) : Int) from rfl,Nat.testBit_eq_decide_div_mod_eq,decide_eq_true_eq]
 exact propext ⟨fun h => by omega,fun h => by omega⟩
def yC5 (b : Nat) (T : Heap) (v : AV) (l : List Int) : Prop := (v = .sl true 0 [] ∧ l = []) ∨ ∃ k,v = .own false (k + b) 0 l.length 1 ∧ T[k]? = some (.cells false false (xBd l))
theorem xKt {z : Bool} {l : List Nat} {i : Nat} (hi : i < 64) (hil : i < l.length) (hl : l.length < 1099511627776) (hW : W l) : ∀ d k T v,k + d = 64 → yC5 0 T v (xFL l (64 * i + k)) →
  ∃ T' v',L.loop xRS xZx ⟨xRT (sw z l) v (.int .i64 (i : Nat)) (.int .i64 (k : Nat)),T⟩ = some (.exit 2,⟨xRT (sw z l) v' (.int .i64 (i : Nat)) (.int .i64 64),T'⟩) ∧ yC5 0 T' v' (xFL l (64 * i + 64))
 | 0,k,T,v,h,hO => by
  obtain rfl : k = 64 := by omega
  refine ⟨T,v,?_,hO⟩
  rw [xUx]
  simp (maxSteps := 30000000) (disch := first | assumption | omega | (simp only [WL,AV.isCell,xAa] <;> omega) | rfl | decide) only [↓reduceIte,WB,xAR,xAc,xAQ,xAD,xAC,AV.cells,AV.isCell,xAb,xAj,xAk,xAs,xAt,xAu,xAv,xAw,xAx,xAL,xAy,xAz,xAl,xAA,xAm,xAn,xAB,xAo,xAp,xAf,Nat.reduceDiv,Nat.reduceMod,WP,xAI,xAF,xAX,xAW,xAV,xAG,xAH,xAE,W2,xAd,xAe,xAi,Nat.reduceAdd,Nat.reduceSub,Nat.reduceLeDiff,Nat.reduceMul,Int.reduceAdd,Int.reduceSub,Int.reduceMul,Int.reduceLT,Int.reduceLE,Int.reduceEq,Int.reduceToNat,Int.reduceNeg,Nat.reduceEqDiff,Nat.reduceBEq,Nat.reduceLT,xAa,xAg,xOG,xRU]
 | d + 1,k,T,v,h,hO => by
  have hlt : (k : Int) < 64 := by omega
  have hs := xYt l (64 * i + k)
  have hk : k < 64 := by omega
  have hll := xQE l (64 * i + k)
  have hn : 64 * (i : Int) + (k : Int) = ((64 * i + k : Nat) : Int) := by omega
  have hbit := xZ8 (l := l) hi hk
  by_cases e : mem l (64 * i + k) = true
  ·rw [if_pos e] at hs
   have hsl : (xFL l (64 * i + k + 1)).length = (xFL l (64 * i + k)).length + 1 := by rw [hs]; simp
   rw [e] at hbit
   rcases hO with ⟨rfl,h0⟩ | ⟨m,rfl,hm⟩
   ·rw [h0] at hs hsl
    obtain ⟨T',v',g1,g2⟩ := xKt (z := z) hi hil hl hW d (k + 1) (T ++ [.cells false false (xBd (xFL l (64 * i + (k + 1))))]) (.own false T.length 0 1 1) (by omega) (.inr ⟨T.length,by rw [← Nat.add_assoc,hsl]; rfl,by simp⟩)
    refine ⟨T',v',?_,g2⟩
    have hi2 : xBd (xFL l (64 * i + (k + 1))) = [AV.int .i64 ((64 * i + k : Nat) : Int)] := by rw [← Nat.add_assoc,hs]; rfl
    rw [hi2] at g1
    rw [xUx]
    simp (maxSteps := 30000000) (disch := first | assumption | omega | (simp only [WL,AV.isCell,xAa] <;> omega) | rfl | decide) only [↓reduceIte,WB,xAR,xAc,xAQ,xAD,xAC,AV.cells,AV.isCell,xAb,xAj,xAk,xAs,xAt,xAu,xAv,xAw,xAx,xAL,xAy,xAz,xAl,xAA,xAm,xAn,xAB,xAo,xAp,xAf,Nat.reduceDiv,Nat.reduceMod,WP,xAI,xAF,xAX,xAW,xAV,xAG,xAH,xAE,W2,xAd,xAe,xAi,Nat.reduceAdd,Nat.reduceSub,Nat.reduceLeDiff,Nat.reduceMul,Int.reduceAdd,Int.reduceSub,Int.reduceMul,Int.reduceLT,Int.reduceLE,Int.reduceEq,Int.reduceToNat,Int.reduceNeg,Nat.reduceEqDiff,Nat.reduceBEq,Nat.reduceLT,xAa,xAg,xOG,xRU,hlt,hbit,hn,g1]
   ·have hml := (List.getElem?_eq_some_iff.1 hm).1
    obtain ⟨T',v',g1,g2⟩ := xKt (z := z) hi hil hl hW d (k + 1) (T.set m .dead ++ [.cells false false (xBd (xFL l (64 * i + (k + 1))))]) (.own false T.length 0 ((xFL l (64 * i + k)).length + 1) 1) (by omega) (.inr ⟨T.length,by rw [← Nat.add_assoc,hsl]; rfl,by simp⟩)
    refine ⟨T',v',?_,g2⟩
    have hi2 : xBd (xFL l (64 * i + (k + 1))) = xBd (xFL l (64 * i + k)) ++ [AV.int .i64 ((64 * i + k : Nat) : Int)] := by rw [← Nat.add_assoc,hs,← xHs]; rfl
    rw [hi2] at g1
    rw [xUx]
    simp (maxSteps := 30000000) (disch := first | assumption | omega | (simp only [WL,AV.isCell,xAa] <;> omega) | rfl | decide) only [↓reduceIte,WB,xAR,xAc,xAQ,xAD,xAC,AV.cells,AV.isCell,xAb,xAj,xAk,xAs,xAt,xAu,xAv,xAw,xAx,xAL,xAy,xAz,xAl,xAA,xAm,xAn,xAB,xAo,xAp,xAf,Nat.reduceDiv,Nat.reduceMod,WP,xAI,xAF,xAX,xAW,xAV,xAG,xAH,xAE,W2,xAd,xAe,xAi,Nat.reduceAdd,Nat.reduceSub,Nat.reduceLeDiff,Nat.reduceMul,Int.reduceAdd,Int.reduceSub,Int.reduceMul,Int.reduceLT,Int.reduceLE,Int.reduceEq,Int.reduceToNat,Int.reduceNeg,Nat.reduceEqDiff,Nat.reduceBEq,Nat.reduceLT,xAa,xAg,xOG,xRU,hlt,hbit,hn,hm,g1]
  ·have e' : mem l (64 * i + k) = false := by simpa using e
   rw [if_neg e,List.append_nil] at hs
   rw [e'] at hbit
   obtain ⟨T',v',g1,g2⟩ := xKt (z := z) hi hil hl hW d (k + 1) T v (by omega) (by rw [← Nat.add_assoc,hs]; exact hO)
   refine ⟨T',v',?_,g2⟩
   rw [xUx]
   simp (maxSteps := 30000000) (disch := first | assumption | omega | (simp only [WL,AV.isCell,xAa] <;> omega) | rfl | decide) only [↓reduceIte,WB,xAR,xAc,xAQ,xAD,xAC,AV.cells,AV.isCell,xAb,xAj,xAk,xAs,xAt,xAu,xAv,xAw,xAx,xAL,xAy,xAz,xAl,xAA,xAm,xAn,xAB,xAo,xAp,xAf,Nat.reduceDiv,Nat.reduceMod,WP,xAI,xAF,xAX,xAW,xAV,xAG,xAH,xAE,W2,xAd,xAe,xAi,Nat.reduceAdd,Nat.reduceSub,Nat.reduceLeDiff,Nat.reduceMul,Int.reduceAdd,Int.reduceSub,Int.reduceMul,Int.reduceLT,Int.reduceLE,Int.reduceEq,Int.reduceToNat,Int.reduceNeg,Nat.reduceEqDiff,Nat.reduceBEq,Nat.reduceLT,xAa,xAg,xOG,xRU,hlt,hbit,g1]
theorem xSY {z : Bool} {l : List Nat} (hl : l.length < 1099511627776) (hW : W l) : ∀ d i T v,i + d = min l.length 64 → yC5 0 T v (xFL l (64 * i)) →
  ∃ T' v',L.loop xRW xZy ⟨xRX (sw z l) v (.int .i64 (i : Nat)),T⟩ = some (.exit 0,⟨xRX (sw z l) v' (.int .i64 ((min l.length 64 : Nat))),T'⟩) ∧ yC5 0 T' v' (xFL l (64 * min l.length 64))
 | 0,i,T,v,h,hO => by
  obtain rfl : i = min l.length 64 := by omega
  refine ⟨T,v,?_,hO⟩
  rw [yAw]
  by_cases c1 : ((min l.length 64 : Nat) : Int) < (l.length : Nat)
  ·have c2 : ¬ ((min l.length 64 : Nat) : Int) < 64 := by omega
   simp (maxSteps := 30000000) (disch := first | assumption | omega | (simp only [WL,AV.isCell,xAa] <;> omega) | rfl | decide) only [↓reduceIte,WB,xAR,xAc,xAQ,xAD,xAC,AV.cells,AV.isCell,xAb,xAj,xAk,xAs,xAt,xAu,xAv,xAw,xAx,xAL,xAy,xAz,xAl,xAA,xAm,xAn,xAB,xAo,xAp,xAf,Nat.reduceDiv,Nat.reduceMod,WP,xAI,xAF,xAX,xAW,xAV,xAG,xAH,xAE,W2,xAd,xAe,xAi,Nat.reduceAdd,Nat.reduceSub,Nat.reduceLeDiff,Nat.reduceMul,Int.reduceAdd,Int.reduceSub,Int.reduceMul,Int.reduceLT,Int.reduceLE,Int.reduceEq,Int.reduceToNat,Int.reduceNeg,Nat.reduceEqDiff,Nat.reduceBEq,Nat.reduceLT,xAa,xAg,xRV,xRY,c1,c2]
  ·simp (maxSteps := 30000000) (disch := first | assumption | omega | (simp only [WL,AV.isCell,xAa] <;> omega) | rfl | decide) only [↓reduceIte,WB,xAR,xAc,xAQ,xAD,xAC,AV.cells,AV.isCell,xAb,xAj,xAk,xAs,xAt,xAu,xAv,xAw,xAx,xAL,xAy,xAz,xAl,xAA,xAm,xAn,xAB,xAo,xAp,xAf,Nat.reduceDiv,Nat.reduceMod,WP,xAI,xAF,xAX,xAW,xAV,xAG,xAH,xAE,W2,xAd,xAe,xAi,Nat.reduceAdd,Nat.reduceSub,Nat.reduceLeDiff,Nat.reduceMul,Int.reduceAdd,Int.reduceSub,Int.reduceMul,Int.reduceLT,Int.reduceLE,Int.reduceEq,Int.reduceToNat,Int.reduceNeg,Nat.reduceEqDiff,Nat.reduceBEq,Nat.reduceLT,xAa,xAg,xRV,xRY,c1]
 | d + 1,i,T,v,h,hO => by
  have c1 : ((i : Nat) : Int) < (l.length : Nat) := by omega
  have c2 : ((i : Nat) : Int) < 64 := by omega
  obtain ⟨T1,v1,g1,g2⟩ := xKt (z := z) (by omega : i < 64) (by omega) hl hW 64 0 T v (by omega) (by rw [Nat.add_zero]; exact hO)
  obtain ⟨T',v',g3,g4⟩ := xSY (z := z) hl hW d (i + 1) T1 v1 (by omega) g2
  refine ⟨T',v',?_,g4⟩
  simp only [Int.natCast_zero] at g1
  rw [yAw]
  simp (maxSteps := 30000000) (disch := first | assumption | omega | (simp only [WL,AV.isCell,xAa] <;> omega) | rfl | decide) only [↓reduceIte,WB,xAR,xAc,xAQ,xAD,xAC,AV.cells,AV.isCell,xAb,xAj,xAk,xAs,xAt,xAu,xAv,xAw,xAx,xAL,xAy,xAz,xAl,xAA,xAm,xAn,xAB,xAo,xAp,xAf,Nat.reduceDiv,Nat.reduceMod,WP,xAI,xAF,xAX,xAW,xAV,xAG,xAH,xAE,W2,xAd,xAe,xAi,Nat.reduceAdd,Nat.reduceSub,Nat.reduceLeDiff,Nat.reduceMul,Int.reduceAdd,Int.reduceSub,Int.reduceMul,Int.reduceLT,Int.reduceLE,Int.reduceEq,Int.reduceToNat,Int.reduceNeg,Nat.reduceEqDiff,Nat.reduceBEq,Nat.reduceLT,xAa,xAg,xRV,xRY,xRU,c1,c2,g1,g3]
theorem xBO (l : List Int) : List.take l.length (xBd l) = xBd l := by rw [xD2,List.take_length]
theorem xTQ (z : Bool) (l : List Nat) (hl : l.length < 1099511627776) (hW : W l) : ∃ z',L.pcall 36 [sw z l] = some (iw z' (xFL l (64 * min l.length 64))) := by
 obtain ⟨T',v',g1,g2⟩ := xSY (z := z) hl hW (min l.length 64) 0 [] (.sl true 0 []) (by omega) (.inl ⟨rfl,rfl⟩)
 simp only [Int.natCast_zero] at g1
 rcases g2 with ⟨rfl,h0⟩ | ⟨k,rfl,hk⟩
 ·refine ⟨true,?_⟩
  rw [h0,yDS,a36,xAK]
  simp (maxSteps := 30000000) (disch := first | assumption | omega | (simp only [WL,AV.isCell,xAa] <;> omega) | rfl | decide) only [↓reduceIte,WB,xAR,xAc,xAQ,xAD,xAC,AV.cells,AV.isCell,xAb,xAj,xAk,xAs,xAt,xAu,xAv,xAw,xAx,xAL,xAy,xAz,xAl,xAA,xAm,xAn,xAB,xAo,xAp,xAf,Nat.reduceDiv,Nat.reduceMod,WP,xAI,xAF,xAX,xAW,xAV,xAG,xAH,xAE,W2,xAd,xAe,xAi,Nat.reduceAdd,Nat.reduceSub,Nat.reduceLeDiff,Nat.reduceMul,Int.reduceAdd,Int.reduceSub,Int.reduceMul,Int.reduceLT,Int.reduceLE,Int.reduceEq,Int.reduceToNat,Int.reduceNeg,Nat.reduceEqDiff,Nat.reduceBEq,Nat.reduceLT,xAa,xAg,xRY,g1]
  try rfl
 ·refine ⟨false,?_⟩
  rw [yDS,a36,xAK]
  simp (maxSteps := 30000000) (disch := first | assumption | omega | (simp only [WL,AV.isCell,xAa] <;> omega) | rfl | decide) only [↓reduceIte,WB,xAR,xAc,xAQ,xAD,xAC,AV.cells,AV.isCell,xAb,xAj,xAk,xAs,xAt,xAu,xAv,xAw,xAx,xAL,xAy,xAz,xAl,xAA,xAm,xAn,xAB,xAo,xAp,xAf,Nat.reduceDiv,Nat.reduceMod,WP,xAI,xAF,xAX,xAW,xAV,xAG,xAH,xAE,W2,xAd,xAe,xAi,Nat.reduceAdd,Nat.reduceSub,Nat.reduceLeDiff,Nat.reduceMul,Int.reduceAdd,Int.reduceSub,Int.reduceMul,Int.reduceLT,Int.reduceLE,Int.reduceEq,Int.reduceToNat,Int.reduceNeg,Nat.reduceEqDiff,Nat.reduceBEq,Nat.reduceLT,xAa,xAg,xRY,g1,hk]
theorem mem_bitL {l : List Nat} {N : Nat} {q : Int} : q ∈ xFL l N ↔ ∃ j,j < N ∧ mem l j = true ∧ q = (j : Int) := by
 unfold xFL
 simp only [List.mem_map,List.mem_filter,List.mem_range]
 constructor
 ·rintro ⟨j,⟨h1,h2⟩,rfl⟩
  exact ⟨j,h1,h2,rfl⟩
 ·rintro ⟨j,h1,h2,rfl⟩
  exact ⟨j,⟨h1,h2⟩,rfl⟩
theorem xYu {l : List Nat} {j : Nat} (h : 64 * min l.length 64 ≤ j) : mem l j = false := by
 unfold mem
 by_cases hj : j < 4096
 ·rw [xEc (by omega)]; simp
 ·simp [hj]
theorem xVc (l : List Nat) (j : Nat) : inS (xFL l (64 * min l.length 64)) j = mem l j := by
 unfold inS
 rw [Bool.eq_iff_iff,List.contains_iff_mem,mem_bitL]
 constructor
 ·rintro ⟨i,h1,h2,h3⟩
  have : i = j := by omega
  rw [← this]; exact h2
 ·intro h
  rcases Nat.lt_or_ge j (64 * min l.length 64) with q | q
  ·exact ⟨j,q,h,rfl⟩
  ·rw [xYu q] at h; cases h
def yC6 (T : Heap) (v : AV) (l : List Nat) : Prop := (v = .sl true 0 [] ∧ l = []) ∨ ∃ k,v = .own false k 0 l.length 1 ∧ T[k]? = some (.cells false false (w64 l))
def xMA (l : List Nat) (n : Nat) : List Nat := l ++ List.replicate (n - l.length) 0
theorem xQF {z : Bool} {l : List Int} {i q : Nat} {r : List Nat} (hq : q < 4096) : ∀ d T v m,m + d = max r.length (q / 64 + 1) → r.length ≤ m → yC6 T v (xMA r m) →
  ∃ T' v',L.loop xR0 xZz ⟨xR1 (iw z l) v (.int .i64 (i : Nat)) (.int .i64 (q : Nat)),T⟩ = some (.exit 2,⟨xR1 (iw z l) v' (.int .i64 (i : Nat)) (.int .i64 (q : Nat)),T'⟩) ∧ yC6 T' v' (xMA r (max r.length (q / 64 + 1)))
 | 0,T,v,m,h,hr,hO => by
  obtain rfl : m = max r.length (q / 64 + 1) := by omega
  have hdq : ((q : Nat) : Int).tdiv 64 = ((q / 64 : Nat) : Int) := by rw [show (64 : Int) = ((64 : Nat) : Int) from rfl,xNX]
  have hpl : (xMA r (max r.length (q / 64 + 1))).length = max r.length (q / 64 + 1) := by unfold xMA; simp; omega
  refine ⟨T,v,?_,hO⟩
  rcases hO with ⟨rfl,e⟩ | ⟨k,rfl,hk⟩
  ·rw [e] at hpl; simp at hpl; omega
  ·have hng : ¬ (((xMA r (max r.length (q / 64 + 1))).length : Nat) : Int) ≤ ((q / 64 : Nat) : Int) := by omega
   rw [xXl]
   simp (maxSteps := 30000000) (disch := first | assumption | omega | (simp only [WL,AV.isCell] <;> omega) | rfl | decide) only [↓reduceIte,WB,xAR,xAc,xAQ,xAD,xAC,AV.cells,AV.isCell,xAb,xAj,xAk,xAs,xAt,xAu,xAv,xAw,xAx,xAL,xAy,xAz,xAl,xAA,xAm,xAn,xAB,xAo,xAp,xAf,Nat.reduceDiv,Nat.reduceMod,WP,xAI,xAF,xAX,xAW,xAV,xAG,xAH,xAE,W2,xAd,xAe,xAi,Nat.reduceAdd,Nat.reduceSub,Nat.reduceLeDiff,Nat.reduceMul,Int.reduceAdd,Int.reduceSub,Int.reduceMul,Int.reduceLT,Int.reduceLE,Int.reduceEq,Int.reduceToNat,Int.reduceNeg,Nat.reduceEqDiff,Nat.reduceBEq,Nat.reduceLT,xRZ,xUz,hdq,hng]
 | d + 1,T,v,m,h,hr,hO => by
  have hdq : ((q : Nat) : Int).tdiv 64 = ((q / 64 : Nat) : Int) := by rw [show (64 : Int) = ((64 : Nat) : Int) from rfl,xNX]
  have hpl : (xMA r m).length = m := by unfold xMA; simp; omega
  have hps : xMA r (m + 1) = xMA r m ++ [0] := by
   unfold xMA
   rw [show m + 1 - r.length = (m - r.length) + 1 by omega,List.replicate_succ',List.append_assoc]
  have hpl1 : (xMA r (m + 1)).length = m + 1 := by rw [hps]; simp [hpl]
  have hw : w64 (xMA r (m + 1)) = w64 (xMA r m) ++ [AV.int .u64 0] := by rw [hps,← xIg]; rfl
  rcases hO with ⟨rfl,e⟩ | ⟨k,rfl,hk⟩
  ·have hm0 : m = 0 := by rw [← hpl,e]; rfl
   subst hm0
   rw [e] at hw
   obtain ⟨T',v',g1,g2⟩ := xQF (z := z) (l := l) (i := i) (r := r) hq d (T ++ [.cells false false (w64 (xMA r (0 + 1)))]) (.own false T.length 0 1 1) 1 (by omega) (by omega) (.inr ⟨T.length,by rw [hpl1],by simp⟩)
   refine ⟨T',v',?_,g2⟩
   rw [hw] at g1
   simp only [xJX,List.nil_append] at g1
   have hle : (0 : Int) ≤ ((q / 64 : Nat) : Int) := by omega
   rw [xXl]
   simp (maxSteps := 30000000) (disch := first | assumption | omega | (simp only [WL,AV.isCell] <;> omega) | rfl | decide) only [↓reduceIte,WB,xAR,xAc,xAQ,xAD,xAC,AV.cells,AV.isCell,xAb,xAj,xAk,xAs,xAt,xAu,xAv,xAw,xAx,xAL,xAy,xAz,xAl,xAA,xAm,xAn,xAB,xAo,xAp,xAf,Nat.reduceDiv,Nat.reduceMod,WP,xAI,xAF,xAX,xAW,xAV,xAG,xAH,xAE,W2,xAd,xAe,xAi,Nat.reduceAdd,Nat.reduceSub,Nat.reduceLeDiff,Nat.reduceMul,Int.reduceAdd,Int.reduceSub,Int.reduceMul,Int.reduceLT,Int.reduceLE,Int.reduceEq,Int.reduceToNat,Int.reduceNeg,Nat.reduceEqDiff,Nat.reduceBEq,Nat.reduceLT,xRZ,xUz,hdq,hle,g1]
  ·have hkl := (List.getElem?_eq_some_iff.1 hk).1
   rw [hpl]
   obtain ⟨T',v',g1,g2⟩ := xQF (z := z) (l := l) (i := i) (r := r) hq d (T.set k .dead ++ [.cells false false (w64 (xMA r (m + 1)))]) (.own false T.length 0 (m + 1) 1) (m + 1) (by omega) (by omega) (.inr ⟨T.length,by rw [hpl1],by simp⟩)
   refine ⟨T',v',?_,g2⟩
   rw [hw] at g1
   have hle : ((m : Nat) : Int) ≤ ((q / 64 : Nat) : Int) := by omega
   have htk : List.take m (w64 (xMA r m)) = w64 (xMA r m) := List.take_of_length_le (by rw [xBq]; omega)
   rw [xXl]
   simp (maxSteps := 30000000) (disch := first | assumption | omega | (simp only [WL,AV.isCell] <;> omega) | rfl | decide) only [↓reduceIte,WB,xAR,xAc,xAQ,xAD,xAC,AV.cells,AV.isCell,xAb,xAj,xAk,xAs,xAt,xAu,xAv,xAw,xAx,xAL,xAy,xAz,xAl,xAA,xAm,xAn,xAB,xAo,xAp,xAf,Nat.reduceDiv,Nat.reduceMod,WP,xAI,xAF,xAX,xAW,xAV,xAG,xAH,xAE,W2,xAd,xAe,xAi,Nat.reduceAdd,Nat.reduceSub,Nat.reduceLeDiff,Nat.reduceMul,Int.reduceAdd,Int.reduceSub,Int.reduceMul,Int.reduceLT,Int.reduceLE,Int.reduceEq,Int.reduceToNat,Int.reduceNeg,Nat.reduceEqDiff,Nat.reduceBEq,Nat.reduceLT,xRZ,xUz,hdq,hle,hk,hpl,htk,g1]
theorem xYv (r : List Nat) (m i : Nat) : (xMA r m).getD i 0 = r.getD i 0 := by
 unfold xMA
 by_cases h : i < r.length
 ·simp [List.getD,List.getElem?_append_left h]
 ·rw [xEc (by omega : r.length ≤ i),List.getD_eq_getElem?_getD,List.getElem?_append_right (by omega),List.getElem?_replicate]
  split <;> rfl
theorem xTR (r : List Nat) (m : Nat) (h : r.length ≤ m) : (xMA r m).length = m := by unfold xMA; simp; omega
def orW (r : List Nat) (k : Nat) : List Nat := (xMA r (max r.length (k / 64 + 1))).set (k / 64) (r.getD (k / 64) 0 ||| 2 ^ (k % 64))
theorem xYw (r : List Nat) (k : Nat) : (orW r k).length = max r.length (k / 64 + 1) := by
 unfold orW
 rw [List.length_set,xTR _ _ (by omega)]
theorem xTS (r : List Nat) (k i : Nat) : (orW r k).getD i 0 = if i = k / 64 then r.getD i 0 ||| 2 ^ (k % 64) else r.getD i 0 := by
 unfold orW
 rw [List.getD_eq_getElem?_getD,List.getElem?_set]
 by_cases h : k / 64 = i
 ·rw [if_pos h,if_pos (by rw [xTR _ _ (by omega)]; omega),if_pos h.symm,Option.getD_some,h]
 ·rw [if_neg h,if_neg (fun e => h e.symm),← List.getD_eq_getElem?_getD,xYv]
theorem xQG (k : Nat) : 2 ^ (k % 64) < 18446744073709551616 := by
 have : (2 : Nat) ^ (k % 64) < 2 ^ 64 := Nat.pow_lt_pow_right (by omega) (Nat.mod_lt _ (by omega))
 omega
theorem yBS {r : List Nat} {S : Nat → Bool} {k : Nat} (h : CanS r S) (hk : k < 4096) : CanS (orW r k) (fun j => S j || decide (j = k)) := by
 have hl := h.2.1
 have hol := xYw r k
 refine ⟨fun x hx => ?_,by omega,fun hne => ?_,fun j => ?_⟩
 ·obtain ⟨i,hi,rfl⟩ := List.mem_iff_getElem.1 hx
  have : (orW r k)[i] = (orW r k).getD i 0 := by simp [List.getD,List.getElem?_eq_getElem hi]
  rw [this,xTS]
  split
  ·exact yCS (h.1.get _) (xQG k)
  ·exact h.1.get _
 ·rw [xTS,hol]
  split
  ·intro e
   have := Nat.right_le_or (n := r.getD (max r.length (k / 64 + 1) - 1) 0) (m := 2 ^ (k % 64))
   have hp : 0 < 2 ^ (k % 64) := Nat.pow_pos (by omega)
   omega
  ·rename_i hn
   have hlast := h.2.2.1 (by intro e; rw [e] at hn; simp at hn)
   rw [show max r.length (k / 64 + 1) - 1 = r.length - 1 by omega]
   exact hlast
 ·show mem (orW r k) j = (S j || decide (j = k))
  rw [← h.2.2.2 j]
  unfold mem
  rw [xTS]
  by_cases hj : j < 4096
  ·rw [decide_eq_true hj,Bool.true_and,Bool.true_and]
   split
   ·rename_i e
    rw [Nat.testBit_or,Nat.testBit_two_pow]
    congr 1
    rw [decide_eq_decide]
    omega
   ·rename_i e
    have : decide (j = k) = false := by rw [decide_eq_false_iff_not]; rintro rfl; exact e rfl
    rw [this,Bool.or_false]
  ·have : decide (j = k) = false := by rw [decide_eq_false_iff_not]; omega
   rw [decide_eq_false hj,this]
   simp
theorem xVd {z : Bool} {l : List Int} (hl : l.length < 1099511627776) (hq : ∀ q ∈ l,0 ≤ q ∧ q < 4096) : ∀ d i T v r S,i + d = l.length → yC6 T v r → CanS r S →
  ∃ T' v' r',L.loop xR2 xZA ⟨xR3 (iw z l) v (.int .i64 (i : Nat)),T⟩ = some (.exit 0,⟨xR3 (iw z l) v' (.int .i64 (l.length : Nat)),T'⟩) ∧ yC6 T' v' r' ∧ CanS r' (fun j => S j || (l.drop i).contains (j : Int))
 | 0,i,T,v,r,S,h,hO,hC => by
  obtain rfl : i = l.length := by omega
  refine ⟨T,v,r,?_,hO,hC.congr (fun j => by simp)⟩
  rw [yAx]
  simp (maxSteps := 30000000) (disch := first | assumption | omega | (simp only [WL,AV.isCell] <;> omega) | rfl | decide) only [↓reduceIte,WB,xAR,xAc,xAQ,xAD,xAC,AV.cells,AV.isCell,xAb,xAj,xAk,xAs,xAt,xAu,xAv,xAw,xAx,xAL,xAy,xAz,xAl,xAA,xAm,xAn,xAB,xAo,xAp,xAf,Nat.reduceDiv,Nat.reduceMod,WP,xAI,xAF,xAX,xAW,xAV,xAG,xAH,xAE,W2,xAd,xAe,xAi,Nat.reduceAdd,Nat.reduceSub,Nat.reduceLeDiff,Nat.reduceMul,Int.reduceAdd,Int.reduceSub,Int.reduceMul,Int.reduceLT,Int.reduceLE,Int.reduceEq,Int.reduceToNat,Int.reduceNeg,Nat.reduceEqDiff,Nat.reduceBEq,Nat.reduceLT,xUA,xUB]
 | d + 1,i,T,v,r,S,h,hO,hC => by
  have hlt : (i : Int) < (l.length : Nat) := by omega
  have hm : l.getD i 0 ∈ l := by
   rw [List.getD_eq_getElem?_getD,List.getElem?_eq_getElem (by omega)]
   exact List.getElem_mem _
  obtain ⟨h0,h1⟩ := hq _ hm
  obtain ⟨q,hqq⟩ : ∃ q : Nat,l.getD i 0 = (q : Int) := ⟨(l.getD i 0).toNat,by omega⟩
  have hcongr : ∀ j,((S j || decide (j = q)) || (l.drop (i + 1)).contains (j : Int)) = (S j || (l.drop i).contains (j : Int)) := fun j => by
   rw [xBz (by omega : i < l.length),List.contains_cons,hqq]
   have : (decide (j = q)) = ((j : Int) == (q : Int)) := by
    rw [Bool.eq_iff_iff]
    simp only [decide_eq_true_eq,beq_iff_eq]
    omega
   rw [this,Bool.or_assoc]
  obtain ⟨T1,v1,g1,g2⟩ := xQF (z := z) (l := l) (i := i) (r := r) (q := q) (by omega) (max r.length (q / 64 + 1) - r.length) T v r.length (by omega) (Nat.le_refl _) (by unfold xMA; simpa using hO)
  have hpl := xTR r (max r.length (q / 64 + 1)) (by omega)
  have hl64 := hC.2.1
  rcases g2 with ⟨rfl,e⟩ | ⟨k,rfl,hk⟩
  ·rw [e] at hpl; simp at hpl; omega
  ·have hkl := (List.getElem?_eq_some_iff.1 hk).1
   obtain ⟨T',v',r',g3,g4,g5⟩ := xVd (z := z) hl hq d (i + 1) (T1.set k (.cells false false (w64 (orW r q)))) (.own false k 0 (max r.length (q / 64 + 1)) 1) (orW r q) _ (by omega) (.inr ⟨k,by rw [xYw],by simp [hkl]⟩) (yBS hC (by omega : q < 4096))
   refine ⟨T',v',r',?_,g4,g5.congr hcongr⟩
   rw [hpl] at g1
   have hdq : ((q : Nat) : Int).tdiv 64 = ((q / 64 : Nat) : Int) := by rw [show (64 : Int) = ((64 : Nat) : Int) from rfl,xNX]
   have hmq : ((q : Nat) : Int).tmod 64 = ((q % 64 : Nat) : Int) := by rw [show (64 : Int) = ((64 : Nat) : Int) from rfl,xSw]
   have c1 : ¬ ((q : Nat) : Int) < 0 := by omega
   have c2 : ¬ (4095 : Int) < ((q : Nat) : Int) := by omega
   have hsh : IntKind.u64.wrap (1 * 2 ^ min (q % 64) IntKind.u64.bits) = ((2 ^ (q % 64) : Nat) : Int) := by
    have e1 : min (q % 64) IntKind.u64.bits = q % 64 := Nat.min_eq_left (by show q % 64 ≤ 64; omega)
    rw [e1,Int.one_mul,show (2 : Int) ^ (q % 64) = ((2 ^ (q % 64) : Nat) : Int) from by rw [Int.natCast_pow]; rfl]
    exact xNZ (by have := xQG q; omega)
   have hor := yEg (hC.1.get (q / 64)) (xQG q)
   have hpg := xYv r (max r.length (q / 64 + 1)) (q / 64)
   have xCm : (xMA r (max r.length (q / 64 + 1))).set (q / 64) (r.getD (q / 64) 0 ||| 2 ^ (q % 64)) = orW r q := rfl
   rw [yAx]
   simp (maxSteps := 30000000) (disch := first | assumption | omega | (simp only [WL,AV.isCell] <;> omega) | rfl | decide) only [↓reduceIte,WB,xAR,xAc,xAQ,xAD,xAC,AV.cells,AV.isCell,xAb,xAj,xAk,xAs,xAt,xAu,xAv,xAw,xAx,xAL,xAy,xAz,xAl,xAA,xAm,xAn,xAB,xAo,xAp,xAf,Nat.reduceDiv,Nat.reduceMod,WP,xAI,xAF,xAX,xAW,xAV,xAG,xAH,xAE,W2,xAd,xAe,xAi,Nat.reduceAdd,Nat.reduceSub,Nat.reduceLeDiff,Nat.reduceMul,Int.reduceAdd,Int.reduceSub,Int.reduceMul,Int.reduceLT,Int.reduceLE,Int.reduceEq,Int.reduceToNat,Int.reduceNeg,Nat.reduceEqDiff,Nat.reduceBEq,Nat.reduceLT,xUA,xUB,xUz,hlt,hqq,c1,c2,g1,hdq,hmq,hk,hpl,hpg,hsh,hor,xCm,g3]
end Go.Abs.NfaD
