/- The reference's Reachable and Productive; sets of lists. -/
import Derived.Test.YtbfnjdhafgnlnaaDoorAbsBun
import Derived.Test.YtbfnjdhafgnlnaaDoorAME
import Derived.Test.YtbfnjdhafgnlnaaDoorAMC
import Derived.Test.YtbfnjdhafgnlnaaDoorAMD
import Derived.Test.YtbfnjdhafgnlnaaDoorAMF
namespace Go.Abs.NfaD
open Go Go.Abs
set_option linter.unusedSimpArgs false
set_option linter.unusedVariables false
set_option maxHeartbeats 2000000 in
theorem xX8 (n : Aut) {s : Nat} (hn : n.states = (s : Nat)) (hs : s ≤ 64) (hl : n.ed.length < 1000000) (he : ∀ e ∈ n.ed,(0 ≤ e.a ∧ e.a < (s : Int)) ∧ 0 ≤ e.b ∧ e.b < (s : Int)) {z : Bool} {l : List Int} (hll : l.length < 1000000) (hq : ∀ q ∈ l,0 ≤ q ∧ q < (s : Int)) (bk : Bool) :
  ∃ z',L.pcall 35 [n.av,iw z l,.bool bk] = some (iw z' (xSM (xIa (esQ bk n.ed) s (xD5 (l.map Int.toNat) (List.replicate s false))))) := by
 have h0 := xPP (s2 := .bool bk) (p := 0) (b := 1) (s := s) (z := z) (n := n) hll hs hq l.length 0 (List.replicate s false) [.cells false false n.cells,.cells false false (blz (List.replicate s false))] (by omega) (by simp) rfl
 rw [List.drop_zero] at h0
 generalize hB0 : xD5 (l.map Int.toNat) (List.replicate s false) = B0 at *
 have hB0l : B0.length = s := by rw [← hB0,xG6,List.length_replicate]
 have h1 := xNE (bk := bk) (p := 0) (b := 1) hn (by decide) hs hl he s 0 B0 [.cells false false n.cells,.cells false false (blz B0)] (by omega) hB0l rfl rfl
 generalize hR : xIa (esQ bk n.ed) s B0 = R at *
 have hRl : R.length = s := by rw [← hR,xNA]; exact hB0l
 obtain ⟨G',v',h2,h3⟩ := xJu (p := 0) (b := 1) (B := R) hn (by decide) hs hRl s 0 [.cells false false n.cells,.cells false false (blz R)] (.sl true 0 []) (by omega) rfl rfl (.inl ⟨rfl,by simp [xNQ]⟩)
 have h0' : L.loop xOz xXh ⟨xNh (iw z l) (.bool bk) (.ptr 0 0) (.own false 1 0 s 1) (.int .i64 0),[.cells false false n.cells,.cells false false (blz (List.replicate s false))]⟩ = some (.exit 0,⟨xNh (iw z l) (.bool bk) (.ptr 0 0) (.own false 1 0 s 1) (.int .i64 (l.length : Nat)),[.cells false false n.cells,.cells false false (blz B0)]⟩) := h0
 have h1' : L.loop xOB xXi ⟨xNk (.bool bk) (.ptr 0 0) (.own false 1 0 s 1) (.int .i64 0),[.cells false false n.cells,.cells false false (blz B0)]⟩ = some (.exit 2,⟨xNk (.bool bk) (.ptr 0 0) (.own false 1 0 s 1) (.int .i64 (s : Nat)),[.cells false false n.cells,.cells false false (blz R)]⟩) := h1
 have h2' : L.loop xOD xXj ⟨xOE (.ptr 0 0) (.own false 1 0 s 1) (.sl true 0 []) (.int .i64 0),[.cells false false n.cells,.cells false false (blz R)]⟩ = _ := h2
 have hrz := xZU s
 have hit := xBO (xSM R)
 have hil := xAT (xSM R)
 rcases h3 with ⟨rfl,e⟩ | ⟨k,rfl,hk⟩
 ·refine ⟨true,?_⟩
  rw [e]
  show _ = some (AV.sl true 0 [])
  rw [yDR,a35,xAK]
  simp (maxSteps := 30000000) (disch := first | assumption | omega | (simp only [WL,AV.isCell,xAa,xBN] <;> omega) | rfl | decide) only [↓reduceIte,WB,xAR,xAc,xAQ,xAD,xAC,AV.cells,AV.isCell,xAb,xAj,xAk,xAs,xAt,xAu,xAv,xAw,xAx,xAL,xAy,xAz,xAl,xAA,xAm,xAn,xAB,xAo,xAp,xAf,Nat.reduceDiv,Nat.reduceMod,WP,xAI,xAF,xAX,xAW,xAV,xAG,xAH,xAE,W2,xAd,xAe,xAi,Nat.reduceAdd,Nat.reduceSub,Nat.reduceLeDiff,Nat.reduceMul,Int.reduceAdd,Int.reduceSub,Int.reduceMul,Int.reduceLT,Int.reduceLE,Int.reduceEq,Int.reduceToNat,Int.reduceNeg,Nat.reduceEqDiff,Nat.reduceBEq,Nat.reduceLT,xAa,xAg,xAO,xAq,xAr,xAY,xAZ,xCM,hn,hrz,xUt,h0',xUv,h1',xOF,h2']
 ·refine ⟨false,?_⟩
  rw [yDR,a35,xAK]
  simp (maxSteps := 30000000) (disch := first | assumption | omega | (simp only [WL,AV.isCell,xAa,xBN] <;> omega) | rfl | decide) only [↓reduceIte,WB,xAR,xAc,xAQ,xAD,xAC,AV.cells,AV.isCell,xAb,xAj,xAk,xAs,xAt,xAu,xAv,xAw,xAx,xAL,xAy,xAz,xAl,xAA,xAm,xAn,xAB,xAo,xAp,xAf,Nat.reduceDiv,Nat.reduceMod,WP,xAI,xAF,xAX,xAW,xAV,xAG,xAH,xAE,W2,xAd,xAe,xAi,Nat.reduceAdd,Nat.reduceSub,Nat.reduceLeDiff,Nat.reduceMul,Int.reduceAdd,Int.reduceSub,Int.reduceMul,Int.reduceLT,Int.reduceLE,Int.reduceEq,Int.reduceToNat,Int.reduceNeg,Nat.reduceEqDiff,Nat.reduceBEq,Nat.reduceLT,xAa,xAg,xAO,xAq,xAr,xAY,xAZ,xCM,hn,hrz,xUt,h0',xUv,h1',xOF,h2',hk,hit]
theorem yDB (ed : List Ed) : esQ false ed = esP ed := by simp [esQ,esP]
theorem yDC (ed : List Ed) : esQ true ed = esP (ed.map xBl) := by
 unfold esQ esP
 rw [List.map_map]
 rfl
theorem xX9 {B : List Bool} (hB : B.length ≤ 4096) (j : Nat) : inS (xSM B) j = B.getD j false := by
 unfold inS xSM
 rw [Bool.eq_iff_iff,List.contains_iff_mem,List.mem_map]
 constructor
 ·rintro ⟨k,hk,h⟩
  obtain ⟨hk1,hk2⟩ := List.mem_filter.1 hk
  have : k = j := Int.ofNat.inj h
  rw [← this]; exact hk2
 ·intro h
  refine ⟨j,List.mem_filter.2 ⟨List.mem_range.2 ?_,h⟩,rfl⟩
  rcases Nat.lt_or_ge j B.length with q | q
  ·exact q
  ·rw [List.getD_eq_getElem?_getD,List.getElem?_eq_none q] at h; cases h
theorem xPF {B : List Bool} : ∀ q ∈ xSM B,0 ≤ q ∧ q < (B.length : Int) := by
 intro q hq
 obtain ⟨k,hk,rfl⟩ := List.mem_map.1 hq
 have := List.mem_range.1 (List.mem_filter.1 hk).1
 exact ⟨Int.natCast_nonneg _,by show ((k : Nat) : Int) < _; omega⟩
theorem xUY (B : List Bool) : (xSM B).length ≤ B.length := by
 unfold xSM
 rw [List.length_map]
 exact Nat.le_trans (List.length_filter_le _ _) (by simp)
theorem Valid.range {n : Aut} (h : Valid n) : ∃ s : Nat,n.states = (s : Nat) ∧ s ≤ 64 ∧ (∀ q ∈ n.st,0 ≤ q ∧ q < (s : Int)) ∧ (∀ q ∈ n.fi,0 ≤ q ∧ q < (s : Int)) ∧ ∀ e ∈ n.ed,(0 ≤ e.a ∧ e.a < (s : Int)) ∧ 0 ≤ e.b ∧ e.b < (s : Int) := by
 obtain ⟨s,hs⟩ := Int.eq_ofNat_of_zero_le h.s0
 have h64 := h.s64
 refine ⟨s,hs,by omega,fun q hq => ?_,fun q hq => ?_,fun e he => ?_⟩
 ·have := xDT h.st q hq; omega
 ·have := xDT h.fi q hq; omega
 ·have := yBW (xS1 h.ed e he); omega
theorem yEc (n : Aut) (h : Valid n) (hl : n.st.length < 1000000) : ∃ z l,L.pcall 9 [n.av] = some (iw z l) ∧ l.length ≤ 64 ∧ (∀ q ∈ l,0 ≤ q ∧ q < 4096) ∧ ReaL n.st n.ed (inS l) := by
 obtain ⟨s,hs,h64,r1,r2,r3⟩ := h.range
 have hel := h.el
 obtain ⟨z',h35⟩ := xX8 n hs h64 (by omega) r3 (z := n.z1) hl r1 false
 rw [yDB] at h35
 have hR : xIa (esP n.ed) s (xD5 (n.st.map Int.toNat) (List.replicate s false)) = xTM s n.st n.ed := rfl
 rw [hR] at h35
 have hb := xU4 s n.st n.ed
 have hrea := xU5 r1 r3
 have hin : inS (xSM (xTM s n.st n.ed)) = fun j => (xTM s n.st n.ed).getD j false := funext fun j => xX9 (by omega) j
 rw [← hin] at hrea
 have hrg := xPF (B := xTM s n.st n.ed)
 have hll := xUY (xTM s n.st n.ed)
 generalize xSM (xTM s n.st n.ed) = l at *
 refine ⟨z',l,?_,by omega,fun q hq => ?_,hrea⟩
 ·rw [a9p,a9,xAK]
  simp (maxSteps := 30000000) (disch := first | assumption | omega | (simp only [WL,AV.isCell,xAa,xBN] <;> omega) | rfl | decide) only [↓reduceIte,WB,xAR,xAc,xAQ,xAD,xAC,AV.cells,AV.isCell,xAb,xAj,xAk,xAs,xAt,xAu,xAv,xAw,xAx,xAL,xAy,xAz,xAl,xAA,xAm,xAn,xAB,xAo,xAp,xAf,Nat.reduceDiv,Nat.reduceMod,WP,xAI,xAF,xAX,xAW,xAV,xAG,xAH,xAE,W2,xAd,xAe,xAi,Nat.reduceAdd,Nat.reduceSub,Nat.reduceLeDiff,Nat.reduceMul,Int.reduceAdd,Int.reduceSub,Int.reduceMul,Int.reduceLT,Int.reduceLE,Int.reduceEq,Int.reduceToNat,Int.reduceNeg,Nat.reduceEqDiff,Nat.reduceBEq,Nat.reduceLT,xAa,xAg,xAO,xAq,xAr,xAY,xAZ,xCM,h35]
 ·have := hrg q hq; omega
theorem yCI (n : Aut) (h : Valid n) (hl : n.fi.length < 1000000) : ∃ z l,L.pcall 10 [n.av] = some (iw z l) ∧ l.length ≤ 64 ∧ (∀ q ∈ l,0 ≤ q ∧ q < 4096) ∧ ReaL n.fi (n.ed.map xBl) (inS l) := by
 obtain ⟨s,hs,h64,r1,r2,r3⟩ := h.range
 have hel := h.el
 obtain ⟨z',h35⟩ := xX8 n hs h64 (by omega) r3 (z := n.z2) hl r2 true
 rw [yDC] at h35
 have hR : xIa (esP (n.ed.map xBl)) s (xD5 (n.fi.map Int.toNat) (List.replicate s false)) = xTM s n.fi (n.ed.map xBl) := rfl
 rw [hR] at h35
 have hb := xU4 s n.fi (n.ed.map xBl)
 have r4 : ∀ e ∈ n.ed.map xBl,(0 ≤ e.a ∧ e.a < (s : Int)) ∧ 0 ≤ e.b ∧ e.b < (s : Int) := by
  intro e he
  obtain ⟨f,hf,rfl⟩ := List.mem_map.1 he
  have := r3 f hf
  exact ⟨this.2,this.1⟩
 have hrea := xU5 r2 r4
 have hin : inS (xSM (xTM s n.fi (n.ed.map xBl))) = fun j => (xTM s n.fi (n.ed.map xBl)).getD j false := funext fun j => xX9 (by omega) j
 rw [← hin] at hrea
 have hrg := xPF (B := xTM s n.fi (n.ed.map xBl))
 have hll := xUY (xTM s n.fi (n.ed.map xBl))
 generalize xSM (xTM s n.fi (n.ed.map xBl)) = l at *
 refine ⟨z',l,?_,by omega,fun q hq => ?_,hrea⟩
 ·rw [yEh,a10,xAK]
  simp (maxSteps := 30000000) (disch := first | assumption | omega | (simp only [WL,AV.isCell,xAa,xBN] <;> omega) | rfl | decide) only [↓reduceIte,WB,xAR,xAc,xAQ,xAD,xAC,AV.cells,AV.isCell,xAb,xAj,xAk,xAs,xAt,xAu,xAv,xAw,xAx,xAL,xAy,xAz,xAl,xAA,xAm,xAn,xAB,xAo,xAp,xAf,Nat.reduceDiv,Nat.reduceMod,WP,xAI,xAF,xAX,xAW,xAV,xAG,xAH,xAE,W2,xAd,xAe,xAi,Nat.reduceAdd,Nat.reduceSub,Nat.reduceLeDiff,Nat.reduceMul,Int.reduceAdd,Int.reduceSub,Int.reduceMul,Int.reduceLT,Int.reduceLE,Int.reduceEq,Int.reduceToNat,Int.reduceNeg,Nat.reduceEqDiff,Nat.reduceBEq,Nat.reduceLT,xAa,xAg,xAO,xAq,xAr,xAY,xAZ,xCM,h35]
 ·have := hrg q hq; omega
theorem xPG {z : Bool} {l : List Int} {k : Int} {H : Heap} (hl : l.length < 1099511627776) : ∀ d i,i + d = l.length → ∃ i' : Nat,
  L.loop xOO xXs ⟨xNq (iw z l) (.int .i64 k) (.bool false) (.int .i64 (i : Nat)),H⟩ =
   some (if (l.drop i).contains k = true then (.ret,⟨xNq (iw z l) (.int .i64 k) (.bool true) (.int .i64 (i' : Nat)),H⟩) else (.exit 0,⟨xNq (iw z l) (.int .i64 k) (.bool false) (.int .i64 (l.length : Nat)),H⟩))
 | 0,i,h => by
  obtain rfl : i = l.length := by omega
  refine ⟨0,?_⟩
  rw [List.drop_length,if_neg (by simp),xXt]
  simp (maxSteps := 30000000) (disch := first | assumption | omega | (simp only [WL,AV.isCell,xAa] <;> omega) | rfl | decide) only [↓reduceIte,WB,xAR,xAc,xAQ,xAD,xAC,AV.cells,AV.isCell,xAb,xAj,xAk,xAs,xAt,xAu,xAv,xAw,xAx,xAL,xAy,xAz,xAl,xAA,xAm,xAn,xAB,xAo,xAp,xAf,Nat.reduceDiv,Nat.reduceMod,WP,xAI,xAF,xAX,xAW,xAV,xAG,xAH,xAE,W2,xAd,xAe,xAi,Nat.reduceAdd,Nat.reduceSub,Nat.reduceLeDiff,Nat.reduceMul,Int.reduceAdd,Int.reduceSub,Int.reduceMul,Int.reduceLT,Int.reduceLE,Int.reduceEq,Int.reduceToNat,Int.reduceNeg,Nat.reduceEqDiff,Nat.reduceBEq,Nat.reduceLT,xAa,xAg,xAO,xSm,xSn]
 | d + 1,i,h => by
  have hlt : (i : Int) < (l.length : Nat) := by omega
  obtain ⟨i',ih⟩ := xPG (z := z) (k := k) (H := H) hl d (i + 1) (by omega)
  rw [xBz (by omega : i < l.length),List.contains_cons]
  generalize hx : l.getD i 0 = x at *
  by_cases c : x = k
  ·subst c
   refine ⟨i,?_⟩
   rw [if_pos (by simp),xXt]
   simp (maxSteps := 30000000) (disch := first | assumption | omega | (simp only [WL,AV.isCell,xAa] <;> omega) | rfl | decide) only [↓reduceIte,WB,xAR,xAc,xAQ,xAD,xAC,AV.cells,AV.isCell,xAb,xAj,xAk,xAs,xAt,xAu,xAv,xAw,xAx,xAL,xAy,xAz,xAl,xAA,xAm,xAn,xAB,xAo,xAp,xAf,Nat.reduceDiv,Nat.reduceMod,WP,xAI,xAF,xAX,xAW,xAV,xAG,xAH,xAE,W2,xAd,xAe,xAi,Nat.reduceAdd,Nat.reduceSub,Nat.reduceLeDiff,Nat.reduceMul,Int.reduceAdd,Int.reduceSub,Int.reduceMul,Int.reduceLT,Int.reduceLE,Int.reduceEq,Int.reduceToNat,Int.reduceNeg,Nat.reduceEqDiff,Nat.reduceBEq,Nat.reduceLT,xAa,xAg,xAO,xSm,xSn,hlt,hx]
  ·have c2 : (k == x) = false := by simpa using fun h : k = x => c h.symm
   refine ⟨i',?_⟩
   rw [c2,Bool.false_or,xXt]
   simp (maxSteps := 30000000) (disch := first | assumption | omega | (simp only [WL,AV.isCell,xAa] <;> omega) | rfl | decide) only [↓reduceIte,WB,xAR,xAc,xAQ,xAD,xAC,AV.cells,AV.isCell,xAb,xAj,xAk,xAs,xAt,xAu,xAv,xAw,xAx,xAL,xAy,xAz,xAl,xAA,xAm,xAn,xAB,xAo,xAp,xAf,Nat.reduceDiv,Nat.reduceMod,WP,xAI,xAF,xAX,xAW,xAV,xAG,xAH,xAE,W2,xAd,xAe,xAi,Nat.reduceAdd,Nat.reduceSub,Nat.reduceLeDiff,Nat.reduceMul,Int.reduceAdd,Int.reduceSub,Int.reduceMul,Int.reduceLT,Int.reduceLE,Int.reduceEq,Int.reduceToNat,Int.reduceNeg,Nat.reduceEqDiff,Nat.reduceBEq,Nat.reduceLT,xAa,xAg,xAO,xSm,xSn,hlt,hx,c,ih]
theorem yDD (z : Bool) (l : List Int) (k : Int) (hl : l.length < 1099511627776) : L.pcall 65 [iw z l,.int .i64 k] = some (.bool (l.contains k)) := by
 obtain ⟨i',h⟩ := xPG (z := z) (k := k) (H := []) hl l.length 0 (by omega)
 rw [List.drop_zero] at h
 have h' : L.loop xOO xXs ⟨xNq (iw z l) (.int .i64 k) (.bool false) (.int .i64 0),[]⟩ = _ := h
 rw [yEG,a65,xAK]
 cases hc : l.contains k with
 | true =>
  rw [hc] at h'
  simp only [if_true] at h'
  simp (maxSteps := 30000000) (disch := first | assumption | omega | (simp only [WL,AV.isCell,xAa] <;> omega) | rfl | decide) only [↓reduceIte,WB,xAR,xAc,xAQ,xAD,xAC,AV.cells,AV.isCell,xAb,xAj,xAk,xAs,xAt,xAu,xAv,xAw,xAx,xAL,xAy,xAz,xAl,xAA,xAm,xAn,xAB,xAo,xAp,xAf,Nat.reduceDiv,Nat.reduceMod,WP,xAI,xAF,xAX,xAW,xAV,xAG,xAH,xAE,W2,xAd,xAe,xAi,Nat.reduceAdd,Nat.reduceSub,Nat.reduceLeDiff,Nat.reduceMul,Int.reduceAdd,Int.reduceSub,Int.reduceMul,Int.reduceLT,Int.reduceLE,Int.reduceEq,Int.reduceToNat,Int.reduceNeg,Nat.reduceEqDiff,Nat.reduceBEq,Nat.reduceLT,xAa,xAg,xAO,xSn,h']
 | false =>
  rw [hc] at h'
  simp only [Bool.false_eq_true,if_false] at h'
  simp (maxSteps := 30000000) (disch := first | assumption | omega | (simp only [WL,AV.isCell,xAa] <;> omega) | rfl | decide) only [↓reduceIte,WB,xAR,xAc,xAQ,xAD,xAC,AV.cells,AV.isCell,xAb,xAj,xAk,xAs,xAt,xAu,xAv,xAw,xAx,xAL,xAy,xAz,xAl,xAA,xAm,xAn,xAB,xAo,xAp,xAf,Nat.reduceDiv,Nat.reduceMod,WP,xAI,xAF,xAX,xAW,xAV,xAG,xAH,xAE,W2,xAd,xAe,xAi,Nat.reduceAdd,Nat.reduceSub,Nat.reduceLeDiff,Nat.reduceMul,Int.reduceAdd,Int.reduceSub,Int.reduceMul,Int.reduceLT,Int.reduceLE,Int.reduceEq,Int.reduceToNat,Int.reduceNeg,Nat.reduceEqDiff,Nat.reduceBEq,Nat.reduceLT,xAa,xAg,xAO,xSn,h']
def ixI : List Int → Int → Int → Int
 | [],_,_ => -1
 | x :: l,q,i => if x = q then i else ixI l q (i + 1)
theorem xSI {z : Bool} {l : List Int} {k s4 : Int} {H : Heap} (hl : l.length < 1099511627776) : ∀ d i,i + d = l.length → ∃ i' : Nat,
  L.loop xOL xXm ⟨xNl (iw z l) (.int .i64 k) (.int .i64 s4) (.int .i64 (i : Nat)),H⟩ =
   some (if (l.drop i).contains k = true then (.ret,⟨xNl (iw z l) (.int .i64 k) (.int .i64 (ixI (l.drop i) k (i : Nat))) (.int .i64 (i' : Nat)),H⟩) else (.exit 0,⟨xNl (iw z l) (.int .i64 k) (.int .i64 s4) (.int .i64 (l.length : Nat)),H⟩))
 | 0,i,h => by
  obtain rfl : i = l.length := by omega
  refine ⟨0,?_⟩
  rw [List.drop_length,if_neg (by simp),xXn]
  simp (maxSteps := 30000000) (disch := first | assumption | omega | (simp only [WL,AV.isCell,xAa] <;> omega) | rfl | decide) only [↓reduceIte,WB,xAR,xAc,xAQ,xAD,xAC,AV.cells,AV.isCell,xAb,xAj,xAk,xAs,xAt,xAu,xAv,xAw,xAx,xAL,xAy,xAz,xAl,xAA,xAm,xAn,xAB,xAo,xAp,xAf,Nat.reduceDiv,Nat.reduceMod,WP,xAI,xAF,xAX,xAW,xAV,xAG,xAH,xAE,W2,xAd,xAe,xAi,Nat.reduceAdd,Nat.reduceSub,Nat.reduceLeDiff,Nat.reduceMul,Int.reduceAdd,Int.reduceSub,Int.reduceMul,Int.reduceLT,Int.reduceLE,Int.reduceEq,Int.reduceToNat,Int.reduceNeg,Nat.reduceEqDiff,Nat.reduceBEq,Nat.reduceLT,xAa,xAg,xAO,xR4,xR5]
 | d + 1,i,h => by
  have hlt : (i : Int) < (l.length : Nat) := by omega
  obtain ⟨i',ih⟩ := xSI (z := z) (k := k) (s4 := s4) (H := H) hl d (i + 1) (by omega)
  rw [xBz (by omega : i < l.length),List.contains_cons,ixI]
  generalize hx : l.getD i 0 = x at *
  by_cases c : x = k
  ·subst c
   refine ⟨i,?_⟩
   rw [if_pos (by simp),if_pos rfl,xXn]
   simp (maxSteps := 30000000) (disch := first | assumption | omega | (simp only [WL,AV.isCell,xAa] <;> omega) | rfl | decide) only [↓reduceIte,WB,xAR,xAc,xAQ,xAD,xAC,AV.cells,AV.isCell,xAb,xAj,xAk,xAs,xAt,xAu,xAv,xAw,xAx,xAL,xAy,xAz,xAl,xAA,xAm,xAn,xAB,xAo,xAp,xAf,Nat.reduceDiv,Nat.reduceMod,WP,xAI,xAF,xAX,xAW,xAV,xAG,xAH,xAE,W2,xAd,xAe,xAi,Nat.reduceAdd,Nat.reduceSub,Nat.reduceLeDiff,Nat.reduceMul,Int.reduceAdd,Int.reduceSub,Int.reduceMul,Int.reduceLT,Int.reduceLE,Int.reduceEq,Int.reduceToNat,Int.reduceNeg,Nat.reduceEqDiff,Nat.reduceBEq,Nat.reduceLT,xAa,xAg,xAO,xR4,xR5,hlt,hx]
  ·have c2 : (k == x) = false := by simpa using fun h : k = x => c h.symm
   have e : ((i + 1 : Nat) : Int) = (i : Int) + 1 := by omega
   refine ⟨i',?_⟩
   rw [c2,Bool.false_or,if_neg c,← e,xXn]
   simp (maxSteps := 30000000) (disch := first | assumption | omega | (simp only [WL,AV.isCell,xAa] <;> omega) | rfl | decide) only [↓reduceIte,WB,xAR,xAc,xAQ,xAD,xAC,AV.cells,AV.isCell,xAb,xAj,xAk,xAs,xAt,xAu,xAv,xAw,xAx,xAL,xAy,xAz,xAl,xAA,xAm,xAn,xAB,xAo,xAp,xAf,Nat.reduceDiv,Nat.reduceMod,WP,xAI,xAF,xAX,xAW,xAV,xAG,xAH,xAE,W2,xAd,xAe,xAi,Nat.reduceAdd,Nat.reduceSub,Nat.reduceLeDiff,Nat.reduceMul,Int.reduceAdd,Int.reduceSub,Int.reduceMul,Int.reduceLT,Int.reduceLE,Int.reduceEq,Int.reduceToNat,Int.reduceNeg,Nat.reduceEqDiff,Nat.reduceBEq,Nat.reduceLT,xAa,xAg,xAO,xR4,xR5,hlt,hx,c,ih]
theorem xQw : ∀ {l : List Int} {k : Int} (i : Int),l.contains k = false → ixI l k i = -1
 | [],_,_,_ => rfl
 | x :: l,k,i,h => by
  rw [List.contains_cons,Bool.or_eq_false_iff] at h
  rw [ixI,if_neg (fun e => by rw [e] at h; simp at h),xQw (i + 1) h.2]
theorem yBD (z : Bool) (l : List Int) (k : Int) (hl : l.length < 1099511627776) : L.pcall 39 [iw z l,.int .i64 k] = some (.int .i64 (ixI l k 0)) := by
 obtain ⟨i',h⟩ := xSI (z := z) (k := k) (s4 := 0) (H := []) hl l.length 0 (by omega)
 rw [List.drop_zero] at h
 have h' : L.loop xOL xXm ⟨xNl (iw z l) (.int .i64 k) (.int .i64 0) (.int .i64 0),[]⟩ = _ := h
 rw [yEr,a39,xAK]
 cases hc : l.contains k with
 | true =>
  rw [hc] at h'
  simp only [if_true] at h'
  simp (maxSteps := 30000000) (disch := first | assumption | omega | (simp only [WL,AV.isCell,xAa] <;> omega) | rfl | decide) only [↓reduceIte,WB,xAR,xAc,xAQ,xAD,xAC,AV.cells,AV.isCell,xAb,xAj,xAk,xAs,xAt,xAu,xAv,xAw,xAx,xAL,xAy,xAz,xAl,xAA,xAm,xAn,xAB,xAo,xAp,xAf,Nat.reduceDiv,Nat.reduceMod,WP,xAI,xAF,xAX,xAW,xAV,xAG,xAH,xAE,W2,xAd,xAe,xAi,Nat.reduceAdd,Nat.reduceSub,Nat.reduceLeDiff,Nat.reduceMul,Int.reduceAdd,Int.reduceSub,Int.reduceMul,Int.reduceLT,Int.reduceLE,Int.reduceEq,Int.reduceToNat,Int.reduceNeg,Nat.reduceEqDiff,Nat.reduceBEq,Nat.reduceLT,xAa,xAg,xAO,xR5,h']
 | false =>
  rw [hc] at h'
  simp only [Bool.false_eq_true,if_false] at h'
  rw [xQw 0 hc]
  simp (maxSteps := 30000000) (disch := first | assumption | omega | (simp only [WL,AV.isCell,xAa] <;> omega) | rfl | decide) only [↓reduceIte,WB,xAR,xAc,xAQ,xAD,xAC,AV.cells,AV.isCell,xAb,xAj,xAk,xAs,xAt,xAu,xAv,xAw,xAx,xAL,xAy,xAz,xAl,xAA,xAm,xAn,xAB,xAo,xAp,xAf,Nat.reduceDiv,Nat.reduceMod,WP,xAI,xAF,xAX,xAW,xAV,xAG,xAH,xAE,W2,xAd,xAe,xAi,Nat.reduceAdd,Nat.reduceSub,Nat.reduceLeDiff,Nat.reduceMul,Int.reduceAdd,Int.reduceSub,Int.reduceMul,Int.reduceLT,Int.reduceLE,Int.reduceEq,Int.reduceToNat,Int.reduceNeg,Nat.reduceEqDiff,Nat.reduceBEq,Nat.reduceLT,xAa,xAg,xAO,xR5,h']
theorem yAN : ∀ {l : List Int} {q : Int} (r : Nat) (i : Int),r < l.length → l.getD r 0 = q → (∀ j,j < r → l.getD j 0 ≠ q) → ixI l q i = i + (r : Nat)
 | [],_,_,_,h,_,_ => by simp at h
 | x :: l,q,0,i,_,h,_ => by
  have : x = q := h
  rw [ixI,if_pos this]; simp
 | x :: l,q,r + 1,i,hr,h,hn => by
  have h0 : x ≠ q := hn 0 (by omega)
  rw [ixI,if_neg h0,yAN r (i + 1) (by simpa using hr) h (fun j hj => hn (j + 1) (by omega))]
  push_cast
  omega
def uL (U : Nat → Bool) : List Int := (setL U).map Int.ofNat
theorem xYa (U : Nat → Bool) : (uL U).length = (setL U).length := by simp [uL]
theorem yAO (U : Nat → Bool) (j : Nat) (hj : j < (setL U).length) : (uL U).getD j 0 = ((setL U).getD j 0 : Nat) := by
 simp [uL,List.getD_eq_getElem?_getD,hj]
theorem yDE {U : Nat → Bool} {q : Nat} (hq : q < 4096) : ixI (uL U) (q : Nat) 0 = if U q = true then ((xHz U q : Nat) : Int) else -1 := by
 split
 ·rename_i hU
  obtain ⟨h1,h2⟩ := (xSW U hq).2 hU
  have hnd : (setL U).Pairwise (· < ·) := by unfold setL; exact List.Pairwise.filter U List.pairwise_lt_range
  rw [yAN (xHz U q) 0 (by rw [xYa]; exact h1) (by rw [yAO _ _ h1,h2]) (fun j hj e => ?_),Int.zero_add]
  rw [yAO _ _ (by omega)] at e
  have e' : (setL U).getD j 0 = (setL U).getD (xHz U q) 0 := by rw [h2]; exact Int.ofNat.inj e
  rw [List.getD_eq_getElem?_getD,List.getElem?_eq_getElem (by omega),List.getD_eq_getElem?_getD,List.getElem?_eq_getElem h1] at e'
  have := List.pairwise_iff_getElem.1 hnd j (xHz U q) (by omega) h1 hj
  simp only [Option.getD_some] at e'
  omega
 ·rename_i hU
  refine xQw 0 ?_
  rw [← Bool.not_eq_true,List.contains_iff_mem]
  intro hm
  obtain ⟨k,hk,e⟩ := List.mem_map.1 hm
  have : k = q := Int.ofNat.inj e
  subst this
  unfold setL at hk
  exact hU (List.mem_filter.1 hk).2
theorem xUZ {U : Nat → Bool} {M : Nat} (hU : ∀ j,M ≤ j → U j = false) : ∀ d,(List.range (M + d)).filter U = (List.range M).filter U
 | 0 => rfl
 | d + 1 => by
  rw [← Nat.add_assoc,List.range_succ,List.filter_append,xUZ hU d,List.filter_cons,hU (M + d) (by omega)]
  simp
theorem yBE {r : List Nat} {U : Nat → Bool} (h : CanS r U) : xFL r (64 * min r.length 64) = uL U := by
 have hl := h.2.1
 have hU : ∀ j,64 * min r.length 64 ≤ j → U j = false := fun j hj => by rw [← h.2.2.2 j]; exact xYu hj
 have hs : ∀ N M : Nat,M ≤ N → (∀ j,M ≤ j → U j = false) → (List.range N).filter U = (List.range M).filter U := by
  intro N M hMN hU
  obtain ⟨d,rfl⟩ : ∃ d,N = M + d := ⟨N - M,by omega⟩
  exact xUZ hU d
 have xCm : setL U = (List.range (64 * min r.length 64)).filter U := hs _ _ (by omega) hU
 unfold xFL uL
 rw [xCm]
 exact congrArg (List.map Int.ofNat) (List.filter_congr fun j _ => h.2.2.2 j)
def OwL (T : Heap) (v : AV) (l : List Int) : Prop := (v = .sl true 0 [] ∧ l = []) ∨ ∃ k,v = .own false k 0 l.length 1 ∧ T[k]? = some (.cells false false (xBd l))
theorem xPH {zb zx : Bool} {b : List Nat} {x : List Int} (hb : b.length < 1099511627776) (wb : W b) (hx : x.length ≤ 4096) : ∀ d i T v l,i + d = x.length → l.length + d ≤ 8192 → OwL T v l → ∃ T' v',
  L.loop xOI xXk ⟨xOJ (sw zb b) v (iw zx x) (.int .i64 (i : Nat)),T⟩ = some (.exit 0,⟨xOJ (sw zb b) v' (iw zx x) (.int .i64 (x.length : Nat)),T'⟩) ∧ OwL T' v' (l ++ (x.drop i).filter fun q => (xFL b (64 * min b.length 64)).contains q)
 | 0,i,T,v,l,h,hll,hv => by
  obtain rfl : i = x.length := by omega
  refine ⟨T,v,?_,by rw [List.drop_length,List.filter_nil,List.append_nil]; exact hv⟩
  rw [xUy]
  simp (maxSteps := 30000000) (disch := first | assumption | omega | (simp only [WL,AV.isCell,xAa] <;> omega) | rfl | decide) only [↓reduceIte,WB,xAR,xAc,xAQ,xAD,xAC,AV.cells,AV.isCell,xAb,xAj,xAk,xAs,xAt,xAu,xAv,xAw,xAx,xAL,xAy,xAz,xAl,xAA,xAm,xAn,xAB,xAo,xAp,xAf,Nat.reduceDiv,Nat.reduceMod,WP,xAI,xAF,xAX,xAW,xAV,xAG,xAH,xAE,W2,xAd,xAe,xAi,Nat.reduceAdd,Nat.reduceSub,Nat.reduceLeDiff,Nat.reduceMul,Int.reduceAdd,Int.reduceSub,Int.reduceMul,Int.reduceLT,Int.reduceLE,Int.reduceEq,Int.reduceToNat,Int.reduceNeg,Nat.reduceEqDiff,Nat.reduceBEq,Nat.reduceLT,xAa,xAg,xAq,xAr,xAM,xOH,xOK]
 | d + 1,i,T,v,l,h,hll,hv => by
  have hlt : (i : Int) < (x.length : Nat) := by omega
  obtain ⟨z',h36⟩ := xTQ zb b hb wb
  have hbl := xQE b (64 * min b.length 64)
  have h65 := fun k => yDD z' (xFL b (64 * min b.length 64)) k (by omega)
  have hdr : (x.drop i).filter (fun q => (xFL b (64 * min b.length 64)).contains q) = if (xFL b (64 * min b.length 64)).contains (x.getD i 0) = true then x.getD i 0 :: (x.drop (i + 1)).filter (fun q => (xFL b (64 * min b.length 64)).contains q) else (x.drop (i + 1)).filter (fun q => (xFL b (64 * min b.length 64)).contains q) := by
   rw [xBz (by omega : i < x.length),List.filter_cons]
  rw [hdr]
  clear hdr
  have ih := fun T v l h1 h2 h3 => xPH (zb := zb) (zx := zx) hb wb hx d (i + 1) T v l h1 h2 h3
  generalize xFL b (64 * min b.length 64) = Lb at *
  generalize hq : x.getD i 0 = q at *
  have h65 := h65 q
  cases hc : Lb.contains q with
  | false =>
   rw [hc] at h65
   obtain ⟨T',v',h1,h2⟩ := ih T v l (by omega) (by omega) hv
   refine ⟨T',v',?_,by simp only [Bool.false_eq_true,if_false]; exact h2⟩
   clear ih
   rw [xUy]
   simp (maxSteps := 30000000) (disch := first | assumption | omega | (simp only [WL,AV.isCell,xAa] <;> omega) | rfl | decide) only [↓reduceIte,WB,xAR,xAc,xAQ,xAD,xAC,AV.cells,AV.isCell,xAb,xAj,xAk,xAs,xAt,xAu,xAv,xAw,xAx,xAL,xAy,xAz,xAl,xAA,xAm,xAn,xAB,xAo,xAp,xAf,Nat.reduceDiv,Nat.reduceMod,WP,xAI,xAF,xAX,xAW,xAV,xAG,xAH,xAE,W2,xAd,xAe,xAi,Nat.reduceAdd,Nat.reduceSub,Nat.reduceLeDiff,Nat.reduceMul,Int.reduceAdd,Int.reduceSub,Int.reduceMul,Int.reduceLT,Int.reduceLE,Int.reduceEq,Int.reduceToNat,Int.reduceNeg,Nat.reduceEqDiff,Nat.reduceBEq,Nat.reduceLT,xAa,xAg,xAq,xAr,xAM,xOH,xOK,hlt,h36,hq,h65,h1]
  | true =>
   rw [hc] at h65
   simp only [if_true]
   have e : ∀ r : List Int,l ++ q :: r = l ++ [q] ++ r := fun r => by simp
   rw [e]
   rcases hv with ⟨rfl,rfl⟩ | ⟨k,rfl,hk⟩
   ·obtain ⟨T',v',h1,h2⟩ := ih (T ++ [.cells false false (xBd [q])]) (.own false T.length 0 1 1) [q] (by omega) (by simp at hll ⊢; omega) (.inr ⟨T.length,rfl,by rw [List.getElem?_append_right (Nat.le_refl _),Nat.sub_self]; rfl⟩)
    refine ⟨T',v',?_,h2⟩
    clear ih
    simp only [xCh] at h1
    rw [xUy]
    simp (maxSteps := 30000000) (disch := first | assumption | omega | (simp only [WL,AV.isCell,xAa] <;> omega) | rfl | decide) only [↓reduceIte,WB,xAR,xAc,xAQ,xAD,xAC,AV.cells,AV.isCell,xAb,xAj,xAk,xAs,xAt,xAu,xAv,xAw,xAx,xAL,xAy,xAz,xAl,xAA,xAm,xAn,xAB,xAo,xAp,xAf,Nat.reduceDiv,Nat.reduceMod,WP,xAI,xAF,xAX,xAW,xAV,xAG,xAH,xAE,W2,xAd,xAe,xAi,Nat.reduceAdd,Nat.reduceSub,Nat.reduceLeDiff,Nat.reduceMul,Int.reduceAdd,Int.reduceSub,Int.reduceMul,Int.reduceLT,Int.reduceLE,Int.reduceEq,Int.reduceToNat,Int.reduceNeg,Nat.reduceEqDiff,Nat.reduceBEq,Nat.reduceLT,xAa,xAg,xAq,xAr,xAM,xOH,xOK,hlt,h36,hq,h65,h1]
   ·have lk := (List.getElem?_eq_some_iff.1 hk).1
    have hlen : (l ++ [q]).length = l.length + 1 := by simp
    have happ : xBd l ++ [.int .i64 q] = xBd (l ++ [q]) := by simp [xBd]
    obtain ⟨T',v',h1,h2⟩ := ih (T.set k .dead ++ [.cells false false (xBd (l ++ [q]))]) (.own false T.length 0 (l.length + 1) 1) (l ++ [q]) (by omega) (by rw [hlen]; omega) (.inr ⟨T.length,by rw [hlen],by rw [List.getElem?_append_right (by simp),List.length_set,Nat.sub_self]; rfl⟩)
    refine ⟨T',v',?_,h2⟩
    clear ih e
    have hil := xAT l
    have hit := xBO l
    generalize xBd (l ++ [q]) = L2 at *
    generalize xBd l = L1 at *
    generalize l.length = m at *
    rw [xUy]
    simp (maxSteps := 30000000) (disch := first | assumption | omega | (simp only [WL,AV.isCell,xAa] <;> omega) | rfl | decide) only [↓reduceIte,WB,xAR,xAc,xAQ,xAD,xAC,AV.cells,AV.isCell,xAb,xAj,xAk,xAs,xAt,xAu,xAv,xAw,xAx,xAL,xAy,xAz,xAl,xAA,xAm,xAn,xAB,xAo,xAp,xAf,Nat.reduceDiv,Nat.reduceMod,WP,xAI,xAF,xAX,xAW,xAV,xAG,xAH,xAE,W2,xAd,xAe,xAi,Nat.reduceAdd,Nat.reduceSub,Nat.reduceLeDiff,Nat.reduceMul,Int.reduceAdd,Int.reduceSub,Int.reduceMul,Int.reduceLT,Int.reduceLE,Int.reduceEq,Int.reduceToNat,Int.reduceNeg,Nat.reduceEqDiff,Nat.reduceBEq,Nat.reduceLT,xAa,xAg,xAq,xAr,xAM,xOH,xOK,hlt,h36,hq,h65,hk,hil,hit,happ,h1]
theorem yBF {za zb : Bool} {a b : List Nat} {S T : Nat → Bool} (ha : CanS a S) (hb : CanS b T) : ∃ z r,L.pcall 37 [sw za a,sw zb b] = some (sw z r) ∧ CanS r (fun j => S j && T j) := by
 obtain ⟨z1,h36⟩ := xTQ za a (by have := ha.2.1; omega) ha.1
 have hxl := xQE a (64 * min a.length 64)
 have hal := ha.2.1
 have hin := xVc a
 have hinb := xVc b
 obtain ⟨T',v',h1,h2⟩ := xPH (zb := zb) (zx := z1) (b := b) (x := xFL a (64 * min a.length 64)) (by have := hb.2.1; omega) hb.1 (by omega) (xFL a (64 * min a.length 64)).length 0 [] (.sl true 0 []) [] (by omega) (by simp; omega) (.inl ⟨rfl,rfl⟩)
 rw [List.drop_zero,List.nil_append] at h2
 have hmem : ∀ q ∈ (xFL a (64 * min a.length 64)).filter (fun q => (xFL b (64 * min b.length 64)).contains q),0 ≤ q ∧ q < 4096 := by
  intro q hq
  obtain ⟨j,hj,_,rfl⟩ := mem_bitL.1 (List.mem_filter.1 hq).1
  omega
 have hlen : ((xFL a (64 * min a.length 64)).filter (fun q => (xFL b (64 * min b.length 64)).contains q)).length ≤ 4096 := Nat.le_trans (List.length_filter_le _ _) (by omega)
 have xCm : ∀ j,inS ((xFL a (64 * min a.length 64)).filter (fun q => (xFL b (64 * min b.length 64)).contains q)) j = (S j && T j) := by
  intro j
  have e1 := hin j
  have e2 := hinb j
  rw [ha.2.2.2 j] at e1
  rw [hb.2.2.2 j] at e2
  rw [← e1,← e2]
  unfold inS
  rw [Bool.eq_iff_iff,List.contains_iff_mem,List.mem_filter,Bool.and_eq_true,List.contains_iff_mem,List.contains_iff_mem]
 generalize (xFL a (64 * min a.length 64)).filter (fun q => (xFL b (64 * min b.length 64)).contains q) = l at *
 have h1' : L.loop xOI xXk ⟨xOJ (sw zb b) (.sl true 0 []) (iw z1 (xFL a (64 * min a.length 64))) (.int .i64 0),[]⟩ = _ := h1
 generalize xFL a (64 * min a.length 64) = x at *
 have fin : ∀ z,∃ z' r,L.pcall 38 [iw z l] = some (sw z' r) ∧ CanS r (fun j => S j && T j) := fun z => by
  obtain ⟨z',r,g1,g2⟩ := xU7 z l (by omega) hmem
  exact ⟨z',r,g1,g2.congr xCm⟩
 rcases h2 with ⟨rfl,rfl⟩ | ⟨k,rfl,hk⟩
 ·obtain ⟨z',r,g1,g2⟩ := fin true
  have g1 : L.pcall 38 [.sl true 0 []] = some (sw z' r) := g1
  refine ⟨z',r,?_,g2⟩
  rw [yDT,a37,xAK]
  simp (maxSteps := 30000000) (disch := first | assumption | omega | (simp only [WL,AV.isCell,xAa] <;> omega) | rfl | decide) only [↓reduceIte,WB,xAR,xAc,xAQ,xAD,xAC,AV.cells,AV.isCell,xAb,xAj,xAk,xAs,xAt,xAu,xAv,xAw,xAx,xAL,xAy,xAz,xAl,xAA,xAm,xAn,xAB,xAo,xAp,xAf,Nat.reduceDiv,Nat.reduceMod,WP,xAI,xAF,xAX,xAW,xAV,xAG,xAH,xAE,W2,xAd,xAe,xAi,Nat.reduceAdd,Nat.reduceSub,Nat.reduceLeDiff,Nat.reduceMul,Int.reduceAdd,Int.reduceSub,Int.reduceMul,Int.reduceLT,Int.reduceLE,Int.reduceEq,Int.reduceToNat,Int.reduceNeg,Nat.reduceEqDiff,Nat.reduceBEq,Nat.reduceLT,xAa,xAg,xAq,xAr,xAM,h36,xOK,h1',g1]
 ·obtain ⟨z',r,g1,g2⟩ := fin false
  have hit := xBO l
  have hil := xAT l
  refine ⟨z',r,?_,g2⟩
  rw [yDT,a37,xAK]
  simp (maxSteps := 30000000) (disch := first | assumption | omega | (simp only [WL,AV.isCell,xAa] <;> omega) | rfl | decide) only [↓reduceIte,WB,xAR,xAc,xAQ,xAD,xAC,AV.cells,AV.isCell,xAb,xAj,xAk,xAs,xAt,xAu,xAv,xAw,xAx,xAL,xAy,xAz,xAl,xAA,xAm,xAn,xAB,xAo,xAp,xAf,Nat.reduceDiv,Nat.reduceMod,WP,xAI,xAF,xAX,xAW,xAV,xAG,xAH,xAE,W2,xAd,xAe,xAi,Nat.reduceAdd,Nat.reduceSub,Nat.reduceLeDiff,Nat.reduceMul,Int.reduceAdd,Int.reduceSub,Int.reduceMul,Int.reduceLT,Int.reduceLE,Int.reduceEq,Int.reduceToNat,Int.reduceNeg,Nat.reduceEqDiff,Nat.reduceBEq,Nat.reduceLT,xAa,xAg,xAq,xAr,xAM,h36,xOK,h1',hk,hit,hil,g1]
abbrev HR (n : Aut) (k : Nat) (sv fv ev : AV) (T : Heap) : Heap := .cells false false n.cells :: .cells false false [.int .i64 0,.int .i64 0,.sl true 0 [],.sl true 0 [],.sl true 0 []] :: .cells false false [.int .i64 n.vars,.int .i64 (k : Nat),sv,fv,ev] :: T
theorem xU0 {U : Nat → Bool} {z : Bool} (hl : (setL U).length < 1000000) {q : Int} (h0 : 0 ≤ q) (h1 : q < 4096) : L.pcall 39 [iw z (uL U),.int .i64 q] = some (.int .i64 (if U q.toNat = true then ((xHz U q.toNat : Nat) : Int) else -1)) := by
 obtain ⟨k,rfl⟩ := Int.eq_ofNat_of_zero_le h0
 have := yBD z (uL U) ((k : Nat) : Int) (by rw [xYa]; omega)
 rw [yDE (by omega)] at this
 exact this
theorem xYb {l : List Int} {U : Nat → Bool} {q : Int} {r : List Int} (h : U q.toNat = true) : l ++ (q :: r).filterMap (num U) = l ++ [((xHz U q.toNat : Nat) : Int)] ++ r.filterMap (num U) := by
 rw [List.filterMap_cons]
 simp only [num,h,if_true]
 simp
theorem xU1 {l : List Int} {U : Nat → Bool} {q : Int} {r : List Int} (h : U q.toNat = false) : l ++ (q :: r).filterMap (num U) = l ++ r.filterMap (num U) := by
 rw [List.filterMap_cons]
 simp only [num,h,Bool.false_eq_true,if_false]
set_option maxHeartbeats 2000000 in
theorem xMt {n : Aut} {U : Nat → Bool} {zu : Bool} {k0 : Nat} {o1 o2 : AV} (hu : (setL U).length < 1000000) (c1 : o1.isCell = true) (c2 : o2.isCell = true) (hl : n.st.length < 1000) (hq : ∀ q ∈ n.st,0 ≤ q ∧ q < 4096) : ∀ d i T sv l,i + d = n.st.length → l.length + d < 100000 → Bld T sv 1 l.length (xBd l) →
  ∃ T' sv',L.loop xRe xZi ⟨xRf (.ptr 0 0) (.ptr 1 0) (iw zu (uL U)) (.ptr 2 0) (.int .i64 (i : Nat)),HR n k0 sv o1 o2 T⟩ = some (.exit 0,⟨xRf (.ptr 0 0) (.ptr 1 0) (iw zu (uL U)) (.ptr 2 0) (.int .i64 (n.st.length : Nat)),HR n k0 sv' o1 o2 T'⟩) ∧
   Bld T' sv' 1 (l ++ (n.st.drop i).filterMap (num U)).length (xBd (l ++ (n.st.drop i).filterMap (num U))) ∧ (∀ j x,Not sv j → T[j]? = some x → T'[j]? = some x ∧ Not sv' j)
 | 0,i,T,sv,l,h,hll,hB => by
  obtain rfl : i = n.st.length := by omega
  refine ⟨T,sv,?_,by rw [List.drop_length]; simpa using hB,fun j x h1 h2 => ⟨h2,h1⟩⟩
  rw [xUd]
  simp (maxSteps := 30000000) (disch := first | assumption | omega | (simp only [WL,AV.isCell,xAa] <;> omega) | rfl | decide) only [↓reduceIte,WB,xAR,xAc,xAQ,xAD,xAC,AV.cells,AV.isCell,xAb,xAj,xAk,xAs,xAt,xAu,xAv,xAw,xAx,xAL,xAy,xAz,xAl,xAA,xAm,xAn,xAB,xAo,xAp,xAf,Nat.reduceDiv,Nat.reduceMod,WP,xAI,xAF,xAX,xAW,xAV,xAG,xAH,xAE,W2,xAd,xAe,xAi,Nat.reduceAdd,Nat.reduceSub,Nat.reduceLeDiff,Nat.reduceMul,Int.reduceAdd,Int.reduceSub,Int.reduceMul,Int.reduceLT,Int.reduceLE,Int.reduceEq,Int.reduceToNat,Int.reduceNeg,Nat.reduceEqDiff,Nat.reduceBEq,Nat.reduceLT,xAa,xAg,xAq,xAr,xAM,xOl,xRg]
 | d + 1,i,T,sv,l,h,hll,hB => by
  have hlt : (i : Int) < (n.st.length : Nat) := by omega
  have hqi := hq _ (xHo (by omega : i < n.st.length))
  have hix := xU0 (U := U) (z := zu) hu hqi.1 hqi.2
  have cs := hB.cell
  rw [xBz (by omega : i < n.st.length)]
  generalize hx : n.st.getD i 0 = q at *
  cases hU : U q.toNat with
  | false =>
   rw [hU] at hix
   simp only [Bool.false_eq_true,if_false] at hix
   obtain ⟨T',sv',h1,h2,h3⟩ := xMt (U := U) (zu := zu) (k0 := k0) hu c1 c2 hl hq d (i + 1) T sv l (by omega) (by omega) hB
   refine ⟨T',sv',?_,by rw [xU1 hU]; exact h2,h3⟩
   rw [xUd]
   simp (maxSteps := 30000000) (disch := first | assumption | omega | (simp only [WL,AV.isCell,xAa] <;> omega) | rfl | decide) only [↓reduceIte,WB,xAR,xAc,xAQ,xAD,xAC,AV.cells,AV.isCell,xAb,xAj,xAk,xAs,xAt,xAu,xAv,xAw,xAx,xAL,xAy,xAz,xAl,xAA,xAm,xAn,xAB,xAo,xAp,xAf,Nat.reduceDiv,Nat.reduceMod,WP,xAI,xAF,xAX,xAW,xAV,xAG,xAH,xAE,W2,xAd,xAe,xAi,Nat.reduceAdd,Nat.reduceSub,Nat.reduceLeDiff,Nat.reduceMul,Int.reduceAdd,Int.reduceSub,Int.reduceMul,Int.reduceLT,Int.reduceLE,Int.reduceEq,Int.reduceToNat,Int.reduceNeg,Nat.reduceEqDiff,Nat.reduceBEq,Nat.reduceLT,xAa,xAg,xAq,xAr,xAM,xOl,xRg,hlt,hx,hix,h1]
  | true =>
   rw [hU] at hix
   simp only [if_true] at hix
   rw [xYb hU]
   have hneg : (0 : Int) ≤ ((xHz U q.toNat : Nat) : Int) := by omega
   generalize hk : ((xHz U q.toNat : Nat) : Int) = v at *
   rcases hB with ⟨rfl,e1,e2⟩ | ⟨k,rfl,e1,e2⟩
   ·have hl0 : l = [] := List.length_eq_zero_iff.1 e1
    subst hl0
    obtain ⟨T',sv',h1,h2,h3⟩ := xMt (U := U) (zu := zu) (k0 := k0) (o1 := o1) (o2 := o2) hu c1 c2 hl hq d (i + 1) (T ++ [.cells false false (xBd [v])]) (.own false (T.length + 1 + 1 + 1) 0 1 1) [v] (by omega) (by simp at hll ⊢; omega)
     (.inr ⟨T.length,rfl,by simp,by rw [xAT]; simp⟩)
    refine ⟨T',sv',?_,h2,fun j x q1 q2 => ?_⟩
    ·simp only [List.cons_append,List.nil_append,xCh] at h1
     rw [xUd]
     simp (maxSteps := 30000000) (disch := first | assumption | omega | (simp only [WL,AV.isCell,xAa] <;> omega) | rfl | decide) only [↓reduceIte,WB,xAR,xAc,xAQ,xAD,xAC,AV.cells,AV.isCell,xAb,xAj,xAk,xAs,xAt,xAu,xAv,xAw,xAx,xAL,xAy,xAz,xAl,xAA,xAm,xAn,xAB,xAo,xAp,xAf,Nat.reduceDiv,Nat.reduceMod,WP,xAI,xAF,xAX,xAW,xAV,xAG,xAH,xAE,W2,xAd,xAe,xAi,Nat.reduceAdd,Nat.reduceSub,Nat.reduceLeDiff,Nat.reduceMul,Int.reduceAdd,Int.reduceSub,Int.reduceMul,Int.reduceLT,Int.reduceLE,Int.reduceEq,Int.reduceToNat,Int.reduceNeg,Nat.reduceEqDiff,Nat.reduceBEq,Nat.reduceLT,xAa,xAg,xAq,xAr,xAM,xOl,xRg,hlt,hx,hix,hneg,h1]
    ·have hj := (List.getElem?_eq_some_iff.1 q2).1
     exact h3 j x (fun n es e => by cases e; omega) (by rw [List.getElem?_append_left hj]; exact q2)
   ·have hkl := (List.getElem?_eq_some_iff.1 e1).1
    obtain ⟨T',sv',h1,h2,h3⟩ := xMt (U := U) (zu := zu) (k0 := k0) (o1 := o1) (o2 := o2) hu c1 c2 hl hq d (i + 1) (T.set k .dead ++ [.cells false false (xBd (l ++ [v]))]) (.own false (T.length + 1 + 1 + 1) 0 (l ++ [v]).length 1) (l ++ [v]) (by omega) (by simp at hll ⊢; omega)
     (.inr ⟨T.length,rfl,by simp,by rw [xAT]; simp⟩)
    refine ⟨T',sv',?_,h2,fun j x q1 q2 => ?_⟩
    ·have hsn : xBd l ++ [AV.int .i64 v] = xBd (l ++ [v]) := by simp [xBd]
     have hll2 : (l ++ [v]).length = l.length + 1 := by simp
     simp only [hll2] at h1
     rw [xUd]
     simp (maxSteps := 30000000) (disch := first | assumption | omega | (simp only [WL,AV.isCell,xAa] <;> omega) | rfl | decide) only [↓reduceIte,WB,xAR,xAc,xAQ,xAD,xAC,AV.cells,AV.isCell,xAb,xAj,xAk,xAs,xAt,xAu,xAv,xAw,xAx,xAL,xAy,xAz,xAl,xAA,xAm,xAn,xAB,xAo,xAp,xAf,Nat.reduceDiv,Nat.reduceMod,WP,xAI,xAF,xAX,xAW,xAV,xAG,xAH,xAE,W2,xAd,xAe,xAi,Nat.reduceAdd,Nat.reduceSub,Nat.reduceLeDiff,Nat.reduceMul,Int.reduceAdd,Int.reduceSub,Int.reduceMul,Int.reduceLT,Int.reduceLE,Int.reduceEq,Int.reduceToNat,Int.reduceNeg,Nat.reduceEqDiff,Nat.reduceBEq,Nat.reduceLT,xAa,xAg,xAq,xAr,xAM,xOl,xRg,hlt,hx,hix,hneg,e1,hsn,h1]
    ·have hj := (List.getElem?_eq_some_iff.1 q2).1
     have hjk : j ≠ k := by
      rintro rfl
      exact q1 _ _ rfl
     exact h3 j x (fun n es e => by cases e; omega) (by rw [List.getElem?_append_left (by simpa using hj),List.getElem?_set_ne (fun e => hjk e.symm)]; exact q2)
set_option maxHeartbeats 2000000 in
theorem xMu {n : Aut} {U : Nat → Bool} {zu : Bool} {k0 : Nat} {o1 o2 : AV} (hu : (setL U).length < 1000000) (c1 : o1.isCell = true) (c2 : o2.isCell = true) (hl : n.fi.length < 1000) (hq : ∀ q ∈ n.fi,0 ≤ q ∧ q < 4096) : ∀ d i T sv l,i + d = n.fi.length → l.length + d < 100000 → Bld T sv 1 l.length (xBd l) →
  ∃ T' sv',L.loop xRh xZj ⟨xRi (.ptr 0 0) (.ptr 1 0) (iw zu (uL U)) (.ptr 2 0) (.int .i64 (i : Nat)),HR n k0 o1 sv o2 T⟩ = some (.exit 2,⟨xRi (.ptr 0 0) (.ptr 1 0) (iw zu (uL U)) (.ptr 2 0) (.int .i64 (n.fi.length : Nat)),HR n k0 o1 sv' o2 T'⟩) ∧
   Bld T' sv' 1 (l ++ (n.fi.drop i).filterMap (num U)).length (xBd (l ++ (n.fi.drop i).filterMap (num U))) ∧ (∀ j x,Not sv j → T[j]? = some x → T'[j]? = some x ∧ Not sv' j)
 | 0,i,T,sv,l,h,hll,hB => by
  obtain rfl : i = n.fi.length := by omega
  refine ⟨T,sv,?_,by rw [List.drop_length]; simpa using hB,fun j x h1 h2 => ⟨h2,h1⟩⟩
  rw [xUe]
  simp (maxSteps := 30000000) (disch := first | assumption | omega | (simp only [WL,AV.isCell,xAa] <;> omega) | rfl | decide) only [↓reduceIte,WB,xAR,xAc,xAQ,xAD,xAC,AV.cells,AV.isCell,xAb,xAj,xAk,xAs,xAt,xAu,xAv,xAw,xAx,xAL,xAy,xAz,xAl,xAA,xAm,xAn,xAB,xAo,xAp,xAf,Nat.reduceDiv,Nat.reduceMod,WP,xAI,xAF,xAX,xAW,xAV,xAG,xAH,xAE,W2,xAd,xAe,xAi,Nat.reduceAdd,Nat.reduceSub,Nat.reduceLeDiff,Nat.reduceMul,Int.reduceAdd,Int.reduceSub,Int.reduceMul,Int.reduceLT,Int.reduceLE,Int.reduceEq,Int.reduceToNat,Int.reduceNeg,Nat.reduceEqDiff,Nat.reduceBEq,Nat.reduceLT,xAa,xAg,xAq,xAr,xAM,xOm,xRj]
 | d + 1,i,T,sv,l,h,hll,hB => by
  have hlt : (i : Int) < (n.fi.length : Nat) := by omega
  have hqi := hq _ (xHo (by omega : i < n.fi.length))
  have hix := xU0 (U := U) (z := zu) hu hqi.1 hqi.2
  have cs := hB.cell
  rw [xBz (by omega : i < n.fi.length)]
  generalize hx : n.fi.getD i 0 = q at *
  cases hU : U q.toNat with
  | false =>
   rw [hU] at hix
   simp only [Bool.false_eq_true,if_false] at hix
   obtain ⟨T',sv',h1,h2,h3⟩ := xMu (U := U) (zu := zu) (k0 := k0) hu c1 c2 hl hq d (i + 1) T sv l (by omega) (by omega) hB
   refine ⟨T',sv',?_,by rw [xU1 hU]; exact h2,h3⟩
   rw [xUe]
   simp (maxSteps := 30000000) (disch := first | assumption | omega | (simp only [WL,AV.isCell,xAa] <;> omega) | rfl | decide) only [↓reduceIte,WB,xAR,xAc,xAQ,xAD,xAC,AV.cells,AV.isCell,xAb,xAj,xAk,xAs,xAt,xAu,xAv,xAw,xAx,xAL,xAy,xAz,xAl,xAA,xAm,xAn,xAB,xAo,xAp,xAf,Nat.reduceDiv,Nat.reduceMod,WP,xAI,xAF,xAX,xAW,xAV,xAG,xAH,xAE,W2,xAd,xAe,xAi,Nat.reduceAdd,Nat.reduceSub,Nat.reduceLeDiff,Nat.reduceMul,Int.reduceAdd,Int.reduceSub,Int.reduceMul,Int.reduceLT,Int.reduceLE,Int.reduceEq,Int.reduceToNat,Int.reduceNeg,Nat.reduceEqDiff,Nat.reduceBEq,Nat.reduceLT,xAa,xAg,xAq,xAr,xAM,xOm,xRj,hlt,hx,hix,h1]
  | true =>
   rw [hU] at hix
   simp only [if_true] at hix
   rw [xYb hU]
   have hneg : (0 : Int) ≤ ((xHz U q.toNat : Nat) : Int) := by omega
   generalize hk : ((xHz U q.toNat : Nat) : Int) = v at *
   rcases hB with ⟨rfl,e1,e2⟩ | ⟨k,rfl,e1,e2⟩
   ·have hl0 : l = [] := List.length_eq_zero_iff.1 e1
    subst hl0
    obtain ⟨T',sv',h1,h2,h3⟩ := xMu (U := U) (zu := zu) (k0 := k0) (o1 := o1) (o2 := o2) hu c1 c2 hl hq d (i + 1) (T ++ [.cells false false (xBd [v])]) (.own false (T.length + 1 + 1 + 1) 0 1 1) [v] (by omega) (by simp at hll ⊢; omega)
     (.inr ⟨T.length,rfl,by simp,by rw [xAT]; simp⟩)
    refine ⟨T',sv',?_,h2,fun j x q1 q2 => ?_⟩
    ·simp only [List.cons_append,List.nil_append,xCh] at h1
     rw [xUe]
     simp (maxSteps := 30000000) (disch := first | assumption | omega | (simp only [WL,AV.isCell,xAa] <;> omega) | rfl | decide) only [↓reduceIte,WB,xAR,xAc,xAQ,xAD,xAC,AV.cells,AV.isCell,xAb,xAj,xAk,xAs,xAt,xAu,xAv,xAw,xAx,xAL,xAy,xAz,xAl,xAA,xAm,xAn,xAB,xAo,xAp,xAf,Nat.reduceDiv,Nat.reduceMod,WP,xAI,xAF,xAX,xAW,xAV,xAG,xAH,xAE,W2,xAd,xAe,xAi,Nat.reduceAdd,Nat.reduceSub,Nat.reduceLeDiff,Nat.reduceMul,Int.reduceAdd,Int.reduceSub,Int.reduceMul,Int.reduceLT,Int.reduceLE,Int.reduceEq,Int.reduceToNat,Int.reduceNeg,Nat.reduceEqDiff,Nat.reduceBEq,Nat.reduceLT,xAa,xAg,xAq,xAr,xAM,xOm,xRj,hlt,hx,hix,hneg,h1]
    ·have hj := (List.getElem?_eq_some_iff.1 q2).1
     exact h3 j x (fun n es e => by cases e; omega) (by rw [List.getElem?_append_left hj]; exact q2)
   ·have hkl := (List.getElem?_eq_some_iff.1 e1).1
    obtain ⟨T',sv',h1,h2,h3⟩ := xMu (U := U) (zu := zu) (k0 := k0) (o1 := o1) (o2 := o2) hu c1 c2 hl hq d (i + 1) (T.set k .dead ++ [.cells false false (xBd (l ++ [v]))]) (.own false (T.length + 1 + 1 + 1) 0 (l ++ [v]).length 1) (l ++ [v]) (by omega) (by simp at hll ⊢; omega)
     (.inr ⟨T.length,rfl,by simp,by rw [xAT]; simp⟩)
    refine ⟨T',sv',?_,h2,fun j x q1 q2 => ?_⟩
    ·have hsn : xBd l ++ [AV.int .i64 v] = xBd (l ++ [v]) := by simp [xBd]
     have hll2 : (l ++ [v]).length = l.length + 1 := by simp
     simp only [hll2] at h1
     rw [xUe]
     simp (maxSteps := 30000000) (disch := first | assumption | omega | (simp only [WL,AV.isCell,xAa] <;> omega) | rfl | decide) only [↓reduceIte,WB,xAR,xAc,xAQ,xAD,xAC,AV.cells,AV.isCell,xAb,xAj,xAk,xAs,xAt,xAu,xAv,xAw,xAx,xAL,xAy,xAz,xAl,xAA,xAm,xAn,xAB,xAo,xAp,xAf,Nat.reduceDiv,Nat.reduceMod,WP,xAI,xAF,xAX,xAW,xAV,xAG,xAH,xAE,W2,xAd,xAe,xAi,Nat.reduceAdd,Nat.reduceSub,Nat.reduceLeDiff,Nat.reduceMul,Int.reduceAdd,Int.reduceSub,Int.reduceMul,Int.reduceLT,Int.reduceLE,Int.reduceEq,Int.reduceToNat,Int.reduceNeg,Nat.reduceEqDiff,Nat.reduceBEq,Nat.reduceLT,xAa,xAg,xAq,xAr,xAM,xOm,xRj,hlt,hx,hix,hneg,e1,hsn,h1]
    ·have hj := (List.getElem?_eq_some_iff.1 q2).1
     have hjk : j ≠ k := by
      rintro rfl
      exact q1 _ _ rfl
     exact h3 j x (fun n es e => by cases e; omega) (by rw [List.getElem?_append_left (by simpa using hj),List.getElem?_set_ne (fun e => hjk e.symm)]; exact q2)
theorem xZS {l : List Ed} {U : Nat → Bool} {e : Ed} {r : List Ed} (h : U e.a.toNat = true) (h' : U e.b.toNat = true) : l ++ (e :: r).filterMap (xPQ U) = l ++ [⟨(xHz U e.a.toNat : Nat),(xHz U e.b.toNat : Nat),e.p,e.n⟩] ++ r.filterMap (xPQ U) := by
 rw [List.filterMap_cons]
 simp only [xPQ,h,h',and_self,if_true]
 simp
theorem xYc {l : List Ed} {U : Nat → Bool} {e : Ed} {r : List Ed} (h : ¬ (U e.a.toNat = true ∧ U e.b.toNat = true)) : l ++ (e :: r).filterMap (xPQ U) = l ++ r.filterMap (xPQ U) := by
 rw [List.filterMap_cons]
 simp only [xPQ,h,if_false]
set_option maxHeartbeats 4000000 in
theorem xMv {n : Aut} {U : Nat → Bool} {zu : Bool} {k0 : Nat} {sv fv : AV} (hu : (setL U).length < 1000000) (c1 : sv.isCell = true) (c2 : fv.isCell = true) (hl : n.ed.length < 1000) (hq : ∀ e ∈ n.ed,(0 ≤ e.a ∧ e.a < 4096) ∧ 0 ≤ e.b ∧ e.b < 4096) : ∀ d i T ev l,i + d = n.ed.length → l.length + d < 100000 → Bld T ev 4 l.length (edges l) →
  ∃ T' ev',L.loop xRk xZk ⟨xRl (.ptr 0 0) (.ptr 1 0) (iw zu (uL U)) (.ptr 2 0) (.int .i64 (i : Nat)),HR n k0 sv fv ev T⟩ =
   some (.exit 4,⟨xRl (.ptr 0 0) (.ptr 1 0) (iw zu (uL U)) (.ptr 2 0) (.int .i64 (n.ed.length : Nat)),HR n k0 sv fv ev' T'⟩) ∧
   Bld T' ev' 4 (l ++ (n.ed.drop i).filterMap (xPQ U)).length (edges (l ++ (n.ed.drop i).filterMap (xPQ U))) ∧ (∀ j x,Not ev j → T[j]? = some x → T'[j]? = some x ∧ Not ev' j)
 | 0,i,T,ev,l,h,hll,hB => by
  obtain rfl : i = n.ed.length := by omega
  refine ⟨T,ev,?_,by rw [List.drop_length]; simpa using hB,fun j x h1 h2 => ⟨h2,h1⟩⟩
  rw [xRm]
  simp (maxSteps := 30000000) (disch := first | assumption | omega | (simp only [WL,AV.isCell,xAa] <;> omega) | rfl | decide) only [↓reduceIte,WB,xAR,xAc,xAQ,xAD,xAC,AV.cells,AV.isCell,xAb,xAj,xAk,xAs,xAt,xAu,xAv,xAw,xAx,xAL,xAy,xAz,xAl,xAA,xAm,xAn,xAB,xAo,xAp,xAf,Nat.reduceDiv,Nat.reduceMod,WP,xAI,xAF,xAX,xAW,xAV,xAG,xAH,xAE,W2,xAd,xAe,xAi,Nat.reduceAdd,Nat.reduceSub,Nat.reduceLeDiff,Nat.reduceMul,Int.reduceAdd,Int.reduceSub,Int.reduceMul,Int.reduceLT,Int.reduceLE,Int.reduceEq,Int.reduceToNat,Int.reduceNeg,Nat.reduceEqDiff,Nat.reduceBEq,Nat.reduceLT,xAa,xAg,xAq,xAr,xAM,xNa,xOn]
 | d + 1,i,T,ev,l,h,hll,hB => by
  have hlt : (i : Int) < (n.ed.length : Nat) := by omega
  obtain ⟨⟨a0,a1⟩,b0,b1⟩ := hq _ (xFB (by omega : i < n.ed.length))
  have ixa := xU0 (U := U) (z := zu) hu a0 a1
  have ixb := xU0 (U := U) (z := zu) hu b0 b1
  have hat := xAg (show i < n.ed.length by omega)
  have cs := hB.cell
  rw [xCV (by omega : i < n.ed.length)]
  generalize n.ed.getD i e0 = x at *
  by_cases hU : U x.a.toNat = true ∧ U x.b.toNat = true
  ·rw [xZS hU.1 hU.2]
   rw [hU.1] at ixa
   rw [hU.2] at ixb
   simp only [if_true] at ixa ixb
   have pa : (0 : Int) ≤ ((xHz U x.a.toNat : Nat) : Int) := by omega
   have pb : (0 : Int) ≤ ((xHz U x.b.toNat : Nat) : Int) := by omega
   generalize ((xHz U x.a.toNat : Nat) : Int) = va at *
   generalize ((xHz U x.b.toNat : Nat) : Int) = vb at *
   have hone : edges [(Ed.mk va vb x.p x.n)] = [.int .i64 va,.int .i64 vb,.int .u8 (x.p : Nat),.int .u8 (x.n : Nat)] := rfl
   have hsn : edges l ++ [AV.int .i64 va,.int .i64 vb,.int .u8 (x.p : Nat),.int .u8 (x.n : Nat)] = edges (l ++ [(Ed.mk va vb x.p x.n)]) := xG7 l (Ed.mk va vb x.p x.n)
   have hcut : List.take (l.length * 4) (edges l) = edges l := List.take_of_length_le (by rw [xAa]; omega)
   rcases hB with ⟨rfl,e1,e2⟩ | ⟨k,rfl,e1,e2⟩
   ·have hl0 : l = [] := List.length_eq_zero_iff.1 e1
    subst hl0
    obtain ⟨T',ev',h1,h2,h3⟩ := xMv (U := U) (zu := zu) (k0 := k0) hu c1 c2 hl hq d (i + 1) (T ++ [.cells false false (edges [(Ed.mk va vb x.p x.n)])] ++ [.cells false false (edges [(Ed.mk va vb x.p x.n)])]) (.own false (T.length + 1 + 1 + 1 + 1) 0 1 4) [(Ed.mk va vb x.p x.n)] (by omega) (by simp at hll ⊢; omega)
     (.inr ⟨T.length + 1,rfl,by simp,by rw [xAa]⟩)
    refine ⟨T',ev',?_,h2,fun j x q1 q2 => ?_⟩
    ·simp only [List.append_assoc,List.cons_append,List.nil_append,hone] at h1
     rw [xRm]
     simp (maxSteps := 30000000) (disch := first | assumption | omega | (simp only [WL,AV.isCell,xAa] <;> omega) | rfl | decide) only [↓reduceIte,WB,xAR,xAc,xAQ,xAD,xAC,AV.cells,AV.isCell,xAb,xAj,xAk,xAs,xAt,xAu,xAv,xAw,xAx,xAL,xAy,xAz,xAl,xAA,xAm,xAn,xAB,xAo,xAp,xAf,Nat.reduceDiv,Nat.reduceMod,WP,xAI,xAF,xAX,xAW,xAV,xAG,xAH,xAE,W2,xAd,xAe,xAi,Nat.reduceAdd,Nat.reduceSub,Nat.reduceLeDiff,Nat.reduceMul,Int.reduceAdd,Int.reduceSub,Int.reduceMul,Int.reduceLT,Int.reduceLE,Int.reduceEq,Int.reduceToNat,Int.reduceNeg,Nat.reduceEqDiff,Nat.reduceBEq,Nat.reduceLT,xAa,xAg,xAq,xAr,xAM,xNa,xOn,hlt,hat,ixa,ixb,pa,pb,h1]
    ·have hj := (List.getElem?_eq_some_iff.1 q2).1
     exact h3 j x (fun n es e => by cases e; omega) (by rw [List.append_assoc,List.getElem?_append_left hj]; exact q2)
   ·have hk := (List.getElem?_eq_some_iff.1 e1).1
    obtain ⟨T',ev',h1,h2,h3⟩ := xMv (U := U) (zu := zu) (k0 := k0) hu c1 c2 hl hq d (i + 1) (T.set k .dead ++ [.cells false false (edges [(Ed.mk va vb x.p x.n)])] ++ [.cells false false (edges (l ++ [(Ed.mk va vb x.p x.n)]))]) (.own false (T.length + 1 + 1 + 1 + 1) 0 (l ++ [(Ed.mk va vb x.p x.n)]).length 4) (l ++ [(Ed.mk va vb x.p x.n)]) (by omega) (by simp at hll ⊢; omega)
     (.inr ⟨T.length + 1,rfl,by simp,by rw [xAa]⟩)
    refine ⟨T',ev',?_,h2,fun j y q1 q2 => ?_⟩
    ·have hll2 : (l ++ [(Ed.mk va vb x.p x.n)]).length = l.length + 1 := by simp
     have hg : ∀ X : Heap,(T ++ X)[k]? = some (.cells false false (edges l)) := fun X => by rw [List.getElem?_append_left hk]; exact e1
     have hs : ∀ X : Heap,(T ++ X).set k .dead = T.set k .dead ++ X := fun X => by rw [List.set_append_left _ _ hk]
     simp only [List.append_assoc,List.cons_append,List.nil_append,hone,hll2] at h1
     rw [xRm]
     simp (maxSteps := 30000000) (disch := first | assumption | omega | (simp only [WL,AV.isCell,xAa] <;> omega) | rfl | decide) only [↓reduceIte,WB,xAR,xAc,xAQ,xAD,xAC,AV.cells,AV.isCell,xAb,xAj,xAk,xAs,xAt,xAu,xAv,xAw,xAx,xAL,xAy,xAz,xAl,xAA,xAm,xAn,xAB,xAo,xAp,xAf,Nat.reduceDiv,Nat.reduceMod,WP,xAI,xAF,xAX,xAW,xAV,xAG,xAH,xAE,W2,xAd,xAe,xAi,Nat.reduceAdd,Nat.reduceSub,Nat.reduceLeDiff,Nat.reduceMul,Int.reduceAdd,Int.reduceSub,Int.reduceMul,Int.reduceLT,Int.reduceLE,Int.reduceEq,Int.reduceToNat,Int.reduceNeg,Nat.reduceEqDiff,Nat.reduceBEq,Nat.reduceLT,xAa,xAg,xAq,xAr,xAM,xNa,xOn,hlt,hat,ixa,ixb,pa,pb,hg,hs,hsn,hcut,h1]
    ·have hj := (List.getElem?_eq_some_iff.1 q2).1
     have hjk : j ≠ k := by
      rintro rfl
      exact q1 _ _ rfl
     exact h3 j y (fun n es e => by cases e; omega) (by rw [List.append_assoc,List.getElem?_append_left (by simpa using hj),List.getElem?_set_ne (fun e => hjk e.symm)]; exact q2)
  ·rw [xYc hU]
   have hneg : ∃ va vb : Int,L.pcall 39 [iw zu (uL U),.int .i64 x.a] = some (.int .i64 va) ∧ L.pcall 39 [iw zu (uL U),.int .i64 x.b] = some (.int .i64 vb) ∧ (va < 0 ∨ (0 ≤ va ∧ vb < 0)) := by
    refine ⟨_,_,ixa,ixb,?_⟩
    by_cases ha : U x.a.toNat = true
    ·have hb : ¬ U x.b.toNat = true := fun hb => hU ⟨ha,hb⟩
     rw [if_pos ha,if_neg hb]
     exact .inr ⟨by omega,by decide⟩
    ·rw [if_neg ha]
     exact .inl (by decide)
   clear ixa ixb
   obtain ⟨va,vb,ixa,ixb,hn⟩ := hneg
   obtain ⟨T',ev',h1,h2,h3⟩ := xMv (U := U) (zu := zu) (k0 := k0) hu c1 c2 hl hq d (i + 1) (T ++ [.cells false false [.int .i64 va,.int .i64 vb,.int .u8 (x.p : Nat),.int .u8 (x.n : Nat)]]) ev l (by omega) (by omega) (hB.keep fun j y _ q => by rw [List.getElem?_append_left (List.getElem?_eq_some_iff.1 q).1]; exact q)
   refine ⟨T',ev',?_,h2,fun j y q1 q2 => h3 j y q1 (by rw [List.getElem?_append_left (List.getElem?_eq_some_iff.1 q2).1]; exact q2)⟩
   rcases hn with hn | ⟨hn,hn2⟩
   ·have hn' : ¬ (0 : Int) ≤ va := by omega
    rw [xRm]
    simp (maxSteps := 30000000) (disch := first | assumption | omega | (simp only [WL,AV.isCell,xAa] <;> omega) | rfl | decide) only [↓reduceIte,WB,xAR,xAc,xAQ,xAD,xAC,AV.cells,AV.isCell,xAb,xAj,xAk,xAs,xAt,xAu,xAv,xAw,xAx,xAL,xAy,xAz,xAl,xAA,xAm,xAn,xAB,xAo,xAp,xAf,Nat.reduceDiv,Nat.reduceMod,WP,xAI,xAF,xAX,xAW,xAV,xAG,xAH,xAE,W2,xAd,xAe,xAi,Nat.reduceAdd,Nat.reduceSub,Nat.reduceLeDiff,Nat.reduceMul,Int.reduceAdd,Int.reduceSub,Int.reduceMul,Int.reduceLT,Int.reduceLE,Int.reduceEq,Int.reduceToNat,Int.reduceNeg,Nat.reduceEqDiff,Nat.reduceBEq,Nat.reduceLT,xAa,xAg,xAq,xAr,xAM,xNa,xOn,hlt,hat,ixa,ixb,hn',h1]
   ·have hn2' : ¬ (0 : Int) ≤ vb := by omega
    rw [xRm]
    simp (maxSteps := 30000000) (disch := first | assumption | omega | (simp only [WL,AV.isCell,xAa] <;> omega) | rfl | decide) only [↓reduceIte,WB,xAR,xAc,xAQ,xAD,xAC,AV.cells,AV.isCell,xAb,xAj,xAk,xAs,xAt,xAu,xAv,xAw,xAx,xAL,xAy,xAz,xAl,xAA,xAm,xAn,xAB,xAo,xAp,xAf,Nat.reduceDiv,Nat.reduceMod,WP,xAI,xAF,xAX,xAW,xAV,xAG,xAH,xAE,W2,xAd,xAe,xAi,Nat.reduceAdd,Nat.reduceSub,Nat.reduceLeDiff,Nat.reduceMul,Int.reduceAdd,Int.reduceSub,Int.reduceMul,Int.reduceLT,Int.reduceLE,Int.reduceEq,Int.reduceToNat,Int.reduceNeg,Nat.reduceEqDiff,Nat.reduceBEq,Nat.reduceLT,xAa,xAg,xAq,xAr,xAM,xNa,xOn,hlt,hat,ixa,ixb,hn,hn2',h1]
theorem xYd {n : Aut} {e : Int} (he : e ≠ 0) (h0 : L.pcall 8 [n.av] = some (.int .i64 e)) : L.pcall 11 [n.av] = some (.tup [xJF,.int .i64 e]) := by
 rw [yDM,a11,xAK]
 simp (maxSteps := 30000000) (disch := first | assumption | omega | (simp only [WL,AV.isCell,xAa] <;> omega) | rfl | decide) only [↓reduceIte,WB,xAR,xAc,xAQ,xAD,xAC,AV.cells,AV.isCell,xAb,xAj,xAk,xAs,xAt,xAu,xAv,xAw,xAx,xAL,xAy,xAz,xAl,xAA,xAm,xAn,xAB,xAo,xAp,xAf,Nat.reduceDiv,Nat.reduceMod,WP,xAI,xAF,xAX,xAW,xAV,xAG,xAH,xAE,W2,xAd,xAe,xAi,Nat.reduceAdd,Nat.reduceSub,Nat.reduceLeDiff,Nat.reduceMul,Int.reduceAdd,Int.reduceSub,Int.reduceMul,Int.reduceLT,Int.reduceLE,Int.reduceEq,Int.reduceToNat,Int.reduceNeg,Nat.reduceEqDiff,Nat.reduceBEq,Nat.reduceLT,xAa,xAg,xAq,xAr,xAM,h0,he]
set_option maxHeartbeats 4000000 in
theorem yDF (n : Aut) (hv : Valid n) (hf : Fits n) (l1 : n.st.length < 1000) (l2 : n.fi.length < 1000) (h0 : L.pcall 8 [n.av] = some (.int .i64 0)) : ∃ C D,ReaL n.st n.ed C ∧ ReaL n.fi (n.ed.map xBl) D ∧ ∃ z1 z2 z3,
  L.pcall 11 [n.av] = some (.tup [(Aut.mk n.vars (setL fun j => C j && D j).length z1 (n.st.filterMap (num fun j => C j && D j)) z2 (n.fi.filterMap (num fun j => C j && D j)) z3 (n.ed.filterMap (xPQ fun j => C j && D j))).av,.int .i64 0]) := by
 obtain ⟨za,la,h9,la1,la2,ra⟩ := yEc n hv (by omega)
 obtain ⟨zb,lb,h10,lb1,lb2,rb⟩ := yCI n hv (by omega)
 obtain ⟨zc,lc,hc,cc⟩ := xU7 za la (by omega) la2
 obtain ⟨zd,ld,hd,cd⟩ := xU7 zb lb (by omega) lb2
 obtain ⟨ze,le,he,ce⟩ := yBF (za := zc) (zb := zd) cc cd
 obtain ⟨zu,hl⟩ := xTQ ze le (by have := ce.2.1; omega) ce.1
 rw [yBE ce] at hl
 refine ⟨inS la,inS lb,ra,rb,?_⟩
 have hlen := xMy (fun j => inS la j && inS lb j)
 have hul := xYa (fun j => inS la j && inS lb j)
 clear ce cc cd ra rb
 generalize (fun j => inS la j && inS lb j) = U at *
 have hel := hv.el
 obtain ⟨T1,sv,k1,b1,m1⟩ := xMt (n := n) (U := U) (zu := zu) (k0 := (setL U).length) (o1 := .sl true 0 []) (o2 := .sl true 0 []) (by omega) rfl rfl l1 hv.stOk n.st.length 0 [] (.sl true 0 []) [] (by omega) (by simp; omega) (.inl ⟨rfl,rfl,rfl⟩)
 obtain ⟨T2,fv,k2,b2,m2⟩ := xMu (n := n) (U := U) (zu := zu) (k0 := (setL U).length) (o1 := sv) (o2 := .sl true 0 []) (by omega) b1.cell rfl l2 hv.fiOk n.fi.length 0 T1 (.sl true 0 []) [] (by omega) (by simp; omega) (.inl ⟨rfl,rfl,rfl⟩)
 obtain ⟨T3,ev,k3,b3,m3⟩ := xMv (n := n) (U := U) (zu := zu) (k0 := (setL U).length) (sv := sv) (fv := fv) (by omega) b1.cell b2.cell (by omega) (fun e he => ⟨(hv.edOk hf e he).1,(hv.edOk hf e he).2.1⟩) n.ed.length 0 T2 (.sl true 0 []) [] (by omega) (by simp; omega) (.inl ⟨rfl,rfl,rfl⟩)
 have nn : ∀ j,Not (.sl true 0 []) j := fun j n es e => by cases e
 have b1' := (b1.keep (T' := T2) fun j x _ q => (m2 j x (nn j) q).1).keep (T' := T3) fun j x _ q => (m3 j x (nn j) q).1
 have b2' := b2.keep (T' := T3) fun j x _ q => (m3 j x (nn j) q).1
 have c1 := b1'.cell
 have c2 := b2'.cell
 have c3 := b3.cell
 obtain ⟨z1,y1,f1⟩ := (b1'.owF (.cells false false n.cells) (.cells false false [.int .i64 n.vars,.int .i64 ((setL U).length : Nat),sv,fv,ev]) (.cells false false [.int .i64 n.vars,.int .i64 ((setL U).length : Nat),sv,fv,ev])).frzL (fun d H => xBA d H _)
 obtain ⟨z2,y2,f2⟩ := (b2'.owF (.cells false false n.cells) (.cells false false [.int .i64 n.vars,.int .i64 ((setL U).length : Nat),sv,fv,ev]) (.cells false false [.int .i64 n.vars,.int .i64 ((setL U).length : Nat),sv,fv,ev])).frzL (fun d H => xBA d H _)
 obtain ⟨z3,y3,f3⟩ := (b3.owF (.cells false false n.cells) (.cells false false [.int .i64 n.vars,.int .i64 ((setL U).length : Nat),sv,fv,ev]) (.cells false false [.int .i64 n.vars,.int .i64 ((setL U).length : Nat),sv,fv,ev])).frzL (fun d H => xAq d H _)
 simp only [List.drop_zero,List.nil_append,Int.natCast_zero] at k1 k2 k3 f1 f2 f3
 refine ⟨z1,z2,z3,?_⟩
 have hall : ([.int .i64 n.vars,.int .i64 ((setL U).length : Nat),sv,fv,ev] : List AV).all AV.isCell = true := by simp only [List.all_cons,List.all_nil,c1,c2,c3]; rfl
 rw [yDM,a11,xAK]
 simp (maxSteps := 30000000) (disch := first | assumption | omega | (simp only [WL,AV.isCell,xAa] <;> omega) | rfl | decide) only [↓reduceIte,WB,xAR,xAc,xAQ,xAD,xAC,AV.cells,AV.isCell,xAb,xAj,xAk,xAs,xAt,xAu,xAv,xAw,xAx,xAL,xAy,xAz,xAl,xAA,xAm,xAn,xAB,xAo,xAp,xAf,Nat.reduceDiv,Nat.reduceMod,WP,xAI,xAF,xAX,xAW,xAV,xAG,xAH,xAE,W2,xAd,xAe,xAi,Nat.reduceAdd,Nat.reduceSub,Nat.reduceLeDiff,Nat.reduceMul,Int.reduceAdd,Int.reduceSub,Int.reduceMul,Int.reduceLT,Int.reduceLE,Int.reduceEq,Int.reduceToNat,Int.reduceNeg,Nat.reduceEqDiff,Nat.reduceBEq,Nat.reduceLT,xAa,xAg,xAq,xAr,xAM,xRg,xRj,xOn,h0,h9,h10,hc,hd,he,hl,hul,k1,k2,k3,c1,c2,c3,f1,f2,f3]
end Go.Abs.NfaD
