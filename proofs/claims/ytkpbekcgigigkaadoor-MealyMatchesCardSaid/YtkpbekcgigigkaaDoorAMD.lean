/- EqualBytes and EqualInts. -/
import Derived.Test.YtkpbekcgigigkaaDoorAbsBun
import Derived.Test.YtkpbekcgigigkaaDoorAMA
import Derived.Test.YtkpbekcgigigkaaDoorAMB
import Derived.Test.YtkpbekcgigigkaaDoorAMC
import Derived.Test.YtkpbekcgigigkaaDoorAbsIn
namespace Go.Abs.Mealy
open Go Go.Abs
set_option linter.unusedSimpArgs false
set_option linter.unusedVariables false
theorem xV1 {α : Type} {a b : List α} (h : a.length = b.length) (d : α) {i : Nat} (hi : i < a.length) : (a.drop i = b.drop i) ↔ (a.getD i d = b.getD i d ∧ a.drop (i + 1) = b.drop (i + 1)) := by
  rw [xBb (a := d) hi,xBb (a := d) (show i < b.length by omega)]
  simp
theorem yDQ {z1 z2 : Bool} {a b : List Nat} {H : Heap} (hl : a.length = b.length) (hm : a.length < 9223372036854775807) : ∀ e i,i + e = a.length →
    ∃ j : Nat,L.loop xMY xXl ⟨xJI (.sl z1 a.length (bs a)) (.sl z2 b.length (bs b)) (.bool false) (.int .i64 (i : Nat)),H⟩ =
      some (if a.drop i = b.drop i then (.exit 0,⟨xJI (.sl z1 a.length (bs a)) (.sl z2 b.length (bs b)) (.bool false) (.int .i64 (a.length : Nat)),H⟩)
        else (.ret,⟨xJI (.sl z1 a.length (bs a)) (.sl z2 b.length (bs b)) (.bool false) (.int .i64 (j : Nat)),H⟩)) := by
  intro e
  induction e with
  | zero =>
    intro i h
    obtain rfl : i = a.length := by omega
    refine ⟨0,?_⟩
    rw [if_pos (by rw [List.drop_length,hl,List.drop_length]),xT5]
    simp (maxSteps := 30000000) (disch := first | assumption | omega | (simp only [WL,AV.isCell] <;> omega) | rfl | decide) only [↓reduceIte,WB,xAL,xAb,xAK,xAp,xAo,AV.cells,AV.isCell,xAa,xAd,xAe,W2,xAf,xAg,xAh,Nat.reduceAdd,Nat.reduceSub,Nat.reduceLeDiff,Nat.reduceMul,Int.reduceAdd,Int.reduceSub,Int.reduceMul,Int.reduceLT,Int.reduceLE,Int.reduceEq,Int.reduceToNat,Int.reduceNeg,Nat.reduceEqDiff,Nat.reduceBEq,Nat.reduceLT,xJH,xJJ]
  | succ e ih =>
    intro i h
    have hlt : (i : Int) < (a.length : Nat) := by omega
    obtain ⟨j,ih'⟩ := ih (i + 1) (by omega)
    rw [← hl] at ih' ⊢
    have hd := xV1 hl (0 : Nat) (show i < a.length by omega)
    by_cases c : a.getD i 0 = b.getD i 0
    · refine ⟨j,?_⟩
      have hd' : (a.drop i = b.drop i) ↔ (a.drop (i + 1) = b.drop (i + 1)) := hd.trans ⟨fun h => h.2,fun h => ⟨c,h⟩⟩
      rw [xT5]
      by_cases e : a.drop (i + 1) = b.drop (i + 1)
      · rw [if_pos e] at ih'
        rw [if_pos (hd'.2 e)]
        simp (maxSteps := 30000000) (disch := first | assumption | omega | (simp only [WL,AV.isCell] <;> omega) | rfl | decide) only [↓reduceIte,WB,xAL,xAb,xAK,xAp,xAo,AV.cells,AV.isCell,xAa,xAd,xAe,W2,xAf,xAg,xAh,Nat.reduceAdd,Nat.reduceSub,Nat.reduceLeDiff,Nat.reduceMul,Int.reduceAdd,Int.reduceSub,Int.reduceMul,Int.reduceLT,Int.reduceLE,Int.reduceEq,Int.reduceToNat,Int.reduceNeg,Nat.reduceEqDiff,Nat.reduceBEq,Nat.reduceLT,xJH,xJJ,hlt,c,ih']
      · rw [if_neg e] at ih'
        rw [if_neg (fun h => e (hd'.1 h))]
        simp (maxSteps := 30000000) (disch := first | assumption | omega | (simp only [WL,AV.isCell] <;> omega) | rfl | decide) only [↓reduceIte,WB,xAL,xAb,xAK,xAp,xAo,AV.cells,AV.isCell,xAa,xAd,xAe,W2,xAf,xAg,xAh,Nat.reduceAdd,Nat.reduceSub,Nat.reduceLeDiff,Nat.reduceMul,Int.reduceAdd,Int.reduceSub,Int.reduceMul,Int.reduceLT,Int.reduceLE,Int.reduceEq,Int.reduceToNat,Int.reduceNeg,Nat.reduceEqDiff,Nat.reduceBEq,Nat.reduceLT,xJH,xJJ,hlt,c,ih']
    · refine ⟨i,?_⟩
      have c' : (((a.getD i 0 : Nat) : Int) = ((b.getD i 0 : Nat) : Int)) = False := eq_false (by omega)
      rw [if_neg (fun h => c (hd.1 h).1),xT5]
      simp (maxSteps := 30000000) (disch := first | assumption | omega | (simp only [WL,AV.isCell] <;> omega) | rfl | decide) only [↓reduceIte,WB,xAL,xAb,xAK,xAp,xAo,AV.cells,AV.isCell,xAa,xAd,xAe,W2,xAf,xAg,xAh,Nat.reduceAdd,Nat.reduceSub,Nat.reduceLeDiff,Nat.reduceMul,Int.reduceAdd,Int.reduceSub,Int.reduceMul,Int.reduceLT,Int.reduceLE,Int.reduceEq,Int.reduceToNat,Int.reduceNeg,Nat.reduceEqDiff,Nat.reduceBEq,Nat.reduceLT,xJH,xJJ,hlt,c']
theorem yEv {z1 z2 : Bool} {a b : List Nat} (hm : a.length < 9223372036854775807) : L.pcall 23 [.sl z1 a.length (bs a),.sl z2 b.length (bs b)] = some (.bool (decide (a = b))) := by
  by_cases hl : a.length = b.length
  · obtain ⟨j,h⟩ := yDQ (z1 := z1) (z2 := z2) (H := []) hl hm a.length 0 (by omega)
    simp only [Int.natCast_zero,List.drop_zero] at h
    rw [yEe,a23,xAB]
    by_cases c : a = b
    · rw [if_pos c] at h
      rw [decide_eq_true c]
      rw [← hl] at h ⊢
      simp (maxSteps := 30000000) (disch := first | assumption | omega | (simp only [WL,AV.isCell] <;> omega) | rfl | decide) only [↓reduceIte,WB,xAL,xAb,xAK,xAp,xAo,AV.cells,AV.isCell,xAa,xAd,xAe,W2,xAf,xAg,xAh,Nat.reduceAdd,Nat.reduceSub,Nat.reduceLeDiff,Nat.reduceMul,Int.reduceAdd,Int.reduceSub,Int.reduceMul,Int.reduceLT,Int.reduceLE,Int.reduceEq,Int.reduceToNat,Int.reduceNeg,Nat.reduceEqDiff,Nat.reduceBEq,Nat.reduceLT,xJJ,h]
    · rw [if_neg c] at h
      rw [decide_eq_false c]
      rw [← hl] at h ⊢
      simp (maxSteps := 30000000) (disch := first | assumption | omega | (simp only [WL,AV.isCell] <;> omega) | rfl | decide) only [↓reduceIte,WB,xAL,xAb,xAK,xAp,xAo,AV.cells,AV.isCell,xAa,xAd,xAe,W2,xAf,xAg,xAh,Nat.reduceAdd,Nat.reduceSub,Nat.reduceLeDiff,Nat.reduceMul,Int.reduceAdd,Int.reduceSub,Int.reduceMul,Int.reduceLT,Int.reduceLE,Int.reduceEq,Int.reduceToNat,Int.reduceNeg,Nat.reduceEqDiff,Nat.reduceBEq,Nat.reduceLT,xJJ,h]
  · have hl' : (((a.length : Nat) : Int) = ((b.length : Nat) : Int)) = False := eq_false (by omega)
    rw [decide_eq_false (fun e => hl (by rw [e])),yEe,a23,xAB]
    simp (maxSteps := 30000000) (disch := first | assumption | omega | (simp only [WL,AV.isCell] <;> omega) | rfl | decide) only [↓reduceIte,WB,xAL,xAb,xAK,xAp,xAo,AV.cells,AV.isCell,xAa,xAd,xAe,W2,xAf,xAg,xAh,Nat.reduceAdd,Nat.reduceSub,Nat.reduceLeDiff,Nat.reduceMul,Int.reduceAdd,Int.reduceSub,Int.reduceMul,Int.reduceLT,Int.reduceLE,Int.reduceEq,Int.reduceToNat,Int.reduceNeg,Nat.reduceEqDiff,Nat.reduceBEq,Nat.reduceLT,hl']
theorem yDR {z1 z2 : Bool} {a b : List Int} {H : Heap} (hl : a.length = b.length) (hm : a.length < 9223372036854775807) : ∀ e i,i + e = a.length →
    ∃ j : Nat,L.loop xMZ xXm ⟨xJL (.sl z1 a.length (xCe a)) (.sl z2 b.length (xCe b)) (.bool false) (.int .i64 (i : Nat)),H⟩ =
      some (if a.drop i = b.drop i then (.exit 0,⟨xJL (.sl z1 a.length (xCe a)) (.sl z2 b.length (xCe b)) (.bool false) (.int .i64 (a.length : Nat)),H⟩)
        else (.ret,⟨xJL (.sl z1 a.length (xCe a)) (.sl z2 b.length (xCe b)) (.bool false) (.int .i64 (j : Nat)),H⟩)) := by
  intro e
  induction e with
  | zero =>
    intro i h
    obtain rfl : i = a.length := by omega
    refine ⟨0,?_⟩
    rw [if_pos (by rw [List.drop_length,hl,List.drop_length]),xT6]
    simp (maxSteps := 30000000) (disch := first | assumption | omega | (simp only [WL,AV.isCell] <;> omega) | rfl | decide) only [↓reduceIte,WB,xAL,xAb,xAK,xAp,xAo,AV.cells,AV.isCell,xAa,xAd,xAe,W2,xAf,xAg,xAh,Nat.reduceAdd,Nat.reduceSub,Nat.reduceLeDiff,Nat.reduceMul,Int.reduceAdd,Int.reduceSub,Int.reduceMul,Int.reduceLT,Int.reduceLE,Int.reduceEq,Int.reduceToNat,Int.reduceNeg,Nat.reduceEqDiff,Nat.reduceBEq,Nat.reduceLT,xJK,xJM]
  | succ e ih =>
    intro i h
    have hlt : (i : Int) < (a.length : Nat) := by omega
    obtain ⟨j,ih'⟩ := ih (i + 1) (by omega)
    rw [← hl] at ih' ⊢
    have hd := xV1 hl (0 : Int) (show i < a.length by omega)
    by_cases c : a.getD i 0 = b.getD i 0
    · refine ⟨j,?_⟩
      have hd' : (a.drop i = b.drop i) ↔ (a.drop (i + 1) = b.drop (i + 1)) := hd.trans ⟨fun h => h.2,fun h => ⟨c,h⟩⟩
      rw [xT6]
      by_cases e : a.drop (i + 1) = b.drop (i + 1)
      · rw [if_pos e] at ih'
        rw [if_pos (hd'.2 e)]
        simp (maxSteps := 30000000) (disch := first | assumption | omega | (simp only [WL,AV.isCell] <;> omega) | rfl | decide) only [↓reduceIte,WB,xAL,xAb,xAK,xAp,xAo,AV.cells,AV.isCell,xAa,xAd,xAe,W2,xAf,xAg,xAh,Nat.reduceAdd,Nat.reduceSub,Nat.reduceLeDiff,Nat.reduceMul,Int.reduceAdd,Int.reduceSub,Int.reduceMul,Int.reduceLT,Int.reduceLE,Int.reduceEq,Int.reduceToNat,Int.reduceNeg,Nat.reduceEqDiff,Nat.reduceBEq,Nat.reduceLT,xJK,xJM,hlt,c,ih']
      · rw [if_neg e] at ih'
        rw [if_neg (fun h => e (hd'.1 h))]
        simp (maxSteps := 30000000) (disch := first | assumption | omega | (simp only [WL,AV.isCell] <;> omega) | rfl | decide) only [↓reduceIte,WB,xAL,xAb,xAK,xAp,xAo,AV.cells,AV.isCell,xAa,xAd,xAe,W2,xAf,xAg,xAh,Nat.reduceAdd,Nat.reduceSub,Nat.reduceLeDiff,Nat.reduceMul,Int.reduceAdd,Int.reduceSub,Int.reduceMul,Int.reduceLT,Int.reduceLE,Int.reduceEq,Int.reduceToNat,Int.reduceNeg,Nat.reduceEqDiff,Nat.reduceBEq,Nat.reduceLT,xJK,xJM,hlt,c,ih']
    · refine ⟨i,?_⟩
      have c' : ((a.getD i 0 : Int) = (b.getD i 0 : Int)) = False := eq_false c
      rw [if_neg (fun h => c (hd.1 h).1),xT6]
      simp (maxSteps := 30000000) (disch := first | assumption | omega | (simp only [WL,AV.isCell] <;> omega) | rfl | decide) only [↓reduceIte,WB,xAL,xAb,xAK,xAp,xAo,AV.cells,AV.isCell,xAa,xAd,xAe,W2,xAf,xAg,xAh,Nat.reduceAdd,Nat.reduceSub,Nat.reduceLeDiff,Nat.reduceMul,Int.reduceAdd,Int.reduceSub,Int.reduceMul,Int.reduceLT,Int.reduceLE,Int.reduceEq,Int.reduceToNat,Int.reduceNeg,Nat.reduceEqDiff,Nat.reduceBEq,Nat.reduceLT,xJK,xJM,hlt,c']
theorem yEw {z1 z2 : Bool} {a b : List Int} (hm : a.length < 9223372036854775807) : L.pcall 24 [.sl z1 a.length (xCe a),.sl z2 b.length (xCe b)] = some (.bool (decide (a = b))) := by
  by_cases hl : a.length = b.length
  · obtain ⟨j,h⟩ := yDR (z1 := z1) (z2 := z2) (H := []) hl hm a.length 0 (by omega)
    simp only [Int.natCast_zero,List.drop_zero] at h
    rw [yEf,a24,xAB]
    by_cases c : a = b
    · rw [if_pos c] at h
      rw [decide_eq_true c]
      rw [← hl] at h ⊢
      simp (maxSteps := 30000000) (disch := first | assumption | omega | (simp only [WL,AV.isCell] <;> omega) | rfl | decide) only [↓reduceIte,WB,xAL,xAb,xAK,xAp,xAo,AV.cells,AV.isCell,xAa,xAd,xAe,W2,xAf,xAg,xAh,Nat.reduceAdd,Nat.reduceSub,Nat.reduceLeDiff,Nat.reduceMul,Int.reduceAdd,Int.reduceSub,Int.reduceMul,Int.reduceLT,Int.reduceLE,Int.reduceEq,Int.reduceToNat,Int.reduceNeg,Nat.reduceEqDiff,Nat.reduceBEq,Nat.reduceLT,xJM,h]
    · rw [if_neg c] at h
      rw [decide_eq_false c]
      rw [← hl] at h ⊢
      simp (maxSteps := 30000000) (disch := first | assumption | omega | (simp only [WL,AV.isCell] <;> omega) | rfl | decide) only [↓reduceIte,WB,xAL,xAb,xAK,xAp,xAo,AV.cells,AV.isCell,xAa,xAd,xAe,W2,xAf,xAg,xAh,Nat.reduceAdd,Nat.reduceSub,Nat.reduceLeDiff,Nat.reduceMul,Int.reduceAdd,Int.reduceSub,Int.reduceMul,Int.reduceLT,Int.reduceLE,Int.reduceEq,Int.reduceToNat,Int.reduceNeg,Nat.reduceEqDiff,Nat.reduceBEq,Nat.reduceLT,xJM,h]
  · have hl' : (((a.length : Nat) : Int) = ((b.length : Nat) : Int)) = False := eq_false (by omega)
    rw [decide_eq_false (fun e => hl (by rw [e])),yEf,a24,xAB]
    simp (maxSteps := 30000000) (disch := first | assumption | omega | (simp only [WL,AV.isCell] <;> omega) | rfl | decide) only [↓reduceIte,WB,xAL,xAb,xAK,xAp,xAo,AV.cells,AV.isCell,xAa,xAd,xAe,W2,xAf,xAg,xAh,Nat.reduceAdd,Nat.reduceSub,Nat.reduceLeDiff,Nat.reduceMul,Int.reduceAdd,Int.reduceSub,Int.reduceMul,Int.reduceLT,Int.reduceLE,Int.reduceEq,Int.reduceToNat,Int.reduceNeg,Nat.reduceEqDiff,Nat.reduceBEq,Nat.reduceLT,hl']
theorem xRK {α β : Type} (f : α → β) {a b : List α} (h : a.length = b.length) (d : α) {i : Nat} (hi : i < a.length) : ((a.drop i).map f = (b.drop i).map f) ↔ (f (a.getD i d) = f (b.getD i d) ∧ (a.drop (i + 1)).map f = (b.drop (i + 1)).map f) := by
  rw [xBb (a := d) hi,xBb (a := d) (show i < b.length by omega)]
  simp
theorem yDS {z1 z2 : Bool} {a b : List Rw} {H : Heap} (hl : a.length = b.length) (hm : a.length < 9223372036854775807) (hr : ∀ r ∈ a,r.l.length < 9223372036854775807) : ∀ e i,i + e = a.length →
    ∃ j : Nat,L.loop xNm xXy ⟨xJT (.sl z1 a.length (a.map rwV)) (.sl z2 b.length (b.map rwV)) (.bool false) (.int .i64 (i : Nat)),H⟩ =
      some (if (a.drop i).map Rw.l = (b.drop i).map Rw.l then (.exit 0,⟨xJT (.sl z1 a.length (a.map rwV)) (.sl z2 b.length (b.map rwV)) (.bool false) (.int .i64 (a.length : Nat)),H⟩)
        else (.ret,⟨xJT (.sl z1 a.length (a.map rwV)) (.sl z2 b.length (b.map rwV)) (.bool false) (.int .i64 (j : Nat)),H⟩)) := by
  intro e
  induction e with
  | zero =>
    intro i h
    obtain rfl : i = a.length := by omega
    refine ⟨0,?_⟩
    rw [if_pos (by rw [List.drop_length,hl,List.drop_length]),xUg]
    simp (maxSteps := 30000000) (disch := first | assumption | omega | (simp only [WL,AV.isCell] <;> omega) | rfl | decide) only [↓reduceIte,WB,xAL,xAb,xAK,xAp,xAo,AV.cells,AV.isCell,xAa,xAd,xAe,xAr,xAs,xAt,xAu,xAv,xAw,xAJ,xAx,xAy,xAj,xAz,xAk,xAl,xAA,xAm,xAn,xAi,Nat.reduceDiv,Nat.reduceMod,WP,xAG,xAC,xA2,xA0,xAZ,xAF,xAI,xAH,W2,xAf,xAg,xAh,Nat.reduceAdd,Nat.reduceSub,Nat.reduceLeDiff,Nat.reduceMul,Int.reduceAdd,Int.reduceSub,Int.reduceMul,Int.reduceLT,Int.reduceLE,Int.reduceEq,Int.reduceToNat,Int.reduceNeg,Nat.reduceEqDiff,Nat.reduceBEq,Nat.reduceLT,xAQ,xAR,List.length_map,xJS,xJU]
  | succ e ih =>
    intro i h
    have hlt : (i : Int) < (a.length : Nat) := by omega
    obtain ⟨j,ih'⟩ := ih (i + 1) (by omega)
    rw [← hl] at ih' ⊢
    have hd := xRK Rw.l hl r0 (show i < a.length by omega)
    have hq := yEw (z1 := (a.getD i r0).z) (z2 := (b.getD i r0).z) (a := (a.getD i r0).l) (b := (b.getD i r0).l) (hr _ (xBk (by omega)))
    have v1 : rwV (a.getD i r0) = .sl (a.getD i r0).z (a.getD i r0).l.length (xCe (a.getD i r0).l) := rfl
    have v2 : rwV (b.getD i r0) = .sl (b.getD i r0).z (b.getD i r0).l.length (xCe (b.getD i r0).l) := rfl
    by_cases c : (a.getD i r0).l = (b.getD i r0).l
    · rw [decide_eq_true c] at hq
      refine ⟨j,?_⟩
      have hd' : ((a.drop i).map Rw.l = (b.drop i).map Rw.l) ↔ ((a.drop (i + 1)).map Rw.l = (b.drop (i + 1)).map Rw.l) := hd.trans ⟨fun h => h.2,fun h => ⟨c,h⟩⟩
      rw [xUg]
      by_cases e : (a.drop (i + 1)).map Rw.l = (b.drop (i + 1)).map Rw.l
      · rw [if_pos e] at ih'
        rw [if_pos (hd'.2 e)]
        simp (maxSteps := 30000000) (disch := first | assumption | omega | (simp only [WL,AV.isCell] <;> omega) | rfl | decide) only [↓reduceIte,WB,xAL,xAb,xAK,xAp,xAo,AV.cells,AV.isCell,xAa,xAd,xAe,xAr,xAs,xAt,xAu,xAv,xAw,xAJ,xAx,xAy,xAj,xAz,xAk,xAl,xAA,xAm,xAn,xAi,Nat.reduceDiv,Nat.reduceMod,WP,xAG,xAC,xA2,xA0,xAZ,xAF,xAI,xAH,W2,xAf,xAg,xAh,Nat.reduceAdd,Nat.reduceSub,Nat.reduceLeDiff,Nat.reduceMul,Int.reduceAdd,Int.reduceSub,Int.reduceMul,Int.reduceLT,Int.reduceLE,Int.reduceEq,Int.reduceToNat,Int.reduceNeg,Nat.reduceEqDiff,Nat.reduceBEq,Nat.reduceLT,xAQ,xAR,List.length_map,xJS,xJU,hlt,v1,v2,hq,ih']
      · rw [if_neg e] at ih'
        rw [if_neg (fun h => e (hd'.1 h))]
        simp (maxSteps := 30000000) (disch := first | assumption | omega | (simp only [WL,AV.isCell] <;> omega) | rfl | decide) only [↓reduceIte,WB,xAL,xAb,xAK,xAp,xAo,AV.cells,AV.isCell,xAa,xAd,xAe,xAr,xAs,xAt,xAu,xAv,xAw,xAJ,xAx,xAy,xAj,xAz,xAk,xAl,xAA,xAm,xAn,xAi,Nat.reduceDiv,Nat.reduceMod,WP,xAG,xAC,xA2,xA0,xAZ,xAF,xAI,xAH,W2,xAf,xAg,xAh,Nat.reduceAdd,Nat.reduceSub,Nat.reduceLeDiff,Nat.reduceMul,Int.reduceAdd,Int.reduceSub,Int.reduceMul,Int.reduceLT,Int.reduceLE,Int.reduceEq,Int.reduceToNat,Int.reduceNeg,Nat.reduceEqDiff,Nat.reduceBEq,Nat.reduceLT,xAQ,xAR,List.length_map,xJS,xJU,hlt,v1,v2,hq,ih']
    · rw [decide_eq_false c] at hq
      refine ⟨i,?_⟩
      rw [if_neg (fun h => c (hd.1 h).1),xUg]
      simp (maxSteps := 30000000) (disch := first | assumption | omega | (simp only [WL,AV.isCell] <;> omega) | rfl | decide) only [↓reduceIte,WB,xAL,xAb,xAK,xAp,xAo,AV.cells,AV.isCell,xAa,xAd,xAe,xAr,xAs,xAt,xAu,xAv,xAw,xAJ,xAx,xAy,xAj,xAz,xAk,xAl,xAA,xAm,xAn,xAi,Nat.reduceDiv,Nat.reduceMod,WP,xAG,xAC,xA2,xA0,xAZ,xAF,xAI,xAH,W2,xAf,xAg,xAh,Nat.reduceAdd,Nat.reduceSub,Nat.reduceLeDiff,Nat.reduceMul,Int.reduceAdd,Int.reduceSub,Int.reduceMul,Int.reduceLT,Int.reduceLE,Int.reduceEq,Int.reduceToNat,Int.reduceNeg,Nat.reduceEqDiff,Nat.reduceBEq,Nat.reduceLT,xAQ,xAR,List.length_map,xJS,xJU,hlt,v1,v2,hq]
theorem yFd {z1 z2 : Bool} {a b : List Rw} (hm : a.length < 9223372036854775807) (hr : ∀ r ∈ a,r.l.length < 9223372036854775807) : L.pcall 66 [.sl z1 a.length (a.map rwV),.sl z2 b.length (b.map rwV)] = some (.bool (decide (a.map Rw.l = b.map Rw.l))) := by
  by_cases hl : a.length = b.length
  · obtain ⟨j,h⟩ := yDS (z1 := z1) (z2 := z2) (H := []) hl hm hr a.length 0 (by omega)
    simp only [Int.natCast_zero,List.drop_zero] at h
    rw [yEj,a66,xAB]
    by_cases c : a.map Rw.l = b.map Rw.l
    · rw [if_pos c] at h
      rw [decide_eq_true c]
      rw [← hl] at h ⊢
      simp (maxSteps := 30000000) (disch := first | assumption | omega | (simp only [WL,AV.isCell] <;> omega) | rfl | decide) only [↓reduceIte,WB,xAL,xAb,xAK,xAp,xAo,AV.cells,AV.isCell,xAa,xAd,xAe,xAr,xAs,xAt,xAu,xAv,xAw,xAJ,xAx,xAy,xAj,xAz,xAk,xAl,xAA,xAm,xAn,xAi,Nat.reduceDiv,Nat.reduceMod,WP,xAG,xAC,xA2,xA0,xAZ,xAF,xAI,xAH,W2,xAf,xAg,xAh,Nat.reduceAdd,Nat.reduceSub,Nat.reduceLeDiff,Nat.reduceMul,Int.reduceAdd,Int.reduceSub,Int.reduceMul,Int.reduceLT,Int.reduceLE,Int.reduceEq,Int.reduceToNat,Int.reduceNeg,Nat.reduceEqDiff,Nat.reduceBEq,Nat.reduceLT,xAQ,xAR,List.length_map,xJU,h]
    · rw [if_neg c] at h
      rw [decide_eq_false c]
      rw [← hl] at h ⊢
      simp (maxSteps := 30000000) (disch := first | assumption | omega | (simp only [WL,AV.isCell] <;> omega) | rfl | decide) only [↓reduceIte,WB,xAL,xAb,xAK,xAp,xAo,AV.cells,AV.isCell,xAa,xAd,xAe,xAr,xAs,xAt,xAu,xAv,xAw,xAJ,xAx,xAy,xAj,xAz,xAk,xAl,xAA,xAm,xAn,xAi,Nat.reduceDiv,Nat.reduceMod,WP,xAG,xAC,xA2,xA0,xAZ,xAF,xAI,xAH,W2,xAf,xAg,xAh,Nat.reduceAdd,Nat.reduceSub,Nat.reduceLeDiff,Nat.reduceMul,Int.reduceAdd,Int.reduceSub,Int.reduceMul,Int.reduceLT,Int.reduceLE,Int.reduceEq,Int.reduceToNat,Int.reduceNeg,Nat.reduceEqDiff,Nat.reduceBEq,Nat.reduceLT,xAQ,xAR,List.length_map,xJU,h]
  · have hl' : (((a.length : Nat) : Int) = ((b.length : Nat) : Int)) = False := eq_false (by omega)
    rw [decide_eq_false (fun e => hl (by have := congrArg List.length e; simpa using this)),yEj,a66,xAB]
    simp (maxSteps := 30000000) (disch := first | assumption | omega | (simp only [WL,AV.isCell] <;> omega) | rfl | decide) only [↓reduceIte,WB,xAL,xAb,xAK,xAp,xAo,AV.cells,AV.isCell,xAa,xAd,xAe,xAr,xAs,xAt,xAu,xAv,xAw,xAJ,xAx,xAy,xAj,xAz,xAk,xAl,xAA,xAm,xAn,xAi,Nat.reduceDiv,Nat.reduceMod,WP,xAG,xAC,xA2,xA0,xAZ,xAF,xAI,xAH,W2,xAf,xAg,xAh,Nat.reduceAdd,Nat.reduceSub,Nat.reduceLeDiff,Nat.reduceMul,Int.reduceAdd,Int.reduceSub,Int.reduceMul,Int.reduceLT,Int.reduceLE,Int.reduceEq,Int.reduceToNat,Int.reduceNeg,Nat.reduceEqDiff,Nat.reduceBEq,Nat.reduceLT,xAQ,xAR,List.length_map,hl']
theorem yDT {z1 z2 : Bool} {a b : List Wd} {H : Heap} (hl : a.length = b.length) (hm : a.length < 9223372036854775807) (hr : ∀ r ∈ a,r.l.length < 9223372036854775807) : ∀ e i,i + e = a.length →
    ∃ j : Nat,L.loop xNn xXz ⟨xJW (.sl z1 a.length (a.map wdV)) (.sl z2 b.length (b.map wdV)) (.bool false) (.int .i64 (i : Nat)),H⟩ =
      some (if (a.drop i).map Wd.l = (b.drop i).map Wd.l then (.exit 0,⟨xJW (.sl z1 a.length (a.map wdV)) (.sl z2 b.length (b.map wdV)) (.bool false) (.int .i64 (a.length : Nat)),H⟩)
        else (.ret,⟨xJW (.sl z1 a.length (a.map wdV)) (.sl z2 b.length (b.map wdV)) (.bool false) (.int .i64 (j : Nat)),H⟩)) := by
  intro e
  induction e with
  | zero =>
    intro i h
    obtain rfl : i = a.length := by omega
    refine ⟨0,?_⟩
    rw [if_pos (by rw [List.drop_length,hl,List.drop_length]),xUh]
    simp (maxSteps := 30000000) (disch := first | assumption | omega | (simp only [WL,AV.isCell] <;> omega) | rfl | decide) only [↓reduceIte,WB,xAL,xAb,xAK,xAp,xAo,AV.cells,AV.isCell,xAa,xAd,xAe,xAr,xAs,xAt,xAu,xAv,xAw,xAJ,xAx,xAy,xAj,xAz,xAk,xAl,xAA,xAm,xAn,xAi,Nat.reduceDiv,Nat.reduceMod,WP,xAG,xAC,xA2,xA0,xAZ,xAF,xAI,xAH,W2,xAf,xAg,xAh,Nat.reduceAdd,Nat.reduceSub,Nat.reduceLeDiff,Nat.reduceMul,Int.reduceAdd,Int.reduceSub,Int.reduceMul,Int.reduceLT,Int.reduceLE,Int.reduceEq,Int.reduceToNat,Int.reduceNeg,Nat.reduceEqDiff,Nat.reduceBEq,Nat.reduceLT,xAQ,xAR,List.length_map,xJV,xJX]
  | succ e ih =>
    intro i h
    have hlt : (i : Int) < (a.length : Nat) := by omega
    obtain ⟨j,ih'⟩ := ih (i + 1) (by omega)
    rw [← hl] at ih' ⊢
    have hd := xRK Wd.l hl w0 (show i < a.length by omega)
    have hq := yEv (z1 := (a.getD i w0).z) (z2 := (b.getD i w0).z) (a := (a.getD i w0).l) (b := (b.getD i w0).l) (hr _ (xBk (by omega)))
    have v1 : wdV (a.getD i w0) = .sl (a.getD i w0).z (a.getD i w0).l.length (bs (a.getD i w0).l) := rfl
    have v2 : wdV (b.getD i w0) = .sl (b.getD i w0).z (b.getD i w0).l.length (bs (b.getD i w0).l) := rfl
    by_cases c : (a.getD i w0).l = (b.getD i w0).l
    · rw [decide_eq_true c] at hq
      refine ⟨j,?_⟩
      have hd' : ((a.drop i).map Wd.l = (b.drop i).map Wd.l) ↔ ((a.drop (i + 1)).map Wd.l = (b.drop (i + 1)).map Wd.l) := hd.trans ⟨fun h => h.2,fun h => ⟨c,h⟩⟩
      rw [xUh]
      by_cases e : (a.drop (i + 1)).map Wd.l = (b.drop (i + 1)).map Wd.l
      · rw [if_pos e] at ih'
        rw [if_pos (hd'.2 e)]
        simp (maxSteps := 30000000) (disch := first | assumption | omega | (simp only [WL,AV.isCell] <;> omega) | rfl | decide) only [↓reduceIte,WB,xAL,xAb,xAK,xAp,xAo,AV.cells,AV.isCell,xAa,xAd,xAe,xAr,xAs,xAt,xAu,xAv,xAw,xAJ,xAx,xAy,xAj,xAz,xAk,xAl,xAA,xAm,xAn,xAi,Nat.reduceDiv,Nat.reduceMod,WP,xAG,xAC,xA2,xA0,xAZ,xAF,xAI,xAH,W2,xAf,xAg,xAh,Nat.reduceAdd,Nat.reduceSub,Nat.reduceLeDiff,Nat.reduceMul,Int.reduceAdd,Int.reduceSub,Int.reduceMul,Int.reduceLT,Int.reduceLE,Int.reduceEq,Int.reduceToNat,Int.reduceNeg,Nat.reduceEqDiff,Nat.reduceBEq,Nat.reduceLT,xAQ,xAR,List.length_map,xJV,xJX,hlt,v1,v2,hq,ih']
      · rw [if_neg e] at ih'
        rw [if_neg (fun h => e (hd'.1 h))]
        simp (maxSteps := 30000000) (disch := first | assumption | omega | (simp only [WL,AV.isCell] <;> omega) | rfl | decide) only [↓reduceIte,WB,xAL,xAb,xAK,xAp,xAo,AV.cells,AV.isCell,xAa,xAd,xAe,xAr,xAs,xAt,xAu,xAv,xAw,xAJ,xAx,xAy,xAj,xAz,xAk,xAl,xAA,xAm,xAn,xAi,Nat.reduceDiv,Nat.reduceMod,WP,xAG,xAC,xA2,xA0,xAZ,xAF,xAI,xAH,W2,xAf,xAg,xAh,Nat.reduceAdd,Nat.reduceSub,Nat.reduceLeDiff,Nat.reduceMul,Int.reduceAdd,Int.reduceSub,Int.reduceMul,Int.reduceLT,Int.reduceLE,Int.reduceEq,Int.reduceToNat,Int.reduceNeg,Nat.reduceEqDiff,Nat.reduceBEq,Nat.reduceLT,xAQ,xAR,List.length_map,xJV,xJX,hlt,v1,v2,hq,ih']
    · rw [decide_eq_false c] at hq
      refine ⟨i,?_⟩
      rw [if_neg (fun h => c (hd.1 h).1),xUh]
      simp (maxSteps := 30000000) (disch := first | assumption | omega | (simp only [WL,AV.isCell] <;> omega) | rfl | decide) only [↓reduceIte,WB,xAL,xAb,xAK,xAp,xAo,AV.cells,AV.isCell,xAa,xAd,xAe,xAr,xAs,xAt,xAu,xAv,xAw,xAJ,xAx,xAy,xAj,xAz,xAk,xAl,xAA,xAm,xAn,xAi,Nat.reduceDiv,Nat.reduceMod,WP,xAG,xAC,xA2,xA0,xAZ,xAF,xAI,xAH,W2,xAf,xAg,xAh,Nat.reduceAdd,Nat.reduceSub,Nat.reduceLeDiff,Nat.reduceMul,Int.reduceAdd,Int.reduceSub,Int.reduceMul,Int.reduceLT,Int.reduceLE,Int.reduceEq,Int.reduceToNat,Int.reduceNeg,Nat.reduceEqDiff,Nat.reduceBEq,Nat.reduceLT,xAQ,xAR,List.length_map,xJV,xJX,hlt,v1,v2,hq]
theorem yFe {z1 z2 : Bool} {a b : List Wd} (hm : a.length < 9223372036854775807) (hr : ∀ r ∈ a,r.l.length < 9223372036854775807) : L.pcall 67 [.sl z1 a.length (a.map wdV),.sl z2 b.length (b.map wdV)] = some (.bool (decide (a.map Wd.l = b.map Wd.l))) := by
  by_cases hl : a.length = b.length
  · obtain ⟨j,h⟩ := yDT (z1 := z1) (z2 := z2) (H := []) hl hm hr a.length 0 (by omega)
    simp only [Int.natCast_zero,List.drop_zero] at h
    rw [yEk,a67,xAB]
    by_cases c : a.map Wd.l = b.map Wd.l
    · rw [if_pos c] at h
      rw [decide_eq_true c]
      rw [← hl] at h ⊢
      simp (maxSteps := 30000000) (disch := first | assumption | omega | (simp only [WL,AV.isCell] <;> omega) | rfl | decide) only [↓reduceIte,WB,xAL,xAb,xAK,xAp,xAo,AV.cells,AV.isCell,xAa,xAd,xAe,xAr,xAs,xAt,xAu,xAv,xAw,xAJ,xAx,xAy,xAj,xAz,xAk,xAl,xAA,xAm,xAn,xAi,Nat.reduceDiv,Nat.reduceMod,WP,xAG,xAC,xA2,xA0,xAZ,xAF,xAI,xAH,W2,xAf,xAg,xAh,Nat.reduceAdd,Nat.reduceSub,Nat.reduceLeDiff,Nat.reduceMul,Int.reduceAdd,Int.reduceSub,Int.reduceMul,Int.reduceLT,Int.reduceLE,Int.reduceEq,Int.reduceToNat,Int.reduceNeg,Nat.reduceEqDiff,Nat.reduceBEq,Nat.reduceLT,xAQ,xAR,List.length_map,xJX,h]
    · rw [if_neg c] at h
      rw [decide_eq_false c]
      rw [← hl] at h ⊢
      simp (maxSteps := 30000000) (disch := first | assumption | omega | (simp only [WL,AV.isCell] <;> omega) | rfl | decide) only [↓reduceIte,WB,xAL,xAb,xAK,xAp,xAo,AV.cells,AV.isCell,xAa,xAd,xAe,xAr,xAs,xAt,xAu,xAv,xAw,xAJ,xAx,xAy,xAj,xAz,xAk,xAl,xAA,xAm,xAn,xAi,Nat.reduceDiv,Nat.reduceMod,WP,xAG,xAC,xA2,xA0,xAZ,xAF,xAI,xAH,W2,xAf,xAg,xAh,Nat.reduceAdd,Nat.reduceSub,Nat.reduceLeDiff,Nat.reduceMul,Int.reduceAdd,Int.reduceSub,Int.reduceMul,Int.reduceLT,Int.reduceLE,Int.reduceEq,Int.reduceToNat,Int.reduceNeg,Nat.reduceEqDiff,Nat.reduceBEq,Nat.reduceLT,xAQ,xAR,List.length_map,xJX,h]
  · have hl' : (((a.length : Nat) : Int) = ((b.length : Nat) : Int)) = False := eq_false (by omega)
    rw [decide_eq_false (fun e => hl (by have := congrArg List.length e; simpa using this)),yEk,a67,xAB]
    simp (maxSteps := 30000000) (disch := first | assumption | omega | (simp only [WL,AV.isCell] <;> omega) | rfl | decide) only [↓reduceIte,WB,xAL,xAb,xAK,xAp,xAo,AV.cells,AV.isCell,xAa,xAd,xAe,xAr,xAs,xAt,xAu,xAv,xAw,xAJ,xAx,xAy,xAj,xAz,xAk,xAl,xAA,xAm,xAn,xAi,Nat.reduceDiv,Nat.reduceMod,WP,xAG,xAC,xA2,xA0,xAZ,xAF,xAI,xAH,W2,xAf,xAg,xAh,Nat.reduceAdd,Nat.reduceSub,Nat.reduceLeDiff,Nat.reduceMul,Int.reduceAdd,Int.reduceSub,Int.reduceMul,Int.reduceLT,Int.reduceLE,Int.reduceEq,Int.reduceToNat,Int.reduceNeg,Nat.reduceEqDiff,Nat.reduceBEq,Nat.reduceLT,xAQ,xAR,List.length_map,hl']
def xOP (r : Rw) : Rw := ⟨r.l.length == 0,r.l⟩
theorem yCE {z : Bool} {l : List Int} (hl : l.length ≤ 1000000) : L.pcall 84 [.sl z l.length (xCe l)] = some (.sl (l.length == 0) l.length (xCe l)) := by
  have hb : ((l.length == 0) = true) ∨ ((l.length == 0) = false) := by cases (l.length == 0) <;> simp
  rw [yE3,a84,xAB]
  simp (maxSteps := 30000000) (disch := first | assumption | omega | (simp only [WL,AV.isCell] <;> omega) | rfl | decide) only [↓reduceIte,WB,xAL,xAb,xAK,xAp,xAo,AV.cells,AV.isCell,xAa,xAd,xAe,xAr,xAs,xAt,xAu,xAv,xAw,xAJ,xAx,xAy,xAj,xAz,xAk,xAl,xAA,xAm,xAn,xAi,Nat.reduceDiv,Nat.reduceMod,WP,xAG,xAC,xA2,xA0,xAZ,xAF,xAI,xAH,W2,xAf,xAg,xAh,Nat.reduceAdd,Nat.reduceSub,Nat.reduceLeDiff,Nat.reduceMul,Int.reduceAdd,Int.reduceSub,Int.reduceMul,Int.reduceLT,Int.reduceLE,Int.reduceEq,Int.reduceToNat,Int.reduceNeg,Nat.reduceEqDiff,Nat.reduceBEq,Nat.reduceLT,xAQ,xAR,List.length_map]
theorem yAI (d : Nat) (H : Heap) (l : List Rw) : (l.map rwV).mapM (frz d H) = some (l.map rwV) := by
  induction l with
  | nil => rfl
  | cons r l ih =>
    have : rwV r = .sl r.z r.l.length (xCe r.l) := rfl
    rw [List.map_cons,List.mapM_cons,this,xRd]
    simp [ih]
theorem yAJ {z : Bool} {l : List Rw} (hl : l.length ≤ 1000000) (hr : ∀ r ∈ l,r.l.length ≤ 1000000) : ∀ e i v G,i + e = l.length → Lst 0 G v (((l.take i).map xOP).map rwV) →
    ∃ v' G',L.loop xM8 xXq ⟨xM9 (.sl z l.length (l.map rwV)) v (.int .i64 (i : Nat)),G⟩ = some (.exit 0,⟨xM9 (.sl z l.length (l.map rwV)) v' (.int .i64 (l.length : Nat)),G'⟩) ∧ Lst 0 G' v' ((l.map xOP).map rwV) := by
  intro e
  induction e with
  | zero =>
    intro i v G h hI
    obtain rfl : i = l.length := by omega
    rw [List.take_length] at hI
    refine ⟨v,G,?_,hI⟩
    rw [xYy]
    simp (maxSteps := 30000000) (disch := first | assumption | omega | (simp only [WL,AV.isCell] <;> omega) | rfl | decide) only [↓reduceIte,WB,xAL,xAb,xAK,xAp,xAo,AV.cells,AV.isCell,xAa,xAd,xAe,xAr,xAs,xAt,xAu,xAv,xAw,xAJ,xAx,xAy,xAj,xAz,xAk,xAl,xAA,xAm,xAn,xAi,Nat.reduceDiv,Nat.reduceMod,WP,xAG,xAC,xA2,xA0,xAZ,xAF,xAI,xAH,W2,xAf,xAg,xAh,Nat.reduceAdd,Nat.reduceSub,Nat.reduceLeDiff,Nat.reduceMul,Int.reduceAdd,Int.reduceSub,Int.reduceMul,Int.reduceLT,Int.reduceLE,Int.reduceEq,Int.reduceToNat,Int.reduceNeg,Nat.reduceEqDiff,Nat.reduceBEq,Nat.reduceLT,xAQ,xAR,List.length_map,xQo,xT9]
  | succ e ih =>
    intro i v G h hI
    have hlt : (i : Int) < (l.length : Nat) := by omega
    have hlt' : i < l.length := by omega
    have hlen : (((l.take i).map xOP).map rwV).length = i := by simp; omega
    obtain ⟨v1,G1,a1,a2,-⟩ := hI.push2 (rwV (xOP (l.getD i r0))) (bytes := 24) (by rw [hlen]; omega) (by rw [hlen]; omega) (Nat.zero_le _)
    have hc := yCE (z := (l.getD i r0).z) (l := (l.getD i r0).l) (hr _ (xBk hlt'))
    have v1' : rwV (l.getD i r0) = .sl (l.getD i r0).z (l.getD i r0).l.length (xCe (l.getD i r0).l) := rfl
    have v2' : rwV (xOP (l.getD i r0)) = .sl ((l.getD i r0).l.length == 0) (l.getD i r0).l.length (xCe (l.getD i r0).l) := rfl
    obtain ⟨v',G',k1,k2⟩ := ih (i + 1) v1 G1 (by omega) (by
      have e : (((l.take (i + 1)).map xOP).map rwV) = ((l.take i).map xOP).map rwV ++ [rwV (xOP (l.getD i r0))] := by
        have ht : l.take (i + 1) = l.take i ++ [l.getD i r0] := by
          rw [List.take_add_one,List.getElem?_eq_getElem hlt']
          simp [List.getD,List.getElem?_eq_getElem hlt']
        rw [ht,List.map_append,List.map_append]; rfl
      rw [e]; exact a2)
    refine ⟨v',G',?_,k2⟩
    rw [v2'] at a1
    rw [xYy]
    simp (maxSteps := 30000000) (disch := first | assumption | omega | (simp only [WL,AV.isCell] <;> omega) | rfl | decide) only [↓reduceIte,WB,xAL,xAb,xAK,xAp,xAo,AV.cells,AV.isCell,xAa,xAd,xAe,xAr,xAs,xAt,xAu,xAv,xAw,xAJ,xAx,xAy,xAj,xAz,xAk,xAl,xAA,xAm,xAn,xAi,Nat.reduceDiv,Nat.reduceMod,WP,xAG,xAC,xA2,xA0,xAZ,xAF,xAI,xAH,W2,xAf,xAg,xAh,Nat.reduceAdd,Nat.reduceSub,Nat.reduceLeDiff,Nat.reduceMul,Int.reduceAdd,Int.reduceSub,Int.reduceMul,Int.reduceLT,Int.reduceLE,Int.reduceEq,Int.reduceToNat,Int.reduceNeg,Nat.reduceEqDiff,Nat.reduceBEq,Nat.reduceLT,xAQ,xAR,List.length_map,xQo,xT9,hlt,hlt',v1',hc,a1,k1]
theorem yCF {z : Bool} {l : List Rw} (hl : l.length ≤ 1000000) (hr : ∀ r ∈ l,r.l.length ≤ 1000000) : L.pcall 50 [.sl z l.length (l.map rwV)] = some (.sl (l.length == 0) l.length ((l.map xOP).map rwV)) := by
  obtain ⟨v',G',k1,k2⟩ := yAJ (z := z) hl hr l.length 0 (.sl true 0 []) [] (by omega) (.inl ⟨rfl,rfl⟩)
  simp only [Int.natCast_zero] at k1
  have hf : frz 6 G' v' = some (.sl (l.length == 0) l.length ((l.map xOP).map rwV)) := by
    rcases k2 with ⟨h0,rfl⟩ | ⟨a,rfl,ha,_,h0⟩
    · have e := congrArg List.length h0
      simp only [List.length_map,List.length_nil] at e
      have e0 : l = [] := List.length_eq_zero_iff.1 e
      subst e0; rfl
    · have hz : (l.length == 0) = false := by
        cases l with
        | nil => simp at h0
        | cons => rfl
      have hlm : ((l.map xOP).map rwV).length = l.length := by simp
      simp only [frz,ha,Nat.mul_one,List.drop_zero]
      rw [if_pos (by omega),List.take_length,yAI,hz,hlm]; rfl
  rw [yEL,a50,xAB]
  simp (maxSteps := 30000000) (disch := first | assumption | omega | (simp only [WL,AV.isCell] <;> omega) | rfl | decide) only [↓reduceIte,WB,xAL,xAb,xAK,xAp,xAo,AV.cells,AV.isCell,xAa,xAd,xAe,xAr,xAs,xAt,xAu,xAv,xAw,xAJ,xAx,xAy,xAj,xAz,xAk,xAl,xAA,xAm,xAn,xAi,Nat.reduceDiv,Nat.reduceMod,WP,xAG,xAC,xA2,xA0,xAZ,xAF,xAI,xAH,W2,xAf,xAg,xAh,Nat.reduceAdd,Nat.reduceSub,Nat.reduceLeDiff,Nat.reduceMul,Int.reduceAdd,Int.reduceSub,Int.reduceMul,Int.reduceLT,Int.reduceLE,Int.reduceEq,Int.reduceToNat,Int.reduceNeg,Nat.reduceEqDiff,Nat.reduceBEq,Nat.reduceLT,xAQ,xAR,List.length_map,xT9,k1,hf]
def xOQ (r : Wd) : Wd := ⟨r.l.length == 0,r.l⟩
theorem xGM {z : Bool} {l : List Nat} (hl : l.length ≤ 1000000) : L.pcall 15 [.sl z l.length (bs l)] = some (.sl (l.length == 0) l.length (bs l)) := by
  have hb : ((l.length == 0) = true) ∨ ((l.length == 0) = false) := by cases (l.length == 0) <;> simp
  rw [yED,a15,xAB]
  simp (maxSteps := 30000000) (disch := first | assumption | omega | (simp only [WL,AV.isCell] <;> omega) | rfl | decide) only [↓reduceIte,WB,xAL,xAb,xAK,xAp,xAo,AV.cells,AV.isCell,xAa,xAd,xAe,xAr,xAs,xAt,xAu,xAv,xAw,xAJ,xAx,xAy,xAj,xAz,xAk,xAl,xAA,xAm,xAn,xAi,Nat.reduceDiv,Nat.reduceMod,WP,xAG,xAC,xA2,xA0,xAZ,xAF,xAI,xAH,W2,xAf,xAg,xAh,Nat.reduceAdd,Nat.reduceSub,Nat.reduceLeDiff,Nat.reduceMul,Int.reduceAdd,Int.reduceSub,Int.reduceMul,Int.reduceLT,Int.reduceLE,Int.reduceEq,Int.reduceToNat,Int.reduceNeg,Nat.reduceEqDiff,Nat.reduceBEq,Nat.reduceLT,xAQ,xAR,List.length_map]
theorem yAK (d : Nat) (H : Heap) (l : List Wd) : (l.map wdV).mapM (frz d H) = some (l.map wdV) := by
  induction l with
  | nil => rfl
  | cons r l ih =>
    have : wdV r = .sl r.z r.l.length (bs r.l) := rfl
    rw [List.map_cons,List.mapM_cons,this,xRd]
    simp [ih]
theorem yAL {z : Bool} {l : List Wd} (hl : l.length ≤ 1000000) (hr : ∀ r ∈ l,r.l.length ≤ 1000000) : ∀ e i v G,i + e = l.length → Lst 0 G v (((l.take i).map xOQ).map wdV) →
    ∃ v' G',L.loop xNa xXr ⟨xNb (.sl z l.length (l.map wdV)) v (.int .i64 (i : Nat)),G⟩ = some (.exit 0,⟨xNb (.sl z l.length (l.map wdV)) v' (.int .i64 (l.length : Nat)),G'⟩) ∧ Lst 0 G' v' ((l.map xOQ).map wdV) := by
  intro e
  induction e with
  | zero =>
    intro i v G h hI
    obtain rfl : i = l.length := by omega
    rw [List.take_length] at hI
    refine ⟨v,G,?_,hI⟩
    rw [xYz]
    simp (maxSteps := 30000000) (disch := first | assumption | omega | (simp only [WL,AV.isCell] <;> omega) | rfl | decide) only [↓reduceIte,WB,xAL,xAb,xAK,xAp,xAo,AV.cells,AV.isCell,xAa,xAd,xAe,xAr,xAs,xAt,xAu,xAv,xAw,xAJ,xAx,xAy,xAj,xAz,xAk,xAl,xAA,xAm,xAn,xAi,Nat.reduceDiv,Nat.reduceMod,WP,xAG,xAC,xA2,xA0,xAZ,xAF,xAI,xAH,W2,xAf,xAg,xAh,Nat.reduceAdd,Nat.reduceSub,Nat.reduceLeDiff,Nat.reduceMul,Int.reduceAdd,Int.reduceSub,Int.reduceMul,Int.reduceLT,Int.reduceLE,Int.reduceEq,Int.reduceToNat,Int.reduceNeg,Nat.reduceEqDiff,Nat.reduceBEq,Nat.reduceLT,xAQ,xAR,List.length_map,xQp,xUa]
  | succ e ih =>
    intro i v G h hI
    have hlt : (i : Int) < (l.length : Nat) := by omega
    have hlt' : i < l.length := by omega
    have hlen : (((l.take i).map xOQ).map wdV).length = i := by simp; omega
    obtain ⟨v1,G1,a1,a2,-⟩ := hI.push2 (wdV (xOQ (l.getD i w0))) (bytes := 24) (by rw [hlen]; omega) (by rw [hlen]; omega) (Nat.zero_le _)
    have hc := xGM (z := (l.getD i w0).z) (l := (l.getD i w0).l) (hr _ (xBk hlt'))
    have v1' : wdV (l.getD i w0) = .sl (l.getD i w0).z (l.getD i w0).l.length (bs (l.getD i w0).l) := rfl
    have v2' : wdV (xOQ (l.getD i w0)) = .sl ((l.getD i w0).l.length == 0) (l.getD i w0).l.length (bs (l.getD i w0).l) := rfl
    obtain ⟨v',G',k1,k2⟩ := ih (i + 1) v1 G1 (by omega) (by
      have e : (((l.take (i + 1)).map xOQ).map wdV) = ((l.take i).map xOQ).map wdV ++ [wdV (xOQ (l.getD i w0))] := by
        have ht : l.take (i + 1) = l.take i ++ [l.getD i w0] := by
          rw [List.take_add_one,List.getElem?_eq_getElem hlt']
          simp [List.getD,List.getElem?_eq_getElem hlt']
        rw [ht,List.map_append,List.map_append]; rfl
      rw [e]; exact a2)
    refine ⟨v',G',?_,k2⟩
    rw [v2'] at a1
    rw [xYz]
    simp (maxSteps := 30000000) (disch := first | assumption | omega | (simp only [WL,AV.isCell] <;> omega) | rfl | decide) only [↓reduceIte,WB,xAL,xAb,xAK,xAp,xAo,AV.cells,AV.isCell,xAa,xAd,xAe,xAr,xAs,xAt,xAu,xAv,xAw,xAJ,xAx,xAy,xAj,xAz,xAk,xAl,xAA,xAm,xAn,xAi,Nat.reduceDiv,Nat.reduceMod,WP,xAG,xAC,xA2,xA0,xAZ,xAF,xAI,xAH,W2,xAf,xAg,xAh,Nat.reduceAdd,Nat.reduceSub,Nat.reduceLeDiff,Nat.reduceMul,Int.reduceAdd,Int.reduceSub,Int.reduceMul,Int.reduceLT,Int.reduceLE,Int.reduceEq,Int.reduceToNat,Int.reduceNeg,Nat.reduceEqDiff,Nat.reduceBEq,Nat.reduceLT,xAQ,xAR,List.length_map,xQp,xUa,hlt,hlt',v1',hc,a1,k1]
theorem yCG {z : Bool} {l : List Wd} (hl : l.length ≤ 1000000) (hr : ∀ r ∈ l,r.l.length ≤ 1000000) : L.pcall 51 [.sl z l.length (l.map wdV)] = some (.sl (l.length == 0) l.length ((l.map xOQ).map wdV)) := by
  obtain ⟨v',G',k1,k2⟩ := yAL (z := z) hl hr l.length 0 (.sl true 0 []) [] (by omega) (.inl ⟨rfl,rfl⟩)
  simp only [Int.natCast_zero] at k1
  have hf : frz 6 G' v' = some (.sl (l.length == 0) l.length ((l.map xOQ).map wdV)) := by
    rcases k2 with ⟨h0,rfl⟩ | ⟨a,rfl,ha,_,h0⟩
    · have e := congrArg List.length h0
      simp only [List.length_map,List.length_nil] at e
      have e0 : l = [] := List.length_eq_zero_iff.1 e
      subst e0; rfl
    · have hz : (l.length == 0) = false := by
        cases l with
        | nil => simp at h0
        | cons => rfl
      have hlm : ((l.map xOQ).map wdV).length = l.length := by simp
      simp only [frz,ha,Nat.mul_one,List.drop_zero]
      rw [if_pos (by omega),List.take_length,yAK,hz,hlm]; rfl
  rw [yEM,a51,xAB]
  simp (maxSteps := 30000000) (disch := first | assumption | omega | (simp only [WL,AV.isCell] <;> omega) | rfl | decide) only [↓reduceIte,WB,xAL,xAb,xAK,xAp,xAo,AV.cells,AV.isCell,xAa,xAd,xAe,xAr,xAs,xAt,xAu,xAv,xAw,xAJ,xAx,xAy,xAj,xAz,xAk,xAl,xAA,xAm,xAn,xAi,Nat.reduceDiv,Nat.reduceMod,WP,xAG,xAC,xA2,xA0,xAZ,xAF,xAI,xAH,W2,xAf,xAg,xAh,Nat.reduceAdd,Nat.reduceSub,Nat.reduceLeDiff,Nat.reduceMul,Int.reduceAdd,Int.reduceSub,Int.reduceMul,Int.reduceLT,Int.reduceLE,Int.reduceEq,Int.reduceToNat,Int.reduceNeg,Nat.reduceEqDiff,Nat.reduceBEq,Nat.reduceLT,xAQ,xAR,List.length_map,xUa,k1,hf]
def yCH (a b : Mf) : Prop := a.i = b.i ∧ a.o = b.o ∧ a.s = b.s ∧ a.next.map Rw.l = b.next.map Rw.l ∧ a.emit.map Wd.l = b.emit.map Wd.l
theorem xZt {a b : Mf} (h1 : a.next.length < 9223372036854775807) (h2 : a.emit.length < 9223372036854775807) (hr : ∀ r ∈ a.next,r.l.length < 9223372036854775807) (hw : ∀ r ∈ a.emit,r.l.length < 9223372036854775807) (hs : yCH a b) : L.pcall 29 [a.av,b.av] = some (.bool true) := by
  obtain ⟨e1,e2,e3,e4,e5⟩ := hs
  have q1 := yFd (z1 := a.z) (z2 := b.z) (a := a.next) (b := b.next) h1 hr
  have q2 := yFe (z1 := a.ze) (z2 := b.ze) (a := a.emit) (b := b.emit) h2 hw
  rw [decide_eq_true e4] at q1
  rw [decide_eq_true e5] at q2
  unfold Mf.av Mf.cells
  rw [yEG,a29,xAB]
  simp (maxSteps := 30000000) (disch := first | assumption | omega | (simp only [WL,AV.isCell] <;> omega) | rfl | decide) only [↓reduceIte,WB,xAL,xAb,xAK,xAp,xAo,AV.cells,AV.isCell,xAa,xAd,xAe,xAr,xAs,xAt,xAu,xAv,xAw,xAJ,xAx,xAy,xAj,xAz,xAk,xAl,xAA,xAm,xAn,xAi,Nat.reduceDiv,Nat.reduceMod,WP,xAG,xAC,xA2,xA0,xAZ,xAF,xAI,xAH,W2,xAf,xAg,xAh,Nat.reduceAdd,Nat.reduceSub,Nat.reduceLeDiff,Nat.reduceMul,Int.reduceAdd,Int.reduceSub,Int.reduceMul,Int.reduceLT,Int.reduceLE,Int.reduceEq,Int.reduceToNat,Int.reduceNeg,Nat.reduceEqDiff,Nat.reduceBEq,Nat.reduceLT,xAQ,xAR,List.length_map,e1,e2,e3,q1,q2]
def cpF (m : Mf) : Mf := ⟨m.i,m.o,m.s,m.next.length == 0,m.next.map xOP,m.emit.length == 0,m.emit.map xOQ⟩
theorem xZu {m : Mf} (hS : Sm m) : L.pcall 14 [m.av] = some (cpF m).av := by
  have q1 := yCF (z := m.z) (l := m.next) (by have := hS.n; omega) (fun r hr => by have := hS.r r hr; omega)
  have q2 := yCG (z := m.ze) (l := m.emit) (by have := hS.e; omega) (fun r hr => by have := hS.w r hr; omega)
  unfold Mf.av Mf.cells cpF
  simp only [List.length_map]
  rw [yEC,a14,xAB]
  simp (maxSteps := 30000000) (disch := first | assumption | omega | (simp only [WL,AV.isCell] <;> omega) | rfl | decide) only [↓reduceIte,WB,xAL,xAb,xAK,xAp,xAo,AV.cells,AV.isCell,xAa,xAd,xAe,xAr,xAs,xAt,xAu,xAv,xAw,xAJ,xAx,xAy,xAj,xAz,xAk,xAl,xAA,xAm,xAn,xAi,Nat.reduceDiv,Nat.reduceMod,WP,xAG,xAC,xA2,xA0,xAZ,xAF,xAI,xAH,W2,xAf,xAg,xAh,Nat.reduceAdd,Nat.reduceSub,Nat.reduceLeDiff,Nat.reduceMul,Int.reduceAdd,Int.reduceSub,Int.reduceMul,Int.reduceLT,Int.reduceLE,Int.reduceEq,Int.reduceToNat,Int.reduceNeg,Nat.reduceEqDiff,Nat.reduceBEq,Nat.reduceLT,xAQ,xAR,List.length_map,q1,q2]
theorem xX9 (m : Mf) : yCH (cpF m) m := by
  refine ⟨rfl,rfl,rfl,?_,?_⟩
  · show (m.next.map xOP).map Rw.l = _
    rw [List.map_map]; rfl
  · show (m.emit.map xOQ).map Wd.l = _
    rw [List.map_map]; rfl
theorem xRL (n wi wo : Nat) : ∀ (l : List Rw) (u : List Wd),xCK n wi wo (l.map xOP) (u.map xOQ) = xCK n wi wo l u
  | [],_ => by simp [xCK]
  | _ :: _,[] => by simp [xCK]
  | r :: t,e :: u => by
    rw [List.map_cons,List.map_cons]
    unfold xCK
    rw [xRL n wi wo t u]
    rfl
theorem yAM (m : Mf) : xFH (cpF m) = xFH m := by
  unfold xFH
  have e1 : (cpF m).next.length = m.next.length := List.length_map ..
  have e2 : (cpF m).emit.length = m.emit.length := List.length_map ..
  rw [e1,e2]
  have e3 := xRL m.next.length (two m.i.toNat) (two m.o.toNat) m.next m.emit
  show (if _ then xCK m.next.length (two m.i.toNat) (two m.o.toNat) (m.next.map xOP) (m.emit.map xOQ) else _) = _
  rw [e3]; rfl
theorem yDU {m : Mf} (hS : Sm m) : Sm (cpF m) := by
  refine ⟨hS.i,hS.o,?_,?_,fun r hr => ?_,fun r hr => ?_,fun r hr => ?_⟩
  · show (m.next.map _).length ≤ _; rw [List.length_map]; exact hS.n
  · show (m.emit.map _).length ≤ _; rw [List.length_map]; exact hS.e
  · obtain ⟨r',hr',rfl⟩ := List.mem_map.1 hr; exact hS.r r' hr'
  · obtain ⟨r',hr',rfl⟩ := List.mem_map.1 hr; exact hS.w r' hr'
  · obtain ⟨r',hr',rfl⟩ := List.mem_map.1 hr; exact hS.b r' hr'
theorem xIO {z1 z2 : Bool} {p q : List Nat} (hp : p.length ≤ 1000000) (hq : q.length ≤ 1000000) : L.pcall 19 [las z1 z2 p q] = some (las (p.length == 0) (q.length == 0) p q) := by
  simp only [las]
  rw [yEE,a19,xAB]
  simp (maxSteps := 30000000) (disch := first | assumption | omega | (simp only [WL,AV.isCell] <;> omega) | rfl | decide) only [↓reduceIte,WB,xAL,xAb,xAK,xAp,xAo,AV.cells,AV.isCell,xAa,xAd,xAe,xAr,xAs,xAt,xAu,xAv,xAw,xAJ,xAx,xAy,xAj,xAz,xAk,xAl,xAA,xAm,xAn,xAi,Nat.reduceDiv,Nat.reduceMod,WP,xAG,xAC,xA2,xA0,xAZ,xAF,xAI,xAH,W2,xAf,xAg,xAh,Nat.reduceAdd,Nat.reduceSub,Nat.reduceLeDiff,Nat.reduceMul,Int.reduceAdd,Int.reduceSub,Int.reduceMul,Int.reduceLT,Int.reduceLE,Int.reduceEq,Int.reduceToNat,Int.reduceNeg,Nat.reduceEqDiff,Nat.reduceBEq,Nat.reduceLT,xAQ,xAR,List.length_map]
section
variable {M : Ma} {z1 z2 : Bool} {p q : List Nat}
theorem xF5 (z1 z2 : Bool) (hV : Vm M) (hL : Lo M.i p q) : ∃ z p' q',Canon (SL M p q) p' q' ∧ L.pcall 20 [M.av,las z1 z2 p q] = some (.tup [las z false p' q',.int .i64 0]) := by
  have hc1 := xBN hV
  have p4 := hL.p4
  have q4 := hL.q4
  have io := hV.io
  have hb6 := (xED (show M.i ≤ 6 by omega)).1
  have hc2 := xV6 (v := M.i) (z1 := z1) (z2 := z2) (p := p) (q := q) (by omega) (by omega) (by omega) (fun x hx => by have := hL.pb x hx; omega) (fun x hx => by have := hL.qb x hx; omega)
  rw [lasE_zero.2 hL] at hc2
  obtain ⟨F',G',z,p',q',k1,k2,k3,k4,k5⟩ := xV9 (z1 := z1) (z2 := z2) hV hL (p.length + M.next.length * q.length + 1) 0 0
    [.cells false false M.cells,.cells false false [xBf z1 p,xBf z2 q],.cells false false [.sl true 0 [],.sl true 0 []]] (.sl true 0 []) (.sl true 0 [])
    (by omega) (by omega) (.inl ⟨by omega,rfl⟩) (by simp [xRO]) ⟨rfl,rfl,rfl,.inl ⟨rfl,rfl⟩,.inl ⟨rfl,rfl⟩,(fun b ⟨z,o,n,es,e⟩ => by cases e),by simp⟩
  refine ⟨z,p',q',k5,?_⟩
  have e1 : sL M p q 0 = M.s := rfl
  rw [e1] at k1
  unfold yAW at k1
  unfold Ma.av at hc1 ⊢
  unfold Ma.cells at hc1 k1 ⊢
  simp only [las,Int.natCast_zero] at hc2 k1 ⊢
  rw [yDo,a20,xAB]
  simp (maxSteps := 30000000) (disch := first | assumption | omega | (simp only [WL,AV.isCell] <;> omega) | rfl | decide) only [↓reduceIte,WB,xAL,xAb,xAK,xAp,xAo,AV.cells,AV.isCell,xAa,xAd,xAe,xAr,xAs,xAt,xAu,xAv,xAw,xAJ,xAx,xAy,xAj,xAz,xAk,xAl,xAA,xAm,xAn,xAi,Nat.reduceDiv,Nat.reduceMod,WP,xAG,xAC,xA2,xA0,xAZ,xAF,xAI,xAH,W2,xAf,xAg,xAh,Nat.reduceAdd,Nat.reduceSub,Nat.reduceLeDiff,Nat.reduceMul,Int.reduceAdd,Int.reduceSub,Int.reduceMul,Int.reduceLT,Int.reduceLE,Int.reduceEq,Int.reduceToNat,Int.reduceNeg,Nat.reduceEqDiff,Nat.reduceBEq,Nat.reduceLT,List.length_map,xMU,hc1,hc2,k1,k2,k3,k4]
theorem xSX {m : Mf} (hS : Sm m) (h : xFH m ≠ 0) : L.pcall 20 [m.av,las z1 z2 p q] = some (.tup [xCE,.int .i64 (xFH m)]) := by
  have hc := xL5 hS
  generalize xFH m = e at *
  unfold Mf.av at hc ⊢
  unfold Mf.cells at hc ⊢
  rw [yDo,a20,xAB]
  simp (maxSteps := 30000000) (disch := first | assumption | omega | (simp only [WL,AV.isCell] <;> omega) | rfl | decide) only [↓reduceIte,WB,xAL,xAb,xAK,xAp,xAo,AV.cells,AV.isCell,xAa,xAd,xAe,xAr,xAs,xAt,xAu,xAv,xAw,xAJ,xAx,xAy,xAj,xAz,xAk,xAl,xAA,xAm,xAn,xAi,Nat.reduceDiv,Nat.reduceMod,WP,xAG,xAC,xA2,xA0,xAZ,xAF,xAI,xAH,W2,xAf,xAg,xAh,Nat.reduceAdd,Nat.reduceSub,Nat.reduceLeDiff,Nat.reduceMul,Int.reduceAdd,Int.reduceSub,Int.reduceMul,Int.reduceLT,Int.reduceLE,Int.reduceEq,Int.reduceToNat,Int.reduceNeg,Nat.reduceEqDiff,Nat.reduceBEq,Nat.reduceLT,List.length_map,hc,h]
theorem xF6 (hV : Vm M) (hp : p.length < 1099511) (hq : q.length < 1099511) (bp : ∀ x ∈ p,x < 256) (bq : ∀ x ∈ q,x < 256) (h : xLg M.i p q ≠ 0) : L.pcall 20 [M.av,las z1 z2 p q] = some (.tup [xCE,.int .i64 (xLg M.i p q)]) := by
  have hc1 := xBN hV
  have io := hV.io
  have hc2 := xV6 (v := M.i) (z1 := z1) (z2 := z2) (p := p) (q := q) (by omega) hp hq bp bq
  generalize xLg M.i p q = e at *
  unfold Ma.av at hc1 ⊢
  unfold Ma.cells at hc1 ⊢
  simp only [las] at hc2 ⊢
  rw [yDo,a20,xAB]
  simp (maxSteps := 30000000) (disch := first | assumption | omega | (simp only [WL,AV.isCell] <;> omega) | rfl | decide) only [↓reduceIte,WB,xAL,xAb,xAK,xAp,xAo,AV.cells,AV.isCell,xAa,xAd,xAe,xAr,xAs,xAt,xAu,xAv,xAw,xAJ,xAx,xAy,xAj,xAz,xAk,xAl,xAA,xAm,xAn,xAi,Nat.reduceDiv,Nat.reduceMod,WP,xAG,xAC,xA2,xA0,xAZ,xAF,xAI,xAH,W2,xAf,xAg,xAh,Nat.reduceAdd,Nat.reduceSub,Nat.reduceLeDiff,Nat.reduceMul,Int.reduceAdd,Int.reduceSub,Int.reduceMul,Int.reduceLT,Int.reduceLE,Int.reduceEq,Int.reduceToNat,Int.reduceNeg,Nat.reduceEqDiff,Nat.reduceBEq,Nat.reduceLT,List.length_map,hc1,hc2,h]
end
theorem xOR {H : Heap} {k : Nat} {b : Blk} (h : H[k]? = some b) : H.set k b = H := by
  obtain ⟨h1,h2⟩ := List.getElem?_eq_some_iff.1 h
  rw [← h2,List.set_getElem_self]
theorem yDV {k n : Nat} (hn : n < 1099511627776) : ∀ e i B (G : Heap),i + e = n → B.length = n → G[k]? = some (.cells false false B) →
    L.loop xM1 xXn ⟨xM2 (.own false k 0 n 1) (.int .i64 (i : Nat)),G⟩ = some (.exit 0,⟨xM2 (.own false k 0 n 1) (.int .i64 (n : Nat)),G.set k (.cells false false (B.take i ++ List.replicate e (.int .u8 201)))⟩) := by
  intro e
  induction e with
  | zero =>
    intro i B G h hB hG
    obtain rfl : i = n := by omega
    rw [List.replicate_zero,List.append_nil,List.take_of_length_le (by omega),xOR hG,xT7]
    simp (maxSteps := 30000000) (disch := first | assumption | omega | (simp only [WL,AV.isCell] <;> omega) | rfl | decide) only [↓reduceIte,WB,xAL,xAb,xAK,xAp,xAo,AV.cells,AV.isCell,xAa,xAd,xAe,xAr,xAs,xAt,xAu,xAv,xAw,xAJ,xAx,xAy,xAj,xAz,xAk,xAl,xAA,xAm,xAn,xAi,Nat.reduceDiv,Nat.reduceMod,WP,xAG,xAC,xA2,xA0,xAZ,xAF,xAI,xAH,W2,xAf,xAg,xAh,Nat.reduceAdd,Nat.reduceSub,Nat.reduceLeDiff,Nat.reduceMul,Int.reduceAdd,Int.reduceSub,Int.reduceMul,Int.reduceLT,Int.reduceLE,Int.reduceEq,Int.reduceToNat,Int.reduceNeg,Nat.reduceEqDiff,Nat.reduceBEq,Nat.reduceLT,List.length_map,xM0,xQm]
  | succ e ih =>
    intro i B G h hB hG
    have hlt : (i : Int) < (n : Nat) := by omega
    have hlt' : i < B.length := by omega
    have hk := xG3 hG
    have ih' := ih (i + 1) (B.set i (.int .u8 201)) (G.set k (.cells false false (B.set i (.int .u8 201)))) (by omega) (by simpa using hB) (List.getElem?_set_self hk)
    have e1 : (B.set i (.int .u8 201)).take (i + 1) ++ List.replicate e (.int .u8 201) = B.take i ++ List.replicate (e + 1) (.int .u8 201) := by
      rw [List.take_add_one,List.getElem?_set_self hlt',List.take_set_of_le (Nat.le_refl _),List.replicate_succ]
      simp
    rw [List.set_set,e1] at ih'
    have e2 : List.take i B ++ (.int .u8 201) :: List.drop (i + 1) B = B.set i (.int .u8 201) := xDt B i (.int .u8 201) hlt'
    rw [xT7]
    simp (maxSteps := 30000000) (disch := first | assumption | omega | (simp only [WL,AV.isCell] <;> omega) | rfl | decide) only [↓reduceIte,WB,xAL,xAb,xAK,xAp,xAo,AV.cells,AV.isCell,xAa,xAd,xAe,xAr,xAs,xAt,xAu,xAv,xAw,xAJ,xAx,xAy,xAj,xAz,xAk,xAl,xAA,xAm,xAn,xAi,Nat.reduceDiv,Nat.reduceMod,WP,xAG,xAC,xA2,xA0,xAZ,xAF,xAI,xAH,W2,xAf,xAg,xAh,Nat.reduceAdd,Nat.reduceSub,Nat.reduceLeDiff,Nat.reduceMul,Int.reduceAdd,Int.reduceSub,Int.reduceMul,Int.reduceLT,Int.reduceLE,Int.reduceEq,Int.reduceToNat,Int.reduceNeg,Nat.reduceEqDiff,Nat.reduceBEq,Nat.reduceLT,List.length_map,xM0,xQm,hlt,hlt',hG,e2,ih']
noncomputable def yAN (a n : Nat) (H : Heap) : Option Blk → Option (AV × Heap)
  | some (.cells false false B) => if B.length = n ∧ n < 1099511627776 then some (.tup [],H.set a (.cells false false (List.replicate n (.int .u8 201)))) else L.icall (.func 26 []) [.own false a 0 n 1] H
  | _ => L.icall (.func 26 []) [.own false a 0 n 1] H
theorem xZv (a n : Nat) (H : Heap) : L.icall (.func 26 []) [.own false a 0 n 1] H = yAN a n H H[a]? := by
  unfold yAN
  split
  · rename_i B hB
    split
    · rename_i hc
      have h := yDV (k := a) hc.2 n 0 B H (by omega) hc.1 hB
      rw [List.take_zero,List.nil_append] at h
      simp only [Int.natCast_zero] at h
      rw [yEg,a26]
      simp (maxSteps := 30000000) (disch := first | assumption | omega | (simp only [WL,AV.isCell] <;> omega) | rfl | decide) only [↓reduceIte,WB,xAL,xAb,xAK,xAp,xAo,AV.cells,AV.isCell,xAa,xAd,xAe,xAr,xAs,xAt,xAu,xAv,xAw,xAJ,xAx,xAy,xAj,xAz,xAk,xAl,xAA,xAm,xAn,xAi,Nat.reduceDiv,Nat.reduceMod,WP,xAG,xAC,xA2,xA0,xAZ,xAF,xAI,xAH,W2,xAf,xAg,xAh,Nat.reduceAdd,Nat.reduceSub,Nat.reduceLeDiff,Nat.reduceMul,Int.reduceAdd,Int.reduceSub,Int.reduceMul,Int.reduceLT,Int.reduceLE,Int.reduceEq,Int.reduceToNat,Int.reduceNeg,Nat.reduceEqDiff,Nat.reduceBEq,Nat.reduceLT,List.length_map,xQm,h]
    · rfl
  · rfl
theorem xB0 {a n : Nat} {H : Heap} {B : List AV} (h : B.length = n) (h2 : n < 1099511627776) : yAN a n H (some (.cells false false B)) = some (.tup [],H.set a (.cells false false (List.replicate n (.int .u8 201)))) := by
  show (if B.length = n ∧ n < 1099511627776 then _ else _) = _
  rw [if_pos ⟨h,h2⟩]
theorem xOS (H : Heap) : L.icall (.func 26 []) [.sl true 0 []] H = some (.tup [],H) := by
  rw [yEg,a26]
  simp (maxSteps := 30000000) (disch := first | assumption | omega | (simp only [WL,AV.isCell] <;> omega) | rfl | decide) only [↓reduceIte,WB,xAL,xAb,xAK,xAp,xAo,AV.cells,AV.isCell,xAa,xAd,xAe,xAr,xAs,xAt,xAu,xAv,xAw,xAJ,xAx,xAy,xAj,xAz,xAk,xAl,xAA,xAm,xAn,xAi,Nat.reduceDiv,Nat.reduceMod,WP,xAG,xAC,xA2,xA0,xAZ,xAF,xAI,xAH,W2,xAf,xAg,xAh,Nat.reduceAdd,Nat.reduceSub,Nat.reduceLeDiff,Nat.reduceMul,Int.reduceAdd,Int.reduceSub,Int.reduceMul,Int.reduceLT,Int.reduceLE,Int.reduceEq,Int.reduceToNat,Int.reduceNeg,Nat.reduceEqDiff,Nat.reduceBEq,Nat.reduceLT,List.length_map,xQm,xT7,xM0]
theorem yDW {k n : Nat} (hn : n < 1099511627776) : ∀ e i B (G : Heap),i + e = n → B.length = n → G[k]? = some (.cells false false B) →
    L.loop xM4 xXo ⟨xM5 (.own false k 0 n 1) (.int .i64 (i : Nat)),G⟩ = some (.exit 0,⟨xM5 (.own false k 0 n 1) (.int .i64 (n : Nat)),G.set k (.cells false false (B.take i ++ List.replicate e (.int .i64 (-77))))⟩) := by
  intro e
  induction e with
  | zero =>
    intro i B G h hB hG
    obtain rfl : i = n := by omega
    rw [List.replicate_zero,List.append_nil,List.take_of_length_le (by omega),xOR hG,xT8]
    simp (maxSteps := 30000000) (disch := first | assumption | omega | (simp only [WL,AV.isCell] <;> omega) | rfl | decide) only [↓reduceIte,WB,xAL,xAb,xAK,xAp,xAo,AV.cells,AV.isCell,xAa,xAd,xAe,xAr,xAs,xAt,xAu,xAv,xAw,xAJ,xAx,xAy,xAj,xAz,xAk,xAl,xAA,xAm,xAn,xAi,Nat.reduceDiv,Nat.reduceMod,WP,xAG,xAC,xA2,xA0,xAZ,xAF,xAI,xAH,W2,xAf,xAg,xAh,Nat.reduceAdd,Nat.reduceSub,Nat.reduceLeDiff,Nat.reduceMul,Int.reduceAdd,Int.reduceSub,Int.reduceMul,Int.reduceLT,Int.reduceLE,Int.reduceEq,Int.reduceToNat,Int.reduceNeg,Nat.reduceEqDiff,Nat.reduceBEq,Nat.reduceLT,List.length_map,xM3,xQn]
  | succ e ih =>
    intro i B G h hB hG
    have hlt : (i : Int) < (n : Nat) := by omega
    have hlt' : i < B.length := by omega
    have hk := xG3 hG
    have ih' := ih (i + 1) (B.set i (.int .i64 (-77))) (G.set k (.cells false false (B.set i (.int .i64 (-77))))) (by omega) (by simpa using hB) (List.getElem?_set_self hk)
    have e1 : (B.set i (.int .i64 (-77))).take (i + 1) ++ List.replicate e (.int .i64 (-77)) = B.take i ++ List.replicate (e + 1) (.int .i64 (-77)) := by
      rw [List.take_add_one,List.getElem?_set_self hlt',List.take_set_of_le (Nat.le_refl _),List.replicate_succ]
      simp
    rw [List.set_set,e1] at ih'
    have e2 : List.take i B ++ (.int .i64 (-77)) :: List.drop (i + 1) B = B.set i (.int .i64 (-77)) := xDt B i (.int .i64 (-77)) hlt'
    rw [xT8]
    simp (maxSteps := 30000000) (disch := first | assumption | omega | (simp only [WL,AV.isCell] <;> omega) | rfl | decide) only [↓reduceIte,WB,xAL,xAb,xAK,xAp,xAo,AV.cells,AV.isCell,xAa,xAd,xAe,xAr,xAs,xAt,xAu,xAv,xAw,xAJ,xAx,xAy,xAj,xAz,xAk,xAl,xAA,xAm,xAn,xAi,Nat.reduceDiv,Nat.reduceMod,WP,xAG,xAC,xA2,xA0,xAZ,xAF,xAI,xAH,W2,xAf,xAg,xAh,Nat.reduceAdd,Nat.reduceSub,Nat.reduceLeDiff,Nat.reduceMul,Int.reduceAdd,Int.reduceSub,Int.reduceMul,Int.reduceLT,Int.reduceLE,Int.reduceEq,Int.reduceToNat,Int.reduceNeg,Nat.reduceEqDiff,Nat.reduceBEq,Nat.reduceLT,List.length_map,xM3,xQn,hlt,hlt',hG,e2,ih']
noncomputable def yAO (a n : Nat) (H : Heap) : Option Blk → Option (AV × Heap)
  | some (.cells false false B) => if B.length = n ∧ n < 1099511627776 then some (.tup [],H.set a (.cells false false (List.replicate n (.int .i64 (-77))))) else L.icall (.func 27 []) [.own false a 0 n 1] H
  | _ => L.icall (.func 27 []) [.own false a 0 n 1] H
theorem yAP (a n : Nat) (H : Heap) : L.icall (.func 27 []) [.own false a 0 n 1] H = yAO a n H H[a]? := by
  unfold yAO
  split
  · rename_i B hB
    split
    · rename_i hc
      have h := yDW (k := a) hc.2 n 0 B H (by omega) hc.1 hB
      rw [List.take_zero,List.nil_append] at h
      simp only [Int.natCast_zero] at h
      rw [yEh,a27]
      simp (maxSteps := 30000000) (disch := first | assumption | omega | (simp only [WL,AV.isCell] <;> omega) | rfl | decide) only [↓reduceIte,WB,xAL,xAb,xAK,xAp,xAo,AV.cells,AV.isCell,xAa,xAd,xAe,xAr,xAs,xAt,xAu,xAv,xAw,xAJ,xAx,xAy,xAj,xAz,xAk,xAl,xAA,xAm,xAn,xAi,Nat.reduceDiv,Nat.reduceMod,WP,xAG,xAC,xA2,xA0,xAZ,xAF,xAI,xAH,W2,xAf,xAg,xAh,Nat.reduceAdd,Nat.reduceSub,Nat.reduceLeDiff,Nat.reduceMul,Int.reduceAdd,Int.reduceSub,Int.reduceMul,Int.reduceLT,Int.reduceLE,Int.reduceEq,Int.reduceToNat,Int.reduceNeg,Nat.reduceEqDiff,Nat.reduceBEq,Nat.reduceLT,List.length_map,xQn,h]
    · rfl
  · rfl
theorem xCw {a n : Nat} {H : Heap} {B : List AV} (h : B.length = n) (h2 : n < 1099511627776) : yAO a n H (some (.cells false false B)) = some (.tup [],H.set a (.cells false false (List.replicate n (.int .i64 (-77))))) := by
  show (if B.length = n ∧ n < 1099511627776 then _ else _) = _
  rw [if_pos ⟨h,h2⟩]
theorem xPI (H : Heap) : L.icall (.func 27 []) [.sl true 0 []] H = some (.tup [],H) := by
  rw [yEh,a27]
  simp (maxSteps := 30000000) (disch := first | assumption | omega | (simp only [WL,AV.isCell] <;> omega) | rfl | decide) only [↓reduceIte,WB,xAL,xAb,xAK,xAp,xAo,AV.cells,AV.isCell,xAa,xAd,xAe,xAr,xAs,xAt,xAu,xAv,xAw,xAJ,xAx,xAy,xAj,xAz,xAk,xAl,xAA,xAm,xAn,xAi,Nat.reduceDiv,Nat.reduceMod,WP,xAG,xAC,xA2,xA0,xAZ,xAF,xAI,xAH,W2,xAf,xAg,xAh,Nat.reduceAdd,Nat.reduceSub,Nat.reduceLeDiff,Nat.reduceMul,Int.reduceAdd,Int.reduceSub,Int.reduceMul,Int.reduceLT,Int.reduceLE,Int.reduceEq,Int.reduceToNat,Int.reduceNeg,Nat.reduceEqDiff,Nat.reduceBEq,Nat.reduceLT,List.length_map,xQn,xT8,xM3]
noncomputable def yAQ (a n b m : Nat) (H : Heap) : Option Blk → Option Blk → Option (AV × Heap)
  | some (.cells false false A),some (.cells false false B) => if A.length = n ∧ B.length = m ∧ a ≠ b ∧ n < 1099511627776 ∧ m < 1099511627776 then some (.tup [],(H.set a (.cells false false (List.replicate n (.int .u8 201)))).set b (.cells false false (List.replicate m (.int .u8 201))) ++ [.cells false false [.own false a 0 n 1,.own false b 0 m 1]]) else L.icall (.func 28 []) [.agg [.own false a 0 n 1,.own false b 0 m 1]] H
  | _,_ => L.icall (.func 28 []) [.agg [.own false a 0 n 1,.own false b 0 m 1]] H
theorem yAR (a n b m : Nat) (H : Heap) : L.icall (.func 28 []) [.agg [.own false a 0 n 1,.own false b 0 m 1]] H = yAQ a n b m H H[a]? H[b]? := by
  unfold yAQ
  split
  · rename_i A B hA hB
    split
    · rename_i hc
      obtain ⟨c1,c2,c3,c4,c5⟩ := hc
      have ha := xG3 hA
      have hb := xG3 hB
      have c3' : b ≠ a := fun e => c3 e.symm
      have g1 := xB0 (a := a) (n := n) (H := H ++ [.cells false false [.own false a 0 n 1,.own false b 0 m 1]]) c1 c4
      have g2 := xB0 (a := b) (n := m) (H := H.set a (.cells false false (List.replicate n (.int .u8 201))) ++ [.cells false false [.own false a 0 n 1,.own false b 0 m 1]]) c2 c5
      rw [yEi,a28]
      simp (maxSteps := 30000000) (disch := first | assumption | omega | (simp only [WL,AV.isCell] <;> omega) | rfl | decide) only [↓reduceIte,WB,xAL,xAb,xAK,xAp,xAo,AV.cells,AV.isCell,xAa,xAd,xAe,xAr,xAs,xAt,xAu,xAv,xAw,xAJ,xAx,xAy,xAj,xAz,xAk,xAl,xAA,xAm,xAn,xAi,Nat.reduceDiv,Nat.reduceMod,WP,xAG,xAC,xA2,xA0,xAZ,xAF,xAI,xAH,W2,xAf,xAg,xAh,Nat.reduceAdd,Nat.reduceSub,Nat.reduceLeDiff,Nat.reduceMul,Int.reduceAdd,Int.reduceSub,Int.reduceMul,Int.reduceLT,Int.reduceLE,Int.reduceEq,Int.reduceToNat,Int.reduceNeg,Nat.reduceEqDiff,Nat.reduceBEq,Nat.reduceLT,List.length_map,xZv,xBz,xB1,xB7,xCg,xCh,xCi,xBA,xB4,hA,hB,g1,g2]
    · rfl
  · rfl
theorem xCx {a n b m : Nat} {H : Heap} {A B : List AV} (h1 : A.length = n) (h2 : B.length = m) (h3 : a ≠ b) (h4 : n < 1099511627776) (h5 : m < 1099511627776) : yAQ a n b m H (some (.cells false false A)) (some (.cells false false B)) = some (.tup [],(H.set a (.cells false false (List.replicate n (.int .u8 201)))).set b (.cells false false (List.replicate m (.int .u8 201))) ++ [.cells false false [.own false a 0 n 1,.own false b 0 m 1]]) := by
  show (if A.length = n ∧ B.length = m ∧ a ≠ b ∧ n < 1099511627776 ∧ m < 1099511627776 then _ else _) = _
  rw [if_pos ⟨h1,h2,h3,h4,h5⟩]
theorem xPJ (H : Heap) : L.icall (.func 28 []) [xCE] H = some (.tup [],H ++ [.cells false false [.sl true 0 [],.sl true 0 []]]) := by
  have h := xOS (H ++ [.cells false false [.sl true 0 [],.sl true 0 []]])
  rw [yEi,a28]
  simp (maxSteps := 30000000) (disch := first | assumption | omega | (simp only [WL,AV.isCell] <;> omega) | rfl | decide) only [↓reduceIte,WB,xAL,xAb,xAK,xAp,xAo,AV.cells,AV.isCell,xAa,xAd,xAe,xAr,xAs,xAt,xAu,xAv,xAw,xAJ,xAx,xAy,xAj,xAz,xAk,xAl,xAA,xAm,xAn,xAi,Nat.reduceDiv,Nat.reduceMod,WP,xAG,xAC,xA2,xA0,xAZ,xAF,xAI,xAH,W2,xAf,xAg,xAh,Nat.reduceAdd,Nat.reduceSub,Nat.reduceLeDiff,Nat.reduceMul,Int.reduceAdd,Int.reduceSub,Int.reduceMul,Int.reduceLT,Int.reduceLE,Int.reduceEq,Int.reduceToNat,Int.reduceNeg,Nat.reduceEqDiff,Nat.reduceBEq,Nat.reduceLT,List.length_map,h]
end Go.Abs.Mealy
/- Letters and Is on equal data. -/
namespace Go.Abs.Mealy
set_option linter.unusedVariables false
set_option linter.unusedSimpArgs false
open Go Go.Abs
theorem xGN {z1 z2 : Bool} {p : List Nat} {s4 : AV} {H : Heap} (hp : p.length < 9223372036854775807) : ∀ d i,i + d = p.length →
    L.loop xNk xXx ⟨xNl (xBf z1 p) (xBf z2 p) s4 (.int .i64 (i : Nat)),H⟩ = some (.exit 0,⟨xNl (xBf z1 p) (xBf z2 p) s4 (.int .i64 (p.length : Nat)),H⟩)
  | 0,i,h => by
    obtain rfl : i = p.length := by omega
    rw [xYD]
    simp (maxSteps := 30000000) (disch := first | assumption | omega | (simp only [WL,AV.isCell] <;> omega) | rfl | decide) only [↓reduceIte,WB,xAL,xAb,xAK,xAp,xAo,AV.cells,AV.isCell,xAa,xAd,xAe,xAr,xAs,xAt,xAu,xAv,xAw,xAJ,xAx,xAy,xAj,xAz,xAk,xAl,xAA,xAm,xAn,xAi,Nat.reduceDiv,Nat.reduceMod,WP,xAG,xAC,xA2,xA0,xAZ,xAF,xAI,xAH,Nat.reduceAdd,Nat.reduceSub,Nat.reduceLeDiff,Nat.reduceMul,Int.reduceAdd,Int.reduceSub,Int.reduceMul,Int.reduceLT,Int.reduceLE,Int.reduceEq,Int.reduceToNat,Int.reduceNeg,Nat.reduceEqDiff,Nat.reduceBEq,Nat.reduceLT,xQu,xUf]
  | d + 1,i,h => by
    have ih := xGN (z1 := z1) (z2 := z2) (s4 := s4) (H := H) hp d (i + 1) (by omega)
    have hlt : (i : Int) < (p.length : Nat) := by omega
    rw [xYD]
    simp (maxSteps := 30000000) (disch := first | assumption | omega | (simp only [WL,AV.isCell] <;> omega) | rfl | decide) only [↓reduceIte,WB,xAL,xAb,xAK,xAp,xAo,AV.cells,AV.isCell,xAa,xAd,xAe,xAr,xAs,xAt,xAu,xAv,xAw,xAJ,xAx,xAy,xAj,xAz,xAk,xAl,xAA,xAm,xAn,xAi,Nat.reduceDiv,Nat.reduceMod,WP,xAG,xAC,xA2,xA0,xAZ,xAF,xAI,xAH,Nat.reduceAdd,Nat.reduceSub,Nat.reduceLeDiff,Nat.reduceMul,Int.reduceAdd,Int.reduceSub,Int.reduceMul,Int.reduceLT,Int.reduceLE,Int.reduceEq,Int.reduceToNat,Int.reduceNeg,Nat.reduceEqDiff,Nat.reduceBEq,Nat.reduceLT,xQu,xUf,hlt,ih]
theorem xGO (z1 z2 : Bool) (p : List Nat) (hp : p.length < 9223372036854775807) : L.pcall 65 [xBf z1 p,xBf z2 p] = some (.bool true) := by
  have hl := fun s4 H => xGN (z1 := z1) (z2 := z2) (s4 := s4) (H := H) hp p.length 0 (by omega)
  simp only [Int.natCast_zero] at hl
  rw [yEZ,a65,xAB]
  simp (maxSteps := 30000000) (disch := first | assumption | omega | (simp only [WL,AV.isCell] <;> omega) | rfl | decide) only [↓reduceIte,WB,xAL,xAb,xAK,xAp,xAo,AV.cells,AV.isCell,xAa,xAd,xAe,xAr,xAs,xAt,xAu,xAv,xAw,xAJ,xAx,xAy,xAj,xAz,xAk,xAl,xAA,xAm,xAn,xAi,Nat.reduceDiv,Nat.reduceMod,WP,xAG,xAC,xA2,xA0,xAZ,xAF,xAI,xAH,Nat.reduceAdd,Nat.reduceSub,Nat.reduceLeDiff,Nat.reduceMul,Int.reduceAdd,Int.reduceSub,Int.reduceMul,Int.reduceLT,Int.reduceLE,Int.reduceEq,Int.reduceToNat,Int.reduceNeg,Nat.reduceEqDiff,Nat.reduceBEq,Nat.reduceLT,xUf,hl]
theorem xEP (z1 z2 z3 z4 : Bool) (p q : List Nat) (hp : p.length < 9223372036854775807) (hq : q.length < 9223372036854775807) : L.pcall 25 [las z1 z2 p q,las z3 z4 p q] = some (.bool true) := by
  have h1 := xGO z1 z3 p hp
  have h2 := xGO z2 z4 q hq
  rw [yEF,a25,xAB]
  simp (maxSteps := 30000000) (disch := first | assumption | omega | (simp only [WL,AV.isCell] <;> omega) | rfl | decide) only [↓reduceIte,WB,xAL,xAb,xAK,xAp,xAo,AV.cells,AV.isCell,xAa,xAd,xAe,xAr,xAs,xAt,xAu,xAv,xAw,xAJ,xAx,xAy,xAj,xAz,xAk,xAl,xAA,xAm,xAn,xAi,Nat.reduceDiv,Nat.reduceMod,WP,xAG,xAC,xA2,xA0,xAZ,xAF,xAI,xAH,Nat.reduceAdd,Nat.reduceSub,Nat.reduceLeDiff,Nat.reduceMul,Int.reduceAdd,Int.reduceSub,Int.reduceMul,Int.reduceLT,Int.reduceLE,Int.reduceEq,Int.reduceToNat,Int.reduceNeg,Nat.reduceEqDiff,Nat.reduceBEq,Nat.reduceLT,h1,h2]
end Go.Abs.Mealy
/- A lasso's size. -/
namespace Go.Abs.Mealy
set_option linter.unusedVariables false
set_option linter.unusedSimpArgs false
open Go Go.Abs
set_option maxHeartbeats 2000000 in
theorem xOT (z1 z2 : Bool) (p q : List Nat) : L.pcall 12 [.sl false 1 [xBf z1 p,xBf z2 q]] = some (.bool (decide (70 < p.length ∨ 70 < q.length))) := by
  have e1 : ((70 : Int) < (p.length : Nat)) = (70 < p.length) := propext ⟨fun h => by omega,fun h => by omega⟩
  have e2 : ((70 : Int) < (q.length : Nat)) = (70 < q.length) := propext ⟨fun h => by omega,fun h => by omega⟩
  rw [yEB,a12,xAB]
  by_cases h1 : 70 < p.length <;> by_cases h2 : 70 < q.length <;> simp (maxSteps := 30000000) (disch := first | assumption | omega | (simp only [WL,AV.isCell] <;> omega) | rfl | decide) only [↓reduceIte,WB,xAL,xAb,xAK,xAp,xAo,AV.cells,AV.isCell,xAa,xAd,xAe,xAr,xAs,xAt,xAu,xAv,xAw,xAJ,xAx,xAy,xAj,xAz,xAk,xAl,xAA,xAm,xAn,xAi,Nat.reduceDiv,Nat.reduceMod,WP,xAG,xAC,xA2,xA0,xAZ,xAF,xAI,xAH,Nat.reduceAdd,Nat.reduceSub,Nat.reduceLeDiff,Nat.reduceMul,Int.reduceAdd,Int.reduceSub,Int.reduceMul,Int.reduceLT,Int.reduceLE,Int.reduceEq,Int.reduceToNat,Int.reduceNeg,Nat.reduceEqDiff,Nat.reduceBEq,Nat.reduceLT,yBu,yBv,xTY,e1,e2,h1,h2,or_true,true_or,or_self,or_false,false_or]
abbrev TMa : TS := ⟨true,[.int .i64,.int .i64,.int .i64,.sl [.sl [.int .i64]],.sl [.sl [.int .u8]]]⟩
abbrev yDX : TS := ⟨true,[.sl [.int .u8],.sl [.int .u8]]⟩
abbrev yCI : TS := ⟨false,[.sl [.int .u8]]⟩
theorem xFD {α : Type} {f : α → AV} {P : α → Prop} : ∀ (cs : List AV),(∀ x ∈ cs,∃ a,x = f a ∧ P a) → ∃ l : List α,cs = l.map f ∧ ∀ a ∈ l,P a
  | [],_ => ⟨[],rfl,by simp⟩
  | c :: cs,h => by
    obtain ⟨a,rfl,ha⟩ := h c (by simp)
    obtain ⟨l,rfl,hl⟩ := xFD cs (fun x hx => h x (by simp [hx]))
    exact ⟨a :: l,rfl,by simpa using ⟨ha,hl⟩⟩
theorem yCJ {a : AV} (h : Fit (.sl [.int .i64]) a) : ∃ r,a = rwV r ∧ (r.z = true → r.l = []) := by
  obtain ⟨z,cs,rfl,hz,_,hf⟩ := xLS h
  obtain ⟨l,rfl,_⟩ := xFD (f := fun n : Int => AV.int .i64 n) (P := fun _ => True) cs (fun x hx => by obtain ⟨n,rfl,_⟩ := xLR (hf x hx); exact ⟨n,rfl,trivial⟩)
  exact ⟨⟨z,l⟩,by simp [rwV,xCe],by simpa using hz⟩
theorem xRM {a : AV} (h : Fit (.sl [.int .u8]) a) : ∃ w : Wd,a = wdV w ∧ (w.z = true → w.l = []) ∧ ∀ x ∈ w.l,x < 256 := by
  obtain ⟨z,cs,rfl,hz,_,hf⟩ := xLS h
  obtain ⟨l,rfl,hl⟩ := xFD (f := fun n : Nat => AV.int .u8 n) (P := fun n => n < 256) cs (fun x hx => by obtain ⟨n,rfl,h⟩ := yCO (hf x hx); exact ⟨n,rfl,h⟩)
  exact ⟨⟨z,l⟩,by simp [wdV,bs],by simpa using hz,hl⟩
structure In (m : Mf) : Prop where
  i : -9223372036854775808 ≤ m.i ∧ m.i < 9223372036854775808
  o : -9223372036854775808 ≤ m.o ∧ m.o < 9223372036854775808
  s : -9223372036854775808 ≤ m.s ∧ m.s < 9223372036854775808
  cn : Cn m
  nl : m.next.length ≤ 9223372036854775807
  b : ∀ w ∈ m.emit,∀ x ∈ w.l,x < 256
theorem yCK {a : AV} (h : xS7 TMa a) : ∃ m : Mf,a = m.av ∧ In m := by
  obtain ⟨cs,rfl,h'⟩ := xOV h
  obtain ⟨a1,cs,rfl,h1,h'⟩ := xB9 h'
  obtain ⟨a2,cs,rfl,h2,h'⟩ := xB9 h'
  obtain ⟨a3,cs,rfl,h3,h'⟩ := xB9 h'
  obtain ⟨a4,cs,rfl,h4,h'⟩ := xB9 h'
  obtain ⟨a5,cs,rfl,h5,h'⟩ := xB9 h'
  obtain rfl := xK5 h'
  obtain ⟨i,rfl,b1⟩ := xLR h1
  obtain ⟨o,rfl,b2⟩ := xLR h2
  obtain ⟨s,rfl,b3⟩ := xLR h3
  obtain ⟨z,c4,rfl,z4,q4,hf⟩ := xLS h4
  obtain ⟨nx,rfl,p4⟩ := xFD (f := rwV) (P := fun r => r.z = true → r.l = []) c4 (fun x hx => yCJ (hf x hx))
  obtain ⟨ze,c5,rfl,z5,_,hf5⟩ := xLS h5
  obtain ⟨emi,rfl,p5⟩ := xFD (f := wdV) (P := fun r => (r.z = true → r.l = []) ∧ ∀ x ∈ r.l,x < 256) c5 (fun x hx => xRM (hf5 x hx))
  exact ⟨⟨i,o,s,z,nx,ze,emi⟩,by simp [Mf.av,Mf.cells],⟨⟨b1.1,Int.lt_of_le_of_lt b1.2 (by decide)⟩,⟨b2.1,Int.lt_of_le_of_lt b2.2 (by decide)⟩,⟨b3.1,Int.lt_of_le_of_lt b3.2 (by decide)⟩,⟨by simpa using z4,by simpa using z5,p4,fun w hw => (p5 w hw).1⟩,by simpa [maxLen] using q4,fun w hw => (p5 w hw).2⟩⟩
theorem yAS {a : AV} (h : xS7 yDX a) : ∃ z1 z2 p q,a = las z1 z2 p q ∧ (z1 = true → p = []) ∧ (z2 = true → q = []) ∧ (∀ x ∈ p,x < 256) ∧ ∀ x ∈ q,x < 256 := by
  obtain ⟨cs,rfl,h'⟩ := xOV h
  obtain ⟨a1,cs,rfl,h1,h'⟩ := xB9 h'
  obtain ⟨a2,cs,rfl,h2,h'⟩ := xB9 h'
  obtain rfl := xK5 h'
  obtain ⟨p,rfl,x1,y1⟩ := xRM h1
  obtain ⟨q,rfl,x2,y2⟩ := xRM h2
  exact ⟨p.z,q.z,p.l,q.l,rfl,x1,x2,y1,y2⟩
def xI1 (l : List Rw) : Bool := l.any fun r => decide (66 < r.l.length)
def xI2 (l : List Wd) : Bool := l.any fun r => decide (66 < r.l.length)
def xFE (m : Mf) : Bool := decide (14 < m.next.length ∨ 16 < m.emit.length) || xI1 m.next || xI2 m.emit
section
variable {cs : List AV} {nm k : Nat} {m : Mf} {s3 s4 s5 : AV} {H : Heap}
theorem yCL (hk : k < nm) (hcs : cs.length = nm * 5) (h3 : List.take 1 (List.drop (k * 5 + 3) cs) = [.sl m.z m.next.length (m.next.map rwV)]) (hn : m.next.length ≤ 14) (hnm : nm < 100) : ∀ e i,i + e = m.next.length →
    ∃ j : Nat,L.loop xMK xXe ⟨xJr (.sl false nm cs) (.bool false) (.int .i64 (k : Nat)) (.int .i64 (i : Nat)),H⟩ =
      some (if xI1 (m.next.drop i) = true then (.ret,⟨xJr (.sl false nm cs) (.bool true) (.int .i64 (k : Nat)) (.int .i64 (j : Nat)),H⟩)
        else (.exit 2,⟨xJr (.sl false nm cs) (.bool false) (.int .i64 (k : Nat)) (.int .i64 (m.next.length : Nat)),H⟩)) := by
  intro e
  induction e with
  | zero =>
    intro i h
    obtain rfl : i = m.next.length := by omega
    refine ⟨0,?_⟩
    rw [if_neg (by rw [List.drop_length]; simp [xI1]),xTW]
    simp (maxSteps := 30000000) (disch := first | assumption | omega | (simp only [WL,AV.isCell] <;> omega) | rfl | decide) only [↓reduceIte,WB,xAL,xAb,xAK,xAp,xAo,AV.cells,AV.isCell,xAa,xAd,xAe,W2,xAf,xAg,xAh,Nat.reduceAdd,Nat.reduceSub,Nat.reduceLeDiff,Nat.reduceMul,Int.reduceAdd,Int.reduceSub,Int.reduceMul,Int.reduceLT,Int.reduceLE,Int.reduceEq,Int.reduceToNat,Int.reduceNeg,Nat.reduceEqDiff,Nat.reduceBEq,Nat.reduceLT,xAQ,xAR,List.length_map,xJq,xGs,h3]
  | succ e ih =>
    intro i h
    have hlt : (i : Int) < (m.next.length : Nat) := by omega
    obtain ⟨j,ih'⟩ := ih (i + 1) (by omega)
    have hrv : rwV (m.next.getD i r0) = .sl (m.next.getD i r0).z (m.next.getD i r0).l.length (xCe (m.next.getD i r0).l) := rfl
    rw [xBb (a := r0) (by omega : i < m.next.length)]
    have et : ∀ t,xI1 (m.next.getD i r0 :: t) = (decide (66 < (m.next.getD i r0).l.length) || xI1 t) := fun _ => rfl
    rw [et]
    by_cases c : 66 < (m.next.getD i r0).l.length
    · have c' : (66 : Int) < ((m.next.getD i r0).l.length : Nat) := by omega
      refine ⟨i,?_⟩
      rw [decide_eq_true c,Bool.true_or,if_pos rfl,xTW]
      simp (maxSteps := 30000000) (disch := first | assumption | omega | (simp only [WL,AV.isCell] <;> omega) | rfl | decide) only [↓reduceIte,WB,xAL,xAb,xAK,xAp,xAo,AV.cells,AV.isCell,xAa,xAd,xAe,W2,xAf,xAg,xAh,Nat.reduceAdd,Nat.reduceSub,Nat.reduceLeDiff,Nat.reduceMul,Int.reduceAdd,Int.reduceSub,Int.reduceMul,Int.reduceLT,Int.reduceLE,Int.reduceEq,Int.reduceToNat,Int.reduceNeg,Nat.reduceEqDiff,Nat.reduceBEq,Nat.reduceLT,xAQ,xAR,List.length_map,xJq,xGs,h3,hlt,hrv,c']
    · have c' : ¬ (66 : Int) < ((m.next.getD i r0).l.length : Nat) := by omega
      refine ⟨j,?_⟩
      rw [decide_eq_false c,Bool.false_or,xTW]
      by_cases e : xI1 (m.next.drop (i + 1)) = true
      · rw [if_pos e] at ih' ⊢
        simp (maxSteps := 30000000) (disch := first | assumption | omega | (simp only [WL,AV.isCell] <;> omega) | rfl | decide) only [↓reduceIte,WB,xAL,xAb,xAK,xAp,xAo,AV.cells,AV.isCell,xAa,xAd,xAe,W2,xAf,xAg,xAh,Nat.reduceAdd,Nat.reduceSub,Nat.reduceLeDiff,Nat.reduceMul,Int.reduceAdd,Int.reduceSub,Int.reduceMul,Int.reduceLT,Int.reduceLE,Int.reduceEq,Int.reduceToNat,Int.reduceNeg,Nat.reduceEqDiff,Nat.reduceBEq,Nat.reduceLT,xAQ,xAR,List.length_map,xJq,xGs,h3,hlt,hrv,c',ih']
      · rw [if_neg e] at ih' ⊢
        simp (maxSteps := 30000000) (disch := first | assumption | omega | (simp only [WL,AV.isCell] <;> omega) | rfl | decide) only [↓reduceIte,WB,xAL,xAb,xAK,xAp,xAo,AV.cells,AV.isCell,xAa,xAd,xAe,W2,xAf,xAg,xAh,Nat.reduceAdd,Nat.reduceSub,Nat.reduceLeDiff,Nat.reduceMul,Int.reduceAdd,Int.reduceSub,Int.reduceMul,Int.reduceLT,Int.reduceLE,Int.reduceEq,Int.reduceToNat,Int.reduceNeg,Nat.reduceEqDiff,Nat.reduceBEq,Nat.reduceLT,xAQ,xAR,List.length_map,xJq,xGs,h3,hlt,hrv,c',ih']
theorem yCM (hk : k < nm) (hcs : cs.length = nm * 5) (h3 : List.take 1 (List.drop (k * 5 + 4) cs) = [.sl m.ze m.emit.length (m.emit.map wdV)]) (hn : m.emit.length ≤ 16) (hnm : nm < 100) : ∀ e i,i + e = m.emit.length →
    ∃ j : Nat,L.loop xML xXf ⟨xJt (.sl false nm cs) (.bool false) (.int .i64 (k : Nat)) (.int .i64 (i : Nat)),H⟩ =
      some (if xI2 (m.emit.drop i) = true then (.ret,⟨xJt (.sl false nm cs) (.bool true) (.int .i64 (k : Nat)) (.int .i64 (j : Nat)),H⟩)
        else (.exit 4,⟨xJt (.sl false nm cs) (.bool false) (.int .i64 (k : Nat)) (.int .i64 (m.emit.length : Nat)),H⟩)) := by
  intro e
  induction e with
  | zero =>
    intro i h
    obtain rfl : i = m.emit.length := by omega
    refine ⟨0,?_⟩
    rw [if_neg (by rw [List.drop_length]; simp [xI2]),xTX]
    simp (maxSteps := 30000000) (disch := first | assumption | omega | (simp only [WL,AV.isCell] <;> omega) | rfl | decide) only [↓reduceIte,WB,xAL,xAb,xAK,xAp,xAo,AV.cells,AV.isCell,xAa,xAd,xAe,W2,xAf,xAg,xAh,Nat.reduceAdd,Nat.reduceSub,Nat.reduceLeDiff,Nat.reduceMul,Int.reduceAdd,Int.reduceSub,Int.reduceMul,Int.reduceLT,Int.reduceLE,Int.reduceEq,Int.reduceToNat,Int.reduceNeg,Nat.reduceEqDiff,Nat.reduceBEq,Nat.reduceLT,xAQ,xAR,List.length_map,xJs,xHG,h3]
  | succ e ih =>
    intro i h
    have hlt : (i : Int) < (m.emit.length : Nat) := by omega
    obtain ⟨j,ih'⟩ := ih (i + 1) (by omega)
    have hrv : wdV (m.emit.getD i w0) = .sl (m.emit.getD i w0).z (m.emit.getD i w0).l.length (bs (m.emit.getD i w0).l) := rfl
    rw [xBb (a := w0) (by omega : i < m.emit.length)]
    have et : ∀ t,xI2 (m.emit.getD i w0 :: t) = (decide (66 < (m.emit.getD i w0).l.length) || xI2 t) := fun _ => rfl
    rw [et]
    by_cases c : 66 < (m.emit.getD i w0).l.length
    · have c' : (66 : Int) < ((m.emit.getD i w0).l.length : Nat) := by omega
      refine ⟨i,?_⟩
      rw [decide_eq_true c,Bool.true_or,if_pos rfl,xTX]
      simp (maxSteps := 30000000) (disch := first | assumption | omega | (simp only [WL,AV.isCell] <;> omega) | rfl | decide) only [↓reduceIte,WB,xAL,xAb,xAK,xAp,xAo,AV.cells,AV.isCell,xAa,xAd,xAe,W2,xAf,xAg,xAh,Nat.reduceAdd,Nat.reduceSub,Nat.reduceLeDiff,Nat.reduceMul,Int.reduceAdd,Int.reduceSub,Int.reduceMul,Int.reduceLT,Int.reduceLE,Int.reduceEq,Int.reduceToNat,Int.reduceNeg,Nat.reduceEqDiff,Nat.reduceBEq,Nat.reduceLT,xAQ,xAR,List.length_map,xJs,xHG,h3,hlt,hrv,c']
    · have c' : ¬ (66 : Int) < ((m.emit.getD i w0).l.length : Nat) := by omega
      refine ⟨j,?_⟩
      rw [decide_eq_false c,Bool.false_or,xTX]
      by_cases e : xI2 (m.emit.drop (i + 1)) = true
      · rw [if_pos e] at ih' ⊢
        simp (maxSteps := 30000000) (disch := first | assumption | omega | (simp only [WL,AV.isCell] <;> omega) | rfl | decide) only [↓reduceIte,WB,xAL,xAb,xAK,xAp,xAo,AV.cells,AV.isCell,xAa,xAd,xAe,W2,xAf,xAg,xAh,Nat.reduceAdd,Nat.reduceSub,Nat.reduceLeDiff,Nat.reduceMul,Int.reduceAdd,Int.reduceSub,Int.reduceMul,Int.reduceLT,Int.reduceLE,Int.reduceEq,Int.reduceToNat,Int.reduceNeg,Nat.reduceEqDiff,Nat.reduceBEq,Nat.reduceLT,xAQ,xAR,List.length_map,xJs,xHG,h3,hlt,hrv,c',ih']
      · rw [if_neg e] at ih' ⊢
        simp (maxSteps := 30000000) (disch := first | assumption | omega | (simp only [WL,AV.isCell] <;> omega) | rfl | decide) only [↓reduceIte,WB,xAL,xAb,xAK,xAp,xAo,AV.cells,AV.isCell,xAa,xAd,xAe,W2,xAf,xAg,xAh,Nat.reduceAdd,Nat.reduceSub,Nat.reduceLeDiff,Nat.reduceMul,Int.reduceAdd,Int.reduceSub,Int.reduceMul,Int.reduceLT,Int.reduceLE,Int.reduceEq,Int.reduceToNat,Int.reduceNeg,Nat.reduceEqDiff,Nat.reduceBEq,Nat.reduceLT,xAQ,xAR,List.length_map,xJs,xHG,h3,hlt,hrv,c',ih']
end
def xDP (ms : List Mf) : List AV := rows Mf.cells ms
theorem xLQ (l : List Mf) : (xDP l).length = l.length * 5 := xPQ (enc := Mf.cells) (k := 5) (fun _ => rfl) l
def m0 : Mf := ⟨0,0,0,true,[],true,[]⟩
theorem xOU {l : List Mf} {i : Nat} (h : i < l.length) : List.drop (i * 5) (xDP l) = (l.getD i m0).cells ++ xDP (l.drop (i + 1)) := by
  unfold xDP
  rw [xO1 (enc := Mf.cells) (k := 5) (fun _ => rfl),xBb (a := m0) h]
  rfl
theorem xYa {l : List Mf} {i : Nat} (h : i < l.length) : List.take 1 (List.drop (i * 5 + 3) (xDP l)) = [.sl (l.getD i m0).z (l.getD i m0).next.length ((l.getD i m0).next.map rwV)] := by
  rw [← List.drop_drop,xOU h]; rfl
theorem xYb {l : List Mf} {i : Nat} (h : i < l.length) : List.take 1 (List.drop (i * 5 + 4) (xDP l)) = [.sl (l.getD i m0).ze (l.getD i m0).emit.length ((l.getD i m0).emit.map wdV)] := by
  rw [← List.drop_drop,xOU h]; rfl
theorem yAT {ms : List Mf} {H : Heap} (hm : ms.length < 100) : ∀ e i,i + e = ms.length →
    ∃ j : Nat,L.loop xMM xXg ⟨xJu (.sl false ms.length (xDP ms)) (.bool false) (.int .i64 (i : Nat)),H⟩ =
      some (if (ms.drop i).any xFE = true then (.ret,⟨xJu (.sl false ms.length (xDP ms)) (.bool true) (.int .i64 (j : Nat)),H⟩)
        else (.exit 0,⟨xJu (.sl false ms.length (xDP ms)) (.bool false) (.int .i64 (ms.length : Nat)),H⟩)) := by
  have hcl := xLQ ms
  intro e
  induction e with
  | zero =>
    intro i h
    obtain rfl : i = ms.length := by omega
    refine ⟨0,?_⟩
    rw [if_neg (by rw [List.drop_length]; simp),xJv]
    simp (maxSteps := 30000000) (disch := first | assumption | omega | (simp only [WL,AV.isCell] <;> omega) | rfl | decide) only [↓reduceIte,WB,xAL,xAb,xAK,xAp,xAo,AV.cells,AV.isCell,xAa,xAd,xAe,W2,xAf,xAg,xAh,Nat.reduceAdd,Nat.reduceSub,Nat.reduceLeDiff,Nat.reduceMul,Int.reduceAdd,Int.reduceSub,Int.reduceMul,Int.reduceLT,Int.reduceLE,Int.reduceEq,Int.reduceToNat,Int.reduceNeg,Nat.reduceEqDiff,Nat.reduceBEq,Nat.reduceLT,xAQ,xAR,List.length_map,xFf,xFg]
  | succ e ih =>
    intro i h
    have hlt : (i : Int) < (ms.length : Nat) := by omega
    obtain ⟨j,ih'⟩ := ih (i + 1) (by omega)
    have h3 := xYa (l := ms) (i := i) (by omega)
    have h4 := xYb (l := ms) (i := i) (by omega)
    rw [xBb (a := m0) (by omega : i < ms.length),List.any_cons]
    generalize hM : ms.getD i m0 = m at *
    by_cases c1 : 14 < m.next.length
    · have e0 : xFE m = true := by simp [xFE,c1]
      have c1' : (14 : Int) < (m.next.length : Nat) := by omega
      refine ⟨i,?_⟩
      rw [e0,Bool.true_or,if_pos rfl,xJv]
      simp (maxSteps := 30000000) (disch := first | assumption | omega | (simp only [WL,AV.isCell] <;> omega) | rfl | decide) only [↓reduceIte,WB,xAL,xAb,xAK,xAp,xAo,AV.cells,AV.isCell,xAa,xAd,xAe,W2,xAf,xAg,xAh,Nat.reduceAdd,Nat.reduceSub,Nat.reduceLeDiff,Nat.reduceMul,Int.reduceAdd,Int.reduceSub,Int.reduceMul,Int.reduceLT,Int.reduceLE,Int.reduceEq,Int.reduceToNat,Int.reduceNeg,Nat.reduceEqDiff,Nat.reduceBEq,Nat.reduceLT,xAQ,xAR,List.length_map,xFf,xFg,hcl,h3,h4,hlt,c1']
    have c1' : ¬ (14 : Int) < (m.next.length : Nat) := by omega
    by_cases c2 : 16 < m.emit.length
    · have e0 : xFE m = true := by simp [xFE,c2]
      have c2' : (16 : Int) < (m.emit.length : Nat) := by omega
      refine ⟨i,?_⟩
      rw [e0,Bool.true_or,if_pos rfl,xJv]
      simp (maxSteps := 30000000) (disch := first | assumption | omega | (simp only [WL,AV.isCell] <;> omega) | rfl | decide) only [↓reduceIte,WB,xAL,xAb,xAK,xAp,xAo,AV.cells,AV.isCell,xAa,xAd,xAe,W2,xAf,xAg,xAh,Nat.reduceAdd,Nat.reduceSub,Nat.reduceLeDiff,Nat.reduceMul,Int.reduceAdd,Int.reduceSub,Int.reduceMul,Int.reduceLT,Int.reduceLE,Int.reduceEq,Int.reduceToNat,Int.reduceNeg,Nat.reduceEqDiff,Nat.reduceBEq,Nat.reduceLT,xAQ,xAR,List.length_map,xFf,xFg,hcl,h3,h4,hlt,c1',c2']
    have c2' : ¬ (16 : Int) < (m.emit.length : Nat) := by omega
    obtain ⟨j1,hr⟩ := yCL (H := H) (k := i) (nm := ms.length) (m := m) (by omega) hcl h3 (by omega) hm _ 0 (Nat.zero_add _)
    obtain ⟨j2,hw⟩ := yCM (H := H) (k := i) (nm := ms.length) (m := m) (by omega) hcl h4 (by omega) hm _ 0 (Nat.zero_add _)
    simp only [Int.natCast_zero,List.drop_zero] at hr hw
    have eM : xFE m = (xI1 m.next || xI2 m.emit) := by simp [xFE,c1,c2]
    rw [eM]
    by_cases c3 : xI1 m.next = true
    · rw [if_pos c3] at hr
      refine ⟨i,?_⟩
      rw [c3,Bool.true_or,Bool.true_or,if_pos rfl,xJv]
      simp (maxSteps := 30000000) (disch := first | assumption | omega | (simp only [WL,AV.isCell] <;> omega) | rfl | decide) only [↓reduceIte,WB,xAL,xAb,xAK,xAp,xAo,AV.cells,AV.isCell,xAa,xAd,xAe,W2,xAf,xAg,xAh,Nat.reduceAdd,Nat.reduceSub,Nat.reduceLeDiff,Nat.reduceMul,Int.reduceAdd,Int.reduceSub,Int.reduceMul,Int.reduceLT,Int.reduceLE,Int.reduceEq,Int.reduceToNat,Int.reduceNeg,Nat.reduceEqDiff,Nat.reduceBEq,Nat.reduceLT,xAQ,xAR,List.length_map,xFf,xFg,xGs,hcl,h3,h4,hlt,c1',c2',hr]
    rw [if_neg c3] at hr
    by_cases c4 : xI2 m.emit = true
    · rw [if_pos c4] at hw
      refine ⟨i,?_⟩
      rw [c4,Bool.or_true,Bool.true_or,if_pos rfl,xJv]
      simp (maxSteps := 30000000) (disch := first | assumption | omega | (simp only [WL,AV.isCell] <;> omega) | rfl | decide) only [↓reduceIte,WB,xAL,xAb,xAK,xAp,xAo,AV.cells,AV.isCell,xAa,xAd,xAe,W2,xAf,xAg,xAh,Nat.reduceAdd,Nat.reduceSub,Nat.reduceLeDiff,Nat.reduceMul,Int.reduceAdd,Int.reduceSub,Int.reduceMul,Int.reduceLT,Int.reduceLE,Int.reduceEq,Int.reduceToNat,Int.reduceNeg,Nat.reduceEqDiff,Nat.reduceBEq,Nat.reduceLT,xAQ,xAR,List.length_map,xFf,xFg,xGs,xHG,hcl,h3,h4,hlt,c1',c2',hr,hw]
    rw [if_neg c4] at hw
    have c3' : xI1 m.next = false := by simpa using c3
    have c4' : xI2 m.emit = false := by simpa using c4
    refine ⟨j,?_⟩
    rw [c3',c4',Bool.false_or,Bool.false_or,xJv]
    by_cases e : (ms.drop (i + 1)).any xFE = true
    · rw [if_pos e] at ih' ⊢
      simp (maxSteps := 30000000) (disch := first | assumption | omega | (simp only [WL,AV.isCell] <;> omega) | rfl | decide) only [↓reduceIte,WB,xAL,xAb,xAK,xAp,xAo,AV.cells,AV.isCell,xAa,xAd,xAe,W2,xAf,xAg,xAh,Nat.reduceAdd,Nat.reduceSub,Nat.reduceLeDiff,Nat.reduceMul,Int.reduceAdd,Int.reduceSub,Int.reduceMul,Int.reduceLT,Int.reduceLE,Int.reduceEq,Int.reduceToNat,Int.reduceNeg,Nat.reduceEqDiff,Nat.reduceBEq,Nat.reduceLT,xAQ,xAR,List.length_map,xFf,xFg,xGs,xHG,hcl,h3,h4,hlt,c1',c2',hr,hw,ih']
    · rw [if_neg e] at ih' ⊢
      simp (maxSteps := 30000000) (disch := first | assumption | omega | (simp only [WL,AV.isCell] <;> omega) | rfl | decide) only [↓reduceIte,WB,xAL,xAb,xAK,xAp,xAo,AV.cells,AV.isCell,xAa,xAd,xAe,W2,xAf,xAg,xAh,Nat.reduceAdd,Nat.reduceSub,Nat.reduceLeDiff,Nat.reduceMul,Int.reduceAdd,Int.reduceSub,Int.reduceMul,Int.reduceLT,Int.reduceLE,Int.reduceEq,Int.reduceToNat,Int.reduceNeg,Nat.reduceEqDiff,Nat.reduceBEq,Nat.reduceLT,xAQ,xAR,List.length_map,xFf,xFg,xGs,xHG,hcl,h3,h4,hlt,c1',c2',hr,hw,ih']
theorem yCN (ms : List Mf) (hm : ms.length < 100) : L.pcall 11 [.sl false ms.length (xDP ms)] = some (.bool (ms.any xFE)) := by
  obtain ⟨j,h⟩ := yAT (ms := ms) (H := []) hm _ 0 (Nat.zero_add _)
  simp only [Int.natCast_zero,List.drop_zero] at h
  rw [yEA,a11,xAB]
  cases c : ms.any xFE with
  | true =>
    rw [if_pos c] at h
    simp (maxSteps := 30000000) (disch := first | assumption | omega | (simp only [WL,AV.isCell] <;> omega) | rfl | decide) only [↓reduceIte,WB,xAL,xAb,xAK,xAp,xAo,AV.cells,AV.isCell,xAa,xAd,xAe,W2,xAf,xAg,xAh,Nat.reduceAdd,Nat.reduceSub,Nat.reduceLeDiff,Nat.reduceMul,Int.reduceAdd,Int.reduceSub,Int.reduceMul,Int.reduceLT,Int.reduceLE,Int.reduceEq,Int.reduceToNat,Int.reduceNeg,Nat.reduceEqDiff,Nat.reduceBEq,Nat.reduceLT,xAQ,xAR,List.length_map,xFg,h]
  | false =>
    rw [if_neg (by simp [c])] at h
    simp (maxSteps := 30000000) (disch := first | assumption | omega | (simp only [WL,AV.isCell] <;> omega) | rfl | decide) only [↓reduceIte,WB,xAL,xAb,xAK,xAp,xAo,AV.cells,AV.isCell,xAa,xAd,xAe,W2,xAf,xAg,xAh,Nat.reduceAdd,Nat.reduceSub,Nat.reduceLeDiff,Nat.reduceMul,Int.reduceAdd,Int.reduceSub,Int.reduceMul,Int.reduceLT,Int.reduceLE,Int.reduceEq,Int.reduceToNat,Int.reduceNeg,Nat.reduceEqDiff,Nat.reduceBEq,Nat.reduceLT,xAQ,xAR,List.length_map,xFg,h]
theorem xYc (m : Mf) : L.pcall 11 [.sl false 1 m.cells] = some (.bool (xFE m)) := by
  have h := yCN [m] (by simp)
  have e : xDP [m] = m.cells := by unfold xDP rows; simp
  rw [e] at h
  simpa using h
theorem xYd {m : Mf} (hI : In m) (h : xFE m = false) : Sm m := by
  unfold xFE at h
  simp only [Bool.or_eq_false_iff,decide_eq_false_iff_not,xI1,xI2,List.any_eq_false] at h
  obtain ⟨⟨h1,h2⟩,h3⟩ := h
  refine ⟨hI.i,hI.o,by omega,by omega,fun r hr => ?_,fun w hw => ?_,hI.b⟩
  · have := h2 r hr
    simp at this; omega
  · have := h3 w hw
    simp at this; omega
end Go.Abs.Mealy
