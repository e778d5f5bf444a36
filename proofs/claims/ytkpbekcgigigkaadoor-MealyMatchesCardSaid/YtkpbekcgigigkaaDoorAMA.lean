/- Machines as data; sizes,outside,the greatest letter. -/
import Derived.Test.YtkpbekcgigigkaaDoorAbsBun
import Derived.Test.YtkpbekcgigigkaaDoorAProg
import Derived.Test.YtkpbekcgigigkaaDoorAbsWalk
import Derived.Test.YtkpbekcgigigkaaDoorAbsEnc2
namespace Go.Abs.Mealy
open Go Go.Abs
set_option linter.unusedSimpArgs false
set_option linter.unusedVariables false
noncomputable abbrev L : Rec := lim xAN
theorem xLT {α : Type} (f : α → AV) (a : α) {l : List α} {i : Nat} (h : i < l.length) : List.take 1 (List.drop i (l.map f)) = [f (l.getD i a)] := by
  rw [List.drop_eq_getElem_cons (by simpa using h)]
  simp [List.getD,List.getElem?_eq_getElem h]
theorem xBk {α : Type} {l : List α} {i : Nat} {a : α} (h : i < l.length) : l.getD i a ∈ l := by
  rw [List.getD_eq_getElem?_getD,List.getElem?_eq_getElem h]
  exact List.getElem_mem _
theorem xBb {α : Type} {a : α} {l : List α} {i : Nat} (h : i < l.length) : l.drop i = l.getD i a :: l.drop (i + 1) := by
  rw [List.getD_eq_getElem?_getD,List.getElem?_eq_getElem h,List.drop_eq_getElem_cons h]; rfl
structure Rw where
  z : Bool
  l : List Int
structure Wd where
  z : Bool
  l : List Nat
structure Mf where
  i : Int
  o : Int
  s : Int
  z : Bool
  next : List Rw
  ze : Bool
  emit : List Wd
structure Nf where
  i : Int
  o : Int
  s : Int
  zg : Bool
  give : List Nat
  z : Bool
  next : List Rw
def r0 : Rw := ⟨true,[]⟩
def w0 : Wd := ⟨true,[]⟩
def rwV (r : Rw) : AV := .sl r.z r.l.length (xCe r.l)
def wdV (w : Wd) : AV := .sl w.z w.l.length (bs w.l)
def Mf.cells (m : Mf) : List AV := [.int .i64 m.i,.int .i64 m.o,.int .i64 m.s,.sl m.z m.next.length (m.next.map rwV),.sl m.ze m.emit.length (m.emit.map wdV)]
def Mf.av (m : Mf) : AV := .agg m.cells
def Nf.cells (m : Nf) : List AV := [.int .i64 m.i,.int .i64 m.o,.int .i64 m.s,.sl m.zg m.give.length (bs m.give),.sl m.z m.next.length (m.next.map rwV)]
def Nf.av (m : Nf) : AV := .agg m.cells
theorem xAQ {l : List Rw} {i : Nat} (h : i < l.length) : List.take 1 (List.drop i (l.map rwV)) = [rwV (l.getD i r0)] := xLT _ _ h
theorem xAR {l : List Wd} {i : Nat} (h : i < l.length) : List.take 1 (List.drop i (l.map wdV)) = [wdV (l.getD i w0)] := xLT _ _ h
def xDQ (i o n k s : Int) : Int := if i < 0 ∨ o < 0 ∨ 6 < i ∨ 6 - i < o then 7 else if n = 0 then 3 else if 4096 < n then 10 else if k ≠ n then 2 else if s < 0 ∨ n ≤ s then 8 else 0
theorem yAZ {i o n k s : Int} (hi : -9223372036854775808 ≤ i ∧ i < 9223372036854775808) (ho : -9223372036854775808 ≤ o ∧ o < 9223372036854775808) : L.pcall 59 [.int .i64 i,.int .i64 o,.int .i64 n,.int .i64 k,.int .i64 s] = some (.int .i64 (xDQ i o n k s)) := by
  obtain ⟨hi1,hi2⟩ := hi
  obtain ⟨ho1,ho2⟩ := ho
  rw [yET,a59,xAB]
  unfold xDQ
  by_cases c1 : i < 0
  · rw [if_pos (by omega)]
    simp (maxSteps := 30000000) (disch := first | assumption | omega | (simp only [WL,AV.isCell] <;> omega) | rfl | decide) only [↓reduceIte,WB,xAL,xAb,xAK,xAp,xAo,AV.cells,AV.isCell,xAa,xAd,xAe,W2,xAf,xAg,xAh,Nat.reduceAdd,Nat.reduceSub,Nat.reduceLeDiff,Nat.reduceMul,Int.reduceAdd,Int.reduceSub,Int.reduceMul,Int.reduceLT,Int.reduceLE,Int.reduceEq,Int.reduceToNat,Int.reduceNeg,Nat.reduceEqDiff,Nat.reduceBEq,Nat.reduceLT,xAQ,xAR,List.length_map,c1]
  by_cases c2 : o < 0
  · rw [if_pos (by omega)]
    simp (maxSteps := 30000000) (disch := first | assumption | omega | (simp only [WL,AV.isCell] <;> omega) | rfl | decide) only [↓reduceIte,WB,xAL,xAb,xAK,xAp,xAo,AV.cells,AV.isCell,xAa,xAd,xAe,W2,xAf,xAg,xAh,Nat.reduceAdd,Nat.reduceSub,Nat.reduceLeDiff,Nat.reduceMul,Int.reduceAdd,Int.reduceSub,Int.reduceMul,Int.reduceLT,Int.reduceLE,Int.reduceEq,Int.reduceToNat,Int.reduceNeg,Nat.reduceEqDiff,Nat.reduceBEq,Nat.reduceLT,xAQ,xAR,List.length_map,c1,c2]
  by_cases c3 : 6 < i
  · rw [if_pos (by omega)]
    simp (maxSteps := 30000000) (disch := first | assumption | omega | (simp only [WL,AV.isCell] <;> omega) | rfl | decide) only [↓reduceIte,WB,xAL,xAb,xAK,xAp,xAo,AV.cells,AV.isCell,xAa,xAd,xAe,W2,xAf,xAg,xAh,Nat.reduceAdd,Nat.reduceSub,Nat.reduceLeDiff,Nat.reduceMul,Int.reduceAdd,Int.reduceSub,Int.reduceMul,Int.reduceLT,Int.reduceLE,Int.reduceEq,Int.reduceToNat,Int.reduceNeg,Nat.reduceEqDiff,Nat.reduceBEq,Nat.reduceLT,xAQ,xAR,List.length_map,c1,c2,c3]
  by_cases c4 : 6 - i < o
  · rw [if_pos (by omega)]
    simp (maxSteps := 30000000) (disch := first | assumption | omega | (simp only [WL,AV.isCell] <;> omega) | rfl | decide) only [↓reduceIte,WB,xAL,xAb,xAK,xAp,xAo,AV.cells,AV.isCell,xAa,xAd,xAe,W2,xAf,xAg,xAh,Nat.reduceAdd,Nat.reduceSub,Nat.reduceLeDiff,Nat.reduceMul,Int.reduceAdd,Int.reduceSub,Int.reduceMul,Int.reduceLT,Int.reduceLE,Int.reduceEq,Int.reduceToNat,Int.reduceNeg,Nat.reduceEqDiff,Nat.reduceBEq,Nat.reduceLT,xAQ,xAR,List.length_map,c1,c2,c3,c4]
  rw [if_neg (by omega)]
  by_cases c5 : n = 0
  · rw [if_pos c5]
    simp (maxSteps := 30000000) (disch := first | assumption | omega | (simp only [WL,AV.isCell] <;> omega) | rfl | decide) only [↓reduceIte,WB,xAL,xAb,xAK,xAp,xAo,AV.cells,AV.isCell,xAa,xAd,xAe,W2,xAf,xAg,xAh,Nat.reduceAdd,Nat.reduceSub,Nat.reduceLeDiff,Nat.reduceMul,Int.reduceAdd,Int.reduceSub,Int.reduceMul,Int.reduceLT,Int.reduceLE,Int.reduceEq,Int.reduceToNat,Int.reduceNeg,Nat.reduceEqDiff,Nat.reduceBEq,Nat.reduceLT,xAQ,xAR,List.length_map,c1,c2,c3,c4,c5]
  rw [if_neg c5]
  by_cases c6 : 4096 < n
  · rw [if_pos c6]
    simp (maxSteps := 30000000) (disch := first | assumption | omega | (simp only [WL,AV.isCell] <;> omega) | rfl | decide) only [↓reduceIte,WB,xAL,xAb,xAK,xAp,xAo,AV.cells,AV.isCell,xAa,xAd,xAe,W2,xAf,xAg,xAh,Nat.reduceAdd,Nat.reduceSub,Nat.reduceLeDiff,Nat.reduceMul,Int.reduceAdd,Int.reduceSub,Int.reduceMul,Int.reduceLT,Int.reduceLE,Int.reduceEq,Int.reduceToNat,Int.reduceNeg,Nat.reduceEqDiff,Nat.reduceBEq,Nat.reduceLT,xAQ,xAR,List.length_map,c1,c2,c3,c4,c5,c6]
  rw [if_neg c6]
  by_cases c7 : k = n
  · rw [if_neg (by omega)]
    by_cases c8 : s < 0
    · rw [if_pos (by omega)]
      simp (maxSteps := 30000000) (disch := first | assumption | omega | (simp only [WL,AV.isCell] <;> omega) | rfl | decide) only [↓reduceIte,WB,xAL,xAb,xAK,xAp,xAo,AV.cells,AV.isCell,xAa,xAd,xAe,W2,xAf,xAg,xAh,Nat.reduceAdd,Nat.reduceSub,Nat.reduceLeDiff,Nat.reduceMul,Int.reduceAdd,Int.reduceSub,Int.reduceMul,Int.reduceLT,Int.reduceLE,Int.reduceEq,Int.reduceToNat,Int.reduceNeg,Nat.reduceEqDiff,Nat.reduceBEq,Nat.reduceLT,xAQ,xAR,List.length_map,c1,c2,c3,c4,c5,c6,c7,c8]
    by_cases c9 : n ≤ s
    · rw [if_pos (by omega)]
      simp (maxSteps := 30000000) (disch := first | assumption | omega | (simp only [WL,AV.isCell] <;> omega) | rfl | decide) only [↓reduceIte,WB,xAL,xAb,xAK,xAp,xAo,AV.cells,AV.isCell,xAa,xAd,xAe,W2,xAf,xAg,xAh,Nat.reduceAdd,Nat.reduceSub,Nat.reduceLeDiff,Nat.reduceMul,Int.reduceAdd,Int.reduceSub,Int.reduceMul,Int.reduceLT,Int.reduceLE,Int.reduceEq,Int.reduceToNat,Int.reduceNeg,Nat.reduceEqDiff,Nat.reduceBEq,Nat.reduceLT,xAQ,xAR,List.length_map,c1,c2,c3,c4,c5,c6,c7,c8,c9]
    rw [if_neg (by omega)]
    simp (maxSteps := 30000000) (disch := first | assumption | omega | (simp only [WL,AV.isCell] <;> omega) | rfl | decide) only [↓reduceIte,WB,xAL,xAb,xAK,xAp,xAo,AV.cells,AV.isCell,xAa,xAd,xAe,W2,xAf,xAg,xAh,Nat.reduceAdd,Nat.reduceSub,Nat.reduceLeDiff,Nat.reduceMul,Int.reduceAdd,Int.reduceSub,Int.reduceMul,Int.reduceLT,Int.reduceLE,Int.reduceEq,Int.reduceToNat,Int.reduceNeg,Nat.reduceEqDiff,Nat.reduceBEq,Nat.reduceLT,xAQ,xAR,List.length_map,c1,c2,c3,c4,c5,c6,c7,c8,c9]
  · rw [if_pos c7]
    simp (maxSteps := 30000000) (disch := first | assumption | omega | (simp only [WL,AV.isCell] <;> omega) | rfl | decide) only [↓reduceIte,WB,xAL,xAb,xAK,xAp,xAo,AV.cells,AV.isCell,xAa,xAd,xAe,W2,xAf,xAg,xAh,Nat.reduceAdd,Nat.reduceSub,Nat.reduceLeDiff,Nat.reduceMul,Int.reduceAdd,Int.reduceSub,Int.reduceMul,Int.reduceLT,Int.reduceLE,Int.reduceEq,Int.reduceToNat,Int.reduceNeg,Nat.reduceEqDiff,Nat.reduceBEq,Nat.reduceLT,xAQ,xAR,List.length_map,c1,c2,c3,c4,c5,c6,c7]
section
variable {H : Heap} {fv : AV}
theorem yDY {z : Bool} {l : List Int} {P : Int → Bool} (hl : l.length < 9223372036854775807) (hf : ∀ s,L.icall fv [.int .i64 s] H = some (.bool (P s),H)) : ∀ e i,i + e = l.length →
    ∃ j : Nat,L.loop xNy xXD ⟨xJ5 (.sl z l.length (xCe l)) fv (.int .i64 0) (.int .i64 (l.length : Nat)) (.int .i64 (i : Nat)),H⟩ =
      some (if (l.drop i).any P = true then (.ret,⟨xJ5 (.sl z l.length (xCe l)) fv (.int .i64 (j : Nat)) (.int .i64 (l.length : Nat)) (.int .i64 (j : Nat)),H⟩)
        else (.exit 0,⟨xJ5 (.sl z l.length (xCe l)) fv (.int .i64 0) (.int .i64 (l.length : Nat)) (.int .i64 (l.length : Nat)),H⟩)) := by
  intro e
  induction e with
  | zero =>
    intro i h
    obtain rfl : i = l.length := by omega
    refine ⟨0,?_⟩
    rw [if_neg (by rw [List.drop_length]; simp),xUs]
    simp (maxSteps := 30000000) (disch := first | assumption | omega | (simp only [WL,AV.isCell] <;> omega) | rfl | decide) only [↓reduceIte,WB,xAL,xAb,xAK,xAp,xAo,AV.cells,AV.isCell,xAa,xAd,xAe,W2,xAf,xAg,xAh,Nat.reduceAdd,Nat.reduceSub,Nat.reduceLeDiff,Nat.reduceMul,Int.reduceAdd,Int.reduceSub,Int.reduceMul,Int.reduceLT,Int.reduceLE,Int.reduceEq,Int.reduceToNat,Int.reduceNeg,Nat.reduceEqDiff,Nat.reduceBEq,Nat.reduceLT,xAQ,xAR,List.length_map,xJ4,xJ6]
  | succ e ih =>
    intro i h
    have hlt : (i : Int) < (l.length : Nat) := by omega
    obtain ⟨j,ih'⟩ := ih (i + 1) (by omega)
    have hp := hf (l.getD i 0)
    rw [xBb (a := (0 : Int)) (by omega : i < l.length),List.any_cons]
    cases c : P (l.getD i 0) with
    | true =>
      rw [c] at hp
      refine ⟨i,?_⟩
      rw [Bool.true_or,if_pos rfl,xUs]
      simp (maxSteps := 30000000) (disch := first | assumption | omega | (simp only [WL,AV.isCell] <;> omega) | rfl | decide) only [↓reduceIte,WB,xAL,xAb,xAK,xAp,xAo,AV.cells,AV.isCell,xAa,xAd,xAe,W2,xAf,xAg,xAh,Nat.reduceAdd,Nat.reduceSub,Nat.reduceLeDiff,Nat.reduceMul,Int.reduceAdd,Int.reduceSub,Int.reduceMul,Int.reduceLT,Int.reduceLE,Int.reduceEq,Int.reduceToNat,Int.reduceNeg,Nat.reduceEqDiff,Nat.reduceBEq,Nat.reduceLT,xAQ,xAR,List.length_map,xJ4,xJ6,hlt,hp]
    | false =>
      rw [c] at hp
      rw [Bool.false_or]
      refine ⟨j,?_⟩
      rw [xUs]
      by_cases e : (l.drop (i + 1)).any P = true
      · rw [if_pos e] at ih' ⊢
        simp (maxSteps := 30000000) (disch := first | assumption | omega | (simp only [WL,AV.isCell] <;> omega) | rfl | decide) only [↓reduceIte,WB,xAL,xAb,xAK,xAp,xAo,AV.cells,AV.isCell,xAa,xAd,xAe,W2,xAf,xAg,xAh,Nat.reduceAdd,Nat.reduceSub,Nat.reduceLeDiff,Nat.reduceMul,Int.reduceAdd,Int.reduceSub,Int.reduceMul,Int.reduceLT,Int.reduceLE,Int.reduceEq,Int.reduceToNat,Int.reduceNeg,Nat.reduceEqDiff,Nat.reduceBEq,Nat.reduceLT,xAQ,xAR,List.length_map,xJ4,xJ6,hlt,hp,ih']
      · rw [if_neg e] at ih' ⊢
        simp (maxSteps := 30000000) (disch := first | assumption | omega | (simp only [WL,AV.isCell] <;> omega) | rfl | decide) only [↓reduceIte,WB,xAL,xAb,xAK,xAp,xAo,AV.cells,AV.isCell,xAa,xAd,xAe,W2,xAf,xAg,xAh,Nat.reduceAdd,Nat.reduceSub,Nat.reduceLeDiff,Nat.reduceMul,Int.reduceAdd,Int.reduceSub,Int.reduceMul,Int.reduceLT,Int.reduceLE,Int.reduceEq,Int.reduceToNat,Int.reduceNeg,Nat.reduceEqDiff,Nat.reduceBEq,Nat.reduceLT,xAQ,xAR,List.length_map,xJ4,xJ6,hlt,hp,ih']
theorem yA0 {z : Bool} {l : List Int} {P : Int → Bool} (hl : l.length < 9223372036854775807) (hf : ∀ s,L.icall fv [.int .i64 s] H = some (.bool (P s),H)) :
    ∃ j : Int,L.icall (.func 99 []) [.sl z l.length (xCe l),fv] H = some (.int .i64 j,H) ∧ (if l.any P = true then 0 ≤ j else j < 0) := by
  obtain ⟨j,h⟩ := yDY (z := z) hl hf l.length 0 (by omega)
  simp only [Int.natCast_zero,List.drop_zero] at h
  by_cases c : l.any P = true
  · rw [if_pos c] at h
    refine ⟨j,?_,by rw [if_pos c]; omega⟩
    rw [yEp,a99]
    simp (maxSteps := 30000000) (disch := first | assumption | omega | (simp only [WL,AV.isCell] <;> omega) | rfl | decide) only [↓reduceIte,WB,xAL,xAb,xAK,xAp,xAo,AV.cells,AV.isCell,xAa,xAd,xAe,W2,xAf,xAg,xAh,Nat.reduceAdd,Nat.reduceSub,Nat.reduceLeDiff,Nat.reduceMul,Int.reduceAdd,Int.reduceSub,Int.reduceMul,Int.reduceLT,Int.reduceLE,Int.reduceEq,Int.reduceToNat,Int.reduceNeg,Nat.reduceEqDiff,Nat.reduceBEq,Nat.reduceLT,xAQ,xAR,List.length_map,xJ6,h]
  · rw [if_neg c] at h
    refine ⟨-1,?_,by rw [if_neg c]; omega⟩
    rw [yEp,a99]
    simp (maxSteps := 30000000) (disch := first | assumption | omega | (simp only [WL,AV.isCell] <;> omega) | rfl | decide) only [↓reduceIte,WB,xAL,xAb,xAK,xAp,xAo,AV.cells,AV.isCell,xAa,xAd,xAe,W2,xAf,xAg,xAh,Nat.reduceAdd,Nat.reduceSub,Nat.reduceLeDiff,Nat.reduceMul,Int.reduceAdd,Int.reduceSub,Int.reduceMul,Int.reduceLT,Int.reduceLE,Int.reduceEq,Int.reduceToNat,Int.reduceNeg,Nat.reduceEqDiff,Nat.reduceBEq,Nat.reduceLT,xAQ,xAR,List.length_map,xJ6,h]
theorem yDZ {z : Bool} {l : List Int} {P : Int → Bool} (hl : l.length < 9223372036854775807) (hf : ∀ s,L.icall fv [.int .i64 s] H = some (.bool (P s),H)) :
    L.icall (.func 90 []) [.sl z l.length (xCe l),fv] H = some (.bool (l.any P),H) := by
  obtain ⟨j,h,hj⟩ := yA0 (z := z) hl hf
  rw [yE7,a90]
  cases c : l.any P with
  | true =>
    rw [if_pos c] at hj
    simp (maxSteps := 30000000) (disch := first | assumption | omega | (simp only [WL,AV.isCell] <;> omega) | rfl | decide) only [↓reduceIte,WB,xAL,xAb,xAK,xAp,xAo,AV.cells,AV.isCell,xAa,xAd,xAe,W2,xAf,xAg,xAh,Nat.reduceAdd,Nat.reduceSub,Nat.reduceLeDiff,Nat.reduceMul,Int.reduceAdd,Int.reduceSub,Int.reduceMul,Int.reduceLT,Int.reduceLE,Int.reduceEq,Int.reduceToNat,Int.reduceNeg,Nat.reduceEqDiff,Nat.reduceBEq,Nat.reduceLT,xAQ,xAR,List.length_map,h,hj]
  | false =>
    rw [if_neg (by simp [c])] at hj
    have hj' : ¬ 0 ≤ j := by omega
    simp (maxSteps := 30000000) (disch := first | assumption | omega | (simp only [WL,AV.isCell] <;> omega) | rfl | decide) only [↓reduceIte,WB,xAL,xAb,xAK,xAp,xAo,AV.cells,AV.isCell,xAa,xAd,xAe,W2,xAf,xAg,xAh,Nat.reduceAdd,Nat.reduceSub,Nat.reduceLeDiff,Nat.reduceMul,Int.reduceAdd,Int.reduceSub,Int.reduceMul,Int.reduceLT,Int.reduceLE,Int.reduceEq,Int.reduceToNat,Int.reduceNeg,Nat.reduceEqDiff,Nat.reduceBEq,Nat.reduceLT,xAQ,xAR,List.length_map,h,hj']
end
theorem yD0 {k : Nat} {s n : Int} {H : Heap} (h : H[k]? = some (.cells false false [.int .i64 n])) : L.icall (.func 91 [.ptr k 0]) [.int .i64 s] H = some (.bool (decide (s < 0 ∨ n ≤ s)),H) := by
  rw [yE8,a91]
  by_cases c : s < 0
  · rw [decide_eq_true (Or.inl c)]
    simp (maxSteps := 30000000) (disch := first | assumption | omega | (simp only [WL,AV.isCell] <;> omega) | rfl | decide) only [↓reduceIte,WB,xAL,xAb,xAK,xAp,xAo,AV.cells,AV.isCell,xAa,xAd,xAe,W2,xAf,xAg,xAh,Nat.reduceAdd,Nat.reduceSub,Nat.reduceLeDiff,Nat.reduceMul,Int.reduceAdd,Int.reduceSub,Int.reduceMul,Int.reduceLT,Int.reduceLE,Int.reduceEq,Int.reduceToNat,Int.reduceNeg,Nat.reduceEqDiff,Nat.reduceBEq,Nat.reduceLT,xAQ,xAR,List.length_map,h,c]
  · by_cases c2 : n ≤ s
    · rw [decide_eq_true (Or.inr c2)]
      simp (maxSteps := 30000000) (disch := first | assumption | omega | (simp only [WL,AV.isCell] <;> omega) | rfl | decide) only [↓reduceIte,WB,xAL,xAb,xAK,xAp,xAo,AV.cells,AV.isCell,xAa,xAd,xAe,W2,xAf,xAg,xAh,Nat.reduceAdd,Nat.reduceSub,Nat.reduceLeDiff,Nat.reduceMul,Int.reduceAdd,Int.reduceSub,Int.reduceMul,Int.reduceLT,Int.reduceLE,Int.reduceEq,Int.reduceToNat,Int.reduceNeg,Nat.reduceEqDiff,Nat.reduceBEq,Nat.reduceLT,xAQ,xAR,List.length_map,h,c,c2]
    · rw [decide_eq_false (by omega)]
      simp (maxSteps := 30000000) (disch := first | assumption | omega | (simp only [WL,AV.isCell] <;> omega) | rfl | decide) only [↓reduceIte,WB,xAL,xAb,xAK,xAp,xAo,AV.cells,AV.isCell,xAa,xAd,xAe,W2,xAf,xAg,xAh,Nat.reduceAdd,Nat.reduceSub,Nat.reduceLeDiff,Nat.reduceMul,Int.reduceAdd,Int.reduceSub,Int.reduceMul,Int.reduceLT,Int.reduceLE,Int.reduceEq,Int.reduceToNat,Int.reduceNeg,Nat.reduceEqDiff,Nat.reduceBEq,Nat.reduceLT,xAQ,xAR,List.length_map,h,c,c2]
def xPM (n : Int) (l : List Int) : Bool := l.any fun s => decide (s < 0 ∨ n ≤ s)
theorem xWa {z : Bool} {l : List Int} {n : Int} (hl : l.length < 9223372036854775807) : L.pcall 60 [.sl z l.length (xCe l),.int .i64 n] = some (.bool (xPM n l)) := by
  have h := yDZ (z := z) (P := fun s => decide (s < 0 ∨ n ≤ s)) (fv := .func 91 [.ptr 0 0]) (H := [.cells false false [.int .i64 n]]) hl (fun s => yD0 rfl)
  rw [yEU,a60,xAB]
  unfold xPM
  simp (maxSteps := 30000000) (disch := first | assumption | omega | (simp only [WL,AV.isCell] <;> omega) | rfl | decide) only [↓reduceIte,WB,xAL,xAb,xAK,xAp,xAo,AV.cells,AV.isCell,xAa,xAd,xAe,W2,xAf,xAg,xAh,Nat.reduceAdd,Nat.reduceSub,Nat.reduceLeDiff,Nat.reduceMul,Int.reduceAdd,Int.reduceSub,Int.reduceMul,Int.reduceLT,Int.reduceLE,Int.reduceEq,Int.reduceToNat,Int.reduceNeg,Nat.reduceEqDiff,Nat.reduceBEq,Nat.reduceLT,xAQ,xAR,List.length_map,h]
def xI3 : List Nat → Nat
  | [] => 0
  | x :: t => max x (xI3 t)
theorem yD1 (a b : Nat) : max (a : Int) (b : Int) = ((max a b : Nat) : Int) := by omega
theorem yCP {z : Bool} {l : List Nat} {H : Heap} (hl : l.length < 9223372036854775807) : ∀ e i m,i + e = l.length →
    L.loop xNh xXv ⟨xNi (.sl z l.length (bs l)) (.int .u8 (m : Nat)) (.int .i64 (i : Nat)),H⟩ = some (.exit 0,⟨xNi (.sl z l.length (bs l)) (.int .u8 (max m (xI3 (l.drop i)) : Nat)) (.int .i64 (l.length : Nat)),H⟩) := by
  intro e
  induction e with
  | zero =>
    intro i m h
    obtain rfl : i = l.length := by omega
    rw [List.drop_length,show max m (xI3 []) = m by simp [xI3],xYC]
    simp (maxSteps := 30000000) (disch := first | assumption | omega | (simp only [WL,AV.isCell] <;> omega) | rfl | decide) only [↓reduceIte,WB,xAL,xAb,xAK,xAp,xAo,AV.cells,AV.isCell,xAa,xAd,xAe,W2,xAf,xAg,xAh,Nat.reduceAdd,Nat.reduceSub,Nat.reduceLeDiff,Nat.reduceMul,Int.reduceAdd,Int.reduceSub,Int.reduceMul,Int.reduceLT,Int.reduceLE,Int.reduceEq,Int.reduceToNat,Int.reduceNeg,Nat.reduceEqDiff,Nat.reduceBEq,Nat.reduceLT,xAQ,xAR,List.length_map,xQs,xUe]
  | succ e ih =>
    intro i m h
    have hlt : (i : Int) < (l.length : Nat) := by omega
    rw [xBb (a := (0 : Nat)) (by omega : i < l.length)]
    have e1 : max m (xI3 (l.getD i 0 :: l.drop (i + 1))) = max (max m (l.getD i 0)) (xI3 (l.drop (i + 1))) := by simp only [xI3]; omega
    have ih' := ih (i + 1) (max m (l.getD i 0)) (by omega)
    rw [e1,xYC]
    simp (maxSteps := 30000000) (disch := first | assumption | omega | (simp only [WL,AV.isCell] <;> omega) | rfl | decide) only [↓reduceIte,WB,xAL,xAb,xAK,xAp,xAo,AV.cells,AV.isCell,xAa,xAd,xAe,W2,xAf,xAg,xAh,Nat.reduceAdd,Nat.reduceSub,Nat.reduceLeDiff,Nat.reduceMul,Int.reduceAdd,Int.reduceSub,Int.reduceMul,Int.reduceLT,Int.reduceLE,Int.reduceEq,Int.reduceToNat,Int.reduceNeg,Nat.reduceEqDiff,Nat.reduceBEq,Nat.reduceLT,xAQ,xAR,List.length_map,xQs,xUe,hlt,yD1,ih']
theorem yD2 {z : Bool} {l : List Nat} (h0 : 0 < l.length) (hl : l.length < 9223372036854775807) : L.pcall 61 [.sl z l.length (bs l)] = some (.int .u8 (xI3 l : Nat)) := by
  have h := yCP (z := z) (H := []) hl (l.length - 1) 1 (l.getD 0 0) (by omega)
  have e : max (l.getD 0 0) (xI3 (l.drop 1)) = xI3 l := by
    cases l with
    | nil => simp at h0
    | cons x t => rfl
  have c : ¬ ((l.length : Nat) : Int) < 1 := by omega
  rw [e] at h
  simp only [Int.natCast_one] at h
  rw [yEV,a61,xAB]
  simp (maxSteps := 30000000) (disch := first | assumption | omega | (simp only [WL,AV.isCell] <;> omega) | rfl | decide) only [↓reduceIte,WB,xAL,xAb,xAK,xAp,xAo,AV.cells,AV.isCell,xAa,xAd,xAe,W2,xAf,xAg,xAh,Nat.reduceAdd,Nat.reduceSub,Nat.reduceLeDiff,Nat.reduceMul,Int.reduceAdd,Int.reduceSub,Int.reduceMul,Int.reduceLT,Int.reduceLE,Int.reduceEq,Int.reduceToNat,Int.reduceNeg,Nat.reduceEqDiff,Nat.reduceBEq,Nat.reduceLT,xAQ,xAR,List.length_map,xUe,c,h]
end Go.Abs.Mealy
/- Encodings and small functions. -/
namespace Go.Abs.Mealy
set_option linter.unusedVariables false
set_option linter.unusedSimpArgs false
open Go Go.Abs
set_option linter.unusedSimpArgs false
abbrev las (z1 z2 : Bool) (p q : List Nat) : AV := .agg [xBf z1 p,xBf z2 q]
def xA7 (q : List Nat) : List Nat := if q = [] then [0] else q
def xC7 (p q : Nat) (i : Int) : Int := if i < p then max i 0 else p + (i - p) % (max q 1 : Nat)
theorem xLU (z1 z2 : Bool) (p q : List Nat) (i : Int) (hp : p.length < 1099511627776) (hq : q.length < 1099511627776) (h1 : -9223372036854775808 ≤ i) (h2 : i < 9223372036854775808) :
    L.pcall 55 [las z1 z2 p q,.int .i64 i] = some (.int .i64 (xC7 p.length q.length i)) := by
  rw [yEP,a55,xAB]
  unfold xC7
  by_cases hlt : i < p.length
  · simp (maxSteps := 30000000) (disch := first | assumption | omega | (simp only [WL,AV.isCell] <;> omega) | rfl | decide) only [↓reduceIte,WB,xAL,xAb,xAK,xAp,xAo,AV.cells,AV.isCell,xAa,xAd,xAe,Nat.reduceAdd,Nat.reduceSub,Nat.reduceLeDiff,Nat.reduceMul,Int.reduceAdd,Int.reduceSub,Int.reduceMul,Int.reduceLT,Int.reduceLE,Int.reduceEq,Int.reduceToNat,Int.reduceNeg,Nat.reduceEqDiff,Nat.reduceBEq,Nat.reduceLT,hlt]
  · have e3 := Int.emod_nonneg (i - p.length) (b := (max (q.length : Int) 1)) (by omega)
    have e4 := Int.emod_lt_of_pos (i - p.length) (b := (max (q.length : Int) 1)) (by omega)
    have e2 : (i - p.length).tmod (max (q.length : Int) 1) = (i - p.length) % (max (q.length : Int) 1) := Int.tmod_eq_emod_of_nonneg (by omega)
    simp (maxSteps := 30000000) (disch := first | assumption | omega | (simp only [WL,AV.isCell] <;> omega) | rfl | decide) only [↓reduceIte,WB,xAL,xAb,xAK,xAp,xAo,AV.cells,AV.isCell,xAa,xAd,xAe,Nat.reduceAdd,Nat.reduceSub,Nat.reduceLeDiff,Nat.reduceMul,Int.reduceAdd,Int.reduceSub,Int.reduceMul,Int.reduceLT,Int.reduceLE,Int.reduceEq,Int.reduceToNat,Int.reduceNeg,Nat.reduceEqDiff,Nat.reduceBEq,Nat.reduceLT,hlt,e2]
    rw [show ((max q.length 1 : Nat) : Int) = max (q.length : Int) 1 by omega]
theorem xWb (z1 z2 : Bool) (p q : List Nat) : ∃ z,L.pcall 77 [las z1 z2 p q] = some (las z1 z p (xA7 q)) := by
  rw [yE1,a77,xAB]
  by_cases hq : q = []
  · subst hq
    refine ⟨false,?_⟩
    simp (maxSteps := 30000000) (disch := first | assumption | omega | (simp only [WL,AV.isCell] <;> omega) | rfl | decide) only [↓reduceIte,WB,xAL,xAb,xAK,xAp,xAo,AV.cells,AV.isCell,xAa,xAd,xAe,Nat.reduceAdd,Nat.reduceSub,Nat.reduceLeDiff,Nat.reduceMul,Int.reduceAdd,Int.reduceSub,Int.reduceMul,Int.reduceLT,Int.reduceLE,Int.reduceEq,Int.reduceToNat,Int.reduceNeg,Nat.reduceEqDiff,Nat.reduceBEq,Nat.reduceLT,bs,xC6]
    rfl
  · refine ⟨z2,?_⟩
    have hl : ¬ ((q.length : Int) = 0) := by
      have : q.length ≠ 0 := by simpa using hq
      omega
    simp (maxSteps := 30000000) (disch := first | assumption | omega | (simp only [WL,AV.isCell] <;> omega) | rfl | decide) only [↓reduceIte,WB,xAL,xAb,xAK,xAp,xAo,AV.cells,AV.isCell,xAa,xAd,xAe,Nat.reduceAdd,Nat.reduceSub,Nat.reduceLeDiff,Nat.reduceMul,Int.reduceAdd,Int.reduceSub,Int.reduceMul,Int.reduceLT,Int.reduceLE,Int.reduceEq,Int.reduceToNat,Int.reduceNeg,Nat.reduceEqDiff,Nat.reduceBEq,Nat.reduceLT,hl,xA7,if_neg hq]
def atM (p q : List Nat) (i : Int) : Nat := if i < 0 then 0 else if i < p.length then p.getD i.toNat 0 else (xA7 q).getD ((i.toNat - p.length) % (xA7 q).length) 0
theorem xCX (q : List Nat) : 0 < (xA7 q).length := by
  unfold xA7
  split
  · simp
  · rename_i h; exact List.length_pos_iff.2 h
theorem xCY (q : List Nat) : (xA7 q).length = max q.length 1 := by
  unfold xA7
  split
  · rename_i h; subst h; rfl
  · rename_i h; have := List.length_pos_iff.2 h; omega
theorem yD3 (z1 z2 : Bool) (p q : List Nat) (i : Int) (hp : p.length < 1099511627776) (hq : q.length < 1099511627776) (h1 : -9223372036854775808 ≤ i) (h2 : i < 9223372036854775808) :
    L.pcall 47 [las z1 z2 p q,.int .i64 i] = some (.int .u8 (atM p q i : Nat)) := by
  rw [yEI,a47,xAB]
  obtain ⟨z,hfull⟩ := xWb z1 z2 p q
  have hfl := xCY q
  have hidx := xLU z1 z p (xA7 q) i (by omega) (by omega) h1 h2
  have hfp := xCX q
  unfold atM
  by_cases hneg : i < 0
  · simp (maxSteps := 30000000) (disch := first | assumption | omega | (simp only [WL,AV.isCell] <;> omega) | rfl | decide) only [↓reduceIte,WB,xAL,xAb,xAK,xAp,xAo,AV.cells,AV.isCell,xAa,xAd,xAe,Nat.reduceAdd,Nat.reduceSub,Nat.reduceLeDiff,Nat.reduceMul,Int.reduceAdd,Int.reduceSub,Int.reduceMul,Int.reduceLT,Int.reduceLE,Int.reduceEq,Int.reduceToNat,Int.reduceNeg,Nat.reduceEqDiff,Nat.reduceBEq,Nat.reduceLT,hneg]
  · by_cases hlt : i < p.length
    · have hi : xC7 p.length (xA7 q).length i = i := by unfold xC7; rw [if_pos hlt]; omega
      have hng : ¬ (0 ≤ i - (p.length : Int)) := by omega
      simp (maxSteps := 30000000) (disch := first | assumption | omega | (simp only [WL,AV.isCell] <;> omega) | rfl | decide) only [↓reduceIte,WB,xAL,xAb,xAK,xAp,xAo,AV.cells,AV.isCell,xAa,xAd,xAe,Nat.reduceAdd,Nat.reduceSub,Nat.reduceLeDiff,Nat.reduceMul,Int.reduceAdd,Int.reduceSub,Int.reduceMul,Int.reduceLT,Int.reduceLE,Int.reduceEq,Int.reduceToNat,Int.reduceNeg,Nat.reduceEqDiff,Nat.reduceBEq,Nat.reduceLT,hneg,hlt,hfull,hidx,hi,hng]
    · have hi : xC7 p.length (xA7 q).length i = p.length + (((i.toNat - p.length) % (xA7 q).length : Nat) : Int) := by
        unfold xC7
        rw [if_neg hlt,show max (xA7 q).length 1 = (xA7 q).length by omega,show i - (p.length : Int) = ((i.toNat - p.length : Nat) : Int) by omega]
        simp
      have hkl : (i.toNat - p.length) % (xA7 q).length < (xA7 q).length := Nat.mod_lt _ hfp
      generalize hg : (i.toNat - p.length) % (xA7 q).length = k at *
      have h0 : (0 : Int) ≤ (k : Nat) := by omega
      simp (maxSteps := 30000000) (disch := first | assumption | omega | (simp only [WL,AV.isCell] <;> omega) | rfl | decide) only [↓reduceIte,WB,xAL,xAb,xAK,xAp,xAo,AV.cells,AV.isCell,xAa,xAd,xAe,Nat.reduceAdd,Nat.reduceSub,Nat.reduceLeDiff,Nat.reduceMul,Int.reduceAdd,Int.reduceSub,Int.reduceMul,Int.reduceLT,Int.reduceLE,Int.reduceEq,Int.reduceToNat,Int.reduceNeg,Nat.reduceEqDiff,Nat.reduceBEq,Nat.reduceLT,hneg,hlt,hfull,hidx,hi,Nat.add_sub_cancel_left,h0]
end Go.Abs.Mealy
/- root: the failure function gives the longest borders. -/
namespace Go.Abs.Mealy
set_option linter.unusedVariables false
set_option linter.unusedSimpArgs false
open Go Go.Abs
set_option linter.unusedSimpArgs false
def Bord (w : List Nat) (i k : Nat) : Prop := k < i ∧ ∀ t,t < k → w.getD t 0 = w.getD (i - k + t) 0
theorem Bord.chain {w : List Nat} {i k j : Nat} (h : Bord w i k) (h2 : Bord w k j) : Bord w i j := by
  refine ⟨by have := h.1; have := h2.1; omega,fun t ht => ?_⟩
  rw [h2.2 t ht,h.2 (k - j + t) (by have := h2.1; omega)]
  congr 1
  have := h.1; have := h2.1; omega
theorem Bord.ext {w : List Nat} {i k : Nat} (h : Bord w i k) (he : w.getD i 0 = w.getD k 0) : Bord w (i + 1) (k + 1) := by
  refine ⟨by have := h.1; omega,fun t ht => ?_⟩
  have hk := h.1
  by_cases e : t = k
  · subst e
    rw [← he]; congr 1; omega
  · rw [h.2 t (by omega)]; congr 1; omega
theorem Bord.zero {w : List Nat} {i : Nat} (h : 0 < i) : Bord w i 0 := ⟨h,fun t ht => by omega⟩
def yA1 (w : List Nat) (i k : Nat) : Prop := ∀ b,Bord w i b → b ≤ k
theorem Bord.inner {w : List Nat} {i k b : Nat} (h : Bord w i k) (h2 : Bord w i b) (hlt : b < k) : Bord w k b := by
  refine ⟨hlt,fun t ht => ?_⟩
  have hk := h.1
  have hb := h2.1
  rw [h2.2 t ht,h.2 (k - b + t) (by omega)]
  congr 1; omega
theorem Bord.prev {w : List Nat} {i c : Nat} (h : Bord w (i + 1) (c + 1)) : Bord w i c ∧ w.getD i 0 = w.getD c 0 := by
  have h1 := h.1
  refine ⟨⟨by omega,fun t ht => ?_⟩,?_⟩
  · rw [h.2 t (by omega)]; congr 1; omega
  · rw [h.2 c (by omega)]; congr 1; omega
theorem xS1 {z : Bool} {w fl : List Nat} {i : Nat} (hi : i < w.length) (hw : w.length < 1099511627776) (hfl : fl.length = w.length + 1) (hf : ∀ j,0 < j → j ≤ i → Bord w j (fl.getD j 0) ∧ yA1 w j (fl.getD j 0)) :
    ∀ k,Bord w i k → (∀ b,Bord w i b → k < b → w.getD i 0 ≠ w.getD b 0) → ∃ k',Bord w i k' ∧ (k' = 0 ∨ w.getD i 0 = w.getD k' 0) ∧ (∀ b,Bord w i b → k' < b → w.getD i 0 ≠ w.getD b 0) ∧
      L.loop xNp xXA ⟨xNq (xBf z w) (.own false 0 0 (w.length + 1) 1) (.int .i64 (k : Nat)) (.int .i64 (i : Nat)),[.cells false false (xBp fl)]⟩ = some (.exit 2,⟨xNq (xBf z w) (.own false 0 0 (w.length + 1) 1) (.int .i64 (k' : Nat)) (.int .i64 (i : Nat)),[.cells false false (xBp fl)]⟩) := by
  intro k
  induction k using Nat.strongRecOn with
  | _ k ih =>
    intro hk hm
    have hki := hk.1
    by_cases h0 : k = 0
    · refine ⟨k,hk,.inl h0,hm,?_⟩
      have hng : ¬ ((0 : Int) < (k : Nat)) := by omega
      rw [xUm]
      simp (maxSteps := 30000000) (disch := first | assumption | omega | (simp only [WL,AV.isCell] <;> omega) | rfl | decide) only [↓reduceIte,WB,xAL,xAb,xAK,xAp,xAo,AV.cells,AV.isCell,xAa,xAd,xAe,Nat.reduceAdd,Nat.reduceSub,Nat.reduceLeDiff,Nat.reduceMul,Int.reduceAdd,Int.reduceSub,Int.reduceMul,Int.reduceLT,Int.reduceLE,Int.reduceEq,Int.reduceToNat,Int.reduceNeg,Nat.reduceEqDiff,Nat.reduceBEq,Nat.reduceLT,xNo,xNr,hng]
    · have hgt : ((0 : Int) < (k : Nat)) := by omega
      by_cases he : w.getD i 0 = w.getD k 0
      · refine ⟨k,hk,.inr he,hm,?_⟩
        have heq : (((w.getD i 0 : Nat) : Int) = ((w.getD k 0 : Nat) : Int)) = True := eq_true (by omega)
        rw [xUm]
        simp (maxSteps := 30000000) (disch := first | assumption | omega | (simp only [WL,AV.isCell] <;> omega) | rfl | decide) only [↓reduceIte,WB,xAL,xAb,xAK,xAp,xAo,AV.cells,AV.isCell,xAa,xAd,xAe,Nat.reduceAdd,Nat.reduceSub,Nat.reduceLeDiff,Nat.reduceMul,Int.reduceAdd,Int.reduceSub,Int.reduceMul,Int.reduceLT,Int.reduceLE,Int.reduceEq,Int.reduceToNat,Int.reduceNeg,Nat.reduceEqDiff,Nat.reduceBEq,Nat.reduceLT,xNo,xNr,hgt,heq]
      · have hne : ¬ (((w.getD i 0 : Nat) : Int) = ((w.getD k 0 : Nat) : Int)) := by omega
        obtain ⟨hb,hbm⟩ := hf k (by omega) (by omega)
        obtain ⟨k',h1,h2,h4,h3⟩ := ih _ hb.1 (hk.chain hb) (fun b hb1 hb2 => by
          rcases Nat.lt_trichotomy b k with e | e | e
          · have := hbm b (hk.inner hb1 e); omega
          · subst e; exact he
          · exact hm b hb1 e)
        refine ⟨k',h1,h2,h4,?_⟩
        rw [xUm]
        simp (maxSteps := 30000000) (disch := first | assumption | omega | (simp only [WL,AV.isCell] <;> omega) | rfl | decide) only [↓reduceIte,WB,xAL,xAb,xAK,xAp,xAo,AV.cells,AV.isCell,xAa,xAd,xAe,Nat.reduceAdd,Nat.reduceSub,Nat.reduceLeDiff,Nat.reduceMul,Int.reduceAdd,Int.reduceSub,Int.reduceMul,Int.reduceLT,Int.reduceLE,Int.reduceEq,Int.reduceToNat,Int.reduceNeg,Nat.reduceEqDiff,Nat.reduceBEq,Nat.reduceLT,xNo,xNr,hgt,hne,h3]
theorem xF8 {z : Bool} {w : List Nat} (hw : w.length < 1099511627776) : ∀ (d i k : Nat) (fl : List Nat),i + d = w.length → 0 < i → fl.length = w.length + 1 → (∀ j,0 < j → j ≤ i → Bord w j (fl.getD j 0) ∧ yA1 w j (fl.getD j 0)) → Bord w i k → yA1 w i k →
    ∃ fl' k',fl'.length = w.length + 1 ∧ (∀ j,0 < j → j ≤ w.length → Bord w j (fl'.getD j 0) ∧ yA1 w j (fl'.getD j 0)) ∧
      L.loop xJY xUn ⟨xJZ (xBf z w) (.own false 0 0 (w.length + 1) 1) (.int .i64 (k : Nat)) (.int .i64 (i : Nat)),[.cells false false (xBp fl)]⟩ = some (.exit 0,⟨xJZ (xBf z w) (.own false 0 0 (w.length + 1) 1) (.int .i64 (k' : Nat)) (.int .i64 (w.length : Nat)),[.cells false false (xBp fl')]⟩)
  | 0,i,k,fl,hd,hi0,hfl,hf,hk,hmx => by
    have : i = w.length := by omega
    subst this
    refine ⟨fl,k,hfl,hf,?_⟩
    rw [xUo]
    simp (maxSteps := 30000000) (disch := first | assumption | omega | (simp only [WL,AV.isCell] <;> omega) | rfl | decide) only [↓reduceIte,WB,xAL,xAb,xAK,xAp,xAo,AV.cells,AV.isCell,xAa,xAd,xAe,Nat.reduceAdd,Nat.reduceSub,Nat.reduceLeDiff,Nat.reduceMul,Int.reduceAdd,Int.reduceSub,Int.reduceMul,Int.reduceLT,Int.reduceLE,Int.reduceEq,Int.reduceToNat,Int.reduceNeg,Nat.reduceEqDiff,Nat.reduceBEq,Nat.reduceLT,xNs,xNt,Int.lt_irrefl]
  | d + 1,i,k,fl,hd,hi0,hfl,hf,hk,hmx => by
    have hi : (i : Int) < (w.length : Nat) := by omega
    obtain ⟨k',hk',he,hm,hl⟩ := xS1 (z := z) (by omega) hw hfl hf k hk (fun b hb1 hb2 => absurd (hmx b hb1) (by omega))
    have hki := hk'.1
    by_cases hq : w.getD i 0 = w.getD k' 0
    · have hnew : yA1 w (i + 1) (k' + 1) := fun b hb => by
        cases b with
        | zero => omega
        | succ c =>
          obtain ⟨h1,h2⟩ := hb.prev
          rcases Nat.lt_or_ge k' c with e | e
          · exact absurd h2 (hm c h1 e)
          · omega
      obtain ⟨fl',k'',h1,h2,h3⟩ := xF8 (z := z) hw d (i + 1) (k' + 1) (fl.set (i + 1) (k' + 1)) (by omega) (by omega) (by simpa using hfl) (fun j hj0 hj1 => by
        by_cases e : j = i + 1
        · subst e
          rw [List.getD_eq_getElem?_getD,List.getElem?_set_self (by omega)]
          exact ⟨hk'.ext hq,hnew⟩
        · rw [List.getD_eq_getElem?_getD,List.getElem?_set_ne (by omega),← List.getD_eq_getElem?_getD]
          exact hf j hj0 (by omega)) (hk'.ext hq) hnew
      refine ⟨fl',k'',h1,h2,?_⟩
      have heq : (((w.getD i 0 : Nat) : Int) = ((w.getD k' 0 : Nat) : Int)) = True := eq_true (by omega)
      rw [xUo]
      simp (maxSteps := 30000000) (disch := first | assumption | omega | (simp only [WL,AV.isCell] <;> omega) | rfl | decide) only [↓reduceIte,WB,xAL,xAb,xAK,xAp,xAo,AV.cells,AV.isCell,xAa,xAd,xAe,Nat.reduceAdd,Nat.reduceSub,Nat.reduceLeDiff,Nat.reduceMul,Int.reduceAdd,Int.reduceSub,Int.reduceMul,Int.reduceLT,Int.reduceLE,Int.reduceEq,Int.reduceToNat,Int.reduceNeg,Nat.reduceEqDiff,Nat.reduceBEq,Nat.reduceLT,xNs,xNr,xNt,hi,hl,heq,h3]
    · have h0 : k' = 0 := by
        rcases he with h | h
        · exact h
        · exact (hq h).elim
      have hne : ¬ (((w.getD i 0 : Nat) : Int) = ((w.getD k' 0 : Nat) : Int)) := by omega
      have hnew : yA1 w (i + 1) k' := fun b hb => by
        cases b with
        | zero => omega
        | succ c =>
          obtain ⟨h1,h2⟩ := hb.prev
          rcases Nat.lt_or_ge k' c with e | e
          · exact absurd h2 (hm c h1 e)
          · have : c = k' := by omega
            subst this
            exact absurd h2 hq
      obtain ⟨fl',k'',h1,h2,h3⟩ := xF8 (z := z) hw d (i + 1) k' (fl.set (i + 1) k') (by omega) (by omega) (by simpa using hfl) (fun j hj0 hj1 => by
        by_cases e : j = i + 1
        · subst e
          rw [List.getD_eq_getElem?_getD,List.getElem?_set_self (by omega)]
          exact ⟨by rw [h0]; exact .zero (by omega),hnew⟩
        · rw [List.getD_eq_getElem?_getD,List.getElem?_set_ne (by omega),← List.getD_eq_getElem?_getD]
          exact hf j hj0 (by omega)) (h0 ▸ .zero (by omega)) hnew
      refine ⟨fl',k'',h1,h2,?_⟩
      rw [xUo]
      simp (maxSteps := 30000000) (disch := first | assumption | omega | (simp only [WL,AV.isCell] <;> omega) | rfl | decide) only [↓reduceIte,WB,xAL,xAb,xAK,xAp,xAo,AV.cells,AV.isCell,xAa,xAd,xAe,Nat.reduceAdd,Nat.reduceSub,Nat.reduceLeDiff,Nat.reduceMul,Int.reduceAdd,Int.reduceSub,Int.reduceMul,Int.reduceLT,Int.reduceLE,Int.reduceEq,Int.reduceToNat,Int.reduceNeg,Nat.reduceEqDiff,Nat.reduceBEq,Nat.reduceLT,xNs,xNr,xNt,hi,hl,hne,h3]
end Go.Abs.Mealy
/- root,Clone,Concat,Canonical: the shortest form. -/
namespace Go.Abs.Mealy
set_option linter.unusedVariables false
set_option linter.unusedSimpArgs false
open Go Go.Abs
theorem xLV : True = True := rfl
theorem xPN : True = True := rfl
theorem xRQ {r q : List Nat} {per : Nat} (hper : 0 < per) (hq : per ≤ q.length) (h : ∀ t,t + per < q.length → q.getD t 0 = q.getD (t + per) 0) : ∀ t,t < q.length → q.getD t 0 = q.getD (t % per) 0 := by
  intro t
  induction t using Nat.strongRecOn with
  | _ t ih =>
    intro ht
    by_cases h1 : t < per
    · rw [Nat.mod_eq_of_lt h1]
    · have := h (t - per) (by omega)
      rw [show t - per + per = t by omega] at this
      rw [← this,ih (t - per) (by omega) (by omega)]
      exact congrArg (q.getD · 0) (Nat.mod_eq_sub_mod (by omega)).symm
theorem xEk {l : List Nat} {n t : Nat} (h : t < n) : (l.take n).getD t 0 = l.getD t 0 := by
  simp [List.getD,List.getElem?_take,h]
theorem xIQ (l : List Nat) (n t : Nat) : (l.drop n).getD t 0 = l.getD (n + t) 0 := by
  simp [List.getD,List.getElem?_drop]
theorem xDR {a b : List Nat} {t : Nat} (h : t < a.length) : (a ++ b).getD t 0 = a.getD t 0 := by
  simp [List.getD,List.getElem?_append_left h]
theorem xDv {a b : List Nat} {t : Nat} (h : a.length ≤ t) : (a ++ b).getD t 0 = b.getD (t - a.length) 0 := by
  simp [List.getD,List.getElem?_append_right h]
def xBh (p q : List Nat) (i : Nat) : Nat := if i < p.length then p.getD i 0 else (xA7 q).getD ((i - p.length) % (xA7 q).length) 0
theorem xLW (p q : List Nat) (i : Nat) : atM p q (i : Nat) = xBh p q i := by
  unfold atM xBh
  have h : ¬ ((i : Int) < 0) := by omega
  simp [h]
theorem yCQ (r : List Nat) (a : Nat) (ha : a < r.length) (t : Nat) (ht : t < r.length) : (r.drop a ++ r.take a).getD t 0 = r.getD ((a + t) % r.length) 0 := by
  by_cases h : t < r.length - a
  · rw [xDR (by simpa using h),xIQ,Nat.mod_eq_of_lt (by omega)]
  · rw [xDv (by simpa using (by omega : r.length - a ≤ t)),xEk (by simp; omega),Nat.mod_eq_sub_mod (by omega),Nat.mod_eq_of_lt (by omega),List.length_drop]
    congr 1; omega
theorem xEu {h : Nat → Nat} {x : Nat} (hp : ∀ t,h (t + x) = h t) : ∀ k t,h (t + k * x) = h t
  | 0,t => by simp
  | k + 1,t => by rw [Nat.succ_mul,← Nat.add_assoc,hp,xEu hp k t]
theorem xWc {h : Nat → Nat} : ∀ x y : Nat,(∀ t,h (t + x) = h t) → (∀ t,h (t + y) = h t) → ∀ t,h (t + Nat.gcd x y) = h t := by
  intro x
  induction x using Nat.strongRecOn with
  | _ x ih =>
    intro y hx hy t
    by_cases h0 : x = 0
    · subst h0; rw [Nat.gcd_zero_left]; exact hy t
    · rw [Nat.gcd_rec]
      refine ih (y % x) (Nat.mod_lt _ (by omega)) x (fun t => ?_) hx t
      have := xEu hx (y / x) (t + y % x)
      rw [← this,show t + y % x + y / x * x = t + y by rw [Nat.add_assoc,Nat.mod_add_div']]
      exact hy t
def yCR (w : List Nat) (p : Nat) : Prop := 0 < p ∧ p ≤ w.length ∧ w.length % p = 0 ∧ (∀ t,t + p < w.length → w.getD t 0 = w.getD (t + p) 0) ∧
  ∀ d,0 < d → d ≤ w.length → w.length % d = 0 → (∀ t,t + d < w.length → w.getD t 0 = w.getD (t + d) 0) → p ≤ d
theorem xIR {w : List Nat} {d : Nat} (h0 : 0 < d) (hd : d ≤ w.length) (h : ∀ t,t + d < w.length → w.getD t 0 = w.getD (t + d) 0) : Bord w w.length (w.length - d) := by
  refine ⟨by omega,fun t ht => ?_⟩
  rw [h t (by omega)]; congr 1; omega
theorem xRR {w : List Nat} {F d : Nat} (hF : Bord w w.length F) (hm : yA1 w w.length F) (h0 : 0 < d) (hd : d ≤ w.length) (hdv : w.length % d = 0) (h : ∀ t,t + d < w.length → w.getD t 0 = w.getD (t + d) 0) :
    w.length - F ≤ d ∧ (w.length % (w.length - F) ≠ 0 → w.length ≤ d) := by
  have h1 := hm _ (xIR h0 hd h)
  have hF1 := hF.1
  refine ⟨by omega,fun hne => ?_⟩
  rcases Nat.lt_or_ge d w.length with hlt | hge
  · exfalso
    obtain ⟨k,hk⟩ := Nat.dvd_of_mod_eq_zero hdv
    have hk2 : 2 ≤ k := by
      rcases Nat.lt_or_ge k 2 with e | e
      · have : k = 0 ∨ k = 1 := by omega
        rcases this with rfl | rfl <;> omega
      · exact e
    have h2d : d + d ≤ w.length := by
      have : d * 2 ≤ d * k := Nat.mul_le_mul_left d hk2
      omega
    have hT : ∀ t,t < w.length → w.getD t 0 = w.getD (t % d) 0 := xRQ (r := []) h0 hd h
    have e1 : ∀ t,w.getD ((t + d) % d) 0 = w.getD (t % d) 0 := fun t => by rw [Nat.add_mod_right]
    have e2 : ∀ t,w.getD ((t + (w.length - F)) % d) 0 = w.getD (t % d) 0 := fun t => by
      have hmd := Nat.mod_lt t h0
      have a1 : (t + (w.length - F)) % d = (t % d + (w.length - F)) % d := by rw [Nat.mod_add_mod]
      rw [a1,← hT _ (by omega),hF.2 (t % d) (by omega)]
      congr 1; omega
    have e3 := xWc (h := fun t => w.getD (t % d) 0) _ _ e2 e1
    have hg0 : 0 < Nat.gcd (w.length - F) d := Nat.gcd_pos_of_pos_right _ h0
    have hgd : Nat.gcd (w.length - F) d ≤ d := Nat.le_of_dvd h0 (Nat.gcd_dvd_right ..)
    have hgp : Nat.gcd (w.length - F) d ≤ w.length - F := Nat.le_of_dvd (by omega) (Nat.gcd_dvd_left ..)
    have h4 := hm _ (xIR hg0 (by omega) (fun t ht => by
      rw [hT t (by omega),hT _ ht]
      exact (e3 t).symm))
    have heq : Nat.gcd (w.length - F) d = w.length - F := by omega
    have hdvd : (w.length - F) ∣ d := heq ▸ Nat.gcd_dvd_right (w.length - F) d
    exact hne (Nat.mod_eq_zero_of_dvd (Nat.dvd_trans hdvd ⟨k,hk⟩))
  · exact hge
theorem yA2 (z : Bool) (w : List Nat) (hw0 : 0 < w.length) (hw : w.length < 1099511627776) :
    ∃ p,yCR w p ∧ L.pcall 83 [xBf z w] = some (xBf z (w.take p)) := by
  obtain ⟨fl,k',h1,h2,h3⟩ := xF8 (z := z) hw (w.length - 1) 1 0 (List.replicate (w.length + 1) 0) (by omega) (by omega) (by simp) (fun j h0 h1 => by
    have : j = 1 := by omega
    subst this
    rw [List.getD_eq_getElem?_getD,List.getElem?_replicate,if_pos (by omega)]
    exact ⟨.zero (by omega),fun b hb => by have := hb.1; show b ≤ 0; omega⟩) (.zero (by omega)) (fun b hb => by have := hb.1; omega)
  change L.loop xJY xUn ⟨xJZ (xBf z w) (.own false 0 0 (w.length + 1) 1) (.int .i64 0) (.int .i64 1),_⟩ = _ at h3
  obtain ⟨hb,hmx⟩ := h2 w.length hw0 (Nat.le_refl _)
  have hb1 := hb.1
  by_cases hd : w.length % (w.length - fl.getD w.length 0) = 0
  · refine ⟨w.length - fl.getD w.length 0,⟨by omega,by omega,hd,fun t ht => ?_,fun d d1 d2 d3 d4 => (xRR hb hmx d1 d2 d3 d4).1⟩,?_⟩
    · rw [hb.2 t (by omega)]; congr 1; omega
    · have hd' : (((w.length % (w.length - fl.getD w.length 0) : Nat) : Int) = 0) := by omega
      rw [yEm,a83,xAB]
      simp (maxSteps := 30000000) (disch := first | assumption | omega | (simp only [WL,AV.isCell] <;> omega) | rfl | decide) only [↓reduceIte,WB,xAL,xAb,xAK,xAp,xAo,AV.cells,AV.isCell,xAa,xAd,xAe,xAr,xAs,xAt,xAu,xAv,xAw,xAJ,xAx,xAy,xAj,xAz,xAk,xAl,xAA,xAm,xAn,xAi,Nat.reduceDiv,Nat.reduceMod,WP,xAG,xAC,xA2,xA0,xAZ,xAF,xAI,xAH,Nat.reduceAdd,Nat.reduceSub,Nat.reduceLeDiff,Nat.reduceMul,Int.reduceAdd,Int.reduceSub,Int.reduceMul,Int.reduceLT,Int.reduceLE,Int.reduceEq,Int.reduceToNat,Int.reduceNeg,Nat.reduceEqDiff,Nat.reduceBEq,Nat.reduceLT,xNt,h3,hd']
      exact congrArg some (xEN (by rw [List.length_take,Nat.min_eq_left (by omega)]))
  · refine ⟨w.length,⟨hw0,Nat.le_refl _,Nat.mod_self _,fun t ht => (by omega),fun d d1 d2 d3 d4 => (xRR hb hmx d1 d2 d3 d4).2 hd⟩,?_⟩
    have hd' : ¬ (((w.length % (w.length - fl.getD w.length 0) : Nat) : Int) = 0) := by omega
    rw [yEm,a83,xAB]
    simp (maxSteps := 30000000) (disch := first | assumption | omega | (simp only [WL,AV.isCell] <;> omega) | rfl | decide) only [↓reduceIte,WB,xAL,xAb,xAK,xAp,xAo,AV.cells,AV.isCell,xAa,xAd,xAe,xAr,xAs,xAt,xAu,xAv,xAw,xAJ,xAx,xAy,xAj,xAz,xAk,xAl,xAA,xAm,xAn,xAi,Nat.reduceDiv,Nat.reduceMod,WP,xAG,xAC,xA2,xA0,xAZ,xAF,xAI,xAH,Nat.reduceAdd,Nat.reduceSub,Nat.reduceLeDiff,Nat.reduceMul,Int.reduceAdd,Int.reduceSub,Int.reduceMul,Int.reduceLT,Int.reduceLE,Int.reduceEq,Int.reduceToNat,Int.reduceNeg,Nat.reduceEqDiff,Nat.reduceBEq,Nat.reduceLT,xNt,h3,hd']
theorem xWd (w : List Nat) (hw : w.length < 1099511627776) : xBs L 72 [xBf false w] = some (.own false 0 0 w.length 1,[.cells false false (bs w)]) ∧ xBs L 72 [.sl true 0 []] = some (.sl true 0 [],[]) := by
  constructor
  · rw [xBJ,yEl,a72,xBQ]
    simp (maxSteps := 30000000) (disch := first | assumption | omega | (simp only [WL,AV.isCell] <;> omega) | rfl | decide) only [↓reduceIte,WB,xAL,xAb,xAK,xAp,xAo,AV.cells,AV.isCell,xAa,xAd,xAe,xAr,xAs,xAt,xAu,xAv,xAw,xAJ,xAx,xAy,xAj,xAz,xAk,xAl,xAA,xAm,xAn,xAi,Nat.reduceDiv,Nat.reduceMod,WP,xAG,xAC,xA2,xA0,xAZ,xAF,xAI,xAH,Nat.reduceAdd,Nat.reduceSub,Nat.reduceLeDiff,Nat.reduceMul,Int.reduceAdd,Int.reduceSub,Int.reduceMul,Int.reduceLT,Int.reduceLE,Int.reduceEq,Int.reduceToNat,Int.reduceNeg,Nat.reduceEqDiff,Nat.reduceBEq,Nat.reduceLT,List.length_take,List.take_zero,List.drop_zero,List.take_length,Nat.zero_mul]
  · rw [xBJ,yEl,a72,xBQ]
    simp (maxSteps := 30000000) (disch := first | assumption | omega | (simp only [WL,AV.isCell] <;> omega) | rfl | decide) only [↓reduceIte,WB,xAL,xAb,xAK,xAp,xAo,AV.cells,AV.isCell,xAa,xAd,xAe,xAr,xAs,xAt,xAu,xAv,xAw,xAJ,xAx,xAy,xAj,xAz,xAk,xAl,xAA,xAm,xAn,xAi,Nat.reduceDiv,Nat.reduceMod,WP,xAG,xAC,xA2,xA0,xAZ,xAF,xAI,xAH,Nat.reduceAdd,Nat.reduceSub,Nat.reduceLeDiff,Nat.reduceMul,Int.reduceAdd,Int.reduceSub,Int.reduceMul,Int.reduceLT,Int.reduceLE,Int.reduceEq,Int.reduceToNat,Int.reduceNeg,Nat.reduceEqDiff,Nat.reduceBEq,Nat.reduceLT]
set_option maxHeartbeats 1000000 in
theorem xS2 (z1 z2 : Bool) (a b : List Nat) (ha : a.length < 1099511627776) (hb : b.length < 1099511627776) (h0 : ¬ a.length + b.length = 0) : xBs L 76 [.sl false 2 [xBf z1 a,xBf z2 b]] = some (.own false 0 0 (a.length + b.length) 1,[.cells false false (bs (a ++ b))]) := by
  have hbeq : (a.length + b.length == 0) = false := by simpa using h0
  have hn0 : (0 : Int) < ((a.length + b.length : Nat) : Int) := by omega
  rw [xBJ,yE0,a76,xBQ]
  simp (maxSteps := 30000000) (disch := first | assumption | omega | (simp only [WL,AV.isCell] <;> omega) | rfl | decide) only [↓reduceIte,WB,xAL,xAb,xAK,xAp,xAo,AV.cells,AV.isCell,xAa,xAd,xAe,xAr,xAs,xAt,xAu,xAv,xAw,xAJ,xAx,xAy,xAj,xAz,xAk,xAl,xAA,xAm,xAn,xAi,Nat.reduceDiv,Nat.reduceMod,WP,xAG,xAC,xA2,xA0,xAZ,xAF,xAI,xAH,Nat.reduceAdd,Nat.reduceSub,Nat.reduceLeDiff,Nat.reduceMul,Int.reduceAdd,Int.reduceSub,Int.reduceMul,Int.reduceLT,Int.reduceLE,Int.reduceEq,Int.reduceToNat,Int.reduceNeg,Nat.reduceEqDiff,Nat.reduceBEq,Nat.reduceLT,yBS,yBT,xUi,yBU,yBV,xUk,yE9,a96,hn0,hbeq]
end Go.Abs.Mealy
/- Canonical: the shortest form,by what the lasso denotes. -/
namespace Go.Abs.Mealy
set_option linter.unusedVariables false
set_option linter.unusedSimpArgs false
open Go Go.Abs
def xDK (p r : List Nat) : Nat → Nat → Nat × Nat
  | 0,at_ => (0,at_)
  | n + 1,at_ => if p.getD n 0 = r.getD (at_ - 1) 0 then xDK p r n (if at_ - 1 = 0 then r.length else at_ - 1) else (n + 1,at_)
theorem xF9 (z : Bool) (zz : Bool) (p r : List Nat) (q1 : AV) (b1 : Blk) (hr : 0 < r.length) (hr2 : r.length < 1099511627776) (hp : p.length < 1099511627776) : ∀ n a,n ≤ p.length → 0 < a → a ≤ r.length →
    L.loop xM6 xXp ⟨xM7 (.ptr 0 0) (.ptr 1 0) (xBf z r) (.int .i64 (n : Nat)) (.int .i64 (a : Nat)),[.cells false false [xBf zz p,q1],b1]⟩ =
      some (.exit 0,⟨xM7 (.ptr 0 0) (.ptr 1 0) (xBf z r) (.int .i64 ((xDK p r n a).1 : Nat)) (.int .i64 ((xDK p r n a).2 : Nat)),[.cells false false [xBf zz p,q1],b1]⟩)
  | 0,a,hn,ha,har => by
    rw [xYx]
    simp (maxSteps := 30000000) (disch := first | assumption | omega | (simp only [WL,AV.isCell] <;> omega) | rfl | decide) only [↓reduceIte,WB,xAL,xAb,xAK,xAp,xAo,AV.cells,AV.isCell,xAa,xAd,xAe,xAr,xAs,xAt,xAu,xAv,xAw,xAJ,xAx,xAy,xAj,xAz,xAk,xAl,xAA,xAm,xAn,xAi,Nat.reduceDiv,Nat.reduceMod,WP,xAG,xAC,xA2,xA0,xAZ,xAF,xAI,xAH,Nat.reduceAdd,Nat.reduceSub,Nat.reduceLeDiff,Nat.reduceMul,Int.reduceAdd,Int.reduceSub,Int.reduceMul,Int.reduceLT,Int.reduceLE,Int.reduceEq,Int.reduceToNat,Int.reduceNeg,Nat.reduceEqDiff,Nat.reduceBEq,Nat.reduceLT,xJN,xJO,xDK]
  | n + 1,a,hn,ha,har => by
    have h0 : (0 : Int) < ((n + 1 : Nat) : Int) := by omega
    have hm : (a - 1) % r.length = a - 1 := Nat.mod_eq_of_lt (by omega)
    rw [xYx]
    unfold xDK
    by_cases he : p.getD n 0 = r.getD (a - 1) 0
    · have heq : (((p.getD n 0 : Nat) : Int) = ((r.getD (a - 1) 0 : Nat) : Int)) = True := eq_true (by omega)
      by_cases h1 : a - 1 = 0
      · have ih := xF9 z zz p r q1 b1 hr hr2 hp n r.length (by omega) hr (Nat.le_refl _)
        have h1' : ((a - 1 : Nat) : Int) = 0 := by omega
        simp (maxSteps := 30000000) (disch := first | assumption | omega | (simp only [WL,AV.isCell] <;> omega) | rfl | decide) only [↓reduceIte,WB,xAL,xAb,xAK,xAp,xAo,AV.cells,AV.isCell,xAa,xAd,xAe,xAr,xAs,xAt,xAu,xAv,xAw,xAJ,xAx,xAy,xAj,xAz,xAk,xAl,xAA,xAm,xAn,xAi,Nat.reduceDiv,Nat.reduceMod,WP,xAG,xAC,xA2,xA0,xAZ,xAF,xAI,xAH,Nat.reduceAdd,Nat.reduceSub,Nat.reduceLeDiff,Nat.reduceMul,Int.reduceAdd,Int.reduceSub,Int.reduceMul,Int.reduceLT,Int.reduceLE,Int.reduceEq,Int.reduceToNat,Int.reduceNeg,Nat.reduceEqDiff,Nat.reduceBEq,Nat.reduceLT,xJN,xJO,h0,hm,heq,he,h1,h1',Nat.add_sub_cancel,ih]
      · have ih := xF9 z zz p r q1 b1 hr hr2 hp n (a - 1) (by omega) (by omega) (by omega)
        have h1' : ¬ ((a - 1 : Nat) : Int) = 0 := by omega
        simp (maxSteps := 30000000) (disch := first | assumption | omega | (simp only [WL,AV.isCell] <;> omega) | rfl | decide) only [↓reduceIte,WB,xAL,xAb,xAK,xAp,xAo,AV.cells,AV.isCell,xAa,xAd,xAe,xAr,xAs,xAt,xAu,xAv,xAw,xAJ,xAx,xAy,xAj,xAz,xAk,xAl,xAA,xAm,xAn,xAi,Nat.reduceDiv,Nat.reduceMod,WP,xAG,xAC,xA2,xA0,xAZ,xAF,xAI,xAH,Nat.reduceAdd,Nat.reduceSub,Nat.reduceLeDiff,Nat.reduceMul,Int.reduceAdd,Int.reduceSub,Int.reduceMul,Int.reduceLT,Int.reduceLE,Int.reduceEq,Int.reduceToNat,Int.reduceNeg,Nat.reduceEqDiff,Nat.reduceBEq,Nat.reduceLT,xJN,xJO,h0,hm,heq,he,h1,h1',Nat.add_sub_cancel,ih]
    · have hne : ¬ (((p.getD n 0 : Nat) : Int) = ((r.getD (a - 1) 0 : Nat) : Int)) := by omega
      simp (maxSteps := 30000000) (disch := first | assumption | omega | (simp only [WL,AV.isCell] <;> omega) | rfl | decide) only [↓reduceIte,WB,xAL,xAb,xAK,xAp,xAo,AV.cells,AV.isCell,xAa,xAd,xAe,xAr,xAs,xAt,xAu,xAv,xAw,xAJ,xAx,xAy,xAj,xAz,xAk,xAl,xAA,xAm,xAn,xAi,Nat.reduceDiv,Nat.reduceMod,WP,xAG,xAC,xA2,xA0,xAZ,xAF,xAI,xAH,Nat.reduceAdd,Nat.reduceSub,Nat.reduceLeDiff,Nat.reduceMul,Int.reduceAdd,Int.reduceSub,Int.reduceMul,Int.reduceLT,Int.reduceLE,Int.reduceEq,Int.reduceToNat,Int.reduceNeg,Nat.reduceEqDiff,Nat.reduceBEq,Nat.reduceLT,xJN,xJO,h0,hm,hne,he,Nat.add_sub_cancel]
theorem xK6 (p r : List Nat) (S : Nat → Nat) (hr : 0 < r.length) : ∀ n a,n ≤ p.length → 0 < a → a ≤ r.length → (∀ i,i < n → S i = p.getD i 0) → (∀ j,n ≤ j → S j = r.getD ((a + (j - n)) % r.length) 0) →
    (xDK p r n a).1 ≤ n ∧ 0 < (xDK p r n a).2 ∧ (xDK p r n a).2 ≤ r.length ∧ (∀ i,i < (xDK p r n a).1 → S i = p.getD i 0) ∧ (∀ j,(xDK p r n a).1 ≤ j → S j = r.getD (((xDK p r n a).2 + (j - (xDK p r n a).1)) % r.length) 0)
  | 0,a,hn,h0,ha,h1,h2 => ⟨Nat.le_refl _,h0,ha,h1,h2⟩
  | n + 1,a,hn,h0,ha,h1,h2 => by
    unfold xDK
    by_cases he : p.getD n 0 = r.getD (a - 1) 0
    · rw [if_pos he]
      have hS : ∀ b,(b = a - 1 ∨ b = a - 1 + r.length) → ∀ j,n ≤ j → S j = r.getD ((b + (j - n)) % r.length) 0 := by
        intro b hb j hj
        by_cases hjn : j = n
        · subst hjn
          rw [h1 j (by omega),he,Nat.sub_self,Nat.add_zero]
          rcases hb with rfl | rfl
          · rw [Nat.mod_eq_of_lt (by omega)]
          · rw [Nat.add_mod_right,Nat.mod_eq_of_lt (by omega)]
        · rw [h2 j (by omega)]
          rcases hb with rfl | rfl
          · rw [show a - 1 + (j - n) = a + (j - (n + 1)) by omega]
          · rw [show a - 1 + r.length + (j - n) = a + (j - (n + 1)) + r.length by omega,Nat.add_mod_right]
      have ih := xK6 p r S hr n (if a - 1 = 0 then r.length else a - 1) (by omega) (by split <;> omega) (by split <;> omega) (fun i hi => h1 i (by omega)) (hS _ (by split <;> omega))
      exact ⟨by omega,ih.2⟩
    · rw [if_neg he]
      exact ⟨Nat.le_refl _,h0,ha,h1,h2⟩
theorem xK7 (p r : List Nat) : ∀ n a,(xDK p r n a).1 = 0 ∨ p.getD ((xDK p r n a).1 - 1) 0 ≠ r.getD ((xDK p r n a).2 - 1) 0
  | 0,a => .inl rfl
  | n + 1,a => by
    unfold xDK
    by_cases he : p.getD n 0 = r.getD (a - 1) 0
    · rw [if_pos he]; exact xK7 p r n _
    · rw [if_neg he]; exact .inr (by simpa using he)
theorem xEv {p q : List Nat} {i : Nat} (h : i < p.length) : xBh p q i = p.getD i 0 := if_pos h
theorem xCn {p q : List Nat} {i : Nat} (h : p.length ≤ i) : xBh p q i = (xA7 q).getD ((i - p.length) % (xA7 q).length) 0 := if_neg (by omega)
theorem xCy {q : List Nat} (h : 0 < q.length) : xA7 q = q := if_neg (by intro e; subst e; simp at h)
theorem xWe (p q : List Nat) (i : Nat) : xBh p (xA7 q) i = xBh p q i := by
  unfold xBh
  rw [xCy (xCX q)]
theorem xC8 {p q : List Nat} (hq : 0 < q.length) {i : Nat} (hi : p.length ≤ i) : xBh p q (i + q.length) = xBh p q i := by
  rw [xCn (by omega),xCn hi,xCy hq,show i + q.length - p.length = i - p.length + q.length by omega,Nat.add_mod_right]
def Canon (S : Nat → Nat) (p q : List Nat) : Prop := 0 < q.length ∧ (∀ i,xBh p q i = S i) ∧ (∀ d a,0 < d → (∀ i,a ≤ i → S (i + d) = S i) → q.length ≤ d) ∧ ∀ a,(∀ i,a ≤ i → S (i + q.length) = S i) → p.length ≤ a
theorem xBX {a b : List Nat} (h : a.length = b.length) (k : ∀ i,i < a.length → a.getD i 0 = b.getD i 0) : a = b := by
  apply List.ext_getElem h
  intro i h1 h2
  have := k i h1
  rwa [List.getD_eq_getElem?_getD,List.getD_eq_getElem?_getD,List.getElem?_eq_getElem h1,List.getElem?_eq_getElem h2,Option.getD_some,Option.getD_some] at this
theorem Canon.uniq {S : Nat → Nat} {p q p' q' : List Nat} (h : Canon S p q) (k : Canon S p' q') : p = p' ∧ q = q' := by
  obtain ⟨h1,h2,h3,h4⟩ := h
  obtain ⟨k1,k2,k3,k4⟩ := k
  have e1 := h3 q'.length p'.length k1 (fun i hi => by rw [← k2,← k2,xC8 k1 hi])
  have e2 := k3 q.length p.length h1 (fun i hi => by rw [← h2,← h2,xC8 h1 hi])
  have e : q.length = q'.length := by omega
  have f1 := h4 p'.length (fun i hi => by rw [← k2,← k2,e,xC8 k1 hi])
  have f2 := k4 p.length (fun i hi => by rw [← h2,← h2,← e,xC8 h1 hi])
  have f : p.length = p'.length := by omega
  refine ⟨xBX f fun i hi => ?_,xBX e fun i hi => ?_⟩
  · have := (h2 i).trans (k2 i).symm
    rwa [xEv hi,xEv (by omega)] at this
  · have := (h2 (p.length + i)).trans (k2 (p.length + i)).symm
    rwa [xCn (by omega),xCn (by omega),xCy h1,xCy k1,← f,Nat.add_sub_cancel_left,Nat.mod_eq_of_lt hi,← e,Nat.mod_eq_of_lt hi] at this
theorem xLX {p q : List Nat} {per : Nat} (hR : yCR (xA7 q) per) : ∀ n a,(n,a) = xDK p ((xA7 q).take per) p.length per → n ≤ p.length ∧ 0 < a ∧ a ≤ per ∧
    Canon (xBh p q) (p.take n) (((xA7 q).take per).drop (a % per) ++ ((xA7 q).take per).take (a % per)) := by
  intro n a hsh
  obtain ⟨h1,h2,h3,h4,h5⟩ := hR
  have hfp := xCX q
  have hrl : ((xA7 q).take per).length = per := by rw [List.length_take]; omega
  have hS := xK6 p ((xA7 q).take per) (xBh p q) (by omega) p.length ((xA7 q).take per).length (Nat.le_refl _) (by omega) (Nat.le_refl _) (fun i hi => by simp [xBh,hi]) (fun j hj => by
    unfold xBh
    rw [if_neg (by omega),xRQ (r := []) h1 h2 h4 _ (Nat.mod_lt _ hfp),Nat.mod_mod_of_dvd _ (Nat.dvd_of_mod_eq_zero h3),hrl,Nat.add_mod_left,xEk (Nat.mod_lt _ h1)])
  have hst := xK7 p ((xA7 q).take per) p.length ((xA7 q).take per).length
  rw [hrl,← hsh] at hS hst
  generalize hr : (xA7 q).take per = r at *
  obtain ⟨s1,s2,s3,s4,s5⟩ := hS
  simp only at s1 s2 s3 s4 s5 hst
  have yCa : a % per < per := Nat.mod_lt _ (by omega)
  have hlen : (r.drop (a % per) ++ r.take (a % per)).length = per := by rw [List.length_append,List.length_drop,List.length_take]; omega
  have hne : xA7 (r.drop (a % per) ++ r.take (a % per)) = r.drop (a % per) ++ r.take (a % per) := xCy (by omega)
  have hn : (p.take n).length = n := by rw [List.length_take]; omega
  refine ⟨s1,s2,s3,by omega,fun i => ?_,fun d b hd hb => ?_,fun b hb => ?_⟩
  · unfold xBh
    rw [hne,hlen,hn]
    by_cases hi : i < n
    · rw [if_pos hi,xEk hi,← s4 i hi]
      simp [xBh,show i < p.length by omega]
    · rw [if_neg hi,← hrl,yCQ _ _ (Nat.mod_lt _ (by omega)) _ (Nat.mod_lt _ (by omega)),Nat.add_mod,Nat.mod_mod,Nat.mod_mod,← Nat.add_mod]
      rw [← hrl] at s5
      exact (s5 i (by omega)).symm
  · -- the loop's letters have the period d,so its length's divisor
    rw [hlen]
    have hT : ∀ t,xBh p q (p.length + t) = (xA7 q).getD (t % (xA7 q).length) 0 := fun t => by rw [xCn (by omega),Nat.add_sub_cancel_left]
    have e1 : ∀ t,(fun t => xBh p q (p.length + t)) (t + (xA7 q).length) = (fun t => xBh p q (p.length + t)) t := fun t => by simp only [hT,Nat.add_mod_right]
    have e2 : ∀ t,(fun t => xBh p q (p.length + t)) (t + d) = (fun t => xBh p q (p.length + t)) t := fun t => by
      have m1 := xEu (h := fun t => xBh p q (p.length + t)) e1 b (t + d)
      have m2 := xEu (h := fun t => xBh p q (p.length + t)) e1 b t
      simp only at m1 m2 ⊢
      have hbn : b ≤ b * (xA7 q).length := Nat.le_mul_of_pos_right _ hfp
      have := hb (p.length + (t + b * (xA7 q).length)) (by omega)
      rw [← m1,← m2,← this]
      congr 1; omega
    have e3 := xWc (h := fun t => xBh p q (p.length + t)) _ _ e2 e1
    have hg0 : 0 < Nat.gcd d (xA7 q).length := Nat.gcd_pos_of_pos_left _ hd
    have hgd : Nat.gcd d (xA7 q).length ≤ d := Nat.le_of_dvd hd (Nat.gcd_dvd_left ..)
    have := h5 (Nat.gcd d (xA7 q).length) hg0 (Nat.le_of_dvd hfp (Nat.gcd_dvd_right ..)) (Nat.mod_eq_zero_of_dvd (Nat.gcd_dvd_right ..)) (fun t ht => by
      have := e3 t
      simp only [hT] at this
      rw [Nat.mod_eq_of_lt ht,Nat.mod_eq_of_lt (by omega)] at this
      exact this.symm)
    omega
  · rw [hn]
    rw [hlen] at hb
    rcases hst with h0 | hne'
    · omega
    · rcases Nat.lt_or_ge b n with hlt | hge
      · exfalso
        have k1 := hb (n - 1) (by omega)
        rw [s4 (n - 1) (by omega),s5 (n - 1 + per) (by omega),show a + (n - 1 + per - n) = a - 1 + per by omega,Nat.add_mod_right,Nat.mod_eq_of_lt (by omega)] at k1
        exact hne' k1.symm
      · exact hge
theorem xYi (q : List Nat) (hq : q.length < 1099511627776) : (xA7 q).length < 1099511627776 := by rw [xCY]; omega
set_option maxHeartbeats 4000000 in
theorem xWf (z2 : Bool) (p q : List Nat) (hp : p.length < 1099511627776) (hq : q.length < 1099511627776) :
    ∃ p' q',Canon (xBh p q) p' q' ∧ p'.length ≤ p.length ∧ q'.length ≤ (xA7 q).length ∧
      L.pcall 49 [las false z2 p q] = some (las false false p' q') ∧
      xBs L 49 [las false z2 p q] = some (.agg [.own false 0 0 p'.length 1,.own false 1 0 q'.length 1],[.cells false false (bs p'),.cells false false (bs q')]) := by
  obtain ⟨z,hfull⟩ := xWb false z2 p q
  have hfl := xCY q
  have hfp := xCX q
  have hfq := xYi q hq
  obtain ⟨per,hR,h5⟩ := yA2 z (xA7 q) hfp (by omega)
  have hC := xLX (p := p) hR
  obtain ⟨h1,h2,h3,h4,-⟩ := hR
  have hrl : ((xA7 q).take per).length = per := by rw [List.length_take]; omega
  generalize hr : (xA7 q).take per = r at *
  have hl := xF9 z false p r (xBf z (xA7 q)) (.cells false false [.sl true 0 [],.sl true 0 []]) (by omega) (by omega) hp p.length r.length (Nat.le_refl _) (by omega) (Nat.le_refl _)
  rw [hrl] at hl
  generalize hsh : xDK p r p.length per = s at *
  obtain ⟨n,a⟩ := s
  obtain ⟨c1,c2,c3,c4⟩ := hC n a rfl
  simp only at hl
  have yCa : a % per < per := Nat.mod_lt _ (by omega)
  have hlen : (r.drop (a % per) ++ r.take (a % per)).length = per := by rw [List.length_append,List.length_drop,List.length_take]; omega
  have hn : (p.take n).length = n := by rw [List.length_take]; omega
  have hc := (xWd (p.take n) (by omega)).1
  have hcc := xS2 z z (r.drop (a % per)) (r.take (a % per)) (by rw [List.length_drop]; omega) (by rw [List.length_take]; omega) (by rw [← List.length_append]; omega)
  rw [← List.length_append,hlen] at hcc
  have hc' : xBs L 72 [.sl false n (bs (p.take n))] = some (.own false 0 0 n 1,[.cells false false (bs (p.take n))]) := by
    unfold xBf at hc
    rwa [hn] at hc
  have hcc' : xBs L 76 [.sl false 2 [.sl z (per - a % per) (bs (r.drop (a % per))),.sl z (a % per) (bs (r.take (a % per)))]] = some (.own false 0 0 per 1,[.cells false false (bs (r.drop (a % per) ++ r.take (a % per)))]) := by
    rw [xEN (by rw [List.length_drop]; omega),xEN (by rw [List.length_take]; omega)]; exact hcc
  have htk : List.take (per - a % per) (List.drop (a % per) r) = List.drop (a % per) r := List.take_of_length_le (by rw [List.length_drop]; omega)
  refine ⟨p.take n,r.drop (a % per) ++ r.take (a % per),c4,by omega,by omega,?_,?_⟩
  · rw [yEJ,a49,xAB]
    simp (maxSteps := 30000000) (disch := first | assumption | omega | (simp only [WL,AV.isCell] <;> omega) | rfl | decide) only [↓reduceIte,WB,xAL,xAb,xAK,xAp,xAo,AV.cells,AV.isCell,xAa,xAd,xAe,xAr,xAs,xAt,xAu,xAv,xAw,xAJ,xAx,xAy,xAj,xAz,xAk,xAl,xAA,xAm,xAn,xAi,Nat.reduceDiv,Nat.reduceMod,WP,xAG,xAC,xA2,xA0,xAZ,xAF,xAI,xAH,Nat.reduceAdd,Nat.reduceSub,Nat.reduceLeDiff,Nat.reduceMul,Int.reduceAdd,Int.reduceSub,Int.reduceMul,Int.reduceLT,Int.reduceLE,Int.reduceEq,Int.reduceToNat,Int.reduceNeg,Nat.reduceEqDiff,Nat.reduceBEq,Nat.reduceLT,hfull,h5,hrl,xJO,hl,hc',htk,hcc']
    rw [List.take_of_length_le (by omega : (p.take n).length ≤ n),List.take_of_length_le (by omega : (r.drop (a % per) ++ r.take (a % per)).length ≤ per),xEN hn,xEN hlen]
  · rw [xBJ,yEK,a49,xBQ]
    simp (maxSteps := 30000000) (disch := first | assumption | omega | (simp only [WL,AV.isCell] <;> omega) | rfl | decide) only [↓reduceIte,WB,xAL,xAb,xAK,xAp,xAo,AV.cells,AV.isCell,xAa,xAd,xAe,xAr,xAs,xAt,xAu,xAv,xAw,xAJ,xAx,xAy,xAj,xAz,xAk,xAl,xAA,xAm,xAn,xAi,Nat.reduceDiv,Nat.reduceMod,WP,xAG,xAC,xA2,xA0,xAZ,xAF,xAI,xAH,Nat.reduceAdd,Nat.reduceSub,Nat.reduceLeDiff,Nat.reduceMul,Int.reduceAdd,Int.reduceSub,Int.reduceMul,Int.reduceLT,Int.reduceLE,Int.reduceEq,Int.reduceToNat,Int.reduceNeg,Nat.reduceEqDiff,Nat.reduceBEq,Nat.reduceLT,hfull,h5,hrl,xJO,hl,hc',htk,hcc']
    rw [hn,← List.length_append,hlen]
end Go.Abs.Mealy
/- The reference's small functions. -/
namespace Go.Abs.Mealy
set_option linter.unusedVariables false
set_option linter.unusedSimpArgs false
open Go Go.Abs
theorem xG2 (z1 z2 : Bool) (p q : List Nat) : ∃ z,L.pcall 86 [las z1 z2 p q] = some (las z1 z p (xA7 q)) := by
  rw [yE4,a86,xAB]
  by_cases hq : q = []
  · subst hq
    refine ⟨false,?_⟩
    simp (maxSteps := 30000000) (disch := first | assumption | omega | (simp only [WL,AV.isCell] <;> omega) | rfl | decide) only [↓reduceIte,WB,xAL,xAb,xAK,xAp,xAo,AV.cells,AV.isCell,xAa,xAd,xAe,Nat.reduceAdd,Nat.reduceSub,Nat.reduceLeDiff,Nat.reduceMul,Int.reduceAdd,Int.reduceSub,Int.reduceMul,Int.reduceLT,Int.reduceLE,Int.reduceEq,Int.reduceToNat,Int.reduceNeg,Nat.reduceEqDiff,Nat.reduceBEq,Nat.reduceLT,bs,xC6]
    rfl
  · refine ⟨z2,?_⟩
    have hl : ¬ ((q.length : Int) = 0) := by
      have : q.length ≠ 0 := by simpa using hq
      omega
    simp (maxSteps := 30000000) (disch := first | assumption | omega | (simp only [WL,AV.isCell] <;> omega) | rfl | decide) only [↓reduceIte,WB,xAL,xAb,xAK,xAp,xAo,AV.cells,AV.isCell,xAa,xAd,xAe,Nat.reduceAdd,Nat.reduceSub,Nat.reduceLeDiff,Nat.reduceMul,Int.reduceAdd,Int.reduceSub,Int.reduceMul,Int.reduceLT,Int.reduceLE,Int.reduceEq,Int.reduceToNat,Int.reduceNeg,Nat.reduceEqDiff,Nat.reduceBEq,Nat.reduceLT,hl,xA7,if_neg hq]
theorem xWg (z1 z2 : Bool) (p q : List Nat) (i : Int) (hp : p.length < 1099511627776) (hq : q.length < 1099511627776) (h1 : -9223372036854775808 ≤ i) (h2 : i < 9223372036854775808) :
    L.pcall 89 [las z1 z2 p q,.int .i64 i] = some (.int .i64 (xC7 p.length q.length i)) := by
  obtain ⟨z,hfull⟩ := xG2 z1 z2 p q
  have hfl := xCY q
  have hfp := xCX q
  rw [yE6,a89,xAB]
  unfold xC7
  by_cases hneg : i < 0
  · have hlt : i < p.length := by omega
    have hm : max i 0 = 0 := by omega
    simp (maxSteps := 30000000) (disch := first | assumption | omega | (simp only [WL,AV.isCell] <;> omega) | rfl | decide) only [↓reduceIte,WB,xAL,xAb,xAK,xAp,xAo,AV.cells,AV.isCell,xAa,xAd,xAe,Nat.reduceAdd,Nat.reduceSub,Nat.reduceLeDiff,Nat.reduceMul,Int.reduceAdd,Int.reduceSub,Int.reduceMul,Int.reduceLT,Int.reduceLE,Int.reduceEq,Int.reduceToNat,Int.reduceNeg,Nat.reduceEqDiff,Nat.reduceBEq,Nat.reduceLT,hfull,hneg,hlt,hm]
  · by_cases hlt : i < p.length
    · have hm : max i 0 = i := by omega
      simp (maxSteps := 30000000) (disch := first | assumption | omega | (simp only [WL,AV.isCell] <;> omega) | rfl | decide) only [↓reduceIte,WB,xAL,xAb,xAK,xAp,xAo,AV.cells,AV.isCell,xAa,xAd,xAe,Nat.reduceAdd,Nat.reduceSub,Nat.reduceLeDiff,Nat.reduceMul,Int.reduceAdd,Int.reduceSub,Int.reduceMul,Int.reduceLT,Int.reduceLE,Int.reduceEq,Int.reduceToNat,Int.reduceNeg,Nat.reduceEqDiff,Nat.reduceBEq,Nat.reduceLT,hfull,hneg,hlt,hm]
    · have hmx : ((max q.length 1 : Nat) : Int) = ((xA7 q).length : Nat) := by rw [hfl]
      have e3 := Int.emod_nonneg (i - p.length) (b := (((xA7 q).length : Nat) : Int)) (by omega)
      have e4 := Int.emod_lt_of_pos (i - p.length) (b := (((xA7 q).length : Nat) : Int)) (by omega)
      have e2 : (i - p.length).tmod (((xA7 q).length : Nat) : Int) = (i - p.length) % (((xA7 q).length : Nat) : Int) := Int.tmod_eq_emod_of_nonneg (by omega)
      have hne : ¬ ((((xA7 q).length : Nat) : Int) = 0) := by omega
      rw [hmx]
      simp (maxSteps := 30000000) (disch := first | assumption | omega | (simp only [WL,AV.isCell] <;> omega) | rfl | decide) only [↓reduceIte,WB,xAL,xAb,xAK,xAp,xAo,AV.cells,AV.isCell,xAa,xAd,xAe,Nat.reduceAdd,Nat.reduceSub,Nat.reduceLeDiff,Nat.reduceMul,Int.reduceAdd,Int.reduceSub,Int.reduceMul,Int.reduceLT,Int.reduceLE,Int.reduceEq,Int.reduceToNat,Int.reduceNeg,Nat.reduceEqDiff,Nat.reduceBEq,Nat.reduceLT,hfull,hneg,hlt,e2,hne]
theorem xWh (z1 z2 : Bool) (p q : List Nat) (i : Int) (hp : p.length < 1099511627776) (hq : q.length < 1099511627776) (h1 : -9223372036854775808 ≤ i) (h2 : i < 9223372036854775808) :
    L.pcall 58 [las z1 z2 p q,.int .i64 i] = some (.int .u8 (atM p q i : Nat)) := by
  obtain ⟨z,hfull⟩ := xG2 z1 z2 p q
  have hfl := xCY q
  have hidx := xWg z1 z p (xA7 q) i (by omega) (by omega) h1 h2
  have hfp := xCX q
  rw [yES,a58,xAB]
  unfold atM
  by_cases hneg : i < 0
  · simp (maxSteps := 30000000) (disch := first | assumption | omega | (simp only [WL,AV.isCell] <;> omega) | rfl | decide) only [↓reduceIte,WB,xAL,xAb,xAK,xAp,xAo,AV.cells,AV.isCell,xAa,xAd,xAe,Nat.reduceAdd,Nat.reduceSub,Nat.reduceLeDiff,Nat.reduceMul,Int.reduceAdd,Int.reduceSub,Int.reduceMul,Int.reduceLT,Int.reduceLE,Int.reduceEq,Int.reduceToNat,Int.reduceNeg,Nat.reduceEqDiff,Nat.reduceBEq,Nat.reduceLT,hneg]
  · by_cases hlt : i < p.length
    · have hi : xC7 p.length (xA7 q).length i = i := by unfold xC7; rw [if_pos hlt]; omega
      simp (maxSteps := 30000000) (disch := first | assumption | omega | (simp only [WL,AV.isCell] <;> omega) | rfl | decide) only [↓reduceIte,WB,xAL,xAb,xAK,xAp,xAo,AV.cells,AV.isCell,xAa,xAd,xAe,Nat.reduceAdd,Nat.reduceSub,Nat.reduceLeDiff,Nat.reduceMul,Int.reduceAdd,Int.reduceSub,Int.reduceMul,Int.reduceLT,Int.reduceLE,Int.reduceEq,Int.reduceToNat,Int.reduceNeg,Nat.reduceEqDiff,Nat.reduceBEq,Nat.reduceLT,hneg,hlt,hfull,hidx,hi]
    · have hi : xC7 p.length (xA7 q).length i = p.length + (((i.toNat - p.length) % (xA7 q).length : Nat) : Int) := by
        unfold xC7
        rw [if_neg hlt,show max (xA7 q).length 1 = (xA7 q).length by omega,show i - (p.length : Int) = ((i.toNat - p.length : Nat) : Int) by omega]
        simp
      have hkl : (i.toNat - p.length) % (xA7 q).length < (xA7 q).length := Nat.mod_lt _ hfp
      generalize hg : (i.toNat - p.length) % (xA7 q).length = k at *
      have hng : ¬ ((p.length : Int) + (k : Nat) < (p.length : Nat)) := by omega
      have hs : IntKind.i64.wrap ((p.length : Int) + (k : Nat) - (p.length : Nat)) = (k : Nat) := by rw [show (p.length : Int) + (k : Nat) - (p.length : Nat) = (k : Nat) by omega]; exact yDs (by omega) (by omega)
      simp (maxSteps := 30000000) (disch := first | assumption | omega | (simp only [WL,AV.isCell] <;> omega) | rfl | decide) only [↓reduceIte,WB,xAL,xAb,xAK,xAp,xAo,AV.cells,AV.isCell,xAa,xAd,xAe,Nat.reduceAdd,Nat.reduceSub,Nat.reduceLeDiff,Nat.reduceMul,Int.reduceAdd,Int.reduceSub,Int.reduceMul,Int.reduceLT,Int.reduceLE,Int.reduceEq,Int.reduceToNat,Int.reduceNeg,Nat.reduceEqDiff,Nat.reduceBEq,Nat.reduceLT,hneg,hlt,hfull,hidx,hi,hng,hs]
      rw [if_neg (by omega),Nat.add_sub_cancel_left]
end Go.Abs.Mealy
/- The reference: repeats. -/
namespace Go.Abs.Mealy
set_option linter.unusedVariables false
set_option linter.unusedSimpArgs false
open Go Go.Abs
theorem xPO (z1 z2 : Bool) (p q : List Nat) (i : Nat) (hp : p.length < 1099511627776) (hq : q.length < 1099511627776) (h2 : i < 9223372036854775808) :
    L.pcall 58 [las z1 z2 p q,.int .i64 (i : Nat)] = some (.int .u8 (xBh p q i : Nat)) := by
  rw [xWh z1 z2 p q i hp hq (by omega) (by omega),xLW]
theorem xRS {z1 z : Bool} {p q : List Nat} {a d : Nat} (hq0 : 0 < q.length) (hp : p.length < 1099511627776) (hq : q.length < 1099511627776) (ha : a < 1099511627776) (hd : d < 1099511627776) : ∀ t i,i + t = max (p.length + q.length) (a + q.length) →
    ∃ i' : Nat,((∀ j,i ≤ j → j < max (p.length + q.length) (a + q.length) → xBh p q j = xBh p q (j + d)) ∧
        L.loop xJ3 xUq ⟨xHP (.int .i64 (a : Nat)) (.int .i64 (d : Nat)) (.ptr 0 0) (.bool false) (.int .i64 (i : Nat)),[.cells false false [xBf z1 p,xBf z q]]⟩ = some (.exit 0,⟨xHP (.int .i64 (a : Nat)) (.int .i64 (d : Nat)) (.ptr 0 0) (.bool false) (.int .i64 (i' : Nat)),[.cells false false [xBf z1 p,xBf z q]]⟩)) ∨
      ((∃ j,i ≤ j ∧ xBh p q j ≠ xBh p q (j + d)) ∧
        L.loop xJ3 xUq ⟨xHP (.int .i64 (a : Nat)) (.int .i64 (d : Nat)) (.ptr 0 0) (.bool false) (.int .i64 (i : Nat)),[.cells false false [xBf z1 p,xBf z q]]⟩ = some (.ret,⟨xHP (.int .i64 (a : Nat)) (.int .i64 (d : Nat)) (.ptr 0 0) (.bool false) (.int .i64 (i' : Nat)),[.cells false false [xBf z1 p,xBf z q]]⟩))
  | 0,i,h => by
    refine ⟨i,.inl ⟨fun j h1 h2 => by omega,?_⟩⟩
    have c1 : ¬ ((i : Nat) : Int) < ((p.length + q.length : Nat) : Int) := by omega
    have c2 : ¬ ((i : Nat) : Int) < ((a + q.length : Nat) : Int) := by omega
    rw [xQx]
    simp (maxSteps := 30000000) (disch := first | assumption | omega | (simp only [WL,AV.isCell] <;> omega) | rfl | decide) only [↓reduceIte,WB,xAL,xAb,xAK,xAp,xAo,AV.cells,AV.isCell,xAa,xAd,xAe,xAr,xAs,xAt,xAu,xAv,xAw,xAJ,xAx,xAy,xAj,xAz,xAk,xAl,xAA,xAm,xAn,xAi,Nat.reduceDiv,Nat.reduceMod,WP,xAG,xAC,xA2,xA0,xAZ,xAF,xAI,xAH,Nat.reduceAdd,Nat.reduceSub,Nat.reduceLeDiff,Nat.reduceMul,Int.reduceAdd,Int.reduceSub,Int.reduceMul,Int.reduceLT,Int.reduceLE,Int.reduceEq,Int.reduceToNat,Int.reduceNeg,Nat.reduceEqDiff,Nat.reduceBEq,Nat.reduceLT,xFm,xFn,c1,c2]
  | t + 1,i,h => by
    have h1 := xPO z1 z p q i hp hq (by omega)
    have h2 := xPO z1 z p q (i + d) hp hq (by omega)
    by_cases e : xBh p q i = xBh p q (i + d)
    · have he : (((xBh p q i : Nat) : Int) = ((xBh p q (i + d) : Nat) : Int)) = True := eq_true (by omega)
      obtain ⟨i',ih⟩ := xRS (z1 := z1) (z := z) hq0 hp hq ha hd t (i + 1) (by omega)
      refine ⟨i',?_⟩
      rcases ih with ⟨g1,g2⟩ | ⟨⟨j,g0,g1⟩,g2⟩
      · refine .inl ⟨fun j h1 h2 => ?_,?_⟩
        · by_cases hj : j = i
          · subst hj; exact e
          · exact g1 j (by omega) h2
        · rw [xQx]
          by_cases c1 : ((i : Nat) : Int) < ((p.length + q.length : Nat) : Int)
          · simp (maxSteps := 30000000) (disch := first | assumption | omega | (simp only [WL,AV.isCell] <;> omega) | rfl | decide) only [↓reduceIte,WB,xAL,xAb,xAK,xAp,xAo,AV.cells,AV.isCell,xAa,xAd,xAe,xAr,xAs,xAt,xAu,xAv,xAw,xAJ,xAx,xAy,xAj,xAz,xAk,xAl,xAA,xAm,xAn,xAi,Nat.reduceDiv,Nat.reduceMod,WP,xAG,xAC,xA2,xA0,xAZ,xAF,xAI,xAH,Nat.reduceAdd,Nat.reduceSub,Nat.reduceLeDiff,Nat.reduceMul,Int.reduceAdd,Int.reduceSub,Int.reduceMul,Int.reduceLT,Int.reduceLE,Int.reduceEq,Int.reduceToNat,Int.reduceNeg,Nat.reduceEqDiff,Nat.reduceBEq,Nat.reduceLT,xFm,xFn,c1,h1,h2,he,g2]
          · have c2 : ((i : Nat) : Int) < ((a + q.length : Nat) : Int) := by omega
            simp (maxSteps := 30000000) (disch := first | assumption | omega | (simp only [WL,AV.isCell] <;> omega) | rfl | decide) only [↓reduceIte,WB,xAL,xAb,xAK,xAp,xAo,AV.cells,AV.isCell,xAa,xAd,xAe,xAr,xAs,xAt,xAu,xAv,xAw,xAJ,xAx,xAy,xAj,xAz,xAk,xAl,xAA,xAm,xAn,xAi,Nat.reduceDiv,Nat.reduceMod,WP,xAG,xAC,xA2,xA0,xAZ,xAF,xAI,xAH,Nat.reduceAdd,Nat.reduceSub,Nat.reduceLeDiff,Nat.reduceMul,Int.reduceAdd,Int.reduceSub,Int.reduceMul,Int.reduceLT,Int.reduceLE,Int.reduceEq,Int.reduceToNat,Int.reduceNeg,Nat.reduceEqDiff,Nat.reduceBEq,Nat.reduceLT,xFm,xFn,c1,c2,h1,h2,he,g2]
      · refine .inr ⟨⟨j,by omega,g1⟩,?_⟩
        rw [xQx]
        by_cases c1 : ((i : Nat) : Int) < ((p.length + q.length : Nat) : Int)
        · simp (maxSteps := 30000000) (disch := first | assumption | omega | (simp only [WL,AV.isCell] <;> omega) | rfl | decide) only [↓reduceIte,WB,xAL,xAb,xAK,xAp,xAo,AV.cells,AV.isCell,xAa,xAd,xAe,xAr,xAs,xAt,xAu,xAv,xAw,xAJ,xAx,xAy,xAj,xAz,xAk,xAl,xAA,xAm,xAn,xAi,Nat.reduceDiv,Nat.reduceMod,WP,xAG,xAC,xA2,xA0,xAZ,xAF,xAI,xAH,Nat.reduceAdd,Nat.reduceSub,Nat.reduceLeDiff,Nat.reduceMul,Int.reduceAdd,Int.reduceSub,Int.reduceMul,Int.reduceLT,Int.reduceLE,Int.reduceEq,Int.reduceToNat,Int.reduceNeg,Nat.reduceEqDiff,Nat.reduceBEq,Nat.reduceLT,xFm,xFn,c1,h1,h2,he,g2]
        · have c2 : ((i : Nat) : Int) < ((a + q.length : Nat) : Int) := by omega
          simp (maxSteps := 30000000) (disch := first | assumption | omega | (simp only [WL,AV.isCell] <;> omega) | rfl | decide) only [↓reduceIte,WB,xAL,xAb,xAK,xAp,xAo,AV.cells,AV.isCell,xAa,xAd,xAe,xAr,xAs,xAt,xAu,xAv,xAw,xAJ,xAx,xAy,xAj,xAz,xAk,xAl,xAA,xAm,xAn,xAi,Nat.reduceDiv,Nat.reduceMod,WP,xAG,xAC,xA2,xA0,xAZ,xAF,xAI,xAH,Nat.reduceAdd,Nat.reduceSub,Nat.reduceLeDiff,Nat.reduceMul,Int.reduceAdd,Int.reduceSub,Int.reduceMul,Int.reduceLT,Int.reduceLE,Int.reduceEq,Int.reduceToNat,Int.reduceNeg,Nat.reduceEqDiff,Nat.reduceBEq,Nat.reduceLT,xFm,xFn,c1,c2,h1,h2,he,g2]
    · have he : ¬ (((xBh p q i : Nat) : Int) = ((xBh p q (i + d) : Nat) : Int)) := by omega
      refine ⟨i,.inr ⟨⟨i,Nat.le_refl _,e⟩,?_⟩⟩
      rw [xQx]
      by_cases c1 : ((i : Nat) : Int) < ((p.length + q.length : Nat) : Int)
      · simp (maxSteps := 30000000) (disch := first | assumption | omega | (simp only [WL,AV.isCell] <;> omega) | rfl | decide) only [↓reduceIte,WB,xAL,xAb,xAK,xAp,xAo,AV.cells,AV.isCell,xAa,xAd,xAe,xAr,xAs,xAt,xAu,xAv,xAw,xAJ,xAx,xAy,xAj,xAz,xAk,xAl,xAA,xAm,xAn,xAi,Nat.reduceDiv,Nat.reduceMod,WP,xAG,xAC,xA2,xA0,xAZ,xAF,xAI,xAH,Nat.reduceAdd,Nat.reduceSub,Nat.reduceLeDiff,Nat.reduceMul,Int.reduceAdd,Int.reduceSub,Int.reduceMul,Int.reduceLT,Int.reduceLE,Int.reduceEq,Int.reduceToNat,Int.reduceNeg,Nat.reduceEqDiff,Nat.reduceBEq,Nat.reduceLT,xFm,xFn,c1,h1,h2,he]
      · have c2 : ((i : Nat) : Int) < ((a + q.length : Nat) : Int) := by omega
        simp (maxSteps := 30000000) (disch := first | assumption | omega | (simp only [WL,AV.isCell] <;> omega) | rfl | decide) only [↓reduceIte,WB,xAL,xAb,xAK,xAp,xAo,AV.cells,AV.isCell,xAa,xAd,xAe,xAr,xAs,xAt,xAu,xAv,xAw,xAJ,xAx,xAy,xAj,xAz,xAk,xAl,xAA,xAm,xAn,xAi,Nat.reduceDiv,Nat.reduceMod,WP,xAG,xAC,xA2,xA0,xAZ,xAF,xAI,xAH,Nat.reduceAdd,Nat.reduceSub,Nat.reduceLeDiff,Nat.reduceMul,Int.reduceAdd,Int.reduceSub,Int.reduceMul,Int.reduceLT,Int.reduceLE,Int.reduceEq,Int.reduceToNat,Int.reduceNeg,Nat.reduceEqDiff,Nat.reduceBEq,Nat.reduceLT,xFm,xFn,c1,c2,h1,h2,he]
theorem xK8 (z1 z2 : Bool) (p q : List Nat) (a d : Nat) (hq0 : 0 < q.length) (hp : p.length < 1099511627776) (hq : q.length < 1099511627776) (ha : a < 1099511627776) (hd : d < 1099511627776) :
    ∃ b : Bool,L.pcall 87 [las z1 z2 p q,.int .i64 (a : Nat),.int .i64 (d : Nat)] = some (.bool b) ∧ (b = true ↔ ∀ i,a ≤ i → xBh p q (i + d) = xBh p q i) := by
  obtain ⟨z,hfull⟩ := xG2 z1 z2 p q
  rw [xCy hq0] at hfull
  obtain ⟨i',h⟩ := xRS (z1 := z1) (z := z) (a := a) (d := d) hq0 hp hq ha hd (max (p.length + q.length) (a + q.length) - a) a (by omega)
  rcases h with ⟨h1,h2⟩ | ⟨⟨j,h0,h1⟩,h2⟩
  · refine ⟨true,?_,⟨fun _ => ?_,fun _ => rfl⟩⟩
    · rw [yEo,a87,xAB]
      simp (maxSteps := 30000000) (disch := first | assumption | omega | (simp only [WL,AV.isCell] <;> omega) | rfl | decide) only [↓reduceIte,WB,xAL,xAb,xAK,xAp,xAo,AV.cells,AV.isCell,xAa,xAd,xAe,xAr,xAs,xAt,xAu,xAv,xAw,xAJ,xAx,xAy,xAj,xAz,xAk,xAl,xAA,xAm,xAn,xAi,Nat.reduceDiv,Nat.reduceMod,WP,xAG,xAC,xA2,xA0,xAZ,xAF,xAI,xAH,Nat.reduceAdd,Nat.reduceSub,Nat.reduceLeDiff,Nat.reduceMul,Int.reduceAdd,Int.reduceSub,Int.reduceMul,Int.reduceLT,Int.reduceLE,Int.reduceEq,Int.reduceToNat,Int.reduceNeg,Nat.reduceEqDiff,Nat.reduceBEq,Nat.reduceLT,hfull,xFn,h2]
    · -- beyond the range by the loop's own period
      intro i
      induction i using Nat.strongRecOn with
      | _ i ih =>
        intro hi
        by_cases hlt : i < max (p.length + q.length) (a + q.length)
        · exact (h1 i hi hlt).symm
        · have k := ih (i - q.length) (by omega) (by omega)
          have k1 := xC8 (p := p) hq0 (i := i - q.length) (by omega)
          have k2 := xC8 (p := p) hq0 (i := i - q.length + d) (by omega)
          rw [show i - q.length + q.length = i by omega] at k1
          rw [show i - q.length + d + q.length = i + d by omega] at k2
          rw [k1,k2,k]
  · refine ⟨false,?_,⟨fun h => (nomatch h),fun h => absurd (h j h0).symm h1⟩⟩
    rw [yEo,a87,xAB]
    simp (maxSteps := 30000000) (disch := first | assumption | omega | (simp only [WL,AV.isCell] <;> omega) | rfl | decide) only [↓reduceIte,WB,xAL,xAb,xAK,xAp,xAo,AV.cells,AV.isCell,xAa,xAd,xAe,xAr,xAs,xAt,xAu,xAv,xAw,xAJ,xAx,xAy,xAj,xAz,xAk,xAl,xAA,xAm,xAn,xAi,Nat.reduceDiv,Nat.reduceMod,WP,xAG,xAC,xA2,xA0,xAZ,xAF,xAI,xAH,Nat.reduceAdd,Nat.reduceSub,Nat.reduceLeDiff,Nat.reduceMul,Int.reduceAdd,Int.reduceSub,Int.reduceMul,Int.reduceLT,Int.reduceLE,Int.reduceEq,Int.reduceToNat,Int.reduceNeg,Nat.reduceEqDiff,Nat.reduceBEq,Nat.reduceLT,hfull,xFn,h2]
def xBV (f : Nat → Nat) (n : Nat) : List Nat := (List.range n).map f
theorem xS3 (f : Nat → Nat) (n : Nat) : xBV f n ++ [f n] = xBV f (n + 1) := by simp [xBV,List.range_succ]
theorem xBF (f : Nat → Nat) (n : Nat) : (xBV f n).length = n := by simp [xBV]
def yEx (T : Heap) (v : AV) (l : List Nat) : Prop :=
  (v = .sl true 0 [] ∧ l = []) ∨ ∃ k,v = .own false (k + 2) 0 l.length 1 ∧ T[k]? = some (.cells false false (bs l))
theorem xLY {z1 z : Bool} {p q : List Nat} {a d : Nat} {c1 : Blk} (hp : p.length < 1099511627776) (hq : q.length < 1099511627776) (ha : a < 1099511627776) (hd : d < 1099511627776) : ∀ t i T v,i + t = a + d → yEx T v (xBV (xBh p q) i) →
    ∃ T' v',L.loop xNw xXC ⟨xNx (.int .i64 (a : Nat)) (.int .i64 (d : Nat)) (.ptr 0 0) (.ptr 1 0) v (.int .i64 (i : Nat)),.cells false false [xBf z1 p,xBf z q] :: c1 :: T⟩ =
        some (.exit 0,⟨xNx (.int .i64 (a : Nat)) (.int .i64 (d : Nat)) (.ptr 0 0) (.ptr 1 0) v' (.int .i64 ((a + d : Nat))),.cells false false [xBf z1 p,xBf z q] :: c1 :: T'⟩) ∧ yEx T' v' (xBV (xBh p q) (a + d))
  | 0,i,T,v,h,hB => by
    obtain rfl : i = a + d := by omega
    refine ⟨T,v,?_,hB⟩
    rw [xUr]
    simp (maxSteps := 30000000) (disch := first | assumption | omega | (simp only [WL,AV.isCell] <;> omega) | rfl | decide) only [↓reduceIte,WB,xAL,xAb,xAK,xAp,xAo,AV.cells,AV.isCell,xAa,xAd,xAe,xAr,xAs,xAt,xAu,xAv,xAw,xAJ,xAx,xAy,xAj,xAz,xAk,xAl,xAA,xAm,xAn,xAi,Nat.reduceDiv,Nat.reduceMod,WP,xAG,xAC,xA2,xA0,xAZ,xAF,xAI,xAH,Nat.reduceAdd,Nat.reduceSub,Nat.reduceLeDiff,Nat.reduceMul,Int.reduceAdd,Int.reduceSub,Int.reduceMul,Int.reduceLT,Int.reduceLE,Int.reduceEq,Int.reduceToNat,Int.reduceNeg,Nat.reduceEqDiff,Nat.reduceBEq,Nat.reduceLT,xNv,xQy]
  | t + 1,i,T,v,h,hB => by
    have c : ((i : Nat) : Int) < ((a + d : Nat) : Int) := by omega
    have hat := xPO z1 z p q i hp hq (by omega)
    have hsn := xS3 (xBh p q) i
    have hlen := xBF (xBh p q) i
    rcases hB with ⟨rfl,e1⟩ | ⟨k,rfl,e1⟩
    · have hi : i = 0 := by rw [← hlen,e1]; rfl
      subst hi
      obtain ⟨T',v',h1,h2⟩ := xLY (z1 := z1) (z := z) (c1 := c1) hp hq ha hd t 1 (T ++ [.cells false false (bs (xBV (xBh p q) 1))]) (.own false (T.length + 2) 0 1 1) (by omega) (.inr ⟨T.length,by rw [xBF],by simp⟩)
      refine ⟨T',v',?_,h2⟩
      have hb : bs (xBV (xBh p q) 1) = [AV.int .u8 (xBh p q 0 : Nat)] := rfl
      rw [hb] at h1
      have c' : (0 : Int) < ((a + d : Nat) : Int) := by omega
      simp only [Int.natCast_zero,Int.natCast_one] at hat h1 ⊢
      rw [xUr]
      simp (maxSteps := 30000000) (disch := first | assumption | omega | (simp only [WL,AV.isCell] <;> omega) | rfl | decide) only [↓reduceIte,WB,xAL,xAb,xAK,xAp,xAo,AV.cells,AV.isCell,xAa,xAd,xAe,xAr,xAs,xAt,xAu,xAv,xAw,xAJ,xAx,xAy,xAj,xAz,xAk,xAl,xAA,xAm,xAn,xAi,Nat.reduceDiv,Nat.reduceMod,WP,xAG,xAC,xA2,xA0,xAZ,xAF,xAI,xAH,Nat.reduceAdd,Nat.reduceSub,Nat.reduceLeDiff,Nat.reduceMul,Int.reduceAdd,Int.reduceSub,Int.reduceMul,Int.reduceLT,Int.reduceLE,Int.reduceEq,Int.reduceToNat,Int.reduceNeg,Nat.reduceEqDiff,Nat.reduceBEq,Nat.reduceLT,xNv,xQy,c',hat,h1]
    · have hk := (List.getElem?_eq_some_iff.1 e1).1
      rw [hlen]
      obtain ⟨T',v',h1,h2⟩ := xLY (z1 := z1) (z := z) (c1 := c1) hp hq ha hd t (i + 1) (T.set k .dead ++ [.cells false false (bs (xBV (xBh p q) (i + 1)))]) (.own false (T.length + 2) 0 (i + 1) 1) (by omega) (.inr ⟨T.length,by rw [xBF],by simp⟩)
      refine ⟨T',v',?_,h2⟩
      have hb : bs (xBV (xBh p q) i) ++ [AV.int .u8 (xBh p q i : Nat)] = bs (xBV (xBh p q) (i + 1)) := by rw [← hsn]; simp [bs]
      have hcut : List.take i (bs (xBV (xBh p q) i)) = bs (xBV (xBh p q) i) := List.take_of_length_le (by rw [xBC,hlen]; exact Nat.le_refl _)
      have hbl : (bs (xBV (xBh p q) i)).length = i := by rw [xBC,hlen]
      rw [xUr]
      simp (maxSteps := 30000000) (disch := first | assumption | omega | (simp only [WL,AV.isCell] <;> omega) | rfl | decide) only [↓reduceIte,WB,xAL,xAb,xAK,xAp,xAo,AV.cells,AV.isCell,xAa,xAd,xAe,xAr,xAs,xAt,xAu,xAv,xAw,xAJ,xAx,xAy,xAj,xAz,xAk,xAl,xAA,xAm,xAn,xAi,Nat.reduceDiv,Nat.reduceMod,WP,xAG,xAC,xA2,xA0,xAZ,xAF,xAI,xAH,Nat.reduceAdd,Nat.reduceSub,Nat.reduceLeDiff,Nat.reduceMul,Int.reduceAdd,Int.reduceSub,Int.reduceMul,Int.reduceLT,Int.reduceLE,Int.reduceEq,Int.reduceToNat,Int.reduceNeg,Nat.reduceEqDiff,Nat.reduceBEq,Nat.reduceLT,xNv,xQy,c,hat,e1,hb,hcut,hbl,hlen,h1]
theorem xS4 (f : Nat → Nat) (a d : Nat) : (xBV f (a + d)).take a = xBV f a := by
  unfold xBV
  rw [← List.map_take,List.take_range,Nat.min_eq_left (by omega)]
theorem xS5 (f : Nat → Nat) (a d : Nat) : (xBV f (a + d)).drop a = xBV (fun i => f (a + i)) d := by
  apply List.ext_getElem
  · simp [xBV]
  · intro i h1 h2; simp [xBV]
theorem yA3 (z1 z2 : Bool) (p q : List Nat) (a d : Nat) (hp : p.length < 1099511627776) (hq : q.length < 1099511627776) (ha : a < 1099511627776) (hd0 : 0 < d) (hd : d < 1099511627776) :
    L.pcall 88 [las z1 z2 p q,.int .i64 (a : Nat),.int .i64 (d : Nat)] = some (las (a == 0) false (xBV (xBh p q) a) (xBV (fun i => xBh p q (a + i)) d)) := by
  obtain ⟨T',v',h1,h2⟩ := xLY (z1 := z1) (z := z2) (c1 := .cells false false [.sl true 0 [],.sl true 0 []]) hp hq ha hd (a + d) 0 [] (.sl true 0 []) (by omega) (.inl ⟨rfl,rfl⟩)
  have hlen := xBF (xBh p q) (a + d)
  rcases h2 with ⟨-,e⟩ | ⟨k,rfl,e⟩
  · rw [e] at hlen; simp at hlen; omega
  · rw [hlen] at h1
    simp only [Int.natCast_zero] at h1
    have e1 := xS4 (xBh p q) a d
    have e2 := xS5 (xBh p q) a d
    have l1 := xBF (xBh p q) a
    have l2 := xBF (fun i => xBh p q (a + i)) d
    have e3 : List.take d (xBV (fun i => xBh p q (a + i)) d) = xBV (fun i => xBh p q (a + i)) d := List.take_of_length_le (by omega)
    have e4 : (d == 0) = false := by simp; omega
    rw [yE5,a88,xAB]
    simp (maxSteps := 30000000) (disch := first | assumption | omega | (simp only [WL,AV.isCell] <;> omega) | rfl | decide) only [↓reduceIte,WB,xAL,xAb,xAK,xAp,xAo,AV.cells,AV.isCell,xAa,xAd,xAe,xAr,xAs,xAt,xAu,xAv,xAw,xAJ,xAx,xAy,xAj,xAz,xAk,xAl,xAA,xAm,xAn,xAi,Nat.reduceDiv,Nat.reduceMod,WP,xAG,xAC,xA2,xA0,xAZ,xAF,xAI,xAH,Nat.reduceAdd,Nat.reduceSub,Nat.reduceLeDiff,Nat.reduceMul,Int.reduceAdd,Int.reduceSub,Int.reduceMul,Int.reduceLT,Int.reduceLE,Int.reduceEq,Int.reduceToNat,Int.reduceNeg,Nat.reduceEqDiff,Nat.reduceBEq,Nat.reduceLT,xQy,h1,e,hlen,e1,e2,e3,e4,Nat.add_sub_cancel_left]
    rw [xEN l1,xEN l2]
end Go.Abs.Mealy
/- The reference: Canonical. -/
namespace Go.Abs.Mealy
set_option linter.unusedVariables false
set_option linter.unusedSimpArgs false
open Go Go.Abs
def PerAt (S : Nat → Nat) (a d : Nat) : Prop := ∀ i,a ≤ i → S (i + d) = S i
theorem PerAt.back {p q : List Nat} {a d : Nat} (hq : 0 < q.length) (h : PerAt (xBh p q) a d) : PerAt (xBh p q) p.length d := by
  intro i hi
  have e1 : ∀ t,(fun t => xBh p q (p.length + t)) (t + q.length) = (fun t => xBh p q (p.length + t)) t := fun t => by
    simp only
    rw [← Nat.add_assoc]; exact xC8 hq (by omega)
  have m1 := xEu (h := fun t => xBh p q (p.length + t)) e1 a (i - p.length + d)
  have m2 := xEu (h := fun t => xBh p q (p.length + t)) e1 a (i - p.length)
  have hbn : a ≤ a * q.length := Nat.le_mul_of_pos_right _ hq
  have := h (p.length + (i - p.length + a * q.length)) (by omega)
  rw [show i + d = p.length + (i - p.length + d) by omega,← m1,show p.length + (i - p.length + d + a * q.length) = p.length + (i - p.length + a * q.length) + d by omega,this,m2]
  congr 1; omega
theorem PerAt.mod {S : Nat → Nat} {a d : Nat} (hd : 0 < d) (h : PerAt S a d) (t : Nat) : S (a + t % d) = S (a + t) := by
  induction t using Nat.strongRecOn with
  | _ t ih =>
    by_cases hlt : t < d
    · rw [Nat.mod_eq_of_lt hlt]
    · have h1 := h (a + (t - d)) (by omega)
      rw [show a + (t - d) + d = a + t by omega] at h1
      rw [h1,← ih (t - d) (by omega),Nat.mod_eq_sub_mod (by omega)]
theorem xI4 {p q : List Nat} {b d : Nat} (hq : 0 < q.length) (hd : 0 < d) (h1 : PerAt (xBh p q) b d) (h2 : ∀ c,c < b → ¬ PerAt (xBh p q) c d) (h3 : ∀ e,0 < e → e < d → ¬ PerAt (xBh p q) p.length e) :
    Canon (xBh p q) (xBV (xBh p q) b) (xBV (fun i => xBh p q (b + i)) d) := by
  have l1 := xBF (xBh p q) b
  have l2 := xBF (fun i => xBh p q (b + i)) d
  refine ⟨by omega,fun i => ?_,fun e a he ha => ?_,fun a ha => ?_⟩
  · by_cases hi : i < b
    · rw [xEv (by omega)]
      simp [xBV,hi]
    · rw [xCn (by omega),xCy (by omega),l1,l2]
      have hm := Nat.mod_lt (i - b) hd
      have : (xBV (fun i => xBh p q (b + i)) d).getD ((i - b) % d) 0 = xBh p q (b + (i - b) % d) := by simp [xBV,hm]
      rw [this,h1.mod hd]
      congr 1; omega
  · rw [l2]
    rcases Nat.lt_or_ge e d with hlt | hge
    · exact absurd (PerAt.back hq (a := a) ha) (h3 e he hlt)
    · exact hge
  · rw [l1]
    rw [l2] at ha
    rcases Nat.lt_or_ge a b with hlt | hge
    · exact absurd ha (h2 a hlt)
    · exact hge
theorem yCS {z1 z : Bool} {p q : List Nat} {d : Nat} {c1 : AV} {c2 : AV} (hq0 : 0 < q.length) (hp : p.length < 1099511627776) (hq : q.length < 1099511627776) (hd0 : 0 < d) (hd : d < 1099511627776) (hper : PerAt (xBh p q) p.length d) : ∀ t a,a + t = p.length →
    ∃ b,a ≤ b ∧ b ≤ p.length ∧ PerAt (xBh p q) b d ∧ (∀ c,a ≤ c → c < b → ¬ PerAt (xBh p q) c d) ∧
      L.loop xNd xXt ⟨xNe (.ptr 0 0) (.ptr 1 0) (.int .i64 (d : Nat)) (.int .i64 (a : Nat)),[.cells false false [xBf z1 p,xBf z q],.cells false false [c1,c2]]⟩ =
        some (.ret,⟨xNe (.ptr 0 0) (.ptr 1 0) (.int .i64 (d : Nat)) (.int .i64 (b : Nat)),[.cells false false [xBf z1 p,xBf z q],.cells false false [xBf (b == 0) (xBV (xBh p q) b),xBf false (xBV (fun i => xBh p q (b + i)) d)]]⟩)
  | t,a,h => by
    obtain ⟨r,h1,h2⟩ := xK8 z1 z p q a d hq0 hp hq (by omega) hd
    have hle : ((a : Nat) : Int) ≤ ((p.length : Nat) : Int) := by omega
    cases r with
    | true =>
      have hcut := yA3 z1 z p q a d hp hq (by omega) hd0 hd
      refine ⟨a,Nat.le_refl _,by omega,h2.1 rfl,fun c h3 h4 => by omega,?_⟩
      rw [xYA]
      simp (maxSteps := 30000000) (disch := first | assumption | omega | (simp only [WL,AV.isCell] <;> omega) | rfl | decide) only [↓reduceIte,WB,xAL,xAb,xAK,xAp,xAo,AV.cells,AV.isCell,xAa,xAd,xAe,xAr,xAs,xAt,xAu,xAv,xAw,xAJ,xAx,xAy,xAj,xAz,xAk,xAl,xAA,xAm,xAn,xAi,Nat.reduceDiv,Nat.reduceMod,WP,xAG,xAC,xA2,xA0,xAZ,xAF,xAI,xAH,Nat.reduceAdd,Nat.reduceSub,Nat.reduceLeDiff,Nat.reduceMul,Int.reduceAdd,Int.reduceSub,Int.reduceMul,Int.reduceLT,Int.reduceLE,Int.reduceEq,Int.reduceToNat,Int.reduceNeg,Nat.reduceEqDiff,Nat.reduceBEq,Nat.reduceLT,xQq,xUc,hle,h1,hcut]
    | false =>
      cases t with
      | zero =>
        obtain rfl : a = p.length := by omega
        exact absurd (h2.2 hper) (by simp)
      | succ t =>
        obtain ⟨b,g1,g2,g3,g4,g5⟩ := yCS (z1 := z1) (z := z) (c1 := c1) (c2 := c2) hq0 hp hq hd0 hd hper t (a + 1) (by omega)
        refine ⟨b,by omega,g2,g3,fun c h3 h4 hc => ?_,?_⟩
        · by_cases hca : c = a
          · subst hca; exact absurd (h2.2 hc) (by simp)
          · exact g4 c (by omega) h4 hc
        · rw [xYA]
          simp (maxSteps := 30000000) (disch := first | assumption | omega | (simp only [WL,AV.isCell] <;> omega) | rfl | decide) only [↓reduceIte,WB,xAL,xAb,xAK,xAp,xAo,AV.cells,AV.isCell,xAa,xAd,xAe,xAr,xAs,xAt,xAu,xAv,xAw,xAJ,xAx,xAy,xAj,xAz,xAk,xAl,xAA,xAm,xAn,xAi,Nat.reduceDiv,Nat.reduceMod,WP,xAG,xAC,xA2,xA0,xAZ,xAF,xAI,xAH,Nat.reduceAdd,Nat.reduceSub,Nat.reduceLeDiff,Nat.reduceMul,Int.reduceAdd,Int.reduceSub,Int.reduceMul,Int.reduceLT,Int.reduceLE,Int.reduceEq,Int.reduceToNat,Int.reduceNeg,Nat.reduceEqDiff,Nat.reduceBEq,Nat.reduceLT,xQq,xUc,hle,h1,g5]
theorem xZw {z1 z : Bool} {p q : List Nat} {c1 : AV} {c2 : AV} (hq0 : 0 < q.length) (hp : p.length < 1099511627776) (hq : q.length < 1099511627776) : ∀ t d,0 < d → d + t = q.length →
    ∃ e b,d ≤ e ∧ e ≤ q.length ∧ b ≤ p.length ∧ PerAt (xBh p q) b e ∧ (∀ c,c < b → ¬ PerAt (xBh p q) c e) ∧ (∀ c,d ≤ c → c < e → ¬ PerAt (xBh p q) p.length c) ∧
      L.loop xNf xXu ⟨xNg (.ptr 0 0) (.ptr 1 0) (.int .i64 (d : Nat)),[.cells false false [xBf z1 p,xBf z q],.cells false false [c1,c2]]⟩ =
        some (.ret,⟨xNg (.ptr 0 0) (.ptr 1 0) (.int .i64 (e : Nat)),[.cells false false [xBf z1 p,xBf z q],.cells false false [xBf (b == 0) (xBV (xBh p q) b),xBf false (xBV (fun i => xBh p q (b + i)) e)]]⟩)
  | t,d,hd0,h => by
    obtain ⟨r,h1,h2⟩ := xK8 z1 z p q p.length d hq0 hp hq (by omega) (by omega)
    have hle : ((d : Nat) : Int) ≤ ((q.length : Nat) : Int) := by omega
    cases r with
    | true =>
      obtain ⟨b,g1,g2,g3,g4,g5⟩ := yCS (z1 := z1) (z := z) (c1 := c1) (c2 := c2) hq0 hp hq hd0 (by omega) (h2.1 rfl) p.length 0 (by omega)
      simp only [Int.natCast_zero] at g5
      refine ⟨d,b,Nat.le_refl _,by omega,g2,g3,fun c hc => g4 c (by omega) hc,fun c h3 h4 => by omega,?_⟩
      rw [xYB]
      simp (maxSteps := 30000000) (disch := first | assumption | omega | (simp only [WL,AV.isCell] <;> omega) | rfl | decide) only [↓reduceIte,WB,xAL,xAb,xAK,xAp,xAo,AV.cells,AV.isCell,xAa,xAd,xAe,xAr,xAs,xAt,xAu,xAv,xAw,xAJ,xAx,xAy,xAj,xAz,xAk,xAl,xAA,xAm,xAn,xAi,Nat.reduceDiv,Nat.reduceMod,WP,xAG,xAC,xA2,xA0,xAZ,xAF,xAI,xAH,Nat.reduceAdd,Nat.reduceSub,Nat.reduceLeDiff,Nat.reduceMul,Int.reduceAdd,Int.reduceSub,Int.reduceMul,Int.reduceLT,Int.reduceLE,Int.reduceEq,Int.reduceToNat,Int.reduceNeg,Nat.reduceEqDiff,Nat.reduceBEq,Nat.reduceLT,xQr,xUd,xUc,hle,h1,g5]
    | false =>
      cases t with
      | zero =>
        obtain rfl : d = q.length := by omega
        exact absurd (h2.2 (fun i hi => xC8 hq0 hi)) (by simp)
      | succ t =>
        obtain ⟨e,b,k1,k2,k3,k4,k5,k6,k7⟩ := xZw (z1 := z1) (z := z) (c1 := c1) (c2 := c2) hq0 hp hq t (d + 1) (by omega) (by omega)
        refine ⟨e,b,by omega,k2,k3,k4,k5,fun c h3 h4 hc => ?_,?_⟩
        · by_cases hca : c = d
          · subst hca; exact absurd (h2.2 hc) (by simp)
          · exact k6 c (by omega) h4 hc
        · rw [xYB]
          simp (maxSteps := 30000000) (disch := first | assumption | omega | (simp only [WL,AV.isCell] <;> omega) | rfl | decide) only [↓reduceIte,WB,xAL,xAb,xAK,xAp,xAo,AV.cells,AV.isCell,xAa,xAd,xAe,xAr,xAs,xAt,xAu,xAv,xAw,xAJ,xAx,xAy,xAj,xAz,xAk,xAl,xAA,xAm,xAn,xAi,Nat.reduceDiv,Nat.reduceMod,WP,xAG,xAC,xA2,xA0,xAZ,xAF,xAI,xAH,Nat.reduceAdd,Nat.reduceSub,Nat.reduceLeDiff,Nat.reduceMul,Int.reduceAdd,Int.reduceSub,Int.reduceMul,Int.reduceLT,Int.reduceLE,Int.reduceEq,Int.reduceToNat,Int.reduceNeg,Nat.reduceEqDiff,Nat.reduceBEq,Nat.reduceLT,xQr,xUd,hle,h1,k7]
theorem xWi (z1 z2 : Bool) (p q : List Nat) (hp : p.length < 1099511627776) (hq : q.length < 1099511627776) :
    ∃ z p' q',Canon (xBh p q) p' q' ∧ L.pcall 57 [las z1 z2 p q] = some (las z false p' q') := by
  obtain ⟨z,hfull⟩ := xG2 z1 z2 p q
  have hfl := xCY q
  have hfp := xCX q
  obtain ⟨e,b,k1,k2,k3,k4,k5,k6,k7⟩ := xZw (z1 := z1) (z := z) (p := p) (c1 := .sl true 0 []) (c2 := .sl true 0 []) hfp hp (by omega) ((xA7 q).length - 1) 1 (by omega) (by omega)
  have hC := xI4 hfp (by omega) k4 k5 (fun c h1 h2 => k6 c (by omega) h2)
  have hS : xBh p (xA7 q) = xBh p q := funext (xWe p q)
  refine ⟨b == 0,_,_,hS ▸ hC,?_⟩
  simp only [Int.natCast_one] at k7
  rw [yER,a57,xAB]
  simp (maxSteps := 30000000) (disch := first | assumption | omega | (simp only [WL,AV.isCell] <;> omega) | rfl | decide) only [↓reduceIte,WB,xAL,xAb,xAK,xAp,xAo,AV.cells,AV.isCell,xAa,xAd,xAe,xAr,xAs,xAt,xAu,xAv,xAw,xAJ,xAx,xAy,xAj,xAz,xAk,xAl,xAA,xAm,xAn,xAi,Nat.reduceDiv,Nat.reduceMod,WP,xAG,xAC,xA2,xA0,xAZ,xAF,xAI,xAH,Nat.reduceAdd,Nat.reduceSub,Nat.reduceLeDiff,Nat.reduceMul,Int.reduceAdd,Int.reduceSub,Int.reduceMul,Int.reduceLT,Int.reduceLE,Int.reduceEq,Int.reduceToNat,Int.reduceNeg,Nat.reduceEqDiff,Nat.reduceBEq,Nat.reduceLT,hfull,xUd,k7]
  try rw [hS]
end Go.Abs.Mealy
