/- Machines as data; sizes,outside,the greatest letter. -/
import Derived.Test.YtkpbekcgigigkaaDoorAbsBun
import Derived.Test.YtkpbekcgigigkaaDoorAProg
import Derived.Test.YtkpbekcgigigkaaDoorAbsWalk
import Derived.Test.YtkpbekcgigigkaaDoorAbsEnc2
namespace Go.Abs.Mealy
open Go Go.Abs
set_option linter.unusedSimpArgs false
set_option linter.unusedVariables false
noncomputable abbrev L : Rec := lim xAQ
theorem xH3 {α : Type} (f : α → AV) (a : α) {l : List α} {i : Nat} (h : i < l.length) : List.take 1 (List.drop i (l.map f)) = [f (l.getD i a)] := by
  rw [List.drop_eq_getElem_cons (by simpa using h)]
  simp [List.getD,List.getElem?_eq_getElem h]
theorem xBw {α : Type} {l : List α} {i : Nat} {a : α} (h : i < l.length) : l.getD i a ∈ l := by
  rw [List.getD_eq_getElem?_getD,List.getElem?_eq_getElem h]
  exact List.getElem_mem _
theorem xBb {α : Type} {a : α} {l : List α} {i : Nat} (h : i < l.length) : l.drop i = l.getD i a :: l.drop (i + 1) := by
  rw [List.getD_eq_getElem?_getD,List.getElem?_eq_getElem h,List.drop_eq_getElem_cons h]; rfl
structure Rw where
  z : Bool
  l : List Int
structure Wd where
  z : Bool
  l : List Nat
structure Mf where
  i : Int
  o : Int
  s : Int
  z : Bool
  next : List Rw
  ze : Bool
  emit : List Wd
structure Nf where
  i : Int
  o : Int
  s : Int
  zg : Bool
  give : List Nat
  z : Bool
  next : List Rw
def r0 : Rw := ⟨true,[]⟩
def w0 : Wd := ⟨true,[]⟩
def rwV (r : Rw) : AV := .sl r.z r.l.length (xCI r.l)
def wdV (w : Wd) : AV := .sl w.z w.l.length (bs w.l)
def Mf.cells (m : Mf) : List AV := [.int .i64 m.i,.int .i64 m.o,.int .i64 m.s,.sl m.z m.next.length (m.next.map rwV),.sl m.ze m.emit.length (m.emit.map wdV)]
def Mf.av (m : Mf) : AV := .agg m.cells
def Nf.cells (m : Nf) : List AV := [.int .i64 m.i,.int .i64 m.o,.int .i64 m.s,.sl m.zg m.give.length (bs m.give),.sl m.z m.next.length (m.next.map rwV)]
def Nf.av (m : Nf) : AV := .agg m.cells
theorem xAR {l : List Rw} {i : Nat} (h : i < l.length) : List.take 1 (List.drop i (l.map rwV)) = [rwV (l.getD i r0)] := xH3 _ _ h
theorem xAS {l : List Wd} {i : Nat} (h : i < l.length) : List.take 1 (List.drop i (l.map wdV)) = [wdV (l.getD i w0)] := xH3 _ _ h
def xEb (i o n k s : Int) : Int := if i < 0 ∨ o < 0 ∨ 6 < i ∨ 6 - i < o then 7 else if n = 0 then 3 else if 4096 < n then 10 else if k ≠ n then 2 else if s < 0 ∨ n ≤ s then 8 else 0
theorem xXy {i o n k s : Int} (hi : -9223372036854775808 ≤ i ∧ i < 9223372036854775808) (ho : -9223372036854775808 ≤ o ∧ o < 9223372036854775808) : L.pcall 59 [.int .i64 i,.int .i64 o,.int .i64 n,.int .i64 k,.int .i64 s] = some (.int .i64 (xEb i o n k s)) := by
  obtain ⟨hi1,hi2⟩ := hi
  obtain ⟨ho1,ho2⟩ := ho
  rw [yAO,a59,xAo]
  unfold xEb
  by_cases c1 : i < 0
  · rw [if_pos (by omega)]
    simp (maxSteps := 30000000) (disch := first | assumption | omega | (simp only [WL,AV.isCell] <;> omega) | rfl | decide) only [↓reduceIte,WB,xAH,xAc,xAD,xAl,xAk,AV.cells,AV.isCell,xAb,xAg,xAh,W2,xAd,xAe,xAi,Nat.reduceAdd,Nat.reduceSub,Nat.reduceLeDiff,Nat.reduceMul,Int.reduceAdd,Int.reduceSub,Int.reduceMul,Int.reduceLT,Int.reduceLE,Int.reduceEq,Int.reduceToNat,Int.reduceNeg,Nat.reduceEqDiff,Nat.reduceBEq,Nat.reduceLT,xAR,xAS,List.length_map,c1]
  by_cases c2 : o < 0
  · rw [if_pos (by omega)]
    simp (maxSteps := 30000000) (disch := first | assumption | omega | (simp only [WL,AV.isCell] <;> omega) | rfl | decide) only [↓reduceIte,WB,xAH,xAc,xAD,xAl,xAk,AV.cells,AV.isCell,xAb,xAg,xAh,W2,xAd,xAe,xAi,Nat.reduceAdd,Nat.reduceSub,Nat.reduceLeDiff,Nat.reduceMul,Int.reduceAdd,Int.reduceSub,Int.reduceMul,Int.reduceLT,Int.reduceLE,Int.reduceEq,Int.reduceToNat,Int.reduceNeg,Nat.reduceEqDiff,Nat.reduceBEq,Nat.reduceLT,xAR,xAS,List.length_map,c1,c2]
  by_cases c3 : 6 < i
  · rw [if_pos (by omega)]
    simp (maxSteps := 30000000) (disch := first | assumption | omega | (simp only [WL,AV.isCell] <;> omega) | rfl | decide) only [↓reduceIte,WB,xAH,xAc,xAD,xAl,xAk,AV.cells,AV.isCell,xAb,xAg,xAh,W2,xAd,xAe,xAi,Nat.reduceAdd,Nat.reduceSub,Nat.reduceLeDiff,Nat.reduceMul,Int.reduceAdd,Int.reduceSub,Int.reduceMul,Int.reduceLT,Int.reduceLE,Int.reduceEq,Int.reduceToNat,Int.reduceNeg,Nat.reduceEqDiff,Nat.reduceBEq,Nat.reduceLT,xAR,xAS,List.length_map,c1,c2,c3]
  by_cases c4 : 6 - i < o
  · rw [if_pos (by omega)]
    simp (maxSteps := 30000000) (disch := first | assumption | omega | (simp only [WL,AV.isCell] <;> omega) | rfl | decide) only [↓reduceIte,WB,xAH,xAc,xAD,xAl,xAk,AV.cells,AV.isCell,xAb,xAg,xAh,W2,xAd,xAe,xAi,Nat.reduceAdd,Nat.reduceSub,Nat.reduceLeDiff,Nat.reduceMul,Int.reduceAdd,Int.reduceSub,Int.reduceMul,Int.reduceLT,Int.reduceLE,Int.reduceEq,Int.reduceToNat,Int.reduceNeg,Nat.reduceEqDiff,Nat.reduceBEq,Nat.reduceLT,xAR,xAS,List.length_map,c1,c2,c3,c4]
  rw [if_neg (by omega)]
  by_cases c5 : n = 0
  · rw [if_pos c5]
    simp (maxSteps := 30000000) (disch := first | assumption | omega | (simp only [WL,AV.isCell] <;> omega) | rfl | decide) only [↓reduceIte,WB,xAH,xAc,xAD,xAl,xAk,AV.cells,AV.isCell,xAb,xAg,xAh,W2,xAd,xAe,xAi,Nat.reduceAdd,Nat.reduceSub,Nat.reduceLeDiff,Nat.reduceMul,Int.reduceAdd,Int.reduceSub,Int.reduceMul,Int.reduceLT,Int.reduceLE,Int.reduceEq,Int.reduceToNat,Int.reduceNeg,Nat.reduceEqDiff,Nat.reduceBEq,Nat.reduceLT,xAR,xAS,List.length_map,c1,c2,c3,c4,c5]
  rw [if_neg c5]
  by_cases c6 : 4096 < n
  · rw [if_pos c6]
    simp (maxSteps := 30000000) (disch := first | assumption | omega | (simp only [WL,AV.isCell] <;> omega) | rfl | decide) only [↓reduceIte,WB,xAH,xAc,xAD,xAl,xAk,AV.cells,AV.isCell,xAb,xAg,xAh,W2,xAd,xAe,xAi,Nat.reduceAdd,Nat.reduceSub,Nat.reduceLeDiff,Nat.reduceMul,Int.reduceAdd,Int.reduceSub,Int.reduceMul,Int.reduceLT,Int.reduceLE,Int.reduceEq,Int.reduceToNat,Int.reduceNeg,Nat.reduceEqDiff,Nat.reduceBEq,Nat.reduceLT,xAR,xAS,List.length_map,c1,c2,c3,c4,c5,c6]
  rw [if_neg c6]
  by_cases c7 : k = n
  · rw [if_neg (by omega)]
    by_cases c8 : s < 0
    · rw [if_pos (by omega)]
      simp (maxSteps := 30000000) (disch := first | assumption | omega | (simp only [WL,AV.isCell] <;> omega) | rfl | decide) only [↓reduceIte,WB,xAH,xAc,xAD,xAl,xAk,AV.cells,AV.isCell,xAb,xAg,xAh,W2,xAd,xAe,xAi,Nat.reduceAdd,Nat.reduceSub,Nat.reduceLeDiff,Nat.reduceMul,Int.reduceAdd,Int.reduceSub,Int.reduceMul,Int.reduceLT,Int.reduceLE,Int.reduceEq,Int.reduceToNat,Int.reduceNeg,Nat.reduceEqDiff,Nat.reduceBEq,Nat.reduceLT,xAR,xAS,List.length_map,c1,c2,c3,c4,c5,c6,c7,c8]
    by_cases c9 : n ≤ s
    · rw [if_pos (by omega)]
      simp (maxSteps := 30000000) (disch := first | assumption | omega | (simp only [WL,AV.isCell] <;> omega) | rfl | decide) only [↓reduceIte,WB,xAH,xAc,xAD,xAl,xAk,AV.cells,AV.isCell,xAb,xAg,xAh,W2,xAd,xAe,xAi,Nat.reduceAdd,Nat.reduceSub,Nat.reduceLeDiff,Nat.reduceMul,Int.reduceAdd,Int.reduceSub,Int.reduceMul,Int.reduceLT,Int.reduceLE,Int.reduceEq,Int.reduceToNat,Int.reduceNeg,Nat.reduceEqDiff,Nat.reduceBEq,Nat.reduceLT,xAR,xAS,List.length_map,c1,c2,c3,c4,c5,c6,c7,c8,c9]
    rw [if_neg (by omega)]
    simp (maxSteps := 30000000) (disch := first | assumption | omega | (simp only [WL,AV.isCell] <;> omega) | rfl | decide) only [↓reduceIte,WB,xAH,xAc,xAD,xAl,xAk,AV.cells,AV.isCell,xAb,xAg,xAh,W2,xAd,xAe,xAi,Nat.reduceAdd,Nat.reduceSub,Nat.reduceLeDiff,Nat.reduceMul,Int.reduceAdd,Int.reduceSub,Int.reduceMul,Int.reduceLT,Int.reduceLE,Int.reduceEq,Int.reduceToNat,Int.reduceNeg,Nat.reduceEqDiff,Nat.reduceBEq,Nat.reduceLT,xAR,xAS,List.length_map,c1,c2,c3,c4,c5,c6,c7,c8,c9]
  · rw [if_pos c7]
    simp (maxSteps := 30000000) (disch := first | assumption | omega | (simp only [WL,AV.isCell] <;> omega) | rfl | decide) only [↓reduceIte,WB,xAH,xAc,xAD,xAl,xAk,AV.cells,AV.isCell,xAb,xAg,xAh,W2,xAd,xAe,xAi,Nat.reduceAdd,Nat.reduceSub,Nat.reduceLeDiff,Nat.reduceMul,Int.reduceAdd,Int.reduceSub,Int.reduceMul,Int.reduceLT,Int.reduceLE,Int.reduceEq,Int.reduceToNat,Int.reduceNeg,Nat.reduceEqDiff,Nat.reduceBEq,Nat.reduceLT,xAR,xAS,List.length_map,c1,c2,c3,c4,c5,c6,c7]
section
variable {H : Heap} {fv : AV}
theorem yAh {z : Bool} {l : List Int} {P : Int → Bool} (hl : l.length < 9223372036854775807) (hf : ∀ s,L.icall fv [.int .i64 s] H = some (.bool (P s),H)) : ∀ e i,i + e = l.length →
    ∃ j : Nat,L.loop xL2 xUu ⟨xI6 (.sl z l.length (xCI l)) fv (.int .i64 0) (.int .i64 (l.length : Nat)) (.int .i64 (i : Nat)),H⟩ =
      some (if (l.drop i).any P = true then (.ret,⟨xI6 (.sl z l.length (xCI l)) fv (.int .i64 (j : Nat)) (.int .i64 (l.length : Nat)) (.int .i64 (j : Nat)),H⟩)
        else (.exit 0,⟨xI6 (.sl z l.length (xCI l)) fv (.int .i64 0) (.int .i64 (l.length : Nat)) (.int .i64 (l.length : Nat)),H⟩)) := by
  intro e
  induction e with
  | zero =>
    intro i h
    obtain rfl : i = l.length := by omega
    refine ⟨0,?_⟩
    rw [if_neg (by rw [List.drop_length]; simp),xRM]
    simp (maxSteps := 30000000) (disch := first | assumption | omega | (simp only [WL,AV.isCell] <;> omega) | rfl | decide) only [↓reduceIte,WB,xAH,xAc,xAD,xAl,xAk,AV.cells,AV.isCell,xAb,xAg,xAh,W2,xAd,xAe,xAi,Nat.reduceAdd,Nat.reduceSub,Nat.reduceLeDiff,Nat.reduceMul,Int.reduceAdd,Int.reduceSub,Int.reduceMul,Int.reduceLT,Int.reduceLE,Int.reduceEq,Int.reduceToNat,Int.reduceNeg,Nat.reduceEqDiff,Nat.reduceBEq,Nat.reduceLT,xAR,xAS,List.length_map,xI5,xI7]
  | succ e ih =>
    intro i h
    have hlt : (i : Int) < (l.length : Nat) := by omega
    obtain ⟨j,ih'⟩ := ih (i + 1) (by omega)
    have hp := hf (l.getD i 0)
    rw [xBb (a := (0 : Int)) (by omega : i < l.length),List.any_cons]
    cases c : P (l.getD i 0) with
    | true =>
      rw [c] at hp
      refine ⟨i,?_⟩
      rw [Bool.true_or,if_pos rfl,xRM]
      simp (maxSteps := 30000000) (disch := first | assumption | omega | (simp only [WL,AV.isCell] <;> omega) | rfl | decide) only [↓reduceIte,WB,xAH,xAc,xAD,xAl,xAk,AV.cells,AV.isCell,xAb,xAg,xAh,W2,xAd,xAe,xAi,Nat.reduceAdd,Nat.reduceSub,Nat.reduceLeDiff,Nat.reduceMul,Int.reduceAdd,Int.reduceSub,Int.reduceMul,Int.reduceLT,Int.reduceLE,Int.reduceEq,Int.reduceToNat,Int.reduceNeg,Nat.reduceEqDiff,Nat.reduceBEq,Nat.reduceLT,xAR,xAS,List.length_map,xI5,xI7,hlt,hp]
    | false =>
      rw [c] at hp
      rw [Bool.false_or]
      refine ⟨j,?_⟩
      rw [xRM]
      by_cases e : (l.drop (i + 1)).any P = true
      · rw [if_pos e] at ih' ⊢
        simp (maxSteps := 30000000) (disch := first | assumption | omega | (simp only [WL,AV.isCell] <;> omega) | rfl | decide) only [↓reduceIte,WB,xAH,xAc,xAD,xAl,xAk,AV.cells,AV.isCell,xAb,xAg,xAh,W2,xAd,xAe,xAi,Nat.reduceAdd,Nat.reduceSub,Nat.reduceLeDiff,Nat.reduceMul,Int.reduceAdd,Int.reduceSub,Int.reduceMul,Int.reduceLT,Int.reduceLE,Int.reduceEq,Int.reduceToNat,Int.reduceNeg,Nat.reduceEqDiff,Nat.reduceBEq,Nat.reduceLT,xAR,xAS,List.length_map,xI5,xI7,hlt,hp,ih']
      · rw [if_neg e] at ih' ⊢
        simp (maxSteps := 30000000) (disch := first | assumption | omega | (simp only [WL,AV.isCell] <;> omega) | rfl | decide) only [↓reduceIte,WB,xAH,xAc,xAD,xAl,xAk,AV.cells,AV.isCell,xAb,xAg,xAh,W2,xAd,xAe,xAi,Nat.reduceAdd,Nat.reduceSub,Nat.reduceLeDiff,Nat.reduceMul,Int.reduceAdd,Int.reduceSub,Int.reduceMul,Int.reduceLT,Int.reduceLE,Int.reduceEq,Int.reduceToNat,Int.reduceNeg,Nat.reduceEqDiff,Nat.reduceBEq,Nat.reduceLT,xAR,xAS,List.length_map,xI5,xI7,hlt,hp,ih']
theorem xXz {z : Bool} {l : List Int} {P : Int → Bool} (hl : l.length < 9223372036854775807) (hf : ∀ s,L.icall fv [.int .i64 s] H = some (.bool (P s),H)) :
    ∃ j : Int,L.icall (.func 99 []) [.sl z l.length (xCI l),fv] H = some (.int .i64 j,H) ∧ (if l.any P = true then 0 ≤ j else j < 0) := by
  obtain ⟨j,h⟩ := yAh (z := z) hl hf l.length 0 (by omega)
  simp only [Int.natCast_zero,List.drop_zero] at h
  by_cases c : l.any P = true
  · rw [if_pos c] at h
    refine ⟨j,?_,by rw [if_pos c]; omega⟩
    rw [yAz,a99]
    simp (maxSteps := 30000000) (disch := first | assumption | omega | (simp only [WL,AV.isCell] <;> omega) | rfl | decide) only [↓reduceIte,WB,xAH,xAc,xAD,xAl,xAk,AV.cells,AV.isCell,xAb,xAg,xAh,W2,xAd,xAe,xAi,Nat.reduceAdd,Nat.reduceSub,Nat.reduceLeDiff,Nat.reduceMul,Int.reduceAdd,Int.reduceSub,Int.reduceMul,Int.reduceLT,Int.reduceLE,Int.reduceEq,Int.reduceToNat,Int.reduceNeg,Nat.reduceEqDiff,Nat.reduceBEq,Nat.reduceLT,xAR,xAS,List.length_map,xI7,h]
  · rw [if_neg c] at h
    refine ⟨-1,?_,by rw [if_neg c]; omega⟩
    rw [yAz,a99]
    simp (maxSteps := 30000000) (disch := first | assumption | omega | (simp only [WL,AV.isCell] <;> omega) | rfl | decide) only [↓reduceIte,WB,xAH,xAc,xAD,xAl,xAk,AV.cells,AV.isCell,xAb,xAg,xAh,W2,xAd,xAe,xAi,Nat.reduceAdd,Nat.reduceSub,Nat.reduceLeDiff,Nat.reduceMul,Int.reduceAdd,Int.reduceSub,Int.reduceMul,Int.reduceLT,Int.reduceLE,Int.reduceEq,Int.reduceToNat,Int.reduceNeg,Nat.reduceEqDiff,Nat.reduceBEq,Nat.reduceLT,xAR,xAS,List.length_map,xI7,h]
theorem yAi {z : Bool} {l : List Int} {P : Int → Bool} (hl : l.length < 9223372036854775807) (hf : ∀ s,L.icall fv [.int .i64 s] H = some (.bool (P s),H)) :
    L.icall (.func 90 []) [.sl z l.length (xCI l),fv] H = some (.bool (l.any P),H) := by
  obtain ⟨j,h,hj⟩ := xXz (z := z) hl hf
  rw [yAR,a90]
  cases c : l.any P with
  | true =>
    rw [if_pos c] at hj
    simp (maxSteps := 30000000) (disch := first | assumption | omega | (simp only [WL,AV.isCell] <;> omega) | rfl | decide) only [↓reduceIte,WB,xAH,xAc,xAD,xAl,xAk,AV.cells,AV.isCell,xAb,xAg,xAh,W2,xAd,xAe,xAi,Nat.reduceAdd,Nat.reduceSub,Nat.reduceLeDiff,Nat.reduceMul,Int.reduceAdd,Int.reduceSub,Int.reduceMul,Int.reduceLT,Int.reduceLE,Int.reduceEq,Int.reduceToNat,Int.reduceNeg,Nat.reduceEqDiff,Nat.reduceBEq,Nat.reduceLT,xAR,xAS,List.length_map,h,hj]
  | false =>
    rw [if_neg (by simp [c])] at hj
    have hj' : ¬ 0 ≤ j := by omega
    simp (maxSteps := 30000000) (disch := first | assumption | omega | (simp only [WL,AV.isCell] <;> omega) | rfl | decide) only [↓reduceIte,WB,xAH,xAc,xAD,xAl,xAk,AV.cells,AV.isCell,xAb,xAg,xAh,W2,xAd,xAe,xAi,Nat.reduceAdd,Nat.reduceSub,Nat.reduceLeDiff,Nat.reduceMul,Int.reduceAdd,Int.reduceSub,Int.reduceMul,Int.reduceLT,Int.reduceLE,Int.reduceEq,Int.reduceToNat,Int.reduceNeg,Nat.reduceEqDiff,Nat.reduceBEq,Nat.reduceLT,xAR,xAS,List.length_map,h,hj']
end
theorem yAj {k : Nat} {s n : Int} {H : Heap} (h : H[k]? = some (.cells false false [.int .i64 n])) : L.icall (.func 91 [.ptr k 0]) [.int .i64 s] H = some (.bool (decide (s < 0 ∨ n ≤ s)),H) := by
  rw [yAS,a91]
  by_cases c : s < 0
  · rw [decide_eq_true (Or.inl c)]
    simp (maxSteps := 30000000) (disch := first | assumption | omega | (simp only [WL,AV.isCell] <;> omega) | rfl | decide) only [↓reduceIte,WB,xAH,xAc,xAD,xAl,xAk,AV.cells,AV.isCell,xAb,xAg,xAh,W2,xAd,xAe,xAi,Nat.reduceAdd,Nat.reduceSub,Nat.reduceLeDiff,Nat.reduceMul,Int.reduceAdd,Int.reduceSub,Int.reduceMul,Int.reduceLT,Int.reduceLE,Int.reduceEq,Int.reduceToNat,Int.reduceNeg,Nat.reduceEqDiff,Nat.reduceBEq,Nat.reduceLT,xAR,xAS,List.length_map,h,c]
  · by_cases c2 : n ≤ s
    · rw [decide_eq_true (Or.inr c2)]
      simp (maxSteps := 30000000) (disch := first | assumption | omega | (simp only [WL,AV.isCell] <;> omega) | rfl | decide) only [↓reduceIte,WB,xAH,xAc,xAD,xAl,xAk,AV.cells,AV.isCell,xAb,xAg,xAh,W2,xAd,xAe,xAi,Nat.reduceAdd,Nat.reduceSub,Nat.reduceLeDiff,Nat.reduceMul,Int.reduceAdd,Int.reduceSub,Int.reduceMul,Int.reduceLT,Int.reduceLE,Int.reduceEq,Int.reduceToNat,Int.reduceNeg,Nat.reduceEqDiff,Nat.reduceBEq,Nat.reduceLT,xAR,xAS,List.length_map,h,c,c2]
    · rw [decide_eq_false (by omega)]
      simp (maxSteps := 30000000) (disch := first | assumption | omega | (simp only [WL,AV.isCell] <;> omega) | rfl | decide) only [↓reduceIte,WB,xAH,xAc,xAD,xAl,xAk,AV.cells,AV.isCell,xAb,xAg,xAh,W2,xAd,xAe,xAi,Nat.reduceAdd,Nat.reduceSub,Nat.reduceLeDiff,Nat.reduceMul,Int.reduceAdd,Int.reduceSub,Int.reduceMul,Int.reduceLT,Int.reduceLE,Int.reduceEq,Int.reduceToNat,Int.reduceNeg,Nat.reduceEqDiff,Nat.reduceBEq,Nat.reduceLT,xAR,xAS,List.length_map,h,c,c2]
def xXA (n : Int) (l : List Int) : Bool := l.any fun s => decide (s < 0 ∨ n ≤ s)
theorem xTx {z : Bool} {l : List Int} {n : Int} (hl : l.length < 9223372036854775807) : L.pcall 60 [.sl z l.length (xCI l),.int .i64 n] = some (.bool (xXA n l)) := by
  have h := yAi (z := z) (P := fun s => decide (s < 0 ∨ n ≤ s)) (fv := .func 91 [.ptr 0 0]) (H := [.cells false false [.int .i64 n]]) hl (fun s => yAj rfl)
  rw [yAP,a60,xAo]
  unfold xXA
  simp (maxSteps := 30000000) (disch := first | assumption | omega | (simp only [WL,AV.isCell] <;> omega) | rfl | decide) only [↓reduceIte,WB,xAH,xAc,xAD,xAl,xAk,AV.cells,AV.isCell,xAb,xAg,xAh,W2,xAd,xAe,xAi,Nat.reduceAdd,Nat.reduceSub,Nat.reduceLeDiff,Nat.reduceMul,Int.reduceAdd,Int.reduceSub,Int.reduceMul,Int.reduceLT,Int.reduceLE,Int.reduceEq,Int.reduceToNat,Int.reduceNeg,Nat.reduceEqDiff,Nat.reduceBEq,Nat.reduceLT,xAR,xAS,List.length_map,h]
def xIp : List Nat → Nat
  | [] => 0
  | x :: t => max x (xIp t)
theorem yAk (a b : Nat) : max (a : Int) (b : Int) = ((max a b : Nat) : Int) := by omega
theorem xZa {z : Bool} {l : List Nat} {H : Heap} (hl : l.length < 9223372036854775807) : ∀ e i m,i + e = l.length →
    L.loop xLX xUs ⟨xLY (.sl z l.length (bs l)) (.int .u8 (m : Nat)) (.int .i64 (i : Nat)),H⟩ = some (.exit 0,⟨xLY (.sl z l.length (bs l)) (.int .u8 (max m (xIp (l.drop i)) : Nat)) (.int .i64 (l.length : Nat)),H⟩) := by
  intro e
  induction e with
  | zero =>
    intro i m h
    obtain rfl : i = l.length := by omega
    rw [List.drop_length,show max m (xIp []) = m by simp [xIp],xVo]
    simp (maxSteps := 30000000) (disch := first | assumption | omega | (simp only [WL,AV.isCell] <;> omega) | rfl | decide) only [↓reduceIte,WB,xAH,xAc,xAD,xAl,xAk,AV.cells,AV.isCell,xAb,xAg,xAh,W2,xAd,xAe,xAi,Nat.reduceAdd,Nat.reduceSub,Nat.reduceLeDiff,Nat.reduceMul,Int.reduceAdd,Int.reduceSub,Int.reduceMul,Int.reduceLT,Int.reduceLE,Int.reduceEq,Int.reduceToNat,Int.reduceNeg,Nat.reduceEqDiff,Nat.reduceBEq,Nat.reduceLT,xAR,xAS,List.length_map,xOt,xRH]
  | succ e ih =>
    intro i m h
    have hlt : (i : Int) < (l.length : Nat) := by omega
    rw [xBb (a := (0 : Nat)) (by omega : i < l.length)]
    have e1 : max m (xIp (l.getD i 0 :: l.drop (i + 1))) = max (max m (l.getD i 0)) (xIp (l.drop (i + 1))) := by simp only [xIp]; omega
    have ih' := ih (i + 1) (max m (l.getD i 0)) (by omega)
    rw [e1,xVo]
    simp (maxSteps := 30000000) (disch := first | assumption | omega | (simp only [WL,AV.isCell] <;> omega) | rfl | decide) only [↓reduceIte,WB,xAH,xAc,xAD,xAl,xAk,AV.cells,AV.isCell,xAb,xAg,xAh,W2,xAd,xAe,xAi,Nat.reduceAdd,Nat.reduceSub,Nat.reduceLeDiff,Nat.reduceMul,Int.reduceAdd,Int.reduceSub,Int.reduceMul,Int.reduceLT,Int.reduceLE,Int.reduceEq,Int.reduceToNat,Int.reduceNeg,Nat.reduceEqDiff,Nat.reduceBEq,Nat.reduceLT,xAR,xAS,List.length_map,xOt,xRH,hlt,yAk,ih']
theorem yAl {z : Bool} {l : List Nat} (h0 : 0 < l.length) (hl : l.length < 9223372036854775807) : L.pcall 61 [.sl z l.length (bs l)] = some (.int .u8 (xIp l : Nat)) := by
  have h := xZa (z := z) (H := []) hl (l.length - 1) 1 (l.getD 0 0) (by omega)
  have e : max (l.getD 0 0) (xIp (l.drop 1)) = xIp l := by
    cases l with
    | nil => simp at h0
    | cons x t => rfl
  have c : ¬ ((l.length : Nat) : Int) < 1 := by omega
  rw [e] at h
  simp only [Int.natCast_one] at h
  rw [yAQ,a61,xAo]
  simp (maxSteps := 30000000) (disch := first | assumption | omega | (simp only [WL,AV.isCell] <;> omega) | rfl | decide) only [↓reduceIte,WB,xAH,xAc,xAD,xAl,xAk,AV.cells,AV.isCell,xAb,xAg,xAh,W2,xAd,xAe,xAi,Nat.reduceAdd,Nat.reduceSub,Nat.reduceLeDiff,Nat.reduceMul,Int.reduceAdd,Int.reduceSub,Int.reduceMul,Int.reduceLT,Int.reduceLE,Int.reduceEq,Int.reduceToNat,Int.reduceNeg,Nat.reduceEqDiff,Nat.reduceBEq,Nat.reduceLT,xAR,xAS,List.length_map,xRH,c,h]
def two (m : Nat) : Nat := 2 ^ m
theorem xH4 {v : Nat} (h : v ≤ 6) : two v ≤ 64 ∧ 0 < two v := by
  have : v = 0 ∨ v = 1 ∨ v = 2 ∨ v = 3 ∨ v = 4 ∨ v = 5 ∨ v = 6 := by omega
  unfold two
  rcases this with e | e | e | e | e | e | e <;> rw [e] <;> decide
theorem xK0 {v : Nat} (h : v ≤ 6) : IntKind.i64.wrap (1 * 2 ^ min v IntKind.i64.bits) = (two v : Nat) := by
  have : v = 0 ∨ v = 1 ∨ v = 2 ∨ v = 3 ∨ v = 4 ∨ v = 5 ∨ v = 6 := by omega
  rcases this with rfl | rfl | rfl | rfl | rfl | rfl | rfl <;> decide
def xQO (k : Nat) (l : List Nat) : Bool := l.any fun x => decide (k ≤ x)
theorem xPQ {k : Nat} (h : 0 < k) : ∀ l,xQO k l = decide (k ≤ xIp l)
  | [] => by simp [xQO,xIp]; omega
  | x :: t => by
    have ih := xPQ h t
    unfold xQO at ih ⊢
    rw [List.any_cons,ih,xIp]
    by_cases c : k ≤ x
    · rw [decide_eq_true c,decide_eq_true (show k ≤ max x (xIp t) by omega)]; rfl
    · rw [decide_eq_false c]
      by_cases c2 : k ≤ xIp t
      · rw [decide_eq_true c2,decide_eq_true (show k ≤ max x (xIp t) by omega)]; rfl
      · rw [decide_eq_false c2,decide_eq_false (show ¬ k ≤ max x (xIp t) by omega)]; rfl
theorem xTy {b : Nat} (hb : 0 < b) : ∀ {l : List Nat},(∀ x ∈ l,x < b) → xIp l < b
  | [],_ => hb
  | x :: t,h => by
    have h1 := h x (by simp)
    have h2 := xTy hb (l := t) fun y hy => h y (by simp [hy])
    simp only [xIp]; omega
def xNm (n wi wo : Nat) (r : Rw) (e : Wd) : Int := if r.l.length = wi ∧ e.l.length = wi then (if xXA n r.l = true then 8 else if xQO wo e.l = true then 1 else 0) else 2
def xF9 (n wi wo : Nat) : List Rw → List Wd → Int
  | r :: t,e :: u => if xNm n wi wo r e = 0 then xF9 n wi wo t u else xNm n wi wo r e
  | _,_ => 0
def xNu (m : Mf) : Int := if xEb m.i m.o (m.next.length : Nat) (m.emit.length : Nat) m.s = 0 then xF9 m.next.length (two m.i.toNat) (two m.o.toNat) m.next m.emit else xEb m.i m.o (m.next.length : Nat) (m.emit.length : Nat) m.s
structure Sm (m : Mf) : Prop where
  i : -9223372036854775808 ≤ m.i ∧ m.i < 9223372036854775808
  o : -9223372036854775808 ≤ m.o ∧ m.o < 9223372036854775808
  n : m.next.length ≤ 100000
  e : m.emit.length ≤ 100000
  r : ∀ r ∈ m.next,r.l.length ≤ 100000
  w : ∀ w ∈ m.emit,w.l.length ≤ 100000
  b : ∀ w ∈ m.emit,∀ x ∈ w.l,x < 256
theorem xH5 {i o n k s : Int} (h : xEb i o n k s = 0) : 0 ≤ i ∧ 0 ≤ o ∧ i + o ≤ 6 ∧ 0 ≠ n ∧ n ≤ 4096 ∧ k = n ∧ 0 ≤ s ∧ s < n := by
  unfold xEb at h
  split at h
  · omega
  split at h
  · omega
  split at h
  · omega
  split at h
  · omega
  split at h
  · omega
  omega
theorem xWn {a b : Nat} (h : ¬ a = b) : (((a : Nat) : Int) = ((b : Nat) : Int)) = False := eq_false (by omega)
section
variable {m : Mf} {mi mo : Nat}
theorem xU5 (hS : Sm m) (hi : m.i = (mi : Nat)) (ho : m.o = (mo : Nat)) (hi6 : mi ≤ 6) (ho6 : mo ≤ 6) (hne : m.emit.length = m.next.length) : ∀ e i,i + e = m.next.length →
    ∃ i' : Nat,L.loop xLT xUq ⟨xIQ (.ptr 0 0) (.int .i64 0) (.int .i64 (m.next.length : Nat)) (.sl m.z m.next.length (m.next.map rwV)) (.int .i64 (m.next.length : Nat)) (.int .i64 (i : Nat)),[.cells false false m.cells]⟩ =
      some (if xF9 m.next.length (two mi) (two mo) (m.next.drop i) (m.emit.drop i) = 0 then (.exit 0,⟨xIQ (.ptr 0 0) (.int .i64 0) (.int .i64 (m.next.length : Nat)) (.sl m.z m.next.length (m.next.map rwV)) (.int .i64 (m.next.length : Nat)) (.int .i64 (m.next.length : Nat)),[.cells false false m.cells]⟩)
        else (.ret,⟨xIQ (.ptr 0 0) (.int .i64 (xF9 m.next.length (two mi) (two mo) (m.next.drop i) (m.emit.drop i))) (.int .i64 (m.next.length : Nat)) (.sl m.z m.next.length (m.next.map rwV)) (.int .i64 (m.next.length : Nat)) (.int .i64 (i' : Nat)),[.cells false false m.cells]⟩)) := by
  have hn := hS.n
  have hsi := xK0 hi6
  have hso := xK0 ho6
  have htwo := (xH4 hi6).2
  have htwo' := (xH4 ho6).2
  have hi0 : ¬ ((mi : Nat) : Int) < 0 := by omega
  have ho0 : ¬ ((mo : Nat) : Int) < 0 := by omega
  unfold Mf.cells
  rw [hi,ho]
  intro e
  induction e with
  | zero =>
    intro i h
    obtain rfl : i = m.next.length := by omega
    refine ⟨0,?_⟩
    rw [if_pos (by rw [List.drop_length]; rfl),xIR]
    simp (maxSteps := 30000000) (disch := first | assumption | omega | (simp only [WL,AV.isCell] <;> omega) | rfl | decide) only [↓reduceIte,WB,xAH,xAc,xAD,xAl,xAk,AV.cells,AV.isCell,xAb,xAg,xAh,W2,xAd,xAe,xAi,Nat.reduceAdd,Nat.reduceSub,Nat.reduceLeDiff,Nat.reduceMul,Int.reduceAdd,Int.reduceSub,Int.reduceMul,Int.reduceLT,Int.reduceLE,Int.reduceEq,Int.reduceToNat,Int.reduceNeg,Nat.reduceEqDiff,Nat.reduceBEq,Nat.reduceLT,xAR,xAS,List.length_map,xEK,xEL]
  | succ e ih =>
    intro i h
    have hlt : (i : Int) < (m.next.length : Nat) := by omega
    obtain ⟨i',ih'⟩ := ih (i + 1) (by omega)
    have hr1 := xBw (a := r0) (show i < m.next.length by omega)
    have hw1 := xBw (a := w0) (show i < m.emit.length by omega)
    have hr := hS.r _ hr1
    have hw := hS.w _ hw1
    have hb := xTy (by decide) (hS.b _ hw1)
    have h60 := xTx (z := (m.next.getD i r0).z) (l := (m.next.getD i r0).l) (n := (m.next.length : Nat)) (by omega)
    have h61 : (m.emit.getD i w0).l.length = two mi → _ := fun e => yAl (z := (m.emit.getD i w0).z) (l := (m.emit.getD i w0).l) (by omega) (by omega)
    have hbig := xPQ htwo' (m.emit.getD i w0).l
    rw [xBb (a := r0) (by omega : i < m.next.length),xBb (a := w0) (by omega : i < m.emit.length)]
    have et : ∀ n wi wo r t e u,xF9 n wi wo (r :: t) (e :: u) = if xNm n wi wo r e = 0 then xF9 n wi wo t u else xNm n wi wo r e := fun _ _ _ _ _ _ _ => rfl
    rw [et]
    generalize hR : m.next.getD i r0 = R at *
    generalize hW : m.emit.getD i w0 = W at *
    have hrv : rwV R = .sl R.z R.l.length (xCI R.l) := rfl
    have hwv : wdV W = .sl W.z W.l.length (bs W.l) := rfl
    by_cases c1 : R.l.length = two mi
    · by_cases c2 : W.l.length = two mi
      · have h61' := h61 c2
        rw [c2] at h61'
        rw [c1] at h60
        cases c3 : xXA m.next.length R.l with
        | true =>
          have e0 : xNm m.next.length (two mi) (two mo) R W = 8 := by unfold xNm; rw [if_pos ⟨c1,c2⟩,if_pos c3]
          rw [c3] at h60
          simp only [e0,if_neg (show ¬ (8 : Int) = 0 by decide)]
          refine ⟨i,?_⟩
          rw [xIR]
          simp (maxSteps := 30000000) (disch := first | assumption | omega | (simp only [WL,AV.isCell] <;> omega) | rfl | decide) only [↓reduceIte,WB,xAH,xAc,xAD,xAl,xAk,AV.cells,AV.isCell,xAb,xAg,xAh,W2,xAd,xAe,xAi,Nat.reduceAdd,Nat.reduceSub,Nat.reduceLeDiff,Nat.reduceMul,Int.reduceAdd,Int.reduceSub,Int.reduceMul,Int.reduceLT,Int.reduceLE,Int.reduceEq,Int.reduceToNat,Int.reduceNeg,Nat.reduceEqDiff,Nat.reduceBEq,Nat.reduceLT,xAR,xAS,List.length_map,xEK,xEL,hlt,hi0,ho0,hsi,hso,hR,hW,hrv,hwv,c1,c2,h60]
        | false =>
          rw [c3] at h60
          cases c4 : xQO (two mo) W.l with
          | true =>
            have e0 : xNm m.next.length (two mi) (two mo) R W = 1 := by unfold xNm; rw [if_pos ⟨c1,c2⟩,if_neg (by simp [c3]),if_pos c4]
            rw [c4] at hbig
            have c5 : ((two mo : Nat) : Int) ≤ (xIp W.l : Nat) := by have := of_decide_eq_true hbig.symm; omega
            simp only [e0,if_neg (show ¬ (1 : Int) = 0 by decide)]
            refine ⟨i,?_⟩
            rw [xIR]
            simp (maxSteps := 30000000) (disch := first | assumption | omega | (simp only [WL,AV.isCell] <;> omega) | rfl | decide) only [↓reduceIte,WB,xAH,xAc,xAD,xAl,xAk,AV.cells,AV.isCell,xAb,xAg,xAh,W2,xAd,xAe,xAi,Nat.reduceAdd,Nat.reduceSub,Nat.reduceLeDiff,Nat.reduceMul,Int.reduceAdd,Int.reduceSub,Int.reduceMul,Int.reduceLT,Int.reduceLE,Int.reduceEq,Int.reduceToNat,Int.reduceNeg,Nat.reduceEqDiff,Nat.reduceBEq,Nat.reduceLT,xAR,xAS,List.length_map,xEK,xEL,hlt,hi0,ho0,hsi,hso,hR,hW,hrv,hwv,c1,c2,h60,h61',c5]
          | false =>
            have e0 : xNm m.next.length (two mi) (two mo) R W = 0 := by unfold xNm; rw [if_pos ⟨c1,c2⟩,if_neg (by simp [c3]),if_neg (by simp [c4])]
            rw [c4] at hbig
            have c5 : ¬ ((two mo : Nat) : Int) ≤ (xIp W.l : Nat) := by have := of_decide_eq_false hbig.symm; omega
            rw [if_pos e0]
            refine ⟨i',?_⟩
            rw [xIR]
            by_cases e : xF9 m.next.length (two mi) (two mo) (m.next.drop (i + 1)) (m.emit.drop (i + 1)) = 0
            · rw [if_pos e] at ih' ⊢
              simp (maxSteps := 30000000) (disch := first | assumption | omega | (simp only [WL,AV.isCell] <;> omega) | rfl | decide) only [↓reduceIte,WB,xAH,xAc,xAD,xAl,xAk,AV.cells,AV.isCell,xAb,xAg,xAh,W2,xAd,xAe,xAi,Nat.reduceAdd,Nat.reduceSub,Nat.reduceLeDiff,Nat.reduceMul,Int.reduceAdd,Int.reduceSub,Int.reduceMul,Int.reduceLT,Int.reduceLE,Int.reduceEq,Int.reduceToNat,Int.reduceNeg,Nat.reduceEqDiff,Nat.reduceBEq,Nat.reduceLT,xAR,xAS,List.length_map,xEK,xEL,hlt,hi0,ho0,hsi,hso,hR,hW,hrv,hwv,c1,c2,h60,h61',c5,ih']
            · rw [if_neg e] at ih' ⊢
              simp (maxSteps := 30000000) (disch := first | assumption | omega | (simp only [WL,AV.isCell] <;> omega) | rfl | decide) only [↓reduceIte,WB,xAH,xAc,xAD,xAl,xAk,AV.cells,AV.isCell,xAb,xAg,xAh,W2,xAd,xAe,xAi,Nat.reduceAdd,Nat.reduceSub,Nat.reduceLeDiff,Nat.reduceMul,Int.reduceAdd,Int.reduceSub,Int.reduceMul,Int.reduceLT,Int.reduceLE,Int.reduceEq,Int.reduceToNat,Int.reduceNeg,Nat.reduceEqDiff,Nat.reduceBEq,Nat.reduceLT,xAR,xAS,List.length_map,xEK,xEL,hlt,hi0,ho0,hsi,hso,hR,hW,hrv,hwv,c1,c2,h60,h61',c5,ih']
      · have e0 : xNm m.next.length (two mi) (two mo) R W = 2 := by unfold xNm; rw [if_neg (fun h => c2 h.2)]
        have c2' := xWn c2
        simp only [e0,if_neg (show ¬ (2 : Int) = 0 by decide)]
        refine ⟨i,?_⟩
        rw [xIR]
        simp (maxSteps := 30000000) (disch := first | assumption | omega | (simp only [WL,AV.isCell] <;> omega) | rfl | decide) only [↓reduceIte,WB,xAH,xAc,xAD,xAl,xAk,AV.cells,AV.isCell,xAb,xAg,xAh,W2,xAd,xAe,xAi,Nat.reduceAdd,Nat.reduceSub,Nat.reduceLeDiff,Nat.reduceMul,Int.reduceAdd,Int.reduceSub,Int.reduceMul,Int.reduceLT,Int.reduceLE,Int.reduceEq,Int.reduceToNat,Int.reduceNeg,Nat.reduceEqDiff,Nat.reduceBEq,Nat.reduceLT,xAR,xAS,List.length_map,xEK,xEL,hlt,hi0,ho0,hsi,hso,hR,hW,hrv,hwv,c1,c2']
    · have e0 : xNm m.next.length (two mi) (two mo) R W = 2 := by unfold xNm; rw [if_neg (fun h => c1 h.1)]
      have c1' := xWn c1
      simp only [e0,if_neg (show ¬ (2 : Int) = 0 by decide)]
      refine ⟨i,?_⟩
      rw [xIR]
      simp (maxSteps := 30000000) (disch := first | assumption | omega | (simp only [WL,AV.isCell] <;> omega) | rfl | decide) only [↓reduceIte,WB,xAH,xAc,xAD,xAl,xAk,AV.cells,AV.isCell,xAb,xAg,xAh,W2,xAd,xAe,xAi,Nat.reduceAdd,Nat.reduceSub,Nat.reduceLeDiff,Nat.reduceMul,Int.reduceAdd,Int.reduceSub,Int.reduceMul,Int.reduceLT,Int.reduceLE,Int.reduceEq,Int.reduceToNat,Int.reduceNeg,Nat.reduceEqDiff,Nat.reduceBEq,Nat.reduceLT,xAR,xAS,List.length_map,xEK,xEL,hlt,hi0,ho0,hsi,hso,hR,hW,hrv,hwv,c1']
theorem xK1 (hS : Sm m) : L.pcall 21 [m.av] = some (.int .i64 (xNu m)) := by
  have hz := xXy (n := (m.next.length : Nat)) (k := (m.emit.length : Nat)) (s := m.s) hS.i hS.o
  unfold xNu
  unfold Mf.av
  by_cases c : xEb m.i m.o (m.next.length : Nat) (m.emit.length : Nat) m.s = 0
  · rw [if_pos c]
    have hc := xH5 c
    rw [c] at hz
    obtain ⟨i',h⟩ := xU5 (m := m) (mi := m.i.toNat) (mo := m.o.toNat) hS (by omega) (by omega) (by omega) (by omega) (by omega) m.next.length 0 (by omega)
    simp only [Int.natCast_zero,List.drop_zero] at h
    unfold Mf.cells at h ⊢
    rw [yAt,a21,xAo]
    by_cases e : xF9 m.next.length (two m.i.toNat) (two m.o.toNat) m.next m.emit = 0
    · rw [if_pos e] at h
      rw [e]
      simp (maxSteps := 30000000) (disch := first | assumption | omega | (simp only [WL,AV.isCell] <;> omega) | rfl | decide) only [↓reduceIte,WB,xAH,xAc,xAD,xAl,xAk,AV.cells,AV.isCell,xAb,xAg,xAh,W2,xAd,xAe,xAi,Nat.reduceAdd,Nat.reduceSub,Nat.reduceLeDiff,Nat.reduceMul,Int.reduceAdd,Int.reduceSub,Int.reduceMul,Int.reduceLT,Int.reduceLE,Int.reduceEq,Int.reduceToNat,Int.reduceNeg,Nat.reduceEqDiff,Nat.reduceBEq,Nat.reduceLT,xAR,xAS,List.length_map,xEL,hz,h]
    · rw [if_neg e] at h
      simp (maxSteps := 30000000) (disch := first | assumption | omega | (simp only [WL,AV.isCell] <;> omega) | rfl | decide) only [↓reduceIte,WB,xAH,xAc,xAD,xAl,xAk,AV.cells,AV.isCell,xAb,xAg,xAh,W2,xAd,xAe,xAi,Nat.reduceAdd,Nat.reduceSub,Nat.reduceLeDiff,Nat.reduceMul,Int.reduceAdd,Int.reduceSub,Int.reduceMul,Int.reduceLT,Int.reduceLE,Int.reduceEq,Int.reduceToNat,Int.reduceNeg,Nat.reduceEqDiff,Nat.reduceBEq,Nat.reduceLT,xAR,xAS,List.length_map,xEL,hz,h]
  · rw [if_neg c]
    unfold Mf.cells
    rw [yAt,a21,xAo]
    simp (maxSteps := 30000000) (disch := first | assumption | omega | (simp only [WL,AV.isCell] <;> omega) | rfl | decide) only [↓reduceIte,WB,xAH,xAc,xAD,xAl,xAk,AV.cells,AV.isCell,xAb,xAg,xAh,W2,xAd,xAe,xAi,Nat.reduceAdd,Nat.reduceSub,Nat.reduceLeDiff,Nat.reduceMul,Int.reduceAdd,Int.reduceSub,Int.reduceMul,Int.reduceLT,Int.reduceLE,Int.reduceEq,Int.reduceToNat,Int.reduceNeg,Nat.reduceEqDiff,Nat.reduceBEq,Nat.reduceLT,xAR,xAS,List.length_map,hz,c]
end
section
variable {m : Mf} {mi mo : Nat}
end
section
variable {m : Nf} {mi mo : Nat}
end
structure Ma where
  i : Nat
  o : Nat
  s : Nat
  next : List (List Nat)
  emit : List (List Nat)
def xEl (l : List Nat) : AV := .sl false l.length (xBY l)
def xGa (l : List Nat) : AV := .sl false l.length (bs l)
def Ma.cells (M : Ma) : List AV := [.int .i64 (M.i : Nat),.int .i64 (M.o : Nat),.int .i64 (M.s : Nat),.sl false M.next.length (M.next.map xEl),.sl false M.emit.length (M.emit.map xGa)]
def Ma.av (M : Ma) : AV := .agg M.cells
structure Vm (M : Ma) : Prop where
  io : M.i + M.o ≤ 6
  n0 : 0 < M.next.length
  n9 : M.next.length ≤ 4096
  el : M.emit.length = M.next.length
  s : M.s < M.next.length
  rl : ∀ r ∈ M.next,r.length = two M.i
  wl : ∀ w ∈ M.emit,w.length = two M.i
  rb : ∀ r ∈ M.next,∀ x ∈ r,x < M.next.length
  wb : ∀ w ∈ M.emit,∀ x ∈ w,x < two M.o
theorem xBl {l : List (List Nat)} {i : Nat} (h : i < l.length) : List.take 1 (List.drop i (l.map xEl)) = [xEl (l.getD i [])] := xH3 _ _ h
theorem xBm {l : List (List Nat)} {i : Nat} (h : i < l.length) : List.take 1 (List.drop i (l.map xGa)) = [xGa (l.getD i [])] := xH3 _ _ h
def Ma.toF (M : Ma) : Mf := ⟨M.i,M.o,M.s,false,M.next.map fun r => ⟨false,r.map Int.ofNat⟩,false,M.emit.map fun w => ⟨false,w⟩⟩
theorem xJ8 (l : List Nat) : xCI (l.map Int.ofNat) = xBY l := by
  unfold xCI xBY
  rw [List.map_map]; rfl
theorem Ma.toF_av (M : Ma) : M.toF.av = M.av := by
  unfold Ma.toF Mf.av Mf.cells Ma.av Ma.cells
  simp only [List.length_map,List.map_map]
  have e1 : (rwV ∘ fun r : List Nat => (⟨false,r.map Int.ofNat⟩ : Rw)) = xEl := by
    funext r
    show rwV ⟨false,r.map Int.ofNat⟩ = xEl r
    unfold rwV xEl
    simp only [List.length_map,xJ8]
  have e2 : (wdV ∘ fun w : List Nat => (⟨false,w⟩ : Wd)) = xGa := rfl
  rw [e1,e2]
structure Cn (m : Mf) : Prop where
  z : m.z = true → m.next = []
  ze : m.ze = true → m.emit = []
  r : ∀ r ∈ m.next,r.z = true → r.l = []
  w : ∀ w ∈ m.emit,w.z = true → w.l = []
theorem badR_iff {n : Int} {l : List Int} : xXA n l = false ↔ ∀ s ∈ l,0 ≤ s ∧ s < n := by
  unfold xXA
  rw [List.any_eq_false]
  constructor
  · intro h s hs
    have := h s hs
    simp only [decide_eq_true_eq] at this
    omega
  · intro h s hs
    have := h s hs
    simp only [decide_eq_true_eq]
    omega
theorem bigW_iff {k : Nat} {l : List Nat} : xQO k l = false ↔ ∀ x ∈ l,x < k := by
  unfold xQO
  rw [List.any_eq_false]
  constructor
  · intro h s hs
    have := h s hs
    simp only [decide_eq_true_eq] at this
    omega
  · intro h s hs
    have := h s hs
    simp only [decide_eq_true_eq]
    omega
theorem rowE_zero {n wi wo : Nat} {r : Rw} {e : Wd} : xNm n wi wo r e = 0 ↔ r.l.length = wi ∧ e.l.length = wi ∧ (∀ s ∈ r.l,0 ≤ s ∧ s < (n : Int)) ∧ ∀ x ∈ e.l,x < wo := by
  unfold xNm
  by_cases c : r.l.length = wi ∧ e.l.length = wi
  · rw [if_pos c]
    by_cases c2 : xXA n r.l = true
    · rw [if_pos c2]
      exact ⟨fun h => by omega,fun h => by rw [badR_iff.2 h.2.2.1] at c2; cases c2⟩
    · rw [if_neg c2]
      have c2' := badR_iff.1 (by simpa using c2)
      by_cases c3 : xQO wo e.l = true
      · rw [if_pos c3]
        exact ⟨fun h => by omega,fun h => by rw [bigW_iff.2 h.2.2.2] at c3; cases c3⟩
      · rw [if_neg c3]
        exact ⟨fun _ => ⟨c.1,c.2,c2',bigW_iff.1 (by simpa using c3)⟩,fun _ => rfl⟩
  · rw [if_neg c]
    exact ⟨fun h => by omega,fun h => absurd ⟨h.1,h.2.1⟩ c⟩
theorem xFv {n wi wo : Nat} : ∀ {l : List Rw} {u : List Wd},l.length = u.length → (xF9 n wi wo l u = 0 ↔ (∀ r ∈ l,r.l.length = wi ∧ ∀ s ∈ r.l,0 ≤ s ∧ s < (n : Int)) ∧ ∀ e ∈ u,e.l.length = wi ∧ ∀ x ∈ e.l,x < wo)
  | [],[],_ => by simp [xF9]
  | [],_ :: _,h => by simp at h
  | _ :: _,[],h => by simp at h
  | r :: t,e :: u,h => by
    have ih := xFv (n := n) (wi := wi) (wo := wo) (l := t) (u := u) (by simpa using h)
    unfold xF9
    by_cases c : xNm n wi wo r e = 0
    · have c' := rowE_zero.1 c
      rw [if_pos c,ih]
      simp only [List.forall_mem_cons]
      exact ⟨fun h => ⟨⟨⟨c'.1,c'.2.2.1⟩,h.1⟩,⟨c'.2.1,c'.2.2.2⟩,h.2⟩,fun h => ⟨h.1.2,h.2.2⟩⟩
    · rw [if_neg c]
      exact ⟨fun h => absurd h c,fun h => by
        simp only [List.forall_mem_cons] at h
        exact absurd (rowE_zero.2 ⟨h.1.1.1,h.2.1.1,h.1.1.2,h.2.1.2⟩) c⟩
theorem xNn {m : Mf} : xNu m = 0 ↔ xEb m.i m.o (m.next.length : Nat) (m.emit.length : Nat) m.s = 0 ∧ xF9 m.next.length (two m.i.toNat) (two m.o.toNat) m.next m.emit = 0 := by
  unfold xNu
  by_cases c : xEb m.i m.o (m.next.length : Nat) (m.emit.length : Nat) m.s = 0
  · rw [if_pos c]; exact ⟨fun h => ⟨c,h⟩,fun h => h.2⟩
  · rw [if_neg c]; exact ⟨fun h => absurd h c,fun h => absurd h.1 c⟩
def Mf.fromF (m : Mf) : Ma := ⟨m.i.toNat,m.o.toNat,m.s.toNat,m.next.map fun r => r.l.map Int.toNat,m.emit.map fun w => w.l⟩
theorem xXB (m : Nat) : 0 < two m := Nat.two_pow_pos m
theorem xTz {l : List Int} {n : Int} (h : ∀ s ∈ l,0 ≤ s ∧ s < n) : (l.map Int.toNat).map Int.ofNat = l := by
  rw [List.map_map]
  conv => rhs; rw [← List.map_id l]
  apply List.map_congr_left
  intro s hs
  have := h s hs
  show ((s.toNat : Nat) : Int) = s
  omega
theorem xK2 {m : Mf} (hc : Cn m) (h : xNu m = 0) : Vm m.fromF ∧ m.fromF.toF = m := by
  rw [xNn] at h
  obtain ⟨h1,h2⟩ := h
  have h1' := xH5 h1
  rw [xFv (by omega)] at h2
  obtain ⟨h3,h4⟩ := h2
  refine ⟨⟨?_,?_,?_,?_,?_,?_,?_,?_,?_⟩,?_⟩
  · show m.i.toNat + m.o.toNat ≤ 6; omega
  · show 0 < (m.next.map _).length; rw [List.length_map]; omega
  · show (m.next.map _).length ≤ 4096; rw [List.length_map]; omega
  · show (m.emit.map _).length = (m.next.map _).length; rw [List.length_map,List.length_map]; omega
  · show m.s.toNat < (m.next.map _).length; rw [List.length_map]; omega
  · intro r hr
    obtain ⟨r',hr',rfl⟩ := List.mem_map.1 hr
    rw [List.length_map]; exact (h3 r' hr').1
  · intro r hr
    obtain ⟨r',hr',rfl⟩ := List.mem_map.1 hr
    exact (h4 r' hr').1
  · intro r hr x hx
    obtain ⟨r',hr',rfl⟩ := List.mem_map.1 hr
    obtain ⟨x',hx',rfl⟩ := List.mem_map.1 hx
    show x'.toNat < (m.next.map _).length
    rw [List.length_map]
    have := (h3 r' hr').2 x' hx'
    omega
  · intro r hr
    obtain ⟨r',hr',rfl⟩ := List.mem_map.1 hr
    exact (h4 r' hr').2
  · obtain ⟨i,o,s,z,next,ze,emit⟩ := m
    simp only at *
    have e1 : z = false := by cases z with
      | false => rfl
      | true => have := hc.z rfl; simp only at this; subst this; simp at h1'
    have e2 : ze = false := by cases ze with
      | false => rfl
      | true => have := hc.ze rfl; simp only at this; subst this; simp at h1'; omega
    subst e1 e2
    unfold Mf.fromF Ma.toF
    simp only [List.map_map,Mf.mk.injEq,true_and]
    have hp := xXB i.toNat
    refine ⟨by omega,by omega,by omega,?_,?_⟩
    · conv => rhs; rw [← List.map_id next]
      apply List.map_congr_left
      intro r hr
      have hz := hc.r r hr
      have hh := h3 r hr
      obtain ⟨z,l⟩ := r
      simp only [Function.comp] at *
      rw [xTz hh.2]
      cases z with
      | false => rfl
      | true => have := hz rfl; subst this; simp at hh; omega
    · conv => rhs; rw [← List.map_id emit]
      apply List.map_congr_left
      intro r hr
      have hz := hc.w r hr
      have hh := h4 r hr
      obtain ⟨z,l⟩ := r
      simp only [Function.comp] at *
      cases z with
      | false => rfl
      | true => have := hz rfl; subst this; simp at hh; omega
theorem xXC {M : Ma} (hV : Vm M) : xNu M.toF = 0 := by
  have io := hV.io
  have n0 := hV.n0
  have n9 := hV.n9
  have el := hV.el
  have hs := hV.s
  rw [xNn]
  have hl : M.toF.next.length = M.next.length := List.length_map ..
  have hl2 : M.toF.emit.length = M.emit.length := List.length_map ..
  have hi : M.toF.i = (M.i : Nat) := rfl
  have ho : M.toF.o = (M.o : Nat) := rfl
  have hst : M.toF.s = (M.s : Nat) := rfl
  rw [hl,hl2,hi,ho,hst,xFv (by omega)]
  refine ⟨by unfold xEb; rw [if_neg (by omega),if_neg (by omega),if_neg (by omega),if_neg (by omega),if_neg (by omega)],fun r hr => ?_,fun r hr => ?_⟩
  · obtain ⟨r',hr',rfl⟩ := List.mem_map.1 hr
    refine ⟨by rw [List.length_map]; exact hV.rl _ hr',fun s hs => ?_⟩
    obtain ⟨x,hx,rfl⟩ := List.mem_map.1 hs
    have := hV.rb _ hr' _ hx
    show 0 ≤ ((x : Nat) : Int) ∧ ((x : Nat) : Int) < _
    omega
  · obtain ⟨r',hr',rfl⟩ := List.mem_map.1 hr
    exact ⟨hV.wl _ hr',hV.wb _ hr'⟩
theorem xZb {M : Ma} (hV : Vm M) : Sm M.toF := by
  have io := hV.io
  have n9 := hV.n9
  have el := hV.el
  have b1 := (xH4 (show M.i ≤ 6 by omega)).1
  have b2 := (xH4 (show M.o ≤ 6 by omega)).1
  refine ⟨?_,?_,?_,?_,fun r hr => ?_,fun r hr => ?_,fun r hr => ?_⟩
  · show _ ≤ ((M.i : Nat) : Int) ∧ ((M.i : Nat) : Int) < _; omega
  · show _ ≤ ((M.o : Nat) : Int) ∧ ((M.o : Nat) : Int) < _; omega
  · show (M.next.map _).length ≤ _; rw [List.length_map]; omega
  · show (M.emit.map _).length ≤ _; rw [List.length_map]; omega
  · obtain ⟨r',hr',rfl⟩ := List.mem_map.1 hr
    rw [List.length_map,hV.rl _ hr']; omega
  · obtain ⟨r',hr',rfl⟩ := List.mem_map.1 hr
    show r'.length ≤ _
    rw [hV.wl _ hr']; omega
  · obtain ⟨r',hr',rfl⟩ := List.mem_map.1 hr
    intro x hx
    have := hV.wb _ hr' x hx
    omega
theorem xB8 {M : Ma} (hV : Vm M) : L.pcall 21 [M.av] = some (.int .i64 0) := by
  have := xK1 (xZb hV)
  rwa [M.toF_av,xXC hV] at this
structure Mo where
  i : Nat
  o : Nat
  s : Nat
  give : List Nat
  next : List (List Nat)
def Mo.cells (M : Mo) : List AV := [.int .i64 (M.i : Nat),.int .i64 (M.o : Nat),.int .i64 (M.s : Nat),.sl false M.give.length (bs M.give),.sl false M.next.length (M.next.map xEl)]
def Mo.av (M : Mo) : AV := .agg M.cells
structure Vo (M : Mo) : Prop where
  io : M.i + M.o ≤ 6
  n0 : 0 < M.next.length
  n9 : M.next.length ≤ 4096
  gl : M.give.length = M.next.length
  s : M.s < M.next.length
  rl : ∀ r ∈ M.next,r.length = two M.o
  rb : ∀ r ∈ M.next,∀ x ∈ r,x < M.next.length
  gb : ∀ x ∈ M.give,x < two M.i
def Mo.toF (M : Mo) : Nf := ⟨M.i,M.o,M.s,false,M.give,false,M.next.map fun r => ⟨false,r.map Int.ofNat⟩⟩
theorem Mo.toF_av (M : Mo) : M.toF.av = M.av := by
  unfold Mo.toF Nf.av Nf.cells Mo.av Mo.cells
  simp only [List.length_map,List.map_map]
  have e1 : (rwV ∘ fun r : List Nat => (⟨false,r.map Int.ofNat⟩ : Rw)) = xEl := by
    funext r
    show rwV ⟨false,r.map Int.ofNat⟩ = xEl r
    unfold rwV xEl
    simp only [List.length_map,xJ8]
  rw [e1]
def Nf.fromF (m : Nf) : Mo := ⟨m.i.toNat,m.o.toNat,m.s.toNat,m.give,m.next.map fun r => r.l.map Int.toNat⟩
theorem xXD {α : Type} {a b : List α} (h : a.length = b.length) (d : α) {i : Nat} (hi : i < a.length) : (a.drop i = b.drop i) ↔ (a.getD i d = b.getD i d ∧ a.drop (i + 1) = b.drop (i + 1)) := by
  rw [xBb (a := d) hi,xBb (a := d) (show i < b.length by omega)]
  simp
theorem yAm {z1 z2 : Bool} {a b : List Nat} {H : Heap} (hl : a.length = b.length) (hm : a.length < 9223372036854775807) : ∀ e i,i + e = a.length →
    ∃ j : Nat,L.loop xLU xUr ⟨xIT (.sl z1 a.length (bs a)) (.sl z2 b.length (bs b)) (.bool false) (.int .i64 (i : Nat)),H⟩ =
      some (if a.drop i = b.drop i then (.exit 0,⟨xIT (.sl z1 a.length (bs a)) (.sl z2 b.length (bs b)) (.bool false) (.int .i64 (a.length : Nat)),H⟩)
        else (.ret,⟨xIT (.sl z1 a.length (bs a)) (.sl z2 b.length (bs b)) (.bool false) (.int .i64 (j : Nat)),H⟩)) := by
  intro e
  induction e with
  | zero =>
    intro i h
    obtain rfl : i = a.length := by omega
    refine ⟨0,?_⟩
    rw [if_pos (by rw [List.drop_length,hl,List.drop_length]),xRB]
    simp (maxSteps := 30000000) (disch := first | assumption | omega | (simp only [WL,AV.isCell] <;> omega) | rfl | decide) only [↓reduceIte,WB,xAH,xAc,xAD,xAl,xAk,AV.cells,AV.isCell,xAb,xAg,xAh,W2,xAd,xAe,xAi,Nat.reduceAdd,Nat.reduceSub,Nat.reduceLeDiff,Nat.reduceMul,Int.reduceAdd,Int.reduceSub,Int.reduceMul,Int.reduceLT,Int.reduceLE,Int.reduceEq,Int.reduceToNat,Int.reduceNeg,Nat.reduceEqDiff,Nat.reduceBEq,Nat.reduceLT,xIS,xIU]
  | succ e ih =>
    intro i h
    have hlt : (i : Int) < (a.length : Nat) := by omega
    obtain ⟨j,ih'⟩ := ih (i + 1) (by omega)
    rw [← hl] at ih' ⊢
    have hd := xXD hl (0 : Nat) (show i < a.length by omega)
    by_cases c : a.getD i 0 = b.getD i 0
    · refine ⟨j,?_⟩
      have hd' : (a.drop i = b.drop i) ↔ (a.drop (i + 1) = b.drop (i + 1)) := hd.trans ⟨fun h => h.2,fun h => ⟨c,h⟩⟩
      rw [xRB]
      by_cases e : a.drop (i + 1) = b.drop (i + 1)
      · rw [if_pos e] at ih'
        rw [if_pos (hd'.2 e)]
        simp (maxSteps := 30000000) (disch := first | assumption | omega | (simp only [WL,AV.isCell] <;> omega) | rfl | decide) only [↓reduceIte,WB,xAH,xAc,xAD,xAl,xAk,AV.cells,AV.isCell,xAb,xAg,xAh,W2,xAd,xAe,xAi,Nat.reduceAdd,Nat.reduceSub,Nat.reduceLeDiff,Nat.reduceMul,Int.reduceAdd,Int.reduceSub,Int.reduceMul,Int.reduceLT,Int.reduceLE,Int.reduceEq,Int.reduceToNat,Int.reduceNeg,Nat.reduceEqDiff,Nat.reduceBEq,Nat.reduceLT,xIS,xIU,hlt,c,ih']
      · rw [if_neg e] at ih'
        rw [if_neg (fun h => e (hd'.1 h))]
        simp (maxSteps := 30000000) (disch := first | assumption | omega | (simp only [WL,AV.isCell] <;> omega) | rfl | decide) only [↓reduceIte,WB,xAH,xAc,xAD,xAl,xAk,AV.cells,AV.isCell,xAb,xAg,xAh,W2,xAd,xAe,xAi,Nat.reduceAdd,Nat.reduceSub,Nat.reduceLeDiff,Nat.reduceMul,Int.reduceAdd,Int.reduceSub,Int.reduceMul,Int.reduceLT,Int.reduceLE,Int.reduceEq,Int.reduceToNat,Int.reduceNeg,Nat.reduceEqDiff,Nat.reduceBEq,Nat.reduceLT,xIS,xIU,hlt,c,ih']
    · refine ⟨i,?_⟩
      have c' : (((a.getD i 0 : Nat) : Int) = ((b.getD i 0 : Nat) : Int)) = False := eq_false (by omega)
      rw [if_neg (fun h => c (hd.1 h).1),xRB]
      simp (maxSteps := 30000000) (disch := first | assumption | omega | (simp only [WL,AV.isCell] <;> omega) | rfl | decide) only [↓reduceIte,WB,xAH,xAc,xAD,xAl,xAk,AV.cells,AV.isCell,xAb,xAg,xAh,W2,xAd,xAe,xAi,Nat.reduceAdd,Nat.reduceSub,Nat.reduceLeDiff,Nat.reduceMul,Int.reduceAdd,Int.reduceSub,Int.reduceMul,Int.reduceLT,Int.reduceLE,Int.reduceEq,Int.reduceToNat,Int.reduceNeg,Nat.reduceEqDiff,Nat.reduceBEq,Nat.reduceLT,xIS,xIU,hlt,c']
theorem xZc {z1 z2 : Bool} {a b : List Nat} (hm : a.length < 9223372036854775807) : L.pcall 23 [.sl z1 a.length (bs a),.sl z2 b.length (bs b)] = some (.bool (decide (a = b))) := by
  by_cases hl : a.length = b.length
  · obtain ⟨j,h⟩ := yAm (z1 := z1) (z2 := z2) (H := []) hl hm a.length 0 (by omega)
    simp only [Int.natCast_zero,List.drop_zero] at h
    rw [yAu,a23,xAo]
    by_cases c : a = b
    · rw [if_pos c] at h
      rw [decide_eq_true c]
      rw [← hl] at h ⊢
      simp (maxSteps := 30000000) (disch := first | assumption | omega | (simp only [WL,AV.isCell] <;> omega) | rfl | decide) only [↓reduceIte,WB,xAH,xAc,xAD,xAl,xAk,AV.cells,AV.isCell,xAb,xAg,xAh,W2,xAd,xAe,xAi,Nat.reduceAdd,Nat.reduceSub,Nat.reduceLeDiff,Nat.reduceMul,Int.reduceAdd,Int.reduceSub,Int.reduceMul,Int.reduceLT,Int.reduceLE,Int.reduceEq,Int.reduceToNat,Int.reduceNeg,Nat.reduceEqDiff,Nat.reduceBEq,Nat.reduceLT,xIU,h]
    · rw [if_neg c] at h
      rw [decide_eq_false c]
      rw [← hl] at h ⊢
      simp (maxSteps := 30000000) (disch := first | assumption | omega | (simp only [WL,AV.isCell] <;> omega) | rfl | decide) only [↓reduceIte,WB,xAH,xAc,xAD,xAl,xAk,AV.cells,AV.isCell,xAb,xAg,xAh,W2,xAd,xAe,xAi,Nat.reduceAdd,Nat.reduceSub,Nat.reduceLeDiff,Nat.reduceMul,Int.reduceAdd,Int.reduceSub,Int.reduceMul,Int.reduceLT,Int.reduceLE,Int.reduceEq,Int.reduceToNat,Int.reduceNeg,Nat.reduceEqDiff,Nat.reduceBEq,Nat.reduceLT,xIU,h]
  · have hl' : (((a.length : Nat) : Int) = ((b.length : Nat) : Int)) = False := eq_false (by omega)
    rw [decide_eq_false (fun e => hl (by rw [e])),yAu,a23,xAo]
    simp (maxSteps := 30000000) (disch := first | assumption | omega | (simp only [WL,AV.isCell] <;> omega) | rfl | decide) only [↓reduceIte,WB,xAH,xAc,xAD,xAl,xAk,AV.cells,AV.isCell,xAb,xAg,xAh,W2,xAd,xAe,xAi,Nat.reduceAdd,Nat.reduceSub,Nat.reduceLeDiff,Nat.reduceMul,Int.reduceAdd,Int.reduceSub,Int.reduceMul,Int.reduceLT,Int.reduceLE,Int.reduceEq,Int.reduceToNat,Int.reduceNeg,Nat.reduceEqDiff,Nat.reduceBEq,Nat.reduceLT,hl']
end Go.Abs.Mealy
