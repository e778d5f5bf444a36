/- Machines as data; sizes,outside,the greatest letter. -/
import Derived.Test.YtkpbekcgigigkaaDoorAbsBun
import Derived.Test.YtkpbekcgigigkaaDoorAProg
import Derived.Test.YtkpbekcgigigkaaDoorAbsWalk
import Derived.Test.YtkpbekcgigigkaaDoorAbsEnc2
namespace Go.Abs.Mealy
open Go Go.Abs
set_option linter.unusedSimpArgs false
set_option linter.unusedVariables false
noncomputable abbrev L : Rec := lim xAx
theorem xLg {α : Type} (f : α → AV) (a : α) {l : List α} {i : Nat} (h : i < l.length) : List.take 1 (List.drop i (l.map f)) = [f (l.getD i a)] := by
  rw [List.drop_eq_getElem_cons (by simpa using h)]
  simp [List.getD,List.getElem?_eq_getElem h]
theorem xA2 {α : Type} {l : List α} {i : Nat} {a : α} (h : i < l.length) : l.getD i a ∈ l := by
  rw [List.getD_eq_getElem?_getD,List.getElem?_eq_getElem h]
  exact List.getElem_mem _
theorem xAT {α : Type} {a : α} {l : List α} {i : Nat} (h : i < l.length) : l.drop i = l.getD i a :: l.drop (i + 1) := by
  rw [List.getD_eq_getElem?_getD,List.getElem?_eq_getElem h,List.drop_eq_getElem_cons h]; rfl
structure Rw where
  z : Bool
  l : List Int
structure Wd where
  z : Bool
  l : List Nat
structure Mf where
  i : Int
  o : Int
  s : Int
  z : Bool
  next : List Rw
  ze : Bool
  emit : List Wd
structure Nf where
  i : Int
  o : Int
  s : Int
  zg : Bool
  give : List Nat
  z : Bool
  next : List Rw
def r0 : Rw := ⟨true,[]⟩
def w0 : Wd := ⟨true,[]⟩
def rwV (r : Rw) : AV := .sl r.z r.l.length (xB4 r.l)
def wdV (w : Wd) : AV := .sl w.z w.l.length (bs w.l)
def Mf.cells (m : Mf) : List AV := [.int .i64 m.i,.int .i64 m.o,.int .i64 m.s,.sl m.z m.next.length (m.next.map rwV),.sl m.ze m.emit.length (m.emit.map wdV)]
def Mf.av (m : Mf) : AV := .agg m.cells
def Nf.cells (m : Nf) : List AV := [.int .i64 m.i,.int .i64 m.o,.int .i64 m.s,.sl m.zg m.give.length (bs m.give),.sl m.z m.next.length (m.next.map rwV)]
def Nf.av (m : Nf) : AV := .agg m.cells
theorem xAr {l : List Rw} {i : Nat} (h : i < l.length) : List.take 1 (List.drop i (l.map rwV)) = [rwV (l.getD i r0)] := xLg _ _ h
theorem xAs {l : List Wd} {i : Nat} (h : i < l.length) : List.take 1 (List.drop i (l.map wdV)) = [wdV (l.getD i w0)] := xLg _ _ h
def xBQ (i o n k s : Int) : Int := if i < 0 ∨ o < 0 ∨ 6 < i ∨ 6 - i < o then 7 else if n = 0 then 3 else if 4096 < n then 10 else if k ≠ n then 2 else if s < 0 ∨ n ≤ s then 8 else 0
theorem xUB {i o n k s : Int} (hi : -9223372036854775808 ≤ i ∧ i < 9223372036854775808) (ho : -9223372036854775808 ≤ o ∧ o < 9223372036854775808) : L.pcall 59 [.int .i64 i,.int .i64 o,.int .i64 n,.int .i64 k,.int .i64 s] = some (.int .i64 (xBQ i o n k s)) := by
  obtain ⟨hi1,hi2⟩ := hi
  obtain ⟨ho1,ho2⟩ := ho
  rw [yCG,a59,xAl]
  unfold xBQ
  by_cases c1 : i < 0
  · rw [if_pos (by omega)]
    simp (maxSteps := 30000000) (disch := first | assumption | omega | (simp only [WL,AV.isCell] <;> omega) | rfl | decide) only [↓reduceIte,WB,xAu,xAc,xAt,xAk,xAj,AV.cells,AV.isCell,xAa,xAd,xAe,W2,xAf,xAg,xAh,Nat.reduceAdd,Nat.reduceSub,Nat.reduceLeDiff,Nat.reduceMul,Int.reduceAdd,Int.reduceSub,Int.reduceMul,Int.reduceLT,Int.reduceLE,Int.reduceEq,Int.reduceToNat,Int.reduceNeg,Nat.reduceEqDiff,Nat.reduceBEq,Nat.reduceLT,xAr,xAs,List.length_map,c1]
  by_cases c2 : o < 0
  · rw [if_pos (by omega)]
    simp (maxSteps := 30000000) (disch := first | assumption | omega | (simp only [WL,AV.isCell] <;> omega) | rfl | decide) only [↓reduceIte,WB,xAu,xAc,xAt,xAk,xAj,AV.cells,AV.isCell,xAa,xAd,xAe,W2,xAf,xAg,xAh,Nat.reduceAdd,Nat.reduceSub,Nat.reduceLeDiff,Nat.reduceMul,Int.reduceAdd,Int.reduceSub,Int.reduceMul,Int.reduceLT,Int.reduceLE,Int.reduceEq,Int.reduceToNat,Int.reduceNeg,Nat.reduceEqDiff,Nat.reduceBEq,Nat.reduceLT,xAr,xAs,List.length_map,c1,c2]
  by_cases c3 : 6 < i
  · rw [if_pos (by omega)]
    simp (maxSteps := 30000000) (disch := first | assumption | omega | (simp only [WL,AV.isCell] <;> omega) | rfl | decide) only [↓reduceIte,WB,xAu,xAc,xAt,xAk,xAj,AV.cells,AV.isCell,xAa,xAd,xAe,W2,xAf,xAg,xAh,Nat.reduceAdd,Nat.reduceSub,Nat.reduceLeDiff,Nat.reduceMul,Int.reduceAdd,Int.reduceSub,Int.reduceMul,Int.reduceLT,Int.reduceLE,Int.reduceEq,Int.reduceToNat,Int.reduceNeg,Nat.reduceEqDiff,Nat.reduceBEq,Nat.reduceLT,xAr,xAs,List.length_map,c1,c2,c3]
  by_cases c4 : 6 - i < o
  · rw [if_pos (by omega)]
    simp (maxSteps := 30000000) (disch := first | assumption | omega | (simp only [WL,AV.isCell] <;> omega) | rfl | decide) only [↓reduceIte,WB,xAu,xAc,xAt,xAk,xAj,AV.cells,AV.isCell,xAa,xAd,xAe,W2,xAf,xAg,xAh,Nat.reduceAdd,Nat.reduceSub,Nat.reduceLeDiff,Nat.reduceMul,Int.reduceAdd,Int.reduceSub,Int.reduceMul,Int.reduceLT,Int.reduceLE,Int.reduceEq,Int.reduceToNat,Int.reduceNeg,Nat.reduceEqDiff,Nat.reduceBEq,Nat.reduceLT,xAr,xAs,List.length_map,c1,c2,c3,c4]
  rw [if_neg (by omega)]
  by_cases c5 : n = 0
  · rw [if_pos c5]
    simp (maxSteps := 30000000) (disch := first | assumption | omega | (simp only [WL,AV.isCell] <;> omega) | rfl | decide) only [↓reduceIte,WB,xAu,xAc,xAt,xAk,xAj,AV.cells,AV.isCell,xAa,xAd,xAe,W2,xAf,xAg,xAh,Nat.reduceAdd,Nat.reduceSub,Nat.reduceLeDiff,Nat.reduceMul,Int.reduceAdd,Int.reduceSub,Int.reduceMul,Int.reduceLT,Int.reduceLE,Int.reduceEq,Int.reduceToNat,Int.reduceNeg,Nat.reduceEqDiff,Nat.reduceBEq,Nat.reduceLT,xAr,xAs,List.length_map,c1,c2,c3,c4,c5]
  rw [if_neg c5]
  by_cases c6 : 4096 < n
  · rw [if_pos c6]
    simp (maxSteps := 30000000) (disch := first | assumption | omega | (simp only [WL,AV.isCell] <;> omega) | rfl | decide) only [↓reduceIte,WB,xAu,xAc,xAt,xAk,xAj,AV.cells,AV.isCell,xAa,xAd,xAe,W2,xAf,xAg,xAh,Nat.reduceAdd,Nat.reduceSub,Nat.reduceLeDiff,Nat.reduceMul,Int.reduceAdd,Int.reduceSub,Int.reduceMul,Int.reduceLT,Int.reduceLE,Int.reduceEq,Int.reduceToNat,Int.reduceNeg,Nat.reduceEqDiff,Nat.reduceBEq,Nat.reduceLT,xAr,xAs,List.length_map,c1,c2,c3,c4,c5,c6]
  rw [if_neg c6]
  by_cases c7 : k = n
  · rw [if_neg (by omega)]
    by_cases c8 : s < 0
    · rw [if_pos (by omega)]
      simp (maxSteps := 30000000) (disch := first | assumption | omega | (simp only [WL,AV.isCell] <;> omega) | rfl | decide) only [↓reduceIte,WB,xAu,xAc,xAt,xAk,xAj,AV.cells,AV.isCell,xAa,xAd,xAe,W2,xAf,xAg,xAh,Nat.reduceAdd,Nat.reduceSub,Nat.reduceLeDiff,Nat.reduceMul,Int.reduceAdd,Int.reduceSub,Int.reduceMul,Int.reduceLT,Int.reduceLE,Int.reduceEq,Int.reduceToNat,Int.reduceNeg,Nat.reduceEqDiff,Nat.reduceBEq,Nat.reduceLT,xAr,xAs,List.length_map,c1,c2,c3,c4,c5,c6,c7,c8]
    by_cases c9 : n ≤ s
    · rw [if_pos (by omega)]
      simp (maxSteps := 30000000) (disch := first | assumption | omega | (simp only [WL,AV.isCell] <;> omega) | rfl | decide) only [↓reduceIte,WB,xAu,xAc,xAt,xAk,xAj,AV.cells,AV.isCell,xAa,xAd,xAe,W2,xAf,xAg,xAh,Nat.reduceAdd,Nat.reduceSub,Nat.reduceLeDiff,Nat.reduceMul,Int.reduceAdd,Int.reduceSub,Int.reduceMul,Int.reduceLT,Int.reduceLE,Int.reduceEq,Int.reduceToNat,Int.reduceNeg,Nat.reduceEqDiff,Nat.reduceBEq,Nat.reduceLT,xAr,xAs,List.length_map,c1,c2,c3,c4,c5,c6,c7,c8,c9]
    rw [if_neg (by omega)]
    simp (maxSteps := 30000000) (disch := first | assumption | omega | (simp only [WL,AV.isCell] <;> omega) | rfl | decide) only [↓reduceIte,WB,xAu,xAc,xAt,xAk,xAj,AV.cells,AV.isCell,xAa,xAd,xAe,W2,xAf,xAg,xAh,Nat.reduceAdd,Nat.reduceSub,Nat.reduceLeDiff,Nat.reduceMul,Int.reduceAdd,Int.reduceSub,Int.reduceMul,Int.reduceLT,Int.reduceLE,Int.reduceEq,Int.reduceToNat,Int.reduceNeg,Nat.reduceEqDiff,Nat.reduceBEq,Nat.reduceLT,xAr,xAs,List.length_map,c1,c2,c3,c4,c5,c6,c7,c8,c9]
  · rw [if_pos c7]
    simp (maxSteps := 30000000) (disch := first | assumption | omega | (simp only [WL,AV.isCell] <;> omega) | rfl | decide) only [↓reduceIte,WB,xAu,xAc,xAt,xAk,xAj,AV.cells,AV.isCell,xAa,xAd,xAe,W2,xAf,xAg,xAh,Nat.reduceAdd,Nat.reduceSub,Nat.reduceLeDiff,Nat.reduceMul,Int.reduceAdd,Int.reduceSub,Int.reduceMul,Int.reduceLT,Int.reduceLE,Int.reduceEq,Int.reduceToNat,Int.reduceNeg,Nat.reduceEqDiff,Nat.reduceBEq,Nat.reduceLT,xAr,xAs,List.length_map,c1,c2,c3,c4,c5,c6,c7]
section
variable {H : Heap} {fv : AV}
theorem yBX {z : Bool} {l : List Int} {P : Int → Bool} (hl : l.length < 9223372036854775807) (hf : ∀ s,L.icall fv [.int .i64 s] H = some (.bool (P s),H)) : ∀ e i,i + e = l.length →
    ∃ j : Nat,L.loop xMt xVY ⟨xJi (.sl z l.length (xB4 l)) fv (.int .i64 0) (.int .i64 (l.length : Nat)) (.int .i64 (i : Nat)),H⟩ =
      some (if (l.drop i).any P = true then (.ret,⟨xJi (.sl z l.length (xB4 l)) fv (.int .i64 (j : Nat)) (.int .i64 (l.length : Nat)) (.int .i64 (j : Nat)),H⟩)
        else (.exit 0,⟨xJi (.sl z l.length (xB4 l)) fv (.int .i64 0) (.int .i64 (l.length : Nat)) (.int .i64 (l.length : Nat)),H⟩)) := by
  intro e
  induction e with
  | zero =>
    intro i h
    obtain rfl : i = l.length := by omega
    refine ⟨0,?_⟩
    rw [if_neg (by rw [List.drop_length]; simp),xSU]
    simp (maxSteps := 30000000) (disch := first | assumption | omega | (simp only [WL,AV.isCell] <;> omega) | rfl | decide) only [↓reduceIte,WB,xAu,xAc,xAt,xAk,xAj,AV.cells,AV.isCell,xAa,xAd,xAe,W2,xAf,xAg,xAh,Nat.reduceAdd,Nat.reduceSub,Nat.reduceLeDiff,Nat.reduceMul,Int.reduceAdd,Int.reduceSub,Int.reduceMul,Int.reduceLT,Int.reduceLE,Int.reduceEq,Int.reduceToNat,Int.reduceNeg,Nat.reduceEqDiff,Nat.reduceBEq,Nat.reduceLT,xAr,xAs,List.length_map,xJh,xJj]
  | succ e ih =>
    intro i h
    have hlt : (i : Int) < (l.length : Nat) := by omega
    obtain ⟨j,ih'⟩ := ih (i + 1) (by omega)
    have hp := hf (l.getD i 0)
    rw [xAT (a := (0 : Int)) (by omega : i < l.length),List.any_cons]
    cases c : P (l.getD i 0) with
    | true =>
      rw [c] at hp
      refine ⟨i,?_⟩
      rw [Bool.true_or,if_pos rfl,xSU]
      simp (maxSteps := 30000000) (disch := first | assumption | omega | (simp only [WL,AV.isCell] <;> omega) | rfl | decide) only [↓reduceIte,WB,xAu,xAc,xAt,xAk,xAj,AV.cells,AV.isCell,xAa,xAd,xAe,W2,xAf,xAg,xAh,Nat.reduceAdd,Nat.reduceSub,Nat.reduceLeDiff,Nat.reduceMul,Int.reduceAdd,Int.reduceSub,Int.reduceMul,Int.reduceLT,Int.reduceLE,Int.reduceEq,Int.reduceToNat,Int.reduceNeg,Nat.reduceEqDiff,Nat.reduceBEq,Nat.reduceLT,xAr,xAs,List.length_map,xJh,xJj,hlt,hp]
    | false =>
      rw [c] at hp
      rw [Bool.false_or]
      refine ⟨j,?_⟩
      rw [xSU]
      by_cases e : (l.drop (i + 1)).any P = true
      · rw [if_pos e] at ih' ⊢
        simp (maxSteps := 30000000) (disch := first | assumption | omega | (simp only [WL,AV.isCell] <;> omega) | rfl | decide) only [↓reduceIte,WB,xAu,xAc,xAt,xAk,xAj,AV.cells,AV.isCell,xAa,xAd,xAe,W2,xAf,xAg,xAh,Nat.reduceAdd,Nat.reduceSub,Nat.reduceLeDiff,Nat.reduceMul,Int.reduceAdd,Int.reduceSub,Int.reduceMul,Int.reduceLT,Int.reduceLE,Int.reduceEq,Int.reduceToNat,Int.reduceNeg,Nat.reduceEqDiff,Nat.reduceBEq,Nat.reduceLT,xAr,xAs,List.length_map,xJh,xJj,hlt,hp,ih']
      · rw [if_neg e] at ih' ⊢
        simp (maxSteps := 30000000) (disch := first | assumption | omega | (simp only [WL,AV.isCell] <;> omega) | rfl | decide) only [↓reduceIte,WB,xAu,xAc,xAt,xAk,xAj,AV.cells,AV.isCell,xAa,xAd,xAe,W2,xAf,xAg,xAh,Nat.reduceAdd,Nat.reduceSub,Nat.reduceLeDiff,Nat.reduceMul,Int.reduceAdd,Int.reduceSub,Int.reduceMul,Int.reduceLT,Int.reduceLE,Int.reduceEq,Int.reduceToNat,Int.reduceNeg,Nat.reduceEqDiff,Nat.reduceBEq,Nat.reduceLT,xAr,xAs,List.length_map,xJh,xJj,hlt,hp,ih']
theorem xY1 {z : Bool} {l : List Int} {P : Int → Bool} (hl : l.length < 9223372036854775807) (hf : ∀ s,L.icall fv [.int .i64 s] H = some (.bool (P s),H)) :
    ∃ j : Int,L.icall (.func 99 []) [.sl z l.length (xB4 l),fv] H = some (.int .i64 j,H) ∧ (if l.any P = true then 0 ≤ j else j < 0) := by
  obtain ⟨j,h⟩ := yBX (z := z) hl hf l.length 0 (by omega)
  simp only [Int.natCast_zero,List.drop_zero] at h
  by_cases c : l.any P = true
  · rw [if_pos c] at h
    refine ⟨j,?_,by rw [if_pos c]; omega⟩
    rw [yCl,a99]
    simp (maxSteps := 30000000) (disch := first | assumption | omega | (simp only [WL,AV.isCell] <;> omega) | rfl | decide) only [↓reduceIte,WB,xAu,xAc,xAt,xAk,xAj,AV.cells,AV.isCell,xAa,xAd,xAe,W2,xAf,xAg,xAh,Nat.reduceAdd,Nat.reduceSub,Nat.reduceLeDiff,Nat.reduceMul,Int.reduceAdd,Int.reduceSub,Int.reduceMul,Int.reduceLT,Int.reduceLE,Int.reduceEq,Int.reduceToNat,Int.reduceNeg,Nat.reduceEqDiff,Nat.reduceBEq,Nat.reduceLT,xAr,xAs,List.length_map,xJj,h]
  · rw [if_neg c] at h
    refine ⟨-1,?_,by rw [if_neg c]; omega⟩
    rw [yCl,a99]
    simp (maxSteps := 30000000) (disch := first | assumption | omega | (simp only [WL,AV.isCell] <;> omega) | rfl | decide) only [↓reduceIte,WB,xAu,xAc,xAt,xAk,xAj,AV.cells,AV.isCell,xAa,xAd,xAe,W2,xAf,xAg,xAh,Nat.reduceAdd,Nat.reduceSub,Nat.reduceLeDiff,Nat.reduceMul,Int.reduceAdd,Int.reduceSub,Int.reduceMul,Int.reduceLT,Int.reduceLE,Int.reduceEq,Int.reduceToNat,Int.reduceNeg,Nat.reduceEqDiff,Nat.reduceBEq,Nat.reduceLT,xAr,xAs,List.length_map,xJj,h]
theorem yBY {z : Bool} {l : List Int} {P : Int → Bool} (hl : l.length < 9223372036854775807) (hf : ∀ s,L.icall fv [.int .i64 s] H = some (.bool (P s),H)) :
    L.icall (.func 90 []) [.sl z l.length (xB4 l),fv] H = some (.bool (l.any P),H) := by
  obtain ⟨j,h,hj⟩ := xY1 (z := z) hl hf
  rw [yCS,a90]
  cases c : l.any P with
  | true =>
    rw [if_pos c] at hj
    simp (maxSteps := 30000000) (disch := first | assumption | omega | (simp only [WL,AV.isCell] <;> omega) | rfl | decide) only [↓reduceIte,WB,xAu,xAc,xAt,xAk,xAj,AV.cells,AV.isCell,xAa,xAd,xAe,W2,xAf,xAg,xAh,Nat.reduceAdd,Nat.reduceSub,Nat.reduceLeDiff,Nat.reduceMul,Int.reduceAdd,Int.reduceSub,Int.reduceMul,Int.reduceLT,Int.reduceLE,Int.reduceEq,Int.reduceToNat,Int.reduceNeg,Nat.reduceEqDiff,Nat.reduceBEq,Nat.reduceLT,xAr,xAs,List.length_map,h,hj]
  | false =>
    rw [if_neg (by simp [c])] at hj
    have hj' : ¬ 0 ≤ j := by omega
    simp (maxSteps := 30000000) (disch := first | assumption | omega | (simp only [WL,AV.isCell] <;> omega) | rfl | decide) only [↓reduceIte,WB,xAu,xAc,xAt,xAk,xAj,AV.cells,AV.isCell,xAa,xAd,xAe,W2,xAf,xAg,xAh,Nat.reduceAdd,Nat.reduceSub,Nat.reduceLeDiff,Nat.reduceMul,Int.reduceAdd,Int.reduceSub,Int.reduceMul,Int.reduceLT,Int.reduceLE,Int.reduceEq,Int.reduceToNat,Int.reduceNeg,Nat.reduceEqDiff,Nat.reduceBEq,Nat.reduceLT,xAr,xAs,List.length_map,h,hj']
end
theorem yBZ {k : Nat} {s n : Int} {H : Heap} (h : H[k]? = some (.cells false false [.int .i64 n])) : L.icall (.func 91 [.ptr k 0]) [.int .i64 s] H = some (.bool (decide (s < 0 ∨ n ≤ s)),H) := by
  rw [yCT,a91]
  by_cases c : s < 0
  · rw [decide_eq_true (Or.inl c)]
    simp (maxSteps := 30000000) (disch := first | assumption | omega | (simp only [WL,AV.isCell] <;> omega) | rfl | decide) only [↓reduceIte,WB,xAu,xAc,xAt,xAk,xAj,AV.cells,AV.isCell,xAa,xAd,xAe,W2,xAf,xAg,xAh,Nat.reduceAdd,Nat.reduceSub,Nat.reduceLeDiff,Nat.reduceMul,Int.reduceAdd,Int.reduceSub,Int.reduceMul,Int.reduceLT,Int.reduceLE,Int.reduceEq,Int.reduceToNat,Int.reduceNeg,Nat.reduceEqDiff,Nat.reduceBEq,Nat.reduceLT,xAr,xAs,List.length_map,h,c]
  · by_cases c2 : n ≤ s
    · rw [decide_eq_true (Or.inr c2)]
      simp (maxSteps := 30000000) (disch := first | assumption | omega | (simp only [WL,AV.isCell] <;> omega) | rfl | decide) only [↓reduceIte,WB,xAu,xAc,xAt,xAk,xAj,AV.cells,AV.isCell,xAa,xAd,xAe,W2,xAf,xAg,xAh,Nat.reduceAdd,Nat.reduceSub,Nat.reduceLeDiff,Nat.reduceMul,Int.reduceAdd,Int.reduceSub,Int.reduceMul,Int.reduceLT,Int.reduceLE,Int.reduceEq,Int.reduceToNat,Int.reduceNeg,Nat.reduceEqDiff,Nat.reduceBEq,Nat.reduceLT,xAr,xAs,List.length_map,h,c,c2]
    · rw [decide_eq_false (by omega)]
      simp (maxSteps := 30000000) (disch := first | assumption | omega | (simp only [WL,AV.isCell] <;> omega) | rfl | decide) only [↓reduceIte,WB,xAu,xAc,xAt,xAk,xAj,AV.cells,AV.isCell,xAa,xAd,xAe,W2,xAf,xAg,xAh,Nat.reduceAdd,Nat.reduceSub,Nat.reduceLeDiff,Nat.reduceMul,Int.reduceAdd,Int.reduceSub,Int.reduceMul,Int.reduceLT,Int.reduceLE,Int.reduceEq,Int.reduceToNat,Int.reduceNeg,Nat.reduceEqDiff,Nat.reduceBEq,Nat.reduceLT,xAr,xAs,List.length_map,h,c,c2]
def xLh (n : Int) (l : List Int) : Bool := l.any fun s => decide (s < 0 ∨ n ≤ s)
theorem xNP {z : Bool} {l : List Int} {n : Int} (hl : l.length < 9223372036854775807) : L.pcall 60 [.sl z l.length (xB4 l),.int .i64 n] = some (.bool (xLh n l)) := by
  have h := yBY (z := z) (P := fun s => decide (s < 0 ∨ n ≤ s)) (fv := .func 91 [.ptr 0 0]) (H := [.cells false false [.int .i64 n]]) hl (fun s => yBZ rfl)
  rw [yCH,a60,xAl]
  unfold xLh
  simp (maxSteps := 30000000) (disch := first | assumption | omega | (simp only [WL,AV.isCell] <;> omega) | rfl | decide) only [↓reduceIte,WB,xAu,xAc,xAt,xAk,xAj,AV.cells,AV.isCell,xAa,xAd,xAe,W2,xAf,xAg,xAh,Nat.reduceAdd,Nat.reduceSub,Nat.reduceLeDiff,Nat.reduceMul,Int.reduceAdd,Int.reduceSub,Int.reduceMul,Int.reduceLT,Int.reduceLE,Int.reduceEq,Int.reduceToNat,Int.reduceNeg,Nat.reduceEqDiff,Nat.reduceBEq,Nat.reduceLT,xAr,xAs,List.length_map,h]
def xIt : List Nat → Nat
  | [] => 0
  | x :: t => max x (xIt t)
theorem yB0 (a b : Nat) : max (a : Int) (b : Int) = ((max a b : Nat) : Int) := by omega
theorem yAN {z : Bool} {l : List Nat} {H : Heap} (hl : l.length < 9223372036854775807) : ∀ e i m,i + e = l.length →
    L.loop xMg xVT ⟨xMh (.sl z l.length (bs l)) (.int .u8 (m : Nat)) (.int .i64 (i : Nat)),H⟩ = some (.exit 0,⟨xMh (.sl z l.length (bs l)) (.int .u8 (max m (xIt (l.drop i)) : Nat)) (.int .i64 (l.length : Nat)),H⟩) := by
  intro e
  induction e with
  | zero =>
    intro i m h
    obtain rfl : i = l.length := by omega
    rw [List.drop_length,show max m (xIt []) = m by simp [xIt],xWW]
    simp (maxSteps := 30000000) (disch := first | assumption | omega | (simp only [WL,AV.isCell] <;> omega) | rfl | decide) only [↓reduceIte,WB,xAu,xAc,xAt,xAk,xAj,AV.cells,AV.isCell,xAa,xAd,xAe,W2,xAf,xAg,xAh,Nat.reduceAdd,Nat.reduceSub,Nat.reduceLeDiff,Nat.reduceMul,Int.reduceAdd,Int.reduceSub,Int.reduceMul,Int.reduceLT,Int.reduceLE,Int.reduceEq,Int.reduceToNat,Int.reduceNeg,Nat.reduceEqDiff,Nat.reduceBEq,Nat.reduceLT,xAr,xAs,List.length_map,xPd,xSG]
  | succ e ih =>
    intro i m h
    have hlt : (i : Int) < (l.length : Nat) := by omega
    rw [xAT (a := (0 : Nat)) (by omega : i < l.length)]
    have e1 : max m (xIt (l.getD i 0 :: l.drop (i + 1))) = max (max m (l.getD i 0)) (xIt (l.drop (i + 1))) := by simp only [xIt]; omega
    have ih' := ih (i + 1) (max m (l.getD i 0)) (by omega)
    rw [e1,xWW]
    simp (maxSteps := 30000000) (disch := first | assumption | omega | (simp only [WL,AV.isCell] <;> omega) | rfl | decide) only [↓reduceIte,WB,xAu,xAc,xAt,xAk,xAj,AV.cells,AV.isCell,xAa,xAd,xAe,W2,xAf,xAg,xAh,Nat.reduceAdd,Nat.reduceSub,Nat.reduceLeDiff,Nat.reduceMul,Int.reduceAdd,Int.reduceSub,Int.reduceMul,Int.reduceLT,Int.reduceLE,Int.reduceEq,Int.reduceToNat,Int.reduceNeg,Nat.reduceEqDiff,Nat.reduceBEq,Nat.reduceLT,xAr,xAs,List.length_map,xPd,xSG,hlt,yB0,ih']
theorem yB1 {z : Bool} {l : List Nat} (h0 : 0 < l.length) (hl : l.length < 9223372036854775807) : L.pcall 61 [.sl z l.length (bs l)] = some (.int .u8 (xIt l : Nat)) := by
  have h := yAN (z := z) (H := []) hl (l.length - 1) 1 (l.getD 0 0) (by omega)
  have e : max (l.getD 0 0) (xIt (l.drop 1)) = xIt l := by
    cases l with
    | nil => simp at h0
    | cons x t => rfl
  have c : ¬ ((l.length : Nat) : Int) < 1 := by omega
  rw [e] at h
  simp only [Int.natCast_one] at h
  rw [yCI,a61,xAl]
  simp (maxSteps := 30000000) (disch := first | assumption | omega | (simp only [WL,AV.isCell] <;> omega) | rfl | decide) only [↓reduceIte,WB,xAu,xAc,xAt,xAk,xAj,AV.cells,AV.isCell,xAa,xAd,xAe,W2,xAf,xAg,xAh,Nat.reduceAdd,Nat.reduceSub,Nat.reduceLeDiff,Nat.reduceMul,Int.reduceAdd,Int.reduceSub,Int.reduceMul,Int.reduceLT,Int.reduceLE,Int.reduceEq,Int.reduceToNat,Int.reduceNeg,Nat.reduceEqDiff,Nat.reduceBEq,Nat.reduceLT,xAr,xAs,List.length_map,xSG,c,h]
def two (m : Nat) : Nat := 2 ^ m
theorem xDf {v : Nat} (h : v ≤ 6) : two v ≤ 64 ∧ 0 < two v := by
  have : v = 0 ∨ v = 1 ∨ v = 2 ∨ v = 3 ∨ v = 4 ∨ v = 5 ∨ v = 6 := by omega
  unfold two
  rcases this with e | e | e | e | e | e | e <;> rw [e] <;> decide
theorem xC9 {v : Nat} (h : v ≤ 6) : IntKind.i64.wrap (1 * 2 ^ min v IntKind.i64.bits) = (two v : Nat) := by
  have : v = 0 ∨ v = 1 ∨ v = 2 ∨ v = 3 ∨ v = 4 ∨ v = 5 ∨ v = 6 := by omega
  rcases this with rfl | rfl | rfl | rfl | rfl | rfl | rfl <;> decide
def xIu (k : Nat) (l : List Nat) : Bool := l.any fun x => decide (k ≤ x)
theorem xQx {k : Nat} (h : 0 < k) : ∀ l,xIu k l = decide (k ≤ xIt l)
  | [] => by simp [xIu,xIt]; omega
  | x :: t => by
    have ih := xQx h t
    unfold xIu at ih ⊢
    rw [List.any_cons,ih,xIt]
    by_cases c : k ≤ x
    · rw [decide_eq_true c,decide_eq_true (show k ≤ max x (xIt t) by omega)]; rfl
    · rw [decide_eq_false c]
      by_cases c2 : k ≤ xIt t
      · rw [decide_eq_true c2,decide_eq_true (show k ≤ max x (xIt t) by omega)]; rfl
      · rw [decide_eq_false c2,decide_eq_false (show ¬ k ≤ max x (xIt t) by omega)]; rfl
theorem xUC {b : Nat} (hb : 0 < b) : ∀ {l : List Nat},(∀ x ∈ l,x < b) → xIt l < b
  | [],_ => hb
  | x :: t,h => by
    have h1 := h x (by simp)
    have h2 := xUC hb (l := t) fun y hy => h y (by simp [hy])
    simp only [xIt]; omega
def xE7 (n wi wo : Nat) (r : Rw) (e : Wd) : Int := if r.l.length = wi ∧ e.l.length = wi then (if xLh n r.l = true then 8 else if xIu wo e.l = true then 1 else 0) else 2
def xDi (n wi wo : Nat) : List Rw → List Wd → Int
  | r :: t,e :: u => if xE7 n wi wo r e = 0 then xDi n wi wo t u else xE7 n wi wo r e
  | _,_ => 0
def xOI (m : Mf) : Int := if xBQ m.i m.o (m.next.length : Nat) (m.emit.length : Nat) m.s = 0 then xDi m.next.length (two m.i.toNat) (two m.o.toNat) m.next m.emit else xBQ m.i m.o (m.next.length : Nat) (m.emit.length : Nat) m.s
structure Sm (m : Mf) : Prop where
  i : -9223372036854775808 ≤ m.i ∧ m.i < 9223372036854775808
  o : -9223372036854775808 ≤ m.o ∧ m.o < 9223372036854775808
  n : m.next.length ≤ 100000
  e : m.emit.length ≤ 100000
  r : ∀ r ∈ m.next,r.l.length ≤ 100000
  w : ∀ w ∈ m.emit,w.l.length ≤ 100000
  b : ∀ w ∈ m.emit,∀ x ∈ w.l,x < 256
theorem xBW {i o n k s : Int} (h : xBQ i o n k s = 0) : 0 ≤ i ∧ 0 ≤ o ∧ i + o ≤ 6 ∧ 0 ≠ n ∧ n ≤ 4096 ∧ k = n ∧ 0 ≤ s ∧ s < n := by
  unfold xBQ at h
  split at h
  · omega
  split at h
  · omega
  split at h
  · omega
  split at h
  · omega
  split at h
  · omega
  omega
theorem xKp {a b : Nat} (h : ¬ a = b) : (((a : Nat) : Int) = ((b : Nat) : Int)) = False := eq_false (by omega)
section
variable {m : Mf} {mi mo : Nat}
theorem xWs (hS : Sm m) (hi : m.i = (mi : Nat)) (ho : m.o = (mo : Nat)) (hi6 : mi ≤ 6) (ho6 : mo ≤ 6) (hne : m.emit.length = m.next.length) : ∀ e i,i + e = m.next.length →
    ∃ i' : Nat,L.loop xL4 xVM ⟨xIW (.ptr 0 0) (.int .i64 0) (.int .i64 (m.next.length : Nat)) (.sl m.z m.next.length (m.next.map rwV)) (.int .i64 (m.next.length : Nat)) (.int .i64 (i : Nat)),[.cells false false m.cells]⟩ =
      some (if xDi m.next.length (two mi) (two mo) (m.next.drop i) (m.emit.drop i) = 0 then (.exit 0,⟨xIW (.ptr 0 0) (.int .i64 0) (.int .i64 (m.next.length : Nat)) (.sl m.z m.next.length (m.next.map rwV)) (.int .i64 (m.next.length : Nat)) (.int .i64 (m.next.length : Nat)),[.cells false false m.cells]⟩)
        else (.ret,⟨xIW (.ptr 0 0) (.int .i64 (xDi m.next.length (two mi) (two mo) (m.next.drop i) (m.emit.drop i))) (.int .i64 (m.next.length : Nat)) (.sl m.z m.next.length (m.next.map rwV)) (.int .i64 (m.next.length : Nat)) (.int .i64 (i' : Nat)),[.cells false false m.cells]⟩)) := by
  have hn := hS.n
  have hsi := xC9 hi6
  have hso := xC9 ho6
  have htwo := (xDf hi6).2
  have htwo' := (xDf ho6).2
  have hi0 : ¬ ((mi : Nat) : Int) < 0 := by omega
  have ho0 : ¬ ((mo : Nat) : Int) < 0 := by omega
  unfold Mf.cells
  rw [hi,ho]
  intro e
  induction e with
  | zero =>
    intro i h
    obtain rfl : i = m.next.length := by omega
    refine ⟨0,?_⟩
    rw [if_pos (by rw [List.drop_length]; rfl),xIX]
    simp (maxSteps := 30000000) (disch := first | assumption | omega | (simp only [WL,AV.isCell] <;> omega) | rfl | decide) only [↓reduceIte,WB,xAu,xAc,xAt,xAk,xAj,AV.cells,AV.isCell,xAa,xAd,xAe,W2,xAf,xAg,xAh,Nat.reduceAdd,Nat.reduceSub,Nat.reduceLeDiff,Nat.reduceMul,Int.reduceAdd,Int.reduceSub,Int.reduceMul,Int.reduceLT,Int.reduceLE,Int.reduceEq,Int.reduceToNat,Int.reduceNeg,Nat.reduceEqDiff,Nat.reduceBEq,Nat.reduceLT,xAr,xAs,List.length_map,xEL,xEM]
  | succ e ih =>
    intro i h
    have hlt : (i : Int) < (m.next.length : Nat) := by omega
    obtain ⟨i',ih'⟩ := ih (i + 1) (by omega)
    have hr1 := xA2 (a := r0) (show i < m.next.length by omega)
    have hw1 := xA2 (a := w0) (show i < m.emit.length by omega)
    have hr := hS.r _ hr1
    have hw := hS.w _ hw1
    have hb := xUC (by decide) (hS.b _ hw1)
    have h60 := xNP (z := (m.next.getD i r0).z) (l := (m.next.getD i r0).l) (n := (m.next.length : Nat)) (by omega)
    have h61 : (m.emit.getD i w0).l.length = two mi → _ := fun e => yB1 (z := (m.emit.getD i w0).z) (l := (m.emit.getD i w0).l) (by omega) (by omega)
    have hbig := xQx htwo' (m.emit.getD i w0).l
    rw [xAT (a := r0) (by omega : i < m.next.length),xAT (a := w0) (by omega : i < m.emit.length)]
    have et : ∀ n wi wo r t e u,xDi n wi wo (r :: t) (e :: u) = if xE7 n wi wo r e = 0 then xDi n wi wo t u else xE7 n wi wo r e := fun _ _ _ _ _ _ _ => rfl
    rw [et]
    generalize hR : m.next.getD i r0 = R at *
    generalize hW : m.emit.getD i w0 = W at *
    have hrv : rwV R = .sl R.z R.l.length (xB4 R.l) := rfl
    have hwv : wdV W = .sl W.z W.l.length (bs W.l) := rfl
    by_cases c1 : R.l.length = two mi
    · by_cases c2 : W.l.length = two mi
      · have h61' := h61 c2
        rw [c2] at h61'
        rw [c1] at h60
        cases c3 : xLh m.next.length R.l with
        | true =>
          have e0 : xE7 m.next.length (two mi) (two mo) R W = 8 := by unfold xE7; rw [if_pos ⟨c1,c2⟩,if_pos c3]
          rw [c3] at h60
          simp only [e0,if_neg (show ¬ (8 : Int) = 0 by decide)]
          refine ⟨i,?_⟩
          rw [xIX]
          simp (maxSteps := 30000000) (disch := first | assumption | omega | (simp only [WL,AV.isCell] <;> omega) | rfl | decide) only [↓reduceIte,WB,xAu,xAc,xAt,xAk,xAj,AV.cells,AV.isCell,xAa,xAd,xAe,W2,xAf,xAg,xAh,Nat.reduceAdd,Nat.reduceSub,Nat.reduceLeDiff,Nat.reduceMul,Int.reduceAdd,Int.reduceSub,Int.reduceMul,Int.reduceLT,Int.reduceLE,Int.reduceEq,Int.reduceToNat,Int.reduceNeg,Nat.reduceEqDiff,Nat.reduceBEq,Nat.reduceLT,xAr,xAs,List.length_map,xEL,xEM,hlt,hi0,ho0,hsi,hso,hR,hW,hrv,hwv,c1,c2,h60]
        | false =>
          rw [c3] at h60
          cases c4 : xIu (two mo) W.l with
          | true =>
            have e0 : xE7 m.next.length (two mi) (two mo) R W = 1 := by unfold xE7; rw [if_pos ⟨c1,c2⟩,if_neg (by simp [c3]),if_pos c4]
            rw [c4] at hbig
            have c5 : ((two mo : Nat) : Int) ≤ (xIt W.l : Nat) := by have := of_decide_eq_true hbig.symm; omega
            simp only [e0,if_neg (show ¬ (1 : Int) = 0 by decide)]
            refine ⟨i,?_⟩
            rw [xIX]
            simp (maxSteps := 30000000) (disch := first | assumption | omega | (simp only [WL,AV.isCell] <;> omega) | rfl | decide) only [↓reduceIte,WB,xAu,xAc,xAt,xAk,xAj,AV.cells,AV.isCell,xAa,xAd,xAe,W2,xAf,xAg,xAh,Nat.reduceAdd,Nat.reduceSub,Nat.reduceLeDiff,Nat.reduceMul,Int.reduceAdd,Int.reduceSub,Int.reduceMul,Int.reduceLT,Int.reduceLE,Int.reduceEq,Int.reduceToNat,Int.reduceNeg,Nat.reduceEqDiff,Nat.reduceBEq,Nat.reduceLT,xAr,xAs,List.length_map,xEL,xEM,hlt,hi0,ho0,hsi,hso,hR,hW,hrv,hwv,c1,c2,h60,h61',c5]
          | false =>
            have e0 : xE7 m.next.length (two mi) (two mo) R W = 0 := by unfold xE7; rw [if_pos ⟨c1,c2⟩,if_neg (by simp [c3]),if_neg (by simp [c4])]
            rw [c4] at hbig
            have c5 : ¬ ((two mo : Nat) : Int) ≤ (xIt W.l : Nat) := by have := of_decide_eq_false hbig.symm; omega
            rw [if_pos e0]
            refine ⟨i',?_⟩
            rw [xIX]
            by_cases e : xDi m.next.length (two mi) (two mo) (m.next.drop (i + 1)) (m.emit.drop (i + 1)) = 0
            · rw [if_pos e] at ih' ⊢
              simp (maxSteps := 30000000) (disch := first | assumption | omega | (simp only [WL,AV.isCell] <;> omega) | rfl | decide) only [↓reduceIte,WB,xAu,xAc,xAt,xAk,xAj,AV.cells,AV.isCell,xAa,xAd,xAe,W2,xAf,xAg,xAh,Nat.reduceAdd,Nat.reduceSub,Nat.reduceLeDiff,Nat.reduceMul,Int.reduceAdd,Int.reduceSub,Int.reduceMul,Int.reduceLT,Int.reduceLE,Int.reduceEq,Int.reduceToNat,Int.reduceNeg,Nat.reduceEqDiff,Nat.reduceBEq,Nat.reduceLT,xAr,xAs,List.length_map,xEL,xEM,hlt,hi0,ho0,hsi,hso,hR,hW,hrv,hwv,c1,c2,h60,h61',c5,ih']
            · rw [if_neg e] at ih' ⊢
              simp (maxSteps := 30000000) (disch := first | assumption | omega | (simp only [WL,AV.isCell] <;> omega) | rfl | decide) only [↓reduceIte,WB,xAu,xAc,xAt,xAk,xAj,AV.cells,AV.isCell,xAa,xAd,xAe,W2,xAf,xAg,xAh,Nat.reduceAdd,Nat.reduceSub,Nat.reduceLeDiff,Nat.reduceMul,Int.reduceAdd,Int.reduceSub,Int.reduceMul,Int.reduceLT,Int.reduceLE,Int.reduceEq,Int.reduceToNat,Int.reduceNeg,Nat.reduceEqDiff,Nat.reduceBEq,Nat.reduceLT,xAr,xAs,List.length_map,xEL,xEM,hlt,hi0,ho0,hsi,hso,hR,hW,hrv,hwv,c1,c2,h60,h61',c5,ih']
      · have e0 : xE7 m.next.length (two mi) (two mo) R W = 2 := by unfold xE7; rw [if_neg (fun h => c2 h.2)]
        have c2' := xKp c2
        simp only [e0,if_neg (show ¬ (2 : Int) = 0 by decide)]
        refine ⟨i,?_⟩
        rw [xIX]
        simp (maxSteps := 30000000) (disch := first | assumption | omega | (simp only [WL,AV.isCell] <;> omega) | rfl | decide) only [↓reduceIte,WB,xAu,xAc,xAt,xAk,xAj,AV.cells,AV.isCell,xAa,xAd,xAe,W2,xAf,xAg,xAh,Nat.reduceAdd,Nat.reduceSub,Nat.reduceLeDiff,Nat.reduceMul,Int.reduceAdd,Int.reduceSub,Int.reduceMul,Int.reduceLT,Int.reduceLE,Int.reduceEq,Int.reduceToNat,Int.reduceNeg,Nat.reduceEqDiff,Nat.reduceBEq,Nat.reduceLT,xAr,xAs,List.length_map,xEL,xEM,hlt,hi0,ho0,hsi,hso,hR,hW,hrv,hwv,c1,c2']
    · have e0 : xE7 m.next.length (two mi) (two mo) R W = 2 := by unfold xE7; rw [if_neg (fun h => c1 h.1)]
      have c1' := xKp c1
      simp only [e0,if_neg (show ¬ (2 : Int) = 0 by decide)]
      refine ⟨i,?_⟩
      rw [xIX]
      simp (maxSteps := 30000000) (disch := first | assumption | omega | (simp only [WL,AV.isCell] <;> omega) | rfl | decide) only [↓reduceIte,WB,xAu,xAc,xAt,xAk,xAj,AV.cells,AV.isCell,xAa,xAd,xAe,W2,xAf,xAg,xAh,Nat.reduceAdd,Nat.reduceSub,Nat.reduceLeDiff,Nat.reduceMul,Int.reduceAdd,Int.reduceSub,Int.reduceMul,Int.reduceLT,Int.reduceLE,Int.reduceEq,Int.reduceToNat,Int.reduceNeg,Nat.reduceEqDiff,Nat.reduceBEq,Nat.reduceLT,xAr,xAs,List.length_map,xEL,xEM,hlt,hi0,ho0,hsi,hso,hR,hW,hrv,hwv,c1']
theorem xLi (hS : Sm m) : L.pcall 21 [m.av] = some (.int .i64 (xOI m)) := by
  have hz := xUB (n := (m.next.length : Nat)) (k := (m.emit.length : Nat)) (s := m.s) hS.i hS.o
  unfold xOI
  unfold Mf.av
  by_cases c : xBQ m.i m.o (m.next.length : Nat) (m.emit.length : Nat) m.s = 0
  · rw [if_pos c]
    have hc := xBW c
    rw [c] at hz
    obtain ⟨i',h⟩ := xWs (m := m) (mi := m.i.toNat) (mo := m.o.toNat) hS (by omega) (by omega) (by omega) (by omega) (by omega) m.next.length 0 (by omega)
    simp only [Int.natCast_zero,List.drop_zero] at h
    unfold Mf.cells at h ⊢
    rw [yCd,a21,xAl]
    by_cases e : xDi m.next.length (two m.i.toNat) (two m.o.toNat) m.next m.emit = 0
    · rw [if_pos e] at h
      rw [e]
      simp (maxSteps := 30000000) (disch := first | assumption | omega | (simp only [WL,AV.isCell] <;> omega) | rfl | decide) only [↓reduceIte,WB,xAu,xAc,xAt,xAk,xAj,AV.cells,AV.isCell,xAa,xAd,xAe,W2,xAf,xAg,xAh,Nat.reduceAdd,Nat.reduceSub,Nat.reduceLeDiff,Nat.reduceMul,Int.reduceAdd,Int.reduceSub,Int.reduceMul,Int.reduceLT,Int.reduceLE,Int.reduceEq,Int.reduceToNat,Int.reduceNeg,Nat.reduceEqDiff,Nat.reduceBEq,Nat.reduceLT,xAr,xAs,List.length_map,xEM,hz,h]
    · rw [if_neg e] at h
      simp (maxSteps := 30000000) (disch := first | assumption | omega | (simp only [WL,AV.isCell] <;> omega) | rfl | decide) only [↓reduceIte,WB,xAu,xAc,xAt,xAk,xAj,AV.cells,AV.isCell,xAa,xAd,xAe,W2,xAf,xAg,xAh,Nat.reduceAdd,Nat.reduceSub,Nat.reduceLeDiff,Nat.reduceMul,Int.reduceAdd,Int.reduceSub,Int.reduceMul,Int.reduceLT,Int.reduceLE,Int.reduceEq,Int.reduceToNat,Int.reduceNeg,Nat.reduceEqDiff,Nat.reduceBEq,Nat.reduceLT,xAr,xAs,List.length_map,xEM,hz,h]
  · rw [if_neg c]
    unfold Mf.cells
    rw [yCd,a21,xAl]
    simp (maxSteps := 30000000) (disch := first | assumption | omega | (simp only [WL,AV.isCell] <;> omega) | rfl | decide) only [↓reduceIte,WB,xAu,xAc,xAt,xAk,xAj,AV.cells,AV.isCell,xAa,xAd,xAe,W2,xAf,xAg,xAh,Nat.reduceAdd,Nat.reduceSub,Nat.reduceLeDiff,Nat.reduceMul,Int.reduceAdd,Int.reduceSub,Int.reduceMul,Int.reduceLT,Int.reduceLE,Int.reduceEq,Int.reduceToNat,Int.reduceNeg,Nat.reduceEqDiff,Nat.reduceBEq,Nat.reduceLT,xAr,xAs,List.length_map,hz,c]
end
theorem xXN {i o : Int} (hi : -9223372036854775808 ≤ i ∧ i < 9223372036854775808) (ho : -9223372036854775808 ≤ o ∧ o < 9223372036854775808) : L.pcall 62 [.int .i64 i,.int .i64 o] = some (.int .i64 (if i < 0 ∨ o < 0 ∨ 6 < i ∨ 6 - i < o then 7 else 0)) := by
  obtain ⟨hi1,hi2⟩ := hi
  obtain ⟨ho1,ho2⟩ := ho
  rw [yCJ,a62,xAl]
  by_cases c1 : i < 0
  · rw [if_pos (by omega)]
    simp (maxSteps := 30000000) (disch := first | assumption | omega | (simp only [WL,AV.isCell] <;> omega) | rfl | decide) only [↓reduceIte,WB,xAu,xAc,xAt,xAk,xAj,AV.cells,AV.isCell,xAa,xAd,xAe,W2,xAf,xAg,xAh,Nat.reduceAdd,Nat.reduceSub,Nat.reduceLeDiff,Nat.reduceMul,Int.reduceAdd,Int.reduceSub,Int.reduceMul,Int.reduceLT,Int.reduceLE,Int.reduceEq,Int.reduceToNat,Int.reduceNeg,Nat.reduceEqDiff,Nat.reduceBEq,Nat.reduceLT,xAr,xAs,List.length_map,c1]
  by_cases c2 : o < 0
  · rw [if_pos (by omega)]
    simp (maxSteps := 30000000) (disch := first | assumption | omega | (simp only [WL,AV.isCell] <;> omega) | rfl | decide) only [↓reduceIte,WB,xAu,xAc,xAt,xAk,xAj,AV.cells,AV.isCell,xAa,xAd,xAe,W2,xAf,xAg,xAh,Nat.reduceAdd,Nat.reduceSub,Nat.reduceLeDiff,Nat.reduceMul,Int.reduceAdd,Int.reduceSub,Int.reduceMul,Int.reduceLT,Int.reduceLE,Int.reduceEq,Int.reduceToNat,Int.reduceNeg,Nat.reduceEqDiff,Nat.reduceBEq,Nat.reduceLT,xAr,xAs,List.length_map,c1,c2]
  by_cases c3 : 6 < i
  · rw [if_pos (by omega)]
    simp (maxSteps := 30000000) (disch := first | assumption | omega | (simp only [WL,AV.isCell] <;> omega) | rfl | decide) only [↓reduceIte,WB,xAu,xAc,xAt,xAk,xAj,AV.cells,AV.isCell,xAa,xAd,xAe,W2,xAf,xAg,xAh,Nat.reduceAdd,Nat.reduceSub,Nat.reduceLeDiff,Nat.reduceMul,Int.reduceAdd,Int.reduceSub,Int.reduceMul,Int.reduceLT,Int.reduceLE,Int.reduceEq,Int.reduceToNat,Int.reduceNeg,Nat.reduceEqDiff,Nat.reduceBEq,Nat.reduceLT,xAr,xAs,List.length_map,c1,c2,c3]
  by_cases c4 : 6 < o
  · rw [if_pos (by omega)]
    simp (maxSteps := 30000000) (disch := first | assumption | omega | (simp only [WL,AV.isCell] <;> omega) | rfl | decide) only [↓reduceIte,WB,xAu,xAc,xAt,xAk,xAj,AV.cells,AV.isCell,xAa,xAd,xAe,W2,xAf,xAg,xAh,Nat.reduceAdd,Nat.reduceSub,Nat.reduceLeDiff,Nat.reduceMul,Int.reduceAdd,Int.reduceSub,Int.reduceMul,Int.reduceLT,Int.reduceLE,Int.reduceEq,Int.reduceToNat,Int.reduceNeg,Nat.reduceEqDiff,Nat.reduceBEq,Nat.reduceLT,xAr,xAs,List.length_map,c1,c2,c3,c4]
  by_cases c5 : 6 < i + o
  · rw [if_pos (by omega)]
    simp (maxSteps := 30000000) (disch := first | assumption | omega | (simp only [WL,AV.isCell] <;> omega) | rfl | decide) only [↓reduceIte,WB,xAu,xAc,xAt,xAk,xAj,AV.cells,AV.isCell,xAa,xAd,xAe,W2,xAf,xAg,xAh,Nat.reduceAdd,Nat.reduceSub,Nat.reduceLeDiff,Nat.reduceMul,Int.reduceAdd,Int.reduceSub,Int.reduceMul,Int.reduceLT,Int.reduceLE,Int.reduceEq,Int.reduceToNat,Int.reduceNeg,Nat.reduceEqDiff,Nat.reduceBEq,Nat.reduceLT,xAr,xAs,List.length_map,c1,c2,c3,c4,c5]
  rw [if_neg (by omega)]
  simp (maxSteps := 30000000) (disch := first | assumption | omega | (simp only [WL,AV.isCell] <;> omega) | rfl | decide) only [↓reduceIte,WB,xAu,xAc,xAt,xAk,xAj,AV.cells,AV.isCell,xAa,xAd,xAe,W2,xAf,xAg,xAh,Nat.reduceAdd,Nat.reduceSub,Nat.reduceLeDiff,Nat.reduceMul,Int.reduceAdd,Int.reduceSub,Int.reduceMul,Int.reduceLT,Int.reduceLE,Int.reduceEq,Int.reduceToNat,Int.reduceNeg,Nat.reduceEqDiff,Nat.reduceBEq,Nat.reduceLT,xAr,xAs,List.length_map,c1,c2,c3,c4,c5]
def yAO (n k s : Int) : Int := if n = 0 then 3 else if 4096 < n then 10 else if k ≠ n then 2 else if s < 0 ∨ n ≤ s then 8 else 0
theorem xE8 (i o n k s : Int) : xBQ i o n k s = if i < 0 ∨ o < 0 ∨ 6 < i ∨ 6 - i < o then 7 else yAO n k s := rfl
theorem xUD {z : Bool} {n : Nat} {cs : List AV} {k s : Int} : L.pcall 63 [.sl z n cs,.int .i64 k,.int .i64 s] = some (.int .i64 (yAO n k s)) := by
  rw [yCK,a63,xAl]
  unfold yAO
  by_cases c5 : (n : Int) = 0
  · rw [if_pos c5]
    simp (maxSteps := 30000000) (disch := first | assumption | omega | (simp only [WL,AV.isCell] <;> omega) | rfl | decide) only [↓reduceIte,WB,xAu,xAc,xAt,xAk,xAj,AV.cells,AV.isCell,xAa,xAd,xAe,W2,xAf,xAg,xAh,Nat.reduceAdd,Nat.reduceSub,Nat.reduceLeDiff,Nat.reduceMul,Int.reduceAdd,Int.reduceSub,Int.reduceMul,Int.reduceLT,Int.reduceLE,Int.reduceEq,Int.reduceToNat,Int.reduceNeg,Nat.reduceEqDiff,Nat.reduceBEq,Nat.reduceLT,xAr,xAs,List.length_map,c5]
  rw [if_neg c5]
  by_cases c6 : 4096 < (n : Int)
  · rw [if_pos c6]
    simp (maxSteps := 30000000) (disch := first | assumption | omega | (simp only [WL,AV.isCell] <;> omega) | rfl | decide) only [↓reduceIte,WB,xAu,xAc,xAt,xAk,xAj,AV.cells,AV.isCell,xAa,xAd,xAe,W2,xAf,xAg,xAh,Nat.reduceAdd,Nat.reduceSub,Nat.reduceLeDiff,Nat.reduceMul,Int.reduceAdd,Int.reduceSub,Int.reduceMul,Int.reduceLT,Int.reduceLE,Int.reduceEq,Int.reduceToNat,Int.reduceNeg,Nat.reduceEqDiff,Nat.reduceBEq,Nat.reduceLT,xAr,xAs,List.length_map,c5,c6]
  rw [if_neg c6]
  by_cases c7 : k = n
  · rw [if_neg (by omega)]
    by_cases c8 : s < 0
    · rw [if_pos (by omega)]
      simp (maxSteps := 30000000) (disch := first | assumption | omega | (simp only [WL,AV.isCell] <;> omega) | rfl | decide) only [↓reduceIte,WB,xAu,xAc,xAt,xAk,xAj,AV.cells,AV.isCell,xAa,xAd,xAe,W2,xAf,xAg,xAh,Nat.reduceAdd,Nat.reduceSub,Nat.reduceLeDiff,Nat.reduceMul,Int.reduceAdd,Int.reduceSub,Int.reduceMul,Int.reduceLT,Int.reduceLE,Int.reduceEq,Int.reduceToNat,Int.reduceNeg,Nat.reduceEqDiff,Nat.reduceBEq,Nat.reduceLT,xAr,xAs,List.length_map,c5,c6,c7,c8]
    by_cases c9 : (n : Int) ≤ s
    · rw [if_pos (by omega)]
      simp (maxSteps := 30000000) (disch := first | assumption | omega | (simp only [WL,AV.isCell] <;> omega) | rfl | decide) only [↓reduceIte,WB,xAu,xAc,xAt,xAk,xAj,AV.cells,AV.isCell,xAa,xAd,xAe,W2,xAf,xAg,xAh,Nat.reduceAdd,Nat.reduceSub,Nat.reduceLeDiff,Nat.reduceMul,Int.reduceAdd,Int.reduceSub,Int.reduceMul,Int.reduceLT,Int.reduceLE,Int.reduceEq,Int.reduceToNat,Int.reduceNeg,Nat.reduceEqDiff,Nat.reduceBEq,Nat.reduceLT,xAr,xAs,List.length_map,c5,c6,c7,c8,c9]
    rw [if_neg (by omega)]
    simp (maxSteps := 30000000) (disch := first | assumption | omega | (simp only [WL,AV.isCell] <;> omega) | rfl | decide) only [↓reduceIte,WB,xAu,xAc,xAt,xAk,xAj,AV.cells,AV.isCell,xAa,xAd,xAe,W2,xAf,xAg,xAh,Nat.reduceAdd,Nat.reduceSub,Nat.reduceLeDiff,Nat.reduceMul,Int.reduceAdd,Int.reduceSub,Int.reduceMul,Int.reduceLT,Int.reduceLE,Int.reduceEq,Int.reduceToNat,Int.reduceNeg,Nat.reduceEqDiff,Nat.reduceBEq,Nat.reduceLT,xAr,xAs,List.length_map,c5,c6,c7,c8,c9]
  · rw [if_pos c7]
    simp (maxSteps := 30000000) (disch := first | assumption | omega | (simp only [WL,AV.isCell] <;> omega) | rfl | decide) only [↓reduceIte,WB,xAu,xAc,xAt,xAk,xAj,AV.cells,AV.isCell,xAa,xAd,xAe,W2,xAf,xAg,xAh,Nat.reduceAdd,Nat.reduceSub,Nat.reduceLeDiff,Nat.reduceMul,Int.reduceAdd,Int.reduceSub,Int.reduceMul,Int.reduceLT,Int.reduceLE,Int.reduceEq,Int.reduceToNat,Int.reduceNeg,Nat.reduceEqDiff,Nat.reduceBEq,Nat.reduceLT,xAr,xAs,List.length_map,c5,c6,c7]
theorem xUE {z : Bool} {l : List Int} {n : Int} {H : Heap} (hl : l.length < 9223372036854775807) : ∀ e i,i + e = l.length →
    ∃ j : Nat,L.loop xMi xVU ⟨xI7 (.sl z l.length (xB4 l)) (.int .i64 n) (.bool false) (.int .i64 (i : Nat)),H⟩ =
      some (if xLh n (l.drop i) = true then (.ret,⟨xI7 (.sl z l.length (xB4 l)) (.int .i64 n) (.bool false) (.int .i64 (j : Nat)),H⟩)
        else (.exit 0,⟨xI7 (.sl z l.length (xB4 l)) (.int .i64 n) (.bool false) (.int .i64 (l.length : Nat)),H⟩)) := by
  intro e
  induction e with
  | zero =>
    intro i h
    obtain rfl : i = l.length := by omega
    refine ⟨0,?_⟩
    rw [if_neg (by rw [List.drop_length]; simp [xLh]),xPe]
    simp (maxSteps := 30000000) (disch := first | assumption | omega | (simp only [WL,AV.isCell] <;> omega) | rfl | decide) only [↓reduceIte,WB,xAu,xAc,xAt,xAk,xAj,AV.cells,AV.isCell,xAa,xAd,xAe,W2,xAf,xAg,xAh,Nat.reduceAdd,Nat.reduceSub,Nat.reduceLeDiff,Nat.reduceMul,Int.reduceAdd,Int.reduceSub,Int.reduceMul,Int.reduceLT,Int.reduceLE,Int.reduceEq,Int.reduceToNat,Int.reduceNeg,Nat.reduceEqDiff,Nat.reduceBEq,Nat.reduceLT,xAr,xAs,List.length_map,xHd,xHe]
  | succ e ih =>
    intro i h
    have hlt : (i : Int) < (l.length : Nat) := by omega
    obtain ⟨j,ih'⟩ := ih (i + 1) (by omega)
    rw [xAT (a := (0 : Int)) (by omega : i < l.length)]
    have et : xLh n (l.getD i 0 :: l.drop (i + 1)) = (decide (l.getD i 0 < 0 ∨ n ≤ l.getD i 0) || xLh n (l.drop (i + 1))) := rfl
    rw [et]
    by_cases c : l.getD i 0 < 0
    · refine ⟨i,?_⟩
      rw [decide_eq_true (Or.inl c),Bool.true_or,if_pos rfl,xPe]
      simp (maxSteps := 30000000) (disch := first | assumption | omega | (simp only [WL,AV.isCell] <;> omega) | rfl | decide) only [↓reduceIte,WB,xAu,xAc,xAt,xAk,xAj,AV.cells,AV.isCell,xAa,xAd,xAe,W2,xAf,xAg,xAh,Nat.reduceAdd,Nat.reduceSub,Nat.reduceLeDiff,Nat.reduceMul,Int.reduceAdd,Int.reduceSub,Int.reduceMul,Int.reduceLT,Int.reduceLE,Int.reduceEq,Int.reduceToNat,Int.reduceNeg,Nat.reduceEqDiff,Nat.reduceBEq,Nat.reduceLT,xAr,xAs,List.length_map,xHd,xHe,hlt,c]
    · by_cases c2 : n ≤ l.getD i 0
      · refine ⟨i,?_⟩
        rw [decide_eq_true (Or.inr c2),Bool.true_or,if_pos rfl,xPe]
        simp (maxSteps := 30000000) (disch := first | assumption | omega | (simp only [WL,AV.isCell] <;> omega) | rfl | decide) only [↓reduceIte,WB,xAu,xAc,xAt,xAk,xAj,AV.cells,AV.isCell,xAa,xAd,xAe,W2,xAf,xAg,xAh,Nat.reduceAdd,Nat.reduceSub,Nat.reduceLeDiff,Nat.reduceMul,Int.reduceAdd,Int.reduceSub,Int.reduceMul,Int.reduceLT,Int.reduceLE,Int.reduceEq,Int.reduceToNat,Int.reduceNeg,Nat.reduceEqDiff,Nat.reduceBEq,Nat.reduceLT,xAr,xAs,List.length_map,xHd,xHe,hlt,c,c2]
      · refine ⟨j,?_⟩
        rw [decide_eq_false (by omega),Bool.false_or,xPe]
        by_cases e : xLh n (l.drop (i + 1)) = true
        · rw [if_pos e] at ih' ⊢
          simp (maxSteps := 30000000) (disch := first | assumption | omega | (simp only [WL,AV.isCell] <;> omega) | rfl | decide) only [↓reduceIte,WB,xAu,xAc,xAt,xAk,xAj,AV.cells,AV.isCell,xAa,xAd,xAe,W2,xAf,xAg,xAh,Nat.reduceAdd,Nat.reduceSub,Nat.reduceLeDiff,Nat.reduceMul,Int.reduceAdd,Int.reduceSub,Int.reduceMul,Int.reduceLT,Int.reduceLE,Int.reduceEq,Int.reduceToNat,Int.reduceNeg,Nat.reduceEqDiff,Nat.reduceBEq,Nat.reduceLT,xAr,xAs,List.length_map,xHd,xHe,hlt,c,c2,ih']
        · rw [if_neg e] at ih' ⊢
          simp (maxSteps := 30000000) (disch := first | assumption | omega | (simp only [WL,AV.isCell] <;> omega) | rfl | decide) only [↓reduceIte,WB,xAu,xAc,xAt,xAk,xAj,AV.cells,AV.isCell,xAa,xAd,xAe,W2,xAf,xAg,xAh,Nat.reduceAdd,Nat.reduceSub,Nat.reduceLeDiff,Nat.reduceMul,Int.reduceAdd,Int.reduceSub,Int.reduceMul,Int.reduceLT,Int.reduceLE,Int.reduceEq,Int.reduceToNat,Int.reduceNeg,Nat.reduceEqDiff,Nat.reduceBEq,Nat.reduceLT,xAr,xAs,List.length_map,xHd,xHe,hlt,c,c2,ih']
theorem xQy {z : Bool} {l : List Int} {n : Int} (hl : l.length < 9223372036854775807) : L.pcall 64 [.sl z l.length (xB4 l),.int .i64 n] = some (.bool (!xLh n l)) := by
  obtain ⟨j,h⟩ := xUE (z := z) (n := n) (H := []) hl l.length 0 (by omega)
  simp only [Int.natCast_zero,List.drop_zero] at h
  rw [yCL,a64,xAl]
  cases c : xLh n l with
  | true =>
    rw [if_pos c] at h
    simp (maxSteps := 30000000) (disch := first | assumption | omega | (simp only [WL,AV.isCell] <;> omega) | rfl | decide) only [↓reduceIte,WB,xAu,xAc,xAt,xAk,xAj,AV.cells,AV.isCell,xAa,xAd,xAe,W2,xAf,xAg,xAh,Nat.reduceAdd,Nat.reduceSub,Nat.reduceLeDiff,Nat.reduceMul,Int.reduceAdd,Int.reduceSub,Int.reduceMul,Int.reduceLT,Int.reduceLE,Int.reduceEq,Int.reduceToNat,Int.reduceNeg,Nat.reduceEqDiff,Nat.reduceBEq,Nat.reduceLT,xAr,xAs,List.length_map,xHe,h]
  | false =>
    rw [if_neg (by simp [c])] at h
    simp (maxSteps := 30000000) (disch := first | assumption | omega | (simp only [WL,AV.isCell] <;> omega) | rfl | decide) only [↓reduceIte,WB,xAu,xAc,xAt,xAk,xAj,AV.cells,AV.isCell,xAa,xAd,xAe,W2,xAf,xAg,xAh,Nat.reduceAdd,Nat.reduceSub,Nat.reduceLeDiff,Nat.reduceMul,Int.reduceAdd,Int.reduceSub,Int.reduceMul,Int.reduceLT,Int.reduceLE,Int.reduceEq,Int.reduceToNat,Int.reduceNeg,Nat.reduceEqDiff,Nat.reduceBEq,Nat.reduceLT,xAr,xAs,List.length_map,xHe,h]
section
variable {m : Mf} {mi mo : Nat}
theorem xWt (hS : Sm m) (ho : m.o = (mo : Nat)) (ho6 : mo ≤ 6) {k : Nat} (hk : k < m.emit.length) : ∀ e i,i + e = (m.emit.getD k w0).l.length →
    ∃ i' : Nat,L.loop xL5 xVN ⟨xIZ (.ptr 0 0) (.int .i64 0) (.int .i64 (k : Nat)) (.int .i64 (i : Nat)),[.cells false false m.cells]⟩ =
      some (if xIu (two mo) ((m.emit.getD k w0).l.drop i) = true then (.ret,⟨xIZ (.ptr 0 0) (.int .i64 1) (.int .i64 (k : Nat)) (.int .i64 (i' : Nat)),[.cells false false m.cells]⟩)
        else (.exit 2,⟨xIZ (.ptr 0 0) (.int .i64 0) (.int .i64 (k : Nat)) (.int .i64 ((m.emit.getD k w0).l.length : Nat)),[.cells false false m.cells]⟩)) := by
  have hw1 := xA2 (a := w0) hk
  have hw := hS.w _ hw1
  have hb := hS.b _ hw1
  have hen := hS.e
  have hso := xC9 ho6
  have ho0 : ¬ ((mo : Nat) : Int) < 0 := by omega
  have hwv : wdV (m.emit.getD k w0) = .sl (m.emit.getD k w0).z (m.emit.getD k w0).l.length (bs (m.emit.getD k w0).l) := rfl
  unfold Mf.cells
  rw [ho]
  intro e
  induction e with
  | zero =>
    intro i h
    obtain rfl : i = (m.emit.getD k w0).l.length := by omega
    refine ⟨0,?_⟩
    rw [if_neg (by rw [List.drop_length]; simp [xIu]),xSB]
    simp (maxSteps := 30000000) (disch := first | assumption | omega | (simp only [WL,AV.isCell] <;> omega) | rfl | decide) only [↓reduceIte,WB,xAu,xAc,xAt,xAk,xAj,AV.cells,AV.isCell,xAa,xAd,xAe,W2,xAf,xAg,xAh,Nat.reduceAdd,Nat.reduceSub,Nat.reduceLeDiff,Nat.reduceMul,Int.reduceAdd,Int.reduceSub,Int.reduceMul,Int.reduceLT,Int.reduceLE,Int.reduceEq,Int.reduceToNat,Int.reduceNeg,Nat.reduceEqDiff,Nat.reduceBEq,Nat.reduceLT,xAr,xAs,List.length_map,xIY,xHc,hwv]
  | succ e ih =>
    intro i h
    have hlt : (i : Int) < ((m.emit.getD k w0).l.length : Nat) := by omega
    obtain ⟨i',ih'⟩ := ih (i + 1) (by omega)
    have hx := hb _ (xA2 (a := (0 : Nat)) (show i < (m.emit.getD k w0).l.length by omega))
    rw [xAT (a := (0 : Nat)) (by omega : i < (m.emit.getD k w0).l.length)]
    have et : ∀ t,xIu (two mo) ((m.emit.getD k w0).l.getD i 0 :: t) = (decide (two mo ≤ (m.emit.getD k w0).l.getD i 0) || xIu (two mo) t) := fun _ => rfl
    rw [et]
    by_cases c : two mo ≤ (m.emit.getD k w0).l.getD i 0
    · refine ⟨i,?_⟩
      have c' : ((two mo : Nat) : Int) ≤ ((m.emit.getD k w0).l.getD i 0 : Nat) := by omega
      rw [decide_eq_true c,Bool.true_or,if_pos rfl,xSB]
      simp (maxSteps := 30000000) (disch := first | assumption | omega | (simp only [WL,AV.isCell] <;> omega) | rfl | decide) only [↓reduceIte,WB,xAu,xAc,xAt,xAk,xAj,AV.cells,AV.isCell,xAa,xAd,xAe,W2,xAf,xAg,xAh,Nat.reduceAdd,Nat.reduceSub,Nat.reduceLeDiff,Nat.reduceMul,Int.reduceAdd,Int.reduceSub,Int.reduceMul,Int.reduceLT,Int.reduceLE,Int.reduceEq,Int.reduceToNat,Int.reduceNeg,Nat.reduceEqDiff,Nat.reduceBEq,Nat.reduceLT,xAr,xAs,List.length_map,xIY,xHc,hwv,hlt,hso,ho0,c']
    · refine ⟨i',?_⟩
      have c' : ¬ ((two mo : Nat) : Int) ≤ ((m.emit.getD k w0).l.getD i 0 : Nat) := by omega
      rw [decide_eq_false c,Bool.false_or,xSB]
      by_cases e : xIu (two mo) ((m.emit.getD k w0).l.drop (i + 1)) = true
      · rw [if_pos e] at ih' ⊢
        simp (maxSteps := 30000000) (disch := first | assumption | omega | (simp only [WL,AV.isCell] <;> omega) | rfl | decide) only [↓reduceIte,WB,xAu,xAc,xAt,xAk,xAj,AV.cells,AV.isCell,xAa,xAd,xAe,W2,xAf,xAg,xAh,Nat.reduceAdd,Nat.reduceSub,Nat.reduceLeDiff,Nat.reduceMul,Int.reduceAdd,Int.reduceSub,Int.reduceMul,Int.reduceLT,Int.reduceLE,Int.reduceEq,Int.reduceToNat,Int.reduceNeg,Nat.reduceEqDiff,Nat.reduceBEq,Nat.reduceLT,xAr,xAs,List.length_map,xIY,xHc,hwv,hlt,hso,ho0,c',ih']
      · rw [if_neg e] at ih' ⊢
        simp (maxSteps := 30000000) (disch := first | assumption | omega | (simp only [WL,AV.isCell] <;> omega) | rfl | decide) only [↓reduceIte,WB,xAu,xAc,xAt,xAk,xAj,AV.cells,AV.isCell,xAa,xAd,xAe,W2,xAf,xAg,xAh,Nat.reduceAdd,Nat.reduceSub,Nat.reduceLeDiff,Nat.reduceMul,Int.reduceAdd,Int.reduceSub,Int.reduceMul,Int.reduceLT,Int.reduceLE,Int.reduceEq,Int.reduceToNat,Int.reduceNeg,Nat.reduceEqDiff,Nat.reduceBEq,Nat.reduceLT,xAr,xAs,List.length_map,xIY,xHc,hwv,hlt,hso,ho0,c',ih']
theorem xWu (hS : Sm m) (hi : m.i = (mi : Nat)) (ho : m.o = (mo : Nat)) (hi6 : mi ≤ 6) (ho6 : mo ≤ 6) (hne : m.emit.length = m.next.length) : ∀ e i,i + e = m.next.length →
    ∃ i' : Nat,L.loop xL6 xVO ⟨xI0 (.ptr 0 0) (.int .i64 0) (.int .i64 (i : Nat)),[.cells false false m.cells]⟩ =
      some (if xDi m.next.length (two mi) (two mo) (m.next.drop i) (m.emit.drop i) = 0 then (.exit 0,⟨xI0 (.ptr 0 0) (.int .i64 0) (.int .i64 (m.next.length : Nat)),[.cells false false m.cells]⟩)
        else (.ret,⟨xI0 (.ptr 0 0) (.int .i64 (xDi m.next.length (two mi) (two mo) (m.next.drop i) (m.emit.drop i))) (.int .i64 (i' : Nat)),[.cells false false m.cells]⟩)) := by
  have hn := hS.n
  have hsi := xC9 hi6
  have hi0 : ¬ ((mi : Nat) : Int) < 0 := by omega
  have hword := fun k hk => xWt (m := m) (mo := mo) (k := k) hS ho ho6 hk
  unfold Mf.cells at *
  rw [hi,ho] at *
  intro e
  induction e with
  | zero =>
    intro i h
    obtain rfl : i = m.next.length := by omega
    refine ⟨0,?_⟩
    rw [if_pos (by rw [List.drop_length]; rfl),xI1]
    simp (maxSteps := 30000000) (disch := first | assumption | omega | (simp only [WL,AV.isCell] <;> omega) | rfl | decide) only [↓reduceIte,WB,xAu,xAc,xAt,xAk,xAj,AV.cells,AV.isCell,xAa,xAd,xAe,W2,xAf,xAg,xAh,Nat.reduceAdd,Nat.reduceSub,Nat.reduceLeDiff,Nat.reduceMul,Int.reduceAdd,Int.reduceSub,Int.reduceMul,Int.reduceLT,Int.reduceLE,Int.reduceEq,Int.reduceToNat,Int.reduceNeg,Nat.reduceEqDiff,Nat.reduceBEq,Nat.reduceLT,xAr,xAs,List.length_map,xEN,xEO]
  | succ e ih =>
    intro i h
    have hlt : (i : Int) < (m.next.length : Nat) := by omega
    obtain ⟨i',ih'⟩ := ih (i + 1) (by omega)
    have hr1 := xA2 (a := r0) (show i < m.next.length by omega)
    have hw1 := xA2 (a := w0) (show i < m.emit.length by omega)
    have hr := hS.r _ hr1
    have hw := hS.w _ hw1
    have h64 := xQy (z := (m.next.getD i r0).z) (l := (m.next.getD i r0).l) (n := (m.next.length : Nat)) (by omega)
    obtain ⟨i2,hwd⟩ := hword i (by omega) _ 0 (Nat.zero_add _)
    simp only [Int.natCast_zero,List.drop_zero] at hwd
    rw [xAT (a := r0) (by omega : i < m.next.length),xAT (a := w0) (by omega : i < m.emit.length)]
    have et : ∀ n wi wo r t e u,xDi n wi wo (r :: t) (e :: u) = if xE7 n wi wo r e = 0 then xDi n wi wo t u else xE7 n wi wo r e := fun _ _ _ _ _ _ _ => rfl
    rw [et]
    generalize hR : m.next.getD i r0 = R at *
    generalize hW : m.emit.getD i w0 = W at *
    have hrv : rwV R = .sl R.z R.l.length (xB4 R.l) := rfl
    have hwv : wdV W = .sl W.z W.l.length (bs W.l) := rfl
    by_cases c1 : R.l.length = two mi
    · by_cases c2 : W.l.length = two mi
      · rw [c1] at h64
        cases c3 : xLh m.next.length R.l with
        | true =>
          have e0 : xE7 m.next.length (two mi) (two mo) R W = 8 := by unfold xE7; rw [if_pos ⟨c1,c2⟩,if_pos c3]
          rw [c3] at h64
          simp only [e0,if_neg (show ¬ (8 : Int) = 0 by decide)]
          refine ⟨i,?_⟩
          rw [xI1]
          simp (maxSteps := 30000000) (disch := first | assumption | omega | (simp only [WL,AV.isCell] <;> omega) | rfl | decide) only [↓reduceIte,WB,xAu,xAc,xAt,xAk,xAj,AV.cells,AV.isCell,xAa,xAd,xAe,W2,xAf,xAg,xAh,Nat.reduceAdd,Nat.reduceSub,Nat.reduceLeDiff,Nat.reduceMul,Int.reduceAdd,Int.reduceSub,Int.reduceMul,Int.reduceLT,Int.reduceLE,Int.reduceEq,Int.reduceToNat,Int.reduceNeg,Nat.reduceEqDiff,Nat.reduceBEq,Nat.reduceLT,xAr,xAs,List.length_map,xEN,xEO,hlt,hi0,hsi,hR,hW,hrv,hwv,c1,c2,h64]
        | false =>
          rw [c3] at h64
          by_cases c4 : xIu (two mo) W.l = true
          · have e0 : xE7 m.next.length (two mi) (two mo) R W = 1 := by unfold xE7; rw [if_pos ⟨c1,c2⟩,if_neg (by simp [c3]),if_pos c4]
            rw [if_pos c4] at hwd
            simp only [e0,if_neg (show ¬ (1 : Int) = 0 by decide)]
            refine ⟨i,?_⟩
            rw [xI1]
            simp (maxSteps := 30000000) (disch := first | assumption | omega | (simp only [WL,AV.isCell] <;> omega) | rfl | decide) only [↓reduceIte,WB,xAu,xAc,xAt,xAk,xAj,AV.cells,AV.isCell,xAa,xAd,xAe,W2,xAf,xAg,xAh,Nat.reduceAdd,Nat.reduceSub,Nat.reduceLeDiff,Nat.reduceMul,Int.reduceAdd,Int.reduceSub,Int.reduceMul,Int.reduceLT,Int.reduceLE,Int.reduceEq,Int.reduceToNat,Int.reduceNeg,Nat.reduceEqDiff,Nat.reduceBEq,Nat.reduceLT,xAr,xAs,List.length_map,xEN,xEO,xHc,hlt,hi0,hsi,hR,hW,hrv,hwv,c1,c2,h64,hwd]
          · have e0 : xE7 m.next.length (two mi) (two mo) R W = 0 := by unfold xE7; rw [if_pos ⟨c1,c2⟩,if_neg (by simp [c3]),if_neg c4]
            rw [if_neg c4] at hwd
            rw [if_pos e0]
            refine ⟨i',?_⟩
            rw [xI1]
            by_cases e : xDi m.next.length (two mi) (two mo) (m.next.drop (i + 1)) (m.emit.drop (i + 1)) = 0
            · rw [if_pos e] at ih' ⊢
              simp (maxSteps := 30000000) (disch := first | assumption | omega | (simp only [WL,AV.isCell] <;> omega) | rfl | decide) only [↓reduceIte,WB,xAu,xAc,xAt,xAk,xAj,AV.cells,AV.isCell,xAa,xAd,xAe,W2,xAf,xAg,xAh,Nat.reduceAdd,Nat.reduceSub,Nat.reduceLeDiff,Nat.reduceMul,Int.reduceAdd,Int.reduceSub,Int.reduceMul,Int.reduceLT,Int.reduceLE,Int.reduceEq,Int.reduceToNat,Int.reduceNeg,Nat.reduceEqDiff,Nat.reduceBEq,Nat.reduceLT,xAr,xAs,List.length_map,xEN,xEO,xHc,hlt,hi0,hsi,hR,hW,hrv,hwv,c1,c2,h64,hwd,ih']
            · rw [if_neg e] at ih' ⊢
              simp (maxSteps := 30000000) (disch := first | assumption | omega | (simp only [WL,AV.isCell] <;> omega) | rfl | decide) only [↓reduceIte,WB,xAu,xAc,xAt,xAk,xAj,AV.cells,AV.isCell,xAa,xAd,xAe,W2,xAf,xAg,xAh,Nat.reduceAdd,Nat.reduceSub,Nat.reduceLeDiff,Nat.reduceMul,Int.reduceAdd,Int.reduceSub,Int.reduceMul,Int.reduceLT,Int.reduceLE,Int.reduceEq,Int.reduceToNat,Int.reduceNeg,Nat.reduceEqDiff,Nat.reduceBEq,Nat.reduceLT,xAr,xAs,List.length_map,xEN,xEO,xHc,hlt,hi0,hsi,hR,hW,hrv,hwv,c1,c2,h64,hwd,ih']
      · have e0 : xE7 m.next.length (two mi) (two mo) R W = 2 := by unfold xE7; rw [if_neg (fun h => c2 h.2)]
        have c2' := xKp c2
        simp only [e0,if_neg (show ¬ (2 : Int) = 0 by decide)]
        refine ⟨i,?_⟩
        rw [xI1]
        simp (maxSteps := 30000000) (disch := first | assumption | omega | (simp only [WL,AV.isCell] <;> omega) | rfl | decide) only [↓reduceIte,WB,xAu,xAc,xAt,xAk,xAj,AV.cells,AV.isCell,xAa,xAd,xAe,W2,xAf,xAg,xAh,Nat.reduceAdd,Nat.reduceSub,Nat.reduceLeDiff,Nat.reduceMul,Int.reduceAdd,Int.reduceSub,Int.reduceMul,Int.reduceLT,Int.reduceLE,Int.reduceEq,Int.reduceToNat,Int.reduceNeg,Nat.reduceEqDiff,Nat.reduceBEq,Nat.reduceLT,xAr,xAs,List.length_map,xEN,xEO,hlt,hi0,hsi,hR,hW,hrv,hwv,c1,c2']
    · have e0 : xE7 m.next.length (two mi) (two mo) R W = 2 := by unfold xE7; rw [if_neg (fun h => c1 h.1)]
      have c1' := xKp c1
      simp only [e0,if_neg (show ¬ (2 : Int) = 0 by decide)]
      refine ⟨i,?_⟩
      rw [xI1]
      simp (maxSteps := 30000000) (disch := first | assumption | omega | (simp only [WL,AV.isCell] <;> omega) | rfl | decide) only [↓reduceIte,WB,xAu,xAc,xAt,xAk,xAj,AV.cells,AV.isCell,xAa,xAd,xAe,W2,xAf,xAg,xAh,Nat.reduceAdd,Nat.reduceSub,Nat.reduceLeDiff,Nat.reduceMul,Int.reduceAdd,Int.reduceSub,Int.reduceMul,Int.reduceLT,Int.reduceLE,Int.reduceEq,Int.reduceToNat,Int.reduceNeg,Nat.reduceEqDiff,Nat.reduceBEq,Nat.reduceLT,xAr,xAs,List.length_map,xEN,xEO,hlt,hi0,hsi,hR,hW,hrv,hwv,c1']
theorem xY2 (hS : Sm m) : L.pcall 22 [m.av] = some (.int .i64 (xOI m)) := by
  have hv := xXN hS.i hS.o
  have ht := xUD (z := m.z) (n := m.next.length) (cs := m.next.map rwV) (k := (m.emit.length : Nat)) (s := m.s)
  unfold xOI
  rw [xE8]
  unfold Mf.av
  by_cases c0 : m.i < 0 ∨ m.o < 0 ∨ 6 < m.i ∨ 6 - m.i < m.o
  · rw [if_pos c0] at hv ⊢
    rw [if_neg (by decide)]
    unfold Mf.cells
    rw [yBt,a22,xAl]
    simp (maxSteps := 30000000) (disch := first | assumption | omega | (simp only [WL,AV.isCell] <;> omega) | rfl | decide) only [↓reduceIte,WB,xAu,xAc,xAt,xAk,xAj,AV.cells,AV.isCell,xAa,xAd,xAe,W2,xAf,xAg,xAh,Nat.reduceAdd,Nat.reduceSub,Nat.reduceLeDiff,Nat.reduceMul,Int.reduceAdd,Int.reduceSub,Int.reduceMul,Int.reduceLT,Int.reduceLE,Int.reduceEq,Int.reduceToNat,Int.reduceNeg,Nat.reduceEqDiff,Nat.reduceBEq,Nat.reduceLT,xAr,xAs,List.length_map,hv]
  · rw [if_neg c0] at hv ⊢
    by_cases c : yAO (m.next.length : Nat) (m.emit.length : Nat) m.s = 0
    · rw [if_pos c]
      have hc := xBW (show xBQ m.i m.o (m.next.length : Nat) (m.emit.length : Nat) m.s = 0 by rw [xE8,if_neg c0]; exact c)
      rw [c] at ht
      obtain ⟨i',h⟩ := xWu (m := m) (mi := m.i.toNat) (mo := m.o.toNat) hS (by omega) (by omega) (by omega) (by omega) (by omega) m.next.length 0 (by omega)
      simp only [Int.natCast_zero,List.drop_zero] at h
      unfold Mf.cells at h ⊢
      rw [yBt,a22,xAl]
      by_cases e : xDi m.next.length (two m.i.toNat) (two m.o.toNat) m.next m.emit = 0
      · rw [if_pos e] at h
        rw [e]
        simp (maxSteps := 30000000) (disch := first | assumption | omega | (simp only [WL,AV.isCell] <;> omega) | rfl | decide) only [↓reduceIte,WB,xAu,xAc,xAt,xAk,xAj,AV.cells,AV.isCell,xAa,xAd,xAe,W2,xAf,xAg,xAh,Nat.reduceAdd,Nat.reduceSub,Nat.reduceLeDiff,Nat.reduceMul,Int.reduceAdd,Int.reduceSub,Int.reduceMul,Int.reduceLT,Int.reduceLE,Int.reduceEq,Int.reduceToNat,Int.reduceNeg,Nat.reduceEqDiff,Nat.reduceBEq,Nat.reduceLT,xAr,xAs,List.length_map,xEO,hv,ht,h]
      · rw [if_neg e] at h
        simp (maxSteps := 30000000) (disch := first | assumption | omega | (simp only [WL,AV.isCell] <;> omega) | rfl | decide) only [↓reduceIte,WB,xAu,xAc,xAt,xAk,xAj,AV.cells,AV.isCell,xAa,xAd,xAe,W2,xAf,xAg,xAh,Nat.reduceAdd,Nat.reduceSub,Nat.reduceLeDiff,Nat.reduceMul,Int.reduceAdd,Int.reduceSub,Int.reduceMul,Int.reduceLT,Int.reduceLE,Int.reduceEq,Int.reduceToNat,Int.reduceNeg,Nat.reduceEqDiff,Nat.reduceBEq,Nat.reduceLT,xAr,xAs,List.length_map,xEO,hv,ht,h]
    · rw [if_neg c]
      unfold Mf.cells
      rw [yBt,a22,xAl]
      simp (maxSteps := 30000000) (disch := first | assumption | omega | (simp only [WL,AV.isCell] <;> omega) | rfl | decide) only [↓reduceIte,WB,xAu,xAc,xAt,xAk,xAj,AV.cells,AV.isCell,xAa,xAd,xAe,W2,xAf,xAg,xAh,Nat.reduceAdd,Nat.reduceSub,Nat.reduceLeDiff,Nat.reduceMul,Int.reduceAdd,Int.reduceSub,Int.reduceMul,Int.reduceLT,Int.reduceLE,Int.reduceEq,Int.reduceToNat,Int.reduceNeg,Nat.reduceEqDiff,Nat.reduceBEq,Nat.reduceLT,xAr,xAs,List.length_map,hv,ht,c]
end
def xGm (n wo wi : Nat) (r : Rw) (g : Nat) : Int := if r.l.length = wo then (if xLh n r.l = true then 8 else if wi ≤ g then 1 else 0) else 2
def xDj (n wo wi : Nat) : List Rw → List Nat → Int
  | r :: t,g :: u => if xGm n wo wi r g = 0 then xDj n wo wi t u else xGm n wo wi r g
  | _,_ => 0
def xQz (m : Nf) : Int := if xBQ m.i m.o (m.next.length : Nat) (m.give.length : Nat) m.s = 0 then xDj m.next.length (two m.o.toNat) (two m.i.toNat) m.next m.give else xBQ m.i m.o (m.next.length : Nat) (m.give.length : Nat) m.s
structure SmN (m : Nf) : Prop where
  i : -9223372036854775808 ≤ m.i ∧ m.i < 9223372036854775808
  o : -9223372036854775808 ≤ m.o ∧ m.o < 9223372036854775808
  n : m.next.length ≤ 100000
  g : m.give.length ≤ 100000
  r : ∀ r ∈ m.next,r.l.length ≤ 100000
  b : ∀ x ∈ m.give,x < 256
section
variable {m : Nf} {mi mo : Nat}
theorem xRy (hS : SmN m) (hi : m.i = (mi : Nat)) (ho : m.o = (mo : Nat)) (hi6 : mi ≤ 6) (ho6 : mo ≤ 6) (hne : m.give.length = m.next.length) : ∀ e i,i + e = m.next.length →
    ∃ i' : Nat,L.loop xL9 xVQ ⟨xI4 (.ptr 0 0) (.int .i64 0) (.int .i64 (m.next.length : Nat)) (.sl m.z m.next.length (m.next.map rwV)) (.int .i64 (m.next.length : Nat)) (.int .i64 (i : Nat)),[.cells false false m.cells]⟩ =
      some (if xDj m.next.length (two mo) (two mi) (m.next.drop i) (m.give.drop i) = 0 then (.exit 0,⟨xI4 (.ptr 0 0) (.int .i64 0) (.int .i64 (m.next.length : Nat)) (.sl m.z m.next.length (m.next.map rwV)) (.int .i64 (m.next.length : Nat)) (.int .i64 (m.next.length : Nat)),[.cells false false m.cells]⟩)
        else (.ret,⟨xI4 (.ptr 0 0) (.int .i64 (xDj m.next.length (two mo) (two mi) (m.next.drop i) (m.give.drop i))) (.int .i64 (m.next.length : Nat)) (.sl m.z m.next.length (m.next.map rwV)) (.int .i64 (m.next.length : Nat)) (.int .i64 (i' : Nat)),[.cells false false m.cells]⟩)) := by
  have hn := hS.n
  have hsi := xC9 hi6
  have hso := xC9 ho6
  have hi0 : ¬ ((mi : Nat) : Int) < 0 := by omega
  have ho0 : ¬ ((mo : Nat) : Int) < 0 := by omega
  unfold Nf.cells
  rw [hi,ho]
  intro e
  induction e with
  | zero =>
    intro i h
    obtain rfl : i = m.next.length := by omega
    refine ⟨0,?_⟩
    rw [if_pos (by rw [List.drop_length]; rfl),xMa]
    simp (maxSteps := 30000000) (disch := first | assumption | omega | (simp only [WL,AV.isCell] <;> omega) | rfl | decide) only [↓reduceIte,WB,xAu,xAc,xAt,xAk,xAj,AV.cells,AV.isCell,xAa,xAd,xAe,W2,xAf,xAg,xAh,Nat.reduceAdd,Nat.reduceSub,Nat.reduceLeDiff,Nat.reduceMul,Int.reduceAdd,Int.reduceSub,Int.reduceMul,Int.reduceLT,Int.reduceLE,Int.reduceEq,Int.reduceToNat,Int.reduceNeg,Nat.reduceEqDiff,Nat.reduceBEq,Nat.reduceLT,xAr,xAs,List.length_map,xFV,xFW]
  | succ e ih =>
    intro i h
    have hlt : (i : Int) < (m.next.length : Nat) := by omega
    obtain ⟨i',ih'⟩ := ih (i + 1) (by omega)
    have hr1 := xA2 (a := r0) (show i < m.next.length by omega)
    have hw1 := xA2 (a := (0 : Nat)) (show i < m.give.length by omega)
    have hr := hS.r _ hr1
    have hb := hS.b _ hw1
    have h60 := xNP (z := (m.next.getD i r0).z) (l := (m.next.getD i r0).l) (n := (m.next.length : Nat)) (by omega)
    rw [xAT (a := r0) (by omega : i < m.next.length),xAT (a := (0 : Nat)) (by omega : i < m.give.length)]
    have et : ∀ n wi wo r t e u,xDj n wi wo (r :: t) (e :: u) = if xGm n wi wo r e = 0 then xDj n wi wo t u else xGm n wi wo r e := fun _ _ _ _ _ _ _ => rfl
    rw [et]
    generalize hR : m.next.getD i r0 = R at *
    generalize hW : m.give.getD i 0 = W at *
    have hrv : rwV R = .sl R.z R.l.length (xB4 R.l) := rfl
    by_cases c1 : R.l.length = two mo
    · rw [c1] at h60
      cases c3 : xLh m.next.length R.l with
      | true =>
        have e0 : xGm m.next.length (two mo) (two mi) R W = 8 := by unfold xGm; rw [if_pos c1,if_pos c3]
        rw [c3] at h60
        simp only [e0,if_neg (show ¬ (8 : Int) = 0 by decide)]
        refine ⟨i,?_⟩
        rw [xMa]
        simp (maxSteps := 30000000) (disch := first | assumption | omega | (simp only [WL,AV.isCell] <;> omega) | rfl | decide) only [↓reduceIte,WB,xAu,xAc,xAt,xAk,xAj,AV.cells,AV.isCell,xAa,xAd,xAe,W2,xAf,xAg,xAh,Nat.reduceAdd,Nat.reduceSub,Nat.reduceLeDiff,Nat.reduceMul,Int.reduceAdd,Int.reduceSub,Int.reduceMul,Int.reduceLT,Int.reduceLE,Int.reduceEq,Int.reduceToNat,Int.reduceNeg,Nat.reduceEqDiff,Nat.reduceBEq,Nat.reduceLT,xAr,xAs,List.length_map,xFV,xFW,hlt,hi0,ho0,hsi,hso,hR,hW,hrv,c1,h60]
      | false =>
        rw [c3] at h60
        by_cases c4 : two mi ≤ W
        · have e0 : xGm m.next.length (two mo) (two mi) R W = 1 := by unfold xGm; rw [if_pos c1,if_neg (by simp [c3]),if_pos c4]
          have c5 : ((two mi : Nat) : Int) ≤ (W : Nat) := by omega
          simp only [e0,if_neg (show ¬ (1 : Int) = 0 by decide)]
          refine ⟨i,?_⟩
          rw [xMa]
          simp (maxSteps := 30000000) (disch := first | assumption | omega | (simp only [WL,AV.isCell] <;> omega) | rfl | decide) only [↓reduceIte,WB,xAu,xAc,xAt,xAk,xAj,AV.cells,AV.isCell,xAa,xAd,xAe,W2,xAf,xAg,xAh,Nat.reduceAdd,Nat.reduceSub,Nat.reduceLeDiff,Nat.reduceMul,Int.reduceAdd,Int.reduceSub,Int.reduceMul,Int.reduceLT,Int.reduceLE,Int.reduceEq,Int.reduceToNat,Int.reduceNeg,Nat.reduceEqDiff,Nat.reduceBEq,Nat.reduceLT,xAr,xAs,List.length_map,xFV,xFW,hlt,hi0,ho0,hsi,hso,hR,hW,hrv,c1,h60,c5]
        · have e0 : xGm m.next.length (two mo) (two mi) R W = 0 := by unfold xGm; rw [if_pos c1,if_neg (by simp [c3]),if_neg c4]
          have c5 : ¬ ((two mi : Nat) : Int) ≤ (W : Nat) := by omega
          rw [if_pos e0]
          refine ⟨i',?_⟩
          rw [xMa]
          by_cases e : xDj m.next.length (two mo) (two mi) (m.next.drop (i + 1)) (m.give.drop (i + 1)) = 0
          · rw [if_pos e] at ih' ⊢
            simp (maxSteps := 30000000) (disch := first | assumption | omega | (simp only [WL,AV.isCell] <;> omega) | rfl | decide) only [↓reduceIte,WB,xAu,xAc,xAt,xAk,xAj,AV.cells,AV.isCell,xAa,xAd,xAe,W2,xAf,xAg,xAh,Nat.reduceAdd,Nat.reduceSub,Nat.reduceLeDiff,Nat.reduceMul,Int.reduceAdd,Int.reduceSub,Int.reduceMul,Int.reduceLT,Int.reduceLE,Int.reduceEq,Int.reduceToNat,Int.reduceNeg,Nat.reduceEqDiff,Nat.reduceBEq,Nat.reduceLT,xAr,xAs,List.length_map,xFV,xFW,hlt,hi0,ho0,hsi,hso,hR,hW,hrv,c1,h60,c5,ih']
          · rw [if_neg e] at ih' ⊢
            simp (maxSteps := 30000000) (disch := first | assumption | omega | (simp only [WL,AV.isCell] <;> omega) | rfl | decide) only [↓reduceIte,WB,xAu,xAc,xAt,xAk,xAj,AV.cells,AV.isCell,xAa,xAd,xAe,W2,xAf,xAg,xAh,Nat.reduceAdd,Nat.reduceSub,Nat.reduceLeDiff,Nat.reduceMul,Int.reduceAdd,Int.reduceSub,Int.reduceMul,Int.reduceLT,Int.reduceLE,Int.reduceEq,Int.reduceToNat,Int.reduceNeg,Nat.reduceEqDiff,Nat.reduceBEq,Nat.reduceLT,xAr,xAs,List.length_map,xFV,xFW,hlt,hi0,ho0,hsi,hso,hR,hW,hrv,c1,h60,c5,ih']
    · have e0 : xGm m.next.length (two mo) (two mi) R W = 2 := by unfold xGm; rw [if_neg c1]
      have c1' := xKp c1
      simp only [e0,if_neg (show ¬ (2 : Int) = 0 by decide)]
      refine ⟨i,?_⟩
      rw [xMa]
      simp (maxSteps := 30000000) (disch := first | assumption | omega | (simp only [WL,AV.isCell] <;> omega) | rfl | decide) only [↓reduceIte,WB,xAu,xAc,xAt,xAk,xAj,AV.cells,AV.isCell,xAa,xAd,xAe,W2,xAf,xAg,xAh,Nat.reduceAdd,Nat.reduceSub,Nat.reduceLeDiff,Nat.reduceMul,Int.reduceAdd,Int.reduceSub,Int.reduceMul,Int.reduceLT,Int.reduceLE,Int.reduceEq,Int.reduceToNat,Int.reduceNeg,Nat.reduceEqDiff,Nat.reduceBEq,Nat.reduceLT,xAr,xAs,List.length_map,xFV,xFW,hlt,hi0,ho0,hsi,hso,hR,hW,hrv,c1']
theorem xOJ (hS : SmN m) : L.pcall 33 [m.av] = some (.int .i64 (xQz m)) := by
  have hz := xUB (n := (m.next.length : Nat)) (k := (m.give.length : Nat)) (s := m.s) hS.i hS.o
  unfold xQz
  unfold Nf.av
  by_cases c : xBQ m.i m.o (m.next.length : Nat) (m.give.length : Nat) m.s = 0
  · rw [if_pos c]
    have hc := xBW c
    rw [c] at hz
    obtain ⟨i',h⟩ := xRy (m := m) (mi := m.i.toNat) (mo := m.o.toNat) hS (by omega) (by omega) (by omega) (by omega) (by omega) m.next.length 0 (by omega)
    simp only [Int.natCast_zero,List.drop_zero] at h
    unfold Nf.cells at h ⊢
    rw [yCe,a33,xAl]
    by_cases e : xDj m.next.length (two m.o.toNat) (two m.i.toNat) m.next m.give = 0
    · rw [if_pos e] at h
      rw [e]
      simp (maxSteps := 30000000) (disch := first | assumption | omega | (simp only [WL,AV.isCell] <;> omega) | rfl | decide) only [↓reduceIte,WB,xAu,xAc,xAt,xAk,xAj,AV.cells,AV.isCell,xAa,xAd,xAe,W2,xAf,xAg,xAh,Nat.reduceAdd,Nat.reduceSub,Nat.reduceLeDiff,Nat.reduceMul,Int.reduceAdd,Int.reduceSub,Int.reduceMul,Int.reduceLT,Int.reduceLE,Int.reduceEq,Int.reduceToNat,Int.reduceNeg,Nat.reduceEqDiff,Nat.reduceBEq,Nat.reduceLT,xAr,xAs,List.length_map,xFW,hz,h]
    · rw [if_neg e] at h
      simp (maxSteps := 30000000) (disch := first | assumption | omega | (simp only [WL,AV.isCell] <;> omega) | rfl | decide) only [↓reduceIte,WB,xAu,xAc,xAt,xAk,xAj,AV.cells,AV.isCell,xAa,xAd,xAe,W2,xAf,xAg,xAh,Nat.reduceAdd,Nat.reduceSub,Nat.reduceLeDiff,Nat.reduceMul,Int.reduceAdd,Int.reduceSub,Int.reduceMul,Int.reduceLT,Int.reduceLE,Int.reduceEq,Int.reduceToNat,Int.reduceNeg,Nat.reduceEqDiff,Nat.reduceBEq,Nat.reduceLT,xAr,xAs,List.length_map,xFW,hz,h]
  · rw [if_neg c]
    unfold Nf.cells
    rw [yCe,a33,xAl]
    simp (maxSteps := 30000000) (disch := first | assumption | omega | (simp only [WL,AV.isCell] <;> omega) | rfl | decide) only [↓reduceIte,WB,xAu,xAc,xAt,xAk,xAj,AV.cells,AV.isCell,xAa,xAd,xAe,W2,xAf,xAg,xAh,Nat.reduceAdd,Nat.reduceSub,Nat.reduceLeDiff,Nat.reduceMul,Int.reduceAdd,Int.reduceSub,Int.reduceMul,Int.reduceLT,Int.reduceLE,Int.reduceEq,Int.reduceToNat,Int.reduceNeg,Nat.reduceEqDiff,Nat.reduceBEq,Nat.reduceLT,xAr,xAs,List.length_map,hz,c]
theorem xRz (hS : SmN m) (hi : m.i = (mi : Nat)) (ho : m.o = (mo : Nat)) (hi6 : mi ≤ 6) (ho6 : mo ≤ 6) (hne : m.give.length = m.next.length) : ∀ e i,i + e = m.next.length →
    ∃ i' : Nat,L.loop xMb xVR ⟨xI5 (.ptr 0 0) (.int .i64 0) (.int .i64 (i : Nat)),[.cells false false m.cells]⟩ =
      some (if xDj m.next.length (two mo) (two mi) (m.next.drop i) (m.give.drop i) = 0 then (.exit 0,⟨xI5 (.ptr 0 0) (.int .i64 0) (.int .i64 (m.next.length : Nat)),[.cells false false m.cells]⟩)
        else (.ret,⟨xI5 (.ptr 0 0) (.int .i64 (xDj m.next.length (two mo) (two mi) (m.next.drop i) (m.give.drop i))) (.int .i64 (i' : Nat)),[.cells false false m.cells]⟩)) := by
  have hn := hS.n
  have hsi := xC9 hi6
  have hso := xC9 ho6
  have hi0 : ¬ ((mi : Nat) : Int) < 0 := by omega
  have ho0 : ¬ ((mo : Nat) : Int) < 0 := by omega
  unfold Nf.cells
  rw [hi,ho]
  intro e
  induction e with
  | zero =>
    intro i h
    obtain rfl : i = m.next.length := by omega
    refine ⟨0,?_⟩
    rw [if_pos (by rw [List.drop_length]; rfl),xMc]
    simp (maxSteps := 30000000) (disch := first | assumption | omega | (simp only [WL,AV.isCell] <;> omega) | rfl | decide) only [↓reduceIte,WB,xAu,xAc,xAt,xAk,xAj,AV.cells,AV.isCell,xAa,xAd,xAe,W2,xAf,xAg,xAh,Nat.reduceAdd,Nat.reduceSub,Nat.reduceLeDiff,Nat.reduceMul,Int.reduceAdd,Int.reduceSub,Int.reduceMul,Int.reduceLT,Int.reduceLE,Int.reduceEq,Int.reduceToNat,Int.reduceNeg,Nat.reduceEqDiff,Nat.reduceBEq,Nat.reduceLT,xAr,xAs,List.length_map,xFX,xFY]
  | succ e ih =>
    intro i h
    have hlt : (i : Int) < (m.next.length : Nat) := by omega
    obtain ⟨i',ih'⟩ := ih (i + 1) (by omega)
    have hr1 := xA2 (a := r0) (show i < m.next.length by omega)
    have hw1 := xA2 (a := (0 : Nat)) (show i < m.give.length by omega)
    have hr := hS.r _ hr1
    have hb := hS.b _ hw1
    have h60 := xQy (z := (m.next.getD i r0).z) (l := (m.next.getD i r0).l) (n := (m.next.length : Nat)) (by omega)
    rw [xAT (a := r0) (by omega : i < m.next.length),xAT (a := (0 : Nat)) (by omega : i < m.give.length)]
    have et : ∀ n wi wo r t e u,xDj n wi wo (r :: t) (e :: u) = if xGm n wi wo r e = 0 then xDj n wi wo t u else xGm n wi wo r e := fun _ _ _ _ _ _ _ => rfl
    rw [et]
    generalize hR : m.next.getD i r0 = R at *
    generalize hW : m.give.getD i 0 = W at *
    have hrv : rwV R = .sl R.z R.l.length (xB4 R.l) := rfl
    by_cases c1 : R.l.length = two mo
    · rw [c1] at h60
      cases c3 : xLh m.next.length R.l with
      | true =>
        have e0 : xGm m.next.length (two mo) (two mi) R W = 8 := by unfold xGm; rw [if_pos c1,if_pos c3]
        rw [c3] at h60
        simp only [e0,if_neg (show ¬ (8 : Int) = 0 by decide)]
        refine ⟨i,?_⟩
        rw [xMc]
        simp (maxSteps := 30000000) (disch := first | assumption | omega | (simp only [WL,AV.isCell] <;> omega) | rfl | decide) only [↓reduceIte,WB,xAu,xAc,xAt,xAk,xAj,AV.cells,AV.isCell,xAa,xAd,xAe,W2,xAf,xAg,xAh,Nat.reduceAdd,Nat.reduceSub,Nat.reduceLeDiff,Nat.reduceMul,Int.reduceAdd,Int.reduceSub,Int.reduceMul,Int.reduceLT,Int.reduceLE,Int.reduceEq,Int.reduceToNat,Int.reduceNeg,Nat.reduceEqDiff,Nat.reduceBEq,Nat.reduceLT,xAr,xAs,List.length_map,xFX,xFY,hlt,hi0,ho0,hsi,hso,hR,hW,hrv,c1,h60]
      | false =>
        rw [c3] at h60
        by_cases c4 : two mi ≤ W
        · have e0 : xGm m.next.length (two mo) (two mi) R W = 1 := by unfold xGm; rw [if_pos c1,if_neg (by simp [c3]),if_pos c4]
          have c5 : ((two mi : Nat) : Int) ≤ (W : Nat) := by omega
          simp only [e0,if_neg (show ¬ (1 : Int) = 0 by decide)]
          refine ⟨i,?_⟩
          rw [xMc]
          simp (maxSteps := 30000000) (disch := first | assumption | omega | (simp only [WL,AV.isCell] <;> omega) | rfl | decide) only [↓reduceIte,WB,xAu,xAc,xAt,xAk,xAj,AV.cells,AV.isCell,xAa,xAd,xAe,W2,xAf,xAg,xAh,Nat.reduceAdd,Nat.reduceSub,Nat.reduceLeDiff,Nat.reduceMul,Int.reduceAdd,Int.reduceSub,Int.reduceMul,Int.reduceLT,Int.reduceLE,Int.reduceEq,Int.reduceToNat,Int.reduceNeg,Nat.reduceEqDiff,Nat.reduceBEq,Nat.reduceLT,xAr,xAs,List.length_map,xFX,xFY,hlt,hi0,ho0,hsi,hso,hR,hW,hrv,c1,h60,c5]
        · have e0 : xGm m.next.length (two mo) (two mi) R W = 0 := by unfold xGm; rw [if_pos c1,if_neg (by simp [c3]),if_neg c4]
          have c5 : ¬ ((two mi : Nat) : Int) ≤ (W : Nat) := by omega
          rw [if_pos e0]
          refine ⟨i',?_⟩
          rw [xMc]
          by_cases e : xDj m.next.length (two mo) (two mi) (m.next.drop (i + 1)) (m.give.drop (i + 1)) = 0
          · rw [if_pos e] at ih' ⊢
            simp (maxSteps := 30000000) (disch := first | assumption | omega | (simp only [WL,AV.isCell] <;> omega) | rfl | decide) only [↓reduceIte,WB,xAu,xAc,xAt,xAk,xAj,AV.cells,AV.isCell,xAa,xAd,xAe,W2,xAf,xAg,xAh,Nat.reduceAdd,Nat.reduceSub,Nat.reduceLeDiff,Nat.reduceMul,Int.reduceAdd,Int.reduceSub,Int.reduceMul,Int.reduceLT,Int.reduceLE,Int.reduceEq,Int.reduceToNat,Int.reduceNeg,Nat.reduceEqDiff,Nat.reduceBEq,Nat.reduceLT,xAr,xAs,List.length_map,xFX,xFY,hlt,hi0,ho0,hsi,hso,hR,hW,hrv,c1,h60,c5,ih']
          · rw [if_neg e] at ih' ⊢
            simp (maxSteps := 30000000) (disch := first | assumption | omega | (simp only [WL,AV.isCell] <;> omega) | rfl | decide) only [↓reduceIte,WB,xAu,xAc,xAt,xAk,xAj,AV.cells,AV.isCell,xAa,xAd,xAe,W2,xAf,xAg,xAh,Nat.reduceAdd,Nat.reduceSub,Nat.reduceLeDiff,Nat.reduceMul,Int.reduceAdd,Int.reduceSub,Int.reduceMul,Int.reduceLT,Int.reduceLE,Int.reduceEq,Int.reduceToNat,Int.reduceNeg,Nat.reduceEqDiff,Nat.reduceBEq,Nat.reduceLT,xAr,xAs,List.length_map,xFX,xFY,hlt,hi0,ho0,hsi,hso,hR,hW,hrv,c1,h60,c5,ih']
    · have e0 : xGm m.next.length (two mo) (two mi) R W = 2 := by unfold xGm; rw [if_neg c1]
      have c1' := xKp c1
      simp only [e0,if_neg (show ¬ (2 : Int) = 0 by decide)]
      refine ⟨i,?_⟩
      rw [xMc]
      simp (maxSteps := 30000000) (disch := first | assumption | omega | (simp only [WL,AV.isCell] <;> omega) | rfl | decide) only [↓reduceIte,WB,xAu,xAc,xAt,xAk,xAj,AV.cells,AV.isCell,xAa,xAd,xAe,W2,xAf,xAg,xAh,Nat.reduceAdd,Nat.reduceSub,Nat.reduceLeDiff,Nat.reduceMul,Int.reduceAdd,Int.reduceSub,Int.reduceMul,Int.reduceLT,Int.reduceLE,Int.reduceEq,Int.reduceToNat,Int.reduceNeg,Nat.reduceEqDiff,Nat.reduceBEq,Nat.reduceLT,xAr,xAs,List.length_map,xFX,xFY,hlt,hi0,ho0,hsi,hso,hR,hW,hrv,c1']
theorem xY3 (hS : SmN m) : L.pcall 34 [m.av] = some (.int .i64 (xQz m)) := by
  have hv := xXN hS.i hS.o
  have ht := xUD (z := m.z) (n := m.next.length) (cs := m.next.map rwV) (k := (m.give.length : Nat)) (s := m.s)
  unfold xQz
  rw [xE8]
  unfold Nf.av
  by_cases c0 : m.i < 0 ∨ m.o < 0 ∨ 6 < m.i ∨ 6 - m.i < m.o
  · rw [if_pos c0] at hv ⊢
    rw [if_neg (by decide)]
    unfold Nf.cells
    rw [yBu,a34,xAl]
    simp (maxSteps := 30000000) (disch := first | assumption | omega | (simp only [WL,AV.isCell] <;> omega) | rfl | decide) only [↓reduceIte,WB,xAu,xAc,xAt,xAk,xAj,AV.cells,AV.isCell,xAa,xAd,xAe,W2,xAf,xAg,xAh,Nat.reduceAdd,Nat.reduceSub,Nat.reduceLeDiff,Nat.reduceMul,Int.reduceAdd,Int.reduceSub,Int.reduceMul,Int.reduceLT,Int.reduceLE,Int.reduceEq,Int.reduceToNat,Int.reduceNeg,Nat.reduceEqDiff,Nat.reduceBEq,Nat.reduceLT,xAr,xAs,List.length_map,hv]
  · rw [if_neg c0] at hv ⊢
    by_cases c : yAO (m.next.length : Nat) (m.give.length : Nat) m.s = 0
    · rw [if_pos c]
      have hc := xBW (show xBQ m.i m.o (m.next.length : Nat) (m.give.length : Nat) m.s = 0 by rw [xE8,if_neg c0]; exact c)
      rw [c] at ht
      obtain ⟨i',h⟩ := xRz (m := m) (mi := m.i.toNat) (mo := m.o.toNat) hS (by omega) (by omega) (by omega) (by omega) (by omega) m.next.length 0 (by omega)
      simp only [Int.natCast_zero,List.drop_zero] at h
      unfold Nf.cells at h ⊢
      rw [yBu,a34,xAl]
      by_cases e : xDj m.next.length (two m.o.toNat) (two m.i.toNat) m.next m.give = 0
      · rw [if_pos e] at h
        rw [e]
        simp (maxSteps := 30000000) (disch := first | assumption | omega | (simp only [WL,AV.isCell] <;> omega) | rfl | decide) only [↓reduceIte,WB,xAu,xAc,xAt,xAk,xAj,AV.cells,AV.isCell,xAa,xAd,xAe,W2,xAf,xAg,xAh,Nat.reduceAdd,Nat.reduceSub,Nat.reduceLeDiff,Nat.reduceMul,Int.reduceAdd,Int.reduceSub,Int.reduceMul,Int.reduceLT,Int.reduceLE,Int.reduceEq,Int.reduceToNat,Int.reduceNeg,Nat.reduceEqDiff,Nat.reduceBEq,Nat.reduceLT,xAr,xAs,List.length_map,xFY,hv,ht,h]
      · rw [if_neg e] at h
        simp (maxSteps := 30000000) (disch := first | assumption | omega | (simp only [WL,AV.isCell] <;> omega) | rfl | decide) only [↓reduceIte,WB,xAu,xAc,xAt,xAk,xAj,AV.cells,AV.isCell,xAa,xAd,xAe,W2,xAf,xAg,xAh,Nat.reduceAdd,Nat.reduceSub,Nat.reduceLeDiff,Nat.reduceMul,Int.reduceAdd,Int.reduceSub,Int.reduceMul,Int.reduceLT,Int.reduceLE,Int.reduceEq,Int.reduceToNat,Int.reduceNeg,Nat.reduceEqDiff,Nat.reduceBEq,Nat.reduceLT,xAr,xAs,List.length_map,xFY,hv,ht,h]
    · rw [if_neg c]
      unfold Nf.cells
      rw [yBu,a34,xAl]
      simp (maxSteps := 30000000) (disch := first | assumption | omega | (simp only [WL,AV.isCell] <;> omega) | rfl | decide) only [↓reduceIte,WB,xAu,xAc,xAt,xAk,xAj,AV.cells,AV.isCell,xAa,xAd,xAe,W2,xAf,xAg,xAh,Nat.reduceAdd,Nat.reduceSub,Nat.reduceLeDiff,Nat.reduceMul,Int.reduceAdd,Int.reduceSub,Int.reduceMul,Int.reduceLT,Int.reduceLE,Int.reduceEq,Int.reduceToNat,Int.reduceNeg,Nat.reduceEqDiff,Nat.reduceBEq,Nat.reduceLT,xAr,xAs,List.length_map,hv,ht,c]
end
structure Ma where
  i : Nat
  o : Nat
  s : Nat
  next : List (List Nat)
  emit : List (List Nat)
def xD1 (l : List Nat) : AV := .sl false l.length (xCQ l)
def xFc (l : List Nat) : AV := .sl false l.length (bs l)
def Ma.cells (M : Ma) : List AV := [.int .i64 (M.i : Nat),.int .i64 (M.o : Nat),.int .i64 (M.s : Nat),.sl false M.next.length (M.next.map xD1),.sl false M.emit.length (M.emit.map xFc)]
def Ma.av (M : Ma) : AV := .agg M.cells
structure Vm (M : Ma) : Prop where
  io : M.i + M.o ≤ 6
  n0 : 0 < M.next.length
  n9 : M.next.length ≤ 4096
  el : M.emit.length = M.next.length
  s : M.s < M.next.length
  rl : ∀ r ∈ M.next,r.length = two M.i
  wl : ∀ w ∈ M.emit,w.length = two M.i
  rb : ∀ r ∈ M.next,∀ x ∈ r,x < M.next.length
  wb : ∀ w ∈ M.emit,∀ x ∈ w,x < two M.o
theorem xAZ {l : List (List Nat)} {i : Nat} (h : i < l.length) : List.take 1 (List.drop i (l.map xD1)) = [xD1 (l.getD i [])] := xLg _ _ h
theorem xA0 {l : List (List Nat)} {i : Nat} (h : i < l.length) : List.take 1 (List.drop i (l.map xFc)) = [xFc (l.getD i [])] := xLg _ _ h
def Ma.toF (M : Ma) : Mf := ⟨M.i,M.o,M.s,false,M.next.map fun r => ⟨false,r.map Int.ofNat⟩,false,M.emit.map fun w => ⟨false,w⟩⟩
theorem xKq (l : List Nat) : xB4 (l.map Int.ofNat) = xCQ l := by
  unfold xB4 xCQ
  rw [List.map_map]; rfl
theorem Ma.toF_av (M : Ma) : M.toF.av = M.av := by
  unfold Ma.toF Mf.av Mf.cells Ma.av Ma.cells
  simp only [List.length_map,List.map_map]
  have e1 : (rwV ∘ fun r : List Nat => (⟨false,r.map Int.ofNat⟩ : Rw)) = xD1 := by
    funext r
    show rwV ⟨false,r.map Int.ofNat⟩ = xD1 r
    unfold rwV xD1
    simp only [List.length_map,xKq]
  have e2 : (wdV ∘ fun w : List Nat => (⟨false,w⟩ : Wd)) = xFc := rfl
  rw [e1,e2]
structure Cn (m : Mf) : Prop where
  z : m.z = true → m.next = []
  ze : m.ze = true → m.emit = []
  r : ∀ r ∈ m.next,r.z = true → r.l = []
  w : ∀ w ∈ m.emit,w.z = true → w.l = []
theorem badR_iff {n : Int} {l : List Int} : xLh n l = false ↔ ∀ s ∈ l,0 ≤ s ∧ s < n := by
  unfold xLh
  rw [List.any_eq_false]
  constructor
  · intro h s hs
    have := h s hs
    simp only [decide_eq_true_eq] at this
    omega
  · intro h s hs
    have := h s hs
    simp only [decide_eq_true_eq]
    omega
theorem bigW_iff {k : Nat} {l : List Nat} : xIu k l = false ↔ ∀ x ∈ l,x < k := by
  unfold xIu
  rw [List.any_eq_false]
  constructor
  · intro h s hs
    have := h s hs
    simp only [decide_eq_true_eq] at this
    omega
  · intro h s hs
    have := h s hs
    simp only [decide_eq_true_eq]
    omega
theorem rowE_zero {n wi wo : Nat} {r : Rw} {e : Wd} : xE7 n wi wo r e = 0 ↔ r.l.length = wi ∧ e.l.length = wi ∧ (∀ s ∈ r.l,0 ≤ s ∧ s < (n : Int)) ∧ ∀ x ∈ e.l,x < wo := by
  unfold xE7
  by_cases c : r.l.length = wi ∧ e.l.length = wi
  · rw [if_pos c]
    by_cases c2 : xLh n r.l = true
    · rw [if_pos c2]
      exact ⟨fun h => by omega,fun h => by rw [badR_iff.2 h.2.2.1] at c2; cases c2⟩
    · rw [if_neg c2]
      have c2' := badR_iff.1 (by simpa using c2)
      by_cases c3 : xIu wo e.l = true
      · rw [if_pos c3]
        exact ⟨fun h => by omega,fun h => by rw [bigW_iff.2 h.2.2.2] at c3; cases c3⟩
      · rw [if_neg c3]
        exact ⟨fun _ => ⟨c.1,c.2,c2',bigW_iff.1 (by simpa using c3)⟩,fun _ => rfl⟩
  · rw [if_neg c]
    exact ⟨fun h => by omega,fun h => absurd ⟨h.1,h.2.1⟩ c⟩
theorem xFy {n wi wo : Nat} : ∀ {l : List Rw} {u : List Wd},l.length = u.length → (xDi n wi wo l u = 0 ↔ (∀ r ∈ l,r.l.length = wi ∧ ∀ s ∈ r.l,0 ≤ s ∧ s < (n : Int)) ∧ ∀ e ∈ u,e.l.length = wi ∧ ∀ x ∈ e.l,x < wo)
  | [],[],_ => by simp [xDi]
  | [],_ :: _,h => by simp at h
  | _ :: _,[],h => by simp at h
  | r :: t,e :: u,h => by
    have ih := xFy (n := n) (wi := wi) (wo := wo) (l := t) (u := u) (by simpa using h)
    unfold xDi
    by_cases c : xE7 n wi wo r e = 0
    · have c' := rowE_zero.1 c
      rw [if_pos c,ih]
      simp only [List.forall_mem_cons]
      exact ⟨fun h => ⟨⟨⟨c'.1,c'.2.2.1⟩,h.1⟩,⟨c'.2.1,c'.2.2.2⟩,h.2⟩,fun h => ⟨h.1.2,h.2.2⟩⟩
    · rw [if_neg c]
      exact ⟨fun h => absurd h c,fun h => by
        simp only [List.forall_mem_cons] at h
        exact absurd (rowE_zero.2 ⟨h.1.1.1,h.2.1.1,h.1.1.2,h.2.1.2⟩) c⟩
theorem xNQ {m : Mf} : xOI m = 0 ↔ xBQ m.i m.o (m.next.length : Nat) (m.emit.length : Nat) m.s = 0 ∧ xDi m.next.length (two m.i.toNat) (two m.o.toNat) m.next m.emit = 0 := by
  unfold xOI
  by_cases c : xBQ m.i m.o (m.next.length : Nat) (m.emit.length : Nat) m.s = 0
  · rw [if_pos c]; exact ⟨fun h => ⟨c,h⟩,fun h => h.2⟩
  · rw [if_neg c]; exact ⟨fun h => absurd h c,fun h => absurd h.1 c⟩
def Mf.fromF (m : Mf) : Ma := ⟨m.i.toNat,m.o.toNat,m.s.toNat,m.next.map fun r => r.l.map Int.toNat,m.emit.map fun w => w.l⟩
theorem xOK (m : Nat) : 0 < two m := Nat.two_pow_pos m
theorem xNR {l : List Int} {n : Int} (h : ∀ s ∈ l,0 ≤ s ∧ s < n) : (l.map Int.toNat).map Int.ofNat = l := by
  rw [List.map_map]
  conv => rhs; rw [← List.map_id l]
  apply List.map_congr_left
  intro s hs
  have := h s hs
  show ((s.toNat : Nat) : Int) = s
  omega
theorem xUF {m : Mf} (hc : Cn m) (h : xOI m = 0) : Vm m.fromF ∧ m.fromF.toF = m := by
  rw [xNQ] at h
  obtain ⟨h1,h2⟩ := h
  have h1' := xBW h1
  rw [xFy (by omega)] at h2
  obtain ⟨h3,h4⟩ := h2
  refine ⟨⟨?_,?_,?_,?_,?_,?_,?_,?_,?_⟩,?_⟩
  · show m.i.toNat + m.o.toNat ≤ 6; omega
  · show 0 < (m.next.map _).length; rw [List.length_map]; omega
  · show (m.next.map _).length ≤ 4096; rw [List.length_map]; omega
  · show (m.emit.map _).length = (m.next.map _).length; rw [List.length_map,List.length_map]; omega
  · show m.s.toNat < (m.next.map _).length; rw [List.length_map]; omega
  · intro r hr
    obtain ⟨r',hr',rfl⟩ := List.mem_map.1 hr
    rw [List.length_map]; exact (h3 r' hr').1
  · intro r hr
    obtain ⟨r',hr',rfl⟩ := List.mem_map.1 hr
    exact (h4 r' hr').1
  · intro r hr x hx
    obtain ⟨r',hr',rfl⟩ := List.mem_map.1 hr
    obtain ⟨x',hx',rfl⟩ := List.mem_map.1 hx
    show x'.toNat < (m.next.map _).length
    rw [List.length_map]
    have := (h3 r' hr').2 x' hx'
    omega
  · intro r hr
    obtain ⟨r',hr',rfl⟩ := List.mem_map.1 hr
    exact (h4 r' hr').2
  · obtain ⟨i,o,s,z,next,ze,emit⟩ := m
    simp only at *
    have e1 : z = false := by cases z with
      | false => rfl
      | true => have := hc.z rfl; simp only at this; subst this; simp at h1'
    have e2 : ze = false := by cases ze with
      | false => rfl
      | true => have := hc.ze rfl; simp only at this; subst this; simp at h1'; omega
    subst e1 e2
    unfold Mf.fromF Ma.toF
    simp only [List.map_map,Mf.mk.injEq,true_and]
    have hp := xOK i.toNat
    refine ⟨by omega,by omega,by omega,?_,?_⟩
    · conv => rhs; rw [← List.map_id next]
      apply List.map_congr_left
      intro r hr
      have hz := hc.r r hr
      have hh := h3 r hr
      obtain ⟨z,l⟩ := r
      simp only [Function.comp] at *
      rw [xNR hh.2]
      cases z with
      | false => rfl
      | true => have := hz rfl; subst this; simp at hh; omega
    · conv => rhs; rw [← List.map_id emit]
      apply List.map_congr_left
      intro r hr
      have hz := hc.w r hr
      have hh := h4 r hr
      obtain ⟨z,l⟩ := r
      simp only [Function.comp] at *
      cases z with
      | false => rfl
      | true => have := hz rfl; subst this; simp at hh; omega
theorem xUG {M : Ma} (hV : Vm M) : xOI M.toF = 0 := by
  have io := hV.io
  have n0 := hV.n0
  have n9 := hV.n9
  have el := hV.el
  have hs := hV.s
  rw [xNQ]
  have hl : M.toF.next.length = M.next.length := List.length_map ..
  have hl2 : M.toF.emit.length = M.emit.length := List.length_map ..
  have hi : M.toF.i = (M.i : Nat) := rfl
  have ho : M.toF.o = (M.o : Nat) := rfl
  have hst : M.toF.s = (M.s : Nat) := rfl
  rw [hl,hl2,hi,ho,hst,xFy (by omega)]
  refine ⟨by unfold xBQ; rw [if_neg (by omega),if_neg (by omega),if_neg (by omega),if_neg (by omega),if_neg (by omega)],fun r hr => ?_,fun r hr => ?_⟩
  · obtain ⟨r',hr',rfl⟩ := List.mem_map.1 hr
    refine ⟨by rw [List.length_map]; exact hV.rl _ hr',fun s hs => ?_⟩
    obtain ⟨x,hx,rfl⟩ := List.mem_map.1 hs
    have := hV.rb _ hr' _ hx
    show 0 ≤ ((x : Nat) : Int) ∧ ((x : Nat) : Int) < _
    omega
  · obtain ⟨r',hr',rfl⟩ := List.mem_map.1 hr
    exact ⟨hV.wl _ hr',hV.wb _ hr'⟩
theorem xXO {M : Ma} (hV : Vm M) : Sm M.toF := by
  have io := hV.io
  have n9 := hV.n9
  have el := hV.el
  have b1 := (xDf (show M.i ≤ 6 by omega)).1
  have b2 := (xDf (show M.o ≤ 6 by omega)).1
  refine ⟨?_,?_,?_,?_,fun r hr => ?_,fun r hr => ?_,fun r hr => ?_⟩
  · show _ ≤ ((M.i : Nat) : Int) ∧ ((M.i : Nat) : Int) < _; omega
  · show _ ≤ ((M.o : Nat) : Int) ∧ ((M.o : Nat) : Int) < _; omega
  · show (M.next.map _).length ≤ _; rw [List.length_map]; omega
  · show (M.emit.map _).length ≤ _; rw [List.length_map]; omega
  · obtain ⟨r',hr',rfl⟩ := List.mem_map.1 hr
    rw [List.length_map,hV.rl _ hr']; omega
  · obtain ⟨r',hr',rfl⟩ := List.mem_map.1 hr
    show r'.length ≤ _
    rw [hV.wl _ hr']; omega
  · obtain ⟨r',hr',rfl⟩ := List.mem_map.1 hr
    intro x hx
    have := hV.wb _ hr' x hx
    omega
theorem xKr {M : Ma} (hV : Vm M) : L.pcall 21 [M.av] = some (.int .i64 0) := by
  have := xLi (xXO hV)
  rwa [M.toF_av,xUG hV] at this
theorem xRA {M : Ma} (hV : Vm M) : L.pcall 22 [M.av] = some (.int .i64 0) := by
  have := xY2 (xXO hV)
  rwa [M.toF_av,xUG hV] at this
structure Mo where
  i : Nat
  o : Nat
  s : Nat
  give : List Nat
  next : List (List Nat)
def Mo.cells (M : Mo) : List AV := [.int .i64 (M.i : Nat),.int .i64 (M.o : Nat),.int .i64 (M.s : Nat),.sl false M.give.length (bs M.give),.sl false M.next.length (M.next.map xD1)]
def Mo.av (M : Mo) : AV := .agg M.cells
structure Vo (M : Mo) : Prop where
  io : M.i + M.o ≤ 6
  n0 : 0 < M.next.length
  n9 : M.next.length ≤ 4096
  gl : M.give.length = M.next.length
  s : M.s < M.next.length
  rl : ∀ r ∈ M.next,r.length = two M.o
  rb : ∀ r ∈ M.next,∀ x ∈ r,x < M.next.length
  gb : ∀ x ∈ M.give,x < two M.i
structure CnN (m : Nf) : Prop where
  z : m.z = true → m.next = []
  zg : m.zg = true → m.give = []
  r : ∀ r ∈ m.next,r.z = true → r.l = []
def Mo.toF (M : Mo) : Nf := ⟨M.i,M.o,M.s,false,M.give,false,M.next.map fun r => ⟨false,r.map Int.ofNat⟩⟩
theorem Mo.toF_av (M : Mo) : M.toF.av = M.av := by
  unfold Mo.toF Nf.av Nf.cells Mo.av Mo.cells
  simp only [List.length_map,List.map_map]
  have e1 : (rwV ∘ fun r : List Nat => (⟨false,r.map Int.ofNat⟩ : Rw)) = xD1 := by
    funext r
    show rwV ⟨false,r.map Int.ofNat⟩ = xD1 r
    unfold rwV xD1
    simp only [List.length_map,xKq]
  rw [e1]
theorem rowG_zero {n wo wi : Nat} {r : Rw} {g : Nat} : xGm n wo wi r g = 0 ↔ r.l.length = wo ∧ (∀ s ∈ r.l,0 ≤ s ∧ s < (n : Int)) ∧ g < wi := by
  unfold xGm
  by_cases c : r.l.length = wo
  · rw [if_pos c]
    by_cases c2 : xLh n r.l = true
    · rw [if_pos c2]
      exact ⟨fun h => by omega,fun h => by rw [badR_iff.2 h.2.1] at c2; cases c2⟩
    · rw [if_neg c2]
      have c2' := badR_iff.1 (by simpa using c2)
      by_cases c3 : wi ≤ g
      · rw [if_pos c3]
        exact ⟨fun h => by omega,fun h => by omega⟩
      · rw [if_neg c3]
        exact ⟨fun _ => ⟨c,c2',by omega⟩,fun _ => rfl⟩
  · rw [if_neg c]
    exact ⟨fun h => by omega,fun h => absurd h.1 c⟩
theorem xFz {n wo wi : Nat} : ∀ {l : List Rw} {u : List Nat},l.length = u.length → (xDj n wo wi l u = 0 ↔ (∀ r ∈ l,r.l.length = wo ∧ ∀ s ∈ r.l,0 ≤ s ∧ s < (n : Int)) ∧ ∀ e ∈ u,e < wi)
  | [],[],_ => by simp [xDj]
  | [],_ :: _,h => by simp at h
  | _ :: _,[],h => by simp at h
  | r :: t,e :: u,h => by
    have ih := xFz (n := n) (wo := wo) (wi := wi) (l := t) (u := u) (by simpa using h)
    unfold xDj
    by_cases c : xGm n wo wi r e = 0
    · have c' := rowG_zero.1 c
      rw [if_pos c,ih]
      simp only [List.forall_mem_cons]
      exact ⟨fun h => ⟨⟨⟨c'.1,c'.2.1⟩,h.1⟩,c'.2.2,h.2⟩,fun h => ⟨h.1.2,h.2.2⟩⟩
    · rw [if_neg c]
      exact ⟨fun h => absurd h c,fun h => by
        simp only [List.forall_mem_cons] at h
        exact absurd (rowG_zero.2 ⟨h.1.1.1,h.1.1.2,h.2.1⟩) c⟩
theorem xNS {m : Nf} : xQz m = 0 ↔ xBQ m.i m.o (m.next.length : Nat) (m.give.length : Nat) m.s = 0 ∧ xDj m.next.length (two m.o.toNat) (two m.i.toNat) m.next m.give = 0 := by
  unfold xQz
  by_cases c : xBQ m.i m.o (m.next.length : Nat) (m.give.length : Nat) m.s = 0
  · rw [if_pos c]; exact ⟨fun h => ⟨c,h⟩,fun h => h.2⟩
  · rw [if_neg c]; exact ⟨fun h => absurd h c,fun h => absurd h.1 c⟩
def Nf.fromF (m : Nf) : Mo := ⟨m.i.toNat,m.o.toNat,m.s.toNat,m.give,m.next.map fun r => r.l.map Int.toNat⟩
theorem xUH {m : Nf} (hc : CnN m) (h : xQz m = 0) : Vo m.fromF ∧ m.fromF.toF = m := by
  rw [xNS] at h
  obtain ⟨h1,h2⟩ := h
  have h1' := xBW h1
  rw [xFz (by omega)] at h2
  obtain ⟨h3,h4⟩ := h2
  refine ⟨⟨?_,?_,?_,?_,?_,?_,?_,?_⟩,?_⟩
  · show m.i.toNat + m.o.toNat ≤ 6; omega
  · show 0 < (m.next.map _).length; rw [List.length_map]; omega
  · show (m.next.map _).length ≤ 4096; rw [List.length_map]; omega
  · show m.give.length = (m.next.map _).length; rw [List.length_map]; omega
  · show m.s.toNat < (m.next.map _).length; rw [List.length_map]; omega
  · intro r hr
    obtain ⟨r',hr',rfl⟩ := List.mem_map.1 hr
    rw [List.length_map]; exact (h3 r' hr').1
  · intro r hr x hx
    obtain ⟨r',hr',rfl⟩ := List.mem_map.1 hr
    obtain ⟨x',hx',rfl⟩ := List.mem_map.1 hx
    show x'.toNat < (m.next.map _).length
    rw [List.length_map]
    have := (h3 r' hr').2 x' hx'
    omega
  · exact h4
  · obtain ⟨i,o,s,zg,give,z,next⟩ := m
    simp only at *
    have e1 : z = false := by cases z with
      | false => rfl
      | true => have := hc.z rfl; simp only at this; subst this; simp at h1'
    have e2 : zg = false := by cases zg with
      | false => rfl
      | true => have := hc.zg rfl; simp only at this; subst this; simp at h1'; omega
    subst e1 e2
    unfold Nf.fromF Mo.toF
    simp only [List.map_map,Nf.mk.injEq,true_and]
    have hp := xOK o.toNat
    refine ⟨by omega,by omega,by omega,?_⟩
    conv => rhs; rw [← List.map_id next]
    apply List.map_congr_left
    intro r hr
    have hz := hc.r r hr
    have hh := h3 r hr
    obtain ⟨z,l⟩ := r
    simp only [Function.comp] at *
    rw [xNR hh.2]
    cases z with
    | false => rfl
    | true => have := hz rfl; subst this; simp at hh; omega
theorem xUI {M : Mo} (hV : Vo M) : xQz M.toF = 0 := by
  have io := hV.io
  have n0 := hV.n0
  have n9 := hV.n9
  have gl := hV.gl
  have hs := hV.s
  rw [xNS]
  have hl : M.toF.next.length = M.next.length := List.length_map ..
  have hl2 : M.toF.give = M.give := rfl
  have hi : M.toF.i = (M.i : Nat) := rfl
  have ho : M.toF.o = (M.o : Nat) := rfl
  have hst : M.toF.s = (M.s : Nat) := rfl
  rw [hl,hl2,hi,ho,hst,xFz (by omega)]
  refine ⟨by unfold xBQ; rw [if_neg (by omega),if_neg (by omega),if_neg (by omega),if_neg (by omega),if_neg (by omega)],fun r hr => ?_,hV.gb⟩
  obtain ⟨r',hr',rfl⟩ := List.mem_map.1 hr
  refine ⟨by rw [List.length_map]; exact hV.rl _ hr',fun s hs => ?_⟩
  obtain ⟨x,hx,rfl⟩ := List.mem_map.1 hs
  have := hV.rb _ hr' _ hx
  show 0 ≤ ((x : Nat) : Int) ∧ ((x : Nat) : Int) < _
  omega
theorem xUJ {M : Mo} (hV : Vo M) : SmN M.toF := by
  have io := hV.io
  have n9 := hV.n9
  have gl := hV.gl
  have b1 := (xDf (show M.i ≤ 6 by omega)).1
  have b2 := (xDf (show M.o ≤ 6 by omega)).1
  refine ⟨?_,?_,?_,?_,fun r hr => ?_,fun x hx => ?_⟩
  · show _ ≤ ((M.i : Nat) : Int) ∧ ((M.i : Nat) : Int) < _; omega
  · show _ ≤ ((M.o : Nat) : Int) ∧ ((M.o : Nat) : Int) < _; omega
  · show (M.next.map _).length ≤ _; rw [List.length_map]; omega
  · show M.give.length ≤ _; omega
  · obtain ⟨r',hr',rfl⟩ := List.mem_map.1 hr
    rw [List.length_map,hV.rl _ hr']; omega
  · have := hV.gb x hx
    omega
theorem xRB {M : Mo} (hV : Vo M) : L.pcall 33 [M.av] = some (.int .i64 0) := by
  have := xOJ (xUJ hV)
  rwa [M.toF_av,xUI hV] at this
theorem xRC {M : Mo} (hV : Vo M) : L.pcall 34 [M.av] = some (.int .i64 0) := by
  have := xY3 (xUJ hV)
  rwa [M.toF_av,xUI hV] at this
end Go.Abs.Mealy
