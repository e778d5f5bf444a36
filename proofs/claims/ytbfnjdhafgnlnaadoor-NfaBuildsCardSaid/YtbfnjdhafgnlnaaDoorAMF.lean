/- Union by what it computes: its loops. -/
import Derived.Test.YtbfnjdhafgnlnaaDoorAbsBun
import Derived.Test.YtbfnjdhafgnlnaaDoorAME
namespace Go.Abs.NfaD.U
open Go Go.Abs
set_option linter.unusedSimpArgs false
set_option linter.unusedVariables false
theorem xAM : ∀ (l : List Ed),(edges l).all xAF = true
 | [] => rfl
 | e :: l => by
  show ((xCX e ++ edges l).all xAF) = true
  rw [List.all_append,xAM l]; rfl
def Bld (T : Heap) (v : AV) (es n : Nat) (cs : List AV) : Prop :=
 (v = .sl true 0 [] ∧ n = 0 ∧ cs = []) ∨ ∃ k,v = .own false (k + 1 + 1 + 1) 0 n es ∧ T[k]? = some (.cells false false cs) ∧ cs.length = n * es
def Not (v : AV) (j : Nat) : Prop := ∀ n es,v ≠ .own false (j + 1 + 1 + 1) 0 n es
abbrev HU (a b : Aut) (sv fv ev : AV) (T : Heap) : Heap := .cells false false a.cells :: .cells false false b.cells :: .cells false false [.int .i64 a.vars,.int .i64 (a.states + b.states),sv,fv,ev] :: T
theorem xHo {l : List Int} {i : Nat} (h : i < l.length) : l.getD i 0 ∈ l := by
 rw [List.getD_eq_getElem?_getD,List.getElem?_eq_getElem h]
 exact List.getElem_mem _
theorem xTJ {a b : Aut} {fv ev : AV} (hl : b.st.length < 1000) (hA : 0 ≤ a.states ∧ a.states ≤ 64) (hq : ∀ q ∈ b.st,0 ≤ q ∧ q < 64) : ∀ d i T sv l,i + d = b.st.length → l.length + d < 100000 → Bld T sv 1 l.length (xBd l) →
  ∃ T' sv',L.loop xNd xVQ ⟨xKe (.ptr 0 0) (.ptr 1 0) (.ptr 2 0) (iw b.z1 b.st) (.int .i64 (b.st.length : Nat)) (.int .i64 (i : Nat)),HU a b sv fv ev T⟩ =
   some (.exit 1,⟨xKe (.ptr 0 0) (.ptr 1 0) (.ptr 2 0) (iw b.z1 b.st) (.int .i64 (b.st.length : Nat)) (.int .i64 (b.st.length : Nat)),HU a b sv' fv ev T'⟩) ∧
   Bld T' sv' 1 (l ++ (b.st.drop i).map (a.states + ·)).length (xBd (l ++ (b.st.drop i).map (a.states + ·))) ∧
   (∀ j x,Not sv j → T[j]? = some x → T'[j]? = some x ∧ Not sv' j)
 | 0,i,T,sv,l,h,hll,hB => by
  obtain rfl : i = b.st.length := by omega
  refine ⟨T,sv,?_,by rw [List.drop_length]; simpa using hB,fun j x h1 h2 => ⟨h2,h1⟩⟩
  rw [xXa]
  simp (maxSteps := 30000000) (disch := first | assumption | omega | (simp only [WL,AV.isCell,xAa] <;> omega) | rfl | decide) only [↓reduceIte,WB,xAR,xAc,xAQ,xAD,xAC,AV.cells,AV.isCell,xAb,xAj,xAk,xAs,xAt,xAu,xAv,xAw,xAx,xAL,xAy,xAz,xAl,xAA,xAm,xAn,xAB,xAo,xAp,xAf,Nat.reduceDiv,Nat.reduceMod,WP,xAI,xAF,xAX,xAW,xAV,xAG,xAH,xAE,W2,xAd,xAe,xAi,Nat.reduceAdd,Nat.reduceSub,Nat.reduceLeDiff,Nat.reduceMul,Int.reduceAdd,Int.reduceSub,Int.reduceMul,Int.reduceLT,Int.reduceLE,Int.reduceEq,Int.reduceToNat,Int.reduceNeg,Nat.reduceEqDiff,Nat.reduceBEq,Nat.reduceLT,xAa,xAg,xAq,xAr,xAM,xRD,xUl]
 | d + 1,i,T,sv,l,h,hll,hB => by
  have hlt : (i : Int) < (b.st.length : Nat) := by omega
  have hqi := hq _ (xHo (by omega : i < b.st.length))
  have hwr : IntKind.i64.wrap (a.states + b.st.getD i 0) = a.states + b.st.getD i 0 := xNP (by omega) (by omega)
  have hd : (b.st.drop i).map (a.states + ·) = (a.states + b.st.getD i 0) :: (b.st.drop (i + 1)).map (a.states + ·) := by rw [xBz (by omega)]; rfl
  rcases hB with ⟨rfl,e1,e2⟩ | ⟨k,rfl,e1,e2⟩
  ·have hl0 : l = [] := List.length_eq_zero_iff.1 e1
   subst hl0
   obtain ⟨T',sv',h1,h2,h3⟩ := xTJ (fv := fv) (ev := ev) hl hA hq d (i + 1) (T ++ [.cells false false (xBd [a.states + b.st.getD i 0])]) (.own false (T.length + 1 + 1 + 1) 0 1 1) [a.states + b.st.getD i 0] (by omega) (by simp at hll ⊢; omega)
    (.inr ⟨T.length,rfl,by simp,by rw [xAT]; simp⟩)
   refine ⟨T',sv',?_,?_,fun j x q1 q2 => ?_⟩
   ·simp only [List.cons_append,List.nil_append,xCh] at h1
    rw [xXa]
    simp (maxSteps := 30000000) (disch := first | assumption | omega | (simp only [WL,AV.isCell,xAa] <;> omega) | rfl | decide) only [↓reduceIte,WB,xAR,xAc,xAQ,xAD,xAC,AV.cells,AV.isCell,xAb,xAj,xAk,xAs,xAt,xAu,xAv,xAw,xAx,xAL,xAy,xAz,xAl,xAA,xAm,xAn,xAB,xAo,xAp,xAf,Nat.reduceDiv,Nat.reduceMod,WP,xAI,xAF,xAX,xAW,xAV,xAG,xAH,xAE,W2,xAd,xAe,xAi,Nat.reduceAdd,Nat.reduceSub,Nat.reduceLeDiff,Nat.reduceMul,Int.reduceAdd,Int.reduceSub,Int.reduceMul,Int.reduceLT,Int.reduceLE,Int.reduceEq,Int.reduceToNat,Int.reduceNeg,Nat.reduceEqDiff,Nat.reduceBEq,Nat.reduceLT,xAa,xAg,xAq,xAr,xAM,xRD,xUl,hlt,hwr,h1]
   ·rw [hd]; simpa using h2
   ·have hj := (List.getElem?_eq_some_iff.1 q2).1
    exact h3 j x (fun n es e => by cases e; omega) (by rw [List.getElem?_append_left hj]; exact q2)
  ·have hk := (List.getElem?_eq_some_iff.1 e1).1
   obtain ⟨T',sv',h1,h2,h3⟩ := xTJ (fv := fv) (ev := ev) hl hA hq d (i + 1) (T.set k .dead ++ [.cells false false (xBd (l ++ [a.states + b.st.getD i 0]))]) (.own false (T.length + 1 + 1 + 1) 0 (l ++ [a.states + b.st.getD i 0]).length 1) (l ++ [a.states + b.st.getD i 0]) (by omega) (by simp at hll ⊢; omega)
    (.inr ⟨T.length,rfl,by simp,by rw [xAT]; simp⟩)
   refine ⟨T',sv',?_,?_,fun j x q1 q2 => ?_⟩
   ·have hsn : xBd l ++ [AV.int .i64 (a.states + b.st.getD i 0)] = xBd (l ++ [a.states + b.st.getD i 0]) := by simp [xBd]
    have hll2 : (l ++ [a.states + b.st.getD i 0]).length = l.length + 1 := by simp
    simp only [hll2] at h1
    rw [xXa]
    simp (maxSteps := 30000000) (disch := first | assumption | omega | (simp only [WL,AV.isCell,xAa] <;> omega) | rfl | decide) only [↓reduceIte,WB,xAR,xAc,xAQ,xAD,xAC,AV.cells,AV.isCell,xAb,xAj,xAk,xAs,xAt,xAu,xAv,xAw,xAx,xAL,xAy,xAz,xAl,xAA,xAm,xAn,xAB,xAo,xAp,xAf,Nat.reduceDiv,Nat.reduceMod,WP,xAI,xAF,xAX,xAW,xAV,xAG,xAH,xAE,W2,xAd,xAe,xAi,Nat.reduceAdd,Nat.reduceSub,Nat.reduceLeDiff,Nat.reduceMul,Int.reduceAdd,Int.reduceSub,Int.reduceMul,Int.reduceLT,Int.reduceLE,Int.reduceEq,Int.reduceToNat,Int.reduceNeg,Nat.reduceEqDiff,Nat.reduceBEq,Nat.reduceLT,xAa,xAg,xAq,xAr,xAM,xRD,xUl,hlt,hwr,e1,hsn,h1]
   ·rw [hd]; simpa using h2
   ·have hj := (List.getElem?_eq_some_iff.1 q2).1
    have hjk : j ≠ k := by
     rintro rfl
     exact q1 _ _ rfl
    exact h3 j x (fun n es e => by cases e; omega) (by rw [List.getElem?_append_left (by simpa using hj),List.getElem?_set_ne (fun e => hjk e.symm)]; exact q2)
theorem xTK {a b : Aut} {uv ev : AV} (hl : b.fi.length < 1000) (hA : 0 ≤ a.states ∧ a.states ≤ 64) (hq : ∀ q ∈ b.fi,0 ≤ q ∧ q < 64) : ∀ d i T sv l,i + d = b.fi.length → l.length + d < 100000 → Bld T sv 1 l.length (xBd l) →
  ∃ T' sv',L.loop xNe xVR ⟨xKf (.ptr 0 0) (.ptr 1 0) (.ptr 2 0) (iw b.z2 b.fi) (.int .i64 (b.fi.length : Nat)) (.int .i64 (i : Nat)),HU a b uv sv ev T⟩ =
   some (.exit 3,⟨xKf (.ptr 0 0) (.ptr 1 0) (.ptr 2 0) (iw b.z2 b.fi) (.int .i64 (b.fi.length : Nat)) (.int .i64 (b.fi.length : Nat)),HU a b uv sv' ev T'⟩) ∧
   Bld T' sv' 1 (l ++ (b.fi.drop i).map (a.states + ·)).length (xBd (l ++ (b.fi.drop i).map (a.states + ·))) ∧
   (∀ j x,Not sv j → T[j]? = some x → T'[j]? = some x ∧ Not sv' j)
 | 0,i,T,sv,l,h,hll,hB => by
  obtain rfl : i = b.fi.length := by omega
  refine ⟨T,sv,?_,by rw [List.drop_length]; simpa using hB,fun j x h1 h2 => ⟨h2,h1⟩⟩
  rw [xXb]
  simp (maxSteps := 30000000) (disch := first | assumption | omega | (simp only [WL,AV.isCell,xAa] <;> omega) | rfl | decide) only [↓reduceIte,WB,xAR,xAc,xAQ,xAD,xAC,AV.cells,AV.isCell,xAb,xAj,xAk,xAs,xAt,xAu,xAv,xAw,xAx,xAL,xAy,xAz,xAl,xAA,xAm,xAn,xAB,xAo,xAp,xAf,Nat.reduceDiv,Nat.reduceMod,WP,xAI,xAF,xAX,xAW,xAV,xAG,xAH,xAE,W2,xAd,xAe,xAi,Nat.reduceAdd,Nat.reduceSub,Nat.reduceLeDiff,Nat.reduceMul,Int.reduceAdd,Int.reduceSub,Int.reduceMul,Int.reduceLT,Int.reduceLE,Int.reduceEq,Int.reduceToNat,Int.reduceNeg,Nat.reduceEqDiff,Nat.reduceBEq,Nat.reduceLT,xAa,xAg,xAq,xAr,xAM,xRE,xUm]
 | d + 1,i,T,sv,l,h,hll,hB => by
  have hlt : (i : Int) < (b.fi.length : Nat) := by omega
  have hqi := hq _ (xHo (by omega : i < b.fi.length))
  have hwr : IntKind.i64.wrap (a.states + b.fi.getD i 0) = a.states + b.fi.getD i 0 := xNP (by omega) (by omega)
  have hd : (b.fi.drop i).map (a.states + ·) = (a.states + b.fi.getD i 0) :: (b.fi.drop (i + 1)).map (a.states + ·) := by rw [xBz (by omega)]; rfl
  rcases hB with ⟨rfl,e1,e2⟩ | ⟨k,rfl,e1,e2⟩
  ·have hl0 : l = [] := List.length_eq_zero_iff.1 e1
   subst hl0
   obtain ⟨T',sv',h1,h2,h3⟩ := xTK (uv := uv) (ev := ev) hl hA hq d (i + 1) (T ++ [.cells false false (xBd [a.states + b.fi.getD i 0])]) (.own false (T.length + 1 + 1 + 1) 0 1 1) [a.states + b.fi.getD i 0] (by omega) (by simp at hll ⊢; omega)
    (.inr ⟨T.length,rfl,by simp,by rw [xAT]; simp⟩)
   refine ⟨T',sv',?_,?_,fun j x q1 q2 => ?_⟩
   ·simp only [List.cons_append,List.nil_append,xCh] at h1
    rw [xXb]
    simp (maxSteps := 30000000) (disch := first | assumption | omega | (simp only [WL,AV.isCell,xAa] <;> omega) | rfl | decide) only [↓reduceIte,WB,xAR,xAc,xAQ,xAD,xAC,AV.cells,AV.isCell,xAb,xAj,xAk,xAs,xAt,xAu,xAv,xAw,xAx,xAL,xAy,xAz,xAl,xAA,xAm,xAn,xAB,xAo,xAp,xAf,Nat.reduceDiv,Nat.reduceMod,WP,xAI,xAF,xAX,xAW,xAV,xAG,xAH,xAE,W2,xAd,xAe,xAi,Nat.reduceAdd,Nat.reduceSub,Nat.reduceLeDiff,Nat.reduceMul,Int.reduceAdd,Int.reduceSub,Int.reduceMul,Int.reduceLT,Int.reduceLE,Int.reduceEq,Int.reduceToNat,Int.reduceNeg,Nat.reduceEqDiff,Nat.reduceBEq,Nat.reduceLT,xAa,xAg,xAq,xAr,xAM,xRE,xUm,hlt,hwr,h1]
   ·rw [hd]; simpa using h2
   ·have hj := (List.getElem?_eq_some_iff.1 q2).1
    exact h3 j x (fun n es e => by cases e; omega) (by rw [List.getElem?_append_left hj]; exact q2)
  ·have hk := (List.getElem?_eq_some_iff.1 e1).1
   obtain ⟨T',sv',h1,h2,h3⟩ := xTK (uv := uv) (ev := ev) hl hA hq d (i + 1) (T.set k .dead ++ [.cells false false (xBd (l ++ [a.states + b.fi.getD i 0]))]) (.own false (T.length + 1 + 1 + 1) 0 (l ++ [a.states + b.fi.getD i 0]).length 1) (l ++ [a.states + b.fi.getD i 0]) (by omega) (by simp at hll ⊢; omega)
    (.inr ⟨T.length,rfl,by simp,by rw [xAT]; simp⟩)
   refine ⟨T',sv',?_,?_,fun j x q1 q2 => ?_⟩
   ·have hsn : xBd l ++ [AV.int .i64 (a.states + b.fi.getD i 0)] = xBd (l ++ [a.states + b.fi.getD i 0]) := by simp [xBd]
    have hll2 : (l ++ [a.states + b.fi.getD i 0]).length = l.length + 1 := by simp
    simp only [hll2] at h1
    rw [xXb]
    simp (maxSteps := 30000000) (disch := first | assumption | omega | (simp only [WL,AV.isCell,xAa] <;> omega) | rfl | decide) only [↓reduceIte,WB,xAR,xAc,xAQ,xAD,xAC,AV.cells,AV.isCell,xAb,xAj,xAk,xAs,xAt,xAu,xAv,xAw,xAx,xAL,xAy,xAz,xAl,xAA,xAm,xAn,xAB,xAo,xAp,xAf,Nat.reduceDiv,Nat.reduceMod,WP,xAI,xAF,xAX,xAW,xAV,xAG,xAH,xAE,W2,xAd,xAe,xAi,Nat.reduceAdd,Nat.reduceSub,Nat.reduceLeDiff,Nat.reduceMul,Int.reduceAdd,Int.reduceSub,Int.reduceMul,Int.reduceLT,Int.reduceLE,Int.reduceEq,Int.reduceToNat,Int.reduceNeg,Nat.reduceEqDiff,Nat.reduceBEq,Nat.reduceLT,xAa,xAg,xAq,xAr,xAM,xRE,xUm,hlt,hwr,e1,hsn,h1]
   ·rw [hd]; simpa using h2
   ·have hj := (List.getElem?_eq_some_iff.1 q2).1
    have hjk : j ≠ k := by
     rintro rfl
     exact q1 _ _ rfl
    exact h3 j x (fun n es e => by cases e; omega) (by rw [List.getElem?_append_left (by simpa using hj),List.getElem?_set_ne (fun e => hjk e.symm)]; exact q2)
def shE (s : Int) (e : Ed) : Ed := ⟨s + e.a,s + e.b,e.p,e.n⟩
theorem xTL {a b : Aut} {s3 : AV} {sv fv : AV} (hl : b.ed.length < 1000) (hA : 0 ≤ a.states ∧ a.states ≤ 64) (hq : ∀ e ∈ b.ed,(0 ≤ e.a ∧ e.a < 64) ∧ 0 ≤ e.b ∧ e.b < 64) : ∀ d i T ev l,i + d = b.ed.length → l.length + d < 100000 → Bld T ev 4 l.length (edges l) →
  ∃ T' ev',L.loop xNf xVS ⟨xKg (.ptr 0 0) (.ptr 2 0) (.sl b.z3 b.ed.length (edges b.ed)) (.int .i64 (b.ed.length : Nat)) (.int .i64 (i : Nat)),HU a b sv fv ev T⟩ =
   some (.exit 5,⟨xKg (.ptr 0 0) (.ptr 2 0) (.sl b.z3 b.ed.length (edges b.ed)) (.int .i64 (b.ed.length : Nat)) (.int .i64 (b.ed.length : Nat)),HU a b sv fv ev' T'⟩) ∧
   Bld T' ev' 4 (l ++ (b.ed.drop i).map (shE a.states)).length (edges (l ++ (b.ed.drop i).map (shE a.states))) ∧
   (∀ j x,Not ev j → T[j]? = some x → T'[j]? = some x ∧ Not ev' j)
 | 0,i,T,sv,l,h,hll,hB => by
  obtain rfl : i = b.ed.length := by omega
  refine ⟨T,sv,?_,by rw [List.drop_length]; simpa using hB,fun j x h1 h2 => ⟨h2,h1⟩⟩
  rw [xXc]
  simp (maxSteps := 30000000) (disch := first | assumption | omega | (simp only [WL,AV.isCell,xAa] <;> omega) | rfl | decide) only [↓reduceIte,WB,xAR,xAc,xAQ,xAD,xAC,AV.cells,AV.isCell,xAb,xAj,xAk,xAs,xAt,xAu,xAv,xAw,xAx,xAL,xAy,xAz,xAl,xAA,xAm,xAn,xAB,xAo,xAp,xAf,Nat.reduceDiv,Nat.reduceMod,WP,xAI,xAF,xAX,xAW,xAV,xAG,xAH,xAE,W2,xAd,xAe,xAi,Nat.reduceAdd,Nat.reduceSub,Nat.reduceLeDiff,Nat.reduceMul,Int.reduceAdd,Int.reduceSub,Int.reduceMul,Int.reduceLT,Int.reduceLE,Int.reduceEq,Int.reduceToNat,Int.reduceNeg,Nat.reduceEqDiff,Nat.reduceBEq,Nat.reduceLT,xAa,xAg,xAq,xAr,xAM,xRF,xUn]
 | d + 1,i,T,sv,l,h,hll,hB => by
  have hlt : (i : Int) < (b.ed.length : Nat) := by omega
  have hqi := hq _ (xFB (by omega : i < b.ed.length))
  have hwa : IntKind.i64.wrap (a.states + (b.ed.getD i e0).a) = a.states + (b.ed.getD i e0).a := xNP (by omega) (by omega)
  have hwb : IntKind.i64.wrap (a.states + (b.ed.getD i e0).b) = a.states + (b.ed.getD i e0).b := xNP (by omega) (by omega)
  have hd : (b.ed.drop i).map (shE a.states) = shE a.states (b.ed.getD i e0) :: (b.ed.drop (i + 1)).map (shE a.states) := by rw [xCV (by omega)]; rfl
  have hone : edges [shE a.states (b.ed.getD i e0)] = [.int .i64 (a.states + (b.ed.getD i e0).a),.int .i64 (a.states + (b.ed.getD i e0).b),.int .u8 ((b.ed.getD i e0).p : Nat),.int .u8 ((b.ed.getD i e0).n : Nat)] := rfl
  have hsn : edges l ++ [AV.int .i64 (a.states + (b.ed.getD i e0).a),.int .i64 (a.states + (b.ed.getD i e0).b),.int .u8 ((b.ed.getD i e0).p : Nat),.int .u8 ((b.ed.getD i e0).n : Nat)] = edges (l ++ [shE a.states (b.ed.getD i e0)]) := xG7 l (shE a.states (b.ed.getD i e0))
  have hcut : List.take (l.length * 4) (edges l) = edges l := List.take_of_length_le (by rw [xAa]; omega)
  rcases hB with ⟨rfl,e1,e2⟩ | ⟨k,rfl,e1,e2⟩
  ·have hl0 : l = [] := List.length_eq_zero_iff.1 e1
   subst hl0
   obtain ⟨T',sv',h1,h2,h3⟩ := xTL (s3 := s3) (sv := sv) (fv := fv) hl hA hq d (i + 1) (T ++ [.cells false false (edges [shE a.states (b.ed.getD i e0)])] ++ [.cells false false (edges [shE a.states (b.ed.getD i e0)])]) (.own false (T.length + 1 + 1 + 1 + 1) 0 1 4) [shE a.states (b.ed.getD i e0)] (by omega) (by simp at hll ⊢; omega)
    (.inr ⟨T.length + 1,rfl,by simp,by rw [xAa]⟩)
   refine ⟨T',sv',?_,?_,fun j x q1 q2 => ?_⟩
   ·simp only [List.append_assoc,List.cons_append,List.nil_append,hone] at h1
    rw [xXc]
    simp (maxSteps := 30000000) (disch := first | assumption | omega | (simp only [WL,AV.isCell,xAa] <;> omega) | rfl | decide) only [↓reduceIte,WB,xAR,xAc,xAQ,xAD,xAC,AV.cells,AV.isCell,xAb,xAj,xAk,xAs,xAt,xAu,xAv,xAw,xAx,xAL,xAy,xAz,xAl,xAA,xAm,xAn,xAB,xAo,xAp,xAf,Nat.reduceDiv,Nat.reduceMod,WP,xAI,xAF,xAX,xAW,xAV,xAG,xAH,xAE,W2,xAd,xAe,xAi,Nat.reduceAdd,Nat.reduceSub,Nat.reduceLeDiff,Nat.reduceMul,Int.reduceAdd,Int.reduceSub,Int.reduceMul,Int.reduceLT,Int.reduceLE,Int.reduceEq,Int.reduceToNat,Int.reduceNeg,Nat.reduceEqDiff,Nat.reduceBEq,Nat.reduceLT,xAa,xAg,xAq,xAr,xAM,xRF,xUn,hlt,hwa,hwb,h1]
   ·rw [hd]; simpa using h2
   ·have hj := (List.getElem?_eq_some_iff.1 q2).1
    exact h3 j x (fun n es e => by cases e; omega) (by rw [List.append_assoc,List.getElem?_append_left hj]; exact q2)
  ·have hk := (List.getElem?_eq_some_iff.1 e1).1
   obtain ⟨T',sv',h1,h2,h3⟩ := xTL (s3 := s3) (sv := sv) (fv := fv) hl hA hq d (i + 1) (T.set k .dead ++ [.cells false false (edges [shE a.states (b.ed.getD i e0)])] ++ [.cells false false (edges (l ++ [shE a.states (b.ed.getD i e0)]))]) (.own false (T.length + 1 + 1 + 1 + 1) 0 (l ++ [shE a.states (b.ed.getD i e0)]).length 4) (l ++ [shE a.states (b.ed.getD i e0)]) (by omega) (by simp at hll ⊢; omega)
    (.inr ⟨T.length + 1,rfl,by simp,by rw [xAa]⟩)
   refine ⟨T',sv',?_,?_,fun j x q1 q2 => ?_⟩
   ·have hll2 : (l ++ [shE a.states (b.ed.getD i e0)]).length = l.length + 1 := by simp
    have hg : ∀ X : Heap,(T ++ X)[k]? = some (.cells false false (edges l)) := fun X => by rw [List.getElem?_append_left hk]; exact e1
    have hs : ∀ X : Heap,(T ++ X).set k .dead = T.set k .dead ++ X := fun X => by rw [List.set_append_left _ _ hk]
    simp only [List.append_assoc,List.cons_append,List.nil_append,hone,hll2] at h1
    rw [xXc]
    simp (maxSteps := 30000000) (disch := first | assumption | omega | (simp only [WL,AV.isCell,xAa] <;> omega) | rfl | decide) only [↓reduceIte,WB,xAR,xAc,xAQ,xAD,xAC,AV.cells,AV.isCell,xAb,xAj,xAk,xAs,xAt,xAu,xAv,xAw,xAx,xAL,xAy,xAz,xAl,xAA,xAm,xAn,xAB,xAo,xAp,xAf,Nat.reduceDiv,Nat.reduceMod,WP,xAI,xAF,xAX,xAW,xAV,xAG,xAH,xAE,W2,xAd,xAe,xAi,Nat.reduceAdd,Nat.reduceSub,Nat.reduceLeDiff,Nat.reduceMul,Int.reduceAdd,Int.reduceSub,Int.reduceMul,Int.reduceLT,Int.reduceLE,Int.reduceEq,Int.reduceToNat,Int.reduceNeg,Nat.reduceEqDiff,Nat.reduceBEq,Nat.reduceLT,xAa,xAg,xAq,xAr,xAM,xRF,xUn,hlt,hwa,hwb,hg,hs,hsn,hcut,h1]
   ·rw [hd]; simpa using h2
   ·have hj := (List.getElem?_eq_some_iff.1 q2).1
    have hjk : j ≠ k := by
     rintro rfl
     exact q1 _ _ rfl
    exact h3 j x (fun n es e => by cases e; omega) (by rw [List.append_assoc,List.getElem?_append_left (by simpa using hj),List.getElem?_set_ne (fun e => hjk e.symm)]; exact q2)
end Go.Abs.NfaD.U
/- Union: its result the caller's own. -/
namespace Go.Abs.NfaD.U
open Go Go.Abs
set_option linter.unusedSimpArgs false
set_option linter.unusedVariables false
theorem yES (z : Bool) (l : List Ed) (hl : l.length < 1000000) (hz : z = true → l = []) : ∃ v B,xBw L 49 [.sl z l.length (edges l)] = some (v,B) ∧ ((v = .sl true 0 [] ∧ B = [] ∧ l = []) ∨ (v = .own false 0 0 l.length 4 ∧ B = [.cells false false (edges l)])) := by
 cases z with
 | true =>
  obtain rfl := hz rfl
  exact ⟨.sl true 0 [],[],(xPS [] (by simp)).2,.inl ⟨rfl,rfl,rfl⟩⟩
 | false => exact ⟨.own false 0 0 l.length 4,[.cells false false (edges l)],(xPS l (by omega)).1,.inr ⟨rfl,rfl⟩⟩
theorem Bld.keep {T T' : Heap} {v : AV} {es n : Nat} {cs : List AV} (h : Bld T v es n cs) (hk : ∀ j x,v = .own false (j + 1 + 1 + 1) 0 n es → T[j]? = some x → T'[j]? = some x) : Bld T' v es n cs := by
 rcases h with h | ⟨k,e1,e2,e3⟩
 ·exact .inl h
 ·exact .inr ⟨k,e1,hk k _ e1 e2,e3⟩
theorem Bld.cell {T : Heap} {v : AV} {es n : Nat} {cs : List AV} (h : Bld T v es n cs) : v.isCell = true := by
 rcases h with ⟨rfl,_⟩ | ⟨k,rfl,_⟩ <;> rfl
theorem Bld.owF {T : Heap} {v : AV} {es n : Nat} {cs : List AV} (h : Bld T v es n cs) (c0 c1 c2 : Blk) : OwF (c0 :: c1 :: c2 :: T) v es n cs := by
 rcases h with h | ⟨k,e1,e2,e3⟩
 ·exact .inl h
 ·exact .inr ⟨k + 1 + 1 + 1,e1,e2,e3⟩
theorem uni_bad {a b : Aut} {ea eb : Int} (ha : L.pcall 26 [a.av] = some (.int .i64 ea)) (hb : L.pcall 26 [b.av] = some (.int .i64 eb)) :
  (ea ≠ 0 → ∃ G,L.icall (.func 19 []) [a.av,b.av] [] = some (.tup [xJF,.int .i64 ea],G)) ∧ (ea = 0 → eb ≠ 0 → ∃ G,L.icall (.func 19 []) [a.av,b.av] [] = some (.tup [xJF,.int .i64 eb],G)) := by
 refine ⟨fun h => ⟨[.cells false false a.cells,.cells false false b.cells,.cells false false [.int .i64 0,.int .i64 0,.sl true 0 [],.sl true 0 [],.sl true 0 []]],?_⟩,fun h h' => ⟨[.cells false false a.cells,.cells false false b.cells,.cells false false [.int .i64 0,.int .i64 0,.sl true 0 [],.sl true 0 [],.sl true 0 []]],?_⟩⟩
 ·rw [yB1,a19,xA3]
  simp (maxSteps := 30000000) (disch := first | assumption | omega | (simp only [WL,AV.isCell,xAa] <;> omega) | rfl | decide) only [↓reduceIte,WB,xAR,xAc,xAQ,xAD,xAC,AV.cells,AV.isCell,xAb,xAj,xAk,xAs,xAt,xAu,xAv,xAw,xAx,xAL,xAy,xAz,xAl,xAA,xAm,xAn,xAB,xAo,xAp,xAf,Nat.reduceDiv,Nat.reduceMod,WP,xAI,xAF,xAX,xAW,xAV,xAG,xAH,xAE,W2,xAd,xAe,xAi,Nat.reduceAdd,Nat.reduceSub,Nat.reduceLeDiff,Nat.reduceMul,Int.reduceAdd,Int.reduceSub,Int.reduceMul,Int.reduceLT,Int.reduceLE,Int.reduceEq,Int.reduceToNat,Int.reduceNeg,Nat.reduceEqDiff,Nat.reduceBEq,Nat.reduceLT,xAa,xAg,xAq,xAr,xAM,ha,h]
 ·subst h
  rw [yB1,a19,xA3]
  simp (maxSteps := 30000000) (disch := first | assumption | omega | (simp only [WL,AV.isCell,xAa] <;> omega) | rfl | decide) only [↓reduceIte,WB,xAR,xAc,xAQ,xAD,xAC,AV.cells,AV.isCell,xAb,xAj,xAk,xAs,xAt,xAu,xAv,xAw,xAx,xAL,xAy,xAz,xAl,xAA,xAm,xAn,xAB,xAo,xAp,xAf,Nat.reduceDiv,Nat.reduceMod,WP,xAI,xAF,xAX,xAW,xAV,xAG,xAH,xAE,W2,xAd,xAe,xAi,Nat.reduceAdd,Nat.reduceSub,Nat.reduceLeDiff,Nat.reduceMul,Int.reduceAdd,Int.reduceSub,Int.reduceMul,Int.reduceLT,Int.reduceLE,Int.reduceEq,Int.reduceToNat,Int.reduceNeg,Nat.reduceEqDiff,Nat.reduceBEq,Nat.reduceLT,xAa,xAg,xAq,xAr,xAM,ha,hb,h']
def xV3 (v u : AV) : Prop := ∀ j n es m fs,¬ (v = .own false (j + 1 + 1 + 1) 0 n es ∧ u = .own false (j + 1 + 1 + 1) 0 m fs)
theorem yCJ {a b : Aut} (h1 : b.st.length < 1000) (h2 : b.fi.length < 1000) (h3 : b.ed.length < 1000) (ha1 : a.st.length < 1000) (ha2 : a.fi.length < 1000) (ha3 : a.ed.length < 1000) (hA : 0 ≤ a.states ∧ a.states ≤ 64) (q1 : ∀ q ∈ b.st,0 ≤ q ∧ q < 64) (q2 : ∀ q ∈ b.fi,0 ≤ q ∧ q < 64) (q3 : ∀ e ∈ b.ed,(0 ≤ e.a ∧ e.a < 64) ∧ 0 ≤ e.b ∧ e.b < 64)
  (T : Heap) (sv fv ev : AV) (b1 : Bld T sv 1 a.st.length (xBd a.st)) (b2 : Bld T fv 1 a.fi.length (xBd a.fi)) (b3 : Bld T ev 4 a.ed.length (edges a.ed)) (p12 : xV3 sv fv) (p13 : xV3 sv ev) (p23 : xV3 fv ev) :
  ∃ T1 T2 T3 sv1 fv1 ev1,
   L.loop xNd xVQ ⟨xKe (.ptr 0 0) (.ptr 1 0) (.ptr 2 0) (iw b.z1 b.st) (.int .i64 (b.st.length : Nat)) (.int .i64 0),HU a b sv fv ev T⟩ =
    some (.exit 1,⟨xKe (.ptr 0 0) (.ptr 1 0) (.ptr 2 0) (iw b.z1 b.st) (.int .i64 (b.st.length : Nat)) (.int .i64 (b.st.length : Nat)),HU a b sv1 fv ev T1⟩) ∧
   L.loop xNe xVR ⟨xKf (.ptr 0 0) (.ptr 1 0) (.ptr 2 0) (iw b.z2 b.fi) (.int .i64 (b.fi.length : Nat)) (.int .i64 0),HU a b sv1 fv ev T1⟩ =
    some (.exit 3,⟨xKf (.ptr 0 0) (.ptr 1 0) (.ptr 2 0) (iw b.z2 b.fi) (.int .i64 (b.fi.length : Nat)) (.int .i64 (b.fi.length : Nat)),HU a b sv1 fv1 ev T2⟩) ∧
   L.loop xNf xVS ⟨xKg (.ptr 0 0) (.ptr 2 0) (.sl b.z3 b.ed.length (edges b.ed)) (.int .i64 (b.ed.length : Nat)) (.int .i64 0),HU a b sv1 fv1 ev T2⟩ =
    some (.exit 5,⟨xKg (.ptr 0 0) (.ptr 2 0) (.sl b.z3 b.ed.length (edges b.ed)) (.int .i64 (b.ed.length : Nat)) (.int .i64 (b.ed.length : Nat)),HU a b sv1 fv1 ev1 T3⟩) ∧
   Bld T3 sv1 1 (a.st ++ b.st.map (a.states + ·)).length (xBd (a.st ++ b.st.map (a.states + ·))) ∧ Bld T3 fv1 1 (a.fi ++ b.fi.map (a.states + ·)).length (xBd (a.fi ++ b.fi.map (a.states + ·))) ∧ Bld T3 ev1 4 (a.ed ++ b.ed.map (shE a.states)).length (edges (a.ed ++ b.ed.map (shE a.states))) := by
 obtain ⟨T1,sv1,l1,c1,k1⟩ := xTJ (a := a) (b := b) (fv := fv) (ev := ev) h1 hA q1 b.st.length 0 T sv a.st (by omega) (by omega) b1
 have b2' : Bld T1 fv 1 a.fi.length (xBd a.fi) := b2.keep fun j x e q => (k1 j x (fun n es e' => p12 j _ _ _ _ ⟨e',e⟩) q).1
 have b3' : Bld T1 ev 4 a.ed.length (edges a.ed) := b3.keep fun j x e q => (k1 j x (fun n es e' => p13 j _ _ _ _ ⟨e',e⟩) q).1
 have n12 : ∀ j n es,fv = .own false (j + 1 + 1 + 1) 0 n es → Not sv1 j := by
  intro j n es e
  rcases b2 with ⟨rfl,_⟩ | ⟨k,rfl,e2,_⟩
  ·cases e
  ·cases e
   exact (k1 _ _ (fun n es e' => p12 _ _ _ _ _ ⟨e',rfl⟩) e2).2
 have n13 : ∀ j n es,ev = .own false (j + 1 + 1 + 1) 0 n es → Not sv1 j := by
  intro j n es e
  rcases b3 with ⟨rfl,_⟩ | ⟨k,rfl,e2,_⟩
  ·cases e
  ·cases e
   exact (k1 _ _ (fun n es e' => p13 _ _ _ _ _ ⟨e',rfl⟩) e2).2
 obtain ⟨T2,fv1,l2,c2,k2⟩ := xTK (a := a) (b := b) (uv := sv1) (ev := ev) h2 hA q2 b.fi.length 0 T1 fv a.fi (by omega) (by omega) b2'
 have c1' := c1.keep fun j x e q => (k2 j x (fun n es e' => n12 j _ _ e' _ _ e) q).1
 have b3'' : Bld T2 ev 4 a.ed.length (edges a.ed) := b3'.keep fun j x e q => (k2 j x (fun n es e' => p23 j _ _ _ _ ⟨e',e⟩) q).1
 have n21 : ∀ j n es,ev = .own false (j + 1 + 1 + 1) 0 n es → Not fv1 j := by
  intro j n es e
  rcases b3' with ⟨rfl,_⟩ | ⟨k,rfl,e2,_⟩
  ·cases e
  ·cases e
   exact (k2 _ _ (fun n es e' => p23 _ _ _ _ _ ⟨e',rfl⟩) e2).2
 obtain ⟨T3,ev1,l3,c3,k3⟩ := xTL (a := a) (b := b) (s3 := .any) (sv := sv1) (fv := fv1) h3 hA q3 b.ed.length 0 T2 ev a.ed (by omega) (by omega) b3''
 have c1'' := c1'.keep fun j x e q => (k3 j x (fun n es e' => n13 j _ _ e' _ _ e) q).1
 have c2' := c2.keep fun j x e q => (k3 j x (fun n es e' => n21 j _ _ e' _ _ e) q).1
 exact ⟨T1,T2,T3,sv1,fv1,ev1,l1,l2,l3,c1'',c2',c3⟩
theorem _root_.Go.Abs.NfaD.Valid.st64 {n : Aut} (h : Valid n) : ∀ q ∈ n.st,0 ≤ q ∧ q < 64 := fun q hq => by
 have := xDT h.st q hq; have := h.s64; omega
theorem _root_.Go.Abs.NfaD.Valid.fi64 {n : Aut} (h : Valid n) : ∀ q ∈ n.fi,0 ≤ q ∧ q < 64 := fun q hq => by
 have := xDT h.fi q hq; have := h.s64; omega
theorem _root_.Go.Abs.NfaD.Valid.ed64 {n : Aut} (h : Valid n) : ∀ e ∈ n.ed,(0 ≤ e.a ∧ e.a < 64) ∧ 0 ≤ e.b ∧ e.b < 64 := fun e he => by
 have h1 := yBW (xS1 h.ed e he)
 have h2 := h.s64
 omega
set_option maxHeartbeats 4000000 in
theorem uni_run {a b : Aut} (ha : L.pcall 26 [a.av] = some (.int .i64 0)) (hb : L.pcall 26 [b.av] = some (.int .i64 0)) (va : Valid a) (vb : Valid b) (fa : Fits a) (fb : Fits b)
  (h1 : b.st.length < 1000) (h2 : b.fi.length < 1000) (ha1 : a.st.length < 1000) (ha2 : a.fi.length < 1000) (za1 : a.z1 = true → a.st = []) (za2 : a.z2 = true → a.fi = []) (za3 : a.z3 = true → a.ed = [])
  (hv : a.vars = b.vars) (hn : a.states + b.states ≤ 64) (he : a.ed.length + b.ed.length ≤ 512) :
  ∃ v G,L.icall (.func 19 []) [a.av,b.av] [] = some (.tup [v,.int .i64 0],G) ∧ OwA G v a.vars (a.states + b.states) (a.st ++ b.st.map (a.states + ·)) (a.fi ++ b.fi.map (a.states + ·)) (a.ed ++ b.ed.map (shE a.states)) := by
 have hs : IntKind.i64.wrap (a.states + b.states) = a.states + b.states := by have := va.s64; have := vb.s64; have := va.s0; have := vb.s0; exact xNP (by omega) (by omega)
 have hl : IntKind.i64.wrap ((a.ed.length + b.ed.length : Nat) : Int) = ((a.ed.length + b.ed.length : Nat) : Int) := by have := va.el; have := vb.el; exact xNP (by omega) (by omega)
 have c : ¬ 64 < a.states + b.states := by omega
 have c2 : ¬ (512 : Int) < ((a.ed.length + b.ed.length : Nat) : Int) := by omega
 have hve : (a.vars = b.vars) = True := eq_true hv
 have hA : 0 ≤ a.states ∧ a.states ≤ 64 := ⟨va.s0,va.s64⟩
 obtain ⟨v1,B1,g1,k1⟩ := yC4 a.z1 a.st fa.l1 za1
 obtain ⟨v2,B2,g2,k2⟩ := yC4 a.z2 a.fi fa.l2 za2
 obtain ⟨v3,B3,g3,k3⟩ := yES a.z3 a.ed (by omega) za3
 have L3 := fun T sv fv ev => yCJ (a := a) (b := b) h1 h2 (by omega) ha1 ha2 (by omega) hA vb.st64 vb.fi64 vb.ed64 T sv fv ev
 have bl1 : ∀ T k,T[k]? = some (.cells false false (xBd a.st)) → Bld T (.own false (k + 1 + 1 + 1) 0 a.st.length 1) 1 a.st.length (xBd a.st) := fun T k h => .inr ⟨k,rfl,h,by rw [xAT]; omega⟩
 have bl2 : ∀ T k,T[k]? = some (.cells false false (xBd a.fi)) → Bld T (.own false (k + 1 + 1 + 1) 0 a.fi.length 1) 1 a.fi.length (xBd a.fi) := fun T k h => .inr ⟨k,rfl,h,by rw [xAT]; omega⟩
 have bl3 : ∀ T k,T[k]? = some (.cells false false (edges a.ed)) → Bld T (.own false (k + 1 + 1 + 1) 0 a.ed.length 4) 4 a.ed.length (edges a.ed) := fun T k h => .inr ⟨k,rfl,h,by rw [xAa]⟩
 have ap : ∀ {k k' n n' es es' : Nat},k ≠ k' → xV3 (.own false (k + 1 + 1 + 1) 0 n es) (.own false (k' + 1 + 1 + 1) 0 n' es') := fun hne j n es m fs h => by
  obtain ⟨e1,e2⟩ := h
  cases e1; cases e2; exact hne rfl
 have apl : ∀ {v : AV},xV3 (.sl true 0 []) v := fun j n es m fs h => by cases h.1
 have apr : ∀ {v : AV},xV3 v (.sl true 0 []) := fun j n es m fs h => by cases h.2
 have bn1 : ∀ T,a.st = [] → Bld T (.sl true 0 []) 1 a.st.length (xBd a.st) := fun T h => .inl ⟨rfl,by rw [h]; rfl,by rw [h]; rfl⟩
 have bn2 : ∀ T,a.fi = [] → Bld T (.sl true 0 []) 1 a.fi.length (xBd a.fi) := fun T h => .inl ⟨rfl,by rw [h]; rfl,by rw [h]; rfl⟩
 have bn3 : ∀ T,a.ed = [] → Bld T (.sl true 0 []) 4 a.ed.length (edges a.ed) := fun T h => .inl ⟨rfl,by rw [h]; rfl,by rw [h]; rfl⟩
 have key : ∃ T1 T2 T3 sv1 fv1 ev1,
   L.loop xNd xVQ ⟨xKe (.ptr 0 0) (.ptr 1 0) (.ptr 2 0) (iw b.z1 b.st) (.int .i64 (b.st.length : Nat)) (.int .i64 0),HU a b (xAG 3 v1) (xAG (3 + B1.length) v2) (xAG (3 + B1.length + B2.length) v3) (B1 ++ B2 ++ B3)⟩ =
    some (.exit 1,⟨xKe (.ptr 0 0) (.ptr 1 0) (.ptr 2 0) (iw b.z1 b.st) (.int .i64 (b.st.length : Nat)) (.int .i64 (b.st.length : Nat)),HU a b sv1 (xAG (3 + B1.length) v2) (xAG (3 + B1.length + B2.length) v3) T1⟩) ∧
   L.loop xNe xVR ⟨xKf (.ptr 0 0) (.ptr 1 0) (.ptr 2 0) (iw b.z2 b.fi) (.int .i64 (b.fi.length : Nat)) (.int .i64 0),HU a b sv1 (xAG (3 + B1.length) v2) (xAG (3 + B1.length + B2.length) v3) T1⟩ =
    some (.exit 3,⟨xKf (.ptr 0 0) (.ptr 1 0) (.ptr 2 0) (iw b.z2 b.fi) (.int .i64 (b.fi.length : Nat)) (.int .i64 (b.fi.length : Nat)),HU a b sv1 fv1 (xAG (3 + B1.length + B2.length) v3) T2⟩) ∧
   L.loop xNf xVS ⟨xKg (.ptr 0 0) (.ptr 2 0) (.sl b.z3 b.ed.length (edges b.ed)) (.int .i64 (b.ed.length : Nat)) (.int .i64 0),HU a b sv1 fv1 (xAG (3 + B1.length + B2.length) v3) T2⟩ =
    some (.exit 5,⟨xKg (.ptr 0 0) (.ptr 2 0) (.sl b.z3 b.ed.length (edges b.ed)) (.int .i64 (b.ed.length : Nat)) (.int .i64 (b.ed.length : Nat)),HU a b sv1 fv1 ev1 T3⟩) ∧
   Bld T3 sv1 1 (a.st ++ b.st.map (a.states + ·)).length (xBd (a.st ++ b.st.map (a.states + ·))) ∧ Bld T3 fv1 1 (a.fi ++ b.fi.map (a.states + ·)).length (xBd (a.fi ++ b.fi.map (a.states + ·))) ∧ Bld T3 ev1 4 (a.ed ++ b.ed.map (shE a.states)).length (edges (a.ed ++ b.ed.map (shE a.states))) := by
  rcases k1 with ⟨rfl,rfl,n1⟩ | ⟨rfl,rfl⟩ <;> rcases k2 with ⟨rfl,rfl,n2⟩ | ⟨rfl,rfl⟩ <;> rcases k3 with ⟨rfl,rfl,n3⟩ | ⟨rfl,rfl⟩
  ·exact L3 _ _ _ _ (bn1 _ n1) (bn2 _ n2) (bn3 _ n3) apl apl apl
  ·exact L3 _ _ _ _ (bn1 _ n1) (bn2 _ n2) (bl3 _ 0 rfl) apl apl apl
  ·exact L3 _ _ _ _ (bn1 _ n1) (bl2 _ 0 rfl) (bn3 _ n3) apl apl apr
  ·exact L3 _ _ _ _ (bn1 _ n1) (bl2 _ 0 rfl) (bl3 _ 1 rfl) apl apl (ap (by decide))
  ·exact L3 _ _ _ _ (bl1 _ 0 rfl) (bn2 _ n2) (bn3 _ n3) apr apr apl
  ·exact L3 _ _ _ _ (bl1 _ 0 rfl) (bn2 _ n2) (bl3 _ 1 rfl) apr (ap (by decide)) apl
  ·exact L3 _ _ _ _ (bl1 _ 0 rfl) (bl2 _ 1 rfl) (bn3 _ n3) (ap (by decide)) apr apr
  ·exact L3 _ _ _ _ (bl1 _ 0 rfl) (bl2 _ 1 rfl) (bl3 _ 2 rfl) (ap (by decide)) (ap (by decide)) (ap (by decide))
 clear L3 bl1 bl2 bl3 bn1 bn2 bn3 ap
 obtain ⟨T1,T2,T3,sv1,fv1,ev1,l1,l2,l3,b1,b2,b3⟩ := key
 have y1 := b1.cell
 have y2 := b2.cell
 have y3 := b3.cell
 have hcell : [AV.int .i64 a.vars,.int .i64 (a.states + b.states),sv1,fv1,ev1].all AV.isCell = true := by
  simp only [List.all_cons,List.all_nil,y1,y2,y3]
  rfl
 refine ⟨.agg [.int .i64 a.vars,.int .i64 (a.states + b.states),sv1,fv1,ev1],HU a b sv1 fv1 ev1 T3,?_,sv1,fv1,ev1,rfl,Bld.owF b1 _ _ _,Bld.owF b2 _ _ _,Bld.owF b3 _ _ _⟩
 rcases k1 with ⟨rfl,rfl,n1⟩ | ⟨rfl,rfl⟩ <;> rcases k2 with ⟨rfl,rfl,n2⟩ | ⟨rfl,rfl⟩ <;> rcases k3 with ⟨rfl,rfl,n3⟩ | ⟨rfl,rfl⟩
 all_goals
  simp only [xAG,xAH,xAE,List.length_nil,List.length_cons,List.nil_append,List.cons_append,Nat.add_zero,Nat.reduceAdd,Nat.zero_add] at l1 l2 l3
  rw [yB1,a19,xA3]
  simp (maxSteps := 30000000) (disch := first | assumption | omega | (simp only [WL,AV.isCell,xAa] <;> omega) | rfl | decide) only [↓reduceIte,WB,xAR,xAc,xAQ,xAD,xAC,AV.cells,AV.isCell,xAb,xAj,xAk,xAs,xAt,xAu,xAv,xAw,xAx,xAL,xAy,xAz,xAl,xAA,xAm,xAn,xAB,xAo,xAp,xAf,Nat.reduceDiv,Nat.reduceMod,WP,xAI,xAF,xAX,xAW,xAV,xAG,xAH,xAE,W2,xAd,xAe,xAi,Nat.reduceAdd,Nat.reduceSub,Nat.reduceLeDiff,Nat.reduceMul,Int.reduceAdd,Int.reduceSub,Int.reduceMul,Int.reduceLT,Int.reduceLE,Int.reduceEq,Int.reduceToNat,Int.reduceNeg,Nat.reduceEqDiff,Nat.reduceBEq,Nat.reduceLT,xAa,xAg,xAq,xAr,xAM,xUl,xUm,xUn,ha,hb,hve,hs,hl,c,c2,g1,g2,g3,l1,l2,l3]
end Go.Abs.NfaD.U
/- Union,where it may not be; the reference's copies,the caller's own. -/
namespace Go.Abs.NfaD
open Go Go.Abs
set_option linter.unusedSimpArgs false
set_option linter.unusedVariables false
theorem yAP {a b : Aut} (ha : L.pcall 26 [a.av] = some (.int .i64 0)) (hb : L.pcall 26 [b.av] = some (.int .i64 0)) (va : Valid a) (vb : Valid b) :
  (a.vars ≠ b.vars → ∃ G,L.icall (.func 19 []) [a.av,b.av] [] = some (.tup [xJF,.int .i64 7],G)) ∧
  (a.vars = b.vars → (64 < a.states + b.states ∨ 512 < a.ed.length + b.ed.length) → ∃ G,L.icall (.func 19 []) [a.av,b.av] [] = some (.tup [xJF,.int .i64 4],G)) := by
 have hs : IntKind.i64.wrap (a.states + b.states) = a.states + b.states := by have := va.s64; have := vb.s64; have := va.s0; have := vb.s0; exact xNP (by omega) (by omega)
 have hl : IntKind.i64.wrap ((a.ed.length + b.ed.length : Nat) : Int) = ((a.ed.length + b.ed.length : Nat) : Int) := by have := va.el; have := vb.el; exact xNP (by omega) (by omega)
 refine ⟨fun h => ⟨[.cells false false a.cells,.cells false false b.cells,.cells false false [.int .i64 0,.int .i64 0,.sl true 0 [],.sl true 0 [],.sl true 0 []]],?_⟩,fun h h' => ⟨[.cells false false a.cells,.cells false false b.cells,.cells false false [.int .i64 0,.int .i64 0,.sl true 0 [],.sl true 0 [],.sl true 0 []]],?_⟩⟩
 ·rw [yB1,a19,xA3]
  simp (maxSteps := 30000000) (disch := first | assumption | omega | (simp only [WL,AV.isCell,xAa] <;> omega) | rfl | decide) only [↓reduceIte,WB,xAR,xAc,xAQ,xAD,xAC,AV.cells,AV.isCell,xAb,xAj,xAk,xAs,xAt,xAu,xAv,xAw,xAx,xAL,xAy,xAz,xAl,xAA,xAm,xAn,xAB,xAo,xAp,xAf,Nat.reduceDiv,Nat.reduceMod,WP,xAI,xAF,xAX,xAW,xAV,xAG,xAH,xAE,W2,xAd,xAe,xAi,Nat.reduceAdd,Nat.reduceSub,Nat.reduceLeDiff,Nat.reduceMul,Int.reduceAdd,Int.reduceSub,Int.reduceMul,Int.reduceLT,Int.reduceLE,Int.reduceEq,Int.reduceToNat,Int.reduceNeg,Nat.reduceEqDiff,Nat.reduceBEq,Nat.reduceLT,xAa,xAg,xAq,xAr,xAM,ha,hb,h]
 ·have hve : (a.vars = b.vars) = True := eq_true h
  by_cases c : 64 < a.states + b.states
  ·rw [yB1,a19,xA3]
   simp (maxSteps := 30000000) (disch := first | assumption | omega | (simp only [WL,AV.isCell,xAa] <;> omega) | rfl | decide) only [↓reduceIte,WB,xAR,xAc,xAQ,xAD,xAC,AV.cells,AV.isCell,xAb,xAj,xAk,xAs,xAt,xAu,xAv,xAw,xAx,xAL,xAy,xAz,xAl,xAA,xAm,xAn,xAB,xAo,xAp,xAf,Nat.reduceDiv,Nat.reduceMod,WP,xAI,xAF,xAX,xAW,xAV,xAG,xAH,xAE,W2,xAd,xAe,xAi,Nat.reduceAdd,Nat.reduceSub,Nat.reduceLeDiff,Nat.reduceMul,Int.reduceAdd,Int.reduceSub,Int.reduceMul,Int.reduceLT,Int.reduceLE,Int.reduceEq,Int.reduceToNat,Int.reduceNeg,Nat.reduceEqDiff,Nat.reduceBEq,Nat.reduceLT,xAa,xAg,xAq,xAr,xAM,ha,hb,hve,hs,c]
  ·have c2 : (512 : Int) < ((a.ed.length + b.ed.length : Nat) : Int) := by omega
   rw [yB1,a19,xA3]
   simp (maxSteps := 30000000) (disch := first | assumption | omega | (simp only [WL,AV.isCell,xAa] <;> omega) | rfl | decide) only [↓reduceIte,WB,xAR,xAc,xAQ,xAD,xAC,AV.cells,AV.isCell,xAb,xAj,xAk,xAs,xAt,xAu,xAv,xAw,xAx,xAL,xAy,xAz,xAl,xAA,xAm,xAn,xAB,xAo,xAp,xAf,Nat.reduceDiv,Nat.reduceMod,WP,xAI,xAF,xAX,xAW,xAV,xAG,xAH,xAE,W2,xAd,xAe,xAi,Nat.reduceAdd,Nat.reduceSub,Nat.reduceLeDiff,Nat.reduceMul,Int.reduceAdd,Int.reduceSub,Int.reduceMul,Int.reduceLT,Int.reduceLE,Int.reduceEq,Int.reduceToNat,Int.reduceNeg,Nat.reduceEqDiff,Nat.reduceBEq,Nat.reduceLT,xAa,xAg,xAq,xAr,xAM,ha,hb,hve,hs,hl,c,c2]
theorem yC3 (z : Bool) (l : List Int) (hl : l.length < 1099511627776) : xBw L 40 [iw z l] = some (.own (l.length == 0) 0 0 l.length 1,[.cells false (l.length == 0) (xBd l)]) := by
 have hit := xBO l
 have hil := xAT l
 rw [xBk,yEs,a40,xA3]
 simp (maxSteps := 30000000) (disch := first | assumption | omega | (simp only [WL,AV.isCell,xAa] <;> omega) | rfl | decide) only [↓reduceIte,WB,xAR,xAc,xAQ,xAD,xAC,AV.cells,AV.isCell,xAb,xAj,xAk,xAs,xAt,xAu,xAv,xAw,xAx,xAL,xAy,xAz,xAl,xAA,xAm,xAn,xAB,xAo,xAp,xAf,Nat.reduceDiv,Nat.reduceMod,WP,xAI,xAF,xAX,xAW,xAV,xAG,xAH,xAE,W2,xAd,xAe,xAi,Nat.reduceAdd,Nat.reduceSub,Nat.reduceLeDiff,Nat.reduceMul,Int.reduceAdd,Int.reduceSub,Int.reduceMul,Int.reduceLT,Int.reduceLE,Int.reduceEq,Int.reduceToNat,Int.reduceNeg,Nat.reduceEqDiff,Nat.reduceBEq,Nat.reduceLT,xAa,xAg,xAq,xAr,xAM,hit,hil]
theorem yEd (z : Bool) (l : List Ed) (hl : l.length < 1000000) : xBw L 41 [.sl z l.length (edges l)] = some (.own (l.length == 0) 0 0 l.length 4,[.cells false (l.length == 0) (edges l)]) := by
 have hcut : List.take (l.length * 4) (edges l) = edges l := List.take_of_length_le (by rw [xAa]; omega)
 rw [xBk,yEt,a41,xA3]
 simp (maxSteps := 30000000) (disch := first | assumption | omega | (simp only [WL,AV.isCell,xAa] <;> omega) | rfl | decide) only [↓reduceIte,WB,xAR,xAc,xAQ,xAD,xAC,AV.cells,AV.isCell,xAb,xAj,xAk,xAs,xAt,xAu,xAv,xAw,xAx,xAL,xAy,xAz,xAl,xAA,xAm,xAn,xAB,xAo,xAp,xAf,Nat.reduceDiv,Nat.reduceMod,WP,xAI,xAF,xAX,xAW,xAV,xAG,xAH,xAE,W2,xAd,xAe,xAi,Nat.reduceAdd,Nat.reduceSub,Nat.reduceLeDiff,Nat.reduceMul,Int.reduceAdd,Int.reduceSub,Int.reduceMul,Int.reduceLT,Int.reduceLE,Int.reduceEq,Int.reduceToNat,Int.reduceNeg,Nat.reduceEqDiff,Nat.reduceBEq,Nat.reduceLT,xAa,xAg,xAq,xAr,xAM,hcut]
set_option maxHeartbeats 4000000 in
theorem xYe (n : Aut) (hf : Fits n) (l3 : n.ed.length < 1000000) : xBw L 14 [n.av] = some (.agg [.int .i64 n.vars,.int .i64 n.states,.own (n.st.length == 0) 0 0 n.st.length 1,.own (n.fi.length == 0) 1 0 n.fi.length 1,.own (n.ed.length == 0) 2 0 n.ed.length 4],
  [.cells false (n.st.length == 0) (xBd n.st),.cells false (n.fi.length == 0) (xBd n.fi),.cells false (n.ed.length == 0) (edges n.ed)]) := by
 have g1 := yC3 n.z1 n.st hf.l1
 have g2 := yC3 n.z2 n.fi hf.l2
 have g3 := yEd n.z3 n.ed l3
 have hi1 := xFC n.st
 have hi2 := xFC n.fi
 rw [xBk,yEj,a14,xA3]
 simp (maxSteps := 30000000) (disch := first | assumption | omega | (simp only [WL,AV.isCell,xAa] <;> omega) | rfl | decide) only [↓reduceIte,WB,xAR,xAc,xAQ,xAD,xAC,AV.cells,AV.isCell,xAb,xAj,xAk,xAs,xAt,xAu,xAv,xAw,xAx,xAL,xAy,xAz,xAl,xAA,xAm,xAn,xAB,xAo,xAp,xAf,Nat.reduceDiv,Nat.reduceMod,WP,xAI,xAF,xAX,xAW,xAV,xAG,xAH,xAE,W2,xAd,xAe,xAi,Nat.reduceAdd,Nat.reduceSub,Nat.reduceLeDiff,Nat.reduceMul,Int.reduceAdd,Int.reduceSub,Int.reduceMul,Int.reduceLT,Int.reduceLE,Int.reduceEq,Int.reduceToNat,Int.reduceNeg,Nat.reduceEqDiff,Nat.reduceBEq,Nat.reduceLT,xAa,xAg,xAq,xAr,xAM,g1,g2,g3,hi1,hi2]
set_option maxHeartbeats 4000000 in
theorem yBG (n : Aut) (hf : Fits n) (l3 : n.ed.length < 1000000) : L.pcall 14 [n.av] = some (cpA n).av := by
 have g1 := yC3 n.z1 n.st hf.l1
 have g2 := yC3 n.z2 n.fi hf.l2
 have g3 := yEd n.z3 n.ed l3
 have hi1 := xBO n.st
 have hi2 := xBO n.fi
 have hi3 : List.take (n.ed.length * 4) (edges n.ed) = edges n.ed := List.take_of_length_le (by rw [xAa]; omega)
 rw [yEi,a14,xAK]
 simp (maxSteps := 30000000) (disch := first | assumption | omega | (simp only [WL,AV.isCell,xAa] <;> omega) | rfl | decide) only [↓reduceIte,WB,xAR,xAc,xAQ,xAD,xAC,AV.cells,AV.isCell,xAb,xAj,xAk,xAs,xAt,xAu,xAv,xAw,xAx,xAL,xAy,xAz,xAl,xAA,xAm,xAn,xAB,xAo,xAp,xAf,Nat.reduceDiv,Nat.reduceMod,WP,xAI,xAF,xAX,xAW,xAV,xAG,xAH,xAE,W2,xAd,xAe,xAi,Nat.reduceAdd,Nat.reduceSub,Nat.reduceLeDiff,Nat.reduceMul,Int.reduceAdd,Int.reduceSub,Int.reduceMul,Int.reduceLT,Int.reduceLE,Int.reduceEq,Int.reduceToNat,Int.reduceNeg,Nat.reduceEqDiff,Nat.reduceBEq,Nat.reduceLT,xAa,xAg,xAq,xAr,xAM,g1,g2,g3,hi1,hi2,hi3]
end Go.Abs.NfaD
