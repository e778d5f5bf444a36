/- Union by what it computes: its loops. -/
import Derived.Test.YtbfnjdhafgnlnaaDoorAbsBun
import Derived.Test.YtbfnjdhafgnlnaaDoorAMB
namespace Go.Abs.NfaD.U
open Go Go.Abs
set_option linter.unusedSimpArgs false
set_option linter.unusedVariables false
theorem xBX : ∀ (l : List Ed),(edges l).all xB3 = true
  | [] => rfl
  | e :: l => by
    show ((xEU e ++ edges l).all xB3) = true
    rw [List.all_append,xBX l]; rfl
def Bld (T : Heap) (v : AV) (es n : Nat) (cs : List AV) : Prop :=
  (v = .sl true 0 [] ∧ n = 0 ∧ cs = []) ∨ ∃ k,v = .own false (k + 1 + 1 + 1) 0 n es ∧ T[k]? = some (.cells false false cs) ∧ cs.length = n * es
def Not (v : AV) (j : Nat) : Prop := ∀ n es,v ≠ .own false (j + 1 + 1 + 1) 0 n es
abbrev HU (a b : Aut) (sv fv ev : AV) (T : Heap) : Heap := .cells false false a.cells :: .cells false false b.cells :: .cells false false [.int .i64 a.vars,.int .i64 (a.states + b.states),sv,fv,ev] :: T
theorem xGW {l : List Int} {i : Nat} (h : i < l.length) : l.getD i 0 ∈ l := by
  rw [List.getD_eq_getElem?_getD,List.getElem?_eq_getElem h]
  exact List.getElem_mem _
theorem xO7 {a b : Aut} {fv ev : AV} (hl : b.st.length < 1000) (hA : 0 ≤ a.states ∧ a.states ≤ 64) (hq : ∀ q ∈ b.st,0 ≤ q ∧ q < 64) : ∀ d i T sv l,i + d = b.st.length → l.length + d < 100000 → Bld T sv 1 l.length (xCT l) →
    ∃ T' sv',L.loop xI1 xRi ⟨xGH (.ptr 0 0) (.ptr 1 0) (.ptr 2 0) (iw b.z1 b.st) (.int .i64 (b.st.length : Nat)) (.int .i64 (i : Nat)),HU a b sv fv ev T⟩ =
      some (.exit 1,⟨xGH (.ptr 0 0) (.ptr 1 0) (.ptr 2 0) (iw b.z1 b.st) (.int .i64 (b.st.length : Nat)) (.int .i64 (b.st.length : Nat)),HU a b sv' fv ev T'⟩) ∧
      Bld T' sv' 1 (l ++ (b.st.drop i).map (a.states + ·)).length (xCT (l ++ (b.st.drop i).map (a.states + ·))) ∧
      (∀ j x,Not sv j → T[j]? = some x → T'[j]? = some x ∧ Not sv' j)
  | 0,i,T,sv,l,h,hll,hB => by
    obtain rfl : i = b.st.length := by omega
    refine ⟨T,sv,?_,by rw [List.drop_length]; simpa using hB,fun j x h1 h2 => ⟨h2,h1⟩⟩
    rw [xSt]
    simp (maxSteps := 30000000) (disch := first | assumption | omega | (simp only [WL,AV.isCell,xAd] <;> omega) | rfl | decide) only [↓reduceIte,WB,xH6,xBu,xC6,xBQ,xDi,AV.cells,AV.isCell,xB0,xCc,xCK,WP,xDB,xB3,xG4,xGC,xF9,xCa,xDR,xDA,W2,xBx,xBM,xCm,Nat.reduceAdd,Nat.reduceSub,Nat.reduceLeDiff,Nat.reduceMul,Int.reduceAdd,Int.reduceSub,Int.reduceMul,Int.reduceLT,Int.reduceLE,Int.reduceEq,Int.reduceToNat,Int.reduceNeg,Nat.reduceEqDiff,Nat.reduceBEq,Nat.reduceLT,xAd,xBg,xBG,xB1,xBX,xM8,xPD]
  | d + 1,i,T,sv,l,h,hll,hB => by
    have hlt : (i : Int) < (b.st.length : Nat) := by omega
    have hqi := hq _ (xGW (by omega : i < b.st.length))
    have hwr : IntKind.i64.wrap (a.states + b.st.getD i 0) = a.states + b.st.getD i 0 := xDM (by omega) (by omega)
    have hd : (b.st.drop i).map (a.states + ·) = (a.states + b.st.getD i 0) :: (b.st.drop (i + 1)).map (a.states + ·) := by rw [xET (by omega)]; rfl
    rcases hB with ⟨rfl,e1,e2⟩ | ⟨k,rfl,e1,e2⟩
    · have hl0 : l = [] := List.length_eq_zero_iff.1 e1
      subst hl0
      obtain ⟨T',sv',h1,h2,h3⟩ := xO7 (fv := fv) (ev := ev) hl hA hq d (i + 1) (T ++ [.cells false false (xCT [a.states + b.st.getD i 0])]) (.own false (T.length + 1 + 1 + 1) 0 1 1) [a.states + b.st.getD i 0] (by omega) (by simp at hll ⊢; omega)
        (.inr ⟨T.length,rfl,by simp,by rw [xAb]; simp⟩)
      refine ⟨T',sv',?_,?_,fun j x q1 q2 => ?_⟩
      · simp only [List.cons_append,List.nil_append,xF1] at h1
        rw [xSt]
        simp (maxSteps := 30000000) (disch := first | assumption | omega | (simp only [WL,AV.isCell,xAd] <;> omega) | rfl | decide) only [↓reduceIte,WB,xH6,xBu,xC6,xBQ,xDi,AV.cells,AV.isCell,xB0,xCc,xCK,WP,xDB,xB3,xG4,xGC,xF9,xCa,xDR,xDA,W2,xBx,xBM,xCm,Nat.reduceAdd,Nat.reduceSub,Nat.reduceLeDiff,Nat.reduceMul,Int.reduceAdd,Int.reduceSub,Int.reduceMul,Int.reduceLT,Int.reduceLE,Int.reduceEq,Int.reduceToNat,Int.reduceNeg,Nat.reduceEqDiff,Nat.reduceBEq,Nat.reduceLT,xAd,xBg,xBG,xB1,xBX,xM8,xPD,hlt,hwr,h1]
      · rw [hd]; simpa using h2
      · have hj := (List.getElem?_eq_some_iff.1 q2).1
        exact h3 j x (fun n es e => by cases e; omega) (by rw [List.getElem?_append_left hj]; exact q2)
    · have hk := (List.getElem?_eq_some_iff.1 e1).1
      obtain ⟨T',sv',h1,h2,h3⟩ := xO7 (fv := fv) (ev := ev) hl hA hq d (i + 1) (T.set k .dead ++ [.cells false false (xCT (l ++ [a.states + b.st.getD i 0]))]) (.own false (T.length + 1 + 1 + 1) 0 (l ++ [a.states + b.st.getD i 0]).length 1) (l ++ [a.states + b.st.getD i 0]) (by omega) (by simp at hll ⊢; omega)
        (.inr ⟨T.length,rfl,by simp,by rw [xAb]; simp⟩)
      refine ⟨T',sv',?_,?_,fun j x q1 q2 => ?_⟩
      · have hsn : xCT l ++ [AV.int .i64 (a.states + b.st.getD i 0)] = xCT (l ++ [a.states + b.st.getD i 0]) := by simp [xCT]
        have hll2 : (l ++ [a.states + b.st.getD i 0]).length = l.length + 1 := by simp
        simp only [hll2] at h1
        rw [xSt]
        simp (maxSteps := 30000000) (disch := first | assumption | omega | (simp only [WL,AV.isCell,xAd] <;> omega) | rfl | decide) only [↓reduceIte,WB,xH6,xBu,xC6,xBQ,xDi,AV.cells,AV.isCell,xB0,xCc,xCK,WP,xDB,xB3,xG4,xGC,xF9,xCa,xDR,xDA,W2,xBx,xBM,xCm,Nat.reduceAdd,Nat.reduceSub,Nat.reduceLeDiff,Nat.reduceMul,Int.reduceAdd,Int.reduceSub,Int.reduceMul,Int.reduceLT,Int.reduceLE,Int.reduceEq,Int.reduceToNat,Int.reduceNeg,Nat.reduceEqDiff,Nat.reduceBEq,Nat.reduceLT,xAd,xBg,xBG,xB1,xBX,xM8,xPD,hlt,hwr,e1,hsn,h1]
      · rw [hd]; simpa using h2
      · have hj := (List.getElem?_eq_some_iff.1 q2).1
        have hjk : j ≠ k := by
          rintro rfl
          exact q1 _ _ rfl
        exact h3 j x (fun n es e => by cases e; omega) (by rw [List.getElem?_append_left (by simpa using hj),List.getElem?_set_ne (fun e => hjk e.symm)]; exact q2)
theorem xO8 {a b : Aut} {uv ev : AV} (hl : b.fi.length < 1000) (hA : 0 ≤ a.states ∧ a.states ≤ 64) (hq : ∀ q ∈ b.fi,0 ≤ q ∧ q < 64) : ∀ d i T sv l,i + d = b.fi.length → l.length + d < 100000 → Bld T sv 1 l.length (xCT l) →
    ∃ T' sv',L.loop xI2 xRj ⟨xGI (.ptr 0 0) (.ptr 1 0) (.ptr 2 0) (iw b.z2 b.fi) (.int .i64 (b.fi.length : Nat)) (.int .i64 (i : Nat)),HU a b uv sv ev T⟩ =
      some (.exit 3,⟨xGI (.ptr 0 0) (.ptr 1 0) (.ptr 2 0) (iw b.z2 b.fi) (.int .i64 (b.fi.length : Nat)) (.int .i64 (b.fi.length : Nat)),HU a b uv sv' ev T'⟩) ∧
      Bld T' sv' 1 (l ++ (b.fi.drop i).map (a.states + ·)).length (xCT (l ++ (b.fi.drop i).map (a.states + ·))) ∧
      (∀ j x,Not sv j → T[j]? = some x → T'[j]? = some x ∧ Not sv' j)
  | 0,i,T,sv,l,h,hll,hB => by
    obtain rfl : i = b.fi.length := by omega
    refine ⟨T,sv,?_,by rw [List.drop_length]; simpa using hB,fun j x h1 h2 => ⟨h2,h1⟩⟩
    rw [xSu]
    simp (maxSteps := 30000000) (disch := first | assumption | omega | (simp only [WL,AV.isCell,xAd] <;> omega) | rfl | decide) only [↓reduceIte,WB,xH6,xBu,xC6,xBQ,xDi,AV.cells,AV.isCell,xB0,xCc,xCK,WP,xDB,xB3,xG4,xGC,xF9,xCa,xDR,xDA,W2,xBx,xBM,xCm,Nat.reduceAdd,Nat.reduceSub,Nat.reduceLeDiff,Nat.reduceMul,Int.reduceAdd,Int.reduceSub,Int.reduceMul,Int.reduceLT,Int.reduceLE,Int.reduceEq,Int.reduceToNat,Int.reduceNeg,Nat.reduceEqDiff,Nat.reduceBEq,Nat.reduceLT,xAd,xBg,xBG,xB1,xBX,xM9,xPE]
  | d + 1,i,T,sv,l,h,hll,hB => by
    have hlt : (i : Int) < (b.fi.length : Nat) := by omega
    have hqi := hq _ (xGW (by omega : i < b.fi.length))
    have hwr : IntKind.i64.wrap (a.states + b.fi.getD i 0) = a.states + b.fi.getD i 0 := xDM (by omega) (by omega)
    have hd : (b.fi.drop i).map (a.states + ·) = (a.states + b.fi.getD i 0) :: (b.fi.drop (i + 1)).map (a.states + ·) := by rw [xET (by omega)]; rfl
    rcases hB with ⟨rfl,e1,e2⟩ | ⟨k,rfl,e1,e2⟩
    · have hl0 : l = [] := List.length_eq_zero_iff.1 e1
      subst hl0
      obtain ⟨T',sv',h1,h2,h3⟩ := xO8 (uv := uv) (ev := ev) hl hA hq d (i + 1) (T ++ [.cells false false (xCT [a.states + b.fi.getD i 0])]) (.own false (T.length + 1 + 1 + 1) 0 1 1) [a.states + b.fi.getD i 0] (by omega) (by simp at hll ⊢; omega)
        (.inr ⟨T.length,rfl,by simp,by rw [xAb]; simp⟩)
      refine ⟨T',sv',?_,?_,fun j x q1 q2 => ?_⟩
      · simp only [List.cons_append,List.nil_append,xF1] at h1
        rw [xSu]
        simp (maxSteps := 30000000) (disch := first | assumption | omega | (simp only [WL,AV.isCell,xAd] <;> omega) | rfl | decide) only [↓reduceIte,WB,xH6,xBu,xC6,xBQ,xDi,AV.cells,AV.isCell,xB0,xCc,xCK,WP,xDB,xB3,xG4,xGC,xF9,xCa,xDR,xDA,W2,xBx,xBM,xCm,Nat.reduceAdd,Nat.reduceSub,Nat.reduceLeDiff,Nat.reduceMul,Int.reduceAdd,Int.reduceSub,Int.reduceMul,Int.reduceLT,Int.reduceLE,Int.reduceEq,Int.reduceToNat,Int.reduceNeg,Nat.reduceEqDiff,Nat.reduceBEq,Nat.reduceLT,xAd,xBg,xBG,xB1,xBX,xM9,xPE,hlt,hwr,h1]
      · rw [hd]; simpa using h2
      · have hj := (List.getElem?_eq_some_iff.1 q2).1
        exact h3 j x (fun n es e => by cases e; omega) (by rw [List.getElem?_append_left hj]; exact q2)
    · have hk := (List.getElem?_eq_some_iff.1 e1).1
      obtain ⟨T',sv',h1,h2,h3⟩ := xO8 (uv := uv) (ev := ev) hl hA hq d (i + 1) (T.set k .dead ++ [.cells false false (xCT (l ++ [a.states + b.fi.getD i 0]))]) (.own false (T.length + 1 + 1 + 1) 0 (l ++ [a.states + b.fi.getD i 0]).length 1) (l ++ [a.states + b.fi.getD i 0]) (by omega) (by simp at hll ⊢; omega)
        (.inr ⟨T.length,rfl,by simp,by rw [xAb]; simp⟩)
      refine ⟨T',sv',?_,?_,fun j x q1 q2 => ?_⟩
      · have hsn : xCT l ++ [AV.int .i64 (a.states + b.fi.getD i 0)] = xCT (l ++ [a.states + b.fi.getD i 0]) := by simp [xCT]
        have hll2 : (l ++ [a.states + b.fi.getD i 0]).length = l.length + 1 := by simp
        simp only [hll2] at h1
        rw [xSu]
        simp (maxSteps := 30000000) (disch := first | assumption | omega | (simp only [WL,AV.isCell,xAd] <;> omega) | rfl | decide) only [↓reduceIte,WB,xH6,xBu,xC6,xBQ,xDi,AV.cells,AV.isCell,xB0,xCc,xCK,WP,xDB,xB3,xG4,xGC,xF9,xCa,xDR,xDA,W2,xBx,xBM,xCm,Nat.reduceAdd,Nat.reduceSub,Nat.reduceLeDiff,Nat.reduceMul,Int.reduceAdd,Int.reduceSub,Int.reduceMul,Int.reduceLT,Int.reduceLE,Int.reduceEq,Int.reduceToNat,Int.reduceNeg,Nat.reduceEqDiff,Nat.reduceBEq,Nat.reduceLT,xAd,xBg,xBG,xB1,xBX,xM9,xPE,hlt,hwr,e1,hsn,h1]
      · rw [hd]; simpa using h2
      · have hj := (List.getElem?_eq_some_iff.1 q2).1
        have hjk : j ≠ k := by
          rintro rfl
          exact q1 _ _ rfl
        exact h3 j x (fun n es e => by cases e; omega) (by rw [List.getElem?_append_left (by simpa using hj),List.getElem?_set_ne (fun e => hjk e.symm)]; exact q2)
def shE (s : Int) (e : Ed) : Ed := ⟨s + e.a,s + e.b,e.p,e.n⟩
theorem xO9 {a b : Aut} {s3 : AV} {sv fv : AV} (hl : b.ed.length < 1000) (hA : 0 ≤ a.states ∧ a.states ≤ 64) (hq : ∀ e ∈ b.ed,(0 ≤ e.a ∧ e.a < 64) ∧ 0 ≤ e.b ∧ e.b < 64) : ∀ d i T ev l,i + d = b.ed.length → l.length + d < 100000 → Bld T ev 4 l.length (edges l) →
    ∃ T' ev',L.loop xI3 xRk ⟨xGJ (.ptr 0 0) (.ptr 2 0) (.sl b.z3 b.ed.length (edges b.ed)) (.int .i64 (b.ed.length : Nat)) (.int .i64 (i : Nat)),HU a b sv fv ev T⟩ =
      some (.exit 5,⟨xGJ (.ptr 0 0) (.ptr 2 0) (.sl b.z3 b.ed.length (edges b.ed)) (.int .i64 (b.ed.length : Nat)) (.int .i64 (b.ed.length : Nat)),HU a b sv fv ev' T'⟩) ∧
      Bld T' ev' 4 (l ++ (b.ed.drop i).map (shE a.states)).length (edges (l ++ (b.ed.drop i).map (shE a.states))) ∧
      (∀ j x,Not ev j → T[j]? = some x → T'[j]? = some x ∧ Not ev' j)
  | 0,i,T,sv,l,h,hll,hB => by
    obtain rfl : i = b.ed.length := by omega
    refine ⟨T,sv,?_,by rw [List.drop_length]; simpa using hB,fun j x h1 h2 => ⟨h2,h1⟩⟩
    rw [xSv]
    simp (maxSteps := 30000000) (disch := first | assumption | omega | (simp only [WL,AV.isCell,xAd] <;> omega) | rfl | decide) only [↓reduceIte,WB,xH6,xBu,xC6,xBQ,xDi,AV.cells,AV.isCell,xB0,xCc,xCK,WP,xDB,xB3,xG4,xGC,xF9,xCa,xDR,xDA,W2,xBx,xBM,xCm,Nat.reduceAdd,Nat.reduceSub,Nat.reduceLeDiff,Nat.reduceMul,Int.reduceAdd,Int.reduceSub,Int.reduceMul,Int.reduceLT,Int.reduceLE,Int.reduceEq,Int.reduceToNat,Int.reduceNeg,Nat.reduceEqDiff,Nat.reduceBEq,Nat.reduceLT,xAd,xBg,xBG,xB1,xBX,xNa,xPF]
  | d + 1,i,T,sv,l,h,hll,hB => by
    have hlt : (i : Int) < (b.ed.length : Nat) := by omega
    have hqi := hq _ (xGZ (by omega : i < b.ed.length))
    have hwa : IntKind.i64.wrap (a.states + (b.ed.getD i e0).a) = a.states + (b.ed.getD i e0).a := xDM (by omega) (by omega)
    have hwb : IntKind.i64.wrap (a.states + (b.ed.getD i e0).b) = a.states + (b.ed.getD i e0).b := xDM (by omega) (by omega)
    have hd : (b.ed.drop i).map (shE a.states) = shE a.states (b.ed.getD i e0) :: (b.ed.drop (i + 1)).map (shE a.states) := by rw [xEV (by omega)]; rfl
    have hone : edges [shE a.states (b.ed.getD i e0)] = [.int .i64 (a.states + (b.ed.getD i e0).a),.int .i64 (a.states + (b.ed.getD i e0).b),.int .u8 ((b.ed.getD i e0).p : Nat),.int .u8 ((b.ed.getD i e0).n : Nat)] := rfl
    have hsn : edges l ++ [AV.int .i64 (a.states + (b.ed.getD i e0).a),.int .i64 (a.states + (b.ed.getD i e0).b),.int .u8 ((b.ed.getD i e0).p : Nat),.int .u8 ((b.ed.getD i e0).n : Nat)] = edges (l ++ [shE a.states (b.ed.getD i e0)]) := xHt l (shE a.states (b.ed.getD i e0))
    have hcut : List.take (l.length * 4) (edges l) = edges l := List.take_of_length_le (by rw [xAd]; omega)
    rcases hB with ⟨rfl,e1,e2⟩ | ⟨k,rfl,e1,e2⟩
    · have hl0 : l = [] := List.length_eq_zero_iff.1 e1
      subst hl0
      obtain ⟨T',sv',h1,h2,h3⟩ := xO9 (s3 := s3) (sv := sv) (fv := fv) hl hA hq d (i + 1) (T ++ [.cells false false (edges [shE a.states (b.ed.getD i e0)])] ++ [.cells false false (edges [shE a.states (b.ed.getD i e0)])]) (.own false (T.length + 1 + 1 + 1 + 1) 0 1 4) [shE a.states (b.ed.getD i e0)] (by omega) (by simp at hll ⊢; omega)
        (.inr ⟨T.length + 1,rfl,by simp,by rw [xAd]⟩)
      refine ⟨T',sv',?_,?_,fun j x q1 q2 => ?_⟩
      · simp only [List.append_assoc,List.cons_append,List.nil_append,hone] at h1
        rw [xSv]
        simp (maxSteps := 30000000) (disch := first | assumption | omega | (simp only [WL,AV.isCell,xAd] <;> omega) | rfl | decide) only [↓reduceIte,WB,xH6,xBu,xC6,xBQ,xDi,AV.cells,AV.isCell,xB0,xCc,xCK,WP,xDB,xB3,xG4,xGC,xF9,xCa,xDR,xDA,W2,xBx,xBM,xCm,Nat.reduceAdd,Nat.reduceSub,Nat.reduceLeDiff,Nat.reduceMul,Int.reduceAdd,Int.reduceSub,Int.reduceMul,Int.reduceLT,Int.reduceLE,Int.reduceEq,Int.reduceToNat,Int.reduceNeg,Nat.reduceEqDiff,Nat.reduceBEq,Nat.reduceLT,xAd,xBg,xBG,xB1,xBX,xNa,xPF,hlt,hwa,hwb,h1]
      · rw [hd]; simpa using h2
      · have hj := (List.getElem?_eq_some_iff.1 q2).1
        exact h3 j x (fun n es e => by cases e; omega) (by rw [List.append_assoc,List.getElem?_append_left hj]; exact q2)
    · have hk := (List.getElem?_eq_some_iff.1 e1).1
      obtain ⟨T',sv',h1,h2,h3⟩ := xO9 (s3 := s3) (sv := sv) (fv := fv) hl hA hq d (i + 1) (T.set k .dead ++ [.cells false false (edges [shE a.states (b.ed.getD i e0)])] ++ [.cells false false (edges (l ++ [shE a.states (b.ed.getD i e0)]))]) (.own false (T.length + 1 + 1 + 1 + 1) 0 (l ++ [shE a.states (b.ed.getD i e0)]).length 4) (l ++ [shE a.states (b.ed.getD i e0)]) (by omega) (by simp at hll ⊢; omega)
        (.inr ⟨T.length + 1,rfl,by simp,by rw [xAd]⟩)
      refine ⟨T',sv',?_,?_,fun j x q1 q2 => ?_⟩
      · have hll2 : (l ++ [shE a.states (b.ed.getD i e0)]).length = l.length + 1 := by simp
        have hg : ∀ X : Heap,(T ++ X)[k]? = some (.cells false false (edges l)) := fun X => by rw [List.getElem?_append_left hk]; exact e1
        have hs : ∀ X : Heap,(T ++ X).set k .dead = T.set k .dead ++ X := fun X => by rw [List.set_append_left _ _ hk]
        simp only [List.append_assoc,List.cons_append,List.nil_append,hone,hll2] at h1
        rw [xSv]
        simp (maxSteps := 30000000) (disch := first | assumption | omega | (simp only [WL,AV.isCell,xAd] <;> omega) | rfl | decide) only [↓reduceIte,WB,xH6,xBu,xC6,xBQ,xDi,AV.cells,AV.isCell,xB0,xCc,xCK,WP,xDB,xB3,xG4,xGC,xF9,xCa,xDR,xDA,W2,xBx,xBM,xCm,Nat.reduceAdd,Nat.reduceSub,Nat.reduceLeDiff,Nat.reduceMul,Int.reduceAdd,Int.reduceSub,Int.reduceMul,Int.reduceLT,Int.reduceLE,Int.reduceEq,Int.reduceToNat,Int.reduceNeg,Nat.reduceEqDiff,Nat.reduceBEq,Nat.reduceLT,xAd,xBg,xBG,xB1,xBX,xNa,xPF,hlt,hwa,hwb,hg,hs,hsn,hcut,h1]
      · rw [hd]; simpa using h2
      · have hj := (List.getElem?_eq_some_iff.1 q2).1
        have hjk : j ≠ k := by
          rintro rfl
          exact q1 _ _ rfl
        exact h3 j x (fun n es e => by cases e; omega) (by rw [List.append_assoc,List.getElem?_append_left (by simpa using hj),List.getElem?_set_ne (fun e => hjk e.symm)]; exact q2)
end Go.Abs.NfaD.U
/- Union by what it computes. -/
namespace Go.Abs.NfaD.U
open Go Go.Abs
set_option linter.unusedSimpArgs false
set_option linter.unusedVariables false
theorem xZP (z : Bool) (l : List Int) (hl : l.length < 1099511627776) (hz : z = true → l = []) : ∃ v B,xEp L 48 [iw z l] = some (v,B) ∧ ((v = .sl true 0 [] ∧ B = [] ∧ l = []) ∨ (v = .own false 0 0 l.length 1 ∧ B = [.cells false false (xCT l)])) := by
  cases z with
  | true =>
    obtain rfl := hz rfl
    refine ⟨.sl true 0 [],[],?_,.inl ⟨rfl,rfl,rfl⟩⟩
    rw [xGR,xZB,a48,xAC]
    simp (maxSteps := 30000000) (disch := first | assumption | omega | (simp only [WL,AV.isCell,xAd] <;> omega) | rfl | decide) only [↓reduceIte,WB,xH6,xBu,xC6,xBQ,xDi,AV.cells,AV.isCell,xB0,xCc,xCK,WP,xDB,xB3,xG4,xGC,xF9,xCa,xDR,xDA,W2,xBx,xBM,xCm,Nat.reduceAdd,Nat.reduceSub,Nat.reduceLeDiff,Nat.reduceMul,Int.reduceAdd,Int.reduceSub,Int.reduceMul,Int.reduceLT,Int.reduceLE,Int.reduceEq,Int.reduceToNat,Int.reduceNeg,Nat.reduceEqDiff,Nat.reduceBEq,Nat.reduceLT,xAd,xBg,xBG,xB1,xBX]
  | false =>
    refine ⟨.own false 0 0 l.length 1,[.cells false false (xCT l)],?_,.inr ⟨rfl,rfl⟩⟩
    rw [xGR,xZB,a48,xAC]
    simp (maxSteps := 30000000) (disch := first | assumption | omega | (simp only [WL,AV.isCell,xAd] <;> omega) | rfl | decide) only [↓reduceIte,WB,xH6,xBu,xC6,xBQ,xDi,AV.cells,AV.isCell,xB0,xCc,xCK,WP,xDB,xB3,xG4,xGC,xF9,xCa,xDR,xDA,W2,xBx,xBM,xCm,Nat.reduceAdd,Nat.reduceSub,Nat.reduceLeDiff,Nat.reduceMul,Int.reduceAdd,Int.reduceSub,Int.reduceMul,Int.reduceLT,Int.reduceLE,Int.reduceEq,Int.reduceToNat,Int.reduceNeg,Nat.reduceEqDiff,Nat.reduceBEq,Nat.reduceLT,xAd,xBg,xBG,xB1,xBX]
theorem yAw (z : Bool) (l : List Ed) (hl : l.length < 1000000) (hz : z = true → l = []) : ∃ v B,xEp L 49 [.sl z l.length (edges l)] = some (v,B) ∧ ((v = .sl true 0 [] ∧ B = [] ∧ l = []) ∨ (v = .own false 0 0 l.length 4 ∧ B = [.cells false false (edges l)])) := by
  cases z with
  | true =>
    obtain rfl := hz rfl
    refine ⟨.sl true 0 [],[],?_,.inl ⟨rfl,rfl,rfl⟩⟩
    rw [xGR,xZC,a49,xAC]
    simp (maxSteps := 30000000) (disch := first | assumption | omega | (simp only [WL,AV.isCell,xAd] <;> omega) | rfl | decide) only [↓reduceIte,WB,xH6,xBu,xC6,xBQ,xDi,AV.cells,AV.isCell,xB0,xCc,xCK,WP,xDB,xB3,xG4,xGC,xF9,xCa,xDR,xDA,W2,xBx,xBM,xCm,Nat.reduceAdd,Nat.reduceSub,Nat.reduceLeDiff,Nat.reduceMul,Int.reduceAdd,Int.reduceSub,Int.reduceMul,Int.reduceLT,Int.reduceLE,Int.reduceEq,Int.reduceToNat,Int.reduceNeg,Nat.reduceEqDiff,Nat.reduceBEq,Nat.reduceLT,xAd,xBg,xBG,xB1,xBX]
  | false =>
    refine ⟨.own false 0 0 l.length 4,[.cells false false (edges l)],?_,.inr ⟨rfl,rfl⟩⟩
    have hcut : List.take (l.length * 4) (edges l) = edges l := List.take_of_length_le (by rw [xAd]; omega)
    rw [xGR,xZC,a49,xAC]
    simp (maxSteps := 30000000) (disch := first | assumption | omega | (simp only [WL,AV.isCell,xAd] <;> omega) | rfl | decide) only [↓reduceIte,WB,xH6,xBu,xC6,xBQ,xDi,AV.cells,AV.isCell,xB0,xCc,xCK,WP,xDB,xB3,xG4,xGC,xF9,xCa,xDR,xDA,W2,xBx,xBM,xCm,Nat.reduceAdd,Nat.reduceSub,Nat.reduceLeDiff,Nat.reduceMul,Int.reduceAdd,Int.reduceSub,Int.reduceMul,Int.reduceLT,Int.reduceLE,Int.reduceEq,Int.reduceToNat,Int.reduceNeg,Nat.reduceEqDiff,Nat.reduceBEq,Nat.reduceLT,xAd,xBg,xBG,xB1,xBX,hcut]
def uniA (a b : Aut) (z1 z2 z3 : Bool) : Aut := ⟨a.vars,a.states + b.states,z1,a.st ++ b.st.map (a.states + ·),z2,a.fi ++ b.fi.map (a.states + ·),z3,a.ed ++ b.ed.map (shE a.states)⟩
theorem Bld.keep {T T' : Heap} {v : AV} {es n : Nat} {cs : List AV} (h : Bld T v es n cs) (hk : ∀ j x,v = .own false (j + 1 + 1 + 1) 0 n es → T[j]? = some x → T'[j]? = some x) : Bld T' v es n cs := by
  rcases h with h | ⟨k,e1,e2,e3⟩
  · exact .inl h
  · exact .inr ⟨k,e1,hk k _ e1 e2,e3⟩
theorem Bld.cell {T : Heap} {v : AV} {es n : Nat} {cs : List AV} (h : Bld T v es n cs) : v.isCell = true := by
  rcases h with ⟨rfl,_⟩ | ⟨k,rfl,_⟩ <;> rfl
theorem Bld.out {T : Heap} {v : AV} {es n : Nat} {cs : List AV} (h : Bld T v es n cs) (hf : ∀ d H,cs.mapM (frz d H) = some cs) : ∃ z,∀ d c0 c1 c2,frz (d + 1) (c0 :: c1 :: c2 :: T) v = some (.sl z n cs) := by
  rcases h with ⟨rfl,rfl,rfl⟩ | ⟨k,rfl,e2,e3⟩
  · exact ⟨true,fun d _ _ _ => rfl⟩
  · refine ⟨false,fun d c0 c1 c2 => ?_⟩
    have e : (c0 :: c1 :: c2 :: T)[k + 1 + 1 + 1]? = some (.cells false false cs) := e2
    have hle : 0 + n * es ≤ cs.length := by omega
    have hcut : List.take (n * es) cs = cs := List.take_of_length_le (by omega)
    simp only [frz,e,if_pos hle,List.drop_zero,hcut,hf,Option.map_some]
def xRu (v u : AV) : Prop := ∀ j n es m fs,¬ (v = .own false (j + 1 + 1 + 1) 0 n es ∧ u = .own false (j + 1 + 1 + 1) 0 m fs)
theorem xYx {a b : Aut} (h1 : b.st.length < 1000) (h2 : b.fi.length < 1000) (h3 : b.ed.length < 1000) (ha1 : a.st.length < 1000) (ha2 : a.fi.length < 1000) (ha3 : a.ed.length < 1000) (hA : 0 ≤ a.states ∧ a.states ≤ 64) (q1 : ∀ q ∈ b.st,0 ≤ q ∧ q < 64) (q2 : ∀ q ∈ b.fi,0 ≤ q ∧ q < 64) (q3 : ∀ e ∈ b.ed,(0 ≤ e.a ∧ e.a < 64) ∧ 0 ≤ e.b ∧ e.b < 64)
    (T : Heap) (sv fv ev : AV) (b1 : Bld T sv 1 a.st.length (xCT a.st)) (b2 : Bld T fv 1 a.fi.length (xCT a.fi)) (b3 : Bld T ev 4 a.ed.length (edges a.ed)) (p12 : xRu sv fv) (p13 : xRu sv ev) (p23 : xRu fv ev) :
    ∃ T1 T2 T3 sv1 fv1 ev1,
      L.loop xI1 xRi ⟨xGH (.ptr 0 0) (.ptr 1 0) (.ptr 2 0) (iw b.z1 b.st) (.int .i64 (b.st.length : Nat)) (.int .i64 0),HU a b sv fv ev T⟩ =
        some (.exit 1,⟨xGH (.ptr 0 0) (.ptr 1 0) (.ptr 2 0) (iw b.z1 b.st) (.int .i64 (b.st.length : Nat)) (.int .i64 (b.st.length : Nat)),HU a b sv1 fv ev T1⟩) ∧
      L.loop xI2 xRj ⟨xGI (.ptr 0 0) (.ptr 1 0) (.ptr 2 0) (iw b.z2 b.fi) (.int .i64 (b.fi.length : Nat)) (.int .i64 0),HU a b sv1 fv ev T1⟩ =
        some (.exit 3,⟨xGI (.ptr 0 0) (.ptr 1 0) (.ptr 2 0) (iw b.z2 b.fi) (.int .i64 (b.fi.length : Nat)) (.int .i64 (b.fi.length : Nat)),HU a b sv1 fv1 ev T2⟩) ∧
      L.loop xI3 xRk ⟨xGJ (.ptr 0 0) (.ptr 2 0) (.sl b.z3 b.ed.length (edges b.ed)) (.int .i64 (b.ed.length : Nat)) (.int .i64 0),HU a b sv1 fv1 ev T2⟩ =
        some (.exit 5,⟨xGJ (.ptr 0 0) (.ptr 2 0) (.sl b.z3 b.ed.length (edges b.ed)) (.int .i64 (b.ed.length : Nat)) (.int .i64 (b.ed.length : Nat)),HU a b sv1 fv1 ev1 T3⟩) ∧
      (sv1.isCell = true ∧ fv1.isCell = true ∧ ev1.isCell = true) ∧ ∃ z1 z2 z3,(∀ d c0 c1 c2,frz (d + 1) (c0 :: c1 :: c2 :: T3) sv1 = some (iw z1 (uniA a b z1 z2 z3).st)) ∧ (∀ d c0 c1 c2,frz (d + 1) (c0 :: c1 :: c2 :: T3) fv1 = some (iw z2 (uniA a b z1 z2 z3).fi)) ∧
        (∀ d c0 c1 c2,frz (d + 1) (c0 :: c1 :: c2 :: T3) ev1 = some (.sl z3 (uniA a b z1 z2 z3).ed.length (edges (uniA a b z1 z2 z3).ed))) := by
  obtain ⟨T1,sv1,l1,c1,k1⟩ := xO7 (a := a) (b := b) (fv := fv) (ev := ev) h1 hA q1 b.st.length 0 T sv a.st (by omega) (by omega) b1
  have b2' : Bld T1 fv 1 a.fi.length (xCT a.fi) := b2.keep fun j x e q => (k1 j x (fun n es e' => p12 j _ _ _ _ ⟨e',e⟩) q).1
  have b3' : Bld T1 ev 4 a.ed.length (edges a.ed) := b3.keep fun j x e q => (k1 j x (fun n es e' => p13 j _ _ _ _ ⟨e',e⟩) q).1
  have n12 : ∀ j n es,fv = .own false (j + 1 + 1 + 1) 0 n es → Not sv1 j := by
    intro j n es e
    rcases b2 with ⟨rfl,_⟩ | ⟨k,rfl,e2,_⟩
    · cases e
    · cases e
      exact (k1 _ _ (fun n es e' => p12 _ _ _ _ _ ⟨e',rfl⟩) e2).2
  have n13 : ∀ j n es,ev = .own false (j + 1 + 1 + 1) 0 n es → Not sv1 j := by
    intro j n es e
    rcases b3 with ⟨rfl,_⟩ | ⟨k,rfl,e2,_⟩
    · cases e
    · cases e
      exact (k1 _ _ (fun n es e' => p13 _ _ _ _ _ ⟨e',rfl⟩) e2).2
  obtain ⟨T2,fv1,l2,c2,k2⟩ := xO8 (a := a) (b := b) (uv := sv1) (ev := ev) h2 hA q2 b.fi.length 0 T1 fv a.fi (by omega) (by omega) b2'
  have c1' := c1.keep fun j x e q => (k2 j x (fun n es e' => n12 j _ _ e' _ _ e) q).1
  have b3'' : Bld T2 ev 4 a.ed.length (edges a.ed) := b3'.keep fun j x e q => (k2 j x (fun n es e' => p23 j _ _ _ _ ⟨e',e⟩) q).1
  have n21 : ∀ j n es,ev = .own false (j + 1 + 1 + 1) 0 n es → Not fv1 j := by
    intro j n es e
    rcases b3' with ⟨rfl,_⟩ | ⟨k,rfl,e2,_⟩
    · cases e
    · cases e
      exact (k2 _ _ (fun n es e' => p23 _ _ _ _ _ ⟨e',rfl⟩) e2).2
  obtain ⟨T3,ev1,l3,c3,k3⟩ := xO9 (a := a) (b := b) (s3 := .any) (sv := sv1) (fv := fv1) h3 hA q3 b.ed.length 0 T2 ev a.ed (by omega) (by omega) b3''
  have c1'' := c1'.keep fun j x e q => (k3 j x (fun n es e' => n13 j _ _ e' _ _ e) q).1
  have c2' := c2.keep fun j x e q => (k3 j x (fun n es e' => n21 j _ _ e' _ _ e) q).1
  refine ⟨T1,T2,T3,sv1,fv1,ev1,l1,l2,l3,?_⟩
  obtain ⟨z1,f1⟩ := c1''.out (fun d H => xEv d H _)
  obtain ⟨z2,f2⟩ := c2'.out (fun d H => xEv d H _)
  obtain ⟨z3,f3⟩ := c3.out (fun d H => xBG d H _)
  exact ⟨⟨c1''.cell,c2'.cell,c3.cell⟩,z1,z2,z3,f1,f2,f3⟩
end Go.Abs.NfaD.U
/- Union by what it computes: its answers. -/
namespace Go.Abs.NfaD.U
open Go Go.Abs
set_option linter.unusedSimpArgs false
set_option linter.unusedVariables false
theorem _root_.Go.Abs.NfaD.Valid.st64 {n : Aut} (h : Valid n) : ∀ q ∈ n.st,0 ≤ q ∧ q < 64 := fun q hq => by
  have := xES h.st q hq; have := h.s64; omega
theorem _root_.Go.Abs.NfaD.Valid.fi64 {n : Aut} (h : Valid n) : ∀ q ∈ n.fi,0 ≤ q ∧ q < 64 := fun q hq => by
  have := xES h.fi q hq; have := h.s64; omega
theorem _root_.Go.Abs.NfaD.Valid.ed64 {n : Aut} (h : Valid n) : ∀ e ∈ n.ed,(0 ≤ e.a ∧ e.a < 64) ∧ 0 ≤ e.b ∧ e.b < 64 := fun e he => by
  have h1 := xYy (xTP h.ed e he)
  have h2 := h.s64
  omega
theorem union_no {a b : Aut} (ha : L.pcall 26 [a.av] = some (.int .i64 0)) (hb : L.pcall 26 [b.av] = some (.int .i64 0)) (va : Valid a) (vb : Valid b) :
    (a.vars ≠ b.vars → L.pcall 19 [a.av,b.av] = some (.tup [zeroA.av,.int .i64 7])) ∧
    (a.vars = b.vars → (64 < a.states + b.states ∨ 512 < a.ed.length + b.ed.length) → L.pcall 19 [a.av,b.av] = some (.tup [zeroA.av,.int .i64 4])) := by
  have hs : IntKind.i64.wrap (a.states + b.states) = a.states + b.states := by have := va.s64; have := vb.s64; have := va.s0; have := vb.s0; exact xDM (by omega) (by omega)
  have hl : IntKind.i64.wrap ((a.ed.length + b.ed.length : Nat) : Int) = ((a.ed.length + b.ed.length : Nat) : Int) := by have := va.el; have := vb.el; exact xDM (by omega) (by omega)
  refine ⟨fun h => ?_,fun h h' => ?_⟩
  · rw [xYI,a19,xAL]
    simp (maxSteps := 30000000) (disch := first | assumption | omega | (simp only [WL,AV.isCell,xAd] <;> omega) | rfl | decide) only [↓reduceIte,WB,xH6,xBu,xC6,xBQ,xDi,AV.cells,AV.isCell,xB0,xCc,xCK,WP,xDB,xB3,xG4,xGC,xF9,xCa,xDR,xDA,W2,xBx,xBM,xCm,Nat.reduceAdd,Nat.reduceSub,Nat.reduceLeDiff,Nat.reduceMul,Int.reduceAdd,Int.reduceSub,Int.reduceMul,Int.reduceLT,Int.reduceLE,Int.reduceEq,Int.reduceToNat,Int.reduceNeg,Nat.reduceEqDiff,Nat.reduceBEq,Nat.reduceLT,xAd,xBg,xBG,xB1,xBX,ha,hb,h]
    rfl
  · have hve : (a.vars = b.vars) = True := eq_true h
    by_cases c : 64 < a.states + b.states
    · rw [xYI,a19,xAL]
      simp (maxSteps := 30000000) (disch := first | assumption | omega | (simp only [WL,AV.isCell,xAd] <;> omega) | rfl | decide) only [↓reduceIte,WB,xH6,xBu,xC6,xBQ,xDi,AV.cells,AV.isCell,xB0,xCc,xCK,WP,xDB,xB3,xG4,xGC,xF9,xCa,xDR,xDA,W2,xBx,xBM,xCm,Nat.reduceAdd,Nat.reduceSub,Nat.reduceLeDiff,Nat.reduceMul,Int.reduceAdd,Int.reduceSub,Int.reduceMul,Int.reduceLT,Int.reduceLE,Int.reduceEq,Int.reduceToNat,Int.reduceNeg,Nat.reduceEqDiff,Nat.reduceBEq,Nat.reduceLT,xAd,xBg,xBG,xB1,xBX,ha,hb,hve,hs,c]
      rfl
    · have c2 : (512 : Int) < ((a.ed.length + b.ed.length : Nat) : Int) := by omega
      rw [xYI,a19,xAL]
      simp (maxSteps := 30000000) (disch := first | assumption | omega | (simp only [WL,AV.isCell,xAd] <;> omega) | rfl | decide) only [↓reduceIte,WB,xH6,xBu,xC6,xBQ,xDi,AV.cells,AV.isCell,xB0,xCc,xCK,WP,xDB,xB3,xG4,xGC,xF9,xCa,xDR,xDA,W2,xBx,xBM,xCm,Nat.reduceAdd,Nat.reduceSub,Nat.reduceLeDiff,Nat.reduceMul,Int.reduceAdd,Int.reduceSub,Int.reduceMul,Int.reduceLT,Int.reduceLE,Int.reduceEq,Int.reduceToNat,Int.reduceNeg,Nat.reduceEqDiff,Nat.reduceBEq,Nat.reduceLT,xAd,xBg,xBG,xB1,xBX,ha,hb,hve,hs,hl,c,c2]
      rfl
set_option maxHeartbeats 4000000 in
theorem union_yes {a b : Aut} (ha : L.pcall 26 [a.av] = some (.int .i64 0)) (hb : L.pcall 26 [b.av] = some (.int .i64 0)) (va : Valid a) (vb : Valid b) (fa : Fits a) (fb : Fits b)
    (h1 : b.st.length < 1000) (h2 : b.fi.length < 1000) (ha1 : a.st.length < 1000) (ha2 : a.fi.length < 1000) (za1 : a.z1 = true → a.st = []) (za2 : a.z2 = true → a.fi = []) (za3 : a.z3 = true → a.ed = [])
    (hv : a.vars = b.vars) (hn : a.states + b.states ≤ 64) (he : a.ed.length + b.ed.length ≤ 512) :
    ∃ z1 z2 z3,L.pcall 19 [a.av,b.av] = some (.tup [(uniA a b z1 z2 z3).av,.int .i64 0]) := by
  have hs : IntKind.i64.wrap (a.states + b.states) = a.states + b.states := by have := va.s64; have := vb.s64; have := va.s0; have := vb.s0; exact xDM (by omega) (by omega)
  have hl : IntKind.i64.wrap ((a.ed.length + b.ed.length : Nat) : Int) = ((a.ed.length + b.ed.length : Nat) : Int) := by have := va.el; have := vb.el; exact xDM (by omega) (by omega)
  have c : ¬ 64 < a.states + b.states := by omega
  have c2 : ¬ (512 : Int) < ((a.ed.length + b.ed.length : Nat) : Int) := by omega
  have hve : (a.vars = b.vars) = True := eq_true hv
  have hA : 0 ≤ a.states ∧ a.states ≤ 64 := ⟨va.s0,va.s64⟩
  obtain ⟨v1,B1,g1,k1⟩ := xZP a.z1 a.st fa.l1 za1
  obtain ⟨v2,B2,g2,k2⟩ := xZP a.z2 a.fi fa.l2 za2
  obtain ⟨v3,B3,g3,k3⟩ := yAw a.z3 a.ed (by omega) za3
  have L3 := fun T sv fv ev => xYx (a := a) (b := b) h1 h2 (by omega) ha1 ha2 (by omega) hA vb.st64 vb.fi64 vb.ed64 T sv fv ev
  have bl1 : ∀ T k,T[k]? = some (.cells false false (xCT a.st)) → Bld T (.own false (k + 1 + 1 + 1) 0 a.st.length 1) 1 a.st.length (xCT a.st) := fun T k h => .inr ⟨k,rfl,h,by rw [xAb]; omega⟩
  have bl2 : ∀ T k,T[k]? = some (.cells false false (xCT a.fi)) → Bld T (.own false (k + 1 + 1 + 1) 0 a.fi.length 1) 1 a.fi.length (xCT a.fi) := fun T k h => .inr ⟨k,rfl,h,by rw [xAb]; omega⟩
  have bl3 : ∀ T k,T[k]? = some (.cells false false (edges a.ed)) → Bld T (.own false (k + 1 + 1 + 1) 0 a.ed.length 4) 4 a.ed.length (edges a.ed) := fun T k h => .inr ⟨k,rfl,h,by rw [xAd]⟩
  have ap : ∀ {k k' n n' es es' : Nat},k ≠ k' → xRu (.own false (k + 1 + 1 + 1) 0 n es) (.own false (k' + 1 + 1 + 1) 0 n' es') := fun hne j n es m fs h => by
    obtain ⟨e1,e2⟩ := h
    cases e1; cases e2; exact hne rfl
  have apl : ∀ {v : AV},xRu (.sl true 0 []) v := fun j n es m fs h => by cases h.1
  have apr : ∀ {v : AV},xRu v (.sl true 0 []) := fun j n es m fs h => by cases h.2
  have bn1 : ∀ T,a.st = [] → Bld T (.sl true 0 []) 1 a.st.length (xCT a.st) := fun T h => .inl ⟨rfl,by rw [h]; rfl,by rw [h]; rfl⟩
  have bn2 : ∀ T,a.fi = [] → Bld T (.sl true 0 []) 1 a.fi.length (xCT a.fi) := fun T h => .inl ⟨rfl,by rw [h]; rfl,by rw [h]; rfl⟩
  have bn3 : ∀ T,a.ed = [] → Bld T (.sl true 0 []) 4 a.ed.length (edges a.ed) := fun T h => .inl ⟨rfl,by rw [h]; rfl,by rw [h]; rfl⟩
  have key : ∃ T1 T2 T3 sv1 fv1 ev1,
      L.loop xI1 xRi ⟨xGH (.ptr 0 0) (.ptr 1 0) (.ptr 2 0) (iw b.z1 b.st) (.int .i64 (b.st.length : Nat)) (.int .i64 0),HU a b (xCa 3 v1) (xCa (3 + B1.length) v2) (xCa (3 + B1.length + B2.length) v3) (B1 ++ B2 ++ B3)⟩ =
        some (.exit 1,⟨xGH (.ptr 0 0) (.ptr 1 0) (.ptr 2 0) (iw b.z1 b.st) (.int .i64 (b.st.length : Nat)) (.int .i64 (b.st.length : Nat)),HU a b sv1 (xCa (3 + B1.length) v2) (xCa (3 + B1.length + B2.length) v3) T1⟩) ∧
      L.loop xI2 xRj ⟨xGI (.ptr 0 0) (.ptr 1 0) (.ptr 2 0) (iw b.z2 b.fi) (.int .i64 (b.fi.length : Nat)) (.int .i64 0),HU a b sv1 (xCa (3 + B1.length) v2) (xCa (3 + B1.length + B2.length) v3) T1⟩ =
        some (.exit 3,⟨xGI (.ptr 0 0) (.ptr 1 0) (.ptr 2 0) (iw b.z2 b.fi) (.int .i64 (b.fi.length : Nat)) (.int .i64 (b.fi.length : Nat)),HU a b sv1 fv1 (xCa (3 + B1.length + B2.length) v3) T2⟩) ∧
      L.loop xI3 xRk ⟨xGJ (.ptr 0 0) (.ptr 2 0) (.sl b.z3 b.ed.length (edges b.ed)) (.int .i64 (b.ed.length : Nat)) (.int .i64 0),HU a b sv1 fv1 (xCa (3 + B1.length + B2.length) v3) T2⟩ =
        some (.exit 5,⟨xGJ (.ptr 0 0) (.ptr 2 0) (.sl b.z3 b.ed.length (edges b.ed)) (.int .i64 (b.ed.length : Nat)) (.int .i64 (b.ed.length : Nat)),HU a b sv1 fv1 ev1 T3⟩) ∧
      (sv1.isCell = true ∧ fv1.isCell = true ∧ ev1.isCell = true) ∧ ∃ z1 z2 z3,(∀ d c0 c1 c2,frz (d + 1) (c0 :: c1 :: c2 :: T3) sv1 = some (iw z1 (uniA a b z1 z2 z3).st)) ∧ (∀ d c0 c1 c2,frz (d + 1) (c0 :: c1 :: c2 :: T3) fv1 = some (iw z2 (uniA a b z1 z2 z3).fi)) ∧
        (∀ d c0 c1 c2,frz (d + 1) (c0 :: c1 :: c2 :: T3) ev1 = some (.sl z3 (uniA a b z1 z2 z3).ed.length (edges (uniA a b z1 z2 z3).ed))) := by
    rcases k1 with ⟨rfl,rfl,n1⟩ | ⟨rfl,rfl⟩ <;> rcases k2 with ⟨rfl,rfl,n2⟩ | ⟨rfl,rfl⟩ <;> rcases k3 with ⟨rfl,rfl,n3⟩ | ⟨rfl,rfl⟩
    · exact L3 _ _ _ _ (bn1 _ n1) (bn2 _ n2) (bn3 _ n3) apl apl apl
    · exact L3 _ _ _ _ (bn1 _ n1) (bn2 _ n2) (bl3 _ 0 rfl) apl apl apl
    · exact L3 _ _ _ _ (bn1 _ n1) (bl2 _ 0 rfl) (bn3 _ n3) apl apl apr
    · exact L3 _ _ _ _ (bn1 _ n1) (bl2 _ 0 rfl) (bl3 _ 1 rfl) apl apl (ap (by decide))
    · exact L3 _ _ _ _ (bl1 _ 0 rfl) (bn2 _ n2) (bn3 _ n3) apr apr apl
    · exact L3 _ _ _ _ (bl1 _ 0 rfl) (bn2 _ n2) (bl3 _ 1 rfl) apr (ap (by decide)) apl
    · exact L3 _ _ _ _ (bl1 _ 0 rfl) (bl2 _ 1 rfl) (bn3 _ n3) (ap (by decide)) apr apr
    · exact L3 _ _ _ _ (bl1 _ 0 rfl) (bl2 _ 1 rfl) (bl3 _ 2 rfl) (ap (by decide)) (ap (by decide)) (ap (by decide))
  clear L3 bl1 bl2 bl3 bn1 bn2 bn3 ap
  obtain ⟨T1,T2,T3,sv1,fv1,ev1,l1,l2,l3,⟨y1,y2,y3⟩,z1,z2,z3,f1,f2,f3⟩ := key
  have hcell : [AV.int .i64 a.vars,.int .i64 (a.states + b.states),sv1,fv1,ev1].all AV.isCell = true := by
    simp only [List.all_cons,List.all_nil,y1,y2,y3]
    rfl
  refine ⟨z1,z2,z3,?_⟩
  rcases k1 with ⟨rfl,rfl,n1⟩ | ⟨rfl,rfl⟩ <;> rcases k2 with ⟨rfl,rfl,n2⟩ | ⟨rfl,rfl⟩ <;> rcases k3 with ⟨rfl,rfl,n3⟩ | ⟨rfl,rfl⟩
  all_goals
    simp only [xCa,xDR,xDA,List.length_nil,List.length_cons,List.nil_append,List.cons_append,Nat.add_zero,Nat.reduceAdd,Nat.zero_add] at l1 l2 l3
    rw [xYI,a19,xAL]
    simp (maxSteps := 30000000) (disch := first | assumption | omega | (simp only [WL,AV.isCell,xAd] <;> omega) | rfl | decide) only [↓reduceIte,WB,xH6,xBu,xC6,xBQ,xDi,AV.cells,AV.isCell,xB0,xCc,xCK,WP,xDB,xB3,xG4,xGC,xF9,xCa,xDR,xDA,W2,xBx,xBM,xCm,Nat.reduceAdd,Nat.reduceSub,Nat.reduceLeDiff,Nat.reduceMul,Int.reduceAdd,Int.reduceSub,Int.reduceMul,Int.reduceLT,Int.reduceLE,Int.reduceEq,Int.reduceToNat,Int.reduceNeg,Nat.reduceEqDiff,Nat.reduceBEq,Nat.reduceLT,xAd,xBg,xBG,xB1,xBX,xPD,xPE,xPF,ha,hb,hve,hs,hl,c,c2,g1,g2,g3,l1,l2,l3,f1,f2,f3]
    try rfl
end Go.Abs.NfaD.U
/- NfaExamples: the entries with many edges. -/
namespace Go.Abs.NfaD
open Go Go.Abs
set_option linter.unusedSimpArgs false
set_option linter.unusedVariables false
def xKa (v s : Int) (k : Nat) : Aut := ⟨v,s,true,[],true,[],false,List.replicate k e0⟩
theorem xRv (s : Int) (v k : Nat) (hs : 0 < s) : xEf s v (List.replicate k e0) = 0 := by
  induction k with
  | zero => rfl
  | succ k ih =>
    rw [List.replicate_succ]
    have h : xFO v 0 0 = 0 := by
      unfold xFO
      rw [if_neg (by have := Nat.two_pow_pos v; simp),if_pos (by decide)]
    have h2 : xE8 s v e0 = 0 := by
      unfold xE8
      rw [if_neg (by simp [e0]; omega)]
      exact h
    rw [xJ2 h2]
    exact ih
theorem xGX {v s : Int} {k : Nat} (h1 : 0 ≤ v) (h2 : v ≤ 6) (h3 : 0 < s) (h4 : s ≤ 64) (h5 : k ≤ 512) : Valid (xKa v s k) := by
  refine ⟨h1,h2,?_,h4,?_,rfl,rfl,xRv _ _ _ h3⟩
  · show 0 ≤ s; omega
  · show (List.replicate k e0).length ≤ 512; rw [List.length_replicate]; exact h5
theorem xIh {v s : Int} {k : Nat} (h5 : k ≤ 512) : Fits (xKa v s k) := by
  refine ⟨by simp [xKa],by simp [xKa],?_,fun e he => ?_⟩
  · show (List.replicate k e0).length < _; rw [List.length_replicate]; omega
  · rw [(List.mem_replicate.1 he).2]; exact ⟨by decide,by decide⟩
theorem xDb {n : Aut} (hv : Valid n) (hf : Fits n) (h1 : n.z1 = true → n.st = []) (h2 : n.z2 = true → n.fi = []) : L.pcall 26 [n.av] = some (.int .i64 0) := by
  obtain ⟨e,h,he,-⟩ := xLz n hf h1 h2 (by have := hv.el; omega)
  rw [he.2 hv] at h
  exact h
def xTK (v s : Int) (z1 z2 z3 : Bool) : Aut := ⟨v,s,z1,[],z2,[],z3,[]⟩
theorem xRw (v s : Int) (k : Nat) (z1 z2 z3 : Bool) : xRz (xKa v s k) (fun _ => false) z1 z2 z3 = xTK v 0 z1 z2 z3 := by
  have e1 : setL (fun _ => false) = [] := by
    unfold setL
    rw [List.filter_eq_nil_iff]
    intro a _; simp
  have e2 : ∀ k,(List.replicate k e0).filterMap (xRD (fun _ => false)) = [] := by
    intro k
    rw [List.filterMap_eq_nil_iff]
    intro a _
    simp [xRD,num,e1]
  show (⟨v,(((setL fun _ => false).length : Nat) : Int),z1,[],z2,[],z3,(List.replicate k e0).filterMap (xRD fun _ => false)⟩ : Aut) = _
  rw [e1,e2]
  rfl
theorem xVh {v s : Int} {k : Nat} (h1 : 0 ≤ v) (h2 : v ≤ 6) (h3 : 0 < s) (h4 : s ≤ 64) (h5 : k ≤ 512) : ∃ z1 z2 z3,L.pcall 17 [(xKa v s k).av] = some (.tup [(xTK v 0 z1 z2 z3).av,.int .i64 0]) := by
  have hv := xGX h1 h2 h3 h4 h5
  have hf := xIh (v := v) (s := s) h5
  have hc := xDb hv hf (fun _ => rfl) (fun _ => rfl)
  obtain ⟨z,r,C,k1,k2,k3⟩ := xOn _ hf hc hv
  obtain ⟨e,r1,r2,-,r4⟩ := xLz _ hf (fun _ => rfl) (fun _ => rfl) (by have := hv.el; omega)
  obtain ⟨z',r5,-⟩ := r4 (r2.2 hv)
  have hv' := xTS hv z'
  have hf' := xVk hf z'
  have hc' := xDb hv' hf' (fun _ => rfl) (fun _ => rfl)
  obtain ⟨z2,rr,D,q1,q2,-⟩ := xOn _ hf' hc' hv'
  obtain ⟨z1,z2,z3,t1,-⟩ := xXx _ hf hv (by show 0 < 1000; decide) (by show 0 < 1000; decide) k1 k2 (xVm _ _ r5 q1) q2
  have hC : C = fun _ => false := by
    funext j
    have := k3.2.2 (fun _ => false) (fun e _ h => by cases h) (fun j h => by simp [inS,xKa] at h)
    cases hj : C j with
    | false => rfl
    | true => exact absurd (this j hj) (by simp)
  subst hC
  simp only [Bool.false_and,xRw] at t1
  exact ⟨_,_,_,t1⟩
theorem xHs : Valid zeroA := ⟨by decide,by decide,by decide,by decide,by decide,rfl,rfl,rfl⟩
theorem xJZ : Fits zeroA := ⟨by decide,by decide,by decide,fun e he => by cases he⟩
def secA : Aut := ⟨1,3,false,[0],false,[2],false,[⟨0,0,0,0⟩,⟨0,1,1,0⟩,⟨1,2,0,0⟩]⟩
theorem xJ0 : Valid secA := ⟨by decide,by decide,by decide,by decide,by decide,by decide,by decide,by decide⟩
theorem xQE : Fits secA := ⟨by decide,by decide,by decide,by decide⟩
theorem xTL : (∃ z1 z2 z3,L.pcall 19 [(xKa 0 64 512).av,zeroA.av] = some (.tup [(U.uniA (xKa 0 64 512) zeroA z1 z2 z3).av,.int .i64 0])) ∧ (∃ z1 z2 z3,L.pcall 19 [zeroA.av,(xKa 0 64 512).av] = some (.tup [(U.uniA zeroA (xKa 0 64 512) z1 z2 z3).av,.int .i64 0])) ∧
    L.pcall 19 [(xKa 1 1 510).av,secA.av] = some (.tup [zeroA.av,.int .i64 4]) := by
  have hv := xGX (v := 0) (s := 64) (k := 512) (by decide) (by decide) (by decide) (by decide) (by decide)
  have hf := xIh (v := 0) (s := 64) (k := 512) (by decide)
  have hc := xDb hv hf (fun _ => rfl) (fun _ => rfl)
  have hv' := xGX (v := 1) (s := 1) (k := 510) (by decide) (by decide) (by decide) (by decide) (by decide)
  have hf' := xIh (v := 1) (s := 1) (k := 510) (by decide)
  have hc' := xDb hv' hf' (fun _ => rfl) (fun _ => rfl)
  have h0 := xDb xHs xJZ (fun _ => rfl) (fun _ => rfl)
  have h2 := xDb xJ0 xQE (fun h => by cases h) (fun h => by cases h)
  have l5 : (xKa 0 64 512).ed.length = 512 := List.length_replicate
  have l6 : (xKa 1 1 510).ed.length = 510 := List.length_replicate
  refine ⟨?_,?_,?_⟩
  · obtain ⟨z1,z2,z3,h⟩ := U.union_yes hc h0 hv xHs hf xJZ (by decide) (by decide) (by show 0 < 1000; decide) (by show 0 < 1000; decide) (fun _ => rfl) (fun _ => rfl) (fun h => by cases h) rfl (by decide) (by rw [l5]; decide)
    exact ⟨_,_,_,h⟩
  · obtain ⟨z1,z2,z3,h⟩ := U.union_yes h0 hc xHs hv xJZ hf (by show 0 < 1000; decide) (by show 0 < 1000; decide) (by decide) (by decide) (fun _ => rfl) (fun _ => rfl) (fun _ => rfl) rfl (by decide) (by rw [l5]; decide)
    exact ⟨_,_,_,h⟩
  · exact (U.union_no hc' h2 hv' xJ0).2 rfl (.inr (by rw [l6]; decide))
theorem xXq : L.pcall 25 [secA.av,word false (List.replicate 64 0)] = some (.tup [.bool false,.int .i64 0]) := by
  obtain ⟨e,h1,h2,-,-,h5⟩ := xXv secA xQE false (List.replicate 64 0) (fun x hx => by rw [(List.mem_replicate.1 hx).2]; decide) (by rw [List.length_replicate]; decide)
  obtain ⟨t,h6,h7⟩ := h5 (h2.2 xJ0) (by decide)
  cases t with
  | false => exact h6
  | true =>
    have ha := h7.1 rfl
    have hinv : ∀ k (S : Nat → Bool),(∀ j,S j = true → j = 0) → ∀ j,xYO secA.ed S (List.replicate k 0) j = true → j = 0 := by
      intro k
      induction k with
      | zero => intro S hS j hj; exact hS j hj
      | succ k ih =>
        intro S hS j hj
        rw [List.replicate_succ] at hj
        refine ih (fun j => xRx secA.ed S 0 j) (fun j hj => ?_) j hj
        simp only [xRx,secA,List.any_cons,List.any_nil,Bool.or_false,xPa,xYF,Bool.or_eq_true,Bool.and_eq_true,decide_eq_true_eq] at hj
        have h1 := hS 1
        simp at h1
        simp [h1] at hj
        omega
    exfalso
    obtain ⟨j,a1,a2⟩ := ha
    have a3 := hinv 64 (inS secA.st) (fun j hj => by
      simp only [inS,secA,List.contains_cons,List.contains_nil,Bool.or_false,beq_iff_eq] at hj
      omega) j a1
    subst a3
    exact absurd a2 (by decide)
theorem xTM : L.pcall 26 [(xKa 0 64 512).av] = some (.int .i64 0) :=
  xDb (xGX (by decide) (by decide) (by decide) (by decide) (by decide)) (xIh (by decide)) (fun _ => rfl) (fun _ => rfl)
end Go.Abs.NfaD
