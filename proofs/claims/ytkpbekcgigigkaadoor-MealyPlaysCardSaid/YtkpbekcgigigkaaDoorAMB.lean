/- Encodings and small functions. -/
import Derived.Test.YtkpbekcgigigkaaDoorAbsBun
import Derived.Test.YtkpbekcgigigkaaDoorAMA
namespace Go.Abs.Mealy
set_option linter.unusedVariables false
set_option linter.unusedSimpArgs false
open Go Go.Abs
set_option linter.unusedSimpArgs false
abbrev las (z1 z2 : Bool) (p q : List Nat) : AV := .agg [xBc z1 p,xBc z2 q]
def xAI (q : List Nat) : List Nat := if q = [] then [0] else q
def xGh (p q : Nat) (i : Int) : Int := if i < p then max i 0 else p + (i - p) % (max q 1 : Nat)
theorem xLb (z1 z2 : Bool) (p q : List Nat) (i : Int) (hp : p.length < 1099511627776) (hq : q.length < 1099511627776) (h1 : -9223372036854775808 ≤ i) (h2 : i < 9223372036854775808) :
    L.pcall 55 [las z1 z2 p q,.int .i64 i] = some (.int .i64 (xGh p.length q.length i)) := by
  rw [yCF,a55,xAl]
  unfold xGh
  by_cases hlt : i < p.length
  · simp (maxSteps := 30000000) (disch := first | assumption | omega | (simp only [WL,AV.isCell] <;> omega) | rfl | decide) only [↓reduceIte,WB,xAu,xAc,xAt,xAk,xAj,AV.cells,AV.isCell,xAa,xAd,xAe,Nat.reduceAdd,Nat.reduceSub,Nat.reduceLeDiff,Nat.reduceMul,Int.reduceAdd,Int.reduceSub,Int.reduceMul,Int.reduceLT,Int.reduceLE,Int.reduceEq,Int.reduceToNat,Int.reduceNeg,Nat.reduceEqDiff,Nat.reduceBEq,Nat.reduceLT,hlt]
  · have e3 := Int.emod_nonneg (i - p.length) (b := (max (q.length : Int) 1)) (by omega)
    have e4 := Int.emod_lt_of_pos (i - p.length) (b := (max (q.length : Int) 1)) (by omega)
    have e2 : (i - p.length).tmod (max (q.length : Int) 1) = (i - p.length) % (max (q.length : Int) 1) := Int.tmod_eq_emod_of_nonneg (by omega)
    simp (maxSteps := 30000000) (disch := first | assumption | omega | (simp only [WL,AV.isCell] <;> omega) | rfl | decide) only [↓reduceIte,WB,xAu,xAc,xAt,xAk,xAj,AV.cells,AV.isCell,xAa,xAd,xAe,Nat.reduceAdd,Nat.reduceSub,Nat.reduceLeDiff,Nat.reduceMul,Int.reduceAdd,Int.reduceSub,Int.reduceMul,Int.reduceLT,Int.reduceLE,Int.reduceEq,Int.reduceToNat,Int.reduceNeg,Nat.reduceEqDiff,Nat.reduceBEq,Nat.reduceLT,hlt,e2]
    rw [show ((max q.length 1 : Nat) : Int) = max (q.length : Int) 1 by omega]
theorem xLc (z1 z2 : Bool) (p q : List Nat) : ∃ z,L.pcall 77 [las z1 z2 p q] = some (las z1 z p (xAI q)) := by
  rw [yCN,a77,xAl]
  by_cases hq : q = []
  · subst hq
    refine ⟨false,?_⟩
    simp (maxSteps := 30000000) (disch := first | assumption | omega | (simp only [WL,AV.isCell] <;> omega) | rfl | decide) only [↓reduceIte,WB,xAu,xAc,xAt,xAk,xAj,AV.cells,AV.isCell,xAa,xAd,xAe,Nat.reduceAdd,Nat.reduceSub,Nat.reduceLeDiff,Nat.reduceMul,Int.reduceAdd,Int.reduceSub,Int.reduceMul,Int.reduceLT,Int.reduceLE,Int.reduceEq,Int.reduceToNat,Int.reduceNeg,Nat.reduceEqDiff,Nat.reduceBEq,Nat.reduceLT,bs,xCD]
    rfl
  · refine ⟨z2,?_⟩
    have hl : ¬ ((q.length : Int) = 0) := by
      have : q.length ≠ 0 := by simpa using hq
      omega
    simp (maxSteps := 30000000) (disch := first | assumption | omega | (simp only [WL,AV.isCell] <;> omega) | rfl | decide) only [↓reduceIte,WB,xAu,xAc,xAt,xAk,xAj,AV.cells,AV.isCell,xAa,xAd,xAe,Nat.reduceAdd,Nat.reduceSub,Nat.reduceLeDiff,Nat.reduceMul,Int.reduceAdd,Int.reduceSub,Int.reduceMul,Int.reduceLT,Int.reduceLE,Int.reduceEq,Int.reduceToNat,Int.reduceNeg,Nat.reduceEqDiff,Nat.reduceBEq,Nat.reduceLT,hl,xAI,if_neg hq]
def atM (p q : List Nat) (i : Int) : Nat := if i < 0 then 0 else if i < p.length then p.getD i.toNat 0 else (xAI q).getD ((i.toNat - p.length) % (xAI q).length) 0
theorem xCn (q : List Nat) : 0 < (xAI q).length := by
  unfold xAI
  split
  · simp
  · rename_i h; exact List.length_pos_iff.2 h
theorem xBF (q : List Nat) : (xAI q).length = max q.length 1 := by
  unfold xAI
  split
  · rename_i h; subst h; rfl
  · rename_i h; have := List.length_pos_iff.2 h; omega
theorem yAH (z1 z2 : Bool) (p q : List Nat) (i : Int) (hp : p.length < 1099511627776) (hq : q.length < 1099511627776) (h1 : -9223372036854775808 ≤ i) (h2 : i < 9223372036854775808) :
    L.pcall 47 [las z1 z2 p q,.int .i64 i] = some (.int .u8 (atM p q i : Nat)) := by
  rw [yCD,a47,xAl]
  obtain ⟨z,hfull⟩ := xLc z1 z2 p q
  have hfl := xBF q
  have hidx := xLb z1 z p (xAI q) i (by omega) (by omega) h1 h2
  have hfp := xCn q
  unfold atM
  by_cases hneg : i < 0
  · simp (maxSteps := 30000000) (disch := first | assumption | omega | (simp only [WL,AV.isCell] <;> omega) | rfl | decide) only [↓reduceIte,WB,xAu,xAc,xAt,xAk,xAj,AV.cells,AV.isCell,xAa,xAd,xAe,Nat.reduceAdd,Nat.reduceSub,Nat.reduceLeDiff,Nat.reduceMul,Int.reduceAdd,Int.reduceSub,Int.reduceMul,Int.reduceLT,Int.reduceLE,Int.reduceEq,Int.reduceToNat,Int.reduceNeg,Nat.reduceEqDiff,Nat.reduceBEq,Nat.reduceLT,hneg]
  · by_cases hlt : i < p.length
    · have hi : xGh p.length (xAI q).length i = i := by unfold xGh; rw [if_pos hlt]; omega
      have hng : ¬ (0 ≤ i - (p.length : Int)) := by omega
      simp (maxSteps := 30000000) (disch := first | assumption | omega | (simp only [WL,AV.isCell] <;> omega) | rfl | decide) only [↓reduceIte,WB,xAu,xAc,xAt,xAk,xAj,AV.cells,AV.isCell,xAa,xAd,xAe,Nat.reduceAdd,Nat.reduceSub,Nat.reduceLeDiff,Nat.reduceMul,Int.reduceAdd,Int.reduceSub,Int.reduceMul,Int.reduceLT,Int.reduceLE,Int.reduceEq,Int.reduceToNat,Int.reduceNeg,Nat.reduceEqDiff,Nat.reduceBEq,Nat.reduceLT,hneg,hlt,hfull,hidx,hi,hng]
    · have hi : xGh p.length (xAI q).length i = p.length + (((i.toNat - p.length) % (xAI q).length : Nat) : Int) := by
        unfold xGh
        rw [if_neg hlt,show max (xAI q).length 1 = (xAI q).length by omega,show i - (p.length : Int) = ((i.toNat - p.length : Nat) : Int) by omega]
        simp
      have hkl : (i.toNat - p.length) % (xAI q).length < (xAI q).length := Nat.mod_lt _ hfp
      generalize hg : (i.toNat - p.length) % (xAI q).length = k at *
      have h0 : (0 : Int) ≤ (k : Nat) := by omega
      simp (maxSteps := 30000000) (disch := first | assumption | omega | (simp only [WL,AV.isCell] <;> omega) | rfl | decide) only [↓reduceIte,WB,xAu,xAc,xAt,xAk,xAj,AV.cells,AV.isCell,xAa,xAd,xAe,Nat.reduceAdd,Nat.reduceSub,Nat.reduceLeDiff,Nat.reduceMul,Int.reduceAdd,Int.reduceSub,Int.reduceMul,Int.reduceLT,Int.reduceLE,Int.reduceEq,Int.reduceToNat,Int.reduceNeg,Nat.reduceEqDiff,Nat.reduceBEq,Nat.reduceLT,hneg,hlt,hfull,hidx,hi,Nat.add_sub_cancel_left,h0]
end Go.Abs.Mealy
/- root: the failure function gives the longest borders. -/
namespace Go.Abs.Mealy
set_option linter.unusedVariables false
set_option linter.unusedSimpArgs false
open Go Go.Abs
set_option linter.unusedSimpArgs false
def Bord (w : List Nat) (i k : Nat) : Prop := k < i ∧ ∀ t,t < k → w.getD t 0 = w.getD (i - k + t) 0
theorem Bord.chain {w : List Nat} {i k j : Nat} (h : Bord w i k) (h2 : Bord w k j) : Bord w i j := by
  refine ⟨by have := h.1; have := h2.1; omega,fun t ht => ?_⟩
  rw [h2.2 t ht,h.2 (k - j + t) (by have := h2.1; omega)]
  congr 1
  have := h.1; have := h2.1; omega
theorem Bord.ext {w : List Nat} {i k : Nat} (h : Bord w i k) (he : w.getD i 0 = w.getD k 0) : Bord w (i + 1) (k + 1) := by
  refine ⟨by have := h.1; omega,fun t ht => ?_⟩
  have hk := h.1
  by_cases e : t = k
  · subst e
    rw [← he]; congr 1; omega
  · rw [h.2 t (by omega)]; congr 1; omega
theorem Bord.zero {w : List Nat} {i : Nat} (h : 0 < i) : Bord w i 0 := ⟨h,fun t ht => by omega⟩
def xYX (w : List Nat) (i k : Nat) : Prop := ∀ b,Bord w i b → b ≤ k
theorem Bord.inner {w : List Nat} {i k b : Nat} (h : Bord w i k) (h2 : Bord w i b) (hlt : b < k) : Bord w k b := by
  refine ⟨hlt,fun t ht => ?_⟩
  have hk := h.1
  have hb := h2.1
  rw [h2.2 t ht,h.2 (k - b + t) (by omega)]
  congr 1; omega
theorem Bord.prev {w : List Nat} {i c : Nat} (h : Bord w (i + 1) (c + 1)) : Bord w i c ∧ w.getD i 0 = w.getD c 0 := by
  have h1 := h.1
  refine ⟨⟨by omega,fun t ht => ?_⟩,?_⟩
  · rw [h.2 t (by omega)]; congr 1; omega
  · rw [h.2 c (by omega)]; congr 1; omega
theorem xRu {z : Bool} {w fl : List Nat} {i : Nat} (hi : i < w.length) (hw : w.length < 1099511627776) (hfl : fl.length = w.length + 1) (hf : ∀ j,0 < j → j ≤ i → Bord w j (fl.getD j 0) ∧ xYX w j (fl.getD j 0)) :
    ∀ k,Bord w i k → (∀ b,Bord w i b → k < b → w.getD i 0 ≠ w.getD b 0) → ∃ k',Bord w i k' ∧ (k' = 0 ∨ w.getD i 0 = w.getD k' 0) ∧ (∀ b,Bord w i b → k' < b → w.getD i 0 ≠ w.getD b 0) ∧
      L.loop xMl xVW ⟨xMm (xBc z w) (.own false 0 0 (w.length + 1) 1) (.int .i64 (k : Nat)) (.int .i64 (i : Nat)),[.cells false false (xCQ fl)]⟩ = some (.exit 2,⟨xMm (xBc z w) (.own false 0 0 (w.length + 1) 1) (.int .i64 (k' : Nat)) (.int .i64 (i : Nat)),[.cells false false (xCQ fl)]⟩) := by
  intro k
  induction k using Nat.strongRecOn with
  | _ k ih =>
    intro hk hm
    have hki := hk.1
    by_cases h0 : k = 0
    · refine ⟨k,hk,.inl h0,hm,?_⟩
      have hng : ¬ ((0 : Int) < (k : Nat)) := by omega
      rw [xSO]
      simp (maxSteps := 30000000) (disch := first | assumption | omega | (simp only [WL,AV.isCell] <;> omega) | rfl | decide) only [↓reduceIte,WB,xAu,xAc,xAt,xAk,xAj,AV.cells,AV.isCell,xAa,xAd,xAe,Nat.reduceAdd,Nat.reduceSub,Nat.reduceLeDiff,Nat.reduceMul,Int.reduceAdd,Int.reduceSub,Int.reduceMul,Int.reduceLT,Int.reduceLE,Int.reduceEq,Int.reduceToNat,Int.reduceNeg,Nat.reduceEqDiff,Nat.reduceBEq,Nat.reduceLT,xMk,xMn,hng]
    · have hgt : ((0 : Int) < (k : Nat)) := by omega
      by_cases he : w.getD i 0 = w.getD k 0
      · refine ⟨k,hk,.inr he,hm,?_⟩
        have heq : (((w.getD i 0 : Nat) : Int) = ((w.getD k 0 : Nat) : Int)) = True := eq_true (by omega)
        rw [xSO]
        simp (maxSteps := 30000000) (disch := first | assumption | omega | (simp only [WL,AV.isCell] <;> omega) | rfl | decide) only [↓reduceIte,WB,xAu,xAc,xAt,xAk,xAj,AV.cells,AV.isCell,xAa,xAd,xAe,Nat.reduceAdd,Nat.reduceSub,Nat.reduceLeDiff,Nat.reduceMul,Int.reduceAdd,Int.reduceSub,Int.reduceMul,Int.reduceLT,Int.reduceLE,Int.reduceEq,Int.reduceToNat,Int.reduceNeg,Nat.reduceEqDiff,Nat.reduceBEq,Nat.reduceLT,xMk,xMn,hgt,heq]
      · have hne : ¬ (((w.getD i 0 : Nat) : Int) = ((w.getD k 0 : Nat) : Int)) := by omega
        obtain ⟨hb,hbm⟩ := hf k (by omega) (by omega)
        obtain ⟨k',h1,h2,h4,h3⟩ := ih _ hb.1 (hk.chain hb) (fun b hb1 hb2 => by
          rcases Nat.lt_trichotomy b k with e | e | e
          · have := hbm b (hk.inner hb1 e); omega
          · subst e; exact he
          · exact hm b hb1 e)
        refine ⟨k',h1,h2,h4,?_⟩
        rw [xSO]
        simp (maxSteps := 30000000) (disch := first | assumption | omega | (simp only [WL,AV.isCell] <;> omega) | rfl | decide) only [↓reduceIte,WB,xAu,xAc,xAt,xAk,xAj,AV.cells,AV.isCell,xAa,xAd,xAe,Nat.reduceAdd,Nat.reduceSub,Nat.reduceLeDiff,Nat.reduceMul,Int.reduceAdd,Int.reduceSub,Int.reduceMul,Int.reduceLT,Int.reduceLE,Int.reduceEq,Int.reduceToNat,Int.reduceNeg,Nat.reduceEqDiff,Nat.reduceBEq,Nat.reduceLT,xMk,xMn,hgt,hne,h3]
theorem xFx {z : Bool} {w : List Nat} (hw : w.length < 1099511627776) : ∀ (d i k : Nat) (fl : List Nat),i + d = w.length → 0 < i → fl.length = w.length + 1 → (∀ j,0 < j → j ≤ i → Bord w j (fl.getD j 0) ∧ xYX w j (fl.getD j 0)) → Bord w i k → xYX w i k →
    ∃ fl' k',fl'.length = w.length + 1 ∧ (∀ j,0 < j → j ≤ w.length → Bord w j (fl'.getD j 0) ∧ xYX w j (fl'.getD j 0)) ∧
      L.loop xJa xSP ⟨xJb (xBc z w) (.own false 0 0 (w.length + 1) 1) (.int .i64 (k : Nat)) (.int .i64 (i : Nat)),[.cells false false (xCQ fl)]⟩ = some (.exit 0,⟨xJb (xBc z w) (.own false 0 0 (w.length + 1) 1) (.int .i64 (k' : Nat)) (.int .i64 (w.length : Nat)),[.cells false false (xCQ fl')]⟩)
  | 0,i,k,fl,hd,hi0,hfl,hf,hk,hmx => by
    have : i = w.length := by omega
    subst this
    refine ⟨fl,k,hfl,hf,?_⟩
    rw [xSQ]
    simp (maxSteps := 30000000) (disch := first | assumption | omega | (simp only [WL,AV.isCell] <;> omega) | rfl | decide) only [↓reduceIte,WB,xAu,xAc,xAt,xAk,xAj,AV.cells,AV.isCell,xAa,xAd,xAe,Nat.reduceAdd,Nat.reduceSub,Nat.reduceLeDiff,Nat.reduceMul,Int.reduceAdd,Int.reduceSub,Int.reduceMul,Int.reduceLT,Int.reduceLE,Int.reduceEq,Int.reduceToNat,Int.reduceNeg,Nat.reduceEqDiff,Nat.reduceBEq,Nat.reduceLT,xMo,xMp,Int.lt_irrefl]
  | d + 1,i,k,fl,hd,hi0,hfl,hf,hk,hmx => by
    have hi : (i : Int) < (w.length : Nat) := by omega
    obtain ⟨k',hk',he,hm,hl⟩ := xRu (z := z) (by omega) hw hfl hf k hk (fun b hb1 hb2 => absurd (hmx b hb1) (by omega))
    have hki := hk'.1
    by_cases hq : w.getD i 0 = w.getD k' 0
    · have hnew : xYX w (i + 1) (k' + 1) := fun b hb => by
        cases b with
        | zero => omega
        | succ c =>
          obtain ⟨h1,h2⟩ := hb.prev
          rcases Nat.lt_or_ge k' c with e | e
          · exact absurd h2 (hm c h1 e)
          · omega
      obtain ⟨fl',k'',h1,h2,h3⟩ := xFx (z := z) hw d (i + 1) (k' + 1) (fl.set (i + 1) (k' + 1)) (by omega) (by omega) (by simpa using hfl) (fun j hj0 hj1 => by
        by_cases e : j = i + 1
        · subst e
          rw [List.getD_eq_getElem?_getD,List.getElem?_set_self (by omega)]
          exact ⟨hk'.ext hq,hnew⟩
        · rw [List.getD_eq_getElem?_getD,List.getElem?_set_ne (by omega),← List.getD_eq_getElem?_getD]
          exact hf j hj0 (by omega)) (hk'.ext hq) hnew
      refine ⟨fl',k'',h1,h2,?_⟩
      have heq : (((w.getD i 0 : Nat) : Int) = ((w.getD k' 0 : Nat) : Int)) = True := eq_true (by omega)
      rw [xSQ]
      simp (maxSteps := 30000000) (disch := first | assumption | omega | (simp only [WL,AV.isCell] <;> omega) | rfl | decide) only [↓reduceIte,WB,xAu,xAc,xAt,xAk,xAj,AV.cells,AV.isCell,xAa,xAd,xAe,Nat.reduceAdd,Nat.reduceSub,Nat.reduceLeDiff,Nat.reduceMul,Int.reduceAdd,Int.reduceSub,Int.reduceMul,Int.reduceLT,Int.reduceLE,Int.reduceEq,Int.reduceToNat,Int.reduceNeg,Nat.reduceEqDiff,Nat.reduceBEq,Nat.reduceLT,xMo,xMn,xMp,hi,hl,heq,h3]
    · have h0 : k' = 0 := by
        rcases he with h | h
        · exact h
        · exact (hq h).elim
      have hne : ¬ (((w.getD i 0 : Nat) : Int) = ((w.getD k' 0 : Nat) : Int)) := by omega
      have hnew : xYX w (i + 1) k' := fun b hb => by
        cases b with
        | zero => omega
        | succ c =>
          obtain ⟨h1,h2⟩ := hb.prev
          rcases Nat.lt_or_ge k' c with e | e
          · exact absurd h2 (hm c h1 e)
          · have : c = k' := by omega
            subst this
            exact absurd h2 hq
      obtain ⟨fl',k'',h1,h2,h3⟩ := xFx (z := z) hw d (i + 1) k' (fl.set (i + 1) k') (by omega) (by omega) (by simpa using hfl) (fun j hj0 hj1 => by
        by_cases e : j = i + 1
        · subst e
          rw [List.getD_eq_getElem?_getD,List.getElem?_set_self (by omega)]
          exact ⟨by rw [h0]; exact .zero (by omega),hnew⟩
        · rw [List.getD_eq_getElem?_getD,List.getElem?_set_ne (by omega),← List.getD_eq_getElem?_getD]
          exact hf j hj0 (by omega)) (h0 ▸ .zero (by omega)) hnew
      refine ⟨fl',k'',h1,h2,?_⟩
      rw [xSQ]
      simp (maxSteps := 30000000) (disch := first | assumption | omega | (simp only [WL,AV.isCell] <;> omega) | rfl | decide) only [↓reduceIte,WB,xAu,xAc,xAt,xAk,xAj,AV.cells,AV.isCell,xAa,xAd,xAe,Nat.reduceAdd,Nat.reduceSub,Nat.reduceLeDiff,Nat.reduceMul,Int.reduceAdd,Int.reduceSub,Int.reduceMul,Int.reduceLT,Int.reduceLE,Int.reduceEq,Int.reduceToNat,Int.reduceNeg,Nat.reduceEqDiff,Nat.reduceBEq,Nat.reduceLT,xMo,xMn,xMp,hi,hl,hne,h3]
end Go.Abs.Mealy
/- root,Clone,Concat,Canonical: the shortest form. -/
namespace Go.Abs.Mealy
set_option linter.unusedVariables false
set_option linter.unusedSimpArgs false
open Go Go.Abs
theorem xLd : True = True := rfl
theorem xOD : True = True := rfl
theorem xLe {r q : List Nat} {per : Nat} (hper : 0 < per) (hq : per ≤ q.length) (h : ∀ t,t + per < q.length → q.getD t 0 = q.getD (t + per) 0) : ∀ t,t < q.length → q.getD t 0 = q.getD (t % per) 0 := by
  intro t
  induction t using Nat.strongRecOn with
  | _ t ih =>
    intro ht
    by_cases h1 : t < per
    · rw [Nat.mod_eq_of_lt h1]
    · have := h (t - per) (by omega)
      rw [show t - per + per = t by omega] at this
      rw [← this,ih (t - per) (by omega) (by omega)]
      exact congrArg (q.getD · 0) (Nat.mod_eq_sub_mod (by omega)).symm
theorem xE4 {l : List Nat} {n t : Nat} (h : t < n) : (l.take n).getD t 0 = l.getD t 0 := by
  simp [List.getD,List.getElem?_take,h]
theorem xNJ (l : List Nat) (n t : Nat) : (l.drop n).getD t 0 = l.getD (n + t) 0 := by
  simp [List.getD,List.getElem?_drop]
theorem xDe {a b : List Nat} {t : Nat} (h : t < a.length) : (a ++ b).getD t 0 = a.getD t 0 := by
  simp [List.getD,List.getElem?_append_left h]
theorem xCS {a b : List Nat} {t : Nat} (h : a.length ≤ t) : (a ++ b).getD t 0 = b.getD (t - a.length) 0 := by
  simp [List.getD,List.getElem?_append_right h]
def xAY (p q : List Nat) (i : Nat) : Nat := if i < p.length then p.getD i 0 else (xAI q).getD ((i - p.length) % (xAI q).length) 0
theorem xUu (p q : List Nat) (i : Nat) : atM p q (i : Nat) = xAY p q i := by
  unfold atM xAY
  have h : ¬ ((i : Int) < 0) := by omega
  simp [h]
theorem yAI (r : List Nat) (a : Nat) (ha : a < r.length) (t : Nat) (ht : t < r.length) : (r.drop a ++ r.take a).getD t 0 = r.getD ((a + t) % r.length) 0 := by
  by_cases h : t < r.length - a
  · rw [xDe (by simpa using h),xNJ,Nat.mod_eq_of_lt (by omega)]
  · rw [xCS (by simpa using (by omega : r.length - a ≤ t)),xE4 (by simp; omega),Nat.mod_eq_sub_mod (by omega),Nat.mod_eq_of_lt (by omega),List.length_drop]
    congr 1; omega
theorem xDY {h : Nat → Nat} {x : Nat} (hp : ∀ t,h (t + x) = h t) : ∀ k t,h (t + k * x) = h t
  | 0,t => by simp
  | k + 1,t => by rw [Nat.succ_mul,← Nat.add_assoc,hp,xDY hp k t]
theorem xUv {h : Nat → Nat} : ∀ x y : Nat,(∀ t,h (t + x) = h t) → (∀ t,h (t + y) = h t) → ∀ t,h (t + Nat.gcd x y) = h t := by
  intro x
  induction x using Nat.strongRecOn with
  | _ x ih =>
    intro y hx hy t
    by_cases h0 : x = 0
    · subst h0; rw [Nat.gcd_zero_left]; exact hy t
    · rw [Nat.gcd_rec]
      refine ih (y % x) (Nat.mod_lt _ (by omega)) x (fun t => ?_) hx t
      have := xDY hx (y / x) (t + y % x)
      rw [← this,show t + y % x + y / x * x = t + y by rw [Nat.add_assoc,Nat.mod_add_div']]
      exact hy t
def yAJ (w : List Nat) (p : Nat) : Prop := 0 < p ∧ p ≤ w.length ∧ w.length % p = 0 ∧ (∀ t,t + p < w.length → w.getD t 0 = w.getD (t + p) 0) ∧
  ∀ d,0 < d → d ≤ w.length → w.length % d = 0 → (∀ t,t + d < w.length → w.getD t 0 = w.getD (t + d) 0) → p ≤ d
theorem xIe {w : List Nat} {d : Nat} (h0 : 0 < d) (hd : d ≤ w.length) (h : ∀ t,t + d < w.length → w.getD t 0 = w.getD (t + d) 0) : Bord w w.length (w.length - d) := by
  refine ⟨by omega,fun t ht => ?_⟩
  rw [h t (by omega)]; congr 1; omega
theorem xQt {w : List Nat} {F d : Nat} (hF : Bord w w.length F) (hm : xYX w w.length F) (h0 : 0 < d) (hd : d ≤ w.length) (hdv : w.length % d = 0) (h : ∀ t,t + d < w.length → w.getD t 0 = w.getD (t + d) 0) :
    w.length - F ≤ d ∧ (w.length % (w.length - F) ≠ 0 → w.length ≤ d) := by
  have h1 := hm _ (xIe h0 hd h)
  have hF1 := hF.1
  refine ⟨by omega,fun hne => ?_⟩
  rcases Nat.lt_or_ge d w.length with hlt | hge
  · exfalso
    obtain ⟨k,hk⟩ := Nat.dvd_of_mod_eq_zero hdv
    have hk2 : 2 ≤ k := by
      rcases Nat.lt_or_ge k 2 with e | e
      · have : k = 0 ∨ k = 1 := by omega
        rcases this with rfl | rfl <;> omega
      · exact e
    have h2d : d + d ≤ w.length := by
      have : d * 2 ≤ d * k := Nat.mul_le_mul_left d hk2
      omega
    have hT : ∀ t,t < w.length → w.getD t 0 = w.getD (t % d) 0 := xLe (r := []) h0 hd h
    have e1 : ∀ t,w.getD ((t + d) % d) 0 = w.getD (t % d) 0 := fun t => by rw [Nat.add_mod_right]
    have e2 : ∀ t,w.getD ((t + (w.length - F)) % d) 0 = w.getD (t % d) 0 := fun t => by
      have hmd := Nat.mod_lt t h0
      have a1 : (t + (w.length - F)) % d = (t % d + (w.length - F)) % d := by rw [Nat.mod_add_mod]
      rw [a1,← hT _ (by omega),hF.2 (t % d) (by omega)]
      congr 1; omega
    have e3 := xUv (h := fun t => w.getD (t % d) 0) _ _ e2 e1
    have hg0 : 0 < Nat.gcd (w.length - F) d := Nat.gcd_pos_of_pos_right _ h0
    have hgd : Nat.gcd (w.length - F) d ≤ d := Nat.le_of_dvd h0 (Nat.gcd_dvd_right ..)
    have hgp : Nat.gcd (w.length - F) d ≤ w.length - F := Nat.le_of_dvd (by omega) (Nat.gcd_dvd_left ..)
    have h4 := hm _ (xIe hg0 (by omega) (fun t ht => by
      rw [hT t (by omega),hT _ ht]
      exact (e3 t).symm))
    have heq : Nat.gcd (w.length - F) d = w.length - F := by omega
    have hdvd : (w.length - F) ∣ d := heq ▸ Nat.gcd_dvd_right (w.length - F) d
    exact hne (Nat.mod_eq_zero_of_dvd (Nat.dvd_trans hdvd ⟨k,hk⟩))
  · exact hge
theorem xUw (z : Bool) (w : List Nat) (hw0 : 0 < w.length) (hw : w.length < 1099511627776) :
    ∃ p,yAJ w p ∧ L.pcall 83 [xBc z w] = some (xBc z (w.take p)) := by
  obtain ⟨fl,k',h1,h2,h3⟩ := xFx (z := z) hw (w.length - 1) 1 0 (List.replicate (w.length + 1) 0) (by omega) (by omega) (by simp) (fun j h0 h1 => by
    have : j = 1 := by omega
    subst this
    rw [List.getD_eq_getElem?_getD,List.getElem?_replicate,if_pos (by omega)]
    exact ⟨.zero (by omega),fun b hb => by have := hb.1; show b ≤ 0; omega⟩) (.zero (by omega)) (fun b hb => by have := hb.1; omega)
  change L.loop xJa xSP ⟨xJb (xBc z w) (.own false 0 0 (w.length + 1) 1) (.int .i64 0) (.int .i64 1),_⟩ = _ at h3
  obtain ⟨hb,hmx⟩ := h2 w.length hw0 (Nat.le_refl _)
  have hb1 := hb.1
  by_cases hd : w.length % (w.length - fl.getD w.length 0) = 0
  · refine ⟨w.length - fl.getD w.length 0,⟨by omega,by omega,hd,fun t ht => ?_,fun d d1 d2 d3 d4 => (xQt hb hmx d1 d2 d3 d4).1⟩,?_⟩
    · rw [hb.2 t (by omega)]; congr 1; omega
    · have hd' : (((w.length % (w.length - fl.getD w.length 0) : Nat) : Int) = 0) := by omega
      rw [yCj,a83,xAl]
      simp (maxSteps := 30000000) (disch := first | assumption | omega | (simp only [WL,AV.isCell] <;> omega) | rfl | decide) only [↓reduceIte,WB,xAu,xAc,xAt,xAk,xAj,AV.cells,AV.isCell,xAa,xAd,xAe,WP,xAH,xAA,xBz,xBw,xBn,xAF,xAM,xAJ,Nat.reduceAdd,Nat.reduceSub,Nat.reduceLeDiff,Nat.reduceMul,Int.reduceAdd,Int.reduceSub,Int.reduceMul,Int.reduceLT,Int.reduceLE,Int.reduceEq,Int.reduceToNat,Int.reduceNeg,Nat.reduceEqDiff,Nat.reduceBEq,Nat.reduceLT,xMp,h3,hd']
      exact congrArg some (xC7 (by rw [List.length_take,Nat.min_eq_left (by omega)]))
  · refine ⟨w.length,⟨hw0,Nat.le_refl _,Nat.mod_self _,fun t ht => (by omega),fun d d1 d2 d3 d4 => (xQt hb hmx d1 d2 d3 d4).2 hd⟩,?_⟩
    have hd' : ¬ (((w.length % (w.length - fl.getD w.length 0) : Nat) : Int) = 0) := by omega
    rw [yCj,a83,xAl]
    simp (maxSteps := 30000000) (disch := first | assumption | omega | (simp only [WL,AV.isCell] <;> omega) | rfl | decide) only [↓reduceIte,WB,xAu,xAc,xAt,xAk,xAj,AV.cells,AV.isCell,xAa,xAd,xAe,WP,xAH,xAA,xBz,xBw,xBn,xAF,xAM,xAJ,Nat.reduceAdd,Nat.reduceSub,Nat.reduceLeDiff,Nat.reduceMul,Int.reduceAdd,Int.reduceSub,Int.reduceMul,Int.reduceLT,Int.reduceLE,Int.reduceEq,Int.reduceToNat,Int.reduceNeg,Nat.reduceEqDiff,Nat.reduceBEq,Nat.reduceLT,xMp,h3,hd']
theorem xNK (w : List Nat) (hw : w.length < 1099511627776) : xBD L 72 [xBc false w] = some (.own false 0 0 w.length 1,[.cells false false (bs w)]) ∧ xBD L 72 [.sl true 0 []] = some (.sl true 0 [],[]) := by
  constructor
  · rw [xCR,yCh,a72,xCx]
    simp (maxSteps := 30000000) (disch := first | assumption | omega | (simp only [WL,AV.isCell] <;> omega) | rfl | decide) only [↓reduceIte,WB,xAu,xAc,xAt,xAk,xAj,AV.cells,AV.isCell,xAa,xAd,xAe,WP,xAH,xAA,xBz,xBw,xBn,xAF,xAM,xAJ,Nat.reduceAdd,Nat.reduceSub,Nat.reduceLeDiff,Nat.reduceMul,Int.reduceAdd,Int.reduceSub,Int.reduceMul,Int.reduceLT,Int.reduceLE,Int.reduceEq,Int.reduceToNat,Int.reduceNeg,Nat.reduceEqDiff,Nat.reduceBEq,Nat.reduceLT,List.length_take,List.take_zero,List.drop_zero,List.take_length,Nat.zero_mul]
  · rw [xCR,yCh,a72,xCx]
    simp (maxSteps := 30000000) (disch := first | assumption | omega | (simp only [WL,AV.isCell] <;> omega) | rfl | decide) only [↓reduceIte,WB,xAu,xAc,xAt,xAk,xAj,AV.cells,AV.isCell,xAa,xAd,xAe,WP,xAH,xAA,xBz,xBw,xBn,xAF,xAM,xAJ,Nat.reduceAdd,Nat.reduceSub,Nat.reduceLeDiff,Nat.reduceMul,Int.reduceAdd,Int.reduceSub,Int.reduceMul,Int.reduceLT,Int.reduceLE,Int.reduceEq,Int.reduceToNat,Int.reduceNeg,Nat.reduceEqDiff,Nat.reduceBEq,Nat.reduceLT]
set_option maxHeartbeats 1000000 in
theorem xKi (z1 z2 : Bool) (a b : List Nat) (ha : a.length < 1099511627776) (hb : b.length < 1099511627776) (h0 : ¬ a.length + b.length = 0) : xBD L 76 [.sl false 2 [xBc z1 a,xBc z2 b]] = some (.own false 0 0 (a.length + b.length) 1,[.cells false false (bs (a ++ b))]) := by
  have hbeq : (a.length + b.length == 0) = false := by simpa using h0
  have hn0 : (0 : Int) < ((a.length + b.length : Nat) : Int) := by omega
  rw [xCR,yCM,a76,xCx]
  simp (maxSteps := 30000000) (disch := first | assumption | omega | (simp only [WL,AV.isCell] <;> omega) | rfl | decide) only [↓reduceIte,WB,xAu,xAc,xAt,xAk,xAj,AV.cells,AV.isCell,xAa,xAd,xAe,WP,xAH,xAA,xBz,xBw,xBn,xAF,xAM,xAJ,Nat.reduceAdd,Nat.reduceSub,Nat.reduceLeDiff,Nat.reduceMul,Int.reduceAdd,Int.reduceSub,Int.reduceMul,Int.reduceLT,Int.reduceLE,Int.reduceEq,Int.reduceToNat,Int.reduceNeg,Nat.reduceEqDiff,Nat.reduceBEq,Nat.reduceLT,xZ3,xZ4,xSH,xZ5,xZ6,xSJ,yCU,a96,hn0,hbeq]
end Go.Abs.Mealy
/- Canonical: the shortest form,by what the lasso denotes. -/
namespace Go.Abs.Mealy
set_option linter.unusedVariables false
set_option linter.unusedSimpArgs false
open Go Go.Abs
def xCT (p r : List Nat) : Nat → Nat → Nat × Nat
  | 0,at_ => (0,at_)
  | n + 1,at_ => if p.getD n 0 = r.getD (at_ - 1) 0 then xCT p r n (if at_ - 1 = 0 then r.length else at_ - 1) else (n + 1,at_)
theorem xDZ (z : Bool) (zz : Bool) (p r : List Nat) (q1 : AV) (b1 : Blk) (hr : 0 < r.length) (hr2 : r.length < 1099511627776) (hp : p.length < 1099511627776) : ∀ n a,n ≤ p.length → 0 < a → a ≤ r.length →
    L.loop xMe xVS ⟨xMf (.ptr 0 0) (.ptr 1 0) (xBc z r) (.int .i64 (n : Nat)) (.int .i64 (a : Nat)),[.cells false false [xBc zz p,q1],b1]⟩ =
      some (.exit 0,⟨xMf (.ptr 0 0) (.ptr 1 0) (xBc z r) (.int .i64 ((xCT p r n a).1 : Nat)) (.int .i64 ((xCT p r n a).2 : Nat)),[.cells false false [xBc zz p,q1],b1]⟩)
  | 0,a,hn,ha,har => by
    rw [xWV]
    simp (maxSteps := 30000000) (disch := first | assumption | omega | (simp only [WL,AV.isCell] <;> omega) | rfl | decide) only [↓reduceIte,WB,xAu,xAc,xAt,xAk,xAj,AV.cells,AV.isCell,xAa,xAd,xAe,WP,xAH,xAA,xBz,xBw,xBn,xAF,xAM,xAJ,Nat.reduceAdd,Nat.reduceSub,Nat.reduceLeDiff,Nat.reduceMul,Int.reduceAdd,Int.reduceSub,Int.reduceMul,Int.reduceLT,Int.reduceLE,Int.reduceEq,Int.reduceToNat,Int.reduceNeg,Nat.reduceEqDiff,Nat.reduceBEq,Nat.reduceLT,xI6,xFZ,xCT]
  | n + 1,a,hn,ha,har => by
    have h0 : (0 : Int) < ((n + 1 : Nat) : Int) := by omega
    have hm : (a - 1) % r.length = a - 1 := Nat.mod_eq_of_lt (by omega)
    rw [xWV]
    unfold xCT
    by_cases he : p.getD n 0 = r.getD (a - 1) 0
    · have heq : (((p.getD n 0 : Nat) : Int) = ((r.getD (a - 1) 0 : Nat) : Int)) = True := eq_true (by omega)
      by_cases h1 : a - 1 = 0
      · have ih := xDZ z zz p r q1 b1 hr hr2 hp n r.length (by omega) hr (Nat.le_refl _)
        have h1' : ((a - 1 : Nat) : Int) = 0 := by omega
        simp (maxSteps := 30000000) (disch := first | assumption | omega | (simp only [WL,AV.isCell] <;> omega) | rfl | decide) only [↓reduceIte,WB,xAu,xAc,xAt,xAk,xAj,AV.cells,AV.isCell,xAa,xAd,xAe,WP,xAH,xAA,xBz,xBw,xBn,xAF,xAM,xAJ,Nat.reduceAdd,Nat.reduceSub,Nat.reduceLeDiff,Nat.reduceMul,Int.reduceAdd,Int.reduceSub,Int.reduceMul,Int.reduceLT,Int.reduceLE,Int.reduceEq,Int.reduceToNat,Int.reduceNeg,Nat.reduceEqDiff,Nat.reduceBEq,Nat.reduceLT,xI6,xFZ,h0,hm,heq,he,h1,h1',Nat.add_sub_cancel,ih]
      · have ih := xDZ z zz p r q1 b1 hr hr2 hp n (a - 1) (by omega) (by omega) (by omega)
        have h1' : ¬ ((a - 1 : Nat) : Int) = 0 := by omega
        simp (maxSteps := 30000000) (disch := first | assumption | omega | (simp only [WL,AV.isCell] <;> omega) | rfl | decide) only [↓reduceIte,WB,xAu,xAc,xAt,xAk,xAj,AV.cells,AV.isCell,xAa,xAd,xAe,WP,xAH,xAA,xBz,xBw,xBn,xAF,xAM,xAJ,Nat.reduceAdd,Nat.reduceSub,Nat.reduceLeDiff,Nat.reduceMul,Int.reduceAdd,Int.reduceSub,Int.reduceMul,Int.reduceLT,Int.reduceLE,Int.reduceEq,Int.reduceToNat,Int.reduceNeg,Nat.reduceEqDiff,Nat.reduceBEq,Nat.reduceLT,xI6,xFZ,h0,hm,heq,he,h1,h1',Nat.add_sub_cancel,ih]
    · have hne : ¬ (((p.getD n 0 : Nat) : Int) = ((r.getD (a - 1) 0 : Nat) : Int)) := by omega
      simp (maxSteps := 30000000) (disch := first | assumption | omega | (simp only [WL,AV.isCell] <;> omega) | rfl | decide) only [↓reduceIte,WB,xAu,xAc,xAt,xAk,xAj,AV.cells,AV.isCell,xAa,xAd,xAe,WP,xAH,xAA,xBz,xBw,xBn,xAF,xAM,xAJ,Nat.reduceAdd,Nat.reduceSub,Nat.reduceLeDiff,Nat.reduceMul,Int.reduceAdd,Int.reduceSub,Int.reduceMul,Int.reduceLT,Int.reduceLE,Int.reduceEq,Int.reduceToNat,Int.reduceNeg,Nat.reduceEqDiff,Nat.reduceBEq,Nat.reduceLT,xI6,xFZ,h0,hm,hne,he,Nat.add_sub_cancel]
theorem xKj (p r : List Nat) (S : Nat → Nat) (hr : 0 < r.length) : ∀ n a,n ≤ p.length → 0 < a → a ≤ r.length → (∀ i,i < n → S i = p.getD i 0) → (∀ j,n ≤ j → S j = r.getD ((a + (j - n)) % r.length) 0) →
    (xCT p r n a).1 ≤ n ∧ 0 < (xCT p r n a).2 ∧ (xCT p r n a).2 ≤ r.length ∧ (∀ i,i < (xCT p r n a).1 → S i = p.getD i 0) ∧ (∀ j,(xCT p r n a).1 ≤ j → S j = r.getD (((xCT p r n a).2 + (j - (xCT p r n a).1)) % r.length) 0)
  | 0,a,hn,h0,ha,h1,h2 => ⟨Nat.le_refl _,h0,ha,h1,h2⟩
  | n + 1,a,hn,h0,ha,h1,h2 => by
    unfold xCT
    by_cases he : p.getD n 0 = r.getD (a - 1) 0
    · rw [if_pos he]
      have hS : ∀ b,(b = a - 1 ∨ b = a - 1 + r.length) → ∀ j,n ≤ j → S j = r.getD ((b + (j - n)) % r.length) 0 := by
        intro b hb j hj
        by_cases hjn : j = n
        · subst hjn
          rw [h1 j (by omega),he,Nat.sub_self,Nat.add_zero]
          rcases hb with rfl | rfl
          · rw [Nat.mod_eq_of_lt (by omega)]
          · rw [Nat.add_mod_right,Nat.mod_eq_of_lt (by omega)]
        · rw [h2 j (by omega)]
          rcases hb with rfl | rfl
          · rw [show a - 1 + (j - n) = a + (j - (n + 1)) by omega]
          · rw [show a - 1 + r.length + (j - n) = a + (j - (n + 1)) + r.length by omega,Nat.add_mod_right]
      have ih := xKj p r S hr n (if a - 1 = 0 then r.length else a - 1) (by omega) (by split <;> omega) (by split <;> omega) (fun i hi => h1 i (by omega)) (hS _ (by split <;> omega))
      exact ⟨by omega,ih.2⟩
    · rw [if_neg he]
      exact ⟨Nat.le_refl _,h0,ha,h1,h2⟩
theorem xKk (p r : List Nat) : ∀ n a,(xCT p r n a).1 = 0 ∨ p.getD ((xCT p r n a).1 - 1) 0 ≠ r.getD ((xCT p r n a).2 - 1) 0
  | 0,a => .inl rfl
  | n + 1,a => by
    unfold xCT
    by_cases he : p.getD n 0 = r.getD (a - 1) 0
    · rw [if_pos he]; exact xKk p r n _
    · rw [if_neg he]; exact .inr (by simpa using he)
theorem xD0 {p q : List Nat} {i : Nat} (h : i < p.length) : xAY p q i = p.getD i 0 := if_pos h
theorem xBd {p q : List Nat} {i : Nat} (h : p.length ≤ i) : xAY p q i = (xAI q).getD ((i - p.length) % (xAI q).length) 0 := if_neg (by omega)
theorem xBZ {q : List Nat} (h : 0 < q.length) : xAI q = q := if_neg (by intro e; subst e; simp at h)
theorem xE5 {p q : List Nat} (hq : 0 < q.length) {i : Nat} (hi : p.length ≤ i) : xAY p q (i + q.length) = xAY p q i := by
  rw [xBd (by omega),xBd hi,xBZ hq,show i + q.length - p.length = i - p.length + q.length by omega,Nat.add_mod_right]
def Canon (S : Nat → Nat) (p q : List Nat) : Prop := 0 < q.length ∧ (∀ i,xAY p q i = S i) ∧ (∀ d a,0 < d → (∀ i,a ≤ i → S (i + d) = S i) → q.length ≤ d) ∧ ∀ a,(∀ i,a ≤ i → S (i + q.length) = S i) → p.length ≤ a
theorem xBu {a b : List Nat} (h : a.length = b.length) (k : ∀ i,i < a.length → a.getD i 0 = b.getD i 0) : a = b := by
  apply List.ext_getElem h
  intro i h1 h2
  have := k i h1
  rwa [List.getD_eq_getElem?_getD,List.getD_eq_getElem?_getD,List.getElem?_eq_getElem h1,List.getElem?_eq_getElem h2,Option.getD_some,Option.getD_some] at this
theorem Canon.uniq {S : Nat → Nat} {p q p' q' : List Nat} (h : Canon S p q) (k : Canon S p' q') : p = p' ∧ q = q' := by
  obtain ⟨h1,h2,h3,h4⟩ := h
  obtain ⟨k1,k2,k3,k4⟩ := k
  have e1 := h3 q'.length p'.length k1 (fun i hi => by rw [← k2,← k2,xE5 k1 hi])
  have e2 := k3 q.length p.length h1 (fun i hi => by rw [← h2,← h2,xE5 h1 hi])
  have e : q.length = q'.length := by omega
  have f1 := h4 p'.length (fun i hi => by rw [← k2,← k2,e,xE5 k1 hi])
  have f2 := k4 p.length (fun i hi => by rw [← h2,← h2,← e,xE5 h1 hi])
  have f : p.length = p'.length := by omega
  refine ⟨xBu f fun i hi => ?_,xBu e fun i hi => ?_⟩
  · have := (h2 i).trans (k2 i).symm
    rwa [xD0 hi,xD0 (by omega)] at this
  · have := (h2 (p.length + i)).trans (k2 (p.length + i)).symm
    rwa [xBd (by omega),xBd (by omega),xBZ h1,xBZ k1,← f,Nat.add_sub_cancel_left,Nat.mod_eq_of_lt hi,← e,Nat.mod_eq_of_lt hi] at this
theorem xE6 {p q : List Nat} {per : Nat} (hR : yAJ (xAI q) per) : ∀ n a,(n,a) = xCT p ((xAI q).take per) p.length per → n ≤ p.length ∧ 0 < a ∧ a ≤ per ∧
    Canon (xAY p q) (p.take n) (((xAI q).take per).drop (a % per) ++ ((xAI q).take per).take (a % per)) := by
  intro n a hsh
  obtain ⟨h1,h2,h3,h4,h5⟩ := hR
  have hfp := xCn q
  have hrl : ((xAI q).take per).length = per := by rw [List.length_take]; omega
  have hS := xKj p ((xAI q).take per) (xAY p q) (by omega) p.length ((xAI q).take per).length (Nat.le_refl _) (by omega) (Nat.le_refl _) (fun i hi => by simp [xAY,hi]) (fun j hj => by
    unfold xAY
    rw [if_neg (by omega),xLe (r := []) h1 h2 h4 _ (Nat.mod_lt _ hfp),Nat.mod_mod_of_dvd _ (Nat.dvd_of_mod_eq_zero h3),hrl,Nat.add_mod_left,xE4 (Nat.mod_lt _ h1)])
  have hst := xKk p ((xAI q).take per) p.length ((xAI q).take per).length
  rw [hrl,← hsh] at hS hst
  generalize hr : (xAI q).take per = r at *
  obtain ⟨s1,s2,s3,s4,s5⟩ := hS
  simp only at s1 s2 s3 s4 s5 hst
  have yAi : a % per < per := Nat.mod_lt _ (by omega)
  have hlen : (r.drop (a % per) ++ r.take (a % per)).length = per := by rw [List.length_append,List.length_drop,List.length_take]; omega
  have hne : xAI (r.drop (a % per) ++ r.take (a % per)) = r.drop (a % per) ++ r.take (a % per) := xBZ (by omega)
  have hn : (p.take n).length = n := by rw [List.length_take]; omega
  refine ⟨s1,s2,s3,by omega,fun i => ?_,fun d b hd hb => ?_,fun b hb => ?_⟩
  · unfold xAY
    rw [hne,hlen,hn]
    by_cases hi : i < n
    · rw [if_pos hi,xE4 hi,← s4 i hi]
      simp [xAY,show i < p.length by omega]
    · rw [if_neg hi,← hrl,yAI _ _ (Nat.mod_lt _ (by omega)) _ (Nat.mod_lt _ (by omega)),Nat.add_mod,Nat.mod_mod,Nat.mod_mod,← Nat.add_mod]
      rw [← hrl] at s5
      exact (s5 i (by omega)).symm
  · -- the loop's letters have the period d,so its length's divisor
    rw [hlen]
    have hT : ∀ t,xAY p q (p.length + t) = (xAI q).getD (t % (xAI q).length) 0 := fun t => by rw [xBd (by omega),Nat.add_sub_cancel_left]
    have e1 : ∀ t,(fun t => xAY p q (p.length + t)) (t + (xAI q).length) = (fun t => xAY p q (p.length + t)) t := fun t => by simp only [hT,Nat.add_mod_right]
    have e2 : ∀ t,(fun t => xAY p q (p.length + t)) (t + d) = (fun t => xAY p q (p.length + t)) t := fun t => by
      have m1 := xDY (h := fun t => xAY p q (p.length + t)) e1 b (t + d)
      have m2 := xDY (h := fun t => xAY p q (p.length + t)) e1 b t
      simp only at m1 m2 ⊢
      have hbn : b ≤ b * (xAI q).length := Nat.le_mul_of_pos_right _ hfp
      have := hb (p.length + (t + b * (xAI q).length)) (by omega)
      rw [← m1,← m2,← this]
      congr 1; omega
    have e3 := xUv (h := fun t => xAY p q (p.length + t)) _ _ e2 e1
    have hg0 : 0 < Nat.gcd d (xAI q).length := Nat.gcd_pos_of_pos_left _ hd
    have hgd : Nat.gcd d (xAI q).length ≤ d := Nat.le_of_dvd hd (Nat.gcd_dvd_left ..)
    have := h5 (Nat.gcd d (xAI q).length) hg0 (Nat.le_of_dvd hfp (Nat.gcd_dvd_right ..)) (Nat.mod_eq_zero_of_dvd (Nat.gcd_dvd_right ..)) (fun t ht => by
      have := e3 t
      simp only [hT] at this
      rw [Nat.mod_eq_of_lt ht,Nat.mod_eq_of_lt (by omega)] at this
      exact this.symm)
    omega
  · rw [hn]
    rw [hlen] at hb
    rcases hst with h0 | hne'
    · omega
    · rcases Nat.lt_or_ge b n with hlt | hge
      · exfalso
        have k1 := hb (n - 1) (by omega)
        rw [s4 (n - 1) (by omega),s5 (n - 1 + per) (by omega),show a + (n - 1 + per - n) = a - 1 + per by omega,Nat.add_mod_right,Nat.mod_eq_of_lt (by omega)] at k1
        exact hne' k1.symm
      · exact hge
theorem xQu (q : List Nat) (hq : q.length < 1099511627776) : (xAI q).length < 1099511627776 := by rw [xBF]; omega
set_option maxHeartbeats 4000000 in
theorem xIf (z2 : Bool) (p q : List Nat) (hp : p.length < 1099511627776) (hq : q.length < 1099511627776) :
    ∃ p' q',Canon (xAY p q) p' q' ∧ p'.length ≤ p.length ∧ q'.length ≤ (xAI q).length ∧
      L.pcall 49 [las false z2 p q] = some (las false false p' q') ∧
      xBD L 49 [las false z2 p q] = some (.agg [.own false 0 0 p'.length 1,.own false 1 0 q'.length 1],[.cells false false (bs p'),.cells false false (bs q')]) := by
  obtain ⟨z,hfull⟩ := xLc false z2 p q
  have hfl := xBF q
  have hfp := xCn q
  have hfq := xQu q hq
  obtain ⟨per,hR,h5⟩ := xUw z (xAI q) hfp (by omega)
  have hC := xE6 (p := p) hR
  obtain ⟨h1,h2,h3,h4,-⟩ := hR
  have hrl : ((xAI q).take per).length = per := by rw [List.length_take]; omega
  generalize hr : (xAI q).take per = r at *
  have hl := xDZ z false p r (xBc z (xAI q)) (.cells false false [.sl true 0 [],.sl true 0 []]) (by omega) (by omega) hp p.length r.length (Nat.le_refl _) (by omega) (Nat.le_refl _)
  rw [hrl] at hl
  generalize hsh : xCT p r p.length per = s at *
  obtain ⟨n,a⟩ := s
  obtain ⟨c1,c2,c3,c4⟩ := hC n a rfl
  simp only at hl
  have yAi : a % per < per := Nat.mod_lt _ (by omega)
  have hlen : (r.drop (a % per) ++ r.take (a % per)).length = per := by rw [List.length_append,List.length_drop,List.length_take]; omega
  have hn : (p.take n).length = n := by rw [List.length_take]; omega
  have hc := (xNK (p.take n) (by omega)).1
  have hcc := xKi z z (r.drop (a % per)) (r.take (a % per)) (by rw [List.length_drop]; omega) (by rw [List.length_take]; omega) (by rw [← List.length_append]; omega)
  rw [← List.length_append,hlen] at hcc
  have hc' : xBD L 72 [.sl false n (bs (p.take n))] = some (.own false 0 0 n 1,[.cells false false (bs (p.take n))]) := by
    unfold xBc at hc
    rwa [hn] at hc
  have hcc' : xBD L 76 [.sl false 2 [.sl z (per - a % per) (bs (r.drop (a % per))),.sl z (a % per) (bs (r.take (a % per)))]] = some (.own false 0 0 per 1,[.cells false false (bs (r.drop (a % per) ++ r.take (a % per)))]) := by
    rw [xC7 (by rw [List.length_drop]; omega),xC7 (by rw [List.length_take]; omega)]; exact hcc
  have htk : List.take (per - a % per) (List.drop (a % per) r) = List.drop (a % per) r := List.take_of_length_le (by rw [List.length_drop]; omega)
  refine ⟨p.take n,r.drop (a % per) ++ r.take (a % per),c4,by omega,by omega,?_,?_⟩
  · rw [yCf,a49,xAl]
    simp (maxSteps := 30000000) (disch := first | assumption | omega | (simp only [WL,AV.isCell] <;> omega) | rfl | decide) only [↓reduceIte,WB,xAu,xAc,xAt,xAk,xAj,AV.cells,AV.isCell,xAa,xAd,xAe,WP,xAH,xAA,xBz,xBw,xBn,xAF,xAM,xAJ,Nat.reduceAdd,Nat.reduceSub,Nat.reduceLeDiff,Nat.reduceMul,Int.reduceAdd,Int.reduceSub,Int.reduceMul,Int.reduceLT,Int.reduceLE,Int.reduceEq,Int.reduceToNat,Int.reduceNeg,Nat.reduceEqDiff,Nat.reduceBEq,Nat.reduceLT,hfull,h5,hrl,xFZ,hl,hc',htk,hcc']
    rw [List.take_of_length_le (by omega : (p.take n).length ≤ n),List.take_of_length_le (by omega : (r.drop (a % per) ++ r.take (a % per)).length ≤ per),xC7 hn,xC7 hlen]
  · rw [xCR,yCg,a49,xCx]
    simp (maxSteps := 30000000) (disch := first | assumption | omega | (simp only [WL,AV.isCell] <;> omega) | rfl | decide) only [↓reduceIte,WB,xAu,xAc,xAt,xAk,xAj,AV.cells,AV.isCell,xAa,xAd,xAe,WP,xAH,xAA,xBz,xBw,xBn,xAF,xAM,xAJ,Nat.reduceAdd,Nat.reduceSub,Nat.reduceLeDiff,Nat.reduceMul,Int.reduceAdd,Int.reduceSub,Int.reduceMul,Int.reduceLT,Int.reduceLE,Int.reduceEq,Int.reduceToNat,Int.reduceNeg,Nat.reduceEqDiff,Nat.reduceBEq,Nat.reduceLT,hfull,h5,hrl,xFZ,hl,hc',htk,hcc']
    rw [hn,← List.length_append,hlen]
set_option maxHeartbeats 4000000 in
theorem xRv (z2 : Bool) (q : List Nat) (hq : q.length < 1099511627776) :
    ∃ q',Canon (xAY [] q) [] q' ∧ q'.length ≤ (xAI q).length ∧
      L.pcall 49 [las true z2 [] q] = some (las true false [] q') ∧
      xBD L 49 [las true z2 [] q] = some (.agg [.sl true 0 [],.own false 0 0 q'.length 1],[.cells false false (bs q')]) := by
  obtain ⟨z,hfull⟩ := xLc true z2 [] q
  have hfl := xBF q
  have hfp := xCn q
  have hfq := xQu q hq
  obtain ⟨per,hR,h5⟩ := xUw z (xAI q) hfp (by omega)
  have hC := xE6 (p := []) hR
  obtain ⟨h1,h2,h3,h4,-⟩ := hR
  have hrl : ((xAI q).take per).length = per := by rw [List.length_take]; omega
  generalize hr : (xAI q).take per = r at *
  have hl := xDZ z true [] r (xBc z (xAI q)) (.cells false false [.sl true 0 [],.sl true 0 []]) (by omega) (by omega) (by simp) 0 r.length (by simp) (by omega) (Nat.le_refl _)
  rw [hrl] at hl
  obtain ⟨c1,c2,c3,c4⟩ := hC 0 per rfl
  simp only [xCT,Int.natCast_zero,xBc,List.length_nil] at hl
  simp only [las,xBc,List.length_nil] at hfull
  have hm0 : per % per = 0 := Nat.mod_self per
  rw [hm0] at c4
  simp only [List.take_nil,List.drop_zero,List.take_zero,List.append_nil] at c4
  have hc := (xNK [] (by simp)).2
  have hcc := xKi z z r [] (by omega) (by simp) (by rw [List.length_nil]; omega)
  simp only [List.append_nil,List.length_nil,Nat.add_zero,hrl] at hcc
  have hcc' : xBD L 76 [.sl false 2 [.sl z per (bs r),.sl z 0 []]] = some (.own false 0 0 per 1,[.cells false false (bs r)]) := by
    rw [xC7 hrl]; exact hcc
  have htk : List.take per r = r := List.take_of_length_le (by omega)
  refine ⟨r,c4,by omega,?_,?_⟩
  · rw [yCf,a49,xAl]
    simp (maxSteps := 30000000) (disch := first | assumption | omega | (simp only [WL,AV.isCell] <;> omega) | rfl | decide) only [↓reduceIte,WB,xAu,xAc,xAt,xAk,xAj,AV.cells,AV.isCell,xAa,xAd,xAe,WP,xAH,xAA,xBz,xBw,xBn,xAF,xAM,xAJ,Nat.reduceAdd,Nat.reduceSub,Nat.reduceLeDiff,Nat.reduceMul,Int.reduceAdd,Int.reduceSub,Int.reduceMul,Int.reduceLT,Int.reduceLE,Int.reduceEq,Int.reduceToNat,Int.reduceNeg,Nat.reduceEqDiff,Nat.reduceBEq,Nat.reduceLT,hfull,h5,hrl,xFZ,hl,hc,hm0,htk,hcc']
    rw [xC7 hrl]
    rfl
  · rw [xCR,yCg,a49,xCx]
    simp (maxSteps := 30000000) (disch := first | assumption | omega | (simp only [WL,AV.isCell] <;> omega) | rfl | decide) only [↓reduceIte,WB,xAu,xAc,xAt,xAk,xAj,AV.cells,AV.isCell,xAa,xAd,xAe,WP,xAH,xAA,xBz,xBw,xBn,xAF,xAM,xAJ,Nat.reduceAdd,Nat.reduceSub,Nat.reduceLeDiff,Nat.reduceMul,Int.reduceAdd,Int.reduceSub,Int.reduceMul,Int.reduceLT,Int.reduceLE,Int.reduceEq,Int.reduceToNat,Int.reduceNeg,Nat.reduceEqDiff,Nat.reduceBEq,Nat.reduceLT,hfull,h5,hrl,xFZ,hl,hc,hm0,htk,hcc']
end Go.Abs.Mealy
/- The reference's small functions. -/
namespace Go.Abs.Mealy
set_option linter.unusedVariables false
set_option linter.unusedSimpArgs false
open Go Go.Abs
end Go.Abs.Mealy
/- The reference: repeats. -/
namespace Go.Abs.Mealy
set_option linter.unusedVariables false
set_option linter.unusedSimpArgs false
open Go Go.Abs
def xLf (f : Nat → Nat) (n : Nat) : List Nat := (List.range n).map f
theorem xRw (f : Nat → Nat) (n : Nat) : xLf f n ++ [f n] = xLf f (n + 1) := by simp [xLf,List.range_succ]
theorem xNL (f : Nat → Nat) (n : Nat) : (xLf f n).length = n := by simp [xLf]
end Go.Abs.Mealy
/- The reference: Canonical. -/
namespace Go.Abs.Mealy
set_option linter.unusedVariables false
set_option linter.unusedSimpArgs false
open Go Go.Abs
def PerAt (S : Nat → Nat) (a d : Nat) : Prop := ∀ i,a ≤ i → S (i + d) = S i
theorem PerAt.back {p q : List Nat} {a d : Nat} (hq : 0 < q.length) (h : PerAt (xAY p q) a d) : PerAt (xAY p q) p.length d := by
  intro i hi
  have e1 : ∀ t,(fun t => xAY p q (p.length + t)) (t + q.length) = (fun t => xAY p q (p.length + t)) t := fun t => by
    simp only
    rw [← Nat.add_assoc]; exact xE5 hq (by omega)
  have m1 := xDY (h := fun t => xAY p q (p.length + t)) e1 a (i - p.length + d)
  have m2 := xDY (h := fun t => xAY p q (p.length + t)) e1 a (i - p.length)
  have hbn : a ≤ a * q.length := Nat.le_mul_of_pos_right _ hq
  have := h (p.length + (i - p.length + a * q.length)) (by omega)
  rw [show i + d = p.length + (i - p.length + d) by omega,← m1,show p.length + (i - p.length + d + a * q.length) = p.length + (i - p.length + a * q.length) + d by omega,this,m2]
  congr 1; omega
end Go.Abs.Mealy
/- Letters and Is on equal data. -/
namespace Go.Abs.Mealy
set_option linter.unusedVariables false
set_option linter.unusedSimpArgs false
open Go Go.Abs
end Go.Abs.Mealy
/- letters,Take,Compare,Equal. -/
namespace Go.Abs.Mealy
set_option linter.unusedVariables false
set_option linter.unusedSimpArgs false
open Go Go.Abs
set_option linter.unusedSimpArgs false
theorem xNM (z1 z2 : Bool) (p q : List Nat) (i : Nat) (hp : p.length < 1099511627776) (hq : q.length < 1099511627776) (h2 : i < 9223372036854775808) :
    L.pcall 47 [las z1 z2 p q,.int .i64 (i : Nat)] = some (.int .u8 (xAY p q i : Nat)) := by
  rw [yAH z1 z2 p q i hp hq (by omega) (by omega),xUu]
inductive Rds (l : Nat) (f : Nat → AV) (N : Nat) (Inv : Heap → Prop) : Nat → Heap → Heap → Prop
  | done {i : Nat} {H : Heap} (h : N ≤ i) : Rds l f N Inv i H H
  | stop {i : Nat} {H H' : Heap} (h : i < N) (hr : L.icall (.yield l) [.int .i64 (i : Nat),f i] H = some (.bool false,H')) : Rds l f N Inv i H H'
  | next {i : Nat} {H H1 H' : Heap} (h : i < N) (hr : L.icall (.yield l) [.int .i64 (i : Nat),f i] H = some (.bool true,H1)) (hi : Inv H1) (k : Rds l f N Inv (i + 1) H1 H') : Rds l f N Inv i H H'
def PQ (z1 z2 : Bool) (p q : List Nat) (cb : Nat) (H : Heap) : Prop := ∃ fz z,H[cb]? = some (.cells fz z [xBc z1 p,xBc z2 q])
theorem yAK {l cb N : Nat} {z1 z2 : Bool} {p q : List Nat} (hp : p.length < 1099511627776) (hq : q.length < 1099511627776) (hN : N < 1099511627776) {i : Nat} {H H' : Heap}
    (h : Rds l (fun i => .int .u8 (xAY p q i : Nat)) N (PQ z1 z2 p q cb) i H H') :
    PQ z1 z2 p q cb H → ∃ e i',(e = .exit 0 ∨ e = .ret) ∧ L.loop xJf xSS ⟨xJg (.yield l) (.ptr cb 0) (.int .i64 (N : Nat)) (.int .i64 (i : Nat)),H⟩ = some (e,⟨xJg (.yield l) (.ptr cb 0) (.int .i64 (N : Nat)) (.int .i64 (i' : Nat)),H'⟩) := by
  induction h with
  | @done i H h =>
    rintro ⟨fz,z,hH⟩
    have hlt : ¬ ((i : Int) < (N : Nat)) := by omega
    refine ⟨.exit 0,i,.inl rfl,?_⟩
    rw [xST]
    simp (maxSteps := 30000000) (disch := first | assumption | omega | (simp only [WL,AV.isCell] <;> omega) | rfl | decide) only [↓reduceIte,WB,xAu,xAc,xAt,xAk,xAj,AV.cells,AV.isCell,xAa,xAd,xAe,Nat.reduceAdd,Nat.reduceSub,Nat.reduceLeDiff,Nat.reduceMul,Int.reduceAdd,Int.reduceSub,Int.reduceMul,Int.reduceLT,Int.reduceLE,Int.reduceEq,Int.reduceToNat,Int.reduceNeg,Nat.reduceEqDiff,Nat.reduceBEq,Nat.reduceLT,xMr,xMs,hlt]
  | @stop i H H' h hr =>
    rintro ⟨fz,z,hH⟩
    have hlt : ((i : Int) < (N : Nat)) := by omega
    have hat := xNM z1 z2 p q i hp hq (by omega)
    refine ⟨.ret,i,.inr rfl,?_⟩
    rw [xST]
    simp (maxSteps := 30000000) (disch := first | assumption | omega | (simp only [WL,AV.isCell] <;> omega) | rfl | decide) only [↓reduceIte,WB,xAu,xAc,xAt,xAk,xAj,AV.cells,AV.isCell,xAa,xAd,xAe,Nat.reduceAdd,Nat.reduceSub,Nat.reduceLeDiff,Nat.reduceMul,Int.reduceAdd,Int.reduceSub,Int.reduceMul,Int.reduceLT,Int.reduceLE,Int.reduceEq,Int.reduceToNat,Int.reduceNeg,Nat.reduceEqDiff,Nat.reduceBEq,Nat.reduceLT,xMr,xMs,hlt,hH,hat,hr]
  | @next i H H1 H' h hr hi k ih =>
    rintro ⟨fz,z,hH⟩
    have hlt : ((i : Int) < (N : Nat)) := by omega
    have hat := xNM z1 z2 p q i hp hq (by omega)
    obtain ⟨e,i',he,hl⟩ := ih hi
    refine ⟨e,i',he,?_⟩
    rw [xST]
    simp (maxSteps := 30000000) (disch := first | assumption | omega | (simp only [WL,AV.isCell] <;> omega) | rfl | decide) only [↓reduceIte,WB,xAu,xAc,xAt,xAk,xAj,AV.cells,AV.isCell,xAa,xAd,xAe,Nat.reduceAdd,Nat.reduceSub,Nat.reduceLeDiff,Nat.reduceMul,Int.reduceAdd,Int.reduceSub,Int.reduceMul,Int.reduceLT,Int.reduceLE,Int.reduceEq,Int.reduceToNat,Int.reduceNeg,Nat.reduceEqDiff,Nat.reduceBEq,Nat.reduceLT,xMr,xMs,hlt,hH,hat,hr,hl]
theorem xEm {l nb cb : Nat} {n : Int} {z1 z2 : Bool} {p q : List Nat} (hp : p.length < 1099511627776) (hq : q.length < 1099511627776) (hN : n.toNat < 1099511627776) {H H' : Heap} {fz z : Bool}
    (hn : H[nb]? = some (.cells fz z [.int .i64 n])) (hI : PQ z1 z2 p q cb H)
    (h : Rds l (fun i => .int .u8 (xAY p q i : Nat)) n.toNat (PQ z1 z2 p q cb) 0 H H') :
    L.icall (.func 98 [.ptr nb 0,.ptr cb 0]) [.yield l] H = some (.tup [],H') := by
  have hm : max n 0 = ((n.toNat : Nat) : Int) := by omega
  obtain ⟨e,i',he,hl⟩ := yAK hp hq hN h hI
  change L.loop xJf xSS ⟨xJg (.yield l) (.ptr cb 0) (.int .i64 (n.toNat : Nat)) (.int .i64 0),H⟩ = _ at hl
  rw [yCW,a98]
  rcases he with rfl | rfl
  · simp (maxSteps := 30000000) (disch := first | assumption | omega | (simp only [WL,AV.isCell] <;> omega) | rfl | decide) only [↓reduceIte,WB,xAu,xAc,xAt,xAk,xAj,AV.cells,AV.isCell,xAa,xAd,xAe,Nat.reduceAdd,Nat.reduceSub,Nat.reduceLeDiff,Nat.reduceMul,Int.reduceAdd,Int.reduceSub,Int.reduceMul,Int.reduceLT,Int.reduceLE,Int.reduceEq,Int.reduceToNat,Int.reduceNeg,Nat.reduceEqDiff,Nat.reduceBEq,Nat.reduceLT,xMs,hn,hm,hl]
  · simp (maxSteps := 30000000) (disch := first | assumption | omega | (simp only [WL,AV.isCell] <;> omega) | rfl | decide) only [↓reduceIte,WB,xAu,xAc,xAt,xAk,xAj,AV.cells,AV.isCell,xAa,xAd,xAe,Nat.reduceAdd,Nat.reduceSub,Nat.reduceLeDiff,Nat.reduceMul,Int.reduceAdd,Int.reduceSub,Int.reduceMul,Int.reduceLT,Int.reduceLE,Int.reduceEq,Int.reduceToNat,Int.reduceNeg,Nat.reduceEqDiff,Nat.reduceBEq,Nat.reduceLT,xMs,hn,hm,hl]
theorem xKl (z1 z2 : Bool) (p q : List Nat) (n : Int) (H : Heap) : L.icall (.func 82 []) [las z1 z2 p q,.int .i64 n] H =
    some (.func 98 [.ptr (H.length + 1) 0,.ptr H.length 0],H ++ [.cells false false [xBc z1 p,xBc z2 q],.cells false false [.int .i64 n]]) := by
  rw [yCR,a82]
  simp (maxSteps := 30000000) (disch := first | assumption | omega | (simp only [WL,AV.isCell] <;> omega) | rfl | decide) only [↓reduceIte,WB,xAu,xAc,xAt,xAk,xAj,AV.cells,AV.isCell,xAa,xAd,xAe,Nat.reduceAdd,Nat.reduceSub,Nat.reduceLeDiff,Nat.reduceMul,Int.reduceAdd,Int.reduceSub,Int.reduceMul,Int.reduceLT,Int.reduceLE,Int.reduceEq,Int.reduceToNat,Int.reduceNeg,Nat.reduceEqDiff,Nat.reduceBEq,Nat.reduceLT]
def xQv (f g : Nat → Nat) : Nat → Nat → Int
  | _,0 => 0
  | i,d + 1 => if f i < g i then -1 else if g i < f i then 1 else xQv f g (i + 1) d
theorem yBU (x y : Nat) : L.pcall 97 [.int .u8 (x : Nat),.int .u8 (y : Nat)] = some (.int .i64 (if x < y then -1 else if y < x then 1 else 0)) := by
  have h : ∀ n : Nat,L.pcall 103 [.int .u8 (n : Nat)] = some (.bool false) := by
    intro n
    rw [yBx,yBs,xAl]
    simp (maxSteps := 30000000) (disch := first | assumption | omega | (simp only [WL,AV.isCell] <;> omega) | rfl | decide) only [↓reduceIte,WB,xAu,xAc,xAt,xAk,xAj,AV.cells,AV.isCell,xAa,xAd,xAe,Nat.reduceAdd,Nat.reduceSub,Nat.reduceLeDiff,Nat.reduceMul,Int.reduceAdd,Int.reduceSub,Int.reduceMul,Int.reduceLT,Int.reduceLE,Int.reduceEq,Int.reduceToNat,Int.reduceNeg,Nat.reduceEqDiff,Nat.reduceBEq,Nat.reduceLT]
  rw [yCV,a97,xAl]
  simp (maxSteps := 30000000) (disch := first | assumption | omega | (simp only [WL,AV.isCell] <;> omega) | rfl | decide) only [↓reduceIte,WB,xAu,xAc,xAt,xAk,xAj,AV.cells,AV.isCell,xAa,xAd,xAe,Nat.reduceAdd,Nat.reduceSub,Nat.reduceLeDiff,Nat.reduceMul,Int.reduceAdd,Int.reduceSub,Int.reduceMul,Int.reduceLT,Int.reduceLE,Int.reduceEq,Int.reduceToNat,Int.reduceNeg,Nat.reduceEqDiff,Nat.reduceBEq,Nat.reduceLT,h,Int.ofNat_lt]
  split
  · rfl
  · split <;> rfl
abbrev F33 (s0 s1 s2 s5 s6 s7 s8 s9 s10 s11 s12 s13 s14 s15 s16 s17 s18 s19 s20 s21 s22 s23 s24 s25 s26 s27 s28 s29 s30 s31 s32 s33 s34 s35 s36 s37 s38 : AV) : List AV := [s0,s1,s2,.ptr 1 0,.ptr 2 0,s5,s6,s7,s8,s9,s10,s11,s12,s13,s14,s15,s16,s17,s18,s19,s20,s21,s22,s23,s24,s25,s26,s27,s28,s29,s30,s31,s32,s33,s34,s35,s36,s37,s38]
section
variable (s0 s1 s2 s5 s6 s7 s8 s9 s10 s11 s12 s13 s14 s15 s16 s17 s18 s19 s20 s21 s22 s23 s24 s25 s26 s27 s28 s29 s30 s31 s32 s33 s34 s35 s36 s37 s38 : AV)
abbrev H33 (n : Int) (za zb zc zd : Bool) (pa qa pb qb : List Nat) : Heap := [.cells false false [xBc za pa,xBc zb qa],.cells false false [xBc zc pb,xBc zd qb],.cells false false [.int .i64 0],.cells false false [xBc za pa,xBc zb qa],.cells false false [.int .i64 n],.loop 0 none (F33 s0 s1 s2 s5 s6 s7 s8 s9 s10 s11 s12 s13 s14 s15 s16 s17 s18 s19 s20 s21 s22 s23 s24 s25 s26 s27 s28 s29 s30 s31 s32 s33 s34 s35 s36 s37 s38) [29,30] xPi xVV]
abbrev yBV (c n : Int) (za zb zc zd : Bool) (pa qa pb qb : List Nat) : Heap := [.cells false false [xBc za pa,xBc zb qa],.cells false false [xBc zc pb,xBc zd qb],.cells false false [.int .i64 c],.cells false false [xBc za pa,xBc zb qa],.cells false false [.int .i64 n],.loop 2 (some .ret) (F33 s0 s1 s2 s5 s6 s7 s8 s9 s10 s11 s12 s13 s14 s15 s16 s17 s18 s19 s20 s21 s22 s23 s24 s25 s26 s27 s28 s29 s30 s31 s32 s33 s34 s35 s36 s37 s38) [29,30] xPi xVV]
theorem xYY (n : Int) (za zb zc zd : Bool) (pa qa pb qb : List Nat) (hp : pb.length < 1099511627776) (hq : qb.length < 1099511627776) (x i : Nat) (hi : i < 1099511627776) :
    L.icall (.yield 5) [.int .i64 (i : Nat),.int .u8 (x : Nat)] (H33 s0 s1 s2 s5 s6 s7 s8 s9 s10 s11 s12 s13 s14 s15 s16 s17 s18 s19 s20 s21 s22 s23 s24 s25 s26 s27 s28 s29 s30 s31 s32 s33 s34 s35 s36 s37 s38 n za zb zc zd pa qa pb qb) =
      some (if x = xAY pb qb i then (.bool true,H33 s0 s1 s2 s5 s6 s7 s8 s9 s10 s11 s12 s13 s14 s15 s16 s17 s18 s19 s20 s21 s22 s23 s24 s25 s26 s27 s28 s29 s30 s31 s32 s33 s34 s35 s36 s37 s38 n za zb zc zd pa qa pb qb) else (.bool false,yBV s0 s1 s2 s5 s6 s7 s8 s9 s10 s11 s12 s13 s14 s15 s16 s17 s18 s19 s20 s21 s22 s23 s24 s25 s26 s27 s28 s29 s30 s31 s32 s33 s34 s35 s36 s37 s38 (if x < xAY pb qb i then -1 else 1) n za zb zc zd pa qa pb qb)) := by
  have hat := xNM zc zd pb qb i hp hq (by omega)
  rw [xDH,xHJ (hH := rfl) (h1 := rfl) (h2 := rfl) (h3 := rfl)]
  generalize xAY pb qb i = y at *
  have hc := yBU x y
  by_cases h1 : x < y
  · have h2 : ¬ x = y := by omega
    rw [if_pos h1] at hc
    simp (maxSteps := 30000000) (disch := first | assumption | omega | (simp only [WL,AV.isCell] <;> omega) | rfl | decide) only [↓reduceIte,WB,xAu,xAc,xAt,xAk,xAj,AV.cells,AV.isCell,xAa,xAd,xAe,Nat.reduceAdd,Nat.reduceSub,Nat.reduceLeDiff,Nat.reduceMul,Int.reduceAdd,Int.reduceSub,Int.reduceMul,Int.reduceLT,Int.reduceLE,Int.reduceEq,Int.reduceToNat,Int.reduceNeg,Nat.reduceEqDiff,Nat.reduceBEq,Nat.reduceLT,xSN,xOx,xHf,xMj,hat,hc,h1,h2]
  · by_cases h2 : y < x
    · have h3 : ¬ x = y := by omega
      rw [if_neg h1,if_pos h2] at hc
      simp (maxSteps := 30000000) (disch := first | assumption | omega | (simp only [WL,AV.isCell] <;> omega) | rfl | decide) only [↓reduceIte,WB,xAu,xAc,xAt,xAk,xAj,AV.cells,AV.isCell,xAa,xAd,xAe,Nat.reduceAdd,Nat.reduceSub,Nat.reduceLeDiff,Nat.reduceMul,Int.reduceAdd,Int.reduceSub,Int.reduceMul,Int.reduceLT,Int.reduceLE,Int.reduceEq,Int.reduceToNat,Int.reduceNeg,Nat.reduceEqDiff,Nat.reduceBEq,Nat.reduceLT,xSN,xOx,xHf,xMj,hat,hc,h1,h2,h3]
    · have h3 : x = y := by omega
      rw [if_neg h1,if_neg h2] at hc
      subst h3
      simp (maxSteps := 30000000) (disch := first | assumption | omega | (simp only [WL,AV.isCell] <;> omega) | rfl | decide) only [↓reduceIte,WB,xAu,xAc,xAt,xAk,xAj,AV.cells,AV.isCell,xAa,xAd,xAe,Nat.reduceAdd,Nat.reduceSub,Nat.reduceLeDiff,Nat.reduceMul,Int.reduceAdd,Int.reduceSub,Int.reduceMul,Int.reduceLT,Int.reduceLE,Int.reduceEq,Int.reduceToNat,Int.reduceNeg,Nat.reduceEqDiff,Nat.reduceBEq,Nat.reduceLT,xSN,xOx,xHf,xMj,hat,hc]
theorem xQw (n : Int) (za zb zc zd : Bool) (pa qa pb qb : List Nat) (hp : pb.length < 1099511627776) (hq : qb.length < 1099511627776) (N : Nat) (hN : N < 1099511627776) : ∀ d i,i + d = N →
    (xQv (xAY pa qa) (xAY pb qb) i d = 0 ∧ Rds 5 (fun i => .int .u8 (xAY pa qa i : Nat)) N (PQ za zb pa qa 3) i (H33 s0 s1 s2 s5 s6 s7 s8 s9 s10 s11 s12 s13 s14 s15 s16 s17 s18 s19 s20 s21 s22 s23 s24 s25 s26 s27 s28 s29 s30 s31 s32 s33 s34 s35 s36 s37 s38 n za zb zc zd pa qa pb qb) (H33 s0 s1 s2 s5 s6 s7 s8 s9 s10 s11 s12 s13 s14 s15 s16 s17 s18 s19 s20 s21 s22 s23 s24 s25 s26 s27 s28 s29 s30 s31 s32 s33 s34 s35 s36 s37 s38 n za zb zc zd pa qa pb qb)) ∨
    (xQv (xAY pa qa) (xAY pb qb) i d ≠ 0 ∧ Rds 5 (fun i => .int .u8 (xAY pa qa i : Nat)) N (PQ za zb pa qa 3) i (H33 s0 s1 s2 s5 s6 s7 s8 s9 s10 s11 s12 s13 s14 s15 s16 s17 s18 s19 s20 s21 s22 s23 s24 s25 s26 s27 s28 s29 s30 s31 s32 s33 s34 s35 s36 s37 s38 n za zb zc zd pa qa pb qb) (yBV s0 s1 s2 s5 s6 s7 s8 s9 s10 s11 s12 s13 s14 s15 s16 s17 s18 s19 s20 s21 s22 s23 s24 s25 s26 s27 s28 s29 s30 s31 s32 s33 s34 s35 s36 s37 s38 (xQv (xAY pa qa) (xAY pb qb) i d) n za zb zc zd pa qa pb qb))
  | 0,i,h => .inl ⟨rfl,.done (by omega)⟩
  | d + 1,i,h => by
    have hr := xYY s0 s1 s2 s5 s6 s7 s8 s9 s10 s11 s12 s13 s14 s15 s16 s17 s18 s19 s20 s21 s22 s23 s24 s25 s26 s27 s28 s29 s30 s31 s32 s33 s34 s35 s36 s37 s38 n za zb zc zd pa qa pb qb hp hq (xAY pa qa i) i (by omega)
    unfold xQv
    by_cases h1 : xAY pa qa i < xAY pb qb i
    · rw [if_pos h1]
      rw [if_neg (by omega),if_pos h1] at hr
      exact .inr ⟨by omega,.stop (by omega) hr⟩
    · by_cases h2 : xAY pb qb i < xAY pa qa i
      · rw [if_neg h1,if_pos h2]
        rw [if_neg (by omega),if_neg h1] at hr
        exact .inr ⟨by omega,.stop (by omega) hr⟩
      · rw [if_neg h1,if_neg h2]
        rw [if_pos (by omega)] at hr
        have hI : PQ za zb pa qa 3 (H33 s0 s1 s2 s5 s6 s7 s8 s9 s10 s11 s12 s13 s14 s15 s16 s17 s18 s19 s20 s21 s22 s23 s24 s25 s26 s27 s28 s29 s30 s31 s32 s33 s34 s35 s36 s37 s38 n za zb zc zd pa qa pb qb) := ⟨false,false,rfl⟩
        rcases xQw n za zb zc zd pa qa pb qb hp hq N hN d (i + 1) (by omega) with ⟨g1,g2⟩ | ⟨g1,g2⟩
        · exact .inl ⟨g1,.next (by omega) hr hI g2⟩
        · exact .inr ⟨g1,.next (by omega) hr hI g2⟩
theorem xYZ (za zb zc zd : Bool) (pa qa pb qb : List Nat) (ha : pa.length < 1099511627776) (hqa : qa.length < 1099511627776) (hp : pb.length < 1099511627776) (hq : qb.length < 1099511627776) (N : Nat) (hN : N < 1099511627776) :
    L.icall (.func 98 [.ptr 4 0,.ptr 3 0]) [.yield 5] (H33 s0 s1 s2 s5 s6 s7 s8 s9 s10 s11 s12 s13 s14 s15 s16 s17 s18 s19 s20 s21 s22 s23 s24 s25 s26 s27 s28 s29 s30 s31 s32 s33 s34 s35 s36 s37 s38 N za zb zc zd pa qa pb qb) =
      some (.tup [],if xQv (xAY pa qa) (xAY pb qb) 0 N = 0 then H33 s0 s1 s2 s5 s6 s7 s8 s9 s10 s11 s12 s13 s14 s15 s16 s17 s18 s19 s20 s21 s22 s23 s24 s25 s26 s27 s28 s29 s30 s31 s32 s33 s34 s35 s36 s37 s38 N za zb zc zd pa qa pb qb else yBV s0 s1 s2 s5 s6 s7 s8 s9 s10 s11 s12 s13 s14 s15 s16 s17 s18 s19 s20 s21 s22 s23 s24 s25 s26 s27 s28 s29 s30 s31 s32 s33 s34 s35 s36 s37 s38 (xQv (xAY pa qa) (xAY pb qb) 0 N) N za zb zc zd pa qa pb qb) := by
  have hI : PQ za zb pa qa 3 (H33 s0 s1 s2 s5 s6 s7 s8 s9 s10 s11 s12 s13 s14 s15 s16 s17 s18 s19 s20 s21 s22 s23 s24 s25 s26 s27 s28 s29 s30 s31 s32 s33 s34 s35 s36 s37 s38 N za zb zc zd pa qa pb qb) := ⟨false,false,rfl⟩
  rcases xQw s0 s1 s2 s5 s6 s7 s8 s9 s10 s11 s12 s13 s14 s15 s16 s17 s18 s19 s20 s21 s22 s23 s24 s25 s26 s27 s28 s29 s30 s31 s32 s33 s34 s35 s36 s37 s38 N za zb zc zd pa qa pb qb hp hq N hN N 0 (by omega) with ⟨g1,g2⟩ | ⟨g1,g2⟩
  · rw [if_pos g1]
    exact xEm (n := (N : Nat)) ha hqa (by omega) rfl hI g2
  · rw [if_neg g1]
    exact xEm (n := (N : Nat)) ha hqa (by omega) rfl hI g2
end
def xVb (p q p' q' : List Nat) : Nat := max p.length p'.length + max q.length 1 + max q'.length 1
theorem xKm (za zb zc zd : Bool) (pa qa pb qb : List Nat) (h1 : pa.length < 268435456) (h2 : qa.length < 268435456) (h3 : pb.length < 268435456) (h4 : qb.length < 268435456) :
    L.pcall 81 [las za zb pa qa,las zc zd pb qb] = some (.int .i64 (xQv (xAY pa qa) (xAY pb qb) 0 (xVb pa qa pb qb))) := by
  have hN : xVb pa qa pb qb < 1099511627776 := by unfold xVb; omega
  have hn : max (pa.length : Int) (pb.length : Int) + max (qa.length : Int) 1 + max (qb.length : Int) 1 = ((xVb pa qa pb qb : Nat) : Int) := by unfold xVb; omega
  generalize xVb pa qa pb qb = N at *
  have hr := fun s0 s1 s2 s5 s6 s7 s8 s9 s10 s11 s12 s13 s14 s15 s16 s17 s18 s19 s20 s21 s22 s23 s24 s25 s26 s27 s28 s29 s30 s31 s32 s33 s34 s35 s36 s37 s38 => xYZ s0 s1 s2 s5 s6 s7 s8 s9 s10 s11 s12 s13 s14 s15 s16 s17 s18 s19 s20 s21 s22 s23 s24 s25 s26 s27 s28 s29 s30 s31 s32 s33 s34 s35 s36 s37 s38 za zb zc zd pa qa pb qb (by omega) (by omega) (by omega) (by omega) N hN
  by_cases h0 : xQv (xAY pa qa) (xAY pb qb) 0 N = 0
  · simp only [h0,if_true] at hr ⊢
    rw [yCi,a81,xAl]
    simp (maxSteps := 30000000) (disch := first | assumption | omega | (simp only [WL,AV.isCell] <;> omega) | rfl | decide) only [↓reduceIte,WB,xAu,xAc,xAt,xAk,xAj,AV.cells,AV.isCell,xAa,xAd,xAe,Nat.reduceAdd,Nat.reduceSub,Nat.reduceLeDiff,Nat.reduceMul,Int.reduceAdd,Int.reduceSub,Int.reduceMul,Int.reduceLT,Int.reduceLE,Int.reduceEq,Int.reduceToNat,Int.reduceNeg,Nat.reduceEqDiff,Nat.reduceBEq,Nat.reduceLT,xKl,hn,hr]
  · simp only [h0,if_false] at hr
    rw [yCi,a81,xAl]
    simp (maxSteps := 30000000) (disch := first | assumption | omega | (simp only [WL,AV.isCell] <;> omega) | rfl | decide) only [↓reduceIte,WB,xAu,xAc,xAt,xAk,xAj,AV.cells,AV.isCell,xAa,xAd,xAe,Nat.reduceAdd,Nat.reduceSub,Nat.reduceLeDiff,Nat.reduceMul,Int.reduceAdd,Int.reduceSub,Int.reduceMul,Int.reduceLT,Int.reduceLE,Int.reduceEq,Int.reduceToNat,Int.reduceNeg,Nat.reduceEqDiff,Nat.reduceBEq,Nat.reduceLT,xKl,hn,hr]
theorem xWo (za zb zc zd : Bool) (pa qa pb qb : List Nat) (h1 : pa.length < 268435456) (h2 : qa.length < 268435456) (h3 : pb.length < 268435456) (h4 : qb.length < 268435456) :
    L.pcall 46 [las za zb pa qa,las zc zd pb qb] = some (.bool (decide (xQv (xAY pa qa) (xAY pb qb) 0 (xVb pa qa pb qb) = 0))) := by
  have hc := xKm za zb zc zd pa qa pb qb h1 h2 h3 h4
  rw [yCC,a46,xAl]
  simp (maxSteps := 30000000) (disch := first | assumption | omega | (simp only [WL,AV.isCell] <;> omega) | rfl | decide) only [↓reduceIte,WB,xAu,xAc,xAt,xAk,xAj,AV.cells,AV.isCell,xAa,xAd,xAe,Nat.reduceAdd,Nat.reduceSub,Nat.reduceLeDiff,Nat.reduceMul,Int.reduceAdd,Int.reduceSub,Int.reduceMul,Int.reduceLT,Int.reduceLE,Int.reduceEq,Int.reduceToNat,Int.reduceNeg,Nat.reduceEqDiff,Nat.reduceBEq,Nat.reduceLT,hc]
end Go.Abs.Mealy
/- build,Project,Merge,Prepend,Suffix. -/
namespace Go.Abs.Mealy
set_option linter.unusedVariables false
set_option linter.unusedSimpArgs false
open Go Go.Abs
set_option linter.unusedSimpArgs false
def laid (f : Nat → Nat) (N i : Nat) : List Nat := (List.range N).map fun j => if j < i then f j else 0
theorem xOE (f : Nat → Nat) (N i : Nat) : (laid f N i).length = N := by simp [laid]
theorem yAL (f : Nat → Nat) (N : Nat) : List.replicate N 0 = laid f N 0 := by
  unfold laid
  apply List.ext_getElem
  · simp
  · intro j h1 h2; simp
theorem xWp (f : Nat → Nat) (N i : Nat) : (laid f N i).set i (f i) = laid f N (i + 1) := by
  unfold laid
  apply List.ext_getElem
  · simp
  · intro j h1 h2
    simp only [List.getElem_set,List.getElem_map,List.getElem_range]
    by_cases h : i = j
    · subst h; simp
    · have : (j < i + 1) ↔ j < i := by omega
      simp [h,this]
theorem xWq (f : Nat → Nat) (N : Nat) : laid f N N = (List.range N).map f := by
  unfold laid
  apply List.map_congr_left
  intro j hj
  simp at hj
  simp [hj]
theorem xKn {g : Nat} {caps : List AV} {f : Nat → Nat} {N n : Nat} {H : Heap} (hN : N < 1099511627776) (b : Blk) (hlet : ∀ (T : Heap) (i : Nat),i < N → L.icall (.func g caps) [.int .i64 (i : Nat)] (H ++ T) = some (.int .u8 (f i : Nat),H ++ T)) : ∀ d i,i + d = N →
    L.loop xI8 xSL ⟨xI9 (.int .i64 (n : Nat)) (.func g caps) (.ptr H.length 0) (.own false (H.length + 1) 0 N 1) (.int .i64 (N : Nat)) (.int .i64 (i : Nat)),H ++ [b,.cells false false (bs (laid f N i))]⟩ =
      some (.exit 0,⟨xI9 (.int .i64 (n : Nat)) (.func g caps) (.ptr H.length 0) (.own false (H.length + 1) 0 N 1) (.int .i64 (N : Nat)) (.int .i64 (N : Nat)),H ++ [b,.cells false false (bs (laid f N N))]⟩)
  | 0,i,h => by
    obtain rfl : i = N := by omega
    rw [xWX]
    simp (maxSteps := 30000000) (disch := first | assumption | omega | (simp only [WL,AV.isCell] <;> omega) | rfl | decide) only [↓reduceIte,WB,xAu,xAc,xAt,xAk,xAj,AV.cells,AV.isCell,xAa,xAd,xAe,Nat.reduceAdd,Nat.reduceSub,Nat.reduceLeDiff,Nat.reduceMul,Int.reduceAdd,Int.reduceSub,Int.reduceMul,Int.reduceLT,Int.reduceLE,Int.reduceEq,Int.reduceToNat,Int.reduceNeg,Nat.reduceEqDiff,Nat.reduceBEq,Nat.reduceLT,xPh,xSM]
  | d + 1,i,h => by
    have hlt : (i : Int) < (N : Nat) := by omega
    have ih := xKn (n := n) hN b hlet d (i + 1) (by omega)
    have hl := hlet [b,.cells false false (bs (laid f N i))] i (by omega)
    have hlen := xOE f N i
    rw [xWX]
    simp (maxSteps := 30000000) (disch := first | assumption | omega | (simp only [WL,AV.isCell] <;> omega) | rfl | decide) only [↓reduceIte,WB,xAu,xAc,xAt,xAk,xAj,AV.cells,AV.isCell,xAa,xAd,xAe,Nat.reduceAdd,Nat.reduceSub,Nat.reduceLeDiff,Nat.reduceMul,Int.reduceAdd,Int.reduceSub,Int.reduceMul,Int.reduceLT,Int.reduceLE,Int.reduceEq,Int.reduceToNat,Int.reduceNeg,Nat.reduceEqDiff,Nat.reduceBEq,Nat.reduceLT,xPh,xSM,hlt,hl,hlen,xWp,ih]
theorem xWr {g : Nat} {caps : List AV} {f : Nat → Nat} {n p : Nat} {H : Heap} (hn : n < 268435456) (hp : p < 268435456) (hlet : ∀ (T : Heap) (i : Nat),i < n + p → L.icall (.func g caps) [.int .i64 (i : Nat)] (H ++ T) = some (.int .u8 (f i : Nat),H ++ T))
    {z1 z2 : Bool} {p' q' : List Nat} (hv : L.pcall 49 [las false false ((List.range n).map f) ((List.range p).map fun i => f (n + i))] = some (las z1 z2 p' q')) :
    ∃ T,L.icall (.func 78 []) [.int .i64 (n : Nat),.int .i64 (p : Nat),.func g caps] H = some (las z1 z2 p' q',H ++ T) := by
  have hl := xKn (n := n) (N := n + p) (by omega) (.cells false false [.sl true 0 [],.sl true 0 []]) hlet (n + p) 0 (by omega)
  rw [← yAL] at hl
  change L.loop xI8 xSL ⟨xI9 _ _ _ _ _ (.int .i64 0),_⟩ = _ at hl
  rw [xWq] at hl
  have e1 : List.take n ((List.range (n + p)).map f) = (List.range n).map f := by
    apply List.ext_getElem
    · simp
    · intro j h1 h2; simp
  have e2 : List.drop n ((List.range (n + p)).map f) = (List.range p).map fun i => f (n + i) := by
    apply List.ext_getElem
    · simp
    · intro j h1 h2; simp
  have e3 : List.take p ((List.range p).map fun i => f (n + i)) = (List.range p).map fun i => f (n + i) := List.take_of_length_le (by simp)
  have hv' : L.pcall 49 [.agg [.sl false n (bs ((List.range n).map f)),.sl false p (bs ((List.range p).map fun i => f (n + i)))]] = some (las z1 z2 p' q') := by
    rw [xC7 (by simp),xC7 (by simp)]; exact hv
  refine ⟨[.cells false false [xBc z1 p',xBc z2 q'],.cells true false (bs ((List.range (n + p)).map f))],?_⟩
  rw [yCO,a78]
  simp (maxSteps := 30000000) (disch := first | assumption | omega | (simp only [WL,AV.isCell] <;> omega) | rfl | decide) only [↓reduceIte,WB,xAu,xAc,xAt,xAk,xAj,AV.cells,AV.isCell,xAa,xAd,xAe,Nat.reduceAdd,Nat.reduceSub,Nat.reduceLeDiff,Nat.reduceMul,Int.reduceAdd,Int.reduceSub,Int.reduceMul,Int.reduceLT,Int.reduceLE,Int.reduceEq,Int.reduceToNat,Int.reduceNeg,Nat.reduceEqDiff,Nat.reduceBEq,Nat.reduceLT,xSM,hl,e1,e2,e3,hv',List.length_map,List.length_range,Nat.add_sub_cancel_left]
theorem yBW (z1 z2 : Bool) (p q : List Nat) (m : Nat) (H : Heap) (a b i : Nat) {f1 f2 g1 g2 : Bool} (ha : H[a]? = some (.cells f1 f2 [xBc z1 p,xBc z2 q])) (hb : H[b]? = some (.cells g1 g2 [.int .u8 (m : Nat)])) (hp : p.length < 1099511627776) (hq : q.length < 1099511627776) (hi : i < 1099511627776) :
    L.icall (.func 79 [.ptr a 0,.ptr b 0]) [.int .i64 (i : Nat)] H = some (.int .u8 (xEi .and .u8 (xAY p q i : Nat) (m : Nat)),H) := by
  have hat := xNM z1 z2 p q i hp hq (by omega)
  rw [yCP,a79]
  simp (maxSteps := 30000000) (disch := first | assumption | omega | (simp only [WL,AV.isCell] <;> omega) | rfl | decide) only [↓reduceIte,WB,xAu,xAc,xAt,xAk,xAj,AV.cells,AV.isCell,xAa,xAd,xAe,Nat.reduceAdd,Nat.reduceSub,Nat.reduceLeDiff,Nat.reduceMul,Int.reduceAdd,Int.reduceSub,Int.reduceMul,Int.reduceLT,Int.reduceLE,Int.reduceEq,Int.reduceToNat,Int.reduceNeg,Nat.reduceEqDiff,Nat.reduceBEq,Nat.reduceLT,ha,hb,hat]
end Go.Abs.Mealy
/- The operations by what a lasso denotes. -/
namespace Go.Abs.Mealy
set_option linter.unusedVariables false
set_option linter.unusedSimpArgs false
open Go Go.Abs
set_option linter.unusedSimpArgs false
def HasLas (v : AV) (f : Nat → Nat) (B : Nat) : Prop := ∃ z1 z2 p q,v = las z1 z2 p q ∧ (z1 = true → p = []) ∧ p.length ≤ B ∧ q.length ≤ B ∧ ∀ i,xAY p q i = f i
theorem HasLas.mono {v : AV} {f g : Nat → Nat} {B B' : Nat} (h : HasLas v f B) (hB : B ≤ B') (hf : ∀ i,f i = g i) : HasLas v g B' := by
  obtain ⟨z1,z2,p,q,rfl,hz,hp,hq,h⟩ := h
  exact ⟨z1,z2,p,q,rfl,hz,by omega,by omega,fun i => (h i).trans (hf i)⟩
theorem xUx {z1 z2 : Bool} {p q : List Nat} {B : Nat} (hz : z1 = true → p = []) (hp : p.length ≤ B) (hq : q.length ≤ B) (hB : B < 268435456) : ∃ z1' z2' p' q',L.pcall 49 [las z1 z2 p q] = some (las z1' z2' p' q') ∧ (z1' = true → p' = []) ∧ p'.length ≤ B ∧ 0 < q'.length ∧ q'.length ≤ B + 1 ∧ ∀ i,xAY p' q' i = xAY p q i := by
  have hfl := xBF q
  cases z1 with
  | true =>
    obtain rfl := hz rfl
    obtain ⟨q',h1,h2,h3,-⟩ := xRv z2 q (by omega)
    exact ⟨true,false,[],q',h3,fun _ => rfl,by simp,h1.1,by omega,h1.2.1⟩
  | false =>
    obtain ⟨p',q',h1,h2,h3,h4,-⟩ := xIf z2 p q (by omega) (by omega)
    exact ⟨false,false,p',q',h4,(fun h => by cases h),by omega,h1.1,by omega,h1.2.1⟩
theorem xOF {v : AV} {f : Nat → Nat} {B m : Nat} (h : HasLas v f B) (hf : ∀ i,f i < 256) (hm : m < 256) (hB : B < 134217728) : ∃ v',L.pcall 44 [v,.int .u8 (m : Nat)] = some v' ∧ HasLas v' (fun i => f i &&& m) (B + 2) := by
  obtain ⟨z1,z2,p,q,rfl,hz,hp,hq,hs⟩ := h
  obtain ⟨z,hfull⟩ := xLc z1 z2 p q
  have hfl := xBF q
  have hfp := xCn q
  have hseq : ∀ i,xAY p (xAI q) i = f i := by
    intro i
    rw [← hs i]
    unfold xAY
    rw [xBZ hfp]
  obtain ⟨a,b,p',q',c1,c2,c3,c4,c5,c6⟩ := xUx (z1 := false) (z2 := false) (p := (List.range p.length).map fun i => f i &&& m) (q := (List.range (xAI q).length).map fun i => f (p.length + i) &&& m) (B := B + 1) (by simp) (by simp; omega) (by simp; omega) (by omega)
  have hH : ∀ (T : Heap) (i : Nat),i < p.length + (xAI q).length → L.icall (.func 79 [.ptr 0 0,.ptr 1 0]) [.int .i64 (i : Nat)] ([.cells false false [xBc z1 p,xBc z (xAI q)],.cells false false [.int .u8 (m : Nat)],.cells false false [.sl true 0 [],.sl true 0 []]] ++ T) = some (.int .u8 ((f i &&& m : Nat) : Int),[.cells false false [xBc z1 p,xBc z (xAI q)],.cells false false [.int .u8 (m : Nat)],.cells false false [.sl true 0 [],.sl true 0 []]] ++ T) := by
    intro T i hi
    rw [yBW z1 z p (xAI q) m _ 0 1 i rfl rfl (by omega) (by omega) (by omega),hseq,yCr (hf i) hm]
  obtain ⟨T,hb⟩ := xWr (n := p.length) (p := (xAI q).length) (by omega) (by omega) hH c1
  refine ⟨las a b p' q',?_,⟨a,b,p',q',rfl,c2,by omega,by omega,fun i => ?_⟩⟩
  · rw [yCA,a44,xAl]
    simp (maxSteps := 30000000) (disch := first | assumption | omega | (simp only [WL,AV.isCell] <;> omega) | rfl | decide) only [↓reduceIte,WB,xAu,xAc,xAt,xAk,xAj,AV.cells,AV.isCell,xAa,xAd,xAe,Nat.reduceAdd,Nat.reduceSub,Nat.reduceLeDiff,Nat.reduceMul,Int.reduceAdd,Int.reduceSub,Int.reduceMul,Int.reduceLT,Int.reduceLE,Int.reduceEq,Int.reduceToNat,Int.reduceNeg,Nat.reduceEqDiff,Nat.reduceBEq,Nat.reduceLT,hfull,hb]
  · rw [c6]
    by_cases hi : i < p.length
    · rw [xD0 (by simpa using hi)]
      simp [hi]
    · rw [xBd (by simpa using Nat.le_of_not_lt hi),xBZ (by simpa using hfp)]
      have hlt : (i - p.length) % (xAI q).length < (xAI q).length := Nat.mod_lt _ hfp
      have : f (p.length + (i - p.length) % (xAI q).length) = f i := by
        rw [← hseq,← hseq,xBd (by omega),xBd (by omega),xBZ hfp,Nat.add_sub_cancel_left,Nat.mod_mod]
      simp [hlt,this]
end Go.Abs.Mealy
/- Merge; the order of sequences. -/
namespace Go.Abs.Mealy
set_option linter.unusedVariables false
set_option linter.unusedSimpArgs false
open Go Go.Abs
set_option linter.unusedSimpArgs false
def CmpIs (f g : Nat → Nat) (c : Int) : Prop := (c = 0 ∧ ∀ i,f i = g i) ∨ (c = -1 ∧ ∃ i,(∀ j,j < i → f j = g j) ∧ f i < g i) ∨ (c = 1 ∧ ∃ i,(∀ j,j < i → f j = g j) ∧ g i < f i)
theorem CmpIs.uniq {f g : Nat → Nat} {c d : Int} (h : CmpIs f g c) (k : CmpIs f g d) : c = d := by
  rcases h with ⟨rfl,h⟩ | ⟨rfl,i,h1,h2⟩ | ⟨rfl,i,h1,h2⟩ <;> rcases k with ⟨rfl,k⟩ | ⟨rfl,j,k1,k2⟩ | ⟨rfl,j,k1,k2⟩
  · rfl
  · have := h j; omega
  · have := h j; omega
  · have := k i; omega
  · rfl
  · exfalso
    rcases Nat.lt_trichotomy i j with e | e | e
    · have := k1 i e; omega
    · subst e; omega
    · have := h1 j e; omega
  · have := k i; omega
  · exfalso
    rcases Nat.lt_trichotomy i j with e | e | e
    · have := k1 i e; omega
    · subst e; omega
    · have := h1 j e; omega
  · rfl
theorem CmpIs.symm {f g : Nat → Nat} {c : Int} (h : CmpIs f g c) : CmpIs g f (-c) := by
  rcases h with ⟨rfl,h⟩ | ⟨rfl,i,h1,h2⟩ | ⟨rfl,i,h1,h2⟩
  · exact .inl ⟨rfl,fun i => (h i).symm⟩
  · exact .inr (.inr ⟨rfl,i,fun j hj => (h1 j hj).symm,h2⟩)
  · exact .inr (.inl ⟨rfl,i,fun j hj => (h1 j hj).symm,h2⟩)
theorem CmpIs.range {f g : Nat → Nat} {c : Int} (h : CmpIs f g c) : -1 ≤ c ∧ c ≤ 1 := by
  rcases h with ⟨rfl,h⟩ | ⟨rfl,i,h1,h2⟩ | ⟨rfl,i,h1,h2⟩ <;> omega
theorem CmpIs.trans {f g h : Nat → Nat} {c d : Int} (k1 : CmpIs f g c) (k2 : CmpIs g h c) (k : CmpIs f h d) : d = c := by
  refine k.uniq ?_
  rcases k1 with ⟨rfl,a⟩ | ⟨rfl,i,a1,a2⟩ | ⟨rfl,i,a1,a2⟩ <;> rcases k2 with ⟨e,b⟩ | ⟨e,j,b1,b2⟩ | ⟨e,j,b1,b2⟩ <;> try omega
  · exact .inl ⟨rfl,fun i => (a i).trans (b i)⟩
  · refine .inr (.inl ⟨rfl,min i j,fun t ht => (a1 t (by omega)).trans (b1 t (by omega)),?_⟩)
    rcases Nat.lt_trichotomy i j with e | e | e
    · rw [Nat.min_eq_left (by omega),← b1 i e]; exact a2
    · subst e; rw [Nat.min_self]; omega
    · rw [Nat.min_eq_right (by omega),a1 j e]; exact b2
  · refine .inr (.inr ⟨rfl,min i j,fun t ht => (a1 t (by omega)).trans (b1 t (by omega)),?_⟩)
    rcases Nat.lt_trichotomy i j with e | e | e
    · rw [Nat.min_eq_left (by omega),← b1 i e]; exact a2
    · subst e; rw [Nat.min_self]; omega
    · rw [Nat.min_eq_right (by omega),a1 j e]; exact b2
theorem xNN (f g : Nat → Nat) : ∀ d i,(∀ j,j < i → f j = g j) →
    (xQv f g i d = 0 ∧ ∀ j,j < i + d → f j = g j) ∨ (xQv f g i d = -1 ∧ ∃ i,(∀ j,j < i → f j = g j) ∧ f i < g i) ∨ (xQv f g i d = 1 ∧ ∃ i,(∀ j,j < i → f j = g j) ∧ g i < f i)
  | 0,i,h => .inl ⟨rfl,h⟩
  | d + 1,i,h => by
    unfold xQv
    by_cases h1 : f i < g i
    · rw [if_pos h1]; exact .inr (.inl ⟨rfl,i,h,h1⟩)
    · by_cases h2 : g i < f i
      · rw [if_neg h1,if_pos h2]; exact .inr (.inr ⟨rfl,i,h,h2⟩)
      · rw [if_neg h1,if_neg h2]
        have := xNN f g d (i + 1) (fun j hj => by
          by_cases e : j = i
          · subst e; omega
          · exact h j (by omega))
        rw [show i + (d + 1) = i + 1 + d by omega]
        exact this
theorem xIg {h : Nat → Nat} {x : Nat} (hp : ∀ t,h (t + x) = h t) (hx : 0 < x) (t : Nat) : h t = h (t % x) := by
  induction t using Nat.strongRecOn with
  | _ t ih =>
    by_cases hlt : t < x
    · rw [Nat.mod_eq_of_lt hlt]
    · have := hp (t - x)
      rw [show t - x + x = t by omega] at this
      rw [this,ih (t - x) (by omega)]
      exact congrArg h (Nat.mod_eq_sub_mod (by omega)).symm
theorem xUy {h k : Nat → Nat} {x y : Nat} (hh : ∀ t,h (t + x) = h t) (hk : ∀ t,k (t + y) = k t) (hx : 0 < x) (hy : 0 < y) (he : ∀ t,t < x + y → h t = k t) (t : Nat) : h t = k t := by
  have hhy : ∀ t,h (t + y) = h t := by
    intro t
    have hm := Nat.mod_lt t hx
    have h1 : h (t % x + y) = h (t % x) := by rw [he _ (by omega),hk,he _ (by omega)]
    calc h (t + y) = h ((t + y) % x) := xIg hh hx _
      _ = h ((t % x + y) % x) := by rw [Nat.mod_add_mod]
      _ = h (t % x + y) := (xIg hh hx _).symm
      _ = h (t % x) := h1
      _ = h t := (xIg hh hx t).symm
  rw [xIg hhy hy t,xIg hk hy t]
  exact he _ (by have := Nat.mod_lt t hy; omega)
theorem xKo (p q : List Nat) (n : Nat) (hn : p.length ≤ n) (t : Nat) : xAY p q (n + (t + (xAI q).length)) = xAY p q (n + t) := by
  rw [xBd (by omega),xBd (by omega),show n + (t + (xAI q).length) - p.length = n + t - p.length + (xAI q).length by omega,Nat.add_mod_right]
theorem xUz (p q p' q' : List Nat) (h : ∀ j,j < xVb p q p' q' → xAY p q j = xAY p' q' j) (i : Nat) : xAY p q i = xAY p' q' i := by
  have h1 := xBF q
  have h2 := xBF q'
  unfold xVb at h
  by_cases hi : i < max p.length p'.length
  · exact h i (by omega)
  · obtain ⟨t,rfl⟩ : ∃ t,i = max p.length p'.length + t := ⟨i - max p.length p'.length,by omega⟩
    exact xUy (h := fun t => xAY p q (max p.length p'.length + t)) (k := fun t => xAY p' q' (max p.length p'.length + t)) (xKo p q _ (by omega)) (xKo p' q' _ (by omega)) (xCn q) (xCn q') (fun t ht => h _ (by omega)) t
theorem xOG {v u : AV} {f g : Nat → Nat} {B B' : Nat} (h : HasLas v f B) (k : HasLas u g B') (hB : B < 134217728) (hB' : B' < 134217728) :
    ∃ c,L.pcall 81 [v,u] = some (.int .i64 c) ∧ L.pcall 46 [v,u] = some (.bool (decide (c = 0))) ∧ CmpIs f g c := by
  obtain ⟨z1,z2,p,q,rfl,hz,hp,hq,hs⟩ := h
  obtain ⟨z3,z4,p',q',rfl,hz',hp',hq',hs'⟩ := k
  refine ⟨_,xKm z1 z2 z3 z4 p q p' q' (by omega) (by omega) (by omega) (by omega),xWo z1 z2 z3 z4 p q p' q' (by omega) (by omega) (by omega) (by omega),?_⟩
  obtain rfl : xAY p q = f := funext hs
  obtain rfl : xAY p' q' = g := funext hs'
  rcases xNN (xAY p q) (xAY p' q') (xVb p q p' q') 0 (fun j hj => by omega) with ⟨e,h⟩ | h | h
  · exact .inl ⟨e,xUz p q p' q' (fun j hj => h j (by omega))⟩
  · exact .inr (.inl h)
  · exact .inr (.inr h)
theorem yAM {v : AV} {f : Nat → Nat} {B i : Nat} (h : HasLas v f B) (hB : B < 134217728) (hi : i < 1099511627776) : L.pcall 47 [v,.int .i64 (i : Nat)] = some (.int .u8 (f i : Nat)) := by
  obtain ⟨z1,z2,p,q,rfl,hz,hp,hq,hs⟩ := h
  rw [xNM z1 z2 p q i (by omega) (by omega) (by omega),hs]
end Go.Abs.Mealy
/- Take. -/
namespace Go.Abs.Mealy
set_option linter.unusedVariables false
set_option linter.unusedSimpArgs false
open Go Go.Abs
set_option linter.unusedSimpArgs false
abbrev F22 (s0 s1 s2 s3 s5 s6 s7 s8 s9 s10 s11 s12 s13 s14 s15 s16 s17 : AV) : List AV := [s0,s1,s2,s3,.ptr 1 0,s5,s6,s7,s8,s9,s10,s11,s12,s13,s14,s15,s16,s17]
section
variable (s0 s1 s2 s3 s5 s6 s7 s8 s9 s10 s11 s12 s13 s14 s15 s16 s17 : AV)
def xNO (b0 b2 b3 : Blk) (f : Nat → Nat) (i : Nat) : Heap :=
  match i with
  | 0 => [b0,.cells false false [.sl true 0 []],b2,b3,.loop 0 none (F22 s0 s1 s2 s3 s5 s6 s7 s8 s9 s10 s11 s12 s13 s14 s15 s16 s17) [11,12] xMd xSE]
  | k + 1 => b0 :: .cells false false [.own false (k + 5) 0 (k + 1) 1] :: b2 :: b3 :: .loop 0 none (F22 s0 s1 s2 s3 s5 s6 s7 s8 s9 s10 s11 s12 s13 s14 s15 s16 s17) [11,12] xMd xSE :: (List.replicate k .dead ++ [.cells false false (bs (xLf f (k + 1)))])
theorem xGv (k : Nat) (l : Heap) : (List.replicate k Blk.dead ++ l)[k]? = l[0]? := by
  have := xS0 (List.replicate k Blk.dead) l
  rwa [List.length_replicate] at this
theorem xGw (k : Nat) (l : Heap) (b : Blk) : (List.replicate k Blk.dead ++ l).set k b = List.replicate k Blk.dead ++ l.set 0 b := by
  have := xS1 (List.replicate k Blk.dead) l b
  rwa [List.length_replicate] at this
theorem xRx (b0 b2 b3 : Blk) (f : Nat → Nat) (i : Nat) (hi : i < 1099511627776) :
    L.icall (.yield 4) [.int .i64 (i : Nat),.int .u8 (f i : Nat)] (xNO s0 s1 s2 s3 s5 s6 s7 s8 s9 s10 s11 s12 s13 s14 s15 s16 s17 b0 b2 b3 f i) = some (.bool true,xNO s0 s1 s2 s3 s5 s6 s7 s8 s9 s10 s11 s12 s13 s14 s15 s16 s17 b0 b2 b3 f (i + 1)) := by
  cases i with
  | zero =>
    rw [xDH]
    unfold xNO
    rw [xHJ (hH := rfl) (h1 := rfl) (h2 := rfl) (h3 := rfl)]
    have hx : bs (xLf f (0 + 1)) = [.int .u8 (f 0 : Nat)] := rfl
    simp (maxSteps := 30000000) (disch := first | assumption | omega | (simp only [WL,AV.isCell] <;> omega) | rfl | decide) only [↓reduceIte,WB,xAu,xAc,xAt,xAk,xAj,AV.cells,AV.isCell,xAa,xAd,xAe,Nat.reduceAdd,Nat.reduceSub,Nat.reduceLeDiff,Nat.reduceMul,Int.reduceAdd,Int.reduceSub,Int.reduceMul,Int.reduceLT,Int.reduceLE,Int.reduceEq,Int.reduceToNat,Int.reduceNeg,Nat.reduceEqDiff,Nat.reduceBEq,Nat.reduceLT,xWU,xSF,xK1,xPc,hx]
    rfl
  | succ k =>
    rw [xDH]
    unfold xNO
    rw [xHJ (hH := rfl) (h1 := rfl) (h2 := rfl) (h3 := rfl)]
    have hx : bs (xLf f (k + 1 + 1)) = bs (xLf f (k + 1)) ++ [.int .u8 (f (k + 1) : Nat)] := by rw [← xRw,← xSX]; rfl
    have hlen := xNL f (k + 1)
    simp (maxSteps := 30000000) (disch := first | assumption | omega | (simp only [WL,AV.isCell] <;> omega) | rfl | decide) only [↓reduceIte,WB,xAu,xAc,xAt,xAk,xAj,AV.cells,AV.isCell,xAa,xAd,xAe,Nat.reduceAdd,Nat.reduceSub,Nat.reduceLeDiff,Nat.reduceMul,Int.reduceAdd,Int.reduceSub,Int.reduceMul,Int.reduceLT,Int.reduceLE,Int.reduceEq,Int.reduceToNat,Int.reduceNeg,Nat.reduceEqDiff,Nat.reduceBEq,Nat.reduceLT,xWU,xSF,xK1,xPc,xGv,xGw]
    rw [hx,List.take_of_length_le (by omega),List.replicate_succ']
    simp
theorem xY0 (b0 b2 b3 : Blk) (f : Nat → Nat) (i : Nat) : (xNO s0 s1 s2 s3 s5 s6 s7 s8 s9 s10 s11 s12 s13 s14 s15 s16 s17 b0 b2 b3 f i)[2]? = some b2 := by cases i <;> rfl
theorem xIh (b0 b3 : Blk) (z1 z2 : Bool) (p q : List Nat) (N : Nat) (hN : N < 1099511627776) : ∀ (d i : Nat),i + d = N →
    Rds 4 (fun i => .int .u8 (xAY p q i : Nat)) N (PQ z1 z2 p q 2) i (xNO s0 s1 s2 s3 s5 s6 s7 s8 s9 s10 s11 s12 s13 s14 s15 s16 s17 b0 (.cells false false [xBc z1 p,xBc z2 q]) b3 (xAY p q) i) (xNO s0 s1 s2 s3 s5 s6 s7 s8 s9 s10 s11 s12 s13 s14 s15 s16 s17 b0 (.cells false false [xBc z1 p,xBc z2 q]) b3 (xAY p q) N)
  | 0,i,h => by
    obtain rfl : i = N := by omega
    exact .done (Nat.le_refl _)
  | d + 1,i,h => .next (by omega) (xRx s0 s1 s2 s3 s5 s6 s7 s8 s9 s10 s11 s12 s13 s14 s15 s16 s17 b0 _ b3 (xAY p q) i (by omega)) ⟨false,false,xY0 ..⟩ (xIh b0 b3 z1 z2 p q N hN d (i + 1) (by omega))
theorem take_range (b0 : Blk) (z1 z2 : Bool) (p q : List Nat) (n : Int) (hp : p.length < 1099511627776) (hq : q.length < 1099511627776) (hN : n.toNat < 1099511627776) :
    L.icall (.func 98 [.ptr 3 0,.ptr 2 0]) [.yield 4] [b0,.cells false false [.sl true 0 []],.cells false false [xBc z1 p,xBc z2 q],.cells false false [.int .i64 n],.loop 0 none (F22 s0 s1 s2 s3 s5 s6 s7 s8 s9 s10 s11 s12 s13 s14 s15 s16 s17) [11,12] xMd xSE] =
      some (.tup [],xNO s0 s1 s2 s3 s5 s6 s7 s8 s9 s10 s11 s12 s13 s14 s15 s16 s17 b0 (.cells false false [xBc z1 p,xBc z2 q]) (.cells false false [.int .i64 n]) (xAY p q) n.toNat) :=
  xEm (n := n) hp hq hN rfl ⟨false,false,rfl⟩ (xIh s0 s1 s2 s3 s5 s6 s7 s8 s9 s10 s11 s12 s13 s14 s15 s16 s17 b0 _ z1 z2 p q n.toNat hN n.toNat 0 (by omega))
end
end Go.Abs.Mealy
/- The law LassoSuffix. -/
namespace Go.Abs.Mealy
set_option linter.unusedVariables false
set_option linter.unusedSimpArgs false
open Go Go.Abs
set_option linter.unusedSimpArgs false
theorem CmpIs.zero {f g : Nat → Nat} (h : ∀ i,f i = g i) : CmpIs f g 0 := .inl ⟨rfl,h⟩
theorem xUA {v u : AV} {f g : Nat → Nat} {B B' : Nat} (h : HasLas v f B) (k : HasLas u g B') (hB : B < 134217728) (hB' : B' < 134217728) (e : ∀ i,f i = g i) : L.pcall 46 [v,u] = some (.bool true) := by
  obtain ⟨c,-,h2,h3⟩ := xOG h k hB hB'
  rw [h2,h3.uniq (CmpIs.zero e)]
  rfl
theorem xOH {z1 z2 : Bool} {p q : List Nat} {B : Nat} (hz : z1 = true → p = []) (hp : p.length ≤ B) (hq : q.length ≤ B) : HasLas (las z1 z2 p q) (xAY p q) B := ⟨z1,z2,p,q,rfl,hz,hp,hq,fun _ => rfl⟩
end Go.Abs.Mealy
