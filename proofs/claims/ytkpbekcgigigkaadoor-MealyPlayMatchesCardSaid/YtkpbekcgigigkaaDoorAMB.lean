/- Encodings and small functions. -/
import Derived.Test.YtkpbekcgigigkaaDoorAbsBun
import Derived.Test.YtkpbekcgigigkaaDoorAMA
namespace Go.Abs.Mealy
set_option linter.unusedVariables false
set_option linter.unusedSimpArgs false
open Go Go.Abs
set_option linter.unusedSimpArgs false
abbrev las (z1 z2 : Bool) (p q : List Nat) : AV := .agg [xBF z1 p,xBF z2 q]
def xAR (q : List Nat) : List Nat := if q = [] then [0] else q
def xJ8 (p q : Nat) (i : Int) : Int := if i < p then max i 0 else p + (i - p) % (max q 1 : Nat)
theorem xYp (z1 z2 : Bool) (p q : List Nat) : ∃ z,L.pcall 77 [las z1 z2 p q] = some (las z1 z p (xAR q)) := by
  rw [yBQ,a77,xAm]
  by_cases hq : q = []
  · subst hq
    refine ⟨false,?_⟩
    simp (maxSteps := 30000000) (disch := first | assumption | omega | (simp only [WL,AV.isCell] <;> omega) | rfl | decide) only [↓reduceIte,WB,xAw,xAc,xAu,xAl,xAk,AV.cells,AV.isCell,xAb,xAd,xAe,Nat.reduceAdd,Nat.reduceSub,Nat.reduceLeDiff,Nat.reduceMul,Int.reduceAdd,Int.reduceSub,Int.reduceMul,Int.reduceLT,Int.reduceLE,Int.reduceEq,Int.reduceToNat,Int.reduceNeg,Nat.reduceEqDiff,Nat.reduceBEq,Nat.reduceLT,bs,xCr]
    rfl
  · refine ⟨z2,?_⟩
    have hl : ¬ ((q.length : Int) = 0) := by
      have : q.length ≠ 0 := by simpa using hq
      omega
    simp (maxSteps := 30000000) (disch := first | assumption | omega | (simp only [WL,AV.isCell] <;> omega) | rfl | decide) only [↓reduceIte,WB,xAw,xAc,xAu,xAl,xAk,AV.cells,AV.isCell,xAb,xAd,xAe,Nat.reduceAdd,Nat.reduceSub,Nat.reduceLeDiff,Nat.reduceMul,Int.reduceAdd,Int.reduceSub,Int.reduceMul,Int.reduceLT,Int.reduceLE,Int.reduceEq,Int.reduceToNat,Int.reduceNeg,Nat.reduceEqDiff,Nat.reduceBEq,Nat.reduceLT,hl,xAR,if_neg hq]
def atM (p q : List Nat) (i : Int) : Nat := if i < 0 then 0 else if i < p.length then p.getD i.toNat 0 else (xAR q).getD ((i.toNat - p.length) % (xAR q).length) 0
theorem xCN (q : List Nat) : 0 < (xAR q).length := by
  unfold xAR
  split
  · simp
  · rename_i h; exact List.length_pos_iff.2 h
theorem xCO (q : List Nat) : (xAR q).length = max q.length 1 := by
  unfold xAR
  split
  · rename_i h; subst h; rfl
  · rename_i h; have := List.length_pos_iff.2 h; omega
end Go.Abs.Mealy
/- root: the failure function gives the longest borders. -/
namespace Go.Abs.Mealy
set_option linter.unusedVariables false
set_option linter.unusedSimpArgs false
open Go Go.Abs
set_option linter.unusedSimpArgs false
def Bord (w : List Nat) (i k : Nat) : Prop := k < i ∧ ∀ t,t < k → w.getD t 0 = w.getD (i - k + t) 0
theorem Bord.chain {w : List Nat} {i k j : Nat} (h : Bord w i k) (h2 : Bord w k j) : Bord w i j := by
  refine ⟨by have := h.1; have := h2.1; omega,fun t ht => ?_⟩
  rw [h2.2 t ht,h.2 (k - j + t) (by have := h2.1; omega)]
  congr 1
  have := h.1; have := h2.1; omega
theorem Bord.ext {w : List Nat} {i k : Nat} (h : Bord w i k) (he : w.getD i 0 = w.getD k 0) : Bord w (i + 1) (k + 1) := by
  refine ⟨by have := h.1; omega,fun t ht => ?_⟩
  have hk := h.1
  by_cases e : t = k
  · subst e
    rw [← he]; congr 1; omega
  · rw [h.2 t (by omega)]; congr 1; omega
theorem Bord.zero {w : List Nat} {i : Nat} (h : 0 < i) : Bord w i 0 := ⟨h,fun t ht => by omega⟩
def xYq (w : List Nat) (i k : Nat) : Prop := ∀ b,Bord w i b → b ≤ k
theorem Bord.inner {w : List Nat} {i k b : Nat} (h : Bord w i k) (h2 : Bord w i b) (hlt : b < k) : Bord w k b := by
  refine ⟨hlt,fun t ht => ?_⟩
  have hk := h.1
  have hb := h2.1
  rw [h2.2 t ht,h.2 (k - b + t) (by omega)]
  congr 1; omega
theorem Bord.prev {w : List Nat} {i c : Nat} (h : Bord w (i + 1) (c + 1)) : Bord w i c ∧ w.getD i 0 = w.getD c 0 := by
  have h1 := h.1
  refine ⟨⟨by omega,fun t ht => ?_⟩,?_⟩
  · rw [h.2 t (by omega)]; congr 1; omega
  · rw [h.2 c (by omega)]; congr 1; omega
theorem xQ9 {z : Bool} {w fl : List Nat} {i : Nat} (hi : i < w.length) (hw : w.length < 1099511627776) (hfl : fl.length = w.length + 1) (hf : ∀ j,0 < j → j ≤ i → Bord w j (fl.getD j 0) ∧ xYq w j (fl.getD j 0)) :
    ∀ k,Bord w i k → (∀ b,Bord w i b → k < b → w.getD i 0 ≠ w.getD b 0) → ∃ k',Bord w i k' ∧ (k' = 0 ∨ w.getD i 0 = w.getD k' 0) ∧ (∀ b,Bord w i b → k' < b → w.getD i 0 ≠ w.getD b 0) ∧
      L.loop xMf xVv ⟨xMg (xBF z w) (.own false 0 0 (w.length + 1) 1) (.int .i64 (k : Nat)) (.int .i64 (i : Nat)),[.cells false false (xCL fl)]⟩ = some (.exit 2,⟨xMg (xBF z w) (.own false 0 0 (w.length + 1) 1) (.int .i64 (k' : Nat)) (.int .i64 (i : Nat)),[.cells false false (xCL fl)]⟩) := by
  intro k
  induction k using Nat.strongRecOn with
  | _ k ih =>
    intro hk hm
    have hki := hk.1
    by_cases h0 : k = 0
    · refine ⟨k,hk,.inl h0,hm,?_⟩
      have hng : ¬ ((0 : Int) < (k : Nat)) := by omega
      rw [xSp]
      simp (maxSteps := 30000000) (disch := first | assumption | omega | (simp only [WL,AV.isCell] <;> omega) | rfl | decide) only [↓reduceIte,WB,xAw,xAc,xAu,xAl,xAk,AV.cells,AV.isCell,xAb,xAd,xAe,Nat.reduceAdd,Nat.reduceSub,Nat.reduceLeDiff,Nat.reduceMul,Int.reduceAdd,Int.reduceSub,Int.reduceMul,Int.reduceLT,Int.reduceLE,Int.reduceEq,Int.reduceToNat,Int.reduceNeg,Nat.reduceEqDiff,Nat.reduceBEq,Nat.reduceLT,xMe,xMh,hng]
    · have hgt : ((0 : Int) < (k : Nat)) := by omega
      by_cases he : w.getD i 0 = w.getD k 0
      · refine ⟨k,hk,.inr he,hm,?_⟩
        have heq : (((w.getD i 0 : Nat) : Int) = ((w.getD k 0 : Nat) : Int)) = True := eq_true (by omega)
        rw [xSp]
        simp (maxSteps := 30000000) (disch := first | assumption | omega | (simp only [WL,AV.isCell] <;> omega) | rfl | decide) only [↓reduceIte,WB,xAw,xAc,xAu,xAl,xAk,AV.cells,AV.isCell,xAb,xAd,xAe,Nat.reduceAdd,Nat.reduceSub,Nat.reduceLeDiff,Nat.reduceMul,Int.reduceAdd,Int.reduceSub,Int.reduceMul,Int.reduceLT,Int.reduceLE,Int.reduceEq,Int.reduceToNat,Int.reduceNeg,Nat.reduceEqDiff,Nat.reduceBEq,Nat.reduceLT,xMe,xMh,hgt,heq]
      · have hne : ¬ (((w.getD i 0 : Nat) : Int) = ((w.getD k 0 : Nat) : Int)) := by omega
        obtain ⟨hb,hbm⟩ := hf k (by omega) (by omega)
        obtain ⟨k',h1,h2,h4,h3⟩ := ih _ hb.1 (hk.chain hb) (fun b hb1 hb2 => by
          rcases Nat.lt_trichotomy b k with e | e | e
          · have := hbm b (hk.inner hb1 e); omega
          · subst e; exact he
          · exact hm b hb1 e)
        refine ⟨k',h1,h2,h4,?_⟩
        rw [xSp]
        simp (maxSteps := 30000000) (disch := first | assumption | omega | (simp only [WL,AV.isCell] <;> omega) | rfl | decide) only [↓reduceIte,WB,xAw,xAc,xAu,xAl,xAk,AV.cells,AV.isCell,xAb,xAd,xAe,Nat.reduceAdd,Nat.reduceSub,Nat.reduceLeDiff,Nat.reduceMul,Int.reduceAdd,Int.reduceSub,Int.reduceMul,Int.reduceLT,Int.reduceLE,Int.reduceEq,Int.reduceToNat,Int.reduceNeg,Nat.reduceEqDiff,Nat.reduceBEq,Nat.reduceLT,xMe,xMh,hgt,hne,h3]
theorem xFq {z : Bool} {w : List Nat} (hw : w.length < 1099511627776) : ∀ (d i k : Nat) (fl : List Nat),i + d = w.length → 0 < i → fl.length = w.length + 1 → (∀ j,0 < j → j ≤ i → Bord w j (fl.getD j 0) ∧ xYq w j (fl.getD j 0)) → Bord w i k → xYq w i k →
    ∃ fl' k',fl'.length = w.length + 1 ∧ (∀ j,0 < j → j ≤ w.length → Bord w j (fl'.getD j 0) ∧ xYq w j (fl'.getD j 0)) ∧
      L.loop xI4 xSq ⟨xI5 (xBF z w) (.own false 0 0 (w.length + 1) 1) (.int .i64 (k : Nat)) (.int .i64 (i : Nat)),[.cells false false (xCL fl)]⟩ = some (.exit 0,⟨xI5 (xBF z w) (.own false 0 0 (w.length + 1) 1) (.int .i64 (k' : Nat)) (.int .i64 (w.length : Nat)),[.cells false false (xCL fl')]⟩)
  | 0,i,k,fl,hd,hi0,hfl,hf,hk,hmx => by
    have : i = w.length := by omega
    subst this
    refine ⟨fl,k,hfl,hf,?_⟩
    rw [xSr]
    simp (maxSteps := 30000000) (disch := first | assumption | omega | (simp only [WL,AV.isCell] <;> omega) | rfl | decide) only [↓reduceIte,WB,xAw,xAc,xAu,xAl,xAk,AV.cells,AV.isCell,xAb,xAd,xAe,Nat.reduceAdd,Nat.reduceSub,Nat.reduceLeDiff,Nat.reduceMul,Int.reduceAdd,Int.reduceSub,Int.reduceMul,Int.reduceLT,Int.reduceLE,Int.reduceEq,Int.reduceToNat,Int.reduceNeg,Nat.reduceEqDiff,Nat.reduceBEq,Nat.reduceLT,xMi,xMj,Int.lt_irrefl]
  | d + 1,i,k,fl,hd,hi0,hfl,hf,hk,hmx => by
    have hi : (i : Int) < (w.length : Nat) := by omega
    obtain ⟨k',hk',he,hm,hl⟩ := xQ9 (z := z) (by omega) hw hfl hf k hk (fun b hb1 hb2 => absurd (hmx b hb1) (by omega))
    have hki := hk'.1
    by_cases hq : w.getD i 0 = w.getD k' 0
    · have hnew : xYq w (i + 1) (k' + 1) := fun b hb => by
        cases b with
        | zero => omega
        | succ c =>
          obtain ⟨h1,h2⟩ := hb.prev
          rcases Nat.lt_or_ge k' c with e | e
          · exact absurd h2 (hm c h1 e)
          · omega
      obtain ⟨fl',k'',h1,h2,h3⟩ := xFq (z := z) hw d (i + 1) (k' + 1) (fl.set (i + 1) (k' + 1)) (by omega) (by omega) (by simpa using hfl) (fun j hj0 hj1 => by
        by_cases e : j = i + 1
        · subst e
          rw [List.getD_eq_getElem?_getD,List.getElem?_set_self (by omega)]
          exact ⟨hk'.ext hq,hnew⟩
        · rw [List.getD_eq_getElem?_getD,List.getElem?_set_ne (by omega),← List.getD_eq_getElem?_getD]
          exact hf j hj0 (by omega)) (hk'.ext hq) hnew
      refine ⟨fl',k'',h1,h2,?_⟩
      have heq : (((w.getD i 0 : Nat) : Int) = ((w.getD k' 0 : Nat) : Int)) = True := eq_true (by omega)
      rw [xSr]
      simp (maxSteps := 30000000) (disch := first | assumption | omega | (simp only [WL,AV.isCell] <;> omega) | rfl | decide) only [↓reduceIte,WB,xAw,xAc,xAu,xAl,xAk,AV.cells,AV.isCell,xAb,xAd,xAe,Nat.reduceAdd,Nat.reduceSub,Nat.reduceLeDiff,Nat.reduceMul,Int.reduceAdd,Int.reduceSub,Int.reduceMul,Int.reduceLT,Int.reduceLE,Int.reduceEq,Int.reduceToNat,Int.reduceNeg,Nat.reduceEqDiff,Nat.reduceBEq,Nat.reduceLT,xMi,xMh,xMj,hi,hl,heq,h3]
    · have h0 : k' = 0 := by
        rcases he with h | h
        · exact h
        · exact (hq h).elim
      have hne : ¬ (((w.getD i 0 : Nat) : Int) = ((w.getD k' 0 : Nat) : Int)) := by omega
      have hnew : xYq w (i + 1) k' := fun b hb => by
        cases b with
        | zero => omega
        | succ c =>
          obtain ⟨h1,h2⟩ := hb.prev
          rcases Nat.lt_or_ge k' c with e | e
          · exact absurd h2 (hm c h1 e)
          · have : c = k' := by omega
            subst this
            exact absurd h2 hq
      obtain ⟨fl',k'',h1,h2,h3⟩ := xFq (z := z) hw d (i + 1) k' (fl.set (i + 1) k') (by omega) (by omega) (by simpa using hfl) (fun j hj0 hj1 => by
        by_cases e : j = i + 1
        · subst e
          rw [List.getD_eq_getElem?_getD,List.getElem?_set_self (by omega)]
          exact ⟨by rw [h0]; exact .zero (by omega),hnew⟩
        · rw [List.getD_eq_getElem?_getD,List.getElem?_set_ne (by omega),← List.getD_eq_getElem?_getD]
          exact hf j hj0 (by omega)) (h0 ▸ .zero (by omega)) hnew
      refine ⟨fl',k'',h1,h2,?_⟩
      rw [xSr]
      simp (maxSteps := 30000000) (disch := first | assumption | omega | (simp only [WL,AV.isCell] <;> omega) | rfl | decide) only [↓reduceIte,WB,xAw,xAc,xAu,xAl,xAk,AV.cells,AV.isCell,xAb,xAd,xAe,Nat.reduceAdd,Nat.reduceSub,Nat.reduceLeDiff,Nat.reduceMul,Int.reduceAdd,Int.reduceSub,Int.reduceMul,Int.reduceLT,Int.reduceLE,Int.reduceEq,Int.reduceToNat,Int.reduceNeg,Nat.reduceEqDiff,Nat.reduceBEq,Nat.reduceLT,xMi,xMh,xMj,hi,hl,hne,h3]
end Go.Abs.Mealy
/- root,Clone,Concat,Canonical: the shortest form. -/
namespace Go.Abs.Mealy
set_option linter.unusedVariables false
set_option linter.unusedSimpArgs false
open Go Go.Abs
theorem xKU : True = True := rfl
theorem xOp : True = True := rfl
theorem xQb {r q : List Nat} {per : Nat} (hper : 0 < per) (hq : per ≤ q.length) (h : ∀ t,t + per < q.length → q.getD t 0 = q.getD (t + per) 0) : ∀ t,t < q.length → q.getD t 0 = q.getD (t % per) 0 := by
  intro t
  induction t using Nat.strongRecOn with
  | _ t ih =>
    intro ht
    by_cases h1 : t < per
    · rw [Nat.mod_eq_of_lt h1]
    · have := h (t - per) (by omega)
      rw [show t - per + per = t by omega] at this
      rw [← this,ih (t - per) (by omega) (by omega)]
      exact congrArg (q.getD · 0) (Nat.mod_eq_sub_mod (by omega)).symm
theorem xH3 {l : List Nat} {n t : Nat} (h : t < n) : (l.take n).getD t 0 = l.getD t 0 := by
  simp [List.getD,List.getElem?_take,h]
theorem xT2 (l : List Nat) (n t : Nat) : (l.drop n).getD t 0 = l.getD (n + t) 0 := by
  simp [List.getD,List.getElem?_drop]
theorem xGf {a b : List Nat} {t : Nat} (h : t < a.length) : (a ++ b).getD t 0 = a.getD t 0 := by
  simp [List.getD,List.getElem?_append_left h]
theorem xFr {a b : List Nat} {t : Nat} (h : a.length ≤ t) : (a ++ b).getD t 0 = b.getD (t - a.length) 0 := by
  simp [List.getD,List.getElem?_append_right h]
def xAZ (p q : List Nat) (i : Nat) : Nat := if i < p.length then p.getD i 0 else (xAR q).getD ((i - p.length) % (xAR q).length) 0
theorem xYr (p q : List Nat) (i : Nat) : atM p q (i : Nat) = xAZ p q i := by
  unfold atM xAZ
  have h : ¬ ((i : Int) < 0) := by omega
  simp [h]
theorem xZ1 (r : List Nat) (a : Nat) (ha : a < r.length) (t : Nat) (ht : t < r.length) : (r.drop a ++ r.take a).getD t 0 = r.getD ((a + t) % r.length) 0 := by
  by_cases h : t < r.length - a
  · rw [xGf (by simpa using h),xT2,Nat.mod_eq_of_lt (by omega)]
  · rw [xFr (by simpa using (by omega : r.length - a ≤ t)),xH3 (by simp; omega),Nat.mod_eq_sub_mod (by omega),Nat.mod_eq_of_lt (by omega),List.length_drop]
    congr 1; omega
theorem xDU {h : Nat → Nat} {x : Nat} (hp : ∀ t,h (t + x) = h t) : ∀ k t,h (t + k * x) = h t
  | 0,t => by simp
  | k + 1,t => by rw [Nat.succ_mul,← Nat.add_assoc,hp,xDU hp k t]
theorem xT3 {h : Nat → Nat} : ∀ x y : Nat,(∀ t,h (t + x) = h t) → (∀ t,h (t + y) = h t) → ∀ t,h (t + Nat.gcd x y) = h t := by
  intro x
  induction x using Nat.strongRecOn with
  | _ x ih =>
    intro y hx hy t
    by_cases h0 : x = 0
    · subst h0; rw [Nat.gcd_zero_left]; exact hy t
    · rw [Nat.gcd_rec]
      refine ih (y % x) (Nat.mod_lt _ (by omega)) x (fun t => ?_) hx t
      have := xDU hx (y / x) (t + y % x)
      rw [← this,show t + y % x + y / x * x = t + y by rw [Nat.add_assoc,Nat.mod_add_div']]
      exact hy t
def xZ2 (w : List Nat) (p : Nat) : Prop := 0 < p ∧ p ≤ w.length ∧ w.length % p = 0 ∧ (∀ t,t + p < w.length → w.getD t 0 = w.getD (t + p) 0) ∧
  ∀ d,0 < d → d ≤ w.length → w.length % d = 0 → (∀ t,t + d < w.length → w.getD t 0 = w.getD (t + d) 0) → p ≤ d
theorem xH4 {w : List Nat} {d : Nat} (h0 : 0 < d) (hd : d ≤ w.length) (h : ∀ t,t + d < w.length → w.getD t 0 = w.getD (t + d) 0) : Bord w w.length (w.length - d) := by
  refine ⟨by omega,fun t ht => ?_⟩
  rw [h t (by omega)]; congr 1; omega
theorem xQc {w : List Nat} {F d : Nat} (hF : Bord w w.length F) (hm : xYq w w.length F) (h0 : 0 < d) (hd : d ≤ w.length) (hdv : w.length % d = 0) (h : ∀ t,t + d < w.length → w.getD t 0 = w.getD (t + d) 0) :
    w.length - F ≤ d ∧ (w.length % (w.length - F) ≠ 0 → w.length ≤ d) := by
  have h1 := hm _ (xH4 h0 hd h)
  have hF1 := hF.1
  refine ⟨by omega,fun hne => ?_⟩
  rcases Nat.lt_or_ge d w.length with hlt | hge
  · exfalso
    obtain ⟨k,hk⟩ := Nat.dvd_of_mod_eq_zero hdv
    have hk2 : 2 ≤ k := by
      rcases Nat.lt_or_ge k 2 with e | e
      · have : k = 0 ∨ k = 1 := by omega
        rcases this with rfl | rfl <;> omega
      · exact e
    have h2d : d + d ≤ w.length := by
      have : d * 2 ≤ d * k := Nat.mul_le_mul_left d hk2
      omega
    have hT : ∀ t,t < w.length → w.getD t 0 = w.getD (t % d) 0 := xQb (r := []) h0 hd h
    have e1 : ∀ t,w.getD ((t + d) % d) 0 = w.getD (t % d) 0 := fun t => by rw [Nat.add_mod_right]
    have e2 : ∀ t,w.getD ((t + (w.length - F)) % d) 0 = w.getD (t % d) 0 := fun t => by
      have hmd := Nat.mod_lt t h0
      have a1 : (t + (w.length - F)) % d = (t % d + (w.length - F)) % d := by rw [Nat.mod_add_mod]
      rw [a1,← hT _ (by omega),hF.2 (t % d) (by omega)]
      congr 1; omega
    have e3 := xT3 (h := fun t => w.getD (t % d) 0) _ _ e2 e1
    have hg0 : 0 < Nat.gcd (w.length - F) d := Nat.gcd_pos_of_pos_right _ h0
    have hgd : Nat.gcd (w.length - F) d ≤ d := Nat.le_of_dvd h0 (Nat.gcd_dvd_right ..)
    have hgp : Nat.gcd (w.length - F) d ≤ w.length - F := Nat.le_of_dvd (by omega) (Nat.gcd_dvd_left ..)
    have h4 := hm _ (xH4 hg0 (by omega) (fun t ht => by
      rw [hT t (by omega),hT _ ht]
      exact (e3 t).symm))
    have heq : Nat.gcd (w.length - F) d = w.length - F := by omega
    have hdvd : (w.length - F) ∣ d := heq ▸ Nat.gcd_dvd_right (w.length - F) d
    exact hne (Nat.mod_eq_zero_of_dvd (Nat.dvd_trans hdvd ⟨k,hk⟩))
  · exact hge
theorem xYs (z : Bool) (w : List Nat) (hw0 : 0 < w.length) (hw : w.length < 1099511627776) :
    ∃ p,xZ2 w p ∧ L.pcall 83 [xBF z w] = some (xBF z (w.take p)) := by
  obtain ⟨fl,k',h1,h2,h3⟩ := xFq (z := z) hw (w.length - 1) 1 0 (List.replicate (w.length + 1) 0) (by omega) (by omega) (by simp) (fun j h0 h1 => by
    have : j = 1 := by omega
    subst this
    rw [List.getD_eq_getElem?_getD,List.getElem?_replicate,if_pos (by omega)]
    exact ⟨.zero (by omega),fun b hb => by have := hb.1; show b ≤ 0; omega⟩) (.zero (by omega)) (fun b hb => by have := hb.1; omega)
  change L.loop xI4 xSq ⟨xI5 (xBF z w) (.own false 0 0 (w.length + 1) 1) (.int .i64 0) (.int .i64 1),_⟩ = _ at h3
  obtain ⟨hb,hmx⟩ := h2 w.length hw0 (Nat.le_refl _)
  have hb1 := hb.1
  by_cases hd : w.length % (w.length - fl.getD w.length 0) = 0
  · refine ⟨w.length - fl.getD w.length 0,⟨by omega,by omega,hd,fun t ht => ?_,fun d d1 d2 d3 d4 => (xQc hb hmx d1 d2 d3 d4).1⟩,?_⟩
    · rw [hb.2 t (by omega)]; congr 1; omega
    · have hd' : (((w.length % (w.length - fl.getD w.length 0) : Nat) : Int) = 0) := by omega
      rw [yBq,a83,xAm]
      simp (maxSteps := 30000000) (disch := first | assumption | omega | (simp only [WL,AV.isCell] <;> omega) | rfl | decide) only [↓reduceIte,WB,xAw,xAc,xAu,xAl,xAk,AV.cells,AV.isCell,xAb,xAd,xAe,WP,xAG,xAy,xBn,xBl,xBg,xAD,xAJ,xAH,Nat.reduceAdd,Nat.reduceSub,Nat.reduceLeDiff,Nat.reduceMul,Int.reduceAdd,Int.reduceSub,Int.reduceMul,Int.reduceLT,Int.reduceLE,Int.reduceEq,Int.reduceToNat,Int.reduceNeg,Nat.reduceEqDiff,Nat.reduceBEq,Nat.reduceLT,xMj,h3,hd']
      exact congrArg some (xEe (by rw [List.length_take,Nat.min_eq_left (by omega)]))
  · refine ⟨w.length,⟨hw0,Nat.le_refl _,Nat.mod_self _,fun t ht => (by omega),fun d d1 d2 d3 d4 => (xQc hb hmx d1 d2 d3 d4).2 hd⟩,?_⟩
    have hd' : ¬ (((w.length % (w.length - fl.getD w.length 0) : Nat) : Int) = 0) := by omega
    rw [yBq,a83,xAm]
    simp (maxSteps := 30000000) (disch := first | assumption | omega | (simp only [WL,AV.isCell] <;> omega) | rfl | decide) only [↓reduceIte,WB,xAw,xAc,xAu,xAl,xAk,AV.cells,AV.isCell,xAb,xAd,xAe,WP,xAG,xAy,xBn,xBl,xBg,xAD,xAJ,xAH,Nat.reduceAdd,Nat.reduceSub,Nat.reduceLeDiff,Nat.reduceMul,Int.reduceAdd,Int.reduceSub,Int.reduceMul,Int.reduceLT,Int.reduceLE,Int.reduceEq,Int.reduceToNat,Int.reduceNeg,Nat.reduceEqDiff,Nat.reduceBEq,Nat.reduceLT,xMj,h3,hd']
theorem xT4 (w : List Nat) (hw : w.length < 1099511627776) : xBO L 72 [xBF false w] = some (.own false 0 0 w.length 1,[.cells false false (bs w)]) ∧ xBO L 72 [.sl true 0 []] = some (.sl true 0 [],[]) := by
  constructor
  · rw [xEZ,yBp,a72,xDT]
    simp (maxSteps := 30000000) (disch := first | assumption | omega | (simp only [WL,AV.isCell] <;> omega) | rfl | decide) only [↓reduceIte,WB,xAw,xAc,xAu,xAl,xAk,AV.cells,AV.isCell,xAb,xAd,xAe,WP,xAG,xAy,xBn,xBl,xBg,xAD,xAJ,xAH,Nat.reduceAdd,Nat.reduceSub,Nat.reduceLeDiff,Nat.reduceMul,Int.reduceAdd,Int.reduceSub,Int.reduceMul,Int.reduceLT,Int.reduceLE,Int.reduceEq,Int.reduceToNat,Int.reduceNeg,Nat.reduceEqDiff,Nat.reduceBEq,Nat.reduceLT,List.length_take,List.take_zero,List.drop_zero,List.take_length,Nat.zero_mul]
  · rw [xEZ,yBp,a72,xDT]
    simp (maxSteps := 30000000) (disch := first | assumption | omega | (simp only [WL,AV.isCell] <;> omega) | rfl | decide) only [↓reduceIte,WB,xAw,xAc,xAu,xAl,xAk,AV.cells,AV.isCell,xAb,xAd,xAe,WP,xAG,xAy,xBn,xBl,xBg,xAD,xAJ,xAH,Nat.reduceAdd,Nat.reduceSub,Nat.reduceLeDiff,Nat.reduceMul,Int.reduceAdd,Int.reduceSub,Int.reduceMul,Int.reduceLT,Int.reduceLE,Int.reduceEq,Int.reduceToNat,Int.reduceNeg,Nat.reduceEqDiff,Nat.reduceBEq,Nat.reduceLT]
set_option maxHeartbeats 1000000 in
theorem xRa (z1 z2 : Bool) (a b : List Nat) (ha : a.length < 1099511627776) (hb : b.length < 1099511627776) (h0 : ¬ a.length + b.length = 0) : xBO L 76 [.sl false 2 [xBF z1 a,xBF z2 b]] = some (.own false 0 0 (a.length + b.length) 1,[.cells false false (bs (a ++ b))]) := by
  have hbeq : (a.length + b.length == 0) = false := by simpa using h0
  have hn0 : (0 : Int) < ((a.length + b.length : Nat) : Int) := by omega
  rw [xEZ,yBP,a76,xDT]
  simp (maxSteps := 30000000) (disch := first | assumption | omega | (simp only [WL,AV.isCell] <;> omega) | rfl | decide) only [↓reduceIte,WB,xAw,xAc,xAu,xAl,xAk,AV.cells,AV.isCell,xAb,xAd,xAe,WP,xAG,xAy,xBn,xBl,xBg,xAD,xAJ,xAH,Nat.reduceAdd,Nat.reduceSub,Nat.reduceLeDiff,Nat.reduceMul,Int.reduceAdd,Int.reduceSub,Int.reduceMul,Int.reduceLT,Int.reduceLE,Int.reduceEq,Int.reduceToNat,Int.reduceNeg,Nat.reduceEqDiff,Nat.reduceBEq,Nat.reduceLT,xZm,xZn,xSl,xZo,xZp,xSn,yBW,a96,hn0,hbeq]
end Go.Abs.Mealy
/- Canonical: the shortest form,by what the lasso denotes. -/
namespace Go.Abs.Mealy
set_option linter.unusedVariables false
set_option linter.unusedSimpArgs false
open Go Go.Abs
def xC4 (p r : List Nat) : Nat → Nat → Nat × Nat
  | 0,at_ => (0,at_)
  | n + 1,at_ => if p.getD n 0 = r.getD (at_ - 1) 0 then xC4 p r n (if at_ - 1 = 0 then r.length else at_ - 1) else (n + 1,at_)
theorem xFs (z : Bool) (zz : Bool) (p r : List Nat) (q1 : AV) (b1 : Blk) (hr : 0 < r.length) (hr2 : r.length < 1099511627776) (hp : p.length < 1099511627776) : ∀ n a,n ≤ p.length → 0 < a → a ≤ r.length →
    L.loop xL3 xVp ⟨xL4 (.ptr 0 0) (.ptr 1 0) (xBF z r) (.int .i64 (n : Nat)) (.int .i64 (a : Nat)),[.cells false false [xBF zz p,q1],b1]⟩ =
      some (.exit 0,⟨xL4 (.ptr 0 0) (.ptr 1 0) (xBF z r) (.int .i64 ((xC4 p r n a).1 : Nat)) (.int .i64 ((xC4 p r n a).2 : Nat)),[.cells false false [xBF zz p,q1],b1]⟩)
  | 0,a,hn,ha,har => by
    rw [xWn]
    simp (maxSteps := 30000000) (disch := first | assumption | omega | (simp only [WL,AV.isCell] <;> omega) | rfl | decide) only [↓reduceIte,WB,xAw,xAc,xAu,xAl,xAk,AV.cells,AV.isCell,xAb,xAd,xAe,WP,xAG,xAy,xBn,xBl,xBg,xAD,xAJ,xAH,Nat.reduceAdd,Nat.reduceSub,Nat.reduceLeDiff,Nat.reduceMul,Int.reduceAdd,Int.reduceSub,Int.reduceMul,Int.reduceLT,Int.reduceLE,Int.reduceEq,Int.reduceToNat,Int.reduceNeg,Nat.reduceEqDiff,Nat.reduceBEq,Nat.reduceLT,xI1,xI2,xC4]
  | n + 1,a,hn,ha,har => by
    have h0 : (0 : Int) < ((n + 1 : Nat) : Int) := by omega
    have hm : (a - 1) % r.length = a - 1 := Nat.mod_eq_of_lt (by omega)
    rw [xWn]
    unfold xC4
    by_cases he : p.getD n 0 = r.getD (a - 1) 0
    · have heq : (((p.getD n 0 : Nat) : Int) = ((r.getD (a - 1) 0 : Nat) : Int)) = True := eq_true (by omega)
      by_cases h1 : a - 1 = 0
      · have ih := xFs z zz p r q1 b1 hr hr2 hp n r.length (by omega) hr (Nat.le_refl _)
        have h1' : ((a - 1 : Nat) : Int) = 0 := by omega
        simp (maxSteps := 30000000) (disch := first | assumption | omega | (simp only [WL,AV.isCell] <;> omega) | rfl | decide) only [↓reduceIte,WB,xAw,xAc,xAu,xAl,xAk,AV.cells,AV.isCell,xAb,xAd,xAe,WP,xAG,xAy,xBn,xBl,xBg,xAD,xAJ,xAH,Nat.reduceAdd,Nat.reduceSub,Nat.reduceLeDiff,Nat.reduceMul,Int.reduceAdd,Int.reduceSub,Int.reduceMul,Int.reduceLT,Int.reduceLE,Int.reduceEq,Int.reduceToNat,Int.reduceNeg,Nat.reduceEqDiff,Nat.reduceBEq,Nat.reduceLT,xI1,xI2,h0,hm,heq,he,h1,h1',Nat.add_sub_cancel,ih]
      · have ih := xFs z zz p r q1 b1 hr hr2 hp n (a - 1) (by omega) (by omega) (by omega)
        have h1' : ¬ ((a - 1 : Nat) : Int) = 0 := by omega
        simp (maxSteps := 30000000) (disch := first | assumption | omega | (simp only [WL,AV.isCell] <;> omega) | rfl | decide) only [↓reduceIte,WB,xAw,xAc,xAu,xAl,xAk,AV.cells,AV.isCell,xAb,xAd,xAe,WP,xAG,xAy,xBn,xBl,xBg,xAD,xAJ,xAH,Nat.reduceAdd,Nat.reduceSub,Nat.reduceLeDiff,Nat.reduceMul,Int.reduceAdd,Int.reduceSub,Int.reduceMul,Int.reduceLT,Int.reduceLE,Int.reduceEq,Int.reduceToNat,Int.reduceNeg,Nat.reduceEqDiff,Nat.reduceBEq,Nat.reduceLT,xI1,xI2,h0,hm,heq,he,h1,h1',Nat.add_sub_cancel,ih]
    · have hne : ¬ (((p.getD n 0 : Nat) : Int) = ((r.getD (a - 1) 0 : Nat) : Int)) := by omega
      simp (maxSteps := 30000000) (disch := first | assumption | omega | (simp only [WL,AV.isCell] <;> omega) | rfl | decide) only [↓reduceIte,WB,xAw,xAc,xAu,xAl,xAk,AV.cells,AV.isCell,xAb,xAd,xAe,WP,xAG,xAy,xBn,xBl,xBg,xAD,xAJ,xAH,Nat.reduceAdd,Nat.reduceSub,Nat.reduceLeDiff,Nat.reduceMul,Int.reduceAdd,Int.reduceSub,Int.reduceMul,Int.reduceLT,Int.reduceLE,Int.reduceEq,Int.reduceToNat,Int.reduceNeg,Nat.reduceEqDiff,Nat.reduceBEq,Nat.reduceLT,xI1,xI2,h0,hm,hne,he,Nat.add_sub_cancel]
theorem xJ9 (p r : List Nat) (S : Nat → Nat) (hr : 0 < r.length) : ∀ n a,n ≤ p.length → 0 < a → a ≤ r.length → (∀ i,i < n → S i = p.getD i 0) → (∀ j,n ≤ j → S j = r.getD ((a + (j - n)) % r.length) 0) →
    (xC4 p r n a).1 ≤ n ∧ 0 < (xC4 p r n a).2 ∧ (xC4 p r n a).2 ≤ r.length ∧ (∀ i,i < (xC4 p r n a).1 → S i = p.getD i 0) ∧ (∀ j,(xC4 p r n a).1 ≤ j → S j = r.getD (((xC4 p r n a).2 + (j - (xC4 p r n a).1)) % r.length) 0)
  | 0,a,hn,h0,ha,h1,h2 => ⟨Nat.le_refl _,h0,ha,h1,h2⟩
  | n + 1,a,hn,h0,ha,h1,h2 => by
    unfold xC4
    by_cases he : p.getD n 0 = r.getD (a - 1) 0
    · rw [if_pos he]
      have hS : ∀ b,(b = a - 1 ∨ b = a - 1 + r.length) → ∀ j,n ≤ j → S j = r.getD ((b + (j - n)) % r.length) 0 := by
        intro b hb j hj
        by_cases hjn : j = n
        · subst hjn
          rw [h1 j (by omega),he,Nat.sub_self,Nat.add_zero]
          rcases hb with rfl | rfl
          · rw [Nat.mod_eq_of_lt (by omega)]
          · rw [Nat.add_mod_right,Nat.mod_eq_of_lt (by omega)]
        · rw [h2 j (by omega)]
          rcases hb with rfl | rfl
          · rw [show a - 1 + (j - n) = a + (j - (n + 1)) by omega]
          · rw [show a - 1 + r.length + (j - n) = a + (j - (n + 1)) + r.length by omega,Nat.add_mod_right]
      have ih := xJ9 p r S hr n (if a - 1 = 0 then r.length else a - 1) (by omega) (by split <;> omega) (by split <;> omega) (fun i hi => h1 i (by omega)) (hS _ (by split <;> omega))
      exact ⟨by omega,ih.2⟩
    · rw [if_neg he]
      exact ⟨Nat.le_refl _,h0,ha,h1,h2⟩
theorem xKa (p r : List Nat) : ∀ n a,(xC4 p r n a).1 = 0 ∨ p.getD ((xC4 p r n a).1 - 1) 0 ≠ r.getD ((xC4 p r n a).2 - 1) 0
  | 0,a => .inl rfl
  | n + 1,a => by
    unfold xC4
    by_cases he : p.getD n 0 = r.getD (a - 1) 0
    · rw [if_pos he]; exact xKa p r n _
    · rw [if_neg he]; exact .inr (by simpa using he)
theorem xKV {p q : List Nat} {i : Nat} (h : i < p.length) : xAZ p q i = p.getD i 0 := if_pos h
theorem xCP {p q : List Nat} {i : Nat} (h : p.length ≤ i) : xAZ p q i = (xAR q).getD ((i - p.length) % (xAR q).length) 0 := if_neg (by omega)
theorem xC5 {q : List Nat} (h : 0 < q.length) : xAR q = q := if_neg (by intro e; subst e; simp at h)
theorem xT5 (p q : List Nat) (i : Nat) : xAZ p (xAR q) i = xAZ p q i := by
  unfold xAZ
  rw [xC5 (xCN q)]
theorem xCs {p q : List Nat} (hq : 0 < q.length) {i : Nat} (hi : p.length ≤ i) : xAZ p q (i + q.length) = xAZ p q i := by
  rw [xCP (by omega),xCP hi,xC5 hq,show i + q.length - p.length = i - p.length + q.length by omega,Nat.add_mod_right]
def Canon (S : Nat → Nat) (p q : List Nat) : Prop := 0 < q.length ∧ (∀ i,xAZ p q i = S i) ∧ (∀ d a,0 < d → (∀ i,a ≤ i → S (i + d) = S i) → q.length ≤ d) ∧ ∀ a,(∀ i,a ≤ i → S (i + q.length) = S i) → p.length ≤ a
theorem xBv {a b : List Nat} (h : a.length = b.length) (k : ∀ i,i < a.length → a.getD i 0 = b.getD i 0) : a = b := by
  apply List.ext_getElem h
  intro i h1 h2
  have := k i h1
  rwa [List.getD_eq_getElem?_getD,List.getD_eq_getElem?_getD,List.getElem?_eq_getElem h1,List.getElem?_eq_getElem h2,Option.getD_some,Option.getD_some] at this
theorem Canon.uniq {S : Nat → Nat} {p q p' q' : List Nat} (h : Canon S p q) (k : Canon S p' q') : p = p' ∧ q = q' := by
  obtain ⟨h1,h2,h3,h4⟩ := h
  obtain ⟨k1,k2,k3,k4⟩ := k
  have e1 := h3 q'.length p'.length k1 (fun i hi => by rw [← k2,← k2,xCs k1 hi])
  have e2 := k3 q.length p.length h1 (fun i hi => by rw [← h2,← h2,xCs h1 hi])
  have e : q.length = q'.length := by omega
  have f1 := h4 p'.length (fun i hi => by rw [← k2,← k2,e,xCs k1 hi])
  have f2 := k4 p.length (fun i hi => by rw [← h2,← h2,← e,xCs h1 hi])
  have f : p.length = p'.length := by omega
  refine ⟨xBv f fun i hi => ?_,xBv e fun i hi => ?_⟩
  · have := (h2 i).trans (k2 i).symm
    rwa [xKV hi,xKV (by omega)] at this
  · have := (h2 (p.length + i)).trans (k2 (p.length + i)).symm
    rwa [xCP (by omega),xCP (by omega),xC5 h1,xC5 k1,← f,Nat.add_sub_cancel_left,Nat.mod_eq_of_lt hi,← e,Nat.mod_eq_of_lt hi] at this
theorem xKW {p q : List Nat} {per : Nat} (hR : xZ2 (xAR q) per) : ∀ n a,(n,a) = xC4 p ((xAR q).take per) p.length per → n ≤ p.length ∧ 0 < a ∧ a ≤ per ∧
    Canon (xAZ p q) (p.take n) (((xAR q).take per).drop (a % per) ++ ((xAR q).take per).take (a % per)) := by
  intro n a hsh
  obtain ⟨h1,h2,h3,h4,h5⟩ := hR
  have hfp := xCN q
  have hrl : ((xAR q).take per).length = per := by rw [List.length_take]; omega
  have hS := xJ9 p ((xAR q).take per) (xAZ p q) (by omega) p.length ((xAR q).take per).length (Nat.le_refl _) (by omega) (Nat.le_refl _) (fun i hi => by simp [xAZ,hi]) (fun j hj => by
    unfold xAZ
    rw [if_neg (by omega),xQb (r := []) h1 h2 h4 _ (Nat.mod_lt _ hfp),Nat.mod_mod_of_dvd _ (Nat.dvd_of_mod_eq_zero h3),hrl,Nat.add_mod_left,xH3 (Nat.mod_lt _ h1)])
  have hst := xKa p ((xAR q).take per) p.length ((xAR q).take per).length
  rw [hrl,← hsh] at hS hst
  generalize hr : (xAR q).take per = r at *
  obtain ⟨s1,s2,s3,s4,s5⟩ := hS
  simp only at s1 s2 s3 s4 s5 hst
  have xZD : a % per < per := Nat.mod_lt _ (by omega)
  have hlen : (r.drop (a % per) ++ r.take (a % per)).length = per := by rw [List.length_append,List.length_drop,List.length_take]; omega
  have hne : xAR (r.drop (a % per) ++ r.take (a % per)) = r.drop (a % per) ++ r.take (a % per) := xC5 (by omega)
  have hn : (p.take n).length = n := by rw [List.length_take]; omega
  refine ⟨s1,s2,s3,by omega,fun i => ?_,fun d b hd hb => ?_,fun b hb => ?_⟩
  · unfold xAZ
    rw [hne,hlen,hn]
    by_cases hi : i < n
    · rw [if_pos hi,xH3 hi,← s4 i hi]
      simp [xAZ,show i < p.length by omega]
    · rw [if_neg hi,← hrl,xZ1 _ _ (Nat.mod_lt _ (by omega)) _ (Nat.mod_lt _ (by omega)),Nat.add_mod,Nat.mod_mod,Nat.mod_mod,← Nat.add_mod]
      rw [← hrl] at s5
      exact (s5 i (by omega)).symm
  · -- the loop's letters have the period d,so its length's divisor
    rw [hlen]
    have hT : ∀ t,xAZ p q (p.length + t) = (xAR q).getD (t % (xAR q).length) 0 := fun t => by rw [xCP (by omega),Nat.add_sub_cancel_left]
    have e1 : ∀ t,(fun t => xAZ p q (p.length + t)) (t + (xAR q).length) = (fun t => xAZ p q (p.length + t)) t := fun t => by simp only [hT,Nat.add_mod_right]
    have e2 : ∀ t,(fun t => xAZ p q (p.length + t)) (t + d) = (fun t => xAZ p q (p.length + t)) t := fun t => by
      have m1 := xDU (h := fun t => xAZ p q (p.length + t)) e1 b (t + d)
      have m2 := xDU (h := fun t => xAZ p q (p.length + t)) e1 b t
      simp only at m1 m2 ⊢
      have hbn : b ≤ b * (xAR q).length := Nat.le_mul_of_pos_right _ hfp
      have := hb (p.length + (t + b * (xAR q).length)) (by omega)
      rw [← m1,← m2,← this]
      congr 1; omega
    have e3 := xT3 (h := fun t => xAZ p q (p.length + t)) _ _ e2 e1
    have hg0 : 0 < Nat.gcd d (xAR q).length := Nat.gcd_pos_of_pos_left _ hd
    have hgd : Nat.gcd d (xAR q).length ≤ d := Nat.le_of_dvd hd (Nat.gcd_dvd_left ..)
    have := h5 (Nat.gcd d (xAR q).length) hg0 (Nat.le_of_dvd hfp (Nat.gcd_dvd_right ..)) (Nat.mod_eq_zero_of_dvd (Nat.gcd_dvd_right ..)) (fun t ht => by
      have := e3 t
      simp only [hT] at this
      rw [Nat.mod_eq_of_lt ht,Nat.mod_eq_of_lt (by omega)] at this
      exact this.symm)
    omega
  · rw [hn]
    rw [hlen] at hb
    rcases hst with h0 | hne'
    · omega
    · rcases Nat.lt_or_ge b n with hlt | hge
      · exfalso
        have k1 := hb (n - 1) (by omega)
        rw [s4 (n - 1) (by omega),s5 (n - 1 + per) (by omega),show a + (n - 1 + per - n) = a - 1 + per by omega,Nat.add_mod_right,Nat.mod_eq_of_lt (by omega)] at k1
        exact hne' k1.symm
      · exact hge
theorem xV0 (q : List Nat) (hq : q.length < 1099511627776) : (xAR q).length < 1099511627776 := by rw [xCO]; omega
set_option maxHeartbeats 4000000 in
theorem xT6 (z2 : Bool) (p q : List Nat) (hp : p.length < 1099511627776) (hq : q.length < 1099511627776) :
    ∃ p' q',Canon (xAZ p q) p' q' ∧ p'.length ≤ p.length ∧ q'.length ≤ (xAR q).length ∧
      L.pcall 49 [las false z2 p q] = some (las false false p' q') ∧
      xBO L 49 [las false z2 p q] = some (.agg [.own false 0 0 p'.length 1,.own false 1 0 q'.length 1],[.cells false false (bs p'),.cells false false (bs q')]) := by
  obtain ⟨z,hfull⟩ := xYp false z2 p q
  have hfl := xCO q
  have hfp := xCN q
  have hfq := xV0 q hq
  obtain ⟨per,hR,h5⟩ := xYs z (xAR q) hfp (by omega)
  have hC := xKW (p := p) hR
  obtain ⟨h1,h2,h3,h4,-⟩ := hR
  have hrl : ((xAR q).take per).length = per := by rw [List.length_take]; omega
  generalize hr : (xAR q).take per = r at *
  have hl := xFs z false p r (xBF z (xAR q)) (.cells false false [.sl true 0 [],.sl true 0 []]) (by omega) (by omega) hp p.length r.length (Nat.le_refl _) (by omega) (Nat.le_refl _)
  rw [hrl] at hl
  generalize hsh : xC4 p r p.length per = s at *
  obtain ⟨n,a⟩ := s
  obtain ⟨c1,c2,c3,c4⟩ := hC n a rfl
  simp only at hl
  have xZD : a % per < per := Nat.mod_lt _ (by omega)
  have hlen : (r.drop (a % per) ++ r.take (a % per)).length = per := by rw [List.length_append,List.length_drop,List.length_take]; omega
  have hn : (p.take n).length = n := by rw [List.length_take]; omega
  have hc := (xT4 (p.take n) (by omega)).1
  have hcc := xRa z z (r.drop (a % per)) (r.take (a % per)) (by rw [List.length_drop]; omega) (by rw [List.length_take]; omega) (by rw [← List.length_append]; omega)
  rw [← List.length_append,hlen] at hcc
  have hc' : xBO L 72 [.sl false n (bs (p.take n))] = some (.own false 0 0 n 1,[.cells false false (bs (p.take n))]) := by
    unfold xBF at hc
    rwa [hn] at hc
  have hcc' : xBO L 76 [.sl false 2 [.sl z (per - a % per) (bs (r.drop (a % per))),.sl z (a % per) (bs (r.take (a % per)))]] = some (.own false 0 0 per 1,[.cells false false (bs (r.drop (a % per) ++ r.take (a % per)))]) := by
    rw [xEe (by rw [List.length_drop]; omega),xEe (by rw [List.length_take]; omega)]; exact hcc
  have htk : List.take (per - a % per) (List.drop (a % per) r) = List.drop (a % per) r := List.take_of_length_le (by rw [List.length_drop]; omega)
  refine ⟨p.take n,r.drop (a % per) ++ r.take (a % per),c4,by omega,by omega,?_,?_⟩
  · rw [yBE,a49,xAm]
    simp (maxSteps := 30000000) (disch := first | assumption | omega | (simp only [WL,AV.isCell] <;> omega) | rfl | decide) only [↓reduceIte,WB,xAw,xAc,xAu,xAl,xAk,AV.cells,AV.isCell,xAb,xAd,xAe,WP,xAG,xAy,xBn,xBl,xBg,xAD,xAJ,xAH,Nat.reduceAdd,Nat.reduceSub,Nat.reduceLeDiff,Nat.reduceMul,Int.reduceAdd,Int.reduceSub,Int.reduceMul,Int.reduceLT,Int.reduceLE,Int.reduceEq,Int.reduceToNat,Int.reduceNeg,Nat.reduceEqDiff,Nat.reduceBEq,Nat.reduceLT,hfull,h5,hrl,xI2,hl,hc',htk,hcc']
    rw [List.take_of_length_le (by omega : (p.take n).length ≤ n),List.take_of_length_le (by omega : (r.drop (a % per) ++ r.take (a % per)).length ≤ per),xEe hn,xEe hlen]
  · rw [xEZ,yBF,a49,xDT]
    simp (maxSteps := 30000000) (disch := first | assumption | omega | (simp only [WL,AV.isCell] <;> omega) | rfl | decide) only [↓reduceIte,WB,xAw,xAc,xAu,xAl,xAk,AV.cells,AV.isCell,xAb,xAd,xAe,WP,xAG,xAy,xBn,xBl,xBg,xAD,xAJ,xAH,Nat.reduceAdd,Nat.reduceSub,Nat.reduceLeDiff,Nat.reduceMul,Int.reduceAdd,Int.reduceSub,Int.reduceMul,Int.reduceLT,Int.reduceLE,Int.reduceEq,Int.reduceToNat,Int.reduceNeg,Nat.reduceEqDiff,Nat.reduceBEq,Nat.reduceLT,hfull,h5,hrl,xI2,hl,hc',htk,hcc']
    rw [hn,← List.length_append,hlen]
end Go.Abs.Mealy
/- The reference's small functions. -/
namespace Go.Abs.Mealy
set_option linter.unusedVariables false
set_option linter.unusedSimpArgs false
open Go Go.Abs
theorem xGp (z1 z2 : Bool) (p q : List Nat) : ∃ z,L.pcall 86 [las z1 z2 p q] = some (las z1 z p (xAR q)) := by
  rw [yBR,a86,xAm]
  by_cases hq : q = []
  · subst hq
    refine ⟨false,?_⟩
    simp (maxSteps := 30000000) (disch := first | assumption | omega | (simp only [WL,AV.isCell] <;> omega) | rfl | decide) only [↓reduceIte,WB,xAw,xAc,xAu,xAl,xAk,AV.cells,AV.isCell,xAb,xAd,xAe,Nat.reduceAdd,Nat.reduceSub,Nat.reduceLeDiff,Nat.reduceMul,Int.reduceAdd,Int.reduceSub,Int.reduceMul,Int.reduceLT,Int.reduceLE,Int.reduceEq,Int.reduceToNat,Int.reduceNeg,Nat.reduceEqDiff,Nat.reduceBEq,Nat.reduceLT,bs,xCr]
    rfl
  · refine ⟨z2,?_⟩
    have hl : ¬ ((q.length : Int) = 0) := by
      have : q.length ≠ 0 := by simpa using hq
      omega
    simp (maxSteps := 30000000) (disch := first | assumption | omega | (simp only [WL,AV.isCell] <;> omega) | rfl | decide) only [↓reduceIte,WB,xAw,xAc,xAu,xAl,xAk,AV.cells,AV.isCell,xAb,xAd,xAe,Nat.reduceAdd,Nat.reduceSub,Nat.reduceLeDiff,Nat.reduceMul,Int.reduceAdd,Int.reduceSub,Int.reduceMul,Int.reduceLT,Int.reduceLE,Int.reduceEq,Int.reduceToNat,Int.reduceNeg,Nat.reduceEqDiff,Nat.reduceBEq,Nat.reduceLT,hl,xAR,if_neg hq]
theorem xT7 (z1 z2 : Bool) (p q : List Nat) (i : Int) (hp : p.length < 1099511627776) (hq : q.length < 1099511627776) (h1 : -9223372036854775808 ≤ i) (h2 : i < 9223372036854775808) :
    L.pcall 89 [las z1 z2 p q,.int .i64 i] = some (.int .i64 (xJ8 p.length q.length i)) := by
  obtain ⟨z,hfull⟩ := xGp z1 z2 p q
  have hfl := xCO q
  have hfp := xCN q
  rw [yBT,a89,xAm]
  unfold xJ8
  by_cases hneg : i < 0
  · have hlt : i < p.length := by omega
    have hm : max i 0 = 0 := by omega
    simp (maxSteps := 30000000) (disch := first | assumption | omega | (simp only [WL,AV.isCell] <;> omega) | rfl | decide) only [↓reduceIte,WB,xAw,xAc,xAu,xAl,xAk,AV.cells,AV.isCell,xAb,xAd,xAe,Nat.reduceAdd,Nat.reduceSub,Nat.reduceLeDiff,Nat.reduceMul,Int.reduceAdd,Int.reduceSub,Int.reduceMul,Int.reduceLT,Int.reduceLE,Int.reduceEq,Int.reduceToNat,Int.reduceNeg,Nat.reduceEqDiff,Nat.reduceBEq,Nat.reduceLT,hfull,hneg,hlt,hm]
  · by_cases hlt : i < p.length
    · have hm : max i 0 = i := by omega
      simp (maxSteps := 30000000) (disch := first | assumption | omega | (simp only [WL,AV.isCell] <;> omega) | rfl | decide) only [↓reduceIte,WB,xAw,xAc,xAu,xAl,xAk,AV.cells,AV.isCell,xAb,xAd,xAe,Nat.reduceAdd,Nat.reduceSub,Nat.reduceLeDiff,Nat.reduceMul,Int.reduceAdd,Int.reduceSub,Int.reduceMul,Int.reduceLT,Int.reduceLE,Int.reduceEq,Int.reduceToNat,Int.reduceNeg,Nat.reduceEqDiff,Nat.reduceBEq,Nat.reduceLT,hfull,hneg,hlt,hm]
    · have hmx : ((max q.length 1 : Nat) : Int) = ((xAR q).length : Nat) := by rw [hfl]
      have e3 := Int.emod_nonneg (i - p.length) (b := (((xAR q).length : Nat) : Int)) (by omega)
      have e4 := Int.emod_lt_of_pos (i - p.length) (b := (((xAR q).length : Nat) : Int)) (by omega)
      have e2 : (i - p.length).tmod (((xAR q).length : Nat) : Int) = (i - p.length) % (((xAR q).length : Nat) : Int) := Int.tmod_eq_emod_of_nonneg (by omega)
      have hne : ¬ ((((xAR q).length : Nat) : Int) = 0) := by omega
      rw [hmx]
      simp (maxSteps := 30000000) (disch := first | assumption | omega | (simp only [WL,AV.isCell] <;> omega) | rfl | decide) only [↓reduceIte,WB,xAw,xAc,xAu,xAl,xAk,AV.cells,AV.isCell,xAb,xAd,xAe,Nat.reduceAdd,Nat.reduceSub,Nat.reduceLeDiff,Nat.reduceMul,Int.reduceAdd,Int.reduceSub,Int.reduceMul,Int.reduceLT,Int.reduceLE,Int.reduceEq,Int.reduceToNat,Int.reduceNeg,Nat.reduceEqDiff,Nat.reduceBEq,Nat.reduceLT,hfull,hneg,hlt,e2,hne]
theorem xZ3 (z1 z2 : Bool) (p q : List Nat) (i : Int) (hp : p.length < 1099511627776) (hq : q.length < 1099511627776) (h1 : -9223372036854775808 ≤ i) (h2 : i < 9223372036854775808) :
    L.pcall 58 [las z1 z2 p q,.int .i64 i] = some (.int .u8 (atM p q i : Nat)) := by
  obtain ⟨z,hfull⟩ := xGp z1 z2 p q
  have hfl := xCO q
  have hidx := xT7 z1 z p (xAR q) i (by omega) (by omega) h1 h2
  have hfp := xCN q
  rw [yBH,a58,xAm]
  unfold atM
  by_cases hneg : i < 0
  · simp (maxSteps := 30000000) (disch := first | assumption | omega | (simp only [WL,AV.isCell] <;> omega) | rfl | decide) only [↓reduceIte,WB,xAw,xAc,xAu,xAl,xAk,AV.cells,AV.isCell,xAb,xAd,xAe,Nat.reduceAdd,Nat.reduceSub,Nat.reduceLeDiff,Nat.reduceMul,Int.reduceAdd,Int.reduceSub,Int.reduceMul,Int.reduceLT,Int.reduceLE,Int.reduceEq,Int.reduceToNat,Int.reduceNeg,Nat.reduceEqDiff,Nat.reduceBEq,Nat.reduceLT,hneg]
  · by_cases hlt : i < p.length
    · have hi : xJ8 p.length (xAR q).length i = i := by unfold xJ8; rw [if_pos hlt]; omega
      simp (maxSteps := 30000000) (disch := first | assumption | omega | (simp only [WL,AV.isCell] <;> omega) | rfl | decide) only [↓reduceIte,WB,xAw,xAc,xAu,xAl,xAk,AV.cells,AV.isCell,xAb,xAd,xAe,Nat.reduceAdd,Nat.reduceSub,Nat.reduceLeDiff,Nat.reduceMul,Int.reduceAdd,Int.reduceSub,Int.reduceMul,Int.reduceLT,Int.reduceLE,Int.reduceEq,Int.reduceToNat,Int.reduceNeg,Nat.reduceEqDiff,Nat.reduceBEq,Nat.reduceLT,hneg,hlt,hfull,hidx,hi]
    · have hi : xJ8 p.length (xAR q).length i = p.length + (((i.toNat - p.length) % (xAR q).length : Nat) : Int) := by
        unfold xJ8
        rw [if_neg hlt,show max (xAR q).length 1 = (xAR q).length by omega,show i - (p.length : Int) = ((i.toNat - p.length : Nat) : Int) by omega]
        simp
      have hkl : (i.toNat - p.length) % (xAR q).length < (xAR q).length := Nat.mod_lt _ hfp
      generalize hg : (i.toNat - p.length) % (xAR q).length = k at *
      have hng : ¬ ((p.length : Int) + (k : Nat) < (p.length : Nat)) := by omega
      have hs : IntKind.i64.wrap ((p.length : Int) + (k : Nat) - (p.length : Nat)) = (k : Nat) := by rw [show (p.length : Int) + (k : Nat) - (p.length : Nat) = (k : Nat) by omega]; exact yAO (by omega) (by omega)
      simp (maxSteps := 30000000) (disch := first | assumption | omega | (simp only [WL,AV.isCell] <;> omega) | rfl | decide) only [↓reduceIte,WB,xAw,xAc,xAu,xAl,xAk,AV.cells,AV.isCell,xAb,xAd,xAe,Nat.reduceAdd,Nat.reduceSub,Nat.reduceLeDiff,Nat.reduceMul,Int.reduceAdd,Int.reduceSub,Int.reduceMul,Int.reduceLT,Int.reduceLE,Int.reduceEq,Int.reduceToNat,Int.reduceNeg,Nat.reduceEqDiff,Nat.reduceBEq,Nat.reduceLT,hneg,hlt,hfull,hidx,hi,hng,hs]
      rw [if_neg (by omega),Nat.add_sub_cancel_left]
end Go.Abs.Mealy
/- The reference: repeats. -/
namespace Go.Abs.Mealy
set_option linter.unusedVariables false
set_option linter.unusedSimpArgs false
open Go Go.Abs
theorem xOq (z1 z2 : Bool) (p q : List Nat) (i : Nat) (hp : p.length < 1099511627776) (hq : q.length < 1099511627776) (h2 : i < 9223372036854775808) :
    L.pcall 58 [las z1 z2 p q,.int .i64 (i : Nat)] = some (.int .u8 (xAZ p q i : Nat)) := by
  rw [xZ3 z1 z2 p q i hp hq (by omega) (by omega),xYr]
theorem xQd {z1 z : Bool} {p q : List Nat} {a d : Nat} (hq0 : 0 < q.length) (hp : p.length < 1099511627776) (hq : q.length < 1099511627776) (ha : a < 1099511627776) (hd : d < 1099511627776) : ∀ t i,i + t = max (p.length + q.length) (a + q.length) →
    ∃ i' : Nat,((∀ j,i ≤ j → j < max (p.length + q.length) (a + q.length) → xAZ p q j = xAZ p q (j + d)) ∧
        L.loop xI6 xSs ⟨xG6 (.int .i64 (a : Nat)) (.int .i64 (d : Nat)) (.ptr 0 0) (.bool false) (.int .i64 (i : Nat)),[.cells false false [xBF z1 p,xBF z q]]⟩ = some (.exit 0,⟨xG6 (.int .i64 (a : Nat)) (.int .i64 (d : Nat)) (.ptr 0 0) (.bool false) (.int .i64 (i' : Nat)),[.cells false false [xBF z1 p,xBF z q]]⟩)) ∨
      ((∃ j,i ≤ j ∧ xAZ p q j ≠ xAZ p q (j + d)) ∧
        L.loop xI6 xSs ⟨xG6 (.int .i64 (a : Nat)) (.int .i64 (d : Nat)) (.ptr 0 0) (.bool false) (.int .i64 (i : Nat)),[.cells false false [xBF z1 p,xBF z q]]⟩ = some (.ret,⟨xG6 (.int .i64 (a : Nat)) (.int .i64 (d : Nat)) (.ptr 0 0) (.bool false) (.int .i64 (i' : Nat)),[.cells false false [xBF z1 p,xBF z q]]⟩))
  | 0,i,h => by
    refine ⟨i,.inl ⟨fun j h1 h2 => by omega,?_⟩⟩
    have c1 : ¬ ((i : Nat) : Int) < ((p.length + q.length : Nat) : Int) := by omega
    have c2 : ¬ ((i : Nat) : Int) < ((a + q.length : Nat) : Int) := by omega
    rw [xOZ]
    simp (maxSteps := 30000000) (disch := first | assumption | omega | (simp only [WL,AV.isCell] <;> omega) | rfl | decide) only [↓reduceIte,WB,xAw,xAc,xAu,xAl,xAk,AV.cells,AV.isCell,xAb,xAd,xAe,WP,xAG,xAy,xBn,xBl,xBg,xAD,xAJ,xAH,Nat.reduceAdd,Nat.reduceSub,Nat.reduceLeDiff,Nat.reduceMul,Int.reduceAdd,Int.reduceSub,Int.reduceMul,Int.reduceLT,Int.reduceLE,Int.reduceEq,Int.reduceToNat,Int.reduceNeg,Nat.reduceEqDiff,Nat.reduceBEq,Nat.reduceLT,xEM,xEN,c1,c2]
  | t + 1,i,h => by
    have h1 := xOq z1 z p q i hp hq (by omega)
    have h2 := xOq z1 z p q (i + d) hp hq (by omega)
    by_cases e : xAZ p q i = xAZ p q (i + d)
    · have he : (((xAZ p q i : Nat) : Int) = ((xAZ p q (i + d) : Nat) : Int)) = True := eq_true (by omega)
      obtain ⟨i',ih⟩ := xQd (z1 := z1) (z := z) hq0 hp hq ha hd t (i + 1) (by omega)
      refine ⟨i',?_⟩
      rcases ih with ⟨g1,g2⟩ | ⟨⟨j,g0,g1⟩,g2⟩
      · refine .inl ⟨fun j h1 h2 => ?_,?_⟩
        · by_cases hj : j = i
          · subst hj; exact e
          · exact g1 j (by omega) h2
        · rw [xOZ]
          by_cases c1 : ((i : Nat) : Int) < ((p.length + q.length : Nat) : Int)
          · simp (maxSteps := 30000000) (disch := first | assumption | omega | (simp only [WL,AV.isCell] <;> omega) | rfl | decide) only [↓reduceIte,WB,xAw,xAc,xAu,xAl,xAk,AV.cells,AV.isCell,xAb,xAd,xAe,WP,xAG,xAy,xBn,xBl,xBg,xAD,xAJ,xAH,Nat.reduceAdd,Nat.reduceSub,Nat.reduceLeDiff,Nat.reduceMul,Int.reduceAdd,Int.reduceSub,Int.reduceMul,Int.reduceLT,Int.reduceLE,Int.reduceEq,Int.reduceToNat,Int.reduceNeg,Nat.reduceEqDiff,Nat.reduceBEq,Nat.reduceLT,xEM,xEN,c1,h1,h2,he,g2]
          · have c2 : ((i : Nat) : Int) < ((a + q.length : Nat) : Int) := by omega
            simp (maxSteps := 30000000) (disch := first | assumption | omega | (simp only [WL,AV.isCell] <;> omega) | rfl | decide) only [↓reduceIte,WB,xAw,xAc,xAu,xAl,xAk,AV.cells,AV.isCell,xAb,xAd,xAe,WP,xAG,xAy,xBn,xBl,xBg,xAD,xAJ,xAH,Nat.reduceAdd,Nat.reduceSub,Nat.reduceLeDiff,Nat.reduceMul,Int.reduceAdd,Int.reduceSub,Int.reduceMul,Int.reduceLT,Int.reduceLE,Int.reduceEq,Int.reduceToNat,Int.reduceNeg,Nat.reduceEqDiff,Nat.reduceBEq,Nat.reduceLT,xEM,xEN,c1,c2,h1,h2,he,g2]
      · refine .inr ⟨⟨j,by omega,g1⟩,?_⟩
        rw [xOZ]
        by_cases c1 : ((i : Nat) : Int) < ((p.length + q.length : Nat) : Int)
        · simp (maxSteps := 30000000) (disch := first | assumption | omega | (simp only [WL,AV.isCell] <;> omega) | rfl | decide) only [↓reduceIte,WB,xAw,xAc,xAu,xAl,xAk,AV.cells,AV.isCell,xAb,xAd,xAe,WP,xAG,xAy,xBn,xBl,xBg,xAD,xAJ,xAH,Nat.reduceAdd,Nat.reduceSub,Nat.reduceLeDiff,Nat.reduceMul,Int.reduceAdd,Int.reduceSub,Int.reduceMul,Int.reduceLT,Int.reduceLE,Int.reduceEq,Int.reduceToNat,Int.reduceNeg,Nat.reduceEqDiff,Nat.reduceBEq,Nat.reduceLT,xEM,xEN,c1,h1,h2,he,g2]
        · have c2 : ((i : Nat) : Int) < ((a + q.length : Nat) : Int) := by omega
          simp (maxSteps := 30000000) (disch := first | assumption | omega | (simp only [WL,AV.isCell] <;> omega) | rfl | decide) only [↓reduceIte,WB,xAw,xAc,xAu,xAl,xAk,AV.cells,AV.isCell,xAb,xAd,xAe,WP,xAG,xAy,xBn,xBl,xBg,xAD,xAJ,xAH,Nat.reduceAdd,Nat.reduceSub,Nat.reduceLeDiff,Nat.reduceMul,Int.reduceAdd,Int.reduceSub,Int.reduceMul,Int.reduceLT,Int.reduceLE,Int.reduceEq,Int.reduceToNat,Int.reduceNeg,Nat.reduceEqDiff,Nat.reduceBEq,Nat.reduceLT,xEM,xEN,c1,c2,h1,h2,he,g2]
    · have he : ¬ (((xAZ p q i : Nat) : Int) = ((xAZ p q (i + d) : Nat) : Int)) := by omega
      refine ⟨i,.inr ⟨⟨i,Nat.le_refl _,e⟩,?_⟩⟩
      rw [xOZ]
      by_cases c1 : ((i : Nat) : Int) < ((p.length + q.length : Nat) : Int)
      · simp (maxSteps := 30000000) (disch := first | assumption | omega | (simp only [WL,AV.isCell] <;> omega) | rfl | decide) only [↓reduceIte,WB,xAw,xAc,xAu,xAl,xAk,AV.cells,AV.isCell,xAb,xAd,xAe,WP,xAG,xAy,xBn,xBl,xBg,xAD,xAJ,xAH,Nat.reduceAdd,Nat.reduceSub,Nat.reduceLeDiff,Nat.reduceMul,Int.reduceAdd,Int.reduceSub,Int.reduceMul,Int.reduceLT,Int.reduceLE,Int.reduceEq,Int.reduceToNat,Int.reduceNeg,Nat.reduceEqDiff,Nat.reduceBEq,Nat.reduceLT,xEM,xEN,c1,h1,h2,he]
      · have c2 : ((i : Nat) : Int) < ((a + q.length : Nat) : Int) := by omega
        simp (maxSteps := 30000000) (disch := first | assumption | omega | (simp only [WL,AV.isCell] <;> omega) | rfl | decide) only [↓reduceIte,WB,xAw,xAc,xAu,xAl,xAk,AV.cells,AV.isCell,xAb,xAd,xAe,WP,xAG,xAy,xBn,xBl,xBg,xAD,xAJ,xAH,Nat.reduceAdd,Nat.reduceSub,Nat.reduceLeDiff,Nat.reduceMul,Int.reduceAdd,Int.reduceSub,Int.reduceMul,Int.reduceLT,Int.reduceLE,Int.reduceEq,Int.reduceToNat,Int.reduceNeg,Nat.reduceEqDiff,Nat.reduceBEq,Nat.reduceLT,xEM,xEN,c1,c2,h1,h2,he]
theorem xKb (z1 z2 : Bool) (p q : List Nat) (a d : Nat) (hq0 : 0 < q.length) (hp : p.length < 1099511627776) (hq : q.length < 1099511627776) (ha : a < 1099511627776) (hd : d < 1099511627776) :
    ∃ b : Bool,L.pcall 87 [las z1 z2 p q,.int .i64 (a : Nat),.int .i64 (d : Nat)] = some (.bool b) ∧ (b = true ↔ ∀ i,a ≤ i → xAZ p q (i + d) = xAZ p q i) := by
  obtain ⟨z,hfull⟩ := xGp z1 z2 p q
  rw [xC5 hq0] at hfull
  obtain ⟨i',h⟩ := xQd (z1 := z1) (z := z) (a := a) (d := d) hq0 hp hq ha hd (max (p.length + q.length) (a + q.length) - a) a (by omega)
  rcases h with ⟨h1,h2⟩ | ⟨⟨j,h0,h1⟩,h2⟩
  · refine ⟨true,?_,⟨fun _ => ?_,fun _ => rfl⟩⟩
    · rw [yBr,a87,xAm]
      simp (maxSteps := 30000000) (disch := first | assumption | omega | (simp only [WL,AV.isCell] <;> omega) | rfl | decide) only [↓reduceIte,WB,xAw,xAc,xAu,xAl,xAk,AV.cells,AV.isCell,xAb,xAd,xAe,WP,xAG,xAy,xBn,xBl,xBg,xAD,xAJ,xAH,Nat.reduceAdd,Nat.reduceSub,Nat.reduceLeDiff,Nat.reduceMul,Int.reduceAdd,Int.reduceSub,Int.reduceMul,Int.reduceLT,Int.reduceLE,Int.reduceEq,Int.reduceToNat,Int.reduceNeg,Nat.reduceEqDiff,Nat.reduceBEq,Nat.reduceLT,hfull,xEN,h2]
    · -- beyond the range by the loop's own period
      intro i
      induction i using Nat.strongRecOn with
      | _ i ih =>
        intro hi
        by_cases hlt : i < max (p.length + q.length) (a + q.length)
        · exact (h1 i hi hlt).symm
        · have k := ih (i - q.length) (by omega) (by omega)
          have k1 := xCs (p := p) hq0 (i := i - q.length) (by omega)
          have k2 := xCs (p := p) hq0 (i := i - q.length + d) (by omega)
          rw [show i - q.length + q.length = i by omega] at k1
          rw [show i - q.length + d + q.length = i + d by omega] at k2
          rw [k1,k2,k]
  · refine ⟨false,?_,⟨fun h => (nomatch h),fun h => absurd (h j h0).symm h1⟩⟩
    rw [yBr,a87,xAm]
    simp (maxSteps := 30000000) (disch := first | assumption | omega | (simp only [WL,AV.isCell] <;> omega) | rfl | decide) only [↓reduceIte,WB,xAw,xAc,xAu,xAl,xAk,AV.cells,AV.isCell,xAb,xAd,xAe,WP,xAG,xAy,xBn,xBl,xBg,xAD,xAJ,xAH,Nat.reduceAdd,Nat.reduceSub,Nat.reduceLeDiff,Nat.reduceMul,Int.reduceAdd,Int.reduceSub,Int.reduceMul,Int.reduceLT,Int.reduceLE,Int.reduceEq,Int.reduceToNat,Int.reduceNeg,Nat.reduceEqDiff,Nat.reduceBEq,Nat.reduceLT,hfull,xEN,h2]
def xBs (f : Nat → Nat) (n : Nat) : List Nat := (List.range n).map f
theorem xRb (f : Nat → Nat) (n : Nat) : xBs f n ++ [f n] = xBs f (n + 1) := by simp [xBs,List.range_succ]
theorem xBd (f : Nat → Nat) (n : Nat) : (xBs f n).length = n := by simp [xBs]
def yBz (T : xAj) (v : AV) (l : List Nat) : Prop :=
  (v = .sl true 0 [] ∧ l = []) ∨ ∃ k,v = .own false (k + 2) 0 l.length 1 ∧ T[k]? = some (.cells false false (bs l))
theorem xKX {z1 z : Bool} {p q : List Nat} {a d : Nat} {c1 : Blk} (hp : p.length < 1099511627776) (hq : q.length < 1099511627776) (ha : a < 1099511627776) (hd : d < 1099511627776) : ∀ t i T v,i + t = a + d → yBz T v (xBs (xAZ p q) i) →
    ∃ T' v',L.loop xMl xVw ⟨xMm (.int .i64 (a : Nat)) (.int .i64 (d : Nat)) (.ptr 0 0) (.ptr 1 0) v (.int .i64 (i : Nat)),.cells false false [xBF z1 p,xBF z q] :: c1 :: T⟩ =
        some (.exit 0,⟨xMm (.int .i64 (a : Nat)) (.int .i64 (d : Nat)) (.ptr 0 0) (.ptr 1 0) v' (.int .i64 ((a + d : Nat))),.cells false false [xBF z1 p,xBF z q] :: c1 :: T'⟩) ∧ yBz T' v' (xBs (xAZ p q) (a + d))
  | 0,i,T,v,h,hB => by
    obtain rfl : i = a + d := by omega
    refine ⟨T,v,?_,hB⟩
    rw [xSt]
    simp (maxSteps := 30000000) (disch := first | assumption | omega | (simp only [WL,AV.isCell] <;> omega) | rfl | decide) only [↓reduceIte,WB,xAw,xAc,xAu,xAl,xAk,AV.cells,AV.isCell,xAb,xAd,xAe,WP,xAG,xAy,xBn,xBl,xBg,xAD,xAJ,xAH,Nat.reduceAdd,Nat.reduceSub,Nat.reduceLeDiff,Nat.reduceMul,Int.reduceAdd,Int.reduceSub,Int.reduceMul,Int.reduceLT,Int.reduceLE,Int.reduceEq,Int.reduceToNat,Int.reduceNeg,Nat.reduceEqDiff,Nat.reduceBEq,Nat.reduceLT,xMk,xO0]
  | t + 1,i,T,v,h,hB => by
    have c : ((i : Nat) : Int) < ((a + d : Nat) : Int) := by omega
    have hat := xOq z1 z p q i hp hq (by omega)
    have hsn := xRb (xAZ p q) i
    have hlen := xBd (xAZ p q) i
    rcases hB with ⟨rfl,e1⟩ | ⟨k,rfl,e1⟩
    · have hi : i = 0 := by rw [← hlen,e1]; rfl
      subst hi
      obtain ⟨T',v',h1,h2⟩ := xKX (z1 := z1) (z := z) (c1 := c1) hp hq ha hd t 1 (T ++ [.cells false false (bs (xBs (xAZ p q) 1))]) (.own false (T.length + 2) 0 1 1) (by omega) (.inr ⟨T.length,by rw [xBd],by simp⟩)
      refine ⟨T',v',?_,h2⟩
      have hb : bs (xBs (xAZ p q) 1) = [AV.int .u8 (xAZ p q 0 : Nat)] := rfl
      rw [hb] at h1
      have c' : (0 : Int) < ((a + d : Nat) : Int) := by omega
      simp only [Int.natCast_zero,Int.natCast_one] at hat h1 ⊢
      rw [xSt]
      simp (maxSteps := 30000000) (disch := first | assumption | omega | (simp only [WL,AV.isCell] <;> omega) | rfl | decide) only [↓reduceIte,WB,xAw,xAc,xAu,xAl,xAk,AV.cells,AV.isCell,xAb,xAd,xAe,WP,xAG,xAy,xBn,xBl,xBg,xAD,xAJ,xAH,Nat.reduceAdd,Nat.reduceSub,Nat.reduceLeDiff,Nat.reduceMul,Int.reduceAdd,Int.reduceSub,Int.reduceMul,Int.reduceLT,Int.reduceLE,Int.reduceEq,Int.reduceToNat,Int.reduceNeg,Nat.reduceEqDiff,Nat.reduceBEq,Nat.reduceLT,xMk,xO0,c',hat,h1]
    · have hk := (List.getElem?_eq_some_iff.1 e1).1
      rw [hlen]
      obtain ⟨T',v',h1,h2⟩ := xKX (z1 := z1) (z := z) (c1 := c1) hp hq ha hd t (i + 1) (T.set k .dead ++ [.cells false false (bs (xBs (xAZ p q) (i + 1)))]) (.own false (T.length + 2) 0 (i + 1) 1) (by omega) (.inr ⟨T.length,by rw [xBd],by simp⟩)
      refine ⟨T',v',?_,h2⟩
      have hb : bs (xBs (xAZ p q) i) ++ [AV.int .u8 (xAZ p q i : Nat)] = bs (xBs (xAZ p q) (i + 1)) := by rw [← hsn]; simp [bs]
      have hcut : List.take i (bs (xBs (xAZ p q) i)) = bs (xBs (xAZ p q) i) := List.take_of_length_le (by rw [xCg,hlen]; exact Nat.le_refl _)
      have hbl : (bs (xBs (xAZ p q) i)).length = i := by rw [xCg,hlen]
      rw [xSt]
      simp (maxSteps := 30000000) (disch := first | assumption | omega | (simp only [WL,AV.isCell] <;> omega) | rfl | decide) only [↓reduceIte,WB,xAw,xAc,xAu,xAl,xAk,AV.cells,AV.isCell,xAb,xAd,xAe,WP,xAG,xAy,xBn,xBl,xBg,xAD,xAJ,xAH,Nat.reduceAdd,Nat.reduceSub,Nat.reduceLeDiff,Nat.reduceMul,Int.reduceAdd,Int.reduceSub,Int.reduceMul,Int.reduceLT,Int.reduceLE,Int.reduceEq,Int.reduceToNat,Int.reduceNeg,Nat.reduceEqDiff,Nat.reduceBEq,Nat.reduceLT,xMk,xO0,c,hat,e1,hb,hcut,hbl,hlen,h1]
theorem xRc (f : Nat → Nat) (a d : Nat) : (xBs f (a + d)).take a = xBs f a := by
  unfold xBs
  rw [← List.map_take,List.take_range,Nat.min_eq_left (by omega)]
theorem xRd (f : Nat → Nat) (a d : Nat) : (xBs f (a + d)).drop a = xBs (fun i => f (a + i)) d := by
  apply List.ext_getElem
  · simp [xBs]
  · intro i h1 h2; simp [xBs]
theorem xYt (z1 z2 : Bool) (p q : List Nat) (a d : Nat) (hp : p.length < 1099511627776) (hq : q.length < 1099511627776) (ha : a < 1099511627776) (hd0 : 0 < d) (hd : d < 1099511627776) :
    L.pcall 88 [las z1 z2 p q,.int .i64 (a : Nat),.int .i64 (d : Nat)] = some (las (a == 0) false (xBs (xAZ p q) a) (xBs (fun i => xAZ p q (a + i)) d)) := by
  obtain ⟨T',v',h1,h2⟩ := xKX (z1 := z1) (z := z2) (c1 := .cells false false [.sl true 0 [],.sl true 0 []]) hp hq ha hd (a + d) 0 [] (.sl true 0 []) (by omega) (.inl ⟨rfl,rfl⟩)
  have hlen := xBd (xAZ p q) (a + d)
  rcases h2 with ⟨-,e⟩ | ⟨k,rfl,e⟩
  · rw [e] at hlen; simp at hlen; omega
  · rw [hlen] at h1
    simp only [Int.natCast_zero] at h1
    have e1 := xRc (xAZ p q) a d
    have e2 := xRd (xAZ p q) a d
    have l1 := xBd (xAZ p q) a
    have l2 := xBd (fun i => xAZ p q (a + i)) d
    have e3 : List.take d (xBs (fun i => xAZ p q (a + i)) d) = xBs (fun i => xAZ p q (a + i)) d := List.take_of_length_le (by omega)
    have e4 : (d == 0) = false := by simp; omega
    rw [yBS,a88,xAm]
    simp (maxSteps := 30000000) (disch := first | assumption | omega | (simp only [WL,AV.isCell] <;> omega) | rfl | decide) only [↓reduceIte,WB,xAw,xAc,xAu,xAl,xAk,AV.cells,AV.isCell,xAb,xAd,xAe,WP,xAG,xAy,xBn,xBl,xBg,xAD,xAJ,xAH,Nat.reduceAdd,Nat.reduceSub,Nat.reduceLeDiff,Nat.reduceMul,Int.reduceAdd,Int.reduceSub,Int.reduceMul,Int.reduceLT,Int.reduceLE,Int.reduceEq,Int.reduceToNat,Int.reduceNeg,Nat.reduceEqDiff,Nat.reduceBEq,Nat.reduceLT,xO0,h1,e,hlen,e1,e2,e3,e4,Nat.add_sub_cancel_left]
    rw [xEe l1,xEe l2]
end Go.Abs.Mealy
/- The reference: Canonical. -/
namespace Go.Abs.Mealy
set_option linter.unusedVariables false
set_option linter.unusedSimpArgs false
open Go Go.Abs
def PerAt (S : Nat → Nat) (a d : Nat) : Prop := ∀ i,a ≤ i → S (i + d) = S i
theorem PerAt.back {p q : List Nat} {a d : Nat} (hq : 0 < q.length) (h : PerAt (xAZ p q) a d) : PerAt (xAZ p q) p.length d := by
  intro i hi
  have e1 : ∀ t,(fun t => xAZ p q (p.length + t)) (t + q.length) = (fun t => xAZ p q (p.length + t)) t := fun t => by
    simp only
    rw [← Nat.add_assoc]; exact xCs hq (by omega)
  have m1 := xDU (h := fun t => xAZ p q (p.length + t)) e1 a (i - p.length + d)
  have m2 := xDU (h := fun t => xAZ p q (p.length + t)) e1 a (i - p.length)
  have hbn : a ≤ a * q.length := Nat.le_mul_of_pos_right _ hq
  have := h (p.length + (i - p.length + a * q.length)) (by omega)
  rw [show i + d = p.length + (i - p.length + d) by omega,← m1,show p.length + (i - p.length + d + a * q.length) = p.length + (i - p.length + a * q.length) + d by omega,this,m2]
  congr 1; omega
theorem PerAt.mod {S : Nat → Nat} {a d : Nat} (hd : 0 < d) (h : PerAt S a d) (t : Nat) : S (a + t % d) = S (a + t) := by
  induction t using Nat.strongRecOn with
  | _ t ih =>
    by_cases hlt : t < d
    · rw [Nat.mod_eq_of_lt hlt]
    · have h1 := h (a + (t - d)) (by omega)
      rw [show a + (t - d) + d = a + t by omega] at h1
      rw [h1,← ih (t - d) (by omega),Nat.mod_eq_sub_mod (by omega)]
theorem xIl {p q : List Nat} {b d : Nat} (hq : 0 < q.length) (hd : 0 < d) (h1 : PerAt (xAZ p q) b d) (h2 : ∀ c,c < b → ¬ PerAt (xAZ p q) c d) (h3 : ∀ e,0 < e → e < d → ¬ PerAt (xAZ p q) p.length e) :
    Canon (xAZ p q) (xBs (xAZ p q) b) (xBs (fun i => xAZ p q (b + i)) d) := by
  have l1 := xBd (xAZ p q) b
  have l2 := xBd (fun i => xAZ p q (b + i)) d
  refine ⟨by omega,fun i => ?_,fun e a he ha => ?_,fun a ha => ?_⟩
  · by_cases hi : i < b
    · rw [xKV (by omega)]
      simp [xBs,hi]
    · rw [xCP (by omega),xC5 (by omega),l1,l2]
      have hm := Nat.mod_lt (i - b) hd
      have : (xBs (fun i => xAZ p q (b + i)) d).getD ((i - b) % d) 0 = xAZ p q (b + (i - b) % d) := by simp [xBs,hm]
      rw [this,h1.mod hd]
      congr 1; omega
  · rw [l2]
    rcases Nat.lt_or_ge e d with hlt | hge
    · exact absurd (PerAt.back hq (a := a) ha) (h3 e he hlt)
    · exact hge
  · rw [l1]
    rw [l2] at ha
    rcases Nat.lt_or_ge a b with hlt | hge
    · exact absurd ha (h2 a hlt)
    · exact hge
theorem xZ4 {z1 z : Bool} {p q : List Nat} {d : Nat} {c1 : AV} {c2 : AV} (hq0 : 0 < q.length) (hp : p.length < 1099511627776) (hq : q.length < 1099511627776) (hd0 : 0 < d) (hd : d < 1099511627776) (hper : PerAt (xAZ p q) p.length d) : ∀ t a,a + t = p.length →
    ∃ b,a ≤ b ∧ b ≤ p.length ∧ PerAt (xAZ p q) b d ∧ (∀ c,a ≤ c → c < b → ¬ PerAt (xAZ p q) c d) ∧
      L.loop xL5 xVq ⟨xL6 (.ptr 0 0) (.ptr 1 0) (.int .i64 (d : Nat)) (.int .i64 (a : Nat)),[.cells false false [xBF z1 p,xBF z q],.cells false false [c1,c2]]⟩ =
        some (.ret,⟨xL6 (.ptr 0 0) (.ptr 1 0) (.int .i64 (d : Nat)) (.int .i64 (b : Nat)),[.cells false false [xBF z1 p,xBF z q],.cells false false [xBF (b == 0) (xBs (xAZ p q) b),xBF false (xBs (fun i => xAZ p q (b + i)) d)]]⟩)
  | t,a,h => by
    obtain ⟨r,h1,h2⟩ := xKb z1 z p q a d hq0 hp hq (by omega) hd
    have hle : ((a : Nat) : Int) ≤ ((p.length : Nat) : Int) := by omega
    cases r with
    | true =>
      have hcut := xYt z1 z p q a d hp hq (by omega) hd0 hd
      refine ⟨a,Nat.le_refl _,by omega,h2.1 rfl,fun c h3 h4 => by omega,?_⟩
      rw [xWo]
      simp (maxSteps := 30000000) (disch := first | assumption | omega | (simp only [WL,AV.isCell] <;> omega) | rfl | decide) only [↓reduceIte,WB,xAw,xAc,xAu,xAl,xAk,AV.cells,AV.isCell,xAb,xAd,xAe,WP,xAG,xAy,xBn,xBl,xBg,xAD,xAJ,xAH,Nat.reduceAdd,Nat.reduceSub,Nat.reduceLeDiff,Nat.reduceMul,Int.reduceAdd,Int.reduceSub,Int.reduceMul,Int.reduceLT,Int.reduceLE,Int.reduceEq,Int.reduceToNat,Int.reduceNeg,Nat.reduceEqDiff,Nat.reduceBEq,Nat.reduceLT,xOS,xSh,hle,h1,hcut]
    | false =>
      cases t with
      | zero =>
        obtain rfl : a = p.length := by omega
        exact absurd (h2.2 hper) (by simp)
      | succ t =>
        obtain ⟨b,g1,g2,g3,g4,g5⟩ := xZ4 (z1 := z1) (z := z) (c1 := c1) (c2 := c2) hq0 hp hq hd0 hd hper t (a + 1) (by omega)
        refine ⟨b,by omega,g2,g3,fun c h3 h4 hc => ?_,?_⟩
        · by_cases hca : c = a
          · subst hca; exact absurd (h2.2 hc) (by simp)
          · exact g4 c (by omega) h4 hc
        · rw [xWo]
          simp (maxSteps := 30000000) (disch := first | assumption | omega | (simp only [WL,AV.isCell] <;> omega) | rfl | decide) only [↓reduceIte,WB,xAw,xAc,xAu,xAl,xAk,AV.cells,AV.isCell,xAb,xAd,xAe,WP,xAG,xAy,xBn,xBl,xBg,xAD,xAJ,xAH,Nat.reduceAdd,Nat.reduceSub,Nat.reduceLeDiff,Nat.reduceMul,Int.reduceAdd,Int.reduceSub,Int.reduceMul,Int.reduceLT,Int.reduceLE,Int.reduceEq,Int.reduceToNat,Int.reduceNeg,Nat.reduceEqDiff,Nat.reduceBEq,Nat.reduceLT,xOS,xSh,hle,h1,g5]
theorem xXi {z1 z : Bool} {p q : List Nat} {c1 : AV} {c2 : AV} (hq0 : 0 < q.length) (hp : p.length < 1099511627776) (hq : q.length < 1099511627776) : ∀ t d,0 < d → d + t = q.length →
    ∃ e b,d ≤ e ∧ e ≤ q.length ∧ b ≤ p.length ∧ PerAt (xAZ p q) b e ∧ (∀ c,c < b → ¬ PerAt (xAZ p q) c e) ∧ (∀ c,d ≤ c → c < e → ¬ PerAt (xAZ p q) p.length c) ∧
      L.loop xL7 xVr ⟨xL8 (.ptr 0 0) (.ptr 1 0) (.int .i64 (d : Nat)),[.cells false false [xBF z1 p,xBF z q],.cells false false [c1,c2]]⟩ =
        some (.ret,⟨xL8 (.ptr 0 0) (.ptr 1 0) (.int .i64 (e : Nat)),[.cells false false [xBF z1 p,xBF z q],.cells false false [xBF (b == 0) (xBs (xAZ p q) b),xBF false (xBs (fun i => xAZ p q (b + i)) e)]]⟩)
  | t,d,hd0,h => by
    obtain ⟨r,h1,h2⟩ := xKb z1 z p q p.length d hq0 hp hq (by omega) (by omega)
    have hle : ((d : Nat) : Int) ≤ ((q.length : Nat) : Int) := by omega
    cases r with
    | true =>
      obtain ⟨b,g1,g2,g3,g4,g5⟩ := xZ4 (z1 := z1) (z := z) (c1 := c1) (c2 := c2) hq0 hp hq hd0 (by omega) (h2.1 rfl) p.length 0 (by omega)
      simp only [Int.natCast_zero] at g5
      refine ⟨d,b,Nat.le_refl _,by omega,g2,g3,fun c hc => g4 c (by omega) hc,fun c h3 h4 => by omega,?_⟩
      rw [xWp]
      simp (maxSteps := 30000000) (disch := first | assumption | omega | (simp only [WL,AV.isCell] <;> omega) | rfl | decide) only [↓reduceIte,WB,xAw,xAc,xAu,xAl,xAk,AV.cells,AV.isCell,xAb,xAd,xAe,WP,xAG,xAy,xBn,xBl,xBg,xAD,xAJ,xAH,Nat.reduceAdd,Nat.reduceSub,Nat.reduceLeDiff,Nat.reduceMul,Int.reduceAdd,Int.reduceSub,Int.reduceMul,Int.reduceLT,Int.reduceLE,Int.reduceEq,Int.reduceToNat,Int.reduceNeg,Nat.reduceEqDiff,Nat.reduceBEq,Nat.reduceLT,xOT,xSi,xSh,hle,h1,g5]
    | false =>
      cases t with
      | zero =>
        obtain rfl : d = q.length := by omega
        exact absurd (h2.2 (fun i hi => xCs hq0 hi)) (by simp)
      | succ t =>
        obtain ⟨e,b,k1,k2,k3,k4,k5,k6,k7⟩ := xXi (z1 := z1) (z := z) (c1 := c1) (c2 := c2) hq0 hp hq t (d + 1) (by omega) (by omega)
        refine ⟨e,b,by omega,k2,k3,k4,k5,fun c h3 h4 hc => ?_,?_⟩
        · by_cases hca : c = d
          · subst hca; exact absurd (h2.2 hc) (by simp)
          · exact k6 c (by omega) h4 hc
        · rw [xWp]
          simp (maxSteps := 30000000) (disch := first | assumption | omega | (simp only [WL,AV.isCell] <;> omega) | rfl | decide) only [↓reduceIte,WB,xAw,xAc,xAu,xAl,xAk,AV.cells,AV.isCell,xAb,xAd,xAe,WP,xAG,xAy,xBn,xBl,xBg,xAD,xAJ,xAH,Nat.reduceAdd,Nat.reduceSub,Nat.reduceLeDiff,Nat.reduceMul,Int.reduceAdd,Int.reduceSub,Int.reduceMul,Int.reduceLT,Int.reduceLE,Int.reduceEq,Int.reduceToNat,Int.reduceNeg,Nat.reduceEqDiff,Nat.reduceBEq,Nat.reduceLT,xOT,xSi,hle,h1,k7]
theorem xT8 (z1 z2 : Bool) (p q : List Nat) (hp : p.length < 1099511627776) (hq : q.length < 1099511627776) :
    ∃ z p' q',Canon (xAZ p q) p' q' ∧ L.pcall 57 [las z1 z2 p q] = some (las z false p' q') := by
  obtain ⟨z,hfull⟩ := xGp z1 z2 p q
  have hfl := xCO q
  have hfp := xCN q
  obtain ⟨e,b,k1,k2,k3,k4,k5,k6,k7⟩ := xXi (z1 := z1) (z := z) (p := p) (c1 := .sl true 0 []) (c2 := .sl true 0 []) hfp hp (by omega) ((xAR q).length - 1) 1 (by omega) (by omega)
  have hC := xIl hfp (by omega) k4 k5 (fun c h1 h2 => k6 c (by omega) h2)
  have hS : xAZ p (xAR q) = xAZ p q := funext (xT5 p q)
  refine ⟨b == 0,_,_,hS ▸ hC,?_⟩
  simp only [Int.natCast_one] at k7
  rw [yBG,a57,xAm]
  simp (maxSteps := 30000000) (disch := first | assumption | omega | (simp only [WL,AV.isCell] <;> omega) | rfl | decide) only [↓reduceIte,WB,xAw,xAc,xAu,xAl,xAk,AV.cells,AV.isCell,xAb,xAd,xAe,WP,xAG,xAy,xBn,xBl,xBg,xAD,xAJ,xAH,Nat.reduceAdd,Nat.reduceSub,Nat.reduceLeDiff,Nat.reduceMul,Int.reduceAdd,Int.reduceSub,Int.reduceMul,Int.reduceLT,Int.reduceLE,Int.reduceEq,Int.reduceToNat,Int.reduceNeg,Nat.reduceEqDiff,Nat.reduceBEq,Nat.reduceLT,hfull,xSi,k7]
  try rw [hS]
end Go.Abs.Mealy
/- Letters and Is on equal data. -/
namespace Go.Abs.Mealy
set_option linter.unusedVariables false
set_option linter.unusedSimpArgs false
open Go Go.Abs
theorem xF6 {z1 z2 : Bool} {p : List Nat} {s4 : AV} {H : xAj} (hp : p.length < 9223372036854775807) : ∀ d i,i + d = p.length →
    L.loop xMc xVu ⟨xMd (xBF z1 p) (xBF z2 p) s4 (.int .i64 (i : Nat)),H⟩ = some (.exit 0,⟨xMd (xBF z1 p) (xBF z2 p) s4 (.int .i64 (p.length : Nat)),H⟩)
  | 0,i,h => by
    obtain rfl : i = p.length := by omega
    rw [xWr]
    simp (maxSteps := 30000000) (disch := first | assumption | omega | (simp only [WL,AV.isCell] <;> omega) | rfl | decide) only [↓reduceIte,WB,xAw,xAc,xAu,xAl,xAk,AV.cells,AV.isCell,xAb,xAd,xAe,WP,xAG,xAy,xBn,xBl,xBg,xAD,xAJ,xAH,Nat.reduceAdd,Nat.reduceSub,Nat.reduceLeDiff,Nat.reduceMul,Int.reduceAdd,Int.reduceSub,Int.reduceMul,Int.reduceLT,Int.reduceLE,Int.reduceEq,Int.reduceToNat,Int.reduceNeg,Nat.reduceEqDiff,Nat.reduceBEq,Nat.reduceLT,xOW,xSk]
  | d + 1,i,h => by
    have ih := xF6 (z1 := z1) (z2 := z2) (s4 := s4) (H := H) hp d (i + 1) (by omega)
    have hlt : (i : Int) < (p.length : Nat) := by omega
    rw [xWr]
    simp (maxSteps := 30000000) (disch := first | assumption | omega | (simp only [WL,AV.isCell] <;> omega) | rfl | decide) only [↓reduceIte,WB,xAw,xAc,xAu,xAl,xAk,AV.cells,AV.isCell,xAb,xAd,xAe,WP,xAG,xAy,xBn,xBl,xBg,xAD,xAJ,xAH,Nat.reduceAdd,Nat.reduceSub,Nat.reduceLeDiff,Nat.reduceMul,Int.reduceAdd,Int.reduceSub,Int.reduceMul,Int.reduceLT,Int.reduceLE,Int.reduceEq,Int.reduceToNat,Int.reduceNeg,Nat.reduceEqDiff,Nat.reduceBEq,Nat.reduceLT,xOW,xSk,hlt,ih]
theorem xF7 (z1 z2 : Bool) (p : List Nat) (hp : p.length < 9223372036854775807) : L.pcall 65 [xBF z1 p,xBF z2 p] = some (.bool true) := by
  have hl := fun s4 H => xF6 (z1 := z1) (z2 := z2) (s4 := s4) (H := H) hp p.length 0 (by omega)
  simp only [Int.natCast_zero] at hl
  rw [yBO,a65,xAm]
  simp (maxSteps := 30000000) (disch := first | assumption | omega | (simp only [WL,AV.isCell] <;> omega) | rfl | decide) only [↓reduceIte,WB,xAw,xAc,xAu,xAl,xAk,AV.cells,AV.isCell,xAb,xAd,xAe,WP,xAG,xAy,xBn,xBl,xBg,xAD,xAJ,xAH,Nat.reduceAdd,Nat.reduceSub,Nat.reduceLeDiff,Nat.reduceMul,Int.reduceAdd,Int.reduceSub,Int.reduceMul,Int.reduceLT,Int.reduceLE,Int.reduceEq,Int.reduceToNat,Int.reduceNeg,Nat.reduceEqDiff,Nat.reduceBEq,Nat.reduceLT,xSk,hl]
theorem xT9 (z1 z2 z3 z4 : Bool) (p q : List Nat) (hp : p.length < 9223372036854775807) (hq : q.length < 9223372036854775807) : L.pcall 25 [las z1 z2 p q,las z3 z4 p q] = some (.bool true) := by
  have h1 := xF7 z1 z3 p hp
  have h2 := xF7 z2 z4 q hq
  rw [yBC,a25,xAm]
  simp (maxSteps := 30000000) (disch := first | assumption | omega | (simp only [WL,AV.isCell] <;> omega) | rfl | decide) only [↓reduceIte,WB,xAw,xAc,xAu,xAl,xAk,AV.cells,AV.isCell,xAb,xAd,xAe,WP,xAG,xAy,xBn,xBl,xBg,xAD,xAJ,xAH,Nat.reduceAdd,Nat.reduceSub,Nat.reduceLeDiff,Nat.reduceMul,Int.reduceAdd,Int.reduceSub,Int.reduceMul,Int.reduceLT,Int.reduceLE,Int.reduceEq,Int.reduceToNat,Int.reduceNeg,Nat.reduceEqDiff,Nat.reduceBEq,Nat.reduceLT,h1,h2]
end Go.Abs.Mealy
