/- Classes,its result the caller's own. -/
import Derived.Test.YtdkbhidfiplncaaAbsBun
import Derived.Test.YtdkbhidfiplncaaAMC
import Derived.Test.YtdkbhidfiplncaaAMB
import Derived.Test.YtdkbhidfiplncaaAME
import Derived.Test.YtdkbhidfiplncaaAMA
namespace Go.Abs.Det
open Go Go.Abs
set_option linter.unusedSimpArgs false
set_option linter.unusedVariables false
theorem xVn (k : Nat) (l : List Int) : xAP k (.cells false false (ints l)) = .cells false false (ints l) := by
 simp only [xAP,xFm,xD4,if_true]
theorem yE4 {B : xAc} {b k : Nat} {l : List Int} (h : B[b]? = some (.cells false false (ints l))) (H : xAc) (hk : H.length = k) : (H ++ B.map (xAP k))[k + b]? = some (.cells false false (ints l)) := by
 rw [List.getElem?_append_right (by omega),hk,Nat.add_sub_cancel_left,List.getElem?_map,h]
 simp only [Option.map_some,xVn]
theorem xVo {D : Da} (hV : Va D) : ∃ c m b B,Stab D c m ∧ xAL L 60 [D.av] = some (.tup [.own false b 0 D.next.length 1,.int .i64 (m : Nat)],B) ∧ B[b]? = some (.cells false false (ints c)) := by
 have n64 := hV.n64
 have hB : ClsB D (List.replicate D.next.length 0) [.cells false false D.cells,.cells false false [.own false 2 0 D.next.length 1],.cells false false (ints (List.replicate D.next.length 0))] :=
  ⟨rfl,2,by rw [List.length_replicate]; rfl,rfl⟩
 obtain ⟨c,m,b,G',h1,h2,h3,h4,h5⟩ := xUA hV _ _ 0 _ (Nat.le_refl _) xUB hB
 refine ⟨c,m,b,G',h2,xA1 ?_ rfl,h4⟩
 simp only [Int.natCast_zero] at h1
 unfold Da.cells at h1
 unfold Da.av Da.cells
 rw [yJA,a60]
 simp (maxSteps := 30000000) (disch := first | assumption | omega | (simp only [WL,AV.isCell,xAa] <;> omega) | rfl | decide) only [WB,Nat.reduceSub,AV.cells,AV.isCell,↓reduceIte,xBp,Nat.reduceAdd,xSa,h1,h3]
theorem xVp {D : Da} (hV : Va D) : ∃ c m b B,Stab D c m ∧ xAL L 25 [D.av] = some (.tup [.own false b 0 D.next.length 1,.int .i64 0],B) ∧ B[b]? = some (.cells false false (ints c)) := by
 obtain ⟨c,m,b,B,h1,h2,h3⟩ := xVo hV
 have h14 := xD2 D hV
 refine ⟨c,m,1 + b,_,h1,xA1 (B := [.cells false false D.cells] ++ B.map (xAP 1)) ?_ rfl,yE4 h3 [.cells false false D.cells] rfl⟩
 unfold Da.av at h2 h14 ⊢
 unfold Da.cells at h2 h14 ⊢
 rw [yIN,a25]
 simp (maxSteps := 30000000) (disch := first | assumption | omega | (simp only [WL,AV.isCell,xAa] <;> omega) | rfl | decide) only [WB,Nat.reduceSub,AV.cells,AV.isCell,↓reduceIte,h14,xA0,xAx,xDs,xBZ,h2,xDt,xB4,xDc,xAK]
def dnP (p : Nat → Bool) : Nat → Nat → Nat
 | 0,r => r
 | k + 1,r => dnP p k (if p k = true then k else r)
theorem xGN (p : Nat → Bool) : ∀ k r,(dnP p k r < k ∧ p (dnP p k r) = true ∧ ∀ t,t < dnP p k r → p t = false) ∨ (dnP p k r = r ∧ ∀ t,t < k → p t = false)
 | 0,r => .inr ⟨rfl,fun t h => by omega⟩
 | k + 1,r => by
  have ih := xGN p k (if p k = true then k else r)
  have e : dnP p (k + 1) r = dnP p k (if p k = true then k else r) := rfl
  rw [e]
  rcases ih with ⟨h1,h2,h3⟩ | ⟨h1,h2⟩
  ·exact .inl ⟨by omega,h2,h3⟩
  ·by_cases c : p k = true
   ·rw [if_pos c] at h1 ⊢
    rw [h1]
    exact .inl ⟨by omega,c,h2⟩
   ·rw [if_neg c] at h1 ⊢
    refine .inr ⟨h1,fun t ht => ?_⟩
    by_cases e : t = k
    ·subst e; simpa using c
    ·exact h2 t (by omega)
def xLF (P : Nat → Nat → Bool) (s : Nat) : Nat := dnP (P s) s s
structure EqvB (n : Nat) (P : Nat → Nat → Bool) : Prop where
 rf : ∀ s,s < n → P s s = true
 sm : ∀ s t,s < n → t < n → P s t = true → P t s = true
 tr : ∀ s t u,s < n → t < n → u < n → P s t = true → P t u = true → P s u = true
theorem xDf (P : Nat → Nat → Bool) (s : Nat) : xLF P s ≤ s := by
 rcases xGN (P s) s s with ⟨h,_⟩ | ⟨h,_⟩ <;> unfold xLF <;> omega
theorem xJb {n : Nat} {P : Nat → Nat → Bool} (h : EqvB n P) {s : Nat} (hs : s < n) : P s (xLF P s) = true := by
 rcases xGN (P s) s s with ⟨_,q,_⟩ | ⟨q,_⟩
 ·exact q
 ·unfold xLF; rw [q]; exact h.rf s hs
theorem xUn (P : Nat → Nat → Bool) {s t : Nat} (ht : P s t = true) : xLF P s ≤ t := by
 rcases xGN (P s) s s with ⟨h1,h2,h3⟩ | ⟨h1,h2⟩
 ·rcases Nat.lt_or_ge t (dnP (P s) s s) with c | c
  ·rw [h3 t c] at ht; cases ht
  ·exact c
 ·unfold xLF
  rw [h1]
  rcases Nat.lt_or_ge t s with c | c
  ·rw [h2 t c] at ht; cases ht
  ·exact c
theorem xFW {n : Nat} {P : Nat → Nat → Bool} (h : EqvB n P) {s t : Nat} (hs : s < n) (ht : t < n) : xLF P s = xLF P t ↔ P s t = true := by
 have h1 := xJb h hs
 have h2 := xJb h ht
 have l1 := xDf P s
 have l2 := xDf P t
 constructor
 ·intro e
  rw [e] at h1
  exact h.tr _ _ _ hs (by omega) ht h1 (h.sm _ _ ht (by omega) h2)
 ·intro e
  have e' := h.sm _ _ hs ht e
  have a := xUn P (h.tr _ _ _ hs ht (by omega) e h2)
  have b := xUn P (h.tr _ _ _ ht hs (by omega) e' h1)
  omega
theorem xJc {n : Nat} {P : Nat → Nat → Bool} (h : EqvB n P) {s : Nat} (hs : s < n) : xLF P (xLF P s) = xLF P s := by
 have := xDf P s
 exact ((xFW h hs (by omega)).2 (xJb h hs)).symm
section
variable {D : Da}
def yE5 (D : Da) (c : List Nat) (s t : Nat) : Bool :=
 (List.range D.next.length).all fun q => (List.range (two D.vars)).all fun x => decide (c.getD (nt D s q x) 0 = c.getD (nt D t q x) 0) && decide (c.getD (nt D q s x) 0 = c.getD (nt D q t x) 0)
theorem agrB_iff {c : List Nat} {s t : Nat} : yE5 D c s t = true ↔ ∀ q x,q < D.next.length → x < two D.vars → c.getD (nt D s q x) 0 = c.getD (nt D t q x) 0 ∧ c.getD (nt D q s x) 0 = c.getD (nt D q t x) 0 := by
 unfold yE5
 simp only [List.all_eq_true,List.mem_range,Bool.and_eq_true,decide_eq_true_eq]
 exact ⟨fun h q x hq hx => h q hq x hx,fun h q hq x hx => h q x hq hx⟩
def xJn (D : Da) (s t : Nat) : Bool := decide (D.fin.getD s false = D.fin.getD t false)
def xCK (D : Da) (c : List Nat) (s t : Nat) : Bool := decide (c.getD s 0 = c.getD t 0) && yE5 D c s t
def xZO (P : Nat → Nat → Bool) (n : Nat) : List Nat := (List.range n).map (xLF P)
theorem xD5 (P : Nat → Nat → Bool) (n : Nat) : (xZO P n).length = n := by simp [xZO]
theorem xAZ {P : Nat → Nat → Bool} {n s : Nat} (h : s < n) : (xZO P n).getD s 0 = xLF P s := by
 unfold xZO
 rw [List.getD_eq_getElem?_getD,List.getElem?_map,List.getElem?_range h]; rfl
def xVq (D : Da) : List Nat := xZO (xJn D) D.next.length
def xBq (D : Da) (c : List Nat) : List Nat := xZO (xCK D c) D.next.length
def xVC (D : Da) : Nat → List Nat → List Nat
 | 0,c => c
 | k + 1,c => if xBq D c = c then c else xVC D k (xBq D c)
def xBm (D : Da) : List Nat := xVC D D.next.length (xVq D)
theorem yBE : EqvB D.next.length (xJn D) := by
 unfold xJn
 exact ⟨fun s _ => by simp,fun s t _ _ h => by simp at h ⊢; exact h.symm,fun s t u _ _ _ h g => by simp at h g ⊢; exact h.trans g⟩
theorem step_iff {c : List Nat} {s t : Nat} : xCK D c s t = true ↔ c.getD s 0 = c.getD t 0 ∧ yE5 D c s t = true := by
 unfold xCK; simp
theorem xMy (c : List Nat) : EqvB D.next.length (xCK D c) := by
 refine ⟨fun s _ => ?_,fun s t _ _ h => ?_,fun s t u _ _ _ h g => ?_⟩
 ·rw [step_iff,agrB_iff]; exact ⟨rfl,fun q x _ _ => ⟨rfl,rfl⟩⟩
 ·rw [step_iff,agrB_iff] at h ⊢
  exact ⟨h.1.symm,fun q x hq hx => ⟨(h.2 q x hq hx).1.symm,(h.2 q x hq hx).2.symm⟩⟩
 ·rw [step_iff,agrB_iff] at h g ⊢
  exact ⟨h.1.trans g.1,fun q x hq hx => ⟨(h.2 q x hq hx).1.trans (g.2 q x hq hx).1,(h.2 q x hq hx).2.trans (g.2 q x hq hx).2⟩⟩
structure RIn (D : Da) (c : List Nat) : Prop where
 len : c.length = D.next.length
 le : ∀ s,s < D.next.length → c.getD s 0 ≤ s
 id : ∀ s,s < D.next.length → c.getD (c.getD s 0) 0 = c.getD s 0
 fin : ∀ s t,s < D.next.length → t < D.next.length → c.getD s 0 = c.getD t 0 → D.fin.getD s false = D.fin.getD t false
 big : ∀ E,Cong D E → ∀ s t,s < D.next.length → t < D.next.length → E s t → c.getD s 0 = c.getD t 0
theorem xUo : RIn D (xVq D) := by
 have hE := yBE (D := D)
 refine ⟨xD5 _ _,fun s hs => ?_,fun s hs => ?_,fun s t hs ht e => ?_,fun E h s t hs ht e => ?_⟩
 ·unfold xVq; rw [xAZ hs]; exact xDf _ _
 ·have := xDf (xJn D) s
  unfold xVq; rw [xAZ hs,xAZ (by omega)]; exact xJc hE hs
 ·unfold xVq at e; rw [xAZ hs,xAZ ht,xFW hE hs ht] at e
  unfold xJn at e; simpa using e
 ·unfold xVq; rw [xAZ hs,xAZ ht,xFW hE hs ht]
  unfold xJn; simpa using h.fin s t hs ht e
theorem yBF (hV : Va D) {c : List Nat} (h : RIn D c) : RIn D (xBq D c) := by
 have hE := xMy (D := D) c
 refine ⟨xD5 _ _,fun s hs => ?_,fun s hs => ?_,fun s t hs ht e => ?_,fun E hc s t hs ht e => ?_⟩
 ·unfold xBq; rw [xAZ hs]; exact xDf _ _
 ·have := xDf (xCK D c) s
  unfold xBq; rw [xAZ hs,xAZ (by omega)]; exact xJc hE hs
 ·unfold xBq at e; rw [xAZ hs,xAZ ht,xFW hE hs ht,step_iff] at e
  exact h.fin s t hs ht e.1
 ·unfold xBq; rw [xAZ hs,xAZ ht,xFW hE hs ht,step_iff,agrB_iff]
  exact ⟨h.big E hc s t hs ht e,fun q x hq hx => ⟨h.big E hc _ _ (xGz hV hs hq hx) (xGz hV ht hq hx) (hc.l s t q x hs ht hq hx e),h.big E hc _ _ (xGz hV hq hs hx) (xGz hV hq ht hx) (hc.r s t q x hs ht hq hx e)⟩⟩
def xC4 (c : List Nat) (k : Nat) : Nat := (List.range k).countP fun s => decide (c.getD s 0 = s)
theorem xB5 (c : List Nat) (k : Nat) : xC4 c (k + 1) = xC4 c k + if c.getD k 0 = k then 1 else 0 := by
 unfold xC4
 rw [List.range_succ,List.countP_append,List.countP_cons,List.countP_nil]
 simp
theorem xJd (c : List Nat) (k : Nat) : xC4 c k ≤ k := by
 have := List.countP_le_length (p := fun s => decide (c.getD s 0 = s)) (l := List.range k)
 simpa [xC4] using this
theorem xQs {c c' : List Nat} : ∀ k,(∀ s,s < k → c.getD s 0 = s → c'.getD s 0 = s) → xC4 c k ≤ xC4 c' k ∧ ((∃ s,s < k ∧ c'.getD s 0 = s ∧ c.getD s 0 ≠ s) → xC4 c k < xC4 c' k)
 | 0,_ => ⟨Nat.le_refl _,fun ⟨s,h,_⟩ => by omega⟩
 | k + 1,h => by
  obtain ⟨i1,i2⟩ := xQs (c := c) (c' := c') k (fun s hs e => h s (by omega) e)
  have hk := h k (by omega)
  rw [xB5,xB5]
  constructor
  ·split
   ·rename_i e; rw [if_pos (hk e)]; omega
   ·omega
  ·rintro ⟨s,hs,e1,e2⟩
   by_cases e : s = k
   ·subst e
    rw [if_pos e1,if_neg e2]; omega
   ·have := i2 ⟨s,by omega,e1,e2⟩
    split
    ·rename_i e; rw [if_pos (hk e)]; omega
    ·omega
theorem xFo {a b : List Nat} (hl : a.length = b.length) (h : ∀ i,i < a.length → a.getD i 0 = b.getD i 0) : a = b := by
 apply List.ext_getElem hl
 intro i h1 h2
 have := h i h1
 rw [List.getD_eq_getElem?_getD,List.getD_eq_getElem?_getD,List.getElem?_eq_getElem h1,List.getElem?_eq_getElem h2] at this
 exact this
theorem xY4 {c : List Nat} (h : RIn D c) (hne : xBq D c ≠ c) : xC4 c D.next.length < xC4 (xBq D c) D.next.length := by
 have hE := xMy (D := D) c
 refine (xQs _ fun s hs e => ?_).2 ?_
 ·have h1 := xDf (xCK D c) s
  have h2 := (step_iff.1 (xJb hE hs)).1
  have h3 := h.le (xLF (xCK D c) s) (by omega)
  unfold xBq; rw [xAZ hs]
  omega
 ·have : ∃ s,s < D.next.length ∧ (xBq D c).getD s 0 ≠ c.getD s 0 := by
   rcases Classical.em (∃ s,s < D.next.length ∧ (xBq D c).getD s 0 ≠ c.getD s 0) with q | q
   ·exact q
   ·exfalso
    refine hne (xFo ((xD5 _ _).trans h.len.symm) fun i hi => ?_)
    rcases Nat.decEq ((xBq D c).getD i 0) (c.getD i 0) with q1 | q1
    ·exact absurd ⟨i,by unfold xBq at hi; rwa [xD5] at hi,q1⟩ q
    ·exact q1
  obtain ⟨s,hs,hq⟩ := this
  unfold xBq at hq; rw [xAZ hs] at hq
  have h1 := xDf (xCK D c) s
  have h2 := (step_iff.1 (xJb hE hs)).1
  refine ⟨xLF (xCK D c) s,by omega,?_,fun e => ?_⟩
  ·unfold xBq; rw [xAZ (by omega)]; exact xJc hE hs
  ·omega
theorem xY5 {c : List Nat} (h : RIn D c) (he : xBq D c = c) : Cong D (fun s t => c.getD s 0 = c.getD t 0) := by
 have hE := xMy (D := D) c
 have key : ∀ s t,s < D.next.length → t < D.next.length → c.getD s 0 = c.getD t 0 → yE5 D c s t = true := fun s t hs ht e => by
  rw [← he] at e
  unfold xBq at e; rw [xAZ hs,xAZ ht,xFW hE hs ht,step_iff] at e
  exact e.2
 exact ⟨h.fin,fun s t q x hs ht hq hx e => (agrB_iff.1 (key s t hs ht e) q x hq hx).1,fun s t q x hs ht hq hx e => (agrB_iff.1 (key s t hs ht e) q x hq hx).2⟩
theorem yDx (hV : Va D) : ∀ k c,RIn D c → D.next.length < k + xC4 c D.next.length → RIn D (xVC D k c) ∧ Cong D (fun s t => (xVC D k c).getD s 0 = (xVC D k c).getD t 0)
 | 0,c,h,hk => by
  have := xJd c D.next.length
  omega
 | k + 1,c,h,hk => by
  unfold xVC
  split
  ·rename_i e; exact ⟨h,xY5 h e⟩
  ·rename_i e
   have := xY4 h e
   exact yDx hV k _ (yBF hV h) (by omega)
theorem xQt (hV : Va D) : RIn D (xBm D) ∧ Cong D (fun s t => (xBm D).getD s 0 = (xBm D).getD t 0) := by
 refine yDx hV _ _ xUo ?_
 have h0 := (xUo (D := D)).le 0 hV.n0
 have : 0 < xC4 (xVq D) D.next.length := by
  unfold xC4
  rw [List.countP_pos_iff]
  exact ⟨0,List.mem_range.2 hV.n0,decide_eq_true (Nat.le_zero.1 h0)⟩
 omega
theorem yBG (hV : Va D) {c : List Int} {m : Nat} (h : Stab D c m) {s t : Nat} (hs : s < D.next.length) (ht : t < D.next.length) : (xBm D).getD s 0 = (xBm D).getD t 0 ↔ c.getD s 0 = c.getD t 0 := by
 obtain ⟨h1,h2⟩ := xQt hV
 exact ⟨fun e => h.big _ h2 s t hs ht e,fun e => h1.big _ h.cong s t hs ht e⟩
end
theorem num_pre' (key : Nat → List Nat) {s : Nat} : ∀ d,(xBX key 0 (s + 1 + d) []).1.getD s 0 = (xBX key 0 (s + 1) []).1.getD s 0
 | 0 => rfl
 | d + 1 => by
  rw [show s + 1 + (d + 1) = s + 1 + d + 1 by omega,xDR key (s + 1 + d)]
  have hl := (xED key (s + 1 + d)).len
  rw [← num_pre' key d]
  unfold xRB
  split <;> exact xDS (by omega)
def mxK' (key : Nat → List Nat) (s : Nat) : Nat := (xBX key 0 s []).2.length
structure Rgs (n : Nat) (a ma : Nat → Nat) : Prop where
 z : ma 0 = 0
 le : ∀ s,s < n → a s ≤ ma s
 up : ∀ s,s < n → a s = ma s → ma (s + 1) = ma s + 1
 st : ∀ s,s < n → a s ≠ ma s → ma (s + 1) = ma s
theorem yE6 (key : Nat → List Nat) (n : Nat) : Rgs n (fun s => (xBX key 0 n []).1.getD s 0) (mxK' key) := by
 have main : ∀ s,s < n → (xBX key 0 n []).1.getD s 0 ≤ mxK' key s ∧ ((xBX key 0 n []).1.getD s 0 = mxK' key s → mxK' key (s + 1) = mxK' key s + 1) ∧ ((xBX key 0 n []).1.getD s 0 ≠ mxK' key s → mxK' key (s + 1) = mxK' key s) := by
  intro s h
  have e1 := num_pre' key (s := s) (n - (s + 1))
  rw [show s + 1 + (n - (s + 1)) = n by omega] at e1
  rw [e1]
  unfold mxK'
  have hl := (xED key s).len
  rw [xDR key s]
  unfold xRB
  cases hi : xLK (key (0 + s)) (xBX key 0 s []).2 0 with
  | some j =>
   obtain ⟨_,q⟩ := xJi hi
   have q1 := (List.getElem?_eq_some_iff.1 q).1
   have e2 : ((xBX key 0 s []).1 ++ [j]).getD s 0 = j := by
    have := xDT (l := (xBX key 0 s []).1) (a := j)
    rwa [hl] at this
   simp only []
   rw [e2]
   exact ⟨by omega,fun h => by omega,fun _ => trivial⟩
  | none =>
   have e2 : ((xBX key 0 s []).1 ++ [(xBX key 0 s []).2.length]).getD s 0 = (xBX key 0 s []).2.length := by
    have := xDT (l := (xBX key 0 s []).1) (a := (xBX key 0 s []).2.length)
    rwa [hl] at this
   simp only []
   rw [e2]
   exact ⟨Nat.le_refl _,fun _ => by simp,fun h => absurd rfl h⟩
 exact ⟨rfl,fun s h => (main s h).1,fun s h => (main s h).2.1,fun s h => (main s h).2.2⟩
theorem Rgs.below {n : Nat} {a ma : Nat → Nat} (h : Rgs n a ma) : ∀ s,s ≤ n → ∀ t,t < s → a t < ma s
 | 0,_,t,ht => by omega
 | s + 1,hs,t,ht => by
  have ih := h.below s (by omega)
  have hm : ma s ≤ ma (s + 1) := by
   by_cases e : a s = ma s
   ·have := h.up s (by omega) e; omega
   ·have := h.st s (by omega) e; omega
  by_cases e : t = s
  ·subst e
   have := h.le t (by omega)
   by_cases e : a t = ma t
   ·have := h.up t (by omega) e; omega
   ·omega
  ·have := ih t (by omega); omega
theorem Rgs.hit {n : Nat} {a ma : Nat → Nat} (h : Rgs n a ma) : ∀ s,s ≤ n → ∀ j,j < ma s → ∃ t,t < s ∧ a t = j
 | 0,_,j,hj => by rw [h.z] at hj; omega
 | s + 1,hs,j,hj => by
  have ih := h.hit s (by omega)
  by_cases e : a s = ma s
  ·rw [h.up s (by omega) e] at hj
   by_cases c : j = ma s
   ·exact ⟨s,by omega,by omega⟩
   ·obtain ⟨t,h1,h2⟩ := ih j (by omega)
    exact ⟨t,by omega,h2⟩
  ·rw [h.st s (by omega) e] at hj
   obtain ⟨t,h1,h2⟩ := ih j hj
   exact ⟨t,by omega,h2⟩
theorem xUp {n : Nat} {a ma b mb : Nat → Nat} (ha : Rgs n a ma) (hb : Rgs n b mb) (hk : ∀ s t,s < n → t < n → (a s = a t ↔ b s = b t)) : ∀ s,s ≤ n → ma s = mb s ∧ ∀ t,t < s → a t = b t
 | 0,_ => ⟨by rw [ha.z,hb.z],fun t h => by omega⟩
 | s + 1,hs => by
  obtain ⟨i1,i2⟩ := xUp ha hb hk s (by omega)
  have hla := ha.le s (by omega)
  have hlb := hb.le s (by omega)
  have key : a s = b s := by
   by_cases c : a s = ma s
   ·by_cases d : b s = mb s
    ·omega
    ·obtain ⟨t,h1,h2⟩ := hb.hit s (by omega) (b s) (by omega)
     have := (hk t s (by omega) (by omega)).2 h2
     have := ha.below s (by omega) t h1
     omega
   ·obtain ⟨t,h1,h2⟩ := ha.hit s (by omega) (a s) (by omega)
    have h3 := (hk t s (by omega) (by omega)).1 h2
    have := i2 t h1
    omega
  refine ⟨?_,fun t ht => ?_⟩
  ·by_cases c : a s = ma s
   ·rw [ha.up s (by omega) c,hb.up s (by omega) (by omega)]; omega
   ·rw [ha.st s (by omega) c,hb.st s (by omega) (by omega)]; omega
  ·by_cases e : t = s
   ·subst e; exact key
   ·exact i2 t (by omega)
theorem fixN_le' (c : List Nat) {a b : Nat} (h : a ≤ b) : xC4 c a ≤ xC4 c b := by
 induction h with
 | refl => exact Nat.le_refl _
 | step _ ih => rw [xB5]; omega
structure FxOk (n : Nat) (c : List Nat) : Prop where
 le : ∀ s,s < n → c.getD s 0 ≤ s
 id : ∀ s,s < n → c.getD (c.getD s 0) 0 = c.getD s 0
theorem xUq {n : Nat} {c : List Nat} (h : FxOk n c) {p q : Nat} (hp : c.getD p 0 = p) (hpq : p < q) : xC4 c p < xC4 c q := by
 have := fixN_le' c (show p + 1 ≤ q by omega)
 rw [xB5,if_pos hp] at this
 omega
theorem yE7 {n : Nat} {c : List Nat} (h : FxOk n c) : Rgs n (fun s => xC4 c (c.getD s 0)) (xC4 c) := by
 refine ⟨rfl,fun s hs => fixN_le' c (h.le s hs),fun s hs e => ?_,fun s hs e => ?_⟩
 ·have := h.le s hs
  by_cases q : c.getD s 0 = s
  ·rw [xB5,if_pos q]
  ·have := xUq h (h.id s hs) (show c.getD s 0 < s by omega)
   omega
 ·rw [xB5,if_neg (fun q => e (by show xC4 c (c.getD s 0) = _; rw [q]))]; rfl
theorem yE8 {n : Nat} {c : List Nat} (h : FxOk n c) {s t : Nat} (hs : s < n) (ht : t < n) : xC4 c (c.getD s 0) = xC4 c (c.getD t 0) ↔ c.getD s 0 = c.getD t 0 := by
 refine ⟨fun e => ?_,fun e => by rw [e]⟩
 rcases Nat.lt_trichotomy (c.getD s 0) (c.getD t 0) with q | q | q
 ·have := xUq h (h.id s hs) q; omega
 ·exact q
 ·have := xUq h (h.id t ht) q; omega
section
variable {D : Da}
theorem xUr (hV : Va D) : FxOk D.next.length (xBm D) := ⟨(xQt hV).1.le,(xQt hV).1.id⟩
theorem xUs (hV : Va D) {c : List Int} {m : Nat} (h : Stab D c m) : m = xC4 (xBm D) D.next.length ∧ ∀ s,s < D.next.length → c.getD s 0 = ((xC4 (xBm D) ((xBm D).getD s 0) : Nat) : Int) := by
 obtain ⟨key,e1,e2⟩ := h.num
 have hF := xUr hV
 have hu := xUp (yE6 key D.next.length) (yE7 hF) (fun s t hs ht => by
  show (xBX key 0 D.next.length []).1.getD s 0 = (xBX key 0 D.next.length []).1.getD t 0 ↔ _
  rw [yE8 hF hs ht,yBG hV h hs ht,e1,xAG,xAG]
  omega) D.next.length (Nat.le_refl _)
 refine ⟨e2.trans hu.1,fun s hs => ?_⟩
 rw [e1,xAG]
 have : (xBX key 0 D.next.length []).1.getD s 0 = xC4 (xBm D) ((xBm D).getD s 0) := hu.2 s hs
 rw [this]
end
def xBI (c : List Nat) (k : Nat) : List Int := xAO ((List.range k).filter fun s => decide (c.getD s 0 = s))
theorem xMz (a b : List Nat) : xAO (a ++ b) = xAO a ++ xAO b := by simp [xAO]
theorem xDO (c : List Nat) (k : Nat) : xBI c (k + 1) = if c.getD k 0 = k then xBI c k ++ [((k : Nat) : Int)] else xBI c k := by
 unfold xBI
 rw [List.range_succ,List.filter_append,xMz]
 split
 ·rename_i e
  rw [List.filter_cons_of_pos (by simpa using e)]; rfl
 ·rename_i e
  rw [List.filter_cons_of_neg (by simpa using e)]
  simp [xAO]
theorem xCx (c : List Nat) (k : Nat) : (xBI c k).length = xC4 c k := by
 unfold xBI xAO xC4
 rw [List.length_map,List.countP_eq_length_filter]
theorem xGO {c : List Nat} {k : Nat} {s : Int} (h : s ∈ xBI c k) : ∃ a : Nat,s = (a : Int) ∧ a < k ∧ c.getD a 0 = a := by
 unfold xBI xAO at h
 obtain ⟨a,h1,h2⟩ := List.mem_map.1 h
 rw [List.mem_filter,List.mem_range] at h1
 exact ⟨a,h2.symm,h1.1,by simpa using h1.2⟩
theorem xMA {a : Int} : ∀ {l l' : List Int} {i : Nat},xD8 a (l ++ l') i = match xD8 a l i with | some j => some j | none => xD8 a l' (i + l.length)
 | [],l',i => rfl
 | b :: l,l',i => by
  have e1 : xD8 a (b :: l ++ l') i = if a = b then some i else xD8 a (l ++ l') (i + 1) := rfl
  have e2 : xD8 a (b :: l) i = if a = b then some i else xD8 a l (i + 1) := rfl
  rw [e1,e2]
  split
  ·rfl
  ·rw [xMA,List.length_cons,show i + 1 + l.length = i + (l.length + 1) by omega]
theorem xRl {c : List Nat} : ∀ (k : Nat) {a : Nat},a < k → c.getD a 0 = a → xD8 (a : Int) (xBI c k) 0 = some (xC4 c a)
 | 0,a,h,_ => by omega
 | k + 1,a,h,ha => by
  rw [xDO]
  by_cases e : a = k
  ·subst e
   have hn : xD8 (a : Int) (xBI c a) 0 = none := idxI_none.2 fun hm => by
    obtain ⟨b,h1,h2,_⟩ := xGO hm
    omega
   rw [if_pos ha,xMA,hn,xCx]
   simp [xD8]
  ·have ih := xRl k (show a < k by omega) ha
   split
   ·rw [xMA,ih]
   ·exact ih
def plc (l : List Int) (q : Int) : Int := match xD8 q l 0 with | some j => (j : Nat) | none => -1
theorem xRm {c : List Nat} {k a : Nat} (h : a < k) (ha : c.getD a 0 = a) : plc (xBI c k) (a : Int) = (xC4 c a : Nat) := by
 unfold plc; rw [xRl k h ha]
theorem xY6 {o : List Int} {s : Int} (h : s ∈ o) : plc o s = (xZQ o s : Nat) := by
 unfold plc xZQ
 cases hi : xD8 s o 0 with
 | none => exact absurd h (idxI_none.1 hi)
 | some j => rfl
def quR (D : Da) (o c : List Int) : Da :=
 ⟨D.vars,plc o (c.getD D.empty.toNat 0),xBB D.vars (fun l r x => plc o (c.getD (nx D (o.getD l 0) (o.getD r 0) x).toNat 0)) o.length o.length,xD6 (fun l => D.fin.getD (o.getD l 0).toNat false) o.length⟩
def xJu (n : Nat) : List Int := xAO (List.range n)
theorem xUt {n i : Nat} (h : i < n) : (xJu n).getD i 0 = (i : Int) := by
 unfold xJu
 rw [xAG,List.getD_eq_getElem?_getD,List.getElem?_range h]; rfl
theorem xJe {v : Int} {f g : Nat → Nat → Nat → Int} {n : Nat} : ∀ m,m ≤ n → (∀ l r x,l < m → r < n → x < two v → f l r x = g l r x) → xBB v f n m = xBB v g n m := fun m hm h => by
 unfold xBB
 refine List.map_congr_left fun l hl => ?_
 unfold xCL
 refine List.map_congr_left fun r hr => ?_
 unfold rvL
 exact List.map_congr_left fun x hx => h l r x (List.mem_range.1 hl) (List.mem_range.1 hr) (List.mem_range.1 hx)
theorem xVr {f g : Nat → Bool} {m : Nat} (h : ∀ l,l < m → f l = g l) : xD6 f m = xD6 g m :=
 List.map_congr_left fun l hl => h l (List.mem_range.1 hl)
theorem yGW {D : Da} (hV : Va D) : quR D (xCj D) (xJu D.next.length) = xDn D := by
 have hO := (xC2 hV).1
 have he : D.empty ∈ xCj D := xRt xGP (by simp)
 have hd := fun {i j x : Nat} (hi : i < (xCj D).length) (hj : j < (xCj D).length) (hx : x < two D.vars) => xFu hO.le hi hj hx
 unfold quR xDn
 have h0 : plc (xCj D) ((xJu D.next.length).getD D.empty.toNat 0) = 0 := by
  have := hV.e0
  have := hV.en
  rw [xUt (by omega),Int.toNat_of_nonneg hV.e0]
  obtain ⟨t,ht⟩ := xGP (D := D)
  unfold plc
  rw [← ht]
  simp [xD8]
 rw [h0]
 congr 1
 ·refine xJe _ (Nat.le_refl _) fun l r x hl hr hx => ?_
  have hm := hd hl hr hx
  have hb := xFT hV (x := x) (hO.bd _ (xAl (a := 0) hl)) (hO.bd _ (xAl (a := 0) hr)) hx
  rw [xUt (by omega),Int.toNat_of_nonneg hb.1,xY6 hm]
  rfl
theorem yGX {D : Da} (hV : Va D) {c F : List Int} {m : Nat} (hS : Stab D c m) (hO : MinOk D c F m) (hF : ∀ j : Nat,j < m → c.getD (F.getD j 0).toNat 0 = j) :
  quR D (xBI (xBm D) D.next.length) (xAO (xBm D)) = yBP D c F m := by
 obtain ⟨hm,hc⟩ := xUs hV hS
 have hx := xUr hV
 have hlen : (xBI (xBm D) D.next.length).length = m := by rw [xCx,hm]
 have pl : ∀ s,s < D.next.length → plc (xBI (xBm D) D.next.length) ((xAO (xBm D)).getD s 0) = c.getD s 0 := fun s hs => by
  rw [xAG,xRm (by have := hx.le s hs; omega) (hx.id s hs),hc s hs]
 have fb : ∀ l,l < m → 0 ≤ (xBI (xBm D) D.next.length).getD l 0 ∧ (xBI (xBm D) D.next.length).getD l 0 < D.next.length := fun l hl => by
  obtain ⟨a,h1,h2,_⟩ := xGO (xAl (a := (0 : Int)) (show l < (xBI (xBm D) D.next.length).length by omega))
  omega
 have same : ∀ l,l < m → c.getD ((xBI (xBm D) D.next.length).getD l 0).toNat 0 = c.getD (F.getD l 0).toNat 0 := fun l hl => by
  obtain ⟨a,h1,h2,h3⟩ := xGO (xAl (a := (0 : Int)) (show l < (xBI (xBm D) D.next.length).length by omega))
  rw [hF l hl,h1,Int.toNat_natCast,hc a h2,h3]
  obtain ⟨_,q⟩ := xJm (xRl (c := xBm D) D.next.length h2 h3)
  have e1 : (xBI (xBm D) D.next.length)[l]? = some ((a : Nat) : Int) := by
   rw [← h1,List.getD_eq_getElem?_getD,List.getElem?_eq_getElem (by omega)]; rfl
  rw [Nat.sub_zero] at q
  have hnd : (xBI (xBm D) D.next.length).Nodup := by
   unfold xBI xAO
   exact List.Pairwise.map _ (fun a b (h : a ≠ b) (e : (a : Int) = (b : Int)) => h (by omega)) ((List.nodup_range).filter _)
  have := (List.getElem?_inj (by omega) hnd).1 (e1.trans q.symm)
  rw [this]
 unfold quR yBP
 rw [hlen,pl _ (by have := hV.e0; have := hV.en; omega)]
 congr 1
 ·refine xJe _ (Nat.le_refl _) fun l r x hl hr hx => ?_
  have bl := fb l hl
  have br := fb r hr
  have fl := hO.fb l hl
  have fr := hO.fb r hr
  have hb := xFT hV (x := x) bl br hx
  rw [pl _ (by omega)]
  unfold yHq
  have e1 := hS.cong.l ((xBI (xBm D) D.next.length).getD l 0).toNat (F.getD l 0).toNat ((xBI (xBm D) D.next.length).getD r 0).toNat x (by omega) (by omega) (by omega) hx (same l hl)
  have e2 := hS.cong.r ((xBI (xBm D) D.next.length).getD r 0).toNat (F.getD r 0).toNat (F.getD l 0).toNat x (by omega) (by omega) (by omega) hx (same r hr)
  unfold nt at e1 e2
  rw [Int.toNat_of_nonneg bl.1,Int.toNat_of_nonneg br.1,Int.toNat_of_nonneg fl.1] at e1
  rw [Int.toNat_of_nonneg fl.1,Int.toNat_of_nonneg br.1,Int.toNat_of_nonneg fr.1] at e2
  exact e1.trans e2
 ·refine xVr fun l hl => ?_
  have bl := fb l hl
  have fl := hO.fb l hl
  exact hS.cong.fin _ _ (by omega) (by omega) (same l hl)
theorem rt_dat' (l : List (List Int)) : (l.map rowT).all xAX = true := by simp [rowT,xAX]
theorem rd_dat' (l : List (List (List Int))) : (l.map rowsD).all xAX = true := by simp [rowsD,xAX]
theorem bl_dat' (l : List Bool) : (bools l).all xAX = true := by simp [bools,xAX]
theorem xUu {z : Bool} {l : List Int} {q : Int} {s4 : AV} (hl : l.length < 1099511627776) : ∀ d i,i + d = l.length →
  L.loop xN0 yAq ⟨xJV (iw z l) (.int .i64 q) s4 (.int .i64 (i : Nat)),[]⟩ =
   some (match xD8 q (l.drop i) i with
    | some j => (.ret,⟨xJV (iw z l) (.int .i64 q) (.int .i64 (j : Nat)) (.int .i64 (j : Nat)),[]⟩)
    | none => (.exit 0,⟨xJV (iw z l) (.int .i64 q) s4 (.int .i64 (l.length : Nat)),[]⟩))
 | 0,i,h => by
  obtain rfl : i = l.length := by omega
  rw [List.drop_length]
  simp only [xD8]
  rw [xSl]
  simp (maxSteps := 30000000) (disch := first | assumption | omega | (simp only [WL,AV.isCell,xAa] <;> omega) | rfl | decide) only [xJU,WB,↓reduceIte,xJW]
 | d + 1,i,h => by
  have hlt : (i : Int) < (l.length : Nat) := by omega
  have ih := xUu (z := z) (q := q) (s4 := s4) hl d (i + 1) (by omega)
  rw [xDM (by omega : i < l.length)]
  by_cases c : q = l.getD i 0
  ·have e : xD8 q (l.getD i 0 :: l.drop (i + 1)) i = some i := if_pos c
   rw [e]
   simp only []
   have c' : l.getD i 0 = q := c.symm
   rw [xSl]
   simp (maxSteps := 30000000) (disch := first | assumption | omega | (simp only [WL,AV.isCell,xAa] <;> omega) | rfl | decide) only [xJU,WB,hlt,↓reduceIte,W2,c',xJW]
  ·have e : xD8 q (l.getD i 0 :: l.drop (i + 1)) i = xD8 q (l.drop (i + 1)) (i + 1) := if_neg c
   rw [e]
   have c' : ¬ l.getD i 0 = q := fun h => c h.symm
   cases hi : xD8 q (l.drop (i + 1)) (i + 1) with
   | none =>
    rw [hi] at ih
    simp only [] at ih ⊢
    rw [xSl]
    simp (maxSteps := 30000000) (disch := first | assumption | omega | (simp only [WL,AV.isCell,xAa] <;> omega) | rfl | decide) only [xJU,WB,hlt,↓reduceIte,W2,c',xJW,ih]
   | some j =>
    rw [hi] at ih
    simp only [] at ih ⊢
    rw [xSl]
    simp (maxSteps := 30000000) (disch := first | assumption | omega | (simp only [WL,AV.isCell,xAa] <;> omega) | rfl | decide) only [xJU,WB,hlt,↓reduceIte,W2,c',xJW,ih]
theorem xMB (z : Bool) (l : List Int) (q : Int) (hl : l.length < 1099511627776) : L.pcall 65 [iw z l,.int .i64 q] = some (.int .i64 (plc l q)) := by
 have h := xUu (z := z) (q := q) (s4 := .int .i64 0) hl l.length 0 (by omega)
 rw [List.drop_zero] at h
 simp only [Int.natCast_zero] at h
 unfold plc
 rw [yJF,a65,xAf]
 cases hi : xD8 q l 0 with
 | none =>
  rw [hi] at h
  simp only [] at h ⊢
  simp (maxSteps := 30000000) (disch := first | assumption | omega | (simp only [WL,AV.isCell,xAa] <;> omega) | rfl | decide) only [Int.reduceNeg,WB,Nat.reduceAdd,Nat.reduceSub,xJW,h,↓reduceIte]
 | some j =>
  rw [hi] at h
  simp only [] at h ⊢
  simp (maxSteps := 30000000) (disch := first | assumption | omega | (simp only [WL,AV.isCell,xAa] <;> omega) | rfl | decide) only [Int.reduceNeg,WB,Nat.reduceAdd,Nat.reduceSub,xJW,h]
section
variable {D : Da}
theorem xFp (n : Nat) : (xJu n).length = n := by simp [xJu,xAO]
theorem xY7 (n : Nat) : xJu (n + 1) = xJu n ++ [((n : Nat) : Int)] := by simp [xJu,xAO,List.range_succ]
theorem yBH (hV : Va D) : ∀ e i G v,i + e = D.next.length → G[0]? = some (.cells false false D.cells) → 1 ≤ G.length → Lst 1 G v (ints (xJu i)) →
  ∃ v' G',L.loop xNz yAg ⟨xNA (.ptr 0 0) v (.int .i64 (i : Nat)),G⟩ = some (.exit 0,⟨xNA (.ptr 0 0) v' (.int .i64 (D.next.length : Nat)),G'⟩) ∧ Lst 1 G' v' (ints (xJu D.next.length)) := by
 have n64 := hV.n64
 intro e
 induction e with
 | zero =>
  intro i G v h h0 hG hv
  obtain rfl : i = D.next.length := by omega
  refine ⟨v,G,?_,hv⟩
  unfold Da.cells at h0
  rw [yCj]
  simp (maxSteps := 30000000) (disch := first | assumption | omega | (simp only [WL,AV.isCell,xAa] <;> omega) | rfl | decide) only [xR5,WB,h0,↓reduceIte,xV4]
 | succ e ih =>
  intro i G v h h0 hG hv
  have hlt : (i : Int) < (D.next.length : Nat) := by omega
  obtain ⟨v1,G1,p1,p2,p3⟩ := hv.push (.int .i64 (i : Nat)) (bytes := 8) (by rw [xAk,xFp]; omega) (by rw [xAk,xFp]; omega) hG
  have e2 : ints (xJu i) ++ [AV.int .i64 (i : Nat)] = ints (xJu (i + 1)) := by rw [xY7]; simp [ints]
  rw [e2] at p2
  obtain ⟨v',G',q1,q2⟩ := ih (i + 1) G1 v1 (by omega) (p3.get (by omega) h0) (by have := p3.1; omega) p2
  refine ⟨v',G',?_,q2⟩
  unfold Da.cells at h0
  rw [yCj]
  simp (maxSteps := 30000000) (disch := first | assumption | omega | (simp only [WL,AV.isCell,xAa] <;> omega) | rfl | decide) only [xR5,WB,h0,hlt,↓reduceIte,AV.cells,AV.isCell,p1,xV4,q1]
theorem yE9 (hV : Va D) : L.pcall 59 [D.av] = some (iw false (xJu D.next.length)) := by
 have n0 := hV.n0
 obtain ⟨v',G',q1,q2⟩ := yBH hV D.next.length 0 [.cells false false D.cells] (.sl true 0 []) (by omega) rfl (by simp) (Lst.nil _ _)
 obtain ⟨f1,_⟩ := q2.data (xC1 _)
 have hz : ((ints (xJu D.next.length)).length == 0) = false := by rw [xAk,xFp,beq_eq_false_iff_ne]; omega
 rw [hz,xAk] at f1
 simp only [Int.natCast_zero] at q1
 have hne : ints (xJu D.next.length) ≠ [] := by intro e; have := congrArg List.length e; rw [xAk,xFp,List.length_nil] at this; omega
 obtain ⟨id,n,rfl⟩ := q2.own hne
 have f2 := fun d => q2.dat (xC1 _) d
 rw [hz,xAk] at f2
 unfold Da.av
 unfold Da.cells at q1 ⊢
 rw [yJy,a59,xAf]
 simp (maxSteps := 30000000) (disch := first | assumption | omega | (simp only [WL,AV.isCell,xAa] <;> omega) | rfl | decide) only [WB,Nat.reduceSub,AV.cells,AV.isCell,↓reduceIte,xV4,q1,f1]
 all_goals simp [frzN,f2]
end
def qnx (D : Da) (o c : List Int) (l r x : Nat) : Int := plc o (c.getD (nx D (o.getD l 0) (o.getD r 0) x).toNat 0)
def qfi (D : Da) (o : List Int) (l : Nat) : Bool := D.fin.getD (o.getD l 0).toNat false
theorem yGY (D : Da) (o c : List Int) : quR D o c = ⟨D.vars,plc o (c.getD D.empty.toNat 0),xBB D.vars (qnx D o c) o.length o.length,xD6 (qfi D o) o.length⟩ := rfl
structure QOk (D : Da) (o c : List Int) : Prop where
 ob : ∀ s ∈ o,0 ≤ s ∧ s < D.next.length
 ol : o.length ≤ 64
 o0 : 0 < o.length
 cl : c.length = D.next.length
section
variable {D : Da} {o c : List Int} {zo zc : Bool} {B l : Nat} {s6 s7 s9 : AV}
set_option maxRecDepth 10000 in
set_option maxHeartbeats 2000000 in
theorem yJ1 (hV : Va D) (hO : QOk D o c) {r : Nat} (hl : l < o.length) (hr : r < o.length) (h0B : 0 < B) : ∀ e x G v,x + e = two D.vars → G[0]? = some (.cells false false D.cells) → B ≤ G.length → Lst B G v (ints (rvL (qnx D o c) l r x)) →
  ∃ v' G',L.loop xNo yAb ⟨xNp (iw zo o) (iw zc c) (.ptr 0 0) s6 s7 (.int .i64 (l : Nat)) s9 (.int .i64 (r : Nat)) v (.int .i64 (x : Nat)),G⟩ =
   some (.exit 4,⟨xNp (iw zo o) (iw zc c) (.ptr 0 0) s6 s7 (.int .i64 (l : Nat)) s9 (.int .i64 (r : Nat)) v' (.int .i64 (two D.vars : Nat)),G'⟩) ∧ Lst B G' v' (ints (rvL (qnx D o c) l r (two D.vars))) ∧ Kp B G G' := by
 have n64 := hV.n64
 have h8 := (xAV hV.v3).1
 have hsh := xBU hV.v0 hV.v3
 have hv0 : ¬ D.vars < 0 := by have := hV.v0; omega
 have ol := hO.ol
 have hcl := hO.cl
 have sl := hO.ob _ (xAl (a := (0 : Int)) hl)
 have sr := hO.ob _ (xAl (a := (0 : Int)) hr)
 have g1 : List.take 1 (List.drop l (ints o)) = [.int .i64 (o.getD l 0)] := xAr _ _ hl
 have g2 : List.take 1 (List.drop r (ints o)) = [.int .i64 (o.getD r 0)] := xAr _ _ hr
 intro e
 induction e with
 | zero =>
  intro x G v h h0 hG hv
  obtain rfl : x = two D.vars := by omega
  refine ⟨v,G,?_,hv,Kp.refl _ _⟩
  unfold Da.cells at h0
  rw [yCe]
  simp (maxSteps := 30000000) (disch := first | assumption | omega | (simp only [WL,AV.isCell,xAa] <;> omega) | rfl | decide) only [xRZ,WB,h0,hsh,↓reduceIte,xVW]
 | succ e ih =>
  intro x G v h h0 hG hv
  have hlt : (x : Int) < (two D.vars : Nat) := by omega
  have hs := xUE (qnx D o c) l r x
  have hln := xCN (qnx D o c) l r x
  have hnb := xFT hV (x := x) sl sr (by omega)
  have hpl := xMB zo o (c.getD (nx D (o.getD l 0) (o.getD r 0) x).toNat 0) (by omega)
  have hq : qnx D o c l r x = plc o (c.getD (nx D (o.getD l 0) (o.getD r 0) x).toNat 0) := rfl
  obtain ⟨v1,G1,p1,p2,p3⟩ := hv.push (.int .i64 (qnx D o c l r x)) (bytes := 8) (by rw [xAk,hln]; omega) (by rw [xAk,hln]; omega) hG
  have e2 : ints (rvL (qnx D o c) l r x) ++ [AV.int .i64 (qnx D o c l r x)] = ints (rvL (qnx D o c) l r (x + 1)) := by rw [hs]; simp [ints]
  rw [e2] at p2
  obtain ⟨v',G',q1,q2,q3⟩ := ih (x + 1) G1 v1 (by omega) (p3.get h0B h0) (by have := p3.1; omega) p2
  refine ⟨v',G',?_,q2,p3.trans q3⟩
  rw [hq] at p1
  generalize hA : o.getD l 0 = A at *
  generalize hC : o.getD r 0 = C at *
  have m1 := xAl (a := ([] : List (List Int))) (show A.toNat < D.next.length by omega)
  have m2 := hV.rl _ m1
  have m3 := xAl (a := ([] : List Int)) (show C.toNat < (D.next.getD A.toNat []).length by omega)
  have m4 := hV.cl _ m1 _ m3
  have gx : List.take 1 (List.drop x (ints ((D.next.getD A.toNat []).getD C.toNat []))) = [.int .i64 (((D.next.getD A.toNat []).getD C.toNat []).getD x 0)] := xAr _ _ (by omega)
  have hnx : nx D A C x = ((D.next.getD A.toNat []).getD C.toNat []).getD x 0 := rfl
  rw [hnx] at hnb hpl p1
  generalize hS : ((D.next.getD A.toNat []).getD C.toNat []).getD x 0 = S at *
  have gc : List.take 1 (List.drop S.toNat (ints c)) = [.int .i64 (c.getD S.toNat 0)] := xAr _ _ (by omega)
  generalize plc o (c.getD S.toNat 0) = P at *
  unfold Da.cells at h0
  rw [yCe]
  simp (maxSteps := 30000000) (disch := first | assumption | omega | (simp only [WL,AV.isCell,xAa] <;> omega) | rfl | decide) only [xRZ,WB,h0,hsh,hlt,↓reduceIte,W2,hA,xA2,rowsD,m2,hC,xBy,rowT,m4,xAj,hS,hpl,xA0,xAx,AV.cells,AV.isCell,p1,xVW,q1]
def xJv (D : Da) (o c : List Int) (l r : Nat) : List (List Int) := (List.range r).map fun r => rvL (qnx D o c) l r (two D.vars)
theorem xQu (D : Da) (o c : List Int) (l r : Nat) : (xJv D o c l r).length = r := by simp [xJv]
theorem xVs (D : Da) (o c : List Int) (l r : Nat) : xJv D o c l (r + 1) = xJv D o c l r ++ [rvL (qnx D o c) l r (two D.vars)] := by
 unfold xJv; rw [List.range_succ,List.map_append]; rfl
theorem xY8 (D : Da) (o c : List Int) (l : Nat) : xJv D o c l o.length = xCL D.vars (qnx D o c) o.length l := rfl
set_option maxRecDepth 10000 in
set_option maxHeartbeats 2000000 in
theorem yJ2 (hV : Va D) (hO : QOk D o c) (hl : l < o.length) (h0B : 0 < B) : ∀ e r G v,r + e = o.length → G[0]? = some (.cells false false D.cells) → B ≤ G.length → Lst B G v ((xJv D o c l r).map rowT) →
  ∃ v' G',L.loop xNq yAc ⟨xNr (iw zo o) (iw zc c) (.ptr 0 0) s6 s7 (.int .i64 (l : Nat)) v (.int .i64 (r : Nat)),G⟩ =
   some (.exit 2,⟨xNr (iw zo o) (iw zc c) (.ptr 0 0) s6 s7 (.int .i64 (l : Nat)) v' (.int .i64 (o.length : Nat)),G'⟩) ∧ Lst B G' v' ((xJv D o c l o.length).map rowT) ∧ Kp B G G' := by
 have h8 := xAV hV.v3
 have ol := hO.ol
 intro e
 induction e with
 | zero =>
  intro r G v h h0 hG hv
  obtain rfl : r = o.length := by omega
  refine ⟨v,G,?_,hv,Kp.refl _ _⟩
  rw [yCf]
  simp (maxSteps := 30000000) (disch := first | assumption | omega | (simp only [WL,AV.isCell,xAa] <;> omega) | rfl | decide) only [xR0,WB,↓reduceIte,xVX]
 | succ e ih =>
  intro r G v h h0 hG hv
  have hlt : (r : Int) < (o.length : Nat) := by omega
  obtain ⟨v1,G1,q1,q2,q3⟩ := yJ1 (zo := zo) (zc := zc) (s6 := s6) (s7 := s7) (s9 := v) (B := G.length) (r := r) hV hO hl (by omega) (by omega) (two D.vars) 0 G (.sl true 0 []) (by omega) h0 (Nat.le_refl _) (Lst.nil _ _)
  obtain ⟨f1,G2,f2,f3⟩ := q2.data (xC1 _)
  have hz : ((ints (rvL (qnx D o c) l r (two D.vars))).length == 0) = false := by rw [xAk,xCN,beq_eq_false_iff_ne]; omega
  have hlen : (ints (rvL (qnx D o c) l r (two D.vars))).length = two D.vars := by rw [xAk,xCN]
  rw [hz,hlen] at f1
  have k2 : Kp G.length G G2 := q3.trans f3
  obtain ⟨v2,G3,p1,p2,p3⟩ := (hv.keep k2 (Nat.le_refl _)).push (rowT (rvL (qnx D o c) l r (two D.vars))) (bytes := 24) (by rw [List.length_map,xQu]; omega) (by rw [List.length_map,xQu]; omega) (by have := k2.1; omega)
  have e2 : (xJv D o c l r).map rowT ++ [rowT (rvL (qnx D o c) l r (two D.vars))] = (xJv D o c l (r + 1)).map rowT := by rw [xVs,List.map_append]; rfl
  rw [e2] at p2
  have k3 := (k2.low hG).trans p3
  obtain ⟨v',G',r1,r2,r3⟩ := ih (r + 1) G3 v2 (by omega) (k3.get h0B h0) (by have := k3.1; omega) p2
  refine ⟨v',G',?_,r2,k3.trans r3⟩
  unfold rowT at p1
  rw [xCN] at p1
  simp only [Int.natCast_zero] at q1
  rw [yCf]
  simp (maxSteps := 30000000) (disch := first | assumption | omega | (simp only [WL,AV.isCell,xAa] <;> omega) | rfl | decide) only [xR0,WB,hlt,↓reduceIte,xVW,q1,f1,f2,AV.cells,AV.isCell,p1,xVX,r1]
end
def QtD (D : Da) (o c : List Int) (q l : Nat) (G : xAc) : Prop := ∃ vN vF,G[q]? = some (.cells false false [.int .i64 D.vars,.int .i64 (plc o (c.getD D.empty.toNat 0)),vN,vF]) ∧ Lst (q + 1) G vN ((xBB D.vars (qnx D o c) o.length l).map rowsD) ∧ Lst (q + 1) G vF (bools (xD6 (qfi D o) l)) ∧ ∀ b,At vN b → ¬ At vF b
section
variable {D : Da} {o c : List Int} {zo zc : Bool} {q : Nat} {s6 : AV}
set_option maxRecDepth 10000 in
set_option maxHeartbeats 4000000 in
theorem yJ3 (hV : Va D) (hO : QOk D o c) (h0q : 0 < q) : ∀ e l G,l + e = o.length → G[0]? = some (.cells false false D.cells) → q + 1 ≤ G.length → QtD D o c q l G →
  ∃ G',L.loop xNs yAd ⟨xNt (iw zo o) (iw zc c) (.ptr 0 0) s6 (.ptr q 0) (.int .i64 (l : Nat)),G⟩ =
   some (.exit 0,⟨xNt (iw zo o) (iw zc c) (.ptr 0 0) s6 (.ptr q 0) (.int .i64 (o.length : Nat)),G'⟩) ∧ QtD D o c q o.length G' ∧ Kp q G G' := by
 have h8 := xAV hV.v3
 have hol := hO.ol
 have fl := hV.fl
 intro e
 induction e with
 | zero =>
  intro l G h h0 hG hv
  obtain rfl : l = o.length := by omega
  refine ⟨G,?_,hv,Kp.refl _ _⟩
  rw [yCg]
  simp (maxSteps := 30000000) (disch := first | assumption | omega | (simp only [WL,AV.isCell,xAa] <;> omega) | rfl | decide) only [xR1,WB,↓reduceIte,xVY]
 | succ e ih =>
  intro l G h h0 hG hv
  have hlt : (l : Int) < (o.length : Nat) := by omega
  have hl : l < o.length := by omega
  obtain ⟨vN,vF,hb,hN,hF,hNF⟩ := hv
  obtain ⟨v1,G1,q1,q2,q3⟩ := yJ2 (zo := zo) (zc := zc) (s6 := s6) (s7 := .ptr q 0) (B := G.length) (l := l) hV hO hl (by omega) o.length 0 G (.sl true 0 []) (by omega) h0 (Nat.le_refl _) (Lst.nil _ _)
  rw [xY8] at q2
  obtain ⟨f1,G2,f2,f3⟩ := q2.data (rt_dat' _)
  have hlen : ((xCL D.vars (qnx D o c) o.length l).map rowT).length = o.length := by rw [List.length_map,xB7]
  have hz : (((xCL D.vars (qnx D o c) o.length l).map rowT).length == 0) = false := by rw [hlen,beq_eq_false_iff_ne]; omega
  rw [hz,hlen] at f1
  have k2 : Kp G.length G G2 := q3.trans f3
  have hl2 := k2.1
  have hN2 := hN.keep k2 (Nat.le_refl _)
  have hF2 := hF.keep k2 (Nat.le_refl _)
  obtain ⟨_,G3,p1,p2,p3,p4,p5,i2,m2,rfl⟩ := hN2.push2 (rowsD (xCL D.vars (qnx D o c) o.length l)) (bytes := 24) (by rw [List.length_map,xAE]; omega) (by rw [List.length_map,xAE]; omega) (by omega)
  have e2 : (xBB D.vars (qnx D o c) o.length l).map rowsD ++ [rowsD (xCL D.vars (qnx D o c) o.length l)] = (xBB D.vars (qnx D o c) o.length (l + 1)).map rowsD := by rw [xLJ,List.map_append]; rfl
  rw [e2] at p2
  have hl3 := p3.1
  have hF3 : Lst (q + 1) G3 vF (bools (xD6 (qfi D o) l)) := hF2.other fun b hb' => p4 b (hF2.inb hb').1 fun r => hNF b r hb'
  obtain ⟨X,hX⟩ : ∃ X,X = Blk.cells false false [.int .i64 D.vars,.int .i64 (plc o (c.getD D.empty.toNat 0)),(.own false i2 0 m2 1),vF] := ⟨_,rfl⟩
  have b3 : G3[q]? = some (.cells false false [.int .i64 D.vars,.int .i64 (plc o (c.getD D.empty.toNat 0)),vN,vF]) := (p3.2 q (by omega)).trans ((k2.2 q (by omega)).trans hb)
  have b4 : (G3.set q X)[q]? = some X := List.getElem?_set_self (by omega)
  have hF4 : Lst (q + 1) (G3.set q X) vF (bools (xD6 (qfi D o) l)) := hF3.other fun b hb' => List.getElem?_set_ne (by have := (hF3.inb hb').2; omega)
  have hN4 : Lst (q + 1) (G3.set q X) (.own false i2 0 m2 1) ((xBB D.vars (qnx D o c) o.length (l + 1)).map rowsD) := p2.other fun b hb' => List.getElem?_set_ne (by have := (p2.inb hb').2; omega)
  obtain ⟨_,G5,r1,r2,r3,r4,r5,i3,m3,rfl⟩ := hF4.push2 (.bool (qfi D o l)) (bytes := 1) (by rw [xAa,xBh]; omega) (by rw [xAa,xBh]; omega) (by rw [List.length_set]; omega)
  have e3 : bools (xD6 (qfi D o) l) ++ [.bool (qfi D o l)] = bools (xD6 (qfi D o) (l + 1)) := by rw [xQx]; simp [bools]
  rw [e3] at r2
  have hl5 := r3.1
  rw [List.length_set] at hl5
  have b5 : G5[q]? = some X := (r3.2 q (by omega)).trans b4
  have hN5 : Lst (q + 1) G5 (.own false i2 0 m2 1) ((xBB D.vars (qnx D o c) o.length (l + 1)).map rowsD) := hN4.other fun b hb' => r4 b (hN4.inb hb').1 fun r => by
   have h1 := (hF3.inb r).1
   have h2 := p5 b hb'
   have h3 := (hF2.inb r).1
   omega
  obtain ⟨Y,hY⟩ : ∃ Y,Y = Blk.cells false false [.int .i64 D.vars,.int .i64 (plc o (c.getD D.empty.toNat 0)),(.own false i2 0 m2 1),(.own false i3 0 m3 1)] := ⟨_,rfl⟩
  have b6 : (G5.set q Y)[q]? = some Y := List.getElem?_set_self (by omega)
  have hN6 : Lst (q + 1) (G5.set q Y) (.own false i2 0 m2 1) ((xBB D.vars (qnx D o c) o.length (l + 1)).map rowsD) := hN5.other fun b hb' => List.getElem?_set_ne (by have := (hN5.inb hb').2; omega)
  have hF6 : Lst (q + 1) (G5.set q Y) (.own false i3 0 m3 1) (bools (xD6 (qfi D o) (l + 1))) := r2.other fun b hb' => List.getElem?_set_ne (by have := (r2.inb hb').2; omega)
  have kk : Kp q G (G5.set q Y) := ⟨by rw [List.length_set]; omega,fun b hb' => by
   rw [List.getElem?_set_ne (by omega),r3.2 b (by omega),List.getElem?_set_ne (by omega),p3.2 b (by omega),k2.2 b (by omega)]⟩
  obtain ⟨G',j1,j2,j3⟩ := ih (l + 1) (G5.set q Y) (by omega) (kk.get h0q h0) (by rw [List.length_set]; omega) ⟨_,_,by rw [b6,hY],hN6,hF6,fun b hb' r => by
   have h2 := p5 b hb'
   have h3 := r5 b r
   rw [List.length_set] at h3
   have := (p2.inb hb').1
   omega⟩
  refine ⟨G',?_,j2,kk.trans j3⟩
  have g0 : ∀ X : Blk,(G3.set q X)[0]? = some (.cells false false D.cells) := fun X => by rw [List.getElem?_set_ne (by omega),p3.2 0 (by omega),k2.2 0 (by omega),h0]
  have sl := hO.ob _ (xAl (a := (0 : Int)) hl)
  have g1 : List.take 1 (List.drop l (ints o)) = [.int .i64 (o.getD l 0)] := xAr _ _ hl
  have hqf : qfi D o l = D.fin.getD (o.getD l 0).toNat false := rfl
  generalize hA : o.getD l 0 = A at *
  have gf : List.take 1 (List.drop A.toNat (bools D.fin)) = [.bool (D.fin.getD A.toNat false)] := xAr _ _ (by omega)
  have b2 : G2[q]? = some (.cells false false [.int .i64 D.vars,.int .i64 (plc o (c.getD D.empty.toNat 0)),vN,vF]) := (k2.2 q (by omega)).trans hb
  have e4 : rowsD (xCL D.vars (qnx D o c) o.length l) = .sl false o.length ((xCL D.vars (qnx D o c) o.length l).map rowT) := by unfold rowsD; rw [xB7]
  rw [e4] at p1
  rw [hX] at b4 r1 b5
  rw [hY] at j1
  simp only [Int.natCast_zero] at q1
  rw [← hqf] at gf
  generalize qfi D o l = df at *
  generalize (xCL D.vars (qnx D o c) o.length l).map rowT = RR at *
  generalize plc o (c.getD D.empty.toNat 0) = P at *
  unfold Da.cells at g0
  rw [yCg]
  simp (maxSteps := 30000000) (disch := first | assumption | omega | (simp only [WL,AV.isCell,xAa] <;> omega) | rfl | decide) only [xR1,WB,hlt,↓reduceIte,xVX,q1,f1,f2,b2,AV.cells,AV.isCell,p1,b3,Nat.reduceAdd,b4,g0,fl,xAj,W2,hA,gf,r1,b5,xVY,j1]
theorem xLG (hV : Va D) (hO : QOk D o c) : L.pcall 57 [D.av,iw zo o,iw zc c] = some (quR D o c).av := by
 have e0 := hV.e0
 have en := hV.en
 have hol := hO.ol
 have ho0 := hO.o0
 have hcl := hO.cl
 have hpl := xMB zo o (c.getD D.empty.toNat 0) (by omega)
 have gc : List.take 1 (List.drop D.empty.toNat (ints c)) = [.int .i64 (c.getD D.empty.toNat 0)] := xAr _ _ (by omega)
 have hst : QtD D o c 2 0 [.cells false false D.cells,.cells false false [.int .i64 0,.int .i64 0,.sl true 0 [],.sl true 0 []],.cells false false [.int .i64 D.vars,.int .i64 (plc o (c.getD D.empty.toNat 0)),.sl true 0 [],.sl true 0 []]] :=
  ⟨_,_,rfl,Lst.nil _ _,Lst.nil _ _,fun b h => by obtain ⟨_,_,_,_,e⟩ := h; cases e⟩
 obtain ⟨G',q1,⟨vN,vF,b1,b2,b3,b4⟩,q3⟩ := yJ3 (zo := zo) (zc := zc) (s6 := .ptr 1 0) hV hO (q := 2) (by omega) o.length 0 _ (by omega) rfl (by simp) hst
 have hn : (xBB D.vars (qnx D o c) o.length o.length).map rowsD ≠ [] := by intro e; have := congrArg List.length e; rw [List.length_map,xAE,List.length_nil] at this; omega
 have hf : bools (xD6 (qfi D o) o.length) ≠ [] := by intro e; have := congrArg List.length e; rw [xAa,xBh,List.length_nil] at this; omega
 obtain ⟨iN,nN,rfl⟩ := b2.own hn
 obtain ⟨iF,nF,rfl⟩ := b3.own hf
 have zN : (((xBB D.vars (qnx D o c) o.length o.length).map rowsD).length == 0) = false := by rw [List.length_map,xAE,beq_eq_false_iff_ne]; omega
 have zF : ((bools (xD6 (qfi D o) o.length)).length == 0) = false := by rw [xAa,xBh,beq_eq_false_iff_ne]; omega
 have kN := b2.inb (b := iN) ⟨_,_,_,_,rfl⟩
 have kF := b3.inb (b := iF) ⟨_,_,_,_,rfl⟩
 have c1 : G'[1]? = some (.cells false false [.int .i64 0,.int .i64 0,.sl true 0 [],.sl true 0 []]) := (q3.2 1 (by omega)).trans rfl
 obtain ⟨X,hX⟩ : ∃ X,X = Blk.cells false false [.int .i64 D.vars,.int .i64 (plc o (c.getD D.empty.toNat 0)),.own false iN 0 nN 1,.own false iF 0 nF 1] := ⟨_,rfl⟩
 have s1 : (G'.set 1 X)[1]? = some X := List.getElem?_set_self (by omega)
 have fN := (b2.other (H' := G'.set 1 X) fun b hb' => List.getElem?_set_ne (by have := (b2.inb hb').2; omega)).dat (rd_dat' _) 4
 have fF := (b3.other (H' := G'.set 1 X) fun b hb' => List.getElem?_set_ne (by have := (b3.inb hb').2; omega)).dat (bl_dat' _) 4
 rw [zN,List.length_map,xAE] at fN
 rw [zF,xAa,xBh] at fF
 have hbod : xA3 L a57 [D.av,iw zo o,iw zc c] [] = some (.agg [.int .i64 D.vars,.int .i64 (plc o (c.getD D.empty.toNat 0)),.own false iN 0 nN 1,.own false iF 0 nF 1],G'.set 1 X) := by
  unfold Da.av
  unfold Da.cells at q1 ⊢
  simp only [Int.natCast_zero] at q1
  clear fN fF
  rw [hX] at s1 ⊢
  generalize plc o (c.getD D.empty.toNat 0) = P at *
  rw [a57]
  simp (maxSteps := 30000000) (disch := first | assumption | omega | (simp only [WL,AV.isCell,xAa] <;> omega) | rfl | decide) only [WB,Nat.reduceAdd,Nat.reduceSub,AV.cells,AV.isCell,↓reduceIte,W2,hpl,xA0,xAx,Nat.reduceLeDiff,xAj,xVY,q1,b1,c1,s1]
 rw [yGY]
 unfold Da.av Da.cells
 simp only [xAE,xBh]
 rw [yJw]
 refine xD1 hbod ?_
 show frz 6 _ _ = _
 simp only [List.mapM_cons,List.mapM_nil,xCy,xLY,fN,fF,Option.pure_def,Option.bind_eq_bind,Option.bind_some,Option.map_some]
end
structure VsI (D : Da) (o : List Int) (v : AV) (G : xAc) : Prop where
 b0 : G[0]? = some (.cells false false D.cells)
 lst : Lst 1 G v (ints o)
 ok : OrdOk D o
 ne : o ≠ []
section
variable {D : Da}
theorem VsI.own {o : List Int} {v : AV} {G : xAc} (h : VsI D o v G) : ∃ id,v = .own false id 0 o.length 1 ∧ G[id]? = some (.cells false false (ints o)) := by
 rcases h.lst with ⟨e,_⟩ | ⟨id,e,hi,_,_⟩
 ·exact absurd (List.map_eq_nil_iff.1 e) h.ne
 ·exact ⟨id,by rw [e,xAk],hi⟩
theorem VsI.len {o : List Int} {v : AV} {G : xAc} (h : VsI D o v G) : 1 ≤ G.length := by
 have := (List.getElem?_eq_some_iff.1 h.b0).1; omega
set_option maxRecDepth 10000 in
set_option maxHeartbeats 2000000 in
theorem yJe (hV : Va D) {A C X Y : Int} {k j p l r : Nat} (hp : p = 0 ∧ X = A ∧ Y = C ∨ p = 1 ∧ X = C ∧ Y = A) : ∀ e x o v G,x + e = two D.vars → VsI D o v G → l < o.length → r < o.length → o.getD l 0 = X → o.getD r 0 = Y →
  ∃ v' G',L.loop xNu yAe ⟨xNv (.ptr 0 0) v (.int .i64 (k : Nat)) (.int .i64 (j : Nat)) (.sl false 2 [.int .i64 A,.int .i64 C,.int .i64 C,.int .i64 A]) (.int .i64 (p : Nat)) (.int .i64 (x : Nat)),G⟩ =
   some (.exit 6,⟨xNv (.ptr 0 0) v' (.int .i64 (k : Nat)) (.int .i64 (j : Nat)) (.sl false 2 [.int .i64 A,.int .i64 C,.int .i64 C,.int .i64 A]) (.int .i64 (p : Nat)) (.int .i64 (two D.vars : Nat)),G'⟩) ∧
   VsI D (goX nob (xBW D) l r x e o) v' G' := by
 have n64 := hV.n64
 have h8 := (xAV hV.v3).1
 have hsh := xBU hV.v0 hV.v3
 have hv : ¬ D.vars < 0 := by have := hV.v0; omega
 intro e
 induction e with
 | zero =>
  intro x o v G h hI hl hr hX hY
  obtain rfl : x = two D.vars := by omega
  refine ⟨v,G,?_,hI⟩
  have b0 := hI.b0
  unfold Da.cells at b0
  rw [xVZ]
  simp (maxSteps := 30000000) (disch := first | assumption | omega | (simp only [WL,AV.isCell,xAa] <;> omega) | rfl | decide) only [xG6,WB,b0,hsh,↓reduceIte,xG7]
 | succ e ih =>
  intro x o v G h hI hl hr hX hY
  have hlt : (x : Int) < (two D.vars : Nat) := by omega
  have b0 := hI.b0
  have ole := hI.ok.le
  have sl := hI.ok.bd _ (xAl (a := (0 : Int)) hl)
  have sr := hI.ok.bd _ (xAl (a := (0 : Int)) hr)
  rw [hX] at sl
  rw [hY] at sr
  have hnb := xFT hV (x := x) sl sr (by omega)
  have hpl := xMB false o (nx D X Y x) (by omega)
  have hok := hI.ok.step hV hl hr (x := x) (by omega)
  rw [xRu]
  have hord : xBW D o l r x = if nx D X Y x ∈ o then o else o ++ [nx D X Y x] := by unfold xBW; rw [hX,hY]
  rw [hord] at hok ⊢
  have m1 := xAl (a := ([] : List (List Int))) (show X.toNat < D.next.length by omega)
  have m2 := hV.rl _ m1
  have m3 := xAl (a := ([] : List Int)) (show Y.toNat < (D.next.getD X.toNat []).length by omega)
  have m4 := hV.cl _ m1 _ m3
  have gx : List.take 1 (List.drop x (ints ((D.next.getD X.toNat []).getD Y.toNat []))) = [.int .i64 (((D.next.getD X.toNat []).getD Y.toNat []).getD x 0)] := xAr _ _ (by omega)
  have hnx : nx D X Y x = ((D.next.getD X.toNat []).getD Y.toNat []).getD x 0 := rfl
  by_cases hm : nx D X Y x ∈ o
  ·rw [if_pos hm] at hok ⊢
   rw [xY6 hm] at hpl
   obtain ⟨v',G',i1,i2⟩ := ih (x + 1) o v G (by omega) hI hl hr hX hY
   refine ⟨v',G',?_,i2⟩
   obtain ⟨id,rfl,hid⟩ := hI.own
   have hnn : ¬ ((xZQ o (nx D X Y x) : Nat) : Int) < 0 := by omega
   generalize xZQ o (nx D X Y x) = nn at *
   rw [hnx] at hnb hpl
   generalize hS : ((D.next.getD X.toNat []).getD Y.toNat []).getD x 0 = S at *
   have htk : List.take o.length o = o := List.take_of_length_le (Nat.le_refl _)
   unfold Da.cells at b0
   rw [xVZ]
   rcases hp with ⟨rfl,rfl,rfl⟩ | ⟨rfl,rfl,rfl⟩
   ·simp only [Int.natCast_zero] at i1
    simp (maxSteps := 30000000) (disch := first | assumption | omega | (simp only [WL,AV.isCell,xAa] <;> omega) | rfl | decide) only [xG6,WB,b0,hsh,hlt,↓reduceIte,Nat.reduceMul,WA,xA2,rowsD,m2,xBy,rowT,m4,xAj,W2,hS,xAY,hid,htk,hpl,xA0,xAx,hnn,xG7,i1]
   ·simp only [Int.natCast_one] at i1
    simp (maxSteps := 30000000) (disch := first | assumption | omega | (simp only [WL,AV.isCell,xAa] <;> omega) | rfl | decide) only [xG6,WB,b0,hsh,hlt,↓reduceIte,Nat.reduceMul,WA,xA2,rowsD,m2,Nat.reduceAdd,xBy,rowT,m4,xAj,W2,hS,xAY,hid,htk,hpl,xA0,xAx,hnn,xG7,i1]
  ·rw [if_neg hm] at hok ⊢
   have hpn : plc o (nx D X Y x) = -1 := by unfold plc; rw [idxI_none.2 hm]
   rw [hpn] at hpl
   obtain ⟨v1,G1,p1,p2,p3⟩ := hI.lst.push (.int .i64 (nx D X Y x)) (bytes := 8) (by rw [xAk]; omega) (by rw [xAk]; omega) hI.len
   have e2 : ints o ++ [AV.int .i64 (nx D X Y x)] = ints (o ++ [nx D X Y x]) := by simp [ints]
   rw [e2] at p2
   have hI1 : VsI D (o ++ [nx D X Y x]) v1 G1 := ⟨p3.get (by omega) b0,p2,hok,by simp⟩
   obtain ⟨v',G',i1,i2⟩ := ih (x + 1) _ v1 G1 (by omega) hI1 (by simp; omega) (by simp; omega) (by rw [← hX]; exact xCM ⟨_,rfl⟩ hl) (by rw [← hY]; exact xCM ⟨_,rfl⟩ hr)
   refine ⟨v',G',?_,i2⟩
   obtain ⟨id,rfl,hid⟩ := hI.own
   rw [hnx] at hnb hpl p1
   generalize hS : ((D.next.getD X.toNat []).getD Y.toNat []).getD x 0 = S at *
   have htk : List.take o.length o = o := List.take_of_length_le (Nat.le_refl _)
   unfold Da.cells at b0
   rw [xVZ]
   rcases hp with ⟨rfl,rfl,rfl⟩ | ⟨rfl,rfl,rfl⟩
   ·simp only [Int.natCast_zero] at i1
    simp (maxSteps := 30000000) (disch := first | assumption | omega | (simp only [WL,AV.isCell,xAa] <;> omega) | rfl | decide) only [xG6,WB,b0,hsh,hlt,↓reduceIte,Nat.reduceMul,WA,xA2,rowsD,m2,xBy,rowT,m4,xAj,W2,hS,xAY,hid,htk,hpl,Int.reduceNeg,xA0,xAx,Int.reduceLT,AV.cells,AV.isCell,p1,xG7,i1]
   ·simp only [Int.natCast_one] at i1
    simp (maxSteps := 30000000) (disch := first | assumption | omega | (simp only [WL,AV.isCell,xAa] <;> omega) | rfl | decide) only [xG6,WB,b0,hsh,hlt,↓reduceIte,Nat.reduceMul,WA,xA2,rowsD,m2,Nat.reduceAdd,xBy,rowT,m4,xAj,W2,hS,xAY,hid,htk,hpl,Int.reduceNeg,xA0,xAx,Int.reduceLT,AV.cells,AV.isCell,p1,xG7,i1]
end
section
variable {D : Da}
abbrev prI (A C : Int) : AV := .sl false 2 [.int .i64 A,.int .i64 C,.int .i64 C,.int .i64 A]
theorem yGZ {s1 s3 s4 s5 s6 : AV} {G : xAc} : L.loop xG8 xUI ⟨xEL s1 s3 s4 s5 s6 (.int .i64 2),G⟩ = some (.exit 4,⟨xEL s1 s3 s4 s5 s6 (.int .i64 2),G⟩) := by
 rw [xV0]
 simp (maxSteps := 30000000) (disch := first | assumption | omega | (simp only [WL,AV.isCell,xAa] <;> omega) | rfl | decide) only [xNw,WB,↓reduceIte,xR2]
theorem yJ4 (hV : Va D) {j k : Nat} {o : List Int} {v : AV} {G : xAc} (hI : VsI D o v G) (hj : j < o.length) (hk : k < o.length) :
  ∃ v' G',L.loop xG8 xUI ⟨xEL (.ptr 0 0) v (.int .i64 (k : Nat)) (.int .i64 (j : Nat)) (prI (o.getD j 0) (o.getD k 0)) (.int .i64 0),G⟩ =
   some (.exit 4,⟨xEL (.ptr 0 0) v' (.int .i64 (k : Nat)) (.int .i64 (j : Nat)) (prI (o.getD j 0) (o.getD k 0)) (.int .i64 2),G'⟩) ∧
   VsI D (goP nob (xBW D) (two D.vars) j k o) v' G' := by
 obtain ⟨v1,G1,i1,i2⟩ := yJe (A := o.getD j 0) (C := o.getD k 0) (k := k) (j := j) (p := 0) (l := j) (r := k) hV (.inl ⟨rfl,rfl,rfl⟩) (two D.vars) 0 o v G (by omega) hI hj hk rfl rfl
 have hm := xGw (D := D) j k (two D.vars) 0 o
 have hl := xDQ hm
 obtain ⟨v2,G2,r1,r2⟩ := yJe (A := o.getD j 0) (C := o.getD k 0) (k := k) (j := j) (p := 1) (l := k) (r := j) hV (.inr ⟨rfl,rfl,rfl⟩) (two D.vars) 0 _ v1 G1 (by omega) i2 (by omega) (by omega) (xCM hm hk) (xCM hm hj)
 rw [yFf]
 refine ⟨v2,G2,?_,r2⟩
 simp only [Int.natCast_zero,Int.natCast_one] at i1 r1
 have pe := yGZ (s1 := .ptr 0 0) (s3 := v2) (s4 := .int .i64 (k : Nat)) (s5 := .int .i64 (j : Nat)) (s6 := prI (o.getD j 0) (o.getD k 0)) (G := G2)
 generalize o.getD j 0 = A at *
 generalize o.getD k 0 = C at *
 have mid : L.loop xG8 xUI ⟨xEL (.ptr 0 0) v1 (.int .i64 (k : Nat)) (.int .i64 (j : Nat)) (prI A C) (.int .i64 1),G1⟩ = some (.exit 4,⟨xEL (.ptr 0 0) v2 (.int .i64 (k : Nat)) (.int .i64 (j : Nat)) (prI A C) (.int .i64 2),G2⟩) := by
  rw [xV0]
  simp (maxSteps := 30000000) (disch := first | assumption | omega | (simp only [WL,AV.isCell,xAa] <;> omega) | rfl | decide) only [xNw,WB,Int.reduceLT,↓reduceIte,xG7,r1,Int.reduceAdd,xR2,pe]
 rw [xV0]
 simp (maxSteps := 30000000) (disch := first | assumption | omega | (simp only [WL,AV.isCell,xAa] <;> omega) | rfl | decide) only [xNw,WB,Int.reduceLT,↓reduceIte,xG7,i1,xR2,mid]
theorem yJ5 (hV : Va D) {k : Nat} : ∀ e j o v G,j + e = k + 1 → VsI D o v G → k < o.length →
  ∃ v' G',L.loop xNx yAf ⟨xNy (.ptr 0 0) v (.int .i64 (k : Nat)) (.int .i64 (j : Nat)),G⟩ =
   some (.exit 2,⟨xNy (.ptr 0 0) v' (.int .i64 (k : Nat)) (.int .i64 ((k + 1 : Nat) : Int)),G'⟩) ∧
   VsI D (goJ nob (xBW D) (two D.vars) k j e o) v' G' := by
 intro e
 induction e with
 | zero =>
  intro j o v G h hI hk
  obtain rfl : j = k + 1 := by omega
  have c : ¬ (((k + 1 : Nat) : Int) ≤ (k : Nat)) := by omega
  refine ⟨v,G,?_,hI⟩
  rw [yCh]
  simp (maxSteps := 30000000) (disch := first | assumption | omega | (simp only [WL,AV.isCell,xAa] <;> omega) | rfl | decide) only [xR3,WB,c,↓reduceIte,xV1]
 | succ e ih =>
  intro j o v G h hI hk
  have hlt : ((j : Nat) : Int) ≤ (k : Nat) := by omega
  have hj : j < o.length := by omega
  obtain ⟨v1,G1,i1,i2⟩ := yJ4 hV hI hj hk
  have hl := xDQ (xZt (D := D) (two D.vars) j k o)
  rw [xRv]
  obtain ⟨v',G',r1,r2⟩ := ih (j + 1) _ v1 G1 (by omega) i2 (by omega)
  refine ⟨v',G',?_,r2⟩
  have g1 : List.take 1 (List.drop j (ints o)) = [.int .i64 (o.getD j 0)] := xAr _ _ hj
  have g2 : List.take 1 (List.drop k (ints o)) = [.int .i64 (o.getD k 0)] := xAr _ _ hk
  obtain ⟨id,rfl,hid⟩ := hI.own
  have ole := hI.ok.le
  have n64 := hV.n64
  rw [yCh]
  simp (maxSteps := 30000000) (disch := first | assumption | omega | (simp only [WL,AV.isCell,xAa] <;> omega) | rfl | decide) only [xR3,WB,hlt,↓reduceIte,hid,W2,AV.cells,Nat.reduceAdd,Nat.reduceLeDiff,AV.isCell,xAj,Nat.reduceMul,xR2,i1,xV1,r1]
theorem yFa (D : Da) : ∀ e k o,¬ k < o.length → goK List.length nob (xBW D) (two D.vars) k e o = o
 | 0,k,o,_ => rfl
 | e + 1,k,o,h => if_neg h
theorem yBI (D : Da) (e k : Nat) (o : List Int) (h : k < o.length) : goK List.length nob (xBW D) (two D.vars) k (e + 1) o = goK List.length nob (xBW D) (two D.vars) (k + 1) e (goJ nob (xBW D) (two D.vars) k 0 (k + 1) o) := by
 have e1 : goK List.length nob (xBW D) (two D.vars) k (e + 1) o = if k < o.length then goK List.length nob (xBW D) (two D.vars) (k + 1) e (goJ nob (xBW D) (two D.vars) k 0 (k + 1) o) else o := rfl
 rw [e1,if_pos h]
theorem yJ6 (hV : Va D) : ∀ e k o v G,k + e = D.next.length → VsI D o v G →
  ∃ v' G' q,L.loop xJQ xV2 ⟨xG9 (.ptr 0 0) v (.int .i64 (k : Nat)),G⟩ =
   some (.exit 0,⟨xG9 (.ptr 0 0) v' q,G'⟩) ∧
   VsI D (goK List.length nob (xBW D) (two D.vars) k e o) v' G' := by
 have n64 := hV.n64
 have stop : ∀ k o v G,VsI D o v G → ¬ k < o.length → L.loop xJQ xV2 ⟨xG9 (.ptr 0 0) v (.int .i64 (k : Nat)),G⟩ = some (.exit 0,⟨xG9 (.ptr 0 0) v (.int .i64 (k : Nat)),G⟩) := by
  intro k o v G hI c
  obtain ⟨id,rfl,hid⟩ := hI.own
  have c' : ¬ ((k : Nat) : Int) < (o.length : Nat) := by omega
  rw [yCi]
  simp (maxSteps := 30000000) (disch := first | assumption | omega | (simp only [WL,AV.isCell,xAa] <;> omega) | rfl | decide) only [xR4,WB,c',↓reduceIte,xV3]
 intro e
 induction e with
 | zero =>
  intro k o v G h hI
  have := hI.ok.le
  exact ⟨v,G,.int .i64 (k : Nat),stop k o v G hI (by omega),hI⟩
 | succ e ih =>
  intro k o v G h hI
  by_cases c : k < o.length
  ·have hlt : ((k : Nat) : Int) < (o.length : Nat) := by omega
   obtain ⟨v1,G1,i1,i2⟩ := yJ5 hV (k + 1) 0 o v G (by omega) hI c
   simp only [Int.natCast_zero] at i1
   obtain ⟨v',G',q',r1,r2⟩ := ih (k + 1) _ v1 G1 (by omega) i2
   rw [yBI D e k o c]
   obtain ⟨id,rfl,hid⟩ := hI.own
   have ole := hI.ok.le
   refine ⟨v',G',q',?_,r2⟩
   rw [yCi]
   simp (maxSteps := 30000000) (disch := first | assumption | omega | (simp only [WL,AV.isCell,xAa] <;> omega) | rfl | decide) only [xR4,WB,hlt,↓reduceIte,xV1,i1,xV3,r1]
  ·rw [yFa D _ _ _ c]
   exact ⟨v,G,.int .i64 (k : Nat),stop k o v G hI c,hI⟩
theorem xRn (hV : Va D) : L.pcall 58 [D.av] = some (iw false (xCj D)) := by
 have hI : VsI D [D.empty] (.own false 1 0 1 1) [.cells false false D.cells,.cells false false [.int .i64 D.empty]] :=
  ⟨rfl,.inr ⟨1,rfl,rfl,Nat.le_refl _,by simp [ints]⟩,⟨by simp,fun s hs => by rw [List.mem_singleton.1 hs]; exact ⟨hV.e0,hV.en⟩⟩,by simp⟩
 obtain ⟨v',G',q,q1,q2⟩ := yJ6 hV D.next.length 0 _ _ _ (by omega) hI
 have hR : goK List.length nob (xBW D) (two D.vars) 0 D.next.length [D.empty] = xCj D := rfl
 rw [hR] at q2
 have f2 := fun d => q2.lst.dat (xC1 _) d
 obtain ⟨id,rfl,hid⟩ := q2.own
 have ole := q2.ok.le
 have n64 := hV.n64
 have hp := xGQ D
 have hz : ((ints (xCj D)).length == 0) = false := by rw [xAk,beq_eq_false_iff_ne]; omega
 rw [hz,xAk] at f2
 simp only [Int.natCast_zero] at q1
 have hbod : xA3 L a58 [D.av] [] = some (.own false id 0 (xCj D).length 1,G') := by
  unfold Da.av
  unfold Da.cells at q1 ⊢
  clear f2
  rw [a58]
  simp (maxSteps := 30000000) (disch := first | assumption | omega | (simp only [WL,AV.isCell,xAa] <;> omega) | rfl | decide) only [WB,Nat.reduceSub,AV.cells,AV.isCell,↓reduceIte,xV3,q1]
 rw [yJx]
 exact xD1 hbod (f2 5)
end
section
variable {D : Da}
def agX (D : Da) (c : List Int) (s t q x : Nat) : Bool := decide (c.getD (nt D s q x) 0 = c.getD (nt D t q x) 0) && decide (c.getD (nt D q s x) 0 = c.getD (nt D q t x) 0)
def agI (D : Da) (c : List Int) (s t : Nat) : Bool := (List.range' 0 D.next.length).all fun q => (List.range' 0 (two D.vars)).all fun x => agX D c s t q x
theorem yBJ (D : Da) (c : List Nat) (s t : Nat) : agI D (xAO c) s t = yE5 D c s t := by
 unfold agI yE5
 rw [List.range_eq_range']
 congr 1
 funext q
 rw [List.range_eq_range']
 congr 1
 funext x
 unfold agX
 simp only [xAG,Int.natCast_inj]
set_option maxRecDepth 10000 in
set_option maxHeartbeats 4000000 in
theorem yIx {c : List Int} {z : Bool} {H : xAc} (hV : Va D) (hlen : c.length = D.next.length) (h0 : H[0]? = some (.cells false false D.cells)) {s t q : Nat} (hs : s < D.next.length) (ht : t < D.next.length) (hq : q < D.next.length) : ∀ e x,x + e = two D.vars →
  ∃ x' : Nat,L.loop xHm xSt ⟨xHn (iw z c) (.int .i64 (s : Nat)) (.int .i64 (t : Nat)) (.ptr 0 0) (.bool false) (.int .i64 (q : Nat)) (.int .i64 (x : Nat)),H⟩ =
   some (if (List.range' x e).all (fun x => agX D c s t q x) = true then .exit 2 else .ret,⟨xHn (iw z c) (.int .i64 (s : Nat)) (.int .i64 (t : Nat)) (.ptr 0 0) (.bool false) (.int .i64 (q : Nat)) (.int .i64 (x' : Nat)),H⟩) := by
 have n64 := hV.n64
 have h8 := (xAV hV.v3).1
 have v0 := hV.v0
 have hsh := xBU hV.v0 hV.v3
 have hv : ¬ D.vars < 0 := by omega
 unfold Da.cells at h0
 intro e
 induction e with
 | zero =>
  intro x h
  obtain rfl : x = two D.vars := by omega
  refine ⟨two D.vars,?_⟩
  rw [if_pos (by rfl),xLQ]
  simp (maxSteps := 30000000) (disch := first | assumption | omega | (simp only [WL,AV.isCell,xAa] <;> omega) | rfl | decide) only [xFx,WB,h0,hsh,↓reduceIte,xFy]
 | succ e ih =>
  intro x h
  have hlt : (x : Int) < (two D.vars : Nat) := by omega
  obtain ⟨x',ih'⟩ := ih (x + 1) (by omega)
  have hx : x < two D.vars := by omega
  have L2 := fun a (ha : a < D.next.length) => hV.rl _ (xAl (a := ([] : List (List Int))) ha)
  have L3 := fun a b (ha : a < D.next.length) (hb : b < D.next.length) => hV.cl _ (xAl (a := ([] : List (List Int))) ha) _ (xAl (a := ([] : List Int)) (show b < (D.next.getD a []).length by rw [L2 a ha]; exact hb))
  have G := fun a b (ha : a < D.next.length) (hb : b < D.next.length) => (show List.take 1 (List.drop x (ints ((D.next.getD a []).getD b []))) = [.int .i64 (((D.next.getD a []).getD b []).getD x 0)] from xAr _ _ (by rw [L3 a b ha hb]; exact hx))
  have B := fun a b (ha : a < D.next.length) (hb : b < D.next.length) => (show 0 ≤ ((D.next.getD a []).getD b []).getD x 0 ∧ ((D.next.getD a []).getD b []).getD x 0 < D.next.length from xFT hV (a := (a : Int)) (b := (b : Int)) (x := x) (by omega) (by omega) hx)
  have C := fun a b (ha : a < D.next.length) (hb : b < D.next.length) => (show List.take 1 (List.drop (((D.next.getD a []).getD b []).getD x 0).toNat (ints c)) = [.int .i64 (c.getD (((D.next.getD a []).getD b []).getD x 0).toNat 0)] from xAr _ _ (by have := B a b ha hb; omega))
  have r1 := L2 s hs
  have r2 := L2 t ht
  have r3 := L2 q hq
  have m1 := L3 s q hs hq
  have m2 := L3 t q ht hq
  have m3 := L3 q s hq hs
  have m4 := L3 q t hq ht
  have g1 := G s q hs hq
  have g2 := G t q ht hq
  have g3 := G q s hq hs
  have g4 := G q t hq ht
  have b1 := B s q hs hq
  have b2 := B t q ht hq
  have b3 := B q s hq hs
  have b4 := B q t hq ht
  have c1 := C s q hs hq
  have c2 := C t q ht hq
  have c3 := C q s hq hs
  have c4 := C q t hq ht
  clear G B C L2 L3
  rw [List.range'_succ,List.all_cons]
  have ea : agX D c s t q x = (decide (c.getD (((D.next.getD s []).getD q []).getD x 0).toNat 0 = c.getD (((D.next.getD t []).getD q []).getD x 0).toNat 0) && decide (c.getD (((D.next.getD q []).getD s []).getD x 0).toNat 0 = c.getD (((D.next.getD q []).getD t []).getD x 0).toNat 0)) := rfl
  rw [ea]
  by_cases q1 : c.getD (((D.next.getD s []).getD q []).getD x 0).toNat 0 = c.getD (((D.next.getD t []).getD q []).getD x 0).toNat 0
  ·by_cases q2 : c.getD (((D.next.getD q []).getD s []).getD x 0).toNat 0 = c.getD (((D.next.getD q []).getD t []).getD x 0).toNat 0
   ·rw [decide_eq_true q1,decide_eq_true q2,Bool.true_and,Bool.true_and]
    refine ⟨x',?_⟩
    generalize (if (List.range' (x + 1) e).all (fun x => agX D c s t q x) = true then AExit.exit 2 else AExit.ret) = X2 at *
    rw [xLQ]
    simp (maxSteps := 30000000) (disch := first | assumption | omega | (simp only [WL,AV.isCell,xAa] <;> omega) | rfl | decide) only [xFx,WB,h0,hsh,hlt,↓reduceIte,xA2,rowsD,r1,xBy,rowT,m1,W2,q1,r2,m2,r3,m3,q2,m4,xAj,xFy,ih']
   ·rw [decide_eq_true q1,decide_eq_false q2,Bool.and_false,Bool.false_and,if_neg (by simp)]
    refine ⟨x,?_⟩
    rw [xLQ]
    simp (maxSteps := 30000000) (disch := first | assumption | omega | (simp only [WL,AV.isCell,xAa] <;> omega) | rfl | decide) only [xFx,WB,h0,hsh,hlt,↓reduceIte,xA2,rowsD,r1,xBy,rowT,m1,W2,q1,r2,m2,r3,m3,m4,xAj,q2,xFy]
  ·rw [decide_eq_false q1,Bool.false_and,Bool.false_and,if_neg (by simp)]
   refine ⟨x,?_⟩
   rw [xLQ]
   simp (maxSteps := 30000000) (disch := first | assumption | omega | (simp only [WL,AV.isCell,xAa] <;> omega) | rfl | decide) only [xFx,WB,h0,hsh,hlt,↓reduceIte,xA2,rowsD,r1,xBy,rowT,m1,W2,r2,m2,q1,xAj,xFy]
theorem yIy {c : List Int} {z : Bool} {H : xAc} (hV : Va D) (hlen : c.length = D.next.length) (h0 : H[0]? = some (.cells false false D.cells)) {s t : Nat} (hs : s < D.next.length) (ht : t < D.next.length) : ∀ e q,q + e = D.next.length →
  ∃ q' : Nat,L.loop xHp xSu ⟨xHq (iw z c) (.int .i64 (s : Nat)) (.int .i64 (t : Nat)) (.ptr 0 0) (.bool false) (.int .i64 (q : Nat)),H⟩ =
   some (if (List.range' q e).all (fun q => (List.range' 0 (two D.vars)).all fun x => agX D c s t q x) = true then .exit 0 else .ret,⟨xHq (iw z c) (.int .i64 (s : Nat)) (.int .i64 (t : Nat)) (.ptr 0 0) (.bool false) (.int .i64 (q' : Nat)),H⟩) := by
 have n64 := hV.n64
 have h0' := h0
 unfold Da.cells at h0'
 intro e
 induction e with
 | zero =>
  intro q h
  obtain rfl : q = D.next.length := by omega
  refine ⟨D.next.length,?_⟩
  rw [if_pos (by rfl),xQM]
  simp (maxSteps := 30000000) (disch := first | assumption | omega | (simp only [WL,AV.isCell,xAa] <;> omega) | rfl | decide) only [xHo,WB,h0',↓reduceIte,xHr]
 | succ e ih =>
  intro q h
  have hlt : (q : Int) < (D.next.length : Nat) := by omega
  obtain ⟨q',ih'⟩ := ih (q + 1) (by omega)
  obtain ⟨x',hx⟩ := yIx (z := z) hV hlen h0 hs ht (show q < D.next.length by omega) (two D.vars) 0 (by omega)
  simp only [Int.natCast_zero] at hx
  rw [List.range'_succ,List.all_cons]
  by_cases c1 : ((List.range' 0 (two D.vars)).all fun x => agX D c s t q x) = true
  ·rw [if_pos c1] at hx
   rw [c1,Bool.true_and]
   refine ⟨q',?_⟩
   generalize (if (List.range' (q + 1) e).all (fun q => (List.range' 0 (two D.vars)).all fun x => agX D c s t q x) = true then AExit.exit 0 else AExit.ret) = X2 at *
   rw [xQM]
   simp (maxSteps := 30000000) (disch := first | assumption | omega | (simp only [WL,AV.isCell,xAa] <;> omega) | rfl | decide) only [xHo,WB,h0',hlt,↓reduceIte,xFy,hx,xHr,ih']
  ·rw [if_neg c1] at hx
   have c1' : ((List.range' 0 (two D.vars)).all fun x => agX D c s t q x) = false := by simpa using c1
   rw [c1',Bool.false_and,if_neg (by simp)]
   refine ⟨q,?_⟩
   rw [xQM]
   simp (maxSteps := 30000000) (disch := first | assumption | omega | (simp only [WL,AV.isCell,xAa] <;> omega) | rfl | decide) only [xHo,WB,h0',hlt,↓reduceIte,xFy,hx,xHr]
theorem yBK (hV : Va D) {c : List Int} {z : Bool} (hlen : c.length = D.next.length) {s t : Nat} (hs : s < D.next.length) (ht : t < D.next.length) : L.pcall 107 [D.av,iw z c,.int .i64 (s : Nat),.int .i64 (t : Nat)] = some (.bool (agI D c s t)) := by
 obtain ⟨q',h⟩ := yIy (z := z) (H := [.cells false false D.cells]) hV hlen rfl hs ht D.next.length 0 (by omega)
 simp only [Int.natCast_zero] at h
 have ea : ((List.range' 0 D.next.length).all fun q => (List.range' 0 (two D.vars)).all fun x => agX D c s t q x) = agI D c s t := rfl
 rw [ea] at h
 unfold Da.av
 unfold Da.cells at h ⊢
 rw [yHS,yHF,xAf]
 cases hb : agI D c s t with
 | true =>
  rw [hb] at h
  simp only [if_true] at h
  simp (maxSteps := 30000000) (disch := first | assumption | omega | (simp only [WL,AV.isCell,xAa] <;> omega) | rfl | decide) only [WB,Nat.reduceAdd,Nat.reduceSub,AV.cells,AV.isCell,↓reduceIte,xHr,h]
 | false =>
  rw [hb] at h
  simp only [Bool.false_eq_true,if_false] at h
  simp (maxSteps := 30000000) (disch := first | assumption | omega | (simp only [WL,AV.isCell,xAa] <;> omega) | rfl | decide) only [WB,Nat.reduceAdd,Nat.reduceSub,AV.cells,AV.isCell,↓reduceIte,xHr,h]
end
end Go.Abs.Det
