/- Comparing two machines breadth first: the plain search,and what it finds. -/
import Derived.Test.YtkpbekcgigigkaaDoorAMC
import Derived.Test.YtkpbekcgigigkaaDoorAME
import Derived.Test.YtkpbekcgigigkaaDoorAbsBun
import Derived.Test.YtkpbekcgigigkaaDoorAbsWalk3
import Derived.Test.YtkpbekcgigigkaaDoorAbsWalk4
namespace Go.Abs.Mealy
open Go Go.Abs
set_option linter.unusedSimpArgs false
set_option linter.unusedVariables false
abbrev Bs := List (Nat × Nat) × List (List Nat)
def xII (A B : Ma) (u : List Nat) (c : Nat × Nat) : List Nat → Bs → Option (List Nat) × Bs
  | [],S => (none,S)
  | i :: r,S => if em A c.1 i ≠ em B c.2 i then (some (u ++ [i]),S)
    else if (nx A c.1 i,nx B c.2 i) ∈ S.1 then xII A B u c r S else xII A B u c r (S.1 ++ [(nx A c.1 i,nx B c.2 i)],S.2 ++ [u ++ [i]])
def xIQ (A B : Ma) : Nat → Nat → Bs → Option (List Nat)
  | 0,_,_ => none
  | e + 1,k,S => if k < S.1.length then (match xII A B (S.2.getD k []) (S.1.getD k (0,0)) (List.range (two A.i)) S with
    | (some v,_) => some v
    | (none,S') => xIQ A B e (k + 1) S') else none
def xDc (A B : Ma) : Nat × Nat → List Nat → Nat × Nat
  | c,[] => c
  | c,x :: t => xDc A B (nx A c.1 x,nx B c.2 x) t
theorem xDq (A B : Ma) : ∀ (u : List Nat) (c : Nat × Nat) (x : Nat),xDc A B c (u ++ [x]) = (nx A (xDc A B c u).1 x,nx B (xDc A B c u).2 x)
  | [],c,x => rfl
  | y :: t,c,x => xDq A B t _ x
def xOt : List Nat → List Nat → Prop
  | [],_ => True
  | _ :: _,[] => False
  | a :: s,b :: t => a < b ∨ (a = b ∧ xOt s t)
def xK0 (u v : List Nat) : Prop := u.length < v.length ∨ (u.length = v.length ∧ xOt u v)
theorem xFS : ∀ u : List Nat,xOt u u
  | [] => trivial
  | a :: s => .inr ⟨rfl,xFS s⟩
theorem xIB : ∀ {u v w : List Nat},u.length = v.length → v.length = w.length → xOt u v → xOt v w → xOt u w
  | [],_,_,_,_,_,_ => trivial
  | a :: s,[],_,h,_,_,_ => by simp at h
  | a :: s,b :: t,[],_,h,_,_ => by simp at h
  | a :: s,b :: t,c :: r,h1,h2,h3,h4 => by
    simp only [List.length_cons,Nat.add_right_cancel_iff] at h1 h2
    rcases h3 with h3 | ⟨rfl,h3⟩
    · rcases h4 with h4 | ⟨rfl,h4⟩
      · exact .inl (by omega)
      · exact .inl h3
    · rcases h4 with h4 | ⟨rfl,h4⟩
      · exact .inl h4
      · exact .inr ⟨rfl,xIB h1 h2 h3 h4⟩
theorem xFo (u : List Nat) : xK0 u u := .inr ⟨rfl,xFS u⟩
theorem xDd {u v w : List Nat} (h1 : xK0 u v) (h2 : xK0 v w) : xK0 u w := by
  unfold xK0 at *
  rcases h1 with h1 | ⟨a1,b1⟩
  · rcases h2 with h2 | ⟨a2,b2⟩
    · exact .inl (by omega)
    · exact .inl (by omega)
  · rcases h2 with h2 | ⟨a2,b2⟩
    · exact .inl (by omega)
    · exact .inr ⟨by omega,xIB a1 a2 b1 b2⟩
theorem xK1 : ∀ {u v : List Nat} {x y : Nat},u.length = v.length → xOt u v → (u = v → x ≤ y) → xOt (u ++ [x]) (v ++ [y])
  | [],[],x,y,_,_,h => by
    have := h rfl
    by_cases e : x = y
    · exact .inr ⟨e,trivial⟩
    · exact .inl (by omega)
  | [],_ :: _,_,_,h,_,_ => by simp at h
  | _ :: _,[],_,_,h,_,_ => by simp at h
  | a :: s,b :: t,x,y,h1,h2,h3 => by
    simp only [List.length_cons,Nat.add_right_cancel_iff] at h1
    rcases h2 with h2 | ⟨rfl,h2⟩
    · exact .inl h2
    · exact .inr ⟨rfl,xK1 h1 h2 (fun e => h3 (by rw [e]))⟩
theorem xCH {u v : List Nat} {x y : Nat} (h : xK0 u v) (hxy : u = v → x ≤ y) : xK0 (u ++ [x]) (v ++ [y]) := by
  unfold xK0 at *
  simp only [List.length_append,List.length_cons,List.length_nil]
  rcases h with h | ⟨a,b⟩
  · exact .inl (by omega)
  · exact .inr ⟨by omega,xK1 a b hxy⟩
theorem xEE (u v : List Nat) : xK0 u (u ++ v) := by
  unfold xK0
  cases v with
  | nil => exact .inr ⟨by simp,by rw [List.append_nil]; exact xFS u⟩
  | cons a t => exact .inl (by simp)
def xIR (A B : Ma) (u : List Nat) (x : Nat) : Prop := em A (xDc A B (A.s,B.s) u).1 x ≠ em B (xDc A B (A.s,B.s) u).2 x
structure BI (A B : Ma) (S : Bs) (k : Nat) (i : Nat) : Prop where
  len : S.2.length = S.1.length
  nd : S.1.Nodup
  first : S.1.getD 0 (0,0) = (A.s,B.s) ∧ S.2.getD 0 [] = [] ∧ 0 < S.1.length
  reach : ∀ j,j < S.1.length → xDc A B (A.s,B.s) (S.2.getD j []) = S.1.getD j (0,0)
  lets : ∀ j,j < S.1.length → ∀ x ∈ S.2.getD j [],x < two A.i
  ord : ∀ j j',j < j' → j' < S.1.length → xK0 (S.2.getD j []) (S.2.getD j' [])
  from' : ∀ j,0 < j → j < S.1.length → ∃ j0 y,S.2.getD j [] = S.2.getD j0 [] ++ [y] ∧ y < two A.i ∧ j0 < S.1.length ∧ (j0 < k ∨ (j0 = k ∧ y < i))
  seen : ∀ j y,j < S.1.length → y < two A.i → (j < k ∨ (j = k ∧ y < i)) → em A (S.1.getD j (0,0)).1 y = em B (S.1.getD j (0,0)).2 y ∧ ∃ j',j' < S.1.length ∧ S.1.getD j' (0,0) = (nx A (S.1.getD j (0,0)).1 y,nx B (S.1.getD j (0,0)).2 y) ∧ xK0 (S.2.getD j' []) (S.2.getD j [] ++ [y])
section
variable {A B : Ma} {S : Bs} {k i : Nat}
theorem xRA {α : Type} {l : List α} {d : α} (h : l.Nodup) {a b : Nat} (ha : a < l.length) (hb : b < l.length) (e : l.getD a d = l.getD b d) : a = b := by
  rw [List.getD_eq_getElem?_getD,List.getD_eq_getElem?_getD,List.getElem?_eq_getElem ha,List.getElem?_eq_getElem hb] at e
  exact (List.getElem_inj h).mp e
theorem xBH {α : Type} (l r : List α) (d : α) {a : Nat} (ha : a < l.length) : (l ++ r).getD a d = l.getD a d := by
  rw [List.getD_eq_getElem?_getD,List.getD_eq_getElem?_getD,List.getElem?_append_left ha]
theorem xEd {α : Type} (l : List α) (x d : α) : (l ++ [x]).getD l.length d = x := by
  rw [List.getD_eq_getElem?_getD,List.getElem?_append_right (Nat.le_refl _)]; simp
theorem BI.diff (h : BI A B S k i) {a b : Nat} (ha : a < S.1.length) (hb : b < S.1.length) (e : S.2.getD a [] = S.2.getD b []) : a = b :=
  xRA h.nd ha hb (by rw [← h.reach a ha,← h.reach b hb,e])
theorem BI.top (h : BI A B S k i) (hk : k < S.1.length) (j : Nat) (hj : j < S.1.length) : xK0 (S.2.getD j []) (S.2.getD k [] ++ [i]) := by
  by_cases j0 : j = 0
  · subst j0; rw [h.first.2.1]; exact xEE [] _
  obtain ⟨p,y,e,hy,hp,hc⟩ := h.from' j (by omega) hj
  rw [e]
  rcases hc with hc | ⟨rfl,hc⟩
  · exact xCH (h.ord p k hc hk) (fun e' => by have := h.diff hp hk e'; omega)
  · exact xCH (xFo _) (fun _ => Nat.le_of_lt hc)
theorem BI.after (h : BI A B S k i) (hk : k < S.1.length) {j y : Nat} (hj : j < S.1.length) (hc : ¬ (j < k ∨ (j = k ∧ y < i))) : xK0 (S.2.getD k [] ++ [i]) (S.2.getD j [] ++ [y]) := by
  by_cases e : j = k
  · subst e; exact xCH (xFo _) (fun _ => by omega)
  · exact xCH (h.ord k j (by omega) hj) (fun e' => absurd (h.diff hk hj e') (by omega))
theorem BI.find (h : BI A B S k i) (hk : k < S.1.length) : ∀ (t : List Nat),(∀ x ∈ t,x < two A.i) → (∃ j,j < S.1.length ∧ xDc A B (A.s,B.s) t = S.1.getD j (0,0) ∧ xK0 (S.2.getD j []) t) ∨ xK0 (S.2.getD k [] ++ [i]) t := by
  intro t
  generalize hn : t.length = n
  induction n generalizing t with
  | zero =>
    intro _
    have : t = [] := List.eq_nil_of_length_eq_zero hn
    subst this
    exact .inl ⟨0,h.first.2.2,h.first.1.symm,by rw [h.first.2.1]; exact xFo _⟩
  | succ n ih =>
    intro hl
    rcases List.eq_nil_or_concat t with rfl | ⟨r,y,rfl⟩
    · simp at hn
    rw [List.concat_eq_append] at *
    have hr : r.length = n := by simpa using hn
    rcases ih r hr (fun x hx => hl x (List.mem_append_left _ hx)) with ⟨j,hj,ej,sj⟩ | hs
    · by_cases hc : j < k ∨ (j = k ∧ y < i)
      · obtain ⟨_,j',hj',ej',sj'⟩ := h.seen j y hj (hl y (by simp)) hc
        refine .inl ⟨j',hj',?_,xDd sj' (xCH sj (fun _ => Nat.le_refl _))⟩
        rw [xDq,ej,ej']
      · exact .inr (xDd (h.after hk hj hc) (xCH sj (fun _ => Nat.le_refl _)))
    · exact .inr (xDd hs (xEE _ _))
theorem BI.least (h : BI A B S k i) (hk : k < S.1.length) (t : List Nat) (y : Nat) (hl : ∀ x ∈ t ++ [y],x < two A.i) (ht : xIR A B t y) : xK0 (S.2.getD k [] ++ [i]) (t ++ [y]) := by
  rcases h.find hk t (fun x hx => hl x (List.mem_append_left _ hx)) with ⟨j,hj,ej,sj⟩ | hs
  · by_cases hc : j < k ∨ (j = k ∧ y < i)
    · exact absurd (h.seen j y hj (hl y (by simp)) hc).1 (by unfold xIR at ht; rw [ej] at ht; exact ht)
    · exact xDd (h.after hk hj hc) (xCH sj (fun _ => Nat.le_refl _))
  · exact xDd hs (xEE _ _)
theorem BI.all (h : BI A B S S.1.length 0) : ∀ (t : List Nat),(∀ x ∈ t,x < two A.i) → ∃ j,j < S.1.length ∧ xDc A B (A.s,B.s) t = S.1.getD j (0,0) := by
  intro t
  generalize hn : t.length = n
  induction n generalizing t with
  | zero =>
    intro _
    have : t = [] := List.eq_nil_of_length_eq_zero hn
    subst this
    exact ⟨0,h.first.2.2,h.first.1.symm⟩
  | succ n ih =>
    intro hl
    rcases List.eq_nil_or_concat t with rfl | ⟨r,y,rfl⟩
    · simp at hn
    rw [List.concat_eq_append] at *
    obtain ⟨j,hj,ej⟩ := ih r (by simpa using hn) (fun x hx => hl x (List.mem_append_left _ hx))
    obtain ⟨_,j',hj',ej',_⟩ := h.seen j y hj (hl y (by simp)) (.inl hj)
    exact ⟨j',hj',by rw [xDq,ej,ej']⟩
theorem BI.none (h : BI A B S S.1.length 0) (t : List Nat) (y : Nat) (hl : ∀ x ∈ t ++ [y],x < two A.i) : ¬ xIR A B t y := by
  obtain ⟨j,hj,ej⟩ := h.all t (fun x hx => hl x (List.mem_append_left _ hx))
  unfold xIR
  rw [ej]
  exact fun e => e (h.seen j y hj (hl y (by simp)) (.inl hj)).1
theorem BI.old (h : BI A B S k i) (hk : k < S.1.length) (he : em A (S.1.getD k (0,0)).1 i = em B (S.1.getD k (0,0)).2 i) (hm : (nx A (S.1.getD k (0,0)).1 i,nx B (S.1.getD k (0,0)).2 i) ∈ S.1) : BI A B S k (i + 1) := by
  refine ⟨h.len,h.nd,h.first,h.reach,h.lets,h.ord,?_,?_⟩
  · intro j h0 hj
    obtain ⟨p,y,e,hy,hp,hc⟩ := h.from' j h0 hj
    exact ⟨p,y,e,hy,hp,by omega⟩
  · intro j y hj hy hc
    by_cases hc' : j < k ∨ (j = k ∧ y < i)
    · exact h.seen j y hj hy hc'
    · have : j = k := by omega
      subst this
      have : y = i := by omega
      subst this
      obtain ⟨j',hj',ej'⟩ := List.getElem_of_mem hm
      exact ⟨he,j',hj',by rw [List.getD_eq_getElem?_getD,List.getElem?_eq_getElem hj',Option.getD_some,ej'],h.top hk j' hj'⟩
theorem BI.new (h : BI A B S k i) (hk : k < S.1.length) (hi : i < two A.i) (he : em A (S.1.getD k (0,0)).1 i = em B (S.1.getD k (0,0)).2 i) (hm : (nx A (S.1.getD k (0,0)).1 i,nx B (S.1.getD k (0,0)).2 i) ∉ S.1) :
    BI A B (S.1 ++ [(nx A (S.1.getD k (0,0)).1 i,nx B (S.1.getD k (0,0)).2 i)],S.2 ++ [S.2.getD k [] ++ [i]]) k (i + 1) := by
  have hl := h.len
  have g1 : ∀ {j},j < S.1.length → ∀ r,(S.1 ++ r).getD j (0,0) = S.1.getD j (0,0) := fun hj r => xBH _ r _ hj
  have g2 : ∀ {j},j < S.1.length → ∀ r,(S.2 ++ r).getD j [] = S.2.getD j [] := fun hj r => xBH _ r _ (by omega)
  have g3 : ∀ x,(S.2 ++ [x]).getD S.1.length [] = x := fun x => by rw [← hl]; exact xEd _ _ _
  have g4 : ∀ x,(S.1 ++ [x]).getD S.1.length (0,0) = x := fun x => xEd _ _ _
  have sp : ∀ {j},j < (S.1 ++ [(nx A (S.1.getD k (0,0)).1 i,nx B (S.1.getD k (0,0)).2 i)]).length → j < S.1.length ∨ j = S.1.length := fun hj => by simp at hj; omega
  refine ⟨?_,?_,?_,?_,?_,?_,?_,?_⟩
  · simp [hl]
  · rw [List.nodup_append]
    refine ⟨h.nd,by simp,?_⟩
    intro a ha b hb e
    rw [List.mem_singleton] at hb
    exact hm (hb ▸ e ▸ ha)
  · have h0 := h.first.2.2
    refine ⟨by rw [g1 h0]; exact h.first.1,by rw [g2 h0]; exact h.first.2.1,by simp⟩
  · intro j hj
    rcases sp hj with hj | rfl
    · rw [g1 hj,g2 hj]; exact h.reach j hj
    · rw [g4,g3,xDq,h.reach k hk]
  · intro j hj
    rcases sp hj with hj | rfl
    · rw [g2 hj]; exact h.lets j hj
    · rw [g3]
      intro x hx
      rcases List.mem_append.mp hx with hx | hx
      · exact h.lets k hk x hx
      · rw [List.mem_singleton] at hx; omega
  · intro j j' hjj hj'
    rcases sp hj' with hj' | rfl
    · rw [g2 (by omega),g2 hj']; exact h.ord j j' hjj hj'
    · rw [g2 hjj,g3]; exact h.top hk j hjj
  · intro j h0 hj
    rcases sp hj with hj | rfl
    · obtain ⟨p,y,e,hy,hp,hc⟩ := h.from' j h0 hj
      exact ⟨p,y,by rw [g2 hj,g2 hp]; exact e,hy,by simp; omega,by omega⟩
    · exact ⟨k,i,by rw [g3,g2 hk],hi,by simp; omega,.inr ⟨rfl,by omega⟩⟩
  · intro j y hj hy hc
    have hj : j < S.1.length := by rcases sp hj with hj | rfl <;> omega
    rw [g1 hj,g2 hj]
    by_cases hc' : j < k ∨ (j = k ∧ y < i)
    · obtain ⟨a,j',hj',ej',sj'⟩ := h.seen j y hj hy hc'
      exact ⟨a,j',by simp; omega,by rw [g1 hj',ej'],by rw [g2 hj']; exact sj'⟩
    · have : j = k := by omega
      subst this
      have : y = i := by omega
      subst this
      exact ⟨he,S.1.length,by simp,by rw [g4],by rw [g3]; exact xFo _⟩
theorem BI.next (h : BI A B S k (two A.i)) : BI A B S (k + 1) 0 := by
  refine ⟨h.len,h.nd,h.first,h.reach,h.lets,h.ord,?_,?_⟩
  · intro j h0 hj
    obtain ⟨p,y,e,hy,hp,hc⟩ := h.from' j h0 hj
    exact ⟨p,y,e,hy,hp,.inl (by omega)⟩
  · intro j y hj hy hc
    exact h.seen j y hj hy (by omega)
theorem BI.start (A B : Ma) : BI A B ([(A.s,B.s)],[[]]) 0 0 := by
  refine ⟨rfl,by simp,⟨rfl,rfl,by simp⟩,?_,?_,?_,?_,?_⟩
  · intro j hj
    have : j = 0 := by simpa using hj
    subst this; rfl
  · intro j hj
    have : j = 0 := by simpa using hj
    subst this; simp
  · intro j j' a b; simp at b; omega
  · intro j a b; simp at b; omega
  · intro j y a b c; omega
end
def xXF (A B : Ma) (v : List Nat) : Prop := ∃ u x,v = u ++ [x] ∧ (∀ y ∈ v,y < two A.i) ∧ xIR A B u x ∧ ∀ t y,(∀ z ∈ t ++ [y],z < two A.i) → xIR A B t y → xK0 v (t ++ [y])
theorem xIC (A B : Ma) (k : Nat) : ∀ (m i : Nat) (S : Bs),i + m = two A.i → k < S.1.length → BI A B S k i →
    (∀ v S',xII A B (S.2.getD k []) (S.1.getD k (0,0)) (List.range' i m) S = (some v,S') → xXF A B v) ∧
    (∀ S',xII A B (S.2.getD k []) (S.1.getD k (0,0)) (List.range' i m) S = (none,S') → BI A B S' k (two A.i) ∧ k < S'.1.length)
  | 0,i,S,hm,hk,h => by
    have : i = two A.i := by omega
    subst this
    refine ⟨by intro v S' e; simp [xII] at e,?_⟩
    intro S' e
    simp only [List.range'_zero,xII,Prod.mk.injEq,true_and] at e
    subst e
    exact ⟨h,hk⟩
  | m + 1,i,S,hm,hk,h => by
    have hi : i < two A.i := by omega
    rw [List.range'_succ,xII]
    by_cases he : em A (S.1.getD k (0,0)).1 i = em B (S.1.getD k (0,0)).2 i
    · rw [if_neg (fun e => e he)]
      by_cases hmem : (nx A (S.1.getD k (0,0)).1 i,nx B (S.1.getD k (0,0)).2 i) ∈ S.1
      · rw [if_pos hmem]
        exact xIC A B k m (i + 1) S (by omega) hk (h.old hk he hmem)
      · rw [if_neg hmem]
        have hn := h.new hk hi he hmem
        have := xIC A B k m (i + 1) _ (by omega) (by simp; omega) hn
        rwa [show (S.1 ++ [(nx A (S.1.getD k (0,0)).1 i,nx B (S.1.getD k (0,0)).2 i)]).getD k (0,0) = S.1.getD k (0,0) from xBH _ _ _ hk,show (S.2 ++ [S.2.getD k [] ++ [i]]).getD k [] = S.2.getD k [] from xBH _ _ _ (by rw [h.len]; exact hk)] at this
    · rw [if_pos he]
      refine ⟨?_,by intro S' e; simp at e⟩
      intro v S' e
      simp only [Prod.mk.injEq,Option.some.injEq] at e
      obtain ⟨rfl,rfl⟩ := e
      refine ⟨_,i,rfl,?_,?_,fun t y hl ht => h.least hk t y hl ht⟩
      · intro x hx
        rcases List.mem_append.mp hx with hx | hx
        · exact h.lets k hk x hx
        · rw [List.mem_singleton] at hx; omega
      · unfold xIR
        rw [h.reach k hk]
        exact he
theorem xRB (A B : Ma) : ∀ (e k : Nat) (S : Bs),BI A B S k 0 → k ≤ S.1.length → (∀ v,xIQ A B e k S = some v → xXF A B v)
  | 0,k,S,h,hk,v,e => by simp [xIQ] at e
  | e + 1,k,S,h,hk,v,ev => by
    rw [xIQ] at ev
    split at ev
    · rename_i hk'
      have hb := xIC A B k (two A.i) 0 S (by omega) hk' h
      rw [← List.range_eq_range'] at hb
      generalize xII A B (S.2.getD k []) (S.1.getD k (0,0)) (List.range (two A.i)) S = r at hb ev
      obtain ⟨r1,r2⟩ := r
      cases r1 with
      | some v' =>
        simp only [Option.some.injEq] at ev
        subst ev
        exact hb.1 v' r2 rfl
      | none =>
        have := hb.2 r2 rfl
        exact xRB A B e (k + 1) r2 this.1.next this.2 v ev
    · simp at ev
theorem xXG {α : Type} [DecidableEq α] {d : α} {l : List α} (h : l.Nodup) {j : Nat} (hj : j < l.length) : pos (l.getD j d) l = j := by
  have hm : l.getD j d ∈ l := xAA hj
  have h1 := xOh hm
  have h2 := xOi (d := d) hm
  exact xRA h h1 hj h2
def cnK (M : Ma) (k : Nat) : Nat := (xK3 M (clK M k)).1.length
theorem yBS (M : Ma) (k : Nat) {j : Nat} (hj : j < cnK M k) : ∃ s,s < M.next.length ∧ (clK M (k + 1)).getD s 0 = j := by
  have h := xLT M (clK M k)
  obtain ⟨s,hs,e⟩ := h.of _ (xAA (a := (([],[]) : Kpr)) hj)
  refine ⟨s,hs,?_⟩
  have := h.num s hs
  rw [← e,xXG h.nd hj] at this
  exact this
theorem xVP {M : Ma} (hV : Vm M) (hn : M.next.length ≤ 100) (k : Nat) : cnK M k ≤ cnK M (k + 1) ∧ ∀ s t,s < M.next.length → t < M.next.length → xK4 M (k + 1) s t → ¬ xK4 M (k + 2) s t → cnK M k + 1 ≤ cnK M (k + 1) := by
  have hex : ∀ j,∃ s,j < cnK M k → s < M.next.length ∧ (clK M (k + 1)).getD s 0 = j := by
    intro j
    by_cases hj : j < cnK M k
    · obtain ⟨s,h⟩ := yBS M k hj
      exact ⟨s,fun _ => h⟩
    · exact ⟨0,fun h => absurd h hj⟩
  let rep : Nat → Nat := fun j => Classical.choose (hex j)
  have hrep : ∀ j,j < cnK M k → rep j < M.next.length ∧ (clK M (k + 1)).getD (rep j) 0 = j := fun j => Classical.choose_spec (hex j)
  have hlt : ∀ s,s < M.next.length → (clK M (k + 2)).getD s 0 < cnK M (k + 1) := fun s hs => xIH M (clK M (k + 1)) hs
  have hnd : ((List.range (cnK M k)).map fun j => (clK M (k + 2)).getD (rep j) 0).Nodup := by
    rw [List.nodup_iff_pairwise_ne,List.pairwise_map]
    refine List.Pairwise.imp_of_mem ?_ (List.nodup_iff_pairwise_ne.1 List.nodup_range)
    intro a b ha hb hne e
    have h1 := hrep a (List.mem_range.1 ha)
    have h2 := hrep b (List.mem_range.1 hb)
    have := xFr hV hn (k + 1) _ _ h1.1 h2.1 e
    unfold xK4 at this
    rw [h1.2,h2.2] at this
    exact hne this
  refine ⟨?_,?_⟩
  · have := xFn _ _ hnd (fun x hx => by
      obtain ⟨j,hj,rfl⟩ := List.mem_map.1 hx
      exact hlt _ (hrep j (List.mem_range.1 hj)).1)
    simpa using this
  · intro s t hs ht h1 h2
    have hj : (clK M (k + 1)).getD s 0 < cnK M k := xIH M (clK M k) hs
    have hr := hrep _ hj
    obtain ⟨u,hu,e1,e2⟩ : ∃ u,u < M.next.length ∧ xK4 M (k + 1) u (rep ((clK M (k + 1)).getD s 0)) ∧ ¬ xK4 M (k + 2) u (rep ((clK M (k + 1)).getD s 0)) := by
      by_cases c : xK4 M (k + 2) s (rep ((clK M (k + 1)).getD s 0))
      · refine ⟨t,ht,?_,fun e => h2 (Eq.trans c (Eq.symm e))⟩
        exact Eq.trans (Eq.symm h1) hr.2.symm
      · exact ⟨s,hs,hr.2.symm,c⟩
    have hnot : (clK M (k + 2)).getD u 0 ∉ (List.range (cnK M k)).map fun j => (clK M (k + 2)).getD (rep j) 0 := by
      intro hm
      obtain ⟨j,hj',e⟩ := List.mem_map.1 hm
      have hr' := hrep j (List.mem_range.1 hj')
      have h3 : xK4 M (k + 1) (rep j) u := xFr hV hn (k + 1) _ _ hr'.1 hu e
      have h4 : j = (clK M (k + 1)).getD s 0 := hr'.2.symm.trans (h3.trans (e1.trans hr.2))
      rw [h4] at e
      exact e2 e.symm
    have := xFn (cnK M (k + 1)) ((clK M (k + 2)).getD u 0 :: (List.range (cnK M k)).map fun j => (clK M (k + 2)).getD (rep j) 0) (List.nodup_cons.2 ⟨hnot,hnd⟩) (fun x hx => by
      rcases List.mem_cons.1 hx with rfl | hx
      · exact hlt u hu
      · obtain ⟨j,hj,rfl⟩ := List.mem_map.1 hx
        exact hlt _ (hrep j (List.mem_range.1 hj)).1)
    simpa using this
theorem yAr {M : Ma} (hV : Vm M) (hn : M.next.length ≤ 100) {k : Nat} (h : cnK M (k + 1) = cnK M k) {s t : Nat} (hs : s < M.next.length) (ht : t < M.next.length) : xK4 M (k + 2) s t ↔ xK4 M (k + 1) s t := by
  refine ⟨xFr hV hn (k + 1) s t hs ht,fun e => ?_⟩
  apply Classical.byContradiction
  intro e'
  have := (xVP hV hn k).2 s t hs ht e e'
  omega
def Cls (M : Ma) (k : Nat) : Prop := ∀ s t,s < M.next.length → t < M.next.length → (xK4 M (k + 1) s t ↔ xK4 M k s t)
theorem yAs {M : Ma} (hV : Vm M) (hn : M.next.length ≤ 100) : ∀ e k (G : Heap) (pc : Nat) (s2 : AV) (cnt : Nat),M.next.length < e + cnt → CI M (clK M k) pc G → cnt ≤ cnK M k → (cnK M k = cnt → Cls M k) →
    ∃ K G' p cnt',L.loop xE6 xMR ⟨yAF s2 pc M.next.length cnt,G⟩ = some (.ret,⟨yAF (.own false p 0 M.next.length 1) p M.next.length cnt',G'⟩) ∧ G'[p]? = some (.cells false false (xAQ (clK M (K + 1)))) ∧ Cls M K := by
  intro e
  induction e with
  | zero =>
    intro k G pc s2 cnt h1 h2 h3 h4
    have := xLU M (clK M k)
    unfold cnK at h3
    omega
  | succ e ih =>
    intro k G pc s2 cnt h1 h2 h3 h4
    obtain ⟨G',r1,r2,r3⟩ := yC5 (s2 := s2) (cnt := cnt) hV h2
    by_cases c : cnK M k = cnt
    · exact ⟨k,G',G.length + 1,cnt,r2 c,r1.gr,h4 c⟩
    · rw [r3 c]
      have hg := xVP hV hn k
      refine ih (k + 1) G' (G.length + 1) .any (cnK M k) (by omega) ⟨r1.g0,r1.gr,by omega,xEF M (k + 1),xWa hn hV.n0 (k + 1)⟩ hg.1 ?_
      intro hc s t hs ht
      exact yAr hV hn hc hs ht
set_option maxHeartbeats 1000000 in
theorem xVQ {M : Ma} (hV : Vm M) (hn : M.next.length ≤ 100) : ∃ K,Cls M K ∧ L.pcall 69 [M.av] = some (.sl false M.next.length (xAQ (clK M (K + 1)))) := by
  have h0 : 0 < cnK M 0 := Nat.lt_of_le_of_lt (Nat.zero_le _) (xIH M (clK M 0) hV.n0)
  obtain ⟨K,G',p,cnt',e1,e2,e3⟩ := yAs hV hn (M.next.length + 1) 0 [.cells false false M.cells,.cells false false (xAQ (List.replicate M.next.length 0))] 1 (.sl true 0 []) 0 (by omega) ⟨rfl,rfl,by omega,xEF M 0,xWa hn hV.n0 0⟩ (by omega) (fun h => by omega)
  refine ⟨K,e3,?_⟩
  have hz : xAQ (List.replicate M.next.length 0) = List.replicate M.next.length (.int .i64 0) := by unfold xAQ; simp
  have hn9 := hV.n9
  have hlen : (clK M (K + 1)).length = M.next.length := xEF M (K + 1)
  change L.loop xE6 xMR ⟨xMS (.ptr 0 0) (.sl true 0 []) (.own false 1 0 M.next.length 1) (.int .i64 0),_⟩ = _ at e1
  have htk : List.take M.next.length (xAQ (clK M (K + 1))) = xAQ (clK M (K + 1)) := List.take_of_length_le (by rw [xAU]; omega)
  unfold Ma.av
  unfold Ma.cells at e1 ⊢
  rw [yDD,a69,xAr]
  simp (maxSteps := 30000000) (disch := first | assumption | omega | (simp only [WL,AV.isCell] <;> omega) | rfl | decide) only [↓reduceIte,WB,xAC,xAc,xAB,xAk,xAj,AV.cells,AV.isCell,xAb,xAf,xAg,WP,xAt,xAm,xA0,xAZ,xAX,xAq,xAv,xAu,W2,xAd,xAe,xAh,Nat.reduceAdd,Nat.reduceSub,Nat.reduceLeDiff,Nat.reduceMul,Int.reduceAdd,Int.reduceSub,Int.reduceMul,Int.reduceLT,Int.reduceLE,Int.reduceEq,Int.reduceToNat,Int.reduceNeg,Nat.reduceEqDiff,Nat.reduceBEq,Nat.reduceLT,xMT,e1,e2,htk]
def Sim (M N : Ma) (s t : Nat) : Prop := ∀ w : List Nat,(∀ x ∈ w,x < two M.i) → xCM M s w = xCM N t w
theorem xVR {M N : Ma} (hM : Vm M) (hN : Vm N) (hi : M.i = N.i) {s t : Nat} (hs : s < M.next.length) (ht : t < N.next.length) (h : ∀ i,i < two M.i → em M s i = em N t i) : M.emit.getD s [] = N.emit.getD t [] := by
  have l1 := hM.wl' hs
  have l2 := hN.wl' ht
  rw [← hi] at l2
  apply List.ext_getElem (by omega)
  intro i a b
  have := h i (by omega)
  unfold em at this
  rw [List.getD_eq_getElem?_getD (l := M.emit.getD s []),List.getD_eq_getElem?_getD (l := N.emit.getD t []),List.getElem?_eq_getElem a,List.getElem?_eq_getElem b] at this
  exact this
theorem xVS {M : Ma} (hV : Vm M) (hn : M.next.length ≤ 100) {K : Nat} (hC : Cls M K) : ∀ (w : List Nat) (s t : Nat),s < M.next.length → t < M.next.length → xK4 M (K + 1) s t → (∀ x ∈ w,x < two M.i) → xCM M s w = xCM M t w
  | [],_,_,_,_,_,_ => rfl
  | x :: r,s,t,hs,ht,h,hw => by
    obtain ⟨a,b⟩ := (xFq hV hn hs ht).1 h
    have hx := hw x (by simp)
    have hb := (hC _ _ (hV.nx hs hx) (hV.nx ht hx)).2 (b x hx)
    rw [xCM,xCM,xVS hV hn hC r _ _ (hV.nx hs hx) (hV.nx ht hx) hb (fun y hy => hw y (by simp [hy]))]
    unfold em
    rw [a]
theorem xVT {M : Ma} (hV : Vm M) (hn : M.next.length ≤ 100) : ∀ (k s t : Nat),s < M.next.length → t < M.next.length → Sim M M s t → xK4 M k s t
  | 0,s,t,hs,ht,_ => by
    unfold xK4 clK
    simp only [List.getD_eq_getElem?_getD,List.getElem?_replicate,hs,ht,if_true]
  | k + 1,s,t,hs,ht,h => by
    refine (xFq hV hn hs ht).2 ⟨xVR hV hV rfl hs ht fun i hi => ?_,fun i hi => xVT hV hn k _ _ (hV.nx hs hi) (hV.nx ht hi) ?_⟩
    · have := h [i] (by simpa using hi)
      simpa [xCM] using this
    · intro w hw
      have := h (i :: w) (fun y hy => by rcases List.mem_cons.1 hy with rfl | hy; exact hi; exact hw y hy)
      rw [xCM,xCM] at this
      injection this
theorem yAt {M : Ma} (hV : Vm M) (hn : M.next.length ≤ 100) {K : Nat} (hC : Cls M K) {s t : Nat} (hs : s < M.next.length) (ht : t < M.next.length) : xK4 M (K + 1) s t ↔ Sim M M s t :=
  ⟨fun h w hw => xVS hV hn hC w s t hs ht h hw,fun h => xVT hV hn (K + 1) s t hs ht h⟩
def xID (cl : List Nat) : List Nat → Nat → Nat → List Nat
  | l,_,0 => l
  | l,i,e + 1 => xID cl (l.set (cl.getD i 0) i) (i + 1) e
theorem xOu (cl : List Nat) : ∀ (e i : Nat) (l : List Nat),(xID cl l i e).length = l.length
  | 0,_,_ => rfl
  | e + 1,i,l => by rw [xID,xOu cl e]; simp
theorem xRC (cl : List Nat) : ∀ (e i : Nat) (l : List Nat) (j : Nat),j < l.length → ((∃ s,i ≤ s ∧ s < i + e ∧ cl.getD s 0 = j) ∨ cl.getD (l.getD j 0) 0 = j ∧ l.getD j 0 < i) → cl.getD ((xID cl l i e).getD j 0) 0 = j ∧ (xID cl l i e).getD j 0 < i + e
  | 0,i,l,j,hj,h => by
    rcases h with ⟨s,a,b,_⟩ | h
    · omega
    · exact h
  | e + 1,i,l,j,hj,h => by
    rw [xID]
    have := xRC cl e (i + 1) (l.set (cl.getD i 0) i) j (by simpa using hj) (by
      by_cases c : cl.getD i 0 = j
      · refine .inr ?_
        have hse : (l.set (cl.getD i 0) i).getD j 0 = i := by rw [c,List.getD_eq_getElem?_getD,List.getElem?_set_self hj]; rfl
        rw [hse]
        exact ⟨c,by omega⟩
      · have hne : (l.set (cl.getD i 0) i).getD j 0 = l.getD j 0 := by rw [List.getD_eq_getElem?_getD,List.getElem?_set_ne c,← List.getD_eq_getElem?_getD]
        rcases h with ⟨s,a,b,d⟩ | h
        · by_cases e' : s = i
          · subst e'; exact absurd d c
          · exact .inl ⟨s,by omega,by omega,d⟩
        · refine .inr ?_
          rw [hne]
          exact ⟨h.1,by omega⟩)
    exact ⟨this.1,by omega⟩
theorem yBT {cl : List Nat} {n p b : Nat} {s1 s2 s5 : AV} (hn : n < 1099511627) (hl : cl.length = n) (hc : ∀ x ∈ cl,x < n) (hpb : p ≠ b) : ∀ e i (l : List Nat) (G : Heap),i + e = n → l.length = n → G[b]? = some (.cells false false [.own false p 0 n 1]) → G[p]? = some (.cells false false (xAQ l)) →
    L.loop xJt xTp ⟨xJu s1 s2 s5 (.ptr b 0) (.sl false n (xAQ cl)) (.int .i64 (n : Nat)) (.int .i64 (i : Nat)),G⟩ =
      some (.exit 0,⟨xJu s1 s2 s5 (.ptr b 0) (.sl false n (xAQ cl)) (.int .i64 (n : Nat)) (.int .i64 (n : Nat)),G.set p (.cells false false (xAQ (xID cl l i e)))⟩) := by
  intro e
  induction e with
  | zero =>
    intro i l G hi hl1 g1 g2
    obtain rfl : i = n := by omega
    have hG := xBI g2
    have xCK : G.set p (.cells false false (xAQ l)) = G := by
      apply List.ext_getElem?
      intro q
      by_cases c : p = q
      · subst c; rw [xA5 hG,g2]
      · rw [xAR c]
    rw [xID,xCK,xXY]
    simp (maxSteps := 30000000) (disch := first | assumption | omega | (simp only [WL,AV.isCell] <;> omega) | rfl | decide) only [↓reduceIte,WB,xAC,xAc,xAB,xAk,xAj,AV.cells,AV.isCell,xAb,xAf,xAg,WP,xAt,xAm,xA0,xAZ,xAX,xAq,xAv,xAu,W2,xAd,xAe,xAh,Nat.reduceAdd,Nat.reduceSub,Nat.reduceLeDiff,Nat.reduceMul,Int.reduceAdd,Int.reduceSub,Int.reduceMul,Int.reduceLT,Int.reduceLE,Int.reduceEq,Int.reduceToNat,Int.reduceNeg,Nat.reduceEqDiff,Nat.reduceBEq,Nat.reduceLT,xAW,xBs,xBv,xBR,xBS,xBP,xAR,xA5,List.length_map,List.set_set,xDs,xPF,xTq]
  | succ e ih =>
    intro i l G hi hl1 g1 g2
    have hG := xBI g2
    have hlt : ((i : Nat) : Int) < (n : Nat) := by omega
    have hi2 : i < n := by omega
    have hi3 : i < cl.length := by omega
    have hx := hc _ (xAA (a := 0) hi3)
    have ih' := ih (i + 1) (l.set (cl.getD i 0) i) (G.set p (.cells false false (xAQ (l.set (cl.getD i 0) i)))) (by omega) (by simpa using hl1) (by rw [xAR hpb,g1]) (xA5 hG)
    rw [List.set_set] at ih'
    have hx2 : cl.getD i 0 < l.length := by omega
    rw [xID,xXY]
    simp (maxSteps := 30000000) (disch := first | assumption | omega | (simp only [WL,AV.isCell] <;> omega) | rfl | decide) only [↓reduceIte,WB,xAC,xAc,xAB,xAk,xAj,AV.cells,AV.isCell,xAb,xAf,xAg,WP,xAt,xAm,xA0,xAZ,xAX,xAq,xAv,xAu,W2,xAd,xAe,xAh,Nat.reduceAdd,Nat.reduceSub,Nat.reduceLeDiff,Nat.reduceMul,Int.reduceAdd,Int.reduceSub,Int.reduceMul,Int.reduceLT,Int.reduceLE,Int.reduceEq,Int.reduceToNat,Int.reduceNeg,Nat.reduceEqDiff,Nat.reduceBEq,Nat.reduceLT,xAW,xBs,xBv,xBR,xBS,xBP,xAR,xA5,List.length_map,List.set_set,xDs,xPF,xTq,hlt,hi2,hi3,hl,g1,g2,hx,hx2,hl1,ih']
def xFT (ks : List Nat) (c : Nat) : List Nat := if c ∈ ks then ks else ks ++ [c]
def xXH (cl row : List Nat) : List Nat × List Nat → Nat → Nat → List Nat × List Nat
  | st,_,0 => st
  | st,i,e + 1 => xXH cl row (st.1.set i (pos (cl.getD (row.getD i 0) 0) (xFT st.2 (cl.getD (row.getD i 0) 0))),xFT st.2 (cl.getD (row.getD i 0) 0)) (i + 1) e
section
variable {P : Nat → Prop} {T : Nat} {G : Heap} {ks : List Nat}
theorem xVU {k : Nat} (hT : ¬ P T) (hB : ∀ n,G.length ≤ n → P n) (h : QN P T G ks) (hl : ks.length < 1099511627) :
    ∃ G' b,L.icall (.func 70 []) [.ptr T 0,.int .i64 (k : Nat)] G = some (.tup [.int .i64 (pos k (xFT ks k) : Nat),.bool b],G') ∧ QN P T G' (xFT ks k) ∧ KtP P T G G' := by
  unfold xFT
  by_cases hk : k ∈ ks
  · obtain ⟨G',e1,e2,e3⟩ := xV5 hT hB h hk hl
    rw [if_pos hk]
    exact ⟨G',false,e1,e2,e3⟩
  · obtain ⟨G',e1,e2,e3⟩ := xV4 hT hB h hk hl
    rw [if_neg hk]
    have hp : ∀ l : List Nat,k ∉ l → pos k (l ++ [k]) = l.length := by
      intro l
      induction l with
      | nil => intro _; simp [pos]
      | cons a t ih =>
        intro hn
        rw [List.cons_append,pos,if_neg (fun e => hn (by simp [e])),ih (fun e => hn (by simp [e])),List.length_cons]
    rw [hp ks hk]
    exact ⟨G',true,e1,e2,e3⟩
theorem xXI (ks : List Nat) (k : Nat) : (xFT ks k).length ≤ ks.length + 1 := by
  unfold xFT
  split <;> simp
theorem QN.setr {p : Nat} (h : QN P T G ks) (hp : ¬ P p) (hT : p ≠ T) (b : Blk) : QN P T (G.set p b) ks := by
  obtain ⟨mv,lv,q1,q2⟩ := h
  refine ⟨mv,lv,by rw [xAR hT,q1],?_⟩
  rcases q2 with q2 | ⟨q,r,e1,e2,p1,p2,m1,m2⟩
  · exact .inl q2
  · exact .inr ⟨q,r,e1,e2,p1,p2,by rw [xAR (fun e : p = q => hp (e ▸ p1)),m1],by rw [xAR (fun e : p = r => hp (e ▸ p2)),m2]⟩
end
section
variable {P : Nat → Prop} {T p cb n : Nat} {cl row : List Nat} {s1 s2 s12 : AV}
theorem yC2 (hT : ¬ P T) (hp : ¬ P p) (hc : ¬ P cb) (pT : p ≠ T) (cT : cb ≠ T) (pc : p ≠ cb) (hrow : row.length < 1000) (hcl : cl.length < 1099511627) (hr : ∀ x ∈ row,x < cl.length) : ∀ e i (st : List Nat × List Nat) (G : Heap),i + e = row.length → st.1.length = row.length → st.2.length + e < 1099511627 → (∀ n,G.length ≤ n → P n) →
    G[p]? = some (.cells false false (xAQ st.1)) → G[cb]? = some (.cells false false [.sl false cl.length (xAQ cl)]) → QN P T G st.2 →
    ∃ G',L.loop xJv xTr ⟨xJw s1 s2 (.ptr cb 0) (.ptr T 0) s12 (.own false p 0 row.length 1) (.sl false row.length (xAQ row)) (.int .i64 (row.length : Nat)) (.int .i64 (i : Nat)),G⟩ =
      some (.exit 4,⟨xJw s1 s2 (.ptr cb 0) (.ptr T 0) s12 (.own false p 0 row.length 1) (.sl false row.length (xAQ row)) (.int .i64 (row.length : Nat)) (.int .i64 (row.length : Nat)),G'⟩) ∧
      G'[p]? = some (.cells false false (xAQ (xXH cl row st i e).1)) ∧ QN P T G' (xXH cl row st i e).2 ∧ G.length ≤ G'.length ∧ ∀ b,¬ P b → b ≠ T → b ≠ p → G'[b]? = G[b]? := by
  intro e
  induction e with
  | zero =>
    intro i st G hi hl hk hB g1 g2 hq
    obtain rfl : i = row.length := by omega
    refine ⟨G,?_,g1,hq,Nat.le_refl _,fun _ _ _ _ => rfl⟩
    rw [xXZ]
    simp (maxSteps := 30000000) (disch := first | assumption | omega | (simp only [WL,AV.isCell] <;> omega) | rfl | decide) only [↓reduceIte,WB,xAC,xAc,xAB,xAk,xAj,AV.cells,AV.isCell,xAb,xAf,xAg,WP,xAt,xAm,xA0,xAZ,xAX,xAq,xAv,xAu,W2,xAd,xAe,xAh,Nat.reduceAdd,Nat.reduceSub,Nat.reduceLeDiff,Nat.reduceMul,Int.reduceAdd,Int.reduceSub,Int.reduceMul,Int.reduceLT,Int.reduceLE,Int.reduceEq,Int.reduceToNat,Int.reduceNeg,Nat.reduceEqDiff,Nat.reduceBEq,Nat.reduceLT,xAW,xBs,xBv,xBR,xBS,xBP,xAR,xA5,List.length_map,List.set_set,xDs,xPG,xPH]
  | succ e ih =>
    intro i st G hi hl hk hB g1 g2 hq
    have hlt : ((i : Nat) : Int) < (row.length : Nat) := by omega
    have hi2 : i < row.length := by omega
    have hi3 : i < st.1.length := by omega
    have hx := hr _ (xAA (a := 0) hi2)
    obtain ⟨G1,b,k1,k2,k3⟩ := xVU (k := cl.getD (row.getD i 0) 0) hT hB hq (by omega)
    have f1 : G1[p]? = some (.cells false false (xAQ st.1)) := (k3.2 p hp pT).trans g1
    have f2 : G1[cb]? = some (.cells false false [.sl false cl.length (xAQ cl)]) := (k3.2 cb hc cT).trans g2
    have hG1 := xBI f1
    have hpl := xXI st.2 (cl.getD (row.getD i 0) 0)
    obtain ⟨G2,m1,m2,m3,m4,m5⟩ := ih (i + 1) (st.1.set i (pos (cl.getD (row.getD i 0) 0) (xFT st.2 (cl.getD (row.getD i 0) 0))),xFT st.2 (cl.getD (row.getD i 0) 0)) (G1.set p (.cells false false (xAQ (st.1.set i (pos (cl.getD (row.getD i 0) 0) (xFT st.2 (cl.getD (row.getD i 0) 0))))))) (by omega) (by simpa using hl) (by simp only; omega) (fun n hn => hB n (by have := k3.1; rw [List.length_set] at hn; omega)) (xA5 hG1) (by rw [xAR pc,f2]) (k2.setr hp pT _)
    refine ⟨G2,?_,m2,m3,by have := k3.1; rw [List.length_set] at m4; omega,fun b a1 a2 a3 => (m5 b a1 a2 a3).trans ((xAR (fun e => a3 e.symm)).trans (k3.2 b a1 a2))⟩
    generalize pos (cl.getD (row.getD i 0) 0) (xFT st.2 (cl.getD (row.getD i 0) 0)) = num at *
    rw [xXZ]
    simp (maxSteps := 30000000) (disch := first | assumption | omega | (simp only [WL,AV.isCell] <;> omega) | rfl | decide) only [↓reduceIte,WB,xAC,xAc,xAB,xAk,xAj,AV.cells,AV.isCell,xAb,xAf,xAg,WP,xAt,xAm,xA0,xAZ,xAX,xAq,xAv,xAu,W2,xAd,xAe,xAh,Nat.reduceAdd,Nat.reduceSub,Nat.reduceLeDiff,Nat.reduceMul,Int.reduceAdd,Int.reduceSub,Int.reduceMul,Int.reduceLT,Int.reduceLE,Int.reduceEq,Int.reduceToNat,Int.reduceNeg,Nat.reduceEqDiff,Nat.reduceBEq,Nat.reduceLT,xAW,xBs,xBv,xBR,xBS,xBP,xAR,xA5,List.length_map,List.set_set,xDs,xPG,xPH,hlt,hi2,hi3,hl,g1,g2,hx,k1,f1,f2,m1]
end
def rwG : List Nat → List Nat → List Nat × List Nat
  | [],ks => ([],ks)
  | c :: cs,ks => (pos c (xFT ks c) :: (rwG cs (xFT ks c)).1,(rwG cs (xFT ks c)).2)
theorem xLP {l : List Nat} {i x : Nat} (h : i < l.length) : (l.set i x).take (i + 1) = l.take i ++ [x] := by
  rw [List.take_add_one,List.take_set_of_le (Nat.le_refl _),List.getElem?_set_self h]
  rfl
theorem xRD (cl row : List Nat) : ∀ (e i : Nat) (l ks : List Nat),i + e = row.length → l.length = row.length →
    xXH cl row (l,ks) i e = (l.take i ++ (rwG ((row.drop i).map fun t => cl.getD t 0) ks).1,(rwG ((row.drop i).map fun t => cl.getD t 0) ks).2)
  | 0,i,l,ks,h,hl => by
    obtain rfl : i = row.length := by omega
    rw [xXH,List.drop_eq_nil_of_le (Nat.le_refl _),List.map_nil,rwG,List.take_of_length_le (Nat.le_of_eq hl),List.append_nil]
  | e + 1,i,l,ks,h,hl => by
    have hi : i < row.length := by omega
    rw [xXH,xRD cl row e (i + 1) _ _ (by omega) (by simpa using hl),xA6 (a := 0) hi,List.map_cons,rwG,xLP (show i < l.length by omega),List.append_assoc]
    rfl
theorem xRE (cl row ks : List Nat) : xXH cl row (List.replicate row.length 0,ks) 0 row.length = rwG (row.map fun t => cl.getD t 0) ks := by
  rw [xRD cl row row.length 0 _ ks (by omega) (by simp)]
  simp
theorem xXJ (ks : List Nat) (c : Nat) : ∃ r,xFT ks c = ks ++ r := by
  unfold xFT
  split
  · exact ⟨[],by simp⟩
  · exact ⟨[c],rfl⟩
theorem xRF (ks : List Nat) (c : Nat) : c ∈ xFT ks c := by
  unfold xFT
  split
  · assumption
  · simp
theorem yAu {ks : List Nat} (h : ks.Nodup) (c : Nat) : (xFT ks c).Nodup := by
  unfold xFT
  split
  · exact h
  · rename_i hc
    refine List.nodup_append.2 ⟨h,by simp,?_⟩
    intro a ha b hb
    rw [List.mem_singleton] at hb
    subst hb
    exact fun e => hc (e ▸ ha)
theorem xPg : ∀ (cs ks : List Nat),∃ r,(rwG cs ks).2 = ks ++ r
  | [],ks => ⟨[],by simp [rwG]⟩
  | c :: cs,ks => by
    obtain ⟨r,h⟩ := xXJ ks c
    obtain ⟨r',h'⟩ := xPg cs (xFT ks c)
    exact ⟨r ++ r',by rw [rwG]; simp only; rw [h',h,List.append_assoc]⟩
theorem xY6 : ∀ (cs : List Nat) {ks : List Nat},ks.Nodup → (rwG cs ks).2.Nodup
  | [],ks,h => h
  | c :: cs,ks,h => xY6 cs (yAu h c)
theorem xRG : ∀ (cs : List Nat) {ks : List Nat} {x : Nat},x ∈ (rwG cs ks).2 → x ∈ ks ∨ x ∈ cs
  | [],ks,x,h => .inl h
  | c :: cs,ks,x,h => by
    rcases xRG cs h with h | h
    · unfold xFT at h
      split at h
      · exact .inl h
      · rcases List.mem_append.1 h with h | h
        · exact .inl h
        · exact .inr (by simp_all)
    · exact .inr (by simp [h])
theorem xPh : ∀ (cs ks : List Nat),(rwG cs ks).1.length = cs.length
  | [],_ => rfl
  | c :: cs,ks => by rw [rwG]; simp [xPh cs]
theorem xY7 : ∀ (cs ks : List Nat) (i : Nat),i < cs.length → cs.getD i 0 ∈ (rwG cs ks).2 ∧ (rwG cs ks).1.getD i 0 = pos (cs.getD i 0) (rwG cs ks).2
  | c :: cs,ks,0,_ => by
    obtain ⟨r,h⟩ := xPg cs (xFT ks c)
    rw [rwG]
    simp only [List.getD_cons_zero]
    rw [h,xLS r (xRF ks c)]
    exact ⟨List.mem_append_left _ (xRF ks c),rfl⟩
  | c :: cs,ks,i + 1,h => by
    have := xY7 cs (xFT ks c) i (by simpa using h)
    rw [rwG]
    simpa using this
structure Num (M : Ma) (cl : List Nat) : Prop where
  len : cl.length = M.next.length
  lt : ∀ x ∈ cl,x < M.next.length
  iff : ∀ s t,s < M.next.length → t < M.next.length → (cl.getD s 0 = cl.getD t 0 ↔ Sim M M s t)
theorem Sim.symm {A B : Ma} (hi : A.i = B.i) {s t : Nat} (h : Sim A B s t) : Sim B A t s := fun w hw => (h w (by rw [hi]; exact hw)).symm
theorem Sim.trans {A B C : Ma} (hi : A.i = B.i) {s t u : Nat} (h : Sim A B s t) (h' : Sim B C t u) : Sim A C s u := fun w hw => (h w hw).trans (h' w (by rw [← hi]; exact hw))
theorem Sim.next {A B : Ma} {s t i : Nat} (h : Sim A B s t) (hi : i < two A.i) : em A s i = em B t i ∧ Sim A B (nx A s i) (nx B t i) := by
  constructor
  · have := h [i] (by simpa using hi)
    simpa [xCM] using this
  · intro w hw
    have := h (i :: w) (fun y hy => by rcases List.mem_cons.1 hy with rfl | hy; exact hi; exact hw y hy)
    rw [xCM,xCM] at this
    injection this
theorem xOv : ∀ (l r : List Nat) (a b : Nat),l.length = r.length → (∀ p,p < l.length → (l.getD p 0 = a ↔ r.getD p 0 = b)) → pos a l = pos b r ∧ (a ∈ l ↔ b ∈ r)
  | [],[],a,b,_,_ => ⟨rfl,by simp⟩
  | [],_ :: _,_,_,h,_ => by simp at h
  | _ :: _,[],_,_,h,_ => by simp at h
  | x :: l,y :: r,a,b,h,hp => by
    have h0 := hp 0 (by simp)
    simp only [List.getD_cons_zero] at h0
    obtain ⟨e1,e2⟩ := xOv l r a b (by simpa using h) (fun p hq => by have := hp (p + 1) (by simpa using hq); simpa using this)
    by_cases c : x = a
    · have c' := h0.1 c
      subst c
      subst c'
      exact ⟨by simp [pos],by simp⟩
    · have c' : ¬ y = b := fun e => c (h0.2 e)
      refine ⟨?_,?_⟩
      · rw [pos,pos]
        first
          | rw [if_neg c,if_neg c',e1]
          | rw [if_neg (fun e => c e.symm),if_neg (fun e => c' e.symm),e1]
      · simp only [List.mem_cons]
        rw [e2]
        constructor
        · rintro (e | e)
          · exact absurd e.symm c
          · exact .inr e
        · rintro (e | e)
          · exact absurd e.symm c'
          · exact .inr e
section
variable {A B : Ma} {ca cb : List Nat}
def InS (A B : Ma) (ca cb ka kb : List Nat) : Prop := ka.length = kb.length ∧ ∀ p,p < ka.length → ∃ s t,s < A.next.length ∧ t < B.next.length ∧ ca.getD s 0 = ka.getD p 0 ∧ cb.getD t 0 = kb.getD p 0 ∧ Sim A B s t
theorem InS.iff (hi : A.i = B.i) (hA : Num A ca) (hB : Num B cb) {ka kb : List Nat} (h : InS A B ca cb ka kb) {s t : Nat} (hs : s < A.next.length) (ht : t < B.next.length) (hst : Sim A B s t) : pos (ca.getD s 0) ka = pos (cb.getD t 0) kb ∧ (ca.getD s 0 ∈ ka ↔ cb.getD t 0 ∈ kb) := by
  refine xOv ka kb _ _ h.1 fun p hp => ?_
  obtain ⟨s',t',h1,h2,h3,h4,h5⟩ := h.2 p hp
  rw [← h3,← h4,hA.iff _ _ h1 hs,hB.iff _ _ h2 ht]
  exact ⟨fun e => ((h5.symm hi).trans hi.symm e).trans hi.symm hst,fun e => (h5.trans hi e).trans hi (hst.symm hi)⟩
theorem InS.put (hi : A.i = B.i) (hA : Num A ca) (hB : Num B cb) {ka kb : List Nat} (h : InS A B ca cb ka kb) {s t : Nat} (hs : s < A.next.length) (ht : t < B.next.length) (hst : Sim A B s t) : InS A B ca cb (xFT ka (ca.getD s 0)) (xFT kb (cb.getD t 0)) := by
  have hm := (h.iff hi hA hB hs ht hst).2
  unfold xFT
  by_cases c : ca.getD s 0 ∈ ka
  · rw [if_pos c,if_pos (hm.1 c)]
    exact h
  · rw [if_neg c,if_neg (fun e => c (hm.2 e))]
    refine ⟨by simp [h.1],fun p hp => ?_⟩
    rw [List.length_append,List.length_singleton] at hp
    by_cases cp : p < ka.length
    · obtain ⟨s',t',h1,h2,h3,h4,h5⟩ := h.2 p cp
      exact ⟨s',t',h1,h2,by rw [xBH _ _ _ cp,h3],by rw [xBH _ _ _ (h.1 ▸ cp),h4],h5⟩
    · obtain rfl : p = ka.length := by omega
      refine ⟨s,t,hs,ht,?_,?_,hst⟩
      · rw [xEd]
      · rw [h.1,xEd]
theorem InS.row (hi : A.i = B.i) (hA : Num A ca) (hB : Num B cb) : ∀ (l : List (Nat × Nat)) {ka kb : List Nat},InS A B ca cb ka kb → (∀ x ∈ l,x.1 < A.next.length ∧ x.2 < B.next.length ∧ Sim A B x.1 x.2) →
    (rwG (l.map fun x => ca.getD x.1 0) ka).1 = (rwG (l.map fun x => cb.getD x.2 0) kb).1 ∧ InS A B ca cb (rwG (l.map fun x => ca.getD x.1 0) ka).2 (rwG (l.map fun x => cb.getD x.2 0) kb).2
  | [],ka,kb,h,_ => ⟨rfl,h⟩
  | x :: l,ka,kb,h,hl => by
    obtain ⟨h1,h2,h3⟩ := hl x (by simp)
    have hp := h.put hi hA hB h1 h2 h3
    obtain ⟨e1,e2⟩ := InS.row hi hA hB l hp (fun y hy => hl y (by simp [hy]))
    have e3 := (hp.iff hi hA hB h1 h2 h3).1
    simp only [List.map_cons,rwG]
    rw [e1,e3]
    exact ⟨rfl,e2⟩
end
abbrev Mst := List Nat × List (List Nat) × List (List Nat)
def spO (cl : List Nat) : List Nat := xID cl (List.replicate cl.length 0) 0 cl.length
def xOA (M : Ma) (cl : List Nat) (k : Nat) (st : Mst) : Mst :=
  ((rwG ((M.next.getD ((spO cl).getD (st.1.getD k 0) 0) []).map fun t => cl.getD t 0) st.1).2,
    st.2.1 ++ [(rwG ((M.next.getD ((spO cl).getD (st.1.getD k 0) 0) []).map fun t => cl.getD t 0) st.1).1],
    st.2.2 ++ [M.emit.getD ((spO cl).getD (st.1.getD k 0) 0) []])
def xIS (M : Ma) (cl : List Nat) : Nat → Nat → Mst → Mst
  | 0,_,st => st
  | e + 1,k,st => if k < st.1.length then xIS M cl e (k + 1) (xOA M cl k st) else st
def xGB (M : Ma) (cl : List Nat) : Mst := xIS M cl (M.next.length + 1) 0 ([cl.getD M.s 0],[],[])
def xD1 (M : Ma) (cl : List Nat) : Ma := ⟨M.i,M.o,0,(xGB M cl).2.1,(xGB M cl).2.2⟩
theorem xOw {M : Ma} {cl : List Nat} (h : Num M cl) {s : Nat} (hs : s < M.next.length) : (spO cl).getD (cl.getD s 0) 0 < M.next.length ∧ cl.getD ((spO cl).getD (cl.getD s 0) 0) 0 = cl.getD s 0 := by
  have hl := h.len
  have hx := h.lt _ (xAA (a := 0) (show s < cl.length by omega))
  have := xRC cl cl.length 0 (List.replicate cl.length 0) (cl.getD s 0) (by rw [List.length_replicate]; omega) (.inl ⟨s,by omega,by omega,rfl⟩)
  unfold spO
  exact ⟨by omega,this.1⟩
def IsC (M : Ma) (cl : List Nat) (c : Nat) : Prop := ∃ s,s < M.next.length ∧ cl.getD s 0 = c
theorem IsC.sp {M : Ma} {cl : List Nat} (h : Num M cl) {c : Nat} (hc : IsC M cl c) : (spO cl).getD c 0 < M.next.length ∧ cl.getD ((spO cl).getD c 0) 0 = c := by
  obtain ⟨s,hs,rfl⟩ := hc
  exact xOw h hs
theorem IsC.lt {M : Ma} {cl : List Nat} (h : Num M cl) {c : Nat} (hc : IsC M cl c) : c < M.next.length := by
  obtain ⟨s,hs,rfl⟩ := hc
  exact h.lt _ (xAA (a := 0) (by have := h.len; omega))
structure OI (M : Ma) (cl : List Nat) (k : Nat) (st : Mst) : Prop where
  nd : st.1.Nodup
  isc : ∀ c ∈ st.1,IsC M cl c
  l1 : st.2.1.length = k
  l2 : st.2.2.length = k
  le : k ≤ st.1.length
  first : st.1.getD 0 0 = cl.getD M.s 0
  pos : 0 < st.1.length
  row : ∀ j,j < k → (st.2.1.getD j []).length = two M.i ∧ st.2.2.getD j [] = M.emit.getD ((spO cl).getD (st.1.getD j 0) 0) [] ∧ ∀ i,i < two M.i → cl.getD (nx M ((spO cl).getD (st.1.getD j 0) 0) i) 0 ∈ st.1 ∧ (st.2.1.getD j []).getD i 0 = Mealy.pos (cl.getD (nx M ((spO cl).getD (st.1.getD j 0) 0) i) 0) st.1
section
variable {M : Ma} {cl : List Nat}
theorem OI.len {k : Nat} {st : Mst} (h : OI M cl k st) (hN : Num M cl) : st.1.length ≤ M.next.length := xFn _ _ h.nd fun c hc => (h.isc c hc).lt hN
theorem OI.start (hV : Vm M) : OI M cl 0 ([cl.getD M.s 0],[],[]) :=
  ⟨by simp,fun c hc => ⟨M.s,hV.s,by simp at hc; exact hc.symm⟩,rfl,rfl,by simp,rfl,by simp,fun j hj => by omega⟩
theorem xVV (f : Nat → Nat) {l : List Nat} {i : Nat} (h : i < l.length) : (l.map f).getD i 0 = f (l.getD i 0) := by
  rw [List.getD_eq_getElem?_getD,List.getD_eq_getElem?_getD,List.getElem?_map,List.getElem?_eq_getElem h]
  rfl
theorem OI.step (hV : Vm M) (hN : Num M cl) {k : Nat} {st : Mst} (h : OI M cl k st) (hk : k < st.1.length) : OI M cl (k + 1) (xOA M cl k st) := by
  obtain ⟨hs1,hs2⟩ := (h.isc _ (xAA (a := 0) hk)).sp hN
  obtain ⟨r,hr⟩ := xPg ((M.next.getD ((spO cl).getD (st.1.getD k 0) 0) []).map fun t => cl.getD t 0) st.1
  have hrl : (M.next.getD ((spO cl).getD (st.1.getD k 0) 0) []).length = two M.i := hV.rl _ (xAA hs1)
  have hat : ∀ j,j < st.1.length → (xOA M cl k st).1.getD j 0 = st.1.getD j 0 := by
    intro j hj
    unfold xOA
    simp only
    rw [hr,xBH _ _ _ hj]
  have hle : st.1.length ≤ (xOA M cl k st).1.length := by
    unfold xOA
    simp only
    rw [hr,List.length_append]
    omega
  refine ⟨xY6 _ h.nd,?_,?_,?_,by omega,by rw [hat 0 h.pos,h.first],by have := h.pos; omega,?_⟩
  · intro c hc
    rcases xRG _ hc with hc | hc
    · exact h.isc c hc
    · obtain ⟨t,ht,rfl⟩ := List.mem_map.1 hc
      exact ⟨t,hV.rb _ (xAA hs1) t ht,rfl⟩
  · show (st.2.1 ++ [_]).length = k + 1
    rw [List.length_append,h.l1]
    rfl
  · show (st.2.2 ++ [_]).length = k + 1
    rw [List.length_append,h.l2]
    rfl
  · intro j hj
    by_cases c : j < k
    · obtain ⟨a1,a2,a3⟩ := h.row j c
      have g1 : (xOA M cl k st).2.1.getD j [] = st.2.1.getD j [] := xBH _ _ _ (by rw [h.l1]; exact c)
      have g2 : (xOA M cl k st).2.2.getD j [] = st.2.2.getD j [] := xBH _ _ _ (by rw [h.l2]; exact c)
      rw [g1,g2,hat j (by omega)]
      refine ⟨a1,a2,fun i hi => ?_⟩
      obtain ⟨b1,b2⟩ := a3 i hi
      have e : (xOA M cl k st).1 = st.1 ++ r := hr
      rw [e,b2,xLS r b1]
      exact ⟨List.mem_append_left _ b1,rfl⟩
    · obtain rfl : j = k := by omega
      have g1 : (xOA M cl j st).2.1.getD j [] = (rwG ((M.next.getD ((spO cl).getD (st.1.getD j 0) 0) []).map fun t => cl.getD t 0) st.1).1 := by
        unfold xOA
        simp only
        conv => lhs; rw [← h.l1]
        rw [h.l1]
        have := xEd st.2.1 (rwG ((M.next.getD ((spO cl).getD (st.1.getD j 0) 0) []).map fun t => cl.getD t 0) st.1).1 []
        rw [h.l1] at this
        exact this
      have g2 : (xOA M cl j st).2.2.getD j [] = M.emit.getD ((spO cl).getD (st.1.getD j 0) 0) [] := by
        have := xEd st.2.2 (M.emit.getD ((spO cl).getD (st.1.getD j 0) 0) []) []
        rw [h.l2] at this
        exact this
      rw [g1,g2,hat j hk]
      refine ⟨by rw [xPh,List.length_map,hrl],rfl,fun i hi => ?_⟩
      have := xY7 ((M.next.getD ((spO cl).getD (st.1.getD j 0) 0) []).map fun t => cl.getD t 0) st.1 i (by rw [List.length_map,hrl]; exact hi)
      rw [xVV _ (by rw [hrl]; exact hi)] at this
      exact this
theorem OI.all (hV : Vm M) (hN : Num M cl) : ∀ (e k : Nat) (st : Mst),OI M cl k st → M.next.length < e + k → OI M cl (xIS M cl e k st).1.length (xIS M cl e k st)
  | 0,k,st,h,he => by
    have := h.len hN
    have := h.le
    omega
  | e + 1,k,st,h,he => by
    rw [xIS]
    by_cases c : k < st.1.length
    · rw [if_pos c]
      exact OI.all hV hN e (k + 1) _ (h.step hV hN c) (by omega)
    · rw [if_neg c]
      have := h.le
      obtain rfl : k = st.1.length := by omega
      exact h
theorem xFU (hV : Vm M) (hN : Num M cl) : OI M cl (xGB M cl).1.length (xGB M cl) := OI.all hV hN _ _ _ (OI.start hV) (by omega)
theorem xFV (hV : Vm M) (hN : Num M cl) : Vm (xD1 M cl) ∧ (xD1 M cl).next.length ≤ M.next.length := by
  have h := xFU hV hN
  have hl := h.len hN
  have hn9 := hV.n9
  have e1 : (xD1 M cl).next.length = (xGB M cl).1.length := h.l1
  have e2 : (xD1 M cl).emit.length = (xGB M cl).1.length := h.l2
  have hmem : ∀ r ∈ (xD1 M cl).next,∃ j,j < (xGB M cl).1.length ∧ r = (xGB M cl).2.1.getD j [] := by
    intro r hr
    obtain ⟨j,hj,rfl⟩ := List.getElem_of_mem hr
    refine ⟨j,by omega,?_⟩
    show _ = (xD1 M cl).next.getD j []
    rw [List.getD_eq_getElem?_getD,List.getElem?_eq_getElem hj]
    rfl
  have hmem2 : ∀ r ∈ (xD1 M cl).emit,∃ j,j < (xGB M cl).1.length ∧ r = M.emit.getD ((spO cl).getD ((xGB M cl).1.getD j 0) 0) [] := by
    intro r hr
    obtain ⟨j,hj,rfl⟩ := List.getElem_of_mem hr
    refine ⟨j,by omega,?_⟩
    rw [← (h.row j (by omega)).2.1]
    show _ = (xD1 M cl).emit.getD j []
    rw [List.getD_eq_getElem?_getD,List.getElem?_eq_getElem hj]
    rfl
  have hsp : ∀ j,j < (xGB M cl).1.length → (spO cl).getD ((xGB M cl).1.getD j 0) 0 < M.emit.length := fun j hj => by
    rw [hV.el]
    exact ((h.isc _ (xAA (a := 0) hj)).sp hN).1
  refine ⟨⟨hV.io,by rw [e1]; exact h.pos,by omega,by rw [e1,e2],by rw [e1]; exact h.pos,?_,?_,?_,?_⟩,by omega⟩
  · intro r hr
    obtain ⟨j,hj,rfl⟩ := hmem r hr
    exact (h.row j hj).1
  · intro r hr
    obtain ⟨j,hj,rfl⟩ := hmem2 r hr
    exact hV.wl _ (xAA (hsp j hj))
  · intro r hr x hx
    obtain ⟨j,hj,rfl⟩ := hmem r hr
    obtain ⟨i,hi,rfl⟩ := List.getElem_of_mem hx
    obtain ⟨b0,_,b⟩ := h.row j hj
    obtain ⟨b1,b2⟩ := b i (by omega)
    rw [List.getD_eq_getElem?_getD (l := (xGB M cl).2.1.getD j []),List.getElem?_eq_getElem hi,Option.getD_some] at b2
    rw [e1,b2]
    exact xOh b1
  · intro r hr x hx
    obtain ⟨j,hj,rfl⟩ := hmem2 r hr
    exact hV.wb _ (xAA (hsp j hj)) x hx
theorem xRH (hV : Vm M) (hN : Num M cl) : ∀ (w : List Nat) (k : Nat),k < (xGB M cl).1.length → (∀ x ∈ w,x < two M.i) → xCM (xD1 M cl) k w = xCM M ((spO cl).getD ((xGB M cl).1.getD k 0) 0) w
  | [],_,_,_ => rfl
  | x :: w,k,hk,hw => by
    have h := xFU hV hN
    obtain ⟨a1,a2,a3⟩ := h.row k hk
    have hx := hw x (by simp)
    obtain ⟨b1,b2⟩ := a3 x hx
    have hs := (h.isc _ (xAA (a := 0) hk)).sp hN
    have e1 : em (xD1 M cl) k x = em M ((spO cl).getD ((xGB M cl).1.getD k 0) 0) x := by
      unfold em
      show ((xGB M cl).2.2.getD k []).getD x 0 = _
      rw [a2]
    have e2 : nx (xD1 M cl) k x = Mealy.pos (cl.getD (nx M ((spO cl).getD ((xGB M cl).1.getD k 0) 0) x) 0) (xGB M cl).1 := b2
    rw [xCM,xCM,e1,e2,xRH hV hN w _ (xOh b1) (fun y hy => hw y (by simp [hy])),xOi b1]
    have hnx := hV.nx hs.1 hx
    have hq := xOw hN hnx
    rw [(hN.iff _ _ hq.1 hnx).1 hq.2 w (fun y hy => hw y (by simp [hy]))]
theorem xFW (hV : Vm M) (hN : Num M cl) : Sim (xD1 M cl) M 0 M.s := by
  intro w hw
  have h := xFU hV hN
  rw [xRH hV hN w 0 h.pos hw,h.first]
  have hq := xOw hN hV.s
  exact (hN.iff _ _ hq.1 hV.s).1 hq.2 w hw
end
section
variable {A B : Ma} {ca cb : List Nat}
theorem yAv (l r : List Nat) (f : Nat → Nat) (h : l.length = r.length) : l.map f = (l.zip r).map fun x => f x.1 := by
  rw [show (fun x : Nat × Nat => f x.1) = f ∘ Prod.fst from rfl,← List.map_map,List.map_fst_zip (by omega)]
theorem yAw (l r : List Nat) (f : Nat → Nat) (h : l.length = r.length) : r.map f = (l.zip r).map fun x => f x.2 := by
  rw [show (fun x : Nat × Nat => f x.2) = f ∘ Prod.snd from rfl,← List.map_map,List.map_snd_zip (by omega)]
theorem xRI (hA : Vm A) (hB : Vm B) (hi : A.i = B.i) (hNA : Num A ca) (hNB : Num B cb) : ∀ (e k : Nat) (sa sb : Mst),InS A B ca cb sa.1 sb.1 → sa.2 = sb.2 → (xIS A ca e k sa).2 = (xIS B cb e k sb).2 ∧ (xIS A ca e k sa).1.length = (xIS B cb e k sb).1.length
  | 0,k,sa,sb,h,h2 => ⟨h2,h.1⟩
  | e + 1,k,sa,sb,h,h2 => by
    rw [xIS,xIS]
    by_cases c : k < sa.1.length
    · rw [if_pos c,if_pos (h.1 ▸ c)]
      obtain ⟨s,t,hs,ht,e1,e2,e3⟩ := h.2 k c
      have qa := xOw hNA hs
      have qb := xOw hNB ht
      rw [e1] at qa
      rw [e2] at qb
      have hsim : Sim A B ((spO ca).getD (sa.1.getD k 0) 0) ((spO cb).getD (sb.1.getD k 0) 0) :=
        (((hNA.iff _ _ qa.1 hs).1 (qa.2.trans e1.symm)).trans rfl e3).trans hi ((hNB.iff _ _ ht qb.1).1 (e2.trans qb.2.symm))
      have la : (A.next.getD ((spO ca).getD (sa.1.getD k 0) 0) []).length = two A.i := hA.rl _ (xAA qa.1)
      have lb : (B.next.getD ((spO cb).getD (sb.1.getD k 0) 0) []).length = two B.i := hB.rl _ (xAA qb.1)
      have hll : (A.next.getD ((spO ca).getD (sa.1.getD k 0) 0) []).length = (B.next.getD ((spO cb).getD (sb.1.getD k 0) 0) []).length := by rw [la,lb,hi]
      have hz := InS.row hi hNA hNB ((A.next.getD ((spO ca).getD (sa.1.getD k 0) 0) []).zip (B.next.getD ((spO cb).getD (sb.1.getD k 0) 0) [])) h (by
        intro x hx
        obtain ⟨i,hi',rfl⟩ := List.getElem_of_mem hx
        have hi1 : i < two A.i := by
          rw [List.length_zip] at hi'
          omega
        rw [List.getElem_zip]
        have n1 := hA.nx qa.1 hi1
        have n2 := hB.nx qb.1 (hi ▸ hi1)
        have n3 := (hsim.next hi1).2
        have g1 : nx A ((spO ca).getD (sa.1.getD k 0) 0) i = (A.next.getD ((spO ca).getD (sa.1.getD k 0) 0) [])[i]'(by omega) := by
          unfold nx
          rw [List.getD_eq_getElem?_getD (l := A.next.getD _ _),List.getElem?_eq_getElem (by omega)]
          rfl
        have g2 : nx B ((spO cb).getD (sb.1.getD k 0) 0) i = (B.next.getD ((spO cb).getD (sb.1.getD k 0) 0) [])[i]'(by omega) := by
          unfold nx
          rw [List.getD_eq_getElem?_getD (l := B.next.getD _ _),List.getElem?_eq_getElem (by omega)]
          rfl
        rw [g1] at n1 n3
        rw [g2] at n2 n3
        exact ⟨n1,n2,n3⟩)
      rw [← yAv _ _ (fun t => ca.getD t 0) hll,← yAw _ _ (fun t => cb.getD t 0) hll] at hz
      refine xRI hA hB hi hNA hNB e (k + 1) _ _ hz.2 ?_
      have hem : A.emit.getD ((spO ca).getD (sa.1.getD k 0) 0) [] = B.emit.getD ((spO cb).getD (sb.1.getD k 0) 0) [] := xVR hA hB hi qa.1 qb.1 fun i hi' => (hsim.next hi').1
      unfold xOA
      simp only
      rw [hz.1,hem,h2]
    · rw [if_neg c,if_neg (h.1 ▸ c)]
      exact ⟨h2,h.1⟩
theorem xIE (M : Ma) (cl : List Nat) : ∀ (e d k : Nat) (st : Mst),(xIS M cl e k st).1.length < e + k → xIS M cl (e + d) k st = xIS M cl e k st
  | 0,d,k,st,h => by
    cases d with
    | zero => rfl
    | succ d =>
      rw [xIS] at h
      show xIS M cl (0 + (d + 1)) k st = st
      rw [Nat.zero_add,xIS,if_neg (by omega)]
  | e + 1,d,k,st,h => by
    rw [xIS] at h ⊢
    rw [show e + 1 + d = (e + d) + 1 from by omega,xIS]
    by_cases c : k < st.1.length
    · rw [if_pos c] at h ⊢
      rw [if_pos c]
      exact xIE M cl e d (k + 1) _ (by omega)
    · rw [if_neg c,if_neg c]
theorem xRJ (hA : Vm A) (hB : Vm B) (hi : A.i = B.i) (ho : A.o = B.o) (hNA : Num A ca) (hNB : Num B cb) (h : Sim A B A.s B.s) : xD1 A ca = xD1 B cb := by
  have la := (xFU hA hNA).len hNA
  have lb := (xFU hB hNB).len hNB
  have ea := xIE A ca (A.next.length + 1) (B.next.length + 1) 0 ([ca.getD A.s 0],[],[]) (by unfold xGB at la; omega)
  have eb := xIE B cb (B.next.length + 1) (A.next.length + 1) 0 ([cb.getD B.s 0],[],[]) (by unfold xGB at lb; omega)
  have := (xRI hA hB hi hNA hNB (A.next.length + 1 + (B.next.length + 1)) 0 ([ca.getD A.s 0],[],[]) ([cb.getD B.s 0],[],[]) ⟨rfl,fun p hp => by
    obtain rfl : p = 0 := by simpa using hp
    exact ⟨A.s,B.s,hA.s,hB.s,rfl,rfl,h⟩⟩ rfl).1
  rw [ea,Nat.add_comm (A.next.length + 1),eb] at this
  unfold xD1
  rw [hi,ho]
  unfold xGB
  rw [this]
end
def rsK : Option (List AV) → Option (List AV) → Bool
  | none,_ => true
  | some _,none => false
  | some cs,some cs' => cs.length == cs'.length && (cs.zip cs').all fun p => xWH 4 p.1 p.2
theorem xVW (H H' : Heap) (p : AV) (n : Nat) : xHi H H' p n = rsK (rd H p n) (rd H' p n) := by
  unfold xHi rsK
  cases rd H p n with
  | none => rfl
  | some a => cases rd H' p n <;> rfl
theorem xIF (R : Rec) (F : List AV) (H : Heap) (z : List AV) (es n : Nat) (ps : List (Nat × Arg)) : xAN R F H (.dslice z es n ps) = xDe H (xAa R F H (.dslice z es n ps)) := xB2 _ rfl
theorem xDr (z : List AV) (es n : Nat) (ps : List (Nat × Arg)) : xAD (.dslice z es n ps) = false := rfl
theorem xPi : rsK (some [.sl true 0 []]) (some [.sl true 0 []]) = true := by rfl
theorem xPj (z : Bool) (i o n e : Nat) : rsK (some [.own z i o n e]) (some [.own z i o n e]) = true := by simp [rsK,xWH]
abbrev yDR (s0 s3 s4 s7 s8 s10 s11 s12 s13 s14 s15 s16 s17 s18 s19 s20 s21 s22 s23 s24 s25 s26 s27 s28 s29 s30 s31 s32 s33 s34 s35 s36 s37 s38 s39 s40 s41 s42 s43 s44 s45 s46 s47 s48 s49 s50 s51 s52 s53 s54 s55 s56 s57 s58 s59 s60 s61 s62 s63 s64 s65 s66 s67 s68 s69 s70 s71 s72 s73 s74 s75 s76 s77 s78 s79 s80 s81 s82 s83 s84 s85 s86 s87 s88 s89 s90 s91 s92 s93 s94 s95 s96 s97 s98 s99 s100 s101 s102 s103 s104 s105 : AV) : List AV := [s0,.ptr 0 0,.ptr 1 0,s3,s4,.ptr 2 0,.ptr 4 0,s7,s8,.ptr 5 0,s10,s11,s12,s13,s14,s15,s16,s17,s18,s19,s20,s21,s22,s23,s24,s25,s26,s27,s28,s29,s30,s31,s32,s33,s34,s35,s36,s37,s38,s39,s40,s41,s42,s43,s44,s45,s46,s47,s48,s49,s50,s51,s52,s53,s54,s55,s56,s57,s58,s59,s60,s61,s62,s63,s64,s65,s66,s67,s68,s69,s70,s71,s72,s73,s74,s75,s76,s77,s78,s79,s80,s81,s82,s83,s84,s85,s86,s87,s88,s89,s90,s91,s92,s93,s94,s95,s96,s97,s98,s99,s100,s101,s102,s103,s104,s105]
def PM (pn pe : Nat) (n : Nat) : Prop := 6 ≤ n ∧ n ≠ 8 ∧ n ≠ 9 ∧ n ≠ pn ∧ n ≠ pe
def PMp (p pn pe : Nat) (n : Nat) : Prop := PM pn pe n ∧ n ≠ p
structure MI (M : Ma) (cl : List Nat) (lb : Blk) (pn pe : Nat) (G : Heap) (st : Mst) : Prop where
  g0 : G[0]? = some (.cells false false M.cells)
  g2 : G[2]? = some (.cells false false [.sl false cl.length (xAQ cl)])
  g3 : G[3]? = some (.cells false false (xAQ (spO cl)))
  g4 : G[4]? = some (.cells false false [.own false 3 0 cl.length 1])
  g8 : G[8]? = some (.cells false false [.ptr 5 0])
  gl : G[9]? = some lb
  q : QN (PM pn pe) 5 G st.1
  out : (pn = 0 ∧ pe = 0 ∧ st.2.1 = [] ∧ st.2.2 = [] ∧ G[1]? = some (.cells false false [.int .i64 (M.i : Nat),.int .i64 (M.o : Nat),.int .i64 0,.sl true 0 [],.sl true 0 []])) ∨
    (10 ≤ pn ∧ 10 ≤ pe ∧ pn ≠ pe ∧ G[1]? = some (.cells false false [.int .i64 (M.i : Nat),.int .i64 (M.o : Nat),.int .i64 0,.own false pn 0 st.2.1.length 1,.own false pe 0 st.2.2.length 1]) ∧ G[pn]? = some (.cells false false (st.2.1.map rowI)) ∧ G[pe]? = some (.cells false false (st.2.2.map rowB)))
theorem QN.mono {P P' : Nat → Prop} {T : Nat} {G G' : Heap} {ks : List Nat} (h : QN P T G ks) (hT : G'[T]? = G[T]?) (hP : ∀ n,n < G.length → P n → P' n ∧ G'[n]? = G[n]?) : QN P' T G' ks := by
  obtain ⟨mv,lv,q1,q2⟩ := h
  refine ⟨mv,lv,by rw [hT,q1],?_⟩
  rcases q2 with q2 | ⟨q,p,e1,e2,p1,p2,m1,m2⟩
  · exact .inl q2
  · have a := hP q (xBI m1) p1
    have b := hP p (xBI m2) p2
    exact .inr ⟨q,p,e1,e2,a.1,b.1,by rw [a.2,m1],by rw [b.2,m2]⟩
theorem xRK {l : List Nat} (hl : l.length < 100000) : L.pcall 72 [.sl false l.length (bs l)] = some (.sl false l.length (bs l)) := by
  rw [yDF,a72,xAr]
  simp (maxSteps := 30000000) (disch := first | assumption | omega | (simp only [WL,AV.isCell] <;> omega) | rfl | decide) only [↓reduceIte,WB,xAC,xAc,xAB,xAk,xAj,AV.cells,AV.isCell,xAb,xAf,xAg,WP,xAt,xAm,xA0,xAZ,xAX,xAq,xAv,xAu,WA,WH,W2,xAd,xAe,xAh,Nat.reduceAdd,Nat.reduceSub,Nat.reduceLeDiff,Nat.reduceMul,Int.reduceAdd,Int.reduceSub,Int.reduceMul,Int.reduceLT,Int.reduceLE,Int.reduceEq,Int.reduceToNat,Int.reduceNeg,Nat.reduceEqDiff,Nat.reduceBEq,Nat.reduceLT,xAW,xBs,xBv,xBR,xBS,xBP,xAR,xA5,List.length_map,List.set_set,xA9,xBa,rowI,rowB,xIG,xLR,xVW,xPi,xPj,List.map_append,xIF,xDr]
section
variable (s0 s3 s4 s7 s8 s10 s11 s12 s13 s14 s15 s16 s17 s18 s19 s20 s21 s22 s23 s24 s25 s26 s27 s28 s29 s30 s31 s32 s33 s34 s35 s36 s37 s38 s39 s40 s41 s42 s43 s44 s45 s46 s47 s48 s49 s50 s51 s52 s53 s54 s55 s56 s57 s58 s59 s60 s61 s62 s63 s64 s65 s66 s67 s68 s69 s70 s71 s72 s73 s74 s75 s76 s77 s78 s79 s80 s81 s82 s83 s84 s85 s86 s87 s88 s89 s90 s91 s92 s93 s94 s95 s96 s97 s98 s99 s100 s101 s102 s103 s104 s105 : AV) {M : Ma} {cl : List Nat}
abbrev xIT (st : Nat) (pend : Option AExit) : Blk := .loop st pend (yDR s0 s3 s4 s7 s8 s10 s11 s12 s13 s14 s15 s16 s17 s18 s19 s20 s21 s22 s23 s24 s25 s26 s27 s28 s29 s30 s31 s32 s33 s34 s35 s36 s37 s38 s39 s40 s41 s42 s43 s44 s45 s46 s47 s48 s49 s50 s51 s52 s53 s54 s55 s56 s57 s58 s59 s60 s61 s62 s63 s64 s65 s66 s67 s68 s69 s70 s71 s72 s73 s74 s75 s76 s77 s78 s79 s80 s81 s82 s83 s84 s85 s86 s87 s88 s89 s90 s91 s92 s93 s94 s95 s96 s97 s98 s99 s100 s101 s102 s103 s104 s105) [52,53] xTs xZt
set_option maxHeartbeats 4000000 in
theorem yAx {k pn pe : Nat} {st : Mst} {G : Heap} (hV : Vm M) (hN : Num M cl) (hk : k < st.1.length) (hO : OI M cl k st) (hE : MI M cl (xIT s0 s3 s4 s7 s8 s10 s11 s12 s13 s14 s15 s16 s17 s18 s19 s20 s21 s22 s23 s24 s25 s26 s27 s28 s29 s30 s31 s32 s33 s34 s35 s36 s37 s38 s39 s40 s41 s42 s43 s44 s45 s46 s47 s48 s49 s50 s51 s52 s53 s54 s55 s56 s57 s58 s59 s60 s61 s62 s63 s64 s65 s66 s67 s68 s69 s70 s71 s72 s73 s74 s75 s76 s77 s78 s79 s80 s81 s82 s83 s84 s85 s86 s87 s88 s89 s90 s91 s92 s93 s94 s95 s96 s97 s98 s99 s100 s101 s102 s103 s104 s105 0 none) pn pe G st) :
    ∃ G' pn' pe',L.icall (.yield 9) [.int .i64 (k : Nat),.int .i64 (st.1.getD k 0 : Nat)] G = some (.bool true,G') ∧ MI M cl (xIT s0 s3 s4 s7 s8 s10 s11 s12 s13 s14 s15 s16 s17 s18 s19 s20 s21 s22 s23 s24 s25 s26 s27 s28 s29 s30 s31 s32 s33 s34 s35 s36 s37 s38 s39 s40 s41 s42 s43 s44 s45 s46 s47 s48 s49 s50 s51 s52 s53 s54 s55 s56 s57 s58 s59 s60 s61 s62 s63 s64 s65 s66 s67 s68 s69 s70 s71 s72 s73 s74 s75 s76 s77 s78 s79 s80 s81 s82 s83 s84 s85 s86 s87 s88 s89 s90 s91 s92 s93 s94 s95 s96 s97 s98 s99 s100 s101 s102 s103 s104 s105 0 none) pn' pe' G' (xOA M cl k st) := by
  obtain ⟨g0,g2,g3,g4,g8,gl,hq,ho⟩ := hE
  obtain ⟨hs1,hs2⟩ := (hO.isc _ (xAA (a := 0) hk)).sp hN
  have hc := (hO.isc _ (xAA (a := 0) hk)).lt hN
  have hcl := hN.len
  have hn9 := hV.n9
  have hel := hV.el
  have hle := hO.len hN
  have hrl : (M.next.getD ((spO cl).getD (st.1.getD k 0) 0) []).length = two M.i := hV.rl _ (xAA hs1)
  have hwl : (M.emit.getD ((spO cl).getD (st.1.getD k 0) 0) []).length = two M.i := hV.wl _ (xAA (by rw [hel]; exact hs1))
  have h64 : two M.i ≤ 64 := by have := xIA (show M.i ≤ 6 by have := hV.io; omega); have : two 6 = 64 := rfl; omega
  have hsp : (spO cl).length = cl.length := by unfold spO; rw [xOu,List.length_replicate]
  have hG := xBI gl
  have hrw : ∀ x ∈ M.next.getD ((spO cl).getD (st.1.getD k 0) 0) [],x < cl.length := fun x hx => by rw [hcl]; exact hV.rb _ (xAA hs1) x hx
  unfold xOA
  rw [← xRE]
  generalize hss : (spO cl).getD (st.1.getD k 0) 0 = s at *
  generalize hcc : st.1.getD k 0 = c at *
  generalize hrr : M.next.getD s [] = row at *
  generalize hem : M.emit.getD s [] = er at *
  obtain ⟨G1,e1,e2,e3,e4,e5⟩ := yC2 (P := PMp G.length pn pe) (T := 5) (p := G.length) (cb := 2) (cl := cl) (row := row) (s1 := .ptr 0 0) (s2 := .ptr 1 0) (s12 := .int .i64 (s : Nat)) (fun h => by have := h.1.1; omega) (fun h => h.2 rfl) (fun h => by have := h.1.1; omega) (by omega) (by omega) (by omega) (by omega) (by omega) hrw row.length 0 (List.replicate row.length 0,st.1) (G.set 9 (xIT s0 s3 s4 s7 s8 s10 s11 s12 s13 s14 s15 s16 s17 s18 s19 s20 s21 s22 s23 s24 s25 s26 s27 s28 s29 s30 s31 s32 s33 s34 s35 s36 s37 s38 s39 s40 s41 s42 s43 s44 s45 s46 s47 s48 s49 s50 s51 s52 s53 s54 s55 s56 s57 s58 s59 s60 s61 s62 s63 s64 s65 s66 s67 s68 s69 s70 s71 s72 s73 s74 s75 s76 s77 s78 s79 s80 s81 s82 s83 s84 s85 s86 s87 s88 s89 s90 s91 s92 s93 s94 s95 s96 s97 s98 s99 s100 s101 s102 s103 s104 s105 1 none) ++ [.cells false false (xAQ (List.replicate row.length 0))]) (by omega) (by simp) (by simp only; omega)
    (by
      intro n hn
      rw [List.length_append,List.length_set,List.length_singleton] at hn
      refine ⟨⟨by omega,by omega,by omega,?_,?_⟩,by omega⟩
      · rcases ho with ho | ho
        · omega
        · have := xBI ho.2.2.2.2.1; omega
      · rcases ho with ho | ho
        · omega
        · have := xBI ho.2.2.2.2.2; omega)
    (by rw [xBv (by simp)]; rfl) (by rw [xAW (by simp; omega),xAR (by omega),g2]) (hq.mono (by rw [xAW (by simp; omega),xAR (by omega)]) (fun n h1 h2 => ⟨⟨h2,by omega⟩,by rw [xAW (by simp; omega),xAR (fun e => h2.2.2.1 e.symm)]⟩))
  have hrep : xAQ (List.replicate row.length 0) = List.replicate row.length (.int .i64 0) := by unfold xAQ; simp
  have hF : (xXH cl row (List.replicate row.length 0,st.1) 0 row.length).1.length = row.length := by rw [xRE,xPh,List.length_map]
  generalize xXH cl row (List.replicate row.length 0,st.1) 0 row.length = rf at *
  obtain ⟨nr,ks'⟩ := rf
  simp only at e2 e3 hF ⊢
  rw [List.length_append,List.length_set,List.length_singleton] at e4
  obtain ⟨X,hX⟩ : ∃ X,List.modify G1 G.length xAj = X := ⟨_,rfl⟩
  have xl : X.length = G1.length := by rw [← hX,List.length_modify]
  have xk : ∀ b,b ≠ G.length → X[b]? = G1[b]? := fun b hb => by rw [← hX]; exact yDP (fun e => hb e.symm)
  have keep : ∀ b,b < G.length → ¬ PM pn pe b → b ≠ 5 → b ≠ 9 → X[b]? = G[b]? := by
    intro b h1 h2 h3 h4
    rw [xk b (by omega),e5 b (fun h => h2 h.1) h3 (by omega),xAW (by simp; omega),xAR (by omega)]
  have f0 : X[0]? = some (.cells false false M.cells) := by rw [keep 0 (by omega) (fun h => by have := h.1; omega) (by omega) (by omega),g0]
  have f2 : X[2]? = some (.cells false false [.sl false cl.length (xAQ cl)]) := by rw [keep 2 (by omega) (fun h => by have := h.1; omega) (by omega) (by omega),g2]
  have f3 : X[3]? = some (.cells false false (xAQ (spO cl))) := by rw [keep 3 (by omega) (fun h => by have := h.1; omega) (by omega) (by omega),g3]
  have f4 : X[4]? = some (.cells false false [.own false 3 0 cl.length 1]) := by rw [keep 4 (by omega) (fun h => by have := h.1; omega) (by omega) (by omega),g4]
  have f8 : X[8]? = some (.cells false false [.ptr 5 0]) := by rw [keep 8 (by omega) (fun h => h.2.1 rfl) (by omega) (by omega),g8]
  have f9 : X[9]? = some (xIT s0 s3 s4 s7 s8 s10 s11 s12 s13 s14 s15 s16 s17 s18 s19 s20 s21 s22 s23 s24 s25 s26 s27 s28 s29 s30 s31 s32 s33 s34 s35 s36 s37 s38 s39 s40 s41 s42 s43 s44 s45 s46 s47 s48 s49 s50 s51 s52 s53 s54 s55 s56 s57 s58 s59 s60 s61 s62 s63 s64 s65 s66 s67 s68 s69 s70 s71 s72 s73 s74 s75 s76 s77 s78 s79 s80 s81 s82 s83 s84 s85 s86 s87 s88 s89 s90 s91 s92 s93 s94 s95 s96 s97 s98 s99 s100 s101 s102 s103 s104 s105 1 none) := by rw [xk 9 (by omega),e5 9 (fun h => h.1.2.2.1 rfl) (by omega) (by omega),xAW (by simp; omega),xA5 hG]
  have fq : QN (PMp G.length pn pe) 5 X ks' := e3.mono (xk 5 (by omega)) (fun n _ h => ⟨h,xk n (fun e => h.2 e)⟩)
  have hcl' : c < cl.length := by omega
  have hcsp : c < (spO cl).length := by omega
  have hlen : (xAQ nr).length = row.length := by rw [xAU,hF]
  have htk : List.take row.length (xAQ nr) = xAQ nr := List.take_of_length_le (by omega)
  have hw256 : er.length < 1000 := by omega
  have hse : s < M.emit.length := by omega
  change L.loop xJv xTr ⟨xJw (.ptr 0 0) (.ptr 1 0) (.ptr 2 0) (.ptr 5 0) (.int .i64 (s : Nat)) (.own false G.length 0 row.length 1) (.sl false row.length (xAQ row)) (.int .i64 (row.length : Nat)) (.int .i64 0),_⟩ = _ at e1
  unfold Ma.cells at g0 f0
  have xp : G.length < X.length := by omega
  have hd1 : [AV.sl false row.length (xAQ nr)].all xAm = true := by simp [xAm,xLx]
  have hd2 : [AV.sl false er.length (bs er)].all xAm = true := by simp [xAm,xTL]
  rw [xGf,xNX (hH := gl) (h1 := rfl) (h2 := rfl) (h3 := rfl)]
  rcases ho with ⟨rfl,rfl,o1,o2,o3⟩ | ⟨o1,o2,o3,o4,o5,o6⟩
  · have f1 := (keep 1 (by omega) (fun h => by have := h.1; omega) (by omega) (by omega)).trans o3
    refine ⟨(X.set 1 (.cells false false [.int .i64 (M.i : Nat),.int .i64 (M.o : Nat),.int .i64 0,.own false G1.length 0 1 1,.own false (G1.length + 1) 0 1 1])).set 9 (xIT s0 s3 s4 s7 s8 s10 s11 s12 s13 s14 s15 s16 s17 s18 s19 s20 s21 s22 s23 s24 s25 s26 s27 s28 s29 s30 s31 s32 s33 s34 s35 s36 s37 s38 s39 s40 s41 s42 s43 s44 s45 s46 s47 s48 s49 s50 s51 s52 s53 s54 s55 s56 s57 s58 s59 s60 s61 s62 s63 s64 s65 s66 s67 s68 s69 s70 s71 s72 s73 s74 s75 s76 s77 s78 s79 s80 s81 s82 s83 s84 s85 s86 s87 s88 s89 s90 s91 s92 s93 s94 s95 s96 s97 s98 s99 s100 s101 s102 s103 s104 s105 0 none) ++ [.cells false false [rowI nr],.cells false false [rowB er]],G1.length,G1.length + 1,?_,?_⟩
    · simp (maxSteps := 30000000) (disch := first | assumption | omega | (simp only [WL,AV.isCell] <;> omega) | rfl | decide) only [↓reduceIte,WB,xAC,xAc,xAB,xAk,xAj,AV.cells,AV.isCell,xAb,xAf,xAg,WP,xAt,xAm,xA0,xAZ,xAX,xAq,xAv,xAu,WA,WH,W2,xAd,xAe,xAh,Nat.reduceAdd,Nat.reduceSub,Nat.reduceLeDiff,Nat.reduceMul,Int.reduceAdd,Int.reduceSub,Int.reduceMul,Int.reduceLT,Int.reduceLE,Int.reduceEq,Int.reduceToNat,Int.reduceNeg,Nat.reduceEqDiff,Nat.reduceBEq,Nat.reduceLT,xAW,xBs,xBv,xBR,xBS,xBP,xAR,xA5,List.length_map,List.set_set,xA9,xBa,rowI,rowB,xIG,xLR,xVW,xPi,xPj,List.map_append,xIF,xDr,xX0,xTt,xLr,xPI,xPH,g0,g2,g3,g4,gl,hcl',hcsp,hss,hs1,hrr,e1,e2,hF,hlen,htk,f0,f1,f2,f3,f4,f8,f9,hem,hse,xRK,hX,xl,hd1,hd2]
    · have kk : ∀ b,b < X.length → b ≠ 1 → b ≠ 9 → ((X.set 1 (Blk.cells false false [.int .i64 (M.i : Nat),.int .i64 (M.o : Nat),.int .i64 0,.own false G1.length 0 1 1,.own false (G1.length + 1) 0 1 1])).set 9 (xIT s0 s3 s4 s7 s8 s10 s11 s12 s13 s14 s15 s16 s17 s18 s19 s20 s21 s22 s23 s24 s25 s26 s27 s28 s29 s30 s31 s32 s33 s34 s35 s36 s37 s38 s39 s40 s41 s42 s43 s44 s45 s46 s47 s48 s49 s50 s51 s52 s53 s54 s55 s56 s57 s58 s59 s60 s61 s62 s63 s64 s65 s66 s67 s68 s69 s70 s71 s72 s73 s74 s75 s76 s77 s78 s79 s80 s81 s82 s83 s84 s85 s86 s87 s88 s89 s90 s91 s92 s93 s94 s95 s96 s97 s98 s99 s100 s101 s102 s103 s104 s105 0 none) ++ [Blk.cells false false [rowI nr],.cells false false [rowB er]])[b]? = X[b]? := by
        intro b h1 h2 h3
        rw [xAW (by simpa using h1),xAR (by omega),xAR (by omega)]
      refine ⟨by rw [kk 0 (by omega) (by omega) (by omega),f0]; rfl,by rw [kk 2 (by omega) (by omega) (by omega),f2],by rw [kk 3 (by omega) (by omega) (by omega),f3],by rw [kk 4 (by omega) (by omega) (by omega),f4],by rw [kk 8 (by omega) (by omega) (by omega),f8],by rw [xAW (by simp; omega),xA5 (by simp; omega)],?_,?_⟩
      · refine fq.mono (kk 5 (by omega) (by omega) (by omega)) (fun n hn h => ⟨⟨h.1.1,h.1.2.1,h.1.2.2.1,by omega,by omega⟩,kk n hn ?_ h.1.2.2.1⟩)
        have := h.1.1; omega
      · rw [o1,o2]
        refine .inr ⟨by omega,by omega,by omega,?_,?_,?_⟩
        · rw [xAW (by simp; omega),xAR (by omega),xA5 (by omega)]; rfl
        · rw [xBv (by simp; omega)]; rfl
        · rw [xBs (by simp; omega)]; rfl
  · have z5 := xBI o5
    have z6 := xBI o6
    have f1 := (keep 1 (by omega) (fun h => by have := h.1; omega) (by omega) (by omega)).trans o4
    have fn := (keep pn (by omega) (fun h => h.2.2.2.1 rfl) (by omega) (by omega)).trans o5
    have fe := (keep pe (by omega) (fun h => h.2.2.2.2 rfl) (by omega) (by omega)).trans o6
    have kn : st.2.1.length = k := hO.l1
    have ke : st.2.2.length = k := hO.l2
    have b1 : (1 != pn) = true := by simp; omega
    have b0 : (0 != pn) = true := by simp; omega
    have tn : List.take st.2.1.length (st.2.1.map rowI) = st.2.1.map rowI := List.take_of_length_le (by simp)
    have te : List.take st.2.2.length (st.2.2.map rowB) = st.2.2.map rowB := List.take_of_length_le (by simp)
    refine ⟨(((X.set pn .dead).set pe .dead).set 1 (.cells false false [.int .i64 (M.i : Nat),.int .i64 (M.o : Nat),.int .i64 0,.own false G1.length 0 (st.2.1.length + 1) 1,.own false (G1.length + 1) 0 (st.2.2.length + 1) 1])).set 9 (xIT s0 s3 s4 s7 s8 s10 s11 s12 s13 s14 s15 s16 s17 s18 s19 s20 s21 s22 s23 s24 s25 s26 s27 s28 s29 s30 s31 s32 s33 s34 s35 s36 s37 s38 s39 s40 s41 s42 s43 s44 s45 s46 s47 s48 s49 s50 s51 s52 s53 s54 s55 s56 s57 s58 s59 s60 s61 s62 s63 s64 s65 s66 s67 s68 s69 s70 s71 s72 s73 s74 s75 s76 s77 s78 s79 s80 s81 s82 s83 s84 s85 s86 s87 s88 s89 s90 s91 s92 s93 s94 s95 s96 s97 s98 s99 s100 s101 s102 s103 s104 s105 0 none) ++ [.cells false false (st.2.1.map rowI ++ [rowI nr]),.cells false false (st.2.2.map rowB ++ [rowB er])],G1.length,G1.length + 1,?_,?_⟩
    · simp (maxSteps := 30000000) (disch := first | assumption | omega | (simp only [WL,AV.isCell] <;> omega) | rfl | decide) only [↓reduceIte,WB,xAC,xAc,xAB,xAk,xAj,AV.cells,AV.isCell,xAb,xAf,xAg,WP,xAt,xAm,xA0,xAZ,xAX,xAq,xAv,xAu,WA,WH,W2,xAd,xAe,xAh,Nat.reduceAdd,Nat.reduceSub,Nat.reduceLeDiff,Nat.reduceMul,Int.reduceAdd,Int.reduceSub,Int.reduceMul,Int.reduceLT,Int.reduceLE,Int.reduceEq,Int.reduceToNat,Int.reduceNeg,Nat.reduceEqDiff,Nat.reduceBEq,Nat.reduceLT,xAW,xBs,xBv,xBR,xBS,xBP,xAR,xA5,List.length_map,List.set_set,xA9,xBa,rowI,rowB,xIG,xLR,xVW,xPi,xPj,List.map_append,xIF,xDr,xX0,xTt,xLr,xPI,xPH,g0,g2,g3,g4,gl,hcl',hcsp,hss,hs1,hrr,e1,e2,hF,hlen,htk,f0,f1,f2,f3,f4,f8,f9,hem,hse,xRK,hX,xl,hd1,hd2,fn,fe,tn,te,b1,b0]
    · have kk : ∀ b,b < X.length → b ≠ pn → b ≠ pe → b ≠ 1 → b ≠ 9 → ((((X.set pn .dead).set pe .dead).set 1 (Blk.cells false false [.int .i64 (M.i : Nat),.int .i64 (M.o : Nat),.int .i64 0,.own false G1.length 0 (st.2.1.length + 1) 1,.own false (G1.length + 1) 0 (st.2.2.length + 1) 1])).set 9 (xIT s0 s3 s4 s7 s8 s10 s11 s12 s13 s14 s15 s16 s17 s18 s19 s20 s21 s22 s23 s24 s25 s26 s27 s28 s29 s30 s31 s32 s33 s34 s35 s36 s37 s38 s39 s40 s41 s42 s43 s44 s45 s46 s47 s48 s49 s50 s51 s52 s53 s54 s55 s56 s57 s58 s59 s60 s61 s62 s63 s64 s65 s66 s67 s68 s69 s70 s71 s72 s73 s74 s75 s76 s77 s78 s79 s80 s81 s82 s83 s84 s85 s86 s87 s88 s89 s90 s91 s92 s93 s94 s95 s96 s97 s98 s99 s100 s101 s102 s103 s104 s105 0 none) ++ [Blk.cells false false (st.2.1.map rowI ++ [rowI nr]),.cells false false (st.2.2.map rowB ++ [rowB er])])[b]? = X[b]? := by
        intro b h1 h4 h5 h2 h3
        rw [xAW (by simpa using h1),xAR (by omega),xAR (by omega),xAR (by omega),xAR (by omega)]
      refine ⟨by rw [kk 0 (by omega) (by omega) (by omega) (by omega) (by omega),f0]; rfl,by rw [kk 2 (by omega) (by omega) (by omega) (by omega) (by omega),f2],by rw [kk 3 (by omega) (by omega) (by omega) (by omega) (by omega),f3],by rw [kk 4 (by omega) (by omega) (by omega) (by omega) (by omega),f4],by rw [kk 8 (by omega) (by omega) (by omega) (by omega) (by omega),f8],by rw [xAW (by simp; omega),xA5 (by simp; omega)],?_,?_⟩
      · refine fq.mono (kk 5 (by omega) (by omega) (by omega) (by omega) (by omega)) (fun n hn h => ⟨⟨h.1.1,h.1.2.1,h.1.2.2.1,by omega,by omega⟩,kk n hn h.1.2.2.2.1 h.1.2.2.2.2 ?_ h.1.2.2.1⟩)
        have := h.1.1; omega
      · refine .inr ⟨by omega,by omega,by omega,?_,?_,?_⟩
        · rw [xAW (by simp; omega),xAR (by omega),xA5 (by simp; omega),List.length_append,List.length_append]; rfl
        · rw [xBv (by simp; omega),List.map_append]; rfl
        · rw [xBs (by simp; omega),List.map_append]; rfl
end
section
variable {M : Ma} {cl : List Nat} {lb : Blk}
def yAy (M : Ma) (cl : List Nat) (lb : Blk) : Prop := ∀ (k pn pe : Nat) (st : Mst) (G : Heap),k < st.1.length → OI M cl k st → MI M cl lb pn pe G st →
    ∃ G' pn' pe',L.icall (.yield 9) [.int .i64 (k : Nat),.int .i64 (st.1.getD k 0 : Nat)] G = some (.bool true,G') ∧ MI M cl lb pn' pe' G' (xOA M cl k st)
theorem yBU (hV : Vm M) (hN : Num M cl) (hr : yAy M cl lb) : ∀ (e k : Nat) (st : Mst) (G : Heap) (pn pe : Nat),OI M cl k st → MI M cl lb pn pe G st → M.next.length < e + k →
    ∃ F' G' pn' pe',L.loop xGc xO2 ⟨xGd (.yield 9) (.ptr 8 0) (.int .i64 (k : Nat)),G⟩ = some (.exit 0,⟨F',G'⟩) ∧ MI M cl lb pn' pe' G' (xIS M cl e k st)
  | 0,k,st,G,pn,pe,h,hE,he => by
    have := h.len hN
    have := h.le
    omega
  | e + 1,k,st,G,pn,pe,h,hE,he => by
    have hlen := h.len hN
    have hn9 := hV.n9
    have hle := h.le
    have g8 := hE.g8
    obtain ⟨mv,lv,q1,q2⟩ := hE.q
    have q3 : ∃ p,lv = .own false p 0 st.1.length 1 ∧ G[p]? = some (.cells false false (xAQ st.1)) := by
      rcases q2 with ⟨-,-,e0⟩ | ⟨q,p,e1,e2,p1,p2,m1,m2⟩
      · have := h.pos
        rw [e0] at this
        simp at this
      · exact ⟨p,e2,m2⟩
    obtain ⟨p,rfl,hpl⟩ := q3
    rw [xIS]
    by_cases hc : k < st.1.length
    · rw [if_pos hc]
      obtain ⟨G',pn',pe',e1,e2⟩ := hr k pn pe st G hc h hE
      have hlt : ((k : Nat) : Int) < (st.1.length : Nat) := by omega
      have hn := yBU hV hN hr e (k + 1) _ G' pn' pe' (h.step hV hN hc) e2 (by omega)
      have hst : L.loop xGc xO2 ⟨xGd (.yield 9) (.ptr 8 0) (.int .i64 (k : Nat)),G⟩ = L.loop xGc xO2 ⟨xGd (.yield 9) (.ptr 8 0) (.int .i64 ((k + 1 : Nat) : Nat)),G'⟩ := by
        rw [xX9]
        simp (maxSteps := 30000000) (disch := first | assumption | omega | (simp only [WL,AV.isCell] <;> omega) | rfl | decide) only [↓reduceIte,WB,xAC,xAc,xAB,xAk,xAj,AV.cells,AV.isCell,xAb,xAf,xAg,WP,xAt,xAm,xA0,xAZ,xAX,xAq,xAv,xAu,WA,W2,xAd,xAe,xAh,Nat.reduceAdd,Nat.reduceSub,Nat.reduceLeDiff,Nat.reduceMul,Int.reduceAdd,Int.reduceSub,Int.reduceMul,Int.reduceLT,Int.reduceLE,Int.reduceEq,Int.reduceToNat,Int.reduceNeg,Nat.reduceEqDiff,Nat.reduceBEq,Nat.reduceLT,xAW,xBs,xBv,xBR,xBS,xBP,xAR,xA5,List.length_map,List.set_set,xPU,xTE,g8,q1,hpl,hlt,hc,e1]
      rw [hst]
      exact hn
    · rw [if_neg hc]
      have hlt : ¬ ((k : Nat) : Int) < (st.1.length : Nat) := by omega
      refine ⟨xGd (.yield 9) (.ptr 8 0) (.int .i64 (k : Nat)),G,pn,pe,?_,hE⟩
      rw [xX9]
      simp (maxSteps := 30000000) (disch := first | assumption | omega | (simp only [WL,AV.isCell] <;> omega) | rfl | decide) only [↓reduceIte,WB,xAC,xAc,xAB,xAk,xAj,AV.cells,AV.isCell,xAb,xAf,xAg,WP,xAt,xAm,xA0,xAZ,xAX,xAq,xAv,xAu,WA,W2,xAd,xAe,xAh,Nat.reduceAdd,Nat.reduceSub,Nat.reduceLeDiff,Nat.reduceMul,Int.reduceAdd,Int.reduceSub,Int.reduceMul,Int.reduceLT,Int.reduceLE,Int.reduceEq,Int.reduceToNat,Int.reduceNeg,Nat.reduceEqDiff,Nat.reduceBEq,Nat.reduceLT,xAW,xBs,xBv,xBR,xBS,xBP,xAR,xA5,List.length_map,List.set_set,xPU,xTE,g8,q1,hpl,hlt]
end
noncomputable def xCI (H : Heap) : Heap := match L.icall (.func 94 [.ptr 8 0]) [.yield 9] H with
  | some (_,G) => G
  | none => []
theorem yAz (b0 b1 b2 b3 b4 : Blk) (k : Nat) : L.icall (.func 70 []) [.ptr 5 0,.int .i64 (k : Nat)] [b0,b1,b2,b3,b4,.cells false false [.nilm,.sl true 0 []]] =
    some (.tup [.int .i64 0,.bool true],[b0,b1,b2,b3,b4,.cells false false [.mp 6,.own false 7 0 1 1],.mp (ent kv1 [k] 0),.cells false false (xAQ [k])]) := xV6 rfl
theorem xGM (d : Nat) (H : Heap) : ∀ l : List (List Nat),(l.map rowI).mapM (frz d H) = some (l.map rowI)
  | [] => rfl
  | r :: l => by
    rw [List.map_cons,List.mapM_cons,xGM d H l]
    unfold rowI
    rw [xQA]
    rfl
theorem xFp (d : Nat) (H : Heap) : ∀ l : List (List Nat),(l.map rowB).mapM (frz d H) = some (l.map rowB)
  | [] => rfl
  | r :: l => by
    rw [List.map_cons,List.mapM_cons,xFp d H l]
    unfold rowB
    rw [xQA]
    rfl
section
variable {M : Ma} {cl : List Nat} {lb : Blk}
abbrev H35 (M : Ma) (cl : List Nat) (lb : Blk) : Heap := [.cells false false [.int .i64 (M.i : Nat),.int .i64 (M.o : Nat),.int .i64 (M.s : Nat),.sl false M.next.length (M.next.map rowI),.sl false M.emit.length (M.emit.map rowB)],.cells false false [.int .i64 (M.i : Nat),.int .i64 (M.o : Nat),.int .i64 0,.sl true 0 [],.sl true 0 []],.cells false false [.sl false cl.length (xAQ cl)],.cells false false (xAQ (spO cl)),.cells false false [.own false 3 0 cl.length 1],.cells false false [.mp 6,.own false 7 0 1 1],.mp (ent kv1 [cl.getD M.s 0] 0),.cells false false (xAQ [cl.getD M.s 0]),.cells false false [.ptr 5 0],lb]
theorem yBV (M : Ma) (cl : List Nat) (lb : Blk) : MI M cl lb 0 0 (H35 M cl lb) ([cl.getD M.s 0],[],[]) :=
  ⟨rfl,rfl,rfl,rfl,rfl,rfl,⟨.mp 6,.own false 7 0 1 1,rfl,.inr ⟨6,7,rfl,rfl,⟨by omega,by omega,by omega,by omega,by omega⟩,⟨by omega,by omega,by omega,by omega,by omega⟩,rfl,rfl⟩⟩,.inl ⟨rfl,rfl,rfl,rfl,rfl⟩⟩
structure Aft (M : Ma) (cl : List Nat) (lb : Blk) (G : Heap) (pn pe : Nat) : Prop where
  g1 : G[1]? = some (.cells false false [.int .i64 (M.i : Nat),.int .i64 (M.o : Nat),.int .i64 0,.own false pn 0 (xD1 M cl).next.length 1,.own false pe 0 (xD1 M cl).emit.length 1])
  gl : G[9]? = some lb
  gn : G[pn]? = some (.cells false false ((xD1 M cl).next.map rowI))
  ge : G[pe]? = some (.cells false false ((xD1 M cl).emit.map rowB))
  n : 10 ≤ pn
  e : 10 ≤ pe
set_option maxHeartbeats 1000000 in
theorem yDS (hV : Vm M) (hN : Num M cl) (hr : yAy M cl lb) : L.icall (.func 94 [.ptr 8 0]) [.yield 9] (H35 M cl lb) = some (.tup [],xCI (H35 M cl lb)) ∧ ∃ pn pe,Aft M cl lb (xCI (H35 M cl lb)) pn pe := by
  obtain ⟨F',G',pn,pe,e1,e2⟩ := yBU hV hN hr (M.next.length + 1) 0 _ _ 0 0 (OI.start hV) (yBV M cl lb) (by omega)
  have hw : L.icall (.func 94 [.ptr 8 0]) [.yield 9] (H35 M cl lb) = some (.tup [],G') := by
    generalize H35 M cl lb = H at *
    change L.loop xGc xO2 ⟨xGd (.yield 9) (.ptr 8 0) (.int .i64 0),H⟩ = _ at e1
    rw [yDI,a94]
    simp (maxSteps := 30000000) (disch := first | assumption | omega | (simp only [WL,AV.isCell] <;> omega) | rfl | decide) only [↓reduceIte,WB,xAC,xAc,xAB,xAk,xAj,AV.cells,AV.isCell,xAb,xAf,xAg,WP,xAt,xAm,xA0,xAZ,xAX,xAq,xAv,xAu,WA,W2,xAd,xAe,xAh,Nat.reduceAdd,Nat.reduceSub,Nat.reduceLeDiff,Nat.reduceMul,Int.reduceAdd,Int.reduceSub,Int.reduceMul,Int.reduceLT,Int.reduceLE,Int.reduceEq,Int.reduceToNat,Int.reduceNeg,Nat.reduceEqDiff,Nat.reduceBEq,Nat.reduceLT,xAW,xBs,xBv,xBR,xBS,xBP,xAR,xA5,List.length_map,List.set_set,xGM,xFp,xTE,e1]
  have ho : xCI (H35 M cl lb) = G' := by unfold xCI; rw [hw]
  rw [ho]
  refine ⟨hw,pn,pe,?_⟩
  have hoi := xFU hV hN
  rcases e2.out with ⟨_,_,a1,_⟩ | ⟨a1,a2,a3,a4,a5,a6⟩
  · have l1 : (xGB M cl).2.1.length = (xGB M cl).1.length := hoi.l1
    have l2 := hoi.pos
    have : (xGB M cl).2.1 = [] := a1
    rw [this] at l1
    simp at l1
    omega
  · exact ⟨a4,e2.gl,a5,a6,a1,a2⟩
theorem xVX (hV : Vm M) (hN : Num M cl) (s0 s3 s4 s7 s8 s10 s11 s12 s13 s14 s15 s16 s17 s18 s19 s20 s21 s22 s23 s24 s25 s26 s27 s28 s29 s30 s31 s32 s33 s34 s35 s36 s37 s38 s39 s40 s41 s42 s43 s44 s45 s46 s47 s48 s49 s50 s51 s52 s53 s54 s55 s56 s57 s58 s59 s60 s61 s62 s63 s64 s65 s66 s67 s68 s69 s70 s71 s72 s73 s74 s75 s76 s77 s78 s79 s80 s81 s82 s83 s84 s85 s86 s87 s88 s89 s90 s91 s92 s93 s94 s95 s96 s97 s98 s99 s100 s101 s102 s103 s104 s105 : AV) : yAy M cl (xIT s0 s3 s4 s7 s8 s10 s11 s12 s13 s14 s15 s16 s17 s18 s19 s20 s21 s22 s23 s24 s25 s26 s27 s28 s29 s30 s31 s32 s33 s34 s35 s36 s37 s38 s39 s40 s41 s42 s43 s44 s45 s46 s47 s48 s49 s50 s51 s52 s53 s54 s55 s56 s57 s58 s59 s60 s61 s62 s63 s64 s65 s66 s67 s68 s69 s70 s71 s72 s73 s74 s75 s76 s77 s78 s79 s80 s81 s82 s83 s84 s85 s86 s87 s88 s89 s90 s91 s92 s93 s94 s95 s96 s97 s98 s99 s100 s101 s102 s103 s104 s105 0 none) := fun k pn pe st G h1 h2 h3 => yAx s0 s3 s4 s7 s8 s10 s11 s12 s13 s14 s15 s16 s17 s18 s19 s20 s21 s22 s23 s24 s25 s26 s27 s28 s29 s30 s31 s32 s33 s34 s35 s36 s37 s38 s39 s40 s41 s42 s43 s44 s45 s46 s47 s48 s49 s50 s51 s52 s53 s54 s55 s56 s57 s58 s59 s60 s61 s62 s63 s64 s65 s66 s67 s68 s69 s70 s71 s72 s73 s74 s75 s76 s77 s78 s79 s80 s81 s82 s83 s84 s85 s86 s87 s88 s89 s90 s91 s92 s93 s94 s95 s96 s97 s98 s99 s100 s101 s102 s103 s104 s105 hV hN h1 h2 h3
def pnO (G : Heap) : Nat := match G[1]? with
  | some (Blk.cells _ _ [_,_,_,AV.own _ p _ _ _,_]) => p
  | _ => 0
def peO (G : Heap) : Nat := match G[1]? with
  | some (Blk.cells _ _ [_,_,_,_,AV.own _ p _ _ _]) => p
  | _ => 0
theorem Aft.po {G : Heap} {pn pe : Nat} (h : Aft M cl lb G pn pe) : Aft M cl lb G (pnO G) (peO G) := by
  have e1 : pnO G = pn := by unfold pnO; rw [h.g1]
  have e2 : peO G = pe := by unfold peO; rw [h.g1]
  rw [e1,e2]
  exact h
theorem xXK {α : Type} (f : α → AV) (l : List α) : List.take l.length (l.map f) = l.map f := List.take_of_length_le (by simp)
set_option maxHeartbeats 4000000 in
theorem xLQ (hV : Vm M) (hN : Num M cl) (h69 : L.pcall 69 [M.av] = some (.sl false cl.length (xAQ cl))) : L.pcall 35 [M.av] = some (.tup [(xD1 M cl).av,.int .i64 0]) := by
  have hc := xCd hV
  have hn9 := hV.n9
  have hs := hV.s
  have hcl := hN.len
  have hg := fun s0 s3 s4 s7 s8 s10 s11 s12 s13 s14 s15 s16 s17 s18 s19 s20 s21 s22 s23 s24 s25 s26 s27 s28 s29 s30 s31 s32 s33 s34 s35 s36 s37 s38 s39 s40 s41 s42 s43 s44 s45 s46 s47 s48 s49 s50 s51 s52 s53 s54 s55 s56 s57 s58 s59 s60 s61 s62 s63 s64 s65 s66 s67 s68 s69 s70 s71 s72 s73 s74 s75 s76 s77 s78 s79 s80 s81 s82 s83 s84 s85 s86 s87 s88 s89 s90 s91 s92 s93 s94 s95 s96 s97 s98 s99 s100 s101 s102 s103 s104 s105 => yDS hV hN (xVX hV hN s0 s3 s4 s7 s8 s10 s11 s12 s13 s14 s15 s16 s17 s18 s19 s20 s21 s22 s23 s24 s25 s26 s27 s28 s29 s30 s31 s32 s33 s34 s35 s36 s37 s38 s39 s40 s41 s42 s43 s44 s45 s46 s47 s48 s49 s50 s51 s52 s53 s54 s55 s56 s57 s58 s59 s60 s61 s62 s63 s64 s65 s66 s67 s68 s69 s70 s71 s72 s73 s74 s75 s76 s77 s78 s79 s80 s81 s82 s83 s84 s85 s86 s87 s88 s89 s90 s91 s92 s93 s94 s95 s96 s97 s98 s99 s100 s101 s102 s103 s104 s105)
  have h1 := fun s0 s3 s4 s7 s8 s10 s11 s12 s13 s14 s15 s16 s17 s18 s19 s20 s21 s22 s23 s24 s25 s26 s27 s28 s29 s30 s31 s32 s33 s34 s35 s36 s37 s38 s39 s40 s41 s42 s43 s44 s45 s46 s47 s48 s49 s50 s51 s52 s53 s54 s55 s56 s57 s58 s59 s60 s61 s62 s63 s64 s65 s66 s67 s68 s69 s70 s71 s72 s73 s74 s75 s76 s77 s78 s79 s80 s81 s82 s83 s84 s85 s86 s87 s88 s89 s90 s91 s92 s93 s94 s95 s96 s97 s98 s99 s100 s101 s102 s103 s104 s105 => (hg s0 s3 s4 s7 s8 s10 s11 s12 s13 s14 s15 s16 s17 s18 s19 s20 s21 s22 s23 s24 s25 s26 s27 s28 s29 s30 s31 s32 s33 s34 s35 s36 s37 s38 s39 s40 s41 s42 s43 s44 s45 s46 s47 s48 s49 s50 s51 s52 s53 s54 s55 s56 s57 s58 s59 s60 s61 s62 s63 s64 s65 s66 s67 s68 s69 s70 s71 s72 s73 s74 s75 s76 s77 s78 s79 s80 s81 s82 s83 s84 s85 s86 s87 s88 s89 s90 s91 s92 s93 s94 s95 s96 s97 s98 s99 s100 s101 s102 s103 s104 s105).1
  have h2 : ∀ (s0 s3 s4 s7 s8 s10 s11 s12 s13 s14 s15 s16 s17 s18 s19 s20 s21 s22 s23 s24 s25 s26 s27 s28 s29 s30 s31 s32 s33 s34 s35 s36 s37 s38 s39 s40 s41 s42 s43 s44 s45 s46 s47 s48 s49 s50 s51 s52 s53 s54 s55 s56 s57 s58 s59 s60 s61 s62 s63 s64 s65 s66 s67 s68 s69 s70 s71 s72 s73 s74 s75 s76 s77 s78 s79 s80 s81 s82 s83 s84 s85 s86 s87 s88 s89 s90 s91 s92 s93 s94 s95 s96 s97 s98 s99 s100 s101 s102 s103 s104 s105 : AV),Aft M cl (xIT s0 s3 s4 s7 s8 s10 s11 s12 s13 s14 s15 s16 s17 s18 s19 s20 s21 s22 s23 s24 s25 s26 s27 s28 s29 s30 s31 s32 s33 s34 s35 s36 s37 s38 s39 s40 s41 s42 s43 s44 s45 s46 s47 s48 s49 s50 s51 s52 s53 s54 s55 s56 s57 s58 s59 s60 s61 s62 s63 s64 s65 s66 s67 s68 s69 s70 s71 s72 s73 s74 s75 s76 s77 s78 s79 s80 s81 s82 s83 s84 s85 s86 s87 s88 s89 s90 s91 s92 s93 s94 s95 s96 s97 s98 s99 s100 s101 s102 s103 s104 s105 0 none) (xCI (H35 M cl (xIT s0 s3 s4 s7 s8 s10 s11 s12 s13 s14 s15 s16 s17 s18 s19 s20 s21 s22 s23 s24 s25 s26 s27 s28 s29 s30 s31 s32 s33 s34 s35 s36 s37 s38 s39 s40 s41 s42 s43 s44 s45 s46 s47 s48 s49 s50 s51 s52 s53 s54 s55 s56 s57 s58 s59 s60 s61 s62 s63 s64 s65 s66 s67 s68 s69 s70 s71 s72 s73 s74 s75 s76 s77 s78 s79 s80 s81 s82 s83 s84 s85 s86 s87 s88 s89 s90 s91 s92 s93 s94 s95 s96 s97 s98 s99 s100 s101 s102 s103 s104 s105 0 none))) (pnO (xCI (H35 M cl (xIT s0 s3 s4 s7 s8 s10 s11 s12 s13 s14 s15 s16 s17 s18 s19 s20 s21 s22 s23 s24 s25 s26 s27 s28 s29 s30 s31 s32 s33 s34 s35 s36 s37 s38 s39 s40 s41 s42 s43 s44 s45 s46 s47 s48 s49 s50 s51 s52 s53 s54 s55 s56 s57 s58 s59 s60 s61 s62 s63 s64 s65 s66 s67 s68 s69 s70 s71 s72 s73 s74 s75 s76 s77 s78 s79 s80 s81 s82 s83 s84 s85 s86 s87 s88 s89 s90 s91 s92 s93 s94 s95 s96 s97 s98 s99 s100 s101 s102 s103 s104 s105 0 none)))) (peO (xCI (H35 M cl (xIT s0 s3 s4 s7 s8 s10 s11 s12 s13 s14 s15 s16 s17 s18 s19 s20 s21 s22 s23 s24 s25 s26 s27 s28 s29 s30 s31 s32 s33 s34 s35 s36 s37 s38 s39 s40 s41 s42 s43 s44 s45 s46 s47 s48 s49 s50 s51 s52 s53 s54 s55 s56 s57 s58 s59 s60 s61 s62 s63 s64 s65 s66 s67 s68 s69 s70 s71 s72 s73 s74 s75 s76 s77 s78 s79 s80 s81 s82 s83 s84 s85 s86 s87 s88 s89 s90 s91 s92 s93 s94 s95 s96 s97 s98 s99 s100 s101 s102 s103 s104 s105 0 none)))) := fun s0 s3 s4 s7 s8 s10 s11 s12 s13 s14 s15 s16 s17 s18 s19 s20 s21 s22 s23 s24 s25 s26 s27 s28 s29 s30 s31 s32 s33 s34 s35 s36 s37 s38 s39 s40 s41 s42 s43 s44 s45 s46 s47 s48 s49 s50 s51 s52 s53 s54 s55 s56 s57 s58 s59 s60 s61 s62 s63 s64 s65 s66 s67 s68 s69 s70 s71 s72 s73 s74 s75 s76 s77 s78 s79 s80 s81 s82 s83 s84 s85 s86 s87 s88 s89 s90 s91 s92 s93 s94 s95 s96 s97 s98 s99 s100 s101 s102 s103 s104 s105 => by
    obtain ⟨pn,pe,h⟩ := (hg s0 s3 s4 s7 s8 s10 s11 s12 s13 s14 s15 s16 s17 s18 s19 s20 s21 s22 s23 s24 s25 s26 s27 s28 s29 s30 s31 s32 s33 s34 s35 s36 s37 s38 s39 s40 s41 s42 s43 s44 s45 s46 s47 s48 s49 s50 s51 s52 s53 s54 s55 s56 s57 s58 s59 s60 s61 s62 s63 s64 s65 s66 s67 s68 s69 s70 s71 s72 s73 s74 s75 s76 s77 s78 s79 s80 s81 s82 s83 s84 s85 s86 s87 s88 s89 s90 s91 s92 s93 s94 s95 s96 s97 s98 s99 s100 s101 s102 s103 s104 s105).2
    exact h.po
  clear hg
  have hgl := fun s0 s3 s4 s7 s8 s10 s11 s12 s13 s14 s15 s16 s17 s18 s19 s20 s21 s22 s23 s24 s25 s26 s27 s28 s29 s30 s31 s32 s33 s34 s35 s36 s37 s38 s39 s40 s41 s42 s43 s44 s45 s46 s47 s48 s49 s50 s51 s52 s53 s54 s55 s56 s57 s58 s59 s60 s61 s62 s63 s64 s65 s66 s67 s68 s69 s70 s71 s72 s73 s74 s75 s76 s77 s78 s79 s80 s81 s82 s83 s84 s85 s86 s87 s88 s89 s90 s91 s92 s93 s94 s95 s96 s97 s98 s99 s100 s101 s102 s103 s104 s105 => (h2 s0 s3 s4 s7 s8 s10 s11 s12 s13 s14 s15 s16 s17 s18 s19 s20 s21 s22 s23 s24 s25 s26 s27 s28 s29 s30 s31 s32 s33 s34 s35 s36 s37 s38 s39 s40 s41 s42 s43 s44 s45 s46 s47 s48 s49 s50 s51 s52 s53 s54 s55 s56 s57 s58 s59 s60 s61 s62 s63 s64 s65 s66 s67 s68 s69 s70 s71 s72 s73 s74 s75 s76 s77 s78 s79 s80 s81 s82 s83 s84 s85 s86 s87 s88 s89 s90 s91 s92 s93 s94 s95 s96 s97 s98 s99 s100 s101 s102 s103 s104 s105).gl
  have r2 : ∀ (s0 s3 s4 s7 s8 s10 s11 s12 s13 s14 s15 s16 s17 s18 s19 s20 s21 s22 s23 s24 s25 s26 s27 s28 s29 s30 s31 s32 s33 s34 s35 s36 s37 s38 s39 s40 s41 s42 s43 s44 s45 s46 s47 s48 s49 s50 s51 s52 s53 s54 s55 s56 s57 s58 s59 s60 s61 s62 s63 s64 s65 s66 s67 s68 s69 s70 s71 s72 s73 s74 s75 s76 s77 s78 s79 s80 s81 s82 s83 s84 s85 s86 s87 s88 s89 s90 s91 s92 s93 s94 s95 s96 s97 s98 s99 s100 s101 s102 s103 s104 s105 : AV),((xCI (H35 M cl (xIT s0 s3 s4 s7 s8 s10 s11 s12 s13 s14 s15 s16 s17 s18 s19 s20 s21 s22 s23 s24 s25 s26 s27 s28 s29 s30 s31 s32 s33 s34 s35 s36 s37 s38 s39 s40 s41 s42 s43 s44 s45 s46 s47 s48 s49 s50 s51 s52 s53 s54 s55 s56 s57 s58 s59 s60 s61 s62 s63 s64 s65 s66 s67 s68 s69 s70 s71 s72 s73 s74 s75 s76 s77 s78 s79 s80 s81 s82 s83 s84 s85 s86 s87 s88 s89 s90 s91 s92 s93 s94 s95 s96 s97 s98 s99 s100 s101 s102 s103 s104 s105 0 none))).set 9 .dead)[1]? = some (.cells false false [.int .i64 (M.i : Nat),.int .i64 (M.o : Nat),.int .i64 0,.own false (pnO (xCI (H35 M cl (xIT s0 s3 s4 s7 s8 s10 s11 s12 s13 s14 s15 s16 s17 s18 s19 s20 s21 s22 s23 s24 s25 s26 s27 s28 s29 s30 s31 s32 s33 s34 s35 s36 s37 s38 s39 s40 s41 s42 s43 s44 s45 s46 s47 s48 s49 s50 s51 s52 s53 s54 s55 s56 s57 s58 s59 s60 s61 s62 s63 s64 s65 s66 s67 s68 s69 s70 s71 s72 s73 s74 s75 s76 s77 s78 s79 s80 s81 s82 s83 s84 s85 s86 s87 s88 s89 s90 s91 s92 s93 s94 s95 s96 s97 s98 s99 s100 s101 s102 s103 s104 s105 0 none)))) 0 (xD1 M cl).next.length 1,.own false (peO (xCI (H35 M cl (xIT s0 s3 s4 s7 s8 s10 s11 s12 s13 s14 s15 s16 s17 s18 s19 s20 s21 s22 s23 s24 s25 s26 s27 s28 s29 s30 s31 s32 s33 s34 s35 s36 s37 s38 s39 s40 s41 s42 s43 s44 s45 s46 s47 s48 s49 s50 s51 s52 s53 s54 s55 s56 s57 s58 s59 s60 s61 s62 s63 s64 s65 s66 s67 s68 s69 s70 s71 s72 s73 s74 s75 s76 s77 s78 s79 s80 s81 s82 s83 s84 s85 s86 s87 s88 s89 s90 s91 s92 s93 s94 s95 s96 s97 s98 s99 s100 s101 s102 s103 s104 s105 0 none)))) 0 (xD1 M cl).emit.length 1]) := fun s0 s3 s4 s7 s8 s10 s11 s12 s13 s14 s15 s16 s17 s18 s19 s20 s21 s22 s23 s24 s25 s26 s27 s28 s29 s30 s31 s32 s33 s34 s35 s36 s37 s38 s39 s40 s41 s42 s43 s44 s45 s46 s47 s48 s49 s50 s51 s52 s53 s54 s55 s56 s57 s58 s59 s60 s61 s62 s63 s64 s65 s66 s67 s68 s69 s70 s71 s72 s73 s74 s75 s76 s77 s78 s79 s80 s81 s82 s83 s84 s85 s86 s87 s88 s89 s90 s91 s92 s93 s94 s95 s96 s97 s98 s99 s100 s101 s102 s103 s104 s105 => by
    rw [xAR (by omega),(h2 s0 s3 s4 s7 s8 s10 s11 s12 s13 s14 s15 s16 s17 s18 s19 s20 s21 s22 s23 s24 s25 s26 s27 s28 s29 s30 s31 s32 s33 s34 s35 s36 s37 s38 s39 s40 s41 s42 s43 s44 s45 s46 s47 s48 s49 s50 s51 s52 s53 s54 s55 s56 s57 s58 s59 s60 s61 s62 s63 s64 s65 s66 s67 s68 s69 s70 s71 s72 s73 s74 s75 s76 s77 s78 s79 s80 s81 s82 s83 s84 s85 s86 s87 s88 s89 s90 s91 s92 s93 s94 s95 s96 s97 s98 s99 s100 s101 s102 s103 s104 s105).g1]
  have r3 : ∀ (s0 s3 s4 s7 s8 s10 s11 s12 s13 s14 s15 s16 s17 s18 s19 s20 s21 s22 s23 s24 s25 s26 s27 s28 s29 s30 s31 s32 s33 s34 s35 s36 s37 s38 s39 s40 s41 s42 s43 s44 s45 s46 s47 s48 s49 s50 s51 s52 s53 s54 s55 s56 s57 s58 s59 s60 s61 s62 s63 s64 s65 s66 s67 s68 s69 s70 s71 s72 s73 s74 s75 s76 s77 s78 s79 s80 s81 s82 s83 s84 s85 s86 s87 s88 s89 s90 s91 s92 s93 s94 s95 s96 s97 s98 s99 s100 s101 s102 s103 s104 s105 : AV) (a : Blk),(((xCI (H35 M cl (xIT s0 s3 s4 s7 s8 s10 s11 s12 s13 s14 s15 s16 s17 s18 s19 s20 s21 s22 s23 s24 s25 s26 s27 s28 s29 s30 s31 s32 s33 s34 s35 s36 s37 s38 s39 s40 s41 s42 s43 s44 s45 s46 s47 s48 s49 s50 s51 s52 s53 s54 s55 s56 s57 s58 s59 s60 s61 s62 s63 s64 s65 s66 s67 s68 s69 s70 s71 s72 s73 s74 s75 s76 s77 s78 s79 s80 s81 s82 s83 s84 s85 s86 s87 s88 s89 s90 s91 s92 s93 s94 s95 s96 s97 s98 s99 s100 s101 s102 s103 s104 s105 0 none))).set 9 .dead).set 1 a)[1]? = some a := fun s0 s3 s4 s7 s8 s10 s11 s12 s13 s14 s15 s16 s17 s18 s19 s20 s21 s22 s23 s24 s25 s26 s27 s28 s29 s30 s31 s32 s33 s34 s35 s36 s37 s38 s39 s40 s41 s42 s43 s44 s45 s46 s47 s48 s49 s50 s51 s52 s53 s54 s55 s56 s57 s58 s59 s60 s61 s62 s63 s64 s65 s66 s67 s68 s69 s70 s71 s72 s73 s74 s75 s76 s77 s78 s79 s80 s81 s82 s83 s84 s85 s86 s87 s88 s89 s90 s91 s92 s93 s94 s95 s96 s97 s98 s99 s100 s101 s102 s103 s104 s105 a => xA5 (by have := xBI (hgl s0 s3 s4 s7 s8 s10 s11 s12 s13 s14 s15 s16 s17 s18 s19 s20 s21 s22 s23 s24 s25 s26 s27 s28 s29 s30 s31 s32 s33 s34 s35 s36 s37 s38 s39 s40 s41 s42 s43 s44 s45 s46 s47 s48 s49 s50 s51 s52 s53 s54 s55 s56 s57 s58 s59 s60 s61 s62 s63 s64 s65 s66 s67 s68 s69 s70 s71 s72 s73 s74 s75 s76 s77 s78 s79 s80 s81 s82 s83 s84 s85 s86 s87 s88 s89 s90 s91 s92 s93 s94 s95 s96 s97 s98 s99 s100 s101 s102 s103 s104 s105); simp only [List.length_set]; omega)
  have r4 : ∀ (s0 s3 s4 s7 s8 s10 s11 s12 s13 s14 s15 s16 s17 s18 s19 s20 s21 s22 s23 s24 s25 s26 s27 s28 s29 s30 s31 s32 s33 s34 s35 s36 s37 s38 s39 s40 s41 s42 s43 s44 s45 s46 s47 s48 s49 s50 s51 s52 s53 s54 s55 s56 s57 s58 s59 s60 s61 s62 s63 s64 s65 s66 s67 s68 s69 s70 s71 s72 s73 s74 s75 s76 s77 s78 s79 s80 s81 s82 s83 s84 s85 s86 s87 s88 s89 s90 s91 s92 s93 s94 s95 s96 s97 s98 s99 s100 s101 s102 s103 s104 s105 : AV) (a : Blk),(((xCI (H35 M cl (xIT s0 s3 s4 s7 s8 s10 s11 s12 s13 s14 s15 s16 s17 s18 s19 s20 s21 s22 s23 s24 s25 s26 s27 s28 s29 s30 s31 s32 s33 s34 s35 s36 s37 s38 s39 s40 s41 s42 s43 s44 s45 s46 s47 s48 s49 s50 s51 s52 s53 s54 s55 s56 s57 s58 s59 s60 s61 s62 s63 s64 s65 s66 s67 s68 s69 s70 s71 s72 s73 s74 s75 s76 s77 s78 s79 s80 s81 s82 s83 s84 s85 s86 s87 s88 s89 s90 s91 s92 s93 s94 s95 s96 s97 s98 s99 s100 s101 s102 s103 s104 s105 0 none))).set 9 .dead).set 1 a)[pnO (xCI (H35 M cl (xIT s0 s3 s4 s7 s8 s10 s11 s12 s13 s14 s15 s16 s17 s18 s19 s20 s21 s22 s23 s24 s25 s26 s27 s28 s29 s30 s31 s32 s33 s34 s35 s36 s37 s38 s39 s40 s41 s42 s43 s44 s45 s46 s47 s48 s49 s50 s51 s52 s53 s54 s55 s56 s57 s58 s59 s60 s61 s62 s63 s64 s65 s66 s67 s68 s69 s70 s71 s72 s73 s74 s75 s76 s77 s78 s79 s80 s81 s82 s83 s84 s85 s86 s87 s88 s89 s90 s91 s92 s93 s94 s95 s96 s97 s98 s99 s100 s101 s102 s103 s104 s105 0 none)))]? = some (.cells false false ((xD1 M cl).next.map rowI)) := fun s0 s3 s4 s7 s8 s10 s11 s12 s13 s14 s15 s16 s17 s18 s19 s20 s21 s22 s23 s24 s25 s26 s27 s28 s29 s30 s31 s32 s33 s34 s35 s36 s37 s38 s39 s40 s41 s42 s43 s44 s45 s46 s47 s48 s49 s50 s51 s52 s53 s54 s55 s56 s57 s58 s59 s60 s61 s62 s63 s64 s65 s66 s67 s68 s69 s70 s71 s72 s73 s74 s75 s76 s77 s78 s79 s80 s81 s82 s83 s84 s85 s86 s87 s88 s89 s90 s91 s92 s93 s94 s95 s96 s97 s98 s99 s100 s101 s102 s103 s104 s105 a => by
    have := (h2 s0 s3 s4 s7 s8 s10 s11 s12 s13 s14 s15 s16 s17 s18 s19 s20 s21 s22 s23 s24 s25 s26 s27 s28 s29 s30 s31 s32 s33 s34 s35 s36 s37 s38 s39 s40 s41 s42 s43 s44 s45 s46 s47 s48 s49 s50 s51 s52 s53 s54 s55 s56 s57 s58 s59 s60 s61 s62 s63 s64 s65 s66 s67 s68 s69 s70 s71 s72 s73 s74 s75 s76 s77 s78 s79 s80 s81 s82 s83 s84 s85 s86 s87 s88 s89 s90 s91 s92 s93 s94 s95 s96 s97 s98 s99 s100 s101 s102 s103 s104 s105).n
    rw [xAR (by omega),xAR (by omega),(h2 s0 s3 s4 s7 s8 s10 s11 s12 s13 s14 s15 s16 s17 s18 s19 s20 s21 s22 s23 s24 s25 s26 s27 s28 s29 s30 s31 s32 s33 s34 s35 s36 s37 s38 s39 s40 s41 s42 s43 s44 s45 s46 s47 s48 s49 s50 s51 s52 s53 s54 s55 s56 s57 s58 s59 s60 s61 s62 s63 s64 s65 s66 s67 s68 s69 s70 s71 s72 s73 s74 s75 s76 s77 s78 s79 s80 s81 s82 s83 s84 s85 s86 s87 s88 s89 s90 s91 s92 s93 s94 s95 s96 s97 s98 s99 s100 s101 s102 s103 s104 s105).gn]
  have r5 : ∀ (s0 s3 s4 s7 s8 s10 s11 s12 s13 s14 s15 s16 s17 s18 s19 s20 s21 s22 s23 s24 s25 s26 s27 s28 s29 s30 s31 s32 s33 s34 s35 s36 s37 s38 s39 s40 s41 s42 s43 s44 s45 s46 s47 s48 s49 s50 s51 s52 s53 s54 s55 s56 s57 s58 s59 s60 s61 s62 s63 s64 s65 s66 s67 s68 s69 s70 s71 s72 s73 s74 s75 s76 s77 s78 s79 s80 s81 s82 s83 s84 s85 s86 s87 s88 s89 s90 s91 s92 s93 s94 s95 s96 s97 s98 s99 s100 s101 s102 s103 s104 s105 : AV) (a : Blk),(((xCI (H35 M cl (xIT s0 s3 s4 s7 s8 s10 s11 s12 s13 s14 s15 s16 s17 s18 s19 s20 s21 s22 s23 s24 s25 s26 s27 s28 s29 s30 s31 s32 s33 s34 s35 s36 s37 s38 s39 s40 s41 s42 s43 s44 s45 s46 s47 s48 s49 s50 s51 s52 s53 s54 s55 s56 s57 s58 s59 s60 s61 s62 s63 s64 s65 s66 s67 s68 s69 s70 s71 s72 s73 s74 s75 s76 s77 s78 s79 s80 s81 s82 s83 s84 s85 s86 s87 s88 s89 s90 s91 s92 s93 s94 s95 s96 s97 s98 s99 s100 s101 s102 s103 s104 s105 0 none))).set 9 .dead).set 1 a)[peO (xCI (H35 M cl (xIT s0 s3 s4 s7 s8 s10 s11 s12 s13 s14 s15 s16 s17 s18 s19 s20 s21 s22 s23 s24 s25 s26 s27 s28 s29 s30 s31 s32 s33 s34 s35 s36 s37 s38 s39 s40 s41 s42 s43 s44 s45 s46 s47 s48 s49 s50 s51 s52 s53 s54 s55 s56 s57 s58 s59 s60 s61 s62 s63 s64 s65 s66 s67 s68 s69 s70 s71 s72 s73 s74 s75 s76 s77 s78 s79 s80 s81 s82 s83 s84 s85 s86 s87 s88 s89 s90 s91 s92 s93 s94 s95 s96 s97 s98 s99 s100 s101 s102 s103 s104 s105 0 none)))]? = some (.cells false false ((xD1 M cl).emit.map rowB)) := fun s0 s3 s4 s7 s8 s10 s11 s12 s13 s14 s15 s16 s17 s18 s19 s20 s21 s22 s23 s24 s25 s26 s27 s28 s29 s30 s31 s32 s33 s34 s35 s36 s37 s38 s39 s40 s41 s42 s43 s44 s45 s46 s47 s48 s49 s50 s51 s52 s53 s54 s55 s56 s57 s58 s59 s60 s61 s62 s63 s64 s65 s66 s67 s68 s69 s70 s71 s72 s73 s74 s75 s76 s77 s78 s79 s80 s81 s82 s83 s84 s85 s86 s87 s88 s89 s90 s91 s92 s93 s94 s95 s96 s97 s98 s99 s100 s101 s102 s103 s104 s105 a => by
    have := (h2 s0 s3 s4 s7 s8 s10 s11 s12 s13 s14 s15 s16 s17 s18 s19 s20 s21 s22 s23 s24 s25 s26 s27 s28 s29 s30 s31 s32 s33 s34 s35 s36 s37 s38 s39 s40 s41 s42 s43 s44 s45 s46 s47 s48 s49 s50 s51 s52 s53 s54 s55 s56 s57 s58 s59 s60 s61 s62 s63 s64 s65 s66 s67 s68 s69 s70 s71 s72 s73 s74 s75 s76 s77 s78 s79 s80 s81 s82 s83 s84 s85 s86 s87 s88 s89 s90 s91 s92 s93 s94 s95 s96 s97 s98 s99 s100 s101 s102 s103 s104 s105).e
    rw [xAR (by omega),xAR (by omega),(h2 s0 s3 s4 s7 s8 s10 s11 s12 s13 s14 s15 s16 s17 s18 s19 s20 s21 s22 s23 s24 s25 s26 s27 s28 s29 s30 s31 s32 s33 s34 s35 s36 s37 s38 s39 s40 s41 s42 s43 s44 s45 s46 s47 s48 s49 s50 s51 s52 s53 s54 s55 s56 s57 s58 s59 s60 s61 s62 s63 s64 s65 s66 s67 s68 s69 s70 s71 s72 s73 s74 s75 s76 s77 s78 s79 s80 s81 s82 s83 s84 s85 s86 s87 s88 s89 s90 s91 s92 s93 s94 s95 s96 s97 s98 s99 s100 s101 s102 s103 s104 s105).ge]
  have hsm := yBT (s1 := .ptr 0 0) (s2 := .ptr 1 0) (s5 := .ptr 2 0) (p := 3) (b := 4) (show cl.length < 1099511627 by omega) rfl (fun x hx => by rw [hcl]; exact hN.lt x hx) (by omega) cl.length 0 (List.replicate cl.length 0) [.cells false false M.cells,.cells false false [.int .i64 0,.int .i64 0,.int .i64 0,.sl true 0 [],.sl true 0 []],.cells false false [.sl false cl.length (xAQ cl)],.cells false false (xAQ (List.replicate cl.length 0)),.cells false false [.own false 3 0 cl.length 1]] (by omega) (by simp) rfl rfl
  rw [show xID cl (List.replicate cl.length 0) 0 cl.length = spO cl from rfl] at hsm
  simp only [List.set_cons_succ,List.set_cons_zero] at hsm
  have hlt : M.s < cl.length := by omega
  unfold Ma.av at hc h69 ⊢
  unfold Ma.cells at hc h69 hsm ⊢
  change L.loop xJt xTp ⟨xJu (.ptr 0 0) (.ptr 1 0) (.ptr 2 0) (.ptr 4 0) (.sl false cl.length (xAQ cl)) (.int .i64 (cl.length : Nat)) (.int .i64 0),_⟩ = _ at hsm
  rw [yDc,a35,xAr]
  simp (maxSteps := 30000000) (disch := first | assumption | omega | (simp only [WL,AV.isCell] <;> omega) | rfl | decide) only [↓reduceIte,WB,xAC,xAc,xAB,xAk,xAj,AV.cells,AV.isCell,xAb,xAf,xAg,WP,xAt,xAm,xA0,xAZ,xAX,xAq,xAv,xAu,WA,W2,xAd,xAe,xAh,Nat.reduceAdd,Nat.reduceSub,Nat.reduceLeDiff,Nat.reduceMul,Int.reduceAdd,Int.reduceSub,Int.reduceMul,Int.reduceLT,Int.reduceLE,Int.reduceEq,Int.reduceToNat,Int.reduceNeg,Nat.reduceEqDiff,Nat.reduceBEq,Nat.reduceLT,xAW,xBs,xBv,xBR,xBS,xBP,xAR,xA5,List.length_map,List.set_set,xGM,xFp,xTq,hc,h69,hsm,yAz,yDE,a71,h1,hgl,r2,r3,r4,r5,hlt,xXK]
  rfl
theorem yC3 {K : Nat} (hV : Vm M) (hn : M.next.length ≤ 100) (hC : Cls M K) : Num M (clK M (K + 1)) := by
  refine ⟨xEF M (K + 1),?_,fun s t hs ht => yAt hV hn hC hs ht⟩
  intro x hx
  obtain ⟨s,hs,rfl⟩ := List.getElem_of_mem hx
  have hs' : s < M.next.length := by rw [xEF] at hs; exact hs
  have h1 := xIH M (clK M K) hs'
  have h2 := xLU M (clK M K)
  have hs2 : s < (xK3 M (clK M K)).2.length := hs
  have h3 : (xK3 M (clK M K)).2.getD s 0 = (xK3 M (clK M K)).2[s]'hs2 := by
    rw [List.getD_eq_getElem?_getD,List.getElem?_eq_getElem hs2]
    rfl
  rw [h3] at h1
  exact Nat.lt_of_lt_of_le h1 h2
theorem xFX (hV : Vm M) (hn : M.next.length ≤ 100) : ∃ cl,Num M cl ∧ L.pcall 35 [M.av] = some (.tup [(xD1 M cl).av,.int .i64 0]) := by
  obtain ⟨K,hC,h⟩ := xVQ hV hn
  have hN := yC3 hV hn hC
  have hl : (clK M (K + 1)).length = M.next.length := hN.len
  exact ⟨_,hN,xLQ hV hN (by rw [h,hl])⟩
set_option maxHeartbeats 1000000 in
theorem xEp {m : Mf} (hS : Sm m) (h : xPf m ≠ 0) : L.pcall 35 [m.av] = some (.tup [.agg [.int .i64 0,.int .i64 0,.int .i64 0,.sl true 0 [],.sl true 0 []],.int .i64 (xPf m)]) := by
  have hc := xLN hS
  unfold Mf.av at hc ⊢
  unfold Mf.cells at hc ⊢
  generalize xPf m = e at *
  rw [yDc,a35,xAr]
  simp (maxSteps := 30000000) (disch := first | assumption | omega | (simp only [WL,AV.isCell] <;> omega) | rfl | decide) only [↓reduceIte,WB,xAC,xAc,xAB,xAk,xAj,AV.cells,AV.isCell,xAb,xAf,xAg,WP,xAt,xAm,xA0,xAZ,xAX,xAq,xAv,xAu,WA,W2,xAd,xAe,xAh,Nat.reduceAdd,Nat.reduceSub,Nat.reduceLeDiff,Nat.reduceMul,Int.reduceAdd,Int.reduceSub,Int.reduceMul,Int.reduceLT,Int.reduceLE,Int.reduceEq,Int.reduceToNat,Int.reduceNeg,Nat.reduceEqDiff,Nat.reduceBEq,Nat.reduceLT,xAW,xBs,xBv,xBR,xBS,xBP,xAR,xA5,List.length_map,List.set_set,xGM,xFp,hc,h]
end
end Go.Abs.Mealy
