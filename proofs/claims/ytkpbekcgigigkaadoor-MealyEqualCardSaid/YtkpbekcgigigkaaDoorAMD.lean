/- Comparing two machines breadth first: the plain search,and what it finds. -/
import Derived.Test.YtkpbekcgigigkaaDoorAMC
import Derived.Test.YtkpbekcgigigkaaDoorAbsBun
import Derived.Test.YtkpbekcgigigkaaDoorAMA
namespace Go.Abs.Mealy
open Go Go.Abs
set_option linter.unusedSimpArgs false
set_option linter.unusedVariables false
abbrev Bs := List (Nat × Nat) × List (List Nat)
def xF4 (A B : Ma) (u : List Nat) (c : Nat × Nat) : List Nat → Bs → Option (List Nat) × Bs
  | [],S => (none,S)
  | i :: r,S => if em A c.1 i ≠ em B c.2 i then (some (u ++ [i]),S)
    else if (nx A c.1 i,nx B c.2 i) ∈ S.1 then xF4 A B u c r S else xF4 A B u c r (S.1 ++ [(nx A c.1 i,nx B c.2 i)],S.2 ++ [u ++ [i]])
def xFx (A B : Ma) : Nat → Nat → Bs → Option (List Nat)
  | 0,_,_ => none
  | e + 1,k,S => if k < S.1.length then (match xF4 A B (S.2.getD k []) (S.1.getD k (0,0)) (List.range (two A.i)) S with
    | (some v,_) => some v
    | (none,S') => xFx A B e (k + 1) S') else none
def xBB (A B : Ma) : Nat × Nat → List Nat → Nat × Nat
  | c,[] => c
  | c,x :: t => xBB A B (nx A c.1 x,nx B c.2 x) t
theorem xC8 (A B : Ma) : ∀ (u : List Nat) (c : Nat × Nat) (x : Nat),xBB A B c (u ++ [x]) = (nx A (xBB A B c u).1 x,nx B (xBB A B c u).2 x)
  | [],c,x => rfl
  | y :: t,c,x => xC8 A B t _ x
def xIb : List Nat → List Nat → Prop
  | [],_ => True
  | _ :: _,[] => False
  | a :: s,b :: t => a < b ∨ (a = b ∧ xIb s t)
def xGb (u v : List Nat) : Prop := u.length < v.length ∨ (u.length = v.length ∧ xIb u v)
theorem xFy : ∀ u : List Nat,xIb u u
  | [] => trivial
  | a :: s => .inr ⟨rfl,xFy s⟩
theorem xIc : ∀ {u v w : List Nat},u.length = v.length → v.length = w.length → xIb u v → xIb v w → xIb u w
  | [],_,_,_,_,_,_ => trivial
  | a :: s,[],_,h,_,_,_ => by simp at h
  | a :: s,b :: t,[],_,h,_,_ => by simp at h
  | a :: s,b :: t,c :: r,h1,h2,h3,h4 => by
    simp only [List.length_cons,Nat.add_right_cancel_iff] at h1 h2
    rcases h3 with h3 | ⟨rfl,h3⟩
    · rcases h4 with h4 | ⟨rfl,h4⟩
      · exact .inl (by omega)
      · exact .inl h3
    · rcases h4 with h4 | ⟨rfl,h4⟩
      · exact .inl h4
      · exact .inr ⟨rfl,xIc h1 h2 h3 h4⟩
theorem xE7 (u : List Nat) : xGb u u := .inr ⟨rfl,xFy u⟩
theorem xCU {u v w : List Nat} (h1 : xGb u v) (h2 : xGb v w) : xGb u w := by
  unfold xGb at *
  rcases h1 with h1 | ⟨a1,b1⟩
  · rcases h2 with h2 | ⟨a2,b2⟩
    · exact .inl (by omega)
    · exact .inl (by omega)
  · rcases h2 with h2 | ⟨a2,b2⟩
    · exact .inl (by omega)
    · exact .inr ⟨by omega,xIc a1 a2 b1 b2⟩
theorem xKg : ∀ {u v : List Nat} {x y : Nat},u.length = v.length → xIb u v → (u = v → x ≤ y) → xIb (u ++ [x]) (v ++ [y])
  | [],[],x,y,_,_,h => by
    have := h rfl
    by_cases e : x = y
    · exact .inr ⟨e,trivial⟩
    · exact .inl (by omega)
  | [],_ :: _,_,_,h,_,_ => by simp at h
  | _ :: _,[],_,_,h,_,_ => by simp at h
  | a :: s,b :: t,x,y,h1,h2,h3 => by
    simp only [List.length_cons,Nat.add_right_cancel_iff] at h1
    rcases h2 with h2 | ⟨rfl,h2⟩
    · exact .inl h2
    · exact .inr ⟨rfl,xKg h1 h2 (fun e => h3 (by rw [e]))⟩
theorem xCm {u v : List Nat} {x y : Nat} (h : xGb u v) (hxy : u = v → x ≤ y) : xGb (u ++ [x]) (v ++ [y]) := by
  unfold xGb at *
  simp only [List.length_append,List.length_cons,List.length_nil]
  rcases h with h | ⟨a,b⟩
  · exact .inl (by omega)
  · exact .inr ⟨by omega,xKg a b hxy⟩
theorem xEm (u v : List Nat) : xGb u (u ++ v) := by
  unfold xGb
  cases v with
  | nil => exact .inr ⟨by simp,by rw [List.append_nil]; exact xFy u⟩
  | cons a t => exact .inl (by simp)
theorem xEc : ∀ {u v : List Nat},u.length = v.length → xIb u v → xIb v u → u = v
  | [],[],_,_,_ => rfl
  | [],_ :: _,h,_,_ => by simp at h
  | _ :: _,[],h,_,_ => by simp at h
  | a :: s,b :: t,h,h1,h2 => by
    simp only [List.length_cons,Nat.add_right_cancel_iff] at h
    rcases h1 with h1 | ⟨rfl,h1⟩
    · rcases h2 with h2 | ⟨rfl,h2⟩ <;> omega
    · rcases h2 with h2 | ⟨_,h2⟩
      · omega
      · rw [xEc h h1 h2]
theorem xK6 {u v : List Nat} (h1 : xGb u v) (h2 : xGb v u) : u = v := by
  unfold xGb at *
  rcases h1 with h1 | ⟨a,b⟩
  · rcases h2 with h2 | ⟨a2,b2⟩ <;> omega
  · rcases h2 with h2 | ⟨a2,b2⟩
    · omega
    · exact xEc a b b2
def xE8 (A B : Ma) (u : List Nat) (x : Nat) : Prop := em A (xBB A B (A.s,B.s) u).1 x ≠ em B (xBB A B (A.s,B.s) u).2 x
structure BI (A B : Ma) (S : Bs) (k : Nat) (i : Nat) : Prop where
  len : S.2.length = S.1.length
  nd : S.1.Nodup
  first : S.1.getD 0 (0,0) = (A.s,B.s) ∧ S.2.getD 0 [] = [] ∧ 0 < S.1.length
  reach : ∀ j,j < S.1.length → xBB A B (A.s,B.s) (S.2.getD j []) = S.1.getD j (0,0)
  lets : ∀ j,j < S.1.length → ∀ x ∈ S.2.getD j [],x < two A.i
  ord : ∀ j j',j < j' → j' < S.1.length → xGb (S.2.getD j []) (S.2.getD j' [])
  from' : ∀ j,0 < j → j < S.1.length → ∃ j0 y,S.2.getD j [] = S.2.getD j0 [] ++ [y] ∧ y < two A.i ∧ j0 < S.1.length ∧ (j0 < k ∨ (j0 = k ∧ y < i))
  seen : ∀ j y,j < S.1.length → y < two A.i → (j < k ∨ (j = k ∧ y < i)) → em A (S.1.getD j (0,0)).1 y = em B (S.1.getD j (0,0)).2 y ∧ ∃ j',j' < S.1.length ∧ S.1.getD j' (0,0) = (nx A (S.1.getD j (0,0)).1 y,nx B (S.1.getD j (0,0)).2 y) ∧ xGb (S.2.getD j' []) (S.2.getD j [] ++ [y])
section
variable {A B : Ma} {S : Bs} {k i : Nat}
theorem xU7 {α : Type} {l : List α} {d : α} (h : l.Nodup) {a b : Nat} (ha : a < l.length) (hb : b < l.length) (e : l.getD a d = l.getD b d) : a = b := by
  rw [List.getD_eq_getElem?_getD,List.getD_eq_getElem?_getD,List.getElem?_eq_getElem ha,List.getElem?_eq_getElem hb] at e
  exact (List.getElem_inj h).mp e
theorem xCV {α : Type} (l r : List α) (d : α) {a : Nat} (ha : a < l.length) : (l ++ r).getD a d = l.getD a d := by
  rw [List.getD_eq_getElem?_getD,List.getD_eq_getElem?_getD,List.getElem?_append_left ha]
theorem xDX {α : Type} (l : List α) (x d : α) : (l ++ [x]).getD l.length d = x := by
  rw [List.getD_eq_getElem?_getD,List.getElem?_append_right (Nat.le_refl _)]; simp
theorem BI.diff (h : BI A B S k i) {a b : Nat} (ha : a < S.1.length) (hb : b < S.1.length) (e : S.2.getD a [] = S.2.getD b []) : a = b :=
  xU7 h.nd ha hb (by rw [← h.reach a ha,← h.reach b hb,e])
theorem BI.top (h : BI A B S k i) (hk : k < S.1.length) (j : Nat) (hj : j < S.1.length) : xGb (S.2.getD j []) (S.2.getD k [] ++ [i]) := by
  by_cases j0 : j = 0
  · subst j0; rw [h.first.2.1]; exact xEm [] _
  obtain ⟨p,y,e,hy,hp,hc⟩ := h.from' j (by omega) hj
  rw [e]
  rcases hc with hc | ⟨rfl,hc⟩
  · exact xCm (h.ord p k hc hk) (fun e' => by have := h.diff hp hk e'; omega)
  · exact xCm (xE7 _) (fun _ => Nat.le_of_lt hc)
theorem BI.after (h : BI A B S k i) (hk : k < S.1.length) {j y : Nat} (hj : j < S.1.length) (hc : ¬ (j < k ∨ (j = k ∧ y < i))) : xGb (S.2.getD k [] ++ [i]) (S.2.getD j [] ++ [y]) := by
  by_cases e : j = k
  · subst e; exact xCm (xE7 _) (fun _ => by omega)
  · exact xCm (h.ord k j (by omega) hj) (fun e' => absurd (h.diff hk hj e') (by omega))
theorem BI.find (h : BI A B S k i) (hk : k < S.1.length) : ∀ (t : List Nat),(∀ x ∈ t,x < two A.i) → (∃ j,j < S.1.length ∧ xBB A B (A.s,B.s) t = S.1.getD j (0,0) ∧ xGb (S.2.getD j []) t) ∨ xGb (S.2.getD k [] ++ [i]) t := by
  intro t
  generalize hn : t.length = n
  induction n generalizing t with
  | zero =>
    intro _
    have : t = [] := List.eq_nil_of_length_eq_zero hn
    subst this
    exact .inl ⟨0,h.first.2.2,h.first.1.symm,by rw [h.first.2.1]; exact xE7 _⟩
  | succ n ih =>
    intro hl
    rcases List.eq_nil_or_concat t with rfl | ⟨r,y,rfl⟩
    · simp at hn
    rw [List.concat_eq_append] at *
    have hr : r.length = n := by simpa using hn
    rcases ih r hr (fun x hx => hl x (List.mem_append_left _ hx)) with ⟨j,hj,ej,sj⟩ | hs
    · by_cases hc : j < k ∨ (j = k ∧ y < i)
      · obtain ⟨_,j',hj',ej',sj'⟩ := h.seen j y hj (hl y (by simp)) hc
        refine .inl ⟨j',hj',?_,xCU sj' (xCm sj (fun _ => Nat.le_refl _))⟩
        rw [xC8,ej,ej']
      · exact .inr (xCU (h.after hk hj hc) (xCm sj (fun _ => Nat.le_refl _)))
    · exact .inr (xCU hs (xEm _ _))
theorem BI.least (h : BI A B S k i) (hk : k < S.1.length) (t : List Nat) (y : Nat) (hl : ∀ x ∈ t ++ [y],x < two A.i) (ht : xE8 A B t y) : xGb (S.2.getD k [] ++ [i]) (t ++ [y]) := by
  rcases h.find hk t (fun x hx => hl x (List.mem_append_left _ hx)) with ⟨j,hj,ej,sj⟩ | hs
  · by_cases hc : j < k ∨ (j = k ∧ y < i)
    · exact absurd (h.seen j y hj (hl y (by simp)) hc).1 (by unfold xE8 at ht; rw [ej] at ht; exact ht)
    · exact xCU (h.after hk hj hc) (xCm sj (fun _ => Nat.le_refl _))
  · exact xCU hs (xEm _ _)
theorem BI.all (h : BI A B S S.1.length 0) : ∀ (t : List Nat),(∀ x ∈ t,x < two A.i) → ∃ j,j < S.1.length ∧ xBB A B (A.s,B.s) t = S.1.getD j (0,0) := by
  intro t
  generalize hn : t.length = n
  induction n generalizing t with
  | zero =>
    intro _
    have : t = [] := List.eq_nil_of_length_eq_zero hn
    subst this
    exact ⟨0,h.first.2.2,h.first.1.symm⟩
  | succ n ih =>
    intro hl
    rcases List.eq_nil_or_concat t with rfl | ⟨r,y,rfl⟩
    · simp at hn
    rw [List.concat_eq_append] at *
    obtain ⟨j,hj,ej⟩ := ih r (by simpa using hn) (fun x hx => hl x (List.mem_append_left _ hx))
    obtain ⟨_,j',hj',ej',_⟩ := h.seen j y hj (hl y (by simp)) (.inl hj)
    exact ⟨j',hj',by rw [xC8,ej,ej']⟩
theorem BI.none (h : BI A B S S.1.length 0) (t : List Nat) (y : Nat) (hl : ∀ x ∈ t ++ [y],x < two A.i) : ¬ xE8 A B t y := by
  obtain ⟨j,hj,ej⟩ := h.all t (fun x hx => hl x (List.mem_append_left _ hx))
  unfold xE8
  rw [ej]
  exact fun e => e (h.seen j y hj (hl y (by simp)) (.inl hj)).1
theorem BI.old (h : BI A B S k i) (hk : k < S.1.length) (he : em A (S.1.getD k (0,0)).1 i = em B (S.1.getD k (0,0)).2 i) (hm : (nx A (S.1.getD k (0,0)).1 i,nx B (S.1.getD k (0,0)).2 i) ∈ S.1) : BI A B S k (i + 1) := by
  refine ⟨h.len,h.nd,h.first,h.reach,h.lets,h.ord,?_,?_⟩
  · intro j h0 hj
    obtain ⟨p,y,e,hy,hp,hc⟩ := h.from' j h0 hj
    exact ⟨p,y,e,hy,hp,by omega⟩
  · intro j y hj hy hc
    by_cases hc' : j < k ∨ (j = k ∧ y < i)
    · exact h.seen j y hj hy hc'
    · have : j = k := by omega
      subst this
      have : y = i := by omega
      subst this
      obtain ⟨j',hj',ej'⟩ := List.getElem_of_mem hm
      exact ⟨he,j',hj',by rw [List.getD_eq_getElem?_getD,List.getElem?_eq_getElem hj',Option.getD_some,ej'],h.top hk j' hj'⟩
theorem BI.new (h : BI A B S k i) (hk : k < S.1.length) (hi : i < two A.i) (he : em A (S.1.getD k (0,0)).1 i = em B (S.1.getD k (0,0)).2 i) (hm : (nx A (S.1.getD k (0,0)).1 i,nx B (S.1.getD k (0,0)).2 i) ∉ S.1) :
    BI A B (S.1 ++ [(nx A (S.1.getD k (0,0)).1 i,nx B (S.1.getD k (0,0)).2 i)],S.2 ++ [S.2.getD k [] ++ [i]]) k (i + 1) := by
  have hl := h.len
  have g1 : ∀ {j},j < S.1.length → ∀ r,(S.1 ++ r).getD j (0,0) = S.1.getD j (0,0) := fun hj r => xCV _ r _ hj
  have g2 : ∀ {j},j < S.1.length → ∀ r,(S.2 ++ r).getD j [] = S.2.getD j [] := fun hj r => xCV _ r _ (by omega)
  have g3 : ∀ x,(S.2 ++ [x]).getD S.1.length [] = x := fun x => by rw [← hl]; exact xDX _ _ _
  have g4 : ∀ x,(S.1 ++ [x]).getD S.1.length (0,0) = x := fun x => xDX _ _ _
  have sp : ∀ {j},j < (S.1 ++ [(nx A (S.1.getD k (0,0)).1 i,nx B (S.1.getD k (0,0)).2 i)]).length → j < S.1.length ∨ j = S.1.length := fun hj => by simp at hj; omega
  refine ⟨?_,?_,?_,?_,?_,?_,?_,?_⟩
  · simp [hl]
  · rw [List.nodup_append]
    refine ⟨h.nd,by simp,?_⟩
    intro a ha b hb e
    rw [List.mem_singleton] at hb
    exact hm (hb ▸ e ▸ ha)
  · have h0 := h.first.2.2
    refine ⟨by rw [g1 h0]; exact h.first.1,by rw [g2 h0]; exact h.first.2.1,by simp⟩
  · intro j hj
    rcases sp hj with hj | rfl
    · rw [g1 hj,g2 hj]; exact h.reach j hj
    · rw [g4,g3,xC8,h.reach k hk]
  · intro j hj
    rcases sp hj with hj | rfl
    · rw [g2 hj]; exact h.lets j hj
    · rw [g3]
      intro x hx
      rcases List.mem_append.mp hx with hx | hx
      · exact h.lets k hk x hx
      · rw [List.mem_singleton] at hx; omega
  · intro j j' hjj hj'
    rcases sp hj' with hj' | rfl
    · rw [g2 (by omega),g2 hj']; exact h.ord j j' hjj hj'
    · rw [g2 hjj,g3]; exact h.top hk j hjj
  · intro j h0 hj
    rcases sp hj with hj | rfl
    · obtain ⟨p,y,e,hy,hp,hc⟩ := h.from' j h0 hj
      exact ⟨p,y,by rw [g2 hj,g2 hp]; exact e,hy,by simp; omega,by omega⟩
    · exact ⟨k,i,by rw [g3,g2 hk],hi,by simp; omega,.inr ⟨rfl,by omega⟩⟩
  · intro j y hj hy hc
    have hj : j < S.1.length := by rcases sp hj with hj | rfl <;> omega
    rw [g1 hj,g2 hj]
    by_cases hc' : j < k ∨ (j = k ∧ y < i)
    · obtain ⟨a,j',hj',ej',sj'⟩ := h.seen j y hj hy hc'
      exact ⟨a,j',by simp; omega,by rw [g1 hj',ej'],by rw [g2 hj']; exact sj'⟩
    · have : j = k := by omega
      subst this
      have : y = i := by omega
      subst this
      exact ⟨he,S.1.length,by simp,by rw [g4],by rw [g3]; exact xE7 _⟩
theorem BI.next (h : BI A B S k (two A.i)) : BI A B S (k + 1) 0 := by
  refine ⟨h.len,h.nd,h.first,h.reach,h.lets,h.ord,?_,?_⟩
  · intro j h0 hj
    obtain ⟨p,y,e,hy,hp,hc⟩ := h.from' j h0 hj
    exact ⟨p,y,e,hy,hp,.inl (by omega)⟩
  · intro j y hj hy hc
    exact h.seen j y hj hy (by omega)
theorem BI.start (A B : Ma) : BI A B ([(A.s,B.s)],[[]]) 0 0 := by
  refine ⟨rfl,by simp,⟨rfl,rfl,by simp⟩,?_,?_,?_,?_,?_⟩
  · intro j hj
    have : j = 0 := by simpa using hj
    subst this; rfl
  · intro j hj
    have : j = 0 := by simpa using hj
    subst this; simp
  · intro j j' a b; simp at b; omega
  · intro j a b; simp at b; omega
  · intro j y a b c; omega
end
def xTK (A B : Ma) (v : List Nat) : Prop := ∃ u x,v = u ++ [x] ∧ (∀ y ∈ v,y < two A.i) ∧ xE8 A B u x ∧ ∀ t y,(∀ z ∈ t ++ [y],z < two A.i) → xE8 A B t y → xGb v (t ++ [y])
theorem xFz (A B : Ma) (k : Nat) : ∀ (m i : Nat) (S : Bs),i + m = two A.i → k < S.1.length → BI A B S k i →
    (∀ v S',xF4 A B (S.2.getD k []) (S.1.getD k (0,0)) (List.range' i m) S = (some v,S') → xTK A B v) ∧
    (∀ S',xF4 A B (S.2.getD k []) (S.1.getD k (0,0)) (List.range' i m) S = (none,S') → BI A B S' k (two A.i) ∧ k < S'.1.length)
  | 0,i,S,hm,hk,h => by
    have : i = two A.i := by omega
    subst this
    refine ⟨by intro v S' e; simp [xF4] at e,?_⟩
    intro S' e
    simp only [List.range'_zero,xF4,Prod.mk.injEq,true_and] at e
    subst e
    exact ⟨h,hk⟩
  | m + 1,i,S,hm,hk,h => by
    have hi : i < two A.i := by omega
    rw [List.range'_succ,xF4]
    by_cases he : em A (S.1.getD k (0,0)).1 i = em B (S.1.getD k (0,0)).2 i
    · rw [if_neg (fun e => e he)]
      by_cases hmem : (nx A (S.1.getD k (0,0)).1 i,nx B (S.1.getD k (0,0)).2 i) ∈ S.1
      · rw [if_pos hmem]
        exact xFz A B k m (i + 1) S (by omega) hk (h.old hk he hmem)
      · rw [if_neg hmem]
        have hn := h.new hk hi he hmem
        have := xFz A B k m (i + 1) _ (by omega) (by simp; omega) hn
        rwa [show (S.1 ++ [(nx A (S.1.getD k (0,0)).1 i,nx B (S.1.getD k (0,0)).2 i)]).getD k (0,0) = S.1.getD k (0,0) from xCV _ _ _ hk,show (S.2 ++ [S.2.getD k [] ++ [i]]).getD k [] = S.2.getD k [] from xCV _ _ _ (by rw [h.len]; exact hk)] at this
    · rw [if_pos he]
      refine ⟨?_,by intro S' e; simp at e⟩
      intro v S' e
      simp only [Prod.mk.injEq,Option.some.injEq] at e
      obtain ⟨rfl,rfl⟩ := e
      refine ⟨_,i,rfl,?_,?_,fun t y hl ht => h.least hk t y hl ht⟩
      · intro x hx
        rcases List.mem_append.mp hx with hx | hx
        · exact h.lets k hk x hx
        · rw [List.mem_singleton] at hx; omega
      · unfold xE8
        rw [h.reach k hk]
        exact he
theorem xP4 (A B : Ma) : ∀ (e k : Nat) (S : Bs),BI A B S k 0 → k ≤ S.1.length → (∀ v,xFx A B e k S = some v → xTK A B v)
  | 0,k,S,h,hk,v,e => by simp [xFx] at e
  | e + 1,k,S,h,hk,v,ev => by
    rw [xFx] at ev
    split at ev
    · rename_i hk'
      have hb := xFz A B k (two A.i) 0 S (by omega) hk' h
      rw [← List.range_eq_range'] at hb
      generalize xF4 A B (S.2.getD k []) (S.1.getD k (0,0)) (List.range (two A.i)) S = r at hb ev
      obtain ⟨r1,r2⟩ := r
      cases r1 with
      | some v' =>
        simp only [Option.some.injEq] at ev
        subst ev
        exact hb.1 v' r2 rfl
      | none =>
        have := hb.2 r2 rfl
        exact xP4 A B e (k + 1) r2 this.1.next this.2 v ev
    · simp at ev
theorem xP5 (H : Heap) (id : Nat) (v : AV) (es : List (AV × AV)) : xXN H id 0 v (some es) = xZv H id 0 v es es[0]? := rfl
def KtP (P : Nat → Prop) (T : Nat) (G G' : Heap) : Prop := G.length ≤ G'.length ∧ ∀ b,¬ P b → b ≠ T → G'[b]? = G[b]?
def QI (P : Nat → Prop) (T : Nat) (G : Heap) (ks : List (Nat × Nat)) : Prop :=
  ∃ mv lv,G[T]? = some (.cells false false [mv,lv]) ∧
    ((mv = .nilm ∧ lv = .sl true 0 [] ∧ ks = []) ∨ ∃ q p,mv = .mp q ∧ lv = .own false p 0 ks.length 2 ∧ P q ∧ P p ∧ G[q]? = some (.mp (ent kv2 ks 0)) ∧ G[p]? = some (.cells false false (pcs ks)))
section
variable {P : Nat → Prop} {T : Nat} {G : Heap} {ks : List (Nat × Nat)} {k : Nat × Nat}
theorem pcs_snoc' (l : List (Nat × Nat)) (a b : Nat) : pcs l ++ [.int .i64 (a : Nat),.int .i64 (b : Nat)] = pcs (l ++ [(a,b)]) := xUX l (a,b)
theorem xU8 (l : List (Nat × Nat)) : List.take (l.length * 2) (pcs l) = pcs l := List.take_of_length_le (by rw [xAj]; exact Nat.le_refl _)
set_option maxHeartbeats 1000000 in
theorem xTL (hT : ¬ P T) (hB : ∀ n,G.length ≤ n → P n) (h : QI P T G ks) (hk : k ∉ ks) (hl : ks.length < 1099511627) :
    ∃ G',L.icall (.func 74 []) [.ptr T 0,kv2 k] G = some (.tup [.int .i64 (ks.length : Nat),.bool true],G') ∧ QI P T G' (ks ++ [k]) ∧ KtP P T G G' := by
  obtain ⟨mv,lv,h1,h2⟩ := h
  obtain ⟨k1,k2⟩ := k
  have hf := xKU xTo (k1,k2) ks 0
  rw [if_neg hk] at hf
  have hG := xDU h1
  have he := xPM xTo (k1,k2) (.int .i64 0) ks 0 0 hk
  have ha := xY2 kv2 (k1,k2) (.int .i64 0) ks
  have hs := xXu kv2 (k1,k2) (.int .i64 0) ks
  simp only [kv2,Nat.zero_add] at hf he ha hs ⊢
  rcases h2 with ⟨rfl,rfl,rfl⟩ | ⟨q,p,rfl,rfl,hq,hp,hqm,hpl⟩
  · have he' : xF8 (.agg [.int .i64 (k1 : Nat),.int .i64 (k2 : Nat)]) (.int .i64 0) [] 0 = some (.int .i64 0,0,[(.agg [.int .i64 (k1 : Nat),.int .i64 (k2 : Nat)],.int .i64 0)]) := rfl
    refine ⟨G.set T (.cells false false [.mp (G.length + 1),.own false (G.length + 2) 0 1 2]) ++ [.cells false false [.int .i64 (k1 : Nat),.int .i64 (k2 : Nat)],.mp (ent kv2 [(k1,k2)] 0),.cells false false (pcs [(k1,k2)])],?_,⟨.mp (G.length + 1),.own false (G.length + 2) 0 1 2,?_,.inr ⟨G.length + 1,G.length + 2,rfl,rfl,hB _ (by omega),hB _ (by omega),?_,?_⟩⟩,?_,?_⟩
    · rw [xZp,a74]
      simp (maxSteps := 30000000) (disch := first | assumption | omega | (simp only [WL,AV.isCell,List.length_modify,xAj] <;> omega) | rfl | decide) only [↓reduceIte,WB,xAH,xAc,xAD,xAl,xAk,AV.cells,AV.isCell,xAb,xAg,xAh,WP,xAA,xAs,xBg,xBe,xBa,xAx,xAC,xAB,WM,W2,xAd,xAe,xAi,Nat.reduceAdd,Nat.reduceSub,Nat.reduceLeDiff,Nat.reduceMul,Int.reduceAdd,Int.reduceSub,Int.reduceMul,Int.reduceLT,Int.reduceLE,Int.reduceEq,Int.reduceToNat,Int.reduceNeg,Nat.reduceEqDiff,Nat.reduceBEq,Nat.reduceLT,xBV,xCE,xCH,xDd,xDe,xDf,xBI,xBP,xKS,xE2,xGl,xGm,xDW,xC6,xC7,List.set_set,xAj,xBW,xBX,xK4,xGn,xCT,xDV,xE6,xK5,xE5,xP5,xE4,h1,he',xEC]
      try rfl
    · rw [xBV (by simpa using hG),xBP hG]
    · rw [xCE (by simp)]; rfl
    · rw [xCE (by simp)]; rfl
    · simp
    · intro b hb ht
      have hb' : b < G.length := Nat.lt_of_not_le fun e => hb (hB b e)
      rw [xBV (by simp; omega),xBI (fun e => ht e.symm)]
  · have hGq := xDU hqm
    have hGp := xDU hpl
    have hpT : p ≠ T := fun e : p = T => hT (e ▸ hp)
    have hqT : q ≠ T := fun e : q = T => hT (e ▸ hq)
    have hpq : p ≠ q := by rintro rfl; rw [hpl] at hqm; cases hqm
    have b1 : (T != p) = true := by simpa using fun e : T = p => hpT e.symm
    have b2 : (G.length != p) = true := by simp; omega
    have hlm : (ent kv2 ks 0).length = ks.length := xKT ..
    refine ⟨((G.set p .dead).set q (.mp (ent kv2 (ks ++ [(k1,k2)]) 0))).set T (.cells false false [.mp q,.own false (G.length + 1) 0 (ks.length + 1) 2]) ++ [.cells false false [.int .i64 (k1 : Nat),.int .i64 (k2 : Nat)],.cells false false (pcs (ks ++ [(k1,k2)]))],?_,⟨.mp q,.own false (G.length + 1) 0 (ks.length + 1) 2,?_,.inr ⟨q,G.length + 1,rfl,by simp,hq,hB _ (by omega),?_,?_⟩⟩,?_,?_⟩
    · rw [xZp,a74]
      simp (maxSteps := 30000000) (disch := first | assumption | omega | (simp only [WL,AV.isCell,List.length_modify,xAj] <;> omega) | rfl | decide) only [↓reduceIte,WB,xAH,xAc,xAD,xAl,xAk,AV.cells,AV.isCell,xAb,xAg,xAh,WP,xAA,xAs,xBg,xBe,xBa,xAx,xAC,xAB,WM,W2,xAd,xAe,xAi,Nat.reduceAdd,Nat.reduceSub,Nat.reduceLeDiff,Nat.reduceMul,Int.reduceAdd,Int.reduceSub,Int.reduceMul,Int.reduceLT,Int.reduceLE,Int.reduceEq,Int.reduceToNat,Int.reduceNeg,Nat.reduceEqDiff,Nat.reduceBEq,Nat.reduceLT,xBV,xCE,xCH,xDd,xDe,xDf,xBI,xBP,xKS,xE2,xGl,xGm,xDW,xC6,xC7,List.set_set,xAj,xBW,xBX,xK4,xGn,xCT,xDV,xE6,xK5,xE5,xP5,xE4,h1,hf,he,ha,hs,hqm,hpl,b1,b2,xU8,pcs_snoc']
      try rfl
    · rw [xBV (by simpa using hG),xBP (by simpa using hG)]
    · rw [xBV (by simpa using hGq),xBI (fun e => hqT e.symm),xBP (by simpa using hGq)]
    · rw [xCE (by simp)]; rfl
    · simp
    · intro b hb ht
      have hb' : b < G.length := Nat.lt_of_not_le fun e => hb (hB b e)
      rw [xBV (by simp; omega),xBI (fun e => ht e.symm),xBI (fun e : q = b => hb (e ▸ hq)),xBI (fun e : p = b => hb (e ▸ hp))]
theorem xTM (hT : ¬ P T) (hB : ∀ n,G.length ≤ n → P n) (h : QI P T G ks) (hk : k ∈ ks) (hl : ks.length < 1099511627) :
    ∃ G',L.icall (.func 74 []) [.ptr T 0,kv2 k] G = some (.tup [.int .i64 (pos k ks : Nat),.bool false],G') ∧ QI P T G' ks ∧ KtP P T G G' := by
  obtain ⟨mv,lv,h1,h2⟩ := h
  have hf := xKU xTo k ks 0
  rw [if_pos hk,Nat.zero_add] at hf
  generalize pos k ks = n at *
  obtain ⟨k1,k2⟩ := k
  have hG := xDU h1
  simp only [kv2] at hf ⊢
  rcases h2 with ⟨rfl,rfl,rfl⟩ | ⟨q,p,rfl,rfl,hq,hp,hqm,hpl⟩
  · simp at hk
  · have hGq := xDU hqm
    have hGp := xDU hpl
    refine ⟨G ++ [.cells false false [.int .i64 (k1 : Nat),.int .i64 (k2 : Nat)]],?_,⟨.mp q,.own false p 0 ks.length 2,?_,.inr ⟨q,p,rfl,rfl,hq,hp,?_,?_⟩⟩,?_,?_⟩
    · rw [xZp,a74]
      simp (maxSteps := 30000000) (disch := first | assumption | omega | (simp only [WL,AV.isCell,List.length_modify,xAj] <;> omega) | rfl | decide) only [↓reduceIte,WB,xAH,xAc,xAD,xAl,xAk,AV.cells,AV.isCell,xAb,xAg,xAh,WP,xAA,xAs,xBg,xBe,xBa,xAx,xAC,xAB,WM,W2,xAd,xAe,xAi,Nat.reduceAdd,Nat.reduceSub,Nat.reduceLeDiff,Nat.reduceMul,Int.reduceAdd,Int.reduceSub,Int.reduceMul,Int.reduceLT,Int.reduceLE,Int.reduceEq,Int.reduceToNat,Int.reduceNeg,Nat.reduceEqDiff,Nat.reduceBEq,Nat.reduceLT,xBV,xCE,xCH,xDd,xDe,xDf,xBI,xBP,xKS,xE2,xGl,xGm,xDW,xC6,xC7,List.set_set,xAj,xBW,xBX,xK4,xGn,xCT,xDV,xE6,xK5,xE5,xP5,xE4,h1,hf,hqm]
    · rw [xBV hG,h1]
    · rw [xBV hGq,hqm]
    · rw [xBV hGp,hpl]
    · simp
    · intro b hb ht
      rw [xBV (Nat.lt_of_not_le fun e => hb (hB b e))]
theorem xTN {k1 k2 : Nat} (h1 : G[T]? = some (.cells false false [.nilm,.sl true 0 []])) :
    L.icall (.func 74 []) [.ptr T 0,.agg [.int .i64 (k1 : Nat),.int .i64 (k2 : Nat)]] G = some (.tup [.int .i64 0,.bool true],G.set T (.cells false false [.mp (G.length + 1),.own false (G.length + 2) 0 1 2]) ++ [.cells false false [.int .i64 (k1 : Nat),.int .i64 (k2 : Nat)],.mp (ent kv2 [(k1,k2)] 0),.cells false false (pcs [(k1,k2)])]) := by
  have hG := xDU h1
  have he' : xF8 (.agg [.int .i64 (k1 : Nat),.int .i64 (k2 : Nat)]) (.int .i64 0) [] 0 = some (.int .i64 0,0,[(.agg [.int .i64 (k1 : Nat),.int .i64 (k2 : Nat)],.int .i64 0)]) := rfl
  rw [xZp,a74]
  simp (maxSteps := 30000000) (disch := first | assumption | omega | (simp only [WL,AV.isCell,List.length_modify,xAj] <;> omega) | rfl | decide) only [↓reduceIte,WB,xAH,xAc,xAD,xAl,xAk,AV.cells,AV.isCell,xAb,xAg,xAh,WP,xAA,xAs,xBg,xBe,xBa,xAx,xAC,xAB,WM,W2,xAd,xAe,xAi,Nat.reduceAdd,Nat.reduceSub,Nat.reduceLeDiff,Nat.reduceMul,Int.reduceAdd,Int.reduceSub,Int.reduceMul,Int.reduceLT,Int.reduceLE,Int.reduceEq,Int.reduceToNat,Int.reduceNeg,Nat.reduceEqDiff,Nat.reduceBEq,Nat.reduceLT,xBV,xCE,xCH,xDd,xDe,xDf,xBI,xBP,xKS,xE2,xGl,xGm,xDW,xC6,xC7,List.set_set,xAj,xBW,xBX,xK4,xGn,xCT,xDV,xE6,xK5,xE5,xP5,xE4,h1,he',xEC]
  try rfl
end
def wv (l : List Nat) : AV := xCD l.isEmpty l
theorem xU9 {l : List (List Nat)} {i : Nat} (h : i < l.length) : List.take 1 (List.drop i (l.map wv)) = [wv (l.getD i [])] := xH3 _ _ h
theorem xZf (l : List (List Nat)) : List.take l.length (l.map wv) = l.map wv := List.take_of_length_le (by simp)
theorem xN5 (u : List Nat) (x : Nat) : wv (u ++ [x]) = .sl false (u.length + 1) (bs (u ++ [x])) := by
  unfold wv xCD
  simp
theorem xXJ (u : List Nat) (x : Nat) (hu : u.length < 1099511627) : L.pcall 76 [.sl false 2 [.sl u.isEmpty u.length (bs u),.sl false 1 [.int .u8 (x : Nat)]]] = some (.sl false (u.length + 1) (bs (u ++ [x]))) := by
  obtain ⟨z,hc,hz⟩ := xTw u.isEmpty false u [x] (by omega) (by simp)
  obtain rfl : z = false := by
    cases z with
    | false => rfl
    | true => have := hz rfl; simp at this
  rw [show xCD false [x] = .sl false 1 [.int .u8 (x : Nat)] from rfl] at hc
  rw [← xN5]
  unfold wv
  rw [show (u ++ [x]).isEmpty = false by simp]
  exact hc
def P37 (pb pw : Nat) (n : Nat) : Prop := 8 ≤ n ∧ n ≠ 12 ∧ n ≠ 13 ∧ n ≠ 14 ∧ n ≠ pb ∧ n ≠ pw
structure EI (A B : Ma) (lb : Blk) (c : Nat × Nat) (pb : Nat) (G : Heap) (S : Bs) (pw : Nat) : Prop where
  g0 : G[0]? = some (.cells false false A.cells)
  g1 : G[1]? = some (.cells false false B.cells)
  g2 : G[2]? = some (.cells false false [.sl true 0 []])
  g3 : G[3]? = some (.cells false false [.bool false])
  g4 : G[4]? = some (.cells false false [.int .i64 0])
  g13 : G[13]? = some (.cells false false [.ptr 7 0])
  gl : G[14]? = some lb
  gp : G[pb]? = some (.cells false false [.int .i64 (c.1 : Nat),.int .i64 (c.2 : Nat)])
  q : QI (P37 pb pw) 7 G S.1
  w : G[12]? = some (.cells false false [.own false pw 0 S.2.length 1])
  wp : G[pw]? = some (.cells false false (S.2.map wv))
  hw : pw = 11 ∨ 15 ≤ pw
  hb : 15 ≤ pb
  hn : pb ≠ pw
section
variable {A B : Ma} {lb : Blk} {c : Nat × Nat} {pb pw k i : Nat} {G : Heap} {S : Bs}
abbrev F37 (k i N pb : Nat) : List AV := xIY (.ptr 0 0) (.ptr 1 0) (.ptr 2 0) (.ptr 3 0) (.ptr 4 0) (.ptr 7 0) (.ptr 12 0) (.int .i64 (k : Nat)) (.ptr pb 0) (.int .i64 (N : Nat)) (.int .i64 (i : Nat))
theorem xZg : ¬ P37 pb pw 7 := fun h => by have := h.1; omega
theorem EI.far (h : EI A B lb c pb G S pw) : ∀ n,G.length ≤ n → P37 pb pw n := by
  intro n hn
  have := xDU h.gl; have := xDU h.gp; have := xDU h.wp
  exact ⟨by omega,by omega,by omega,by omega,by omega,by omega⟩
theorem EI.kt (h : EI A B lb c pb G S pw) {G1 : Heap} {S1 : List (Nat × Nat)} (hk : KtP (P37 pb pw) 7 G G1) (hq : QI (P37 pb pw) 7 G1 S1) : EI A B lb c pb G1 (S1,S.2) pw := by
  have hw := h.hw
  have hb := h.hb
  have f : ∀ b,¬ P37 pb pw b → b ≠ 7 → G1[b]? = G[b]? := hk.2
  exact ⟨by rw [f 0 (fun e => by have := e.1; omega) (by omega),h.g0],by rw [f 1 (fun e => by have := e.1; omega) (by omega),h.g1],by rw [f 2 (fun e => by have := e.1; omega) (by omega),h.g2],by rw [f 3 (fun e => by have := e.1; omega) (by omega),h.g3],by rw [f 4 (fun e => by have := e.1; omega) (by omega),h.g4],
    by rw [f 13 (fun e => e.2.2.1 rfl) (by omega),h.g13],by rw [f 14 (fun e => e.2.2.2.1 rfl) (by omega),h.gl],by rw [f pb (fun e => e.2.2.2.2.1 rfl) (by omega),h.gp],hq,by rw [f 12 (fun e => e.2.1 rfl) (by omega),h.w],by rw [f pw (fun e => e.2.2.2.2.2 rfl) (by omega),h.wp],h.hw,h.hb,h.hn⟩
set_option maxHeartbeats 1000000 in
theorem xVa (h : EI A B lb c pb G S pw) : L.loop xCt xFp ⟨F37 k (two A.i) (two A.i) pb,G⟩ = some (.exit 4,⟨F37 k (two A.i) (two A.i) pb,G⟩) := by
  rw [xOr]
  simp (maxSteps := 30000000) (disch := first | assumption | omega | (simp only [WL,AV.isCell,xAj] <;> omega) | rfl | decide) only [↓reduceIte,WB,xAH,xAc,xAD,xAl,xAk,AV.cells,AV.isCell,xAb,xAg,xAh,WP,xAA,xAs,xBg,xBe,xBa,xAx,xAC,xAB,WA,W2,xAd,xAe,xAi,Nat.reduceAdd,Nat.reduceSub,Nat.reduceLeDiff,Nat.reduceMul,Int.reduceAdd,Int.reduceSub,Int.reduceMul,Int.reduceLT,Int.reduceLE,Int.reduceEq,Int.reduceToNat,Int.reduceNeg,Nat.reduceEqDiff,Nat.reduceBEq,Nat.reduceLT,xBV,xCE,xCH,xDd,xDe,xDf,xBI,xBP,xBl,xBm,xEl,xGa,xU9,List.length_map,List.set_set,xAj,xBW,xBX,xIX,xIZ]
set_option maxHeartbeats 1000000 in
theorem xTO (hA : Vm A) (hB : Vm B) (hAB : A.i = B.i) (h : EI A B lb c pb G S pw) (hi : i < two A.i) (hk : k < S.2.length) (c1 : c.1 < A.next.length) (c2 : c.2 < B.next.length) (hl : (S.2.getD k []).length < 1099511627) (hl2 : S.2.length < 1099511627)
    (he : em A c.1 i ≠ em B c.2 i) :
    ∃ F' G',L.loop xCt xFp ⟨F37 k i (two A.i) pb,G⟩ = some (.ret,⟨F',G'⟩) ∧ G'[2]? = some (.cells false false [wv (S.2.getD k [] ++ [i])]) ∧ G'[3]? = some (.cells false false [.bool false]) ∧ G'[4]? = some (.cells false false [.int .i64 0]) ∧ G'[14]? = some lb := by
  obtain ⟨g0,g1,g2,g3,g4,g13,gl,gp,hq,gw,gwp,hw,hb,hn⟩ := h
  have hc := xXJ (S.2.getD k []) i hl
  have hG := xDU gl
  have hlt : (i : Int) < (two A.i : Nat) := by omega
  have h64 : i < 64 := by have := xTq (show A.i ≤ 6 by have := hA.io; omega); have : two 6 = 64 := rfl; omega
  have l1 := hA.nl c1
  have l2 := hA.wl' c1
  have l3 := hB.nl c2
  have l4 := hB.wl' c2
  have l5 := hA.el
  have l6 := hB.el
  have hi' := hi
  rw [hAB] at hi'
  have he' : ¬ ((((A.emit.getD c.1 []).getD i 0 : Nat) : Int) = (((B.emit.getD c.2 []).getD i 0 : Nat) : Int)) := by
    intro e; exact he (by unfold em; omega)
  rw [xN5]
  have hwk : wv (S.2.getD k []) = .sl (S.2.getD k []).isEmpty (S.2.getD k []).length (bs (S.2.getD k [])) := rfl
  unfold Ma.cells at g0 g1
  refine ⟨F37 k i (two A.i) pb,((G.set 2 (.cells false false [.sl false ((S.2.getD k []).length + 1) (bs (S.2.getD k [] ++ [i]))])).set 3 (.cells false false [.bool false])).set 4 (.cells false false [.int .i64 0]),?_,?_,?_,?_,?_⟩
  · rw [xOr]
    simp (maxSteps := 30000000) (disch := first | assumption | omega | (simp only [WL,AV.isCell,xAj] <;> omega) | rfl | decide) only [↓reduceIte,WB,xAH,xAc,xAD,xAl,xAk,AV.cells,AV.isCell,xAb,xAg,xAh,WP,xAA,xAs,xBg,xBe,xBa,xAx,xAC,xAB,WA,W2,xAd,xAe,xAi,Nat.reduceAdd,Nat.reduceSub,Nat.reduceLeDiff,Nat.reduceMul,Int.reduceAdd,Int.reduceSub,Int.reduceMul,Int.reduceLT,Int.reduceLE,Int.reduceEq,Int.reduceToNat,Int.reduceNeg,Nat.reduceEqDiff,Nat.reduceBEq,Nat.reduceLT,xBV,xCE,xCH,xDd,xDe,xDf,xBI,xBP,xBl,xBm,xEl,xGa,xU9,List.length_map,List.set_set,xAj,xBW,xBX,xIX,xIZ,hlt,gw,gwp,hwk,hc,g0,g1,gp,g2,g3,g4,l1,l2,l3,l4,l5,l6,c1,c2,hi,hi',he']
  · rw [xBI (by omega),xBI (by omega),xBP (by omega)]
  · rw [xBI (by omega),xBP (by simp; omega)]
  · rw [xBP (by simp; omega)]
  · rw [xBI (by omega),xBI (by omega),xBI (by omega),gl]
set_option maxHeartbeats 1000000 in
theorem xVb (hA : Vm A) (hB : Vm B) (hAB : A.i = B.i) (h : EI A B lb c pb G S pw) (hi : i < two A.i) (hk : k < S.2.length) (c1 : c.1 < A.next.length) (c2 : c.2 < B.next.length) (hl : (S.2.getD k []).length < 1099511627) (hl2 : S.2.length < 1099511627) (hl1 : S.1.length < 1099511627)
    (he : em A c.1 i = em B c.2 i) (hm : (nx A c.1 i,nx B c.2 i) ∈ S.1) :
    ∃ G',L.loop xCt xFp ⟨F37 k i (two A.i) pb,G⟩ = L.loop xCt xFp ⟨F37 k (i + 1) (two A.i) pb,G'⟩ ∧ EI A B lb c pb G' S pw := by
  obtain ⟨G1,k1,k2,k3⟩ := xTM xZg h.far h.q hm hl1
  have h' := h.kt k3 k2
  refine ⟨G1,?_,h'⟩
  obtain ⟨g0,g1,g2,g3,g4,g13,gl,gp,hq,gw,gwp,hw,hb,hn⟩ := h
  have hc := xXJ (S.2.getD k []) i hl
  have hlt : (i : Int) < (two A.i : Nat) := by omega
  have h64 : i < 64 := by have := xTq (show A.i ≤ 6 by have := hA.io; omega); have : two 6 = 64 := rfl; omega
  have l1 := hA.nl c1
  have l2 := hA.wl' c1
  have l3 := hB.nl c2
  have l4 := hB.wl' c2
  have l5 := hA.el
  have l6 := hB.el
  have hi' := hi
  rw [hAB] at hi'
  have he' : (A.emit.getD c.1 []).getD i 0 = (B.emit.getD c.2 []).getD i 0 := he
  have hwk : wv (S.2.getD k []) = .sl (S.2.getD k []).isEmpty (S.2.getD k []).length (bs (S.2.getD k [])) := rfl
  simp only [kv2] at k1
  unfold nx at k1
  unfold Ma.cells at g0 g1
  rw [xOr]
  simp (maxSteps := 30000000) (disch := first | assumption | omega | (simp only [WL,AV.isCell,xAj] <;> omega) | rfl | decide) only [↓reduceIte,WB,xAH,xAc,xAD,xAl,xAk,AV.cells,AV.isCell,xAb,xAg,xAh,WP,xAA,xAs,xBg,xBe,xBa,xAx,xAC,xAB,WA,W2,xAd,xAe,xAi,Nat.reduceAdd,Nat.reduceSub,Nat.reduceLeDiff,Nat.reduceMul,Int.reduceAdd,Int.reduceSub,Int.reduceMul,Int.reduceLT,Int.reduceLE,Int.reduceEq,Int.reduceToNat,Int.reduceNeg,Nat.reduceEqDiff,Nat.reduceBEq,Nat.reduceLT,xBV,xCE,xCH,xDd,xDe,xDf,xBI,xBP,xBl,xBm,xEl,xGa,xU9,List.length_map,List.set_set,xAj,xBW,xBX,xIX,xIZ,hlt,gw,gwp,hwk,hc,g0,g1,gp,l1,l2,l3,l4,l5,l6,c1,c2,hi,hi',he',k1]
set_option maxHeartbeats 1000000 in
theorem xVc (hA : Vm A) (hB : Vm B) (hAB : A.i = B.i) (h : EI A B lb c pb G S pw) (hi : i < two A.i) (hk : k < S.2.length) (c1 : c.1 < A.next.length) (c2 : c.2 < B.next.length) (hl : (S.2.getD k []).length < 1099511627) (hl2 : S.2.length < 1099511627) (hl1 : S.1.length < 1099511627)
    (he : em A c.1 i = em B c.2 i) (hm : (nx A c.1 i,nx B c.2 i) ∉ S.1) :
    ∃ G' pw',L.loop xCt xFp ⟨F37 k i (two A.i) pb,G⟩ = L.loop xCt xFp ⟨F37 k (i + 1) (two A.i) pb,G'⟩ ∧ EI A B lb c pb G' (S.1 ++ [(nx A c.1 i,nx B c.2 i)],S.2 ++ [S.2.getD k [] ++ [i]]) pw' := by
  obtain ⟨G1,k1,k2,k3⟩ := xTL xZg h.far h.q hm hl1
  have h' := h.kt k3 k2
  have hc := xXJ (S.2.getD k []) i hl
  have hlt : (i : Int) < (two A.i : Nat) := by omega
  have h64 : i < 64 := by have := xTq (show A.i ≤ 6 by have := hA.io; omega); have : two 6 = 64 := rfl; omega
  have l1 := hA.nl c1
  have l2 := hA.wl' c1
  have l3 := hB.nl c2
  have l4 := hB.wl' c2
  have l5 := hA.el
  have l6 := hB.el
  have hi' := hi
  rw [hAB] at hi'
  have he' : (A.emit.getD c.1 []).getD i 0 = (B.emit.getD c.2 []).getD i 0 := he
  have hwk : wv (S.2.getD k []) = .sl (S.2.getD k []).isEmpty (S.2.getD k []).length (bs (S.2.getD k [])) := rfl
  obtain ⟨x0,x1,x2,x3,x4,x13,xl,xp,xq,xw,xwp,xhw,xhb,xhn⟩ := h'
  have y1 := xDU xl
  have y2 := xDU xp
  have y3 := xDU xwp
  refine ⟨((G1.set pw .dead).set 12 (.cells false false [.own false G1.length 0 (S.2.length + 1) 1])) ++ [.cells false false ((S.2 ++ [S.2.getD k [] ++ [i]]).map wv)],G1.length,?_,?_⟩
  · obtain ⟨g0,g1,g2,g3,g4,g13,gl,gp,hq,gw,gwp,hw,hb,hn⟩ := h
    simp only [kv2] at k1
    unfold nx at k1
    unfold Ma.cells at g0 g1
    rw [List.map_append,List.map_cons,List.map_nil,xN5]
    rw [xOr]
    simp (maxSteps := 30000000) (disch := first | assumption | omega | (simp only [WL,AV.isCell,xAj] <;> omega) | rfl | decide) only [↓reduceIte,WB,xAH,xAc,xAD,xAl,xAk,AV.cells,AV.isCell,xAb,xAg,xAh,WP,xAA,xAs,xBg,xBe,xBa,xAx,xAC,xAB,WA,W2,xAd,xAe,xAi,Nat.reduceAdd,Nat.reduceSub,Nat.reduceLeDiff,Nat.reduceMul,Int.reduceAdd,Int.reduceSub,Int.reduceMul,Int.reduceLT,Int.reduceLE,Int.reduceEq,Int.reduceToNat,Int.reduceNeg,Nat.reduceEqDiff,Nat.reduceBEq,Nat.reduceLT,xBV,xCE,xCH,xDd,xDe,xDf,xBI,xBP,xBl,xBm,xEl,xGa,xU9,List.length_map,List.set_set,xAj,xBW,xBX,xIX,xIZ,hlt,gw,gwp,hwk,hc,g0,g1,gp,l1,l2,l3,l4,l5,l6,c1,c2,hi,hi',he',k1,xw,xwp,xZf]
    try rfl
  · have f : ∀ b,b < G1.length → b ≠ 12 → b ≠ pw → (((G1.set pw .dead).set 12 (.cells false false [.own false G1.length 0 (S.2.length + 1) 1])) ++ [.cells false false ((S.2 ++ [S.2.getD k [] ++ [i]]).map wv)])[b]? = G1[b]? := by
      intro b a1 a2 a3
      rw [xBV (by simpa using a1),xBI (by omega),xBI (by omega)]
    have hw := h.hw
    refine ⟨by rw [f 0 (by omega) (by omega) (by omega),x0],by rw [f 1 (by omega) (by omega) (by omega),x1],by rw [f 2 (by omega) (by omega) (by omega),x2],by rw [f 3 (by omega) (by omega) (by omega),x3],by rw [f 4 (by omega) (by omega) (by omega),x4],by rw [f 13 (by omega) (by omega) (by omega),x13],by rw [f 14 (by omega) (by omega) (by omega),xl],by rw [f pb (by omega) (by omega) xhn,xp],?_,?_,?_,.inr (by omega),xhb,by omega⟩
    · obtain ⟨mv,lv,q1,q2⟩ := xq
      refine ⟨mv,lv,by rw [f 7 (by omega) (by omega) (by omega),q1],?_⟩
      rcases q2 with q2 | ⟨q,p,e1,e2,p1,p2,m1,m2⟩
      · exact .inl q2
      · have z1 := xDU m1
        have z2 := xDU m2
        exact .inr ⟨q,p,e1,e2,⟨p1.1,p1.2.1,p1.2.2.1,p1.2.2.2.1,p1.2.2.2.2.1,by omega⟩,⟨p2.1,p2.2.1,p2.2.2.1,p2.2.2.2.1,p2.2.2.2.2.1,by omega⟩,by rw [f q z1 p1.2.1 p1.2.2.2.2.2,m1],by rw [f p z2 p2.2.1 p2.2.2.2.2.2,m2]⟩
    · rw [xBV (by simp; omega),xBP (by simp; omega),List.length_append]; rfl
    · rw [xCH (by simp)]; rfl
end
section
variable {A B : Ma} {S : Bs} {k i : Nat}
def PV (A B : Ma) (S : Bs) : Prop := ∀ x ∈ S.1,x.1 < A.next.length ∧ x.2 < B.next.length
theorem BI.wlen (h : BI A B S k i) : ∀ j,j < S.1.length → (S.2.getD j []).length ≤ j := by
  intro j
  induction j using Nat.strongRecOn with
  | ind j ih =>
    intro hj
    by_cases j0 : j = 0
    · subst j0; rw [h.first.2.1]; exact Nat.le_refl _
    obtain ⟨p,y,e,hy,hp,hc⟩ := h.from' j (by omega) hj
    have hl : (S.2.getD j []).length = (S.2.getD p []).length + 1 := by rw [e]; simp
    have hpj : p < j := by
      rcases Nat.lt_trichotomy p j with c | c | c
      · exact c
      · rw [c] at hl; omega
      · have := h.ord j p c hp
        unfold xGb at this
        omega
    have := ih p hpj hp
    omega
theorem BI.len_le (h : BI A B S k i) (hp : PV A B S) : S.1.length ≤ A.next.length * B.next.length := xTp h.nd hp
theorem xN6 (hA : Vm A) (hB : Vm B) : A.next.length * B.next.length ≤ 16777216 := Nat.mul_le_mul hA.n9 hB.n9
theorem PV.at (h : PV A B S) (hk : k < S.1.length) : (S.1.getD k (0,0)).1 < A.next.length ∧ (S.1.getD k (0,0)).2 < B.next.length := h _ (xBw hk)
theorem xK7 {lb : Blk} {pb k : Nat} (hA : Vm A) (hB : Vm B) (hAB : A.i = B.i) : ∀ (m i : Nat) (S : Bs) (G : Heap) (pw : Nat),i + m = two A.i → k < S.1.length → BI A B S k i → PV A B S → EI A B lb (S.1.getD k (0,0)) pb G S pw →
    (∀ v S',xF4 A B (S.2.getD k []) (S.1.getD k (0,0)) (List.range' i m) S = (some v,S') → ∃ F' G',L.loop xCt xFp ⟨F37 k i (two A.i) pb,G⟩ = some (.ret,⟨F',G'⟩) ∧ G'[2]? = some (.cells false false [wv v]) ∧ G'[3]? = some (.cells false false [.bool false]) ∧ G'[4]? = some (.cells false false [.int .i64 0]) ∧ G'[14]? = some lb) ∧
    (∀ S',xF4 A B (S.2.getD k []) (S.1.getD k (0,0)) (List.range' i m) S = (none,S') → ∃ F' G' pw',L.loop xCt xFp ⟨F37 k i (two A.i) pb,G⟩ = some (.exit 4,⟨F',G'⟩) ∧ EI A B lb (S.1.getD k (0,0)) pb G' S' pw' ∧ PV A B S')
  | 0,i,S,G,pw,hm,hk,h,hp,hE => by
    have : i = two A.i := by omega
    subst this
    refine ⟨by intro v S' e; simp [xF4] at e,?_⟩
    intro S' e
    simp only [List.range'_zero,xF4,Prod.mk.injEq,true_and] at e
    subst e
    exact ⟨_,G,pw,xVa hE,hE,hp⟩
  | m + 1,i,S,G,pw,hm,hk,h,hp,hE => by
    have hi : i < two A.i := by omega
    have hs := xN6 hA hB
    have hle := h.len_le hp
    have hw := h.wlen k hk
    have hl := h.len
    have hc := hp.at hk
    rw [List.range'_succ,xF4]
    by_cases he : em A (S.1.getD k (0,0)).1 i = em B (S.1.getD k (0,0)).2 i
    · rw [if_neg (fun e => e he)]
      by_cases hmem : (nx A (S.1.getD k (0,0)).1 i,nx B (S.1.getD k (0,0)).2 i) ∈ S.1
      · rw [if_pos hmem]
        obtain ⟨G',e1,e2⟩ := xVb (k := k) hA hB hAB hE hi (by omega) hc.1 hc.2 (by omega) (by omega) (by omega) he hmem
        rw [e1]
        exact xK7 hA hB hAB m (i + 1) S G' pw (by omega) hk (h.old hk he hmem) hp e2
      · rw [if_neg hmem]
        obtain ⟨G',pw',e1,e2⟩ := xVc (k := k) hA hB hAB hE hi (by omega) hc.1 hc.2 (by omega) (by omega) (by omega) he hmem
        rw [e1]
        have hn := h.new hk hi he hmem
        have hp' : PV A B (S.1 ++ [(nx A (S.1.getD k (0,0)).1 i,nx B (S.1.getD k (0,0)).2 i)],S.2 ++ [S.2.getD k [] ++ [i]]) := by
          intro x hx
          rcases List.mem_append.mp hx with hx | hx
          · exact hp x hx
          · rw [List.mem_singleton] at hx
            subst hx
            exact ⟨hA.nx hc.1 hi,hB.nx hc.2 (by rw [← hAB]; exact hi)⟩
        have g1 : (S.1 ++ [(nx A (S.1.getD k (0,0)).1 i,nx B (S.1.getD k (0,0)).2 i)]).getD k (0,0) = S.1.getD k (0,0) := xCV _ _ _ hk
        have g2 : (S.2 ++ [S.2.getD k [] ++ [i]]).getD k [] = S.2.getD k [] := xCV _ _ _ (by rw [h.len]; exact hk)
        have := xK7 (lb := lb) (pb := pb) (k := k) hA hB hAB m (i + 1) (S.1 ++ [(nx A (S.1.getD k (0,0)).1 i,nx B (S.1.getD k (0,0)).2 i)],S.2 ++ [S.2.getD k [] ++ [i]]) G' pw' (by omega) (by simp; omega) hn hp' (by simp only [g1]; exact e2)
        simp only [g1,g2] at this
        exact this
    · rw [if_pos he]
      refine ⟨?_,by intro S' e; simp at e⟩
      intro v S' e
      simp only [Prod.mk.injEq,Option.some.injEq] at e
      obtain ⟨rfl,rfl⟩ := e
      exact xTO (k := k) hA hB hAB hE hi (by omega) hc.1 hc.2 (by omega) (by omega) he
end
abbrev yAY (s0 s1 s7 s8 s9 s12 s13 s14 s15 s16 s17 s18 s19 s20 s21 s22 s23 s24 s25 s26 s27 s28 s29 s30 s31 s32 s33 s34 s35 s36 s37 s38 s39 s40 s41 s42 s43 s44 s45 s46 s47 s48 s49 s50 s51 s52 s53 s54 s55 s56 s57 s58 s59 s60 s61 s62 s63 s64 s65 s66 s67 s68 s69 s70 s71 s72 s73 s74 s75 s76 s77 s78 s79 s80 s81 s82 s83 s84 s85 s86 s87 s88 s89 s90 s91 s92 s93 s94 s95 s96 s97 s98 s99 s100 s101 s102 s103 s104 s105 s106 s107 s108 s109 s110 s111 s112 s113 s114 s115 s116 s117 : AV) : List AV := [s0,s1,.ptr 0 0,.ptr 1 0,.ptr 2 0,.ptr 3 0,.ptr 4 0,s7,s8,s9,.ptr 7 0,.ptr 12 0,s12,s13,s14,s15,s16,s17,s18,s19,s20,s21,s22,s23,s24,s25,s26,s27,s28,s29,s30,s31,s32,s33,s34,s35,s36,s37,s38,s39,s40,s41,s42,s43,s44,s45,s46,s47,s48,s49,s50,s51,s52,s53,s54,s55,s56,s57,s58,s59,s60,s61,s62,s63,s64,s65,s66,s67,s68,s69,s70,s71,s72,s73,s74,s75,s76,s77,s78,s79,s80,s81,s82,s83,s84,s85,s86,s87,s88,s89,s90,s91,s92,s93,s94,s95,s96,s97,s98,s99,s100,s101,s102,s103,s104,s105,s106,s107,s108,s109,s110,s111,s112,s113,s114,s115,s116,s117]
def PO (pw : Nat) (n : Nat) : Prop := 8 ≤ n ∧ n ≠ 12 ∧ n ≠ 13 ∧ n ≠ 14 ∧ n ≠ pw
structure EO (A B : Ma) (lb : Blk) (G : Heap) (S : Bs) (pw : Nat) : Prop where
  g0 : G[0]? = some (.cells false false A.cells)
  g1 : G[1]? = some (.cells false false B.cells)
  g2 : G[2]? = some (.cells false false [.sl true 0 []])
  g3 : G[3]? = some (.cells false false [.bool false])
  g4 : G[4]? = some (.cells false false [.int .i64 0])
  g13 : G[13]? = some (.cells false false [.ptr 7 0])
  gl : G[14]? = some lb
  q : QI (PO pw) 7 G S.1
  w : G[12]? = some (.cells false false [.own false pw 0 S.2.length 1])
  wp : G[pw]? = some (.cells false false (S.2.map wv))
  hw : pw = 11 ∨ 15 ≤ pw
theorem EO.into {A B : Ma} {lb lb' : Blk} {G : Heap} {S : Bs} {pw : Nat} (h : EO A B lb G S pw) (c : Nat × Nat) : EI A B lb' c G.length (G.set 14 lb' ++ [.cells false false [.int .i64 (c.1 : Nat),.int .i64 (c.2 : Nat)]]) S pw := by
  have hl := xDU h.gl
  have hp := xDU h.wp
  have hw := h.hw
  have f : ∀ b,b < G.length → b ≠ 14 → (G.set 14 lb' ++ [Blk.cells false false [.int .i64 (c.1 : Nat),.int .i64 (c.2 : Nat)]])[b]? = G[b]? := by
    intro b h1 h2
    rw [xBV (by simpa using h1),xBI (by omega)]
  refine ⟨by rw [f 0 (by omega) (by omega),h.g0],by rw [f 1 (by omega) (by omega),h.g1],by rw [f 2 (by omega) (by omega),h.g2],by rw [f 3 (by omega) (by omega),h.g3],by rw [f 4 (by omega) (by omega),h.g4],by rw [f 13 (by omega) (by omega),h.g13],by rw [xBV (by simpa using hl),xBP hl],by rw [xCH (by simp)]; rfl,?_,by rw [f 12 (by omega) (by omega),h.w],by rw [f pw (by omega) (by omega),h.wp],h.hw,by omega,by omega⟩
  obtain ⟨mv,lv,q1,q2⟩ := h.q
  refine ⟨mv,lv,by rw [f 7 (by omega) (by omega),q1],?_⟩
  rcases q2 with q2 | ⟨q,p,e1,e2,p1,p2,m1,m2⟩
  · exact .inl q2
  · have z1 := xDU m1
    have z2 := xDU m2
    exact .inr ⟨q,p,e1,e2,⟨p1.1,p1.2.1,p1.2.2.1,p1.2.2.2.1,by omega,p1.2.2.2.2⟩,⟨p2.1,p2.2.1,p2.2.2.1,p2.2.2.2.1,by omega,p2.2.2.2.2⟩,by rw [f q z1 p1.2.2.2.1,m1],by rw [f p z2 p2.2.2.2.1,m2]⟩
theorem EI.out {A B : Ma} {lb lb' : Blk} {c : Nat × Nat} {pb : Nat} {G : Heap} {S : Bs} {pw : Nat} (h : EI A B lb c pb G S pw) : EO A B lb' (G.set 14 lb') S pw := by
  have hl := xDU h.gl
  have hw := h.hw
  have f : ∀ b,b ≠ 14 → (G.set 14 lb')[b]? = G[b]? := fun b h2 => xBI (by omega)
  refine ⟨by rw [f 0 (by omega),h.g0],by rw [f 1 (by omega),h.g1],by rw [f 2 (by omega),h.g2],by rw [f 3 (by omega),h.g3],by rw [f 4 (by omega),h.g4],by rw [f 13 (by omega),h.g13],xBP hl,?_,by rw [f 12 (by omega),h.w],by rw [f pw (by omega),h.wp],h.hw⟩
  obtain ⟨mv,lv,q1,q2⟩ := h.q
  refine ⟨mv,lv,by rw [f 7 (by omega),q1],?_⟩
  rcases q2 with q2 | ⟨q,p,e1,e2,p1,p2,m1,m2⟩
  · exact .inl q2
  · exact .inr ⟨q,p,e1,e2,⟨p1.1,p1.2.1,p1.2.2.1,p1.2.2.2.1,p1.2.2.2.2.2⟩,⟨p2.1,p2.2.1,p2.2.2.1,p2.2.2.2.1,p2.2.2.2.2.2⟩,by rw [f q p1.2.2.2.1,m1],by rw [f p p2.2.2.2.1,m2]⟩
section
variable (s0 s1 s7 s8 s9 s12 s13 s14 s15 s16 s17 s18 s19 s20 s21 s22 s23 s24 s25 s26 s27 s28 s29 s30 s31 s32 s33 s34 s35 s36 s37 s38 s39 s40 s41 s42 s43 s44 s45 s46 s47 s48 s49 s50 s51 s52 s53 s54 s55 s56 s57 s58 s59 s60 s61 s62 s63 s64 s65 s66 s67 s68 s69 s70 s71 s72 s73 s74 s75 s76 s77 s78 s79 s80 s81 s82 s83 s84 s85 s86 s87 s88 s89 s90 s91 s92 s93 s94 s95 s96 s97 s98 s99 s100 s101 s102 s103 s104 s105 s106 s107 s108 s109 s110 s111 s112 s113 s114 s115 s116 s117 : AV) {A B : Ma}
abbrev xP6 (st : Nat) (pend : Option AExit) : Blk := .loop st pend (yAY s0 s1 s7 s8 s9 s12 s13 s14 s15 s16 s17 s18 s19 s20 s21 s22 s23 s24 s25 s26 s27 s28 s29 s30 s31 s32 s33 s34 s35 s36 s37 s38 s39 s40 s41 s42 s43 s44 s45 s46 s47 s48 s49 s50 s51 s52 s53 s54 s55 s56 s57 s58 s59 s60 s61 s62 s63 s64 s65 s66 s67 s68 s69 s70 s71 s72 s73 s74 s75 s76 s77 s78 s79 s80 s81 s82 s83 s84 s85 s86 s87 s88 s89 s90 s91 s92 s93 s94 s95 s96 s97 s98 s99 s100 s101 s102 s103 s104 s105 s106 s107 s108 s109 s110 s111 s112 s113 s114 s115 s116 s117) [52,53] xRD xWL
set_option maxHeartbeats 2000000 in
theorem xXK {k : Nat} {S : Bs} {G : Heap} {pw : Nat} (hA : Vm A) (hB : Vm B) (hAB : A.i = B.i) (hk : k < S.1.length) (h : BI A B S k 0) (hp : PV A B S) (hE : EO A B (xP6 s0 s1 s7 s8 s9 s12 s13 s14 s15 s16 s17 s18 s19 s20 s21 s22 s23 s24 s25 s26 s27 s28 s29 s30 s31 s32 s33 s34 s35 s36 s37 s38 s39 s40 s41 s42 s43 s44 s45 s46 s47 s48 s49 s50 s51 s52 s53 s54 s55 s56 s57 s58 s59 s60 s61 s62 s63 s64 s65 s66 s67 s68 s69 s70 s71 s72 s73 s74 s75 s76 s77 s78 s79 s80 s81 s82 s83 s84 s85 s86 s87 s88 s89 s90 s91 s92 s93 s94 s95 s96 s97 s98 s99 s100 s101 s102 s103 s104 s105 s106 s107 s108 s109 s110 s111 s112 s113 s114 s115 s116 s117 0 none) G S pw) :
    (∀ v S',xF4 A B (S.2.getD k []) (S.1.getD k (0,0)) (List.range (two A.i)) S = (some v,S') → ∃ G',L.icall (.yield 14) [.int .i64 (k : Nat),.agg [.int .i64 ((S.1.getD k (0,0)).1 : Nat),.int .i64 ((S.1.getD k (0,0)).2 : Nat)]] G = some (.bool false,G') ∧ G'[2]? = some (.cells false false [wv v]) ∧ G'[3]? = some (.cells false false [.bool false]) ∧ G'[4]? = some (.cells false false [.int .i64 0]) ∧ G'[14]? = some (xP6 s0 s1 s7 s8 s9 s12 s13 s14 s15 s16 s17 s18 s19 s20 s21 s22 s23 s24 s25 s26 s27 s28 s29 s30 s31 s32 s33 s34 s35 s36 s37 s38 s39 s40 s41 s42 s43 s44 s45 s46 s47 s48 s49 s50 s51 s52 s53 s54 s55 s56 s57 s58 s59 s60 s61 s62 s63 s64 s65 s66 s67 s68 s69 s70 s71 s72 s73 s74 s75 s76 s77 s78 s79 s80 s81 s82 s83 s84 s85 s86 s87 s88 s89 s90 s91 s92 s93 s94 s95 s96 s97 s98 s99 s100 s101 s102 s103 s104 s105 s106 s107 s108 s109 s110 s111 s112 s113 s114 s115 s116 s117 2 (some .ret))) ∧
    (∀ S',xF4 A B (S.2.getD k []) (S.1.getD k (0,0)) (List.range (two A.i)) S = (none,S') → ∃ G' pw',L.icall (.yield 14) [.int .i64 (k : Nat),.agg [.int .i64 ((S.1.getD k (0,0)).1 : Nat),.int .i64 ((S.1.getD k (0,0)).2 : Nat)]] G = some (.bool true,G') ∧ EO A B (xP6 s0 s1 s7 s8 s9 s12 s13 s14 s15 s16 s17 s18 s19 s20 s21 s22 s23 s24 s25 s26 s27 s28 s29 s30 s31 s32 s33 s34 s35 s36 s37 s38 s39 s40 s41 s42 s43 s44 s45 s46 s47 s48 s49 s50 s51 s52 s53 s54 s55 s56 s57 s58 s59 s60 s61 s62 s63 s64 s65 s66 s67 s68 s69 s70 s71 s72 s73 s74 s75 s76 s77 s78 s79 s80 s81 s82 s83 s84 s85 s86 s87 s88 s89 s90 s91 s92 s93 s94 s95 s96 s97 s98 s99 s100 s101 s102 s103 s104 s105 s106 s107 s108 s109 s110 s111 s112 s113 s114 s115 s116 s117 0 none) G' S' pw' ∧ PV A B S') := by
  have hi := hE.into (lb' := xP6 s0 s1 s7 s8 s9 s12 s13 s14 s15 s16 s17 s18 s19 s20 s21 s22 s23 s24 s25 s26 s27 s28 s29 s30 s31 s32 s33 s34 s35 s36 s37 s38 s39 s40 s41 s42 s43 s44 s45 s46 s47 s48 s49 s50 s51 s52 s53 s54 s55 s56 s57 s58 s59 s60 s61 s62 s63 s64 s65 s66 s67 s68 s69 s70 s71 s72 s73 s74 s75 s76 s77 s78 s79 s80 s81 s82 s83 s84 s85 s86 s87 s88 s89 s90 s91 s92 s93 s94 s95 s96 s97 s98 s99 s100 s101 s102 s103 s104 s105 s106 s107 s108 s109 s110 s111 s112 s113 s114 s115 s116 s117 1 none) (S.1.getD k (0,0))
  have ha := xK7 hA hB hAB (two A.i) 0 S _ pw (by omega) hk h hp hi
  rw [← List.range_eq_range'] at ha
  have g0 := hE.g0
  have gl := hE.gl
  have hG := xDU gl
  unfold Ma.cells at g0
  have hio := hA.io
  have hsi := xK0 (show A.i ≤ 6 by omega)
  have hi0 : ¬ ((A.i : Nat) : Int) < 0 := by omega
  generalize S.1.getD k (0,0) = c at *
  rw [xL6,xSS (hH := gl) (h1 := rfl) (h2 := rfl) (h3 := rfl)]
  constructor
  · intro v S' e
    obtain ⟨F',G',e1,e2,e3,e4,e5⟩ := ha.1 v S' e
    change L.loop xCt xFp ⟨xIY (.ptr 0 0) (.ptr 1 0) (.ptr 2 0) (.ptr 3 0) (.ptr 4 0) (.ptr 7 0) (.ptr 12 0) (.int .i64 (k : Nat)) (.ptr G.length 0) (.int .i64 (two A.i : Nat)) (.int .i64 0),_⟩ = _ at e1
    have hl' := xDU e5
    refine ⟨G'.set 14 (xP6 s0 s1 s7 s8 s9 s12 s13 s14 s15 s16 s17 s18 s19 s20 s21 s22 s23 s24 s25 s26 s27 s28 s29 s30 s31 s32 s33 s34 s35 s36 s37 s38 s39 s40 s41 s42 s43 s44 s45 s46 s47 s48 s49 s50 s51 s52 s53 s54 s55 s56 s57 s58 s59 s60 s61 s62 s63 s64 s65 s66 s67 s68 s69 s70 s71 s72 s73 s74 s75 s76 s77 s78 s79 s80 s81 s82 s83 s84 s85 s86 s87 s88 s89 s90 s91 s92 s93 s94 s95 s96 s97 s98 s99 s100 s101 s102 s103 s104 s105 s106 s107 s108 s109 s110 s111 s112 s113 s114 s115 s116 s117 2 (some .ret)),?_,?_,?_,?_,?_⟩
    · simp (maxSteps := 30000000) (disch := first | assumption | omega | (simp only [WL,AV.isCell,xAj] <;> omega) | rfl | decide) only [↓reduceIte,WB,xAH,xAc,xAD,xAl,xAk,AV.cells,AV.isCell,xAb,xAg,xAh,WP,xAA,xAs,xBg,xBe,xBa,xAx,xAC,xAB,WA,W2,xAd,xAe,xAi,Nat.reduceAdd,Nat.reduceSub,Nat.reduceLeDiff,Nat.reduceMul,Int.reduceAdd,Int.reduceSub,Int.reduceMul,Int.reduceLT,Int.reduceLE,Int.reduceEq,Int.reduceToNat,Int.reduceNeg,Nat.reduceEqDiff,Nat.reduceBEq,Nat.reduceLT,xBV,xCE,xCH,xDd,xDe,xDf,xBI,xBP,List.length_map,List.set_set,xAj,xBW,xBX,xVn,xRE,xKG,xOs,xIZ,g0,gl,hsi,hi0,e1,e5]
    · rw [xBI (by omega),e2]
    · rw [xBI (by omega),e3]
    · rw [xBI (by omega),e4]
    · rw [xBP hl']
  · intro S' e
    obtain ⟨F',G',pw',e1,e2,e3⟩ := ha.2 S' e
    change L.loop xCt xFp ⟨xIY (.ptr 0 0) (.ptr 1 0) (.ptr 2 0) (.ptr 3 0) (.ptr 4 0) (.ptr 7 0) (.ptr 12 0) (.int .i64 (k : Nat)) (.ptr G.length 0) (.int .i64 (two A.i : Nat)) (.int .i64 0),_⟩ = _ at e1
    have e5 := e2.gl
    refine ⟨G'.set 14 (xP6 s0 s1 s7 s8 s9 s12 s13 s14 s15 s16 s17 s18 s19 s20 s21 s22 s23 s24 s25 s26 s27 s28 s29 s30 s31 s32 s33 s34 s35 s36 s37 s38 s39 s40 s41 s42 s43 s44 s45 s46 s47 s48 s49 s50 s51 s52 s53 s54 s55 s56 s57 s58 s59 s60 s61 s62 s63 s64 s65 s66 s67 s68 s69 s70 s71 s72 s73 s74 s75 s76 s77 s78 s79 s80 s81 s82 s83 s84 s85 s86 s87 s88 s89 s90 s91 s92 s93 s94 s95 s96 s97 s98 s99 s100 s101 s102 s103 s104 s105 s106 s107 s108 s109 s110 s111 s112 s113 s114 s115 s116 s117 0 none),pw',?_,e2.out,e3⟩
    simp (maxSteps := 30000000) (disch := first | assumption | omega | (simp only [WL,AV.isCell,xAj] <;> omega) | rfl | decide) only [↓reduceIte,WB,xAH,xAc,xAD,xAl,xAk,AV.cells,AV.isCell,xAb,xAg,xAh,WP,xAA,xAs,xBg,xBe,xBa,xAx,xAC,xAB,WA,W2,xAd,xAe,xAi,Nat.reduceAdd,Nat.reduceSub,Nat.reduceLeDiff,Nat.reduceMul,Int.reduceAdd,Int.reduceSub,Int.reduceMul,Int.reduceLT,Int.reduceLE,Int.reduceEq,Int.reduceToNat,Int.reduceNeg,Nat.reduceEqDiff,Nat.reduceBEq,Nat.reduceLT,xBV,xCE,xCH,xDd,xDe,xDf,xBI,xBP,List.length_map,List.set_set,xAj,xBW,xBX,xVn,xRE,xKG,xOs,xIZ,g0,gl,hsi,hi0,e1,e5]
end
section
variable {A B : Ma} {lb0 lb2 : Blk}
def Rnd (A B : Ma) (lb0 lb2 : Blk) : Prop := ∀ (k : Nat) (S : Bs) (G : Heap) (pw : Nat),k < S.1.length → BI A B S k 0 → PV A B S → EO A B lb0 G S pw →
    (∀ v S',xF4 A B (S.2.getD k []) (S.1.getD k (0,0)) (List.range (two A.i)) S = (some v,S') → ∃ G',L.icall (.yield 14) [.int .i64 (k : Nat),.agg [.int .i64 ((S.1.getD k (0,0)).1 : Nat),.int .i64 ((S.1.getD k (0,0)).2 : Nat)]] G = some (.bool false,G') ∧ G'[2]? = some (.cells false false [wv v]) ∧ G'[3]? = some (.cells false false [.bool false]) ∧ G'[4]? = some (.cells false false [.int .i64 0]) ∧ G'[14]? = some lb2) ∧
    (∀ S',xF4 A B (S.2.getD k []) (S.1.getD k (0,0)) (List.range (two A.i)) S = (none,S') → ∃ G' pw',L.icall (.yield 14) [.int .i64 (k : Nat),.agg [.int .i64 ((S.1.getD k (0,0)).1 : Nat),.int .i64 ((S.1.getD k (0,0)).2 : Nat)]] G = some (.bool true,G') ∧ EO A B lb0 G' S' pw' ∧ PV A B S')
theorem xZh (hA : Vm A) (hB : Vm B) (hr : Rnd A B lb0 lb2) : ∀ (e k : Nat) (S : Bs) (G : Heap) (pw : Nat),BI A B S k 0 → k ≤ S.1.length → PV A B S → EO A B lb0 G S pw → A.next.length * B.next.length < e + k →
    (∀ v,xFx A B e k S = some v → ∃ F' G',L.loop xD7 xKH ⟨xDE (.yield 14) (.ptr 13 0) (.int .i64 (k : Nat)),G⟩ = some (.ret,⟨F',G'⟩) ∧ G'[2]? = some (.cells false false [wv v]) ∧ G'[3]? = some (.cells false false [.bool false]) ∧ G'[4]? = some (.cells false false [.int .i64 0]) ∧ G'[14]? = some lb2) ∧
    (xFx A B e k S = none → ∃ F' G' S' pw',L.loop xD7 xKH ⟨xDE (.yield 14) (.ptr 13 0) (.int .i64 (k : Nat)),G⟩ = some (.exit 0,⟨F',G'⟩) ∧ EO A B lb0 G' S' pw' ∧ BI A B S' S'.1.length 0)
  | 0,k,S,G,pw,h,hk,hp,hE,he => by
    have := h.len_le hp
    omega
  | e + 1,k,S,G,pw,h,hk,hp,hE,he => by
    have hle := h.len_le hp
    have hs := xN6 hA hB
    have g13 := hE.g13
    obtain ⟨mv,lv,q1,q2⟩ := hE.q
    have q3 : ∃ p,lv = .own false p 0 S.1.length 2 ∧ G[p]? = some (.cells false false (pcs S.1)) := by
      rcases q2 with ⟨-,-,e0⟩ | ⟨q,p,e1,e2,p1,p2,m1,m2⟩
      · have := h.first.2.2
        rw [e0] at this
        simp at this
      · exact ⟨p,e2,m2⟩
    obtain ⟨p,rfl,hpl⟩ := q3
    rw [xFx]
    by_cases hc : k < S.1.length
    · rw [if_pos hc]
      have hr' := hr k S G pw hc h hp hE
      have hB1 := xFz A B k (two A.i) 0 S (by omega) hc h
      rw [← List.range_eq_range'] at hB1
      have hlt : ((k : Nat) : Int) < (S.1.length : Nat) := by omega
      generalize xF4 A B (S.2.getD k []) (S.1.getD k (0,0)) (List.range (two A.i)) S = r at hr' hB1
      obtain ⟨r1,r2⟩ := r
      cases r1 with
      | some v =>
        obtain ⟨G',e1,e2⟩ := hr'.1 v r2 rfl
        refine ⟨?_,by intro e'; simp at e'⟩
        intro v' ev
        simp only [Option.some.injEq] at ev
        subst ev
        refine ⟨xDE (.yield 14) (.ptr 13 0) (.int .i64 (k : Nat)),G',?_,e2⟩
        rw [xRL]
        simp (maxSteps := 30000000) (disch := first | assumption | omega | (simp only [WL,AV.isCell,xAj] <;> omega) | rfl | decide) only [↓reduceIte,WB,xAH,xAc,xAD,xAl,xAk,AV.cells,AV.isCell,xAb,xAg,xAh,WP,xAA,xAs,xBg,xBe,xBa,xAx,xAC,xAB,WA,W2,xAd,xAe,xAi,Nat.reduceAdd,Nat.reduceSub,Nat.reduceLeDiff,Nat.reduceMul,Int.reduceAdd,Int.reduceSub,Int.reduceMul,Int.reduceLT,Int.reduceLE,Int.reduceEq,Int.reduceToNat,Int.reduceNeg,Nat.reduceEqDiff,Nat.reduceBEq,Nat.reduceLT,xBV,xCE,xCH,xDd,xDe,xDf,xBI,xBP,List.length_map,List.set_set,xAj,xTr,xBW,xBX,xL0,xL1,g13,q1,hpl,hlt,hc,e1]
      | none =>
        obtain ⟨G',pw',e1,e2,e3⟩ := hr'.2 r2 rfl
        have hb := hB1.2 r2 rfl
        have hn := xZh hA hB hr e (k + 1) r2 G' pw' hb.1.next hb.2 e3 e2 (by omega)
        have hst : L.loop xD7 xKH ⟨xDE (.yield 14) (.ptr 13 0) (.int .i64 (k : Nat)),G⟩ = L.loop xD7 xKH ⟨xDE (.yield 14) (.ptr 13 0) (.int .i64 ((k + 1 : Nat) : Nat)),G'⟩ := by
          rw [xRL]
          simp (maxSteps := 30000000) (disch := first | assumption | omega | (simp only [WL,AV.isCell,xAj] <;> omega) | rfl | decide) only [↓reduceIte,WB,xAH,xAc,xAD,xAl,xAk,AV.cells,AV.isCell,xAb,xAg,xAh,WP,xAA,xAs,xBg,xBe,xBa,xAx,xAC,xAB,WA,W2,xAd,xAe,xAi,Nat.reduceAdd,Nat.reduceSub,Nat.reduceLeDiff,Nat.reduceMul,Int.reduceAdd,Int.reduceSub,Int.reduceMul,Int.reduceLT,Int.reduceLE,Int.reduceEq,Int.reduceToNat,Int.reduceNeg,Nat.reduceEqDiff,Nat.reduceBEq,Nat.reduceLT,xBV,xCE,xCH,xDd,xDe,xDf,xBI,xBP,List.length_map,List.set_set,xAj,xTr,xBW,xBX,xL0,xL1,g13,q1,hpl,hlt,hc,e1]
        rw [hst]
        exact hn
    · rw [if_neg hc]
      have hlt : ¬ ((k : Nat) : Int) < (S.1.length : Nat) := by omega
      have hk' : k = S.1.length := by omega
      refine ⟨by intro v e'; simp at e',fun _ => ⟨xDE (.yield 14) (.ptr 13 0) (.int .i64 (k : Nat)),G,S,pw,?_,hE,by rw [← hk']; exact h⟩⟩
      rw [xRL]
      simp (maxSteps := 30000000) (disch := first | assumption | omega | (simp only [WL,AV.isCell,xAj] <;> omega) | rfl | decide) only [↓reduceIte,WB,xAH,xAc,xAD,xAl,xAk,AV.cells,AV.isCell,xAb,xAg,xAh,WP,xAA,xAs,xBg,xBe,xBa,xAx,xAC,xAB,WA,W2,xAd,xAe,xAi,Nat.reduceAdd,Nat.reduceSub,Nat.reduceLeDiff,Nat.reduceMul,Int.reduceAdd,Int.reduceSub,Int.reduceMul,Int.reduceLT,Int.reduceLE,Int.reduceEq,Int.reduceToNat,Int.reduceNeg,Nat.reduceEqDiff,Nat.reduceBEq,Nat.reduceLT,xBV,xCE,xCH,xDd,xDe,xDf,xBI,xBP,List.length_map,List.set_set,xAj,xTr,xBW,xBX,xL0,xL1,g13,q1,hpl,hlt]
end
noncomputable def xLb (H : Heap) : Heap := match L.icall (.func 95 [.ptr 13 0]) [.yield 14] H with
  | some (_,G) => G
  | none => []
theorem xTP (b0 b1 b2 b3 b4 b5 b6 : Blk) (k1 k2 : Nat) : L.icall (.func 74 []) [.ptr 7 0,.agg [.int .i64 (k1 : Nat),.int .i64 (k2 : Nat)]] [b0,b1,b2,b3,b4,b5,b6,.cells false false [.nilm,.sl true 0 []]] =
    some (.tup [.int .i64 0,.bool true],[b0,b1,b2,b3,b4,b5,b6,.cells false false [.mp 9,.own false 10 0 1 2],.cells false false [.int .i64 (k1 : Nat),.int .i64 (k2 : Nat)],.mp (ent kv2 [(k1,k2)] 0),.cells false false (pcs [(k1,k2)])]) := xTN rfl
section
variable {A B : Ma}
abbrev H37 (A B : Ma) (lb : Blk) : Heap := [.cells false false [.int .i64 (A.i : Nat),.int .i64 (A.o : Nat),.int .i64 (A.s : Nat),.sl false A.next.length (A.next.map xEl),.sl false A.emit.length (A.emit.map xGa)],.cells false false [.int .i64 (B.i : Nat),.int .i64 (B.o : Nat),.int .i64 (B.s : Nat),.sl false B.next.length (B.next.map xEl),.sl false B.emit.length (B.emit.map xGa)],.cells false false [.sl true 0 []],.cells false false [.bool false],.cells false false [.int .i64 0],.cells false false [.int .i64 (A.i : Nat),.int .i64 (A.o : Nat),.int .i64 (A.s : Nat),.sl false A.next.length (A.next.map xEl),.sl false A.emit.length (A.emit.map xGa)],.cells false false [.int .i64 (B.i : Nat),.int .i64 (B.o : Nat),.int .i64 (B.s : Nat),.sl false B.next.length (B.next.map xEl),.sl false B.emit.length (B.emit.map xGa)],.cells false false [.mp 9,.own false 10 0 1 2],.cells false false [.int .i64 (A.s : Nat),.int .i64 (B.s : Nat)],.mp (ent kv2 [(A.s,B.s)] 0),.cells false false (pcs [(A.s,B.s)]),.cells false false [.sl true 0 []],.cells false false [.own false 11 0 1 1],.cells false false [.ptr 7 0],lb]
theorem xZi (A B : Ma) (lb : Blk) : EO A B lb (H37 A B lb) ([(A.s,B.s)],[[]]) 11 :=
  ⟨rfl,rfl,rfl,rfl,rfl,rfl,rfl,⟨.mp 9,.own false 10 0 1 2,rfl,.inr ⟨9,10,rfl,rfl,⟨by omega,by omega,by omega,by omega,by omega⟩,⟨by omega,by omega,by omega,by omega,by omega⟩,rfl,rfl⟩⟩,rfl,rfl,.inl rfl⟩
def xNv (A B : Ma) : Option (List Nat) := xFx A B (A.next.length * B.next.length + 1) 0 ([(A.s,B.s)],[[]])
theorem xK8 (hA : Vm A) (hB : Vm B) : PV A B ([(A.s,B.s)],[[]]) := by
  intro x hx
  rw [List.mem_singleton] at hx
  subst hx
  exact ⟨hA.s,hB.s⟩
set_option maxHeartbeats 1000000 in
theorem yAK {lb0 lb2 : Blk} (hA : Vm A) (hB : Vm B) (hr : Rnd A B lb0 lb2) :
    (∀ v,xNv A B = some v → L.icall (.func 95 [.ptr 13 0]) [.yield 14] (H37 A B lb0) = some (.tup [],xLb (H37 A B lb0)) ∧ (xLb (H37 A B lb0))[2]? = some (.cells false false [wv v]) ∧ (xLb (H37 A B lb0))[3]? = some (.cells false false [.bool false]) ∧ (xLb (H37 A B lb0))[4]? = some (.cells false false [.int .i64 0]) ∧ (xLb (H37 A B lb0))[14]? = some lb2) ∧
    (xNv A B = none → L.icall (.func 95 [.ptr 13 0]) [.yield 14] (H37 A B lb0) = some (.tup [],xLb (H37 A B lb0)) ∧ (xLb (H37 A B lb0))[2]? = some (.cells false false [.sl true 0 []]) ∧ (xLb (H37 A B lb0))[3]? = some (.cells false false [.bool false]) ∧ (xLb (H37 A B lb0))[4]? = some (.cells false false [.int .i64 0]) ∧ (xLb (H37 A B lb0))[14]? = some lb0) := by
  have ho := xZh hA hB hr (A.next.length * B.next.length + 1) 0 _ _ 11 (BI.start A B) (by simp) (xK8 hA hB) (xZi A B lb0) (by omega)
  have hs : ∀ G',L.icall (.func 95 [.ptr 13 0]) [.yield 14] (H37 A B lb0) = some (.tup [],G') → xLb (H37 A B lb0) = G' := by
    intro G' e; unfold xLb; rw [e]
  have hw : ∀ x F' G',(x = .ret ∨ x = .exit 0) → L.loop xD7 xKH ⟨xDE (.yield 14) (.ptr 13 0) (.int .i64 ((0 : Nat) : Nat)),H37 A B lb0⟩ = some (x,⟨F',G'⟩) → L.icall (.func 95 [.ptr 13 0]) [.yield 14] (H37 A B lb0) = some (.tup [],G') := by
    intro x F' G' hx e
    generalize H37 A B lb0 = H at *
    change L.loop xD7 xKH ⟨xDE (.yield 14) (.ptr 13 0) (.int .i64 0),H⟩ = _ at e
    rw [yAT,a95]
    rcases hx with rfl | rfl
    · simp (maxSteps := 30000000) (disch := first | assumption | omega | (simp only [WL,AV.isCell,xAj] <;> omega) | rfl | decide) only [↓reduceIte,WB,xAH,xAc,xAD,xAl,xAk,AV.cells,AV.isCell,xAb,xAg,xAh,WP,xAA,xAs,xBg,xBe,xBa,xAx,xAC,xAB,WA,W2,xAd,xAe,xAi,Nat.reduceAdd,Nat.reduceSub,Nat.reduceLeDiff,Nat.reduceMul,Int.reduceAdd,Int.reduceSub,Int.reduceMul,Int.reduceLT,Int.reduceLE,Int.reduceEq,Int.reduceToNat,Int.reduceNeg,Nat.reduceEqDiff,Nat.reduceBEq,Nat.reduceLT,xBV,xCE,xCH,xDd,xDe,xDf,xBI,xBP,List.length_map,List.set_set,xAj,xBW,xBX,xL1,e]
    · simp (maxSteps := 30000000) (disch := first | assumption | omega | (simp only [WL,AV.isCell,xAj] <;> omega) | rfl | decide) only [↓reduceIte,WB,xAH,xAc,xAD,xAl,xAk,AV.cells,AV.isCell,xAb,xAg,xAh,WP,xAA,xAs,xBg,xBe,xBa,xAx,xAC,xAB,WA,W2,xAd,xAe,xAi,Nat.reduceAdd,Nat.reduceSub,Nat.reduceLeDiff,Nat.reduceMul,Int.reduceAdd,Int.reduceSub,Int.reduceMul,Int.reduceLT,Int.reduceLE,Int.reduceEq,Int.reduceToNat,Int.reduceNeg,Nat.reduceEqDiff,Nat.reduceBEq,Nat.reduceLT,xBV,xCE,xCH,xDd,xDe,xDf,xBI,xBP,List.length_map,List.set_set,xAj,xBW,xBX,xL1,e]
  constructor
  · intro v hv
    obtain ⟨F',G',e1,e2⟩ := ho.1 v hv
    have := hw _ F' G' (.inl rfl) e1
    rw [hs G' this]
    exact ⟨this,e2⟩
  · intro hv
    obtain ⟨F',G',S',pw',e1,e2,e3⟩ := ho.2 hv
    have := hw _ F' G' (.inr rfl) e1
    rw [hs G' this]
    exact ⟨this,e2.g2,e2.g3,e2.g4,e2.gl⟩
theorem xTQ (hA : Vm A) (hB : Vm B) (hAB : A.i = B.i) (s0 s1 s7 s8 s9 s12 s13 s14 s15 s16 s17 s18 s19 s20 s21 s22 s23 s24 s25 s26 s27 s28 s29 s30 s31 s32 s33 s34 s35 s36 s37 s38 s39 s40 s41 s42 s43 s44 s45 s46 s47 s48 s49 s50 s51 s52 s53 s54 s55 s56 s57 s58 s59 s60 s61 s62 s63 s64 s65 s66 s67 s68 s69 s70 s71 s72 s73 s74 s75 s76 s77 s78 s79 s80 s81 s82 s83 s84 s85 s86 s87 s88 s89 s90 s91 s92 s93 s94 s95 s96 s97 s98 s99 s100 s101 s102 s103 s104 s105 s106 s107 s108 s109 s110 s111 s112 s113 s114 s115 s116 s117 : AV) : Rnd A B (xP6 s0 s1 s7 s8 s9 s12 s13 s14 s15 s16 s17 s18 s19 s20 s21 s22 s23 s24 s25 s26 s27 s28 s29 s30 s31 s32 s33 s34 s35 s36 s37 s38 s39 s40 s41 s42 s43 s44 s45 s46 s47 s48 s49 s50 s51 s52 s53 s54 s55 s56 s57 s58 s59 s60 s61 s62 s63 s64 s65 s66 s67 s68 s69 s70 s71 s72 s73 s74 s75 s76 s77 s78 s79 s80 s81 s82 s83 s84 s85 s86 s87 s88 s89 s90 s91 s92 s93 s94 s95 s96 s97 s98 s99 s100 s101 s102 s103 s104 s105 s106 s107 s108 s109 s110 s111 s112 s113 s114 s115 s116 s117 0 none) (xP6 s0 s1 s7 s8 s9 s12 s13 s14 s15 s16 s17 s18 s19 s20 s21 s22 s23 s24 s25 s26 s27 s28 s29 s30 s31 s32 s33 s34 s35 s36 s37 s38 s39 s40 s41 s42 s43 s44 s45 s46 s47 s48 s49 s50 s51 s52 s53 s54 s55 s56 s57 s58 s59 s60 s61 s62 s63 s64 s65 s66 s67 s68 s69 s70 s71 s72 s73 s74 s75 s76 s77 s78 s79 s80 s81 s82 s83 s84 s85 s86 s87 s88 s89 s90 s91 s92 s93 s94 s95 s96 s97 s98 s99 s100 s101 s102 s103 s104 s105 s106 s107 s108 s109 s110 s111 s112 s113 s114 s115 s116 s117 2 (some .ret)) :=
  fun k S G pw h1 h2 h3 h4 => xXK s0 s1 s7 s8 s9 s12 s13 s14 s15 s16 s17 s18 s19 s20 s21 s22 s23 s24 s25 s26 s27 s28 s29 s30 s31 s32 s33 s34 s35 s36 s37 s38 s39 s40 s41 s42 s43 s44 s45 s46 s47 s48 s49 s50 s51 s52 s53 s54 s55 s56 s57 s58 s59 s60 s61 s62 s63 s64 s65 s66 s67 s68 s69 s70 s71 s72 s73 s74 s75 s76 s77 s78 s79 s80 s81 s82 s83 s84 s85 s86 s87 s88 s89 s90 s91 s92 s93 s94 s95 s96 s97 s98 s99 s100 s101 s102 s103 s104 s105 s106 s107 s108 s109 s110 s111 s112 s113 s114 s115 s116 s117 hA hB hAB h1 h2 h3 h4
set_option maxHeartbeats 4000000 in
theorem xB9 (hA : Vm A) (hB : Vm B) (hAB : A.i = B.i) (hO : A.o = B.o) : L.pcall 37 [A.av,B.av] = some (.tup (match xNv A B with
    | some v => [wv v,.bool false,.int .i64 0]
    | none => [.sl true 0 [],.bool true,.int .i64 0])) := by
  have hc := xB8 hA
  have hd := xB8 hB
  unfold Ma.av Ma.cells at hc hd ⊢
  have n1 : (((A.i : Nat) : Int) = (B.i : Nat)) ↔ True := iff_true_intro (by omega)
  have n2 : (((A.o : Nat) : Int) = (B.o : Nat)) ↔ True := iff_true_intro (by omega)
  cases hs : xNv A B with
  | some v =>
    have hg := fun s0 s1 s7 s8 s9 s12 s13 s14 s15 s16 s17 s18 s19 s20 s21 s22 s23 s24 s25 s26 s27 s28 s29 s30 s31 s32 s33 s34 s35 s36 s37 s38 s39 s40 s41 s42 s43 s44 s45 s46 s47 s48 s49 s50 s51 s52 s53 s54 s55 s56 s57 s58 s59 s60 s61 s62 s63 s64 s65 s66 s67 s68 s69 s70 s71 s72 s73 s74 s75 s76 s77 s78 s79 s80 s81 s82 s83 s84 s85 s86 s87 s88 s89 s90 s91 s92 s93 s94 s95 s96 s97 s98 s99 s100 s101 s102 s103 s104 s105 s106 s107 s108 s109 s110 s111 s112 s113 s114 s115 s116 s117 => (yAK hA hB (xTQ hA hB hAB s0 s1 s7 s8 s9 s12 s13 s14 s15 s16 s17 s18 s19 s20 s21 s22 s23 s24 s25 s26 s27 s28 s29 s30 s31 s32 s33 s34 s35 s36 s37 s38 s39 s40 s41 s42 s43 s44 s45 s46 s47 s48 s49 s50 s51 s52 s53 s54 s55 s56 s57 s58 s59 s60 s61 s62 s63 s64 s65 s66 s67 s68 s69 s70 s71 s72 s73 s74 s75 s76 s77 s78 s79 s80 s81 s82 s83 s84 s85 s86 s87 s88 s89 s90 s91 s92 s93 s94 s95 s96 s97 s98 s99 s100 s101 s102 s103 s104 s105 s106 s107 s108 s109 s110 s111 s112 s113 s114 s115 s116 s117)).1 v hs
    have h1 := fun s0 s1 s7 s8 s9 s12 s13 s14 s15 s16 s17 s18 s19 s20 s21 s22 s23 s24 s25 s26 s27 s28 s29 s30 s31 s32 s33 s34 s35 s36 s37 s38 s39 s40 s41 s42 s43 s44 s45 s46 s47 s48 s49 s50 s51 s52 s53 s54 s55 s56 s57 s58 s59 s60 s61 s62 s63 s64 s65 s66 s67 s68 s69 s70 s71 s72 s73 s74 s75 s76 s77 s78 s79 s80 s81 s82 s83 s84 s85 s86 s87 s88 s89 s90 s91 s92 s93 s94 s95 s96 s97 s98 s99 s100 s101 s102 s103 s104 s105 s106 s107 s108 s109 s110 s111 s112 s113 s114 s115 s116 s117 => (hg s0 s1 s7 s8 s9 s12 s13 s14 s15 s16 s17 s18 s19 s20 s21 s22 s23 s24 s25 s26 s27 s28 s29 s30 s31 s32 s33 s34 s35 s36 s37 s38 s39 s40 s41 s42 s43 s44 s45 s46 s47 s48 s49 s50 s51 s52 s53 s54 s55 s56 s57 s58 s59 s60 s61 s62 s63 s64 s65 s66 s67 s68 s69 s70 s71 s72 s73 s74 s75 s76 s77 s78 s79 s80 s81 s82 s83 s84 s85 s86 s87 s88 s89 s90 s91 s92 s93 s94 s95 s96 s97 s98 s99 s100 s101 s102 s103 s104 s105 s106 s107 s108 s109 s110 s111 s112 s113 s114 s115 s116 s117).1
    have h2 := fun s0 s1 s7 s8 s9 s12 s13 s14 s15 s16 s17 s18 s19 s20 s21 s22 s23 s24 s25 s26 s27 s28 s29 s30 s31 s32 s33 s34 s35 s36 s37 s38 s39 s40 s41 s42 s43 s44 s45 s46 s47 s48 s49 s50 s51 s52 s53 s54 s55 s56 s57 s58 s59 s60 s61 s62 s63 s64 s65 s66 s67 s68 s69 s70 s71 s72 s73 s74 s75 s76 s77 s78 s79 s80 s81 s82 s83 s84 s85 s86 s87 s88 s89 s90 s91 s92 s93 s94 s95 s96 s97 s98 s99 s100 s101 s102 s103 s104 s105 s106 s107 s108 s109 s110 s111 s112 s113 s114 s115 s116 s117 => (hg s0 s1 s7 s8 s9 s12 s13 s14 s15 s16 s17 s18 s19 s20 s21 s22 s23 s24 s25 s26 s27 s28 s29 s30 s31 s32 s33 s34 s35 s36 s37 s38 s39 s40 s41 s42 s43 s44 s45 s46 s47 s48 s49 s50 s51 s52 s53 s54 s55 s56 s57 s58 s59 s60 s61 s62 s63 s64 s65 s66 s67 s68 s69 s70 s71 s72 s73 s74 s75 s76 s77 s78 s79 s80 s81 s82 s83 s84 s85 s86 s87 s88 s89 s90 s91 s92 s93 s94 s95 s96 s97 s98 s99 s100 s101 s102 s103 s104 s105 s106 s107 s108 s109 s110 s111 s112 s113 s114 s115 s116 s117).2.1
    have h3 := fun s0 s1 s7 s8 s9 s12 s13 s14 s15 s16 s17 s18 s19 s20 s21 s22 s23 s24 s25 s26 s27 s28 s29 s30 s31 s32 s33 s34 s35 s36 s37 s38 s39 s40 s41 s42 s43 s44 s45 s46 s47 s48 s49 s50 s51 s52 s53 s54 s55 s56 s57 s58 s59 s60 s61 s62 s63 s64 s65 s66 s67 s68 s69 s70 s71 s72 s73 s74 s75 s76 s77 s78 s79 s80 s81 s82 s83 s84 s85 s86 s87 s88 s89 s90 s91 s92 s93 s94 s95 s96 s97 s98 s99 s100 s101 s102 s103 s104 s105 s106 s107 s108 s109 s110 s111 s112 s113 s114 s115 s116 s117 => (hg s0 s1 s7 s8 s9 s12 s13 s14 s15 s16 s17 s18 s19 s20 s21 s22 s23 s24 s25 s26 s27 s28 s29 s30 s31 s32 s33 s34 s35 s36 s37 s38 s39 s40 s41 s42 s43 s44 s45 s46 s47 s48 s49 s50 s51 s52 s53 s54 s55 s56 s57 s58 s59 s60 s61 s62 s63 s64 s65 s66 s67 s68 s69 s70 s71 s72 s73 s74 s75 s76 s77 s78 s79 s80 s81 s82 s83 s84 s85 s86 s87 s88 s89 s90 s91 s92 s93 s94 s95 s96 s97 s98 s99 s100 s101 s102 s103 s104 s105 s106 s107 s108 s109 s110 s111 s112 s113 s114 s115 s116 s117).2.2.1
    have h4 := fun s0 s1 s7 s8 s9 s12 s13 s14 s15 s16 s17 s18 s19 s20 s21 s22 s23 s24 s25 s26 s27 s28 s29 s30 s31 s32 s33 s34 s35 s36 s37 s38 s39 s40 s41 s42 s43 s44 s45 s46 s47 s48 s49 s50 s51 s52 s53 s54 s55 s56 s57 s58 s59 s60 s61 s62 s63 s64 s65 s66 s67 s68 s69 s70 s71 s72 s73 s74 s75 s76 s77 s78 s79 s80 s81 s82 s83 s84 s85 s86 s87 s88 s89 s90 s91 s92 s93 s94 s95 s96 s97 s98 s99 s100 s101 s102 s103 s104 s105 s106 s107 s108 s109 s110 s111 s112 s113 s114 s115 s116 s117 => (hg s0 s1 s7 s8 s9 s12 s13 s14 s15 s16 s17 s18 s19 s20 s21 s22 s23 s24 s25 s26 s27 s28 s29 s30 s31 s32 s33 s34 s35 s36 s37 s38 s39 s40 s41 s42 s43 s44 s45 s46 s47 s48 s49 s50 s51 s52 s53 s54 s55 s56 s57 s58 s59 s60 s61 s62 s63 s64 s65 s66 s67 s68 s69 s70 s71 s72 s73 s74 s75 s76 s77 s78 s79 s80 s81 s82 s83 s84 s85 s86 s87 s88 s89 s90 s91 s92 s93 s94 s95 s96 s97 s98 s99 s100 s101 s102 s103 s104 s105 s106 s107 s108 s109 s110 s111 s112 s113 s114 s115 s116 s117).2.2.2.1
    have h5 := fun s0 s1 s7 s8 s9 s12 s13 s14 s15 s16 s17 s18 s19 s20 s21 s22 s23 s24 s25 s26 s27 s28 s29 s30 s31 s32 s33 s34 s35 s36 s37 s38 s39 s40 s41 s42 s43 s44 s45 s46 s47 s48 s49 s50 s51 s52 s53 s54 s55 s56 s57 s58 s59 s60 s61 s62 s63 s64 s65 s66 s67 s68 s69 s70 s71 s72 s73 s74 s75 s76 s77 s78 s79 s80 s81 s82 s83 s84 s85 s86 s87 s88 s89 s90 s91 s92 s93 s94 s95 s96 s97 s98 s99 s100 s101 s102 s103 s104 s105 s106 s107 s108 s109 s110 s111 s112 s113 s114 s115 s116 s117 => (hg s0 s1 s7 s8 s9 s12 s13 s14 s15 s16 s17 s18 s19 s20 s21 s22 s23 s24 s25 s26 s27 s28 s29 s30 s31 s32 s33 s34 s35 s36 s37 s38 s39 s40 s41 s42 s43 s44 s45 s46 s47 s48 s49 s50 s51 s52 s53 s54 s55 s56 s57 s58 s59 s60 s61 s62 s63 s64 s65 s66 s67 s68 s69 s70 s71 s72 s73 s74 s75 s76 s77 s78 s79 s80 s81 s82 s83 s84 s85 s86 s87 s88 s89 s90 s91 s92 s93 s94 s95 s96 s97 s98 s99 s100 s101 s102 s103 s104 s105 s106 s107 s108 s109 s110 s111 s112 s113 s114 s115 s116 s117).2.2.2.2
    clear hg
    have r2 : ∀ (s0 s1 s7 s8 s9 s12 s13 s14 s15 s16 s17 s18 s19 s20 s21 s22 s23 s24 s25 s26 s27 s28 s29 s30 s31 s32 s33 s34 s35 s36 s37 s38 s39 s40 s41 s42 s43 s44 s45 s46 s47 s48 s49 s50 s51 s52 s53 s54 s55 s56 s57 s58 s59 s60 s61 s62 s63 s64 s65 s66 s67 s68 s69 s70 s71 s72 s73 s74 s75 s76 s77 s78 s79 s80 s81 s82 s83 s84 s85 s86 s87 s88 s89 s90 s91 s92 s93 s94 s95 s96 s97 s98 s99 s100 s101 s102 s103 s104 s105 s106 s107 s108 s109 s110 s111 s112 s113 s114 s115 s116 s117 : AV) (a : Blk),(((xLb (H37 A B (xP6 s0 s1 s7 s8 s9 s12 s13 s14 s15 s16 s17 s18 s19 s20 s21 s22 s23 s24 s25 s26 s27 s28 s29 s30 s31 s32 s33 s34 s35 s36 s37 s38 s39 s40 s41 s42 s43 s44 s45 s46 s47 s48 s49 s50 s51 s52 s53 s54 s55 s56 s57 s58 s59 s60 s61 s62 s63 s64 s65 s66 s67 s68 s69 s70 s71 s72 s73 s74 s75 s76 s77 s78 s79 s80 s81 s82 s83 s84 s85 s86 s87 s88 s89 s90 s91 s92 s93 s94 s95 s96 s97 s98 s99 s100 s101 s102 s103 s104 s105 s106 s107 s108 s109 s110 s111 s112 s113 s114 s115 s116 s117 0 none))).set 14 .dead).set 2 a)[2]? = some a := fun s0 s1 s7 s8 s9 s12 s13 s14 s15 s16 s17 s18 s19 s20 s21 s22 s23 s24 s25 s26 s27 s28 s29 s30 s31 s32 s33 s34 s35 s36 s37 s38 s39 s40 s41 s42 s43 s44 s45 s46 s47 s48 s49 s50 s51 s52 s53 s54 s55 s56 s57 s58 s59 s60 s61 s62 s63 s64 s65 s66 s67 s68 s69 s70 s71 s72 s73 s74 s75 s76 s77 s78 s79 s80 s81 s82 s83 s84 s85 s86 s87 s88 s89 s90 s91 s92 s93 s94 s95 s96 s97 s98 s99 s100 s101 s102 s103 s104 s105 s106 s107 s108 s109 s110 s111 s112 s113 s114 s115 s116 s117 a => xBP (by have := xDU (h5 s0 s1 s7 s8 s9 s12 s13 s14 s15 s16 s17 s18 s19 s20 s21 s22 s23 s24 s25 s26 s27 s28 s29 s30 s31 s32 s33 s34 s35 s36 s37 s38 s39 s40 s41 s42 s43 s44 s45 s46 s47 s48 s49 s50 s51 s52 s53 s54 s55 s56 s57 s58 s59 s60 s61 s62 s63 s64 s65 s66 s67 s68 s69 s70 s71 s72 s73 s74 s75 s76 s77 s78 s79 s80 s81 s82 s83 s84 s85 s86 s87 s88 s89 s90 s91 s92 s93 s94 s95 s96 s97 s98 s99 s100 s101 s102 s103 s104 s105 s106 s107 s108 s109 s110 s111 s112 s113 s114 s115 s116 s117); simp only [List.length_set]; omega)
    have r3 : ∀ (s0 s1 s7 s8 s9 s12 s13 s14 s15 s16 s17 s18 s19 s20 s21 s22 s23 s24 s25 s26 s27 s28 s29 s30 s31 s32 s33 s34 s35 s36 s37 s38 s39 s40 s41 s42 s43 s44 s45 s46 s47 s48 s49 s50 s51 s52 s53 s54 s55 s56 s57 s58 s59 s60 s61 s62 s63 s64 s65 s66 s67 s68 s69 s70 s71 s72 s73 s74 s75 s76 s77 s78 s79 s80 s81 s82 s83 s84 s85 s86 s87 s88 s89 s90 s91 s92 s93 s94 s95 s96 s97 s98 s99 s100 s101 s102 s103 s104 s105 s106 s107 s108 s109 s110 s111 s112 s113 s114 s115 s116 s117 : AV) (a b : Blk),((((xLb (H37 A B (xP6 s0 s1 s7 s8 s9 s12 s13 s14 s15 s16 s17 s18 s19 s20 s21 s22 s23 s24 s25 s26 s27 s28 s29 s30 s31 s32 s33 s34 s35 s36 s37 s38 s39 s40 s41 s42 s43 s44 s45 s46 s47 s48 s49 s50 s51 s52 s53 s54 s55 s56 s57 s58 s59 s60 s61 s62 s63 s64 s65 s66 s67 s68 s69 s70 s71 s72 s73 s74 s75 s76 s77 s78 s79 s80 s81 s82 s83 s84 s85 s86 s87 s88 s89 s90 s91 s92 s93 s94 s95 s96 s97 s98 s99 s100 s101 s102 s103 s104 s105 s106 s107 s108 s109 s110 s111 s112 s113 s114 s115 s116 s117 0 none))).set 14 .dead).set 2 a).set 3 b)[3]? = some b := fun s0 s1 s7 s8 s9 s12 s13 s14 s15 s16 s17 s18 s19 s20 s21 s22 s23 s24 s25 s26 s27 s28 s29 s30 s31 s32 s33 s34 s35 s36 s37 s38 s39 s40 s41 s42 s43 s44 s45 s46 s47 s48 s49 s50 s51 s52 s53 s54 s55 s56 s57 s58 s59 s60 s61 s62 s63 s64 s65 s66 s67 s68 s69 s70 s71 s72 s73 s74 s75 s76 s77 s78 s79 s80 s81 s82 s83 s84 s85 s86 s87 s88 s89 s90 s91 s92 s93 s94 s95 s96 s97 s98 s99 s100 s101 s102 s103 s104 s105 s106 s107 s108 s109 s110 s111 s112 s113 s114 s115 s116 s117 a b => xBP (by have := xDU (h5 s0 s1 s7 s8 s9 s12 s13 s14 s15 s16 s17 s18 s19 s20 s21 s22 s23 s24 s25 s26 s27 s28 s29 s30 s31 s32 s33 s34 s35 s36 s37 s38 s39 s40 s41 s42 s43 s44 s45 s46 s47 s48 s49 s50 s51 s52 s53 s54 s55 s56 s57 s58 s59 s60 s61 s62 s63 s64 s65 s66 s67 s68 s69 s70 s71 s72 s73 s74 s75 s76 s77 s78 s79 s80 s81 s82 s83 s84 s85 s86 s87 s88 s89 s90 s91 s92 s93 s94 s95 s96 s97 s98 s99 s100 s101 s102 s103 s104 s105 s106 s107 s108 s109 s110 s111 s112 s113 s114 s115 s116 s117); simp only [List.length_set]; omega)
    have r4 : ∀ (s0 s1 s7 s8 s9 s12 s13 s14 s15 s16 s17 s18 s19 s20 s21 s22 s23 s24 s25 s26 s27 s28 s29 s30 s31 s32 s33 s34 s35 s36 s37 s38 s39 s40 s41 s42 s43 s44 s45 s46 s47 s48 s49 s50 s51 s52 s53 s54 s55 s56 s57 s58 s59 s60 s61 s62 s63 s64 s65 s66 s67 s68 s69 s70 s71 s72 s73 s74 s75 s76 s77 s78 s79 s80 s81 s82 s83 s84 s85 s86 s87 s88 s89 s90 s91 s92 s93 s94 s95 s96 s97 s98 s99 s100 s101 s102 s103 s104 s105 s106 s107 s108 s109 s110 s111 s112 s113 s114 s115 s116 s117 : AV) (a b c : Blk),(((((xLb (H37 A B (xP6 s0 s1 s7 s8 s9 s12 s13 s14 s15 s16 s17 s18 s19 s20 s21 s22 s23 s24 s25 s26 s27 s28 s29 s30 s31 s32 s33 s34 s35 s36 s37 s38 s39 s40 s41 s42 s43 s44 s45 s46 s47 s48 s49 s50 s51 s52 s53 s54 s55 s56 s57 s58 s59 s60 s61 s62 s63 s64 s65 s66 s67 s68 s69 s70 s71 s72 s73 s74 s75 s76 s77 s78 s79 s80 s81 s82 s83 s84 s85 s86 s87 s88 s89 s90 s91 s92 s93 s94 s95 s96 s97 s98 s99 s100 s101 s102 s103 s104 s105 s106 s107 s108 s109 s110 s111 s112 s113 s114 s115 s116 s117 0 none))).set 14 .dead).set 2 a).set 3 b).set 4 c)[4]? = some c := fun s0 s1 s7 s8 s9 s12 s13 s14 s15 s16 s17 s18 s19 s20 s21 s22 s23 s24 s25 s26 s27 s28 s29 s30 s31 s32 s33 s34 s35 s36 s37 s38 s39 s40 s41 s42 s43 s44 s45 s46 s47 s48 s49 s50 s51 s52 s53 s54 s55 s56 s57 s58 s59 s60 s61 s62 s63 s64 s65 s66 s67 s68 s69 s70 s71 s72 s73 s74 s75 s76 s77 s78 s79 s80 s81 s82 s83 s84 s85 s86 s87 s88 s89 s90 s91 s92 s93 s94 s95 s96 s97 s98 s99 s100 s101 s102 s103 s104 s105 s106 s107 s108 s109 s110 s111 s112 s113 s114 s115 s116 s117 a b c => xBP (by have := xDU (h5 s0 s1 s7 s8 s9 s12 s13 s14 s15 s16 s17 s18 s19 s20 s21 s22 s23 s24 s25 s26 s27 s28 s29 s30 s31 s32 s33 s34 s35 s36 s37 s38 s39 s40 s41 s42 s43 s44 s45 s46 s47 s48 s49 s50 s51 s52 s53 s54 s55 s56 s57 s58 s59 s60 s61 s62 s63 s64 s65 s66 s67 s68 s69 s70 s71 s72 s73 s74 s75 s76 s77 s78 s79 s80 s81 s82 s83 s84 s85 s86 s87 s88 s89 s90 s91 s92 s93 s94 s95 s96 s97 s98 s99 s100 s101 s102 s103 s104 s105 s106 s107 s108 s109 s110 s111 s112 s113 s114 s115 s116 s117); simp only [List.length_set]; omega)
    rw [xXM,a37,xAo]
    simp (maxSteps := 30000000) (disch := first | assumption | omega | (simp only [WL,AV.isCell,xAj] <;> omega) | rfl | decide) only [↓reduceIte,WB,xAH,xAc,xAD,xAl,xAk,AV.cells,AV.isCell,xAb,xAg,xAh,WP,xAA,xAs,xBg,xBe,xBa,xAx,xAC,xAB,WA,W2,xAd,xAe,xAi,Nat.reduceAdd,Nat.reduceSub,Nat.reduceLeDiff,Nat.reduceMul,Int.reduceAdd,Int.reduceSub,Int.reduceMul,Int.reduceLT,Int.reduceLE,Int.reduceEq,Int.reduceToNat,Int.reduceNeg,Nat.reduceEqDiff,Nat.reduceBEq,Nat.reduceLT,xBV,xCE,xCH,xDd,xDe,xDf,xBI,xBP,List.length_map,List.set_set,xAj,xBW,xBX,xIW,xFM,xIV,hc,hd,n1,n2,xTP,yAv,a75,h1,h2,h3,h4,h5,r2,r3,r4,show wv = fun v => .sl v.isEmpty v.length (bs v) from rfl]
  | none =>
    have hg := fun s0 s1 s7 s8 s9 s12 s13 s14 s15 s16 s17 s18 s19 s20 s21 s22 s23 s24 s25 s26 s27 s28 s29 s30 s31 s32 s33 s34 s35 s36 s37 s38 s39 s40 s41 s42 s43 s44 s45 s46 s47 s48 s49 s50 s51 s52 s53 s54 s55 s56 s57 s58 s59 s60 s61 s62 s63 s64 s65 s66 s67 s68 s69 s70 s71 s72 s73 s74 s75 s76 s77 s78 s79 s80 s81 s82 s83 s84 s85 s86 s87 s88 s89 s90 s91 s92 s93 s94 s95 s96 s97 s98 s99 s100 s101 s102 s103 s104 s105 s106 s107 s108 s109 s110 s111 s112 s113 s114 s115 s116 s117 => (yAK hA hB (xTQ hA hB hAB s0 s1 s7 s8 s9 s12 s13 s14 s15 s16 s17 s18 s19 s20 s21 s22 s23 s24 s25 s26 s27 s28 s29 s30 s31 s32 s33 s34 s35 s36 s37 s38 s39 s40 s41 s42 s43 s44 s45 s46 s47 s48 s49 s50 s51 s52 s53 s54 s55 s56 s57 s58 s59 s60 s61 s62 s63 s64 s65 s66 s67 s68 s69 s70 s71 s72 s73 s74 s75 s76 s77 s78 s79 s80 s81 s82 s83 s84 s85 s86 s87 s88 s89 s90 s91 s92 s93 s94 s95 s96 s97 s98 s99 s100 s101 s102 s103 s104 s105 s106 s107 s108 s109 s110 s111 s112 s113 s114 s115 s116 s117)).2 hs
    have h1 := fun s0 s1 s7 s8 s9 s12 s13 s14 s15 s16 s17 s18 s19 s20 s21 s22 s23 s24 s25 s26 s27 s28 s29 s30 s31 s32 s33 s34 s35 s36 s37 s38 s39 s40 s41 s42 s43 s44 s45 s46 s47 s48 s49 s50 s51 s52 s53 s54 s55 s56 s57 s58 s59 s60 s61 s62 s63 s64 s65 s66 s67 s68 s69 s70 s71 s72 s73 s74 s75 s76 s77 s78 s79 s80 s81 s82 s83 s84 s85 s86 s87 s88 s89 s90 s91 s92 s93 s94 s95 s96 s97 s98 s99 s100 s101 s102 s103 s104 s105 s106 s107 s108 s109 s110 s111 s112 s113 s114 s115 s116 s117 => (hg s0 s1 s7 s8 s9 s12 s13 s14 s15 s16 s17 s18 s19 s20 s21 s22 s23 s24 s25 s26 s27 s28 s29 s30 s31 s32 s33 s34 s35 s36 s37 s38 s39 s40 s41 s42 s43 s44 s45 s46 s47 s48 s49 s50 s51 s52 s53 s54 s55 s56 s57 s58 s59 s60 s61 s62 s63 s64 s65 s66 s67 s68 s69 s70 s71 s72 s73 s74 s75 s76 s77 s78 s79 s80 s81 s82 s83 s84 s85 s86 s87 s88 s89 s90 s91 s92 s93 s94 s95 s96 s97 s98 s99 s100 s101 s102 s103 s104 s105 s106 s107 s108 s109 s110 s111 s112 s113 s114 s115 s116 s117).1
    have h2 := fun s0 s1 s7 s8 s9 s12 s13 s14 s15 s16 s17 s18 s19 s20 s21 s22 s23 s24 s25 s26 s27 s28 s29 s30 s31 s32 s33 s34 s35 s36 s37 s38 s39 s40 s41 s42 s43 s44 s45 s46 s47 s48 s49 s50 s51 s52 s53 s54 s55 s56 s57 s58 s59 s60 s61 s62 s63 s64 s65 s66 s67 s68 s69 s70 s71 s72 s73 s74 s75 s76 s77 s78 s79 s80 s81 s82 s83 s84 s85 s86 s87 s88 s89 s90 s91 s92 s93 s94 s95 s96 s97 s98 s99 s100 s101 s102 s103 s104 s105 s106 s107 s108 s109 s110 s111 s112 s113 s114 s115 s116 s117 => (hg s0 s1 s7 s8 s9 s12 s13 s14 s15 s16 s17 s18 s19 s20 s21 s22 s23 s24 s25 s26 s27 s28 s29 s30 s31 s32 s33 s34 s35 s36 s37 s38 s39 s40 s41 s42 s43 s44 s45 s46 s47 s48 s49 s50 s51 s52 s53 s54 s55 s56 s57 s58 s59 s60 s61 s62 s63 s64 s65 s66 s67 s68 s69 s70 s71 s72 s73 s74 s75 s76 s77 s78 s79 s80 s81 s82 s83 s84 s85 s86 s87 s88 s89 s90 s91 s92 s93 s94 s95 s96 s97 s98 s99 s100 s101 s102 s103 s104 s105 s106 s107 s108 s109 s110 s111 s112 s113 s114 s115 s116 s117).2.1
    have h3 := fun s0 s1 s7 s8 s9 s12 s13 s14 s15 s16 s17 s18 s19 s20 s21 s22 s23 s24 s25 s26 s27 s28 s29 s30 s31 s32 s33 s34 s35 s36 s37 s38 s39 s40 s41 s42 s43 s44 s45 s46 s47 s48 s49 s50 s51 s52 s53 s54 s55 s56 s57 s58 s59 s60 s61 s62 s63 s64 s65 s66 s67 s68 s69 s70 s71 s72 s73 s74 s75 s76 s77 s78 s79 s80 s81 s82 s83 s84 s85 s86 s87 s88 s89 s90 s91 s92 s93 s94 s95 s96 s97 s98 s99 s100 s101 s102 s103 s104 s105 s106 s107 s108 s109 s110 s111 s112 s113 s114 s115 s116 s117 => (hg s0 s1 s7 s8 s9 s12 s13 s14 s15 s16 s17 s18 s19 s20 s21 s22 s23 s24 s25 s26 s27 s28 s29 s30 s31 s32 s33 s34 s35 s36 s37 s38 s39 s40 s41 s42 s43 s44 s45 s46 s47 s48 s49 s50 s51 s52 s53 s54 s55 s56 s57 s58 s59 s60 s61 s62 s63 s64 s65 s66 s67 s68 s69 s70 s71 s72 s73 s74 s75 s76 s77 s78 s79 s80 s81 s82 s83 s84 s85 s86 s87 s88 s89 s90 s91 s92 s93 s94 s95 s96 s97 s98 s99 s100 s101 s102 s103 s104 s105 s106 s107 s108 s109 s110 s111 s112 s113 s114 s115 s116 s117).2.2.1
    have h4 := fun s0 s1 s7 s8 s9 s12 s13 s14 s15 s16 s17 s18 s19 s20 s21 s22 s23 s24 s25 s26 s27 s28 s29 s30 s31 s32 s33 s34 s35 s36 s37 s38 s39 s40 s41 s42 s43 s44 s45 s46 s47 s48 s49 s50 s51 s52 s53 s54 s55 s56 s57 s58 s59 s60 s61 s62 s63 s64 s65 s66 s67 s68 s69 s70 s71 s72 s73 s74 s75 s76 s77 s78 s79 s80 s81 s82 s83 s84 s85 s86 s87 s88 s89 s90 s91 s92 s93 s94 s95 s96 s97 s98 s99 s100 s101 s102 s103 s104 s105 s106 s107 s108 s109 s110 s111 s112 s113 s114 s115 s116 s117 => (hg s0 s1 s7 s8 s9 s12 s13 s14 s15 s16 s17 s18 s19 s20 s21 s22 s23 s24 s25 s26 s27 s28 s29 s30 s31 s32 s33 s34 s35 s36 s37 s38 s39 s40 s41 s42 s43 s44 s45 s46 s47 s48 s49 s50 s51 s52 s53 s54 s55 s56 s57 s58 s59 s60 s61 s62 s63 s64 s65 s66 s67 s68 s69 s70 s71 s72 s73 s74 s75 s76 s77 s78 s79 s80 s81 s82 s83 s84 s85 s86 s87 s88 s89 s90 s91 s92 s93 s94 s95 s96 s97 s98 s99 s100 s101 s102 s103 s104 s105 s106 s107 s108 s109 s110 s111 s112 s113 s114 s115 s116 s117).2.2.2.1
    have h5 := fun s0 s1 s7 s8 s9 s12 s13 s14 s15 s16 s17 s18 s19 s20 s21 s22 s23 s24 s25 s26 s27 s28 s29 s30 s31 s32 s33 s34 s35 s36 s37 s38 s39 s40 s41 s42 s43 s44 s45 s46 s47 s48 s49 s50 s51 s52 s53 s54 s55 s56 s57 s58 s59 s60 s61 s62 s63 s64 s65 s66 s67 s68 s69 s70 s71 s72 s73 s74 s75 s76 s77 s78 s79 s80 s81 s82 s83 s84 s85 s86 s87 s88 s89 s90 s91 s92 s93 s94 s95 s96 s97 s98 s99 s100 s101 s102 s103 s104 s105 s106 s107 s108 s109 s110 s111 s112 s113 s114 s115 s116 s117 => (hg s0 s1 s7 s8 s9 s12 s13 s14 s15 s16 s17 s18 s19 s20 s21 s22 s23 s24 s25 s26 s27 s28 s29 s30 s31 s32 s33 s34 s35 s36 s37 s38 s39 s40 s41 s42 s43 s44 s45 s46 s47 s48 s49 s50 s51 s52 s53 s54 s55 s56 s57 s58 s59 s60 s61 s62 s63 s64 s65 s66 s67 s68 s69 s70 s71 s72 s73 s74 s75 s76 s77 s78 s79 s80 s81 s82 s83 s84 s85 s86 s87 s88 s89 s90 s91 s92 s93 s94 s95 s96 s97 s98 s99 s100 s101 s102 s103 s104 s105 s106 s107 s108 s109 s110 s111 s112 s113 s114 s115 s116 s117).2.2.2.2
    clear hg
    have r2 : ∀ (s0 s1 s7 s8 s9 s12 s13 s14 s15 s16 s17 s18 s19 s20 s21 s22 s23 s24 s25 s26 s27 s28 s29 s30 s31 s32 s33 s34 s35 s36 s37 s38 s39 s40 s41 s42 s43 s44 s45 s46 s47 s48 s49 s50 s51 s52 s53 s54 s55 s56 s57 s58 s59 s60 s61 s62 s63 s64 s65 s66 s67 s68 s69 s70 s71 s72 s73 s74 s75 s76 s77 s78 s79 s80 s81 s82 s83 s84 s85 s86 s87 s88 s89 s90 s91 s92 s93 s94 s95 s96 s97 s98 s99 s100 s101 s102 s103 s104 s105 s106 s107 s108 s109 s110 s111 s112 s113 s114 s115 s116 s117 : AV) (a : Blk),(((xLb (H37 A B (xP6 s0 s1 s7 s8 s9 s12 s13 s14 s15 s16 s17 s18 s19 s20 s21 s22 s23 s24 s25 s26 s27 s28 s29 s30 s31 s32 s33 s34 s35 s36 s37 s38 s39 s40 s41 s42 s43 s44 s45 s46 s47 s48 s49 s50 s51 s52 s53 s54 s55 s56 s57 s58 s59 s60 s61 s62 s63 s64 s65 s66 s67 s68 s69 s70 s71 s72 s73 s74 s75 s76 s77 s78 s79 s80 s81 s82 s83 s84 s85 s86 s87 s88 s89 s90 s91 s92 s93 s94 s95 s96 s97 s98 s99 s100 s101 s102 s103 s104 s105 s106 s107 s108 s109 s110 s111 s112 s113 s114 s115 s116 s117 0 none))).set 14 .dead).set 2 a)[2]? = some a := fun s0 s1 s7 s8 s9 s12 s13 s14 s15 s16 s17 s18 s19 s20 s21 s22 s23 s24 s25 s26 s27 s28 s29 s30 s31 s32 s33 s34 s35 s36 s37 s38 s39 s40 s41 s42 s43 s44 s45 s46 s47 s48 s49 s50 s51 s52 s53 s54 s55 s56 s57 s58 s59 s60 s61 s62 s63 s64 s65 s66 s67 s68 s69 s70 s71 s72 s73 s74 s75 s76 s77 s78 s79 s80 s81 s82 s83 s84 s85 s86 s87 s88 s89 s90 s91 s92 s93 s94 s95 s96 s97 s98 s99 s100 s101 s102 s103 s104 s105 s106 s107 s108 s109 s110 s111 s112 s113 s114 s115 s116 s117 a => xBP (by have := xDU (h5 s0 s1 s7 s8 s9 s12 s13 s14 s15 s16 s17 s18 s19 s20 s21 s22 s23 s24 s25 s26 s27 s28 s29 s30 s31 s32 s33 s34 s35 s36 s37 s38 s39 s40 s41 s42 s43 s44 s45 s46 s47 s48 s49 s50 s51 s52 s53 s54 s55 s56 s57 s58 s59 s60 s61 s62 s63 s64 s65 s66 s67 s68 s69 s70 s71 s72 s73 s74 s75 s76 s77 s78 s79 s80 s81 s82 s83 s84 s85 s86 s87 s88 s89 s90 s91 s92 s93 s94 s95 s96 s97 s98 s99 s100 s101 s102 s103 s104 s105 s106 s107 s108 s109 s110 s111 s112 s113 s114 s115 s116 s117); simp only [List.length_set]; omega)
    have r3 : ∀ (s0 s1 s7 s8 s9 s12 s13 s14 s15 s16 s17 s18 s19 s20 s21 s22 s23 s24 s25 s26 s27 s28 s29 s30 s31 s32 s33 s34 s35 s36 s37 s38 s39 s40 s41 s42 s43 s44 s45 s46 s47 s48 s49 s50 s51 s52 s53 s54 s55 s56 s57 s58 s59 s60 s61 s62 s63 s64 s65 s66 s67 s68 s69 s70 s71 s72 s73 s74 s75 s76 s77 s78 s79 s80 s81 s82 s83 s84 s85 s86 s87 s88 s89 s90 s91 s92 s93 s94 s95 s96 s97 s98 s99 s100 s101 s102 s103 s104 s105 s106 s107 s108 s109 s110 s111 s112 s113 s114 s115 s116 s117 : AV) (a b : Blk),((((xLb (H37 A B (xP6 s0 s1 s7 s8 s9 s12 s13 s14 s15 s16 s17 s18 s19 s20 s21 s22 s23 s24 s25 s26 s27 s28 s29 s30 s31 s32 s33 s34 s35 s36 s37 s38 s39 s40 s41 s42 s43 s44 s45 s46 s47 s48 s49 s50 s51 s52 s53 s54 s55 s56 s57 s58 s59 s60 s61 s62 s63 s64 s65 s66 s67 s68 s69 s70 s71 s72 s73 s74 s75 s76 s77 s78 s79 s80 s81 s82 s83 s84 s85 s86 s87 s88 s89 s90 s91 s92 s93 s94 s95 s96 s97 s98 s99 s100 s101 s102 s103 s104 s105 s106 s107 s108 s109 s110 s111 s112 s113 s114 s115 s116 s117 0 none))).set 14 .dead).set 2 a).set 3 b)[3]? = some b := fun s0 s1 s7 s8 s9 s12 s13 s14 s15 s16 s17 s18 s19 s20 s21 s22 s23 s24 s25 s26 s27 s28 s29 s30 s31 s32 s33 s34 s35 s36 s37 s38 s39 s40 s41 s42 s43 s44 s45 s46 s47 s48 s49 s50 s51 s52 s53 s54 s55 s56 s57 s58 s59 s60 s61 s62 s63 s64 s65 s66 s67 s68 s69 s70 s71 s72 s73 s74 s75 s76 s77 s78 s79 s80 s81 s82 s83 s84 s85 s86 s87 s88 s89 s90 s91 s92 s93 s94 s95 s96 s97 s98 s99 s100 s101 s102 s103 s104 s105 s106 s107 s108 s109 s110 s111 s112 s113 s114 s115 s116 s117 a b => xBP (by have := xDU (h5 s0 s1 s7 s8 s9 s12 s13 s14 s15 s16 s17 s18 s19 s20 s21 s22 s23 s24 s25 s26 s27 s28 s29 s30 s31 s32 s33 s34 s35 s36 s37 s38 s39 s40 s41 s42 s43 s44 s45 s46 s47 s48 s49 s50 s51 s52 s53 s54 s55 s56 s57 s58 s59 s60 s61 s62 s63 s64 s65 s66 s67 s68 s69 s70 s71 s72 s73 s74 s75 s76 s77 s78 s79 s80 s81 s82 s83 s84 s85 s86 s87 s88 s89 s90 s91 s92 s93 s94 s95 s96 s97 s98 s99 s100 s101 s102 s103 s104 s105 s106 s107 s108 s109 s110 s111 s112 s113 s114 s115 s116 s117); simp only [List.length_set]; omega)
    have r4 : ∀ (s0 s1 s7 s8 s9 s12 s13 s14 s15 s16 s17 s18 s19 s20 s21 s22 s23 s24 s25 s26 s27 s28 s29 s30 s31 s32 s33 s34 s35 s36 s37 s38 s39 s40 s41 s42 s43 s44 s45 s46 s47 s48 s49 s50 s51 s52 s53 s54 s55 s56 s57 s58 s59 s60 s61 s62 s63 s64 s65 s66 s67 s68 s69 s70 s71 s72 s73 s74 s75 s76 s77 s78 s79 s80 s81 s82 s83 s84 s85 s86 s87 s88 s89 s90 s91 s92 s93 s94 s95 s96 s97 s98 s99 s100 s101 s102 s103 s104 s105 s106 s107 s108 s109 s110 s111 s112 s113 s114 s115 s116 s117 : AV) (a b c : Blk),(((((xLb (H37 A B (xP6 s0 s1 s7 s8 s9 s12 s13 s14 s15 s16 s17 s18 s19 s20 s21 s22 s23 s24 s25 s26 s27 s28 s29 s30 s31 s32 s33 s34 s35 s36 s37 s38 s39 s40 s41 s42 s43 s44 s45 s46 s47 s48 s49 s50 s51 s52 s53 s54 s55 s56 s57 s58 s59 s60 s61 s62 s63 s64 s65 s66 s67 s68 s69 s70 s71 s72 s73 s74 s75 s76 s77 s78 s79 s80 s81 s82 s83 s84 s85 s86 s87 s88 s89 s90 s91 s92 s93 s94 s95 s96 s97 s98 s99 s100 s101 s102 s103 s104 s105 s106 s107 s108 s109 s110 s111 s112 s113 s114 s115 s116 s117 0 none))).set 14 .dead).set 2 a).set 3 b).set 4 c)[4]? = some c := fun s0 s1 s7 s8 s9 s12 s13 s14 s15 s16 s17 s18 s19 s20 s21 s22 s23 s24 s25 s26 s27 s28 s29 s30 s31 s32 s33 s34 s35 s36 s37 s38 s39 s40 s41 s42 s43 s44 s45 s46 s47 s48 s49 s50 s51 s52 s53 s54 s55 s56 s57 s58 s59 s60 s61 s62 s63 s64 s65 s66 s67 s68 s69 s70 s71 s72 s73 s74 s75 s76 s77 s78 s79 s80 s81 s82 s83 s84 s85 s86 s87 s88 s89 s90 s91 s92 s93 s94 s95 s96 s97 s98 s99 s100 s101 s102 s103 s104 s105 s106 s107 s108 s109 s110 s111 s112 s113 s114 s115 s116 s117 a b c => xBP (by have := xDU (h5 s0 s1 s7 s8 s9 s12 s13 s14 s15 s16 s17 s18 s19 s20 s21 s22 s23 s24 s25 s26 s27 s28 s29 s30 s31 s32 s33 s34 s35 s36 s37 s38 s39 s40 s41 s42 s43 s44 s45 s46 s47 s48 s49 s50 s51 s52 s53 s54 s55 s56 s57 s58 s59 s60 s61 s62 s63 s64 s65 s66 s67 s68 s69 s70 s71 s72 s73 s74 s75 s76 s77 s78 s79 s80 s81 s82 s83 s84 s85 s86 s87 s88 s89 s90 s91 s92 s93 s94 s95 s96 s97 s98 s99 s100 s101 s102 s103 s104 s105 s106 s107 s108 s109 s110 s111 s112 s113 s114 s115 s116 s117); simp only [List.length_set]; omega)
    rw [xXM,a37,xAo]
    simp (maxSteps := 30000000) (disch := first | assumption | omega | (simp only [WL,AV.isCell,xAj] <;> omega) | rfl | decide) only [↓reduceIte,WB,xAH,xAc,xAD,xAl,xAk,AV.cells,AV.isCell,xAb,xAg,xAh,WP,xAA,xAs,xBg,xBe,xBa,xAx,xAC,xAB,WA,W2,xAd,xAe,xAi,Nat.reduceAdd,Nat.reduceSub,Nat.reduceLeDiff,Nat.reduceMul,Int.reduceAdd,Int.reduceSub,Int.reduceMul,Int.reduceLT,Int.reduceLE,Int.reduceEq,Int.reduceToNat,Int.reduceNeg,Nat.reduceEqDiff,Nat.reduceBEq,Nat.reduceLT,xBV,xCE,xCH,xDd,xDe,xDf,xBI,xBP,List.length_map,List.set_set,xAj,xBW,xBX,xIW,xFM,xIV,hc,hd,n1,n2,xTP,yAv,a75,h1,h2,h3,h4,h5,r2,r3,r4,show wv = fun v => .sl v.isEmpty v.length (bs v) from rfl]
end
def eqE (v : Int) : AV := .tup [.sl true 0 [],.bool false,.int .i64 v]
theorem xDY {a b : Mf} (hS : Sm a) (h : xNu a ≠ 0) : L.pcall 37 [a.av,b.av] = some (eqE (xNu a)) := by
  have hc := xK1 hS
  unfold eqE
  generalize xNu a = e at *
  unfold Mf.av at hc ⊢
  unfold Mf.cells at hc ⊢
  rw [xXM,a37,xAo]
  simp (maxSteps := 30000000) (disch := first | assumption | omega | (simp only [WL,AV.isCell,xAj] <;> omega) | rfl | decide) only [↓reduceIte,WB,xAH,xAc,xAD,xAl,xAk,AV.cells,AV.isCell,xAb,xAg,xAh,WP,xAA,xAs,xBg,xBe,xBa,xAx,xAC,xAB,W2,xAd,xAe,xAi,Nat.reduceAdd,Nat.reduceSub,Nat.reduceLeDiff,Nat.reduceMul,Int.reduceAdd,Int.reduceSub,Int.reduceMul,Int.reduceLT,Int.reduceLE,Int.reduceEq,Int.reduceToNat,Int.reduceNeg,Nat.reduceEqDiff,Nat.reduceBEq,Nat.reduceLT,xIW,xFM,xIV,hc,h]
theorem xKh {a b : Mf} (hS : Sm a) (hT : Sm b) (h : xNu a = 0) (h2 : xNu b ≠ 0) : L.pcall 37 [a.av,b.av] = some (eqE (xNu b)) := by
  have hc := xK1 hS
  have hd := xK1 hT
  unfold eqE
  rw [h] at hc
  generalize xNu b = e at *
  unfold Mf.av at hc hd ⊢
  unfold Mf.cells at hc hd ⊢
  rw [xXM,a37,xAo]
  simp (maxSteps := 30000000) (disch := first | assumption | omega | (simp only [WL,AV.isCell,xAj] <;> omega) | rfl | decide) only [↓reduceIte,WB,xAH,xAc,xAD,xAl,xAk,AV.cells,AV.isCell,xAb,xAg,xAh,WP,xAA,xAs,xBg,xBe,xBa,xAx,xAC,xAB,W2,xAd,xAe,xAi,Nat.reduceAdd,Nat.reduceSub,Nat.reduceLeDiff,Nat.reduceMul,Int.reduceAdd,Int.reduceSub,Int.reduceMul,Int.reduceLT,Int.reduceLE,Int.reduceEq,Int.reduceToNat,Int.reduceNeg,Nat.reduceEqDiff,Nat.reduceBEq,Nat.reduceLT,xIW,xFM,xIV,hc,hd,h2]
theorem xKi {A B : Ma} (hA : Vm A) (hB : Vm B) (h : ¬ (A.i = B.i ∧ A.o = B.o)) : L.pcall 37 [A.av,B.av] = some (eqE 7) := by
  have hc := xB8 hA
  have hd := xB8 hB
  unfold eqE
  unfold Ma.av Ma.cells at hc hd ⊢
  by_cases c : A.i = B.i
  · have c1 : (((A.i : Nat) : Int) = (B.i : Nat)) ↔ True := iff_true_intro (by omega)
    have c2 : ¬ (((A.o : Nat) : Int) = (B.o : Nat)) := fun e => h ⟨c,by omega⟩
    rw [xXM,a37,xAo]
    simp (maxSteps := 30000000) (disch := first | assumption | omega | (simp only [WL,AV.isCell,xAj] <;> omega) | rfl | decide) only [↓reduceIte,WB,xAH,xAc,xAD,xAl,xAk,AV.cells,AV.isCell,xAb,xAg,xAh,WP,xAA,xAs,xBg,xBe,xBa,xAx,xAC,xAB,W2,xAd,xAe,xAi,Nat.reduceAdd,Nat.reduceSub,Nat.reduceLeDiff,Nat.reduceMul,Int.reduceAdd,Int.reduceSub,Int.reduceMul,Int.reduceLT,Int.reduceLE,Int.reduceEq,Int.reduceToNat,Int.reduceNeg,Nat.reduceEqDiff,Nat.reduceBEq,Nat.reduceLT,xIW,xFM,xIV,hc,hd,c1,c2]
  · have c1 : ¬ (((A.i : Nat) : Int) = (B.i : Nat)) := by omega
    rw [xXM,a37,xAo]
    simp (maxSteps := 30000000) (disch := first | assumption | omega | (simp only [WL,AV.isCell,xAj] <;> omega) | rfl | decide) only [↓reduceIte,WB,xAH,xAc,xAD,xAl,xAk,AV.cells,AV.isCell,xAb,xAg,xAh,WP,xAA,xAs,xBg,xBe,xBa,xAx,xAC,xAB,W2,xAd,xAe,xAi,Nat.reduceAdd,Nat.reduceSub,Nat.reduceLeDiff,Nat.reduceMul,Int.reduceAdd,Int.reduceSub,Int.reduceMul,Int.reduceLT,Int.reduceLE,Int.reduceEq,Int.reduceToNat,Int.reduceNeg,Nat.reduceEqDiff,Nat.reduceBEq,Nat.reduceLT,xIW,xFM,xIV,hc,hd,c1]
theorem xZj {z1 z2 : Bool} {a b : List Nat} {H : Heap} (hl : a.length = b.length) (hm : a.length < 9223372036854775807) : ∀ e i,i + e = a.length → xIb (a.drop i) (b.drop i) →
    ∃ x v j,(x = .ret ∨ (x = .exit 0 ∧ v = 0)) ∧ v ≤ (0 : Int) ∧ L.loop xI0 xRF ⟨xI1 (.sl z1 a.length (bs a)) (.sl z2 b.length (bs b)) (.int .i64 0) (.int .i64 (i : Nat)),H⟩ = some (x,⟨xI1 (.sl z1 a.length (bs a)) (.sl z2 b.length (bs b)) (.int .i64 v) (.int .i64 (j : Nat)),H⟩) := by
  intro e
  induction e with
  | zero =>
    intro i hi hlx
    have hlt : ¬ ((i : Nat) : Int) < (a.length : Nat) := by omega
    refine ⟨.exit 0,0,i,.inr ⟨rfl,rfl⟩,by omega,?_⟩
    rw [xRG]
    simp (maxSteps := 30000000) (disch := first | assumption | omega | (simp only [WL,AV.isCell,xAj] <;> omega) | rfl | decide) only [↓reduceIte,WB,xAH,xAc,xAD,xAl,xAk,AV.cells,AV.isCell,xAb,xAg,xAh,WP,xAA,xAs,xBg,xBe,xBa,xAx,xAC,xAB,W2,xAd,xAe,xAi,Nat.reduceAdd,Nat.reduceSub,Nat.reduceLeDiff,Nat.reduceMul,Int.reduceAdd,Int.reduceSub,Int.reduceMul,Int.reduceLT,Int.reduceLE,Int.reduceEq,Int.reduceToNat,Int.reduceNeg,Nat.reduceEqDiff,Nat.reduceBEq,Nat.reduceLT,xLV,xLW,hlt]
  | succ e ih =>
    intro i hi hlx
    have h1 : i < a.length := by omega
    have h2 : i < b.length := by omega
    have hlt : ((i : Nat) : Int) < (a.length : Nat) := by omega
    rw [List.drop_eq_getElem_cons h1,List.drop_eq_getElem_cons h2] at hlx
    have e1 : a.getD i 0 = a[i] := by rw [List.getD_eq_getElem?_getD,List.getElem?_eq_getElem h1]; rfl
    have e2 : b.getD i 0 = b[i] := by rw [List.getD_eq_getElem?_getD,List.getElem?_eq_getElem h2]; rfl
    rw [← e1,← e2] at hlx
    have hbl : i < b.length := h2
    rcases hlx with hx | ⟨hx,hr⟩
    · refine ⟨.ret,-1,i,.inl rfl,by omega,?_⟩
      have hx' : ((a.getD i 0 : Nat) : Int) < ((b.getD i 0 : Nat) : Int) := by omega
      rw [xRG]
      simp (maxSteps := 30000000) (disch := first | assumption | omega | (simp only [WL,AV.isCell,xAj] <;> omega) | rfl | decide) only [↓reduceIte,WB,xAH,xAc,xAD,xAl,xAk,AV.cells,AV.isCell,xAb,xAg,xAh,WP,xAA,xAs,xBg,xBe,xBa,xAx,xAC,xAB,W2,xAd,xAe,xAi,Nat.reduceAdd,Nat.reduceSub,Nat.reduceLeDiff,Nat.reduceMul,Int.reduceAdd,Int.reduceSub,Int.reduceMul,Int.reduceLT,Int.reduceLE,Int.reduceEq,Int.reduceToNat,Int.reduceNeg,Nat.reduceEqDiff,Nat.reduceBEq,Nat.reduceLT,xLV,xLW,hlt,h1,h2,hx']
    · obtain ⟨x,v,j,c1,c2,c3⟩ := ih (i + 1) (by omega) hr
      refine ⟨x,v,j,c1,c2,?_⟩
      have hx1 : ¬ ((b.getD i 0 : Nat) : Int) < ((b.getD i 0 : Nat) : Int) := by omega
      rw [xRG]
      simp (maxSteps := 30000000) (disch := first | assumption | omega | (simp only [WL,AV.isCell,xAj] <;> omega) | rfl | decide) only [↓reduceIte,WB,xAH,xAc,xAD,xAl,xAk,AV.cells,AV.isCell,xAb,xAg,xAh,WP,xAA,xAs,xBg,xBe,xBa,xAx,xAC,xAB,W2,xAd,xAe,xAi,Nat.reduceAdd,Nat.reduceSub,Nat.reduceLeDiff,Nat.reduceMul,Int.reduceAdd,Int.reduceSub,Int.reduceMul,Int.reduceLT,Int.reduceLE,Int.reduceEq,Int.reduceToNat,Int.reduceNeg,Nat.reduceEqDiff,Nat.reduceBEq,Nat.reduceLT,xLV,xLW,hlt,h1,h2,hx,hx1,c3]
theorem xZk {z1 z2 : Bool} {a b : List Nat} (ha : a.length < 9223372036854775807) (h : xGb a b) : ∃ v : Int,v ≤ 0 ∧ L.pcall 41 [.sl z1 a.length (bs a),.sl z2 b.length (bs b)] = some (.int .i64 v) := by
  rcases h with h | ⟨h1,h2⟩
  · have h' : ((a.length : Nat) : Int) < (b.length : Nat) := by omega
    refine ⟨-1,by omega,?_⟩
    rw [xZO,a41,xAo]
    simp (maxSteps := 30000000) (disch := first | assumption | omega | (simp only [WL,AV.isCell,xAj] <;> omega) | rfl | decide) only [↓reduceIte,WB,xAH,xAc,xAD,xAl,xAk,AV.cells,AV.isCell,xAb,xAg,xAh,WP,xAA,xAs,xBg,xBe,xBa,xAx,xAC,xAB,W2,xAd,xAe,xAi,Nat.reduceAdd,Nat.reduceSub,Nat.reduceLeDiff,Nat.reduceMul,Int.reduceAdd,Int.reduceSub,Int.reduceMul,Int.reduceLT,Int.reduceLE,Int.reduceEq,Int.reduceToNat,Int.reduceNeg,Nat.reduceEqDiff,Nat.reduceBEq,Nat.reduceLT,h']
  · have n1 : ¬ ((a.length : Nat) : Int) < (b.length : Nat) := by omega
    have n2 : ¬ ((b.length : Nat) : Int) < (a.length : Nat) := by omega
    obtain ⟨x,v,j,c1,c2,c3⟩ := xZj (z1 := z1) (z2 := z2) (H := []) h1 ha a.length 0 (by omega) (by simpa using h2)
    change L.loop xI0 xRF ⟨xI1 (.sl z1 a.length (bs a)) (.sl z2 b.length (bs b)) (.int .i64 0) (.int .i64 0),[]⟩ = _ at c3
    rcases c1 with rfl | ⟨rfl,rfl⟩
    · refine ⟨v,c2,?_⟩
      rw [xZO,a41,xAo]
      simp (maxSteps := 30000000) (disch := first | assumption | omega | (simp only [WL,AV.isCell,xAj] <;> omega) | rfl | decide) only [↓reduceIte,WB,xAH,xAc,xAD,xAl,xAk,AV.cells,AV.isCell,xAb,xAg,xAh,WP,xAA,xAs,xBg,xBe,xBa,xAx,xAC,xAB,W2,xAd,xAe,xAi,Nat.reduceAdd,Nat.reduceSub,Nat.reduceLeDiff,Nat.reduceMul,Int.reduceAdd,Int.reduceSub,Int.reduceMul,Int.reduceLT,Int.reduceLE,Int.reduceEq,Int.reduceToNat,Int.reduceNeg,Nat.reduceEqDiff,Nat.reduceBEq,Nat.reduceLT,xLW,n1,n2,c3]
    · refine ⟨0,by omega,?_⟩
      rw [xZO,a41,xAo]
      simp (maxSteps := 30000000) (disch := first | assumption | omega | (simp only [WL,AV.isCell,xAj] <;> omega) | rfl | decide) only [↓reduceIte,WB,xAH,xAc,xAD,xAl,xAk,AV.cells,AV.isCell,xAb,xAg,xAh,WP,xAA,xAs,xBg,xBe,xBa,xAx,xAC,xAB,W2,xAd,xAe,xAi,Nat.reduceAdd,Nat.reduceSub,Nat.reduceLeDiff,Nat.reduceMul,Int.reduceAdd,Int.reduceSub,Int.reduceMul,Int.reduceLT,Int.reduceLE,Int.reduceEq,Int.reduceToNat,Int.reduceNeg,Nat.reduceEqDiff,Nat.reduceBEq,Nat.reduceLT,xLW,n1,n2,c3]
section
variable {A B : Ma}
theorem xK9 (hA : Vm A) (hB : Vm B) (hAB : A.i = B.i) {u : List Nat} {c : Nat × Nat} (c1 : c.1 < A.next.length) (c2 : c.2 < B.next.length) : ∀ (l : List Nat) (S : Bs),(∀ i ∈ l,i < two A.i) → PV A B S → PV A B (xF4 A B u c l S).2
  | [],S,_,hp => hp
  | i :: r,S,hl,hp => by
    have hi := hl i (by simp)
    have hr : ∀ j ∈ r,j < two A.i := fun j hj => hl j (by simp [hj])
    rw [xF4]
    split
    · exact hp
    · split
      · exact xK9 hA hB hAB c1 c2 r S hr hp
      · refine xK9 hA hB hAB c1 c2 r _ hr ?_
        intro x hx
        rcases List.mem_append.mp hx with hx | hx
        · exact hp x hx
        · rw [List.mem_singleton] at hx
          subst hx
          exact ⟨hA.nx c1 hi,hB.nx c2 (by rw [← hAB]; exact hi)⟩
theorem xKj (hA : Vm A) (hB : Vm B) (hAB : A.i = B.i) : ∀ (e k : Nat) (S : Bs),BI A B S k 0 → k ≤ S.1.length → PV A B S → A.next.length * B.next.length < e + k → xFx A B e k S = none → ∃ S',BI A B S' S'.1.length 0
  | 0,k,S,h,hk,hp,he,_ => by
    have := h.len_le hp
    omega
  | e + 1,k,S,h,hk,hp,he,hn => by
    rw [xFx] at hn
    split at hn
    · rename_i hk'
      have hb := xFz A B k (two A.i) 0 S (by omega) hk' h
      rw [← List.range_eq_range'] at hb
      have hv := xK9 hA hB hAB (u := S.2.getD k []) (hp.at hk').1 (hp.at hk').2 (List.range (two A.i)) S (fun i hi => List.mem_range.1 hi) hp
      generalize xF4 A B (S.2.getD k []) (S.1.getD k (0,0)) (List.range (two A.i)) S = r at hb hn hv
      obtain ⟨r1,r2⟩ := r
      cases r1 with
      | some v' => simp at hn
      | none =>
        have := hb.2 r2 rfl
        exact xKj hA hB hAB e (k + 1) r2 this.1.next this.2 hv (by omega) hn
    · have : k = S.1.length := by omega
      subst this
      exact ⟨S,h⟩
theorem xDK {v : List Nat} (h : xNv A B = some v) : xTK A B v := xP4 A B _ 0 _ (BI.start A B) (by simp) v h
theorem xId (hA : Vm A) (hB : Vm B) (hAB : A.i = B.i) (h : xNv A B = none) (t : List Nat) (y : Nat) (hl : ∀ x ∈ t ++ [y],x < two A.i) : ¬ xE8 A B t y := by
  obtain ⟨S',h'⟩ := xKj hA hB hAB _ 0 _ (BI.start A B) (by simp) (xK8 hA hB) (by omega) h
  exact h'.none t y hl
theorem xIe (A B : Ma) : ∀ (u : List Nat) (c : Nat × Nat),xBB B A (c.2,c.1) u = ((xBB A B c u).2,(xBB A B c u).1)
  | [],c => rfl
  | x :: t,c => xIe A B t (nx A c.1 x,nx B c.2 x)
theorem tells_swap {t : List Nat} {y : Nat} : xE8 B A t y ↔ xE8 A B t y := by
  unfold xE8
  rw [xIe A B t (A.s,B.s)]
  exact ⟨fun h e => h e.symm,fun h e => h e.symm⟩
theorem xIf (hA : Vm A) (hB : Vm B) (hAB : A.i = B.i) : xNv B A = xNv A B := by
  cases h1 : xNv A B with
  | none =>
    cases h2 : xNv B A with
    | none => rfl
    | some v =>
      obtain ⟨u,x,rfl,l,t,m⟩ := xDK h2
      exact absurd (tells_swap.1 t) (xId hA hB hAB h1 u x (by rw [hAB]; exact l))
  | some v =>
    obtain ⟨u,x,rfl,l,t,m⟩ := xDK h1
    cases h2 : xNv B A with
    | none => exact absurd (tells_swap.2 t) (xId hB hA hAB.symm h2 u x (by rw [← hAB]; exact l))
    | some v' =>
      obtain ⟨u',x',rfl,l',t',m'⟩ := xDK h2
      rw [xK6 (m' u x (by rw [← hAB]; exact l) (tells_swap.2 t)) (m u' x' (by rw [hAB]; exact l') (tells_swap.1 t'))]
theorem xDZ (A B : Ma) (x : Nat) : ∀ (u : List Nat) (c : Nat × Nat),xBJ A c.1 (u ++ [x]) = xBJ A c.1 u ++ [em A (xBB A B c u).1 x]
  | [],c => rfl
  | y :: t,c => by
    have := xDZ A B x t (nx A c.1 y,nx B c.2 y)
    simp only [List.cons_append,xBJ,xBB,this]
theorem xD0 (A B : Ma) (x : Nat) : ∀ (u : List Nat) (c : Nat × Nat),xBJ B c.2 (u ++ [x]) = xBJ B c.2 u ++ [em B (xBB A B c u).2 x]
  | [],c => rfl
  | y :: t,c => by
    have := xD0 A B x t (nx A c.1 y,nx B c.2 y)
    simp only [List.cons_append,xBJ,xBB,this]
theorem xLa (A B : Ma) : ∀ (n : Nat) (w : List Nat),w.length = n → (∀ t y r,w = t ++ [y] ++ r → ¬ xE8 A B t y) → xBJ A A.s w = xBJ B B.s w
  | 0,w,hw,_ => by
    obtain rfl := List.eq_nil_of_length_eq_zero hw
    rfl
  | n + 1,w,hw,h => by
    rcases List.eq_nil_or_concat w with rfl | ⟨u,x,rfl⟩
    · rfl
    rw [List.concat_eq_append] at *
    have ih := xLa A B n u (by simpa using hw) (fun t y r e => h t y (r ++ [x]) (by rw [e]; simp))
    have ht := h u x [] (by simp)
    unfold xE8 at ht
    rw [Decidable.not_not] at ht
    have e1 := xDZ A B x u (A.s,B.s)
    have e2 := xD0 A B x u (A.s,B.s)
    rw [e1,e2,ht,ih]
theorem xNt {v : List Nat} (h : xTK A B v) : ∃ (u : List Nat) (x a b : Nat),v = u ++ [x] ∧ xBJ A A.s v = xBJ A A.s u ++ [a] ∧ xBJ B B.s v = xBJ A A.s u ++ [b] ∧ a ≠ b := by
  obtain ⟨u,x,rfl,l,t,m⟩ := h
  have hu : xBJ A A.s u = xBJ B B.s u := by
    refine xLa A B u.length u rfl ?_
    intro t y r e ht
    have := m t y (fun z hz => l z (by rw [e]; simp only [List.append_assoc,List.mem_append] at hz ⊢; rcases hz with hz | hz <;> simp [hz])) ht
    unfold xGb at this
    have el : u.length = t.length + 1 + r.length := by rw [e]; simp; omega
    simp only [List.length_append,List.length_cons,List.length_nil] at this
    omega
  refine ⟨u,x,_,_,rfl,xDZ A B x u (A.s,B.s),?_,t⟩
  rw [hu]
  exact xD0 A B x u (A.s,B.s)
theorem xP7 {v w : List Nat} (h : xTK A B v) (hw : ∀ z ∈ w,z < two A.i) {d : Nat} (hl : w.length = d + 1) (hd : (xBJ A A.s w).getD d 0 ≠ (xBJ B B.s w).getD d 0) : xGb v w := by
  rcases List.eq_nil_or_concat w with rfl | ⟨u,x,rfl⟩
  · simp at hl
  rw [List.concat_eq_append] at *
  obtain ⟨_,_,_,_,_,m⟩ := h
  have hud : d = u.length := by simpa using hl.symm
  subst hud
  refine m u x hw ?_
  unfold xE8
  have e1 := xDZ A B x u (A.s,B.s)
  have e2 := xD0 A B x u (A.s,B.s)
  simp only at e1 e2
  rw [e1,e2] at hd
  have l1 : (xBJ A A.s u).length = u.length := xBr A u A.s
  have l2 : (xBJ B B.s u).length = u.length := xBr B u B.s
  have d1 : (xBJ A A.s u ++ [em A (xBB A B (A.s,B.s) u).1 x]).getD u.length 0 = em A (xBB A B (A.s,B.s) u).1 x := by
    conv => lhs; rw [← l1]
    exact xDX _ _ _
  have d2 : (xBJ B B.s u ++ [em B (xBB A B (A.s,B.s) u).2 x]).getD u.length 0 = em B (xBB A B (A.s,B.s) u).2 x := by
    conv => lhs; rw [← l2]
    exact xDX _ _ _
  rw [d1,d2] at hd
  exact hd
theorem xVd (hA : Vm A) (hB : Vm B) (hAB : A.i = B.i) (h : xNv A B = none) {w : List Nat} (hw : ∀ z ∈ w,z < two A.i) : xBJ A A.s w = xBJ B B.s w := by
  refine xLa A B w.length w rfl ?_
  intro t y r e
  exact xId hA hB hAB h t y (fun z hz => hw z (by rw [e]; exact List.mem_append_left _ hz))
end
end Go.Abs.Mealy
