/- What numbering gives: plain facts. -/
import Derived.Test.YtdkbhidfiplncaaAE5
namespace Go.Abs.Det
open Go Go.Abs
set_option linter.unusedSimpArgs false
set_option linter.unusedVariables false

theorem idxK_some {k : List Nat} : ∀ {ks : List (List Nat)} {i j : Nat}, idxK k ks i = some j → i ≤ j ∧ ks[j - i]? = some k
  | [], i, j, h => by cases h
  | k' :: ks, i, j, h => by
    unfold idxK at h
    split at h
    · rename_i c
      cases h
      exact ⟨Nat.le_refl _, by rw [Nat.sub_self, c]; rfl⟩
    · obtain ⟨h1, h2⟩ := idxK_some h
      refine ⟨by omega, ?_⟩
      rw [show j - i = (j - (i + 1)) + 1 by omega]
      exact h2
theorem idxK_none {k : List Nat} : ∀ {ks : List (List Nat)} {i : Nat}, idxK k ks i = none → k ∉ ks
  | [], i, _ => by simp
  | k' :: ks, i, h => by
    unfold idxK at h
    split at h
    · cases h
    · rename_i c
      have := idxK_none h
      simp only [List.mem_cons, not_or]
      exact ⟨c, this⟩

/-- the last one's number -/
def snocK (key : Nat → List Nat) (e : Nat) (r : List Nat × List (List Nat)) : List Nat × List (List Nat) := match idxK (key e) r.2 0 with
  | some j => (r.1 ++ [j], r.2)
  | none => (r.1 ++ [r.2.length], r.2 ++ [key e])
theorem numK_snoc (key : Nat → List Nat) : ∀ e s seen, numK key s (e + 1) seen = snocK key (s + e) (numK key s e seen)
  | 0, s, seen => by
    unfold snocK
    show numK key s 1 seen = match idxK (key s) seen 0 with | some j => ([] ++ [j], seen) | none => ([] ++ [seen.length], seen ++ [key s])
    unfold numK
    cases idxK (key s) seen 0 <;> rfl
  | e + 1, s, seen => by
    have h : ∀ e, numK key s (e + 1) seen = match idxK (key s) seen 0 with
      | some j => (j :: (numK key (s + 1) e seen).1, (numK key (s + 1) e seen).2)
      | none => (seen.length :: (numK key (s + 1) e (seen ++ [key s])).1, (numK key (s + 1) e (seen ++ [key s])).2) := fun e => rfl
    rw [h (e + 1), h e]
    have e1 : s + (e + 1) = s + 1 + e := by omega
    rw [e1]
    cases idxK (key s) seen 0 with
    | some j =>
      simp only []
      rw [numK_snoc key e (s + 1) seen]
      unfold snocK
      cases idxK (key (s + 1 + e)) (numK key (s + 1) e seen).2 0 <;> rfl
    | none =>
      simp only []
      rw [numK_snoc key e (s + 1) (seen ++ [key s])]
      unfold snocK
      cases idxK (key (s + 1 + e)) (numK key (s + 1) e (seen ++ [key s])).2 0 <;> rfl

structure NumOk (key : Nat → List Nat) (e : Nat) (r : List Nat × List (List Nat)) : Prop where
  len : r.1.length = e
  nd : ∀ (i j : Nat) (k : List Nat), r.2[i]? = some k → r.2[j]? = some k → i = j
  at1 : ∀ i, i < e → r.2[r.1.getD i 0]? = some (key i)
  hit : ∀ j, j < r.2.length → ∃ i, i < e ∧ r.1.getD i 0 = j
  le : r.2.length ≤ e

theorem getD_app1 {l : List Nat} {a : Nat} {i : Nat} (h : i < l.length) : (l ++ [a]).getD i 0 = l.getD i 0 := by
  simp only [List.getD_eq_getElem?_getD]; rw [List.getElem?_append_left h]
theorem getD_app2 {l : List Nat} {a : Nat} : (l ++ [a]).getD l.length 0 = a := by
  simp [List.getD]

theorem numK_ok (key : Nat → List Nat) : ∀ e, NumOk key e (numK key 0 e [])
  | 0 => ⟨rfl, fun i j k h => by simp [numK] at h, fun i h => by omega, fun j h => by simp [numK] at h, by simp [numK]⟩
  | e + 1 => by
    have ih := numK_ok key e
    rw [numK_snoc, Nat.zero_add]
    generalize numK key 0 e [] = r at *
    obtain ⟨l, ks⟩ := r
    obtain ⟨h1, h2, h3, h4, h5⟩ := ih
    simp only at h1 h2 h3 h4 h5
    unfold snocK
    cases hi : idxK (key e) ks 0 with
    | some j =>
      obtain ⟨_, q⟩ := idxK_some hi
      rw [Nat.sub_zero] at q
      refine ⟨by simp [h1], h2, fun i hi' => ?_, fun j' hj => ?_, by show ks.length ≤ e + 1; omega⟩
      · by_cases c : i < e
        · show ks[(l ++ [j]).getD i 0]? = _
          rw [getD_app1 (by omega)]; exact h3 i c
        · have : i = l.length := by omega
          subst this
          show ks[(l ++ [j]).getD l.length 0]? = _
          rw [getD_app2, h1]; exact q
      · obtain ⟨i, i1, i2⟩ := h4 j' hj
        exact ⟨i, by omega, by show (l ++ [j]).getD i 0 = j'; rw [getD_app1 (by omega)]; exact i2⟩
    | none =>
      have q := idxK_none hi
      refine ⟨by simp [h1], fun i j k hi' hj' => ?_, fun i hi' => ?_, fun j' hj => ?_, by simp; omega⟩
      · show i = j
        have key' : ∀ i, (ks ++ [key e])[i]? = some k → (i < ks.length ∧ ks[i]? = some k) ∨ (i = ks.length ∧ k = key e) := fun i h => by
          by_cases c : i < ks.length
          · rw [List.getElem?_append_left c] at h; exact .inl ⟨c, h⟩
          · have hl := (List.getElem?_eq_some_iff.1 h).1
            simp at hl
            have e1 : i = ks.length := by omega
            subst e1
            simp at h
            exact .inr ⟨rfl, h.symm⟩
        rcases key' i hi' with ⟨a1, a2⟩ | ⟨a1, a2⟩ <;> rcases key' j hj' with ⟨b1, b2⟩ | ⟨b1, b2⟩
        · exact h2 i j k a2 b2
        · subst b2; exact absurd (List.mem_of_getElem? a2) q
        · subst a2; exact absurd (List.mem_of_getElem? b2) q
        · omega
      · by_cases c : i < e
        · show (ks ++ [key e])[(l ++ [ks.length]).getD i 0]? = _
          rw [getD_app1 (by omega)]
          have := h3 i c
          rw [List.getElem?_append_left (List.getElem?_eq_some_iff.1 this).1]; exact this
        · have : i = l.length := by omega
          subst this
          show (ks ++ [key e])[(l ++ [ks.length]).getD l.length 0]? = _
          rw [getD_app2, h1]; simp
      · simp only [List.length_append, List.length_singleton] at hj
        by_cases c : j' < ks.length
        · obtain ⟨i, i1, i2⟩ := h4 j' c
          exact ⟨i, by omega, by show (l ++ [ks.length]).getD i 0 = j'; rw [getD_app1 (by omega)]; exact i2⟩
        · exact ⟨l.length, by omega, by show (l ++ [ks.length]).getD l.length 0 = j'; rw [getD_app2]; omega⟩

theorem NumOk.lt {key : Nat → List Nat} {e : Nat} {r : List Nat × List (List Nat)} (h : NumOk key e r) {i : Nat} (hi : i < e) : r.1.getD i 0 < r.2.length :=
  (List.getElem?_eq_some_iff.1 (h.at1 i hi)).1
theorem NumOk.same {key : Nat → List Nat} {e : Nat} {r : List Nat × List (List Nat)} (h : NumOk key e r) {i j : Nat} (hi : i < e) (hj : j < e) : r.1.getD i 0 = r.1.getD j 0 ↔ key i = key j := by
  have a := h.at1 i hi
  have b := h.at1 j hj
  constructor
  · intro q
    rw [q, b] at a
    exact (Option.some.inj a).symm
  · intro q
    rw [q] at a
    exact h.nd _ _ _ a b

/-! counting -/
theorem inj_le : ∀ (b a : Nat) (f : Nat → Nat), (∀ i, i < a → f i < b) → (∀ i j, i < a → j < a → f i = f j → i = j) → a ≤ b
  | 0, a, f, h, _ => by
    rcases Nat.eq_zero_or_pos a with q | q
    · omega
    · have := h 0 q; omega
  | b + 1, a, f, h, hi => by
    by_cases c : ∃ i0, i0 < a ∧ f i0 = b
    · obtain ⟨i0, h0, h1⟩ := c
      have := inj_le b (a - 1) (fun i => if i = i0 then f (a - 1) else f i) (fun i hlt => by
        show (if i = i0 then f (a - 1) else f i) < b
        split
        · rename_i e
          have h2 := h (a - 1) (by omega)
          have : f (a - 1) ≠ b := fun q => by have := hi (a - 1) i0 (by omega) h0 (q.trans h1.symm); omega
          omega
        · rename_i e
          have h2 := h i (by omega)
          have : f i ≠ b := fun q => e (hi i i0 (by omega) h0 (q.trans h1.symm))
          omega) (fun i j h2 h3 => by
        show (if i = i0 then f (a - 1) else f i) = (if j = i0 then f (a - 1) else f j) → i = j
        split <;> split
        · intros; omega
        · intro q; have := hi (a - 1) j (by omega) (by omega) q; omega
        · intro q; have := hi i (a - 1) (by omega) (by omega) q; omega
        · intro q; exact hi i j (by omega) (by omega) q)
      omega
    · have := inj_le b a f (fun i hlt => by
        have h2 := h i hlt
        have : f i ≠ b := fun q => c ⟨i, hlt, q⟩
        omega) hi
      omega
theorem inj_onto {a : Nat} {f : Nat → Nat} (h : ∀ i, i < a → f i < a) (hi : ∀ i j, i < a → j < a → f i = f j → i = j) : ∀ j, j < a → ∃ i, i < a ∧ f i = j := by
  intro j hj
  refine Classical.byContradiction fun hn => ?_
  have hne : ∀ i, i < a → f i ≠ j := fun i hlt q => hn ⟨i, hlt, q⟩
  have := inj_le (a - 1) a (fun i => if j < f i then f i - 1 else f i) (fun i hlt => by
    have h1 := h i hlt
    have h2 := hne i hlt
    show (if j < f i then f i - 1 else f i) < a - 1
    split <;> omega) (fun i k h1 h2 => by
    have q1 := hne i h1
    have q2 := hne k h2
    show (if j < f i then f i - 1 else f i) = (if j < f k then f k - 1 else f k) → i = k
    intro q
    refine hi i k h1 h2 ?_
    split at q <;> split at q <;> omega)
  omega

/-- a finer numbering has as many numbers at least; with as many, it is the same -/
theorem finer {k0 k1 : Nat → List Nat} {n : Nat} {r0 r1 : List Nat × List (List Nat)} (h0 : NumOk k0 n r0) (h1 : NumOk k1 n r1) (hf : ∀ s t, s < n → t < n → k1 s = k1 t → r0.1.getD s 0 = r0.1.getD t 0) :
    r0.2.length ≤ r1.2.length ∧ (r0.2.length = r1.2.length → ∀ s t, s < n → t < n → r0.1.getD s 0 = r0.1.getD t 0 → r1.1.getD s 0 = r1.1.getD t 0) := by
  have hc : ∀ j, ∃ s, j < r0.2.length → s < n ∧ r0.1.getD s 0 = j := fun j => by
    by_cases q : j < r0.2.length
    · obtain ⟨s, s1, s2⟩ := h0.hit j q
      exact ⟨s, fun _ => ⟨s1, s2⟩⟩
    · exact ⟨0, fun h => absurd h q⟩
  obtain ⟨w, hw⟩ := Classical.axiomOfChoice hc
  have f1 : ∀ i, i < r0.2.length → r1.1.getD (w i) 0 < r1.2.length := fun i hi => h1.lt (hw i hi).1
  have f2 : ∀ i j, i < r0.2.length → j < r0.2.length → r1.1.getD (w i) 0 = r1.1.getD (w j) 0 → i = j := fun i j hi hj q => by
    obtain ⟨a1, a2⟩ := hw i hi
    obtain ⟨b1, b2⟩ := hw j hj
    rw [← a2, ← b2]
    exact hf _ _ a1 b1 ((h1.same a1 b1).1 q)
  refine ⟨inj_le _ _ _ f1 f2, fun heq s t hs ht hst => ?_⟩
  have onto := inj_onto (a := r0.2.length) (f := fun i => r1.1.getD (w i) 0) (fun i hi => by have := f1 i hi; omega) f2
  have rep : ∀ s, s < n → r1.1.getD s 0 = r1.1.getD (w (r0.1.getD s 0)) 0 := fun s hs => by
    obtain ⟨j, j1, j2⟩ := onto (r1.1.getD s 0) (by have := h1.lt hs; omega)
    obtain ⟨w1, w2⟩ := hw j j1
    have := hf _ _ w1 hs ((h1.same w1 hs).1 j2)
    rw [w2] at this
    rw [← this]; exact j2.symm
  rw [rep s hs, rep t ht, hst]
end Go.Abs.Det
