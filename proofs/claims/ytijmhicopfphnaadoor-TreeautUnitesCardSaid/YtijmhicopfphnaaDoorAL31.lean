/- The united automaton: the plain law. -/
import Derived.Test.YtijmhicopfphnaaDoorAL30
import Derived.Test.YtijmhicopfphnaaDoorAL15
namespace Go.Abs.Tree
open Go Go.Abs
set_option linter.unusedSimpArgs false
set_option linter.unusedVariables false

theorem ascB_low {s : Int} : ∀ {l : List Int} {a b : Int}, ascB s a l = true → (∀ q ∈ l, b < q) → ascB s b l = true
  | [], _, _, _, _ => rfl
  | q :: l, a, b, h, hb => by
    unfold ascB at h ⊢
    split at h
    · cases h
    · have := hb q (by simp)
      rw [if_neg (by omega)]
      exact h
theorem ascB_shift {s k : Int} : ∀ {l : List Int} {a : Int}, ascB s a l = true → ascB (k + s) (k + a) (l.map fun q => k + q) = true
  | [], _, _ => rfl
  | q :: l, a, h => by
    unfold ascB at h
    split at h
    · cases h
    · rw [List.map_cons]
      unfold ascB
      rw [if_neg (by omega)]
      exact ascB_shift h
theorem ascB_app {s s' : Int} (h0 : 0 ≤ s) (h0' : 0 ≤ s') {l' : List Int} (h' : ascB s' (-1) l' = true) : ∀ {l : List Int} {a : Int}, a < s → ascB s a l = true → ascB (s + s') a (l ++ l'.map fun q => s + q) = true
  | [], a, ha, _ => by
    rw [List.nil_append]
    refine ascB_low (ascB_shift (k := s) h') (fun q hq => ?_)
    obtain ⟨q', hq', rfl⟩ := List.mem_map.1 hq
    have := ascB_mem h' q' hq'
    omega
  | q :: l, a, ha, h => by
    unfold ascB at h
    split at h
    · cases h
    · rw [List.cons_append]
      unfold ascB
      rw [if_neg (by omega)]
      exact ascB_app h0 h0' h' (by omega) h

theorem rlsErr_zero {s : Int} {v : Nat} : ∀ {l : List Rl}, (∀ e ∈ l, rlErr s v e = 0) → rlsErr s v l = 0
  | [], _ => rfl
  | e :: l, h => by
    rw [rlsErr_eq (h e (by simp))]
    exact rlsErr_zero (fun e he => h e (by simp [he]))

theorem rlErr_of {s : Int} {v : Nat} {e : Rl} : rlErr s v e = 0 ↔ ((0 ≤ e.l ∧ e.l < s) ∧ (0 ≤ e.r ∧ e.r < s) ∧ (0 ≤ e.t ∧ e.t < s)) ∧ cubeErr v e.p e.n = 0 := by
  unfold rlErr
  split
  · exact ⟨fun h => by omega, fun h => by omega⟩
  · exact ⟨fun h => ⟨by omega, h⟩, fun h => h.2⟩

theorem uni_valid {x y : Aut} {z1 z2 z3 : Bool} (h : uniE x y = 0) : Valid x ∧ Valid y ∧ x.vars = y.vars ∧ Valid (uniA x y z1 z2 z3) := by
  unfold uniE at h
  split at h
  case isFalse => contradiction
  rename_i k1
  split at h
  case isFalse => contradiction
  rename_i k2
  split at h
  case isFalse => omega
  rename_i k3
  split at h
  case isTrue => omega
  rename_i k45
  have hx := chkE_zero.1 k1
  have hy := chkE_zero.1 k2
  have := hx.s0
  have := hy.s0
  refine ⟨hx, hy, k3, hx.v0, hx.v3, by show 0 ≤ x.states + y.states; omega, by show x.states + y.states ≤ 64; omega, by show (x.rl ++ y.rl.map (shR x.states)).length ≤ 512; simp; omega,
    ascB_app hx.s0 hy.s0 hy.st (by omega) hx.st, ascB_app hx.s0 hy.s0 hy.fi (by omega) hx.fi, rlsErr_zero fun e he => ?_⟩
  rcases List.mem_append.1 he with he | he
  · have := rlErr_of.1 (rlsErr_mem hx.ru e he)
    refine rlErr_of.2 ⟨?_, this.2⟩
    show (0 ≤ e.l ∧ e.l < x.states + y.states) ∧ _
    show _ ∧ (0 ≤ e.r ∧ e.r < x.states + y.states) ∧ (0 ≤ e.t ∧ e.t < x.states + y.states)
    omega
  · obtain ⟨u, hu, rfl⟩ := List.mem_map.1 he
    have := rlErr_of.1 (rlsErr_mem hy.ru u hu)
    rw [← k3] at this
    refine rlErr_of.2 ⟨?_, this.2⟩
    show (0 ≤ x.states + u.l ∧ x.states + u.l < x.states + y.states) ∧ (0 ≤ x.states + u.r ∧ x.states + u.r < x.states + y.states) ∧ (0 ≤ x.states + u.t ∧ x.states + u.t < x.states + y.states)
    omega

theorem cont_app {l l' : List Int} {sa : Nat} (h : ∀ q ∈ l, 0 ≤ q ∧ q < (sa : Nat)) (h' : ∀ q ∈ l', 0 ≤ q) (j : Nat) :
    (l ++ l'.map fun q => (sa : Int) + q).contains (j : Int) = if j < sa then l.contains (j : Int) else l'.contains ((j - sa : Nat) : Int) := by
  rw [Bool.eq_iff_iff, List.contains_iff_mem, List.mem_append, List.mem_map]
  split
  · rw [List.contains_iff_mem]
    constructor
    · rintro (h1 | ⟨q, h1, h2⟩)
      · exact h1
      · have := h' q h1; omega
    · exact .inl
  · rw [List.contains_iff_mem]
    constructor
    · rintro (h1 | ⟨q, h1, h2⟩)
      · have := h _ h1; omega
      · have e : q = ((j - sa : Nat) : Int) := by omega
        rw [← e]; exact h1
    · intro h1
      exact .inr ⟨_, h1, by omega⟩

theorem uni_ev {x y : Aut} {z1 z2 z3 : Bool} {sa : Nat} (hx : Valid x) (hy : Valid y) (hsa : x.states = (sa : Nat)) : ∀ (T : BT) (j : Nat),
    (evA (uniA x y z1 z2 z3) T).testBit j = if j < sa then (evA x T).testBit j else (evA y T).testBit (j - sa)
  | .nil, j => by
    have hs1 : ∀ q ∈ x.st, 0 ≤ q ∧ q < (sa : Nat) := fun q hq => by have := ascB_mem hx.st q hq; omega
    have hs2 : ∀ q ∈ y.st, 0 ≤ q := fun q hq => by have := ascB_mem hy.st q hq; omega
    show (wordM 0 (x.st ++ y.st.map fun q => x.states + q)).testBit j = if j < sa then (wordM 0 x.st).testBit j else (wordM 0 y.st).testBit (j - sa)
    rw [wordM_bit _ _ _ (fun q hq => by
      rcases List.mem_append.1 hq with hq | hq
      · exact (hs1 q hq).1
      · obtain ⟨q', hq', rfl⟩ := List.mem_map.1 hq
        have := hs2 q' hq'
        omega), wordM_bit _ _ _ (fun q hq => (hs1 q hq).1), wordM_bit _ _ _ hs2]
    simp only [Nat.zero_testBit, Bool.false_or]
    rw [hsa]
    exact cont_app hs1 hs2 j
  | .node v l r, j => by
    have il := uni_ev (z1 := z1) (z2 := z2) (z3 := z3) hx hy hsa l
    have ir := uni_ev (z1 := z1) (z2 := z2) (z3 := z3) hx hy hsa r
    show (toM (evA (uniA x y z1 z2 z3) l) (evA (uniA x y z1 z2 z3) r) v 0 (x.rl ++ y.rl.map (shR x.states))).testBit j = if j < sa then (toM (evA x l) (evA x r) v 0 x.rl).testBit j else (toM (evA y l) (evA y r) v 0 y.rl).testBit (j - sa)
    have b1 : ∀ u ∈ x.rl, (0 ≤ u.l ∧ u.l < (sa : Nat)) ∧ (0 ≤ u.r ∧ u.r < (sa : Nat)) ∧ (0 ≤ u.t ∧ u.t < (sa : Nat)) := fun u hu => by have := hx.rule u hu; omega
    have b2 : ∀ u ∈ y.rl, 0 ≤ u.l ∧ 0 ≤ u.r ∧ 0 ≤ u.t := fun u hu => by have := hy.rule u hu; omega
    rw [toM_bit _ _ _ _ _ _ (fun u hu => by
      rcases List.mem_append.1 hu with hu | hu
      · exact (b1 u hu).2.2.1
      · obtain ⟨u', hu', rfl⟩ := List.mem_map.1 hu
        have := b2 u' hu'
        show 0 ≤ x.states + u'.t
        omega), toM_bit _ _ _ _ _ _ (fun u hu => (b1 u hu).2.2.1), toM_bit _ _ _ _ _ _ (fun u hu => (b2 u hu).2.2)]
    simp only [Nat.zero_testBit, Bool.false_or]
    have h1 : ∀ u ∈ x.rl, hit (evA (uniA x y z1 z2 z3) l) (evA (uniA x y z1 z2 z3) r) v u = hit (evA x l) (evA x r) v u := fun u hu => by
      have := b1 u hu
      unfold hit
      rw [il, ir, if_pos (by omega), if_pos (by omega)]
    have h2 : ∀ u ∈ y.rl, hit (evA (uniA x y z1 z2 z3) l) (evA (uniA x y z1 z2 z3) r) v (shR x.states u) = hit (evA y l) (evA y r) v u := fun u hu => by
      have := b2 u hu
      unfold hit shR
      simp only
      rw [il, ir, if_neg (by omega), if_neg (by omega), show (x.states + u.l).toNat - sa = u.l.toNat by omega, show (x.states + u.r).toNat - sa = u.r.toNat by omega]
    rw [Bool.eq_iff_iff, List.any_eq_true]
    split
    · rw [List.any_eq_true]
      constructor
      · rintro ⟨u, hu, h⟩
        simp only [Bool.and_eq_true, decide_eq_true_eq] at h
        rcases List.mem_append.1 hu with hu | hu
        · rw [h1 u hu] at h
          exact ⟨u, hu, by simp only [Bool.and_eq_true, decide_eq_true_eq]; exact h⟩
        · obtain ⟨u', hu', rfl⟩ := List.mem_map.1 hu
          have := b2 u' hu'
          have h3 : x.states + u'.t = (j : Int) := h.2
          omega
      · rintro ⟨u, hu, h⟩
        rw [← h1 u hu] at h
        exact ⟨u, List.mem_append.2 (.inl hu), h⟩
    · rw [List.any_eq_true]
      constructor
      · rintro ⟨u, hu, h⟩
        simp only [Bool.and_eq_true, decide_eq_true_eq] at h
        rcases List.mem_append.1 hu with hu | hu
        · have := b1 u hu
          omega
        · obtain ⟨u', hu', rfl⟩ := List.mem_map.1 hu
          rw [h2 u' hu'] at h
          have h3 : x.states + u'.t = (j : Int) := h.2
          exact ⟨u', hu', by simp only [Bool.and_eq_true, decide_eq_true_eq]; exact ⟨h.1, by omega⟩⟩
      · rintro ⟨u, hu, h⟩
        rw [← h2 u hu] at h
        simp only [Bool.and_eq_true, decide_eq_true_eq] at h
        refine ⟨shR x.states u, List.mem_append.2 (.inr (List.mem_map.2 ⟨u, hu, rfl⟩)), ?_⟩
        simp only [Bool.and_eq_true, decide_eq_true_eq]
        refine ⟨h.1, ?_⟩
        show x.states + u.t = (j : Int)
        omega

/-- what the united automaton accepts -/
theorem uni_acc {x y : Aut} {z1 z2 z3 : Bool} (hx : Valid x) (hy : Valid y) (T : BT) :
    (∃ j : Nat, (evA (uniA x y z1 z2 z3) T).testBit j = true ∧ (uniA x y z1 z2 z3).fi.contains (j : Int) = true) ↔ (∃ j : Nat, (evA x T).testBit j = true ∧ x.fi.contains (j : Int) = true) ∨ ∃ j : Nat, (evA y T).testBit j = true ∧ y.fi.contains (j : Int) = true := by
  obtain ⟨sa, hsa⟩ : ∃ sa : Nat, x.states = (sa : Nat) := ⟨x.states.toNat, by have := hx.s0; omega⟩
  have hs1 : ∀ q ∈ x.fi, 0 ≤ q ∧ q < (sa : Nat) := fun q hq => by have := ascB_mem hx.fi q hq; omega
  have hs2 : ∀ q ∈ y.fi, 0 ≤ q := fun q hq => by have := ascB_mem hy.fi q hq; omega
  have hc : ∀ j : Nat, (uniA x y z1 z2 z3).fi.contains (j : Int) = if j < sa then x.fi.contains (j : Int) else y.fi.contains ((j - sa : Nat) : Int) := fun j => by
    show (x.fi ++ y.fi.map fun q => x.states + q).contains (j : Int) = _
    rw [hsa]
    exact cont_app hs1 hs2 j
  constructor
  · rintro ⟨j, h1, h2⟩
    rw [uni_ev hx hy hsa] at h1
    rw [hc] at h2
    split at h1
    · rename_i c
      rw [if_pos c] at h2
      exact .inl ⟨j, h1, h2⟩
    · rename_i c
      rw [if_neg c] at h2
      exact .inr ⟨_, h1, h2⟩
  · rintro (⟨j, h1, h2⟩ | ⟨j, h1, h2⟩)
    · have := hs1 _ (List.contains_iff_mem.1 h2)
      exact ⟨j, by rw [uni_ev hx hy hsa, if_pos (by omega)]; exact h1, by rw [hc, if_pos (by omega)]; exact h2⟩
    · exact ⟨j + sa, by rw [uni_ev hx hy hsa, if_neg (by omega), Nat.add_sub_cancel]; exact h1, by rw [hc, if_neg (by omega), Nat.add_sub_cancel]; exact h2⟩
end Go.Abs.Tree
