/- The trimmed automaton accepts the same words; it is valid; trimming again changes nothing. -/
import Derived.Test.YtbfnjdhafgnlnaaDoorAT10
namespace Go.Abs.NfaD
open Go Go.Abs
set_option linter.unusedSimpArgs false
set_option linter.unusedVariables false

section
variable {n : Aut} {C D : Nat → Bool} {zz : Bool} {z1 z2 z3 : Bool}

/-- the states of a run, and those of the trimmed automaton's -/
def Like (C D S S' : Nat → Bool) : Prop := (∀ j, S j = true → C j = true) ∧ (∀ j, (C j && D j) = true → S' (rank (fun j => C j && D j) j) = S j) ∧ ∀ j', S' j' = true → ∃ j, (C j && D j) = true ∧ rank (fun j => C j && D j) j = j'

theorem like_start (hu : Use n C D) : Like C D (inS n.st) (inS (trimA n (fun j => C j && D j) z1 z2 z3).st) := by
  refine ⟨hu.rea.1, fun j hj => ?_, fun j' hj' => ?_⟩
  · rw [Bool.eq_iff_iff, inS_iff, inS_iff]
    simp only [trimA, List.mem_filterMap]
    constructor
    · rintro ⟨q, hq, h⟩
      obtain ⟨h1, h2⟩ := num_some.1 h
      have := rank_inj (U := fun j => C j && D j) hj h1 (by omega)
      rw [this, show ((q.toNat : Nat) : Int) = q by have := hu.inn.1 q hq; omega]
      exact hq
    · intro hq
      exact ⟨j, hq, num_some.2 ⟨hj, rfl⟩⟩
  · rw [inS_iff] at hj'
    simp only [trimA, List.mem_filterMap] at hj'
    obtain ⟨q, _, h⟩ := hj'
    obtain ⟨h1, h2⟩ := num_some.1 h
    exact ⟨q.toNat, h1, by omega⟩

theorem like_step (hu : Use n C D) {S S' : Nat → Bool} (h : Like C D S S') (x : Nat) : Like C D (stepS n.ed S x) (stepS (trimA n (fun j => C j && D j) z1 z2 z3).ed S' x) := by
  obtain ⟨h1, h2, h3⟩ := h
  refine ⟨fun j hj => ?_, fun j hj => ?_, fun j' hj' => ?_⟩
  · obtain ⟨e, he, hs⟩ := List.any_eq_true.1 hj
    simp only [stepE, Bool.and_eq_true, decide_eq_true_eq] at hs
    rw [hs.2]
    exact hu.rea.2.1 e he (h1 _ hs.1.2)
  · rw [Bool.eq_iff_iff]
    unfold stepS
    rw [List.any_eq_true, List.any_eq_true]
    simp only [trimA, List.mem_filterMap]
    constructor
    · rintro ⟨f, ⟨e, he, hf⟩, hs⟩
      obtain ⟨⟨ha, hb⟩, rfl⟩ := numE_some.1 hf
      simp only [stepE, Bool.and_eq_true, decide_eq_true_eq, Int.toNat_natCast] at hs
      refine ⟨e, he, ?_⟩
      simp only [stepE, Bool.and_eq_true, decide_eq_true_eq]
      rw [h2 _ ha] at hs
      exact ⟨hs.1, rank_inj (U := fun j => C j && D j) hj hb hs.2⟩
    · rintro ⟨e, he, hs⟩
      simp only [stepE, Bool.and_eq_true, decide_eq_true_eq] at hs
      obtain ⟨⟨hx, hS⟩, rfl⟩ := hs
      have hDb : D e.b.toNat = true := by rw [Bool.and_eq_true] at hj; exact hj.2
      have hUa : (C e.a.toNat && D e.a.toNat) = true := by rw [h1 _ hS, hu.back e he hDb]; rfl
      refine ⟨_, ⟨e, he, numE_some.2 ⟨⟨hUa, hj⟩, rfl⟩⟩, ?_⟩
      simp only [stepE, Bool.and_eq_true, decide_eq_true_eq, Int.toNat_natCast]
      exact ⟨⟨hx, by rw [h2 _ hUa]; exact hS⟩, (by first | exact rfl | trivial)⟩
  · obtain ⟨f, hf, hs⟩ := List.any_eq_true.1 hj'
    simp only [trimA, List.mem_filterMap] at hf
    obtain ⟨e, he, hf⟩ := hf
    obtain ⟨⟨ha, hb⟩, rfl⟩ := numE_some.1 hf
    simp only [stepE, Bool.and_eq_true, decide_eq_true_eq, Int.toNat_natCast] at hs
    exact ⟨_, hb, hs.2.symm⟩

theorem like_run (hu : Use n C D) : ∀ (w : List Nat) {S S' : Nat → Bool}, Like C D S S' → Like C D (runS n.ed S w) (runS (trimA n (fun j => C j && D j) z1 z2 z3).ed S' w)
  | [], _, _, h => h
  | x :: w, _, _, h => like_run hu w (like_step hu h x)

theorem acc_trim (hu : Use n C D) (w : List Nat) : AccB (trimA n (fun j => C j && D j) z1 z2 z3) w ↔ AccB n w := by
  obtain ⟨h1, h2, h3⟩ := like_run hu w (like_start (z1 := z1) (z2 := z2) (z3 := z3) hu)
  unfold AccB
  constructor
  · rintro ⟨j', hj', hf⟩
    obtain ⟨j, hj, rfl⟩ := h3 j' hj'
    refine ⟨j, by rw [← h2 j hj]; exact hj', ?_⟩
    rw [inS_iff] at hf ⊢
    simp only [trimA, List.mem_filterMap] at hf
    obtain ⟨q, hq, h⟩ := hf
    obtain ⟨g1, g2⟩ := num_some.1 h
    have := rank_inj (U := fun j => C j && D j) hj g1 (by omega)
    rw [this, show ((q.toNat : Nat) : Int) = q by have := hu.inn.2.1 q hq; omega]
    exact hq
  · rintro ⟨j, hj, hf⟩
    have hU : (C j && D j) = true := by rw [h1 j hj, hu.fin j hf]; rfl
    refine ⟨rank (fun j => C j && D j) j, by rw [h2 j hU]; exact hj, ?_⟩
    rw [inS_iff] at hf ⊢
    simp only [trimA, List.mem_filterMap]
    exact ⟨j, hf, num_some.2 ⟨hU, rfl⟩⟩

/-! validity -/
theorem asc_trim {U : Nat → Bool} {s : Int} (hs : s ≤ 4096) : ∀ (l : List Int) (last : Int), 0 ≤ last + 1 → ascB s last l = true → ∀ last' : Int, (∀ q : Nat, last < q → U q = true → last' < (rank U q : Nat)) → ascB ((setL U).length : Nat) last' (l.filterMap (num U)) = true
  | [], _, _, _, _, _ => rfl
  | q :: l, last, h0, h, last', hl => by
    unfold ascB at h
    split at h
    · cases h
    rename_i hn
    have hq0 : 0 ≤ q := by omega
    have ih := asc_trim (U := U) hs l q (by omega) h
    cases hU : U q.toNat with
    | false =>
      have e : (q :: l).filterMap (num U) = l.filterMap (num U) := by rw [List.filterMap_cons]; simp only [num, hU, Bool.false_eq_true, if_false]
      rw [e]
      exact ih last' (fun q' h1 h2 => hl q' (by omega) h2)
    | true =>
      have e : (q :: l).filterMap (num U) = ((rank U q.toNat : Nat) : Int) :: l.filterMap (num U) := by rw [List.filterMap_cons]; simp only [num, hU, if_true]
      rw [e]
      have h1 := hl q.toNat (by omega) hU
      have h2 := rank_lt (by omega : q.toNat < 4096) hU
      unfold ascB
      rw [if_neg (by omega)]
      refine ih _ (fun q' h3 h4 => ?_)
      have := rank_mono (q := q.toNat) (q' := q') hU (by omega)
      omega

theorem eds_trim {U : Nat → Bool} {s : Int} {v : Nat} (hs : s ≤ 4096) : ∀ (l : List Ed), edsErr s v l = 0 → edsErr ((setL U).length : Nat) v (l.filterMap (numE U)) = 0
  | [], _ => rfl
  | e :: l, h => by
    have h1 : edErr s v e = 0 := eds_ok h e (by simp)
    rw [edsErr_eq h1] at h
    have ih := eds_trim (U := U) hs l h
    have ho := ed_ok h1
    by_cases hU : U e.a.toNat = true ∧ U e.b.toNat = true
    · have e1 : (e :: l).filterMap (numE U) = ⟨(rank U e.a.toNat : Nat), (rank U e.b.toNat : Nat), e.p, e.n⟩ :: l.filterMap (numE U) := by rw [List.filterMap_cons]; simp only [numE, if_pos hU]
      have r1 := rank_lt (by omega : e.a.toNat < 4096) hU.1
      have r2 := rank_lt (by omega : e.b.toNat < 4096) hU.2
      rw [e1, edsErr_eq]
      · exact ih
      · unfold edErr
        rw [if_neg (by simp only; omega)]
        exact ho.2.2.2.2
    · have e1 : (e :: l).filterMap (numE U) = l.filterMap (numE U) := by rw [List.filterMap_cons]; simp only [numE, if_neg hU]
      rw [e1]; exact ih

theorem trim_valid (hv : Valid n) (hu : Use n C D) : Valid (trimA n (fun j => C j && D j) z1 z2 z3) where
  v0 := hv.v0
  v6 := hv.v6
  s0 := by simp only [trimA]; omega
  s64 := by have := trim_states hu; simp only [trimA]; omega
  el := Nat.le_trans (List.length_filterMap_le _ _) hv.el
  st := asc_trim (by have := hv.s64; omega) n.st (-1) (by omega) hv.st (-1) (fun q _ _ => by omega)
  fi := asc_trim (by have := hv.s64; omega) n.fi (-1) (by omega) hv.fi (-1) (fun q _ _ => by omega)
  ed := eds_trim (by have := hv.s64; omega) n.ed hv.ed

theorem trim_fits (hf : Fits n) (U : Nat → Bool) : Fits (trimA n U z1 z2 z3) where
  l1 := Nat.lt_of_le_of_lt (List.length_filterMap_le _ _) hf.l1
  l2 := Nat.lt_of_le_of_lt (List.length_filterMap_le _ _) hf.l2
  l3 := Nat.lt_of_le_of_lt (List.length_filterMap_le _ _) hf.l3
  by_ := fun e he => by
    simp only [trimA, List.mem_filterMap] at he
    obtain ⟨e', he', h⟩ := he
    obtain ⟨_, rfl⟩ := numE_some.1 h
    exact hf.by_ e' he'

/-! trimming what is trimmed -/
theorem filterMap_id {α : Type} {f : α → Option α} : ∀ {l : List α}, (∀ x ∈ l, f x = some x) → l.filterMap f = l
  | [], _ => rfl
  | a :: l, h => by rw [List.filterMap_cons, h a (by simp)]; simp only; rw [filterMap_id fun x hx => h x (by simp [hx])]

theorem trim_full {m : Aut} {k : Nat} (hm : In m) (hk : m.states = (k : Nat)) (h64 : k ≤ 4096) {U : Nat → Bool} (hU : ∀ j, U j = decide (j < k)) : trimA m U z1 z2 z3 = ⟨m.vars, m.states, z1, m.st, z2, m.fi, z3, m.ed⟩ := by
  obtain rfl : U = fun j => decide (j < k) := funext hU
  have hnum : ∀ q : Int, 0 ≤ q → q < k → num (fun j => decide (j < k)) q = some q := fun q h1 h2 => by
    unfold num
    rw [if_pos (by simp; omega), rank_full h64 (by omega)]
    congr 1; omega
  unfold trimA
  rw [setL_full h64, hk, filterMap_id fun q hq => hnum q (by have := hm.1 q hq; omega) (by have := hm.1 q hq; omega), filterMap_id fun q hq => hnum q (by have := hm.2.1 q hq; omega) (by have := hm.2.1 q hq; omega)]
  rw [filterMap_id fun e he => ?_]
  have hi := hm.2.2 e he
  unfold numE
  rw [if_pos (by simp; omega), rank_full h64 (by omega), rank_full h64 (by omega)]
  congr 1
  cases e
  simp only at hi ⊢
  congr 1 <;> omega

theorem trim_rev (U : Nat → Bool) (z' : Bool) : ∃ y3, revA (trimA n U z1 z2 z3) z' = trimA (revA n zz) U z2 z1 y3 := by
  refine ⟨z', ?_⟩
  unfold revA trimA
  simp only [Aut.mk.injEq, true_and]
  have : ∀ l : List Ed, (l.filterMap (numE U)).map swapE = (l.map swapE).filterMap (numE U) := by
    intro l
    induction l with
    | nil => rfl
    | cons e l ih =>
      rw [List.map_cons, List.filterMap_cons, List.filterMap_cons]
      by_cases hU : U e.a.toNat = true ∧ U e.b.toNat = true
      · have h1 : numE U e = some ⟨(rank U e.a.toNat : Nat), (rank U e.b.toNat : Nat), e.p, e.n⟩ := by simp only [numE, if_pos hU]
        have h2 : numE U (swapE e) = some ⟨(rank U e.b.toNat : Nat), (rank U e.a.toNat : Nat), e.p, e.n⟩ := by unfold numE; exact if_pos ⟨hU.2, hU.1⟩
        rw [h1, h2]
        simp only [List.map_cons, ih]
        rfl
      · have h1 : numE U e = none := by simp only [numE, if_neg hU]
        have h2 : numE U (swapE e) = none := by unfold numE; exact if_neg (fun h => hU ⟨h.2, h.1⟩)
        rw [h1, h2]
        simpa using ih
  exact this n.ed
end
end Go.Abs.NfaD
