/- The trimmed automaton: plain law. -/
import Derived.Test.YtbfnjdhafgnlnaaDoorAT9
namespace Go.Abs.NfaD
open Go Go.Abs
set_option linter.unusedSimpArgs false
set_option linter.unusedVariables false

/-! numbers of states -/
theorem rank_lt {U : Nat → Bool} {q : Nat} (hq : q < 4096) (h : U q = true) : rank U q < (setL U).length := ((setL_rank U hq).2 h).1

theorem rank_mono {U : Nat → Bool} {q q' : Nat} (h : U q = true) (hlt : q < q') : rank U q < rank U q' := by
  unfold rank
  have e : List.range q' = List.range q ++ List.range' q (q' - q) := by
    have e0 := List.range'_append_1 (s := 0) (m := q) (n := q' - q)
    rw [Nat.zero_add, show q + (q' - q) = q' by omega] at e0
    rw [List.range_eq_range', List.range_eq_range', ← e0]
  rw [e, List.filter_append, List.length_append, show q' - q = (q' - q - 1) + 1 by omega, List.range'_succ, List.filter_cons, if_pos h, List.length_cons]
  omega

theorem rank_inj {U : Nat → Bool} {q q' : Nat} (h : U q = true) (h' : U q' = true) (e : rank U q = rank U q') : q = q' := by
  rcases Nat.lt_trichotomy q q' with c | c | c
  · have := rank_mono h c; omega
  · exact c
  · have := rank_mono h' c; omega

theorem mem_setL {U : Nat → Bool} {x : Nat} (h : x ∈ setL U) : x < 4096 ∧ U x = true := by
  unfold setL at h
  rwa [List.mem_filter, List.mem_range] at h

theorem rank_sel {U : Nat → Bool} {j : Nat} (hj : j < (setL U).length) : ∃ q, q < 4096 ∧ U q = true ∧ rank U q = j := by
  have hm2 := mem_setL (List.getElem_mem hj)
  refine ⟨(setL U)[j], hm2.1, hm2.2, ?_⟩
  have h1 := (setL_rank U hm2.1).2 hm2.2
  have hq : (setL U).getD j 0 = (setL U)[j] := by rw [List.getD_eq_getElem?_getD, List.getElem?_eq_getElem hj, Option.getD_some]
  -- the list ascends: no two places hold the same
  have a1 := setL_lt U (q := (setL U)[j]) (by omega) hj
  have a2 := setL_lt U (q := (setL U)[j]) (by omega) h1.1
  have a3 := setL_lt U (q := (setL U)[j] + 1) (by omega) hj
  rw [hq] at a1 a3
  have hr : rank U ((setL U)[j] + 1) = rank U (setL U)[j] + 1 := by
    unfold rank
    rw [List.range_succ, List.filter_append, List.length_append, List.filter_cons, if_pos hm2.2]
    simp
  rw [hr] at a3
  have b1 : ¬ j < rank U (setL U)[j] := by rw [← a1]; omega
  have b3 : j < rank U (setL U)[j] + 1 := by rw [← a3]; omega
  omega

theorem rank_full {k : Nat} (hk : k ≤ 4096) {q : Nat} (hq : q ≤ k) : rank (fun j => decide (j < k)) q = q := by
  unfold rank
  rw [List.filter_eq_self.2 (fun j hj => by have := List.mem_range.1 hj; simp; omega), List.length_range]

theorem setL_full {k : Nat} (hk : k ≤ 4096) : (setL fun j => decide (j < k)).length = k := by
  rw [setL_split (fun j => decide (j < k)) hk, List.length_append]
  have h1 : ((List.range k).filter fun j => decide (j < k)).length = k := by
    rw [List.filter_eq_self.2 (fun j hj => by have := List.mem_range.1 hj; simp; omega), List.length_range]
  have h2 : (List.range' k (4096 - k)).filter (fun j => decide (j < k)) = [] := by
    rw [List.filter_eq_nil_iff]
    intro j hj
    rw [List.mem_range'_1] at hj
    simp; omega
  rw [h1, h2]; rfl

theorem setL_congr {S T : Nat → Bool} (h : ∀ j, j < 4096 → S j = T j) : setL S = setL T := by
  unfold setL
  exact List.filter_congr fun j hj => h j (List.mem_range.1 hj)
theorem rank_congr {S T : Nat → Bool} (h : ∀ j, S j = T j) (q : Nat) : rank S q = rank T q := by
  unfold rank
  rw [List.filter_congr fun j _ => h j]

/-! what is useful -/
theorem inS_iff {l : List Int} {j : Nat} : inS l j = true ↔ (j : Int) ∈ l := by unfold inS; rw [List.contains_iff_mem]

/-- states within the range -/
def In (n : Aut) : Prop := (∀ q ∈ n.st, 0 ≤ q ∧ q < n.states) ∧ (∀ q ∈ n.fi, 0 ≤ q ∧ q < n.states) ∧ ∀ e ∈ n.ed, (0 ≤ e.a ∧ e.a < n.states) ∧ 0 ≤ e.b ∧ e.b < n.states

theorem Valid.inn {n : Aut} (h : Valid n) : In n := ⟨fun q hq => by have := ascB_range h.st q hq; omega, fun q hq => by have := ascB_range h.fi q hq; omega, fun e he => by
  have := ed_ok (eds_ok h.ed e he); omega⟩

theorem rea_in {n : Aut} (hn : In n) {C : Nat → Bool} (h : Rea n C) : ∀ j, C j = true → (j : Int) < n.states := by
  intro j hj
  have := h.2.2 (fun j => decide ((j : Int) < n.states)) (fun e he _ => by have := (hn.2.2 e he).2; simp; omega) (fun j hj => by
    have := hn.1 _ (inS_iff.1 hj); simp; omega) j hj
  simpa using this

section
variable {n : Aut} {C D : Nat → Bool} {zz : Bool}

/-- the facts about the useful states that both directions share -/
structure Use (n : Aut) (C D : Nat → Bool) : Prop where
  inn : In n
  s64 : n.states ≤ 64
  rea : Rea n C
  fin : Sub (inS n.fi) D
  back : ∀ e ∈ n.ed, D e.b.toNat = true → D e.a.toNat = true

theorem use_of (hv : Valid n) (hC : Rea n C) (hD : Rea (revA n zz) D) : Use n C D where
  inn := hv.inn
  s64 := hv.s64
  rea := hC
  fin := hD.1
  back := fun e he h => hD.2.1 (swapE e) (by simp only [revA, List.mem_map]; exact ⟨e, he, rfl⟩) h

theorem use_rev (hv : Valid n) (hC : Rea n C) (hD : Rea (revA n zz) D) : Use (revA n zz) D C where
  inn := ⟨hv.inn.2.1, hv.inn.1, fun e he => by
    simp only [revA, List.mem_map] at he
    obtain ⟨e', he', rfl⟩ := he
    exact ⟨(hv.inn.2.2 e' he').2, (hv.inn.2.2 e' he').1⟩⟩
  s64 := hv.s64
  rea := hD
  fin := hC.1
  back := fun e he h => by
    simp only [revA, List.mem_map] at he
    obtain ⟨e', he', rfl⟩ := he
    exact hC.2.1 e' he' h

theorem num_some {U : Nat → Bool} {q r : Int} : num U q = some r ↔ U q.toNat = true ∧ r = (rank U q.toNat : Nat) := by
  unfold num
  split
  · rename_i h; simp [h, eq_comm]
  · rename_i h; simp [h]
theorem numE_some {U : Nat → Bool} {e f : Ed} : numE U e = some f ↔ (U e.a.toNat = true ∧ U e.b.toNat = true) ∧ f = ⟨(rank U e.a.toNat : Nat), (rank U e.b.toNat : Nat), e.p, e.n⟩ := by
  unfold numE
  split
  · rename_i h; simp [h, eq_comm]
  · rename_i h; simp only [reduceCtorEq, false_iff, not_and]; exact fun h' => (h h').elim

variable {z1 z2 z3 : Bool}

theorem reached (hu : Use n C D) {C' : Nat → Bool} (h : Rea (trimA n (fun j => C j && D j) z1 z2 z3) C') : ∀ j, (C j && D j) = true → C' (rank (fun j => C j && D j) j) = true := by
  have hmin := hu.rea.2.2 (fun j => C j && (!(C j && D j) || C' (rank (fun j => C j && D j) j))) (fun e he hV => ?_) (fun j hj => ?_)
  · intro j hj
    have h1 : C j = true := by rw [Bool.and_eq_true] at hj; exact hj.1
    have := hmin j h1
    simp only [Bool.and_eq_true, Bool.or_eq_true, Bool.not_eq_true'] at this
    rcases this.2 with q | q
    · rw [hj] at q; cases q
    · exact q
  · simp only [Bool.and_eq_true, Bool.or_eq_true, Bool.not_eq_true'] at hV ⊢
    have hCb := hu.rea.2.1 e he hV.1
    refine ⟨hCb, ?_⟩
    cases hDb : D e.b.toNat with
    | false => left; simp [hDb]
    | true =>
      right
      have hDa := hu.back e he hDb
      have hC' : C' (rank (fun j => C j && D j) e.a.toNat) = true := by
        rcases hV.2 with q | q
        · rw [hV.1, hDa] at q; cases q
        · exact q
      have hmem : (⟨(rank (fun j => C j && D j) e.a.toNat : Nat), (rank (fun j => C j && D j) e.b.toNat : Nat), e.p, e.n⟩ : Ed) ∈ (trimA n (fun j => C j && D j) z1 z2 z3).ed := by
        simp only [trimA, List.mem_filterMap]
        exact ⟨e, he, numE_some.2 ⟨⟨by simp [hV.1, hDa], by simp [hCb, hDb]⟩, rfl⟩⟩
      exact h.2.1 _ hmem hC'
  · have hCj := hu.rea.1 j hj
    simp only [Bool.and_eq_true, Bool.or_eq_true, Bool.not_eq_true']
    refine ⟨hCj, ?_⟩
    cases hDj : D j with
    | false => left; simp [hDj]
    | true =>
      right
      refine h.1 _ (inS_iff.2 ?_)
      simp only [trimA, List.mem_filterMap]
      exact ⟨(j : Int), inS_iff.1 hj, num_some.2 ⟨by simp [hCj, hDj], rfl⟩⟩

theorem trim_in (hu : Use n C D) : In (trimA n (fun j => C j && D j) z1 z2 z3) := by
  have hb : ∀ j, (C j && D j) = true → j < 4096 := fun j hj => by
    rw [Bool.and_eq_true] at hj
    have := rea_in hu.inn hu.rea j hj.1
    have := hu.s64
    omega
  refine ⟨fun q hq => ?_, fun q hq => ?_, fun e he => ?_⟩
  · simp only [trimA, List.mem_filterMap] at hq
    obtain ⟨q', _, h⟩ := hq
    obtain ⟨h1, rfl⟩ := num_some.1 h
    have := rank_lt (U := fun j => C j && D j) (hb _ h1) h1
    simp only [trimA]; omega
  · simp only [trimA, List.mem_filterMap] at hq
    obtain ⟨q', _, h⟩ := hq
    obtain ⟨h1, rfl⟩ := num_some.1 h
    have := rank_lt (U := fun j => C j && D j) (hb _ h1) h1
    simp only [trimA]; omega
  · simp only [trimA, List.mem_filterMap] at he
    obtain ⟨e', _, h⟩ := he
    obtain ⟨⟨h1, h2⟩, rfl⟩ := numE_some.1 h
    have := rank_lt (U := fun j => C j && D j) (hb _ h1) h1
    have := rank_lt (U := fun j => C j && D j) (hb _ h2) h2
    simp only [trimA]; omega

/-- all states of the trimmed automaton are reached -/
theorem reach_all (hu : Use n C D) {C' : Nat → Bool} (h : Rea (trimA n (fun j => C j && D j) z1 z2 z3) C') : ∀ j, C' j = decide (j < (setL fun j => C j && D j).length) := by
  intro j
  rw [Bool.eq_iff_iff, decide_eq_true_iff]
  constructor
  · intro hj
    have := rea_in (trim_in hu) h j hj
    simp only [trimA] at this
    omega
  · intro hj
    obtain ⟨q, _, h2, h3⟩ := rank_sel hj
    rw [← h3]
    exact reached hu h q h2

theorem trim_states (hu : Use n C D) : (setL fun j => C j && D j).length ≤ 64 := by
  rw [setL_split (fun j => C j && D j) (q := 64) (by omega), List.length_append]
  have h1 : ((List.range 64).filter fun j => C j && D j).length ≤ 64 := Nat.le_trans (List.length_filter_le _ _) (by simp)
  have h2 : (List.range' 64 (4096 - 64)).filter (fun j => C j && D j) = [] := by
    rw [List.filter_eq_nil_iff]
    intro j hj hc
    rw [List.mem_range'_1] at hj
    rw [Bool.and_eq_true] at hc
    have := rea_in hu.inn hu.rea j hc.1
    have := hu.s64
    omega
  rw [h2]
  simpa using h1
end
end Go.Abs.NfaD
