/- The trimmed automaton: the plain law. -/
import Derived.Test.YtijmhicopfphnaaDoorAL34
import Derived.Test.YtijmhicopfphnaaDoorAMR
import Derived.Test.YtijmhicopfphnaaDoorAL15
namespace Go.Abs.Tree
open Go Go.Abs
set_option linter.unusedSimpArgs false
set_option linter.unusedVariables false

section
variable {K : Nat → Bool}
theorem rnk_mono : ∀ {a b : Nat}, a ≤ b → rnk K a ≤ rnk K b := by
  intro a b h
  induction h with
  | refl => exact Nat.le_refl _
  | step _ ih => rw [rnk]; omega
theorem rnk_lt {a b : Nat} (h : a < b) (hK : K a = true) : rnk K a < rnk K b := by
  have := rnk_mono (K := K) (show a + 1 ≤ b from h)
  rw [rnk, if_pos hK] at this
  omega
theorem rnk_inj {a b : Nat} (ha : K a = true) (hb : K b = true) (h : rnk K a = rnk K b) : a = b := by
  rcases Nat.lt_trichotomy a b with q | q | q
  · have := rnk_lt q ha; omega
  · exact q
  · have := rnk_lt q hb; omega
theorem rnk_sur : ∀ {n j : Nat}, j < rnk K n → ∃ a, a < n ∧ K a = true ∧ rnk K a = j
  | 0, j, h => by simp [rnk] at h
  | n + 1, j, h => by
    rw [rnk] at h
    by_cases c : j < rnk K n
    · obtain ⟨a, h1, h2⟩ := rnk_sur c
      exact ⟨a, by omega, h2⟩
    · by_cases k : K n = true
      · rw [if_pos k] at h
        exact ⟨n, by omega, k, by omega⟩
      · rw [if_neg k] at h; omega

theorem num_at {s : Nat} {q : Int} (h0 : 0 ≤ q) (h1 : q < (s : Nat)) : numM (nums K s) q = if K q.toNat = true then (rnk K q.toNat : Int) else -1 := by
  have h : q.toNat < s := by omega
  simp [numM, nums, List.getD, List.getElem?_map, List.getElem?_range h]

theorem mem_mapL {s : Nat} {x : Int} : ∀ {l : List Int}, (∀ q ∈ l, 0 ≤ q ∧ q < (s : Nat)) → (x ∈ mapL (nums K s) l ↔ ∃ q ∈ l, K q.toNat = true ∧ (rnk K q.toNat : Int) = x)
  | [], _ => by simp [mapL]
  | q :: l, h => by
    have hq := h q (by simp)
    have ih := mem_mapL (x := x) (fun q hq => h q (List.mem_cons_of_mem _ hq) : ∀ q ∈ l, _)
    rw [mapL, num_at hq.1 hq.2]
    by_cases c : K q.toNat = true
    · rw [if_pos c, if_pos (by omega), List.mem_cons, ih]
      constructor
      · rintro (rfl | ⟨q', h1, h2⟩)
        · exact ⟨q, by simp, c, rfl⟩
        · exact ⟨q', by simp [h1], h2⟩
      · rintro ⟨q', h1, h2, h3⟩
        rcases List.mem_cons.1 h1 with rfl | h1
        · exact .inl h3.symm
        · exact .inr ⟨q', h1, h2, h3⟩
    · rw [if_neg c, if_neg (by omega), ih]
      constructor
      · rintro ⟨q', h1, h2⟩
        exact ⟨q', by simp [h1], h2⟩
      · rintro ⟨q', h1, h2, h3⟩
        rcases List.mem_cons.1 h1 with rfl | h1
        · exact (c h2).elim
        · exact ⟨q', h1, h2, h3⟩

/-- a rule in the new numbers -/
def rkR (K : Nat → Bool) (u : Rl) : Rl := ⟨rnk K u.l.toNat, rnk K u.r.toNat, rnk K u.t.toNat, u.p, u.n⟩
theorem mem_mapR {s : Nat} {x : Rl} : ∀ {l : List Rl}, (∀ u ∈ l, (0 ≤ u.l ∧ u.l < (s : Nat)) ∧ (0 ≤ u.r ∧ u.r < (s : Nat)) ∧ (0 ≤ u.t ∧ u.t < (s : Nat))) →
    (x ∈ mapR (nums K s) l ↔ ∃ u ∈ l, (K u.l.toNat = true ∧ K u.r.toNat = true ∧ K u.t.toNat = true) ∧ rkR K u = x)
  | [], _ => by simp [mapR]
  | u :: l, h => by
    obtain ⟨h1, h2, h3⟩ := h u (by simp)
    have ih := mem_mapR (x := x) (fun q hq => h q (List.mem_cons_of_mem _ hq) : ∀ q ∈ l, _)
    have key : (0 ≤ min (min (numM (nums K s) u.l) (numM (nums K s) u.r)) (numM (nums K s) u.t)) ↔ (K u.l.toNat = true ∧ K u.r.toNat = true ∧ K u.t.toNat = true) := by
      rw [num_at h1.1 h1.2, num_at h2.1 h2.2, num_at h3.1 h3.2]
      by_cases c1 : K u.l.toNat = true <;> by_cases c2 : K u.r.toNat = true <;> by_cases c3 : K u.t.toNat = true <;> simp only [c1, c2, c3, if_true, if_false] <;> simp <;> omega
    rw [mapR]
    by_cases c : K u.l.toNat = true ∧ K u.r.toNat = true ∧ K u.t.toNat = true
    · rw [if_pos (key.2 c), List.mem_cons, ih]
      have e : mvR (nums K s) u = rkR K u := by
        unfold mvR rkR
        rw [num_at h1.1 h1.2, num_at h2.1 h2.2, num_at h3.1 h3.2, if_pos c.1, if_pos c.2.1, if_pos c.2.2]
      rw [e]
      constructor
      · rintro (rfl | ⟨q', g1, g2⟩)
        · exact ⟨u, by simp, c, rfl⟩
        · exact ⟨q', by simp [g1], g2⟩
      · rintro ⟨q', g1, g2, g3⟩
        rcases List.mem_cons.1 g1 with rfl | g1
        · exact .inl g3.symm
        · exact .inr ⟨q', g1, g2, g3⟩
    · rw [if_neg (fun h => c (key.1 h)), ih]
      constructor
      · rintro ⟨q', g1, g2⟩
        exact ⟨q', by simp [g1], g2⟩
      · rintro ⟨q', g1, g2, g3⟩
        rcases List.mem_cons.1 g1 with rfl | g1
        · exact (c g2).elim
        · exact ⟨q', g1, g2, g3⟩

theorem asc_map {s : Nat} : ∀ {l : List Int} {a a' : Int}, -1 ≤ a → ascB (s : Nat) a l = true → (∀ q : Nat, a < (q : Int) → q < s → K q = true → a' < (rnk K q : Int)) → ascB (rnk K s : Nat) a' (mapL (nums K s) l) = true
  | [], _, _, _, _, _ => rfl
  | q :: l, a, a', ha, h, h' => by
    unfold ascB at h
    split at h
    · cases h
    · rename_i hq
      have q0 : 0 ≤ q := by omega
      have q1 : q < (s : Nat) := by omega
      rw [mapL, num_at q0 q1]
      by_cases c : K q.toNat = true
      · rw [if_pos c, if_pos (by omega)]
        unfold ascB
        have g1 := h' q.toNat (by omega) (by omega) c
        have g2 := rnk_lt (show q.toNat < s by omega) c
        rw [if_neg (by omega)]
        refine asc_map (by omega) h (fun q2 k1 k2 k3 => ?_)
        have := rnk_lt (show q.toNat < q2 by omega) c
        omega
      · rw [if_neg c, if_neg (by omega)]
        exact asc_map (by omega) h (fun q2 k1 k2 k3 => h' q2 (by omega) k2 k3)
end

theorem tr_ru {s : Int} {v : Nat} : ∀ {l : List Rl}, (∀ e ∈ l, rlErr s v e = 0) → rlsErr s v l = 0
  | [], _ => rfl
  | e :: l, h => by
    rw [rlsErr_eq (h e (by simp))]
    exact tr_ru (fun e he => h e (by simp [he]))

theorem tr_rl {s : Int} {v : Nat} {e : Rl} : rlErr s v e = 0 ↔ ((0 ≤ e.l ∧ e.l < s) ∧ (0 ≤ e.r ∧ e.r < s) ∧ (0 ≤ e.t ∧ e.t < s)) ∧ cubeErr v e.p e.n = 0 := by
  unfold rlErr
  split
  · exact ⟨fun h => by omega, fun h => by omega⟩
  · exact ⟨fun h => ⟨by omega, h⟩, fun h => h.2⟩

theorem contains_word {l : List Int} (h : ∀ q ∈ l, 0 ≤ q) (j : Nat) : (wordM 0 l).testBit j = true ↔ (j : Int) ∈ l := by
  rw [wordM_bit _ _ _ h, Nat.zero_testBit, Bool.false_or, List.contains_iff_mem]

section
variable {n : Aut} {S w : Nat} {z1 z2 z3 : Bool} (hV : Valid n) (hU : Use n S w)
include hV hU

theorem tr_sts : ∀ q ∈ n.st, 0 ≤ q ∧ q < (n.states.toNat : Nat) := fun q hq => by have _ := hU.lt; have := ascB_mem hV.st q hq; omega
theorem tr_fis : ∀ q ∈ n.fi, 0 ≤ q ∧ q < (n.states.toNat : Nat) := fun q hq => by have _ := hU.lt; have := ascB_mem hV.fi q hq; omega
theorem tr_rls : ∀ u ∈ n.rl, (0 ≤ u.l ∧ u.l < (n.states.toNat : Nat)) ∧ (0 ≤ u.r ∧ u.r < (n.states.toNat : Nat)) ∧ (0 ≤ u.t ∧ u.t < (n.states.toNat : Nat)) := fun u hu => by have _ := hU.lt; have := hV.rule u hu; omega

theorem tr_clo : Clo n.rl (fun j => S.testBit j) := by
  have _ := hV.v0
  exact passM_fix n.rl S hU.sfix
theorem tr_wS (j : Nat) (h : w.testBit j = true) : S.testBit j = true := by
  have _ := hV.v0
  exact hU.wmin (fun j => S.testBit j) (fun u _ _ h1 h2 => ⟨h1, h2⟩) (fun j _ h => h) j h
theorem tr_Sb (j : Nat) (h : S.testBit j = true) : j < n.states.toNat := by
  have := hU.smin (fun j => decide (j < n.states.toNat)) (fun u hu _ _ => by
    have := tr_rls hV hU u hu
    simp only [decide_eq_true_eq]; omega) (fun j hj => by
    rw [contains_word (fun q hq => (tr_sts hV hU q hq).1)] at hj
    have := tr_sts hV hU _ hj
    simp only [decide_eq_true_eq]; omega) j h
  simpa using this
theorem tr_ev {T : BT} {j : Nat} (h : (evA n T).testBit j = true) : S.testBit j = true :=
  ev_in (U := fun j => S.testBit j) (fun e he => (hV.rule e he).2.2.1) (tr_clo hV hU) (fun j hj => hU.semp j hj) T j h

theorem tr_valid : Valid (trA n w n.states.toNat z1 z2 z3) := by
  have hrk := rnk_le (fun j => w.testBit j) n.states.toNat
  have h64 := hV.s64
  have h0 := hV.s0
  have e : ((n.states.toNat : Nat) : Int) = n.states := by omega
  refine ⟨hV.v0, hV.v3, by show (0 : Int) ≤ ((rnk _ _ : Nat) : Int); omega, by show ((rnk _ _ : Nat) : Int) ≤ 64; omega, Nat.le_trans (mapR_len _ _) hV.rl,
    asc_map (a := -1) (a' := -1) (by omega) (by rw [e]; exact hV.st) (fun q _ _ _ => by omega), asc_map (a := -1) (a' := -1) (by omega) (by rw [e]; exact hV.fi) (fun q _ _ _ => by omega), tr_ru fun x hx => ?_⟩
  obtain ⟨u, hu, ⟨k1, k2, k3⟩, rfl⟩ := (mem_mapR (tr_rls hV hU)).1 hx
  obtain ⟨b1, b2, b3⟩ := tr_rls hV hU u hu
  have hr := rlsErr_mem hV.ru u hu
  have g1 := rnk_lt (K := fun j => w.testBit j) (show u.l.toNat < n.states.toNat by omega) k1
  have g2 := rnk_lt (K := fun j => w.testBit j) (show u.r.toNat < n.states.toNat by omega) k2
  have g3 := rnk_lt (K := fun j => w.testBit j) (show u.t.toNat < n.states.toNat by omega) k3
  refine tr_rl.2 ⟨?_, (tr_rl.1 hr).2⟩
  show (0 ≤ ((rnk (fun j => w.testBit j) u.l.toNat : Nat) : Int) ∧ ((rnk (fun j => w.testBit j) u.l.toNat : Nat) : Int) < ((rnk (fun j => w.testBit j) n.states.toNat : Nat) : Int)) ∧ (0 ≤ ((rnk (fun j => w.testBit j) u.r.toNat : Nat) : Int) ∧ ((rnk (fun j => w.testBit j) u.r.toNat : Nat) : Int) < ((rnk (fun j => w.testBit j) n.states.toNat : Nat) : Int)) ∧ (0 ≤ ((rnk (fun j => w.testBit j) u.t.toNat : Nat) : Int) ∧ ((rnk (fun j => w.testBit j) u.t.toNat : Nat) : Int) < ((rnk (fun j => w.testBit j) n.states.toNat : Nat) : Int))
  omega

theorem tr_iso : ∀ (T : BT) (j : Nat), (evA (trA n w n.states.toNat z1 z2 z3) T).testBit j = true ↔ ∃ a, w.testBit a = true ∧ rnk (fun j => w.testBit j) a = j ∧ (evA n T).testBit a = true
  | .nil, j => by
    have hB := tr_valid (z1 := z1) (z2 := z2) (z3 := z3) hV hU
    show (wordM 0 (trA n w n.states.toNat z1 z2 z3).st).testBit j = true ↔ ∃ a, w.testBit a = true ∧ rnk (fun j => w.testBit j) a = j ∧ (wordM 0 n.st).testBit a = true
    rw [contains_word (fun q hq => (hB.sts q hq).1), mem_mapL (tr_sts hV hU)]
    constructor
    · rintro ⟨q, h1, h2, h3⟩
      have := tr_sts hV hU q h1
      refine ⟨q.toNat, h2, by omega, ?_⟩
      rw [contains_word (fun q hq => (tr_sts hV hU q hq).1), Int.toNat_of_nonneg this.1]
      exact h1
    · rintro ⟨a, h1, h2, h3⟩
      rw [contains_word (fun q hq => (tr_sts hV hU q hq).1)] at h3
      exact ⟨a, h3, by simpa using h1, by simp [h2]⟩
  | .node x l r, j => by
    have hB := tr_valid (z1 := z1) (z2 := z2) (z3 := z3) hV hU
    have il := tr_iso l
    have ir := tr_iso r
    show (toM (evA (trA n w n.states.toNat z1 z2 z3) l) (evA (trA n w n.states.toNat z1 z2 z3) r) x 0 (trA n w n.states.toNat z1 z2 z3).rl).testBit j = true ↔ ∃ a, w.testBit a = true ∧ rnk (fun j => w.testBit j) a = j ∧ (toM (evA n l) (evA n r) x 0 n.rl).testBit a = true
    have hbit : ∀ j, (toM (evA n l) (evA n r) x 0 n.rl).testBit j = true ↔ ∃ u ∈ n.rl, hit (evA n l) (evA n r) x u = true ∧ u.t = (j : Int) := fun j => by
      rw [toM_bit _ _ _ _ _ _ (fun e he => (hV.rule e he).2.2.1), Nat.zero_testBit, Bool.false_or, List.any_eq_true]
      simp only [Bool.and_eq_true, decide_eq_true_eq]
    rw [toM_bit _ _ _ _ _ _ (fun e he => (hB.rule e he).2.2.1), Nat.zero_testBit, Bool.false_or, List.any_eq_true]
    simp only [Bool.and_eq_true, decide_eq_true_eq, hbit]
    constructor
    · rintro ⟨u', hu', h1, h2⟩
      obtain ⟨u, hu, ⟨k1, k2, k3⟩, rfl⟩ := (mem_mapR (tr_rls hV hU)).1 hu'
      have b3 := (tr_rls hV hU u hu).2.2
      unfold hit at h1
      simp only [Bool.and_eq_true, rkR, Int.toNat_natCast] at h1
      obtain ⟨⟨g1, g2⟩, g3⟩ := h1
      obtain ⟨a, a1, a2, a3⟩ := (il _).1 g1
      obtain ⟨b, d1, d2, d3⟩ := (ir _).1 g2
      obtain rfl := rnk_inj (K := fun j => w.testBit j) a1 k1 a2
      obtain rfl := rnk_inj (K := fun j => w.testBit j) d1 k2 d2
      refine ⟨u.t.toNat, k3, ?_, u, hu, ?_, by omega⟩
      · have h2' : ((rnk (fun j => w.testBit j) u.t.toNat : Nat) : Int) = (j : Nat) := h2
        omega
      · unfold hit
        rw [a3, d3, g3]; rfl
    · rintro ⟨a, a1, a2, u, hu, h1, h2⟩
      have hb := tr_rls hV hU u hu
      have ea : u.t.toNat = a := by omega
      unfold hit at h1
      simp only [Bool.and_eq_true] at h1
      obtain ⟨⟨g1, g2⟩, g3⟩ := h1
      have k3 : w.testBit u.t.toNat = true := by rw [ea]; exact a1
      obtain ⟨k1, k2⟩ := hU.wfix u hu k3 (tr_ev hV hU g1) (tr_ev hV hU g2)
      refine ⟨rkR (fun j => w.testBit j) u, (mem_mapR (tr_rls hV hU)).2 ⟨u, hu, ⟨k1, k2, k3⟩, rfl⟩, ?_, ?_⟩
      · unfold hit
        simp only [rkR, Int.toNat_natCast, Bool.and_eq_true]
        exact ⟨⟨(il _).2 ⟨_, k1, rfl, g1⟩, (ir _).2 ⟨_, k2, rfl, g2⟩⟩, g3⟩
      · show ((rnk (fun j => w.testBit j) u.t.toNat : Nat) : Int) = (j : Nat)
        rw [ea, a2]

theorem tr_acc (T : BT) : (∃ j : Nat, (evA (trA n w n.states.toNat z1 z2 z3) T).testBit j = true ∧ (trA n w n.states.toNat z1 z2 z3).fi.contains (j : Int) = true) ↔ ∃ j : Nat, (evA n T).testBit j = true ∧ n.fi.contains (j : Int) = true := by
  simp only [List.contains_iff_mem, tr_iso hV hU]
  constructor
  · rintro ⟨j, ⟨a, a1, a2, a3⟩, h⟩
    obtain ⟨q, h1, h2, h3⟩ := (mem_mapL (tr_fis hV hU)).1 h
    have := tr_fis hV hU q h1
    have e : q.toNat = a := rnk_inj (K := fun j => w.testBit j) h2 a1 (by omega)
    exact ⟨a, a3, by rw [← e, Int.toNat_of_nonneg this.1]; exact h1⟩
  · rintro ⟨a, h1, h2⟩
    have hw : w.testBit a = true := hU.wfin a ((contains_word (fun q hq => (tr_fis hV hU q hq).1) a).2 h2) (tr_ev hV hU h1)
    exact ⟨_, ⟨a, hw, rfl, h1⟩, (mem_mapL (tr_fis hV hU)).2 ⟨a, h2, by simpa using hw, by simp⟩⟩

/-- every state of the trimmed automaton is in what is closed under its rules -/
theorem tr_reach {V : Nat → Bool} (hC : Clo (trA n w n.states.toNat z1 z2 z3).rl V) (hE : ∀ j : Nat, (j : Int) ∈ (trA n w n.states.toNat z1 z2 z3).st → V j = true) (a : Nat) (ha : w.testBit a = true) : V (rnk (fun j => w.testBit j) a) = true := by
  have hu := hU.smin (fun j => S.testBit j && (!w.testBit j || V (rnk (fun j => w.testBit j) j))) (fun u hu g1 g2 => by
    simp only [Bool.and_eq_true, Bool.or_eq_true, Bool.not_eq_true'] at g1 g2 ⊢
    have hS := tr_clo hV hU u hu g1.1 g2.1
    refine ⟨hS, ?_⟩
    cases c : w.testBit u.t.toNat with
    | false => exact .inl rfl
    | true =>
      right
      obtain ⟨k1, k2⟩ := hU.wfix u hu c g1.1 g2.1
      have v1 := g1.2.resolve_left (by simp [k1])
      have v2 := g2.2.resolve_left (by simp [k2])
      have := hC (rkR (fun j => w.testBit j) u) ((mem_mapR (tr_rls hV hU)).2 ⟨u, hu, ⟨k1, k2, c⟩, rfl⟩)
      simp only [rkR, Int.toNat_natCast] at this
      exact this v1 v2) (fun j hj => by
    simp only [Bool.and_eq_true, Bool.or_eq_true, Bool.not_eq_true']
    refine ⟨hU.semp j hj, ?_⟩
    cases c : w.testBit j with
    | false => exact .inl rfl
    | true =>
      right
      rw [contains_word (fun q hq => (tr_sts hV hU q hq).1)] at hj
      exact hE _ ((mem_mapL (tr_sts hV hU)).2 ⟨j, hj, by simpa using c, by simp⟩)) a (tr_wS hV hU a ha)
  simp only [Bool.and_eq_true, Bool.or_eq_true, Bool.not_eq_true'] at hu
  exact hu.2.resolve_left (by simp [ha])

/-- what holds of final states and goes back under the rules holds of all -/
theorem tr_back {V : Nat → Bool} (hF : ∀ f : Nat, (f : Int) ∈ (trA n w n.states.toNat z1 z2 z3).fi → V f = true) (hC : ∀ u ∈ (trA n w n.states.toNat z1 z2 z3).rl, V u.t.toNat = true → V u.l.toNat = true ∧ V u.r.toNat = true) (a : Nat) (ha : w.testBit a = true) : V (rnk (fun j => w.testBit j) a) = true := by
  have hu := hU.wmin (fun j => w.testBit j && V (rnk (fun j => w.testBit j) j)) (fun u hu g1 s1 s2 => by
    simp only [Bool.and_eq_true] at g1 ⊢
    obtain ⟨k1, k2⟩ := hU.wfix u hu g1.1 s1 s2
    have := hC (rkR (fun j => w.testBit j) u) ((mem_mapR (tr_rls hV hU)).2 ⟨u, hu, ⟨k1, k2, g1.1⟩, rfl⟩)
    simp only [rkR, Int.toNat_natCast] at this
    have := this g1.2
    exact ⟨⟨k1, this.1⟩, k2, this.2⟩) (fun j h1 h2 => by
    have hw := hU.wfin j h1 h2
    rw [contains_word (fun q hq => (tr_fis hV hU q hq).1)] at h1
    simp only [Bool.and_eq_true]
    exact ⟨hw, hF _ ((mem_mapL (tr_fis hV hU)).2 ⟨j, h1, by simpa using hw, by simp⟩)⟩) a ha
  simp only [Bool.and_eq_true] at hu
  exact hu.2

theorem tr_sur {j : Nat} (hj : j < rnk (fun j => w.testBit j) n.states.toNat) : ∃ a, w.testBit a = true ∧ rnk (fun j => w.testBit j) a = j := by
  have _ := hV.v0
  have _ := hU.lt
  obtain ⟨a, _, h1, h2⟩ := rnk_sur hj
  exact ⟨a, h1, h2⟩
end
end Go.Abs.Tree
