/- What comes in. -/
import Derived.Test.YtijmhicopfphnaaDoorALC
import Derived.Test.YtijmhicopfphnaaDoorAbsIn
namespace Go.Abs.Tree
open Go Go.Abs
set_option linter.unusedSimpArgs false
set_option linter.unusedVariables false

abbrev TAut : TS := ⟨true, [.int .i64, .int .i64, .sl [.int .i64], .sl [.int .i64], .sl [.int .i64, .int .i64, .int .i64, .int .u8, .int .u8]]⟩
abbrev TTree : TS := ⟨false, [.sl [.int .u8, .int .i64, .int .i64]]⟩

theorem i64s_ints : ∀ (cs : List AV), (∀ x ∈ cs, Fit (.int .i64) x) → ∃ l : List Int, cs = ints l
  | [], _ => ⟨[], rfl⟩
  | a :: cs, h => by
    obtain ⟨n, rfl, _⟩ := fit_i64 (h a (by simp))
    obtain ⟨l, rfl⟩ := i64s_ints cs (fun x hx => h x (by simp [hx]))
    exact ⟨n :: l, rfl⟩

theorem fit_iw {a : AV} (h : Fit (.sl [.int .i64]) a) : ∃ z l, a = iw z l ∧ (z = true → l = []) := by
  obtain ⟨z, cs, rfl, hz, hl, hf⟩ := fit_sl1 h
  obtain ⟨l, rfl⟩ := i64s_ints cs hf
  exact ⟨z, l, by rw [ints_length], fun e => List.map_eq_nil_iff.1 (hz e)⟩

theorem rows_rl : ∀ (rs : List (List AV)), (∀ r ∈ rs, r.length = 5) → (∀ r ∈ rs, ∀ (i : Nat) (c : CS) (a : AV), ([.int .i64, .int .i64, .int .i64, .int .u8, .int .u8] : List CS)[i]? = some c → r[i]? = some a → Fit c a) →
    ∃ l : List Rl, rs.flatten = rls l ∧ l.length = rs.length ∧ ∀ e ∈ l, e.p < 256 ∧ e.n < 256
  | [], _, _ => ⟨[], rfl, rfl, by simp⟩
  | r :: rs, hl, hf => by
    obtain ⟨l, h1, h2, h3⟩ := rows_rl rs (fun r hr => hl r (by simp [hr])) (fun r hr => hf r (by simp [hr]))
    have hr := hl r (by simp)
    match r, hr with
    | [x0, x1, x2, x3, x4], _ =>
      have hfr := hf [x0, x1, x2, x3, x4] (by simp)
      obtain ⟨a, rfl, _⟩ := fit_i64 (hfr 0 _ _ rfl rfl)
      obtain ⟨b, rfl, _⟩ := fit_i64 (hfr 1 _ _ rfl rfl)
      obtain ⟨c, rfl, _⟩ := fit_i64 (hfr 2 _ _ rfl rfl)
      obtain ⟨p, rfl, hp⟩ := fit_u8 (hfr 3 _ _ rfl rfl)
      obtain ⟨n, rfl, hn⟩ := fit_u8 (hfr 4 _ _ rfl rfl)
      refine ⟨⟨a, b, c, p, n⟩ :: l, ?_, by simp [h2], ?_⟩
      · rw [List.flatten_cons, h1]; rfl
      · intro e he
        rcases List.mem_cons.1 he with rfl | he
        · exact ⟨hp, hn⟩
        · exact h3 e he

theorem fit_rls {a : AV} (h : Fit (.sl [.int .i64, .int .i64, .int .i64, .int .u8, .int .u8]) a) : ∃ z l, a = .sl z l.length (rls l) ∧ ∀ e ∈ l, e.p < 256 ∧ e.n < 256 := by
  cases h with
  | nil => exact ⟨true, [], rfl, by simp⟩
  | @sl _ rs hn hl hr =>
    obtain ⟨l, h1, h2, h3⟩ := rows_rl rs hl hr
    exact ⟨false, l, by rw [h1, h2], h3⟩

theorem rows_lf : ∀ (rs : List (List AV)), (∀ r ∈ rs, r.length = 3) → (∀ r ∈ rs, ∀ (i : Nat) (c : CS) (a : AV), ([.int .u8, .int .i64, .int .i64] : List CS)[i]? = some c → r[i]? = some a → Fit c a) →
    ∃ l : List Lf, rs.flatten = lfs l ∧ l.length = rs.length ∧ ∀ e ∈ l, e.x < 256
  | [], _, _ => ⟨[], rfl, rfl, by simp⟩
  | r :: rs, hl, hf => by
    obtain ⟨l, h1, h2, h3⟩ := rows_lf rs (fun r hr => hl r (by simp [hr])) (fun r hr => hf r (by simp [hr]))
    have hr := hl r (by simp)
    match r, hr with
    | [x0, x1, x2], _ =>
      have hfr := hf [x0, x1, x2] (by simp)
      obtain ⟨p, rfl, hp⟩ := fit_u8 (hfr 0 _ _ rfl rfl)
      obtain ⟨a, rfl, _⟩ := fit_i64 (hfr 1 _ _ rfl rfl)
      obtain ⟨b, rfl, _⟩ := fit_i64 (hfr 2 _ _ rfl rfl)
      refine ⟨⟨p, a, b⟩ :: l, ?_, by simp [h2], ?_⟩
      · rw [List.flatten_cons, h1]; rfl
      · intro e he
        rcases List.mem_cons.1 he with rfl | he
        · exact hp
        · exact h3 e he

theorem fit_tree {a : AV} (h : Fit (.sl [.int .u8, .int .i64, .int .i64]) a) : ∃ z l, a = tw z l ∧ ∀ e ∈ l, e.x < 256 := by
  cases h with
  | nil => exact ⟨true, [], rfl, by simp⟩
  | @sl _ rs hn hl hr =>
    obtain ⟨l, h1, h2, h3⟩ := rows_lf rs hl hr
    exact ⟨false, l, by unfold tw; rw [h1, h2], h3⟩

theorem fit_aut {a : AV} (h : FitT TAut a) : ∃ n : Aut, a = n.av ∧ ∀ e ∈ n.rl, e.p < 256 ∧ e.n < 256 := by
  obtain ⟨cs, rfl, h'⟩ := fitT_many h
  obtain ⟨a1, cs, rfl, h1, h'⟩ := fitAll_cons h'
  obtain ⟨a2, cs, rfl, h2, h'⟩ := fitAll_cons h'
  obtain ⟨a3, cs, rfl, h3, h'⟩ := fitAll_cons h'
  obtain ⟨a4, cs, rfl, h4, h'⟩ := fitAll_cons h'
  obtain ⟨a5, cs, rfl, h5, h'⟩ := fitAll_cons h'
  obtain rfl := fitAll_nil h'
  obtain ⟨v, rfl, _⟩ := fit_i64 h1
  obtain ⟨s, rfl, _⟩ := fit_i64 h2
  obtain ⟨z1, st, rfl, _⟩ := fit_iw h3
  obtain ⟨z2, fi, rfl, _⟩ := fit_iw h4
  obtain ⟨z3, rl, rfl, hb⟩ := fit_rls h5
  exact ⟨⟨v, s, z1, st, z2, fi, z3, rl⟩, rfl, hb⟩

/-- pairs -/
abbrev TN2 : TS := ⟨true, [.int .i64, .int .i64]⟩
abbrev TT2 : TS := ⟨true, [.sl [.int .u8, .int .i64, .int .i64], .sl [.int .u8, .int .i64, .int .i64]]⟩
abbrev TU8 : TS := ⟨false, [.int .u8]⟩
theorem fit_n2 {a : AV} (h : FitT TN2 a) : ∃ p q : Int, a = .agg [.int .i64 p, .int .i64 q] := by
  obtain ⟨cs, rfl, h'⟩ := fitT_many h
  obtain ⟨a1, cs, rfl, h1, h'⟩ := fitAll_cons h'
  obtain ⟨a2, cs, rfl, h2, h'⟩ := fitAll_cons h'
  obtain rfl := fitAll_nil h'
  obtain ⟨p, rfl, _⟩ := fit_i64 h1
  obtain ⟨q, rfl, _⟩ := fit_i64 h2
  exact ⟨p, q, rfl⟩
theorem fit_t2 {a : AV} (h : FitT TT2 a) : ∃ z1 t1 z2 t2, a = .agg [tw z1 t1, tw z2 t2] ∧ (∀ e ∈ t1, e.x < 256) ∧ ∀ e ∈ t2, e.x < 256 := by
  obtain ⟨cs, rfl, h'⟩ := fitT_many h
  obtain ⟨a1, cs, rfl, h1, h'⟩ := fitAll_cons h'
  obtain ⟨a2, cs, rfl, h2, h'⟩ := fitAll_cons h'
  obtain rfl := fitAll_nil h'
  obtain ⟨z1, t1, rfl, x1⟩ := fit_tree h1
  obtain ⟨z2, t2, rfl, x2⟩ := fit_tree h2
  exact ⟨z1, t1, z2, t2, rfl, x1, x2⟩
end Go.Abs.Tree
