/- What comes in. -/
import Derived.Test.YtdkbhidfiplncaaAMD
import Derived.Test.YtdkbhidfiplncaaAbsIn
namespace Go.Abs.Det
open Go Go.Abs
set_option linter.unusedSimpArgs false
set_option linter.unusedVariables false

abbrev TDfa : TS := ⟨true, [.int .i64, .int .i64, .sl [.sl [.sl [.int .i64]]], .sl [.bool]]⟩
abbrev TTr : TS := ⟨false, [.sl [.int .u8, .int .i64, .int .i64]]⟩
abbrev TTr2 : TS := ⟨true, [.sl [.int .u8, .int .i64, .int .i64], .sl [.int .u8, .int .i64, .int .i64]]⟩
abbrev TU8 : TS := ⟨false, [.int .u8]⟩

theorem list_of {α : Type} {f : α → AV} : ∀ (cs : List AV), (∀ x ∈ cs, ∃ a, x = f a) → ∃ l : List α, cs = l.map f
  | [], _ => ⟨[], rfl⟩
  | c :: cs, h => by
    obtain ⟨a, rfl⟩ := h c (by simp)
    obtain ⟨l, rfl⟩ := list_of cs (fun x hx => h x (by simp [hx]))
    exact ⟨a :: l, rfl⟩
theorem fit_rw {a : AV} (h : Fit (.sl [.int .i64]) a) : ∃ r, a = rwV r := by
  obtain ⟨z, cs, rfl, _, _, hf⟩ := fit_sl1 h
  obtain ⟨l, rfl⟩ := list_of (f := fun n : Int => AV.int .i64 n) cs (fun x hx => by obtain ⟨n, rfl, _⟩ := fit_i64 (hf x hx); exact ⟨n, rfl⟩)
  exact ⟨⟨z, l⟩, by simp [rwV, ints]⟩
theorem fit_rws {a : AV} (h : Fit (.sl [.sl [.int .i64]]) a) : ∃ r, a = rwsV r := by
  obtain ⟨z, cs, rfl, _, _, hf⟩ := fit_sl1 h
  obtain ⟨l, rfl⟩ := list_of (f := rwV) cs (fun x hx => fit_rw (hf x hx))
  exact ⟨⟨z, l⟩, by simp [rwsV]⟩
theorem fit_dfa {a : AV} (h : FitT TDfa a) : ∃ d : Dfa, a = d.av := by
  obtain ⟨cs, rfl, h'⟩ := fitT_many h
  obtain ⟨a1, cs, rfl, h1, h'⟩ := fitAll_cons h'
  obtain ⟨a2, cs, rfl, h2, h'⟩ := fitAll_cons h'
  obtain ⟨a3, cs, rfl, h3, h'⟩ := fitAll_cons h'
  obtain ⟨a4, cs, rfl, h4, h'⟩ := fitAll_cons h'
  obtain rfl := fitAll_nil h'
  obtain ⟨v, rfl, _⟩ := fit_i64 h1
  obtain ⟨s, rfl, _⟩ := fit_i64 h2
  obtain ⟨z, c3, rfl, _, _, hf⟩ := fit_sl1 h3
  obtain ⟨nx, rfl⟩ := list_of (f := rwsV) c3 (fun x hx => fit_rws (hf x hx))
  obtain ⟨zf, c4, rfl, _, _, hb⟩ := fit_sl1 h4
  obtain ⟨fi, rfl⟩ := list_of (f := AV.bool) c4 (fun x hx => fit_bool (hb x hx))
  exact ⟨⟨v, s, z, nx, zf, fi⟩, by simp [Dfa.av, Dfa.cells, bools]⟩

theorem rows_lf : ∀ (rs : List (List AV)), (∀ r ∈ rs, r.length = 3) → (∀ r ∈ rs, ∀ (i : Nat) (c : CS) (a : AV), ([.int .u8, .int .i64, .int .i64] : List CS)[i]? = some c → r[i]? = some a → Fit c a) →
    ∃ l : List Lf, rs.flatten = lfs l ∧ l.length = rs.length ∧ ∀ e ∈ l, e.x < 256
  | [], _, _ => ⟨[], rfl, rfl, by simp⟩
  | r :: rs, hl, hf => by
    obtain ⟨l, h1, h2, h3⟩ := rows_lf rs (fun r hr => hl r (by simp [hr])) (fun r hr => hf r (by simp [hr]))
    have hr := hl r (by simp)
    match r, hr with
    | [x0, x1, x2], _ =>
      have hfr := hf [x0, x1, x2] (by simp)
      obtain ⟨p, rfl, hp⟩ := fit_u8 (hfr 0 _ _ rfl rfl)
      obtain ⟨a, rfl, _⟩ := fit_i64 (hfr 1 _ _ rfl rfl)
      obtain ⟨b, rfl, _⟩ := fit_i64 (hfr 2 _ _ rfl rfl)
      refine ⟨⟨p, a, b⟩ :: l, ?_, by simp [h2], ?_⟩
      · rw [List.flatten_cons, h1]; rfl
      · intro e he
        rcases List.mem_cons.1 he with rfl | he
        · exact hp
        · exact h3 e he
theorem fit_tree {a : AV} (h : Fit (.sl [.int .u8, .int .i64, .int .i64]) a) : ∃ z l, a = tw z l ∧ ∀ e ∈ l, e.x < 256 := by
  cases h with
  | nil => exact ⟨true, [], rfl, by simp⟩
  | @sl _ rs hn hl hr =>
    obtain ⟨l, h1, h2, h3⟩ := rows_lf rs hl hr
    exact ⟨false, l, by unfold tw; rw [h1, h2], h3⟩
theorem fit_t2 {a : AV} (h : FitT TTr2 a) : ∃ z1 t1 z2 t2, a = .agg [tw z1 t1, tw z2 t2] ∧ (∀ e ∈ t1, e.x < 256) ∧ ∀ e ∈ t2, e.x < 256 := by
  obtain ⟨cs, rfl, h'⟩ := fitT_many h
  obtain ⟨a1, cs, rfl, h1, h'⟩ := fitAll_cons h'
  obtain ⟨a2, cs, rfl, h2, h'⟩ := fitAll_cons h'
  obtain rfl := fitAll_nil h'
  obtain ⟨z1, t1, rfl, x1⟩ := fit_tree h1
  obtain ⟨z2, t2, rfl, x2⟩ := fit_tree h2
  exact ⟨z1, t1, z2, t2, rfl, x1, x2⟩

end Go.Abs.Det
