/- What comes in. -/
import Derived.Test.YtdkbhidfiplncaaAMB
import Derived.Test.YtdkbhidfiplncaaAFit
import Derived.Test.YtdkbhidfiplncaaAbsIn
namespace Go.Abs.Det
open Go Go.Abs
set_option linter.unusedSimpArgs false
set_option linter.unusedVariables false

abbrev yB6 : TS := ⟨true, [.int .i64, .int .i64, .sl [.int .i64], .sl [.int .i64], .sl [.int .i64, .int .i64, .int .i64, .int .u8, .int .u8]]⟩
theorem xMp : ∀ (cs : List AV), (∀ x ∈ cs, Fit (.int .i64) x) → ∃ l : List Int, cs = xCK l
  | [], _ => ⟨[], rfl⟩
  | a :: cs, h => by
    obtain ⟨n, rfl, _⟩ := xFF (h a (by simp))
    obtain ⟨l, rfl⟩ := xMp cs (fun x hx => h x (by simp [hx]))
    exact ⟨n :: l, rfl⟩

theorem xU2 {a : AV} (h : Fit (.sl [.int .i64]) a) : ∃ z l, a = iw z l ∧ (z = true → l = []) := by
  obtain ⟨z, cs, rfl, hz, hl, hf⟩ := xRu h
  obtain ⟨l, rfl⟩ := xMp cs hf
  exact ⟨z, l, by rw [xAa], fun e => List.map_eq_nil_iff.1 (hz e)⟩

theorem xRt : ∀ (rs : List (List AV)), (∀ r ∈ rs, r.length = 5) → (∀ r ∈ rs, ∀ (i : Nat) (c : CS) (a : AV), ([.int .i64, .int .i64, .int .i64, .int .u8, .int .u8] : List CS)[i]? = some c → r[i]? = some a → Fit c a) →
    ∃ l : List Rl, rs.flatten = rls l ∧ l.length = rs.length ∧ ∀ e ∈ l, e.p < 256 ∧ e.n < 256
  | [], _, _ => ⟨[], rfl, rfl, by simp⟩
  | r :: rs, hl, hf => by
    obtain ⟨l, h1, h2, h3⟩ := xRt rs (fun r hr => hl r (by simp [hr])) (fun r hr => hf r (by simp [hr]))
    have hr := hl r (by simp)
    match r, hr with
    | [x0, x1, x2, x3, x4], _ =>
      have hfr := hf [x0, x1, x2, x3, x4] (by simp)
      obtain ⟨a, rfl, _⟩ := xFF (hfr 0 _ _ rfl rfl)
      obtain ⟨b, rfl, _⟩ := xFF (hfr 1 _ _ rfl rfl)
      obtain ⟨c, rfl, _⟩ := xFF (hfr 2 _ _ rfl rfl)
      obtain ⟨p, rfl, hp⟩ := xOs (hfr 3 _ _ rfl rfl)
      obtain ⟨n, rfl, hn⟩ := xOs (hfr 4 _ _ rfl rfl)
      refine ⟨⟨a, b, c, p, n⟩ :: l, ?_, by simp [h2], ?_⟩
      · rw [List.flatten_cons, h1]; rfl
      · intro e he
        rcases List.mem_cons.1 he with rfl | he
        · exact ⟨hp, hn⟩
        · exact h3 e he

theorem xWZ {a : AV} (h : Fit (.sl [.int .i64, .int .i64, .int .i64, .int .u8, .int .u8]) a) : ∃ z l, a = .sl z l.length (rls l) ∧ ∀ e ∈ l, e.p < 256 ∧ e.n < 256 := by
  cases h with
  | nil => exact ⟨true, [], rfl, by simp⟩
  | @sl _ rs hn hl hr =>
    obtain ⟨l, h1, h2, h3⟩ := xRt rs hl hr
    exact ⟨false, l, by rw [h1, h2], h3⟩

theorem xW0 {a : AV} (h : xRx yB6 a) : ∃ n : Aut, a = n.av ∧ ∀ e ∈ n.rl, e.p < 256 ∧ e.n < 256 := by
  obtain ⟨cs, rfl, h'⟩ := xRv h
  obtain ⟨a1, cs, rfl, h1, h'⟩ := xEh h'
  obtain ⟨a2, cs, rfl, h2, h'⟩ := xEh h'
  obtain ⟨a9993, cs, rfl, h3, h'⟩ := xEh h'
  obtain ⟨a9994, cs, rfl, h4, h'⟩ := xEh h'
  obtain ⟨a9995, cs, rfl, h5, h'⟩ := xEh h'
  obtain rfl := xPl h'
  obtain ⟨v, rfl, _⟩ := xFF h1
  obtain ⟨s, rfl, _⟩ := xFF h2
  obtain ⟨z1, st, rfl, _⟩ := xU2 h3
  obtain ⟨z2, fi, rfl, _⟩ := xU2 h4
  obtain ⟨z3, rl, rfl, hb⟩ := xWZ h5
  exact ⟨⟨v, s, z1, st, z2, fi, z3, rl⟩, rfl, hb⟩

end Go.Abs.Det
