/- What comes in. -/
import Derived.Test.YtdkbhidfiplncaaAMD
import Derived.Test.YtdkbhidfiplncaaAbsIn
namespace Go.Abs.Det
open Go Go.Abs
set_option linter.unusedSimpArgs false
set_option linter.unusedVariables false

abbrev TTr : TS := ⟨false, [.sl [.int .u8, .int .i64, .int .i64]]⟩
theorem xRy : ∀ (rs : List (List AV)), (∀ r ∈ rs, r.length = 3) → (∀ r ∈ rs, ∀ (i : Nat) (c : CS) (a : AV), ([.int .u8, .int .i64, .int .i64] : List CS)[i]? = some c → r[i]? = some a → Fit c a) →
    ∃ l : List Lf, rs.flatten = lfs l ∧ l.length = rs.length ∧ ∀ e ∈ l, e.x < 256
  | [], _, _ => ⟨[], rfl, rfl, by simp⟩
  | r :: rs, hl, hf => by
    obtain ⟨l, h1, h2, h3⟩ := xRy rs (fun r hr => hl r (by simp [hr])) (fun r hr => hf r (by simp [hr]))
    have hr := hl r (by simp)
    match r, hr with
    | [x0, x1, x2], _ =>
      have hfr := hf [x0, x1, x2] (by simp)
      obtain ⟨p, rfl, hp⟩ := xOs (hfr 0 _ _ rfl rfl)
      obtain ⟨a, rfl, _⟩ := xFF (hfr 1 _ _ rfl rfl)
      obtain ⟨b, rfl, _⟩ := xFF (hfr 2 _ _ rfl rfl)
      refine ⟨⟨p, a, b⟩ :: l, ?_, by simp [h2], ?_⟩
      · rw [List.flatten_cons, h1]; rfl
      · intro e he
        rcases List.mem_cons.1 he with rfl | he
        · exact hp
        · exact h3 e he
theorem xTD {a : AV} (h : Fit (.sl [.int .u8, .int .i64, .int .i64]) a) : ∃ z l, a = tw z l ∧ ∀ e ∈ l, e.x < 256 := by
  cases h with
  | nil => exact ⟨true, [], rfl, by simp⟩
  | @sl _ rs hn hl hr =>
    obtain ⟨l, h1, h2, h3⟩ := xRy rs hl hr
    exact ⟨false, l, by unfold tw; rw [h1, h2], h3⟩
end Go.Abs.Det
