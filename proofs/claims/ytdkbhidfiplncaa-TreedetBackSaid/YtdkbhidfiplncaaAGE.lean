/- Lists of cells under way, some cells an element: a push, and what is frozen. -/
import Derived.Test.YtdkbhidfiplncaaAGL
namespace Go.Abs.Det
open Go Go.Abs
set_option linter.unusedSimpArgs false
set_option linter.unusedVariables false

def LstE (es B : Nat) (H : xAu) (v : AV) (n : Nat) (cs : List AV) : Prop :=
  (n = 0 ∧ cs = [] ∧ v = .sl true 0 []) ∨ ∃ id, v = .own false id 0 n es ∧ H[id]? = some (.cells false false cs) ∧ B ≤ id ∧ n ≠ 0 ∧ cs.length = n * es
theorem LstE.nil (es B : Nat) (H : xAu) : LstE es B H (.sl true 0 []) 0 [] := .inl ⟨rfl, rfl, rfl⟩
theorem LstE.inb {es B n : Nat} {H : xAu} {v : AV} {cs : List AV} (h : LstE es B H v n cs) {b : Nat} (hb : At v b) : b < H.length ∧ B ≤ b := by
  obtain ⟨z, o, n', es', e⟩ := hb
  rcases h with ⟨_, _, rfl⟩ | ⟨id, rfl, hi, hb, _⟩
  · cases e
  · cases e; exact ⟨(List.getElem?_eq_some_iff.1 hi).1, hb⟩
theorem LstE.other {es B n : Nat} {H H' : xAu} {v : AV} {cs : List AV} (h : LstE es B H v n cs) (hk : ∀ b, At v b → H'[b]? = H[b]?) : LstE es B H' v n cs := by
  rcases h with h | ⟨id, e, hi, hb, h0⟩
  · exact .inl h
  · exact .inr ⟨id, e, (hk id ⟨_, _, _, _, e⟩).trans hi, hb, h0⟩
theorem LstE.push {es B n : Nat} {H : xAu} {v : AV} {cs : List AV} (h : LstE es B H v n cs) (c : List AV) (hc : c.length = es) {bytes : Nat} (hr : (n + 1) * bytes ≤ 140737488355328) (hr2 : n + 1 ≤ 140737488355328) (hB : B ≤ H.length) :
    ∃ v' H', xPB false es bytes H v (some (1, c)) = some (v', H') ∧ LstE es B H' v' (n + 1) (cs ++ c) ∧ Kp B H H' ∧ (∀ b, b < H.length → ¬ At v b → H'[b]? = H[b]?) ∧ (∀ b, At v' b → b = H.length) ∧ ∃ id n, v' = .own false id 0 n es := by
  rcases h with ⟨rfl, rfl, rfl⟩ | ⟨id, rfl, hi, hb, h0, hl⟩
  · refine ⟨.own false H.length 0 1 es, H ++ [.cells false false c], ?_, .inr ⟨H.length, rfl, by simp, hB, by omega, by simpa using hc⟩, ⟨by simp, fun b hb => List.getElem?_append_left (by omega)⟩, fun b hb _ => List.getElem?_append_left hb, fun b hb => ?_, _, _, rfl⟩
    · rw [xDK (by simpa using hr) (by omega)]
      rfl
    · obtain ⟨z, o, n, es, e⟩ := hb; cases e; rfl
  · refine ⟨.own false H.length 0 (n + 1) es, H.set id .dead ++ [.cells false false (cs ++ c)], ?_, .inr ⟨H.length, by simp, ?_, by omega, by omega, by rw [List.length_append, hl, hc, Nat.add_mul, Nat.one_mul]⟩, ⟨by simp, fun b hb' => ?_⟩, fun b hb hn => ?_, fun b hb => ?_, _, _, rfl⟩
    · rw [xDh, hi]
      show (if _ then _ else _) = _
      rw [if_pos ⟨by omega, hr, hr2⟩, ← hl, List.take_length]
      rfl
    · rw [List.getElem?_append_right (by simp)]; simp
    · have := (List.getElem?_eq_some_iff.1 hi).1
      rw [List.getElem?_append_left (by simp; omega), List.getElem?_set_ne (by omega)]
    · rw [List.getElem?_append_left (by simpa using hb), List.getElem?_set_ne (by rintro rfl; exact hn ⟨_, _, _, _, rfl⟩)]
    · obtain ⟨z, o, n, es, e⟩ := hb; cases e; rfl
theorem LstE.dat {es B n : Nat} {H : xAu} {v : AV} {cs : List AV} (h : LstE es B H v n cs) (hd : cs.all xCB = true) (d : Nat) : frz (d + 1) H v = some (.sl (n == 0) n cs) := by
  rcases h with ⟨rfl, rfl, rfl⟩ | ⟨id, rfl, hi, hb, h0, hl⟩
  · rfl
  · have hz : (n == 0) = false := by rw [beq_eq_false_iff_ne]; exact h0
    obtain ⟨a1, a2⟩ := xOk (d := d) (G := H) hd
    have htk : (cs.drop 0).take (n * es) = cs := by rw [List.drop_zero, ← hl, List.take_length]
    rw [hz]
    simp only [frz, hi, htk, a1]
    rw [if_pos (by omega)]
    rfl
end Go.Abs.Det
