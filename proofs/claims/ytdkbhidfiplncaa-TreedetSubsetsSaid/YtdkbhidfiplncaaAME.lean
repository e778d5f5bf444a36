/- classes: the row of a state,as bytes. -/
import Derived.Test.YtdkbhidfiplncaaAMD
import Derived.Test.YtdkbhidfiplncaaAbsWalk2
namespace Go.Abs.Det
open Go Go.Abs
set_option linter.unusedSimpArgs false
set_option linter.unusedVariables false

end Go.Abs.Det

/- classes: the notes of a state. -/
namespace Go.Abs.Det
open Go Go.Abs
set_option linter.unusedSimpArgs false
set_option linter.unusedVariables false

structure Base (D : Da) (cls : List Int) (G : xAv) (B : Nat) : Prop where
  b0 : G[0]? = some (.cells false false D.cells)
  b1 : ∃ cb,G[1]? = some (.cells false false [.own false cb 0 cls.length 1]) ∧ G[cb]? = some (.cells false false (ints cls)) ∧ cb < B
  two : 1 < B
  le : B ≤ G.length
theorem Base.step {D : Da} {cls : List Int} {G G' : xAv} {B : Nat} (h : Base D cls G B) (he : ∀ b,b < B → G'[b]? = G[b]?) (hl : G.length ≤ G'.length) : Base D cls G' B := by
  have := h.two
  obtain ⟨cb,c1,c2,c3⟩ := h.b1
  exact ⟨by rw [he 0 (by omega)]; exact h.b0,⟨cb,by rw [he 1 (by omega)]; exact c1,by rw [he cb c3]; exact c2,c3⟩,h.two,by have := h.le; omega⟩

section
variable {D : Da} {cls : List Int} {p B s q : Nat} {s3 s4 s5 s22 s23 s38 s39 : AV}

end
end Go.Abs.Det

/- classes: the whole row of a state. -/
namespace Go.Abs.Det
open Go Go.Abs
set_option linter.unusedSimpArgs false
set_option linter.unusedVariables false

section
variable {D : Da} {cls : List Int} {p B s : Nat} {s3 s4 s5 s22 s23 : AV}

end

end Go.Abs.Det

/- classes: numbering the rows. -/
namespace Go.Abs.Det
open Go Go.Abs
set_option linter.unusedSimpArgs false
set_option linter.unusedVariables false

end Go.Abs.Det

/- classes: a round; what numbering gives. -/
namespace Go.Abs.Det
open Go Go.Abs
set_option linter.unusedSimpArgs false
set_option linter.unusedVariables false

end Go.Abs.Det

/- What numbering gives: plain facts. -/
namespace Go.Abs.Det
open Go Go.Abs
set_option linter.unusedSimpArgs false
set_option linter.unusedVariables false

structure NumOk (key : Nat → List Nat) (e : Nat) (r : List Nat × List (List Nat)) : Prop where
  len : r.1.length = e
  nd : ∀ (i j : Nat) (k : List Nat),r.2[i]? = some k → r.2[j]? = some k → i = j
  at1 : ∀ i,i < e → r.2[r.1.getD i 0]? = some (key i)
  hit : ∀ j,j < r.2.length → ∃ i,i < e ∧ r.1.getD i 0 = j
  le : r.2.length ≤ e

theorem NumOk.same {key : Nat → List Nat} {e : Nat} {r : List Nat × List (List Nat)} (h : NumOk key e r) {i j : Nat} (hi : i < e) (hj : j < e) : r.1.getD i 0 = r.1.getD j 0 ↔ key i = key j := by
  have a := h.at1 i hi
  have b := h.at1 j hj
  constructor
  · intro q
    rw [q,b] at a
    exact (Option.some.inj a).symm
  · intro q
    rw [q] at a
    exact h.nd _ _ _ a b

theorem xSP : ∀ (b a : Nat) (f : Nat → Nat),(∀ i,i < a → f i < b) → (∀ i j,i < a → j < a → f i = f j → i = j) → a ≤ b
  | 0,a,f,h,_ => by
    rcases Nat.eq_zero_or_pos a with q | q
    · omega
    · have := h 0 q; omega
  | b + 1,a,f,h,hi => by
    by_cases c : ∃ i0,i0 < a ∧ f i0 = b
    · obtain ⟨i0,h0,h1⟩ := c
      have := xSP b (a - 1) (fun i => if i = i0 then f (a - 1) else f i) (fun i hlt => by
        show (if i = i0 then f (a - 1) else f i) < b
        split
        · rename_i e
          have h2 := h (a - 1) (by omega)
          have : f (a - 1) ≠ b := fun q => by have := hi (a - 1) i0 (by omega) h0 (q.trans h1.symm); omega
          omega
        · rename_i e
          have h2 := h i (by omega)
          have : f i ≠ b := fun q => e (hi i i0 (by omega) h0 (q.trans h1.symm))
          omega) (fun i j h2 h3 => by
        show (if i = i0 then f (a - 1) else f i) = (if j = i0 then f (a - 1) else f j) → i = j
        split <;> split
        · intros; omega
        · intro q; have := hi (a - 1) j (by omega) (by omega) q; omega
        · intro q; have := hi i (a - 1) (by omega) (by omega) q; omega
        · intro q; exact hi i j (by omega) (by omega) q)
      omega
    · have := xSP b a f (fun i hlt => by
        have h2 := h i hlt
        have : f i ≠ b := fun q => c ⟨i,hlt,q⟩
        omega) hi
      omega
end Go.Abs.Det

/- classes: when two rows are one; the loop ends. -/
namespace Go.Abs.Det
open Go Go.Abs
set_option linter.unusedSimpArgs false
set_option linter.unusedVariables false

end Go.Abs.Det
