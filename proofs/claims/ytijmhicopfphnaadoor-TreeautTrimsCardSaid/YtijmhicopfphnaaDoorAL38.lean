/- The trimmed automaton, trimmed again: the plain law. -/
import Derived.Test.YtijmhicopfphnaaDoorAL35
import Derived.Test.YtijmhicopfphnaaDoorAMP
import Derived.Test.YtijmhicopfphnaaDoorAL37
namespace Go.Abs.Tree
open Go Go.Abs
set_option linter.unusedSimpArgs false
set_option linter.unusedVariables false

theorem rnk_all {K : Nat → Bool} {R : Nat} (h : ∀ j, j < R → K j = true) : ∀ q, q ≤ R → rnk K q = q
  | 0, _ => rfl
  | q + 1, hq => by rw [rnk, rnk_all h q (by omega), if_pos (h q (by omega))]
theorem mapL_all {K : Nat → Bool} {R : Nat} (h : ∀ j, j < R → K j = true) : ∀ {l : List Int}, (∀ q ∈ l, 0 ≤ q ∧ q < (R : Nat)) → mapL (nums K R) l = l
  | [], _ => rfl
  | q :: l, hl => by
    have hq := hl q (by simp)
    have e : numM (nums K R) q = q := by
      rw [num_at hq.1 hq.2, if_pos (h _ (by omega)), rnk_all h _ (by omega)]
      omega
    rw [mapL, e, if_pos hq.1, mapL_all h (fun q hq => hl q (by simp [hq]))]
theorem mapR_all {K : Nat → Bool} {R : Nat} (h : ∀ j, j < R → K j = true) : ∀ {l : List Rl}, (∀ u ∈ l, (0 ≤ u.l ∧ u.l < (R : Nat)) ∧ (0 ≤ u.r ∧ u.r < (R : Nat)) ∧ (0 ≤ u.t ∧ u.t < (R : Nat))) → mapR (nums K R) l = l
  | [], _ => rfl
  | u :: l, hl => by
    obtain ⟨h1, h2, h3⟩ := hl u (by simp)
    have e : ∀ q : Int, 0 ≤ q → q < (R : Nat) → numM (nums K R) q = q := fun q a b => by
      rw [num_at a b, if_pos (h _ (by omega)), rnk_all h _ (by omega)]
      omega
    rw [mapR, mvR, e _ h1.1 h1.2, e _ h2.1 h2.2, e _ h3.1 h3.2, if_pos (by omega), mapR_all h (fun q hq => hl q (by simp [hq]))]

section
variable {n : Aut} {S w : Nat} {z1 z2 z3 : Bool} (hV : Valid n) (hU : Use n S w)
include hV hU

/-- a word of all states of the trimmed automaton that is closed under its rules and holds the empty states -/
theorem tr_full {v : Nat} (h1 : passM v (trA n w n.states.toNat z1 z2 z3).rl = v) (h2 : ∀ j, (wordM 0 (trA n w n.states.toNat z1 z2 z3).st).testBit j = true → v.testBit j = true) (j : Nat) (hj : j < rnk (fun j => w.testBit j) n.states.toNat) : v.testBit j = true := by
  obtain ⟨a, a1, rfl⟩ := tr_sur hV hU hj
  have hB := tr_valid (z1 := z1) (z2 := z2) (z3 := z3) hV hU
  exact tr_reach (z1 := z1) (z2 := z2) (z3 := z3) hV hU (V := fun j => v.testBit j) (passM_fix _ v h1) (fun j hj => h2 j ((contains_word (fun q hq => (hB.sts q hq).1) j).2 hj)) a a1

theorem tr_keep {S' w' : Nat} (hU' : Use (trA n w n.states.toNat z1 z2 z3) S' w') (j : Nat) (hj : j < rnk (fun j => w.testBit j) n.states.toNat) : w'.testBit j = true := by
  obtain ⟨a, a1, rfl⟩ := tr_sur hV hU hj
  have hB := tr_valid (z1 := z1) (z2 := z2) (z3 := z3) hV hU
  have full := tr_full (z1 := z1) (z2 := z2) (z3 := z3) hV hU hU'.sfix hU'.semp
  refine tr_back (z1 := z1) (z2 := z2) (z3 := z3) hV hU (V := fun j => w'.testBit j) (fun f hf => ?_) (fun u hu ht => ?_) a a1
  · have := ascB_mem hB.fi _ hf
    have hb : (f : Int) < ((rnk (fun j => w.testBit j) n.states.toNat : Nat) : Int) := this.2
    exact hU'.wfin f ((contains_word (fun q hq => (hB.fis q hq).1) f).2 hf) (full f (by omega))
  · have hr := hB.rule u hu
    have hb1 : u.l < ((rnk (fun j => w.testBit j) n.states.toNat : Nat) : Int) := hr.1.2
    have hb2 : u.r < ((rnk (fun j => w.testBit j) n.states.toNat : Nat) : Int) := hr.2.1.2
    exact hU'.wfix u hu ht (full _ (by omega)) (full _ (by omega))

/-- trimming again changes nothing -/
theorem tr_again {S' w' : Nat} {y1 y2 y3 : Bool} (hU' : Use (trA n w n.states.toNat z1 z2 z3) S' w') :
    trA (trA n w n.states.toNat z1 z2 z3) w' (trA n w n.states.toNat z1 z2 z3).states.toNat y1 y2 y3 = ⟨(trA n w n.states.toNat z1 z2 z3).vars, (trA n w n.states.toNat z1 z2 z3).states, y1, (trA n w n.states.toNat z1 z2 z3).st, y2, (trA n w n.states.toNat z1 z2 z3).fi, y3, (trA n w n.states.toNat z1 z2 z3).rl⟩ := by
  have hB := tr_valid (z1 := z1) (z2 := z2) (z3 := z3) hV hU
  have hk := tr_keep (z1 := z1) (z2 := z2) (z3 := z3) hV hU hU'
  have s1 := tr_sts hB hU'
  have s2 := tr_fis hB hU'
  have s3 := tr_rls hB hU'
  have e : (trA n w n.states.toNat z1 z2 z3).states.toNat = rnk (fun j => w.testBit j) n.states.toNat := Int.toNat_natCast _
  rw [e] at s1 s2 s3 ⊢
  generalize hBd : trA n w n.states.toNat z1 z2 z3 = B at *
  have e2 : B.states = ((rnk (fun j => w.testBit j) n.states.toNat : Nat) : Int) := by rw [← hBd]
  generalize rnk (fun j => w.testBit j) n.states.toNat = R at *
  unfold trA
  rw [mapL_all hk s1, mapL_all hk s2, mapR_all hk s3, rnk_all hk R (Nat.le_refl _), e2]

/-- every state is final or used -/
theorem tr_used (j : Nat) (hj : j < rnk (fun j => w.testBit j) n.states.toNat) : ((trA n w n.states.toNat z1 z2 z3).fi.contains (j : Int) || (trA n w n.states.toNat z1 z2 z3).rl.any (usedB (j : Int))) = true := by
  obtain ⟨a, a1, rfl⟩ := tr_sur hV hU hj
  have hB := tr_valid (z1 := z1) (z2 := z2) (z3 := z3) hV hU
  refine tr_back (z1 := z1) (z2 := z2) (z3 := z3) hV hU (V := fun j => (trA n w n.states.toNat z1 z2 z3).fi.contains (j : Int) || (trA n w n.states.toNat z1 z2 z3).rl.any (usedB (j : Int))) (fun f hf => ?_) (fun u hu ht => ?_) a a1
  · simp only [Bool.or_eq_true]
    exact .inl (List.contains_iff_mem.2 hf)
  · have hr := hB.rule u hu
    simp only [Bool.or_eq_true, List.any_eq_true, usedB, decide_eq_true_eq]
    exact ⟨.inr ⟨u, hu, .inl (by omega)⟩, .inr ⟨u, hu, .inr (by omega)⟩⟩
end
end Go.Abs.Tree
