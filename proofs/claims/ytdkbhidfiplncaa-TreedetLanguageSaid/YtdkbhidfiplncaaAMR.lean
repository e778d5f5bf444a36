/- explore: the loops, over any call. -/
import Derived.Test.YtdkbhidfiplncaaAME
import Derived.Test.YtdkbhidfiplncaaAbsWalk3
import Derived.Test.YtdkbhidfiplncaaAMD
namespace Go.Abs.Det
open Go Go.Abs
set_option linter.unusedSimpArgs false
set_option linter.unusedVariables false

def xJm (size : Nat) (bad : Bool) : Int := if bad = true then -1 else (size : Nat)

structure Exp {σ : Type} (v : Int) (B N : Nat) (f : AV) (size : σ → Nat) (bad : σ → Bool) (stp : σ → Nat → Nat → Nat → σ) (I : σ → Nat → xAA → Prop) : Prop where
  v0 : 0 ≤ v
  v3 : v ≤ 3
  n64 : N ≤ 64
  grow : ∀ s lb G X, I s lb G → I s lb (G ++ [X])
  lb : ∀ s lb G, I s lb G → lb < G.length ∧ B ≤ G.length
  le : ∀ s lb G, I s lb G → bad s = false → size s ≤ N
  mono : ∀ s l r x, size s ≤ size (stp s l r x)
  call : ∀ s lb G (l r x p : Nat), I s lb G → bad s = false → l < size s → r < size s → x < two v → B ≤ p → p ≠ lb → p < G.length →
    ∃ G' lb', L.icall f [.int .i64 (l : Nat), .int .i64 (r : Nat), .int .i64 (x : Nat)] G = some (.int .i64 (xJm (size (stp s l r x)) (bad (stp s l r x))), G') ∧ I (stp s l r x) lb' G' ∧ G'[p]? = G[p]? ∧ p ≠ lb'

section
variable {σ : Type} {v : Int} {B N : Nat} {f : AV} {size : σ → Nat} {bad : σ → Bool} {stp : σ → Nat → Nat → Nat → σ} {I : σ → Nat → xAA → Prop}

def goX (bad : σ → Bool) (stp : σ → Nat → Nat → Nat → σ) (l r : Nat) : Nat → Nat → σ → σ
  | _, 0, s => s
  | x, e + 1, s => if bad (stp s l r x) = true then stp s l r x else goX bad stp l r (x + 1) e (stp s l r x)
theorem xGZ (h : ∀ s l r x, size s ≤ size (stp s l r x)) (l r : Nat) : ∀ e x s, size s ≤ size (goX bad stp l r x e s)
  | 0, _, s => Nat.le_refl _
  | e + 1, x, s => by
    unfold goX
    split
    · exact h s l r x
    · exact Nat.le_trans (h s l r x) (xGZ h l r e (x + 1) _)

set_option maxHeartbeats 1000000 in
theorem yDz (hE : Exp v B N f size bad stp I) {l r p : Nat} {s5 s6 s26 s27 : AV} (hp : B ≤ p) : ∀ e x s lb G, x + e = two v → I s lb G → bad s = false → l < size s → r < size s → G[p]? = some (.cells false false [.int .i64 (l : Nat), .int .i64 (r : Nat)]) → p ≠ lb →
    ∃ G' lb' xx, L.loop xLh xSy ⟨xLi (.int .i64 v) f (.int .i64 (size s : Nat)) s5 s6 (.ptr p 0) s26 s27 (.int .i64 (two v : Nat)) (.int .i64 (x : Nat)), G⟩ =
      some (.exit (if bad (goX bad stp l r x e s) = true then 0 else 6), ⟨xLi (.int .i64 v) f (.int .i64 (xJm (size (goX bad stp l r x e s)) (bad (goX bad stp l r x e s)))) s5 s6 (.ptr p 0) s26 s27 (.int .i64 (two v : Nat)) xx, G'⟩) ∧
      I (goX bad stp l r x e s) lb' G' := by
  intro e
  induction e with
  | zero =>
    intro x s lb G h hI hb hl hr hG hpl
    obtain rfl : x = two v := by omega
    refine ⟨G, lb, .int .i64 (two v : Nat), ?_, hI⟩
    have hx8 := (xFf hE.v3).1
    simp only [goX, hb, xJm]
    rw [xP7]
    simp (maxSteps := 30000000) (disch := first | assumption | omega | (simp only [List.length_cons, List.length_nil, List.length_append, List.length_set, List.length_replicate, List.length_map, List.length_range, List.length_take, List.length_drop, List.all_cons, List.all_nil, AV.isCell, Bool.and_self, Bool.and_true, xAh, xAb, xAe, xAa, xAa, xA2, List.length_map] <;> omega) | rfl | decide) only [xLg, xAo, xAf, xAc, xAk, xAH, opv, List.getD_cons_succ, List.getD_cons_zero, xAL, Int.lt_irrefl, decide_false, xAl, xAp, List.set_cons_succ, List.set_cons_zero, xAi, xAg, xAj, xAd, xAq, xAn, Bool.false_eq_true, ↓reduceIte, xBy, xBh, xA9, xH8]
  | succ e ih =>
    intro x s lb G h hI hb hl hr hG hpl
    have hx8 := (xFf hE.v3).1
    have hlt : (x : Int) < (two v : Nat) := by omega
    have hpg := (List.getElem?_eq_some_iff.1 hG).1
    obtain ⟨G1, lb1, c1, c2, c3, c4⟩ := hE.call s lb G l r x p hI hb hl hr (by omega) hp hpl hpg
    have hm := hE.mono s l r x
    unfold goX
    generalize stp s l r x = s' at *
    cases hb' : bad s' with
    | true =>
      rw [hb'] at c1
      refine ⟨G1, lb1, .int .i64 (x : Nat), ?_, by simpa using c2⟩
      simp only [xJm, if_true] at c1 ⊢
      rw [xP7]
      simp (maxSteps := 30000000) (disch := first | assumption | omega | (simp only [List.length_cons, List.length_nil, List.length_append, List.length_set, List.length_replicate, List.length_map, List.length_range, List.length_take, List.length_drop, List.all_cons, List.all_nil, AV.isCell, Bool.and_self, Bool.and_true, xAh, xAb, xAe, xAa, xAa, xA2, List.length_map] <;> omega) | rfl | decide) only [xLg, xAo, xAf, xAc, xAk, xAH, opv, List.getD_cons_succ, List.getD_cons_zero, xAL, hlt, decide_true, xAl, xAp, List.set_cons_succ, List.set_cons_zero, xAi, xAg, xAj, xAd, xAq, xAn, ↓reduceIte, xAG, xAs, xAE, xN8, xJW, Int.toNat_zero, Nat.mul_one, Nat.add_zero, xAP, xA5, hG, xAz, List.drop_zero, List.take_succ_cons, List.take_zero, xAV, Int.toNat_one, Nat.zero_add, List.drop_succ_cons, List.take_nil, xBY, List.map_cons, List.map_nil, c1, Int.reduceNeg, Int.reduceLT, xBy, xA0, Nat.reduceEqDiff, xBh, xA9, xH8, hb']
    | false =>
      rw [hb'] at c1
      obtain ⟨G', lb', xx, f1, f2⟩ := ih (x + 1) s' lb1 G1 (by omega) c2 hb' (by omega) (by omega) (c3.trans hG) c4
      refine ⟨G', lb', xx, ?_, by simpa using f2⟩
      have hnn : ¬ ((size s' : Nat) : Int) < 0 := by omega
      simp only [xJm, Bool.false_eq_true, if_false] at c1 f1 ⊢
      rw [xP7]
      simp (maxSteps := 30000000) (disch := first | assumption | omega | (simp only [List.length_cons, List.length_nil, List.length_append, List.length_set, List.length_replicate, List.length_map, List.length_range, List.length_take, List.length_drop, List.all_cons, List.all_nil, AV.isCell, Bool.and_self, Bool.and_true, xAh, xAb, xAe, xAa, xAa, xA2, List.length_map] <;> omega) | rfl | decide) only [xLg, xAo, xAf, xAc, xAk, xAH, opv, List.getD_cons_succ, List.getD_cons_zero, xAL, hlt, decide_true, xAl, xAp, List.set_cons_succ, List.set_cons_zero, xAi, xAg, xAj, xAd, xAq, xAn, ↓reduceIte, xAG, xAs, xAE, xN8, xJW, Int.toNat_zero, Nat.mul_one, Nat.add_zero, xAP, xA5, hG, xAz, List.drop_zero, List.take_succ_cons, List.take_zero, xAV, Int.toNat_one, Nat.zero_add, List.drop_succ_cons, List.take_nil, xBY, List.map_cons, List.map_nil, c1, hnn, decide_false, Bool.false_eq_true, xAu, xBq, xCE, xDf, xAM, xH8, f1, Int.reduceNeg]
end
end Go.Abs.Det

/- explore, over any call. -/
namespace Go.Abs.Det
open Go Go.Abs
set_option linter.unusedSimpArgs false
set_option linter.unusedVariables false

section
variable {σ : Type} {v : Int} {B N : Nat} {f : AV} {size : σ → Nat} {bad : σ → Bool} {stp : σ → Nat → Nat → Nat → σ} {I : σ → Nat → xAA → Prop}

def goP (bad : σ → Bool) (stp : σ → Nat → Nat → Nat → σ) (n j k : Nat) (s : σ) : σ :=
  if bad (goX bad stp j k 0 n s) = true then goX bad stp j k 0 n s else goX bad stp k j 0 n (goX bad stp j k 0 n s)
def goJ (bad : σ → Bool) (stp : σ → Nat → Nat → Nat → σ) (n k : Nat) : Nat → Nat → σ → σ
  | _, 0, s => s
  | j, e + 1, s => if bad (goP bad stp n j k s) = true then goP bad stp n j k s else goJ bad stp n k (j + 1) e (goP bad stp n j k s)
def goK (size : σ → Nat) (bad : σ → Bool) (stp : σ → Nat → Nat → Nat → σ) (n : Nat) : Nat → Nat → σ → σ
  | _, 0, s => s
  | k, e + 1, s => if k < size s then (if bad (goJ bad stp n k 0 (k + 1) s) = true then goJ bad stp n k 0 (k + 1) s else goK size bad stp n (k + 1) e (goJ bad stp n k 0 (k + 1) s)) else s
theorem xTZ (h : ∀ s l r x, size s ≤ size (stp s l r x)) (n j k : Nat) (s : σ) : size s ≤ size (goP bad stp n j k s) := by
  unfold goP
  split
  · exact xGZ h j k n 0 s
  · exact Nat.le_trans (xGZ h j k n 0 s) (xGZ h k j n 0 _)

set_option maxHeartbeats 1000000 in
theorem yCb (hE : Exp v B N f size bad stp I) {j k : Nat} {s5 s6 : AV} {s : σ} {lb : Nat} {G : xAA} (hI : I s lb G) (hb : bad s = false) (hj : j < size s) (hk : k < size s) :
    ∃ G' lb' yy, L.loop xIa xOM ⟨xGz (.int .i64 v) f (.int .i64 (size s : Nat)) s5 s6 (.agg [.int .i64 (j : Nat), .int .i64 (k : Nat), .int .i64 (k : Nat), .int .i64 (j : Nat)]) (.int .i64 1), G⟩ =
      some (.exit (if bad (goX bad stp k j 0 (two v) s) = true then 0 else 4), ⟨xGz (.int .i64 v) f (.int .i64 (xJm (size (goX bad stp k j 0 (two v) s)) (bad (goX bad stp k j 0 (two v) s)))) s5 s6 (.agg [.int .i64 (j : Nat), .int .i64 (k : Nat), .int .i64 (k : Nat), .int .i64 (j : Nat)]) yy, G'⟩) ∧
      I (goX bad stp k j 0 (two v) s) lb' G' := by
  have hlb := hE.lb s lb G hI
  have hsh := xKN hE.v0 hE.v3
  have hv : ¬ v < 0 := by have := hE.v0; omega
  obtain ⟨G', lb', xx, f1, f2⟩ := yDz hE (l := k) (r := j) (p := G.length) (s5 := s5) (s6 := s6) (s26 := .agg [.int .i64 (j : Nat), .int .i64 (k : Nat), .int .i64 (k : Nat), .int .i64 (j : Nat)]) (s27 := .int .i64 1) hlb.2 (two v) 0 s lb
    (G ++ [.cells false false [.int .i64 (k : Nat), .int .i64 (j : Nat)]]) (by omega) (hE.grow _ _ _ _ hI) hb hk hj (xCY _ _) (by omega)
  generalize goX bad stp k j 0 (two v) s = s' at *
  have e2 : L.loop xIa xOM ⟨xGz (.int .i64 v) f (.int .i64 (size s' : Nat)) s5 s6 (.agg [.int .i64 (j : Nat), .int .i64 (k : Nat), .int .i64 (k : Nat), .int .i64 (j : Nat)]) (.int .i64 2), G'⟩ = some (.exit 4, ⟨xGz (.int .i64 v) f (.int .i64 (size s' : Nat)) s5 s6 (.agg [.int .i64 (j : Nat), .int .i64 (k : Nat), .int .i64 (k : Nat), .int .i64 (j : Nat)]) (.int .i64 2), G'⟩) := by
    rw [xLj]
    simp (maxSteps := 30000000) (disch := first | assumption | omega | (simp only [List.length_cons, List.length_nil, List.length_append, List.length_set, List.length_replicate, List.length_map, List.length_range, List.length_take, List.length_drop, List.all_cons, List.all_nil, AV.isCell, Bool.and_self, Bool.and_true, xAh, xAb, xAe, xAa, xAa, xA2, List.length_map] <;> omega) | rfl | decide) only [xH9, xAo, xAf, xAc, xAk, xAH, opv, List.getD_cons_succ, List.getD_cons_zero, xAL, Int.lt_irrefl, decide_false, xAl, xAp, List.set_cons_succ, List.set_cons_zero, xAi, xAg, xAj, xAd, xAq, xAn, Bool.false_eq_true, ↓reduceIte, xBy, xBh, xA9, xIb]
  simp only [Int.natCast_zero] at f1
  cases hb' : bad s' with
  | true =>
    rw [hb'] at f1
    refine ⟨G', lb', .int .i64 1, ?_, f2⟩
    simp only [xJm, if_true] at f1 ⊢
    rw [xLj]
    simp (maxSteps := 30000000) (disch := first | assumption | omega | (simp only [List.length_cons, List.length_nil, List.length_append, List.length_set, List.length_replicate, List.length_map, List.length_range, List.length_take, List.length_drop, List.all_cons, List.all_nil, AV.isCell, Bool.and_self, Bool.and_true, xAh, xAb, xAe, xAa, xAa, xA2, List.length_map] <;> omega) | rfl | decide) only [xH9, xAo, xAf, xAc, xAk, xAH, opv, List.getD_cons_succ, List.getD_cons_zero, xAL, Int.reduceLT, decide_true, xAl, xAp, List.set_cons_succ, List.set_cons_zero, xAi, xAg, xAj, xAd, xAq, xAn, ↓reduceIte, xAG, xAs, xDy, xCk, Int.toNat_one, Nat.reduceMul, List.drop_succ_cons, List.drop_zero, List.take_succ_cons, List.take_nil, xJt, xBn, AV.cells, List.all_cons, AV.isCell, List.all_nil, Bool.and_self, xBb, List.length_cons, List.length_nil, Nat.zero_add, Nat.reduceAdd, xBH, xCY, List.getElem?_cons_zero, xA3, xBd, List.take_zero, List.nil_append, List.drop_nil, List.append_nil, xDr, xAR, xBl, xAE, xDs, hsh, xBe, xH8, f1, Int.reduceNeg, xA0, Nat.reduceEqDiff, xBh, xA9, xIb]
  | false =>
    rw [hb'] at f1
    refine ⟨G', lb', .int .i64 2, ?_, f2⟩
    simp only [xJm, Bool.false_eq_true, if_false] at f1 ⊢
    rw [xLj]
    simp (maxSteps := 30000000) (disch := first | assumption | omega | (simp only [List.length_cons, List.length_nil, List.length_append, List.length_set, List.length_replicate, List.length_map, List.length_range, List.length_take, List.length_drop, List.all_cons, List.all_nil, AV.isCell, Bool.and_self, Bool.and_true, xAh, xAb, xAe, xAa, xAa, xA2, List.length_map] <;> omega) | rfl | decide) only [xH9, xAo, xAf, xAc, xAk, xAH, opv, List.getD_cons_succ, List.getD_cons_zero, xAL, Int.reduceLT, decide_true, xAl, xAp, List.set_cons_succ, List.set_cons_zero, xAi, xAg, xAj, xAd, xAq, xAn, ↓reduceIte, xAG, xAs, xDy, xCk, Int.toNat_one, Nat.reduceMul, List.drop_succ_cons, List.drop_zero, List.take_succ_cons, List.take_nil, xJt, xBn, AV.cells, List.all_cons, AV.isCell, List.all_nil, Bool.and_self, xBb, List.length_cons, List.length_nil, Nat.zero_add, Nat.reduceAdd, xBH, xCY, List.getElem?_cons_zero, xA3, xBd, List.take_zero, List.nil_append, List.drop_nil, List.append_nil, xDr, xAR, xBl, xAE, xDs, hsh, xBe, xH8, f1, xA0, xAu, xBq, Int.reduceAdd, xDf, xAM, xIb, e2]

set_option maxHeartbeats 1000000 in
theorem yEC (hE : Exp v B N f size bad stp I) {j k : Nat} {s5 s6 : AV} {s : σ} {lb : Nat} {G : xAA} (hI : I s lb G) (hb : bad s = false) (hj : j < size s) (hk : k < size s) :
    ∃ G' lb' yy, L.loop xIa xOM ⟨xGz (.int .i64 v) f (.int .i64 (size s : Nat)) s5 s6 (.agg [.int .i64 (j : Nat), .int .i64 (k : Nat), .int .i64 (k : Nat), .int .i64 (j : Nat)]) (.int .i64 0), G⟩ =
      some (.exit (if bad (goP bad stp (two v) j k s) = true then 0 else 4), ⟨xGz (.int .i64 v) f (.int .i64 (xJm (size (goP bad stp (two v) j k s)) (bad (goP bad stp (two v) j k s)))) s5 s6 (.agg [.int .i64 (j : Nat), .int .i64 (k : Nat), .int .i64 (k : Nat), .int .i64 (j : Nat)]) yy, G'⟩) ∧
      I (goP bad stp (two v) j k s) lb' G' := by
  have hlb := hE.lb s lb G hI
  have hsh := xKN hE.v0 hE.v3
  have hv : ¬ v < 0 := by have := hE.v0; omega
  obtain ⟨G', lb', xx, f1, f2⟩ := yDz hE (l := j) (r := k) (p := G.length) (s5 := s5) (s6 := s6) (s26 := .agg [.int .i64 (j : Nat), .int .i64 (k : Nat), .int .i64 (k : Nat), .int .i64 (j : Nat)]) (s27 := .int .i64 0) hlb.2 (two v) 0 s lb
    (G ++ [.cells false false [.int .i64 (j : Nat), .int .i64 (k : Nat)]]) (by omega) (hE.grow _ _ _ _ hI) hb hj hk (xCY _ _) (by omega)
  have hm := xGZ (bad := bad) hE.mono j k (two v) 0 s
  unfold goP
  generalize goX bad stp j k 0 (two v) s = s' at *
  simp only [Int.natCast_zero] at f1
  cases hb' : bad s' with
  | true =>
    rw [hb'] at f1
    refine ⟨G', lb', .int .i64 0, ?_, by simpa using f2⟩
    simp only [xJm, if_true, hb'] at f1 ⊢
    rw [xLj]
    simp (maxSteps := 30000000) (disch := first | assumption | omega | (simp only [List.length_cons, List.length_nil, List.length_append, List.length_set, List.length_replicate, List.length_map, List.length_range, List.length_take, List.length_drop, List.all_cons, List.all_nil, AV.isCell, Bool.and_self, Bool.and_true, xAh, xAb, xAe, xAa, xAa, xA2, List.length_map] <;> omega) | rfl | decide) only [xH9, xAo, xAf, xAc, xAk, xAH, opv, List.getD_cons_succ, List.getD_cons_zero, xAL, Int.reduceLT, decide_true, xAl, xAp, List.set_cons_succ, List.set_cons_zero, xAi, xAg, xAj, xAd, xAq, xAn, ↓reduceIte, xAG, xAs, xDy, xCk, Int.toNat_zero, Nat.reduceMul, List.drop_zero, List.take_succ_cons, List.take_zero, xJt, xBn, AV.cells, List.all_cons, AV.isCell, List.all_nil, Bool.and_self, xBb, List.length_cons, List.length_nil, Nat.zero_add, Nat.reduceAdd, xBH, xCY, List.getElem?_cons_zero, xA3, xBd, List.nil_append, List.drop_succ_cons, List.drop_nil, List.append_nil, xDr, xAR, xBl, xAE, xDs, hsh, xBe, xH8, f1, Int.reduceNeg, xA0, Nat.reduceEqDiff, xBh, xA9, xIb]
  | false =>
    rw [hb'] at f1
    obtain ⟨G2, lb2, yy, g1, g2⟩ := yCb (s5 := s5) (s6 := s6) hE f2 hb' (show j < size s' by omega) (show k < size s' by omega)
    refine ⟨G2, lb2, yy, ?_, by simpa using g2⟩
    simp only [Bool.false_eq_true, if_false] at f1 g1 ⊢
    generalize hrr : xJm (size s') false = rr at f1
    have hrr' : rr = ((size s' : Nat) : Int) := by rw [← hrr]; rfl
    subst hrr'
    generalize goX bad stp k j 0 (two v) s' = s2 at *
    generalize xJm (size s2) (bad s2) = w at *
    rw [xLj]
    simp (maxSteps := 30000000) (disch := first | assumption | omega | (simp only [List.length_cons, List.length_nil, List.length_append, List.length_set, List.length_replicate, List.length_map, List.length_range, List.length_take, List.length_drop, List.all_cons, List.all_nil, AV.isCell, Bool.and_self, Bool.and_true, xAh, xAb, xAe, xAa, xAa, xA2, List.length_map] <;> omega) | rfl | decide) only [xH9, xAo, xAf, xAc, xAk, xAH, opv, List.getD_cons_succ, List.getD_cons_zero, xAL, Int.reduceLT, decide_true, xAl, xAp, List.set_cons_succ, List.set_cons_zero, xAi, xAg, xAj, xAd, xAq, xAn, ↓reduceIte, xAG, xAs, xDy, xCk, Int.toNat_zero, Nat.reduceMul, List.drop_zero, List.take_succ_cons, List.take_zero, xJt, xBn, AV.cells, List.all_cons, AV.isCell, List.all_nil, Bool.and_self, xBb, List.length_cons, List.length_nil, Nat.zero_add, Nat.reduceAdd, xBH, xCY, List.getElem?_cons_zero, xA3, xBd, List.nil_append, List.drop_succ_cons, List.drop_nil, List.append_nil, xDr, xAR, xBl, xAE, xDs, hsh, xBe, xH8, f1, xA0, xAu, xBq, Int.zero_add, xDf, xAM, xIb, g1]
end
end Go.Abs.Det

/- explore, over any call: the whole. -/
namespace Go.Abs.Det
open Go Go.Abs
set_option linter.unusedSimpArgs false
set_option linter.unusedVariables false

section
variable {σ : Type} {v : Int} {B N : Nat} {f : AV} {size : σ → Nat} {bad : σ → Bool} {stp : σ → Nat → Nat → Nat → σ} {I : σ → Nat → xAA → Prop}

set_option maxHeartbeats 1000000 in
theorem yED (hE : Exp v B N f size bad stp I) {k : Nat} : ∀ e j s lb G, j + e = k + 1 → I s lb G → bad s = false → k < size s →
    ∃ G' lb' yy, L.loop xLl xSz ⟨xLm (.int .i64 v) f (.int .i64 (size s : Nat)) (.int .i64 (k : Nat)) (.int .i64 (j : Nat)), G⟩ =
      some (.exit (if bad (goJ bad stp (two v) k j e s) = true then 0 else 2), ⟨xLm (.int .i64 v) f (.int .i64 (xJm (size (goJ bad stp (two v) k j e s)) (bad (goJ bad stp (two v) k j e s)))) (.int .i64 (k : Nat)) yy, G'⟩) ∧
      I (goJ bad stp (two v) k j e s) lb' G' := by
  intro e
  induction e with
  | zero =>
    intro j s lb G h hI hb hk
    obtain rfl : j = k + 1 := by omega
    have hle := hE.le s lb G hI hb
    have n64 := hE.n64
    refine ⟨G, lb, .int .i64 ((k + 1 : Nat) : Int), ?_, hI⟩
    have c : ¬ (((k + 1 : Nat) : Int) ≤ (k : Nat)) := by omega
    simp only [goJ, hb, xJm]
    rw [xP8]
    simp (maxSteps := 30000000) (disch := first | assumption | omega | (simp only [List.length_cons, List.length_nil, List.length_append, List.length_set, List.length_replicate, List.length_map, List.length_range, List.length_take, List.length_drop, List.all_cons, List.all_nil, AV.isCell, Bool.and_self, Bool.and_true, xAh, xAb, xAe, xAa, xAa, xA2, List.length_map] <;> omega) | rfl | decide) only [xLk, xAo, xAf, xAc, xAk, xAE, opv, List.getD_cons_succ, List.getD_cons_zero, xAp, List.set_cons_succ, List.set_cons_zero, xAi, xAH, xDR, c, decide_false, xAl, xAg, xAj, xAd, xAq, xAn, Bool.false_eq_true, ↓reduceIte, xBy, xBh, xA9, xLn]
  | succ e ih =>
    intro j s lb G h hI hb hk
    have hle := hE.le s lb G hI hb
    have n64 := hE.n64
    have hlt : ((j : Nat) : Int) ≤ (k : Nat) := by omega
    obtain ⟨G1, lb1, yy, f1, f2⟩ := yEC (s5 := .int .i64 (k : Nat)) (s6 := .int .i64 (j : Nat)) hE hI hb (show j < size s by omega) hk
    have hm := xTZ (bad := bad) hE.mono (two v) j k s
    unfold goJ
    generalize goP bad stp (two v) j k s = s' at *
    cases hb' : bad s' with
    | true =>
      rw [hb'] at f1
      refine ⟨G1, lb1, .int .i64 (j : Nat), ?_, by simpa using f2⟩
      simp only [xJm, if_true, hb'] at f1 ⊢
      rw [xP8]
      simp (maxSteps := 30000000) (disch := first | assumption | omega | (simp only [List.length_cons, List.length_nil, List.length_append, List.length_set, List.length_replicate, List.length_map, List.length_range, List.length_take, List.length_drop, List.all_cons, List.all_nil, AV.isCell, Bool.and_self, Bool.and_true, xAh, xAb, xAe, xAa, xAa, xA2, List.length_map] <;> omega) | rfl | decide) only [xLk, xAo, xAf, xAc, xAk, xAE, opv, List.getD_cons_succ, List.getD_cons_zero, xAp, List.set_cons_succ, List.set_cons_zero, xAi, xAH, xDR, hlt, decide_true, xAl, xAg, xAj, xAd, xAq, xAn, ↓reduceIte, xAG, xAs, xCB, AV.cells, List.all_cons, List.length_cons, List.length_nil, Nat.zero_add, beq_self_eq_true, List.all_nil, Bool.and_self, List.map_cons, List.map_nil, xCp, Nat.reduceAdd, Nat.reduceLeDiff, AV.isCell, and_self, xBd, List.take_zero, List.nil_append, List.drop_succ_cons, List.drop_zero, List.cons_append, Nat.le_refl, List.take_succ_cons, List.drop_nil, List.append_nil, Option.map_some, xBe, xIb, f1, Int.reduceNeg, xA0, Nat.reduceEqDiff, xBh, xA9, xLn]
    | false =>
      rw [hb'] at f1
      obtain ⟨G2, lb2, zz, g1, g2⟩ := ih (j + 1) s' lb1 G1 (by omega) f2 hb' (by omega)
      refine ⟨G2, lb2, zz, ?_, by simpa using g2⟩
      simp only [Bool.false_eq_true, if_false] at f1 g1 ⊢
      generalize hrr : xJm (size s') false = rr at f1
      have hrr' : rr = ((size s' : Nat) : Int) := by rw [← hrr]; rfl
      subst hrr'
      generalize goJ bad stp (two v) k (j + 1) e s' = s2 at *
      generalize xJm (size s2) (bad s2) = w at *
      rw [xP8]
      simp (maxSteps := 30000000) (disch := first | assumption | omega | (simp only [List.length_cons, List.length_nil, List.length_append, List.length_set, List.length_replicate, List.length_map, List.length_range, List.length_take, List.length_drop, List.all_cons, List.all_nil, AV.isCell, Bool.and_self, Bool.and_true, xAh, xAb, xAe, xAa, xAa, xA2, List.length_map] <;> omega) | rfl | decide) only [xLk, xAo, xAf, xAc, xAk, xAE, opv, List.getD_cons_succ, List.getD_cons_zero, xAp, List.set_cons_succ, List.set_cons_zero, xAi, xAH, xDR, hlt, decide_true, xAl, xAg, xAj, xAd, xAq, xAn, ↓reduceIte, xAG, xAs, xCB, AV.cells, List.all_cons, List.length_cons, List.length_nil, Nat.zero_add, beq_self_eq_true, List.all_nil, Bool.and_self, List.map_cons, List.map_nil, xCp, Nat.reduceAdd, Nat.reduceLeDiff, AV.isCell, and_self, xBd, List.take_zero, List.nil_append, List.drop_succ_cons, List.drop_zero, List.cons_append, Nat.le_refl, List.take_succ_cons, List.drop_nil, List.append_nil, Option.map_some, xBe, xIb, f1, xA0, xAu, xBq, xCE, xDf, xAM, xLn, g1]

set_option maxHeartbeats 1000000 in
theorem yEE (hE : Exp v B N f size bad stp I) : ∀ e k s lb G, k + e = N → I s lb G → bad s = false →
    ∃ G' lb' zz yy, L.loop xLo xSA ⟨xLp (.int .i64 v) f (.int .i64 (size s : Nat)) (.int .i64 (k : Nat)), G⟩ =
      some (.exit 0, ⟨xLp (.int .i64 v) f zz yy, G'⟩) ∧
      I (goK size bad stp (two v) k e s) lb' G' := by
  intro e
  induction e with
  | zero =>
    intro k s lb G h hI hb
    have hle := hE.le s lb G hI hb
    have n64 := hE.n64
    have c : ¬ ((k : Nat) : Int) < (size s : Nat) := by omega
    refine ⟨G, lb, .int .i64 (size s : Nat), .int .i64 (k : Nat), ?_, hI⟩
    rw [xNT]
    simp (maxSteps := 30000000) (disch := first | assumption | omega | (simp only [List.length_cons, List.length_nil, List.length_append, List.length_set, List.length_replicate, List.length_map, List.length_range, List.length_take, List.length_drop, List.all_cons, List.all_nil, AV.isCell, Bool.and_self, Bool.and_true, xAh, xAb, xAe, xAa, xAa, xA2, List.length_map] <;> omega) | rfl | decide) only [xJF, xAo, xAf, xAc, xAk, xAE, opv, List.getD_cons_succ, List.getD_cons_zero, xAp, List.set_cons_succ, List.set_cons_zero, xAi, xAH, xAL, c, decide_false, xAl, xAg, xAj, xAd, xAq, xAn, Bool.false_eq_true, ↓reduceIte, xBy, xBh, xA9, xLq]
  | succ e ih =>
    intro k s lb G h hI hb
    have hle := hE.le s lb G hI hb
    have n64 := hE.n64
    unfold goK
    by_cases c : k < size s
    · rw [if_pos c]
      have hlt : ((k : Nat) : Int) < (size s : Nat) := by omega
      obtain ⟨G1, lb1, yy, f1, f2⟩ := yED hE (k + 1) 0 s lb G (by omega) hI hb c
      generalize goJ bad stp (two v) k 0 (k + 1) s = s' at *
      simp only [Int.natCast_zero] at f1
      cases hb' : bad s' with
      | true =>
        rw [hb'] at f1
        refine ⟨G1, lb1, .int .i64 (-1), .int .i64 (k : Nat), ?_, by simpa using f2⟩
        simp only [xJm, if_true, hb'] at f1 ⊢
        rw [xNT]
        simp (maxSteps := 30000000) (disch := first | assumption | omega | (simp only [List.length_cons, List.length_nil, List.length_append, List.length_set, List.length_replicate, List.length_map, List.length_range, List.length_take, List.length_drop, List.all_cons, List.all_nil, AV.isCell, Bool.and_self, Bool.and_true, xAh, xAb, xAe, xAa, xAa, xA2, List.length_map] <;> omega) | rfl | decide) only [xJF, xAo, xAf, xAc, xAk, xAE, opv, List.getD_cons_succ, List.getD_cons_zero, xAp, List.set_cons_succ, List.set_cons_zero, xAi, xAH, xAL, hlt, decide_true, xAl, xAg, xAj, xAd, xAq, xAn, ↓reduceIte, xAG, xAs, xBe, xLn, f1, Int.reduceNeg, xA0, Nat.reduceEqDiff, xBh, xA9, xLq]
      | false =>
        rw [hb'] at f1
        obtain ⟨G2, lb2, zz, ww, g1, g2⟩ := ih (k + 1) s' lb1 G1 (by omega) f2 hb'
        refine ⟨G2, lb2, zz, ww, ?_, by simpa using g2⟩
        simp only [Bool.false_eq_true, if_false, xJm] at f1 g1 ⊢
        rw [xNT]
        simp (maxSteps := 30000000) (disch := first | assumption | omega | (simp only [List.length_cons, List.length_nil, List.length_append, List.length_set, List.length_replicate, List.length_map, List.length_range, List.length_take, List.length_drop, List.all_cons, List.all_nil, AV.isCell, Bool.and_self, Bool.and_true, xAh, xAb, xAe, xAa, xAa, xA2, List.length_map] <;> omega) | rfl | decide) only [xJF, xAo, xAf, xAc, xAk, xAE, opv, List.getD_cons_succ, List.getD_cons_zero, xAp, List.set_cons_succ, List.set_cons_zero, xAi, xAH, xAL, hlt, decide_true, xAl, xAg, xAj, xAd, xAq, xAn, ↓reduceIte, xAG, xAs, xBe, xLn, f1, xA0, xAu, xBq, xCE, xDf, xAM, xLq, g1]
    · rw [if_neg c]
      have c' : ¬ ((k : Nat) : Int) < (size s : Nat) := by omega
      refine ⟨G, lb, .int .i64 (size s : Nat), .int .i64 (k : Nat), ?_, hI⟩
      rw [xNT]
      simp (maxSteps := 30000000) (disch := first | assumption | omega | (simp only [List.length_cons, List.length_nil, List.length_append, List.length_set, List.length_replicate, List.length_map, List.length_range, List.length_take, List.length_drop, List.all_cons, List.all_nil, AV.isCell, Bool.and_self, Bool.and_true, xAh, xAb, xAe, xAa, xAa, xA2, List.length_map] <;> omega) | rfl | decide) only [xJF, xAo, xAf, xAc, xAk, xAE, opv, List.getD_cons_succ, List.getD_cons_zero, xAp, List.set_cons_succ, List.set_cons_zero, xAi, xAH, xAL, c', decide_false, xAl, xAg, xAj, xAd, xAq, xAn, Bool.false_eq_true, ↓reduceIte, xBy, xBh, xA9, xLq]

theorem xR1 (hE : Exp v B N f size bad stp I) {s : σ} {lb : Nat} {G : xAA} (hI : I s lb G) (hb : bad s = false) (h1 : size s = 1) :
    ∃ G' lb', L.icall (.func 75 []) [.int .i64 v, f] G = some (.tup [], G') ∧ I (goK size bad stp (two v) 0 N s) lb' G' := by
  obtain ⟨G', lb', zz, yy, f1, f2⟩ := yEE hE N 0 s lb G (by omega) hI hb
  refine ⟨G', lb', ?_, f2⟩
  have h1' : ((size s : Nat) : Int) = 1 := by omega
  rw [h1'] at f1
  simp only [Int.natCast_zero] at f1
  rw [yDS, a75, xAI]
  simp (maxSteps := 30000000) (disch := first | assumption | omega | (simp only [List.length_cons, List.length_nil, List.length_append, List.length_set, List.length_replicate, List.length_map, List.length_range, List.length_take, List.length_drop, List.all_cons, List.all_nil, AV.isCell, Bool.and_self, Bool.and_true, xAh, xAb, xAe, xAa, xAa, xA2, List.length_map] <;> omega) | rfl | decide) only [List.append_nil, List.length_cons, List.length_nil, Nat.zero_add, Nat.reduceAdd, Nat.reduceSub, xB8, List.cons_append, List.nil_append, xIt, xAo, xAf, xAc, xAk, xAE, opv, xAp, List.set_cons_succ, List.set_cons_zero, xAi, xAg, xAj, xAd, xIs, xAs, xBe, xLq, f1, xA0, ↓reduceIte, xLI, xQr, xAr]
end
end Go.Abs.Det

/- renumber: its calls. -/
namespace Go.Abs.Det
open Go Go.Abs
set_option linter.unusedSimpArgs false
set_option linter.unusedVariables false

def yDA (D : Da) (o : List Int) (l r x : Nat) : List Int :=
  if nx D (o.getD l 0) (o.getD r 0) x ∈ o then o else o ++ [nx D (o.getD l 0) (o.getD r 0) x]
structure OrdOk (D : Da) (o : List Int) : Prop where
  nd : o.Nodup
  bd : ∀ s ∈ o, 0 ≤ s ∧ s < D.next.length
theorem xT0 : ∀ {o : List Int} {n : Nat}, o.Nodup → (∀ s ∈ o, 0 ≤ s ∧ s < (n : Int)) → o.length ≤ n := by
  intro o n hn hb
  refine xR5 n o.length (fun i => (o.getD i 0).toNat) (fun i hi => ?_) (fun i j hi hj e => ?_)
  · have := hb _ (xCy (a := (0 : Int)) hi); omega
  · have h1 := hb _ (xCy (a := (0 : Int)) hi)
    have h2 := hb _ (xCy (a := (0 : Int)) hj)
    have h3 : o.getD i 0 = o.getD j 0 := by
      have e' : (o.getD i 0).toNat = (o.getD j 0).toNat := e
      omega
    rw [List.getD_eq_getElem?_getD, List.getD_eq_getElem?_getD, List.getElem?_eq_getElem hi, List.getElem?_eq_getElem hj] at h3
    have hp := List.pairwise_iff_getElem.1 hn
    have h4 : o[i] = o[j] := Option.some.inj (by simpa using h3)
    rcases Nat.lt_trichotomy i j with q | q | q
    · exact absurd h4 (hp i j hi hj q)
    · exact q
    · exact absurd h4.symm (hp j i hj hi q)
theorem OrdOk.le {D : Da} {o : List Int} (h : OrdOk D o) : o.length ≤ D.next.length := xT0 h.nd h.bd
theorem OrdOk.step {D : Da} {o : List Int} (hV : Va D) (h : OrdOk D o) {l r x : Nat} (hl : l < o.length) (hr : r < o.length) (hx : x < two D.vars) : OrdOk D (yDA D o l r x) := by
  unfold yDA
  split
  · exact h
  · rename_i c
    refine ⟨?_, fun s hs => ?_⟩
    · rw [List.nodup_append]
      refine ⟨h.nd, by simp, fun a ha b hb => ?_⟩
      rw [List.mem_singleton] at hb
      subst hb
      intro e
      subst e
      exact c ha
    · rcases List.mem_append.1 hs with q | q
      · exact h.bd s q
      · rw [List.mem_singleton] at q
        subst q
        exact xZF hV (h.bd _ (xCy hl)) (h.bd _ (xCy hr)) hx

end Go.Abs.Det

/- renumber: explore over it; the reading calls. -/
namespace Go.Abs.Det
open Go Go.Abs
set_option linter.unusedSimpArgs false
set_option linter.unusedVariables false

end Go.Abs.Det

/- built: a row. -/
namespace Go.Abs.Det
open Go Go.Abs
set_option linter.unusedSimpArgs false
set_option linter.unusedVariables false

structure Rd (v : Int) (n B : Nat) (f g : AV) (nxt : Nat → Nat → Nat → Int) (fin : Nat → Bool) (J : xAA → Prop) : Prop where
  v0 : 0 ≤ v
  v3 : v ≤ 3
  n0 : 0 < n
  n64 : n ≤ 64
  keep : ∀ G G', J G → (∀ b, b < B → G'[b]? = G[b]?) → J G'
  nx : ∀ G (l r x : Nat), J G → l < n → r < n → x < two v → L.icall f [.int .i64 (l : Nat), .int .i64 (r : Nat), .int .i64 (x : Nat)] G = some (.int .i64 (nxt l r x), G)
  fn : ∀ G (l : Nat), J G → l < n → ∃ T : xAA, L.icall g [.int .i64 (l : Nat)] G = some (.bool (fin l), G ++ T)

def rvL (nxt : Nat → Nat → Nat → Int) (l r x : Nat) : List Int := (List.range x).map (nxt l r)
theorem xKR (nxt : Nat → Nat → Nat → Int) (l r x : Nat) : (rvL nxt l r x).length = x := by simp [rvL]
theorem xT1 (nxt : Nat → Nat → Nat → Int) (l r x : Nat) : rvL nxt l r (x + 1) = rvL nxt l r x ++ [nxt l r x] := by
  unfold rvL; rw [List.range_succ, List.map_append]; rfl

section
variable {v : Int} {n B rb l r : Nat} {f g : AV} {nxt : Nat → Nat → Nat → Int} {fin : Nat → Bool} {J : xAA → Prop} {s8 s9 s16 s17 s23 s24 : AV}

set_option maxHeartbeats 1000000 in
theorem yCc (hR : Rd v n B f g nxt fin J) (hl : l < n) (hr : r < n) (hrb : B ≤ rb) : ∀ e x G cs id, x + e = two v → 1 ≤ x → J G → G[rb]? = some (.cells false false cs) → cs.length = n → cs[r]? = some (.own false id 0 x 1) → G[id]? = some (.cells false false (xCK (rvL nxt l r x))) → id ≠ rb → B ≤ id →
    ∃ G' : xAA, ∃ id', L.loop xJD xP0 ⟨xH6 (.int .i64 v) (.int .i64 (n : Nat)) f g s8 s9 (.int .i64 (l : Nat)) (.own false rb 0 n 1) (.int .i64 (r : Nat)) s16 s17 s23 s24 (.int .i64 (two v : Nat)) (.int .i64 (x : Nat)), G⟩ =
      some (.exit 4, ⟨xH6 (.int .i64 v) (.int .i64 (n : Nat)) f g s8 s9 (.int .i64 (l : Nat)) (.own false rb 0 n 1) (.int .i64 (r : Nat)) s16 s17 s23 s24 (.int .i64 (two v : Nat)) (.int .i64 (two v : Nat)), G'⟩) ∧
      G'[rb]? = some (.cells false false (cs.set r (.own false id' 0 (two v) 1))) ∧ G'[id']? = some (.cells false false (xCK (rvL nxt l r (two v)))) ∧ id' ≠ rb ∧ B ≤ id' ∧ (id' = id ∨ G.length ≤ id') ∧
      (∀ b, b < G.length → b ≠ rb → b ≠ id → G'[b]? = G[b]?) ∧ G.length ≤ G'.length := by
  intro e
  induction e with
  | zero =>
    intro x G cs id h hx1 hJ hG hcl hc hid hne hB
    obtain rfl : x = two v := by omega
    have h8 := (xFf hR.v3).1
    refine ⟨G, id, ?_, ?_, hid, hne, hB, .inl rfl, fun _ _ _ _ => rfl, Nat.le_refl _⟩
    · rw [xP1]
      simp (maxSteps := 30000000) (disch := first | assumption | omega | (simp only [List.length_cons, List.length_nil, List.length_append, List.length_set, List.length_replicate, List.length_map, List.length_range, List.length_take, List.length_drop, List.all_cons, List.all_nil, AV.isCell, Bool.and_self, Bool.and_true, xAh, xAb, xAe, xAa, xAa, xA2, List.length_map] <;> omega) | rfl | decide) only [xK8, xAo, xAf, xAc, xAk, xAH, opv, List.getD_cons_succ, List.getD_cons_zero, xAL, Int.lt_irrefl, decide_false, xAl, xAp, List.set_cons_succ, List.set_cons_zero, xAi, xAg, xAj, xAd, xAq, xAn, Bool.false_eq_true, ↓reduceIte, xBy, xBh, xA9, xNM]
    · obtain ⟨h1, h2⟩ := List.getElem?_eq_some_iff.1 hc
      rw [← h2, List.set_getElem_self]; exact hG
  | succ e ih =>
    intro x G cs id h hx1 hJ hG hcl hc hid hne hB
    have h8 := (xFf hR.v3).1
    have n64 := hR.n64
    have hlt : (x : Int) < (two v : Nat) := by omega
    have hrl := (List.getElem?_eq_some_iff.1 hG).1
    have hil := (List.getElem?_eq_some_iff.1 hid).1
    have hnx := hR.nx G l r x hJ hl hr (by omega)
    have hrv := xT1 nxt l r x
    have hrl2 := xKR nxt l r x
    generalize nxt l r x = y at *
    obtain ⟨G1, hG1⟩ : ∃ G1 : xAA, G1 = (G.set id .dead ++ [Blk.cells false false (xCK (rvL nxt l r x ++ [y]))]).set rb (.cells false false (cs.set r (.own false G.length 0 (x + 1) 1))) := ⟨_, rfl⟩
    have old : ∀ b, b < G.length → b ≠ rb → b ≠ id → G1[b]? = G[b]? := fun b h1 h2 h3 => by
      rw [hG1, List.getElem?_set_ne (Ne.symm h2), List.getElem?_append_left (by simpa using h1), List.getElem?_set_ne (Ne.symm h3)]
    have hlen1 : G1.length = G.length + 1 := by rw [hG1]; simp
    obtain ⟨G', id', f1, f2, f3, f4, f5, f6, f7, f8⟩ := ih (x + 1) G1 (cs.set r (.own false G.length 0 (x + 1) 1)) G.length (by omega) (by omega) (hR.keep G G1 hJ fun b hb => old b (by omega) (by omega) (by omega))
      (by rw [hG1]; exact List.getElem?_set_self (by simp; omega)) (by simpa using hcl) (List.getElem?_set_self (by omega))
      (by rw [hG1, hrv, List.getElem?_set_ne (by omega), List.getElem?_append_right (by simp)]; simp) (by omega) (by omega)
    refine ⟨G', id', ?_, ?_, f3, f4, f5, .inr (by omega), fun b h1 h2 h3 => by rw [f7 b (by omega) h2 (by omega), old b h1 h2 h3], by omega⟩
    · have gc : List.take 1 (List.drop r cs) = [.own false id 0 x 1] := by
        obtain ⟨h1, h2⟩ := List.getElem?_eq_some_iff.1 hc
        rw [List.drop_eq_getElem_cons h1, h2]; rfl
      have htk : List.take x (rvL nxt l r x) = rvL nxt l r x := List.take_of_length_le (by omega)
      have hints : xCK (rvL nxt l r x) ++ [AV.int .i64 y] = xCK (rvL nxt l r x ++ [y]) := by simp [xCK]
      have zr : ∀ T : xAA, (G.set id .dead ++ T)[rb]? = some (.cells false false cs) := fun T => xBL (by rw [List.getElem?_set_ne hne]; exact hG)
      have hsame : xEL G G (.ptr rb r) 1 = true := by
        have h1 : rd G (.ptr rb r) 1 = some [.own false id 0 x 1] := by
          rw [xA5, hG, xAz (by omega), gc]
        simp [xEL, h1, xRb]
      have hwr : ∀ X : AV, List.take r cs ++ X :: List.drop (r + 1) cs = cs.set r X := fun X => by rw [List.set_eq_take_append_cons_drop, if_pos (by omega)]
      rw [hG1] at f1
      rw [xP1]
      simp (maxSteps := 30000000) (disch := first | assumption | omega | (simp only [List.length_cons, List.length_nil, List.length_append, List.length_set, List.length_replicate, List.length_map, List.length_range, List.length_take, List.length_drop, List.all_cons, List.all_nil, AV.isCell, Bool.and_self, Bool.and_true, xAh, xAb, xAe, xAa, xAa, xA2, List.length_map] <;> omega) | rfl | decide) only [xK8, xAo, xAf, xAc, xAk, xAH, opv, List.getD_cons_succ, List.getD_cons_zero, xAL, hlt, decide_true, xAl, xAp, List.set_cons_succ, List.set_cons_zero, xAi, xAg, xAj, xAd, xAq, xAn, ↓reduceIte, xAG, xAs, xAE, xG1, List.take_succ_cons, List.take_zero, xEp, xJV, Bool.false_eq_true, xBo, xCU, xBB, xBM, xEW, xHD, xCC, xA4, xBV, Int.toNat_natCast, Nat.mul_one, Nat.zero_add, xEX, xB4, xAP, xA5, hG, xAz, gc, xAV, xEV, xFR, xE7, List.drop_succ_cons, List.drop_zero, xFQ, xB0, xG2, Nat.reduceSub, xF2, xBY, List.map_cons, List.map_nil, hnx, xF1, hsame, xCc, AV.cells, List.all_cons, List.length_cons, List.length_nil, beq_self_eq_true, List.all_nil, Bool.and_self, xDM, List.append_nil, xCp, Nat.le_refl, AV.isCell, and_self, xBd, List.nil_append, List.drop_nil, xCb, xCn, xBI, List.flatMap_cons, xBR, List.flatMap_nil, List.isEmpty_nil, List.mapM_cons, xAW, List.mapM_nil, Option.pure_def, Option.bind_eq_bind, Option.bind_some, xB5, xB1, xDx, xEo, hid, xDh, Nat.reduceBEq, xB7, htk, hints, xBb, xBH, zr, xA3, List.append_assoc, List.cons_append, hwr, xAR, xBl, xEP, xF0, xAu, xBq, xCE, xDf, xAM, xNM, f1]
    · rw [f2, List.set_set]
end
end Go.Abs.Det

/- built: the rows of a state. -/
namespace Go.Abs.Det
open Go Go.Abs
set_option linter.unusedSimpArgs false
set_option linter.unusedVariables false

section
variable {v : Int} {n B rb l : Nat} {f g : AV} {nxt : Nat → Nat → Nat → Int} {fin : Nat → Bool} {J : xAA → Prop} {s8 s9 s16 s17 s23 s24 : AV}

set_option maxHeartbeats 1000000 in
theorem xXh (hR : Rd v n B f g nxt fin J) {r : Nat} (hl : l < n) (hr : r < n) (hrb : B ≤ rb) {G : xAA} {cs : List AV} (hJ : J G) (hG : G[rb]? = some (.cells false false cs)) (hcl : cs.length = n) (hc : cs[r]? = some (.sl true 0 [])) :
    ∃ G' : xAA, ∃ id', L.loop xJD xP0 ⟨xH6 (.int .i64 v) (.int .i64 (n : Nat)) f g s8 s9 (.int .i64 (l : Nat)) (.own false rb 0 n 1) (.int .i64 (r : Nat)) s16 s17 s23 s24 (.int .i64 (two v : Nat)) (.int .i64 0), G⟩ =
      some (.exit 4, ⟨xH6 (.int .i64 v) (.int .i64 (n : Nat)) f g s8 s9 (.int .i64 (l : Nat)) (.own false rb 0 n 1) (.int .i64 (r : Nat)) s16 s17 s23 s24 (.int .i64 (two v : Nat)) (.int .i64 (two v : Nat)), G'⟩) ∧
      G'[rb]? = some (.cells false false (cs.set r (.own false id' 0 (two v) 1))) ∧ G'[id']? = some (.cells false false (xCK (rvL nxt l r (two v)))) ∧ id' ≠ rb ∧ G.length ≤ id' ∧
      (∀ b, b < G.length → b ≠ rb → G'[b]? = G[b]?) ∧ G.length ≤ G'.length := by
  have h8 := (xFf hR.v3).1
  have h80 := (xFf hR.v3).2
  have n64 := hR.n64
  have hrl := (List.getElem?_eq_some_iff.1 hG).1
  have hnx := hR.nx G l r 0 hJ hl hr h80
  have hrv : rvL nxt l r 1 = [nxt l r 0] := rfl
  generalize nxt l r 0 = y at *
  obtain ⟨G1, hG1⟩ : ∃ G1 : xAA, G1 = (G ++ [Blk.cells false false [AV.int .i64 y]]).set rb (.cells false false (cs.set r (.own false G.length 0 1 1))) := ⟨_, rfl⟩
  have old : ∀ b, b < G.length → b ≠ rb → G1[b]? = G[b]? := fun b h1 h2 => by
    rw [hG1, List.getElem?_set_ne (Ne.symm h2), List.getElem?_append_left h1]
  have hlen1 : G1.length = G.length + 1 := by rw [hG1]; simp
  obtain ⟨G', id', f1, f2, f3, f4, f5, f6, f7, f8⟩ := yCc (s8 := s8) (s9 := s9) (s16 := s16) (s17 := s17) (s23 := s23) (s24 := s24) hR hl hr hrb (two v - 1) 1 G1 (cs.set r (.own false G.length 0 1 1)) G.length (by omega) (Nat.le_refl _) (hR.keep G G1 hJ fun b hb => old b (by omega) (by omega))
    (by rw [hG1]; exact List.getElem?_set_self (by simp; omega)) (by simpa using hcl) (List.getElem?_set_self (by omega))
    (by rw [hG1, hrv, List.getElem?_set_ne (by omega)]; simp [xCK]) (by omega) (by omega)
  refine ⟨G', id', ?_, by rw [f2, List.set_set], f3, f4, by omega, fun b h1 h2 => by rw [f7 b (by omega) h2 (by omega), old b h1 h2], by omega⟩
  have gc : List.take 1 (List.drop r cs) = [.sl true 0 []] := by
    obtain ⟨h1, h2⟩ := List.getElem?_eq_some_iff.1 hc
    rw [List.drop_eq_getElem_cons h1, h2]; rfl
  have hsame : xEL G G (.ptr rb r) 1 = true := by
    have h1 : rd G (.ptr rb r) 1 = some [.sl true 0 []] := by
      rw [xA5, hG, xAz (by omega), gc]
    simp [xEL, h1, xRb]
  have hwr : ∀ X : AV, List.take r cs ++ X :: List.drop (r + 1) cs = cs.set r X := fun X => by rw [List.set_eq_take_append_cons_drop, if_pos (by omega)]
  have zr : ∀ T : xAA, (G ++ T)[rb]? = some (.cells false false cs) := fun T => xBL hG
  have hlt : (0 : Int) < (two v : Nat) := by omega
  rw [hG1] at f1
  simp only [Int.natCast_zero, Int.natCast_one] at f1 hnx
  rw [xP1]
  simp (maxSteps := 30000000) (disch := first | assumption | omega | (simp only [List.length_cons, List.length_nil, List.length_append, List.length_set, List.length_replicate, List.length_map, List.length_range, List.length_take, List.length_drop, List.all_cons, List.all_nil, AV.isCell, Bool.and_self, Bool.and_true, xAh, xAb, xAe, xAa, xAa, xA2, List.length_map] <;> omega) | rfl | decide) only [xK8, xAo, xAf, xAc, xAk, xAH, opv, List.getD_cons_succ, List.getD_cons_zero, xAL, hlt, decide_true, xAl, xAp, List.set_cons_succ, List.set_cons_zero, xAi, xAg, xAj, xAd, xAq, xAn, ↓reduceIte, xAG, xAs, xAE, xG1, List.take_succ_cons, List.take_zero, xEp, xJV, Bool.false_eq_true, xBo, xCU, xBB, xBM, xEW, xHD, xCC, xA4, xBV, Int.toNat_natCast, Nat.mul_one, Nat.zero_add, xEX, xB4, xAP, xA5, hG, xAz, gc, xAV, xEV, xFR, xE7, List.drop_succ_cons, List.drop_zero, xFQ, xB0, xG2, Nat.reduceSub, xF2, xBY, List.map_cons, List.map_nil, hnx, xF1, hsame, xCc, AV.cells, List.all_cons, List.length_cons, List.length_nil, beq_self_eq_true, List.all_nil, Bool.and_self, xDM, List.append_nil, xCp, Nat.le_refl, AV.isCell, and_self, xBd, List.nil_append, List.drop_nil, xCb, xCn, xBI, List.flatMap_cons, xBR, List.flatMap_nil, List.isEmpty_nil, List.mapM_cons, xAW, List.mapM_nil, Option.pure_def, Option.bind_eq_bind, Option.bind_some, xB5, xB1, xDx, xDw, Nat.reduceBEq, xCO, xBb, xBH, zr, xA3, List.append_assoc, List.cons_append, hwr, xAR, xBl, xEP, xF0, xAu, xBq, Int.zero_add, xDf, xAM, xNM, f1]

structure RowsAt (v : Int) (nxt : Nat → Nat → Nat → Int) (n B rb l r : Nat) (G : xAA) (cs : List AV) : Prop where
  len : cs.length = n
  blk : G[rb]? = some (.cells false false cs)
  don : ∀ i, i < r → ∃ id, cs[i]? = some (.own false id 0 (two v) 1) ∧ G[id]? = some (.cells false false (xCK (rvL nxt l i (two v)))) ∧ rb < id
  nil : ∀ i, r ≤ i → i < n → cs[i]? = some (.sl true 0 [])

set_option maxHeartbeats 1000000 in
theorem xT2 (hR : Rd v n B f g nxt fin J) (hl : l < n) (hrb : B ≤ rb) : ∀ e r G cs, r + e = n → J G → RowsAt v nxt n B rb l r G cs →
    ∃ G' cs', L.loop xK9 xSv ⟨xLa (.int .i64 v) (.int .i64 (n : Nat)) f g s8 s9 (.int .i64 (l : Nat)) (.own false rb 0 n 1) s16 s17 (.int .i64 (n : Nat)) (.int .i64 (r : Nat)), G⟩ =
      some (.exit 2, ⟨xLa (.int .i64 v) (.int .i64 (n : Nat)) f g s8 s9 (.int .i64 (l : Nat)) (.own false rb 0 n 1) s16 s17 (.int .i64 (n : Nat)) (.int .i64 (n : Nat)), G'⟩) ∧
      RowsAt v nxt n B rb l n G' cs' ∧ (∀ b, b < G.length → b ≠ rb → G'[b]? = G[b]?) ∧ G.length ≤ G'.length := by
  have n64 := hR.n64
  have hsh := xKN hR.v0 hR.v3
  have hv : ¬ v < 0 := by have := hR.v0; omega
  intro e
  induction e with
  | zero =>
    intro r G cs h hJ hA
    obtain rfl : r = n := by omega
    refine ⟨G, cs, ?_, hA, fun _ _ _ => rfl, Nat.le_refl _⟩
    rw [xUv]
    simp (maxSteps := 30000000) (disch := first | assumption | omega | (simp only [List.length_cons, List.length_nil, List.length_append, List.length_set, List.length_replicate, List.length_map, List.length_range, List.length_take, List.length_drop, List.all_cons, List.all_nil, AV.isCell, Bool.and_self, Bool.and_true, xAh, xAb, xAe, xAa, xAa, xA2, List.length_map] <;> omega) | rfl | decide) only [xNN, xAo, xAf, xAc, xAk, xAH, opv, List.getD_cons_succ, List.getD_cons_zero, xAL, Int.lt_irrefl, decide_false, xAl, xAp, List.set_cons_succ, List.set_cons_zero, xAi, xAg, xAj, xAd, xAq, xAn, Bool.false_eq_true, ↓reduceIte, xBy, xBh, xA9, xNO]
  | succ e ih =>
    intro r G cs h hJ hA
    have hlt : (r : Int) < (n : Nat) := by omega
    have hrl := (List.getElem?_eq_some_iff.1 hA.blk).1
    obtain ⟨G1, id, r1, r2, r3, r4, r5, r6, r7⟩ := xXh (s8 := s8) (s9 := s9) (s16 := s16) (s17 := s17) (s23 := .int .i64 (n : Nat)) (s24 := .int .i64 (r : Nat)) hR hl (show r < n by omega) hrb hJ hA.blk hA.len (hA.nil r (Nat.le_refl _) (by omega))
    have hil := (List.getElem?_eq_some_iff.1 r3).1
    obtain ⟨G', cs', f1, f2, f3, f4⟩ := ih (r + 1) G1 (cs.set r (.own false id 0 (two v) 1)) (by omega) (hR.keep G G1 hJ fun b hb => r6 b (by omega) (by omega))
      ⟨by simpa using hA.len, r2, fun i hi => by
        by_cases c : i = r
        · subst c
          exact ⟨id, List.getElem?_set_self (by rw [hA.len]; omega), r3, by omega⟩
        · obtain ⟨id2, d1, d2, d3⟩ := hA.don i (by omega)
          exact ⟨id2, by rw [List.getElem?_set_ne (Ne.symm c)]; exact d1, by rw [r6 id2 (List.getElem?_eq_some_iff.1 d2).1 (by omega)]; exact d2, d3⟩,
       fun i hi hn => by rw [List.getElem?_set_ne (by omega)]; exact hA.nil i (by omega) hn⟩
    refine ⟨G', cs', ?_, f2, fun b h1 h2 => by rw [f3 b (by omega) h2, r6 b h1 h2], by omega⟩
    rw [xUv]
    simp (maxSteps := 30000000) (disch := first | assumption | omega | (simp only [List.length_cons, List.length_nil, List.length_append, List.length_set, List.length_replicate, List.length_map, List.length_range, List.length_take, List.length_drop, List.all_cons, List.all_nil, AV.isCell, Bool.and_self, Bool.and_true, xAh, xAb, xAe, xAa, xAa, xA2, List.length_map] <;> omega) | rfl | decide) only [xNN, xAo, xAf, xAc, xAk, xAH, opv, List.getD_cons_succ, List.getD_cons_zero, xAL, hlt, decide_true, xAl, xAp, List.set_cons_succ, List.set_cons_zero, xAi, xAg, xAj, xAd, xAq, xAn, ↓reduceIte, xAG, xAs, xAE, xDs, hsh, xBe, xNM, r1, xA0, xAu, xBq, xCE, xDf, xAM, xNO, f1]
end
end Go.Abs.Det

/- built: a state's rows as a value; what is under way. -/
namespace Go.Abs.Det
open Go Go.Abs
set_option linter.unusedSimpArgs false
set_option linter.unusedVariables false

def xHt (v : Int) (nxt : Nat → Nat → Nat → Int) (n l : Nat) : List (List Int) := (List.range n).map fun r => rvL nxt l r (two v)
def xFj (v : Int) (nxt : Nat → Nat → Nat → Int) (n l : Nat) : List (List (List Int)) := (List.range l).map (xHt v nxt n)
def xJn (fin : Nat → Bool) (l : Nat) : List Bool := (List.range l).map fin
theorem xG0 (fin : Nat → Bool) (l : Nat) : (xJn fin l).length = l := by simp [xJn]
theorem xR2 (fin : Nat → Bool) (l : Nat) : xJn fin (l + 1) = xJn fin l ++ [fin l] := by
  unfold xJn; rw [List.range_succ, List.map_append]; rfl
theorem xCr (v : Int) (nxt : Nat → Nat → Nat → Int) (n l : Nat) : (xFj v nxt n l).length = l := by simp [xFj]
theorem xPw (v : Int) (nxt : Nat → Nat → Nat → Int) (n l : Nat) : xFj v nxt n (l + 1) = xFj v nxt n l ++ [xHt v nxt n l] := by
  unfold xFj; rw [List.range_succ, List.map_append]; rfl
theorem xEO (v : Int) (nxt : Nat → Nat → Nat → Int) (n l : Nat) : (xHt v nxt n l).length = n := by simp [xHt]

theorem xXi {v : Int} {nxt : Nat → Nat → Nat → Int} {n B rb l : Nat} {G : xAA} {cs : List AV} (hn : 0 < n) (h : RowsAt v nxt n B rb l n G cs) : Fz 2 G rb (.own false rb 0 n 1) (xFi (xHt v nxt n l)) := by
  have hg : Grow 1 G rb (.own false rb 0 n 1) ((xHt v nxt n l).map xPp) := .inr ⟨rb, cs, by rw [List.length_map, xEO], h.blk, Nat.le_refl _, by rw [List.length_map, xEO]; exact h.len, fun i c t hc ht => by
    have hi : i < n := by have := (List.getElem?_eq_some_iff.1 hc).1; rw [h.len] at this; exact this
    obtain ⟨id, d1, d2, d3⟩ := h.don i hi
    rw [d1] at hc
    obtain rfl := Option.some.inj hc
    have ht' : t = xPp (rvL nxt l i (two v)) := by
      unfold xHt at ht
      simp [hi] at ht
      exact ht.symm
    subst ht'
    have hrow := Fz.row (G := G) (B := rb + 1) (id := id) (es := 1) (n := two v) (cs := xCK (rvL nxt l i (two v))) d2 (xRB _) (by rw [xAa, xKR, Nat.mul_one]) d3
    have e1 : xPp (rvL nxt l i (two v)) = .sl false (two v) (xCK (rvL nxt l i (two v))) := by unfold xPp; rw [xKR]
    rw [e1]
    exact ⟨hrow.low (by omega), fun d hd hm => by have := (hrow d hd).2 _ hm; omega⟩⟩
  have := hg.fz
  rw [List.length_map, xEO] at this
  have hz : (n == 0) = false := by rw [beq_eq_false_iff_ne]; omega
  rw [hz] at this
  have e2 : xFi (xHt v nxt n l) = .sl false n ((xHt v nxt n l).map xPp) := by unfold xFi; rw [xEO]
  rw [e2]
  rcases this with q | q
  · exact q
  · have := congrArg List.length q
    rw [List.length_map, xEO] at this
    simp at this; omega

inductive UB (v : Int) (nxt : Nat → Nat → Nat → Int) (fin : Nat → Bool) (n q l : Nat) (G : xAA) : Prop
  | zero (h : l = 0) (h2 : G[q]? = some (.cells false false [.int .i64 v, .int .i64 0, .sl true 0 [], .sl true 0 []]))
  | more (id f : Nat) (cs : List AV) (h : l ≠ 0) (h2 : G[q]? = some (.cells false false [.int .i64 v, .int .i64 0, .own false id 0 l 1, .own false f 0 l 1]))
      (hi : G[id]? = some (.cells false false cs)) (hf : G[f]? = some (.cells false false (xEk (xJn fin l)))) (i3 : q < id) (f3 : q < f) (hne : id ≠ f) (hl : cs.length = l)
      (he : ∀ (i : Nat) (c t : AV), cs[i]? = some c → ((xFj v nxt n l).map xFi)[i]? = some t → Fz 2 G (q + 1) c t ∧ ∀ d, 2 ≤ d → id ∉ bor d G c ∧ f ∉ bor d G c)
end Go.Abs.Det

/- built: all states. -/
namespace Go.Abs.Det
open Go Go.Abs
set_option linter.unusedSimpArgs false
set_option linter.unusedVariables false

theorem xOB (a : AV) : ∀ n, xEg [a] n = List.replicate n a
  | 0 => rfl
  | n + 1 => by
    show [a] ++ xEg [a] n = _
    rw [xOB a n]; rfl

section
variable {v : Int} {n B q : Nat} {f g : AV} {nxt : Nat → Nat → Nat → Int} {fin : Nat → Bool} {J : xAA → Prop} {s8 : AV}

set_option maxRecDepth 10000 in
set_option maxHeartbeats 4000000 in
theorem xPx (hR : Rd v n B f g nxt fin J) (hq : B ≤ q) : ∀ e l G, l + e = n → J G → UB v nxt fin n q l G →
    ∃ G', L.loop xLc xSw ⟨xLd (.int .i64 v) (.int .i64 (n : Nat)) f g s8 (.ptr q 0) (.int .i64 (n : Nat)) (.int .i64 (l : Nat)), G⟩ =
      some (.exit 0, ⟨xLd (.int .i64 v) (.int .i64 (n : Nat)) f g s8 (.ptr q 0) (.int .i64 (n : Nat)) (.int .i64 (n : Nat)), G'⟩) ∧ UB v nxt fin n q n G' ∧ (∀ b, b < q → G'[b]? = G[b]?) ∧ G.length ≤ G'.length := by
  have n64 := hR.n64
  have n0 := hR.n0
  intro e
  induction e with
  | zero =>
    intro l G h hJ hU
    obtain rfl : l = n := by omega
    refine ⟨G, ?_, hU, fun _ _ => rfl, Nat.le_refl _⟩
    rw [xP2]
    simp (maxSteps := 30000000) (disch := first | assumption | omega | (simp only [List.length_cons, List.length_nil, List.length_append, List.length_set, List.length_replicate, List.length_map, List.length_range, List.length_take, List.length_drop, List.all_cons, List.all_nil, AV.isCell, Bool.and_self, Bool.and_true, xAh, xAb, xAe, xAa, xAa, xA2, List.length_map] <;> omega) | rfl | decide) only [xLb, xAo, xAf, xAc, xAk, xAH, opv, List.getD_cons_succ, List.getD_cons_zero, xAL, Int.lt_irrefl, decide_false, xAl, xAp, List.set_cons_succ, List.set_cons_zero, xAi, xAg, xAj, xAd, xAq, xAn, Bool.false_eq_true, ↓reduceIte, xBy, xBh, xA9, xNP]
  | succ e ih =>
    intro l G h hJ hU
    have hlt : (l : Int) < (n : Nat) := by omega
    have hql : q < G.length := by
      cases hU with
      | zero _ h2 => exact (List.getElem?_eq_some_iff.1 h2).1
      | more id f cs _ h2 => exact (List.getElem?_eq_some_iff.1 h2).1
    have hJ1 : J (G ++ [.cells false false (List.replicate n (.sl true 0 []))]) := hR.keep G _ hJ fun b hb => List.getElem?_append_left (by omega)
    have hA : RowsAt v nxt n B G.length l 0 (G ++ [.cells false false (List.replicate n (.sl true 0 []))]) (List.replicate n (.sl true 0 [])) :=
      ⟨by simp, xCY _ _, fun i hi => by omega, fun i _ hi => by rw [List.getElem?_replicate, if_pos hi]⟩
    obtain ⟨G2, cs2, r1, r2, r3, r4⟩ := xT2 (s8 := s8) (s9 := .ptr q 0) (s16 := .int .i64 (n : Nat)) (s17 := .int .i64 (l : Nat)) hR (show l < n by omega) (show B ≤ G.length by omega) n 0 _ _ (by omega) hJ1 hA
    have fz' := xXi n0 r2
    have hrbl := (List.getElem?_eq_some_iff.1 r2.blk).1
    have old : ∀ b, b < G.length → G2[b]? = G[b]? := fun b hb => by
      rw [r3 b (by simp; omega) (by omega), List.getElem?_append_left hb]
    have hJ2 : J G2 := hR.keep G G2 hJ fun b hb => old b (by omega)
    simp only [Int.natCast_zero] at r1
    have hrep : xEg [AV.sl true 0 []] n = List.replicate n (AV.sl true 0 []) := xOB _ _
    have hG2 : G.length < G2.length := hrbl
    generalize hrb : G.length = rb at *
    have nbor : ∀ d, 2 ≤ d → ∀ b ∈ bor d G2 (.own false rb 0 n 1), rb ≤ b ∧ b < G2.length := fun d hd b hb => (fz' d hd).2 b hb
    cases hU with
    | zero hl0 h2 =>
      subst hl0
      have hz2 : G2[q]? = some (.cells false false [.int .i64 v, .int .i64 0, .sl true 0 [], .sl true 0 []]) := (old q hql).trans h2
      obtain ⟨X, hX⟩ : ∃ X, X = Blk.cells false false [.int .i64 v, .int .i64 0, .own false (G2.length + 1) 0 1 1, .sl true 0 []] := ⟨_, rfl⟩
      obtain ⟨Hm, hHm⟩ : ∃ Hm : xAA, Hm = (G2 ++ [Blk.cells false false [.own false rb 0 n 1], Blk.cells false false [.own false rb 0 n 1]]).set q X := ⟨_, rfl⟩
      have hml : Hm.length = G2.length + 2 := by rw [hHm]; simp
      have sameM : ∀ b, b ≠ q → b < G2.length → Hm[b]? = G2[b]? := fun b hb hb2 => by
        rw [hHm, List.getElem?_set_ne (Ne.symm hb), List.getElem?_append_left hb2]
      have hmq : Hm[q]? = some X := by rw [hHm]; exact List.getElem?_set_self (by simp; omega)
      have hJm : J Hm := hR.keep G2 Hm hJ2 fun b hb => sameM b (by omega) (by omega)
      obtain ⟨T, hfn⟩ := hR.fn Hm 0 hJm (by omega)
      obtain ⟨Ht, hHt⟩ : ∃ Ht : xAA, Ht = Hm ++ T := ⟨_, rfl⟩
      have htl : Ht.length = Hm.length + T.length := by rw [hHt]; simp
      have sameT : ∀ b, b < Hm.length → Ht[b]? = Hm[b]? := fun b hb => by rw [hHt, List.getElem?_append_left hb]
      rw [← hHt] at hfn
      obtain ⟨Y, hY⟩ : ∃ Y, Y = Blk.cells false false [.int .i64 v, .int .i64 0, .own false (G2.length + 1) 0 1 1, .own false Ht.length 0 1 1] := ⟨_, rfl⟩
      obtain ⟨H', hH⟩ : ∃ H' : xAA, H' = (Ht ++ [Blk.cells false false [.bool (fin 0)]]).set q Y := ⟨_, rfl⟩
      have same : ∀ b, b ≠ q → b < G2.length → H'[b]? = G2[b]? := fun b hb hb2 => by
        rw [hH, List.getElem?_set_ne (Ne.symm hb), List.getElem?_append_left (by omega), sameT b (by omega), sameM b hb hb2]
      have hlen : H'.length = Ht.length + 1 := by rw [hH]; simp
      have htq : Ht[q]? = some X := (sameT q (by omega)).trans hmq
      have hs2 : H'[q]? = some Y := by rw [hH]; exact List.getElem?_set_self (by simp; omega)
      have hs3 : H'[G2.length + 1]? = some (.cells false false [.own false rb 0 n 1]) := by
        rw [hH, List.getElem?_set_ne (by omega), List.getElem?_append_left (by omega), sameT _ (by omega), hHm, List.getElem?_set_ne (by omega)]
        exact xMJ _ _ 1
      have hs4 : H'[Ht.length]? = some (.cells false false [.bool (fin 0)]) := by
        rw [hH, List.getElem?_set_ne (by omega), List.getElem?_append_right (by omega)]
        simp
      have fzH : Fz 2 H' rb (.own false rb 0 n 1) (xFi (xHt v nxt n 0)) := fz'.frame (by omega) fun d hd b hb => by
        have := nbor d hd b hb
        exact same b (by omega) this.2
      have hU' : UB v nxt fin n q 1 H' := .more (G2.length + 1) Ht.length [.own false rb 0 n 1] (by omega) (by rw [hs2, hY]) hs3 (by rw [hs4]; rfl) (by omega) (by omega) (by omega) rfl (fun i c t hc ht => by
        have e0 : i = 0 := by
          cases i with
          | zero => rfl
          | succ i => simp at hc
        subst e0
        simp at hc
        subst hc
        have : t = xFi (xHt v nxt n 0) := by simpa [xFj] using ht.symm
        subst this
        refine ⟨fzH.low (by omega), fun d hd => ?_⟩
        have hb2 := (xEi d _ (fun b hb => by have := nbor d hd b hb; exact same b (by omega) this.2)).2
        rw [hb2]
        exact ⟨fun hm' => by have := nbor d hd _ hm'; omega, fun hm' => by have := nbor d hd _ hm'; omega⟩)
      obtain ⟨G', e1, e2, e3, e4⟩ := ih 1 H' (by omega) (hR.keep G2 H' hJ2 fun b hb => same b (by omega) (by omega)) hU'
      refine ⟨G', ?_, e2, fun b hb => by rw [e3 b hb, same b (by omega) (by omega), old b (by omega)], by omega⟩
      have hz2' := fun T => xBL (X := T) hz2
      have htq' := fun T => xBL (X := T) htq
      have hsame : xEL Hm Ht (.ptr q 3) 1 = true := by
        have h1 : rd Hm (.ptr q 3) 1 = some [.sl true 0 []] := by
          rw [xA5, hmq, hX, xAz (by simp)]; rfl
        have h2 : rd Ht (.ptr q 3) 1 = some [.sl true 0 []] := by
          rw [xA5, htq, hX, xAz (by simp)]; rfl
        simp [xEL, h1, h2, xRb]
      have hHm' := hHm.symm
      rw [hX] at hHm' hmq htq htq'
      rw [hH, hY] at e1
      have hlt0 : (0 : Int) < (n : Nat) := by omega
      simp only [Int.natCast_zero, Int.natCast_one] at hlt0 e1 r1 hfn ⊢
      rw [xP2]
      simp (maxSteps := 30000000) (disch := first | assumption | omega | (simp only [List.length_cons, List.length_nil, List.length_append, List.length_set, List.length_replicate, List.length_map, List.length_range, List.length_take, List.length_drop, List.all_cons, List.all_nil, AV.isCell, Bool.and_self, Bool.and_true, xAh, xAb, xAe, xAa, xAa, xA2, List.length_map] <;> omega) | rfl | decide) only [xLb, xAo, xAf, xAc, xAk, xAH, opv, List.getD_cons_succ, List.getD_cons_zero, xAL, hlt0, decide_true, xAl, xAp, List.set_cons_succ, List.set_cons_zero, xAi, xAg, xAj, xAd, xAq, xAn, ↓reduceIte, xAG, xAs, xAE, xFN, xHP, Int.toNat_natCast, List.length_cons, List.length_nil, Nat.zero_add, hrep, xCO, hrb, xBr, xDK, xBe, xNO, r1, xA0, xA1, xAQ, xAP, xA5, hz2, xAz, List.drop_succ_cons, List.drop_zero, List.take_succ_cons, List.take_zero, xAV, xCc, AV.cells, List.all_cons, beq_self_eq_true, List.all_nil, Bool.and_self, xDM, List.append_nil, Nat.mul_one, List.map_cons, List.map_nil, xCp, Nat.le_refl, AV.isCell, and_self, xBd, List.nil_append, List.drop_nil, xCb, xB1, xQm, xCY, List.getElem?_cons_zero, xJQ, List.take_nil, xDw, Nat.reduceBEq, List.length_append, List.append_assoc, List.cons_append, xBb, xBH, hz2', xA3, Nat.reduceAdd, hHm', xAR, xBl, xG1, xEp, xHC, Bool.false_eq_true, xBo, xCs, xBB, xBM, xEW, xEX, xB4, hmq, xEV, xFR, xE7, xFQ, xB0, xG2, Nat.reduceSub, xF2, xBY, hfn, xF1, hsame, xCn, xBI, List.flatMap_cons, xN5, List.flatMap_nil, List.isEmpty_nil, List.mapM_cons, xB2, List.mapM_nil, Option.pure_def, Option.bind_eq_bind, Option.bind_some, xB5, xDx, htq', xEP, xF0, xAu, xBq, Int.zero_add, xDf, xAM, xNP, e1]
    | more id fb cs hl0 h2 hi hf i3 f3 hne hl he =>
      have hidl := (List.getElem?_eq_some_iff.1 hi).1
      have hfl := (List.getElem?_eq_some_iff.1 hf).1
      rw [hrb] at hidl hfl
      have hz2 : G2[q]? = some (.cells false false [.int .i64 v, .int .i64 0, .own false id 0 l 1, .own false fb 0 l 1]) := (old q hql).trans h2
      have hzi : G2[id]? = some (.cells false false cs) := (old id hidl).trans hi
      have hzf : G2[fb]? = some (.cells false false (xEk (xJn fin l))) := (old fb hfl).trans hf
      obtain ⟨X, hX⟩ : ∃ X, X = Blk.cells false false [.int .i64 v, .int .i64 0, .own false (G2.length + 1) 0 (l + 1) 1, .own false fb 0 l 1] := ⟨_, rfl⟩
      obtain ⟨Hm, hHm⟩ : ∃ Hm : xAA, Hm = (((G2 ++ [Blk.cells false false [.own false rb 0 n 1]]).set id .dead) ++ [Blk.cells false false (cs ++ [.own false rb 0 n 1])]).set q X := ⟨_, rfl⟩
      have hml : Hm.length = G2.length + 2 := by rw [hHm]; simp
      have sameM : ∀ b, b ≠ q → b ≠ id → b < G2.length → Hm[b]? = G2[b]? := fun b hb hbi hb2 => by
        rw [hHm, List.getElem?_set_ne (Ne.symm hb), List.getElem?_append_left (by simp; omega), List.getElem?_set_ne (Ne.symm hbi), List.getElem?_append_left hb2]
      have hmq : Hm[q]? = some X := by rw [hHm]; exact List.getElem?_set_self (by simp; omega)
      have hmf : Hm[fb]? = some (.cells false false (xEk (xJn fin l))) := (sameM fb (by omega) (by omega) (by omega)).trans hzf
      have hJm : J Hm := hR.keep G2 Hm hJ2 fun b hb => sameM b (by omega) (by omega) (by omega)
      obtain ⟨T, hfn⟩ := hR.fn Hm l hJm (by omega)
      obtain ⟨Ht, hHt⟩ : ∃ Ht : xAA, Ht = Hm ++ T := ⟨_, rfl⟩
      have htl : Ht.length = Hm.length + T.length := by rw [hHt]; simp
      have sameT : ∀ b, b < Hm.length → Ht[b]? = Hm[b]? := fun b hb => by rw [hHt, List.getElem?_append_left hb]
      rw [← hHt] at hfn
      obtain ⟨Y, hY⟩ : ∃ Y, Y = Blk.cells false false [.int .i64 v, .int .i64 0, .own false (G2.length + 1) 0 (l + 1) 1, .own false Ht.length 0 (l + 1) 1] := ⟨_, rfl⟩
      obtain ⟨H', hH⟩ : ∃ H' : xAA, H' = (Ht.set fb .dead ++ [Blk.cells false false (xEk (xJn fin l ++ [fin l]))]).set q Y := ⟨_, rfl⟩
      have same : ∀ b, b ≠ q → b ≠ id → b ≠ fb → b < G2.length → H'[b]? = G2[b]? := fun b hb hbi hbf hb2 => by
        rw [hH, List.getElem?_set_ne (Ne.symm hb), List.getElem?_append_left (by simp; omega), List.getElem?_set_ne (Ne.symm hbf), sameT b (by omega), sameM b hb hbi hb2]
      have hlen : H'.length = Ht.length + 1 := by rw [hH]; simp
      have htq : Ht[q]? = some X := (sameT q (by omega)).trans hmq
      have htf' : Ht[fb]? = some (.cells false false (xEk (xJn fin l))) := (sameT fb (by omega)).trans hmf
      have hs2 : H'[q]? = some Y := by rw [hH]; exact List.getElem?_set_self (by simp; omega)
      have hs3 : H'[G2.length + 1]? = some (.cells false false (cs ++ [.own false rb 0 n 1])) := by
        rw [hH, List.getElem?_set_ne (by omega), List.getElem?_append_left (by simp; omega), List.getElem?_set_ne (by omega), sameT _ (by omega), hHm, List.getElem?_set_ne (by omega), List.getElem?_append_right (by simp)]
        simp
      have hs4 : H'[Ht.length]? = some (.cells false false (xEk (xJn fin (l + 1)))) := by
        rw [hH, List.getElem?_set_ne (by omega), List.getElem?_append_right (by simp), xR2]
        simp
      have fzH : Fz 2 H' rb (.own false rb 0 n 1) (xFi (xHt v nxt n l)) := fz'.frame (by omega) fun d hd b hb => by
        have := nbor d hd b hb
        exact same b (by omega) (by omega) (by omega) this.2
      have hU' : UB v nxt fin n q (l + 1) H' := .more (G2.length + 1) Ht.length (cs ++ [.own false rb 0 n 1]) (by omega) (by rw [hs2, hY]) hs3 hs4 (by omega) (by omega) (by omega) (by simp [hl]) (fun i c t hc ht => by
        rw [xPw, List.map_append] at ht
        by_cases hil : i < cs.length
        · rw [List.getElem?_append_left hil] at hc
          rw [List.getElem?_append_left (by rw [List.length_map, xCr]; omega)] at ht
          obtain ⟨k1, k2⟩ := he i c t hc ht
          have hG2 : ∀ d, 2 ≤ d → ∀ b ∈ bor d G c, H'[b]? = G[b]? := fun d hd b hb => by
            have hb' := (k1 d hd).2 b hb
            have hk := k2 d hd
            rw [hrb] at hb'
            rw [same b (by omega) (fun e => hk.1 (e ▸ hb)) (fun e => hk.2 (e ▸ hb)) (by omega)]
            exact old b hb'.2
          refine ⟨k1.frame (by omega) hG2, fun d hd => ?_⟩
          rw [(xEi d c (hG2 d hd)).2]
          exact ⟨fun hm' => by have := (k1 d hd).2 _ hm'; omega, fun hm' => by have := (k1 d hd).2 _ hm'; omega⟩
        · rw [List.getElem?_append_right (by omega)] at hc
          rw [List.getElem?_append_right (by rw [List.length_map, xCr]; omega), List.length_map, xCr, ← hl] at ht
          have e0 : i - cs.length = 0 := by
            cases e : i - cs.length with
            | zero => rfl
            | succ j => rw [e] at hc; simp at hc
          rw [e0] at hc ht
          simp at hc ht
          subst hc; subst ht
          refine ⟨by rw [hl]; exact fzH.low (by omega), fun d hd => ?_⟩
          have hb2 := (xEi d _ (fun b hb => by have := nbor d hd b hb; exact same b (by omega) (by omega) (by omega) this.2)).2
          rw [hb2]
          exact ⟨fun hm' => by have := nbor d hd _ hm'; omega, fun hm' => by have := nbor d hd _ hm'; omega⟩)
      obtain ⟨G', e1, e2, e3, e4⟩ := ih (l + 1) H' (by omega) (hR.keep G2 H' hJ2 fun b hb => same b (by omega) (by omega) (by omega) (by omega)) hU'
      refine ⟨G', ?_, e2, fun b hb => by rw [e3 b hb, same b (by omega) (by omega) (by omega) (by omega), old b (by omega)], by omega⟩
      have hz2' := fun T => xBL (X := T) hz2
      have hzi' := fun T => xBL (X := T) hzi
      have q1 : ∀ T T' : xAA, ((G2 ++ T).set id .dead ++ T')[q]? = some (.cells false false [.int .i64 v, .int .i64 0, .own false id 0 l 1, .own false fb 0 l 1]) := fun T T' => xBL (by rw [List.getElem?_set_ne (by omega)]; exact xBL hz2)
      have hsame : xEL Hm Ht (.ptr q 3) 1 = true := by
        have h1 : rd Hm (.ptr q 3) 1 = some [.own false fb 0 l 1] := by
          rw [xA5, hmq, hX, xAz (by simp)]; rfl
        have h2 : rd Ht (.ptr q 3) 1 = some [.own false fb 0 l 1] := by
          rw [xA5, htq, hX, xAz (by simp)]; rfl
        simp [xEL, h1, h2, xRb]
      have hmq2 : ∀ T : xAA, (Ht.set fb .dead ++ T)[q]? = some X := fun T => xBL (by rw [List.getElem?_set_ne (by omega)]; exact htq)
      have hHm' := hHm.symm
      rw [hX] at hHm' hmq hmq2 htq
      have htk : List.take l cs = cs := List.take_of_length_le (by omega)
      have htf : List.take l (xEk (xJn fin l)) = xEk (xJn fin l) := List.take_of_length_le (by rw [xA2, xG0]; exact Nat.le_refl _)
      have hbl : (xEk (xJn fin l)).length = l := by rw [xA2, xG0]
      have hsn : ∀ b : Bool, xEk (xJn fin l) ++ [AV.bool b] = xEk (xJn fin l ++ [b]) := fun b => by rw [← xRC]; rfl
      rw [hH, hY] at e1
      rw [xP2]
      simp (maxSteps := 30000000) (disch := first | assumption | omega | (simp only [List.length_cons, List.length_nil, List.length_append, List.length_set, List.length_replicate, List.length_map, List.length_range, List.length_take, List.length_drop, List.all_cons, List.all_nil, AV.isCell, Bool.and_self, Bool.and_true, xAh, xAb, xAe, xAa, xAa, xA2, List.length_map] <;> omega) | rfl | decide) only [xLb, xAo, xAf, xAc, xAk, xAH, opv, List.getD_cons_succ, List.getD_cons_zero, xAL, hlt, decide_true, xAl, xAp, List.set_cons_succ, List.set_cons_zero, xAi, xAg, xAj, xAd, xAq, xAn, ↓reduceIte, xAG, xAs, xAE, xFN, xHP, Int.toNat_natCast, List.length_cons, List.length_nil, Nat.zero_add, hrep, xCO, hrb, xBr, xDK, xBe, xNO, r1, xA0, xA1, xAQ, xAP, xA5, hz2, xAz, List.drop_succ_cons, List.drop_zero, List.take_succ_cons, List.take_zero, xAV, xCc, AV.cells, List.all_cons, beq_self_eq_true, List.all_nil, Bool.and_self, xDM, List.append_nil, Nat.mul_one, List.map_cons, List.map_nil, xCp, Nat.le_refl, AV.isCell, and_self, xBd, List.nil_append, List.drop_nil, xCb, xB1, xQm, xCY, List.getElem?_cons_zero, xJQ, List.take_nil, xEo, hzi', xDh, Nat.reduceBEq, List.length_append, htk, xBb, xBH, q1, xA3, List.cons_append, Nat.reduceAdd, hHm', xAR, xBl, xG1, xEp, xHC, Bool.false_eq_true, xBo, xCs, xBB, xBM, xEW, xEX, xB4, hmq, xEV, xFR, xE7, xFQ, xB0, xG2, Nat.reduceSub, xF2, xBY, hfn, xF1, hsame, xCn, xBI, List.flatMap_cons, xN5, List.flatMap_nil, List.isEmpty_nil, List.mapM_cons, xB2, List.mapM_nil, Option.pure_def, Option.bind_eq_bind, Option.bind_some, xB5, xDx, htf', htf, hsn, hmq2, xEP, xF0, xAu, xBq, xCE, xDf, xAM, xNP, e1]
end
end Go.Abs.Det

/- built: the whole. -/
namespace Go.Abs.Det
open Go Go.Abs
set_option linter.unusedSimpArgs false
set_option linter.unusedVariables false

theorem yCd {v : Int} {nxt : Nat → Nat → Nat → Int} {fin : Nat → Bool} {n q l : Nat} {G : xAA} (h : UB v nxt fin n q l G) (hl : l ≠ 0) :
    ∃ i f : Nat, G[q]? = some (Blk.cells false false [.int .i64 v, .int .i64 0, .own false i 0 l 1, .own false f 0 l 1]) ∧ Fz 3 G (q + 1) (.own false i 0 l 1) (.sl false l ((xFj v nxt n l).map xFi)) ∧ Fz 1 G (q + 1) (.own false f 0 l 1) (.sl false l (xEk (xJn fin l))) := by
  cases h with
  | zero h0 => exact absurd h0 hl
  | more id f cs h h2 hi hf i3 f3 hne hcl he =>
    refine ⟨_, _, h2, ?_, ?_⟩
    · have hg : Grow 2 G (q + 1) (.own false id 0 l 1) ((xFj v nxt n l).map xFi) := .inr ⟨id, cs, by rw [List.length_map, xCr], hi, i3, by rw [List.length_map, xCr]; exact hcl, fun i c t hc ht => ⟨(he i c t hc ht).1, fun d hd => ((he i c t hc ht).2 d hd).1⟩⟩
      have := hg.fz
      rw [List.length_map, xCr] at this
      have hz : (l == 0) = false := by rw [beq_eq_false_iff_ne]; exact hl
      rw [hz] at this
      rcases this with p | p
      · exact p
      · have := congrArg List.length p; rw [List.length_map, xCr] at this; exact absurd this hl
    · have := Fz.row (B := q + 1) (es := 1) (n := l) hf (xPq _) (by rw [xA2, xG0, Nat.mul_one]) f3
      exact this

set_option maxHeartbeats 1000000 in
theorem xXj {v : Int} {n : Nat} {f g : AV} {nxt : Nat → Nat → Nat → Int} {fin : Nat → Bool} {J : xAA → Prop} {G : xAA} (hR : Rd v n G.length f g nxt fin J) (hJ : J G) :
    ∃ (G' : xAA) (i k : Nat), L.icall (.func 61 []) [.int .i64 v, .int .i64 (n : Nat), f, g] G = some (.agg [.int .i64 v, .int .i64 0, .own false i 0 n 1, .own false k 0 n 1], G') ∧
      Fz 3 G' G.length (.own false i 0 n 1) (.sl false n ((xFj v nxt n n).map xFi)) ∧ Fz 1 G' G.length (.own false k 0 n 1) (.sl false n (xEk (xJn fin n))) ∧ (∀ b, b < G.length → G'[b]? = G[b]?) ∧ G.length ≤ G'.length := by
  have n64 := hR.n64
  have n0 := hR.n0
  obtain ⟨G1, e1, e2, e3, e4⟩ := xPx (s8 := .ptr G.length 0) hR (show G.length ≤ G.length + 1 by omega) n 0 (G ++ [.cells false false [.int .i64 0, .int .i64 0, .sl true 0 [], .sl true 0 []], .cells false false [.int .i64 v, .int .i64 0, .sl true 0 [], .sl true 0 []]]) (by omega)
    (hR.keep G _ hJ fun b hb => List.getElem?_append_left hb) (.zero rfl (xMJ _ _ 1))
  obtain ⟨i, k, g2, f1, f2⟩ := yCd e2 (by omega)
  have z8 : G1[G.length]? = some (.cells false false [.int .i64 0, .int .i64 0, .sl true 0 [], .sl true 0 []]) := (e3 _ (by omega)).trans (xCY _ _)
  simp only [List.length_append, List.length_cons, List.length_nil] at e4
  obtain ⟨G', hG'⟩ : ∃ G' : xAA, G' = G1.set G.length (.cells false false [.int .i64 v, .int .i64 0, .own false i 0 n 1, .own false k 0 n 1]) := ⟨_, rfl⟩
  have hl' : G'.length = G1.length := by rw [hG']; simp
  have same : ∀ b, b ≠ G.length → G'[b]? = G1[b]? := fun b hb => by rw [hG', List.getElem?_set_ne (Ne.symm hb)]
  refine ⟨G', i, k, ?_, (f1.frame (by omega) fun d hd b hb => same b (by have := (f1 d hd).2 b hb; omega)).low (by omega), (f2.frame (by omega) fun d hd b hb => same b (by have := (f2 d hd).2 b hb; omega)).low (by omega),
    fun b hb => by rw [same b (by omega), e3 b (by omega), List.getElem?_append_left hb], by omega⟩
  have z8b : G'[G.length]? = some (.cells false false [.int .i64 v, .int .i64 0, .own false i 0 n 1, .own false k 0 n 1]) := by rw [hG']; exact List.getElem?_set_self (by omega)
  have hG'' := hG'.symm
  have hq1 : (G ++ [Blk.cells false false [AV.int .i64 0, AV.int .i64 0, AV.sl true 0 [], AV.sl true 0 []], Blk.cells false false [AV.int .i64 0, AV.int .i64 0, AV.sl true 0 [], AV.sl true 0 []]]).set (G.length + 1) (Blk.cells false false [AV.int .i64 v, AV.int .i64 0, AV.sl true 0 [], AV.sl true 0 []]) = G ++ [Blk.cells false false [AV.int .i64 0, AV.int .i64 0, AV.sl true 0 [], AV.sl true 0 []], Blk.cells false false [AV.int .i64 v, AV.int .i64 0, AV.sl true 0 [], AV.sl true 0 []]] := by
    rw [List.set_append_right _ _ (by omega)]; simp
  simp only [Int.natCast_zero] at e1
  rw [yDN, a61, xAI]
  simp (maxSteps := 30000000) (disch := first | assumption | omega | (simp only [List.length_cons, List.length_nil, List.length_append, List.length_set, List.length_replicate, List.length_map, List.length_range, List.length_take, List.length_drop, List.all_cons, List.all_nil, AV.isCell, Bool.and_self, Bool.and_true, xAh, xAb, xAe, xAa, xAa, xA2, List.length_map] <;> omega) | rfl | decide) only [List.append_nil, List.length_cons, List.length_nil, Nat.zero_add, Nat.reduceAdd, Nat.reduceSub, xB8, List.cons_append, List.nil_append, xAo, xAf, xAc, xAk, xBn, AV.cells, opv, List.all_cons, AV.isCell, List.all_nil, Bool.and_self, ↓reduceIte, xAp, List.set_cons_succ, List.set_cons_zero, xAi, xAg, xAj, xAd, xAE, List.getD_cons_zero, xCB, List.getD_cons_succ, beq_self_eq_true, List.map_cons, List.map_nil, xCp, Nat.reduceLeDiff, and_self, xBd, List.take_zero, List.drop_succ_cons, List.drop_zero, Option.map_some, xAl, List.length_append, List.append_assoc, xBb, xBH, xMJ, List.getElem?_cons_succ, List.getElem?_cons_zero, xA3, List.drop_nil, hq1, xAR, xBl, xAs, xBe, xNP, e1, xA0, xAP, xA5, g2, xAz, List.take_succ_cons, List.take_nil, xBs, z8, hG'', xAO, xAx, xAF, xFP, z8b, xD3, xJt, xAr]
end Go.Abs.Det

/- renumber: the list of states is closed. Plain facts. -/
namespace Go.Abs.Det
open Go Go.Abs
set_option linter.unusedSimpArgs false
set_option linter.unusedVariables false

section
variable {D : Da}
theorem xR3 {o o' : List Int} (h : o <+: o') {i : Nat} (hi : i < o.length) : o'.getD i 0 = o.getD i 0 := by
  obtain ⟨t, rfl⟩ := h
  simp only [List.getD_eq_getElem?_getD]
  rw [List.getElem?_append_left hi]
theorem xXk {o o' : List Int} (h : o <+: o') {a : Int} (ha : a ∈ o) : a ∈ o' := h.subset ha

def Done (D : Da) (o : List Int) (i j : Nat) : Prop := ∀ x, x < two D.vars → nx D (o.getD i 0) (o.getD j 0) x ∈ o
theorem Done.pre {o o' : List Int} {i j : Nat} (h : Done D o i j) (hp : o <+: o') (hi : i < o.length) (hj : j < o.length) : Done D o' i j := fun x hx => by
  rw [xR3 hp hi, xR3 hp hj]; exact xXk hp (h x hx)
end
end Go.Abs.Det

/- renumber, Renumber. -/
namespace Go.Abs.Det
open Go Go.Abs
set_option linter.unusedSimpArgs false
set_option linter.unusedVariables false

end Go.Abs.Det

/- renumber's automaton: valid; its steps; Renumber. -/
namespace Go.Abs.Det
open Go Go.Abs
set_option linter.unusedSimpArgs false
set_option linter.unusedVariables false

theorem xH4 {α : Type} {f : Nat → α} {n i : Nat} {a : α} (h : i < n) : ((List.range n).map f).getD i a = f i := by
  rw [List.getD_eq_getElem?_getD]
  simp [h]

theorem xT3 {v e : Int} {nxt : Nat → Nat → Nat → Int} {n i j x : Nat} {fi : List Bool} (hi : i < n) (hj : j < n) (hx : x < two v) : nx ⟨v, e, xFj v nxt n n, fi⟩ (i : Int) (j : Int) x = nxt i j x := by
  show (((xFj v nxt n n).getD i []).getD j []).getD x 0 = _
  unfold xFj
  rw [xH4 hi]
  unfold xHt
  rw [xH4 hj]
  unfold rvL
  rw [xH4 hx]

theorem xNq {v e : Int} {nxt : Nat → Nat → Nat → Int} {fin : Nat → Bool} {n : Nat} (v0 : 0 ≤ v) (v3 : v ≤ 3) (n0 : 0 < n) (n64 : n ≤ 64) (e0 : 0 ≤ e) (en : e < n) (hb : ∀ i j x, i < n → j < n → x < two v → 0 ≤ nxt i j x ∧ nxt i j x < n) : Va ⟨v, e, xFj v nxt n n, xJn fin n⟩ := by
  refine ⟨v0, v3, by rw [xCr]; exact n0, by rw [xCr]; exact n64, by rw [xCr, xG0], e0, by rw [xCr]; exact en, fun rows hr => ?_, fun rows hr row hw => ?_, fun rows hr row hw s hs => ?_⟩
  · obtain ⟨l, _, rfl⟩ := List.mem_map.1 hr
    rw [xCr]; exact xEO ..
  · obtain ⟨l, _, rfl⟩ := List.mem_map.1 hr
    obtain ⟨r, _, rfl⟩ := List.mem_map.1 hw
    exact xKR ..
  · obtain ⟨l, hl, rfl⟩ := List.mem_map.1 hr
    obtain ⟨r, hr', rfl⟩ := List.mem_map.1 hw
    obtain ⟨x, hx, rfl⟩ := List.mem_map.1 hs
    rw [xCr]
    exact hb l r x (List.mem_range.1 hl) (List.mem_range.1 hr') (List.mem_range.1 hx)

end Go.Abs.Det

/- Accepts. -/
namespace Go.Abs.Det
open Go Go.Abs
set_option linter.unusedSimpArgs false
set_option linter.unusedVariables false

theorem xMC {D : Da} (hV : Va D) (z : Bool) {T : BT} (ht : T.size ≤ 31) (hx : T.labs (· < two D.vars)) : L.pcall 18 [D.av, tw z (xDp 0 T)] = some (.tup [.bool (D.fin.getD (stB D T).toNat false), .int .i64 0]) := by
  have hl := xCg T 0
  have h1 := xFX hV z (xDp 0 T) (by omega) (fun e he => by have := (xE5 T 0).2 hx e he; have := (xFf hV.v3).1; omega)
  rw [(xJa hV.v0).2 ⟨T, rfl, ht, hx⟩] at h1
  have h2 := xZH hV z ht hx
  have hsl := xFH D T
  have hb := xOv hV hx
  have fl := hV.fl
  have n64 := hV.n64
  have h0 : (stL D T ++ [D.empty]).getD 0 0 = stB D T := by cases T <;> rfl
  have gs : List.take 1 (List.drop 0 (xCK (stL D T ++ [D.empty]))) = [.int .i64 (stB D T)] := by rw [← h0]; exact xDd _ _ (by simp)
  have gs0 : List.take 1 (xCK (stL D T ++ [D.empty])) = [.int .i64 (stB D T)] := gs
  have gf : List.take 1 (List.drop (stB D T).toNat (xEk D.fin)) = [.bool (D.fin.getD (stB D T).toNat false)] := xDd _ _ (by omega)
  unfold tw at h1 h2 ⊢
  simp only [hl] at h1 h2 ⊢
  unfold Da.av at h1 h2 ⊢
  unfold Da.cells at h1 h2 ⊢
  simp only [fl] at h1 h2 ⊢
  rw [yCM, a18, xAT]
  simp (maxSteps := 30000000) (disch := first | assumption | omega | (simp only [List.length_cons, List.length_nil, List.length_append, List.length_set, List.length_replicate, List.length_map, List.length_range, List.length_take, List.length_drop, List.all_cons, List.all_nil, AV.isCell, Bool.and_self, Bool.and_true, xAh, xAb, xAe, xAa, xAa, xA2, List.length_map] <;> omega) | rfl | decide) only [xAI, List.length_cons, List.length_nil, Nat.zero_add, Nat.reduceAdd, Nat.reduceSub, xB8, List.cons_append, List.nil_append, xAo, xAf, xAc, xAk, xBn, AV.cells, opv, List.getD_cons_zero, List.all_cons, AV.isCell, List.all_nil, Bool.and_self, ↓reduceIte, xAp, List.set_cons_succ, List.set_cons_zero, xAi, xAE, xAg, xAj, xAd, xAP, List.getD_cons_succ, xA5, List.getElem?_cons_zero, xAz, List.drop_zero, List.take_succ_cons, List.take_nil, xBs, xAl, xBi, List.map_cons, List.map_nil, xAZ, xBI, List.mapM_cons, xBQ, xAW, xBE, List.mapM_nil, Option.pure_def, Option.bind_eq_bind, Option.bind_some, Option.map_some, xAY, h1, xAX, xCZ, xBU, xAH, xA8, decide_true, Bool.not_true, xAq, xAn, Bool.false_eq_true, xAG, xBT, List.take_zero, xBg, xBo, xCs, xA1, xAQ, xBB, xBM, xBA, xB4, List.drop_succ_cons, xAV, xCU, xEU, h2, xCz, List.flatMap_cons, xEv, xBR, xDk, List.flatMap_nil, List.append_nil, List.foldl_nil, xCo, xCd, Bool.or_true, xBp, xBz, xCJ, xBG, xA4, xA6, Int.toNat_zero, Nat.mul_one, xBu, gs0, gf, xAO, xAx, xCH, xCG, xAU, xCF, xC5, xAr, xAt, xDS, xB2]

theorem xKS {D : Da} (hV : Va D) (z : Bool) (t : List Lf) (hl : t.length < 1099511627776) (hx : ∀ e ∈ t, e.x < 256) (he : xE4 t D.vars.toNat ≠ 0) : L.pcall 18 [D.av, tw z t] = some (.tup [.bool false, .int .i64 (xE4 t D.vars.toNat)]) := by
  have h1 := xFX hV z t hl hx
  generalize xE4 t D.vars.toNat = e at *
  unfold Da.av at h1 ⊢
  unfold Da.cells at h1 ⊢
  rw [yCM, a18, xAT]
  simp (maxSteps := 30000000) (disch := first | assumption | omega | (simp only [List.length_cons, List.length_nil, List.length_append, List.length_set, List.length_replicate, List.length_map, List.length_range, List.length_take, List.length_drop, List.all_cons, List.all_nil, AV.isCell, Bool.and_self, Bool.and_true, xAh, xAb, xAe, xAa, xAa, xA2, List.length_map] <;> omega) | rfl | decide) only [xAI, List.length_cons, List.length_nil, Nat.zero_add, Nat.reduceAdd, Nat.reduceSub, xB8, List.cons_append, List.nil_append, xAo, xAf, xAc, xAk, xBn, AV.cells, opv, List.getD_cons_zero, List.all_cons, AV.isCell, List.all_nil, Bool.and_self, ↓reduceIte, xAp, List.set_cons_succ, List.set_cons_zero, xAi, xAE, xAg, xAj, xAd, xAP, List.getD_cons_succ, xA5, List.getElem?_cons_zero, xAz, List.drop_zero, List.take_succ_cons, List.take_nil, xBs, xAl, xBi, List.map_cons, List.map_nil, xAZ, xBI, List.mapM_cons, xBQ, xAW, xBE, List.mapM_nil, Option.pure_def, Option.bind_eq_bind, Option.bind_some, Option.map_some, xAY, h1, xAX, xCZ, xBU, xAH, xA8, he, decide_false, Bool.not_false, xAq, xAn, xAO, xBa, xAx, xCH, xCG, xAU, xCF, xC5, xAr, xAt, xDS, xB2]
end Go.Abs.Det
