/- explore: the loops, over any call. -/
import Derived.Test.YtdkbhidfiplncaaAME
import Derived.Test.YtdkbhidfiplncaaAbsWalk3
import Derived.Test.YtdkbhidfiplncaaAMD
namespace Go.Abs.Det
open Go Go.Abs
set_option linter.unusedSimpArgs false
set_option linter.unusedVariables false

def xH0 (size : Nat) (bad : Bool) : Int := if bad = true then -1 else (size : Nat)

structure Exp {σ : Type} (v : Int) (B N : Nat) (f : AV) (size : σ → Nat) (bad : σ → Bool) (stp : σ → Nat → Nat → Nat → σ) (I : σ → Nat → xAu → Prop) : Prop where
  v0 : 0 ≤ v
  v3 : v ≤ 3
  n64 : N ≤ 64
  grow : ∀ s lb G X, I s lb G → I s lb (G ++ [X])
  lb : ∀ s lb G, I s lb G → lb < G.length ∧ B ≤ G.length
  le : ∀ s lb G, I s lb G → bad s = false → size s ≤ N
  mono : ∀ s l r x, size s ≤ size (stp s l r x)
  call : ∀ s lb G (l r x p : Nat), I s lb G → bad s = false → l < size s → r < size s → x < two v → B ≤ p → p ≠ lb → p < G.length →
    ∃ G' lb', L.icall f [.int .i64 (l : Nat), .int .i64 (r : Nat), .int .i64 (x : Nat)] G = some (.int .i64 (xH0 (size (stp s l r x)) (bad (stp s l r x))), G') ∧ I (stp s l r x) lb' G' ∧ G'[p]? = G[p]? ∧ p ≠ lb'

section
variable {σ : Type} {v : Int} {B N : Nat} {f : AV} {size : σ → Nat} {bad : σ → Bool} {stp : σ → Nat → Nat → Nat → σ} {I : σ → Nat → xAu → Prop}

def goX (bad : σ → Bool) (stp : σ → Nat → Nat → Nat → σ) (l r : Nat) : Nat → Nat → σ → σ
  | _, 0, s => s
  | x, e + 1, s => if bad (stp s l r x) = true then stp s l r x else goX bad stp l r (x + 1) e (stp s l r x)
theorem xE1 (h : ∀ s l r x, size s ≤ size (stp s l r x)) (l r : Nat) : ∀ e x s, size s ≤ size (goX bad stp l r x e s)
  | 0, _, s => Nat.le_refl _
  | e + 1, x, s => by
    unfold goX
    split
    · exact h s l r x
    · exact Nat.le_trans (h s l r x) (xE1 h l r e (x + 1) _)

set_option maxHeartbeats 1000000 in
theorem yEB (hE : Exp v B N f size bad stp I) {l r p : Nat} {s5 s6 s26 s27 : AV} (hp : B ≤ p) : ∀ e x s lb G, x + e = two v → I s lb G → bad s = false → l < size s → r < size s → G[p]? = some (.cells false false [.int .i64 (l : Nat), .int .i64 (r : Nat)]) → p ≠ lb →
    ∃ G' lb' xx, L.loop xLS xTu ⟨xLT (.int .i64 v) f (.int .i64 (size s : Nat)) s5 s6 (.ptr p 0) s26 s27 (.int .i64 (two v : Nat)) (.int .i64 (x : Nat)), G⟩ =
      some (.exit (if bad (goX bad stp l r x e s) = true then 0 else 6), ⟨xLT (.int .i64 v) f (.int .i64 (xH0 (size (goX bad stp l r x e s)) (bad (goX bad stp l r x e s)))) s5 s6 (.ptr p 0) s26 s27 (.int .i64 (two v : Nat)) xx, G'⟩) ∧
      I (goX bad stp l r x e s) lb' G' := by
  intro e
  induction e with
  | zero =>
    intro x s lb G h hI hb hl hr hG hpl
    obtain rfl : x = two v := by omega
    refine ⟨G, lb, .int .i64 (two v : Nat), ?_, hI⟩
    have hx8 := (xDy hE.v3).1
    simp only [goX, hb, xH0]
    rw [xQW]
    simp (maxSteps := 30000000) (disch := first | assumption | omega | (simp only [List.length_cons, List.length_nil, List.length_append, List.length_set, List.length_replicate, List.length_map, List.length_range, List.length_take, List.length_drop, List.all_cons, List.all_nil, AV.isCell, Bool.and_self, Bool.and_true, xAh, xAb, xAe, xAa, xAa, xAC, List.length_map] <;> omega) | rfl | decide) only [xLR, xAp, xAf, xAc, xAk, xAy, opv, List.getD_cons_succ, List.getD_cons_zero, xAz, Int.lt_irrefl, decide_false, xAl, xAq, List.set_cons_succ, List.set_cons_zero, xAi, xAg, xAj, xAd, xAo, xAn, Bool.false_eq_true, ↓reduceIte, xBt, xBc, xA3, xH7]
  | succ e ih =>
    intro x s lb G h hI hb hl hr hG hpl
    have hx8 := (xDy hE.v3).1
    have hlt : (x : Int) < (two v : Nat) := by omega
    have hpg := (List.getElem?_eq_some_iff.1 hG).1
    obtain ⟨G1, lb1, c1, c2, c3, c4⟩ := hE.call s lb G l r x p hI hb hl hr (by omega) hp hpl hpg
    have hm := hE.mono s l r x
    unfold goX
    generalize stp s l r x = s' at *
    cases hb' : bad s' with
    | true =>
      rw [hb'] at c1
      refine ⟨G1, lb1, .int .i64 (x : Nat), ?_, by simpa using c2⟩
      simp only [xH0, if_true] at c1 ⊢
      rw [xQW]
      simp (maxSteps := 30000000) (disch := first | assumption | omega | (simp only [List.length_cons, List.length_nil, List.length_append, List.length_set, List.length_replicate, List.length_map, List.length_range, List.length_take, List.length_drop, List.all_cons, List.all_nil, AV.isCell, Bool.and_self, Bool.and_true, xAh, xAb, xAe, xAa, xAa, xAC, List.length_map] <;> omega) | rfl | decide) only [xLR, xAp, xAf, xAc, xAk, xAy, opv, List.getD_cons_succ, List.getD_cons_zero, xAz, hlt, decide_true, xAl, xAq, List.set_cons_succ, List.set_cons_zero, xAi, xAg, xAj, xAd, xAo, xAn, ↓reduceIte, xAx, xAr, xAA, xOX, xJS, Int.toNat_zero, Nat.mul_one, Nat.add_zero, xAJ, xA1, hG, xAt, List.drop_zero, List.take_succ_cons, List.take_zero, xAO, Int.toNat_one, Nat.zero_add, List.drop_succ_cons, List.take_nil, xCb, List.map_cons, List.map_nil, c1, Int.reduceNeg, Int.reduceLT, xBt, xAS, Nat.reduceEqDiff, xBc, xA3, xH7, hb']
    | false =>
      rw [hb'] at c1
      obtain ⟨G', lb', xx, f1, f2⟩ := ih (x + 1) s' lb1 G1 (by omega) c2 hb' (by omega) (by omega) (c3.trans hG) c4
      refine ⟨G', lb', xx, ?_, by simpa using f2⟩
      have hnn : ¬ ((size s' : Nat) : Int) < 0 := by omega
      simp only [xH0, Bool.false_eq_true, if_false] at c1 f1 ⊢
      rw [xQW]
      simp (maxSteps := 30000000) (disch := first | assumption | omega | (simp only [List.length_cons, List.length_nil, List.length_append, List.length_set, List.length_replicate, List.length_map, List.length_range, List.length_take, List.length_drop, List.all_cons, List.all_nil, AV.isCell, Bool.and_self, Bool.and_true, xAh, xAb, xAe, xAa, xAa, xAC, List.length_map] <;> omega) | rfl | decide) only [xLR, xAp, xAf, xAc, xAk, xAy, opv, List.getD_cons_succ, List.getD_cons_zero, xAz, hlt, decide_true, xAl, xAq, List.set_cons_succ, List.set_cons_zero, xAi, xAg, xAj, xAd, xAo, xAn, ↓reduceIte, xAx, xAr, xAA, xOX, xJS, Int.toNat_zero, Nat.mul_one, Nat.add_zero, xAJ, xA1, hG, xAt, List.drop_zero, List.take_succ_cons, List.take_zero, xAO, Int.toNat_one, Nat.zero_add, List.drop_succ_cons, List.take_nil, xCb, List.map_cons, List.map_nil, c1, hnn, decide_false, Bool.false_eq_true, xAs, xBa, xCi, xCV, xAv, xH7, f1, Int.reduceNeg]
end
end Go.Abs.Det

/- explore, over any call. -/
namespace Go.Abs.Det
open Go Go.Abs
set_option linter.unusedSimpArgs false
set_option linter.unusedVariables false

section
variable {σ : Type} {v : Int} {B N : Nat} {f : AV} {size : σ → Nat} {bad : σ → Bool} {stp : σ → Nat → Nat → Nat → σ} {I : σ → Nat → xAu → Prop}

def goP (bad : σ → Bool) (stp : σ → Nat → Nat → Nat → σ) (n j k : Nat) (s : σ) : σ :=
  if bad (goX bad stp j k 0 n s) = true then goX bad stp j k 0 n s else goX bad stp k j 0 n (goX bad stp j k 0 n s)
def goJ (bad : σ → Bool) (stp : σ → Nat → Nat → Nat → σ) (n k : Nat) : Nat → Nat → σ → σ
  | _, 0, s => s
  | j, e + 1, s => if bad (goP bad stp n j k s) = true then goP bad stp n j k s else goJ bad stp n k (j + 1) e (goP bad stp n j k s)
def goK (size : σ → Nat) (bad : σ → Bool) (stp : σ → Nat → Nat → Nat → σ) (n : Nat) : Nat → Nat → σ → σ
  | _, 0, s => s
  | k, e + 1, s => if k < size s then (if bad (goJ bad stp n k 0 (k + 1) s) = true then goJ bad stp n k 0 (k + 1) s else goK size bad stp n (k + 1) e (goJ bad stp n k 0 (k + 1) s)) else s
theorem xK1 (h : ∀ s l r x, size s ≤ size (stp s l r x)) (n j k : Nat) (s : σ) : size s ≤ size (goP bad stp n j k s) := by
  unfold goP
  split
  · exact xE1 h j k n 0 s
  · exact Nat.le_trans (xE1 h j k n 0 s) (xE1 h k j n 0 _)

set_option maxHeartbeats 1000000 in
theorem yDn (hE : Exp v B N f size bad stp I) {j k : Nat} {s5 s6 : AV} {s : σ} {lb : Nat} {G : xAu} (hI : I s lb G) (hb : bad s = false) (hj : j < size s) (hk : k < size s) :
    ∃ G' lb' yy, L.loop xH9 xPz ⟨xGu (.int .i64 v) f (.int .i64 (size s : Nat)) s5 s6 (.agg [.int .i64 (j : Nat), .int .i64 (k : Nat), .int .i64 (k : Nat), .int .i64 (j : Nat)]) (.int .i64 1), G⟩ =
      some (.exit (if bad (goX bad stp k j 0 (two v) s) = true then 0 else 4), ⟨xGu (.int .i64 v) f (.int .i64 (xH0 (size (goX bad stp k j 0 (two v) s)) (bad (goX bad stp k j 0 (two v) s)))) s5 s6 (.agg [.int .i64 (j : Nat), .int .i64 (k : Nat), .int .i64 (k : Nat), .int .i64 (j : Nat)]) yy, G'⟩) ∧
      I (goX bad stp k j 0 (two v) s) lb' G' := by
  have hlb := hE.lb s lb G hI
  have hsh := xI9 hE.v0 hE.v3
  have hv : ¬ v < 0 := by have := hE.v0; omega
  obtain ⟨G', lb', xx, f1, f2⟩ := yEB hE (l := k) (r := j) (p := G.length) (s5 := s5) (s6 := s6) (s26 := .agg [.int .i64 (j : Nat), .int .i64 (k : Nat), .int .i64 (k : Nat), .int .i64 (j : Nat)]) (s27 := .int .i64 1) hlb.2 (two v) 0 s lb
    (G ++ [.cells false false [.int .i64 (k : Nat), .int .i64 (j : Nat)]]) (by omega) (hE.grow _ _ _ _ hI) hb hk hj (xCM _ _) (by omega)
  generalize goX bad stp k j 0 (two v) s = s' at *
  have e2 : L.loop xH9 xPz ⟨xGu (.int .i64 v) f (.int .i64 (size s' : Nat)) s5 s6 (.agg [.int .i64 (j : Nat), .int .i64 (k : Nat), .int .i64 (k : Nat), .int .i64 (j : Nat)]) (.int .i64 2), G'⟩ = some (.exit 4, ⟨xGu (.int .i64 v) f (.int .i64 (size s' : Nat)) s5 s6 (.agg [.int .i64 (j : Nat), .int .i64 (k : Nat), .int .i64 (k : Nat), .int .i64 (j : Nat)]) (.int .i64 2), G'⟩) := by
    rw [xLU]
    simp (maxSteps := 30000000) (disch := first | assumption | omega | (simp only [List.length_cons, List.length_nil, List.length_append, List.length_set, List.length_replicate, List.length_map, List.length_range, List.length_take, List.length_drop, List.all_cons, List.all_nil, AV.isCell, Bool.and_self, Bool.and_true, xAh, xAb, xAe, xAa, xAa, xAC, List.length_map] <;> omega) | rfl | decide) only [xH8, xAp, xAf, xAc, xAk, xAy, opv, List.getD_cons_succ, List.getD_cons_zero, xAz, Int.lt_irrefl, decide_false, xAl, xAq, List.set_cons_succ, List.set_cons_zero, xAi, xAg, xAj, xAd, xAo, xAn, Bool.false_eq_true, ↓reduceIte, xBt, xBc, xA3, xIa]
  simp only [Int.natCast_zero] at f1
  cases hb' : bad s' with
  | true =>
    rw [hb'] at f1
    refine ⟨G', lb', .int .i64 1, ?_, f2⟩
    simp only [xH0, if_true] at f1 ⊢
    rw [xLU]
    simp (maxSteps := 30000000) (disch := first | assumption | omega | (simp only [List.length_cons, List.length_nil, List.length_append, List.length_set, List.length_replicate, List.length_map, List.length_range, List.length_take, List.length_drop, List.all_cons, List.all_nil, AV.isCell, Bool.and_self, Bool.and_true, xAh, xAb, xAe, xAa, xAa, xAC, List.length_map] <;> omega) | rfl | decide) only [xH8, xAp, xAf, xAc, xAk, xAy, opv, List.getD_cons_succ, List.getD_cons_zero, xAz, Int.reduceLT, decide_true, xAl, xAq, List.set_cons_succ, List.set_cons_zero, xAi, xAg, xAj, xAd, xAo, xAn, ↓reduceIte, xAx, xAr, xDs, xCp, Int.toNat_one, Nat.reduceMul, List.drop_succ_cons, List.drop_zero, List.take_succ_cons, List.take_nil, xHJ, xBz, AV.cells, List.all_cons, AV.isCell, List.all_nil, Bool.and_self, xA4, List.length_cons, List.length_nil, Nat.zero_add, Nat.reduceAdd, xBE, xCM, List.getElem?_cons_zero, xAX, xBd, List.take_zero, List.nil_append, List.drop_nil, List.append_nil, xDq, xAK, xBl, xAA, xDb, hsh, xA6, xH7, f1, Int.reduceNeg, xAS, Nat.reduceEqDiff, xBc, xA3, xIa]
  | false =>
    rw [hb'] at f1
    refine ⟨G', lb', .int .i64 2, ?_, f2⟩
    simp only [xH0, Bool.false_eq_true, if_false] at f1 ⊢
    rw [xLU]
    simp (maxSteps := 30000000) (disch := first | assumption | omega | (simp only [List.length_cons, List.length_nil, List.length_append, List.length_set, List.length_replicate, List.length_map, List.length_range, List.length_take, List.length_drop, List.all_cons, List.all_nil, AV.isCell, Bool.and_self, Bool.and_true, xAh, xAb, xAe, xAa, xAa, xAC, List.length_map] <;> omega) | rfl | decide) only [xH8, xAp, xAf, xAc, xAk, xAy, opv, List.getD_cons_succ, List.getD_cons_zero, xAz, Int.reduceLT, decide_true, xAl, xAq, List.set_cons_succ, List.set_cons_zero, xAi, xAg, xAj, xAd, xAo, xAn, ↓reduceIte, xAx, xAr, xDs, xCp, Int.toNat_one, Nat.reduceMul, List.drop_succ_cons, List.drop_zero, List.take_succ_cons, List.take_nil, xHJ, xBz, AV.cells, List.all_cons, AV.isCell, List.all_nil, Bool.and_self, xA4, List.length_cons, List.length_nil, Nat.zero_add, Nat.reduceAdd, xBE, xCM, List.getElem?_cons_zero, xAX, xBd, List.take_zero, List.nil_append, List.drop_nil, List.append_nil, xDq, xAK, xBl, xAA, xDb, hsh, xA6, xH7, f1, xAS, xAs, xBa, Int.reduceAdd, xCV, xAv, xIa, e2]

set_option maxHeartbeats 1000000 in
theorem yFu (hE : Exp v B N f size bad stp I) {j k : Nat} {s5 s6 : AV} {s : σ} {lb : Nat} {G : xAu} (hI : I s lb G) (hb : bad s = false) (hj : j < size s) (hk : k < size s) :
    ∃ G' lb' yy, L.loop xH9 xPz ⟨xGu (.int .i64 v) f (.int .i64 (size s : Nat)) s5 s6 (.agg [.int .i64 (j : Nat), .int .i64 (k : Nat), .int .i64 (k : Nat), .int .i64 (j : Nat)]) (.int .i64 0), G⟩ =
      some (.exit (if bad (goP bad stp (two v) j k s) = true then 0 else 4), ⟨xGu (.int .i64 v) f (.int .i64 (xH0 (size (goP bad stp (two v) j k s)) (bad (goP bad stp (two v) j k s)))) s5 s6 (.agg [.int .i64 (j : Nat), .int .i64 (k : Nat), .int .i64 (k : Nat), .int .i64 (j : Nat)]) yy, G'⟩) ∧
      I (goP bad stp (two v) j k s) lb' G' := by
  have hlb := hE.lb s lb G hI
  have hsh := xI9 hE.v0 hE.v3
  have hv : ¬ v < 0 := by have := hE.v0; omega
  obtain ⟨G', lb', xx, f1, f2⟩ := yEB hE (l := j) (r := k) (p := G.length) (s5 := s5) (s6 := s6) (s26 := .agg [.int .i64 (j : Nat), .int .i64 (k : Nat), .int .i64 (k : Nat), .int .i64 (j : Nat)]) (s27 := .int .i64 0) hlb.2 (two v) 0 s lb
    (G ++ [.cells false false [.int .i64 (j : Nat), .int .i64 (k : Nat)]]) (by omega) (hE.grow _ _ _ _ hI) hb hj hk (xCM _ _) (by omega)
  have hm := xE1 (bad := bad) hE.mono j k (two v) 0 s
  unfold goP
  generalize goX bad stp j k 0 (two v) s = s' at *
  simp only [Int.natCast_zero] at f1
  cases hb' : bad s' with
  | true =>
    rw [hb'] at f1
    refine ⟨G', lb', .int .i64 0, ?_, by simpa using f2⟩
    simp only [xH0, if_true, hb'] at f1 ⊢
    rw [xLU]
    simp (maxSteps := 30000000) (disch := first | assumption | omega | (simp only [List.length_cons, List.length_nil, List.length_append, List.length_set, List.length_replicate, List.length_map, List.length_range, List.length_take, List.length_drop, List.all_cons, List.all_nil, AV.isCell, Bool.and_self, Bool.and_true, xAh, xAb, xAe, xAa, xAa, xAC, List.length_map] <;> omega) | rfl | decide) only [xH8, xAp, xAf, xAc, xAk, xAy, opv, List.getD_cons_succ, List.getD_cons_zero, xAz, Int.reduceLT, decide_true, xAl, xAq, List.set_cons_succ, List.set_cons_zero, xAi, xAg, xAj, xAd, xAo, xAn, ↓reduceIte, xAx, xAr, xDs, xCp, Int.toNat_zero, Nat.reduceMul, List.drop_zero, List.take_succ_cons, List.take_zero, xHJ, xBz, AV.cells, List.all_cons, AV.isCell, List.all_nil, Bool.and_self, xA4, List.length_cons, List.length_nil, Nat.zero_add, Nat.reduceAdd, xBE, xCM, List.getElem?_cons_zero, xAX, xBd, List.nil_append, List.drop_succ_cons, List.drop_nil, List.append_nil, xDq, xAK, xBl, xAA, xDb, hsh, xA6, xH7, f1, Int.reduceNeg, xAS, Nat.reduceEqDiff, xBc, xA3, xIa]
  | false =>
    rw [hb'] at f1
    obtain ⟨G2, lb2, yy, g1, g2⟩ := yDn (s5 := s5) (s6 := s6) hE f2 hb' (show j < size s' by omega) (show k < size s' by omega)
    refine ⟨G2, lb2, yy, ?_, by simpa using g2⟩
    simp only [Bool.false_eq_true, if_false] at f1 g1 ⊢
    generalize hrr : xH0 (size s') false = rr at f1
    have hrr' : rr = ((size s' : Nat) : Int) := by rw [← hrr]; rfl
    subst hrr'
    generalize goX bad stp k j 0 (two v) s' = s2 at *
    generalize xH0 (size s2) (bad s2) = w at *
    rw [xLU]
    simp (maxSteps := 30000000) (disch := first | assumption | omega | (simp only [List.length_cons, List.length_nil, List.length_append, List.length_set, List.length_replicate, List.length_map, List.length_range, List.length_take, List.length_drop, List.all_cons, List.all_nil, AV.isCell, Bool.and_self, Bool.and_true, xAh, xAb, xAe, xAa, xAa, xAC, List.length_map] <;> omega) | rfl | decide) only [xH8, xAp, xAf, xAc, xAk, xAy, opv, List.getD_cons_succ, List.getD_cons_zero, xAz, Int.reduceLT, decide_true, xAl, xAq, List.set_cons_succ, List.set_cons_zero, xAi, xAg, xAj, xAd, xAo, xAn, ↓reduceIte, xAx, xAr, xDs, xCp, Int.toNat_zero, Nat.reduceMul, List.drop_zero, List.take_succ_cons, List.take_zero, xHJ, xBz, AV.cells, List.all_cons, AV.isCell, List.all_nil, Bool.and_self, xA4, List.length_cons, List.length_nil, Nat.zero_add, Nat.reduceAdd, xBE, xCM, List.getElem?_cons_zero, xAX, xBd, List.nil_append, List.drop_succ_cons, List.drop_nil, List.append_nil, xDq, xAK, xBl, xAA, xDb, hsh, xA6, xH7, f1, xAS, xAs, xBa, Int.zero_add, xCV, xAv, xIa, g1]
end
end Go.Abs.Det

/- explore, over any call: the whole. -/
namespace Go.Abs.Det
open Go Go.Abs
set_option linter.unusedSimpArgs false
set_option linter.unusedVariables false

section
variable {σ : Type} {v : Int} {B N : Nat} {f : AV} {size : σ → Nat} {bad : σ → Bool} {stp : σ → Nat → Nat → Nat → σ} {I : σ → Nat → xAu → Prop}

theorem xK2 (h : ∀ s l r x, size s ≤ size (stp s l r x)) (n k : Nat) : ∀ e j s, size s ≤ size (goJ bad stp n k j e s)
  | 0, _, s => Nat.le_refl _
  | e + 1, j, s => by
    unfold goJ
    split
    · exact xK1 h n j k s
    · exact Nat.le_trans (xK1 h n j k s) (xK2 h n k e (j + 1) _)

set_option maxHeartbeats 1000000 in
theorem yFv (hE : Exp v B N f size bad stp I) {k : Nat} : ∀ e j s lb G, j + e = k + 1 → I s lb G → bad s = false → k < size s →
    ∃ G' lb' yy, L.loop xLW xTv ⟨xLX (.int .i64 v) f (.int .i64 (size s : Nat)) (.int .i64 (k : Nat)) (.int .i64 (j : Nat)), G⟩ =
      some (.exit (if bad (goJ bad stp (two v) k j e s) = true then 0 else 2), ⟨xLX (.int .i64 v) f (.int .i64 (xH0 (size (goJ bad stp (two v) k j e s)) (bad (goJ bad stp (two v) k j e s)))) (.int .i64 (k : Nat)) yy, G'⟩) ∧
      I (goJ bad stp (two v) k j e s) lb' G' := by
  intro e
  induction e with
  | zero =>
    intro j s lb G h hI hb hk
    obtain rfl : j = k + 1 := by omega
    have hle := hE.le s lb G hI hb
    have n64 := hE.n64
    refine ⟨G, lb, .int .i64 ((k + 1 : Nat) : Int), ?_, hI⟩
    have c : ¬ (((k + 1 : Nat) : Int) ≤ (k : Nat)) := by omega
    simp only [goJ, hb, xH0]
    rw [xQX]
    simp (maxSteps := 30000000) (disch := first | assumption | omega | (simp only [List.length_cons, List.length_nil, List.length_append, List.length_set, List.length_replicate, List.length_map, List.length_range, List.length_take, List.length_drop, List.all_cons, List.all_nil, AV.isCell, Bool.and_self, Bool.and_true, xAh, xAb, xAe, xAa, xAa, xAC, List.length_map] <;> omega) | rfl | decide) only [xLV, xAp, xAf, xAc, xAk, xAA, opv, List.getD_cons_succ, List.getD_cons_zero, xAq, List.set_cons_succ, List.set_cons_zero, xAi, xAy, xDV, c, decide_false, xAl, xAg, xAj, xAd, xAo, xAn, Bool.false_eq_true, ↓reduceIte, xBt, xBc, xA3, xLY]
  | succ e ih =>
    intro j s lb G h hI hb hk
    have hle := hE.le s lb G hI hb
    have n64 := hE.n64
    have hlt : ((j : Nat) : Int) ≤ (k : Nat) := by omega
    obtain ⟨G1, lb1, yy, f1, f2⟩ := yFu (s5 := .int .i64 (k : Nat)) (s6 := .int .i64 (j : Nat)) hE hI hb (show j < size s by omega) hk
    have hm := xK1 (bad := bad) hE.mono (two v) j k s
    unfold goJ
    generalize goP bad stp (two v) j k s = s' at *
    cases hb' : bad s' with
    | true =>
      rw [hb'] at f1
      refine ⟨G1, lb1, .int .i64 (j : Nat), ?_, by simpa using f2⟩
      simp only [xH0, if_true, hb'] at f1 ⊢
      rw [xQX]
      simp (maxSteps := 30000000) (disch := first | assumption | omega | (simp only [List.length_cons, List.length_nil, List.length_append, List.length_set, List.length_replicate, List.length_map, List.length_range, List.length_take, List.length_drop, List.all_cons, List.all_nil, AV.isCell, Bool.and_self, Bool.and_true, xAh, xAb, xAe, xAa, xAa, xAC, List.length_map] <;> omega) | rfl | decide) only [xLV, xAp, xAf, xAc, xAk, xAA, opv, List.getD_cons_succ, List.getD_cons_zero, xAq, List.set_cons_succ, List.set_cons_zero, xAi, xAy, xDV, hlt, decide_true, xAl, xAg, xAj, xAd, xAo, xAn, ↓reduceIte, xAx, xAr, xCv, AV.cells, List.all_cons, List.length_cons, List.length_nil, Nat.zero_add, beq_self_eq_true, List.all_nil, Bool.and_self, List.map_cons, List.map_nil, xCd, Nat.reduceAdd, Nat.reduceLeDiff, AV.isCell, and_self, xBd, List.take_zero, List.nil_append, List.drop_succ_cons, List.drop_zero, List.cons_append, Nat.le_refl, List.take_succ_cons, List.drop_nil, List.append_nil, Option.map_some, xA6, xIa, f1, Int.reduceNeg, xAS, Nat.reduceEqDiff, xBc, xA3, xLY]
    | false =>
      rw [hb'] at f1
      obtain ⟨G2, lb2, zz, g1, g2⟩ := ih (j + 1) s' lb1 G1 (by omega) f2 hb' (by omega)
      refine ⟨G2, lb2, zz, ?_, by simpa using g2⟩
      simp only [Bool.false_eq_true, if_false] at f1 g1 ⊢
      generalize hrr : xH0 (size s') false = rr at f1
      have hrr' : rr = ((size s' : Nat) : Int) := by rw [← hrr]; rfl
      subst hrr'
      generalize goJ bad stp (two v) k (j + 1) e s' = s2 at *
      generalize xH0 (size s2) (bad s2) = w at *
      rw [xQX]
      simp (maxSteps := 30000000) (disch := first | assumption | omega | (simp only [List.length_cons, List.length_nil, List.length_append, List.length_set, List.length_replicate, List.length_map, List.length_range, List.length_take, List.length_drop, List.all_cons, List.all_nil, AV.isCell, Bool.and_self, Bool.and_true, xAh, xAb, xAe, xAa, xAa, xAC, List.length_map] <;> omega) | rfl | decide) only [xLV, xAp, xAf, xAc, xAk, xAA, opv, List.getD_cons_succ, List.getD_cons_zero, xAq, List.set_cons_succ, List.set_cons_zero, xAi, xAy, xDV, hlt, decide_true, xAl, xAg, xAj, xAd, xAo, xAn, ↓reduceIte, xAx, xAr, xCv, AV.cells, List.all_cons, List.length_cons, List.length_nil, Nat.zero_add, beq_self_eq_true, List.all_nil, Bool.and_self, List.map_cons, List.map_nil, xCd, Nat.reduceAdd, Nat.reduceLeDiff, AV.isCell, and_self, xBd, List.take_zero, List.nil_append, List.drop_succ_cons, List.drop_zero, List.cons_append, Nat.le_refl, List.take_succ_cons, List.drop_nil, List.append_nil, Option.map_some, xA6, xIa, f1, xAS, xAs, xBa, xCi, xCV, xAv, xLY, g1]

set_option maxHeartbeats 1000000 in
theorem yFw (hE : Exp v B N f size bad stp I) : ∀ e k s lb G, k + e = N → I s lb G → bad s = false →
    ∃ G' lb' zz yy, L.loop xLZ xTw ⟨xL0 (.int .i64 v) f (.int .i64 (size s : Nat)) (.int .i64 (k : Nat)), G⟩ =
      some (.exit 0, ⟨xL0 (.int .i64 v) f zz yy, G'⟩) ∧
      I (goK size bad stp (two v) k e s) lb' G' := by
  intro e
  induction e with
  | zero =>
    intro k s lb G h hI hb
    have hle := hE.le s lb G hI hb
    have n64 := hE.n64
    have c : ¬ ((k : Nat) : Int) < (size s : Nat) := by omega
    refine ⟨G, lb, .int .i64 (size s : Nat), .int .i64 (k : Nat), ?_, hI⟩
    rw [xOL]
    simp (maxSteps := 30000000) (disch := first | assumption | omega | (simp only [List.length_cons, List.length_nil, List.length_append, List.length_set, List.length_replicate, List.length_map, List.length_range, List.length_take, List.length_drop, List.all_cons, List.all_nil, AV.isCell, Bool.and_self, Bool.and_true, xAh, xAb, xAe, xAa, xAa, xAC, List.length_map] <;> omega) | rfl | decide) only [xJH, xAp, xAf, xAc, xAk, xAA, opv, List.getD_cons_succ, List.getD_cons_zero, xAq, List.set_cons_succ, List.set_cons_zero, xAi, xAy, xAz, c, decide_false, xAl, xAg, xAj, xAd, xAo, xAn, Bool.false_eq_true, ↓reduceIte, xBt, xBc, xA3, xL1]
  | succ e ih =>
    intro k s lb G h hI hb
    have hle := hE.le s lb G hI hb
    have n64 := hE.n64
    unfold goK
    by_cases c : k < size s
    · rw [if_pos c]
      have hlt : ((k : Nat) : Int) < (size s : Nat) := by omega
      obtain ⟨G1, lb1, yy, f1, f2⟩ := yFv hE (k + 1) 0 s lb G (by omega) hI hb c
      generalize goJ bad stp (two v) k 0 (k + 1) s = s' at *
      simp only [Int.natCast_zero] at f1
      cases hb' : bad s' with
      | true =>
        rw [hb'] at f1
        refine ⟨G1, lb1, .int .i64 (-1), .int .i64 (k : Nat), ?_, by simpa using f2⟩
        simp only [xH0, if_true, hb'] at f1 ⊢
        rw [xOL]
        simp (maxSteps := 30000000) (disch := first | assumption | omega | (simp only [List.length_cons, List.length_nil, List.length_append, List.length_set, List.length_replicate, List.length_map, List.length_range, List.length_take, List.length_drop, List.all_cons, List.all_nil, AV.isCell, Bool.and_self, Bool.and_true, xAh, xAb, xAe, xAa, xAa, xAC, List.length_map] <;> omega) | rfl | decide) only [xJH, xAp, xAf, xAc, xAk, xAA, opv, List.getD_cons_succ, List.getD_cons_zero, xAq, List.set_cons_succ, List.set_cons_zero, xAi, xAy, xAz, hlt, decide_true, xAl, xAg, xAj, xAd, xAo, xAn, ↓reduceIte, xAx, xAr, xA6, xLY, f1, Int.reduceNeg, xAS, Nat.reduceEqDiff, xBc, xA3, xL1]
      | false =>
        rw [hb'] at f1
        obtain ⟨G2, lb2, zz, ww, g1, g2⟩ := ih (k + 1) s' lb1 G1 (by omega) f2 hb'
        refine ⟨G2, lb2, zz, ww, ?_, by simpa using g2⟩
        simp only [Bool.false_eq_true, if_false, xH0] at f1 g1 ⊢
        rw [xOL]
        simp (maxSteps := 30000000) (disch := first | assumption | omega | (simp only [List.length_cons, List.length_nil, List.length_append, List.length_set, List.length_replicate, List.length_map, List.length_range, List.length_take, List.length_drop, List.all_cons, List.all_nil, AV.isCell, Bool.and_self, Bool.and_true, xAh, xAb, xAe, xAa, xAa, xAC, List.length_map] <;> omega) | rfl | decide) only [xJH, xAp, xAf, xAc, xAk, xAA, opv, List.getD_cons_succ, List.getD_cons_zero, xAq, List.set_cons_succ, List.set_cons_zero, xAi, xAy, xAz, hlt, decide_true, xAl, xAg, xAj, xAd, xAo, xAn, ↓reduceIte, xAx, xAr, xA6, xLY, f1, xAS, xAs, xBa, xCi, xCV, xAv, xL1, g1]
    · rw [if_neg c]
      have c' : ¬ ((k : Nat) : Int) < (size s : Nat) := by omega
      refine ⟨G, lb, .int .i64 (size s : Nat), .int .i64 (k : Nat), ?_, hI⟩
      rw [xOL]
      simp (maxSteps := 30000000) (disch := first | assumption | omega | (simp only [List.length_cons, List.length_nil, List.length_append, List.length_set, List.length_replicate, List.length_map, List.length_range, List.length_take, List.length_drop, List.all_cons, List.all_nil, AV.isCell, Bool.and_self, Bool.and_true, xAh, xAb, xAe, xAa, xAa, xAC, List.length_map] <;> omega) | rfl | decide) only [xJH, xAp, xAf, xAc, xAk, xAA, opv, List.getD_cons_succ, List.getD_cons_zero, xAq, List.set_cons_succ, List.set_cons_zero, xAi, xAy, xAz, c', decide_false, xAl, xAg, xAj, xAd, xAo, xAn, Bool.false_eq_true, ↓reduceIte, xBt, xBc, xA3, xL1]

theorem xM6 (hE : Exp v B N f size bad stp I) {s : σ} {lb : Nat} {G : xAu} (hI : I s lb G) (hb : bad s = false) (h1 : size s = 1) :
    ∃ G' lb', L.icall (.func 75 []) [.int .i64 v, f] G = some (.tup [], G') ∧ I (goK size bad stp (two v) 0 N s) lb' G' := by
  obtain ⟨G', lb', zz, yy, f1, f2⟩ := yFw hE N 0 s lb G (by omega) hI hb
  refine ⟨G', lb', ?_, f2⟩
  have h1' : ((size s : Nat) : Int) = 1 := by omega
  rw [h1'] at f1
  simp only [Int.natCast_zero] at f1
  rw [yEU, a75, xAU]
  simp (maxSteps := 30000000) (disch := first | assumption | omega | (simp only [List.length_cons, List.length_nil, List.length_append, List.length_set, List.length_replicate, List.length_map, List.length_range, List.length_take, List.length_drop, List.all_cons, List.all_nil, AV.isCell, Bool.and_self, Bool.and_true, xAh, xAb, xAe, xAa, xAa, xAC, List.length_map] <;> omega) | rfl | decide) only [List.append_nil, List.length_cons, List.length_nil, Nat.zero_add, Nat.reduceAdd, Nat.reduceSub, xCL, List.cons_append, List.nil_append, xIp, xAp, xAf, xAc, xAk, xAA, opv, xAq, List.set_cons_succ, List.set_cons_zero, xAi, xAg, xAj, xAd, xIo, xAr, xA6, xL1, f1, xAS, ↓reduceIte, xMi, xRh, xAw]
end
end Go.Abs.Det

/- renumber: its calls. -/
namespace Go.Abs.Det
open Go Go.Abs
set_option linter.unusedSimpArgs false
set_option linter.unusedVariables false

def xN3 (k : Int) : List Int → Nat → Option Nat
  | [], _ => none
  | k' :: ks, i => if k = k' then some i else xN3 k ks (i + 1)
def xPp : List Int → Nat → List (AV × AV)
  | [], _ => []
  | k :: ks, i => (.int .i64 k, .int .i64 (i : Nat)) :: xPp ks (i + 1)
theorem xK3 : ∀ (ks : List Int) (i : Nat), (xPp ks i).length = ks.length
  | [], _ => rfl
  | k :: ks, i => by rw [xPp, List.length_cons, List.length_cons, xK3 ks]
theorem xM7 (k : Int) : ∀ (ks : List Int) (i : Nat), xPp (ks ++ [k]) i = xPp ks i ++ [(.int .i64 k, .int .i64 ((i + ks.length : Nat) : Int))]
  | [], i => rfl
  | k' :: ks, i => by
    rw [List.cons_append, xPp, xPp, xM7 k ks (i + 1), List.length_cons, List.cons_append]
    congr 4
    rw [show i + 1 + ks.length = i + (ks.length + 1) by omega]
theorem xM8 (a b : Int) : xFf (.int .i64 a) (.int .i64 b) = some (decide (a = b)) := by
  simp only [xFf, xKa]
  by_cases h : a = b <;> simp [h]
theorem xJp {k : Int} : ∀ (ks : List Int) (i : Nat), xHf (.int .i64 k) (xPp ks i) = some ((xN3 k ks i).map fun (j : Nat) => AV.int .i64 (j : Nat))
  | [], i => rfl
  | k' :: ks, i => by
    simp only [xPp, xHf, xM8, xN3]
    by_cases c : k = k'
    · simp [c]
    · simp only [c, decide_false]
      rw [xJp ks (i + 1)]
      simp
theorem xPq {k : Int} {v : AV} : ∀ (ks : List Int) (i : Nat), xN3 k ks i = none → xPd (.int .i64 k) v (xPp ks i) = some (xPp ks i ++ [(.int .i64 k, v)])
  | [], i, _ => rfl
  | k' :: ks, i, hn => by
    unfold xN3 at hn
    split at hn
    · cases hn
    rename_i c
    simp only [xPp, xPd, xM8, c, decide_false]
    rw [xPq ks (i + 1) hn]
    rfl
theorem xM9 {k : Int} : ∀ {ks : List Int} {i j : Nat}, xN3 k ks i = some j → i ≤ j ∧ ks[j - i]? = some k
  | [], i, j, h => by cases h
  | k' :: ks, i, j, h => by
    unfold xN3 at h
    split at h
    · rename_i c
      cases h
      exact ⟨Nat.le_refl _, by rw [Nat.sub_self, c]; rfl⟩
    · obtain ⟨h1, h2⟩ := xM9 h
      refine ⟨by omega, ?_⟩
      rw [show j - i = (j - (i + 1)) + 1 by omega]
      exact h2
theorem idxI_none {k : Int} : ∀ {ks : List Int} {i : Nat}, xN3 k ks i = none ↔ k ∉ ks
  | [], i => by simp [xN3]
  | k' :: ks, i => by
    unfold xN3
    split
    · rename_i c; simp [c]
    · rename_i c
      rw [idxI_none (ks := ks)]
      simp [c]

def xDi (D : Da) (o : List Int) (l r x : Nat) : List Int :=
  if nx D (o.getD l 0) (o.getD r 0) x ∈ o then o else o ++ [nx D (o.getD l 0) (o.getD r 0) x]
structure OrdOk (D : Da) (o : List Int) : Prop where
  nd : o.Nodup
  bd : ∀ s ∈ o, 0 ≤ s ∧ s < D.next.length
theorem xUQ : ∀ {o : List Int} {n : Nat}, o.Nodup → (∀ s ∈ o, 0 ≤ s ∧ s < (n : Int)) → o.length ≤ n := by
  intro o n hn hb
  refine xSP n o.length (fun i => (o.getD i 0).toNat) (fun i hi => ?_) (fun i j hi hj e => ?_)
  · have := hb _ (xBF (a := (0 : Int)) hi); omega
  · have h1 := hb _ (xBF (a := (0 : Int)) hi)
    have h2 := hb _ (xBF (a := (0 : Int)) hj)
    have h3 : o.getD i 0 = o.getD j 0 := by
      have e' : (o.getD i 0).toNat = (o.getD j 0).toNat := e
      omega
    rw [List.getD_eq_getElem?_getD, List.getD_eq_getElem?_getD, List.getElem?_eq_getElem hi, List.getElem?_eq_getElem hj] at h3
    have hp := List.pairwise_iff_getElem.1 hn
    have h4 : o[i] = o[j] := Option.some.inj (by simpa using h3)
    rcases Nat.lt_trichotomy i j with q | q | q
    · exact absurd h4 (hp i j hi hj q)
    · exact q
    · exact absurd h4.symm (hp j i hj hi q)
theorem OrdOk.le {D : Da} {o : List Int} (h : OrdOk D o) : o.length ≤ D.next.length := xUQ h.nd h.bd
theorem OrdOk.step {D : Da} {o : List Int} (hV : Va D) (h : OrdOk D o) {l r x : Nat} (hl : l < o.length) (hr : r < o.length) (hx : x < two D.vars) : OrdOk D (xDi D o l r x) := by
  unfold xDi
  split
  · exact h
  · rename_i c
    refine ⟨?_, fun s hs => ?_⟩
    · rw [List.nodup_append]
      refine ⟨h.nd, by simp, fun a ha b hb => ?_⟩
      rw [List.mem_singleton] at hb
      subst hb
      intro e
      subst e
      exact c ha
    · rcases List.mem_append.1 hs with q | q
      · exact h.bd s q
      · rw [List.mem_singleton] at q
        subst q
        exact xNV hV (h.bd _ (xBF hl)) (h.bd _ (xBF hr)) hx

structure RenI (D : Da) (o : List Int) (lb : Nat) (G : xAu) : Prop where
  ok : OrdOk D o
  b0 : G[0]? = some (.cells false false D.cells)
  b1 : G[1]? = some (.cells false false [.int .i64 0, .int .i64 0, .sl true 0 [], .sl true 0 []])
  b2 : G[2]? = some (.mp (xPp o 0))
  b3 : G[3]? = some (.cells false false [.mp 2])
  b5 : G[5]? = some (.cells false false [.own false lb 0 o.length 1])
  bl : G[lb]? = some (.cells false false (xCh o))
  lo : lb = 4 ∨ 6 ≤ lb

set_option maxRecDepth 10000 in
set_option maxHeartbeats 4000000 in
theorem xX8 {D : Da} {o : List Int} {lb : Nat} {G : xAu} {l r x p : Nat} (hV : Va D) (hI : RenI D o lb G) (hl : l < o.length) (hr : r < o.length) (hx : x < two D.vars) (hp : 6 ≤ p) (hpl : p ≠ lb) (hpg : p < G.length) :
    ∃ G' lb', L.icall (.func 102 [.ptr 0 0, .ptr 5 0, .ptr 3 0]) [.int .i64 (l : Nat), .int .i64 (r : Nat), .int .i64 (x : Nat)] G = some (.int .i64 ((xDi D o l r x).length : Nat), G') ∧
      RenI D (xDi D o l r x) lb' G' ∧ G'[p]? = G[p]? ∧ p ≠ lb' := by
  have hstep := hI.ok.step hV hl hr hx
  have hle := hI.ok.le
  have hle2 := hstep.le
  have n64 := hV.n64
  have h8 := (xDy hV.v3).1
  obtain ⟨ok, b0, b1, b2, b3, b5, bl, lo⟩ := hI
  have hbl := (List.getElem?_eq_some_iff.1 bl).1
  have hb5 := (List.getElem?_eq_some_iff.1 b5).1
  have sl := ok.bd _ (xBF (a := (0 : Int)) hl)
  have sr := ok.bd _ (xBF (a := (0 : Int)) hr)
  have g1 : List.take 1 (List.drop l (xCh o)) = [.int .i64 (o.getD l 0)] := xCe _ _ hl
  have g2 : List.take 1 (List.drop r (xCh o)) = [.int .i64 (o.getD r 0)] := xCe _ _ hr
  have hord : xDi D o l r x = if nx D (o.getD l 0) (o.getD r 0) x ∈ o then o else o ++ [nx D (o.getD l 0) (o.getD r 0) x] := rfl
  generalize hA : o.getD l 0 = A at *
  generalize hB : o.getD r 0 = C at *
  have m1 := xBF (a := ([] : List (List Int))) (show A.toNat < D.next.length by omega)
  have m2 := hV.rl _ m1
  have m3 := xBF (a := ([] : List Int)) (show C.toNat < (D.next.getD A.toNat []).length by omega)
  have m4 := hV.cl _ m1 _ m3
  have gx : List.take 1 (List.drop x (xCh ((D.next.getD A.toNat []).getD C.toNat []))) = [.int .i64 (((D.next.getD A.toNat []).getD C.toNat []).getD x 0)] := xCe _ _ (by omega)
  have hnx : nx D A C x = ((D.next.getD A.toNat []).getD C.toNat []).getD x 0 := rfl
  rw [hnx] at hord
  have hf := xJp (k := ((D.next.getD A.toNat []).getD C.toNat []).getD x 0) o 0
  have hel := xK3 o 0
  generalize hS : ((D.next.getD A.toNat []).getD C.toNat []).getD x 0 = S at *
  generalize xDi D o l r x = o2 at *
  unfold Da.cells at b0
  cases hidx : xN3 S o 0 with
  | some j =>
    rw [hidx] at hf
    have hmem : S ∈ o := Classical.byContradiction fun h => by rw [idxI_none.2 h] at hidx; cases hidx
    rw [if_pos hmem] at hord
    subst hord
    refine ⟨G, lb, ?_, ⟨ok, by unfold Da.cells; exact b0, b1, b2, b3, b5, bl, lo⟩, rfl, hpl⟩
    rw [xZk, xZf]
    simp (maxSteps := 30000000) (disch := first | assumption | omega | (simp only [List.length_cons, List.length_nil, List.length_append, List.length_set, List.length_replicate, List.length_map, List.length_range, List.length_take, List.length_drop, List.all_cons, List.all_nil, AV.isCell, Bool.and_self, Bool.and_true, xAh, xAb, xAe, xAa, xAa, xAC, List.length_map] <;> omega) | rfl | decide) only [List.cons_append, List.nil_append, xAU, List.length_cons, List.length_nil, Nat.zero_add, Nat.reduceAdd, Nat.reduceSub, xCL, xAp, xAf, xAc, xAk, xAA, opv, xAq, List.set_cons_succ, List.set_cons_zero, xAi, xAg, xAj, xAd, xBI, List.take_succ_cons, List.take_zero, xA5, xBf, xBY, xAV, List.getD_cons_succ, List.getD_cons_zero, xAB, xAl, xBq, xBC, xBo, xBR, xAJ, xA1, b0, xAt, List.drop_succ_cons, List.drop_zero, xAO, b5, List.take_nil, xCx, xCg, xAZ, xBU, Int.toNat_natCast, Nat.mul_one, bl, xB1, xBW, xCr, xBV, Nat.add_zero, hA, xAY, xBj, xFI, xCF, m2, hB, xI8, xFk, m4, xBe, xBn, xCt, xBy, hS, b3, xE4, xC9, ↓reduceIte, xGq, b2, xDg, xDJ, hf, Option.map_some, xGZ, xIu, xEO, List.getElem?_cons_zero, List.getElem?_cons_succ, xHI, xE7, Bool.not_true, xAo, xAn, Bool.false_eq_true, xAx, xBk, xC0, xAW, xAI, xAR, xA2, xAw]
  | none =>
    rw [hidx] at hf
    have hmem : S ∉ o := idxI_none.1 hidx
    rw [if_neg hmem] at hord
    subst hord
    have hupd := xPq (v := .int .i64 ((o.length : Nat) : Int)) o 0 hidx
    have hsn := xM7 S o 0
    rw [Nat.zero_add] at hsn
    rw [← hsn] at hupd
    have xDU : ∀ X : Blk, (G.set 2 X)[0]? = G[0]? ∧ (G.set 2 X)[3]? = G[3]? ∧ (G.set 2 X)[5]? = G[5]? ∧ (G.set 2 X)[lb]? = G[lb]? := fun X => ⟨List.getElem?_set_ne (by omega), List.getElem?_set_ne (by omega), List.getElem?_set_ne (by omega), List.getElem?_set_ne (by omega)⟩
    have z5 := fun X : Blk => (xDU X).2.2.1.trans b5
    have zl := fun X : Blk => (xDU X).2.2.2.trans bl
    have htk : List.take o.length o = o := List.take_length
    have z5b : ∀ (X : Blk) (T : xAu), ((G.set 2 X).set lb .dead ++ T)[5]? = some (.cells false false [.own false lb 0 o.length 1]) := fun X T => xA9 (by rw [List.getElem?_set_ne (by omega)]; exact z5 X)
    have z5c : ∀ (X Y : Blk) (T : xAu), (((G.set 2 X).set lb .dead ++ T).set 5 Y)[5]? = some Y := fun X Y T => List.getElem?_set_self (by simp; omega)
    have hints : xCh o ++ [AV.int .i64 S] = xCh (o ++ [S]) := by simp [xCh]
    obtain ⟨G', hG'⟩ : ∃ G' : xAu, G' = (((G.set 2 (.mp (xPp (o ++ [S]) 0))).set lb .dead) ++ [Blk.cells false false (xCh (o ++ [S]))]).set 5 (.cells false false [.own false G.length 0 (o.length + 1) 1]) := ⟨_, rfl⟩
    have old : ∀ b, b ≠ 2 → b ≠ lb → b ≠ 5 → b < G.length → G'[b]? = G[b]? := fun b h2 h3 h4 h5 => by
      rw [hG', List.getElem?_set_ne (Ne.symm h4), List.getElem?_append_left (by simpa using h5), List.getElem?_set_ne (Ne.symm h3), List.getElem?_set_ne (Ne.symm h2)]
    refine ⟨G', G.length, ?_, ⟨hstep, by unfold Da.cells; exact (old 0 (by omega) (by omega) (by omega) (by omega)).trans b0, (old 1 (by omega) (by omega) (by omega) (by omega)).trans b1, ?_, (old 3 (by omega) (by omega) (by omega) (by omega)).trans b3, ?_, ?_, .inr (by omega)⟩, old p (by omega) hpl (by omega) hpg, by omega⟩
    · rw [hG', xZk, xZf]
      simp (maxSteps := 30000000) (disch := first | assumption | omega | (simp only [List.length_cons, List.length_nil, List.length_append, List.length_set, List.length_replicate, List.length_map, List.length_range, List.length_take, List.length_drop, List.all_cons, List.all_nil, AV.isCell, Bool.and_self, Bool.and_true, xAh, xAb, xAe, xAa, xAa, xAC, List.length_map] <;> omega) | rfl | decide) only [List.cons_append, List.nil_append, xAU, List.length_cons, List.length_nil, Nat.zero_add, Nat.reduceAdd, Nat.reduceSub, xCL, xAp, xAf, xAc, xAk, xAA, opv, xAq, List.set_cons_succ, List.set_cons_zero, xAi, xAg, xAj, xAd, xBI, List.take_succ_cons, List.take_zero, xA5, xBf, xBY, xAV, List.getD_cons_succ, List.getD_cons_zero, xAB, xAl, xBq, xBC, xBo, xBR, xAJ, xA1, b0, xAt, List.drop_succ_cons, List.drop_zero, xAO, b5, List.take_nil, xCx, xCg, xAZ, xBU, Int.toNat_natCast, Nat.mul_one, bl, xB1, xBW, xCr, xBV, Nat.add_zero, hA, xAY, xBj, xFI, xCF, m2, hB, xI8, xFk, m4, xBe, xBn, xCt, xBy, hS, b3, xE4, xC9, ↓reduceIte, xGq, b2, xDg, xDJ, hf, Option.map_none, xK6, xIu, xEO, List.getElem?_cons_zero, List.getElem?_cons_succ, xHI, xE7, Bool.not_false, xAo, xAn, xBk, xC0, xJr, xJq, xEL, hupd, xFL, xBl, xDU, xBP, AV.cells, List.all_cons, beq_self_eq_true, List.all_nil, Bool.and_self, xC1, List.append_nil, List.map_cons, List.map_nil, xCd, Nat.le_refl, AV.isCell, and_self, xBd, List.drop_nil, xBO, xB5, xBL, List.flatMap_cons, xCn, List.flatMap_nil, List.isEmpty_nil, List.mapM_cons, xA0, List.mapM_nil, Option.pure_def, Option.bind_eq_bind, Option.bind_some, xB6, xBT, xDk, xDh, xCG, Nat.reduceBEq, List.length_set, htk, hints, xA4, xBE, z5b, xAX, xAK, z5c, xAW, xAI, xAR, xA2, xAw, List.length_append]
    · rw [hG', List.getElem?_set_ne (by omega), List.getElem?_append_left (by simp; omega), List.getElem?_set_ne (by omega), List.getElem?_set_self (by omega)]
    · rw [hG', List.getElem?_set_self (by simp; omega)]; simp
    · rw [hG', List.getElem?_set_ne (by omega), List.getElem?_append_right (by simp)]; simp
end Go.Abs.Det

/- renumber: explore over it; the reading calls. -/
namespace Go.Abs.Det
open Go Go.Abs
set_option linter.unusedSimpArgs false
set_option linter.unusedVariables false

theorem xX9 {D : Da} (hV : Va D) : Exp D.vars 6 D.next.length (.func 102 [.ptr 0 0, .ptr 5 0, .ptr 3 0]) List.length (fun _ => false) (xDi D) (RenI D) where
  v0 := hV.v0
  v3 := hV.v3
  n64 := hV.n64
  grow := fun s lb G X h => ⟨h.ok, xA9 h.b0, xA9 h.b1, xA9 h.b2, xA9 h.b3, xA9 h.b5, xA9 h.bl, h.lo⟩
  lb := fun s lb G h => ⟨(List.getElem?_eq_some_iff.1 h.bl).1, (List.getElem?_eq_some_iff.1 h.b5).1⟩
  le := fun s lb G h _ => h.ok.le
  mono := fun s l r x => by
    unfold xDi
    split
    · exact Nat.le_refl _
    · simp
  call := fun s lb G l r x p hI _ hl hr hx hp hpl hpg => by
    obtain ⟨G', lb', h1, h2, h3, h4⟩ := xX8 hV hI hl hr hx hp hpl hpg
    exact ⟨G', lb', by simpa [xH0] using h1, h2, h3, h4⟩

def xEg (D : Da) : List Int := goK List.length (fun _ => false) (xDi D) (two D.vars) 0 D.next.length [D.empty]

def xV0 (o : List Int) (s : Int) : Nat := (xN3 s o 0).getD 0

set_option maxRecDepth 10000 in
set_option maxHeartbeats 2000000 in
theorem xYa {D : Da} {o : List Int} {lb : Nat} {G : xAu} {l r x : Nat} (hV : Va D) (hI : RenI D o lb G) (hl : l < o.length) (hr : r < o.length) (hx : x < two D.vars) (hm : nx D (o.getD l 0) (o.getD r 0) x ∈ o) :
    L.icall (.func 103 [.ptr 3 0, .ptr 0 0, .ptr 5 0]) [.int .i64 (l : Nat), .int .i64 (r : Nat), .int .i64 (x : Nat)] G = some (.int .i64 (xV0 o (nx D (o.getD l 0) (o.getD r 0) x) : Nat), G) := by
  have hle := hI.ok.le
  have n64 := hV.n64
  have h8 := (xDy hV.v3).1
  obtain ⟨ok, b0, b1, b2, b3, b5, bl, lo⟩ := hI
  have sl := ok.bd _ (xBF (a := (0 : Int)) hl)
  have sr := ok.bd _ (xBF (a := (0 : Int)) hr)
  have g1 : List.take 1 (List.drop l (xCh o)) = [.int .i64 (o.getD l 0)] := xCe _ _ hl
  have g2 : List.take 1 (List.drop r (xCh o)) = [.int .i64 (o.getD r 0)] := xCe _ _ hr
  generalize hA : o.getD l 0 = A at *
  generalize hB : o.getD r 0 = C at *
  have m1 := xBF (a := ([] : List (List Int))) (show A.toNat < D.next.length by omega)
  have m2 := hV.rl _ m1
  have m3 := xBF (a := ([] : List Int)) (show C.toNat < (D.next.getD A.toNat []).length by omega)
  have m4 := hV.cl _ m1 _ m3
  have gx : List.take 1 (List.drop x (xCh ((D.next.getD A.toNat []).getD C.toNat []))) = [.int .i64 (((D.next.getD A.toNat []).getD C.toNat []).getD x 0)] := xCe _ _ (by omega)
  have hnx : nx D A C x = ((D.next.getD A.toNat []).getD C.toNat []).getD x 0 := rfl
  rw [hnx] at hm ⊢
  have hf := xJp (k := ((D.next.getD A.toNat []).getD C.toNat []).getD x 0) o 0
  have hel := xK3 o 0
  generalize hS : ((D.next.getD A.toNat []).getD C.toNat []).getD x 0 = S at *
  unfold Da.cells at b0
  unfold xV0
  cases hidx : xN3 S o 0 with
  | none => exact absurd hm (idxI_none.1 hidx)
  | some j =>
    rw [hidx] at hf
    rw [yCn, yBf]
    simp (maxSteps := 30000000) (disch := first | assumption | omega | (simp only [List.length_cons, List.length_nil, List.length_append, List.length_set, List.length_replicate, List.length_map, List.length_range, List.length_take, List.length_drop, List.all_cons, List.all_nil, AV.isCell, Bool.and_self, Bool.and_true, xAh, xAb, xAe, xAa, xAa, xAC, List.length_map] <;> omega) | rfl | decide) only [List.cons_append, List.nil_append, xAU, List.length_cons, List.length_nil, Nat.zero_add, Nat.reduceAdd, Nat.reduceSub, xCL, xAp, xAf, xAc, xAk, xAA, opv, xAq, List.set_cons_succ, List.set_cons_zero, xAi, xAg, xAj, xAd, xBI, List.take_succ_cons, List.take_zero, xA5, xBf, xBR, xAJ, List.getD_cons_succ, List.getD_cons_zero, xA1, b3, xAt, List.drop_zero, List.take_nil, xAO, xAl, xBq, xBC, xBo, xBY, xAV, xAB, b0, List.drop_succ_cons, b5, xCx, xCg, xAZ, xBU, Int.toNat_natCast, Nat.mul_one, bl, xB1, xBW, xCr, xBV, Nat.add_zero, hA, xAY, xBj, xFI, xCF, m2, hB, xI8, xFk, m4, xBe, xBn, xCt, xBy, hS, xE4, xC9, ↓reduceIte, xGq, b2, xDg, xDJ, hf, Option.map_some, xGZ, Bool.false_eq_true, xAW, xAI, xAR, xA2, xAw, Option.getD_some]

theorem xYb {D : Da} {o : List Int} {lb : Nat} {G : xAu} {l : Nat} (hV : Va D) (hI : RenI D o lb G) (hl : l < o.length) :
    L.icall (.func 104 [.ptr 0 0, .ptr 5 0]) [.int .i64 (l : Nat)] G = some (.bool (D.fin.getD (o.getD l 0).toNat false), G) := by
  have hle := hI.ok.le
  have n64 := hV.n64
  have fl := hV.fl
  obtain ⟨ok, b0, b1, b2, b3, b5, bl, lo⟩ := hI
  have sl := ok.bd _ (xBF (a := (0 : Int)) hl)
  have g1 : List.take 1 (List.drop l (xCh o)) = [.int .i64 (o.getD l 0)] := xCe _ _ hl
  generalize hA : o.getD l 0 = A at *
  have gf : List.take 1 (List.drop A.toNat (xCq D.fin)) = [.bool (D.fin.getD A.toNat false)] := xCe _ _ (by omega)
  unfold Da.cells at b0
  rw [yCo, yBg]
  simp (maxSteps := 30000000) (disch := first | assumption | omega | (simp only [List.length_cons, List.length_nil, List.length_append, List.length_set, List.length_replicate, List.length_map, List.length_range, List.length_take, List.length_drop, List.all_cons, List.all_nil, AV.isCell, Bool.and_self, Bool.and_true, xAh, xAb, xAe, xAa, xAa, xAC, List.length_map] <;> omega) | rfl | decide) only [List.cons_append, List.nil_append, xAU, List.length_cons, List.length_nil, Nat.zero_add, Nat.reduceAdd, Nat.reduceSub, xCL, xAp, xAf, xAc, xAk, xAA, opv, xAq, List.set_cons_succ, List.set_cons_zero, xAi, xAg, xAj, xAd, xBI, List.take_succ_cons, List.take_zero, xA5, xBf, xBY, xAV, List.getD_cons_succ, List.getD_cons_zero, xAB, xAl, xBq, xBC, xBo, xBR, xAJ, xA1, b0, fl, xAt, List.drop_succ_cons, List.drop_zero, List.take_nil, xAO, b5, xBe, xBn, xCt, xBy, xAZ, xBU, Int.toNat_natCast, Nat.mul_one, bl, xB1, xBW, xCr, xBV, Nat.add_zero, hA, xAY, xBj, gf, xAW, xAI, xAR, xA2, xAw]
end Go.Abs.Det

/- built: a row. -/
namespace Go.Abs.Det
open Go Go.Abs
set_option linter.unusedSimpArgs false
set_option linter.unusedVariables false

structure Rd (v : Int) (n B : Nat) (f g : AV) (nxt : Nat → Nat → Nat → Int) (fin : Nat → Bool) (J : xAu → Prop) : Prop where
  v0 : 0 ≤ v
  v3 : v ≤ 3
  n0 : 0 < n
  n64 : n ≤ 64
  keep : ∀ G G', J G → (∀ b, b < B → G'[b]? = G[b]?) → J G'
  nx : ∀ G (l r x : Nat), J G → l < n → r < n → x < two v → L.icall f [.int .i64 (l : Nat), .int .i64 (r : Nat), .int .i64 (x : Nat)] G = some (.int .i64 (nxt l r x), G)
  fn : ∀ G (l : Nat), J G → l < n → ∃ T : xAu, L.icall g [.int .i64 (l : Nat)] G = some (.bool (fin l), G ++ T)

def rvL (nxt : Nat → Nat → Nat → Int) (l r x : Nat) : List Int := (List.range x).map (nxt l r)
theorem xK4 (nxt : Nat → Nat → Nat → Int) (l r x : Nat) : (rvL nxt l r x).length = x := by simp [rvL]
theorem xUR (nxt : Nat → Nat → Nat → Int) (l r x : Nat) : rvL nxt l r (x + 1) = rvL nxt l r x ++ [nxt l r x] := by
  unfold rvL; rw [List.range_succ, List.map_append]; rfl

section
variable {v : Int} {n B rb l r : Nat} {f g : AV} {nxt : Nat → Nat → Nat → Int} {fin : Nat → Bool} {J : xAu → Prop} {s8 s9 s16 s17 s23 s24 : AV}

set_option maxHeartbeats 1000000 in
theorem yDo (hR : Rd v n B f g nxt fin J) (hl : l < n) (hr : r < n) (hrb : B ≤ rb) : ∀ e x G cs id, x + e = two v → 1 ≤ x → J G → G[rb]? = some (.cells false false cs) → cs.length = n → cs[r]? = some (.own false id 0 x 1) → G[id]? = some (.cells false false (xCh (rvL nxt l r x))) → id ≠ rb → B ≤ id →
    ∃ G' : xAu, ∃ id', L.loop xJF xQQ ⟨xH5 (.int .i64 v) (.int .i64 (n : Nat)) f g s8 s9 (.int .i64 (l : Nat)) (.own false rb 0 n 1) (.int .i64 (r : Nat)) s16 s17 s23 s24 (.int .i64 (two v : Nat)) (.int .i64 (x : Nat)), G⟩ =
      some (.exit 4, ⟨xH5 (.int .i64 v) (.int .i64 (n : Nat)) f g s8 s9 (.int .i64 (l : Nat)) (.own false rb 0 n 1) (.int .i64 (r : Nat)) s16 s17 s23 s24 (.int .i64 (two v : Nat)) (.int .i64 (two v : Nat)), G'⟩) ∧
      G'[rb]? = some (.cells false false (cs.set r (.own false id' 0 (two v) 1))) ∧ G'[id']? = some (.cells false false (xCh (rvL nxt l r (two v)))) ∧ id' ≠ rb ∧ B ≤ id' ∧ (id' = id ∨ G.length ≤ id') ∧
      (∀ b, b < G.length → b ≠ rb → b ≠ id → G'[b]? = G[b]?) ∧ G.length ≤ G'.length := by
  intro e
  induction e with
  | zero =>
    intro x G cs id h hx1 hJ hG hcl hc hid hne hB
    obtain rfl : x = two v := by omega
    have h8 := (xDy hR.v3).1
    refine ⟨G, id, ?_, ?_, hid, hne, hB, .inl rfl, fun _ _ _ _ => rfl, Nat.le_refl _⟩
    · rw [xQR]
      simp (maxSteps := 30000000) (disch := first | assumption | omega | (simp only [List.length_cons, List.length_nil, List.length_append, List.length_set, List.length_replicate, List.length_map, List.length_range, List.length_take, List.length_drop, List.all_cons, List.all_nil, AV.isCell, Bool.and_self, Bool.and_true, xAh, xAb, xAe, xAa, xAa, xAC, List.length_map] <;> omega) | rfl | decide) only [xLE, xAp, xAf, xAc, xAk, xAy, opv, List.getD_cons_succ, List.getD_cons_zero, xAz, Int.lt_irrefl, decide_false, xAl, xAq, List.set_cons_succ, List.set_cons_zero, xAi, xAg, xAj, xAd, xAo, xAn, Bool.false_eq_true, ↓reduceIte, xBt, xBc, xA3, xOE]
    · obtain ⟨h1, h2⟩ := List.getElem?_eq_some_iff.1 hc
      rw [← h2, List.set_getElem_self]; exact hG
  | succ e ih =>
    intro x G cs id h hx1 hJ hG hcl hc hid hne hB
    have h8 := (xDy hR.v3).1
    have n64 := hR.n64
    have hlt : (x : Int) < (two v : Nat) := by omega
    have hrl := (List.getElem?_eq_some_iff.1 hG).1
    have hil := (List.getElem?_eq_some_iff.1 hid).1
    have hnx := hR.nx G l r x hJ hl hr (by omega)
    have hrv := xUR nxt l r x
    have hrl2 := xK4 nxt l r x
    generalize nxt l r x = y at *
    obtain ⟨G1, hG1⟩ : ∃ G1 : xAu, G1 = (G.set id .dead ++ [Blk.cells false false (xCh (rvL nxt l r x ++ [y]))]).set rb (.cells false false (cs.set r (.own false G.length 0 (x + 1) 1))) := ⟨_, rfl⟩
    have old : ∀ b, b < G.length → b ≠ rb → b ≠ id → G1[b]? = G[b]? := fun b h1 h2 h3 => by
      rw [hG1, List.getElem?_set_ne (Ne.symm h2), List.getElem?_append_left (by simpa using h1), List.getElem?_set_ne (Ne.symm h3)]
    have hlen1 : G1.length = G.length + 1 := by rw [hG1]; simp
    obtain ⟨G', id', f1, f2, f3, f4, f5, f6, f7, f8⟩ := ih (x + 1) G1 (cs.set r (.own false G.length 0 (x + 1) 1)) G.length (by omega) (by omega) (hR.keep G G1 hJ fun b hb => old b (by omega) (by omega) (by omega))
      (by rw [hG1]; exact List.getElem?_set_self (by simp; omega)) (by simpa using hcl) (List.getElem?_set_self (by omega))
      (by rw [hG1, hrv, List.getElem?_set_ne (by omega), List.getElem?_append_right (by simp)]; simp) (by omega) (by omega)
    refine ⟨G', id', ?_, ?_, f3, f4, f5, .inr (by omega), fun b h1 h2 h3 => by rw [f7 b (by omega) h2 (by omega), old b h1 h2 h3], by omega⟩
    · have gc : List.take 1 (List.drop r cs) = [.own false id 0 x 1] := by
        obtain ⟨h1, h2⟩ := List.getElem?_eq_some_iff.1 hc
        rw [List.drop_eq_getElem_cons h1, h2]; rfl
      have htk : List.take x (rvL nxt l r x) = rvL nxt l r x := List.take_of_length_le (by omega)
      have hints : xCh (rvL nxt l r x) ++ [AV.int .i64 y] = xCh (rvL nxt l r x ++ [y]) := by simp [xCh]
      have zr : ∀ T : xAu, (G.set id .dead ++ T)[rb]? = some (.cells false false cs) := fun T => xA9 (by rw [List.getElem?_set_ne hne]; exact hG)
      have hsame : xEE G G (.ptr rb r) 1 = true := by
        have h1 : rd G (.ptr rb r) 1 = some [.own false id 0 x 1] := by
          rw [xA1, hG, xAt (by omega), gc]
        simp [xEE, h1, xR0]
      have hwr : ∀ X : AV, List.take r cs ++ X :: List.drop (r + 1) cs = cs.set r X := fun X => by rw [List.set_eq_take_append_cons_drop, if_pos (by omega)]
      rw [hG1] at f1
      rw [xQR]
      simp (maxSteps := 30000000) (disch := first | assumption | omega | (simp only [List.length_cons, List.length_nil, List.length_append, List.length_set, List.length_replicate, List.length_map, List.length_range, List.length_take, List.length_drop, List.all_cons, List.all_nil, AV.isCell, Bool.and_self, Bool.and_true, xAh, xAb, xAe, xAa, xAa, xAC, List.length_map] <;> omega) | rfl | decide) only [xLE, xAp, xAf, xAc, xAk, xAy, opv, List.getD_cons_succ, List.getD_cons_zero, xAz, hlt, decide_true, xAl, xAq, List.set_cons_succ, List.set_cons_zero, xAi, xAg, xAj, xAd, xAo, xAn, ↓reduceIte, xAx, xAr, xAA, xGX, List.take_succ_cons, List.take_zero, xEj, xJR, Bool.false_eq_true, xBf, xCx, xBq, xBC, xEQ, xHw, xCg, xAZ, xBU, Int.toNat_natCast, Nat.mul_one, Nat.zero_add, xER, xBR, xAJ, xA1, hG, xAt, gc, xAO, xEP, xFR, xE3, List.drop_succ_cons, List.drop_zero, xFQ, xB4, xGY, Nat.reduceSub, xF0, xCb, List.map_cons, List.map_nil, hnx, xFZ, hsame, xBP, AV.cells, List.all_cons, List.length_cons, List.length_nil, beq_self_eq_true, List.all_nil, Bool.and_self, xC1, List.append_nil, xCd, Nat.le_refl, AV.isCell, and_self, xBd, List.nil_append, List.drop_nil, xBO, xB5, xBL, List.flatMap_cons, xCn, List.flatMap_nil, List.isEmpty_nil, List.mapM_cons, xA0, List.mapM_nil, Option.pure_def, Option.bind_eq_bind, Option.bind_some, xB6, xBT, xDk, xDh, hid, xCG, Nat.reduceBEq, xBW, htk, hints, xA4, xBE, zr, xAX, List.append_assoc, List.cons_append, hwr, xAK, xBl, xEM, xFY, xAs, xBa, xCi, xCV, xAv, xOE, f1]
    · rw [f2, List.set_set]
end
end Go.Abs.Det

/- built: the rows of a state. -/
namespace Go.Abs.Det
open Go Go.Abs
set_option linter.unusedSimpArgs false
set_option linter.unusedVariables false

section
variable {v : Int} {n B rb l : Nat} {f g : AV} {nxt : Nat → Nat → Nat → Int} {fin : Nat → Bool} {J : xAu → Prop} {s8 s9 s16 s17 s23 s24 : AV}

set_option maxHeartbeats 1000000 in
theorem xYc (hR : Rd v n B f g nxt fin J) {r : Nat} (hl : l < n) (hr : r < n) (hrb : B ≤ rb) {G : xAu} {cs : List AV} (hJ : J G) (hG : G[rb]? = some (.cells false false cs)) (hcl : cs.length = n) (hc : cs[r]? = some (.sl true 0 [])) :
    ∃ G' : xAu, ∃ id', L.loop xJF xQQ ⟨xH5 (.int .i64 v) (.int .i64 (n : Nat)) f g s8 s9 (.int .i64 (l : Nat)) (.own false rb 0 n 1) (.int .i64 (r : Nat)) s16 s17 s23 s24 (.int .i64 (two v : Nat)) (.int .i64 0), G⟩ =
      some (.exit 4, ⟨xH5 (.int .i64 v) (.int .i64 (n : Nat)) f g s8 s9 (.int .i64 (l : Nat)) (.own false rb 0 n 1) (.int .i64 (r : Nat)) s16 s17 s23 s24 (.int .i64 (two v : Nat)) (.int .i64 (two v : Nat)), G'⟩) ∧
      G'[rb]? = some (.cells false false (cs.set r (.own false id' 0 (two v) 1))) ∧ G'[id']? = some (.cells false false (xCh (rvL nxt l r (two v)))) ∧ id' ≠ rb ∧ G.length ≤ id' ∧
      (∀ b, b < G.length → b ≠ rb → G'[b]? = G[b]?) ∧ G.length ≤ G'.length := by
  have h8 := (xDy hR.v3).1
  have h80 := (xDy hR.v3).2
  have n64 := hR.n64
  have hrl := (List.getElem?_eq_some_iff.1 hG).1
  have hnx := hR.nx G l r 0 hJ hl hr h80
  have hrv : rvL nxt l r 1 = [nxt l r 0] := rfl
  generalize nxt l r 0 = y at *
  obtain ⟨G1, hG1⟩ : ∃ G1 : xAu, G1 = (G ++ [Blk.cells false false [AV.int .i64 y]]).set rb (.cells false false (cs.set r (.own false G.length 0 1 1))) := ⟨_, rfl⟩
  have old : ∀ b, b < G.length → b ≠ rb → G1[b]? = G[b]? := fun b h1 h2 => by
    rw [hG1, List.getElem?_set_ne (Ne.symm h2), List.getElem?_append_left h1]
  have hlen1 : G1.length = G.length + 1 := by rw [hG1]; simp
  obtain ⟨G', id', f1, f2, f3, f4, f5, f6, f7, f8⟩ := yDo (s8 := s8) (s9 := s9) (s16 := s16) (s17 := s17) (s23 := s23) (s24 := s24) hR hl hr hrb (two v - 1) 1 G1 (cs.set r (.own false G.length 0 1 1)) G.length (by omega) (Nat.le_refl _) (hR.keep G G1 hJ fun b hb => old b (by omega) (by omega))
    (by rw [hG1]; exact List.getElem?_set_self (by simp; omega)) (by simpa using hcl) (List.getElem?_set_self (by omega))
    (by rw [hG1, hrv, List.getElem?_set_ne (by omega)]; simp [xCh]) (by omega) (by omega)
  refine ⟨G', id', ?_, by rw [f2, List.set_set], f3, f4, by omega, fun b h1 h2 => by rw [f7 b (by omega) h2 (by omega), old b h1 h2], by omega⟩
  have gc : List.take 1 (List.drop r cs) = [.sl true 0 []] := by
    obtain ⟨h1, h2⟩ := List.getElem?_eq_some_iff.1 hc
    rw [List.drop_eq_getElem_cons h1, h2]; rfl
  have hsame : xEE G G (.ptr rb r) 1 = true := by
    have h1 : rd G (.ptr rb r) 1 = some [.sl true 0 []] := by
      rw [xA1, hG, xAt (by omega), gc]
    simp [xEE, h1, xR0]
  have hwr : ∀ X : AV, List.take r cs ++ X :: List.drop (r + 1) cs = cs.set r X := fun X => by rw [List.set_eq_take_append_cons_drop, if_pos (by omega)]
  have zr : ∀ T : xAu, (G ++ T)[rb]? = some (.cells false false cs) := fun T => xA9 hG
  have hlt : (0 : Int) < (two v : Nat) := by omega
  rw [hG1] at f1
  simp only [Int.natCast_zero, Int.natCast_one] at f1 hnx
  rw [xQR]
  simp (maxSteps := 30000000) (disch := first | assumption | omega | (simp only [List.length_cons, List.length_nil, List.length_append, List.length_set, List.length_replicate, List.length_map, List.length_range, List.length_take, List.length_drop, List.all_cons, List.all_nil, AV.isCell, Bool.and_self, Bool.and_true, xAh, xAb, xAe, xAa, xAa, xAC, List.length_map] <;> omega) | rfl | decide) only [xLE, xAp, xAf, xAc, xAk, xAy, opv, List.getD_cons_succ, List.getD_cons_zero, xAz, hlt, decide_true, xAl, xAq, List.set_cons_succ, List.set_cons_zero, xAi, xAg, xAj, xAd, xAo, xAn, ↓reduceIte, xAx, xAr, xAA, xGX, List.take_succ_cons, List.take_zero, xEj, xJR, Bool.false_eq_true, xBf, xCx, xBq, xBC, xEQ, xHw, xCg, xAZ, xBU, Int.toNat_natCast, Nat.mul_one, Nat.zero_add, xER, xBR, xAJ, xA1, hG, xAt, gc, xAO, xEP, xFR, xE3, List.drop_succ_cons, List.drop_zero, xFQ, xB4, xGY, Nat.reduceSub, xF0, xCb, List.map_cons, List.map_nil, hnx, xFZ, hsame, xBP, AV.cells, List.all_cons, List.length_cons, List.length_nil, beq_self_eq_true, List.all_nil, Bool.and_self, xC1, List.append_nil, xCd, Nat.le_refl, AV.isCell, and_self, xBd, List.nil_append, List.drop_nil, xBO, xB5, xBL, List.flatMap_cons, xCn, List.flatMap_nil, List.isEmpty_nil, List.mapM_cons, xA0, List.mapM_nil, Option.pure_def, Option.bind_eq_bind, Option.bind_some, xB6, xBT, xDk, xDK, Nat.reduceBEq, xCR, xA4, xBE, zr, xAX, List.append_assoc, List.cons_append, hwr, xAK, xBl, xEM, xFY, xAs, xBa, Int.zero_add, xCV, xAv, xOE, f1]

structure RowsAt (v : Int) (nxt : Nat → Nat → Nat → Int) (n B rb l r : Nat) (G : xAu) (cs : List AV) : Prop where
  len : cs.length = n
  blk : G[rb]? = some (.cells false false cs)
  don : ∀ i, i < r → ∃ id, cs[i]? = some (.own false id 0 (two v) 1) ∧ G[id]? = some (.cells false false (xCh (rvL nxt l i (two v)))) ∧ rb < id
  nil : ∀ i, r ≤ i → i < n → cs[i]? = some (.sl true 0 [])

set_option maxHeartbeats 1000000 in
theorem xUS (hR : Rd v n B f g nxt fin J) (hl : l < n) (hrb : B ≤ rb) : ∀ e r G cs, r + e = n → J G → RowsAt v nxt n B rb l r G cs →
    ∃ G' cs', L.loop xLF xTp ⟨xLG (.int .i64 v) (.int .i64 (n : Nat)) f g s8 s9 (.int .i64 (l : Nat)) (.own false rb 0 n 1) s16 s17 (.int .i64 (n : Nat)) (.int .i64 (r : Nat)), G⟩ =
      some (.exit 2, ⟨xLG (.int .i64 v) (.int .i64 (n : Nat)) f g s8 s9 (.int .i64 (l : Nat)) (.own false rb 0 n 1) s16 s17 (.int .i64 (n : Nat)) (.int .i64 (n : Nat)), G'⟩) ∧
      RowsAt v nxt n B rb l n G' cs' ∧ (∀ b, b < G.length → b ≠ rb → G'[b]? = G[b]?) ∧ G.length ≤ G'.length := by
  have n64 := hR.n64
  have hsh := xI9 hR.v0 hR.v3
  have hv : ¬ v < 0 := by have := hR.v0; omega
  intro e
  induction e with
  | zero =>
    intro r G cs h hJ hA
    obtain rfl : r = n := by omega
    refine ⟨G, cs, ?_, hA, fun _ _ _ => rfl, Nat.le_refl _⟩
    rw [xVp]
    simp (maxSteps := 30000000) (disch := first | assumption | omega | (simp only [List.length_cons, List.length_nil, List.length_append, List.length_set, List.length_replicate, List.length_map, List.length_range, List.length_take, List.length_drop, List.all_cons, List.all_nil, AV.isCell, Bool.and_self, Bool.and_true, xAh, xAb, xAe, xAa, xAa, xAC, List.length_map] <;> omega) | rfl | decide) only [xOF, xAp, xAf, xAc, xAk, xAy, opv, List.getD_cons_succ, List.getD_cons_zero, xAz, Int.lt_irrefl, decide_false, xAl, xAq, List.set_cons_succ, List.set_cons_zero, xAi, xAg, xAj, xAd, xAo, xAn, Bool.false_eq_true, ↓reduceIte, xBt, xBc, xA3, xOG]
  | succ e ih =>
    intro r G cs h hJ hA
    have hlt : (r : Int) < (n : Nat) := by omega
    have hrl := (List.getElem?_eq_some_iff.1 hA.blk).1
    obtain ⟨G1, id, r1, r2, r3, r4, r5, r6, r7⟩ := xYc (s8 := s8) (s9 := s9) (s16 := s16) (s17 := s17) (s23 := .int .i64 (n : Nat)) (s24 := .int .i64 (r : Nat)) hR hl (show r < n by omega) hrb hJ hA.blk hA.len (hA.nil r (Nat.le_refl _) (by omega))
    have hil := (List.getElem?_eq_some_iff.1 r3).1
    obtain ⟨G', cs', f1, f2, f3, f4⟩ := ih (r + 1) G1 (cs.set r (.own false id 0 (two v) 1)) (by omega) (hR.keep G G1 hJ fun b hb => r6 b (by omega) (by omega))
      ⟨by simpa using hA.len, r2, fun i hi => by
        by_cases c : i = r
        · subst c
          exact ⟨id, List.getElem?_set_self (by rw [hA.len]; omega), r3, by omega⟩
        · obtain ⟨id2, d1, d2, d3⟩ := hA.don i (by omega)
          exact ⟨id2, by rw [List.getElem?_set_ne (Ne.symm c)]; exact d1, by rw [r6 id2 (List.getElem?_eq_some_iff.1 d2).1 (by omega)]; exact d2, d3⟩,
       fun i hi hn => by rw [List.getElem?_set_ne (by omega)]; exact hA.nil i (by omega) hn⟩
    refine ⟨G', cs', ?_, f2, fun b h1 h2 => by rw [f3 b (by omega) h2, r6 b h1 h2], by omega⟩
    rw [xVp]
    simp (maxSteps := 30000000) (disch := first | assumption | omega | (simp only [List.length_cons, List.length_nil, List.length_append, List.length_set, List.length_replicate, List.length_map, List.length_range, List.length_take, List.length_drop, List.all_cons, List.all_nil, AV.isCell, Bool.and_self, Bool.and_true, xAh, xAb, xAe, xAa, xAa, xAC, List.length_map] <;> omega) | rfl | decide) only [xOF, xAp, xAf, xAc, xAk, xAy, opv, List.getD_cons_succ, List.getD_cons_zero, xAz, hlt, decide_true, xAl, xAq, List.set_cons_succ, List.set_cons_zero, xAi, xAg, xAj, xAd, xAo, xAn, ↓reduceIte, xAx, xAr, xAA, xDb, hsh, xA6, xOE, r1, xAS, xAs, xBa, xCi, xCV, xAv, xOG, f1]
end
end Go.Abs.Det

/- built: a state's rows as a value; what is under way. -/
namespace Go.Abs.Det
open Go Go.Abs
set_option linter.unusedSimpArgs false
set_option linter.unusedVariables false

def xHm (v : Int) (nxt : Nat → Nat → Nat → Int) (n l : Nat) : List (List Int) := (List.range n).map fun r => rvL nxt l r (two v)
def xEv (v : Int) (nxt : Nat → Nat → Nat → Int) (n l : Nat) : List (List (List Int)) := (List.range l).map (xHm v nxt n)
def xHM (fin : Nat → Bool) (l : Nat) : List Bool := (List.range l).map fin
theorem xFX (fin : Nat → Bool) (l : Nat) : (xHM fin l).length = l := by simp [xHM]
theorem xSI (fin : Nat → Bool) (l : Nat) : xHM fin (l + 1) = xHM fin l ++ [fin l] := by
  unfold xHM; rw [List.range_succ, List.map_append]; rfl
theorem xCu (v : Int) (nxt : Nat → Nat → Nat → Int) (n l : Nat) : (xEv v nxt n l).length = l := by simp [xEv]
theorem xQi (v : Int) (nxt : Nat → Nat → Nat → Int) (n l : Nat) : xEv v nxt n (l + 1) = xEv v nxt n l ++ [xHm v nxt n l] := by
  unfold xEv; rw [List.range_succ, List.map_append]; rfl
theorem xEJ (v : Int) (nxt : Nat → Nat → Nat → Int) (n l : Nat) : (xHm v nxt n l).length = n := by simp [xHm]

theorem xYd {v : Int} {nxt : Nat → Nat → Nat → Int} {n B rb l : Nat} {G : xAu} {cs : List AV} (hn : 0 < n) (h : RowsAt v nxt n B rb l n G cs) : Fz 2 G rb (.own false rb 0 n 1) (xCF (xHm v nxt n l)) := by
  have hg : Grow 1 G rb (.own false rb 0 n 1) ((xHm v nxt n l).map xFk) := .inr ⟨rb, cs, by rw [List.length_map, xEJ], h.blk, Nat.le_refl _, by rw [List.length_map, xEJ]; exact h.len, fun i c t hc ht => by
    have hi : i < n := by have := (List.getElem?_eq_some_iff.1 hc).1; rw [h.len] at this; exact this
    obtain ⟨id, d1, d2, d3⟩ := h.don i hi
    rw [d1] at hc
    obtain rfl := Option.some.inj hc
    have ht' : t = xFk (rvL nxt l i (two v)) := by
      unfold xHm at ht
      simp [hi] at ht
      exact ht.symm
    subst ht'
    have hrow := Fz.row (G := G) (B := rb + 1) (id := id) (es := 1) (n := two v) (cs := xCh (rvL nxt l i (two v))) d2 (xMW _) (by rw [xAa, xK4, Nat.mul_one]) d3
    have e1 : xFk (rvL nxt l i (two v)) = .sl false (two v) (xCh (rvL nxt l i (two v))) := by unfold xFk; rw [xK4]
    rw [e1]
    exact ⟨hrow.low (by omega), fun d hd hm => by have := (hrow d hd).2 _ hm; omega⟩⟩
  have := hg.fz
  rw [List.length_map, xEJ] at this
  have hz : (n == 0) = false := by rw [beq_eq_false_iff_ne]; omega
  rw [hz] at this
  have e2 : xCF (xHm v nxt n l) = .sl false n ((xHm v nxt n l).map xFk) := by unfold xCF; rw [xEJ]
  rw [e2]
  rcases this with q | q
  · exact q
  · have := congrArg List.length q
    rw [List.length_map, xEJ] at this
    simp at this; omega

inductive UB (v : Int) (nxt : Nat → Nat → Nat → Int) (fin : Nat → Bool) (n q l : Nat) (G : xAu) : Prop
  | zero (h : l = 0) (h2 : G[q]? = some (.cells false false [.int .i64 v, .int .i64 0, .sl true 0 [], .sl true 0 []]))
  | more (id f : Nat) (cs : List AV) (h : l ≠ 0) (h2 : G[q]? = some (.cells false false [.int .i64 v, .int .i64 0, .own false id 0 l 1, .own false f 0 l 1]))
      (hi : G[id]? = some (.cells false false cs)) (hf : G[f]? = some (.cells false false (xCq (xHM fin l)))) (i3 : q < id) (f3 : q < f) (hne : id ≠ f) (hl : cs.length = l)
      (he : ∀ (i : Nat) (c t : AV), cs[i]? = some c → ((xEv v nxt n l).map xCF)[i]? = some t → Fz 2 G (q + 1) c t ∧ ∀ d, 2 ≤ d → id ∉ bor d G c ∧ f ∉ bor d G c)
end Go.Abs.Det

/- built: all states. -/
namespace Go.Abs.Det
open Go Go.Abs
set_option linter.unusedSimpArgs false
set_option linter.unusedVariables false

theorem xPr (a : AV) : ∀ n, xEf [a] n = List.replicate n a
  | 0 => rfl
  | n + 1 => by
    show [a] ++ xEf [a] n = _
    rw [xPr a n]; rfl

section
variable {v : Int} {n B q : Nat} {f g : AV} {nxt : Nat → Nat → Nat → Int} {fin : Nat → Bool} {J : xAu → Prop} {s8 : AV}

set_option maxRecDepth 10000 in
set_option maxHeartbeats 4000000 in
theorem xQj (hR : Rd v n B f g nxt fin J) (hq : B ≤ q) : ∀ e l G, l + e = n → J G → UB v nxt fin n q l G →
    ∃ G', L.loop xLI xTq ⟨xLJ (.int .i64 v) (.int .i64 (n : Nat)) f g s8 (.ptr q 0) (.int .i64 (n : Nat)) (.int .i64 (l : Nat)), G⟩ =
      some (.exit 0, ⟨xLJ (.int .i64 v) (.int .i64 (n : Nat)) f g s8 (.ptr q 0) (.int .i64 (n : Nat)) (.int .i64 (n : Nat)), G'⟩) ∧ UB v nxt fin n q n G' ∧ (∀ b, b < q → G'[b]? = G[b]?) ∧ G.length ≤ G'.length := by
  have n64 := hR.n64
  have n0 := hR.n0
  intro e
  induction e with
  | zero =>
    intro l G h hJ hU
    obtain rfl : l = n := by omega
    refine ⟨G, ?_, hU, fun _ _ => rfl, Nat.le_refl _⟩
    rw [xQS]
    simp (maxSteps := 30000000) (disch := first | assumption | omega | (simp only [List.length_cons, List.length_nil, List.length_append, List.length_set, List.length_replicate, List.length_map, List.length_range, List.length_take, List.length_drop, List.all_cons, List.all_nil, AV.isCell, Bool.and_self, Bool.and_true, xAh, xAb, xAe, xAa, xAa, xAC, List.length_map] <;> omega) | rfl | decide) only [xLH, xAp, xAf, xAc, xAk, xAy, opv, List.getD_cons_succ, List.getD_cons_zero, xAz, Int.lt_irrefl, decide_false, xAl, xAq, List.set_cons_succ, List.set_cons_zero, xAi, xAg, xAj, xAd, xAo, xAn, Bool.false_eq_true, ↓reduceIte, xBt, xBc, xA3, xOH]
  | succ e ih =>
    intro l G h hJ hU
    have hlt : (l : Int) < (n : Nat) := by omega
    have hql : q < G.length := by
      cases hU with
      | zero _ h2 => exact (List.getElem?_eq_some_iff.1 h2).1
      | more id f cs _ h2 => exact (List.getElem?_eq_some_iff.1 h2).1
    have hJ1 : J (G ++ [.cells false false (List.replicate n (.sl true 0 []))]) := hR.keep G _ hJ fun b hb => List.getElem?_append_left (by omega)
    have hA : RowsAt v nxt n B G.length l 0 (G ++ [.cells false false (List.replicate n (.sl true 0 []))]) (List.replicate n (.sl true 0 [])) :=
      ⟨by simp, xCM _ _, fun i hi => by omega, fun i _ hi => by rw [List.getElem?_replicate, if_pos hi]⟩
    obtain ⟨G2, cs2, r1, r2, r3, r4⟩ := xUS (s8 := s8) (s9 := .ptr q 0) (s16 := .int .i64 (n : Nat)) (s17 := .int .i64 (l : Nat)) hR (show l < n by omega) (show B ≤ G.length by omega) n 0 _ _ (by omega) hJ1 hA
    have fz' := xYd n0 r2
    have hrbl := (List.getElem?_eq_some_iff.1 r2.blk).1
    have old : ∀ b, b < G.length → G2[b]? = G[b]? := fun b hb => by
      rw [r3 b (by simp; omega) (by omega), List.getElem?_append_left hb]
    have hJ2 : J G2 := hR.keep G G2 hJ fun b hb => old b (by omega)
    simp only [Int.natCast_zero] at r1
    have hrep : xEf [AV.sl true 0 []] n = List.replicate n (AV.sl true 0 []) := xPr _ _
    have hG2 : G.length < G2.length := hrbl
    generalize hrb : G.length = rb at *
    have nbor : ∀ d, 2 ≤ d → ∀ b ∈ bor d G2 (.own false rb 0 n 1), rb ≤ b ∧ b < G2.length := fun d hd b hb => (fz' d hd).2 b hb
    cases hU with
    | zero hl0 h2 =>
      subst hl0
      have hz2 : G2[q]? = some (.cells false false [.int .i64 v, .int .i64 0, .sl true 0 [], .sl true 0 []]) := (old q hql).trans h2
      obtain ⟨X, hX⟩ : ∃ X, X = Blk.cells false false [.int .i64 v, .int .i64 0, .own false (G2.length + 1) 0 1 1, .sl true 0 []] := ⟨_, rfl⟩
      obtain ⟨Hm, hHm⟩ : ∃ Hm : xAu, Hm = (G2 ++ [Blk.cells false false [.own false rb 0 n 1], Blk.cells false false [.own false rb 0 n 1]]).set q X := ⟨_, rfl⟩
      have hml : Hm.length = G2.length + 2 := by rw [hHm]; simp
      have sameM : ∀ b, b ≠ q → b < G2.length → Hm[b]? = G2[b]? := fun b hb hb2 => by
        rw [hHm, List.getElem?_set_ne (Ne.symm hb), List.getElem?_append_left hb2]
      have hmq : Hm[q]? = some X := by rw [hHm]; exact List.getElem?_set_self (by simp; omega)
      have hJm : J Hm := hR.keep G2 Hm hJ2 fun b hb => sameM b (by omega) (by omega)
      obtain ⟨T, hfn⟩ := hR.fn Hm 0 hJm (by omega)
      obtain ⟨Ht, hHt⟩ : ∃ Ht : xAu, Ht = Hm ++ T := ⟨_, rfl⟩
      have htl : Ht.length = Hm.length + T.length := by rw [hHt]; simp
      have sameT : ∀ b, b < Hm.length → Ht[b]? = Hm[b]? := fun b hb => by rw [hHt, List.getElem?_append_left hb]
      rw [← hHt] at hfn
      obtain ⟨Y, hY⟩ : ∃ Y, Y = Blk.cells false false [.int .i64 v, .int .i64 0, .own false (G2.length + 1) 0 1 1, .own false Ht.length 0 1 1] := ⟨_, rfl⟩
      obtain ⟨H', hH⟩ : ∃ H' : xAu, H' = (Ht ++ [Blk.cells false false [.bool (fin 0)]]).set q Y := ⟨_, rfl⟩
      have same : ∀ b, b ≠ q → b < G2.length → H'[b]? = G2[b]? := fun b hb hb2 => by
        rw [hH, List.getElem?_set_ne (Ne.symm hb), List.getElem?_append_left (by omega), sameT b (by omega), sameM b hb hb2]
      have hlen : H'.length = Ht.length + 1 := by rw [hH]; simp
      have htq : Ht[q]? = some X := (sameT q (by omega)).trans hmq
      have hs2 : H'[q]? = some Y := by rw [hH]; exact List.getElem?_set_self (by simp; omega)
      have hs3 : H'[G2.length + 1]? = some (.cells false false [.own false rb 0 n 1]) := by
        rw [hH, List.getElem?_set_ne (by omega), List.getElem?_append_left (by omega), sameT _ (by omega), hHm, List.getElem?_set_ne (by omega)]
        exact xNk _ _ 1
      have hs4 : H'[Ht.length]? = some (.cells false false [.bool (fin 0)]) := by
        rw [hH, List.getElem?_set_ne (by omega), List.getElem?_append_right (by omega)]
        simp
      have fzH : Fz 2 H' rb (.own false rb 0 n 1) (xCF (xHm v nxt n 0)) := fz'.frame (by omega) fun d hd b hb => by
        have := nbor d hd b hb
        exact same b (by omega) this.2
      have hU' : UB v nxt fin n q 1 H' := .more (G2.length + 1) Ht.length [.own false rb 0 n 1] (by omega) (by rw [hs2, hY]) hs3 (by rw [hs4]; rfl) (by omega) (by omega) (by omega) rfl (fun i c t hc ht => by
        have e0 : i = 0 := by
          cases i with
          | zero => rfl
          | succ i => simp at hc
        subst e0
        simp at hc
        subst hc
        have : t = xCF (xHm v nxt n 0) := by simpa [xEv] using ht.symm
        subst this
        refine ⟨fzH.low (by omega), fun d hd => ?_⟩
        have hb2 := (xDf d _ (fun b hb => by have := nbor d hd b hb; exact same b (by omega) this.2)).2
        rw [hb2]
        exact ⟨fun hm' => by have := nbor d hd _ hm'; omega, fun hm' => by have := nbor d hd _ hm'; omega⟩)
      obtain ⟨G', e1, e2, e3, e4⟩ := ih 1 H' (by omega) (hR.keep G2 H' hJ2 fun b hb => same b (by omega) (by omega)) hU'
      refine ⟨G', ?_, e2, fun b hb => by rw [e3 b hb, same b (by omega) (by omega), old b (by omega)], by omega⟩
      have hz2' := fun T => xA9 (X := T) hz2
      have htq' := fun T => xA9 (X := T) htq
      have hsame : xEE Hm Ht (.ptr q 3) 1 = true := by
        have h1 : rd Hm (.ptr q 3) 1 = some [.sl true 0 []] := by
          rw [xA1, hmq, hX, xAt (by simp)]; rfl
        have h2 : rd Ht (.ptr q 3) 1 = some [.sl true 0 []] := by
          rw [xA1, htq, hX, xAt (by simp)]; rfl
        simp [xEE, h1, h2, xR0]
      have hHm' := hHm.symm
      rw [hX] at hHm' hmq htq htq'
      rw [hH, hY] at e1
      have hlt0 : (0 : Int) < (n : Nat) := by omega
      simp only [Int.natCast_zero, Int.natCast_one] at hlt0 e1 r1 hfn ⊢
      rw [xQS]
      simp (maxSteps := 30000000) (disch := first | assumption | omega | (simp only [List.length_cons, List.length_nil, List.length_append, List.length_set, List.length_replicate, List.length_map, List.length_range, List.length_take, List.length_drop, List.all_cons, List.all_nil, AV.isCell, Bool.and_self, Bool.and_true, xAh, xAb, xAe, xAa, xAa, xAC, List.length_map] <;> omega) | rfl | decide) only [xLH, xAp, xAf, xAc, xAk, xAy, opv, List.getD_cons_succ, List.getD_cons_zero, xAz, hlt0, decide_true, xAl, xAq, List.set_cons_succ, List.set_cons_zero, xAi, xAg, xAj, xAd, xAo, xAn, ↓reduceIte, xAx, xAr, xAA, xEw, xGy, Int.toNat_natCast, List.length_cons, List.length_nil, Nat.zero_add, hrep, xCR, hrb, xBk, xC0, xA6, xOG, r1, xAS, xAV, xAB, xAJ, xA1, hz2, xAt, List.drop_succ_cons, List.drop_zero, List.take_succ_cons, List.take_zero, xAO, xBP, AV.cells, List.all_cons, beq_self_eq_true, List.all_nil, Bool.and_self, xC1, List.append_nil, Nat.mul_one, List.map_cons, List.map_nil, xCd, Nat.le_refl, AV.isCell, and_self, xBd, List.nil_append, List.drop_nil, xBO, xBT, xFm, xCM, List.getElem?_cons_zero, xDl, List.take_nil, xDK, Nat.reduceBEq, List.length_append, List.append_assoc, List.cons_append, xA4, xBE, hz2', xAX, Nat.reduceAdd, hHm', xAK, xBl, xGX, xEj, xHv, Bool.false_eq_true, xBf, xBY, xBq, xBC, xEQ, xER, xBR, hmq, xEP, xFR, xE3, xFQ, xB4, xGY, Nat.reduceSub, xF0, xCb, hfn, xFZ, hsame, xB5, xBL, List.flatMap_cons, xFP, List.flatMap_nil, List.isEmpty_nil, List.mapM_cons, xB2, List.mapM_nil, Option.pure_def, Option.bind_eq_bind, Option.bind_some, xB6, xDk, htq', xEM, xFY, xAs, xBa, Int.zero_add, xCV, xAv, xOH, e1]
    | more id fb cs hl0 h2 hi hf i3 f3 hne hl he =>
      have hidl := (List.getElem?_eq_some_iff.1 hi).1
      have hfl := (List.getElem?_eq_some_iff.1 hf).1
      rw [hrb] at hidl hfl
      have hz2 : G2[q]? = some (.cells false false [.int .i64 v, .int .i64 0, .own false id 0 l 1, .own false fb 0 l 1]) := (old q hql).trans h2
      have hzi : G2[id]? = some (.cells false false cs) := (old id hidl).trans hi
      have hzf : G2[fb]? = some (.cells false false (xCq (xHM fin l))) := (old fb hfl).trans hf
      obtain ⟨X, hX⟩ : ∃ X, X = Blk.cells false false [.int .i64 v, .int .i64 0, .own false (G2.length + 1) 0 (l + 1) 1, .own false fb 0 l 1] := ⟨_, rfl⟩
      obtain ⟨Hm, hHm⟩ : ∃ Hm : xAu, Hm = (((G2 ++ [Blk.cells false false [.own false rb 0 n 1]]).set id .dead) ++ [Blk.cells false false (cs ++ [.own false rb 0 n 1])]).set q X := ⟨_, rfl⟩
      have hml : Hm.length = G2.length + 2 := by rw [hHm]; simp
      have sameM : ∀ b, b ≠ q → b ≠ id → b < G2.length → Hm[b]? = G2[b]? := fun b hb hbi hb2 => by
        rw [hHm, List.getElem?_set_ne (Ne.symm hb), List.getElem?_append_left (by simp; omega), List.getElem?_set_ne (Ne.symm hbi), List.getElem?_append_left hb2]
      have hmq : Hm[q]? = some X := by rw [hHm]; exact List.getElem?_set_self (by simp; omega)
      have hmf : Hm[fb]? = some (.cells false false (xCq (xHM fin l))) := (sameM fb (by omega) (by omega) (by omega)).trans hzf
      have hJm : J Hm := hR.keep G2 Hm hJ2 fun b hb => sameM b (by omega) (by omega) (by omega)
      obtain ⟨T, hfn⟩ := hR.fn Hm l hJm (by omega)
      obtain ⟨Ht, hHt⟩ : ∃ Ht : xAu, Ht = Hm ++ T := ⟨_, rfl⟩
      have htl : Ht.length = Hm.length + T.length := by rw [hHt]; simp
      have sameT : ∀ b, b < Hm.length → Ht[b]? = Hm[b]? := fun b hb => by rw [hHt, List.getElem?_append_left hb]
      rw [← hHt] at hfn
      obtain ⟨Y, hY⟩ : ∃ Y, Y = Blk.cells false false [.int .i64 v, .int .i64 0, .own false (G2.length + 1) 0 (l + 1) 1, .own false Ht.length 0 (l + 1) 1] := ⟨_, rfl⟩
      obtain ⟨H', hH⟩ : ∃ H' : xAu, H' = (Ht.set fb .dead ++ [Blk.cells false false (xCq (xHM fin l ++ [fin l]))]).set q Y := ⟨_, rfl⟩
      have same : ∀ b, b ≠ q → b ≠ id → b ≠ fb → b < G2.length → H'[b]? = G2[b]? := fun b hb hbi hbf hb2 => by
        rw [hH, List.getElem?_set_ne (Ne.symm hb), List.getElem?_append_left (by simp; omega), List.getElem?_set_ne (Ne.symm hbf), sameT b (by omega), sameM b hb hbi hb2]
      have hlen : H'.length = Ht.length + 1 := by rw [hH]; simp
      have htq : Ht[q]? = some X := (sameT q (by omega)).trans hmq
      have htf' : Ht[fb]? = some (.cells false false (xCq (xHM fin l))) := (sameT fb (by omega)).trans hmf
      have hs2 : H'[q]? = some Y := by rw [hH]; exact List.getElem?_set_self (by simp; omega)
      have hs3 : H'[G2.length + 1]? = some (.cells false false (cs ++ [.own false rb 0 n 1])) := by
        rw [hH, List.getElem?_set_ne (by omega), List.getElem?_append_left (by simp; omega), List.getElem?_set_ne (by omega), sameT _ (by omega), hHm, List.getElem?_set_ne (by omega), List.getElem?_append_right (by simp)]
        simp
      have hs4 : H'[Ht.length]? = some (.cells false false (xCq (xHM fin (l + 1)))) := by
        rw [hH, List.getElem?_set_ne (by omega), List.getElem?_append_right (by simp), xSI]
        simp
      have fzH : Fz 2 H' rb (.own false rb 0 n 1) (xCF (xHm v nxt n l)) := fz'.frame (by omega) fun d hd b hb => by
        have := nbor d hd b hb
        exact same b (by omega) (by omega) (by omega) this.2
      have hU' : UB v nxt fin n q (l + 1) H' := .more (G2.length + 1) Ht.length (cs ++ [.own false rb 0 n 1]) (by omega) (by rw [hs2, hY]) hs3 hs4 (by omega) (by omega) (by omega) (by simp [hl]) (fun i c t hc ht => by
        rw [xQi, List.map_append] at ht
        by_cases hil : i < cs.length
        · rw [List.getElem?_append_left hil] at hc
          rw [List.getElem?_append_left (by rw [List.length_map, xCu]; omega)] at ht
          obtain ⟨k1, k2⟩ := he i c t hc ht
          have hG2 : ∀ d, 2 ≤ d → ∀ b ∈ bor d G c, H'[b]? = G[b]? := fun d hd b hb => by
            have hb' := (k1 d hd).2 b hb
            have hk := k2 d hd
            rw [hrb] at hb'
            rw [same b (by omega) (fun e => hk.1 (e ▸ hb)) (fun e => hk.2 (e ▸ hb)) (by omega)]
            exact old b hb'.2
          refine ⟨k1.frame (by omega) hG2, fun d hd => ?_⟩
          rw [(xDf d c (hG2 d hd)).2]
          exact ⟨fun hm' => by have := (k1 d hd).2 _ hm'; omega, fun hm' => by have := (k1 d hd).2 _ hm'; omega⟩
        · rw [List.getElem?_append_right (by omega)] at hc
          rw [List.getElem?_append_right (by rw [List.length_map, xCu]; omega), List.length_map, xCu, ← hl] at ht
          have e0 : i - cs.length = 0 := by
            cases e : i - cs.length with
            | zero => rfl
            | succ j => rw [e] at hc; simp at hc
          rw [e0] at hc ht
          simp at hc ht
          subst hc; subst ht
          refine ⟨by rw [hl]; exact fzH.low (by omega), fun d hd => ?_⟩
          have hb2 := (xDf d _ (fun b hb => by have := nbor d hd b hb; exact same b (by omega) (by omega) (by omega) this.2)).2
          rw [hb2]
          exact ⟨fun hm' => by have := nbor d hd _ hm'; omega, fun hm' => by have := nbor d hd _ hm'; omega⟩)
      obtain ⟨G', e1, e2, e3, e4⟩ := ih (l + 1) H' (by omega) (hR.keep G2 H' hJ2 fun b hb => same b (by omega) (by omega) (by omega) (by omega)) hU'
      refine ⟨G', ?_, e2, fun b hb => by rw [e3 b hb, same b (by omega) (by omega) (by omega) (by omega), old b (by omega)], by omega⟩
      have hz2' := fun T => xA9 (X := T) hz2
      have hzi' := fun T => xA9 (X := T) hzi
      have q1 : ∀ T T' : xAu, ((G2 ++ T).set id .dead ++ T')[q]? = some (.cells false false [.int .i64 v, .int .i64 0, .own false id 0 l 1, .own false fb 0 l 1]) := fun T T' => xA9 (by rw [List.getElem?_set_ne (by omega)]; exact xA9 hz2)
      have hsame : xEE Hm Ht (.ptr q 3) 1 = true := by
        have h1 : rd Hm (.ptr q 3) 1 = some [.own false fb 0 l 1] := by
          rw [xA1, hmq, hX, xAt (by simp)]; rfl
        have h2 : rd Ht (.ptr q 3) 1 = some [.own false fb 0 l 1] := by
          rw [xA1, htq, hX, xAt (by simp)]; rfl
        simp [xEE, h1, h2, xR0]
      have hmq2 : ∀ T : xAu, (Ht.set fb .dead ++ T)[q]? = some X := fun T => xA9 (by rw [List.getElem?_set_ne (by omega)]; exact htq)
      have hHm' := hHm.symm
      rw [hX] at hHm' hmq hmq2 htq
      have htk : List.take l cs = cs := List.take_of_length_le (by omega)
      have htf : List.take l (xCq (xHM fin l)) = xCq (xHM fin l) := List.take_of_length_le (by rw [xAC, xFX]; exact Nat.le_refl _)
      have hbl : (xCq (xHM fin l)).length = l := by rw [xAC, xFX]
      have hsn : ∀ b : Bool, xCq (xHM fin l) ++ [AV.bool b] = xCq (xHM fin l ++ [b]) := fun b => by rw [← xMX]; rfl
      rw [hH, hY] at e1
      rw [xQS]
      simp (maxSteps := 30000000) (disch := first | assumption | omega | (simp only [List.length_cons, List.length_nil, List.length_append, List.length_set, List.length_replicate, List.length_map, List.length_range, List.length_take, List.length_drop, List.all_cons, List.all_nil, AV.isCell, Bool.and_self, Bool.and_true, xAh, xAb, xAe, xAa, xAa, xAC, List.length_map] <;> omega) | rfl | decide) only [xLH, xAp, xAf, xAc, xAk, xAy, opv, List.getD_cons_succ, List.getD_cons_zero, xAz, hlt, decide_true, xAl, xAq, List.set_cons_succ, List.set_cons_zero, xAi, xAg, xAj, xAd, xAo, xAn, ↓reduceIte, xAx, xAr, xAA, xEw, xGy, Int.toNat_natCast, List.length_cons, List.length_nil, Nat.zero_add, hrep, xCR, hrb, xBk, xC0, xA6, xOG, r1, xAS, xAV, xAB, xAJ, xA1, hz2, xAt, List.drop_succ_cons, List.drop_zero, List.take_succ_cons, List.take_zero, xAO, xBP, AV.cells, List.all_cons, beq_self_eq_true, List.all_nil, Bool.and_self, xC1, List.append_nil, Nat.mul_one, List.map_cons, List.map_nil, xCd, Nat.le_refl, AV.isCell, and_self, xBd, List.nil_append, List.drop_nil, xBO, xBT, xFm, xCM, List.getElem?_cons_zero, xDl, List.take_nil, xDh, hzi', xCG, Nat.reduceBEq, List.length_append, htk, xA4, xBE, q1, xAX, List.cons_append, Nat.reduceAdd, hHm', xAK, xBl, xGX, xEj, xHv, Bool.false_eq_true, xBf, xBY, xBq, xBC, xEQ, xER, xBR, hmq, xEP, xFR, xE3, xFQ, xB4, xGY, Nat.reduceSub, xF0, xCb, hfn, xFZ, hsame, xB5, xBL, List.flatMap_cons, xFP, List.flatMap_nil, List.isEmpty_nil, List.mapM_cons, xB2, List.mapM_nil, Option.pure_def, Option.bind_eq_bind, Option.bind_some, xB6, xDk, htf', htf, hsn, hmq2, xEM, xFY, xAs, xBa, xCi, xCV, xAv, xOH, e1]
end
end Go.Abs.Det

/- built: the whole. -/
namespace Go.Abs.Det
open Go Go.Abs
set_option linter.unusedSimpArgs false
set_option linter.unusedVariables false

theorem yDp {v : Int} {nxt : Nat → Nat → Nat → Int} {fin : Nat → Bool} {n q l : Nat} {G : xAu} (h : UB v nxt fin n q l G) (hl : l ≠ 0) :
    ∃ i f : Nat, G[q]? = some (Blk.cells false false [.int .i64 v, .int .i64 0, .own false i 0 l 1, .own false f 0 l 1]) ∧ Fz 3 G (q + 1) (.own false i 0 l 1) (.sl false l ((xEv v nxt n l).map xCF)) ∧ Fz 1 G (q + 1) (.own false f 0 l 1) (.sl false l (xCq (xHM fin l))) := by
  cases h with
  | zero h0 => exact absurd h0 hl
  | more id f cs h h2 hi hf i3 f3 hne hcl he =>
    refine ⟨_, _, h2, ?_, ?_⟩
    · have hg : Grow 2 G (q + 1) (.own false id 0 l 1) ((xEv v nxt n l).map xCF) := .inr ⟨id, cs, by rw [List.length_map, xCu], hi, i3, by rw [List.length_map, xCu]; exact hcl, fun i c t hc ht => ⟨(he i c t hc ht).1, fun d hd => ((he i c t hc ht).2 d hd).1⟩⟩
      have := hg.fz
      rw [List.length_map, xCu] at this
      have hz : (l == 0) = false := by rw [beq_eq_false_iff_ne]; exact hl
      rw [hz] at this
      rcases this with p | p
      · exact p
      · have := congrArg List.length p; rw [List.length_map, xCu] at this; exact absurd this hl
    · have := Fz.row (B := q + 1) (es := 1) (n := l) hf (xKf _) (by rw [xAC, xFX, Nat.mul_one]) f3
      exact this

set_option maxHeartbeats 1000000 in
theorem xSJ {v : Int} {n : Nat} {f g : AV} {nxt : Nat → Nat → Nat → Int} {fin : Nat → Bool} {J : xAu → Prop} {G : xAu} (hR : Rd v n G.length f g nxt fin J) (hJ : J G) :
    ∃ (G' : xAu) (i k : Nat), L.icall (.func 61 []) [.int .i64 v, .int .i64 (n : Nat), f, g] G = some (.agg [.int .i64 v, .int .i64 0, .own false i 0 n 1, .own false k 0 n 1], G') ∧
      Fz 3 G' G.length (.own false i 0 n 1) (.sl false n ((xEv v nxt n n).map xCF)) ∧ Fz 1 G' G.length (.own false k 0 n 1) (.sl false n (xCq (xHM fin n))) ∧ (∀ b, b < G.length → G'[b]? = G[b]?) ∧ G.length ≤ G'.length := by
  have n64 := hR.n64
  have n0 := hR.n0
  obtain ⟨G1, e1, e2, e3, e4⟩ := xQj (s8 := .ptr G.length 0) hR (show G.length ≤ G.length + 1 by omega) n 0 (G ++ [.cells false false [.int .i64 0, .int .i64 0, .sl true 0 [], .sl true 0 []], .cells false false [.int .i64 v, .int .i64 0, .sl true 0 [], .sl true 0 []]]) (by omega)
    (hR.keep G _ hJ fun b hb => List.getElem?_append_left hb) (.zero rfl (xNk _ _ 1))
  obtain ⟨i, k, g2, f1, f2⟩ := yDp e2 (by omega)
  have z8 : G1[G.length]? = some (.cells false false [.int .i64 0, .int .i64 0, .sl true 0 [], .sl true 0 []]) := (e3 _ (by omega)).trans (xCM _ _)
  simp only [List.length_append, List.length_cons, List.length_nil] at e4
  obtain ⟨G', hG'⟩ : ∃ G' : xAu, G' = G1.set G.length (.cells false false [.int .i64 v, .int .i64 0, .own false i 0 n 1, .own false k 0 n 1]) := ⟨_, rfl⟩
  have hl' : G'.length = G1.length := by rw [hG']; simp
  have same : ∀ b, b ≠ G.length → G'[b]? = G1[b]? := fun b hb => by rw [hG', List.getElem?_set_ne (Ne.symm hb)]
  refine ⟨G', i, k, ?_, (f1.frame (by omega) fun d hd b hb => same b (by have := (f1 d hd).2 b hb; omega)).low (by omega), (f2.frame (by omega) fun d hd b hb => same b (by have := (f2 d hd).2 b hb; omega)).low (by omega),
    fun b hb => by rw [same b (by omega), e3 b (by omega), List.getElem?_append_left hb], by omega⟩
  have z8b : G'[G.length]? = some (.cells false false [.int .i64 v, .int .i64 0, .own false i 0 n 1, .own false k 0 n 1]) := by rw [hG']; exact List.getElem?_set_self (by omega)
  have hG'' := hG'.symm
  have hq1 : (G ++ [Blk.cells false false [AV.int .i64 0, AV.int .i64 0, AV.sl true 0 [], AV.sl true 0 []], Blk.cells false false [AV.int .i64 0, AV.int .i64 0, AV.sl true 0 [], AV.sl true 0 []]]).set (G.length + 1) (Blk.cells false false [AV.int .i64 v, AV.int .i64 0, AV.sl true 0 [], AV.sl true 0 []]) = G ++ [Blk.cells false false [AV.int .i64 0, AV.int .i64 0, AV.sl true 0 [], AV.sl true 0 []], Blk.cells false false [AV.int .i64 v, AV.int .i64 0, AV.sl true 0 [], AV.sl true 0 []]] := by
    rw [List.set_append_right _ _ (by omega)]; simp
  simp only [Int.natCast_zero] at e1
  rw [yEO, a61, xAU]
  simp (maxSteps := 30000000) (disch := first | assumption | omega | (simp only [List.length_cons, List.length_nil, List.length_append, List.length_set, List.length_replicate, List.length_map, List.length_range, List.length_take, List.length_drop, List.all_cons, List.all_nil, AV.isCell, Bool.and_self, Bool.and_true, xAh, xAb, xAe, xAa, xAa, xAC, List.length_map] <;> omega) | rfl | decide) only [List.append_nil, List.length_cons, List.length_nil, Nat.zero_add, Nat.reduceAdd, Nat.reduceSub, xCL, List.cons_append, List.nil_append, xAp, xAf, xAc, xAk, xBz, AV.cells, opv, List.all_cons, AV.isCell, List.all_nil, Bool.and_self, ↓reduceIte, xAq, List.set_cons_succ, List.set_cons_zero, xAi, xAg, xAj, xAd, xAA, List.getD_cons_zero, xCv, List.getD_cons_succ, beq_self_eq_true, List.map_cons, List.map_nil, xCd, Nat.reduceLeDiff, and_self, xBd, List.take_zero, List.drop_succ_cons, List.drop_zero, Option.map_some, xAl, List.length_append, List.append_assoc, xA4, xBE, xNk, List.getElem?_cons_succ, List.getElem?_cons_zero, xAX, List.drop_nil, hq1, xAK, xBl, xAr, xA6, xOH, e1, xAS, xAJ, xA1, g2, xAt, List.take_succ_cons, List.take_nil, xBH, z8, hG'', xAW, xAI, xAR, xEh, z8b, xDm, xHJ, xAw]
end Go.Abs.Det

/- renumber: the list of states is closed. Plain facts. -/
namespace Go.Abs.Det
open Go Go.Abs
set_option linter.unusedSimpArgs false
set_option linter.unusedVariables false

section
variable {D : Da}
abbrev nob : List Int → Bool := fun _ => false
theorem xN4 (o : List Int) (l r x : Nat) : o <+: xDi D o l r x := by
  unfold xDi
  split
  · exact List.prefix_rfl
  · exact List.prefix_append _ _
theorem xYe (o : List Int) (l r x : Nat) : nx D (o.getD l 0) (o.getD r 0) x ∈ xDi D o l r x := by
  unfold xDi
  split
  · assumption
  · simp
theorem xHn {o o' : List Int} (h : o <+: o') {i : Nat} (hi : i < o.length) : o'.getD i 0 = o.getD i 0 := by
  obtain ⟨t, rfl⟩ := h
  simp only [List.getD_eq_getElem?_getD]
  rw [List.getElem?_append_left hi]
theorem xE2 {o o' : List Int} (h : o <+: o') : o.length ≤ o'.length := h.length_le
theorem xSK {o o' : List Int} (h : o <+: o') {a : Int} (ha : a ∈ o) : a ∈ o' := h.subset ha

theorem xN5 (l r x e : Nat) (o : List Int) : goX nob (xDi D) l r x (e + 1) o = goX nob (xDi D) l r (x + 1) e (xDi D o l r x) := rfl
theorem xHF (l r : Nat) : ∀ e x o, o <+: goX nob (xDi D) l r x e o
  | 0, _, o => List.prefix_rfl
  | e + 1, x, o => by rw [xN5]; exact (xN4 o l r x).trans (xHF l r e (x + 1) _)
theorem xV1 (l r : Nat) : ∀ e x o, l < o.length → r < o.length → ∀ y, x ≤ y → y < x + e → nx D (o.getD l 0) (o.getD r 0) y ∈ goX nob (xDi D) l r x e o
  | 0, x, o, _, _, y, h1, h2 => by omega
  | e + 1, x, o, hl, hr, y, h1, h2 => by
    rw [xN5]
    have hp := xN4 (D := D) o l r x
    rcases Nat.eq_or_lt_of_le h1 with q | q
    · subst q
      exact xSK (xHF l r e (x + 1) _) (xYe o l r x)
    · have := xV1 l r e (x + 1) (xDi D o l r x) (by have := xE2 hp; omega) (by have := xE2 hp; omega) y q (by omega)
      rwa [xHn hp hl, xHn hp hr] at this

def Done (D : Da) (o : List Int) (i j : Nat) : Prop := ∀ x, x < two D.vars → nx D (o.getD i 0) (o.getD j 0) x ∈ o
theorem Done.pre {o o' : List Int} {i j : Nat} (h : Done D o i j) (hp : o <+: o') (hi : i < o.length) (hj : j < o.length) : Done D o' i j := fun x hx => by
  rw [xHn hp hi, xHn hp hj]; exact xSK hp (h x hx)
theorem xSL {l r : Nat} {o : List Int} (hl : l < o.length) (hr : r < o.length) : Done D (goX nob (xDi D) l r 0 (two D.vars) o) l r := fun x hx => by
  have hp := xHF (D := D) l r (two D.vars) 0 o
  rw [xHn hp hl, xHn hp hr]
  exact xV1 l r _ 0 o hl hr x (Nat.zero_le _) (by omega)
theorem xYf (n j k : Nat) (o : List Int) : goP nob (xDi D) n j k o = goX nob (xDi D) k j 0 n (goX nob (xDi D) j k 0 n o) := rfl
theorem xSM (n j k : Nat) (o : List Int) : o <+: goP nob (xDi D) n j k o := by
  rw [xYf]; exact (xHF j k n 0 o).trans (xHF k j n 0 _)
theorem xYg {j k : Nat} {o : List Int} (hj : j < o.length) (hk : k < o.length) : Done D (goP nob (xDi D) (two D.vars) j k o) j k ∧ Done D (goP nob (xDi D) (two D.vars) j k o) k j := by
  rw [xYf]
  have hp := xE2 (xHF (D := D) j k (two D.vars) 0 o)
  exact ⟨(xSL hj hk).pre (xHF k j _ 0 _) (by omega) (by omega), xSL (by omega) (by omega)⟩
theorem xN6 (n k j e : Nat) (o : List Int) : goJ nob (xDi D) n k j (e + 1) o = goJ nob (xDi D) n k (j + 1) e (goP nob (xDi D) n j k o) := rfl
theorem xNa (n k : Nat) : ∀ e j o, o <+: goJ nob (xDi D) n k j e o
  | 0, _, o => List.prefix_rfl
  | e + 1, j, o => by rw [xN6]; exact (xSM n j k o).trans (xNa n k e (j + 1) _)
theorem xN7 {k : Nat} : ∀ e j o, j + e = k + 1 → k < o.length → ∀ i, j ≤ i → i ≤ k → Done D (goJ nob (xDi D) (two D.vars) k j e o) i k ∧ Done D (goJ nob (xDi D) (two D.vars) k j e o) k i
  | 0, j, o, h, hk, i, h1, h2 => by omega
  | e + 1, j, o, h, hk, i, h1, h2 => by
    rw [xN6]
    have hp := xE2 (xSM (D := D) (two D.vars) j k o)
    rcases Nat.eq_or_lt_of_le h1 with q | q
    · subst q
      obtain ⟨d1, d2⟩ := xYg (D := D) (show j < o.length by omega) hk
      exact ⟨d1.pre (xNa _ k e (j + 1) _) (by omega) (by omega), d2.pre (xNa _ k e (j + 1) _) (by omega) (by omega)⟩
    · exact xN7 e (j + 1) _ (by omega) (by omega) i q h2
theorem xV2 (n : Nat) : ∀ e k o, o <+: goK List.length nob (xDi D) n k e o
  | 0, _, o => List.prefix_rfl
  | e + 1, k, o => by
    unfold goK
    split
    · exact (xNa n k (k + 1) 0 o).trans (xV2 n e (k + 1) _)
    · exact List.prefix_rfl
theorem xSN {N : Nat} : ∀ e k o, k + e = N → (goK List.length nob (xDi D) (two D.vars) k e o).length ≤ N → (∀ i j, i < k → j < k → i < o.length → j < o.length → Done D o i j) →
    ∀ i j, i < (goK List.length nob (xDi D) (two D.vars) k e o).length → j < (goK List.length nob (xDi D) (two D.vars) k e o).length → Done D (goK List.length nob (xDi D) (two D.vars) k e o) i j
  | 0, k, o, h, hN, hd, i, j, hi, hj => by
    have hN' : o.length ≤ N := hN
    have hi' : i < o.length := hi
    have hj' : j < o.length := hj
    exact hd i j (by omega) (by omega) hi' hj'
  | e + 1, k, o, h, hN, hd, i, j, hi, hj => by
    by_cases c : k < o.length
    · have he : goK List.length nob (xDi D) (two D.vars) k (e + 1) o = goK List.length nob (xDi D) (two D.vars) (k + 1) e (goJ nob (xDi D) (two D.vars) k 0 (k + 1) o) := by
        show (if k < o.length then _ else _) = _
        rw [if_pos c]; rfl
      rw [he] at hN hi hj ⊢
      have hp := xNa (D := D) (two D.vars) k (k + 1) 0 o
      refine xSN e (k + 1) _ (by omega) hN (fun i j hi hj hi' hj' => ?_) i j hi hj
      by_cases ci : i = k
      · subst ci
        exact (xN7 (i + 1) 0 o (by omega) c j (Nat.zero_le _) (by omega)).2
      · by_cases cj : j = k
        · subst cj
          exact (xN7 (j + 1) 0 o (by omega) c i (Nat.zero_le _) (by omega)).1
        · exact (hd i j (by omega) (by omega) (by omega) (by omega)).pre hp (by omega) (by omega)
    · have he : goK List.length nob (xDi D) (two D.vars) k (e + 1) o = o := by
        show (if k < o.length then _ else _) = _
        rw [if_neg c]
      rw [he] at hi hj ⊢
      exact hd i j (by omega) (by omega) hi hj
theorem xPs : [D.empty] <+: xEg D := xV2 _ _ 0 _
theorem xNb (hN : (xEg D).length ≤ D.next.length) {i j x : Nat} (hi : i < (xEg D).length) (hj : j < (xEg D).length) (hx : x < two D.vars) : nx D ((xEg D).getD i 0) ((xEg D).getD j 0) x ∈ xEg D :=
  xSN (N := D.next.length) D.next.length 0 [D.empty] (by omega) hN (fun i j h => by omega) i j hi hj x hx
end
end Go.Abs.Det

/- renumber, Renumber. -/
namespace Go.Abs.Det
open Go Go.Abs
set_option linter.unusedSimpArgs false
set_option linter.unusedVariables false

def yAU (D : Da) (l r x : Nat) : Int := (xV0 (xEg D) (nx D ((xEg D).getD l 0) ((xEg D).getD r 0) x) : Nat)
def yCf (D : Da) (l : Nat) : Bool := D.fin.getD ((xEg D).getD l 0).toNat false
def xV3 (D : Da) : Da := ⟨D.vars, 0, xEv D.vars (yAU D) (xEg D).length (xEg D).length, xHM (yCf D) (xEg D).length⟩

set_option maxHeartbeats 2000000 in
theorem xEK {D : Da} (hV : Va D) : OrdOk D (xEg D) ∧ L.pcall 56 [D.av] = some (xV3 D).av := by
  have n64 := hV.n64
  have n0 := hV.n0
  have hI0 : RenI D [D.empty] 4 [.cells false false D.cells, .cells false false [.int .i64 0, .int .i64 0, .sl true 0 [], .sl true 0 []], .mp [(.int .i64 D.empty, .int .i64 0)], .cells false false [.mp 2], .cells false false [.int .i64 D.empty], .cells false false [.own false 4 0 1 1]] :=
    ⟨⟨by simp, fun s hs => by rw [List.mem_singleton] at hs; subst hs; exact ⟨hV.e0, hV.en⟩⟩, rfl, rfl, rfl, rfl, rfl, rfl, .inl rfl⟩
  obtain ⟨G1, lb, e1, e2⟩ := xM6 (xX9 hV) hI0 rfl rfl
  have e2' : RenI D (xEg D) lb G1 := e2
  have hok := e2'.ok
  refine ⟨hok, ?_⟩
  have hle := hok.le
  have hpos : 0 < (xEg D).length := by have := xE2 (xPs (D := D)); simp at this; omega
  have h6 := (List.getElem?_eq_some_iff.1 e2'.b5).1
  have hR : Rd D.vars (xEg D).length G1.length (.func 103 [.ptr 3 0, .ptr 0 0, .ptr 5 0]) (.func 104 [.ptr 0 0, .ptr 5 0]) (yAU D) (yCf D) (fun G => RenI D (xEg D) lb G) :=
    ⟨hV.v0, hV.v3, hpos, by omega, fun G G' hJ hb => by
      have l5 := (List.getElem?_eq_some_iff.1 e2'.bl).1
      exact ⟨hJ.ok, (hb 0 (by omega)).trans hJ.b0, (hb 1 (by omega)).trans hJ.b1, (hb 2 (by omega)).trans hJ.b2, (hb 3 (by omega)).trans hJ.b3, (hb 5 (by omega)).trans hJ.b5, (hb lb l5).trans hJ.bl, hJ.lo⟩,
     fun G l r x hJ hl hr hx => xYa hV hJ hl hr hx (xNb hle hl hr hx),
     fun G l hJ hl => ⟨[], by rw [List.append_nil]; exact xYb hV hJ hl⟩⟩
  obtain ⟨G2, i, k, f1, f2, f3, f4, f5⟩ := xSJ hR e2'
  have b0 := e2'.b0
  have b1 := (f4 1 (by omega)).trans e2'.b1
  have b5 := e2'.b5
  have hGl : 1 < G2.length := by omega
  have same : ∀ (Z : Blk) b, b ≠ 1 → (G2.set 1 Z)[b]? = G2[b]? := fun Z b hb => List.getElem?_set_ne (Ne.symm hb)
  have g3 := fun Z => f2.frame (G' := G2.set 1 Z) (by simp) fun d hd b hb => same Z b (by have := (f2 d hd).2 b hb; omega)
  have g1 := fun Z => f3.frame (G' := G2.set 1 Z) (by simp) fun d hd b hb => same Z b (by have := (f3 d hd).2 b hb; omega)
  have sl := fun Z : Blk => (List.getElem?_set_self (l := G2) (a := Z) hGl)
  unfold xV3
  unfold Da.av Da.cells
  simp only [xCu, xFX]
  unfold Da.cells at e1 b0
  have hb : xBN L a56 [.agg [.int .i64 D.vars, .int .i64 D.empty, .sl false D.next.length (D.next.map xCF), .sl false D.fin.length (xCq D.fin)]] [] =
      some (.agg [.int .i64 D.vars, .int .i64 0, .own false i 0 (xEg D).length 1, .own false k 0 (xEg D).length 1], G2.set 1 (.cells false false [.int .i64 D.vars, .int .i64 0, .own false i 0 (xEg D).length 1, .own false k 0 (xEg D).length 1])) := by
    have hu0 : ∀ a b : AV, xPd a b [] = some [(a, b)] := fun _ _ => rfl
    rw [a56]
    simp (maxSteps := 30000000) (disch := first | assumption | omega | (simp only [List.length_cons, List.length_nil, List.length_append, List.length_set, List.length_replicate, List.length_map, List.length_range, List.length_take, List.length_drop, List.all_cons, List.all_nil, AV.isCell, Bool.and_self, Bool.and_true, xAh, xAb, xAe, xAa, xAa, xAC, List.length_map] <;> omega) | rfl | decide) only [xAU, List.length_cons, List.length_nil, Nat.zero_add, Nat.reduceSub, xCL, List.cons_append, List.nil_append, xAp, xAf, xAc, xAk, xBz, AV.cells, opv, List.getD_cons_zero, List.all_cons, AV.isCell, List.all_nil, Bool.and_self, ↓reduceIte, xAq, List.set_cons_succ, List.set_cons_zero, xAi, xAg, xAj, xAd, xPu, Nat.reduceAdd, xAV, List.getD_cons_succ, xAB, xAl, xAJ, xA1, List.getElem?_cons_zero, xAt, List.drop_succ_cons, List.drop_zero, List.take_succ_cons, List.take_zero, xAO, xJr, xC9, xJq, List.getElem?_cons_succ, xDg, xEL, hu0, xFL, xBl, xAA, xA4, xBE, xAX, xBd, List.drop_nil, List.append_nil, xAK, xBP, beq_self_eq_true, xC1, Nat.mul_one, List.map_cons, List.map_nil, xCd, Nat.le_refl, and_self, xBO, xCR, Nat.add_zero, xDL, xCb, e1, b0, b5, List.take_nil, xBk, xC0, f1, b1, xAW, xAI, xAR, xEh, sl, xDm, xHJ, xAw]
  rw [yEN]
  refine xHW hb ?_
  show ((([AV.int .i64 D.vars, .int .i64 0, .own false i 0 (xEg D).length 1, .own false k 0 (xEg D).length 1]).mapM (frz 5 _)).map AV.agg) = _
  simp only [List.mapM_cons, List.mapM_nil, xA0, (g3 _ 5 (by omega)).1, (g1 _ 5 (by omega)).1, Option.pure_def, Option.bind_eq_bind, Option.bind_some, Option.map_some]
end Go.Abs.Det

/- renumber's automaton: valid; its steps; Renumber. -/
namespace Go.Abs.Det
open Go Go.Abs
set_option linter.unusedSimpArgs false
set_option linter.unusedVariables false

theorem xUT {o : List Int} {s : Int} (h : s ∈ o) : xV0 o s < o.length ∧ o.getD (xV0 o s) 0 = s := by
  unfold xV0
  cases hi : xN3 s o 0 with
  | none => exact absurd h (idxI_none.1 hi)
  | some j =>
    obtain ⟨_, q⟩ := xM9 hi
    rw [Nat.sub_zero] at q
    obtain ⟨h1, h2⟩ := List.getElem?_eq_some_iff.1 q
    refine ⟨h1, ?_⟩
    show o.getD j 0 = s
    rw [List.getD_eq_getElem?_getD, q]; rfl

theorem xN8 {v e : Int} {nxt : Nat → Nat → Nat → Int} {fin : Nat → Bool} {n : Nat} (v0 : 0 ≤ v) (v3 : v ≤ 3) (n0 : 0 < n) (n64 : n ≤ 64) (e0 : 0 ≤ e) (en : e < n) (hb : ∀ i j x, i < n → j < n → x < two v → 0 ≤ nxt i j x ∧ nxt i j x < n) : Va ⟨v, e, xEv v nxt n n, xHM fin n⟩ := by
  refine ⟨v0, v3, by rw [xCu]; exact n0, by rw [xCu]; exact n64, by rw [xCu, xFX], e0, by rw [xCu]; exact en, fun rows hr => ?_, fun rows hr row hw => ?_, fun rows hr row hw s hs => ?_⟩
  · obtain ⟨l, _, rfl⟩ := List.mem_map.1 hr
    rw [xCu]; exact xEJ ..
  · obtain ⟨l, _, rfl⟩ := List.mem_map.1 hr
    obtain ⟨r, _, rfl⟩ := List.mem_map.1 hw
    exact xK4 ..
  · obtain ⟨l, hl, rfl⟩ := List.mem_map.1 hr
    obtain ⟨r, hr', rfl⟩ := List.mem_map.1 hw
    obtain ⟨x, hx, rfl⟩ := List.mem_map.1 hs
    rw [xCu]
    exact hb l r x (List.mem_range.1 hl) (List.mem_range.1 hr') (List.mem_range.1 hx)

theorem xUU (D : Da) : 0 < (xEg D).length := by have := xE2 (xPs (D := D)); simp at this; omega
theorem xQk {D : Da} (hV : Va D) : Va (xV3 D) := by
  have hle := (xEK hV).1.le
  have n64 := hV.n64
  have hp := xUU D
  refine xN8 hV.v0 hV.v3 hp (by omega) (Int.le_refl _) (by omega) fun i j x hi hj hx => ?_
  have := (xUT (xNb hle hi hj hx)).1
  unfold yAU
  omega
theorem xQl {D : Da} (hV : Va D) : L.pcall 21 [D.av] = some (.tup [(xV3 D).av, .int .i64 0]) := by
  have h1 := xKS D hV
  have h2 := (xEK hV).2
  generalize xV3 D = R at *
  unfold Da.av at h1 h2 ⊢
  unfold Da.cells at h1 h2 ⊢
  rw [yEG, a21, xA7]
  simp (maxSteps := 30000000) (disch := first | assumption | omega | (simp only [List.length_cons, List.length_nil, List.length_append, List.length_set, List.length_replicate, List.length_map, List.length_range, List.length_take, List.length_drop, List.all_cons, List.all_nil, AV.isCell, Bool.and_self, Bool.and_true, xAh, xAb, xAe, xAa, xAa, xAC, List.length_map] <;> omega) | rfl | decide) only [xAU, List.length_cons, List.length_nil, Nat.zero_add, Nat.reduceSub, xCL, List.cons_append, List.nil_append, xAp, xAf, xAc, xAk, xBz, AV.cells, opv, List.getD_cons_zero, List.all_cons, AV.isCell, List.all_nil, Bool.and_self, ↓reduceIte, xAq, List.set_cons_succ, List.set_cons_zero, xAi, xAA, xAg, xAj, xAd, xAJ, List.getD_cons_succ, xA1, List.getElem?_cons_zero, xAt, List.drop_zero, List.take_succ_cons, List.take_nil, xBH, xAl, xBJ, List.map_cons, List.map_nil, xBi, xBL, List.mapM_cons, xCA, xA0, xCa, List.mapM_nil, Option.pure_def, Option.bind_eq_bind, Option.bind_some, Option.map_some, xBh, h1, xBg, xDT, xCw, xAy, xBm, decide_true, Bool.not_true, xAo, xAn, Bool.false_eq_true, xAx, h2, Bool.and_true, Bool.and_false, xDj, List.flatMap_cons, xIx, xCn, xIw, List.flatMap_nil, List.append_nil, List.foldl_nil, xA4, Nat.reduceAdd, xBE, List.getElem?_cons_succ, xAX, xBd, List.take_zero, List.drop_succ_cons, List.drop_nil, xAK, xBl, xAW, xAI, xDO, xDN, xEh, xDm, xHJ, xDM, xA2, xEi, xAw, xAQ, xG2]
end Go.Abs.Det

/- Minimize: a state of each class. -/
namespace Go.Abs.Det
open Go Go.Abs
set_option linter.unusedSimpArgs false
set_option linter.unusedVariables false

end Go.Abs.Det

/- Minimize: its reading calls. -/
namespace Go.Abs.Det
open Go Go.Abs
set_option linter.unusedSimpArgs false
set_option linter.unusedVariables false

end Go.Abs.Det

/- Minimize. -/
namespace Go.Abs.Det
open Go Go.Abs
set_option linter.unusedSimpArgs false
set_option linter.unusedVariables false

end Go.Abs.Det

/- Accepts. -/
namespace Go.Abs.Det
open Go Go.Abs
set_option linter.unusedSimpArgs false
set_option linter.unusedVariables false

theorem xNc {D : Da} (hV : Va D) (z : Bool) {T : BT} (ht : T.size ≤ 31) (hx : T.labs (· < two D.vars)) : L.pcall 18 [D.av, tw z (xDu 0 T)] = some (.tup [.bool (D.fin.getD (stB D T).toNat false), .int .i64 0]) := by
  have hl := xCK T 0
  have h1 := xKg hV z (xDu 0 T) (by omega) (fun e he => by have := (xFV T 0).2 hx e he; have := (xDy hV.v3).1; omega)
  rw [(xMY hV.v0).2 ⟨T, rfl, ht, hx⟩] at h1
  have h2 := yDa hV z ht hx
  have hsl := xHi D T
  have hb := xJa hV hx
  have fl := hV.fl
  have n64 := hV.n64
  have h0 : (stL D T ++ [D.empty]).getD 0 0 = stB D T := by cases T <;> rfl
  have gs : List.take 1 (List.drop 0 (xCh (stL D T ++ [D.empty]))) = [.int .i64 (stB D T)] := by rw [← h0]; exact xCe _ _ (by simp)
  have gs0 : List.take 1 (xCh (stL D T ++ [D.empty])) = [.int .i64 (stB D T)] := gs
  have gf : List.take 1 (List.drop (stB D T).toNat (xCq D.fin)) = [.bool (D.fin.getD (stB D T).toNat false)] := xCe _ _ (by omega)
  unfold tw at h1 h2 ⊢
  simp only [hl] at h1 h2 ⊢
  unfold Da.av at h1 h2 ⊢
  unfold Da.cells at h1 h2 ⊢
  simp only [fl] at h1 h2 ⊢
  rw [yDN, a18, xA7]
  simp (maxSteps := 30000000) (disch := first | assumption | omega | (simp only [List.length_cons, List.length_nil, List.length_append, List.length_set, List.length_replicate, List.length_map, List.length_range, List.length_take, List.length_drop, List.all_cons, List.all_nil, AV.isCell, Bool.and_self, Bool.and_true, xAh, xAb, xAe, xAa, xAa, xAC, List.length_map] <;> omega) | rfl | decide) only [xAU, List.length_cons, List.length_nil, Nat.zero_add, Nat.reduceAdd, Nat.reduceSub, xCL, List.cons_append, List.nil_append, xAp, xAf, xAc, xAk, xBz, AV.cells, opv, List.getD_cons_zero, List.all_cons, AV.isCell, List.all_nil, Bool.and_self, ↓reduceIte, xAq, List.set_cons_succ, List.set_cons_zero, xAi, xAA, xAg, xAj, xAd, xAJ, List.getD_cons_succ, xA1, List.getElem?_cons_zero, xAt, List.drop_zero, List.take_succ_cons, List.take_nil, xBH, xAl, xBJ, List.map_cons, List.map_nil, xBi, xBL, List.mapM_cons, xCA, xA0, xCa, List.mapM_nil, Option.pure_def, Option.bind_eq_bind, Option.bind_some, Option.map_some, xBh, h1, xBg, xDT, xCw, xAy, xBm, decide_true, Bool.not_true, xAo, xAn, Bool.false_eq_true, xAx, xBI, List.take_zero, xA5, xBf, xBY, xAV, xAB, xBq, xBC, xBo, xBR, List.drop_succ_cons, xAO, xCx, xKr, h2, xDj, List.flatMap_cons, xIx, xCn, xIw, List.flatMap_nil, List.append_nil, List.foldl_nil, xDC, xCY, Bool.or_true, xBe, xBn, xCt, xBy, xAZ, xAY, Int.toNat_zero, Nat.mul_one, xBj, gs0, gf, xAW, xAI, xDO, xDN, xA2, xDM, xEi, xAw, xAQ, xG2, xB2]

theorem xK5 {D : Da} (hV : Va D) (z : Bool) (t : List Lf) (hl : t.length < 1099511627776) (hx : ∀ e ∈ t, e.x < 256) (he : xHh t D.vars.toNat ≠ 0) : L.pcall 18 [D.av, tw z t] = some (.tup [.bool false, .int .i64 (xHh t D.vars.toNat)]) := by
  have h1 := xKg hV z t hl hx
  generalize xHh t D.vars.toNat = e at *
  unfold Da.av at h1 ⊢
  unfold Da.cells at h1 ⊢
  rw [yDN, a18, xA7]
  simp (maxSteps := 30000000) (disch := first | assumption | omega | (simp only [List.length_cons, List.length_nil, List.length_append, List.length_set, List.length_replicate, List.length_map, List.length_range, List.length_take, List.length_drop, List.all_cons, List.all_nil, AV.isCell, Bool.and_self, Bool.and_true, xAh, xAb, xAe, xAa, xAa, xAC, List.length_map] <;> omega) | rfl | decide) only [xAU, List.length_cons, List.length_nil, Nat.zero_add, Nat.reduceAdd, Nat.reduceSub, xCL, List.cons_append, List.nil_append, xAp, xAf, xAc, xAk, xBz, AV.cells, opv, List.getD_cons_zero, List.all_cons, AV.isCell, List.all_nil, Bool.and_self, ↓reduceIte, xAq, List.set_cons_succ, List.set_cons_zero, xAi, xAA, xAg, xAj, xAd, xAJ, List.getD_cons_succ, xA1, List.getElem?_cons_zero, xAt, List.drop_zero, List.take_succ_cons, List.take_nil, xBH, xAl, xBJ, List.map_cons, List.map_nil, xBi, xBL, List.mapM_cons, xCA, xA0, xCa, List.mapM_nil, Option.pure_def, Option.bind_eq_bind, Option.bind_some, Option.map_some, xBh, h1, xBg, xDT, xCw, xAy, xBm, he, decide_false, Bool.not_false, xAo, xAn, xAW, xBu, xAI, xDO, xDN, xA2, xDM, xEi, xAw, xAQ, xG2, xB2]
end Go.Abs.Det

/- Minimize: no states. -/
namespace Go.Abs.Det
open Go Go.Abs
set_option linter.unusedSimpArgs false
set_option linter.unusedVariables false

end Go.Abs.Det
