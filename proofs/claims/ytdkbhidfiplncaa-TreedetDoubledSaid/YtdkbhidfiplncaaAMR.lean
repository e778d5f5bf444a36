/- explore: the loops, over any call. -/
import Derived.Test.YtdkbhidfiplncaaAME
import Derived.Test.YtdkbhidfiplncaaAbsWalk3
namespace Go.Abs.Det
open Go Go.Abs
set_option linter.unusedSimpArgs false
set_option linter.unusedVariables false

def resE (size : Nat) (bad : Bool) : Int := if bad = true then -1 else (size : Nat)

/-- what explore asks of the call -/
structure Exp {σ : Type} (v : Int) (B N : Nat) (f : AV) (size : σ → Nat) (bad : σ → Bool) (stp : σ → Nat → Nat → Nat → σ) (I : σ → Nat → Heap → Prop) : Prop where
  v0 : 0 ≤ v
  v3 : v ≤ 3
  n64 : N ≤ 64
  grow : ∀ s lb G X, I s lb G → I s lb (G ++ [X])
  lb : ∀ s lb G, I s lb G → lb < G.length ∧ B ≤ G.length
  le : ∀ s lb G, I s lb G → bad s = false → size s ≤ N
  mono : ∀ s l r x, size s ≤ size (stp s l r x)
  call : ∀ s lb G (l r x p : Nat), I s lb G → bad s = false → l < size s → r < size s → x < two v → B ≤ p → p ≠ lb → p < G.length →
    ∃ G' lb', L.icall f [.int .i64 (l : Nat), .int .i64 (r : Nat), .int .i64 (x : Nat)] G = some (.int .i64 (resE (size (stp s l r x)) (bad (stp s l r x))), G') ∧ I (stp s l r x) lb' G' ∧ G'[p]? = G[p]? ∧ p ≠ lb'

section
variable {σ : Type} {v : Int} {B N : Nat} {f : AV} {size : σ → Nat} {bad : σ → Bool} {stp : σ → Nat → Nat → Nat → σ} {I : σ → Nat → Heap → Prop}

/-- the letters -/
def goX (bad : σ → Bool) (stp : σ → Nat → Nat → Nat → σ) (l r : Nat) : Nat → Nat → σ → σ
  | _, 0, s => s
  | x, e + 1, s => if bad (stp s l r x) = true then stp s l r x else goX bad stp l r (x + 1) e (stp s l r x)
theorem goX_mono (h : ∀ s l r x, size s ≤ size (stp s l r x)) (l r : Nat) : ∀ e x s, size s ≤ size (goX bad stp l r x e s)
  | 0, _, s => Nat.le_refl _
  | e + 1, x, s => by
    unfold goX
    split
    · exact h s l r x
    · exact Nat.le_trans (h s l r x) (goX_mono h l r e (x + 1) _)

set_option maxHeartbeats 1000000 in
theorem ex_x (hE : Exp v B N f size bad stp I) {l r p : Nat} {s5 s6 s26 s27 : AV} (hp : B ≤ p) : ∀ e x s lb G, x + e = two v → I s lb G → bad s = false → l < size s → r < size s → G[p]? = some (.cells false false [.int .i64 (l : Nat), .int .i64 (r : Nat)]) → p ≠ lb →
    ∃ G' lb' xx, L.loop a75l0s a75l0 ⟨a75l0F (.int .i64 v) f (.int .i64 (size s : Nat)) s5 s6 (.ptr p 0) s26 s27 (.int .i64 (two v : Nat)) (.int .i64 (x : Nat)), G⟩ =
      some (.exit (if bad (goX bad stp l r x e s) = true then 0 else 6), ⟨a75l0F (.int .i64 v) f (.int .i64 (resE (size (goX bad stp l r x e s)) (bad (goX bad stp l r x e s)))) s5 s6 (.ptr p 0) s26 s27 (.int .i64 (two v : Nat)) xx, G'⟩) ∧
      I (goX bad stp l r x e s) lb' G' := by
  intro e
  induction e with
  | zero =>
    intro x s lb G h hI hb hl hr hG hpl
    obtain rfl : x = two v := by omega
    refine ⟨G, lb, .int .i64 (two v : Nat), ?_, hI⟩
    have hx8 := (two_bd hE.v3).1
    simp only [goX, hb, resE]
    rw [a75l0n]
    simp (maxSteps := 30000000) (disch := first | assumption | omega | (simp only [List.length_cons, List.length_nil, List.length_append, List.length_set, List.length_replicate, List.length_map, List.length_range, List.length_take, List.length_drop, List.all_cons, List.all_nil, AV.isCell, Bool.and_self, Bool.and_true, bs_length, is64_length, w64_length, ints_length, ints_length, bools_len, List.length_map] <;> omega) | rfl | decide) only [a75l0b, run_seq, run_region, runOps_cons, oper_none, ex_bin, opv, List.getD_cons_succ, List.getD_cons_zero, bin_lss, Int.lt_irrefl, decide_false, valK_some, putK_to, List.set_cons_succ, List.set_cons_zero, opsK_some, runOps_nil, regK_some, seqK_normal, run_cond, condK_bool, Bool.false_eq_true, ↓reduceIte, run_exit, seqK_exit, loopK_exit, a75l0c]
  | succ e ih =>
    intro x s lb G h hI hb hl hr hG hpl
    have hx8 := (two_bd hE.v3).1
    have hlt : (x : Int) < (two v : Nat) := by omega
    have hpg := (List.getElem?_eq_some_iff.1 hG).1
    obtain ⟨G1, lb1, c1, c2, c3, c4⟩ := hE.call s lb G l r x p hI hb hl hr (by omega) hp hpl hpg
    have hm := hE.mono s l r x
    unfold goX
    generalize stp s l r x = s' at *
    cases hb' : bad s' with
    | true =>
      rw [hb'] at c1
      refine ⟨G1, lb1, .int .i64 (x : Nat), ?_, by simpa using c2⟩
      simp only [resE, if_true] at c1 ⊢
      rw [a75l0n]
      simp (maxSteps := 30000000) (disch := first | assumption | omega | (simp only [List.length_cons, List.length_nil, List.length_append, List.length_set, List.length_replicate, List.length_map, List.length_range, List.length_take, List.length_drop, List.all_cons, List.all_nil, AV.isCell, Bool.and_self, Bool.and_true, bs_length, is64_length, w64_length, ints_length, ints_length, bools_len, List.length_map] <;> omega) | rfl | decide) only [a75l0b, run_seq, run_region, runOps_cons, oper_none, ex_bin, opv, List.getD_cons_succ, List.getD_cons_zero, bin_lss, hlt, decide_true, valK_some, putK_to, List.set_cons_succ, List.set_cons_zero, opsK_some, runOps_nil, regK_some, seqK_normal, run_cond, condK_bool, ↓reduceIte, run_skip, run_block, ex_mov, ex_arrat, arratA_ptr, Int.toNat_zero, Nat.mul_one, Nat.add_zero, ex_load, rd_ptr, hG, rdK_cells, List.drop_zero, List.take_succ_cons, List.take_zero, loadK_1, Int.toNat_one, Nat.zero_add, List.drop_succ_cons, List.take_nil, ex_icall, List.map_cons, List.map_nil, c1, Int.reduceNeg, Int.reduceLT, run_exit, blockK_exit, Nat.reduceEqDiff, seqK_exit, loopK_exit, a75l0c, hb']
    | false =>
      rw [hb'] at c1
      obtain ⟨G', lb', xx, f1, f2⟩ := ih (x + 1) s' lb1 G1 (by omega) c2 hb' (by omega) (by omega) (c3.trans hG) c4
      refine ⟨G', lb', xx, ?_, by simpa using f2⟩
      have hnn : ¬ ((size s' : Nat) : Int) < 0 := by omega
      simp only [resE, Bool.false_eq_true, if_false] at c1 f1 ⊢
      rw [a75l0n]
      simp (maxSteps := 30000000) (disch := first | assumption | omega | (simp only [List.length_cons, List.length_nil, List.length_append, List.length_set, List.length_replicate, List.length_map, List.length_range, List.length_take, List.length_drop, List.all_cons, List.all_nil, AV.isCell, Bool.and_self, Bool.and_true, bs_length, is64_length, w64_length, ints_length, ints_length, bools_len, List.length_map] <;> omega) | rfl | decide) only [a75l0b, run_seq, run_region, runOps_cons, oper_none, ex_bin, opv, List.getD_cons_succ, List.getD_cons_zero, bin_lss, hlt, decide_true, valK_some, putK_to, List.set_cons_succ, List.set_cons_zero, opsK_some, runOps_nil, regK_some, seqK_normal, run_cond, condK_bool, ↓reduceIte, run_skip, run_block, ex_mov, ex_arrat, arratA_ptr, Int.toNat_zero, Nat.mul_one, Nat.add_zero, ex_load, rd_ptr, hG, rdK_cells, List.drop_zero, List.take_succ_cons, List.take_zero, loadK_1, Int.toNat_one, Nat.zero_add, List.drop_succ_cons, List.take_nil, ex_icall, List.map_cons, List.map_nil, c1, hnn, decide_false, Bool.false_eq_true, blockK_normal, bin_add, cadd1, wr64, loopK_normal, a75l0c, f1, Int.reduceNeg]
end
end Go.Abs.Det

/- explore, over any call. -/
namespace Go.Abs.Det
open Go Go.Abs
set_option linter.unusedSimpArgs false
set_option linter.unusedVariables false

section
variable {σ : Type} {v : Int} {B N : Nat} {f : AV} {size : σ → Nat} {bad : σ → Bool} {stp : σ → Nat → Nat → Nat → σ} {I : σ → Nat → Heap → Prop}

/-- a pair, both ways round -/
def goP (bad : σ → Bool) (stp : σ → Nat → Nat → Nat → σ) (n j k : Nat) (s : σ) : σ :=
  if bad (goX bad stp j k 0 n s) = true then goX bad stp j k 0 n s else goX bad stp k j 0 n (goX bad stp j k 0 n s)
def goJ (bad : σ → Bool) (stp : σ → Nat → Nat → Nat → σ) (n k : Nat) : Nat → Nat → σ → σ
  | _, 0, s => s
  | j, e + 1, s => if bad (goP bad stp n j k s) = true then goP bad stp n j k s else goJ bad stp n k (j + 1) e (goP bad stp n j k s)
def goK (size : σ → Nat) (bad : σ → Bool) (stp : σ → Nat → Nat → Nat → σ) (n : Nat) : Nat → Nat → σ → σ
  | _, 0, s => s
  | k, e + 1, s => if k < size s then (if bad (goJ bad stp n k 0 (k + 1) s) = true then goJ bad stp n k 0 (k + 1) s else goK size bad stp n (k + 1) e (goJ bad stp n k 0 (k + 1) s)) else s
theorem goP_mono (h : ∀ s l r x, size s ≤ size (stp s l r x)) (n j k : Nat) (s : σ) : size s ≤ size (goP bad stp n j k s) := by
  unfold goP
  split
  · exact goX_mono h j k n 0 s
  · exact Nat.le_trans (goX_mono h j k n 0 s) (goX_mono h k j n 0 _)

set_option maxHeartbeats 1000000 in
theorem ex_p1 (hE : Exp v B N f size bad stp I) {j k : Nat} {s5 s6 : AV} {s : σ} {lb : Nat} {G : Heap} (hI : I s lb G) (hb : bad s = false) (hj : j < size s) (hk : k < size s) :
    ∃ G' lb' yy, L.loop a75l1s a75l1 ⟨a75l1F (.int .i64 v) f (.int .i64 (size s : Nat)) s5 s6 (.agg [.int .i64 (j : Nat), .int .i64 (k : Nat), .int .i64 (k : Nat), .int .i64 (j : Nat)]) (.int .i64 1), G⟩ =
      some (.exit (if bad (goX bad stp k j 0 (two v) s) = true then 0 else 4), ⟨a75l1F (.int .i64 v) f (.int .i64 (resE (size (goX bad stp k j 0 (two v) s)) (bad (goX bad stp k j 0 (two v) s)))) s5 s6 (.agg [.int .i64 (j : Nat), .int .i64 (k : Nat), .int .i64 (k : Nat), .int .i64 (j : Nat)]) yy, G'⟩) ∧
      I (goX bad stp k j 0 (two v) s) lb' G' := by
  have hlb := hE.lb s lb G hI
  have hsh := two_shl hE.v0 hE.v3
  have hv : ¬ v < 0 := by have := hE.v0; omega
  obtain ⟨G', lb', xx, f1, f2⟩ := ex_x hE (l := k) (r := j) (p := G.length) (s5 := s5) (s6 := s6) (s26 := .agg [.int .i64 (j : Nat), .int .i64 (k : Nat), .int .i64 (k : Nat), .int .i64 (j : Nat)]) (s27 := .int .i64 1) hlb.2 (two v) 0 s lb
    (G ++ [.cells false false [.int .i64 (k : Nat), .int .i64 (j : Nat)]]) (by omega) (hE.grow _ _ _ _ hI) hb hk hj (hget0 _ _) (by omega)
  generalize goX bad stp k j 0 (two v) s = s' at *
  have e2 : L.loop a75l1s a75l1 ⟨a75l1F (.int .i64 v) f (.int .i64 (size s' : Nat)) s5 s6 (.agg [.int .i64 (j : Nat), .int .i64 (k : Nat), .int .i64 (k : Nat), .int .i64 (j : Nat)]) (.int .i64 2), G'⟩ = some (.exit 4, ⟨a75l1F (.int .i64 v) f (.int .i64 (size s' : Nat)) s5 s6 (.agg [.int .i64 (j : Nat), .int .i64 (k : Nat), .int .i64 (k : Nat), .int .i64 (j : Nat)]) (.int .i64 2), G'⟩) := by
    rw [a75l1n]
    simp (maxSteps := 30000000) (disch := first | assumption | omega | (simp only [List.length_cons, List.length_nil, List.length_append, List.length_set, List.length_replicate, List.length_map, List.length_range, List.length_take, List.length_drop, List.all_cons, List.all_nil, AV.isCell, Bool.and_self, Bool.and_true, bs_length, is64_length, w64_length, ints_length, ints_length, bools_len, List.length_map] <;> omega) | rfl | decide) only [a75l1b, run_seq, run_region, runOps_cons, oper_none, ex_bin, opv, List.getD_cons_succ, List.getD_cons_zero, bin_lss, Int.lt_irrefl, decide_false, valK_some, putK_to, List.set_cons_succ, List.set_cons_zero, opsK_some, runOps_nil, regK_some, seqK_normal, run_cond, condK_bool, Bool.false_eq_true, ↓reduceIte, run_exit, seqK_exit, loopK_exit, a75l1c]
  simp only [Int.natCast_zero] at f1
  cases hb' : bad s' with
  | true =>
    rw [hb'] at f1
    refine ⟨G', lb', .int .i64 1, ?_, f2⟩
    simp only [resE, if_true] at f1 ⊢
    rw [a75l1n]
    simp (maxSteps := 30000000) (disch := first | assumption | omega | (simp only [List.length_cons, List.length_nil, List.length_append, List.length_set, List.length_replicate, List.length_map, List.length_range, List.length_take, List.length_drop, List.all_cons, List.all_nil, AV.isCell, Bool.and_self, Bool.and_true, bs_length, is64_length, w64_length, ints_length, ints_length, bools_len, List.length_map] <;> omega) | rfl | decide) only [a75l1b, run_seq, run_region, runOps_cons, oper_none, ex_bin, opv, List.getD_cons_succ, List.getD_cons_zero, bin_lss, Int.reduceLT, decide_true, valK_some, putK_to, List.set_cons_succ, List.set_cons_zero, opsK_some, runOps_nil, regK_some, seqK_normal, run_cond, condK_bool, ↓reduceIte, run_skip, run_block, ex_idx, idxA_agg, Int.toNat_one, Nat.reduceMul, List.drop_succ_cons, List.drop_zero, List.take_succ_cons, List.take_nil, mkv_n, ex_box, AV.cells, List.all_cons, AV.isCell, List.all_nil, Bool.and_self, ex_store, List.length_cons, List.length_nil, Nat.zero_add, Nat.reduceAdd, wr_ptr, hget0, List.getElem?_cons_zero, wrK_cells, splice, List.take_zero, List.nil_append, List.drop_nil, List.append_nil, hset0, storeK_some, putK_no, ex_mov, bin_shl, hsh, run_loop, a75l0c, f1, Int.reduceNeg, blockK_exit, Nat.reduceEqDiff, seqK_exit, loopK_exit, a75l1c]
  | false =>
    rw [hb'] at f1
    refine ⟨G', lb', .int .i64 2, ?_, f2⟩
    simp only [resE, Bool.false_eq_true, if_false] at f1 ⊢
    rw [a75l1n]
    simp (maxSteps := 30000000) (disch := first | assumption | omega | (simp only [List.length_cons, List.length_nil, List.length_append, List.length_set, List.length_replicate, List.length_map, List.length_range, List.length_take, List.length_drop, List.all_cons, List.all_nil, AV.isCell, Bool.and_self, Bool.and_true, bs_length, is64_length, w64_length, ints_length, ints_length, bools_len, List.length_map] <;> omega) | rfl | decide) only [a75l1b, run_seq, run_region, runOps_cons, oper_none, ex_bin, opv, List.getD_cons_succ, List.getD_cons_zero, bin_lss, Int.reduceLT, decide_true, valK_some, putK_to, List.set_cons_succ, List.set_cons_zero, opsK_some, runOps_nil, regK_some, seqK_normal, run_cond, condK_bool, ↓reduceIte, run_skip, run_block, ex_idx, idxA_agg, Int.toNat_one, Nat.reduceMul, List.drop_succ_cons, List.drop_zero, List.take_succ_cons, List.take_nil, mkv_n, ex_box, AV.cells, List.all_cons, AV.isCell, List.all_nil, Bool.and_self, ex_store, List.length_cons, List.length_nil, Nat.zero_add, Nat.reduceAdd, wr_ptr, hget0, List.getElem?_cons_zero, wrK_cells, splice, List.take_zero, List.nil_append, List.drop_nil, List.append_nil, hset0, storeK_some, putK_no, ex_mov, bin_shl, hsh, run_loop, a75l0c, f1, blockK_exit, blockK_normal, bin_add, Int.reduceAdd, wr64, loopK_normal, a75l1c, e2]

set_option maxHeartbeats 1000000 in
theorem ex_p (hE : Exp v B N f size bad stp I) {j k : Nat} {s5 s6 : AV} {s : σ} {lb : Nat} {G : Heap} (hI : I s lb G) (hb : bad s = false) (hj : j < size s) (hk : k < size s) :
    ∃ G' lb' yy, L.loop a75l1s a75l1 ⟨a75l1F (.int .i64 v) f (.int .i64 (size s : Nat)) s5 s6 (.agg [.int .i64 (j : Nat), .int .i64 (k : Nat), .int .i64 (k : Nat), .int .i64 (j : Nat)]) (.int .i64 0), G⟩ =
      some (.exit (if bad (goP bad stp (two v) j k s) = true then 0 else 4), ⟨a75l1F (.int .i64 v) f (.int .i64 (resE (size (goP bad stp (two v) j k s)) (bad (goP bad stp (two v) j k s)))) s5 s6 (.agg [.int .i64 (j : Nat), .int .i64 (k : Nat), .int .i64 (k : Nat), .int .i64 (j : Nat)]) yy, G'⟩) ∧
      I (goP bad stp (two v) j k s) lb' G' := by
  have hlb := hE.lb s lb G hI
  have hsh := two_shl hE.v0 hE.v3
  have hv : ¬ v < 0 := by have := hE.v0; omega
  obtain ⟨G', lb', xx, f1, f2⟩ := ex_x hE (l := j) (r := k) (p := G.length) (s5 := s5) (s6 := s6) (s26 := .agg [.int .i64 (j : Nat), .int .i64 (k : Nat), .int .i64 (k : Nat), .int .i64 (j : Nat)]) (s27 := .int .i64 0) hlb.2 (two v) 0 s lb
    (G ++ [.cells false false [.int .i64 (j : Nat), .int .i64 (k : Nat)]]) (by omega) (hE.grow _ _ _ _ hI) hb hj hk (hget0 _ _) (by omega)
  have hm := goX_mono (bad := bad) hE.mono j k (two v) 0 s
  unfold goP
  generalize goX bad stp j k 0 (two v) s = s' at *
  simp only [Int.natCast_zero] at f1
  cases hb' : bad s' with
  | true =>
    rw [hb'] at f1
    refine ⟨G', lb', .int .i64 0, ?_, by simpa using f2⟩
    simp only [resE, if_true, hb'] at f1 ⊢
    rw [a75l1n]
    simp (maxSteps := 30000000) (disch := first | assumption | omega | (simp only [List.length_cons, List.length_nil, List.length_append, List.length_set, List.length_replicate, List.length_map, List.length_range, List.length_take, List.length_drop, List.all_cons, List.all_nil, AV.isCell, Bool.and_self, Bool.and_true, bs_length, is64_length, w64_length, ints_length, ints_length, bools_len, List.length_map] <;> omega) | rfl | decide) only [a75l1b, run_seq, run_region, runOps_cons, oper_none, ex_bin, opv, List.getD_cons_succ, List.getD_cons_zero, bin_lss, Int.reduceLT, decide_true, valK_some, putK_to, List.set_cons_succ, List.set_cons_zero, opsK_some, runOps_nil, regK_some, seqK_normal, run_cond, condK_bool, ↓reduceIte, run_skip, run_block, ex_idx, idxA_agg, Int.toNat_zero, Nat.reduceMul, List.drop_zero, List.take_succ_cons, List.take_zero, mkv_n, ex_box, AV.cells, List.all_cons, AV.isCell, List.all_nil, Bool.and_self, ex_store, List.length_cons, List.length_nil, Nat.zero_add, Nat.reduceAdd, wr_ptr, hget0, List.getElem?_cons_zero, wrK_cells, splice, List.nil_append, List.drop_succ_cons, List.drop_nil, List.append_nil, hset0, storeK_some, putK_no, ex_mov, bin_shl, hsh, run_loop, a75l0c, f1, Int.reduceNeg, blockK_exit, Nat.reduceEqDiff, seqK_exit, loopK_exit, a75l1c]
  | false =>
    rw [hb'] at f1
    obtain ⟨G2, lb2, yy, g1, g2⟩ := ex_p1 (s5 := s5) (s6 := s6) hE f2 hb' (show j < size s' by omega) (show k < size s' by omega)
    refine ⟨G2, lb2, yy, ?_, by simpa using g2⟩
    simp only [Bool.false_eq_true, if_false] at f1 g1 ⊢
    generalize hrr : resE (size s') false = rr at f1
    have hrr' : rr = ((size s' : Nat) : Int) := by rw [← hrr]; rfl
    subst hrr'
    generalize goX bad stp k j 0 (two v) s' = s2 at *
    generalize resE (size s2) (bad s2) = w at *
    rw [a75l1n]
    simp (maxSteps := 30000000) (disch := first | assumption | omega | (simp only [List.length_cons, List.length_nil, List.length_append, List.length_set, List.length_replicate, List.length_map, List.length_range, List.length_take, List.length_drop, List.all_cons, List.all_nil, AV.isCell, Bool.and_self, Bool.and_true, bs_length, is64_length, w64_length, ints_length, ints_length, bools_len, List.length_map] <;> omega) | rfl | decide) only [a75l1b, run_seq, run_region, runOps_cons, oper_none, ex_bin, opv, List.getD_cons_succ, List.getD_cons_zero, bin_lss, Int.reduceLT, decide_true, valK_some, putK_to, List.set_cons_succ, List.set_cons_zero, opsK_some, runOps_nil, regK_some, seqK_normal, run_cond, condK_bool, ↓reduceIte, run_skip, run_block, ex_idx, idxA_agg, Int.toNat_zero, Nat.reduceMul, List.drop_zero, List.take_succ_cons, List.take_zero, mkv_n, ex_box, AV.cells, List.all_cons, AV.isCell, List.all_nil, Bool.and_self, ex_store, List.length_cons, List.length_nil, Nat.zero_add, Nat.reduceAdd, wr_ptr, hget0, List.getElem?_cons_zero, wrK_cells, splice, List.nil_append, List.drop_succ_cons, List.drop_nil, List.append_nil, hset0, storeK_some, putK_no, ex_mov, bin_shl, hsh, run_loop, a75l0c, f1, blockK_exit, blockK_normal, bin_add, Int.zero_add, wr64, loopK_normal, a75l1c, g1]
end
end Go.Abs.Det

/- explore, over any call: the whole. -/
namespace Go.Abs.Det
open Go Go.Abs
set_option linter.unusedSimpArgs false
set_option linter.unusedVariables false

section
variable {σ : Type} {v : Int} {B N : Nat} {f : AV} {size : σ → Nat} {bad : σ → Bool} {stp : σ → Nat → Nat → Nat → σ} {I : σ → Nat → Heap → Prop}

theorem goJ_mono (h : ∀ s l r x, size s ≤ size (stp s l r x)) (n k : Nat) : ∀ e j s, size s ≤ size (goJ bad stp n k j e s)
  | 0, _, s => Nat.le_refl _
  | e + 1, j, s => by
    unfold goJ
    split
    · exact goP_mono h n j k s
    · exact Nat.le_trans (goP_mono h n j k s) (goJ_mono h n k e (j + 1) _)

set_option maxHeartbeats 1000000 in
theorem ex_j (hE : Exp v B N f size bad stp I) {k : Nat} : ∀ e j s lb G, j + e = k + 1 → I s lb G → bad s = false → k < size s →
    ∃ G' lb' yy, L.loop a75l2s a75l2 ⟨a75l2F (.int .i64 v) f (.int .i64 (size s : Nat)) (.int .i64 (k : Nat)) (.int .i64 (j : Nat)), G⟩ =
      some (.exit (if bad (goJ bad stp (two v) k j e s) = true then 0 else 2), ⟨a75l2F (.int .i64 v) f (.int .i64 (resE (size (goJ bad stp (two v) k j e s)) (bad (goJ bad stp (two v) k j e s)))) (.int .i64 (k : Nat)) yy, G'⟩) ∧
      I (goJ bad stp (two v) k j e s) lb' G' := by
  intro e
  induction e with
  | zero =>
    intro j s lb G h hI hb hk
    obtain rfl : j = k + 1 := by omega
    have hle := hE.le s lb G hI hb
    have n64 := hE.n64
    refine ⟨G, lb, .int .i64 ((k + 1 : Nat) : Int), ?_, hI⟩
    have c : ¬ (((k + 1 : Nat) : Int) ≤ (k : Nat)) := by omega
    simp only [goJ, hb, resE]
    rw [a75l2n]
    simp (maxSteps := 30000000) (disch := first | assumption | omega | (simp only [List.length_cons, List.length_nil, List.length_append, List.length_set, List.length_replicate, List.length_map, List.length_range, List.length_take, List.length_drop, List.all_cons, List.all_nil, AV.isCell, Bool.and_self, Bool.and_true, bs_length, is64_length, w64_length, ints_length, ints_length, bools_len, List.length_map] <;> omega) | rfl | decide) only [a75l2b, run_seq, run_region, runOps_cons, oper_none, ex_mov, opv, List.getD_cons_succ, List.getD_cons_zero, putK_to, List.set_cons_succ, List.set_cons_zero, opsK_some, ex_bin, bin_leq, c, decide_false, valK_some, runOps_nil, regK_some, seqK_normal, run_cond, condK_bool, Bool.false_eq_true, ↓reduceIte, run_exit, seqK_exit, loopK_exit, a75l2c]
  | succ e ih =>
    intro j s lb G h hI hb hk
    have hle := hE.le s lb G hI hb
    have n64 := hE.n64
    have hlt : ((j : Nat) : Int) ≤ (k : Nat) := by omega
    obtain ⟨G1, lb1, yy, f1, f2⟩ := ex_p (s5 := .int .i64 (k : Nat)) (s6 := .int .i64 (j : Nat)) hE hI hb (show j < size s by omega) hk
    have hm := goP_mono (bad := bad) hE.mono (two v) j k s
    unfold goJ
    generalize goP bad stp (two v) j k s = s' at *
    cases hb' : bad s' with
    | true =>
      rw [hb'] at f1
      refine ⟨G1, lb1, .int .i64 (j : Nat), ?_, by simpa using f2⟩
      simp only [resE, if_true, hb'] at f1 ⊢
      rw [a75l2n]
      simp (maxSteps := 30000000) (disch := first | assumption | omega | (simp only [List.length_cons, List.length_nil, List.length_append, List.length_set, List.length_replicate, List.length_map, List.length_range, List.length_take, List.length_drop, List.all_cons, List.all_nil, AV.isCell, Bool.and_self, Bool.and_true, bs_length, is64_length, w64_length, ints_length, ints_length, bools_len, List.length_map] <;> omega) | rfl | decide) only [a75l2b, run_seq, run_region, runOps_cons, oper_none, ex_mov, opv, List.getD_cons_succ, List.getD_cons_zero, putK_to, List.set_cons_succ, List.set_cons_zero, opsK_some, ex_bin, bin_leq, hlt, decide_true, valK_some, runOps_nil, regK_some, seqK_normal, run_cond, condK_bool, ↓reduceIte, run_skip, run_block, ex_build, AV.cells, List.all_cons, List.length_cons, List.length_nil, Nat.zero_add, beq_self_eq_true, List.all_nil, Bool.and_self, List.map_cons, List.map_nil, fillA, Nat.reduceAdd, Nat.reduceLeDiff, AV.isCell, and_self, splice, List.take_zero, List.nil_append, List.drop_succ_cons, List.drop_zero, List.cons_append, Nat.le_refl, List.take_succ_cons, List.drop_nil, List.append_nil, Option.map_some, run_loop, a75l1c, f1, Int.reduceNeg, blockK_exit, Nat.reduceEqDiff, seqK_exit, loopK_exit, a75l2c]
    | false =>
      rw [hb'] at f1
      obtain ⟨G2, lb2, zz, g1, g2⟩ := ih (j + 1) s' lb1 G1 (by omega) f2 hb' (by omega)
      refine ⟨G2, lb2, zz, ?_, by simpa using g2⟩
      simp only [Bool.false_eq_true, if_false] at f1 g1 ⊢
      generalize hrr : resE (size s') false = rr at f1
      have hrr' : rr = ((size s' : Nat) : Int) := by rw [← hrr]; rfl
      subst hrr'
      generalize goJ bad stp (two v) k (j + 1) e s' = s2 at *
      generalize resE (size s2) (bad s2) = w at *
      rw [a75l2n]
      simp (maxSteps := 30000000) (disch := first | assumption | omega | (simp only [List.length_cons, List.length_nil, List.length_append, List.length_set, List.length_replicate, List.length_map, List.length_range, List.length_take, List.length_drop, List.all_cons, List.all_nil, AV.isCell, Bool.and_self, Bool.and_true, bs_length, is64_length, w64_length, ints_length, ints_length, bools_len, List.length_map] <;> omega) | rfl | decide) only [a75l2b, run_seq, run_region, runOps_cons, oper_none, ex_mov, opv, List.getD_cons_succ, List.getD_cons_zero, putK_to, List.set_cons_succ, List.set_cons_zero, opsK_some, ex_bin, bin_leq, hlt, decide_true, valK_some, runOps_nil, regK_some, seqK_normal, run_cond, condK_bool, ↓reduceIte, run_skip, run_block, ex_build, AV.cells, List.all_cons, List.length_cons, List.length_nil, Nat.zero_add, beq_self_eq_true, List.all_nil, Bool.and_self, List.map_cons, List.map_nil, fillA, Nat.reduceAdd, Nat.reduceLeDiff, AV.isCell, and_self, splice, List.take_zero, List.nil_append, List.drop_succ_cons, List.drop_zero, List.cons_append, Nat.le_refl, List.take_succ_cons, List.drop_nil, List.append_nil, Option.map_some, run_loop, a75l1c, f1, blockK_exit, blockK_normal, bin_add, cadd1, wr64, loopK_normal, a75l2c, g1]

set_option maxHeartbeats 1000000 in
theorem ex_k (hE : Exp v B N f size bad stp I) : ∀ e k s lb G, k + e = N → I s lb G → bad s = false →
    ∃ G' lb' zz yy, L.loop a75l3s a75l3 ⟨a75l3F (.int .i64 v) f (.int .i64 (size s : Nat)) (.int .i64 (k : Nat)), G⟩ =
      some (.exit 0, ⟨a75l3F (.int .i64 v) f zz yy, G'⟩) ∧
      I (goK size bad stp (two v) k e s) lb' G' := by
  intro e
  induction e with
  | zero =>
    intro k s lb G h hI hb
    have hle := hE.le s lb G hI hb
    have n64 := hE.n64
    have c : ¬ ((k : Nat) : Int) < (size s : Nat) := by omega
    refine ⟨G, lb, .int .i64 (size s : Nat), .int .i64 (k : Nat), ?_, hI⟩
    rw [a75l3n]
    simp (maxSteps := 30000000) (disch := first | assumption | omega | (simp only [List.length_cons, List.length_nil, List.length_append, List.length_set, List.length_replicate, List.length_map, List.length_range, List.length_take, List.length_drop, List.all_cons, List.all_nil, AV.isCell, Bool.and_self, Bool.and_true, bs_length, is64_length, w64_length, ints_length, ints_length, bools_len, List.length_map] <;> omega) | rfl | decide) only [a75l3b, run_seq, run_region, runOps_cons, oper_none, ex_mov, opv, List.getD_cons_succ, List.getD_cons_zero, putK_to, List.set_cons_succ, List.set_cons_zero, opsK_some, ex_bin, bin_lss, c, decide_false, valK_some, runOps_nil, regK_some, seqK_normal, run_cond, condK_bool, Bool.false_eq_true, ↓reduceIte, run_exit, seqK_exit, loopK_exit, a75l3c]
  | succ e ih =>
    intro k s lb G h hI hb
    have hle := hE.le s lb G hI hb
    have n64 := hE.n64
    unfold goK
    by_cases c : k < size s
    · rw [if_pos c]
      have hlt : ((k : Nat) : Int) < (size s : Nat) := by omega
      obtain ⟨G1, lb1, yy, f1, f2⟩ := ex_j hE (k + 1) 0 s lb G (by omega) hI hb c
      generalize goJ bad stp (two v) k 0 (k + 1) s = s' at *
      simp only [Int.natCast_zero] at f1
      cases hb' : bad s' with
      | true =>
        rw [hb'] at f1
        refine ⟨G1, lb1, .int .i64 (-1), .int .i64 (k : Nat), ?_, by simpa using f2⟩
        simp only [resE, if_true, hb'] at f1 ⊢
        rw [a75l3n]
        simp (maxSteps := 30000000) (disch := first | assumption | omega | (simp only [List.length_cons, List.length_nil, List.length_append, List.length_set, List.length_replicate, List.length_map, List.length_range, List.length_take, List.length_drop, List.all_cons, List.all_nil, AV.isCell, Bool.and_self, Bool.and_true, bs_length, is64_length, w64_length, ints_length, ints_length, bools_len, List.length_map] <;> omega) | rfl | decide) only [a75l3b, run_seq, run_region, runOps_cons, oper_none, ex_mov, opv, List.getD_cons_succ, List.getD_cons_zero, putK_to, List.set_cons_succ, List.set_cons_zero, opsK_some, ex_bin, bin_lss, hlt, decide_true, valK_some, runOps_nil, regK_some, seqK_normal, run_cond, condK_bool, ↓reduceIte, run_skip, run_block, run_loop, a75l2c, f1, Int.reduceNeg, blockK_exit, Nat.reduceEqDiff, seqK_exit, loopK_exit, a75l3c]
      | false =>
        rw [hb'] at f1
        obtain ⟨G2, lb2, zz, ww, g1, g2⟩ := ih (k + 1) s' lb1 G1 (by omega) f2 hb'
        refine ⟨G2, lb2, zz, ww, ?_, by simpa using g2⟩
        simp only [Bool.false_eq_true, if_false, resE] at f1 g1 ⊢
        rw [a75l3n]
        simp (maxSteps := 30000000) (disch := first | assumption | omega | (simp only [List.length_cons, List.length_nil, List.length_append, List.length_set, List.length_replicate, List.length_map, List.length_range, List.length_take, List.length_drop, List.all_cons, List.all_nil, AV.isCell, Bool.and_self, Bool.and_true, bs_length, is64_length, w64_length, ints_length, ints_length, bools_len, List.length_map] <;> omega) | rfl | decide) only [a75l3b, run_seq, run_region, runOps_cons, oper_none, ex_mov, opv, List.getD_cons_succ, List.getD_cons_zero, putK_to, List.set_cons_succ, List.set_cons_zero, opsK_some, ex_bin, bin_lss, hlt, decide_true, valK_some, runOps_nil, regK_some, seqK_normal, run_cond, condK_bool, ↓reduceIte, run_skip, run_block, run_loop, a75l2c, f1, blockK_exit, blockK_normal, bin_add, cadd1, wr64, loopK_normal, a75l3c, g1]
    · rw [if_neg c]
      have c' : ¬ ((k : Nat) : Int) < (size s : Nat) := by omega
      refine ⟨G, lb, .int .i64 (size s : Nat), .int .i64 (k : Nat), ?_, hI⟩
      rw [a75l3n]
      simp (maxSteps := 30000000) (disch := first | assumption | omega | (simp only [List.length_cons, List.length_nil, List.length_append, List.length_set, List.length_replicate, List.length_map, List.length_range, List.length_take, List.length_drop, List.all_cons, List.all_nil, AV.isCell, Bool.and_self, Bool.and_true, bs_length, is64_length, w64_length, ints_length, ints_length, bools_len, List.length_map] <;> omega) | rfl | decide) only [a75l3b, run_seq, run_region, runOps_cons, oper_none, ex_mov, opv, List.getD_cons_succ, List.getD_cons_zero, putK_to, List.set_cons_succ, List.set_cons_zero, opsK_some, ex_bin, bin_lss, c', decide_false, valK_some, runOps_nil, regK_some, seqK_normal, run_cond, condK_bool, Bool.false_eq_true, ↓reduceIte, run_exit, seqK_exit, loopK_exit, a75l3c]

theorem explore75 (hE : Exp v B N f size bad stp I) {s : σ} {lb : Nat} {G : Heap} (hI : I s lb G) (hb : bad s = false) (h1 : size s = 1) :
    ∃ G' lb', L.icall (.func 75 []) [.int .i64 v, f] G = some (.tup [], G') ∧ I (goK size bad stp (two v) 0 N s) lb' G' := by
  obtain ⟨G', lb', zz, yy, f1, f2⟩ := ex_k hE N 0 s lb G (by omega) hI hb
  refine ⟨G', lb', ?_, f2⟩
  have h1' : ((size s : Nat) : Int) = 1 := by omega
  rw [h1'] at f1
  simp only [Int.natCast_zero] at f1
  rw [a75i, a75, bodyA_eq]
  simp (maxSteps := 30000000) (disch := first | assumption | omega | (simp only [List.length_cons, List.length_nil, List.length_append, List.length_set, List.length_replicate, List.length_map, List.length_range, List.length_take, List.length_drop, List.all_cons, List.all_nil, AV.isCell, Bool.and_self, Bool.and_true, bs_length, is64_length, w64_length, ints_length, ints_length, bools_len, List.length_map] <;> omega) | rfl | decide) only [List.append_nil, List.length_cons, List.length_nil, Nat.zero_add, Nat.reduceAdd, Nat.reduceSub, pads, List.cons_append, List.nil_append, run_scope, run_seq, run_region, runOps_cons, oper_none, ex_mov, opv, putK_to, List.set_cons_succ, List.set_cons_zero, opsK_some, runOps_nil, regK_some, seqK_normal, run_label, run_block, run_loop, a75l3c, f1, blockK_exit, ↓reduceIte, bodyK_normal, results_0, retvK_some]
end
end Go.Abs.Det

/- renumber: its calls. -/
namespace Go.Abs.Det
open Go Go.Abs
set_option linter.unusedSimpArgs false
set_option linter.unusedVariables false

def idxI (k : Int) : List Int → Nat → Option Nat
  | [], _ => none
  | k' :: ks, i => if k = k' then some i else idxI k ks (i + 1)
def entI : List Int → Nat → List (AV × AV)
  | [], _ => []
  | k :: ks, i => (.int .i64 k, .int .i64 (i : Nat)) :: entI ks (i + 1)
theorem entI_len : ∀ (ks : List Int) (i : Nat), (entI ks i).length = ks.length
  | [], _ => rfl
  | k :: ks, i => by rw [entI, List.length_cons, List.length_cons, entI_len ks]
theorem entI_snoc (k : Int) : ∀ (ks : List Int) (i : Nat), entI (ks ++ [k]) i = entI ks i ++ [(.int .i64 k, .int .i64 ((i + ks.length : Nat) : Int))]
  | [], i => rfl
  | k' :: ks, i => by
    rw [List.cons_append, entI, entI, entI_snoc k ks (i + 1), List.length_cons, List.cons_append]
    congr 4
    rw [show i + 1 + ks.length = i + (ks.length + 1) by omega]
theorem eqKey_int (a b : Int) : eqKey (.int .i64 a) (.int .i64 b) = some (decide (a = b)) := by
  simp only [eqKey, eqKey1]
  by_cases h : a = b <;> simp [h]
theorem find_entI {k : Int} : ∀ (ks : List Int) (i : Nat), findA (.int .i64 k) (entI ks i) = some ((idxI k ks i).map fun (j : Nat) => AV.int .i64 (j : Nat))
  | [], i => rfl
  | k' :: ks, i => by
    simp only [entI, findA, eqKey_int, idxI]
    by_cases c : k = k'
    · simp [c]
    · simp only [c, decide_false]
      rw [find_entI ks (i + 1)]
      simp
theorem upd_entI {k : Int} {v : AV} : ∀ (ks : List Int) (i : Nat), idxI k ks i = none → updA (.int .i64 k) v (entI ks i) = some (entI ks i ++ [(.int .i64 k, v)])
  | [], i, _ => rfl
  | k' :: ks, i, hn => by
    unfold idxI at hn
    split at hn
    · cases hn
    rename_i c
    simp only [entI, updA, eqKey_int, c, decide_false]
    rw [upd_entI ks (i + 1) hn]
    rfl
theorem idxI_some {k : Int} : ∀ {ks : List Int} {i j : Nat}, idxI k ks i = some j → i ≤ j ∧ ks[j - i]? = some k
  | [], i, j, h => by cases h
  | k' :: ks, i, j, h => by
    unfold idxI at h
    split at h
    · rename_i c
      cases h
      exact ⟨Nat.le_refl _, by rw [Nat.sub_self, c]; rfl⟩
    · obtain ⟨h1, h2⟩ := idxI_some h
      refine ⟨by omega, ?_⟩
      rw [show j - i = (j - (i + 1)) + 1 by omega]
      exact h2
theorem idxI_none {k : Int} : ∀ {ks : List Int} {i : Nat}, idxI k ks i = none ↔ k ∉ ks
  | [], i => by simp [idxI]
  | k' :: ks, i => by
    unfold idxI
    split
    · rename_i c; simp [c]
    · rename_i c
      rw [idxI_none (ks := ks)]
      simp [c]

/-- a step of the numbering -/
def ordS (D : Da) (o : List Int) (l r x : Nat) : List Int :=
  if nx D (o.getD l 0) (o.getD r 0) x ∈ o then o else o ++ [nx D (o.getD l 0) (o.getD r 0) x]
structure OrdOk (D : Da) (o : List Int) : Prop where
  nd : o.Nodup
  bd : ∀ s ∈ o, 0 ≤ s ∧ s < D.next.length
theorem nodup_le : ∀ {o : List Int} {n : Nat}, o.Nodup → (∀ s ∈ o, 0 ≤ s ∧ s < (n : Int)) → o.length ≤ n := by
  intro o n hn hb
  refine inj_le n o.length (fun i => (o.getD i 0).toNat) (fun i hi => ?_) (fun i j hi hj e => ?_)
  · have := hb _ (getD_in (a := (0 : Int)) hi); omega
  · have h1 := hb _ (getD_in (a := (0 : Int)) hi)
    have h2 := hb _ (getD_in (a := (0 : Int)) hj)
    have h3 : o.getD i 0 = o.getD j 0 := by
      have e' : (o.getD i 0).toNat = (o.getD j 0).toNat := e
      omega
    rw [List.getD_eq_getElem?_getD, List.getD_eq_getElem?_getD, List.getElem?_eq_getElem hi, List.getElem?_eq_getElem hj] at h3
    have hp := List.pairwise_iff_getElem.1 hn
    have h4 : o[i] = o[j] := Option.some.inj (by simpa using h3)
    rcases Nat.lt_trichotomy i j with q | q | q
    · exact absurd h4 (hp i j hi hj q)
    · exact q
    · exact absurd h4.symm (hp j i hj hi q)
theorem OrdOk.le {D : Da} {o : List Int} (h : OrdOk D o) : o.length ≤ D.next.length := nodup_le h.nd h.bd
theorem OrdOk.step {D : Da} {o : List Int} (hV : Va D) (h : OrdOk D o) {l r x : Nat} (hl : l < o.length) (hr : r < o.length) (hx : x < two D.vars) : OrdOk D (ordS D o l r x) := by
  unfold ordS
  split
  · exact h
  · rename_i c
    refine ⟨?_, fun s hs => ?_⟩
    · rw [List.nodup_append]
      refine ⟨h.nd, by simp, fun a ha b hb => ?_⟩
      rw [List.mem_singleton] at hb
      subst hb
      intro e
      subst e
      exact c ha
    · rcases List.mem_append.1 hs with q | q
      · exact h.bd s q
      · rw [List.mem_singleton] at q
        subst q
        exact nx_bd hV (h.bd _ (getD_in hl)) (h.bd _ (getD_in hr)) hx

/-- the heap of renumber -/
structure RenI (D : Da) (o : List Int) (lb : Nat) (G : Heap) : Prop where
  ok : OrdOk D o
  b0 : G[0]? = some (.cells false false D.cells)
  b1 : G[1]? = some (.cells false false [.int .i64 0, .int .i64 0, .sl true 0 [], .sl true 0 []])
  b2 : G[2]? = some (.mp (entI o 0))
  b3 : G[3]? = some (.cells false false [.mp 2])
  b5 : G[5]? = some (.cells false false [.own false lb 0 o.length 1])
  bl : G[lb]? = some (.cells false false (ints o))
  lo : lb = 4 ∨ 6 ≤ lb

theorem ord_nx {D : Da} {o : List Int} {l r : Nat} (x : Nat) (hl : l < o.length) (hr : r < o.length) : True := trivial

set_option maxRecDepth 10000 in
set_option maxHeartbeats 4000000 in
theorem step102 {D : Da} {o : List Int} {lb : Nat} {G : Heap} {l r x p : Nat} (hV : Va D) (hI : RenI D o lb G) (hl : l < o.length) (hr : r < o.length) (hx : x < two D.vars) (hp : 6 ≤ p) (hpl : p ≠ lb) (hpg : p < G.length) :
    ∃ G' lb', L.icall (.func 102 [.ptr 0 0, .ptr 5 0, .ptr 3 0]) [.int .i64 (l : Nat), .int .i64 (r : Nat), .int .i64 (x : Nat)] G = some (.int .i64 ((ordS D o l r x).length : Nat), G') ∧
      RenI D (ordS D o l r x) lb' G' ∧ G'[p]? = G[p]? ∧ p ≠ lb' := by
  have hstep := hI.ok.step hV hl hr hx
  have hle := hI.ok.le
  have hle2 := hstep.le
  have n64 := hV.n64
  have h8 := (two_bd hV.v3).1
  obtain ⟨ok, b0, b1, b2, b3, b5, bl, lo⟩ := hI
  have hbl := (List.getElem?_eq_some_iff.1 bl).1
  have hb5 := (List.getElem?_eq_some_iff.1 b5).1
  have sl := ok.bd _ (getD_in (a := (0 : Int)) hl)
  have sr := ok.bd _ (getD_in (a := (0 : Int)) hr)
  have g1 : List.take 1 (List.drop l (ints o)) = [.int .i64 (o.getD l 0)] := map_at1 _ _ hl
  have g2 : List.take 1 (List.drop r (ints o)) = [.int .i64 (o.getD r 0)] := map_at1 _ _ hr
  have hord : ordS D o l r x = if nx D (o.getD l 0) (o.getD r 0) x ∈ o then o else o ++ [nx D (o.getD l 0) (o.getD r 0) x] := rfl
  generalize hA : o.getD l 0 = A at *
  generalize hB : o.getD r 0 = C at *
  have m1 := getD_in (a := ([] : List (List Int))) (show A.toNat < D.next.length by omega)
  have m2 := hV.rl _ m1
  have m3 := getD_in (a := ([] : List Int)) (show C.toNat < (D.next.getD A.toNat []).length by omega)
  have m4 := hV.cl _ m1 _ m3
  have gx : List.take 1 (List.drop x (ints ((D.next.getD A.toNat []).getD C.toNat []))) = [.int .i64 (((D.next.getD A.toNat []).getD C.toNat []).getD x 0)] := map_at1 _ _ (by omega)
  have hnx : nx D A C x = ((D.next.getD A.toNat []).getD C.toNat []).getD x 0 := rfl
  rw [hnx] at hord
  have hf := find_entI (k := ((D.next.getD A.toNat []).getD C.toNat []).getD x 0) o 0
  have hel := entI_len o 0
  generalize hS : ((D.next.getD A.toNat []).getD C.toNat []).getD x 0 = S at *
  generalize ordS D o l r x = o2 at *
  unfold Da.cells at b0
  cases hidx : idxI S o 0 with
  | some j =>
    rw [hidx] at hf
    have hmem : S ∈ o := Classical.byContradiction fun h => by rw [idxI_none.2 h] at hidx; cases hidx
    rw [if_pos hmem] at hord
    subst hord
    refine ⟨G, lb, ?_, ⟨ok, by unfold Da.cells; exact b0, b1, b2, b3, b5, bl, lo⟩, rfl, hpl⟩
    rw [a102i, a102]
    simp (maxSteps := 30000000) (disch := first | assumption | omega | (simp only [List.length_cons, List.length_nil, List.length_append, List.length_set, List.length_replicate, List.length_map, List.length_range, List.length_take, List.length_drop, List.all_cons, List.all_nil, AV.isCell, Bool.and_self, Bool.and_true, bs_length, is64_length, w64_length, ints_length, ints_length, bools_len, List.length_map] <;> omega) | rfl | decide) only [List.cons_append, List.nil_append, bodyA_eq, List.length_cons, List.length_nil, Nat.zero_add, Nat.reduceAdd, Nat.reduceSub, pads, run_seq, run_region, runOps_cons, oper_none, ex_mov, opv, putK_to, List.set_cons_succ, List.set_cons_zero, opsK_some, runOps_nil, regK_some, seqK_normal, run_draw, List.take_succ_cons, List.take_zero, runFree_cons, foper_none, fe_faddr, ex_faddr, List.getD_cons_succ, List.getD_cons_zero, faddrA_ptr, valK_some, fstK_some, fputK_to, freeK_some, fe_load, ex_load, rd_ptr, b0, rdK_cells, List.drop_succ_cons, List.drop_zero, loadK_1, b5, List.take_nil, fe_mov, fe_iaddr, ex_iaddr, iaddrA_own, Int.toNat_natCast, Nat.mul_one, bl, ints_drop, ints_take, ints_at0, getD_dropI, Nat.add_zero, hA, iaddrA_sl, rd_vptr, rows_at, rowsD, m2, hB, row_at, rowT, m4, runFree_nil, drawK_some, adopt, adoptVal, hS, b3, ex_mlook, keyFit_int, ↓reduceIte, entA_mp, b2, entK_some, lookE_some, hf, Option.map_some, lookK_yes, ex_ext, extA_tup, List.getElem?_cons_zero, List.getElem?_cons_succ, ex_un, un_not, Bool.not_true, run_cond, condK_bool, Bool.false_eq_true, run_skip, ex_len, lenA_own, run_ret, bodyK_ret, results_1, res_tmp, retvK_some]
  | none =>
    rw [hidx] at hf
    have hmem : S ∉ o := idxI_none.1 hidx
    rw [if_neg hmem] at hord
    subst hord
    have hupd := upd_entI (v := .int .i64 ((o.length : Nat) : Int)) o 0 hidx
    have hsn := entI_snoc S o 0
    rw [Nat.zero_add] at hsn
    rw [← hsn] at hupd
    have hset : ∀ X : Blk, (G.set 2 X)[0]? = G[0]? ∧ (G.set 2 X)[3]? = G[3]? ∧ (G.set 2 X)[5]? = G[5]? ∧ (G.set 2 X)[lb]? = G[lb]? := fun X => ⟨List.getElem?_set_ne (by omega), List.getElem?_set_ne (by omega), List.getElem?_set_ne (by omega), List.getElem?_set_ne (by omega)⟩
    have z5 := fun X : Blk => (hset X).2.2.1.trans b5
    have zl := fun X : Blk => (hset X).2.2.2.trans bl
    have htk : List.take o.length o = o := List.take_length
    have z5b : ∀ (X : Blk) (T : Heap), ((G.set 2 X).set lb .dead ++ T)[5]? = some (.cells false false [.own false lb 0 o.length 1]) := fun X T => app_get (by rw [List.getElem?_set_ne (by omega)]; exact z5 X)
    have z5c : ∀ (X Y : Blk) (T : Heap), (((G.set 2 X).set lb .dead ++ T).set 5 Y)[5]? = some Y := fun X Y T => List.getElem?_set_self (by simp; omega)
    have hints : ints o ++ [AV.int .i64 S] = ints (o ++ [S]) := by simp [ints]
    obtain ⟨G', hG'⟩ : ∃ G' : Heap, G' = (((G.set 2 (.mp (entI (o ++ [S]) 0))).set lb .dead) ++ [Blk.cells false false (ints (o ++ [S]))]).set 5 (.cells false false [.own false G.length 0 (o.length + 1) 1]) := ⟨_, rfl⟩
    have old : ∀ b, b ≠ 2 → b ≠ lb → b ≠ 5 → b < G.length → G'[b]? = G[b]? := fun b h2 h3 h4 h5 => by
      rw [hG', List.getElem?_set_ne (Ne.symm h4), List.getElem?_append_left (by simpa using h5), List.getElem?_set_ne (Ne.symm h3), List.getElem?_set_ne (Ne.symm h2)]
    refine ⟨G', G.length, ?_, ⟨hstep, by unfold Da.cells; exact (old 0 (by omega) (by omega) (by omega) (by omega)).trans b0, (old 1 (by omega) (by omega) (by omega) (by omega)).trans b1, ?_, (old 3 (by omega) (by omega) (by omega) (by omega)).trans b3, ?_, ?_, .inr (by omega)⟩, old p (by omega) hpl (by omega) hpg, by omega⟩
    · rw [hG', a102i, a102]
      simp (maxSteps := 30000000) (disch := first | assumption | omega | (simp only [List.length_cons, List.length_nil, List.length_append, List.length_set, List.length_replicate, List.length_map, List.length_range, List.length_take, List.length_drop, List.all_cons, List.all_nil, AV.isCell, Bool.and_self, Bool.and_true, bs_length, is64_length, w64_length, ints_length, ints_length, bools_len, List.length_map] <;> omega) | rfl | decide) only [List.cons_append, List.nil_append, bodyA_eq, List.length_cons, List.length_nil, Nat.zero_add, Nat.reduceAdd, Nat.reduceSub, pads, run_seq, run_region, runOps_cons, oper_none, ex_mov, opv, putK_to, List.set_cons_succ, List.set_cons_zero, opsK_some, runOps_nil, regK_some, seqK_normal, run_draw, List.take_succ_cons, List.take_zero, runFree_cons, foper_none, fe_faddr, ex_faddr, List.getD_cons_succ, List.getD_cons_zero, faddrA_ptr, valK_some, fstK_some, fputK_to, freeK_some, fe_load, ex_load, rd_ptr, b0, rdK_cells, List.drop_succ_cons, List.drop_zero, loadK_1, b5, List.take_nil, fe_mov, fe_iaddr, ex_iaddr, iaddrA_own, Int.toNat_natCast, Nat.mul_one, bl, ints_drop, ints_take, ints_at0, getD_dropI, Nat.add_zero, hA, iaddrA_sl, rd_vptr, rows_at, rowsD, m2, hB, row_at, rowT, m4, runFree_nil, drawK_some, adopt, adoptVal, hS, b3, ex_mlook, keyFit_int, ↓reduceIte, entA_mp, b2, entK_some, lookE_some, hf, Option.map_none, lookK_no, ex_ext, extA_tup, List.getElem?_cons_zero, List.getElem?_cons_succ, ex_un, un_not, Bool.not_false, run_cond, condK_bool, ex_len, lenA_own, ex_mupd, updM_mp, updE_some, hupd, updK_some, putK_no, hset, ex_bslice, AV.cells, List.all_cons, beq_self_eq_true, List.all_nil, Bool.and_self, repz_1, List.append_nil, List.map_cons, List.map_nil, fillA, Nat.le_refl, AV.isCell, and_self, splice, List.drop_nil, newK_some, newA_data, frzN, List.flatMap_cons, bor_int, List.flatMap_nil, List.isEmpty_nil, List.mapM_cons, frz_int, List.mapM_nil, Option.pure_def, Option.bind_eq_bind, Option.bind_some, slK_some, ex_append, src_sl, appK_own, appOK_cells, Nat.reduceBEq, List.length_set, htk, hints, ex_store, wr_ptr, z5b, wrK_cells, storeK_some, z5c, run_ret, bodyK_ret, results_1, res_tmp, retvK_some, List.length_append]
    · rw [hG', List.getElem?_set_ne (by omega), List.getElem?_append_left (by simp; omega), List.getElem?_set_ne (by omega), List.getElem?_set_self (by omega)]
    · rw [hG', List.getElem?_set_self (by simp; omega)]; simp
    · rw [hG', List.getElem?_set_ne (by omega), List.getElem?_append_right (by simp)]; simp
end Go.Abs.Det

/- renumber: explore over it; the reading calls. -/
namespace Go.Abs.Det
open Go Go.Abs
set_option linter.unusedSimpArgs false
set_option linter.unusedVariables false

theorem ren_exp {D : Da} (hV : Va D) : Exp D.vars 6 D.next.length (.func 102 [.ptr 0 0, .ptr 5 0, .ptr 3 0]) List.length (fun _ => false) (ordS D) (RenI D) where
  v0 := hV.v0
  v3 := hV.v3
  n64 := hV.n64
  grow := fun s lb G X h => ⟨h.ok, app_get h.b0, app_get h.b1, app_get h.b2, app_get h.b3, app_get h.b5, app_get h.bl, h.lo⟩
  lb := fun s lb G h => ⟨(List.getElem?_eq_some_iff.1 h.bl).1, (List.getElem?_eq_some_iff.1 h.b5).1⟩
  le := fun s lb G h _ => h.ok.le
  mono := fun s l r x => by
    unfold ordS
    split
    · exact Nat.le_refl _
    · simp
  call := fun s lb G l r x p hI _ hl hr hx hp hpl hpg => by
    obtain ⟨G', lb', h1, h2, h3, h4⟩ := step102 hV hI hl hr hx hp hpl hpg
    exact ⟨G', lb', by simpa [resE] using h1, h2, h3, h4⟩

/-- the states in the order of their numbers -/
def renO (D : Da) : List Int := goK List.length (fun _ => false) (ordS D) (two D.vars) 0 D.next.length [D.empty]

/-- the number of a state -/
def numO (o : List Int) (s : Int) : Nat := (idxI s o 0).getD 0

set_option maxRecDepth 10000 in
set_option maxHeartbeats 2000000 in
theorem call103 {D : Da} {o : List Int} {lb : Nat} {G : Heap} {l r x : Nat} (hV : Va D) (hI : RenI D o lb G) (hl : l < o.length) (hr : r < o.length) (hx : x < two D.vars) (hm : nx D (o.getD l 0) (o.getD r 0) x ∈ o) :
    L.icall (.func 103 [.ptr 3 0, .ptr 0 0, .ptr 5 0]) [.int .i64 (l : Nat), .int .i64 (r : Nat), .int .i64 (x : Nat)] G = some (.int .i64 (numO o (nx D (o.getD l 0) (o.getD r 0) x) : Nat), G) := by
  have hle := hI.ok.le
  have n64 := hV.n64
  have h8 := (two_bd hV.v3).1
  obtain ⟨ok, b0, b1, b2, b3, b5, bl, lo⟩ := hI
  have sl := ok.bd _ (getD_in (a := (0 : Int)) hl)
  have sr := ok.bd _ (getD_in (a := (0 : Int)) hr)
  have g1 : List.take 1 (List.drop l (ints o)) = [.int .i64 (o.getD l 0)] := map_at1 _ _ hl
  have g2 : List.take 1 (List.drop r (ints o)) = [.int .i64 (o.getD r 0)] := map_at1 _ _ hr
  generalize hA : o.getD l 0 = A at *
  generalize hB : o.getD r 0 = C at *
  have m1 := getD_in (a := ([] : List (List Int))) (show A.toNat < D.next.length by omega)
  have m2 := hV.rl _ m1
  have m3 := getD_in (a := ([] : List Int)) (show C.toNat < (D.next.getD A.toNat []).length by omega)
  have m4 := hV.cl _ m1 _ m3
  have gx : List.take 1 (List.drop x (ints ((D.next.getD A.toNat []).getD C.toNat []))) = [.int .i64 (((D.next.getD A.toNat []).getD C.toNat []).getD x 0)] := map_at1 _ _ (by omega)
  have hnx : nx D A C x = ((D.next.getD A.toNat []).getD C.toNat []).getD x 0 := rfl
  rw [hnx] at hm ⊢
  have hf := find_entI (k := ((D.next.getD A.toNat []).getD C.toNat []).getD x 0) o 0
  have hel := entI_len o 0
  generalize hS : ((D.next.getD A.toNat []).getD C.toNat []).getD x 0 = S at *
  unfold Da.cells at b0
  unfold numO
  cases hidx : idxI S o 0 with
  | none => exact absurd hm (idxI_none.1 hidx)
  | some j =>
    rw [hidx] at hf
    rw [a103i, a103]
    simp (maxSteps := 30000000) (disch := first | assumption | omega | (simp only [List.length_cons, List.length_nil, List.length_append, List.length_set, List.length_replicate, List.length_map, List.length_range, List.length_take, List.length_drop, List.all_cons, List.all_nil, AV.isCell, Bool.and_self, Bool.and_true, bs_length, is64_length, w64_length, ints_length, ints_length, bools_len, List.length_map] <;> omega) | rfl | decide) only [List.cons_append, List.nil_append, bodyA_eq, List.length_cons, List.length_nil, Nat.zero_add, Nat.reduceAdd, Nat.reduceSub, pads, run_seq, run_region, runOps_cons, oper_none, ex_mov, opv, putK_to, List.set_cons_succ, List.set_cons_zero, opsK_some, runOps_nil, regK_some, seqK_normal, run_draw, List.take_succ_cons, List.take_zero, runFree_cons, foper_none, fe_load, ex_load, List.getD_cons_succ, List.getD_cons_zero, rd_ptr, b3, rdK_cells, List.drop_zero, List.take_nil, loadK_1, valK_some, fstK_some, fputK_to, freeK_some, fe_faddr, ex_faddr, faddrA_ptr, b0, List.drop_succ_cons, b5, fe_mov, fe_iaddr, ex_iaddr, iaddrA_own, Int.toNat_natCast, Nat.mul_one, bl, ints_drop, ints_take, ints_at0, getD_dropI, Nat.add_zero, hA, iaddrA_sl, rd_vptr, rows_at, rowsD, m2, hB, row_at, rowT, m4, runFree_nil, drawK_some, adopt, adoptVal, hS, ex_mlook, keyFit_int, ↓reduceIte, entA_mp, b2, entK_some, lookE_some, hf, Option.map_some, lookK_yes, Bool.false_eq_true, run_ret, bodyK_ret, results_1, res_tmp, retvK_some, Option.getD_some]

theorem call104 {D : Da} {o : List Int} {lb : Nat} {G : Heap} {l : Nat} (hV : Va D) (hI : RenI D o lb G) (hl : l < o.length) :
    L.icall (.func 104 [.ptr 0 0, .ptr 5 0]) [.int .i64 (l : Nat)] G = some (.bool (D.fin.getD (o.getD l 0).toNat false), G) := by
  have hle := hI.ok.le
  have n64 := hV.n64
  have fl := hV.fl
  obtain ⟨ok, b0, b1, b2, b3, b5, bl, lo⟩ := hI
  have sl := ok.bd _ (getD_in (a := (0 : Int)) hl)
  have g1 : List.take 1 (List.drop l (ints o)) = [.int .i64 (o.getD l 0)] := map_at1 _ _ hl
  generalize hA : o.getD l 0 = A at *
  have gf : List.take 1 (List.drop A.toNat (bools D.fin)) = [.bool (D.fin.getD A.toNat false)] := map_at1 _ _ (by omega)
  unfold Da.cells at b0
  rw [a104i, a104]
  simp (maxSteps := 30000000) (disch := first | assumption | omega | (simp only [List.length_cons, List.length_nil, List.length_append, List.length_set, List.length_replicate, List.length_map, List.length_range, List.length_take, List.length_drop, List.all_cons, List.all_nil, AV.isCell, Bool.and_self, Bool.and_true, bs_length, is64_length, w64_length, ints_length, ints_length, bools_len, List.length_map] <;> omega) | rfl | decide) only [List.cons_append, List.nil_append, bodyA_eq, List.length_cons, List.length_nil, Nat.zero_add, Nat.reduceAdd, Nat.reduceSub, pads, run_seq, run_region, runOps_cons, oper_none, ex_mov, opv, putK_to, List.set_cons_succ, List.set_cons_zero, opsK_some, runOps_nil, regK_some, seqK_normal, run_draw, List.take_succ_cons, List.take_zero, runFree_cons, foper_none, fe_faddr, ex_faddr, List.getD_cons_succ, List.getD_cons_zero, faddrA_ptr, valK_some, fstK_some, fputK_to, freeK_some, fe_load, ex_load, rd_ptr, b0, fl, rdK_cells, List.drop_succ_cons, List.drop_zero, List.take_nil, loadK_1, b5, runFree_nil, drawK_some, adopt, adoptVal, ex_iaddr, iaddrA_own, Int.toNat_natCast, Nat.mul_one, bl, ints_drop, ints_take, ints_at0, getD_dropI, Nat.add_zero, hA, iaddrA_sl, rd_vptr, gf, run_ret, bodyK_ret, results_1, res_tmp, retvK_some]
end Go.Abs.Det

/- built: a row. -/
namespace Go.Abs.Det
open Go Go.Abs
set_option linter.unusedSimpArgs false
set_option linter.unusedVariables false

/-- what built asks of its two calls; what they read lies below B -/
structure Rd (v : Int) (n B : Nat) (f g : AV) (nxt : Nat → Nat → Nat → Int) (fin : Nat → Bool) (J : Heap → Prop) : Prop where
  v0 : 0 ≤ v
  v3 : v ≤ 3
  n0 : 0 < n
  n64 : n ≤ 64
  keep : ∀ G G', J G → (∀ b, b < B → G'[b]? = G[b]?) → J G'
  nx : ∀ G (l r x : Nat), J G → l < n → r < n → x < two v → L.icall f [.int .i64 (l : Nat), .int .i64 (r : Nat), .int .i64 (x : Nat)] G = some (.int .i64 (nxt l r x), G)
  fn : ∀ G (l : Nat), J G → l < n → ∃ T : Heap, L.icall g [.int .i64 (l : Nat)] G = some (.bool (fin l), G ++ T)

def rvL (nxt : Nat → Nat → Nat → Int) (l r x : Nat) : List Int := (List.range x).map (nxt l r)
theorem rvL_len (nxt : Nat → Nat → Nat → Int) (l r x : Nat) : (rvL nxt l r x).length = x := by simp [rvL]
theorem rvL_succ (nxt : Nat → Nat → Nat → Int) (l r x : Nat) : rvL nxt l r (x + 1) = rvL nxt l r x ++ [nxt l r x] := by
  unfold rvL; rw [List.range_succ, List.map_append]; rfl

section
variable {v : Int} {n B rb l r : Nat} {f g : AV} {nxt : Nat → Nat → Nat → Int} {fin : Nat → Bool} {J : Heap → Prop} {s8 s9 s16 s17 s23 s24 : AV}

set_option maxHeartbeats 1000000 in
theorem blt_x (hR : Rd v n B f g nxt fin J) (hl : l < n) (hr : r < n) (hrb : B ≤ rb) : ∀ e x G cs id, x + e = two v → 1 ≤ x → J G → G[rb]? = some (.cells false false cs) → cs.length = n → cs[r]? = some (.own false id 0 x 1) → G[id]? = some (.cells false false (ints (rvL nxt l r x))) → id ≠ rb → B ≤ id →
    ∃ G' : Heap, ∃ id', L.loop a61l0s a61l0 ⟨a61l0F (.int .i64 v) (.int .i64 (n : Nat)) f g s8 s9 (.int .i64 (l : Nat)) (.own false rb 0 n 1) (.int .i64 (r : Nat)) s16 s17 s23 s24 (.int .i64 (two v : Nat)) (.int .i64 (x : Nat)), G⟩ =
      some (.exit 4, ⟨a61l0F (.int .i64 v) (.int .i64 (n : Nat)) f g s8 s9 (.int .i64 (l : Nat)) (.own false rb 0 n 1) (.int .i64 (r : Nat)) s16 s17 s23 s24 (.int .i64 (two v : Nat)) (.int .i64 (two v : Nat)), G'⟩) ∧
      G'[rb]? = some (.cells false false (cs.set r (.own false id' 0 (two v) 1))) ∧ G'[id']? = some (.cells false false (ints (rvL nxt l r (two v)))) ∧ id' ≠ rb ∧ B ≤ id' ∧ (id' = id ∨ G.length ≤ id') ∧
      (∀ b, b < G.length → b ≠ rb → b ≠ id → G'[b]? = G[b]?) ∧ G.length ≤ G'.length := by
  intro e
  induction e with
  | zero =>
    intro x G cs id h hx1 hJ hG hcl hc hid hne hB
    obtain rfl : x = two v := by omega
    have h8 := (two_bd hR.v3).1
    refine ⟨G, id, ?_, ?_, hid, hne, hB, .inl rfl, fun _ _ _ _ => rfl, Nat.le_refl _⟩
    · rw [a61l0n]
      simp (maxSteps := 30000000) (disch := first | assumption | omega | (simp only [List.length_cons, List.length_nil, List.length_append, List.length_set, List.length_replicate, List.length_map, List.length_range, List.length_take, List.length_drop, List.all_cons, List.all_nil, AV.isCell, Bool.and_self, Bool.and_true, bs_length, is64_length, w64_length, ints_length, ints_length, bools_len, List.length_map] <;> omega) | rfl | decide) only [a61l0b, run_seq, run_region, runOps_cons, oper_none, ex_bin, opv, List.getD_cons_succ, List.getD_cons_zero, bin_lss, Int.lt_irrefl, decide_false, valK_some, putK_to, List.set_cons_succ, List.set_cons_zero, opsK_some, runOps_nil, regK_some, seqK_normal, run_cond, condK_bool, Bool.false_eq_true, ↓reduceIte, run_exit, seqK_exit, loopK_exit, a61l0c]
    · obtain ⟨h1, h2⟩ := List.getElem?_eq_some_iff.1 hc
      rw [← h2, List.set_getElem_self]; exact hG
  | succ e ih =>
    intro x G cs id h hx1 hJ hG hcl hc hid hne hB
    have h8 := (two_bd hR.v3).1
    have n64 := hR.n64
    have hlt : (x : Int) < (two v : Nat) := by omega
    have hrl := (List.getElem?_eq_some_iff.1 hG).1
    have hil := (List.getElem?_eq_some_iff.1 hid).1
    have hnx := hR.nx G l r x hJ hl hr (by omega)
    have hrv := rvL_succ nxt l r x
    have hrl2 := rvL_len nxt l r x
    generalize nxt l r x = y at *
    obtain ⟨G1, hG1⟩ : ∃ G1 : Heap, G1 = (G.set id .dead ++ [Blk.cells false false (ints (rvL nxt l r x ++ [y]))]).set rb (.cells false false (cs.set r (.own false G.length 0 (x + 1) 1))) := ⟨_, rfl⟩
    have old : ∀ b, b < G.length → b ≠ rb → b ≠ id → G1[b]? = G[b]? := fun b h1 h2 h3 => by
      rw [hG1, List.getElem?_set_ne (Ne.symm h2), List.getElem?_append_left (by simpa using h1), List.getElem?_set_ne (Ne.symm h3)]
    have hlen1 : G1.length = G.length + 1 := by rw [hG1]; simp
    obtain ⟨G', id', f1, f2, f3, f4, f5, f6, f7, f8⟩ := ih (x + 1) G1 (cs.set r (.own false G.length 0 (x + 1) 1)) G.length (by omega) (by omega) (hR.keep G G1 hJ fun b hb => old b (by omega) (by omega) (by omega))
      (by rw [hG1]; exact List.getElem?_set_self (by simp; omega)) (by simpa using hcl) (List.getElem?_set_self (by omega))
      (by rw [hG1, hrv, List.getElem?_set_ne (by omega), List.getElem?_append_right (by simp)]; simp) (by omega) (by omega)
    refine ⟨G', id', ?_, ?_, f3, f4, f5, .inr (by omega), fun b h1 h2 h3 => by rw [f7 b (by omega) h2 (by omega), old b h1 h2 h3], by omega⟩
    · have gc : List.take 1 (List.drop r cs) = [.own false id 0 x 1] := by
        obtain ⟨h1, h2⟩ := List.getElem?_eq_some_iff.1 hc
        rw [List.drop_eq_getElem_cons h1, h2]; rfl
      have htk : List.take x (rvL nxt l r x) = rvL nxt l r x := List.take_of_length_le (by omega)
      have hints : ints (rvL nxt l r x) ++ [AV.int .i64 y] = ints (rvL nxt l r x ++ [y]) := by simp [ints]
      have zr : ∀ T : Heap, (G.set id .dead ++ T)[rb]? = some (.cells false false cs) := fun T => app_get (by rw [List.getElem?_set_ne hne]; exact hG)
      have hsame : rdSame G G (.ptr rb r) 1 = true := by
        have h1 : rd G (.ptr rb r) 1 = some [.own false id 0 x 1] := by
          rw [rd_ptr, hG, rdK_cells (by omega), gc]
        simp [rdSame, h1, avEq]
      have hwr : ∀ X : AV, List.take r cs ++ X :: List.drop (r + 1) cs = cs.set r X := fun X => by rw [List.set_eq_take_append_cons_drop, if_pos (by omega)]
      rw [hG1] at f1
      rw [a61l0n]
      simp (maxSteps := 30000000) (disch := first | assumption | omega | (simp only [List.length_cons, List.length_nil, List.length_append, List.length_set, List.length_replicate, List.length_map, List.length_range, List.length_take, List.length_drop, List.all_cons, List.all_nil, AV.isCell, Bool.and_self, Bool.and_true, bs_length, is64_length, w64_length, ints_length, ints_length, bools_len, List.length_map] <;> omega) | rfl | decide) only [a61l0b, run_seq, run_region, runOps_cons, oper_none, ex_bin, opv, List.getD_cons_succ, List.getD_cons_zero, bin_lss, hlt, decide_true, valK_some, putK_to, List.set_cons_succ, List.set_cons_zero, opsK_some, runOps_nil, regK_some, seqK_normal, run_cond, condK_bool, ↓reduceIte, run_skip, run_block, ex_mov, run_drawh, List.take_succ_cons, List.take_zero, runPriv_cons, isPriv_mov, Bool.false_eq_true, foper_none, fe_mov, fstK_some, fputK_to, free1K_some, isPriv_iaddr, fe_iaddr, ex_iaddr, iaddrA_own, Int.toNat_natCast, Nat.mul_one, Nat.zero_add, isPriv_load, fe_load, ex_load, rd_ptr, hG, rdK_cells, gc, loadK_1, runPriv_nil, consK_some, drawhK_some, List.drop_succ_cons, List.drop_zero, adoptS_nil, adoptL, heldB_one, Nat.reduceSub, heldT_some, ex_icall, List.map_cons, List.map_nil, hnx, heldU_some, hsame, ex_bslice, AV.cells, List.all_cons, List.length_cons, List.length_nil, beq_self_eq_true, List.all_nil, Bool.and_self, repz_1, List.append_nil, fillA, Nat.le_refl, AV.isCell, and_self, splice, List.nil_append, List.drop_nil, newK_some, newA_data, frzN, List.flatMap_cons, bor_int, List.flatMap_nil, List.isEmpty_nil, List.mapM_cons, frz_int, List.mapM_nil, Option.pure_def, Option.bind_eq_bind, Option.bind_some, slK_some, ex_append, src_sl, appK_own, hid, appOK_cells, Nat.reduceBEq, ints_take, htk, hints, ex_store, wr_ptr, zr, wrK_cells, List.append_assoc, List.cons_append, hwr, storeK_some, putK_no, apartK_some, holdK_true, blockK_normal, bin_add, cadd1, wr64, loopK_normal, a61l0c, f1]
    · rw [f2, List.set_set]
end
end Go.Abs.Det

/- built: the rows of a state. -/
namespace Go.Abs.Det
open Go Go.Abs
set_option linter.unusedSimpArgs false
set_option linter.unusedVariables false

section
variable {v : Int} {n B rb l : Nat} {f g : AV} {nxt : Nat → Nat → Nat → Int} {fin : Nat → Bool} {J : Heap → Prop} {s8 s9 s16 s17 s23 s24 : AV}

set_option maxHeartbeats 1000000 in
theorem blt_row (hR : Rd v n B f g nxt fin J) {r : Nat} (hl : l < n) (hr : r < n) (hrb : B ≤ rb) {G : Heap} {cs : List AV} (hJ : J G) (hG : G[rb]? = some (.cells false false cs)) (hcl : cs.length = n) (hc : cs[r]? = some (.sl true 0 [])) :
    ∃ G' : Heap, ∃ id', L.loop a61l0s a61l0 ⟨a61l0F (.int .i64 v) (.int .i64 (n : Nat)) f g s8 s9 (.int .i64 (l : Nat)) (.own false rb 0 n 1) (.int .i64 (r : Nat)) s16 s17 s23 s24 (.int .i64 (two v : Nat)) (.int .i64 0), G⟩ =
      some (.exit 4, ⟨a61l0F (.int .i64 v) (.int .i64 (n : Nat)) f g s8 s9 (.int .i64 (l : Nat)) (.own false rb 0 n 1) (.int .i64 (r : Nat)) s16 s17 s23 s24 (.int .i64 (two v : Nat)) (.int .i64 (two v : Nat)), G'⟩) ∧
      G'[rb]? = some (.cells false false (cs.set r (.own false id' 0 (two v) 1))) ∧ G'[id']? = some (.cells false false (ints (rvL nxt l r (two v)))) ∧ id' ≠ rb ∧ G.length ≤ id' ∧
      (∀ b, b < G.length → b ≠ rb → G'[b]? = G[b]?) ∧ G.length ≤ G'.length := by
  have h8 := (two_bd hR.v3).1
  have h80 := (two_bd hR.v3).2
  have n64 := hR.n64
  have hrl := (List.getElem?_eq_some_iff.1 hG).1
  have hnx := hR.nx G l r 0 hJ hl hr h80
  have hrv : rvL nxt l r 1 = [nxt l r 0] := rfl
  generalize nxt l r 0 = y at *
  obtain ⟨G1, hG1⟩ : ∃ G1 : Heap, G1 = (G ++ [Blk.cells false false [AV.int .i64 y]]).set rb (.cells false false (cs.set r (.own false G.length 0 1 1))) := ⟨_, rfl⟩
  have old : ∀ b, b < G.length → b ≠ rb → G1[b]? = G[b]? := fun b h1 h2 => by
    rw [hG1, List.getElem?_set_ne (Ne.symm h2), List.getElem?_append_left h1]
  have hlen1 : G1.length = G.length + 1 := by rw [hG1]; simp
  obtain ⟨G', id', f1, f2, f3, f4, f5, f6, f7, f8⟩ := blt_x (s8 := s8) (s9 := s9) (s16 := s16) (s17 := s17) (s23 := s23) (s24 := s24) hR hl hr hrb (two v - 1) 1 G1 (cs.set r (.own false G.length 0 1 1)) G.length (by omega) (Nat.le_refl _) (hR.keep G G1 hJ fun b hb => old b (by omega) (by omega))
    (by rw [hG1]; exact List.getElem?_set_self (by simp; omega)) (by simpa using hcl) (List.getElem?_set_self (by omega))
    (by rw [hG1, hrv, List.getElem?_set_ne (by omega)]; simp [ints]) (by omega) (by omega)
  refine ⟨G', id', ?_, by rw [f2, List.set_set], f3, f4, by omega, fun b h1 h2 => by rw [f7 b (by omega) h2 (by omega), old b h1 h2], by omega⟩
  have gc : List.take 1 (List.drop r cs) = [.sl true 0 []] := by
    obtain ⟨h1, h2⟩ := List.getElem?_eq_some_iff.1 hc
    rw [List.drop_eq_getElem_cons h1, h2]; rfl
  have hsame : rdSame G G (.ptr rb r) 1 = true := by
    have h1 : rd G (.ptr rb r) 1 = some [.sl true 0 []] := by
      rw [rd_ptr, hG, rdK_cells (by omega), gc]
    simp [rdSame, h1, avEq]
  have hwr : ∀ X : AV, List.take r cs ++ X :: List.drop (r + 1) cs = cs.set r X := fun X => by rw [List.set_eq_take_append_cons_drop, if_pos (by omega)]
  have zr : ∀ T : Heap, (G ++ T)[rb]? = some (.cells false false cs) := fun T => app_get hG
  have hlt : (0 : Int) < (two v : Nat) := by omega
  rw [hG1] at f1
  simp only [Int.natCast_zero, Int.natCast_one] at f1 hnx
  rw [a61l0n]
  simp (maxSteps := 30000000) (disch := first | assumption | omega | (simp only [List.length_cons, List.length_nil, List.length_append, List.length_set, List.length_replicate, List.length_map, List.length_range, List.length_take, List.length_drop, List.all_cons, List.all_nil, AV.isCell, Bool.and_self, Bool.and_true, bs_length, is64_length, w64_length, ints_length, ints_length, bools_len, List.length_map] <;> omega) | rfl | decide) only [a61l0b, run_seq, run_region, runOps_cons, oper_none, ex_bin, opv, List.getD_cons_succ, List.getD_cons_zero, bin_lss, hlt, decide_true, valK_some, putK_to, List.set_cons_succ, List.set_cons_zero, opsK_some, runOps_nil, regK_some, seqK_normal, run_cond, condK_bool, ↓reduceIte, run_skip, run_block, ex_mov, run_drawh, List.take_succ_cons, List.take_zero, runPriv_cons, isPriv_mov, Bool.false_eq_true, foper_none, fe_mov, fstK_some, fputK_to, free1K_some, isPriv_iaddr, fe_iaddr, ex_iaddr, iaddrA_own, Int.toNat_natCast, Nat.mul_one, Nat.zero_add, isPriv_load, fe_load, ex_load, rd_ptr, hG, rdK_cells, gc, loadK_1, runPriv_nil, consK_some, drawhK_some, List.drop_succ_cons, List.drop_zero, adoptS_nil, adoptL, heldB_one, Nat.reduceSub, heldT_some, ex_icall, List.map_cons, List.map_nil, hnx, heldU_some, hsame, ex_bslice, AV.cells, List.all_cons, List.length_cons, List.length_nil, beq_self_eq_true, List.all_nil, Bool.and_self, repz_1, List.append_nil, fillA, Nat.le_refl, AV.isCell, and_self, splice, List.nil_append, List.drop_nil, newK_some, newA_data, frzN, List.flatMap_cons, bor_int, List.flatMap_nil, List.isEmpty_nil, List.mapM_cons, frz_int, List.mapM_nil, Option.pure_def, Option.bind_eq_bind, Option.bind_some, slK_some, ex_append, src_sl, appK_nil, Nat.reduceBEq, newA_own, ex_store, wr_ptr, zr, wrK_cells, List.append_assoc, List.cons_append, hwr, storeK_some, putK_no, apartK_some, holdK_true, blockK_normal, bin_add, Int.zero_add, wr64, loopK_normal, a61l0c, f1]

/-- r rows are there -/
structure RowsAt (v : Int) (nxt : Nat → Nat → Nat → Int) (n B rb l r : Nat) (G : Heap) (cs : List AV) : Prop where
  len : cs.length = n
  blk : G[rb]? = some (.cells false false cs)
  don : ∀ i, i < r → ∃ id, cs[i]? = some (.own false id 0 (two v) 1) ∧ G[id]? = some (.cells false false (ints (rvL nxt l i (two v)))) ∧ rb < id
  nil : ∀ i, r ≤ i → i < n → cs[i]? = some (.sl true 0 [])

set_option maxHeartbeats 1000000 in
theorem blt_rows (hR : Rd v n B f g nxt fin J) (hl : l < n) (hrb : B ≤ rb) : ∀ e r G cs, r + e = n → J G → RowsAt v nxt n B rb l r G cs →
    ∃ G' cs', L.loop a61l1s a61l1 ⟨a61l1F (.int .i64 v) (.int .i64 (n : Nat)) f g s8 s9 (.int .i64 (l : Nat)) (.own false rb 0 n 1) s16 s17 (.int .i64 (n : Nat)) (.int .i64 (r : Nat)), G⟩ =
      some (.exit 2, ⟨a61l1F (.int .i64 v) (.int .i64 (n : Nat)) f g s8 s9 (.int .i64 (l : Nat)) (.own false rb 0 n 1) s16 s17 (.int .i64 (n : Nat)) (.int .i64 (n : Nat)), G'⟩) ∧
      RowsAt v nxt n B rb l n G' cs' ∧ (∀ b, b < G.length → b ≠ rb → G'[b]? = G[b]?) ∧ G.length ≤ G'.length := by
  have n64 := hR.n64
  have hsh := two_shl hR.v0 hR.v3
  have hv : ¬ v < 0 := by have := hR.v0; omega
  intro e
  induction e with
  | zero =>
    intro r G cs h hJ hA
    obtain rfl : r = n := by omega
    refine ⟨G, cs, ?_, hA, fun _ _ _ => rfl, Nat.le_refl _⟩
    rw [a61l1n]
    simp (maxSteps := 30000000) (disch := first | assumption | omega | (simp only [List.length_cons, List.length_nil, List.length_append, List.length_set, List.length_replicate, List.length_map, List.length_range, List.length_take, List.length_drop, List.all_cons, List.all_nil, AV.isCell, Bool.and_self, Bool.and_true, bs_length, is64_length, w64_length, ints_length, ints_length, bools_len, List.length_map] <;> omega) | rfl | decide) only [a61l1b, run_seq, run_region, runOps_cons, oper_none, ex_bin, opv, List.getD_cons_succ, List.getD_cons_zero, bin_lss, Int.lt_irrefl, decide_false, valK_some, putK_to, List.set_cons_succ, List.set_cons_zero, opsK_some, runOps_nil, regK_some, seqK_normal, run_cond, condK_bool, Bool.false_eq_true, ↓reduceIte, run_exit, seqK_exit, loopK_exit, a61l1c]
  | succ e ih =>
    intro r G cs h hJ hA
    have hlt : (r : Int) < (n : Nat) := by omega
    have hrl := (List.getElem?_eq_some_iff.1 hA.blk).1
    obtain ⟨G1, id, r1, r2, r3, r4, r5, r6, r7⟩ := blt_row (s8 := s8) (s9 := s9) (s16 := s16) (s17 := s17) (s23 := .int .i64 (n : Nat)) (s24 := .int .i64 (r : Nat)) hR hl (show r < n by omega) hrb hJ hA.blk hA.len (hA.nil r (Nat.le_refl _) (by omega))
    have hil := (List.getElem?_eq_some_iff.1 r3).1
    obtain ⟨G', cs', f1, f2, f3, f4⟩ := ih (r + 1) G1 (cs.set r (.own false id 0 (two v) 1)) (by omega) (hR.keep G G1 hJ fun b hb => r6 b (by omega) (by omega))
      ⟨by simpa using hA.len, r2, fun i hi => by
        by_cases c : i = r
        · subst c
          exact ⟨id, List.getElem?_set_self (by rw [hA.len]; omega), r3, by omega⟩
        · obtain ⟨id2, d1, d2, d3⟩ := hA.don i (by omega)
          exact ⟨id2, by rw [List.getElem?_set_ne (Ne.symm c)]; exact d1, by rw [r6 id2 (List.getElem?_eq_some_iff.1 d2).1 (by omega)]; exact d2, d3⟩,
       fun i hi hn => by rw [List.getElem?_set_ne (by omega)]; exact hA.nil i (by omega) hn⟩
    refine ⟨G', cs', ?_, f2, fun b h1 h2 => by rw [f3 b (by omega) h2, r6 b h1 h2], by omega⟩
    rw [a61l1n]
    simp (maxSteps := 30000000) (disch := first | assumption | omega | (simp only [List.length_cons, List.length_nil, List.length_append, List.length_set, List.length_replicate, List.length_map, List.length_range, List.length_take, List.length_drop, List.all_cons, List.all_nil, AV.isCell, Bool.and_self, Bool.and_true, bs_length, is64_length, w64_length, ints_length, ints_length, bools_len, List.length_map] <;> omega) | rfl | decide) only [a61l1b, run_seq, run_region, runOps_cons, oper_none, ex_bin, opv, List.getD_cons_succ, List.getD_cons_zero, bin_lss, hlt, decide_true, valK_some, putK_to, List.set_cons_succ, List.set_cons_zero, opsK_some, runOps_nil, regK_some, seqK_normal, run_cond, condK_bool, ↓reduceIte, run_skip, run_block, ex_mov, bin_shl, hsh, run_loop, a61l0c, r1, blockK_exit, blockK_normal, bin_add, cadd1, wr64, loopK_normal, a61l1c, f1]
end
end Go.Abs.Det

/- built: a state's rows as a value; what is under way. -/
namespace Go.Abs.Det
open Go Go.Abs
set_option linter.unusedSimpArgs false
set_option linter.unusedVariables false

def rowsB (v : Int) (nxt : Nat → Nat → Nat → Int) (n l : Nat) : List (List Int) := (List.range n).map fun r => rvL nxt l r (two v)
def nextB (v : Int) (nxt : Nat → Nat → Nat → Int) (n l : Nat) : List (List (List Int)) := (List.range l).map (rowsB v nxt n)
def finB (fin : Nat → Bool) (l : Nat) : List Bool := (List.range l).map fin
theorem finB_len (fin : Nat → Bool) (l : Nat) : (finB fin l).length = l := by simp [finB]
theorem finB_succ (fin : Nat → Bool) (l : Nat) : finB fin (l + 1) = finB fin l ++ [fin l] := by
  unfold finB; rw [List.range_succ, List.map_append]; rfl
theorem nextB_len (v : Int) (nxt : Nat → Nat → Nat → Int) (n l : Nat) : (nextB v nxt n l).length = l := by simp [nextB]
theorem nextB_succ (v : Int) (nxt : Nat → Nat → Nat → Int) (n l : Nat) : nextB v nxt n (l + 1) = nextB v nxt n l ++ [rowsB v nxt n l] := by
  unfold nextB; rw [List.range_succ, List.map_append]; rfl
theorem rowsB_len (v : Int) (nxt : Nat → Nat → Nat → Int) (n l : Nat) : (rowsB v nxt n l).length = n := by simp [rowsB]

/-- the rows stand for data -/
theorem rows_fz {v : Int} {nxt : Nat → Nat → Nat → Int} {n B rb l : Nat} {G : Heap} {cs : List AV} (hn : 0 < n) (h : RowsAt v nxt n B rb l n G cs) : Fz 2 G rb (.own false rb 0 n 1) (rowsD (rowsB v nxt n l)) := by
  have hg : Grow 1 G rb (.own false rb 0 n 1) ((rowsB v nxt n l).map rowT) := .inr ⟨rb, cs, by rw [List.length_map, rowsB_len], h.blk, Nat.le_refl _, by rw [List.length_map, rowsB_len]; exact h.len, fun i c t hc ht => by
    have hi : i < n := by have := (List.getElem?_eq_some_iff.1 hc).1; rw [h.len] at this; exact this
    obtain ⟨id, d1, d2, d3⟩ := h.don i hi
    rw [d1] at hc
    obtain rfl := Option.some.inj hc
    have ht' : t = rowT (rvL nxt l i (two v)) := by
      unfold rowsB at ht
      simp [hi] at ht
      exact ht.symm
    subst ht'
    have hrow := Fz.row (G := G) (B := rb + 1) (id := id) (es := 1) (n := two v) (cs := ints (rvL nxt l i (two v))) d2 (ints_data _) (by rw [ints_length, rvL_len, Nat.mul_one]) d3
    have e1 : rowT (rvL nxt l i (two v)) = .sl false (two v) (ints (rvL nxt l i (two v))) := by unfold rowT; rw [rvL_len]
    rw [e1]
    exact ⟨hrow.low (by omega), fun d hd hm => by have := (hrow d hd).2 _ hm; omega⟩⟩
  have := hg.fz
  rw [List.length_map, rowsB_len] at this
  have hz : (n == 0) = false := by rw [beq_eq_false_iff_ne]; omega
  rw [hz] at this
  have e2 : rowsD (rowsB v nxt n l) = .sl false n ((rowsB v nxt n l).map rowT) := by unfold rowsD; rw [rowsB_len]
  rw [e2]
  rcases this with q | q
  · exact q
  · have := congrArg List.length q
    rw [List.length_map, rowsB_len] at this
    simp at this; omega

/-- the automaton under way: the values of the two fields -/
inductive UB (v : Int) (nxt : Nat → Nat → Nat → Int) (fin : Nat → Bool) (n q l : Nat) (G : Heap) : Prop
  | zero (h : l = 0) (h2 : G[q]? = some (.cells false false [.int .i64 v, .int .i64 0, .sl true 0 [], .sl true 0 []]))
  | more (id f : Nat) (cs : List AV) (h : l ≠ 0) (h2 : G[q]? = some (.cells false false [.int .i64 v, .int .i64 0, .own false id 0 l 1, .own false f 0 l 1]))
      (hi : G[id]? = some (.cells false false cs)) (hf : G[f]? = some (.cells false false (bools (finB fin l)))) (i3 : q < id) (f3 : q < f) (hne : id ≠ f) (hl : cs.length = l)
      (he : ∀ (i : Nat) (c t : AV), cs[i]? = some c → ((nextB v nxt n l).map rowsD)[i]? = some t → Fz 2 G (q + 1) c t ∧ ∀ d, 2 ≤ d → id ∉ bor d G c ∧ f ∉ bor d G c)
end Go.Abs.Det

/- built: all states. -/
namespace Go.Abs.Det
open Go Go.Abs
set_option linter.unusedSimpArgs false
set_option linter.unusedVariables false

theorem repz_one (a : AV) : ∀ n, repz [a] n = List.replicate n a
  | 0 => rfl
  | n + 1 => by
    show [a] ++ repz [a] n = _
    rw [repz_one a n]; rfl

section
variable {v : Int} {n B q : Nat} {f g : AV} {nxt : Nat → Nat → Nat → Int} {fin : Nat → Bool} {J : Heap → Prop} {s8 : AV}

set_option maxRecDepth 10000 in
set_option maxHeartbeats 4000000 in
theorem blt_states (hR : Rd v n B f g nxt fin J) (hq : B ≤ q) : ∀ e l G, l + e = n → J G → UB v nxt fin n q l G →
    ∃ G', L.loop a61l2s a61l2 ⟨a61l2F (.int .i64 v) (.int .i64 (n : Nat)) f g s8 (.ptr q 0) (.int .i64 (n : Nat)) (.int .i64 (l : Nat)), G⟩ =
      some (.exit 0, ⟨a61l2F (.int .i64 v) (.int .i64 (n : Nat)) f g s8 (.ptr q 0) (.int .i64 (n : Nat)) (.int .i64 (n : Nat)), G'⟩) ∧ UB v nxt fin n q n G' ∧ (∀ b, b < q → G'[b]? = G[b]?) ∧ G.length ≤ G'.length := by
  have n64 := hR.n64
  have n0 := hR.n0
  intro e
  induction e with
  | zero =>
    intro l G h hJ hU
    obtain rfl : l = n := by omega
    refine ⟨G, ?_, hU, fun _ _ => rfl, Nat.le_refl _⟩
    rw [a61l2n]
    simp (maxSteps := 30000000) (disch := first | assumption | omega | (simp only [List.length_cons, List.length_nil, List.length_append, List.length_set, List.length_replicate, List.length_map, List.length_range, List.length_take, List.length_drop, List.all_cons, List.all_nil, AV.isCell, Bool.and_self, Bool.and_true, bs_length, is64_length, w64_length, ints_length, ints_length, bools_len, List.length_map] <;> omega) | rfl | decide) only [a61l2b, run_seq, run_region, runOps_cons, oper_none, ex_bin, opv, List.getD_cons_succ, List.getD_cons_zero, bin_lss, Int.lt_irrefl, decide_false, valK_some, putK_to, List.set_cons_succ, List.set_cons_zero, opsK_some, runOps_nil, regK_some, seqK_normal, run_cond, condK_bool, Bool.false_eq_true, ↓reduceIte, run_exit, seqK_exit, loopK_exit, a61l2c]
  | succ e ih =>
    intro l G h hJ hU
    have hlt : (l : Int) < (n : Nat) := by omega
    have hql : q < G.length := by
      cases hU with
      | zero _ h2 => exact (List.getElem?_eq_some_iff.1 h2).1
      | more id f cs _ h2 => exact (List.getElem?_eq_some_iff.1 h2).1
    have hJ1 : J (G ++ [.cells false false (List.replicate n (.sl true 0 []))]) := hR.keep G _ hJ fun b hb => List.getElem?_append_left (by omega)
    have hA : RowsAt v nxt n B G.length l 0 (G ++ [.cells false false (List.replicate n (.sl true 0 []))]) (List.replicate n (.sl true 0 [])) :=
      ⟨by simp, hget0 _ _, fun i hi => by omega, fun i _ hi => by rw [List.getElem?_replicate, if_pos hi]⟩
    obtain ⟨G2, cs2, r1, r2, r3, r4⟩ := blt_rows (s8 := s8) (s9 := .ptr q 0) (s16 := .int .i64 (n : Nat)) (s17 := .int .i64 (l : Nat)) hR (show l < n by omega) (show B ≤ G.length by omega) n 0 _ _ (by omega) hJ1 hA
    have fz' := rows_fz n0 r2
    have hrbl := (List.getElem?_eq_some_iff.1 r2.blk).1
    have old : ∀ b, b < G.length → G2[b]? = G[b]? := fun b hb => by
      rw [r3 b (by simp; omega) (by omega), List.getElem?_append_left hb]
    have hJ2 : J G2 := hR.keep G G2 hJ fun b hb => old b (by omega)
    simp only [Int.natCast_zero] at r1
    have hrep : repz [AV.sl true 0 []] n = List.replicate n (AV.sl true 0 []) := repz_one _ _
    have hG2 : G.length < G2.length := hrbl
    generalize hrb : G.length = rb at *
    have nbor : ∀ d, 2 ≤ d → ∀ b ∈ bor d G2 (.own false rb 0 n 1), rb ≤ b ∧ b < G2.length := fun d hd b hb => (fz' d hd).2 b hb
    cases hU with
    | zero hl0 h2 =>
      subst hl0
      have hz2 : G2[q]? = some (.cells false false [.int .i64 v, .int .i64 0, .sl true 0 [], .sl true 0 []]) := (old q hql).trans h2
      obtain ⟨X, hX⟩ : ∃ X, X = Blk.cells false false [.int .i64 v, .int .i64 0, .own false (G2.length + 1) 0 1 1, .sl true 0 []] := ⟨_, rfl⟩
      obtain ⟨Hm, hHm⟩ : ∃ Hm : Heap, Hm = (G2 ++ [Blk.cells false false [.own false rb 0 n 1], Blk.cells false false [.own false rb 0 n 1]]).set q X := ⟨_, rfl⟩
      have hml : Hm.length = G2.length + 2 := by rw [hHm]; simp
      have sameM : ∀ b, b ≠ q → b < G2.length → Hm[b]? = G2[b]? := fun b hb hb2 => by
        rw [hHm, List.getElem?_set_ne (Ne.symm hb), List.getElem?_append_left hb2]
      have hmq : Hm[q]? = some X := by rw [hHm]; exact List.getElem?_set_self (by simp; omega)
      have hJm : J Hm := hR.keep G2 Hm hJ2 fun b hb => sameM b (by omega) (by omega)
      obtain ⟨T, hfn⟩ := hR.fn Hm 0 hJm (by omega)
      obtain ⟨Ht, hHt⟩ : ∃ Ht : Heap, Ht = Hm ++ T := ⟨_, rfl⟩
      have htl : Ht.length = Hm.length + T.length := by rw [hHt]; simp
      have sameT : ∀ b, b < Hm.length → Ht[b]? = Hm[b]? := fun b hb => by rw [hHt, List.getElem?_append_left hb]
      rw [← hHt] at hfn
      obtain ⟨Y, hY⟩ : ∃ Y, Y = Blk.cells false false [.int .i64 v, .int .i64 0, .own false (G2.length + 1) 0 1 1, .own false Ht.length 0 1 1] := ⟨_, rfl⟩
      obtain ⟨H', hH⟩ : ∃ H' : Heap, H' = (Ht ++ [Blk.cells false false [.bool (fin 0)]]).set q Y := ⟨_, rfl⟩
      have same : ∀ b, b ≠ q → b < G2.length → H'[b]? = G2[b]? := fun b hb hb2 => by
        rw [hH, List.getElem?_set_ne (Ne.symm hb), List.getElem?_append_left (by omega), sameT b (by omega), sameM b hb hb2]
      have hlen : H'.length = Ht.length + 1 := by rw [hH]; simp
      have htq : Ht[q]? = some X := (sameT q (by omega)).trans hmq
      have hs2 : H'[q]? = some Y := by rw [hH]; exact List.getElem?_set_self (by simp; omega)
      have hs3 : H'[G2.length + 1]? = some (.cells false false [.own false rb 0 n 1]) := by
        rw [hH, List.getElem?_set_ne (by omega), List.getElem?_append_left (by omega), sameT _ (by omega), hHm, List.getElem?_set_ne (by omega)]
        exact hget _ _ 1
      have hs4 : H'[Ht.length]? = some (.cells false false [.bool (fin 0)]) := by
        rw [hH, List.getElem?_set_ne (by omega), List.getElem?_append_right (by omega)]
        simp
      have fzH : Fz 2 H' rb (.own false rb 0 n 1) (rowsD (rowsB v nxt n 0)) := fz'.frame (by omega) fun d hd b hb => by
        have := nbor d hd b hb
        exact same b (by omega) this.2
      have hU' : UB v nxt fin n q 1 H' := .more (G2.length + 1) Ht.length [.own false rb 0 n 1] (by omega) (by rw [hs2, hY]) hs3 (by rw [hs4]; rfl) (by omega) (by omega) (by omega) rfl (fun i c t hc ht => by
        have e0 : i = 0 := by
          cases i with
          | zero => rfl
          | succ i => simp at hc
        subst e0
        simp at hc
        subst hc
        have : t = rowsD (rowsB v nxt n 0) := by simpa [nextB] using ht.symm
        subst this
        refine ⟨fzH.low (by omega), fun d hd => ?_⟩
        have hb2 := (frz_frame d _ (fun b hb => by have := nbor d hd b hb; exact same b (by omega) this.2)).2
        rw [hb2]
        exact ⟨fun hm' => by have := nbor d hd _ hm'; omega, fun hm' => by have := nbor d hd _ hm'; omega⟩)
      obtain ⟨G', e1, e2, e3, e4⟩ := ih 1 H' (by omega) (hR.keep G2 H' hJ2 fun b hb => same b (by omega) (by omega)) hU'
      refine ⟨G', ?_, e2, fun b hb => by rw [e3 b hb, same b (by omega) (by omega), old b (by omega)], by omega⟩
      have hz2' := fun T => app_get (X := T) hz2
      have htq' := fun T => app_get (X := T) htq
      have hsame : rdSame Hm Ht (.ptr q 3) 1 = true := by
        have h1 : rd Hm (.ptr q 3) 1 = some [.sl true 0 []] := by
          rw [rd_ptr, hmq, hX, rdK_cells (by simp)]; rfl
        have h2 : rd Ht (.ptr q 3) 1 = some [.sl true 0 []] := by
          rw [rd_ptr, htq, hX, rdK_cells (by simp)]; rfl
        simp [rdSame, h1, h2, avEq]
      have hHm' := hHm.symm
      rw [hX] at hHm' hmq htq htq'
      rw [hH, hY] at e1
      have hlt0 : (0 : Int) < (n : Nat) := by omega
      simp only [Int.natCast_zero, Int.natCast_one] at hlt0 e1 r1 hfn ⊢
      rw [a61l2n]
      simp (maxSteps := 30000000) (disch := first | assumption | omega | (simp only [List.length_cons, List.length_nil, List.length_append, List.length_set, List.length_replicate, List.length_map, List.length_range, List.length_take, List.length_drop, List.all_cons, List.all_nil, AV.isCell, Bool.and_self, Bool.and_true, bs_length, is64_length, w64_length, ints_length, ints_length, bools_len, List.length_map] <;> omega) | rfl | decide) only [a61l2b, run_seq, run_region, runOps_cons, oper_none, ex_bin, opv, List.getD_cons_succ, List.getD_cons_zero, bin_lss, hlt0, decide_true, valK_some, putK_to, List.set_cons_succ, List.set_cons_zero, opsK_some, runOps_nil, regK_some, seqK_normal, run_cond, condK_bool, ↓reduceIte, run_skip, run_block, ex_mov, ex_mkslice, mksK_int, Int.toNat_natCast, List.length_cons, List.length_nil, Nat.zero_add, hrep, newA_own, hrb, ex_len, lenA_own, run_loop, a61l1c, r1, blockK_exit, ex_faddr, faddrA_ptr, ex_load, rd_ptr, hz2, rdK_cells, List.drop_succ_cons, List.drop_zero, List.take_succ_cons, List.take_zero, loadK_1, ex_bslice, AV.cells, List.all_cons, beq_self_eq_true, List.all_nil, Bool.and_self, repz_1, List.append_nil, Nat.mul_one, List.map_cons, List.map_nil, fillA, Nat.le_refl, AV.isCell, and_self, splice, List.nil_append, List.drop_nil, newK_some, ex_append, src_own, hget0, List.getElem?_cons_zero, srcK_cells, List.take_nil, appK_nil, Nat.reduceBEq, List.length_append, List.append_assoc, List.cons_append, ex_store, wr_ptr, hz2', wrK_cells, Nat.reduceAdd, hHm', storeK_some, putK_no, run_drawh, runPriv_cons, isPriv_faddr, Bool.false_eq_true, foper_none, fe_faddr, fstK_some, fputK_to, free1K_some, isPriv_load, fe_load, hmq, runPriv_nil, consK_some, drawhK_some, adoptS_nil, adoptL, heldB_one, Nat.reduceSub, heldT_some, ex_icall, hfn, heldU_some, hsame, newA_data, frzN, List.flatMap_cons, bor_bool, List.flatMap_nil, List.isEmpty_nil, List.mapM_cons, frz_bool, List.mapM_nil, Option.pure_def, Option.bind_eq_bind, Option.bind_some, slK_some, src_sl, htq', apartK_some, holdK_true, blockK_normal, bin_add, Int.zero_add, wr64, loopK_normal, a61l2c, e1]
    | more id fb cs hl0 h2 hi hf i3 f3 hne hl he =>
      have hidl := (List.getElem?_eq_some_iff.1 hi).1
      have hfl := (List.getElem?_eq_some_iff.1 hf).1
      rw [hrb] at hidl hfl
      have hz2 : G2[q]? = some (.cells false false [.int .i64 v, .int .i64 0, .own false id 0 l 1, .own false fb 0 l 1]) := (old q hql).trans h2
      have hzi : G2[id]? = some (.cells false false cs) := (old id hidl).trans hi
      have hzf : G2[fb]? = some (.cells false false (bools (finB fin l))) := (old fb hfl).trans hf
      obtain ⟨X, hX⟩ : ∃ X, X = Blk.cells false false [.int .i64 v, .int .i64 0, .own false (G2.length + 1) 0 (l + 1) 1, .own false fb 0 l 1] := ⟨_, rfl⟩
      obtain ⟨Hm, hHm⟩ : ∃ Hm : Heap, Hm = (((G2 ++ [Blk.cells false false [.own false rb 0 n 1]]).set id .dead) ++ [Blk.cells false false (cs ++ [.own false rb 0 n 1])]).set q X := ⟨_, rfl⟩
      have hml : Hm.length = G2.length + 2 := by rw [hHm]; simp
      have sameM : ∀ b, b ≠ q → b ≠ id → b < G2.length → Hm[b]? = G2[b]? := fun b hb hbi hb2 => by
        rw [hHm, List.getElem?_set_ne (Ne.symm hb), List.getElem?_append_left (by simp; omega), List.getElem?_set_ne (Ne.symm hbi), List.getElem?_append_left hb2]
      have hmq : Hm[q]? = some X := by rw [hHm]; exact List.getElem?_set_self (by simp; omega)
      have hmf : Hm[fb]? = some (.cells false false (bools (finB fin l))) := (sameM fb (by omega) (by omega) (by omega)).trans hzf
      have hJm : J Hm := hR.keep G2 Hm hJ2 fun b hb => sameM b (by omega) (by omega) (by omega)
      obtain ⟨T, hfn⟩ := hR.fn Hm l hJm (by omega)
      obtain ⟨Ht, hHt⟩ : ∃ Ht : Heap, Ht = Hm ++ T := ⟨_, rfl⟩
      have htl : Ht.length = Hm.length + T.length := by rw [hHt]; simp
      have sameT : ∀ b, b < Hm.length → Ht[b]? = Hm[b]? := fun b hb => by rw [hHt, List.getElem?_append_left hb]
      rw [← hHt] at hfn
      obtain ⟨Y, hY⟩ : ∃ Y, Y = Blk.cells false false [.int .i64 v, .int .i64 0, .own false (G2.length + 1) 0 (l + 1) 1, .own false Ht.length 0 (l + 1) 1] := ⟨_, rfl⟩
      obtain ⟨H', hH⟩ : ∃ H' : Heap, H' = (Ht.set fb .dead ++ [Blk.cells false false (bools (finB fin l ++ [fin l]))]).set q Y := ⟨_, rfl⟩
      have same : ∀ b, b ≠ q → b ≠ id → b ≠ fb → b < G2.length → H'[b]? = G2[b]? := fun b hb hbi hbf hb2 => by
        rw [hH, List.getElem?_set_ne (Ne.symm hb), List.getElem?_append_left (by simp; omega), List.getElem?_set_ne (Ne.symm hbf), sameT b (by omega), sameM b hb hbi hb2]
      have hlen : H'.length = Ht.length + 1 := by rw [hH]; simp
      have htq : Ht[q]? = some X := (sameT q (by omega)).trans hmq
      have htf' : Ht[fb]? = some (.cells false false (bools (finB fin l))) := (sameT fb (by omega)).trans hmf
      have hs2 : H'[q]? = some Y := by rw [hH]; exact List.getElem?_set_self (by simp; omega)
      have hs3 : H'[G2.length + 1]? = some (.cells false false (cs ++ [.own false rb 0 n 1])) := by
        rw [hH, List.getElem?_set_ne (by omega), List.getElem?_append_left (by simp; omega), List.getElem?_set_ne (by omega), sameT _ (by omega), hHm, List.getElem?_set_ne (by omega), List.getElem?_append_right (by simp)]
        simp
      have hs4 : H'[Ht.length]? = some (.cells false false (bools (finB fin (l + 1)))) := by
        rw [hH, List.getElem?_set_ne (by omega), List.getElem?_append_right (by simp), finB_succ]
        simp
      have fzH : Fz 2 H' rb (.own false rb 0 n 1) (rowsD (rowsB v nxt n l)) := fz'.frame (by omega) fun d hd b hb => by
        have := nbor d hd b hb
        exact same b (by omega) (by omega) (by omega) this.2
      have hU' : UB v nxt fin n q (l + 1) H' := .more (G2.length + 1) Ht.length (cs ++ [.own false rb 0 n 1]) (by omega) (by rw [hs2, hY]) hs3 hs4 (by omega) (by omega) (by omega) (by simp [hl]) (fun i c t hc ht => by
        rw [nextB_succ, List.map_append] at ht
        by_cases hil : i < cs.length
        · rw [List.getElem?_append_left hil] at hc
          rw [List.getElem?_append_left (by rw [List.length_map, nextB_len]; omega)] at ht
          obtain ⟨k1, k2⟩ := he i c t hc ht
          have hG2 : ∀ d, 2 ≤ d → ∀ b ∈ bor d G c, H'[b]? = G[b]? := fun d hd b hb => by
            have hb' := (k1 d hd).2 b hb
            have hk := k2 d hd
            rw [hrb] at hb'
            rw [same b (by omega) (fun e => hk.1 (e ▸ hb)) (fun e => hk.2 (e ▸ hb)) (by omega)]
            exact old b hb'.2
          refine ⟨k1.frame (by omega) hG2, fun d hd => ?_⟩
          rw [(frz_frame d c (hG2 d hd)).2]
          exact ⟨fun hm' => by have := (k1 d hd).2 _ hm'; omega, fun hm' => by have := (k1 d hd).2 _ hm'; omega⟩
        · rw [List.getElem?_append_right (by omega)] at hc
          rw [List.getElem?_append_right (by rw [List.length_map, nextB_len]; omega), List.length_map, nextB_len, ← hl] at ht
          have e0 : i - cs.length = 0 := by
            cases e : i - cs.length with
            | zero => rfl
            | succ j => rw [e] at hc; simp at hc
          rw [e0] at hc ht
          simp at hc ht
          subst hc; subst ht
          refine ⟨by rw [hl]; exact fzH.low (by omega), fun d hd => ?_⟩
          have hb2 := (frz_frame d _ (fun b hb => by have := nbor d hd b hb; exact same b (by omega) (by omega) (by omega) this.2)).2
          rw [hb2]
          exact ⟨fun hm' => by have := nbor d hd _ hm'; omega, fun hm' => by have := nbor d hd _ hm'; omega⟩)
      obtain ⟨G', e1, e2, e3, e4⟩ := ih (l + 1) H' (by omega) (hR.keep G2 H' hJ2 fun b hb => same b (by omega) (by omega) (by omega) (by omega)) hU'
      refine ⟨G', ?_, e2, fun b hb => by rw [e3 b hb, same b (by omega) (by omega) (by omega) (by omega), old b (by omega)], by omega⟩
      have hz2' := fun T => app_get (X := T) hz2
      have hzi' := fun T => app_get (X := T) hzi
      have q1 : ∀ T T' : Heap, ((G2 ++ T).set id .dead ++ T')[q]? = some (.cells false false [.int .i64 v, .int .i64 0, .own false id 0 l 1, .own false fb 0 l 1]) := fun T T' => app_get (by rw [List.getElem?_set_ne (by omega)]; exact app_get hz2)
      have hsame : rdSame Hm Ht (.ptr q 3) 1 = true := by
        have h1 : rd Hm (.ptr q 3) 1 = some [.own false fb 0 l 1] := by
          rw [rd_ptr, hmq, hX, rdK_cells (by simp)]; rfl
        have h2 : rd Ht (.ptr q 3) 1 = some [.own false fb 0 l 1] := by
          rw [rd_ptr, htq, hX, rdK_cells (by simp)]; rfl
        simp [rdSame, h1, h2, avEq]
      have hmq2 : ∀ T : Heap, (Ht.set fb .dead ++ T)[q]? = some X := fun T => app_get (by rw [List.getElem?_set_ne (by omega)]; exact htq)
      have hHm' := hHm.symm
      rw [hX] at hHm' hmq hmq2 htq
      have htk : List.take l cs = cs := List.take_of_length_le (by omega)
      have htf : List.take l (bools (finB fin l)) = bools (finB fin l) := List.take_of_length_le (by rw [bools_len, finB_len]; exact Nat.le_refl _)
      have hbl : (bools (finB fin l)).length = l := by rw [bools_len, finB_len]
      have hsn : ∀ b : Bool, bools (finB fin l) ++ [AV.bool b] = bools (finB fin l ++ [b]) := fun b => by rw [← bools_app]; rfl
      rw [hH, hY] at e1
      rw [a61l2n]
      simp (maxSteps := 30000000) (disch := first | assumption | omega | (simp only [List.length_cons, List.length_nil, List.length_append, List.length_set, List.length_replicate, List.length_map, List.length_range, List.length_take, List.length_drop, List.all_cons, List.all_nil, AV.isCell, Bool.and_self, Bool.and_true, bs_length, is64_length, w64_length, ints_length, ints_length, bools_len, List.length_map] <;> omega) | rfl | decide) only [a61l2b, run_seq, run_region, runOps_cons, oper_none, ex_bin, opv, List.getD_cons_succ, List.getD_cons_zero, bin_lss, hlt, decide_true, valK_some, putK_to, List.set_cons_succ, List.set_cons_zero, opsK_some, runOps_nil, regK_some, seqK_normal, run_cond, condK_bool, ↓reduceIte, run_skip, run_block, ex_mov, ex_mkslice, mksK_int, Int.toNat_natCast, List.length_cons, List.length_nil, Nat.zero_add, hrep, newA_own, hrb, ex_len, lenA_own, run_loop, a61l1c, r1, blockK_exit, ex_faddr, faddrA_ptr, ex_load, rd_ptr, hz2, rdK_cells, List.drop_succ_cons, List.drop_zero, List.take_succ_cons, List.take_zero, loadK_1, ex_bslice, AV.cells, List.all_cons, beq_self_eq_true, List.all_nil, Bool.and_self, repz_1, List.append_nil, Nat.mul_one, List.map_cons, List.map_nil, fillA, Nat.le_refl, AV.isCell, and_self, splice, List.nil_append, List.drop_nil, newK_some, ex_append, src_own, hget0, List.getElem?_cons_zero, srcK_cells, List.take_nil, appK_own, hzi', appOK_cells, Nat.reduceBEq, List.length_append, htk, ex_store, wr_ptr, q1, wrK_cells, List.cons_append, Nat.reduceAdd, hHm', storeK_some, putK_no, run_drawh, runPriv_cons, isPriv_faddr, Bool.false_eq_true, foper_none, fe_faddr, fstK_some, fputK_to, free1K_some, isPriv_load, fe_load, hmq, runPriv_nil, consK_some, drawhK_some, adoptS_nil, adoptL, heldB_one, Nat.reduceSub, heldT_some, ex_icall, hfn, heldU_some, hsame, newA_data, frzN, List.flatMap_cons, bor_bool, List.flatMap_nil, List.isEmpty_nil, List.mapM_cons, frz_bool, List.mapM_nil, Option.pure_def, Option.bind_eq_bind, Option.bind_some, slK_some, src_sl, htf', htf, hsn, hmq2, apartK_some, holdK_true, blockK_normal, bin_add, cadd1, wr64, loopK_normal, a61l2c, e1]
end
end Go.Abs.Det

/- built: the whole. -/
namespace Go.Abs.Det
open Go Go.Abs
set_option linter.unusedSimpArgs false
set_option linter.unusedVariables false

/-- the values stand for data -/
theorem ub_fz {v : Int} {nxt : Nat → Nat → Nat → Int} {fin : Nat → Bool} {n q l : Nat} {G : Heap} (h : UB v nxt fin n q l G) (hl : l ≠ 0) :
    ∃ i f : Nat, G[q]? = some (Blk.cells false false [.int .i64 v, .int .i64 0, .own false i 0 l 1, .own false f 0 l 1]) ∧ Fz 3 G (q + 1) (.own false i 0 l 1) (.sl false l ((nextB v nxt n l).map rowsD)) ∧ Fz 1 G (q + 1) (.own false f 0 l 1) (.sl false l (bools (finB fin l))) := by
  cases h with
  | zero h0 => exact absurd h0 hl
  | more id f cs h h2 hi hf i3 f3 hne hcl he =>
    refine ⟨_, _, h2, ?_, ?_⟩
    · have hg : Grow 2 G (q + 1) (.own false id 0 l 1) ((nextB v nxt n l).map rowsD) := .inr ⟨id, cs, by rw [List.length_map, nextB_len], hi, i3, by rw [List.length_map, nextB_len]; exact hcl, fun i c t hc ht => ⟨(he i c t hc ht).1, fun d hd => ((he i c t hc ht).2 d hd).1⟩⟩
      have := hg.fz
      rw [List.length_map, nextB_len] at this
      have hz : (l == 0) = false := by rw [beq_eq_false_iff_ne]; exact hl
      rw [hz] at this
      rcases this with p | p
      · exact p
      · have := congrArg List.length p; rw [List.length_map, nextB_len] at this; exact absurd this hl
    · have := Fz.row (B := q + 1) (es := 1) (n := l) hf (bools_data _) (by rw [bools_len, finB_len, Nat.mul_one]) f3
      exact this

set_option maxHeartbeats 1000000 in
theorem built61 {v : Int} {n : Nat} {f g : AV} {nxt : Nat → Nat → Nat → Int} {fin : Nat → Bool} {J : Heap → Prop} {G : Heap} (hR : Rd v n G.length f g nxt fin J) (hJ : J G) :
    ∃ (G' : Heap) (i k : Nat), L.icall (.func 61 []) [.int .i64 v, .int .i64 (n : Nat), f, g] G = some (.agg [.int .i64 v, .int .i64 0, .own false i 0 n 1, .own false k 0 n 1], G') ∧
      Fz 3 G' G.length (.own false i 0 n 1) (.sl false n ((nextB v nxt n n).map rowsD)) ∧ Fz 1 G' G.length (.own false k 0 n 1) (.sl false n (bools (finB fin n))) ∧ (∀ b, b < G.length → G'[b]? = G[b]?) ∧ G.length ≤ G'.length := by
  have n64 := hR.n64
  have n0 := hR.n0
  obtain ⟨G1, e1, e2, e3, e4⟩ := blt_states (s8 := .ptr G.length 0) hR (show G.length ≤ G.length + 1 by omega) n 0 (G ++ [.cells false false [.int .i64 0, .int .i64 0, .sl true 0 [], .sl true 0 []], .cells false false [.int .i64 v, .int .i64 0, .sl true 0 [], .sl true 0 []]]) (by omega)
    (hR.keep G _ hJ fun b hb => List.getElem?_append_left hb) (.zero rfl (hget _ _ 1))
  obtain ⟨i, k, g2, f1, f2⟩ := ub_fz e2 (by omega)
  have z8 : G1[G.length]? = some (.cells false false [.int .i64 0, .int .i64 0, .sl true 0 [], .sl true 0 []]) := (e3 _ (by omega)).trans (hget0 _ _)
  simp only [List.length_append, List.length_cons, List.length_nil] at e4
  obtain ⟨G', hG'⟩ : ∃ G' : Heap, G' = G1.set G.length (.cells false false [.int .i64 v, .int .i64 0, .own false i 0 n 1, .own false k 0 n 1]) := ⟨_, rfl⟩
  have hl' : G'.length = G1.length := by rw [hG']; simp
  have same : ∀ b, b ≠ G.length → G'[b]? = G1[b]? := fun b hb => by rw [hG', List.getElem?_set_ne (Ne.symm hb)]
  refine ⟨G', i, k, ?_, (f1.frame (by omega) fun d hd b hb => same b (by have := (f1 d hd).2 b hb; omega)).low (by omega), (f2.frame (by omega) fun d hd b hb => same b (by have := (f2 d hd).2 b hb; omega)).low (by omega),
    fun b hb => by rw [same b (by omega), e3 b (by omega), List.getElem?_append_left hb], by omega⟩
  have z8b : G'[G.length]? = some (.cells false false [.int .i64 v, .int .i64 0, .own false i 0 n 1, .own false k 0 n 1]) := by rw [hG']; exact List.getElem?_set_self (by omega)
  have hG'' := hG'.symm
  have hq1 : (G ++ [Blk.cells false false [AV.int .i64 0, AV.int .i64 0, AV.sl true 0 [], AV.sl true 0 []], Blk.cells false false [AV.int .i64 0, AV.int .i64 0, AV.sl true 0 [], AV.sl true 0 []]]).set (G.length + 1) (Blk.cells false false [AV.int .i64 v, AV.int .i64 0, AV.sl true 0 [], AV.sl true 0 []]) = G ++ [Blk.cells false false [AV.int .i64 0, AV.int .i64 0, AV.sl true 0 [], AV.sl true 0 []], Blk.cells false false [AV.int .i64 v, AV.int .i64 0, AV.sl true 0 [], AV.sl true 0 []]] := by
    rw [List.set_append_right _ _ (by omega)]; simp
  simp only [Int.natCast_zero] at e1
  rw [a61i, a61, bodyA_eq]
  simp (maxSteps := 30000000) (disch := first | assumption | omega | (simp only [List.length_cons, List.length_nil, List.length_append, List.length_set, List.length_replicate, List.length_map, List.length_range, List.length_take, List.length_drop, List.all_cons, List.all_nil, AV.isCell, Bool.and_self, Bool.and_true, bs_length, is64_length, w64_length, ints_length, ints_length, bools_len, List.length_map] <;> omega) | rfl | decide) only [List.append_nil, List.length_cons, List.length_nil, Nat.zero_add, Nat.reduceAdd, Nat.reduceSub, pads, List.cons_append, List.nil_append, run_seq, run_region, runOps_cons, oper_none, ex_box, AV.cells, opv, List.all_cons, AV.isCell, List.all_nil, Bool.and_self, ↓reduceIte, putK_to, List.set_cons_succ, List.set_cons_zero, opsK_some, runOps_nil, regK_some, seqK_normal, ex_mov, List.getD_cons_zero, ex_build, List.getD_cons_succ, beq_self_eq_true, List.map_cons, List.map_nil, fillA, Nat.reduceLeDiff, and_self, splice, List.take_zero, List.drop_succ_cons, List.drop_zero, Option.map_some, valK_some, List.length_append, List.append_assoc, ex_store, wr_ptr, hget, List.getElem?_cons_succ, List.getElem?_cons_zero, wrK_cells, List.drop_nil, hq1, storeK_some, putK_no, run_block, run_loop, a61l2c, e1, blockK_exit, ex_load, rd_ptr, g2, rdK_cells, List.take_succ_cons, List.take_nil, loadK_n, z8, hG'', run_ret, bodyK_ret, results_1, res_cell, z8b, cellK_some, mkv_n, retvK_some]
end Go.Abs.Det

/- renumber: the list of states is closed. Plain facts. -/
namespace Go.Abs.Det
open Go Go.Abs
set_option linter.unusedSimpArgs false
set_option linter.unusedVariables false

section
variable {D : Da}
abbrev nob : List Int → Bool := fun _ => false
theorem ord_pre (o : List Int) (l r x : Nat) : o <+: ordS D o l r x := by
  unfold ordS
  split
  · exact List.prefix_rfl
  · exact List.prefix_append _ _
theorem ord_mem (o : List Int) (l r x : Nat) : nx D (o.getD l 0) (o.getD r 0) x ∈ ordS D o l r x := by
  unfold ordS
  split
  · assumption
  · simp
theorem pre_get {o o' : List Int} (h : o <+: o') {i : Nat} (hi : i < o.length) : o'.getD i 0 = o.getD i 0 := by
  obtain ⟨t, rfl⟩ := h
  simp only [List.getD_eq_getElem?_getD]
  rw [List.getElem?_append_left hi]
theorem pre_len {o o' : List Int} (h : o <+: o') : o.length ≤ o'.length := h.length_le
theorem pre_mem {o o' : List Int} (h : o <+: o') {a : Int} (ha : a ∈ o) : a ∈ o' := h.subset ha

theorem gx_succ (l r x e : Nat) (o : List Int) : goX nob (ordS D) l r x (e + 1) o = goX nob (ordS D) l r (x + 1) e (ordS D o l r x) := rfl
theorem gx_pre (l r : Nat) : ∀ e x o, o <+: goX nob (ordS D) l r x e o
  | 0, _, o => List.prefix_rfl
  | e + 1, x, o => by rw [gx_succ]; exact (ord_pre o l r x).trans (gx_pre l r e (x + 1) _)
theorem gx_mem (l r : Nat) : ∀ e x o, l < o.length → r < o.length → ∀ y, x ≤ y → y < x + e → nx D (o.getD l 0) (o.getD r 0) y ∈ goX nob (ordS D) l r x e o
  | 0, x, o, _, _, y, h1, h2 => by omega
  | e + 1, x, o, hl, hr, y, h1, h2 => by
    rw [gx_succ]
    have hp := ord_pre (D := D) o l r x
    rcases Nat.eq_or_lt_of_le h1 with q | q
    · subst q
      exact pre_mem (gx_pre l r e (x + 1) _) (ord_mem o l r x)
    · have := gx_mem l r e (x + 1) (ordS D o l r x) (by have := pre_len hp; omega) (by have := pre_len hp; omega) y q (by omega)
      rwa [pre_get hp hl, pre_get hp hr] at this

/-- the pair's successors are there -/
def Done (D : Da) (o : List Int) (i j : Nat) : Prop := ∀ x, x < two D.vars → nx D (o.getD i 0) (o.getD j 0) x ∈ o
theorem Done.pre {o o' : List Int} {i j : Nat} (h : Done D o i j) (hp : o <+: o') (hi : i < o.length) (hj : j < o.length) : Done D o' i j := fun x hx => by
  rw [pre_get hp hi, pre_get hp hj]; exact pre_mem hp (h x hx)
theorem gx_done {l r : Nat} {o : List Int} (hl : l < o.length) (hr : r < o.length) : Done D (goX nob (ordS D) l r 0 (two D.vars) o) l r := fun x hx => by
  have hp := gx_pre (D := D) l r (two D.vars) 0 o
  rw [pre_get hp hl, pre_get hp hr]
  exact gx_mem l r _ 0 o hl hr x (Nat.zero_le _) (by omega)
theorem gp_eq (n j k : Nat) (o : List Int) : goP nob (ordS D) n j k o = goX nob (ordS D) k j 0 n (goX nob (ordS D) j k 0 n o) := rfl
theorem gp_pre (n j k : Nat) (o : List Int) : o <+: goP nob (ordS D) n j k o := by
  rw [gp_eq]; exact (gx_pre j k n 0 o).trans (gx_pre k j n 0 _)
theorem gp_done {j k : Nat} {o : List Int} (hj : j < o.length) (hk : k < o.length) : Done D (goP nob (ordS D) (two D.vars) j k o) j k ∧ Done D (goP nob (ordS D) (two D.vars) j k o) k j := by
  rw [gp_eq]
  have hp := pre_len (gx_pre (D := D) j k (two D.vars) 0 o)
  exact ⟨(gx_done hj hk).pre (gx_pre k j _ 0 _) (by omega) (by omega), gx_done (by omega) (by omega)⟩
theorem gj_succ (n k j e : Nat) (o : List Int) : goJ nob (ordS D) n k j (e + 1) o = goJ nob (ordS D) n k (j + 1) e (goP nob (ordS D) n j k o) := rfl
theorem gj_pre (n k : Nat) : ∀ e j o, o <+: goJ nob (ordS D) n k j e o
  | 0, _, o => List.prefix_rfl
  | e + 1, j, o => by rw [gj_succ]; exact (gp_pre n j k o).trans (gj_pre n k e (j + 1) _)
theorem gj_done {k : Nat} : ∀ e j o, j + e = k + 1 → k < o.length → ∀ i, j ≤ i → i ≤ k → Done D (goJ nob (ordS D) (two D.vars) k j e o) i k ∧ Done D (goJ nob (ordS D) (two D.vars) k j e o) k i
  | 0, j, o, h, hk, i, h1, h2 => by omega
  | e + 1, j, o, h, hk, i, h1, h2 => by
    rw [gj_succ]
    have hp := pre_len (gp_pre (D := D) (two D.vars) j k o)
    rcases Nat.eq_or_lt_of_le h1 with q | q
    · subst q
      obtain ⟨d1, d2⟩ := gp_done (D := D) (show j < o.length by omega) hk
      exact ⟨d1.pre (gj_pre _ k e (j + 1) _) (by omega) (by omega), d2.pre (gj_pre _ k e (j + 1) _) (by omega) (by omega)⟩
    · exact gj_done e (j + 1) _ (by omega) (by omega) i q h2
theorem gk_pre (n : Nat) : ∀ e k o, o <+: goK List.length nob (ordS D) n k e o
  | 0, _, o => List.prefix_rfl
  | e + 1, k, o => by
    unfold goK
    split
    · exact (gj_pre n k (k + 1) 0 o).trans (gk_pre n e (k + 1) _)
    · exact List.prefix_rfl
theorem gk_done {N : Nat} : ∀ e k o, k + e = N → (goK List.length nob (ordS D) (two D.vars) k e o).length ≤ N → (∀ i j, i < k → j < k → i < o.length → j < o.length → Done D o i j) →
    ∀ i j, i < (goK List.length nob (ordS D) (two D.vars) k e o).length → j < (goK List.length nob (ordS D) (two D.vars) k e o).length → Done D (goK List.length nob (ordS D) (two D.vars) k e o) i j
  | 0, k, o, h, hN, hd, i, j, hi, hj => by
    have hN' : o.length ≤ N := hN
    have hi' : i < o.length := hi
    have hj' : j < o.length := hj
    exact hd i j (by omega) (by omega) hi' hj'
  | e + 1, k, o, h, hN, hd, i, j, hi, hj => by
    by_cases c : k < o.length
    · have he : goK List.length nob (ordS D) (two D.vars) k (e + 1) o = goK List.length nob (ordS D) (two D.vars) (k + 1) e (goJ nob (ordS D) (two D.vars) k 0 (k + 1) o) := by
        show (if k < o.length then _ else _) = _
        rw [if_pos c]; rfl
      rw [he] at hN hi hj ⊢
      have hp := gj_pre (D := D) (two D.vars) k (k + 1) 0 o
      refine gk_done e (k + 1) _ (by omega) hN (fun i j hi hj hi' hj' => ?_) i j hi hj
      by_cases ci : i = k
      · subst ci
        exact (gj_done (i + 1) 0 o (by omega) c j (Nat.zero_le _) (by omega)).2
      · by_cases cj : j = k
        · subst cj
          exact (gj_done (j + 1) 0 o (by omega) c i (Nat.zero_le _) (by omega)).1
        · exact (hd i j (by omega) (by omega) (by omega) (by omega)).pre hp (by omega) (by omega)
    · have he : goK List.length nob (ordS D) (two D.vars) k (e + 1) o = o := by
        show (if k < o.length then _ else _) = _
        rw [if_neg c]
      rw [he] at hi hj ⊢
      exact hd i j (by omega) (by omega) hi hj
theorem renO_pre : [D.empty] <+: renO D := gk_pre _ _ 0 _
theorem renO_done (hN : (renO D).length ≤ D.next.length) {i j x : Nat} (hi : i < (renO D).length) (hj : j < (renO D).length) (hx : x < two D.vars) : nx D ((renO D).getD i 0) ((renO D).getD j 0) x ∈ renO D :=
  gk_done (N := D.next.length) D.next.length 0 [D.empty] (by omega) hN (fun i j h => by omega) i j hi hj x hx
end
end Go.Abs.Det

/- renumber, Renumber. -/
namespace Go.Abs.Det
open Go Go.Abs
set_option linter.unusedSimpArgs false
set_option linter.unusedVariables false

/-- the automaton of the reachable states -/
def renN (D : Da) (l r x : Nat) : Int := (numO (renO D) (nx D ((renO D).getD l 0) ((renO D).getD r 0) x) : Nat)
def renF (D : Da) (l : Nat) : Bool := D.fin.getD ((renO D).getD l 0).toNat false
def renD (D : Da) : Da := ⟨D.vars, 0, nextB D.vars (renN D) (renO D).length (renO D).length, finB (renF D) (renO D).length⟩

set_option maxHeartbeats 2000000 in
theorem renumber56 {D : Da} (hV : Va D) : OrdOk D (renO D) ∧ L.pcall 56 [D.av] = some (renD D).av := by
  have n64 := hV.n64
  have n0 := hV.n0
  have hI0 : RenI D [D.empty] 4 [.cells false false D.cells, .cells false false [.int .i64 0, .int .i64 0, .sl true 0 [], .sl true 0 []], .mp [(.int .i64 D.empty, .int .i64 0)], .cells false false [.mp 2], .cells false false [.int .i64 D.empty], .cells false false [.own false 4 0 1 1]] :=
    ⟨⟨by simp, fun s hs => by rw [List.mem_singleton] at hs; subst hs; exact ⟨hV.e0, hV.en⟩⟩, rfl, rfl, rfl, rfl, rfl, rfl, .inl rfl⟩
  obtain ⟨G1, lb, e1, e2⟩ := explore75 (ren_exp hV) hI0 rfl rfl
  have e2' : RenI D (renO D) lb G1 := e2
  have hok := e2'.ok
  refine ⟨hok, ?_⟩
  have hle := hok.le
  have hpos : 0 < (renO D).length := by have := pre_len (renO_pre (D := D)); simp at this; omega
  have h6 := (List.getElem?_eq_some_iff.1 e2'.b5).1
  have hR : Rd D.vars (renO D).length G1.length (.func 103 [.ptr 3 0, .ptr 0 0, .ptr 5 0]) (.func 104 [.ptr 0 0, .ptr 5 0]) (renN D) (renF D) (fun G => RenI D (renO D) lb G) :=
    ⟨hV.v0, hV.v3, hpos, by omega, fun G G' hJ hb => by
      have l5 := (List.getElem?_eq_some_iff.1 e2'.bl).1
      exact ⟨hJ.ok, (hb 0 (by omega)).trans hJ.b0, (hb 1 (by omega)).trans hJ.b1, (hb 2 (by omega)).trans hJ.b2, (hb 3 (by omega)).trans hJ.b3, (hb 5 (by omega)).trans hJ.b5, (hb lb l5).trans hJ.bl, hJ.lo⟩,
     fun G l r x hJ hl hr hx => call103 hV hJ hl hr hx (renO_done hle hl hr hx),
     fun G l hJ hl => ⟨[], by rw [List.append_nil]; exact call104 hV hJ hl⟩⟩
  obtain ⟨G2, i, k, f1, f2, f3, f4, f5⟩ := built61 hR e2'
  have b0 := e2'.b0
  have b1 := (f4 1 (by omega)).trans e2'.b1
  have b5 := e2'.b5
  have hGl : 1 < G2.length := by omega
  have same : ∀ (Z : Blk) b, b ≠ 1 → (G2.set 1 Z)[b]? = G2[b]? := fun Z b hb => List.getElem?_set_ne (Ne.symm hb)
  have g3 := fun Z => f2.frame (G' := G2.set 1 Z) (by simp) fun d hd b hb => same Z b (by have := (f2 d hd).2 b hb; omega)
  have g1 := fun Z => f3.frame (G' := G2.set 1 Z) (by simp) fun d hd b hb => same Z b (by have := (f3 d hd).2 b hb; omega)
  have sl := fun Z : Blk => (List.getElem?_set_self (l := G2) (a := Z) hGl)
  unfold renD
  unfold Da.av Da.cells
  simp only [nextB_len, finB_len]
  unfold Da.cells at e1 b0
  have hb : bodyA L a56 [.agg [.int .i64 D.vars, .int .i64 D.empty, .sl false D.next.length (D.next.map rowsD), .sl false D.fin.length (bools D.fin)]] [] =
      some (.agg [.int .i64 D.vars, .int .i64 0, .own false i 0 (renO D).length 1, .own false k 0 (renO D).length 1], G2.set 1 (.cells false false [.int .i64 D.vars, .int .i64 0, .own false i 0 (renO D).length 1, .own false k 0 (renO D).length 1])) := by
    have hu0 : ∀ a b : AV, updA a b [] = some [(a, b)] := fun _ _ => rfl
    rw [a56]
    simp (maxSteps := 30000000) (disch := first | assumption | omega | (simp only [List.length_cons, List.length_nil, List.length_append, List.length_set, List.length_replicate, List.length_map, List.length_range, List.length_take, List.length_drop, List.all_cons, List.all_nil, AV.isCell, Bool.and_self, Bool.and_true, bs_length, is64_length, w64_length, ints_length, ints_length, bools_len, List.length_map] <;> omega) | rfl | decide) only [bodyA_eq, List.length_cons, List.length_nil, Nat.zero_add, Nat.reduceSub, pads, List.cons_append, List.nil_append, run_seq, run_region, runOps_cons, oper_none, ex_box, AV.cells, opv, List.getD_cons_zero, List.all_cons, AV.isCell, List.all_nil, Bool.and_self, ↓reduceIte, putK_to, List.set_cons_succ, List.set_cons_zero, opsK_some, runOps_nil, regK_some, seqK_normal, ex_mkmap, Nat.reduceAdd, ex_faddr, List.getD_cons_succ, faddrA_ptr, valK_some, ex_load, rd_ptr, List.getElem?_cons_zero, rdK_cells, List.drop_succ_cons, List.drop_zero, List.take_succ_cons, List.take_zero, loadK_1, ex_mupd, keyFit_int, updM_mp, List.getElem?_cons_succ, entK_some, updE_some, hu0, updK_some, putK_no, ex_mov, ex_store, wr_ptr, wrK_cells, splice, List.drop_nil, List.append_nil, storeK_some, ex_bslice, beq_self_eq_true, repz_1, Nat.mul_one, List.map_cons, List.map_nil, fillA, Nat.le_refl, and_self, newK_some, newA_own, Nat.add_zero, ex_mkfunc, ex_icall, e1, b0, b5, List.take_nil, ex_len, lenA_own, f1, b1, run_ret, bodyK_ret, results_1, res_cell, sl, cellK_some, mkv_n, retvK_some]
  rw [a56p]
  refine pbody_of hb ?_
  show ((([AV.int .i64 D.vars, .int .i64 0, .own false i 0 (renO D).length 1, .own false k 0 (renO D).length 1]).mapM (frz 5 _)).map AV.agg) = _
  simp only [List.mapM_cons, List.mapM_nil, frz_int, (g3 _ 5 (by omega)).1, (g1 _ 5 (by omega)).1, Option.pure_def, Option.bind_eq_bind, Option.bind_some, Option.map_some]
end Go.Abs.Det

/- renumber's automaton: valid; its steps; Renumber. -/
namespace Go.Abs.Det
open Go Go.Abs
set_option linter.unusedSimpArgs false
set_option linter.unusedVariables false

theorem numO_get {o : List Int} {s : Int} (h : s ∈ o) : numO o s < o.length ∧ o.getD (numO o s) 0 = s := by
  unfold numO
  cases hi : idxI s o 0 with
  | none => exact absurd h (idxI_none.1 hi)
  | some j =>
    obtain ⟨_, q⟩ := idxI_some hi
    rw [Nat.sub_zero] at q
    obtain ⟨h1, h2⟩ := List.getElem?_eq_some_iff.1 q
    refine ⟨h1, ?_⟩
    show o.getD j 0 = s
    rw [List.getD_eq_getElem?_getD, q]; rfl

theorem map_getD {α : Type} {f : Nat → α} {n i : Nat} {a : α} (h : i < n) : ((List.range n).map f).getD i a = f i := by
  rw [List.getD_eq_getElem?_getD]
  simp [h]

theorem built_nx {v e : Int} {nxt : Nat → Nat → Nat → Int} {n i j x : Nat} {fi : List Bool} (hi : i < n) (hj : j < n) (hx : x < two v) : nx ⟨v, e, nextB v nxt n n, fi⟩ (i : Int) (j : Int) x = nxt i j x := by
  show (((nextB v nxt n n).getD i []).getD j []).getD x 0 = _
  unfold nextB
  rw [map_getD hi]
  unfold rowsB
  rw [map_getD hj]
  unfold rvL
  rw [map_getD hx]

theorem built_valid {v e : Int} {nxt : Nat → Nat → Nat → Int} {fin : Nat → Bool} {n : Nat} (v0 : 0 ≤ v) (v3 : v ≤ 3) (n0 : 0 < n) (n64 : n ≤ 64) (e0 : 0 ≤ e) (en : e < n) (hb : ∀ i j x, i < n → j < n → x < two v → 0 ≤ nxt i j x ∧ nxt i j x < n) : Va ⟨v, e, nextB v nxt n n, finB fin n⟩ := by
  refine ⟨v0, v3, by rw [nextB_len]; exact n0, by rw [nextB_len]; exact n64, by rw [nextB_len, finB_len], e0, by rw [nextB_len]; exact en, fun rows hr => ?_, fun rows hr row hw => ?_, fun rows hr row hw s hs => ?_⟩
  · obtain ⟨l, _, rfl⟩ := List.mem_map.1 hr
    rw [nextB_len]; exact rowsB_len ..
  · obtain ⟨l, _, rfl⟩ := List.mem_map.1 hr
    obtain ⟨r, _, rfl⟩ := List.mem_map.1 hw
    exact rvL_len ..
  · obtain ⟨l, hl, rfl⟩ := List.mem_map.1 hr
    obtain ⟨r, hr', rfl⟩ := List.mem_map.1 hw
    obtain ⟨x, hx, rfl⟩ := List.mem_map.1 hs
    rw [nextB_len]
    exact hb l r x (List.mem_range.1 hl) (List.mem_range.1 hr') (List.mem_range.1 hx)

theorem renO_pos (D : Da) : 0 < (renO D).length := by have := pre_len (renO_pre (D := D)); simp at this; omega
theorem renD_valid {D : Da} (hV : Va D) : Va (renD D) := by
  have hle := (renumber56 hV).1.le
  have n64 := hV.n64
  have hp := renO_pos D
  refine built_valid hV.v0 hV.v3 hp (by omega) (Int.le_refl _) (by omega) fun i j x hi hj hx => ?_
  have := (numO_get (renO_done hle hi hj hx)).1
  unfold renN
  omega
theorem renD_nx {D : Da} (hV : Va D) {i j x : Nat} (hi : i < (renO D).length) (hj : j < (renO D).length) (hx : x < two D.vars) :
    ∃ k, nx (renD D) (i : Int) (j : Int) x = (k : Nat) ∧ k < (renO D).length ∧ (renO D).getD k 0 = nx D ((renO D).getD i 0) ((renO D).getD j 0) x := by
  have hle := (renumber56 hV).1.le
  obtain ⟨h1, h2⟩ := numO_get (renO_done hle hi hj hx)
  exact ⟨_, built_nx hi hj hx, h1, h2⟩
theorem renD_len (D : Da) : (renD D).next.length = (renO D).length := nextB_len ..
theorem renD_fin {D : Da} {i : Nat} (hi : i < (renO D).length) : (renD D).fin.getD i false = D.fin.getD ((renO D).getD i 0).toNat false := by
  show (finB (renF D) _).getD i false = _
  unfold finB
  rw [map_getD hi]; rfl
theorem renO_zero (D : Da) : (renO D).getD 0 0 = D.empty := by
  have := pre_get (renO_pre (D := D)) (i := 0) (by simp)
  simpa using this

theorem renumber21 {D : Da} (hV : Va D) : L.pcall 21 [D.av] = some (.tup [(renD D).av, .int .i64 0]) := by
  have h1 := check_ok D hV
  have h2 := (renumber56 hV).2
  generalize renD D = R at *
  unfold Da.av at h1 h2 ⊢
  unfold Da.cells at h1 h2 ⊢
  rw [a21p, a21, pbodyA_eq]
  simp (maxSteps := 30000000) (disch := first | assumption | omega | (simp only [List.length_cons, List.length_nil, List.length_append, List.length_set, List.length_replicate, List.length_map, List.length_range, List.length_take, List.length_drop, List.all_cons, List.all_nil, AV.isCell, Bool.and_self, Bool.and_true, bs_length, is64_length, w64_length, ints_length, ints_length, bools_len, List.length_map] <;> omega) | rfl | decide) only [bodyA_eq, List.length_cons, List.length_nil, Nat.zero_add, Nat.reduceSub, pads, List.cons_append, List.nil_append, run_seq, run_region, runOps_cons, oper_none, ex_box, AV.cells, opv, List.getD_cons_zero, List.all_cons, AV.isCell, List.all_nil, Bool.and_self, ↓reduceIte, putK_to, List.set_cons_succ, List.set_cons_zero, opsK_some, ex_mov, runOps_nil, regK_some, seqK_normal, ex_load, List.getD_cons_succ, rd_ptr, List.getElem?_cons_zero, rdK_cells, List.drop_zero, List.take_succ_cons, List.take_nil, loadK_n, valK_some, ex_call, List.map_cons, List.map_nil, pcallA_eq, frzN, List.mapM_cons, frz_agg, frz_int, frz_sl, List.mapM_nil, Option.pure_def, Option.bind_eq_bind, Option.bind_some, Option.map_some, argK_some, h1, retK_some, scal, scal1, ex_bin, bin_neq, decide_true, Bool.not_true, run_cond, condK_bool, Bool.false_eq_true, run_skip, h2, Bool.and_true, Bool.and_false, fzIds, List.flatMap_cons, bor_agg, bor_int, bor_sl, List.flatMap_nil, List.append_nil, List.foldl_nil, ex_store, Nat.reduceAdd, wr_ptr, List.getElem?_cons_succ, wrK_cells, splice, List.take_zero, List.drop_succ_cons, List.drop_nil, storeK_some, putK_no, run_ret, bodyK_ret, results_2, resL_cons, res_cell, cellK_some, mkv_n, resK_some, res_tmp, resL_nil, retvK_some, pbodyK_some, frz_tup]
theorem renumber21_none (v e : Int) (z1 z2 : Bool) (v0 : 0 ≤ v) (v3 : v ≤ 3) : L.pcall 21 [.agg [.int .i64 v, .int .i64 e, .sl z1 0 [], .sl z2 0 []]] = some (.tup [.agg [.int .i64 0, .int .i64 0, .sl true 0 [], .sl true 0 []], .int .i64 3]) := by
  have h := check_none v e z1 z2 0 [] v0 v3
  rw [a21p, a21, pbodyA_eq]
  simp (maxSteps := 30000000) (disch := first | assumption | omega | (simp only [List.length_cons, List.length_nil, List.length_append, List.length_set, List.length_replicate, List.length_map, List.length_range, List.length_take, List.length_drop, List.all_cons, List.all_nil, AV.isCell, Bool.and_self, Bool.and_true, bs_length, is64_length, w64_length, ints_length, ints_length, bools_len, List.length_map] <;> omega) | rfl | decide) only [bodyA_eq, List.length_cons, List.length_nil, Nat.zero_add, Nat.reduceSub, pads, List.cons_append, List.nil_append, run_seq, run_region, runOps_cons, oper_none, ex_box, AV.cells, opv, List.getD_cons_zero, List.all_cons, AV.isCell, List.all_nil, Bool.and_self, ↓reduceIte, putK_to, List.set_cons_succ, List.set_cons_zero, opsK_some, ex_mov, runOps_nil, regK_some, seqK_normal, ex_load, List.getD_cons_succ, rd_ptr, List.getElem?_cons_zero, rdK_cells, List.drop_zero, List.take_succ_cons, List.take_nil, loadK_n, valK_some, ex_call, List.map_cons, List.map_nil, pcallA_eq, frzN, List.mapM_cons, frz_agg, frz_int, frz_sl, List.mapM_nil, Option.pure_def, Option.bind_eq_bind, Option.bind_some, Option.map_some, argK_some, h, retK_some, scal, scal1, ex_bin, bin_neq, Int.reduceEq, decide_false, Bool.not_false, run_cond, condK_bool, ex_build, fillA, ex_store, Nat.reduceAdd, wr_ptr, List.getElem?_cons_succ, wrK_cells, splice, List.take_zero, List.drop_succ_cons, List.drop_nil, List.append_nil, storeK_some, putK_no, run_ret, seqK_ret, bodyK_ret, results_2, resL_cons, res_cell, cellK_some, mkv_n, resK_some, res_tmp, resL_nil, retvK_some, pbodyK_some, frz_tup]
end Go.Abs.Det

/- Minimize: a state of each class. -/
namespace Go.Abs.Det
open Go Go.Abs
set_option linter.unusedSimpArgs false
set_option linter.unusedVariables false

theorem set_getD {l : List Int} {i j : Nat} {a : Int} (h : i < l.length) : (l.set i a).getD j 0 = if i = j then a else l.getD j 0 := by
  simp only [List.getD_eq_getElem?_getD, List.getElem?_set]
  split
  · rename_i e; subst e; simp [h]
  · rfl

set_option maxHeartbeats 1000000 in
theorem min_first {n m : Nat} {c : List Int} {s2 s5 s7 : AV} (hn : n ≤ 64) (hm : m ≤ 64) (hcl : c.length = n) (hc : ∀ i, i < n → 0 ≤ c.getD i 0 ∧ c.getD i 0 < m) : ∀ e (G : Heap) (F : List Int), e ≤ n → G[3]? = some (.cells false false [.sl false n (ints c)]) → G[5]? = some (.cells false false [.own false 4 0 m 1]) → G[4]? = some (.cells false false (ints F)) → F.length = m →
    (∀ i, e ≤ i → i < n → 0 ≤ F.getD (c.getD i 0).toNat 0 ∧ F.getD (c.getD i 0).toNat 0 < n ∧ c.getD (F.getD (c.getD i 0).toNat 0).toNat 0 = c.getD i 0) →
    ∃ F', L.loop a23l0s a23l0 ⟨a23l0F s2 s5 (.ptr 3 0) s7 (.ptr 5 0) (.int .i64 ((e : Nat) - 1)), G⟩ = some (.exit 0, ⟨a23l0F s2 s5 (.ptr 3 0) s7 (.ptr 5 0) (.int .i64 (-1)), G.set 4 (.cells false false (ints F'))⟩) ∧ F'.length = m ∧
      ∀ i, i < n → 0 ≤ F'.getD (c.getD i 0).toNat 0 ∧ F'.getD (c.getD i 0).toNat 0 < n ∧ c.getD (F'.getD (c.getD i 0).toNat 0).toNat 0 = c.getD i 0 := by
  intro e
  induction e with
  | zero =>
    intro G F _ g3 g5 g4 hF hI
    refine ⟨F, ?_, hF, fun i hi => hI i (Nat.zero_le _) hi⟩
    have hG : G.set 4 (.cells false false (ints F)) = G := by
      obtain ⟨h1, h2⟩ := List.getElem?_eq_some_iff.1 g4
      rw [← h2, List.set_getElem_self]
    have e1 : ((0 : Nat) : Int) - 1 = -1 := rfl
    rw [hG, e1, a23l0n]
    simp (maxSteps := 30000000) (disch := first | assumption | omega | (simp only [List.length_cons, List.length_nil, List.length_append, List.length_set, List.length_replicate, List.length_map, List.length_range, List.length_take, List.length_drop, List.all_cons, List.all_nil, AV.isCell, Bool.and_self, Bool.and_true, bs_length, is64_length, w64_length, ints_length, ints_length, bools_len, List.length_map] <;> omega) | rfl | decide) only [a23l0b, Int.reduceNeg, run_seq, run_region, runOps_cons, oper_none, ex_mov, opv, List.getD_cons_succ, List.getD_cons_zero, putK_to, List.set_cons_succ, List.set_cons_zero, opsK_some, ex_bin, bin_geq, Int.reduceLE, decide_false, valK_some, runOps_nil, regK_some, seqK_normal, run_cond, condK_bool, Bool.false_eq_true, ↓reduceIte, run_exit, seqK_exit, loopK_exit, a23l0c]
  | succ e ih =>
    intro G F he g3 g5 g4 hF hI
    have hce := hc e (by omega)
    have e1 : ((e + 1 : Nat) : Int) - 1 = (e : Nat) := by omega
    have g4l := (List.getElem?_eq_some_iff.1 g4).1
    obtain ⟨F', f1, f2, f3⟩ := ih (G.set 4 (.cells false false (ints (F.set (c.getD e 0).toNat (e : Nat))))) (F.set (c.getD e 0).toNat (e : Nat)) (by omega) (by rw [List.getElem?_set_ne (by omega)]; exact g3) (by rw [List.getElem?_set_ne (by omega)]; exact g5) (List.getElem?_set_self g4l) (by simpa using hF) (fun i hi hin => by
      rw [set_getD (by omega)]
      split
      · rename_i q
        have hci := hc i hin
        refine ⟨by omega, by omega, ?_⟩
        rw [Int.toNat_natCast]
        omega
      · rename_i q
        by_cases hie : i = e
        · subst hie; exact absurd rfl q
        · exact hI i (by omega) hin)
    refine ⟨F', ?_, f2, f3⟩
    rw [List.set_set] at f1
    have gc : List.take 1 (List.drop e (ints c)) = [.int .i64 (c.getD e 0)] := map_at1 _ _ (by omega)
    have hge : ¬ ((e : Nat) : Int) < 0 := by omega
    have hge2 : (0 : Int) ≤ (e : Nat) := by omega
    have hwr : ∀ X : Int, List.take (c.getD e 0).toNat (ints F) ++ AV.int .i64 X :: List.drop ((c.getD e 0).toNat + 1) (ints F) = ints (F.set (c.getD e 0).toNat X) := fun X => by
      have hl : (c.getD e 0).toNat < (ints F).length := by rw [ints_length]; omega
      have := List.set_eq_take_append_cons_drop (l := ints F) (i := (c.getD e 0).toNat) (a := AV.int .i64 X)
      rw [if_pos hl] at this
      rw [← this]; simp [ints, List.map_set]
    rw [e1, a23l0n]
    simp (maxSteps := 30000000) (disch := first | assumption | omega | (simp only [List.length_cons, List.length_nil, List.length_append, List.length_set, List.length_replicate, List.length_map, List.length_range, List.length_take, List.length_drop, List.all_cons, List.all_nil, AV.isCell, Bool.and_self, Bool.and_true, bs_length, is64_length, w64_length, ints_length, ints_length, bools_len, List.length_map] <;> omega) | rfl | decide) only [a23l0b, run_seq, run_region, runOps_cons, oper_none, ex_mov, opv, List.getD_cons_succ, List.getD_cons_zero, putK_to, List.set_cons_succ, List.set_cons_zero, opsK_some, ex_bin, bin_geq, hge2, decide_true, valK_some, runOps_nil, regK_some, seqK_normal, run_cond, condK_bool, ↓reduceIte, run_skip, run_block, run_draw, List.take_succ_cons, List.take_zero, runFree_cons, foper_none, fe_load, ex_load, rd_ptr, g5, rdK_cells, List.drop_zero, List.take_nil, loadK_1, fstK_some, fputK_to, freeK_some, g3, fe_mov, fe_iaddr, ex_iaddr, iaddrA_sl, Int.toNat_natCast, Nat.mul_one, rd_vptr, ints_drop, ints_take, ints_at0, getD_dropI, Nat.add_zero, runFree_nil, drawK_some, List.drop_succ_cons, adopt, adoptVal, iaddrA_own, Nat.zero_add, ex_store, AV.cells, List.length_cons, List.length_nil, wr_ptr, g4, wrK_cells, splice, List.append_assoc, List.cons_append, List.nil_append, ints_put1, storeK_some, putK_no, blockK_normal, bin_sub, wr64, loopK_normal, a23l0c, f1, Int.reduceNeg]
end Go.Abs.Det

/- Minimize: its reading calls. -/
namespace Go.Abs.Det
open Go Go.Abs
set_option linter.unusedSimpArgs false
set_option linter.unusedVariables false

/-- the heap of Minimize, once first is there -/
structure MinI (D : Da) (c F : List Int) (m : Nat) (G : Heap) : Prop where
  b2 : G[2]? = some (.cells false false D.cells)
  b3 : G[3]? = some (.cells false false [.sl false D.next.length (ints c)])
  b4 : G[4]? = some (.cells false false (ints F))
  b5 : G[5]? = some (.cells false false [.own false 4 0 m 1])
structure MinOk (D : Da) (c F : List Int) (m : Nat) : Prop where
  cl : c.length = D.next.length
  cb : ∀ i, i < D.next.length → 0 ≤ c.getD i 0 ∧ c.getD i 0 < m
  fl : F.length = m
  fb : ∀ j, j < m → 0 ≤ F.getD j 0 ∧ F.getD j 0 < D.next.length
  m64 : m ≤ 64

set_option maxRecDepth 10000 in
set_option maxHeartbeats 2000000 in
theorem call62 {D : Da} {c F : List Int} {m : Nat} {G : Heap} {l r x : Nat} (hV : Va D) (hO : MinOk D c F m) (hI : MinI D c F m G) (hl : l < m) (hr : r < m) (hx : x < two D.vars) :
    L.icall (.func 62 [.ptr 3 0, .ptr 2 0, .ptr 5 0]) [.int .i64 (l : Nat), .int .i64 (r : Nat), .int .i64 (x : Nat)] G = some (.int .i64 (c.getD (nx D (F.getD l 0) (F.getD r 0) x).toNat 0), G) := by
  have n64 := hV.n64
  have m64 := hO.m64
  have h8 := (two_bd hV.v3).1
  obtain ⟨b2, b3, b4, b5⟩ := hI
  have hcl := hO.cl
  have hFl := hO.fl
  have sl := hO.fb l hl
  have sr := hO.fb r hr
  have g1 : List.take 1 (List.drop l (ints F)) = [.int .i64 (F.getD l 0)] := map_at1 _ _ (by omega)
  have g2 : List.take 1 (List.drop r (ints F)) = [.int .i64 (F.getD r 0)] := map_at1 _ _ (by omega)
  have hnb := nx_bd hV (x := x) sl sr hx
  generalize hA : F.getD l 0 = A at *
  generalize hB : F.getD r 0 = C at *
  have m1 := getD_in (a := ([] : List (List Int))) (show A.toNat < D.next.length by omega)
  have m2 := hV.rl _ m1
  have m3 := getD_in (a := ([] : List Int)) (show C.toNat < (D.next.getD A.toNat []).length by omega)
  have m4 := hV.cl _ m1 _ m3
  have gx : List.take 1 (List.drop x (ints ((D.next.getD A.toNat []).getD C.toNat []))) = [.int .i64 (((D.next.getD A.toNat []).getD C.toNat []).getD x 0)] := map_at1 _ _ (by omega)
  have hnx : nx D A C x = ((D.next.getD A.toNat []).getD C.toNat []).getD x 0 := rfl
  rw [hnx] at hnb ⊢
  generalize hS : ((D.next.getD A.toNat []).getD C.toNat []).getD x 0 = S at *
  have gc : List.take 1 (List.drop S.toNat (ints c)) = [.int .i64 (c.getD S.toNat 0)] := map_at1 _ _ (by omega)
  unfold Da.cells at b2
  rw [a62i, a62]
  simp (maxSteps := 30000000) (disch := first | assumption | omega | (simp only [List.length_cons, List.length_nil, List.length_append, List.length_set, List.length_replicate, List.length_map, List.length_range, List.length_take, List.length_drop, List.all_cons, List.all_nil, AV.isCell, Bool.and_self, Bool.and_true, bs_length, is64_length, w64_length, ints_length, ints_length, bools_len, List.length_map] <;> omega) | rfl | decide) only [List.cons_append, List.nil_append, bodyA_eq, List.length_cons, List.length_nil, Nat.zero_add, Nat.reduceAdd, Nat.reduceSub, pads, run_seq, run_region, runOps_cons, oper_none, ex_mov, opv, putK_to, List.set_cons_succ, List.set_cons_zero, opsK_some, runOps_nil, regK_some, seqK_normal, run_draw, List.take_succ_cons, List.take_zero, runFree_cons, foper_none, fe_load, ex_load, List.getD_cons_succ, List.getD_cons_zero, rd_ptr, b3, rdK_cells, List.drop_zero, List.take_nil, loadK_1, valK_some, fstK_some, fputK_to, freeK_some, fe_faddr, ex_faddr, faddrA_ptr, b2, List.drop_succ_cons, b5, fe_mov, fe_iaddr, ex_iaddr, iaddrA_own, Int.toNat_natCast, Nat.mul_one, b4, ints_drop, ints_take, ints_at0, getD_dropI, Nat.add_zero, hA, iaddrA_sl, rd_vptr, rows_at, rowsD, m2, hB, row_at, rowT, m4, runFree_nil, drawK_some, adopt, adoptVal, hS, run_ret, bodyK_ret, results_1, res_tmp, retvK_some]

theorem call63 {D : Da} {c F : List Int} {m : Nat} {G : Heap} {l : Nat} (hV : Va D) (hO : MinOk D c F m) (hI : MinI D c F m G) (hl : l < m) :
    L.icall (.func 63 [.ptr 2 0, .ptr 5 0]) [.int .i64 (l : Nat)] G = some (.bool (D.fin.getD (F.getD l 0).toNat false), G) := by
  have n64 := hV.n64
  have m64 := hO.m64
  have fl := hV.fl
  obtain ⟨b2, b3, b4, b5⟩ := hI
  have hFl := hO.fl
  have sl := hO.fb l hl
  have g1 : List.take 1 (List.drop l (ints F)) = [.int .i64 (F.getD l 0)] := map_at1 _ _ (by omega)
  generalize hA : F.getD l 0 = A at *
  have gf : List.take 1 (List.drop A.toNat (bools D.fin)) = [.bool (D.fin.getD A.toNat false)] := map_at1 _ _ (by omega)
  unfold Da.cells at b2
  rw [a63i, a63]
  simp (maxSteps := 30000000) (disch := first | assumption | omega | (simp only [List.length_cons, List.length_nil, List.length_append, List.length_set, List.length_replicate, List.length_map, List.length_range, List.length_take, List.length_drop, List.all_cons, List.all_nil, AV.isCell, Bool.and_self, Bool.and_true, bs_length, is64_length, w64_length, ints_length, ints_length, bools_len, List.length_map] <;> omega) | rfl | decide) only [List.cons_append, List.nil_append, bodyA_eq, List.length_cons, List.length_nil, Nat.zero_add, Nat.reduceAdd, Nat.reduceSub, pads, run_seq, run_region, runOps_cons, oper_none, ex_mov, opv, putK_to, List.set_cons_succ, List.set_cons_zero, opsK_some, runOps_nil, regK_some, seqK_normal, run_draw, List.take_succ_cons, List.take_zero, runFree_cons, foper_none, fe_faddr, ex_faddr, List.getD_cons_succ, List.getD_cons_zero, faddrA_ptr, valK_some, fstK_some, fputK_to, freeK_some, fe_load, ex_load, rd_ptr, b2, fl, rdK_cells, List.drop_succ_cons, List.drop_zero, List.take_nil, loadK_1, b5, runFree_nil, drawK_some, adopt, adoptVal, ex_iaddr, iaddrA_own, Int.toNat_natCast, Nat.mul_one, b4, ints_drop, ints_take, ints_at0, getD_dropI, Nat.add_zero, hA, iaddrA_sl, rd_vptr, gf, run_ret, bodyK_ret, results_1, res_tmp, retvK_some]
end Go.Abs.Det

/- Minimize. -/
namespace Go.Abs.Det
open Go Go.Abs
set_option linter.unusedSimpArgs false
set_option linter.unusedVariables false

def quoN (D : Da) (c F : List Int) (l r x : Nat) : Int := c.getD (nx D (F.getD l 0) (F.getD r 0) x).toNat 0
def quoF (D : Da) (F : List Int) (l : Nat) : Bool := D.fin.getD (F.getD l 0).toNat false
def quoD (D : Da) (c F : List Int) (m : Nat) : Da := ⟨D.vars, c.getD D.empty.toNat 0, nextB D.vars (quoN D c F) m m, finB (quoF D F) m⟩

theorem stab_bd {D : Da} {c : List Int} {m : Nat} (h : Stab D c m) : c.length = D.next.length ∧ (∀ i, i < D.next.length → 0 ≤ c.getD i 0 ∧ c.getD i 0 < m) ∧ (∀ j : Nat, j < m → ∃ i, i < D.next.length ∧ c.getD i 0 = j) ∧ m ≤ D.next.length := by
  obtain ⟨key, e1, e2⟩ := h.num
  have ok := numK_ok key D.next.length
  refine ⟨by rw [e1]; unfold nums; rw [List.length_map]; exact ok.len, fun i hi => ?_, fun j hj => ?_, by rw [e2]; exact ok.le⟩
  · rw [e1, nums_get, e2]; have := ok.lt hi; omega
  · rw [e2] at hj
    obtain ⟨i, h1, h2⟩ := ok.hit j hj
    exact ⟨i, h1, by rw [e1, nums_get, h2]⟩

theorem quo_valid {D : Da} {c F : List Int} {m : Nat} (hV : Va D) (hO : MinOk D c F m) (hm : 0 < m) : Va (quoD D c F m) := by
  have h1 := hO.cb D.empty.toNat (by have := hV.e0; have := hV.en; omega)
  refine built_valid hV.v0 hV.v3 hm hO.m64 h1.1 h1.2 fun i j x hi hj hx => ?_
  have := nx_bd hV (x := x) (hO.fb i hi) (hO.fb j hj) hx
  exact hO.cb _ (by omega)

theorem fz_get {b : Nat} : ∀ (ids : List Nat) (H : Heap), (∀ j ∈ ids, j ≠ b) → (List.foldl (fun H i => List.modify H i fzBlk) H ids)[b]? = H[b]?
  | [], H, _ => rfl
  | j :: ids, H, h => by
    rw [List.foldl_cons, fz_get ids _ (fun i hi => h i (by simp [hi]))]
    have := h j (by simp)
    rw [List.getElem?_modify]
    simp [this]

set_option maxRecDepth 10000 in
set_option maxHeartbeats 4000000 in
theorem minimize23 {D : Da} (hV : Va D) : ∃ c F m, Stab (renD D) c m ∧ MinOk (renD D) c F m ∧ (∀ j : Nat, j < m → c.getD (F.getD j 0).toNat 0 = j) ∧ L.pcall 23 [D.av] = some (.tup [(renD (quoD (renD D) c F m)).av, .int .i64 0]) := by
  have h14 := check_ok D hV
  have h56 := (renumber56 hV).2
  have hV2 := renD_valid hV
  generalize renD D = R at *
  obtain ⟨c, m, hS, h60⟩ := classes60 hV2
  obtain ⟨cl, cb, ch, cm⟩ := stab_bd hS
  have n64 := hV2.n64
  have n0 := hV2.n0
  have hm0 : 0 < m := by have := cb 0 n0; omega
  obtain ⟨F, f1, f2, f3⟩ := min_first (n := R.next.length) (m := m) (c := c) (s2 := .ptr 1 0) (s5 := .ptr 2 0) (s7 := .int .i64 (m : Nat)) n64 (by omega) cl cb R.next.length
    [.cells false false D.cells, .cells false false [.int .i64 0, .int .i64 0, .sl true 0 [], .sl true 0 []], .cells false false R.cells, .cells false false [.sl false R.next.length (ints c)], .cells false false (ints (List.replicate m 0)), .cells false false [.own false 4 0 m 1]]
    (List.replicate m 0) (Nat.le_refl _) rfl rfl rfl (by simp) (fun i h1 h2 => by omega)
  have hn1 : ((R.next.length : Nat) : Int) - 1 = ((R.next.length - 1 : Nat) : Int) := by omega
  rw [hn1] at f1
  have hO : MinOk R c F m := ⟨cl, cb, f2, fun j hj => by
    obtain ⟨i, h1, h2⟩ := ch j hj
    have := f3 i h1
    rw [h2, Int.toNat_natCast] at this
    exact ⟨this.1, this.2.1⟩, by omega⟩
  refine ⟨c, F, m, hS, hO, fun j hj => ?_, ?_⟩
  · obtain ⟨i, h1, h2⟩ := ch j hj
    have := f3 i h1
    rw [h2, Int.toNat_natCast] at this
    exact this.2.2
  have hI : MinI R c F m [.cells false false D.cells, .cells false false [.int .i64 0, .int .i64 0, .sl true 0 [], .sl true 0 []], .cells false false R.cells, .cells false false [.sl false R.next.length (ints c)], .cells false false (ints F), .cells false false [.own false 4 0 m 1]] := ⟨rfl, rfl, rfl, rfl⟩
  have hR : Rd R.vars m 6 (.func 62 [.ptr 3 0, .ptr 2 0, .ptr 5 0]) (.func 63 [.ptr 2 0, .ptr 5 0]) (quoN R c F) (quoF R F) (fun G => MinI R c F m G) :=
    ⟨hV2.v0, hV2.v3, hm0, by omega, fun G G' hJ hb => ⟨(hb 2 (by omega)).trans hJ.b2, (hb 3 (by omega)).trans hJ.b3, (hb 4 (by omega)).trans hJ.b4, (hb 5 (by omega)).trans hJ.b5⟩,
     fun G l r x hJ hl hr hx => call62 hV2 hO hJ hl hr hx, fun G l hJ hl => ⟨[], by rw [List.append_nil]; exact call63 hV2 hO hJ hl⟩⟩
  obtain ⟨G2, i, k, q1, q2, q3, q4, q5⟩ := built61 hR hI
  have hq := (renumber56 (quo_valid hV2 hO hm0)).2
  have e0 := hV2.e0
  have en := hV2.en
  have b2 := (q4 2 (by simp)).trans hI.b2
  have b3 := (q4 3 (by simp)).trans hI.b3
  have b1 : G2[1]? = some (.cells false false [.int .i64 0, .int .i64 0, .sl true 0 [], .sl true 0 []]) := (q4 1 (by simp)).trans rfl
  have gc : List.take 1 (List.drop R.empty.toNat (ints c)) = [.int .i64 (c.getD R.empty.toNat 0)] := map_at1 _ _ (by omega)
  have b2' := fun T => app_get (X := T) b2
  have b3' := fun T => app_get (X := T) b3
  have z1 : ∀ T : Heap, frzK 4 (G2 ++ T) false 0 m 1 (G2 ++ T)[i]? = some (.sl false m ((nextB R.vars (quoN R c F) m m).map rowsD)) := fun T => by
    have := ((q2.frame (G' := G2 ++ T) (by simp) fun d hd b hb => List.getElem?_append_left (by have := (q2 d hd).2 b hb; omega)) 5 (by omega)).1
    rwa [frz_own] at this
  have z2 : ∀ T : Heap, frzK 4 (G2 ++ T) false 0 m 1 (G2 ++ T)[k]? = some (.sl false m (bools (finB (quoF R F) m))) := fun T => by
    have := ((q3.frame (G' := G2 ++ T) (by simp) fun d hd b hb => List.getElem?_append_left (by have := (q3 d hd).2 b hb; omega)) 5 (by omega)).1
    rwa [frz_own] at this
  have w1 := fun (T : Heap) => ((q2.frame (G' := G2 ++ T) (by simp) fun d hd b hb => List.getElem?_append_left (by have := (q2 d hd).2 b hb; omega)) 5 (by omega)).2
  have w2 := fun (T : Heap) => ((q3.frame (G' := G2 ++ T) (by simp) fun d hd b hb => List.getElem?_append_left (by have := (q3 d hd).2 b hb; omega)) 5 (by omega)).2
  simp only [List.length_cons, List.length_nil, bor_own] at w1 w2
  have zz : ∀ T : Heap, (List.foldl (fun H i => List.modify H i fzBlk) (List.modify (G2 ++ T) i fzBlk) (borK 4 (G2 ++ T) 0 m 1 (G2 ++ T)[i]? ++ k :: borK 4 (G2 ++ T) 0 m 1 (G2 ++ T)[k]?))[1]? = some (.cells false false [.int .i64 0, .int .i64 0, .sl true 0 [], .sl true 0 []]) := fun T => by
    rw [fz_get _ _ (fun j hj => by
      rcases List.mem_append.1 hj with p | p
      · have := (w1 T j (by simp [p])).1; omega
      · have := (w2 T j p).1; omega)]
    have hi6 := (w1 T i (by simp)).1
    rw [List.getElem?_modify]
    have hne : i ≠ 1 := by omega
    have := app_get (X := T) b1
    simp [hne, this]
  have zl : ∀ (T : Heap) (Y : Blk), ((List.foldl (fun H i => List.modify H i fzBlk) (List.modify (G2 ++ T) i fzBlk) (borK 4 (G2 ++ T) 0 m 1 (G2 ++ T)[i]? ++ k :: borK 4 (G2 ++ T) 0 m 1 (G2 ++ T)[k]?)).set 1 Y)[1]? = some Y := fun T Y => List.getElem?_set_self (List.getElem?_eq_some_iff.1 (zz T)).1
  clear w1 w2
  generalize hX : renD (quoD R c F m) = X at *
  unfold Da.av at h14 h56 h60 hq ⊢
  unfold quoD at hq
  unfold Da.cells at h14 h56 h60 hq f1 q1 b2 b2' ⊢
  simp only [nextB_len, finB_len] at hq
  rw [a23p, a23, pbodyA_eq]
  simp (maxSteps := 30000000) (disch := first | assumption | omega | (simp only [List.length_cons, List.length_nil, List.length_append, List.length_set, List.length_replicate, List.length_map, List.length_range, List.length_take, List.length_drop, List.all_cons, List.all_nil, AV.isCell, Bool.and_self, Bool.and_true, bs_length, is64_length, w64_length, ints_length, ints_length, bools_len, List.length_map] <;> omega) | rfl | decide) only [bodyA_eq, List.length_cons, List.length_nil, Nat.zero_add, Nat.reduceSub, pads, List.cons_append, List.nil_append, run_seq, run_region, runOps_cons, oper_none, ex_box, AV.cells, opv, List.getD_cons_zero, List.all_cons, AV.isCell, List.all_nil, Bool.and_self, ↓reduceIte, putK_to, List.set_cons_succ, List.set_cons_zero, opsK_some, ex_mov, runOps_nil, regK_some, seqK_normal, ex_load, List.getD_cons_succ, rd_ptr, List.getElem?_cons_zero, rdK_cells, List.drop_zero, List.take_succ_cons, List.take_nil, loadK_n, valK_some, ex_call, List.map_cons, List.map_nil, pcallA_eq, frzN, List.mapM_cons, frz_agg, frz_int, frz_sl, List.mapM_nil, Option.pure_def, Option.bind_eq_bind, Option.bind_some, Option.map_some, argK_some, h14, retK_some, scal, scal1, ex_bin, bin_neq, decide_true, Bool.not_true, run_cond, condK_bool, Bool.false_eq_true, run_skip, h56, Bool.and_true, Bool.and_false, fzIds, List.flatMap_cons, bor_agg, bor_int, bor_sl, List.flatMap_nil, List.append_nil, List.foldl_nil, Nat.reduceAdd, ex_store, wr_ptr, List.getElem?_cons_succ, wrK_cells, splice, List.take_zero, List.drop_succ_cons, List.drop_nil, storeK_some, putK_no, h60, ex_ext, extA_tup, ex_mkslice, mksK_int, Int.toNat_natCast, repz_ints, newA_own, loadK_1, ex_len, lenA_sl, bin_sub, csub1, wr64, run_block, run_loop, a23l0c, f1, Int.reduceNeg, blockK_exit, ex_faddr, faddrA_ptr, Nat.add_zero, ex_mkfunc, ex_icall, q1, hget0, hset0, b3', b2', ex_iaddr, iaddrA_sl, Nat.mul_one, rd_vptr, ints_drop, ints_take, ints_at0, getD_dropI, frz_own, z1, z2, hq, bor_own, List.foldl_cons, zz, run_ret, bodyK_ret, results_2, resL_cons, res_cell, zl, cellK_some, mkv_n, resK_some, res_tmp, resL_nil, retvK_some, pbodyK_some, frz_tup]
end Go.Abs.Det

/- Minimize: no states. -/
namespace Go.Abs.Det
open Go Go.Abs
set_option linter.unusedSimpArgs false
set_option linter.unusedVariables false

theorem minimize23_none (v e : Int) (z1 z2 : Bool) (v0 : 0 ≤ v) (v3 : v ≤ 3) : L.pcall 23 [.agg [.int .i64 v, .int .i64 e, .sl z1 0 [], .sl z2 0 []]] = some (.tup [.agg [.int .i64 0, .int .i64 0, .sl true 0 [], .sl true 0 []], .int .i64 3]) := by
  have h := check_none v e z1 z2 0 [] v0 v3
  rw [a23p, a23, pbodyA_eq]
  simp (maxSteps := 30000000) (disch := first | assumption | omega | (simp only [List.length_cons, List.length_nil, List.length_append, List.length_set, List.length_replicate, List.length_map, List.length_range, List.length_take, List.length_drop, List.all_cons, List.all_nil, AV.isCell, Bool.and_self, Bool.and_true, bs_length, is64_length, w64_length, ints_length, ints_length, bools_len, List.length_map] <;> omega) | rfl | decide) only [bodyA_eq, List.length_cons, List.length_nil, Nat.zero_add, Nat.reduceSub, pads, List.cons_append, List.nil_append, run_seq, run_region, runOps_cons, oper_none, ex_box, AV.cells, opv, List.getD_cons_zero, List.all_cons, AV.isCell, List.all_nil, Bool.and_self, ↓reduceIte, putK_to, List.set_cons_succ, List.set_cons_zero, opsK_some, ex_mov, runOps_nil, regK_some, seqK_normal, ex_load, List.getD_cons_succ, rd_ptr, List.getElem?_cons_zero, rdK_cells, List.drop_zero, List.take_succ_cons, List.take_nil, loadK_n, valK_some, ex_call, List.map_cons, List.map_nil, pcallA_eq, frzN, List.mapM_cons, frz_agg, frz_int, frz_sl, List.mapM_nil, Option.pure_def, Option.bind_eq_bind, Option.bind_some, Option.map_some, argK_some, h, retK_some, scal, scal1, ex_bin, bin_neq, Int.reduceEq, decide_false, Bool.not_false, run_cond, condK_bool, ex_build, fillA, ex_store, Nat.reduceAdd, wr_ptr, List.getElem?_cons_succ, wrK_cells, splice, List.take_zero, List.drop_succ_cons, List.drop_nil, List.append_nil, storeK_some, putK_no, run_ret, seqK_ret, bodyK_ret, results_2, resL_cons, res_cell, cellK_some, mkv_n, resK_some, res_tmp, resL_nil, retvK_some, pbodyK_some, frz_tup]

/-- Accepts -/
theorem accepts18_ok {D : Da} (hV : Va D) (z : Bool) {T : BT} (ht : T.size ≤ 31) (hx : T.labs (· < two D.vars)) : L.pcall 18 [D.av, tw z (encT 0 T)] = some (.tup [.bool (D.fin.getD (stB D T).toNat false), .int .i64 0]) := by
  have hl := encT_length T 0
  have h1 := both_valid hV z (encT 0 T) (by omega) (fun e he => by have := (enc_labs T 0).2 hx e he; have := (two_bd hV.v3).1; omega)
  rw [(tchk_zero hV.v0).2 ⟨T, rfl, ht, hx⟩] at h1
  have h2 := run54 hV z ht hx
  have hsl := stL_len D T
  have hb := stB_bd hV hx
  have fl := hV.fl
  have n64 := hV.n64
  have h0 : (stL D T ++ [D.empty]).getD 0 0 = stB D T := by cases T <;> rfl
  have gs : List.take 1 (List.drop 0 (ints (stL D T ++ [D.empty]))) = [.int .i64 (stB D T)] := by rw [← h0]; exact map_at1 _ _ (by simp)
  have gs0 : List.take 1 (ints (stL D T ++ [D.empty])) = [.int .i64 (stB D T)] := gs
  have gf : List.take 1 (List.drop (stB D T).toNat (bools D.fin)) = [.bool (D.fin.getD (stB D T).toNat false)] := map_at1 _ _ (by omega)
  unfold tw at h1 h2 ⊢
  simp only [hl] at h1 h2 ⊢
  unfold Da.av at h1 h2 ⊢
  unfold Da.cells at h1 h2 ⊢
  simp only [fl] at h1 h2 ⊢
  rw [a18p, a18, pbodyA_eq]
  simp (maxSteps := 30000000) (disch := first | assumption | omega | (simp only [List.length_cons, List.length_nil, List.length_append, List.length_set, List.length_replicate, List.length_map, List.length_range, List.length_take, List.length_drop, List.all_cons, List.all_nil, AV.isCell, Bool.and_self, Bool.and_true, bs_length, is64_length, w64_length, ints_length, ints_length, bools_len, List.length_map] <;> omega) | rfl | decide) only [bodyA_eq, List.length_cons, List.length_nil, Nat.zero_add, Nat.reduceAdd, Nat.reduceSub, pads, List.cons_append, List.nil_append, run_seq, run_region, runOps_cons, oper_none, ex_box, AV.cells, opv, List.getD_cons_zero, List.all_cons, AV.isCell, List.all_nil, Bool.and_self, ↓reduceIte, putK_to, List.set_cons_succ, List.set_cons_zero, opsK_some, ex_mov, runOps_nil, regK_some, seqK_normal, ex_load, List.getD_cons_succ, rd_ptr, List.getElem?_cons_zero, rdK_cells, List.drop_zero, List.take_succ_cons, List.take_nil, loadK_n, valK_some, ex_call, List.map_cons, List.map_nil, pcallA_eq, frzN, List.mapM_cons, frz_agg, frz_int, frz_sl, List.mapM_nil, Option.pure_def, Option.bind_eq_bind, Option.bind_some, Option.map_some, argK_some, h1, retK_some, scal, scal1, ex_bin, bin_neq, decide_true, Bool.not_true, run_cond, condK_bool, Bool.false_eq_true, run_skip, run_draw, List.take_zero, runFree_cons, foper_none, fe_faddr, ex_faddr, faddrA_ptr, fstK_some, fputK_to, freeK_some, fe_load, List.drop_succ_cons, loadK_1, fe_mov, fe_call, h2, fzIds, List.flatMap_cons, bor_agg, bor_int, bor_sl, List.flatMap_nil, List.append_nil, List.foldl_nil, quietK_some, quietCall, Bool.or_true, runFree_nil, drawK_some, adopt, adoptVal, ex_iaddr, iaddrA_sl, Int.toNat_zero, Nat.mul_one, rd_vptr, gs0, gf, run_ret, bodyK_ret, results_2, resL_cons, res_tmp, resK_some, resL_nil, retvK_some, pbodyK_some, frz_tup, frz_bool]

theorem accepts18_err {D : Da} (hV : Va D) (z : Bool) (t : List Lf) (hl : t.length < 1099511627776) (hx : ∀ e ∈ t, e.x < 256) (he : tchkE t D.vars.toNat ≠ 0) : L.pcall 18 [D.av, tw z t] = some (.tup [.bool false, .int .i64 (tchkE t D.vars.toNat)]) := by
  have h1 := both_valid hV z t hl hx
  generalize tchkE t D.vars.toNat = e at *
  unfold Da.av at h1 ⊢
  unfold Da.cells at h1 ⊢
  rw [a18p, a18, pbodyA_eq]
  simp (maxSteps := 30000000) (disch := first | assumption | omega | (simp only [List.length_cons, List.length_nil, List.length_append, List.length_set, List.length_replicate, List.length_map, List.length_range, List.length_take, List.length_drop, List.all_cons, List.all_nil, AV.isCell, Bool.and_self, Bool.and_true, bs_length, is64_length, w64_length, ints_length, ints_length, bools_len, List.length_map] <;> omega) | rfl | decide) only [bodyA_eq, List.length_cons, List.length_nil, Nat.zero_add, Nat.reduceAdd, Nat.reduceSub, pads, List.cons_append, List.nil_append, run_seq, run_region, runOps_cons, oper_none, ex_box, AV.cells, opv, List.getD_cons_zero, List.all_cons, AV.isCell, List.all_nil, Bool.and_self, ↓reduceIte, putK_to, List.set_cons_succ, List.set_cons_zero, opsK_some, ex_mov, runOps_nil, regK_some, seqK_normal, ex_load, List.getD_cons_succ, rd_ptr, List.getElem?_cons_zero, rdK_cells, List.drop_zero, List.take_succ_cons, List.take_nil, loadK_n, valK_some, ex_call, List.map_cons, List.map_nil, pcallA_eq, frzN, List.mapM_cons, frz_agg, frz_int, frz_sl, List.mapM_nil, Option.pure_def, Option.bind_eq_bind, Option.bind_some, Option.map_some, argK_some, h1, retK_some, scal, scal1, ex_bin, bin_neq, he, decide_false, Bool.not_false, run_cond, condK_bool, run_ret, seqK_ret, bodyK_ret, results_2, resL_cons, res_tmp, resK_some, resL_nil, retvK_some, pbodyK_some, frz_tup, frz_bool]
end Go.Abs.Det
