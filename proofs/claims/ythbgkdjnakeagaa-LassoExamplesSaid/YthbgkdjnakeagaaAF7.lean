/- root, Clone, Concat, Canonical: the shortest form. -/
import Derived.Test.YthbgkdjnakeagaaAF6
namespace Go.Abs.Lasso
set_option linter.unusedVariables false
set_option linter.unusedSimpArgs false
open Go Go.Abs

theorem dat_ints : True = True := rfl
theorem dat_w64 : True = True := rfl

/-! the word of a lasso -/
theorem periodic {r q : List Nat} {per : Nat} (hper : 0 < per) (hq : per ≤ q.length) (h : ∀ t, t + per < q.length → q.getD t 0 = q.getD (t + per) 0) : ∀ t, t < q.length → q.getD t 0 = q.getD (t % per) 0 := by
  intro t
  induction t using Nat.strongRecOn with
  | _ t ih =>
    intro ht
    by_cases h1 : t < per
    · rw [Nat.mod_eq_of_lt h1]
    · have := h (t - per) (by omega)
      rw [show t - per + per = t by omega] at this
      rw [← this, ih (t - per) (by omega) (by omega)]
      exact congrArg (q.getD · 0) (Nat.mod_eq_sub_mod (by omega)).symm

theorem getD_take {l : List Nat} {n t : Nat} (h : t < n) : (l.take n).getD t 0 = l.getD t 0 := by
  simp [List.getD, List.getElem?_take, h]
theorem getD_drop (l : List Nat) (n t : Nat) : (l.drop n).getD t 0 = l.getD (n + t) 0 := by
  simp [List.getD, List.getElem?_drop]
theorem getD_append_left {a b : List Nat} {t : Nat} (h : t < a.length) : (a ++ b).getD t 0 = a.getD t 0 := by
  simp [List.getD, List.getElem?_append_left h]
theorem getD_append_right {a b : List Nat} {t : Nat} (h : a.length ≤ t) : (a ++ b).getD t 0 = b.getD (t - a.length) 0 := by
  simp [List.getD, List.getElem?_append_right h]

/-- the letters by natural position -/
def seqM (p q : List Nat) (i : Nat) : Nat := if i < p.length then p.getD i 0 else (fullM q).getD ((i - p.length) % (fullM q).length) 0

theorem atM_nat (p q : List Nat) (i : Nat) : atM p q (i : Nat) = seqM p q i := by
  unfold atM seqM
  have h : ¬ ((i : Int) < 0) := by omega
  simp [h]

theorem rot_at (r : List Nat) (a : Nat) (ha : a < r.length) (t : Nat) (ht : t < r.length) : (r.drop a ++ r.take a).getD t 0 = r.getD ((a + t) % r.length) 0 := by
  by_cases h : t < r.length - a
  · rw [getD_append_left (by simpa using h), getD_drop, Nat.mod_eq_of_lt (by omega)]
  · rw [getD_append_right (by simpa using (by omega : r.length - a ≤ t)), getD_take (by simp; omega), Nat.mod_eq_sub_mod (by omega), Nat.mod_eq_of_lt (by omega), List.length_drop]
    congr 1; omega


/-! periods -/
theorem per_mulF {h : Nat → Nat} {x : Nat} (hp : ∀ t, h (t + x) = h t) : ∀ k t, h (t + k * x) = h t
  | 0, t => by simp
  | k + 1, t => by rw [Nat.succ_mul, ← Nat.add_assoc, hp, per_mulF hp k t]

theorem per_gcd {h : Nat → Nat} : ∀ x y : Nat, (∀ t, h (t + x) = h t) → (∀ t, h (t + y) = h t) → ∀ t, h (t + Nat.gcd x y) = h t := by
  intro x
  induction x using Nat.strongRecOn with
  | _ x ih =>
    intro y hx hy t
    by_cases h0 : x = 0
    · subst h0; rw [Nat.gcd_zero_left]; exact hy t
    · rw [Nat.gcd_rec]
      refine ih (y % x) (Nat.mod_lt _ (by omega)) x (fun t => ?_) hx t
      have := per_mulF hx (y / x) (t + y % x)
      rw [← this, show t + y % x + y / x * x = t + y by rw [Nat.add_assoc, Nat.mod_add_div']]
      exact hy t

/-- the least length of which the word is a power -/
def RootP (w : List Nat) (p : Nat) : Prop := 0 < p ∧ p ≤ w.length ∧ w.length % p = 0 ∧ (∀ t, t + p < w.length → w.getD t 0 = w.getD (t + p) 0) ∧
  ∀ d, 0 < d → d ≤ w.length → w.length % d = 0 → (∀ t, t + d < w.length → w.getD t 0 = w.getD (t + d) 0) → p ≤ d

theorem bord_of_per {w : List Nat} {d : Nat} (h0 : 0 < d) (hd : d ≤ w.length) (h : ∀ t, t + d < w.length → w.getD t 0 = w.getD (t + d) 0) : Bord w w.length (w.length - d) := by
  refine ⟨by omega, fun t ht => ?_⟩
  rw [h t (by omega)]; congr 1; omega


theorem root_min {w : List Nat} {F d : Nat} (hF : Bord w w.length F) (hm : MaxB w w.length F) (h0 : 0 < d) (hd : d ≤ w.length) (hdv : w.length % d = 0) (h : ∀ t, t + d < w.length → w.getD t 0 = w.getD (t + d) 0) :
    w.length - F ≤ d ∧ (w.length % (w.length - F) ≠ 0 → w.length ≤ d) := by
  have h1 := hm _ (bord_of_per h0 hd h)
  have hF1 := hF.1
  refine ⟨by omega, fun hne => ?_⟩
  rcases Nat.lt_or_ge d w.length with hlt | hge
  · exfalso
    obtain ⟨k, hk⟩ := Nat.dvd_of_mod_eq_zero hdv
    have hk2 : 2 ≤ k := by
      rcases Nat.lt_or_ge k 2 with e | e
      · have : k = 0 ∨ k = 1 := by omega
        rcases this with rfl | rfl <;> omega
      · exact e
    have h2d : d + d ≤ w.length := by
      have : d * 2 ≤ d * k := Nat.mul_le_mul_left d hk2
      omega
    have hT : ∀ t, t < w.length → w.getD t 0 = w.getD (t % d) 0 := periodic (r := []) h0 hd h
    have e1 : ∀ t, w.getD ((t + d) % d) 0 = w.getD (t % d) 0 := fun t => by rw [Nat.add_mod_right]
    have e2 : ∀ t, w.getD ((t + (w.length - F)) % d) 0 = w.getD (t % d) 0 := fun t => by
      have hmd := Nat.mod_lt t h0
      have a1 : (t + (w.length - F)) % d = (t % d + (w.length - F)) % d := by rw [Nat.mod_add_mod]
      rw [a1, ← hT _ (by omega), hF.2 (t % d) (by omega)]
      congr 1; omega
    have e3 := per_gcd (h := fun t => w.getD (t % d) 0) _ _ e2 e1
    have hg0 : 0 < Nat.gcd (w.length - F) d := Nat.gcd_pos_of_pos_right _ h0
    have hgd : Nat.gcd (w.length - F) d ≤ d := Nat.le_of_dvd h0 (Nat.gcd_dvd_right ..)
    have hgp : Nat.gcd (w.length - F) d ≤ w.length - F := Nat.le_of_dvd (by omega) (Nat.gcd_dvd_left ..)
    have h4 := hm _ (bord_of_per hg0 (by omega) (fun t ht => by
      rw [hT t (by omega), hT _ ht]
      exact (e3 t).symm))
    have heq : Nat.gcd (w.length - F) d = w.length - F := by omega
    have hdvd : (w.length - F) ∣ d := heq ▸ Nat.gcd_dvd_right (w.length - F) d
    exact hne (Nat.mod_eq_zero_of_dvd (Nat.dvd_trans hdvd ⟨k, hk⟩))
  · exact hge

theorem root_eq (z : Bool) (w : List Nat) (hw0 : 0 < w.length) (hw : w.length < 1099511627776) :
    ∃ p, RootP w p ∧ L.pcall 36 [word z w] = some (word z (w.take p)) := by
  obtain ⟨fl, k', h1, h2, h3⟩ := root_outer (z := z) hw (w.length - 1) 1 0 (List.replicate (w.length + 1) 0) (by omega) (by omega) (by simp) (fun j h0 h1 => by
    have : j = 1 := by omega
    subst this
    rw [List.getD_eq_getElem?_getD, List.getElem?_replicate, if_pos (by omega)]
    exact ⟨.zero (by omega), fun b hb => by have := hb.1; show b ≤ 0; omega⟩) (.zero (by omega)) (fun b hb => by have := hb.1; omega)
  change L.loop a36l1s a36l1 ⟨a36l1F (word z w) (.own false 0 0 (w.length + 1) 1) (.int .i64 0) (.int .i64 1), _⟩ = _ at h3
  obtain ⟨hb, hmx⟩ := h2 w.length hw0 (Nat.le_refl _)
  have hb1 := hb.1
  by_cases hd : w.length % (w.length - fl.getD w.length 0) = 0
  · refine ⟨w.length - fl.getD w.length 0, ⟨by omega, by omega, hd, fun t ht => ?_, fun d d1 d2 d3 d4 => (root_min hb hmx d1 d2 d3 d4).1⟩, ?_⟩
    · rw [hb.2 t (by omega)]; congr 1; omega
    · have hd' : (((w.length % (w.length - fl.getD w.length 0) : Nat) : Int) = 0) := by omega
      rw [a36p, a36, pbodyA_eq]
      simp (maxSteps := 30000000) (disch := first | assumption | omega | (simp only [List.length_cons, List.length_nil, List.length_append, List.length_set, List.length_replicate, List.length_map, List.length_range, List.length_take, List.length_drop, List.all_cons, List.all_nil, AV.isCell, Bool.and_self, Bool.and_true, bs_length, is64_length] <;> omega) | rfl | decide) only [bodyA_eq, List.length_cons, List.length_nil, Nat.zero_add, Nat.reduceSub, pads, List.cons_append, List.nil_append, run_seq, run_region, runOps_cons, oper_none, ex_mov, opv, putK_to, List.set_cons_succ, List.set_cons_zero, opsK_some, runOps_nil, regK_some, seqK_normal, List.getD_cons_zero, ex_len, List.getD_cons_succ, lenA_sl, valK_some, ex_bin, bin_add, cadd1, wr64, ex_mkslice, mksK_int, Int.toNat_natCast, repz_is64, newA_own, run_block, run_loop, a36l1c, h3, blockK_exit, if_true, ex_iaddr, iaddrA_own, Nat.mul_one, ex_load, rd_ptr, List.getElem?_cons_zero, rdK_cells, is64_drop, is64_take, is64_at0, drop_getD, Nat.add_zero, loadK_1, bin_sub, csub, bin_rem, ctmod, hd', bin_eql, decide_true, run_cond, condK_bool, ex_slice, Option.map_none, Option.map_some, sliceA_sl, bounds_ns, cutK_sl, Nat.sub_zero, List.drop_zero, bs_take, run_ret, run_skip, seqK_ret, bodyK_ret, results_1, res_tmp, retvK_some, pbodyK_some, frzN, frz_sl]
      exact congrArg some (sl_word (by rw [List.length_take, Nat.min_eq_left (by omega)]))
  · refine ⟨w.length, ⟨hw0, Nat.le_refl _, Nat.mod_self _, fun t ht => (by omega), fun d d1 d2 d3 d4 => (root_min hb hmx d1 d2 d3 d4).2 hd⟩, ?_⟩
    have hd' : ¬ (((w.length % (w.length - fl.getD w.length 0) : Nat) : Int) = 0) := by omega
    rw [a36p, a36, pbodyA_eq]
    simp (maxSteps := 30000000) (disch := first | assumption | omega | (simp only [List.length_cons, List.length_nil, List.length_append, List.length_set, List.length_replicate, List.length_map, List.length_range, List.length_take, List.length_drop, List.all_cons, List.all_nil, AV.isCell, Bool.and_self, Bool.and_true, bs_length, is64_length] <;> omega) | rfl | decide) only [bodyA_eq, List.length_cons, List.length_nil, Nat.zero_add, Nat.reduceSub, pads, List.cons_append, List.nil_append, run_seq, run_region, runOps_cons, oper_none, ex_mov, opv, putK_to, List.set_cons_succ, List.set_cons_zero, opsK_some, runOps_nil, regK_some, seqK_normal, List.getD_cons_zero, ex_len, List.getD_cons_succ, lenA_sl, valK_some, ex_bin, bin_add, cadd1, wr64, ex_mkslice, mksK_int, Int.toNat_natCast, repz_is64, newA_own, run_block, run_loop, a36l1c, h3, blockK_exit, if_true, ex_iaddr, iaddrA_own, Nat.mul_one, ex_load, rd_ptr, List.getElem?_cons_zero, rdK_cells, is64_drop, is64_take, is64_at0, drop_getD, Nat.add_zero, loadK_1, bin_sub, csub, bin_rem, ctmod, bin_eql, hd', decide_false, run_cond, condK_bool, Bool.false_eq_true, ex_slice, Option.map_none, Option.map_some, sliceA_sl, bounds_ns, cutK_sl, Nat.sub_zero, List.drop_zero, bs_take, run_ret, run_skip, if_false, bodyK_ret, results_1, res_tmp, retvK_some, pbodyK_some, frzN, frz_sl, List.take_length]
theorem clone_eq (z : Bool) (w : List Nat) (hw : w.length < 1099511627776) (hz : z = true → w = []) : L.pcall 37 [word z w] = some (word z w) := by
  rw [a37p, a37, pbodyA_eq]
  cases z
  · simp (maxSteps := 30000000) (disch := first | assumption | omega | (simp only [List.length_cons, List.length_nil, List.length_append, List.length_set, List.length_replicate, List.length_map, List.length_range, List.length_take, List.length_drop, List.all_cons, List.all_nil, AV.isCell, Bool.and_self, Bool.and_true, bs_length, is64_length] <;> omega) | rfl | decide) only [bodyA_eq, List.length_cons, List.length_nil, Nat.zero_add, Nat.reduceSub, pads, List.cons_append, List.nil_append, run_seq, run_region, runOps_cons, oper_none, ex_mov, opv, putK_to, List.set_cons_succ, List.set_cons_zero, opsK_some, runOps_nil, regK_some, seqK_normal, List.getD_cons_zero, ex_isnil, List.getD_cons_succ, isnilA_slf, valK_some, run_cond, condK_bool, Bool.false_eq_true, run_ret, run_skip, if_false, ex_bslice, AV.cells, List.all_nil, repz_0, Nat.mul_one, List.map_nil, fillA, newK_some, newA_own, if_true, ex_append, src_sl, appK_own, List.getElem?_cons_zero, appOK_cells, Bool.false_and, List.take_nil, bodyK_ret, results_1, res_tmp, retvK_some, pbodyK_some, frzN, frz_own, List.getElem?_cons_succ, frzK_cells, List.drop_zero, bs_take, List.take_length, frz_bs, slK_some]
  · rw [hz rfl]
    simp (maxSteps := 30000000) (disch := first | assumption | omega | (simp only [List.length_cons, List.length_nil, List.length_append, List.length_set, List.length_replicate, List.length_map, List.length_range, List.length_take, List.length_drop, List.all_cons, List.all_nil, AV.isCell, Bool.and_self, Bool.and_true, bs_length, is64_length] <;> omega) | rfl | decide) only [bodyA_eq, List.length_cons, List.length_nil, Nat.zero_add, Nat.reduceSub, pads, List.cons_append, List.nil_append, run_seq, run_region, runOps_cons, oper_none, ex_mov, opv, putK_to, List.set_cons_succ, List.set_cons_zero, opsK_some, runOps_nil, regK_some, seqK_normal, List.getD_cons_zero, ex_isnil, List.getD_cons_succ, isnilA_slf, valK_some, run_cond, condK_bool, run_ret, run_skip, if_true, seqK_ret, bodyK_ret, results_1, res_tmp, retvK_some, pbodyK_some, frzN, frz_sl]
    rfl

set_option maxHeartbeats 1000000 in
/-- what Concat of two words gives: nil or not -/
theorem concat_eq (z1 z2 : Bool) (a b : List Nat) (ha : a.length < 1099511627776) (hb : b.length < 1099511627776) : ∃ z, L.pcall 38 [.sl false 2 [word z1 a, word z2 b]] = some (word z (a ++ b)) ∧ (z = true → a ++ b = []) := by
  by_cases h0 : a.length + b.length = 0
  · have h1 : a = [] := List.length_eq_zero_iff.1 (by omega)
    have h2 : b = [] := List.length_eq_zero_iff.1 (by omega)
    subst h1; subst h2
    refine ⟨true, ?_, by simp⟩
    rw [a38p, a38, pbodyA_eq]
    simp (maxSteps := 30000000) (disch := first | assumption | omega | (simp only [List.length_cons, List.length_nil, List.length_append, List.length_set, List.length_replicate, List.length_map, List.length_range, List.length_take, List.length_drop, List.all_cons, List.all_nil, AV.isCell, Bool.and_self, Bool.and_true, bs_length, is64_length] <;> omega) | rfl | decide) only [bodyA_eq, List.length_cons, List.length_nil, Nat.zero_add, Nat.reduceSub, pads, List.cons_append, List.nil_append, run_seq, run_region, runOps_cons, oper_none, ex_mov, opv, putK_to, List.set_cons_succ, List.set_cons_zero, opsK_some, runOps_nil, regK_some, seqK_normal, List.getD_cons_zero, ex_len, List.getD_cons_succ, lenA_sl, castLit, valK_some, run_block, run_loop, a38l0c, a38l0n, a38l0b, ex_bin, bin_lss, Int.reduceLT, decide_true, run_cond, condK_bool, run_skip, run_exit, if_true, ex_iaddr, iaddrA_sl, Int.toNat_zero, Nat.mul_one, ex_load, rd_vptr, List.drop_zero, List.take_succ_cons, List.take_zero, loadK_1, bin_add, Int.add_zero, wr64, Int.lt_irrefl, decide_false, Bool.false_eq_true, run_stuck, if_false, blockK_normal, Int.zero_add, loopK_normal, Int.toNat_one, List.drop_succ_cons, List.take_nil, Int.reduceAdd, seqK_exit, loopK_exit, blockK_exit, ex_icall, List.map_cons, List.map_nil, a49i, a49, List.append_nil, Nat.reduceAdd, ex_cap, bin_sub, Int.sub_zero, bin_gtr, ex_slice, Option.map_none, Option.map_some, sliceA_sl, bounds_ns, cutK_sl, Nat.sub_zero, List.drop_nil, ex_appendz, appzK_int, beq_self_eq_true, repz_0, newA_own, sliceA_own, cutK_own, Nat.add_zero, run_ret, bodyK_ret, results_1, res_tmp, retvK_some, a38l1c, a38l1n, a38l1b, ex_append, src_sl, appK_nil, appK_own, List.getElem?_cons_zero, appOK_cells, Bool.and_self, pbodyK_some, frzN, frz_own, List.getElem?_cons_succ, frzK_cells, List.mapM_nil, Option.pure_def, slK_some]
    rfl
  · refine ⟨false, ?_, by simp⟩
    have hbeq : (a.length + b.length == 0) = false := by simpa using h0
    have hn0 : (0 : Int) < ((a.length + b.length : Nat) : Int) := by omega
    rw [a38p, a38, pbodyA_eq]
    simp (maxSteps := 30000000) (disch := first | assumption | omega | (simp only [List.length_cons, List.length_nil, List.length_append, List.length_set, List.length_replicate, List.length_map, List.length_range, List.length_take, List.length_drop, List.all_cons, List.all_nil, AV.isCell, Bool.and_self, Bool.and_true, bs_length, is64_length] <;> omega) | rfl | decide) only [bodyA_eq, List.length_cons, List.length_nil, Nat.zero_add, Nat.reduceSub, pads, List.cons_append, List.nil_append, run_seq, run_region, runOps_cons, oper_none, ex_mov, opv, putK_to, List.set_cons_succ, List.set_cons_zero, opsK_some, runOps_nil, regK_some, seqK_normal, List.getD_cons_zero, ex_len, List.getD_cons_succ, lenA_sl, castLit, valK_some, run_block, run_loop, a38l0c, a38l0n, a38l0b, ex_bin, bin_lss, Int.reduceLT, decide_true, run_cond, condK_bool, run_skip, run_exit, if_true, ex_iaddr, iaddrA_sl, Int.toNat_zero, Nat.mul_one, ex_load, rd_vptr, List.drop_zero, List.take_succ_cons, List.take_zero, loadK_1, bin_add, Int.zero_add, wr64, ltc0, decide_false, Bool.false_eq_true, run_stuck, if_false, blockK_normal, loopK_normal, Int.toNat_one, List.drop_succ_cons, List.take_nil, cadd, Int.reduceAdd, Int.lt_irrefl, seqK_exit, loopK_exit, blockK_exit, ex_icall, List.map_cons, List.map_nil, a49i, a49, List.append_nil, Nat.reduceAdd, ex_cap, bin_sub, Int.sub_zero, bin_gtr, hn0, ex_slice, Option.map_none, Option.map_some, sliceA_sl, bounds_ns, cutK_sl, Nat.sub_zero, List.drop_nil, ex_appendz, appzK_int, Int.toNat_natCast, hbeq, repz_bs, newA_own, sliceA_own, cutK_own, Nat.add_zero, run_ret, bodyK_ret, results_1, res_tmp, retvK_some, a38l1c, a38l1n, a38l1b, ex_append, src_sl, appK_own, List.getElem?_cons_zero, appOK_cells, Bool.false_and, List.getElem?_cons_succ, bs_take, List.take_length, bs_app, pbodyK_some, frzN, frz_own, frzK_cells, frz_bs, slK_some]
    rw [← List.length_append, List.take_length]


theorem clone_own (w : List Nat) (hw : w.length < 1099511627776) : ocallA L 37 [word false w] = some (.own false 0 0 w.length 1, [.cells false false (bs w)]) ∧ ocallA L 37 [.sl true 0 []] = some (.sl true 0 [], []) := by
  constructor
  · rw [ocallA_eq, a37i, a37, bodyA_eq]
    simp (maxSteps := 30000000) (disch := first | assumption | omega | (simp only [List.length_cons, List.length_nil, List.length_append, List.length_set, List.length_replicate, List.length_map, List.length_range, List.length_take, List.length_drop, List.all_cons, List.all_nil, AV.isCell, Bool.and_self, Bool.and_true, bs_length, is64_length] <;> omega) | rfl | decide) only [List.append_nil, List.length_cons, List.length_nil, Nat.zero_add, Nat.reduceSub, pads, List.cons_append, List.nil_append, run_seq, run_region, runOps_cons, oper_none, ex_mov, opv, putK_to, List.set_cons_succ, List.set_cons_zero, opsK_some, runOps_nil, regK_some, seqK_normal, List.getD_cons_zero, ex_isnil, List.getD_cons_succ, isnilA_slf, valK_some, run_cond, condK_bool, Bool.false_eq_true, run_ret, run_skip, if_false, ex_bslice, AV.cells, List.all_nil, repz_0, Nat.mul_one, List.map_nil, fillA, newK_some, newA_own, if_true, ex_append, src_sl, appK_own, List.getElem?_cons_zero, appOK_cells, Bool.false_and, List.take_nil, bodyK_ret, results_1, res_tmp, retvK_some, ocallK_some, compact_own, take1_own, List.getElem?_cons_succ, findI_nil, t1I_new, dat_bs, Option.map_some, List.map_cons]
  · rw [ocallA_eq, a37i, a37, bodyA_eq]
    simp (maxSteps := 30000000) (disch := first | assumption | omega | (simp only [List.length_cons, List.length_nil, List.length_append, List.length_set, List.length_replicate, List.length_map, List.length_range, List.length_take, List.length_drop, List.all_cons, List.all_nil, AV.isCell, Bool.and_self, Bool.and_true, bs_length, is64_length] <;> omega) | rfl | decide) only [List.append_nil, List.length_cons, List.length_nil, Nat.zero_add, Nat.reduceSub, pads, List.cons_append, List.nil_append, run_seq, run_region, runOps_cons, oper_none, ex_mov, opv, putK_to, List.set_cons_succ, List.set_cons_zero, opsK_some, runOps_nil, regK_some, seqK_normal, List.getD_cons_zero, ex_isnil, List.getD_cons_succ, isnilA_slf, valK_some, run_cond, condK_bool, run_ret, run_skip, if_true, seqK_ret, bodyK_ret, results_1, res_tmp, retvK_some, ocallK_some, compact_sl, Option.map_some, List.map_nil]

set_option maxHeartbeats 1000000 in
theorem concat_own (z1 z2 : Bool) (a b : List Nat) (ha : a.length < 1099511627776) (hb : b.length < 1099511627776) (h0 : ¬ a.length + b.length = 0) : ocallA L 38 [.sl false 2 [word z1 a, word z2 b]] = some (.own false 0 0 (a.length + b.length) 1, [.cells false false (bs (a ++ b))]) := by
  have hbeq : (a.length + b.length == 0) = false := by simpa using h0
  have hn0 : (0 : Int) < ((a.length + b.length : Nat) : Int) := by omega
  rw [ocallA_eq, a38i, a38, bodyA_eq]
  simp (maxSteps := 30000000) (disch := first | assumption | omega | (simp only [List.length_cons, List.length_nil, List.length_append, List.length_set, List.length_replicate, List.length_map, List.length_range, List.length_take, List.length_drop, List.all_cons, List.all_nil, AV.isCell, Bool.and_self, Bool.and_true, bs_length, is64_length] <;> omega) | rfl | decide) only [List.append_nil, List.length_cons, List.length_nil, Nat.zero_add, Nat.reduceSub, pads, List.cons_append, List.nil_append, run_seq, run_region, runOps_cons, oper_none, ex_mov, opv, putK_to, List.set_cons_succ, List.set_cons_zero, opsK_some, runOps_nil, regK_some, seqK_normal, List.getD_cons_zero, ex_len, List.getD_cons_succ, lenA_sl, castLit, valK_some, run_block, run_loop, a38l0c, a38l0n, a38l0b, ex_bin, bin_lss, Int.reduceLT, decide_true, run_cond, condK_bool, run_skip, run_exit, if_true, ex_iaddr, iaddrA_sl, Int.toNat_zero, Nat.mul_one, ex_load, rd_vptr, List.drop_zero, List.take_succ_cons, List.take_zero, loadK_1, bin_add, Int.zero_add, wr64, ltc0, decide_false, Bool.false_eq_true, run_stuck, if_false, blockK_normal, loopK_normal, Int.toNat_one, List.drop_succ_cons, List.take_nil, cadd, Int.reduceAdd, Int.lt_irrefl, seqK_exit, loopK_exit, blockK_exit, ex_icall, List.map_cons, List.map_nil, a49i, a49, bodyA_eq, Nat.reduceAdd, ex_cap, bin_sub, Int.sub_zero, bin_gtr, hn0, ex_slice, Option.map_none, Option.map_some, sliceA_sl, bounds_ns, cutK_sl, Nat.sub_zero, List.drop_nil, ex_appendz, appzK_int, Int.toNat_natCast, hbeq, repz_bs, newA_own, sliceA_own, cutK_own, Nat.add_zero, run_ret, bodyK_ret, results_1, res_tmp, retvK_some, a38l1c, a38l1n, a38l1b, ex_append, src_sl, appK_own, List.getElem?_cons_zero, appOK_cells, Bool.false_and, List.getElem?_cons_succ, bs_take, List.take_length, bs_app, ocallK_some, compact_own, take1_own, findI_nil, t1I_new, dat_bs]
end Go.Abs.Lasso
