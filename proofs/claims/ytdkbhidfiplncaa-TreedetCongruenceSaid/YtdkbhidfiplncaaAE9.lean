/- TreedetCongruence: the loops. -/
import Derived.Test.YtdkbhidfiplncaaAE8
namespace Go.Abs.Det
open Go Go.Abs
set_option linter.unusedSimpArgs false
set_option linter.unusedVariables false

section
variable {D : Da} {c : List Int} {H : Heap} {s6 : AV}

theorem con_q (hV : Va D) (hlen : c.length = D.next.length) (hC : Cong D (fun s t => c.getD s 0 = c.getD t 0)) (h0 : H[1]? = some (.cells false false D.cells)) {s t : Nat} (hs : s < D.next.length) (ht : t < D.next.length) (hst : c.getD s 0 = c.getD t 0) : ∀ e q, q + e = D.next.length →
    L.loop a7l1s a7l1 ⟨a7l1F (.bool false) (.ptr 1 0) (.sl false D.next.length (ints c)) s6 (.int .i64 (s : Nat)) (.int .i64 (t : Nat)) (.int .i64 (q : Nat)), H⟩ =
      some (.exit 4, ⟨a7l1F (.bool false) (.ptr 1 0) (.sl false D.next.length (ints c)) s6 (.int .i64 (s : Nat)) (.int .i64 (t : Nat)) (.int .i64 (D.next.length : Nat)), H⟩) := by
  have n64 := hV.n64
  intro e
  induction e with
  | zero =>
    intro q h
    obtain rfl : q = D.next.length := by omega
    rw [a7l1n]
    simp (maxSteps := 30000000) (disch := first | assumption | omega | (simp only [List.length_cons, List.length_nil, List.length_append, List.length_set, List.length_replicate, List.length_map, List.length_range, List.length_take, List.length_drop, List.all_cons, List.all_nil, AV.isCell, Bool.and_self, Bool.and_true, bs_length, is64_length, w64_length, ints_length, ints_length, bools_len, List.length_map] <;> omega) | rfl | decide) only [a7l1b, run_seq, run_region, runOps_cons, oper_none, ex_mov, opv, List.getD_cons_succ, List.getD_cons_zero, putK_to, List.set_cons_succ, List.set_cons_zero, opsK_some, ex_len, lenA_sl, valK_some, ex_bin, bin_lss, Int.lt_irrefl, decide_false, runOps_nil, regK_some, seqK_normal, run_cond, condK_bool, Bool.false_eq_true, ↓reduceIte, run_exit, seqK_exit, loopK_exit, a7l1c]
  | succ e ih =>
    intro q h
    have hlt : (q : Int) < (D.next.length : Nat) := by omega
    have ih' := ih (q + 1) (by omega)
    have hx := con_x (s6 := s6) hV hlen hC h0 hs ht (show q < D.next.length by omega) hst (two D.vars) 0 (by omega)
    simp only [Int.natCast_zero] at hx
    rw [a7l1n]
    simp (maxSteps := 30000000) (disch := first | assumption | omega | (simp only [List.length_cons, List.length_nil, List.length_append, List.length_set, List.length_replicate, List.length_map, List.length_range, List.length_take, List.length_drop, List.all_cons, List.all_nil, AV.isCell, Bool.and_self, Bool.and_true, bs_length, is64_length, w64_length, ints_length, ints_length, bools_len, List.length_map] <;> omega) | rfl | decide) only [a7l1b, run_seq, run_region, runOps_cons, oper_none, ex_mov, opv, List.getD_cons_succ, List.getD_cons_zero, putK_to, List.set_cons_succ, List.set_cons_zero, opsK_some, ex_len, lenA_sl, valK_some, ex_bin, bin_lss, hlt, decide_true, runOps_nil, regK_some, seqK_normal, run_cond, condK_bool, ↓reduceIte, run_skip, run_block, run_loop, a7l0c, hx, blockK_exit, blockK_normal, bin_add, cadd1, wr64, loopK_normal, a7l1c, ih']

set_option maxHeartbeats 1000000 in
theorem con_t (hV : Va D) (hlen : c.length = D.next.length) (hC : Cong D (fun s t => c.getD s 0 = c.getD t 0)) (h0 : H[1]? = some (.cells false false D.cells)) {s : Nat} (hs : s < D.next.length) : ∀ e t, t + e = s →
    L.loop a7l2s a7l2 ⟨a7l2F (.bool false) (.ptr 1 0) (.sl false D.next.length (ints c)) s6 (.int .i64 (s : Nat)) (.int .i64 (t : Nat)), H⟩ =
      some (.exit 2, ⟨a7l2F (.bool false) (.ptr 1 0) (.sl false D.next.length (ints c)) s6 (.int .i64 (s : Nat)) (.int .i64 (s : Nat)), H⟩) := by
  have n64 := hV.n64
  intro e
  induction e with
  | zero =>
    intro t h
    obtain rfl : t = s := by omega
    rw [a7l2n]
    simp (maxSteps := 30000000) (disch := first | assumption | omega | (simp only [List.length_cons, List.length_nil, List.length_append, List.length_set, List.length_replicate, List.length_map, List.length_range, List.length_take, List.length_drop, List.all_cons, List.all_nil, AV.isCell, Bool.and_self, Bool.and_true, bs_length, is64_length, w64_length, ints_length, ints_length, bools_len, List.length_map] <;> omega) | rfl | decide) only [a7l2b, run_seq, run_region, runOps_cons, oper_none, ex_mov, opv, List.getD_cons_succ, List.getD_cons_zero, putK_to, List.set_cons_succ, List.set_cons_zero, opsK_some, ex_bin, bin_lss, Int.lt_irrefl, decide_false, valK_some, runOps_nil, regK_some, seqK_normal, run_cond, condK_bool, Bool.false_eq_true, ↓reduceIte, run_exit, seqK_exit, loopK_exit, a7l2c]
  | succ e ih =>
    intro t h
    have hlt : (t : Int) < (s : Nat) := by omega
    have ih' := ih (t + 1) (by omega)
    have fl := hV.fl
    have g1 : List.take 1 (List.drop s (ints c)) = [.int .i64 (c.getD s 0)] := map_at1 _ _ (by omega)
    have g2 : List.take 1 (List.drop t (ints c)) = [.int .i64 (c.getD t 0)] := map_at1 _ _ (by omega)
    by_cases hst : c.getD s 0 = c.getD t 0
    · have hx := con_q (s6 := s6) hV hlen hC h0 hs (show t < D.next.length by omega) hst D.next.length 0 (by omega)
      have hf := hC.fin s t hs (by omega) hst
      have f1 : List.take 1 (List.drop s (bools D.fin)) = [.bool (D.fin.getD s false)] := map_at1 _ _ (by omega)
      have f2 : List.take 1 (List.drop t (bools D.fin)) = [.bool (D.fin.getD t false)] := map_at1 _ _ (by omega)
      simp only [Int.natCast_zero] at hx
      unfold Da.cells at h0
      rw [a7l2n]
      simp (maxSteps := 30000000) (disch := first | assumption | omega | (simp only [List.length_cons, List.length_nil, List.length_append, List.length_set, List.length_replicate, List.length_map, List.length_range, List.length_take, List.length_drop, List.all_cons, List.all_nil, AV.isCell, Bool.and_self, Bool.and_true, bs_length, is64_length, w64_length, ints_length, ints_length, bools_len, List.length_map] <;> omega) | rfl | decide) only [a7l2b, run_seq, run_region, runOps_cons, oper_none, ex_mov, opv, List.getD_cons_succ, List.getD_cons_zero, putK_to, List.set_cons_succ, List.set_cons_zero, opsK_some, ex_bin, bin_lss, hlt, decide_true, valK_some, runOps_nil, regK_some, seqK_normal, run_cond, condK_bool, ↓reduceIte, run_skip, run_block, run_draw, List.take_succ_cons, List.take_zero, runFree_cons, foper_none, fe_mov, fstK_some, fputK_to, freeK_some, fe_iaddr, ex_iaddr, iaddrA_sl, Int.toNat_natCast, Nat.mul_one, fe_load, ex_load, rd_vptr, ints_drop, ints_take, ints_at0, getD_dropI, Nat.add_zero, hst, loadK_1, runFree_nil, drawK_some, List.drop_succ_cons, List.drop_zero, adopt, adoptVal, bin_neq, Bool.not_true, Bool.false_eq_true, fe_faddr, ex_faddr, faddrA_ptr, Nat.zero_add, rd_ptr, h0, fl, rdK_cells, List.take_nil, f1, hf, f2, ex_beq, beqA_t, run_loop, a7l1c, hx, blockK_exit, blockK_normal, bin_add, cadd1, wr64, loopK_normal, a7l2c, ih']
    · rw [a7l2n]
      simp (maxSteps := 30000000) (disch := first | assumption | omega | (simp only [List.length_cons, List.length_nil, List.length_append, List.length_set, List.length_replicate, List.length_map, List.length_range, List.length_take, List.length_drop, List.all_cons, List.all_nil, AV.isCell, Bool.and_self, Bool.and_true, bs_length, is64_length, w64_length, ints_length, ints_length, bools_len, List.length_map] <;> omega) | rfl | decide) only [a7l2b, run_seq, run_region, runOps_cons, oper_none, ex_mov, opv, List.getD_cons_succ, List.getD_cons_zero, putK_to, List.set_cons_succ, List.set_cons_zero, opsK_some, ex_bin, bin_lss, hlt, decide_true, valK_some, runOps_nil, regK_some, seqK_normal, run_cond, condK_bool, ↓reduceIte, run_skip, run_block, run_draw, List.take_succ_cons, List.take_zero, runFree_cons, foper_none, fe_mov, fstK_some, fputK_to, freeK_some, fe_iaddr, ex_iaddr, iaddrA_sl, Int.toNat_natCast, Nat.mul_one, fe_load, ex_load, rd_vptr, ints_drop, ints_take, ints_at0, getD_dropI, Nat.add_zero, loadK_1, runFree_nil, drawK_some, List.drop_succ_cons, List.drop_zero, adopt, adoptVal, bin_neq, hst, decide_false, Bool.not_false, run_exit, seqK_exit, blockK_exit, bin_add, cadd1, wr64, loopK_normal, a7l2c, ih']

set_option maxRecDepth 10000 in
set_option maxHeartbeats 2000000 in
theorem con_s (hV : Va D) {key : Nat → List Nat} (hc : c = nums (numK key 0 D.next.length []).1) (hC : Cong D (fun s t => c.getD s 0 = c.getD t 0)) (h0 : H[1]? = some (.cells false false D.cells)) : ∀ e s, s + e = D.next.length →
    L.loop a7l3s a7l3 ⟨a7l3F (.bool false) (.ptr 1 0) (.sl false D.next.length (ints c)) (.int .i64 (mxK key s : Nat)) (.int .i64 (s : Nat)), H⟩ =
      some (.exit 0, ⟨a7l3F (.bool false) (.ptr 1 0) (.sl false D.next.length (ints c)) (.int .i64 (mxK key D.next.length : Nat)) (.int .i64 (D.next.length : Nat)), H⟩) := by
  have n64 := hV.n64
  have hlen : c.length = D.next.length := by rw [hc]; unfold nums; rw [List.length_map]; exact (numK_ok key _).len
  intro e
  induction e with
  | zero =>
    intro s h
    obtain rfl : s = D.next.length := by omega
    rw [a7l3n]
    simp (maxSteps := 30000000) (disch := first | assumption | omega | (simp only [List.length_cons, List.length_nil, List.length_append, List.length_set, List.length_replicate, List.length_map, List.length_range, List.length_take, List.length_drop, List.all_cons, List.all_nil, AV.isCell, Bool.and_self, Bool.and_true, bs_length, is64_length, w64_length, ints_length, ints_length, bools_len, List.length_map] <;> omega) | rfl | decide) only [a7l3b, run_seq, run_region, runOps_cons, oper_none, ex_mov, opv, List.getD_cons_succ, List.getD_cons_zero, putK_to, List.set_cons_succ, List.set_cons_zero, opsK_some, ex_len, lenA_sl, valK_some, ex_bin, bin_lss, Int.lt_irrefl, decide_false, runOps_nil, regK_some, seqK_normal, run_cond, condK_bool, Bool.false_eq_true, ↓reduceIte, run_exit, seqK_exit, loopK_exit, a7l3c]
  | succ e ih =>
    intro s h
    have hlt : (s : Int) < (D.next.length : Nat) := by omega
    have hs : s < D.next.length := by omega
    have ih' := ih (s + 1) (by omega)
    have g1 : List.take 1 (List.drop s (ints c)) = [.int .i64 (c.getD s 0)] := map_at1 _ _ (by omega)
    have hv : c.getD s 0 = (((numK key 0 D.next.length []).1.getD s 0 : Nat) : Int) := by rw [hc, nums_get]
    obtain ⟨p1, p2, p3⟩ := num_step key hs
    have hmx : mxK key s ≤ s := (numK_ok key s).le
    have hx := fun s6 => con_t (s6 := s6) hV hlen hC h0 hs s 0 (by omega)
    simp only [Int.natCast_zero] at hx
    generalize (numK key 0 D.next.length []).1.getD s 0 = v at *
    have v0 : ¬ (v : Int) < 0 := by omega
    by_cases cv : v = mxK key s
    · have p4 := p2 cv
      rw [p4] at ih'
      clear p1 p2 p3 p4
      subst cv
      generalize mxK key s = w at *
      have hww : ¬ (w : Int) < (w : Nat) := by omega
      rw [a7l3n]
      simp (maxSteps := 30000000) (disch := first | assumption | omega | (simp only [List.length_cons, List.length_nil, List.length_append, List.length_set, List.length_replicate, List.length_map, List.length_range, List.length_take, List.length_drop, List.all_cons, List.all_nil, AV.isCell, Bool.and_self, Bool.and_true, bs_length, is64_length, w64_length, ints_length, ints_length, bools_len, List.length_map] <;> omega) | rfl | decide) only [a7l3b, run_seq, run_region, runOps_cons, oper_none, ex_mov, opv, List.getD_cons_succ, List.getD_cons_zero, putK_to, List.set_cons_succ, List.set_cons_zero, opsK_some, ex_len, lenA_sl, valK_some, ex_bin, bin_lss, hlt, decide_true, runOps_nil, regK_some, seqK_normal, run_cond, condK_bool, ↓reduceIte, run_skip, run_block, ex_iaddr, iaddrA_sl, Int.toNat_natCast, Nat.mul_one, ex_load, rd_vptr, ints_drop, ints_take, ints_at0, getD_dropI, Nat.add_zero, hv, loadK_1, v0, decide_false, oper_guard, guardK_bool, bin_gtr, hww, ex_pick, pickA_bool, Bool.false_eq_true, bin_eql, bin_add, cadd1, wr64, run_loop, a7l2c, hx, blockK_exit, blockK_normal, loopK_normal, a7l3c, ih']
    · have p4 := p3 cv
      rw [p4] at ih'
      clear p2 p3 p4
      generalize mxK key s = w at *
      have v1 : ¬ (w : Int) < (v : Nat) := by omega
      have cv' : ¬ ((v : Nat) : Int) = (w : Nat) := by omega
      rw [a7l3n]
      simp (maxSteps := 30000000) (disch := first | assumption | omega | (simp only [List.length_cons, List.length_nil, List.length_append, List.length_set, List.length_replicate, List.length_map, List.length_range, List.length_take, List.length_drop, List.all_cons, List.all_nil, AV.isCell, Bool.and_self, Bool.and_true, bs_length, is64_length, w64_length, ints_length, ints_length, bools_len, List.length_map] <;> omega) | rfl | decide) only [a7l3b, run_seq, run_region, runOps_cons, oper_none, ex_mov, opv, List.getD_cons_succ, List.getD_cons_zero, putK_to, List.set_cons_succ, List.set_cons_zero, opsK_some, ex_len, lenA_sl, valK_some, ex_bin, bin_lss, hlt, decide_true, runOps_nil, regK_some, seqK_normal, run_cond, condK_bool, ↓reduceIte, run_skip, run_block, ex_iaddr, iaddrA_sl, Int.toNat_natCast, Nat.mul_one, ex_load, rd_vptr, ints_drop, ints_take, ints_at0, getD_dropI, Nat.add_zero, hv, loadK_1, v0, decide_false, oper_guard, guardK_bool, bin_gtr, v1, ex_pick, pickA_bool, Bool.false_eq_true, bin_eql, cv', run_loop, a7l2c, hx, blockK_exit, blockK_normal, bin_add, cadd1, wr64, loopK_normal, a7l3c, ih']
end
end Go.Abs.Det
