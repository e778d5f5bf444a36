/- Check, of the program. -/
import Derived.Test.YthbgkdjnakeagaaAE1
namespace Go.Abs.Lasso
set_option linter.unusedVariables false
set_option linter.unusedSimpArgs false
open Go Go.Abs

theorem shl1 {v : Nat} (hv : v ≤ 6) : IntKind.i64.wrap (1 * 2 ^ min v IntKind.i64.bits) = ((2 ^ v : Nat) : Int) := by
  have : v = 0 ∨ v = 1 ∨ v = 2 ∨ v = 3 ∨ v = 4 ∨ v = 5 ∨ v = 6 := by omega
  rcases this with rfl | rfl | rfl | rfl | rfl | rfl | rfl <;> rfl

theorem drop_getN {l : List Nat} {i : Nat} (h : i < l.length) : l.drop i = l.getD i 0 :: l.drop (i + 1) := by
  rw [List.drop_eq_getElem_cons h, List.getD_eq_getElem?_getD, List.getElem?_eq_getElem h]; rfl

/-- a letter that uses a variable from v on -/
def badM (v : Nat) (w : List Nat) : Bool := w.any fun x => decide (2 ^ v ≤ x)

theorem bad45 (v b x : Nat) (H : Heap) {fz z : Bool} (hv : v ≤ 6) (hx : x < 256) (hH : H[b]? = some (.cells fz z [.int .i64 (v : Nat)])) : L.icall (.func 45 [.ptr b 0]) [.int .u8 (x : Nat)] H = some (.bool (decide (2 ^ v ≤ x)), H) := by
  have hsh := shl1 hv
  have e1 : (((2 ^ v : Nat) : Int) ≤ ((x : Nat) : Int)) = (2 ^ v ≤ x) := propext ⟨fun h => by omega, fun h => by omega⟩
  rw [a45i, a45]
  simp (maxSteps := 30000000) (disch := first | assumption | omega | (simp only [List.length_cons, List.length_nil, List.length_append, List.length_set, List.length_replicate, List.length_map, List.length_range, List.length_take, List.length_drop, List.all_cons, List.all_nil, AV.isCell, Bool.and_self, Bool.and_true, bs_length, is64_length] <;> omega) | rfl | decide) only [List.cons_append, List.nil_append, bodyA_eq, List.length_cons, List.length_nil, Nat.zero_add, Nat.reduceAdd, Nat.reduceSub, pads, run_seq, run_region, runOps_cons, oper_none, ex_mov, opv, putK_to, List.set_cons_succ, List.set_cons_zero, opsK_some, runOps_nil, regK_some, seqK_normal, List.getD_cons_zero, ex_conv, List.getD_cons_succ, convA_int, wr64, valK_some, ex_load, rd_ptr, hH, rdK_cells, List.drop_zero, List.take_succ_cons, List.take_nil, loadK_1, ex_bin, bin_shl, Int.toNat_natCast, hsh, bin_geq, e1, run_ret, bodyK_ret, results_1, res_tmp, retvK_some]

theorem index_loop {v b : Nat} {H : Heap} {fz z zw : Bool} {w : List Nat} {s4 : AV} (hv : v ≤ 6) (hH : H[b]? = some (.cells fz z [.int .i64 (v : Nat)])) (hw : ∀ x ∈ w, x < 256) (hl : w.length < 1099511627776) : ∀ d i, i + d = w.length →
    ∃ i' : Nat, L.loop a51l0s a51l0 ⟨a51l0F (word zw w) (.func 45 [.ptr b 0]) s4 (.int .i64 (w.length : Nat)) (.int .i64 (i : Nat)), H⟩ =
      some (if badM v (w.drop i) = true then (.ret, ⟨a51l0F (word zw w) (.func 45 [.ptr b 0]) (.int .i64 (i' : Nat)) (.int .i64 (w.length : Nat)) (.int .i64 (i' : Nat)), H⟩) else (.exit 0, ⟨a51l0F (word zw w) (.func 45 [.ptr b 0]) s4 (.int .i64 (w.length : Nat)) (.int .i64 (w.length : Nat)), H⟩))
  | 0, i, h => by
    obtain rfl : i = w.length := by omega
    refine ⟨0, ?_⟩
    rw [if_neg (by simp [badM]), a51l0n]
    simp (maxSteps := 30000000) (disch := first | assumption | omega | (simp only [List.length_cons, List.length_nil, List.length_append, List.length_set, List.length_replicate, List.length_map, List.length_range, List.length_take, List.length_drop, List.all_cons, List.all_nil, AV.isCell, Bool.and_self, Bool.and_true, bs_length, is64_length] <;> omega) | rfl | decide) only [a51l0b, run_seq, run_region, runOps_cons, oper_none, ex_bin, opv, List.getD_cons_succ, List.getD_cons_zero, bin_lss, Int.lt_irrefl, decide_false, valK_some, putK_to, List.set_cons_succ, List.set_cons_zero, opsK_some, runOps_nil, regK_some, seqK_normal, run_cond, condK_bool, Bool.false_eq_true, run_skip, run_exit, if_false, seqK_exit, loopK_exit, a51l0c]
  | d + 1, i, h => by
    have hlt : (i : Int) < (w.length : Nat) := by omega
    have hx : w.getD i 0 < 256 := by
      rw [List.getD_eq_getElem?_getD, List.getElem?_eq_getElem (by omega)]
      exact hw _ (List.getElem_mem _)
    have hb := bad45 v b (w.getD i 0) H hv hx hH
    rw [drop_getN (by omega : i < w.length)]
    unfold badM
    rw [List.any_cons]
    by_cases e : 2 ^ v ≤ w.getD i 0
    · refine ⟨i, ?_⟩
      rw [if_pos (by rw [decide_eq_true e, Bool.true_or]), a51l0n]
      simp (maxSteps := 30000000) (disch := first | assumption | omega | (simp only [List.length_cons, List.length_nil, List.length_append, List.length_set, List.length_replicate, List.length_map, List.length_range, List.length_take, List.length_drop, List.all_cons, List.all_nil, AV.isCell, Bool.and_self, Bool.and_true, bs_length, is64_length] <;> omega) | rfl | decide) only [a51l0b, run_seq, run_region, runOps_cons, oper_none, ex_bin, opv, List.getD_cons_succ, List.getD_cons_zero, bin_lss, hlt, decide_true, valK_some, putK_to, List.set_cons_succ, List.set_cons_zero, opsK_some, runOps_nil, regK_some, seqK_normal, run_cond, condK_bool, run_skip, run_exit, if_true, run_block, ex_mov, ex_iaddr, iaddrA_sl, Int.toNat_natCast, Nat.mul_one, ex_load, rd_vptr, bs_drop, bs_take, bs_at0, drop_getD, Nat.add_zero, loadK_1, ex_icall, List.map_cons, List.map_nil, hb, e, run_ret, blockK_ret, seqK_ret, loopK_ret, a51l0c]
    · obtain ⟨i', ih⟩ := index_loop (zw := zw) (s4 := s4) hv hH hw hl d (i + 1) (by omega)
      refine ⟨i', ?_⟩
      have e2 : (decide (2 ^ v ≤ w.getD i 0) || (w.drop (i + 1)).any fun x => decide (2 ^ v ≤ x)) = badM v (w.drop (i + 1)) := by rw [decide_eq_false e, Bool.false_or]; rfl
      rw [e2, a51l0n]
      by_cases e3 : badM v (w.drop (i + 1)) = true
      · rw [if_pos e3] at ih ⊢
        simp (maxSteps := 30000000) (disch := first | assumption | omega | (simp only [List.length_cons, List.length_nil, List.length_append, List.length_set, List.length_replicate, List.length_map, List.length_range, List.length_take, List.length_drop, List.all_cons, List.all_nil, AV.isCell, Bool.and_self, Bool.and_true, bs_length, is64_length] <;> omega) | rfl | decide) only [a51l0b, run_seq, run_region, runOps_cons, oper_none, ex_bin, opv, List.getD_cons_succ, List.getD_cons_zero, bin_lss, hlt, decide_true, valK_some, putK_to, List.set_cons_succ, List.set_cons_zero, opsK_some, runOps_nil, regK_some, seqK_normal, run_cond, condK_bool, run_skip, run_exit, if_true, run_block, ex_mov, ex_iaddr, iaddrA_sl, Int.toNat_natCast, Nat.mul_one, ex_load, rd_vptr, bs_drop, bs_take, bs_at0, drop_getD, Nat.add_zero, loadK_1, ex_icall, List.map_cons, List.map_nil, hb, e, decide_false, Bool.false_eq_true, run_ret, if_false, blockK_normal, bin_add, cadd1, wr64, loopK_normal, a51l0c, ih]
      · rw [if_neg e3] at ih ⊢
        simp (maxSteps := 30000000) (disch := first | assumption | omega | (simp only [List.length_cons, List.length_nil, List.length_append, List.length_set, List.length_replicate, List.length_map, List.length_range, List.length_take, List.length_drop, List.all_cons, List.all_nil, AV.isCell, Bool.and_self, Bool.and_true, bs_length, is64_length] <;> omega) | rfl | decide) only [a51l0b, run_seq, run_region, runOps_cons, oper_none, ex_bin, opv, List.getD_cons_succ, List.getD_cons_zero, bin_lss, hlt, decide_true, valK_some, putK_to, List.set_cons_succ, List.set_cons_zero, opsK_some, runOps_nil, regK_some, seqK_normal, run_cond, condK_bool, run_skip, run_exit, if_true, run_block, ex_mov, ex_iaddr, iaddrA_sl, Int.toNat_natCast, Nat.mul_one, ex_load, rd_vptr, bs_drop, bs_take, bs_at0, drop_getD, Nat.add_zero, loadK_1, ex_icall, List.map_cons, List.map_nil, hb, e, decide_false, Bool.false_eq_true, run_ret, if_false, blockK_normal, bin_add, cadd1, wr64, loopK_normal, a51l0c, ih]

theorem contains_eq {v b : Nat} {H : Heap} {fz z : Bool} (zw : Bool) (w : List Nat) (hv : v ≤ 6) (hH : H[b]? = some (.cells fz z [.int .i64 (v : Nat)])) (hw : ∀ x ∈ w, x < 256) (hl : w.length < 1099511627776) :
    L.icall (.func 46 []) [word zw w, .func 45 [.ptr b 0]] H = some (.bool (badM v w), H) := by
  obtain ⟨i', hi⟩ := index_loop (zw := zw) (w := w) (s4 := .int .i64 0) hv hH hw hl w.length 0 (by omega)
  simp only [Int.natCast_zero, List.drop_zero] at hi
  by_cases e : badM v w = true
  · rw [if_pos e] at hi
    have h51 : L.icall (.func 51 []) [word zw w, .func 45 [.ptr b 0]] H = some (.int .i64 (i' : Nat), H) := by
      rw [a51i, a51]
      simp (maxSteps := 30000000) (disch := first | assumption | omega | (simp only [List.length_cons, List.length_nil, List.length_append, List.length_set, List.length_replicate, List.length_map, List.length_range, List.length_take, List.length_drop, List.all_cons, List.all_nil, AV.isCell, Bool.and_self, Bool.and_true, bs_length, is64_length] <;> omega) | rfl | decide) only [Int.reduceNeg, List.append_nil, bodyA_eq, List.length_cons, List.length_nil, Nat.zero_add, Nat.reduceAdd, Nat.reduceSub, pads, List.cons_append, List.nil_append, run_seq, run_region, runOps_cons, oper_none, ex_mov, opv, putK_to, List.set_cons_succ, List.set_cons_zero, opsK_some, runOps_nil, regK_some, seqK_normal, List.getD_cons_zero, ex_len, List.getD_cons_succ, lenA_sl, valK_some, run_block, run_loop, a51l0c, hi, blockK_ret, seqK_ret, bodyK_ret, results_1, res_tmp, retvK_some]
    have h0 : (0 : Int) ≤ (i' : Nat) := by omega
    rw [a46i, a46, e]
    simp (maxSteps := 30000000) (disch := first | assumption | omega | (simp only [List.length_cons, List.length_nil, List.length_append, List.length_set, List.length_replicate, List.length_map, List.length_range, List.length_take, List.length_drop, List.all_cons, List.all_nil, AV.isCell, Bool.and_self, Bool.and_true, bs_length, is64_length] <;> omega) | rfl | decide) only [List.append_nil, bodyA_eq, List.length_cons, List.length_nil, Nat.zero_add, Nat.reduceAdd, Nat.reduceSub, pads, List.cons_append, List.nil_append, run_seq, run_region, runOps_cons, oper_none, ex_mov, opv, putK_to, List.set_cons_succ, List.set_cons_zero, opsK_some, runOps_nil, regK_some, seqK_normal, List.getD_cons_zero, List.getD_cons_succ, ex_icall, List.map_cons, List.map_nil, h51, ex_bin, bin_geq, h0, decide_true, valK_some, run_ret, bodyK_ret, results_1, res_tmp, retvK_some]
  · rw [if_neg e] at hi
    have h51 : L.icall (.func 51 []) [word zw w, .func 45 [.ptr b 0]] H = some (.int .i64 (-1), H) := by
      rw [a51i, a51]
      simp (maxSteps := 30000000) (disch := first | assumption | omega | (simp only [List.length_cons, List.length_nil, List.length_append, List.length_set, List.length_replicate, List.length_map, List.length_range, List.length_take, List.length_drop, List.all_cons, List.all_nil, AV.isCell, Bool.and_self, Bool.and_true, bs_length, is64_length] <;> omega) | rfl | decide) only [Int.reduceNeg, List.append_nil, bodyA_eq, List.length_cons, List.length_nil, Nat.zero_add, Nat.reduceAdd, Nat.reduceSub, pads, List.cons_append, List.nil_append, run_seq, run_region, runOps_cons, oper_none, ex_mov, opv, putK_to, List.set_cons_succ, List.set_cons_zero, opsK_some, runOps_nil, regK_some, seqK_normal, List.getD_cons_zero, ex_len, List.getD_cons_succ, lenA_sl, valK_some, run_block, run_loop, a51l0c, hi, blockK_exit, if_true, run_ret, bodyK_ret, results_1, res_tmp, retvK_some]
    have e' : badM v w = false := by simpa using e
    rw [a46i, a46, e']
    simp (maxSteps := 30000000) (disch := first | assumption | omega | (simp only [List.length_cons, List.length_nil, List.length_append, List.length_set, List.length_replicate, List.length_map, List.length_range, List.length_take, List.length_drop, List.all_cons, List.all_nil, AV.isCell, Bool.and_self, Bool.and_true, bs_length, is64_length] <;> omega) | rfl | decide) only [List.append_nil, bodyA_eq, List.length_cons, List.length_nil, Nat.zero_add, Nat.reduceAdd, Nat.reduceSub, pads, List.cons_append, List.nil_append, run_seq, run_region, runOps_cons, oper_none, ex_mov, opv, putK_to, List.set_cons_succ, List.set_cons_zero, opsK_some, runOps_nil, regK_some, seqK_normal, List.getD_cons_zero, List.getD_cons_succ, ex_icall, List.map_cons, List.map_nil, h51, Int.reduceNeg, ex_bin, bin_geq, Int.reduceLE, decide_false, valK_some, run_ret, bodyK_ret, results_1, res_tmp, retvK_some]
/-- what Check answers -/
def checkM (p q : List Nat) (v : Int) : Int :=
  if v < 0 ∨ 6 < v then 7 else if q = [] then 3 else if 64 < p.length ∨ 64 < q.length then 4 else if badM v.toNat p = true ∨ badM v.toNat q = true then 1 else 0

set_option maxHeartbeats 4000000 in
theorem check_eq (z1 z2 : Bool) (p q : List Nat) (v : Int) (hp : p.length < 1099511627776) (hq : q.length < 1099511627776) (hpw : ∀ x ∈ p, x < 256) (hqw : ∀ x ∈ q, x < 256) :
    L.pcall 23 [las z1 z2 p q, .int .i64 v] = some (.int .i64 (checkM p q v)) := by
  unfold checkM
  rw [a23p, a23, pbodyA_eq]
  by_cases c1 : v < 0
  · rw [if_pos (.inl c1)]
    simp (maxSteps := 30000000) (disch := first | assumption | omega | (simp only [List.length_cons, List.length_nil, List.length_append, List.length_set, List.length_replicate, List.length_map, List.length_range, List.length_take, List.length_drop, List.all_cons, List.all_nil, AV.isCell, Bool.and_self, Bool.and_true, bs_length, is64_length] <;> omega) | rfl | decide) only [bodyA_eq, List.length_cons, List.length_nil, Nat.zero_add, Nat.reduceAdd, Nat.reduceSub, pads, List.cons_append, List.nil_append, run_seq, run_region, runOps_cons, oper_none, ex_box, AV.cells, opv, List.getD_cons_zero, List.all_cons, AV.isCell, List.all_nil, Bool.and_self, if_true, putK_to, List.set_cons_succ, List.set_cons_zero, opsK_some, List.getD_cons_succ, ex_mov, runOps_nil, regK_some, seqK_normal, run_block, ex_load, rd_ptr, List.getElem?_cons_succ, List.getElem?_cons_zero, rdK_cells, List.drop_zero, List.take_succ_cons, List.take_nil, loadK_1, valK_some, ex_bin, bin_lss, c1, decide_true, oper_guard, guardK_bool, Bool.true_eq_false, putA_to, if_false, ex_pick, pickA_bool, run_cond, condK_bool, run_ret, ex_faddr, faddrA_ptr, List.drop_succ_cons, ex_len, lenA_sl, bin_eql, decide_eq_true_eq, Nat.add_zero, List.take_zero, bin_gtr, decide_eq_false_iff_not, opsK_ite, regK_ite, seqK_ite, blockK_ret, seqK_ret, bodyK_ret, results_1, res_tmp, retvK_some, pbodyK_some, frzN, frz_int]
  by_cases c2 : 6 < v
  · rw [if_pos (.inr c2)]
    simp (maxSteps := 30000000) (disch := first | assumption | omega | (simp only [List.length_cons, List.length_nil, List.length_append, List.length_set, List.length_replicate, List.length_map, List.length_range, List.length_take, List.length_drop, List.all_cons, List.all_nil, AV.isCell, Bool.and_self, Bool.and_true, bs_length, is64_length] <;> omega) | rfl | decide) only [bodyA_eq, List.length_cons, List.length_nil, Nat.zero_add, Nat.reduceAdd, Nat.reduceSub, pads, List.cons_append, List.nil_append, run_seq, run_region, runOps_cons, oper_none, ex_box, AV.cells, opv, List.getD_cons_zero, List.all_cons, AV.isCell, List.all_nil, Bool.and_self, if_true, putK_to, List.set_cons_succ, List.set_cons_zero, opsK_some, List.getD_cons_succ, ex_mov, runOps_nil, regK_some, seqK_normal, run_block, ex_load, rd_ptr, List.getElem?_cons_succ, List.getElem?_cons_zero, rdK_cells, List.drop_zero, List.take_succ_cons, List.take_nil, loadK_1, valK_some, ex_bin, bin_lss, c1, decide_false, oper_guard, guardK_bool, putA_to, bin_gtr, c2, decide_true, ex_pick, pickA_bool, Bool.false_eq_true, ite_self, run_cond, condK_bool, run_ret, ex_faddr, faddrA_ptr, List.drop_succ_cons, ex_len, lenA_sl, bin_eql, decide_eq_true_eq, Nat.add_zero, List.take_zero, decide_eq_false_iff_not, opsK_ite, regK_ite, seqK_ite, blockK_ret, seqK_ret, bodyK_ret, results_1, res_tmp, retvK_some, pbodyK_some, frzN, frz_int]
  rw [if_neg (fun h => h.elim c1 c2)]
  by_cases c3 : q = []
  · subst c3
    rw [if_pos rfl]
    simp (maxSteps := 30000000) (disch := first | assumption | omega | (simp only [List.length_cons, List.length_nil, List.length_append, List.length_set, List.length_replicate, List.length_map, List.length_range, List.length_take, List.length_drop, List.all_cons, List.all_nil, AV.isCell, Bool.and_self, Bool.and_true, bs_length, is64_length] <;> omega) | rfl | decide) only [bodyA_eq, List.length_cons, List.length_nil, Nat.zero_add, Nat.reduceAdd, Nat.reduceSub, pads, List.cons_append, List.nil_append, run_seq, run_region, runOps_cons, oper_none, ex_box, AV.cells, opv, List.getD_cons_zero, List.all_cons, AV.isCell, List.all_nil, Bool.and_self, if_true, putK_to, List.set_cons_succ, List.set_cons_zero, opsK_some, List.getD_cons_succ, ex_mov, runOps_nil, regK_some, seqK_normal, run_block, ex_load, rd_ptr, List.getElem?_cons_succ, List.getElem?_cons_zero, rdK_cells, List.drop_zero, List.take_succ_cons, List.take_nil, loadK_1, valK_some, ex_bin, bin_lss, c1, decide_false, oper_guard, guardK_bool, putA_to, bin_gtr, c2, ex_pick, pickA_bool, Bool.false_eq_true, if_false, run_cond, condK_bool, run_ret, ex_faddr, faddrA_ptr, List.drop_succ_cons, ex_len, lenA_sl, castLit, bin_eql, decide_true, Nat.add_zero, List.take_zero, decide_eq_false_iff_not, opsK_ite, Int.reduceLT, decide_eq_true_eq, regK_ite, seqK_ite, blockK_ret, seqK_ret, bodyK_ret, results_1, res_tmp, retvK_some, pbodyK_some, frzN, frz_int]
  have c3' : ¬ ((q.length : Int) = 0) := by
    have : q.length ≠ 0 := by simpa using c3
    omega
  rw [if_neg c3]
  by_cases c4 : 64 < p.length
  · have c4' : (64 : Int) < (p.length : Nat) := by omega
    rw [if_pos (.inl c4)]
    simp (maxSteps := 30000000) (disch := first | assumption | omega | (simp only [List.length_cons, List.length_nil, List.length_append, List.length_set, List.length_replicate, List.length_map, List.length_range, List.length_take, List.length_drop, List.all_cons, List.all_nil, AV.isCell, Bool.and_self, Bool.and_true, bs_length, is64_length] <;> omega) | rfl | decide) only [bodyA_eq, List.length_cons, List.length_nil, Nat.zero_add, Nat.reduceAdd, Nat.reduceSub, pads, List.cons_append, List.nil_append, run_seq, run_region, runOps_cons, oper_none, ex_box, AV.cells, opv, List.getD_cons_zero, List.all_cons, AV.isCell, List.all_nil, Bool.and_self, if_true, putK_to, List.set_cons_succ, List.set_cons_zero, opsK_some, List.getD_cons_succ, ex_mov, runOps_nil, regK_some, seqK_normal, run_block, ex_load, rd_ptr, List.getElem?_cons_succ, List.getElem?_cons_zero, rdK_cells, List.drop_zero, List.take_succ_cons, List.take_nil, loadK_1, valK_some, ex_bin, bin_lss, c1, decide_false, oper_guard, guardK_bool, putA_to, bin_gtr, c2, ex_pick, pickA_bool, Bool.false_eq_true, if_false, run_cond, condK_bool, run_ret, ex_faddr, faddrA_ptr, List.drop_succ_cons, ex_len, lenA_sl, bin_eql, c3', Nat.add_zero, List.take_zero, c4', decide_true, Bool.true_eq_false, run_skip, blockK_ret, seqK_ret, bodyK_ret, results_1, res_tmp, retvK_some, pbodyK_some, frzN, frz_int]
  have c4' : ¬ (64 : Int) < (p.length : Nat) := by omega
  by_cases c5 : 64 < q.length
  · have c5' : (64 : Int) < (q.length : Nat) := by omega
    rw [if_pos (.inr c5)]
    simp (maxSteps := 30000000) (disch := first | assumption | omega | (simp only [List.length_cons, List.length_nil, List.length_append, List.length_set, List.length_replicate, List.length_map, List.length_range, List.length_take, List.length_drop, List.all_cons, List.all_nil, AV.isCell, Bool.and_self, Bool.and_true, bs_length, is64_length] <;> omega) | rfl | decide) only [bodyA_eq, List.length_cons, List.length_nil, Nat.zero_add, Nat.reduceAdd, Nat.reduceSub, pads, List.cons_append, List.nil_append, run_seq, run_region, runOps_cons, oper_none, ex_box, AV.cells, opv, List.getD_cons_zero, List.all_cons, AV.isCell, List.all_nil, Bool.and_self, if_true, putK_to, List.set_cons_succ, List.set_cons_zero, opsK_some, List.getD_cons_succ, ex_mov, runOps_nil, regK_some, seqK_normal, run_block, ex_load, rd_ptr, List.getElem?_cons_succ, List.getElem?_cons_zero, rdK_cells, List.drop_zero, List.take_succ_cons, List.take_nil, loadK_1, valK_some, ex_bin, bin_lss, c1, decide_false, oper_guard, guardK_bool, putA_to, bin_gtr, c2, ex_pick, pickA_bool, Bool.false_eq_true, if_false, run_cond, condK_bool, run_ret, ex_faddr, faddrA_ptr, List.drop_succ_cons, ex_len, lenA_sl, bin_eql, c3', Nat.add_zero, List.take_zero, c4', c5', decide_true, ite_self, run_skip, blockK_ret, seqK_ret, bodyK_ret, results_1, res_tmp, retvK_some, pbodyK_some, frzN, frz_int]
  have c5' : ¬ (64 : Int) < (q.length : Nat) := by omega
  rw [if_neg (fun h => h.elim c4 c5)]
  obtain ⟨n, rfl⟩ : ∃ n : Nat, v = (n : Nat) := ⟨v.toNat, by omega⟩
  have hn : n ≤ 6 := by omega
  have k1 := fun (H : Heap) (hH : H[1]? = some (.cells false false [.int .i64 (n : Nat)])) => contains_eq z1 p hn hH hpw hp
  have k2 := fun (H : Heap) (hH : H[1]? = some (.cells false false [.int .i64 (n : Nat)])) => contains_eq z2 q hn hH hqw hq
  have l1 := k1 [.cells false false [word z1 p, word z2 q], .cells false false [.int .i64 (n : Nat)]] rfl
  have l2 := k2 [.cells false false [word z1 p, word z2 q], .cells false false [.int .i64 (n : Nat)]] rfl
  simp only [Int.toNat_natCast]
  by_cases c6 : badM n p = true
  · rw [if_pos (.inl c6)]
    simp (maxSteps := 30000000) (disch := first | assumption | omega | (simp only [List.length_cons, List.length_nil, List.length_append, List.length_set, List.length_replicate, List.length_map, List.length_range, List.length_take, List.length_drop, List.all_cons, List.all_nil, AV.isCell, Bool.and_self, Bool.and_true, bs_length, is64_length] <;> omega) | rfl | decide) only [bodyA_eq, List.length_cons, List.length_nil, Nat.zero_add, Nat.reduceAdd, Nat.reduceSub, pads, List.cons_append, List.nil_append, run_seq, run_region, runOps_cons, oper_none, ex_box, AV.cells, opv, List.getD_cons_zero, List.all_cons, AV.isCell, List.all_nil, Bool.and_self, if_true, putK_to, List.set_cons_succ, List.set_cons_zero, opsK_some, List.getD_cons_succ, ex_mov, runOps_nil, regK_some, seqK_normal, run_block, ex_load, rd_ptr, List.getElem?_cons_succ, List.getElem?_cons_zero, rdK_cells, List.drop_zero, List.take_succ_cons, List.take_nil, loadK_1, valK_some, ex_bin, bin_lss, c1, decide_false, oper_guard, guardK_bool, putA_to, bin_gtr, c2, ex_pick, pickA_bool, Bool.false_eq_true, if_false, run_cond, condK_bool, run_ret, ex_faddr, faddrA_ptr, List.drop_succ_cons, ex_len, lenA_sl, bin_eql, c3', Nat.add_zero, List.take_zero, c4', c5', run_skip, blockK_normal, ex_mkfunc, List.map_cons, List.map_nil, ex_icall, l1, c6, Bool.true_eq_false, seqK_ret, bodyK_ret, results_1, res_tmp, retvK_some, pbodyK_some, frzN, frz_int]
  have c6' : badM n p = false := by simpa using c6
  by_cases c7 : badM n q = true
  · rw [if_pos (.inr c7)]
    simp (maxSteps := 30000000) (disch := first | assumption | omega | (simp only [List.length_cons, List.length_nil, List.length_append, List.length_set, List.length_replicate, List.length_map, List.length_range, List.length_take, List.length_drop, List.all_cons, List.all_nil, AV.isCell, Bool.and_self, Bool.and_true, bs_length, is64_length] <;> omega) | rfl | decide) only [bodyA_eq, List.length_cons, List.length_nil, Nat.zero_add, Nat.reduceAdd, Nat.reduceSub, pads, List.cons_append, List.nil_append, run_seq, run_region, runOps_cons, oper_none, ex_box, AV.cells, opv, List.getD_cons_zero, List.all_cons, AV.isCell, List.all_nil, Bool.and_self, if_true, putK_to, List.set_cons_succ, List.set_cons_zero, opsK_some, List.getD_cons_succ, ex_mov, runOps_nil, regK_some, seqK_normal, run_block, ex_load, rd_ptr, List.getElem?_cons_succ, List.getElem?_cons_zero, rdK_cells, List.drop_zero, List.take_succ_cons, List.take_nil, loadK_1, valK_some, ex_bin, bin_lss, c1, decide_false, oper_guard, guardK_bool, putA_to, bin_gtr, c2, ex_pick, pickA_bool, Bool.false_eq_true, if_false, run_cond, condK_bool, run_ret, ex_faddr, faddrA_ptr, List.drop_succ_cons, ex_len, lenA_sl, bin_eql, c3', Nat.add_zero, List.take_zero, c4', c5', run_skip, blockK_normal, ex_mkfunc, List.map_cons, List.map_nil, ex_icall, l1, c6', l2, c7, ite_self, seqK_ret, bodyK_ret, results_1, res_tmp, retvK_some, pbodyK_some, frzN, frz_int]
  have c7' : badM n q = false := by simpa using c7
  rw [if_neg (fun h => h.elim c6 c7)]
  simp (maxSteps := 30000000) (disch := first | assumption | omega | (simp only [List.length_cons, List.length_nil, List.length_append, List.length_set, List.length_replicate, List.length_map, List.length_range, List.length_take, List.length_drop, List.all_cons, List.all_nil, AV.isCell, Bool.and_self, Bool.and_true, bs_length, is64_length] <;> omega) | rfl | decide) only [bodyA_eq, List.length_cons, List.length_nil, Nat.zero_add, Nat.reduceAdd, Nat.reduceSub, pads, List.cons_append, List.nil_append, run_seq, run_region, runOps_cons, oper_none, ex_box, AV.cells, opv, List.getD_cons_zero, List.all_cons, AV.isCell, List.all_nil, Bool.and_self, if_true, putK_to, List.set_cons_succ, List.set_cons_zero, opsK_some, List.getD_cons_succ, ex_mov, runOps_nil, regK_some, seqK_normal, run_block, ex_load, rd_ptr, List.getElem?_cons_succ, List.getElem?_cons_zero, rdK_cells, List.drop_zero, List.take_succ_cons, List.take_nil, loadK_1, valK_some, ex_bin, bin_lss, c1, decide_false, oper_guard, guardK_bool, putA_to, bin_gtr, c2, ex_pick, pickA_bool, Bool.false_eq_true, if_false, run_cond, condK_bool, run_ret, ex_faddr, faddrA_ptr, List.drop_succ_cons, ex_len, lenA_sl, bin_eql, c3', Nat.add_zero, List.take_zero, c4', c5', run_skip, blockK_normal, ex_mkfunc, List.map_cons, List.map_nil, ex_icall, l1, c6', l2, c7', bodyK_ret, results_1, res_tmp, retvK_some, pbodyK_some, frzN, frz_int]
end Go.Abs.Lasso
