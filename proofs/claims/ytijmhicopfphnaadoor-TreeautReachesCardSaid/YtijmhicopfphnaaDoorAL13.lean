/- The law TreeautReaches. -/
import Derived.Test.YtijmhicopfphnaaDoorAL12
import Derived.Test.YtijmhicopfphnaaDoorAK1
namespace Go.Abs.Tree
open Go Go.Abs
set_option linter.unusedSimpArgs false
set_option linter.unusedVariables false

set_option maxHeartbeats 4000000 in
theorem law8 (n : Aut) (z : Bool) (t : List Lf) (hb : ∀ e ∈ n.rl, e.p < 256 ∧ e.n < 256) (hx : ∀ e ∈ t, e.x < 256) :
    L.pcall 8 [n.av, tw z t] = some (.bool true) := by
  have hsm := small34 n
  have hcp := copy13 z (t.take 15) (by rw [List.length_take]; omega)
  have e15 : min ((t.length : Nat) : Int) 15 = ((t.take 15).length : Nat) := by rw [List.length_take]; omega
  have l15 : (t.take 15).length ≤ t.length := by rw [List.length_take]; omega
  have t15 : List.take ((t.take 15).length * 3) (lfs t) = lfs (t.take 15) := by
    unfold lfs
    rw [rows_take (enc := encF) (k := 3) (fun _ => rfl), take_len]
  have hx' : ∀ e ∈ t.take 15, e.x < 256 := fun e he => hx e (List.mem_of_mem_take he)
  have ht' : (t.take 15).length < 1099511627776 := by rw [List.length_take]; omega
  generalize t.take 15 = u at *
  have hI : TyA (cpA (smA n)) := ⟨by simp; omega, by simp; omega, by simp; omega, fun e he => hb e (List.mem_of_mem_take he)⟩
  generalize cpA (smA n) = m at *
  obtain ⟨e1, zz1, l1, b1, s1, a1, n1, y1⟩ := run_ex m (u.length == 0) u hI ht' hx'
  obtain ⟨e2, zz2, l2, s2, n2, v2, y2⟩ := reach_ex m hI
  have hkk := k16
  by_cases c1 : e1 = 0
  · subst c1
    obtain ⟨V, ⟨T, hF⟩, g1⟩ := y1 rfl
    obtain ⟨S1, -⟩ := g1 T hF
    obtain rfl := v2.2 V
    obtain ⟨w, S2, w1, w2, w3, -⟩ := y2 rfl
    obtain ⟨z3, l3, h36, S3⟩ := of_has (z := m.z1) (l := m.st) hI.st (fun q hq => by have := V.sts q hq; omega)
    obtain ⟨t1, h35, q1⟩ := subset_has S1 S2
    obtain ⟨t2, h35', q2⟩ := subset_has S3 S2
    obtain rfl : t1 = true := q1.2 (fun j hj => by
      simp only [Bool.and_eq_true] at hj ⊢
      exact ⟨hj.1, ev_in (fun e he => (V.rule e he).2.2.1) (passM_fix m.rl w w2) w3 T j hj.2⟩)
    obtain rfl : t2 = true := q2.2 (fun j hj => by
      have hmem : (j : Int) ∈ m.st := by simpa using hj
      have := V.sts _ hmem
      simp only [Bool.and_eq_true, decide_eq_true_eq]
      refine ⟨by omega, w3 j ?_⟩
      rw [wordM_bit _ _ _ (fun q hq => (V.sts q hq).1), hj]
      simp)
    rw [a8p, a8, pbodyA_eq]
    simp (maxSteps := 30000000) (disch := first | assumption | omega | (simp only [List.length_cons, List.length_nil, List.length_append, List.length_set, List.length_replicate, List.length_map, List.length_range, List.length_take, List.length_drop, List.all_cons, List.all_nil, AV.isCell, Bool.and_self, Bool.and_true, bs_length, is64_length, w64_length, ints_length, lfs_length, rls_length] <;> omega) | rfl | decide) only [bodyA_eq, List.length_cons, List.length_nil, Nat.zero_add, Nat.reduceAdd, Nat.reduceSub, pads, List.cons_append, List.nil_append, run_seq, run_region, runOps_cons, oper_none, ex_box, AV.cells, opv, List.getD_cons_zero, List.all_cons, AV.isCell, List.all_nil, Bool.and_self, if_true, putK_to, List.set_cons_succ, List.set_cons_zero, opsK_some, ex_mov, runOps_nil, regK_some, seqK_normal, run_draw, List.take_succ_cons, List.take_zero, runFree_cons, foper_none, fe_load, ex_load, List.getD_cons_succ, rd_ptr, List.getElem?_cons_zero, rdK_cells, List.drop_zero, List.take_nil, loadK_n, valK_some, fstK_some, fputK_to, freeK_some, fe_call, List.map_cons, List.map_nil, pcallA_eq, frzN, List.mapM_cons, frz_agg, frz_int, frz_sl, List.mapM_nil, Option.pure_def, Option.bind_eq_bind, Option.bind_some, Option.map_some, argK_some, hsm, retK_some, scal, scal1, Bool.and_true, Bool.and_false, Bool.false_eq_true, fzIds, List.flatMap_cons, bor_agg, bor_int, bor_sl, List.flatMap_nil, List.append_nil, List.foldl_nil, ite_self, quietK_some, quietCall, Bool.or_true, fe_mov, fe_len, ex_len, lenA_sl, fe_mini, ex_mini, minA_int, e15, fe_slice, ex_slice, Option.map_none, sliceA_sl, bounds_ns, Int.toNat_natCast, cutK_sl, Nat.sub_zero, Nat.reduceMul, t15, hcp, fe_box, runFree_nil, drawK_some, List.drop_succ_cons, adopt, adoptVal, putA_to, ex_store, wr_ptr, List.getElem?_cons_succ, wrK_cells, splice, List.drop_nil, storeK_some, putK_no, ex_call, s2, ex_ext, extA_tup, s1, ex_bin, bin_neq, decide_true, Bool.not_true, oper_guard, guardK_bool, ex_pick, pickA_bool, if_false, run_cond, condK_bool, bin_eql, decide_eq_true_eq, hkk, opsK_ite, regK_ite, seqK_ite, run_ret, run_skip, h35, ex_faddr, faddrA_ptr, loadK_1, h36, h35', bodyK_ret, results_1, res_tmp, retvK_some, pbodyK_some, frz_bool]
  · obtain ⟨rfl, rfl, -⟩ := n1 c1
    rw [a8p, a8, pbodyA_eq]
    by_cases c2 : e2 = 0
    · simp (maxSteps := 30000000) (disch := first | assumption | omega | (simp only [List.length_cons, List.length_nil, List.length_append, List.length_set, List.length_replicate, List.length_map, List.length_range, List.length_take, List.length_drop, List.all_cons, List.all_nil, AV.isCell, Bool.and_self, Bool.and_true, bs_length, is64_length, w64_length, ints_length, lfs_length, rls_length] <;> omega) | rfl | decide) only [bodyA_eq, List.length_cons, List.length_nil, Nat.zero_add, Nat.reduceAdd, Nat.reduceSub, pads, List.cons_append, List.nil_append, run_seq, run_region, runOps_cons, oper_none, ex_box, AV.cells, opv, List.getD_cons_zero, List.all_cons, AV.isCell, List.all_nil, Bool.and_self, if_true, putK_to, List.set_cons_succ, List.set_cons_zero, opsK_some, ex_mov, runOps_nil, regK_some, seqK_normal, run_draw, List.take_succ_cons, List.take_zero, runFree_cons, foper_none, fe_load, ex_load, List.getD_cons_succ, rd_ptr, List.getElem?_cons_zero, rdK_cells, List.drop_zero, List.take_nil, loadK_n, valK_some, fstK_some, fputK_to, freeK_some, fe_call, List.map_cons, List.map_nil, pcallA_eq, frzN, List.mapM_cons, frz_agg, frz_int, frz_sl, List.mapM_nil, Option.pure_def, Option.bind_eq_bind, Option.bind_some, Option.map_some, argK_some, hsm, retK_some, scal, scal1, Bool.and_true, Bool.and_false, Bool.false_eq_true, fzIds, List.flatMap_cons, bor_agg, bor_int, bor_sl, List.flatMap_nil, List.append_nil, List.foldl_nil, ite_self, quietK_some, quietCall, Bool.or_true, fe_mov, fe_len, ex_len, lenA_sl, fe_mini, ex_mini, minA_int, e15, fe_slice, ex_slice, Option.map_none, sliceA_sl, bounds_ns, Int.toNat_natCast, cutK_sl, Nat.sub_zero, Nat.reduceMul, t15, hcp, fe_box, runFree_nil, drawK_some, List.drop_succ_cons, adopt, adoptVal, putA_to, ex_store, wr_ptr, List.getElem?_cons_succ, wrK_cells, splice, List.drop_nil, storeK_some, putK_no, ex_call, s2, c2, ex_ext, extA_tup, s1, ex_bin, bin_neq, decide_true, Bool.not_true, oper_guard, guardK_bool, c1, decide_false, Bool.not_false, ex_pick, pickA_bool, run_cond, condK_bool, castLit, bin_eql, hkk, run_ret, run_skip, seqK_ret, bodyK_ret, results_1, res_tmp, retvK_some, pbodyK_some, frz_bool]
    · simp (maxSteps := 30000000) (disch := first | assumption | omega | (simp only [List.length_cons, List.length_nil, List.length_append, List.length_set, List.length_replicate, List.length_map, List.length_range, List.length_take, List.length_drop, List.all_cons, List.all_nil, AV.isCell, Bool.and_self, Bool.and_true, bs_length, is64_length, w64_length, ints_length, lfs_length, rls_length] <;> omega) | rfl | decide) only [bodyA_eq, List.length_cons, List.length_nil, Nat.zero_add, Nat.reduceAdd, Nat.reduceSub, pads, List.cons_append, List.nil_append, run_seq, run_region, runOps_cons, oper_none, ex_box, AV.cells, opv, List.getD_cons_zero, List.all_cons, AV.isCell, List.all_nil, Bool.and_self, if_true, putK_to, List.set_cons_succ, List.set_cons_zero, opsK_some, ex_mov, runOps_nil, regK_some, seqK_normal, run_draw, List.take_succ_cons, List.take_zero, runFree_cons, foper_none, fe_load, ex_load, List.getD_cons_succ, rd_ptr, List.getElem?_cons_zero, rdK_cells, List.drop_zero, List.take_nil, loadK_n, valK_some, fstK_some, fputK_to, freeK_some, fe_call, List.map_cons, List.map_nil, pcallA_eq, frzN, List.mapM_cons, frz_agg, frz_int, frz_sl, List.mapM_nil, Option.pure_def, Option.bind_eq_bind, Option.bind_some, Option.map_some, argK_some, hsm, retK_some, scal, scal1, Bool.and_true, Bool.and_false, Bool.false_eq_true, fzIds, List.flatMap_cons, bor_agg, bor_int, bor_sl, List.flatMap_nil, List.append_nil, List.foldl_nil, ite_self, quietK_some, quietCall, Bool.or_true, fe_mov, fe_len, ex_len, lenA_sl, fe_mini, ex_mini, minA_int, e15, fe_slice, ex_slice, Option.map_none, sliceA_sl, bounds_ns, Int.toNat_natCast, cutK_sl, Nat.sub_zero, Nat.reduceMul, t15, hcp, fe_box, runFree_nil, drawK_some, List.drop_succ_cons, adopt, adoptVal, putA_to, ex_store, wr_ptr, List.getElem?_cons_succ, wrK_cells, splice, List.drop_nil, storeK_some, putK_no, ex_call, s2, ex_ext, extA_tup, s1, ex_bin, bin_neq, c2, decide_false, Bool.not_false, oper_guard, guardK_bool, Bool.true_eq_false, if_false, ex_pick, pickA_bool, run_cond, condK_bool, castLit, bin_eql, decide_true, hkk, run_ret, run_skip, seqK_ret, bodyK_ret, results_1, res_tmp, retvK_some, pbodyK_some, frz_bool]
end Go.Abs.Tree
