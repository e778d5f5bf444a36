/- Reverse; equality of automata; words backwards. -/
import Derived.Test.YtbfnjdhafgnlnaaDoorAN6
namespace Go.Abs.NfaD
open Go Go.Abs
set_option linter.unusedSimpArgs false
set_option linter.unusedVariables false

theorem frz_edges (d : Nat) (H : Heap) (l : List Ed) : (edges l).mapM (frz d H) = some (edges l) := by
  induction l with
  | nil => rfl
  | cons e l ih =>
    have : edges (e :: l) = .int .i64 e.a :: .int .i64 e.b :: .int .u8 (e.p : Nat) :: .int .u8 (e.n : Nat) :: edges l := rfl
    rw [this]
    simp only [List.mapM_cons, frz_int, ih]
    rfl
theorem bor_edges (d : Nat) (H : Heap) (l : List Ed) : (edges l).flatMap (bor d H) = [] := by
  induction l with
  | nil => rfl
  | cons e l ih =>
    have : edges (e :: l) = .int .i64 e.a :: .int .i64 e.b :: .int .u8 (e.p : Nat) :: .int .u8 (e.n : Nat) :: edges l := rfl
    rw [this]
    simp only [List.flatMap_cons, bor_int, ih]
    rfl

theorem clone41 (z : Bool) (l : List Int) (hl : l.length < 1099511627776) (hz : z = true → l = []) : L.pcall 48 [iw z l] = some (iw z l) := by
  rw [a48p, a48, pbodyA_eq]
  cases z
  · simp (maxSteps := 30000000) (disch := first | assumption | omega | (simp only [List.length_cons, List.length_nil, List.length_append, List.length_set, List.length_replicate, List.length_map, List.length_range, List.length_take, List.length_drop, List.all_cons, List.all_nil, AV.isCell, Bool.and_self, Bool.and_true, bs_length, is64_length, w64_length, ints_length, edges_length] <;> omega) | rfl | decide) only [bodyA_eq, List.length_cons, List.length_nil, Nat.zero_add, Nat.reduceSub, pads, List.cons_append, List.nil_append, run_seq, run_region, runOps_cons, oper_none, ex_mov, opv, putK_to, List.set_cons_succ, List.set_cons_zero, opsK_some, runOps_nil, regK_some, seqK_normal, List.getD_cons_zero, ex_isnil, List.getD_cons_succ, isnilA_slf, valK_some, run_cond, condK_bool, Bool.false_eq_true, run_ret, run_skip, if_false, ex_bslice, AV.cells, List.all_nil, repz_0, Nat.mul_one, List.map_nil, fillA, newK_some, newA_own, if_true, ex_append, src_sl, appK_own, List.getElem?_cons_zero, appOK_cells, Bool.false_and, List.take_nil, bodyK_ret, results_1, res_tmp, retvK_some, pbodyK_some, frzN, frz_own, List.getElem?_cons_succ, frzK_cells, List.drop_zero, ints_take, List.take_length, frz_ints, slK_some]
  · rw [hz rfl]
    simp (maxSteps := 30000000) (disch := first | assumption | omega | (simp only [List.length_cons, List.length_nil, List.length_append, List.length_set, List.length_replicate, List.length_map, List.length_range, List.length_take, List.length_drop, List.all_cons, List.all_nil, AV.isCell, Bool.and_self, Bool.and_true, bs_length, is64_length, w64_length, ints_length, edges_length] <;> omega) | rfl | decide) only [bodyA_eq, List.length_cons, List.length_nil, Nat.zero_add, Nat.reduceSub, pads, List.cons_append, List.nil_append, run_seq, run_region, runOps_cons, oper_none, ex_mov, opv, putK_to, List.set_cons_succ, List.set_cons_zero, opsK_some, runOps_nil, regK_some, seqK_normal, List.getD_cons_zero, ex_isnil, List.getD_cons_succ, isnilA_slf, valK_some, run_cond, condK_bool, run_ret, run_skip, if_true, seqK_ret, bodyK_ret, results_1, res_tmp, retvK_some, pbodyK_some, frzN, frz_sl]
    rfl

def swapE (e : Ed) : Ed := ⟨e.b, e.a, e.p, e.n⟩
def zeroA : Aut := ⟨0, 0, true, [], true, [], true, []⟩
def revA (n : Aut) (z : Bool) : Aut := ⟨n.vars, n.states, n.z2, n.fi, n.z1, n.st, z, n.ed.map swapE⟩

theorem edges_snoc (l : List Ed) (e : Ed) : edges l ++ [.int .i64 e.a, .int .i64 e.b, .int .u8 (e.p : Nat), .int .u8 (e.n : Nat)] = edges (l ++ [e]) := rows_app encE l [e]

abbrev HR (n : Aut) (c1 : Blk) (ev : AV) (T : Heap) : Heap := .cells false false n.cells :: c1 :: .cells false false [.int .i64 n.vars, .int .i64 n.states, iw n.z2 n.fi, iw n.z1 n.st, ev] :: T

theorem take_swap {n : Aut} {k : Nat} (h : k < n.ed.length) : (n.ed.map swapE).take k ++ [swapE (n.ed.getD k e0)] = (n.ed.map swapE).take (k + 1) := by
  rw [List.take_succ_eq_append_getElem (by simpa using h)]
  simp [List.getD, List.getElem?_eq_getElem h]

theorem rev_loop {n : Aut} {c1 : Blk} (hl : n.ed.length < 1000000) : ∀ d k J, k + 1 + d = n.ed.length →
    ∃ J' : Heap, L.loop a18l0s a18l0 ⟨a18l0F (.ptr 1 0) (.ptr 2 0) (.sl n.z3 n.ed.length (edges n.ed)) (.int .i64 (n.ed.length : Nat)) (.int .i64 ((k + 1 : Nat))), HR n c1 (.own false (J.length + 1 + 1 + 1) 0 (k + 1) 4) (J ++ [.cells false false (edges ((n.ed.map swapE).take (k + 1)))])⟩ =
      some (.exit 0, ⟨a18l0F (.ptr 1 0) (.ptr 2 0) (.sl n.z3 n.ed.length (edges n.ed)) (.int .i64 (n.ed.length : Nat)) (.int .i64 (n.ed.length : Nat)), HR n c1 (.own false (J'.length + 1 + 1 + 1) 0 n.ed.length 4) (J' ++ [.cells false false (edges (n.ed.map swapE))])⟩)
  | 0, k, J, h => by
    have h' : k + 1 = n.ed.length := by omega
    refine ⟨J, ?_⟩
    rw [h', List.take_of_length_le (by simp), a18l0n]
    simp (maxSteps := 30000000) (disch := first | assumption | omega | (simp only [List.length_cons, List.length_nil, List.length_append, List.length_set, List.length_replicate, List.length_map, List.length_range, List.length_take, List.length_drop, List.all_cons, List.all_nil, AV.isCell, Bool.and_self, Bool.and_true, bs_length, is64_length, w64_length, ints_length, edges_length] <;> omega) | rfl | decide) only [a18l0b, run_seq, run_region, runOps_cons, oper_none, ex_bin, opv, List.getD_cons_succ, List.getD_cons_zero, bin_lss, Int.lt_irrefl, decide_false, valK_some, putK_to, List.set_cons_succ, List.set_cons_zero, opsK_some, runOps_nil, regK_some, seqK_normal, run_cond, condK_bool, Bool.false_eq_true, run_skip, run_exit, if_false, seqK_exit, loopK_exit, a18l0c]
  | d + 1, k, J, h => by
    have hlt : ((k + 1 : Nat) : Int) < (n.ed.length : Nat) := by omega
    have hsn : edges ((n.ed.map swapE).take (k + 1)) ++ [.int .i64 (n.ed.getD (k + 1) e0).b, .int .i64 (n.ed.getD (k + 1) e0).a, .int .u8 ((n.ed.getD (k + 1) e0).p : Nat), .int .u8 ((n.ed.getD (k + 1) e0).n : Nat)] = edges ((n.ed.map swapE).take (k + 1 + 1)) := by
      have := edges_snoc ((n.ed.map swapE).take (k + 1)) (swapE (n.ed.getD (k + 1) e0))
      rw [take_swap (by omega)] at this
      exact this
    obtain ⟨J', ih⟩ := rev_loop (c1 := c1) hl d (k + 1) (J ++ [.dead, .cells false false (encE (n.ed.getD (k + 1) e0))]) (by omega)
    refine ⟨J', ?_⟩
    have hXl : (n.ed.map swapE).length = n.ed.length := List.length_map _
    generalize n.ed.map swapE = X at *
    have htk : List.take ((k + 1) * 4) (edges (X.take (k + 1))) = edges (X.take (k + 1)) := List.take_of_length_le (by rw [edges_length, List.length_take]; omega)
    simp only [encE, List.append_assoc, List.cons_append, List.nil_append, List.length_append, List.length_cons, List.length_nil, Nat.zero_add, Nat.reduceAdd] at ih
    rw [a18l0n]
    simp (maxSteps := 30000000) (disch := first | assumption | omega | (simp only [List.length_cons, List.length_nil, List.length_append, List.length_set, List.length_replicate, List.length_map, List.length_range, List.length_take, List.length_drop, List.all_cons, List.all_nil, AV.isCell, Bool.and_self, Bool.and_true, bs_length, is64_length, w64_length, ints_length, edges_length] <;> omega) | rfl | decide) only [a18l0b, run_seq, run_region, runOps_cons, oper_none, ex_bin, opv, List.getD_cons_succ, List.getD_cons_zero, bin_lss, hlt, decide_true, valK_some, putK_to, List.set_cons_succ, List.set_cons_zero, opsK_some, runOps_nil, regK_some, seqK_normal, run_cond, condK_bool, run_skip, run_exit, if_true, run_block, ex_iaddr, iaddrA_sl, Int.toNat_natCast, ex_load, rd_vptr, edges_at, loadK_n, ex_box, AV.cells, List.all_cons, AV.isCell, List.all_nil, Bool.and_self, List.length_cons, List.length_append, List.length_nil, Nat.zero_add, List.cons_append, List.append_assoc, List.nil_append, ex_store, Nat.reduceAdd, wr_ptr, List.getElem?_cons_succ, hget, List.getElem?_cons_zero, wrK_cells, splice, List.take_zero, List.drop_succ_cons, List.drop_nil, List.append_nil, hset, storeK_some, putK_no, ex_faddr, faddrA_ptr, rd_ptr, rdK_cells, List.drop_zero, List.take_succ_cons, List.take_nil, loadK_1, Nat.add_zero, ex_build, beq_self_eq_true, List.map_cons, List.map_nil, fillA, Nat.reduceLeDiff, and_self, Nat.le_refl, Option.map_some, ex_bslice, repz_1, Nat.reduceMul, newK_some, newA_data, frzN, List.flatMap_cons, bor_int, List.flatMap_nil, List.isEmpty_nil, List.mapM_cons, frz_int, List.mapM_nil, Option.pure_def, Option.bind_eq_bind, Option.bind_some, slK_some, ex_append, src_sl, appK_own, hget0, appOK_cells, Nat.reduceBEq, hset0, htk, hsn, blockK_normal, bin_add, cadd1, wr64, ex_mov, loopK_normal, a18l0c, ih]

theorem reverse_eq (n : Aut) (hf : Fits n) (h1 : n.z1 = true → n.st = []) (h2 : n.z2 = true → n.fi = []) (hl : n.ed.length < 1000000) : ∃ e : Int, L.pcall 26 [n.av] = some (.int .i64 e) ∧ (e = 0 ↔ Valid n) ∧
    (e ≠ 0 → L.pcall 18 [n.av] = some (.tup [zeroA.av, .int .i64 e])) ∧ (e = 0 → ∃ z, L.pcall 18 [n.av] = some (.tup [(revA n z).av, .int .i64 0]) ∧ (z = true → n.ed = [])) := by
  obtain ⟨e, k1, k2⟩ := check_eq n hf
  refine ⟨e, k1, k2, fun he => ?_, fun he => ?_⟩
  · rw [a18p, a18, pbodyA_eq]
    simp (maxSteps := 30000000) (disch := first | assumption | omega | (simp only [List.length_cons, List.length_nil, List.length_append, List.length_set, List.length_replicate, List.length_map, List.length_range, List.length_take, List.length_drop, List.all_cons, List.all_nil, AV.isCell, Bool.and_self, Bool.and_true, bs_length, is64_length, w64_length, ints_length, edges_length] <;> omega) | rfl | decide) only [bodyA_eq, List.length_cons, List.length_nil, Nat.zero_add, Nat.reduceSub, pads, List.cons_append, List.nil_append, run_seq, run_region, runOps_cons, oper_none, ex_box, AV.cells, opv, List.getD_cons_zero, List.all_cons, AV.isCell, List.all_nil, Bool.and_self, if_true, putK_to, List.set_cons_succ, List.set_cons_zero, opsK_some, ex_mov, runOps_nil, regK_some, seqK_normal, ex_load, List.getD_cons_succ, rd_ptr, List.getElem?_cons_zero, rdK_cells, List.drop_zero, List.take_succ_cons, List.take_nil, loadK_n, valK_some, ex_call, List.map_cons, List.map_nil, pcallA_eq, frzN, List.mapM_cons, frz_agg, frz_int, frz_sl, List.mapM_nil, Option.pure_def, Option.bind_eq_bind, Option.bind_some, Option.map_some, argK_some, k1, retK_some, scal, scal1, fzIds, List.flatMap_cons, bor_agg, bor_int, bor_sl, List.flatMap_nil, List.append_nil, List.foldl_nil, ite_self, ex_bin, bin_neq, he, decide_false, Bool.not_false, run_cond, condK_bool, ex_build, fillA, ex_store, Nat.reduceAdd, wr_ptr, List.getElem?_cons_succ, wrK_cells, splice, List.take_zero, List.drop_succ_cons, List.drop_nil, storeK_some, putK_no, run_ret, run_skip, seqK_ret, bodyK_ret, results_2, resL_cons, res_cell, cellK_some, mkv_n, resK_some, res_tmp, resL_nil, retvK_some, pbodyK_some, frz_tup]
    rfl
  · subst he
    have g1 := clone41 n.z2 n.fi hf.l2 h2
    have g2 := clone41 n.z1 n.st hf.l1 h1
    by_cases h0 : n.ed.length = 0
    · have hnil : n.ed = [] := List.length_eq_zero_iff.1 h0
      refine ⟨true, ?_, fun _ => hnil⟩
      have hloop : ∀ H, L.loop a18l0s a18l0 ⟨a18l0F (.ptr 1 0) (.ptr 2 0) (.sl n.z3 n.ed.length (edges n.ed)) (.int .i64 (n.ed.length : Nat)) (.int .i64 0), H⟩ = some (.exit 0, ⟨a18l0F (.ptr 1 0) (.ptr 2 0) (.sl n.z3 n.ed.length (edges n.ed)) (.int .i64 (n.ed.length : Nat)) (.int .i64 0), H⟩) := by
        intro H
        have hlt : ¬ ((0 : Int) < (n.ed.length : Nat)) := by omega
        rw [a18l0n]
        simp (maxSteps := 30000000) (disch := first | assumption | omega | (simp only [List.length_cons, List.length_nil, List.length_append, List.length_set, List.length_replicate, List.length_map, List.length_range, List.length_take, List.length_drop, List.all_cons, List.all_nil, AV.isCell, Bool.and_self, Bool.and_true, bs_length, is64_length, w64_length, ints_length, edges_length] <;> omega) | rfl | decide) only [a18l0b, run_seq, run_region, runOps_cons, oper_none, ex_bin, opv, List.getD_cons_succ, List.getD_cons_zero, bin_lss, hlt, decide_false, valK_some, putK_to, List.set_cons_succ, List.set_cons_zero, opsK_some, runOps_nil, regK_some, seqK_normal, run_cond, condK_bool, Bool.false_eq_true, run_skip, run_exit, if_false, seqK_exit, loopK_exit, a18l0c]
      rw [a18p, a18, pbodyA_eq]
      simp (maxSteps := 30000000) (disch := first | assumption | omega | (simp only [List.length_cons, List.length_nil, List.length_append, List.length_set, List.length_replicate, List.length_map, List.length_range, List.length_take, List.length_drop, List.all_cons, List.all_nil, AV.isCell, Bool.and_self, Bool.and_true, bs_length, is64_length, w64_length, ints_length, edges_length] <;> omega) | rfl | decide) only [bodyA_eq, List.length_cons, List.length_nil, Nat.zero_add, Nat.reduceSub, pads, List.cons_append, List.nil_append, run_seq, run_region, runOps_cons, oper_none, ex_box, AV.cells, opv, List.getD_cons_zero, List.all_cons, AV.isCell, List.all_nil, Bool.and_self, if_true, putK_to, List.set_cons_succ, List.set_cons_zero, opsK_some, ex_mov, runOps_nil, regK_some, seqK_normal, ex_load, List.getD_cons_succ, rd_ptr, List.getElem?_cons_zero, rdK_cells, List.drop_zero, List.take_succ_cons, List.take_nil, loadK_n, valK_some, ex_call, List.map_cons, List.map_nil, pcallA_eq, frzN, List.mapM_cons, frz_agg, frz_int, frz_sl, List.mapM_nil, Option.pure_def, Option.bind_eq_bind, Option.bind_some, Option.map_some, argK_some, k1, retK_some, scal, scal1, fzIds, List.flatMap_cons, bor_agg, bor_int, bor_sl, List.flatMap_nil, List.append_nil, List.foldl_nil, ite_self, ex_bin, bin_neq, decide_true, Bool.not_true, run_cond, condK_bool, Bool.false_eq_true, ex_build, fillA, ex_store, Nat.reduceAdd, wr_ptr, List.getElem?_cons_succ, wrK_cells, splice, List.take_zero, List.drop_succ_cons, List.drop_nil, storeK_some, putK_no, run_ret, run_skip, if_false, run_draw, runFree_cons, foper_none, fe_faddr, ex_faddr, faddrA_ptr, Nat.add_zero, fstK_some, fputK_to, freeK_some, fe_load, loadK_1, fe_call, g1, quietK_some, quietCall, List.isEmpty_nil, Bool.or_true, g2, fe_build, beq_self_eq_true, Nat.reduceLeDiff, and_self, fe_box, runFree_nil, drawK_some, adopt, adoptVal, putA_to, ex_len, lenA_sl, run_block, run_loop, a18l0c, hloop, blockK_exit, bodyK_ret, results_2, resL_cons, res_cell, cellK_some, mkv_n, resK_some, res_tmp, resL_nil, retvK_some, pbodyK_some, frz_tup]
      simp [revA, hnil]
      rfl
    · refine ⟨false, ?_, fun h => by cases h⟩
      have hlt : (0 : Int) < (n.ed.length : Nat) := by omega
      have hat : List.take 4 (edges n.ed) = [.int .i64 (n.ed.getD 0 e0).a, .int .i64 (n.ed.getD 0 e0).b, .int .u8 ((n.ed.getD 0 e0).p : Nat), .int .u8 ((n.ed.getD 0 e0).n : Nat)] := by
        have := edges_at (l := n.ed) (i := 0) (by omega)
        simpa using this
      have hone : edges ((n.ed.map swapE).take (0 + 1)) = [.int .i64 (n.ed.getD 0 e0).b, .int .i64 (n.ed.getD 0 e0).a, .int .u8 ((n.ed.getD 0 e0).p : Nat), .int .u8 ((n.ed.getD 0 e0).n : Nat)] := by
        rw [← take_swap (by omega)]
        rfl
      obtain ⟨J', hloop⟩ := rev_loop (n := n) (c1 := .cells false false [.int .i64 0, .int .i64 0, .sl true 0 [], .sl true 0 [], .sl true 0 []]) hl (n.ed.length - 1) 0 [.cells false false (encE (n.ed.getD 0 e0))] (by omega)
      simp only [hone, encE, List.cons_append, List.nil_append, List.length_cons, List.length_nil, Nat.zero_add, Nat.reduceAdd, Int.natCast_one] at hloop
      have hXl : (n.ed.map swapE).length = n.ed.length := List.length_map _
      have htk : List.take (n.ed.length * 4) (edges (n.ed.map swapE)) = edges (n.ed.map swapE) := List.take_of_length_le (by rw [edges_length]; omega)
      rw [a18p, a18, pbodyA_eq]
      simp (maxSteps := 30000000) (disch := first | assumption | omega | (simp only [List.length_cons, List.length_nil, List.length_append, List.length_set, List.length_replicate, List.length_map, List.length_range, List.length_take, List.length_drop, List.all_cons, List.all_nil, AV.isCell, Bool.and_self, Bool.and_true, bs_length, is64_length, w64_length, ints_length, edges_length] <;> omega) | rfl | decide) only [bodyA_eq, List.length_cons, List.length_nil, Nat.zero_add, Nat.reduceSub, pads, List.cons_append, List.nil_append, run_seq, run_region, runOps_cons, oper_none, ex_box, AV.cells, opv, List.getD_cons_zero, List.all_cons, AV.isCell, List.all_nil, Bool.and_self, if_true, putK_to, List.set_cons_succ, List.set_cons_zero, opsK_some, ex_mov, runOps_nil, regK_some, seqK_normal, ex_load, List.getD_cons_succ, rd_ptr, List.getElem?_cons_zero, rdK_cells, List.drop_zero, List.take_succ_cons, List.take_nil, loadK_n, valK_some, ex_call, List.map_cons, List.map_nil, pcallA_eq, frzN, List.mapM_cons, frz_agg, frz_int, frz_sl, List.mapM_nil, Option.pure_def, Option.bind_eq_bind, Option.bind_some, Option.map_some, argK_some, k1, retK_some, scal, scal1, fzIds, List.flatMap_cons, bor_agg, bor_int, bor_sl, List.flatMap_nil, List.append_nil, List.foldl_nil, ite_self, ex_bin, bin_neq, decide_true, Bool.not_true, run_cond, condK_bool, Bool.false_eq_true, ex_build, fillA, ex_store, Nat.reduceAdd, wr_ptr, List.getElem?_cons_succ, wrK_cells, splice, List.take_zero, List.drop_succ_cons, List.drop_nil, storeK_some, putK_no, run_ret, run_skip, if_false, run_draw, runFree_cons, foper_none, fe_faddr, ex_faddr, faddrA_ptr, Nat.add_zero, fstK_some, fputK_to, freeK_some, fe_load, loadK_1, fe_call, g1, quietK_some, quietCall, List.isEmpty_nil, Bool.or_true, g2, fe_build, beq_self_eq_true, Nat.reduceLeDiff, and_self, fe_box, runFree_nil, drawK_some, adopt, adoptVal, putA_to, ex_len, lenA_sl, run_block, run_loop, a18l0c, a18l0n, a18l0b, bin_lss, hlt, run_exit, ex_iaddr, iaddrA_sl, Int.toNat_zero, Nat.reduceMul, rd_vptr, hat, Nat.le_refl, ex_bslice, repz_1, newK_some, newA_data, slK_some, ex_append, src_sl, appK_nil, Nat.reduceBEq, newA_own, blockK_normal, bin_add, Int.zero_add, wr64, loopK_normal, hloop, blockK_exit, bodyK_ret, results_2, resL_cons, res_cell, cellK_some, mkv_n, resK_some, res_tmp, resL_nil, retvK_some, pbodyK_some, frz_tup, frz_own, hget0, frzK_cells, htk, frz_edges]
      show _ = some (AV.tup [.agg [.int .i64 n.vars, .int .i64 n.states, iw n.z2 n.fi, iw n.z1 n.st, .sl false (n.ed.map swapE).length (edges (n.ed.map swapE))], .int .i64 0])
      rw [hXl]
end Go.Abs.NfaD
