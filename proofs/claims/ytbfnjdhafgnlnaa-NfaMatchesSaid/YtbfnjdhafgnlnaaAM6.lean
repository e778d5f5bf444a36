/- Check, After, Run, Accepts: what they compute, their results the caller's own. -/
import Derived.Test.YtbfnjdhafgnlnaaAM5
namespace Go.Abs.Nfa
open Go Go.Abs
set_option linter.unusedSimpArgs false
set_option linter.unusedVariables false

/-- what Check answers -/
def chkM (n : Aut) : Int :=
  if (decide (n.vars < 0) || decide (6 < n.vars)) = true then 7 else if n.states < 0 then 1 else if (decide (64 < n.states) || decide (512 < n.ed.length)) = true then 4
  else if (!ascB n.states (-1) n.st || !ascB n.states (-1) n.fi) = true then 8 else edsErr n.states n.vars.toNat n.ed

set_option maxHeartbeats 4000000 in
theorem check_exact (n : Aut) (hf : Fits n) : L.pcall 11 [n.av] = some (.int .i64 (chkM n)) ∧ (chkM n = 0 ↔ Valid n) := by
  have k1 := fun T => c42 n 0 (.cells false false n.cells :: T) (fz := false) (z := false) rfl
  have k2 := fun T => c43 n 0 (.cells false false n.cells :: T) (fz := false) (z := false) rfl
  have k3 := fun T => c44 n 0 (.cells false false n.cells :: T) (fz := false) (z := false) rfl
  have k4 := fun T => c45 n 0 (.cells false false n.cells :: T) (fz := false) (z := false) rfl hf.l1 hf.l2
  by_cases d1 : (decide (n.vars < 0) || decide (6 < n.vars)) = true
  · rw [show chkM n = 7 from if_pos d1]
    refine ⟨?_, ⟨fun h => by omega, fun h => ?_⟩⟩
    · rw [a11p, a11, pbodyA_eq]
      simp (maxSteps := 30000000) (disch := first | assumption | omega | (simp only [List.length_cons, List.length_nil, List.length_append, List.length_set, List.length_replicate, List.length_map, List.length_range, List.length_take, List.length_drop, List.all_cons, List.all_nil, AV.isCell, Bool.and_self, Bool.and_true, bs_length, is64_length, w64_length, ints_length, edges_length] <;> omega) | rfl | decide) only [bodyA_eq, List.length_cons, List.length_nil, Nat.zero_add, Nat.reduceSub, pads, List.cons_append, List.nil_append, run_seq, run_region, runOps_cons, oper_none, ex_box, AV.cells, opv, List.getD_cons_zero, List.all_cons, AV.isCell, List.all_nil, Bool.and_self, if_true, putK_to, List.set_cons_succ, List.set_cons_zero, opsK_some, ex_mov, runOps_nil, regK_some, seqK_normal, ex_mkfunc, List.map_cons, List.getD_cons_succ, List.map_nil, ex_build, beq_self_eq_true, fillA, Nat.reduceAdd, Nat.reduceLeDiff, and_self, splice, List.take_zero, List.drop_succ_cons, List.drop_zero, Nat.le_refl, List.take_succ_cons, List.drop_nil, List.append_nil, Option.map_some, valK_some, ex_bslice, repz_4, Nat.reduceMul, newK_some, newA_own, ex_len, lenA_own, castLit, run_block, run_loop, a11l0c, a11l0n, a11l0b, ex_bin, bin_lss, Int.reduceLT, decide_true, run_cond, condK_bool, run_skip, run_exit, ex_iaddr, iaddrA_own, Int.toNat_zero, Nat.add_zero, ex_load, rd_ptr, List.getElem?_cons_succ, List.getElem?_cons_zero, rdK_cells, loadK_n, ex_store, wr_ptr, wrK_cells, storeK_some, putK_no, ex_faddr, faddrA_ptr, loadK_1, ex_icall, k1, d1, List.take_nil, run_ret, blockK_ret, seqK_ret, loopK_ret, bodyK_ret, results_1, res_tmp, retvK_some, pbodyK_some, frzN, frz_int]
    · have := h.v0; have := h.v6; simp at d1; omega
  have d1' : (decide (n.vars < 0) || decide (6 < n.vars)) = false := by simpa using d1
  by_cases d2 : n.states < 0
  · rw [show chkM n = 1 from by unfold chkM; rw [if_neg d1, if_pos d2]]
    refine ⟨?_, ⟨fun h => by omega, fun h => ?_⟩⟩
    · rw [a11p, a11, pbodyA_eq]
      simp (maxSteps := 30000000) (disch := first | assumption | omega | (simp only [List.length_cons, List.length_nil, List.length_append, List.length_set, List.length_replicate, List.length_map, List.length_range, List.length_take, List.length_drop, List.all_cons, List.all_nil, AV.isCell, Bool.and_self, Bool.and_true, bs_length, is64_length, w64_length, ints_length, edges_length] <;> omega) | rfl | decide) only [bodyA_eq, List.length_cons, List.length_nil, Nat.zero_add, Nat.reduceSub, pads, List.cons_append, List.nil_append, run_seq, run_region, runOps_cons, oper_none, ex_box, AV.cells, opv, List.getD_cons_zero, List.all_cons, AV.isCell, List.all_nil, Bool.and_self, if_true, putK_to, List.set_cons_succ, List.set_cons_zero, opsK_some, ex_mov, runOps_nil, regK_some, seqK_normal, ex_mkfunc, List.map_cons, List.getD_cons_succ, List.map_nil, ex_build, beq_self_eq_true, fillA, Nat.reduceAdd, Nat.reduceLeDiff, and_self, splice, List.take_zero, List.drop_succ_cons, List.drop_zero, Nat.le_refl, List.take_succ_cons, List.drop_nil, List.append_nil, Option.map_some, valK_some, ex_bslice, repz_4, Nat.reduceMul, newK_some, newA_own, ex_len, lenA_own, castLit, run_block, run_loop, a11l0c, a11l0n, a11l0b, ex_bin, bin_lss, Int.reduceLT, decide_true, run_cond, condK_bool, run_skip, run_exit, ex_iaddr, iaddrA_own, Int.toNat_zero, Nat.add_zero, ex_load, rd_ptr, List.getElem?_cons_succ, List.getElem?_cons_zero, rdK_cells, loadK_n, ex_store, wr_ptr, wrK_cells, storeK_some, putK_no, ex_faddr, faddrA_ptr, loadK_1, ex_icall, k1, d1', Bool.false_eq_true, List.take_nil, run_ret, if_false, blockK_normal, bin_add, Int.zero_add, wr64, loopK_normal, Int.toNat_one, k2, d2, blockK_ret, seqK_ret, loopK_ret, bodyK_ret, results_1, res_tmp, retvK_some, pbodyK_some, frzN, frz_int]
    · have := h.s0; omega
  by_cases d3 : (decide (64 < n.states) || decide (512 < n.ed.length)) = true
  · rw [show chkM n = 4 from by unfold chkM; rw [if_neg d1, if_neg d2, if_pos d3]]
    refine ⟨?_, ⟨fun h => by omega, fun h => ?_⟩⟩
    · rw [a11p, a11, pbodyA_eq]
      simp (maxSteps := 30000000) (disch := first | assumption | omega | (simp only [List.length_cons, List.length_nil, List.length_append, List.length_set, List.length_replicate, List.length_map, List.length_range, List.length_take, List.length_drop, List.all_cons, List.all_nil, AV.isCell, Bool.and_self, Bool.and_true, bs_length, is64_length, w64_length, ints_length, edges_length] <;> omega) | rfl | decide) only [bodyA_eq, List.length_cons, List.length_nil, Nat.zero_add, Nat.reduceSub, pads, List.cons_append, List.nil_append, run_seq, run_region, runOps_cons, oper_none, ex_box, AV.cells, opv, List.getD_cons_zero, List.all_cons, AV.isCell, List.all_nil, Bool.and_self, if_true, putK_to, List.set_cons_succ, List.set_cons_zero, opsK_some, ex_mov, runOps_nil, regK_some, seqK_normal, ex_mkfunc, List.map_cons, List.getD_cons_succ, List.map_nil, ex_build, beq_self_eq_true, fillA, Nat.reduceAdd, Nat.reduceLeDiff, and_self, splice, List.take_zero, List.drop_succ_cons, List.drop_zero, Nat.le_refl, List.take_succ_cons, List.drop_nil, List.append_nil, Option.map_some, valK_some, ex_bslice, repz_4, Nat.reduceMul, newK_some, newA_own, ex_len, lenA_own, castLit, run_block, run_loop, a11l0c, a11l0n, a11l0b, ex_bin, bin_lss, Int.reduceLT, decide_true, run_cond, condK_bool, run_skip, run_exit, ex_iaddr, iaddrA_own, Int.toNat_zero, Nat.add_zero, ex_load, rd_ptr, List.getElem?_cons_succ, List.getElem?_cons_zero, rdK_cells, loadK_n, ex_store, wr_ptr, wrK_cells, storeK_some, putK_no, ex_faddr, faddrA_ptr, loadK_1, ex_icall, k1, d1', Bool.false_eq_true, List.take_nil, run_ret, if_false, blockK_normal, bin_add, Int.zero_add, wr64, loopK_normal, Int.toNat_one, k2, d2, decide_false, Int.reduceAdd, Int.reduceToNat, k3, d3, blockK_ret, seqK_ret, loopK_ret, bodyK_ret, results_1, res_tmp, retvK_some, pbodyK_some, frzN, frz_int]
    · have := h.s64; have := h.el; simp at d3; omega
  have d3' : (decide (64 < n.states) || decide (512 < n.ed.length)) = false := by simpa using d3
  by_cases d4 : (!ascB n.states (-1) n.st || !ascB n.states (-1) n.fi) = true
  · rw [show chkM n = 8 from by unfold chkM; rw [if_neg d1, if_neg d2, if_neg d3, if_pos d4]]
    refine ⟨?_, ⟨fun h => by omega, fun h => ?_⟩⟩
    · rw [a11p, a11, pbodyA_eq]
      simp (maxSteps := 30000000) (disch := first | assumption | omega | (simp only [List.length_cons, List.length_nil, List.length_append, List.length_set, List.length_replicate, List.length_map, List.length_range, List.length_take, List.length_drop, List.all_cons, List.all_nil, AV.isCell, Bool.and_self, Bool.and_true, bs_length, is64_length, w64_length, ints_length, edges_length] <;> omega) | rfl | decide) only [bodyA_eq, List.length_cons, List.length_nil, Nat.zero_add, Nat.reduceSub, pads, List.cons_append, List.nil_append, run_seq, run_region, runOps_cons, oper_none, ex_box, AV.cells, opv, List.getD_cons_zero, List.all_cons, AV.isCell, List.all_nil, Bool.and_self, if_true, putK_to, List.set_cons_succ, List.set_cons_zero, opsK_some, ex_mov, runOps_nil, regK_some, seqK_normal, ex_mkfunc, List.map_cons, List.getD_cons_succ, List.map_nil, ex_build, beq_self_eq_true, fillA, Nat.reduceAdd, Nat.reduceLeDiff, and_self, splice, List.take_zero, List.drop_succ_cons, List.drop_zero, Nat.le_refl, List.take_succ_cons, List.drop_nil, List.append_nil, Option.map_some, valK_some, ex_bslice, repz_4, Nat.reduceMul, newK_some, newA_own, ex_len, lenA_own, castLit, run_block, run_loop, a11l0c, a11l0n, a11l0b, ex_bin, bin_lss, Int.reduceLT, decide_true, run_cond, condK_bool, run_skip, run_exit, ex_iaddr, iaddrA_own, Int.toNat_zero, Nat.add_zero, ex_load, rd_ptr, List.getElem?_cons_succ, List.getElem?_cons_zero, rdK_cells, loadK_n, ex_store, wr_ptr, wrK_cells, storeK_some, putK_no, ex_faddr, faddrA_ptr, loadK_1, ex_icall, k1, d1', Bool.false_eq_true, List.take_nil, run_ret, if_false, blockK_normal, bin_add, Int.zero_add, wr64, loopK_normal, Int.toNat_one, k2, d2, decide_false, Int.reduceAdd, Int.reduceToNat, k3, d3', k4, Int.reduceNeg, d4, blockK_ret, seqK_ret, loopK_ret, bodyK_ret, results_1, res_tmp, retvK_some, pbodyK_some, frzN, frz_int]
    · rw [h.st, h.fi] at d4; simp at d4
  have d4' : (!ascB n.states (-1) n.st || !ascB n.states (-1) n.fi) = false := by simpa using d4
  simp only [Bool.or_eq_false_iff, decide_eq_false_iff_not, Bool.not_eq_false'] at d1' d3' d4'
  have hM : chkM n = edsErr n.states n.vars.toNat n.ed := by unfold chkM; rw [if_neg d1, if_neg d2, if_neg d3, if_neg d4]
  rw [hM]
  have hnv : n.vars = ((n.vars.toNat : Nat) : Int) := by omega
  have hv : n.vars.toNat ≤ 6 := by omega
  have hloop := fun T => edges_loop (n := n) (s2 := .int .i64 0) hv hnv hf.l3 hf.by_ n.ed.length 0 T (by omega)
  simp only [Int.natCast_zero, List.drop_zero] at hloop
  have e3 : (decide (64 < n.states) || decide (512 < n.ed.length)) = false := by simp; omega
  have e1 : (decide (n.vars < 0) || decide (6 < n.vars)) = false := by simp; omega
  have e4 : (!ascB n.states (-1) n.st || !ascB n.states (-1) n.fi) = false := by rw [d4'.1, d4'.2]; rfl
  by_cases e : edsErr n.states n.vars.toNat n.ed = 0
  · simp only [e, if_true] at hloop
    rw [e]
    refine ⟨?_, ⟨fun _ => ⟨by omega, by omega, by omega, by omega, by omega, d4'.1, d4'.2, e⟩, fun _ => rfl⟩⟩
    obtain ⟨T', i', h5⟩ := hloop [.cells false false [.func 42 [.ptr 0 0], .int .i64 7, .func 43 [.ptr 0 0], .int .i64 1, .func 44 [.ptr 0 0], .int .i64 4, .func 45 [.ptr 0 0], .int .i64 8], .cells false false [.func 42 [.ptr 0 0], .int .i64 7], .cells false false [.func 43 [.ptr 0 0], .int .i64 1], .cells false false [.func 44 [.ptr 0 0], .int .i64 4], .cells false false [.func 45 [.ptr 0 0], .int .i64 8]]
    rw [a11p, a11, pbodyA_eq]
    simp (maxSteps := 30000000) (disch := first | assumption | omega | (simp only [List.length_cons, List.length_nil, List.length_append, List.length_set, List.length_replicate, List.length_map, List.length_range, List.length_take, List.length_drop, List.all_cons, List.all_nil, AV.isCell, Bool.and_self, Bool.and_true, bs_length, is64_length, w64_length, ints_length, edges_length] <;> omega) | rfl | decide) only [bodyA_eq, List.length_cons, List.length_nil, Nat.zero_add, Nat.reduceSub, pads, List.cons_append, List.nil_append, run_seq, run_region, runOps_cons, oper_none, ex_box, AV.cells, opv, List.getD_cons_zero, List.all_cons, AV.isCell, List.all_nil, Bool.and_self, if_true, putK_to, List.set_cons_succ, List.set_cons_zero, opsK_some, ex_mov, runOps_nil, regK_some, seqK_normal, ex_mkfunc, List.map_cons, List.getD_cons_succ, List.map_nil, ex_build, beq_self_eq_true, fillA, Nat.reduceAdd, Nat.reduceLeDiff, and_self, splice, List.take_zero, List.drop_succ_cons, List.drop_zero, Nat.le_refl, List.take_succ_cons, List.drop_nil, List.append_nil, Option.map_some, valK_some, ex_bslice, repz_4, Nat.reduceMul, newK_some, newA_own, ex_len, lenA_own, castLit, run_block, run_loop, a11l0c, a11l0n, a11l0b, ex_bin, bin_lss, Int.reduceLT, decide_true, run_cond, condK_bool, run_skip, run_exit, ex_iaddr, iaddrA_own, Int.toNat_zero, Nat.add_zero, ex_load, rd_ptr, List.getElem?_cons_succ, List.getElem?_cons_zero, rdK_cells, loadK_n, ex_store, wr_ptr, wrK_cells, storeK_some, putK_no, ex_faddr, faddrA_ptr, loadK_1, ex_icall, k1, e1, Bool.false_eq_true, List.take_nil, run_ret, if_false, blockK_normal, bin_add, Int.zero_add, wr64, loopK_normal, Int.toNat_one, k2, d2, decide_false, Int.reduceAdd, Int.reduceToNat, k3, e3, k4, Int.reduceNeg, e4, Int.lt_irrefl, seqK_exit, loopK_exit, blockK_exit, lenA_sl, a11l1c, h5, bodyK_ret, results_1, res_tmp, retvK_some, pbodyK_some, frzN, frz_int]
  · simp only [e, if_false] at hloop
    refine ⟨?_, ⟨fun h => (e h).elim, fun h => (e h.ed).elim⟩⟩
    obtain ⟨T', i', h5⟩ := hloop [.cells false false [.func 42 [.ptr 0 0], .int .i64 7, .func 43 [.ptr 0 0], .int .i64 1, .func 44 [.ptr 0 0], .int .i64 4, .func 45 [.ptr 0 0], .int .i64 8], .cells false false [.func 42 [.ptr 0 0], .int .i64 7], .cells false false [.func 43 [.ptr 0 0], .int .i64 1], .cells false false [.func 44 [.ptr 0 0], .int .i64 4], .cells false false [.func 45 [.ptr 0 0], .int .i64 8]]
    rw [a11p, a11, pbodyA_eq]
    simp (maxSteps := 30000000) (disch := first | assumption | omega | (simp only [List.length_cons, List.length_nil, List.length_append, List.length_set, List.length_replicate, List.length_map, List.length_range, List.length_take, List.length_drop, List.all_cons, List.all_nil, AV.isCell, Bool.and_self, Bool.and_true, bs_length, is64_length, w64_length, ints_length, edges_length] <;> omega) | rfl | decide) only [bodyA_eq, List.length_cons, List.length_nil, Nat.zero_add, Nat.reduceSub, pads, List.cons_append, List.nil_append, run_seq, run_region, runOps_cons, oper_none, ex_box, AV.cells, opv, List.getD_cons_zero, List.all_cons, AV.isCell, List.all_nil, Bool.and_self, if_true, putK_to, List.set_cons_succ, List.set_cons_zero, opsK_some, ex_mov, runOps_nil, regK_some, seqK_normal, ex_mkfunc, List.map_cons, List.getD_cons_succ, List.map_nil, ex_build, beq_self_eq_true, fillA, Nat.reduceAdd, Nat.reduceLeDiff, and_self, splice, List.take_zero, List.drop_succ_cons, List.drop_zero, Nat.le_refl, List.take_succ_cons, List.drop_nil, List.append_nil, Option.map_some, valK_some, ex_bslice, repz_4, Nat.reduceMul, newK_some, newA_own, ex_len, lenA_own, castLit, run_block, run_loop, a11l0c, a11l0n, a11l0b, ex_bin, bin_lss, Int.reduceLT, decide_true, run_cond, condK_bool, run_skip, run_exit, ex_iaddr, iaddrA_own, Int.toNat_zero, Nat.add_zero, ex_load, rd_ptr, List.getElem?_cons_succ, List.getElem?_cons_zero, rdK_cells, loadK_n, ex_store, wr_ptr, wrK_cells, storeK_some, putK_no, ex_faddr, faddrA_ptr, loadK_1, ex_icall, k1, e1, Bool.false_eq_true, List.take_nil, run_ret, if_false, blockK_normal, bin_add, Int.zero_add, wr64, loopK_normal, Int.toNat_one, k2, d2, decide_false, Int.reduceAdd, Int.reduceToNat, k3, e3, k4, Int.reduceNeg, e4, Int.lt_irrefl, seqK_exit, loopK_exit, blockK_exit, lenA_sl, a11l1c, h5, blockK_ret, seqK_ret, bodyK_ret, results_1, res_tmp, retvK_some, pbodyK_some, frzN, frz_int]
def runS (ed : List Ed) (S : Nat → Bool) (w : List Nat) : Nat → Bool := w.foldl (fun S x => stepS ed S x) S
def inS (l : List Int) (j : Nat) : Bool := l.contains (j : Int)

theorem runw_loop {n : Aut} {zw : Bool} {w : List Nat} (hw : ∀ x ∈ w, x < 256) (hwl : w.length < 1099511627776) (hl : n.ed.length < 1099511627776) (hb : EdOk n.ed) : ∀ d i T v ls S, i + d = w.length → OwnT 1 T v ls → CanS ls S →
    ∃ T' v' r, L.loop a25l0s a25l0 ⟨a25l0F (.ptr 0 0) v (word zw w) (.int .i64 (w.length : Nat)) (.int .i64 (i : Nat)), .cells false false n.cells :: T⟩ =
      some (.exit 0, ⟨a25l0F (.ptr 0 0) v' (word zw w) (.int .i64 (w.length : Nat)) (.int .i64 (w.length : Nat)), .cells false false n.cells :: T'⟩) ∧ OwnT 1 T' v' r ∧ CanS r (runS n.ed S (w.drop i))
  | 0, i, T, v, ls, S, h, hO, hS => by
    obtain rfl : i = w.length := by omega
    refine ⟨T, v, ls, ?_, hO, hS.congr (fun j => by rw [List.drop_length]; rfl)⟩
    rw [a25l0n]
    simp (maxSteps := 30000000) (disch := first | assumption | omega | (simp only [List.length_cons, List.length_nil, List.length_append, List.length_set, List.length_replicate, List.length_map, List.length_range, List.length_take, List.length_drop, List.all_cons, List.all_nil, AV.isCell, Bool.and_self, Bool.and_true, bs_length, is64_length, w64_length, ints_length, edges_length] <;> omega) | rfl | decide) only [a25l0b, run_seq, run_region, runOps_cons, oper_none, ex_bin, opv, List.getD_cons_succ, List.getD_cons_zero, bin_lss, Int.lt_irrefl, decide_false, valK_some, putK_to, List.set_cons_succ, List.set_cons_zero, opsK_some, runOps_nil, regK_some, seqK_normal, run_cond, condK_bool, Bool.false_eq_true, run_skip, run_exit, if_false, seqK_exit, loopK_exit, a25l0c]
  | d + 1, i, T, v, ls, S, h, hO, hS => by
    have hlt : (i : Int) < (w.length : Nat) := by omega
    have hx : w.getD i 0 < 256 := by
      rw [List.getD_eq_getElem?_getD, List.getElem?_eq_getElem (by omega)]
      exact hw _ (List.getElem_mem _)
    have hcg : ∀ j, runS n.ed (stepS n.ed S (w.getD i 0)) (w.drop (i + 1)) j = runS n.ed S (w.drop i) j := fun j => by rw [drop_getN (by omega : i < w.length)]; rfl
    have key : ∀ z, (v = .sl true 0 [] ∧ z = true) ∨ z = false → ∃ u B r, ocallA L 56 [n.av, sw z ls, .int .u8 (w.getD i 0 : Nat)] = some (u, B) ∧ OwnS u B r ∧ CanS r (stepS n.ed S (w.getD i 0)) := fun z _ => by
      obtain ⟨u, B, r, h1, h2, h3, -⟩ := after_both (n := n) hx (hS.has z) hl hb
      exact ⟨u, B, r, h1, h2, h3⟩
    rcases hO with ⟨rfl, rfl⟩ | ⟨k, x, rfl, hk⟩
    · obtain ⟨u, B, r, h1, h2, h3⟩ := key true (.inl ⟨rfl, rfl⟩)
      have h1' : ocallA L 56 [n.av, .sl true 0 [], .int .u8 (w.getD i 0 : Nat)] = some (u, B) := h1
      rcases h2 with ⟨rfl, rfl, rfl⟩ | ⟨y, rfl, rfl⟩
      · obtain ⟨T', v', r', g1, g2, g3⟩ := runw_loop (n := n) (zw := zw) hw hwl hl hb d (i + 1) T (.sl true 0 []) [] _ (by omega) (.inl ⟨rfl, rfl⟩) h3
        refine ⟨T', v', r', ?_, g2, g3.congr hcg⟩
        rw [a25l0n]
        simp (maxSteps := 30000000) (disch := first | assumption | omega | (simp only [List.length_cons, List.length_nil, List.length_append, List.length_set, List.length_replicate, List.length_map, List.length_range, List.length_take, List.length_drop, List.all_cons, List.all_nil, AV.isCell, Bool.and_self, Bool.and_true, bs_length, is64_length, w64_length, ints_length, edges_length] <;> omega) | rfl | decide) only [a25l0b, run_seq, run_region, runOps_cons, oper_none, ex_bin, opv, List.getD_cons_succ, List.getD_cons_zero, bin_lss, hlt, decide_true, valK_some, putK_to, List.set_cons_succ, List.set_cons_zero, opsK_some, runOps_nil, regK_some, seqK_normal, run_cond, condK_bool, run_skip, run_exit, if_true, run_block, ex_iaddr, iaddrA_sl, Int.toNat_natCast, Nat.mul_one, ex_load, rd_vptr, bs_drop, bs_take, bs_at0, drop_getD, Nat.add_zero, loadK_1, ex_mov, rd_ptr, List.getElem?_cons_zero, rdK_cells, List.drop_zero, List.take_succ_cons, List.take_nil, loadK_n, ex_ocall, frzN, List.map_cons, List.map_nil, List.flatMap_cons, bor_agg, bor_int, bor_sl, List.flatMap_nil, List.append_nil, List.mapM_cons, frz_agg, frz_int, frz_sl, List.mapM_nil, Option.pure_def, Option.bind_eq_bind, Option.bind_some, Option.map_some, ocArgK_some, h1', ocK_some, liftV, lift2, lift1, fzIds, List.foldl_nil, blockK_normal, bin_add, cadd1, wr64, loopK_normal, a25l0c, g1]
      · obtain ⟨T', v', r', g1, g2, g3⟩ := runw_loop (n := n) (zw := zw) hw hwl hl hb d (i + 1) (T ++ [.cells false false (w64 (r ++ y))]) (.own false (T.length + 1) 0 r.length 1) r _ (by omega) (.inr ⟨T.length, y, rfl, by simp⟩) h3
        refine ⟨T', v', r', ?_, g2, g3.congr hcg⟩
        rw [a25l0n]
        simp (maxSteps := 30000000) (disch := first | assumption | omega | (simp only [List.length_cons, List.length_nil, List.length_append, List.length_set, List.length_replicate, List.length_map, List.length_range, List.length_take, List.length_drop, List.all_cons, List.all_nil, AV.isCell, Bool.and_self, Bool.and_true, bs_length, is64_length, w64_length, ints_length, edges_length] <;> omega) | rfl | decide) only [a25l0b, run_seq, run_region, runOps_cons, oper_none, ex_bin, opv, List.getD_cons_succ, List.getD_cons_zero, bin_lss, hlt, decide_true, valK_some, putK_to, List.set_cons_succ, List.set_cons_zero, opsK_some, runOps_nil, regK_some, seqK_normal, run_cond, condK_bool, run_skip, run_exit, if_true, run_block, ex_iaddr, iaddrA_sl, Int.toNat_natCast, Nat.mul_one, ex_load, rd_vptr, bs_drop, bs_take, bs_at0, drop_getD, Nat.add_zero, loadK_1, ex_mov, rd_ptr, List.getElem?_cons_zero, rdK_cells, List.drop_zero, List.take_succ_cons, List.take_nil, loadK_n, ex_ocall, frzN, List.map_cons, List.map_nil, List.flatMap_cons, bor_agg, bor_int, bor_sl, List.flatMap_nil, List.append_nil, List.mapM_cons, frz_agg, frz_int, frz_sl, List.mapM_nil, Option.pure_def, Option.bind_eq_bind, Option.bind_some, Option.map_some, ocArgK_some, h1', ocK_some, liftV, lift2, lift1, List.length_cons, fzIds, List.foldl_nil, List.cons_append, blockK_normal, bin_add, cadd1, wr64, loopK_normal, a25l0c, g1]
    · obtain ⟨u, B, r, h1, h2, h3⟩ := key false (.inr rfl)
      have h1' : ocallA L 56 [n.av, .sl false ls.length (w64 ls), .int .u8 (w.getD i 0 : Nat)] = some (u, B) := h1
      have m1 : (k + 1 = 0) = False := eq_false (by omega)
      have m2 : k + 1 - 1 = k := by omega
      rcases h2 with ⟨rfl, rfl, rfl⟩ | ⟨y, rfl, rfl⟩
      · obtain ⟨T', v', r', g1, g2, g3⟩ := runw_loop (n := n) (zw := zw) hw hwl hl hb d (i + 1) (T.modify k fzBlk) (.sl true 0 []) [] _ (by omega) (.inl ⟨rfl, rfl⟩) h3
        refine ⟨T', v', r', ?_, g2, g3.congr hcg⟩
        rw [a25l0n]
        simp (maxSteps := 30000000) (disch := first | assumption | omega | (simp only [List.length_cons, List.length_nil, List.length_append, List.length_set, List.length_replicate, List.length_map, List.length_range, List.length_take, List.length_drop, List.all_cons, List.all_nil, AV.isCell, Bool.and_self, Bool.and_true, bs_length, is64_length, w64_length, ints_length, edges_length] <;> omega) | rfl | decide) only [a25l0b, run_seq, run_region, runOps_cons, oper_none, ex_bin, opv, List.getD_cons_succ, List.getD_cons_zero, bin_lss, hlt, decide_true, valK_some, putK_to, List.set_cons_succ, List.set_cons_zero, opsK_some, runOps_nil, regK_some, seqK_normal, run_cond, condK_bool, run_skip, run_exit, if_true, run_block, ex_iaddr, iaddrA_sl, Int.toNat_natCast, Nat.mul_one, ex_load, rd_vptr, bs_drop, bs_take, bs_at0, drop_getD, Nat.add_zero, loadK_1, ex_mov, rd_ptr, List.getElem?_cons_zero, rdK_cells, List.drop_zero, List.take_succ_cons, List.take_nil, loadK_n, ex_ocall, frzN, List.map_cons, List.map_nil, List.flatMap_cons, bor_agg, bor_int, bor_sl, List.flatMap_nil, List.append_nil, bor_own, List.getElem?_cons_succ, hk, borK_cells, w64_take, take_pre, bor_w64, List.nil_append, List.mapM_cons, frz_agg, frz_int, frz_sl, List.mapM_nil, Option.pure_def, Option.bind_eq_bind, Option.bind_some, Option.map_some, frz_own, frzK_cells, frz_w64, slK_some, ocArgK_some, h1', ocK_some, liftV, lift2, lift1, fzIds, List.foldl_cons, List.modify_cons, m1, fzBlk, m2, if_false, List.foldl_nil, blockK_normal, bin_add, cadd1, wr64, loopK_normal, a25l0c, g1]
      · obtain ⟨T', v', r', g1, g2, g3⟩ := runw_loop (n := n) (zw := zw) hw hwl hl hb d (i + 1) (T.modify k fzBlk ++ [.cells false false (w64 (r ++ y))]) (.own false (T.length + 1) 0 r.length 1) r _ (by omega) (.inr ⟨T.length, y, rfl, by simp [List.length_modify]⟩) h3
        refine ⟨T', v', r', ?_, g2, g3.congr hcg⟩
        rw [a25l0n]
        simp (maxSteps := 30000000) (disch := first | assumption | omega | (simp only [List.length_cons, List.length_nil, List.length_append, List.length_set, List.length_replicate, List.length_map, List.length_range, List.length_take, List.length_drop, List.all_cons, List.all_nil, AV.isCell, Bool.and_self, Bool.and_true, bs_length, is64_length, w64_length, ints_length, edges_length] <;> omega) | rfl | decide) only [a25l0b, run_seq, run_region, runOps_cons, oper_none, ex_bin, opv, List.getD_cons_succ, List.getD_cons_zero, bin_lss, hlt, decide_true, valK_some, putK_to, List.set_cons_succ, List.set_cons_zero, opsK_some, runOps_nil, regK_some, seqK_normal, run_cond, condK_bool, run_skip, run_exit, if_true, run_block, ex_iaddr, iaddrA_sl, Int.toNat_natCast, Nat.mul_one, ex_load, rd_vptr, bs_drop, bs_take, bs_at0, drop_getD, Nat.add_zero, loadK_1, ex_mov, rd_ptr, List.getElem?_cons_zero, rdK_cells, List.drop_zero, List.take_succ_cons, List.take_nil, loadK_n, ex_ocall, frzN, List.map_cons, List.map_nil, List.flatMap_cons, bor_agg, bor_int, bor_sl, List.flatMap_nil, List.append_nil, bor_own, List.getElem?_cons_succ, hk, borK_cells, w64_take, take_pre, bor_w64, List.nil_append, List.mapM_cons, frz_agg, frz_int, frz_sl, List.mapM_nil, Option.pure_def, Option.bind_eq_bind, Option.bind_some, Option.map_some, frz_own, frzK_cells, frz_w64, slK_some, ocArgK_some, h1', ocK_some, liftV, lift2, lift1, List.length_cons, fzIds, List.foldl_cons, List.modify_cons, m1, fzBlk, m2, if_false, List.foldl_nil, List.cons_append, blockK_normal, bin_add, cadd1, wr64, loopK_normal, a25l0c, g1]

theorem ascB_range {s : Int} : ∀ {l : List Int} {last : Int}, ascB s last l = true → ∀ q ∈ l, last < q ∧ q < s
  | [], _, _, q, hq => by simp at hq
  | a :: l, last, h, q, hq => by
    unfold ascB at h
    split at h
    · cases h
    · rename_i hn
      rcases List.mem_cons.1 hq with rfl | hq
      · omega
      · have := ascB_range h q hq; omega

theorem eds_ok {s : Int} {v : Nat} : ∀ {l : List Ed}, edsErr s v l = 0 → ∀ e ∈ l, edErr s v e = 0
  | [], _, e, he => by simp at he
  | a :: l, h, e, he => by
    by_cases h1 : edErr s v a = 0
    · rw [edsErr_eq h1] at h
      rcases List.mem_cons.1 he with rfl | he
      · exact h1
      · exact eds_ok h e he
    · rw [edsErr_ne h1] at h
      exact (h1 h).elim

theorem ed_ok {s : Int} {v : Nat} {e : Ed} (h : edErr s v e = 0) : 0 ≤ e.a ∧ e.a < s ∧ 0 ≤ e.b ∧ e.b < s ∧ cubeErr v e.p e.n = 0 := by
  unfold edErr at h
  split at h
  · omega
  · rename_i hn
    exact ⟨by omega, by omega, by omega, by omega, h⟩

theorem Valid.edOk {n : Aut} (h : Valid n) (hf : Fits n) : EdOk n.ed := fun e he => by
  have h1 := ed_ok (eds_ok h.ed e he)
  have h2 := h.s64
  have h3 := hf.by_ e he
  exact ⟨by omega, by omega, h3⟩
theorem Valid.stOk {n : Aut} (h : Valid n) : ∀ q ∈ n.st, 0 ≤ q ∧ q < 4096 := fun q hq => by
  have := ascB_range h.st q hq; have := h.s64; omega
theorem Valid.fiOk {n : Aut} (h : Valid n) : ∀ q ∈ n.fi, 0 ≤ q ∧ q < 4096 := fun q hq => by
  have := ascB_range h.fi q hq; have := h.s64; omega

end Go.Abs.Nfa
