/- The reference's HasInt, Letter, Word, List. -/
import Derived.Test.YtbfnjdhafgnlnaaAM8
namespace Go.Abs.Nfa
open Go Go.Abs
set_option linter.unusedSimpArgs false
set_option linter.unusedVariables false

theorem hasint_loop {z : Bool} {l : List Int} {q : Int} {s4 : AV} {H : Heap} (hl : l.length < 1099511627776) : ∀ d i, i + d = l.length →
    ∃ i' : Nat, L.loop a53l0s a53l0 ⟨a53l0F (iw z l) (.int .i64 q) s4 (.int .i64 (i : Nat)), H⟩ =
      some (if (l.drop i).contains q = true then (.ret, ⟨a53l0F (iw z l) (.int .i64 q) (.bool true) (.int .i64 (i' : Nat)), H⟩) else (.exit 0, ⟨a53l0F (iw z l) (.int .i64 q) s4 (.int .i64 (l.length : Nat)), H⟩))
  | 0, i, h => by
    obtain rfl : i = l.length := by omega
    refine ⟨0, ?_⟩
    rw [if_neg (by simp), a53l0n]
    simp (maxSteps := 30000000) (disch := first | assumption | omega | (simp only [List.length_cons, List.length_nil, List.length_append, List.length_set, List.length_replicate, List.length_map, List.length_range, List.length_take, List.length_drop, List.all_cons, List.all_nil, AV.isCell, Bool.and_self, Bool.and_true, bs_length, is64_length, w64_length, ints_length, edges_length] <;> omega) | rfl | decide) only [a53l0b, run_seq, run_region, runOps_cons, oper_none, ex_mov, opv, List.getD_cons_succ, List.getD_cons_zero, putK_to, List.set_cons_succ, List.set_cons_zero, opsK_some, ex_len, lenA_sl, valK_some, ex_bin, bin_lss, Int.lt_irrefl, decide_false, runOps_nil, regK_some, seqK_normal, run_cond, condK_bool, Bool.false_eq_true, run_skip, run_exit, if_false, seqK_exit, loopK_exit, a53l0c]
  | d + 1, i, h => by
    have hlt : (i : Int) < (l.length : Nat) := by omega
    rw [drop_getI (by omega : i < l.length), List.contains_cons]
    by_cases e : l.getD i 0 = q
    · refine ⟨i, ?_⟩
      have e' : (l.getD i 0 = q) = True := eq_true e
      rw [if_pos (by rw [e]; simp), a53l0n]
      simp (maxSteps := 30000000) (disch := first | assumption | omega | (simp only [List.length_cons, List.length_nil, List.length_append, List.length_set, List.length_replicate, List.length_map, List.length_range, List.length_take, List.length_drop, List.all_cons, List.all_nil, AV.isCell, Bool.and_self, Bool.and_true, bs_length, is64_length, w64_length, ints_length, edges_length] <;> omega) | rfl | decide) only [a53l0b, run_seq, run_region, runOps_cons, oper_none, ex_mov, opv, List.getD_cons_succ, List.getD_cons_zero, putK_to, List.set_cons_succ, List.set_cons_zero, opsK_some, ex_len, lenA_sl, valK_some, ex_bin, bin_lss, hlt, decide_true, runOps_nil, regK_some, seqK_normal, run_cond, condK_bool, run_skip, run_exit, if_true, run_block, ex_iaddr, iaddrA_sl, Int.toNat_natCast, Nat.mul_one, ex_load, rd_vptr, ints_drop, ints_take, ints_at0, getD_dropI, Nat.add_zero, loadK_1, bin_eql, e', run_ret, blockK_ret, seqK_ret, loopK_ret, a53l0c]
    · obtain ⟨i', ih⟩ := hasint_loop (z := z) (q := q) (s4 := s4) (H := H) hl d (i + 1) (by omega)
      refine ⟨i', ?_⟩
      have hb : (q == l.getD i 0) = false := by simpa using fun h => e h.symm
      rw [hb, Bool.false_or, a53l0n]
      by_cases e2 : (l.drop (i + 1)).contains q = true
      · rw [if_pos e2] at ih ⊢
        simp (maxSteps := 30000000) (disch := first | assumption | omega | (simp only [List.length_cons, List.length_nil, List.length_append, List.length_set, List.length_replicate, List.length_map, List.length_range, List.length_take, List.length_drop, List.all_cons, List.all_nil, AV.isCell, Bool.and_self, Bool.and_true, bs_length, is64_length, w64_length, ints_length, edges_length] <;> omega) | rfl | decide) only [a53l0b, run_seq, run_region, runOps_cons, oper_none, ex_mov, opv, List.getD_cons_succ, List.getD_cons_zero, putK_to, List.set_cons_succ, List.set_cons_zero, opsK_some, ex_len, lenA_sl, valK_some, ex_bin, bin_lss, hlt, decide_true, runOps_nil, regK_some, seqK_normal, run_cond, condK_bool, run_skip, run_exit, if_true, run_block, ex_iaddr, iaddrA_sl, Int.toNat_natCast, Nat.mul_one, ex_load, rd_vptr, ints_drop, ints_take, ints_at0, getD_dropI, Nat.add_zero, loadK_1, bin_eql, e, decide_false, Bool.false_eq_true, run_ret, if_false, blockK_normal, bin_add, cadd1, wr64, loopK_normal, a53l0c, ih]
      · rw [if_neg e2] at ih ⊢
        simp (maxSteps := 30000000) (disch := first | assumption | omega | (simp only [List.length_cons, List.length_nil, List.length_append, List.length_set, List.length_replicate, List.length_map, List.length_range, List.length_take, List.length_drop, List.all_cons, List.all_nil, AV.isCell, Bool.and_self, Bool.and_true, bs_length, is64_length, w64_length, ints_length, edges_length] <;> omega) | rfl | decide) only [a53l0b, run_seq, run_region, runOps_cons, oper_none, ex_mov, opv, List.getD_cons_succ, List.getD_cons_zero, putK_to, List.set_cons_succ, List.set_cons_zero, opsK_some, ex_len, lenA_sl, valK_some, ex_bin, bin_lss, hlt, decide_true, runOps_nil, regK_some, seqK_normal, run_cond, condK_bool, run_skip, run_exit, if_true, run_block, ex_iaddr, iaddrA_sl, Int.toNat_natCast, Nat.mul_one, ex_load, rd_vptr, ints_drop, ints_take, ints_at0, getD_dropI, Nat.add_zero, loadK_1, bin_eql, e, decide_false, Bool.false_eq_true, run_ret, if_false, blockK_normal, bin_add, cadd1, wr64, loopK_normal, a53l0c, ih]

theorem hasint (z : Bool) (l : List Int) (q : Int) (hl : l.length < 1099511627776) : L.pcall 53 [iw z l, .int .i64 q] = some (.bool (l.contains q)) := by
  obtain ⟨i', h⟩ := hasint_loop (z := z) (q := q) (s4 := .bool false) (H := []) hl l.length 0 (by omega)
  simp only [Int.natCast_zero, List.drop_zero] at h
  rw [a53p, a53, pbodyA_eq]
  by_cases e : l.contains q = true
  · rw [if_pos e] at h
    rw [e]
    simp (maxSteps := 30000000) (disch := first | assumption | omega | (simp only [List.length_cons, List.length_nil, List.length_append, List.length_set, List.length_replicate, List.length_map, List.length_range, List.length_take, List.length_drop, List.all_cons, List.all_nil, AV.isCell, Bool.and_self, Bool.and_true, bs_length, is64_length, w64_length, ints_length, edges_length] <;> omega) | rfl | decide) only [bodyA_eq, List.length_cons, List.length_nil, Nat.zero_add, Nat.reduceAdd, Nat.reduceSub, pads, List.cons_append, List.nil_append, run_seq, run_region, runOps_cons, oper_none, ex_mov, opv, putK_to, List.set_cons_succ, List.set_cons_zero, opsK_some, runOps_nil, regK_some, seqK_normal, run_block, run_loop, a53l0c, h, blockK_ret, seqK_ret, bodyK_ret, results_1, res_tmp, List.getD_cons_succ, List.getD_cons_zero, retvK_some, pbodyK_some, frzN, frz_bool]
  · rw [if_neg e] at h
    have e' : l.contains q = false := by simpa using e
    rw [e']
    simp (maxSteps := 30000000) (disch := first | assumption | omega | (simp only [List.length_cons, List.length_nil, List.length_append, List.length_set, List.length_replicate, List.length_map, List.length_range, List.length_take, List.length_drop, List.all_cons, List.all_nil, AV.isCell, Bool.and_self, Bool.and_true, bs_length, is64_length, w64_length, ints_length, edges_length] <;> omega) | rfl | decide) only [bodyA_eq, List.length_cons, List.length_nil, Nat.zero_add, Nat.reduceAdd, Nat.reduceSub, pads, List.cons_append, List.nil_append, run_seq, run_region, runOps_cons, oper_none, ex_mov, opv, putK_to, List.set_cons_succ, List.set_cons_zero, opsK_some, runOps_nil, regK_some, seqK_normal, run_block, run_loop, a53l0c, h, blockK_exit, if_true, run_ret, bodyK_ret, results_1, res_tmp, List.getD_cons_succ, List.getD_cons_zero, retvK_some, pbodyK_some, frzN, frz_bool]

theorem letter54 (x p n : Nat) (hx : x < 256) (hp : p < 256) (hn : n < 256) : L.pcall 54 [.int .u8 (x : Nat), .int .u8 (p : Nat), .int .u8 (n : Nat)] = some (.bool (hasB p n x)) := by
  have h1 := and8 hx hp
  have h2 := and8 hx hn
  have e1 : (((x &&& p : Nat) : Int) = ((p : Nat) : Int)) = (x &&& p = p) := propext ⟨fun h => by omega, fun h => by omega⟩
  have e2 : (((x &&& n : Nat) : Int) = 0) = (x &&& n = 0) := propext ⟨fun h => by omega, fun h => by omega⟩
  unfold hasB
  rw [a54p, a54, pbodyA_eq]
  by_cases c1 : x &&& p = p <;> by_cases c2 : x &&& n = 0 <;> simp (maxSteps := 30000000) (disch := first | assumption | omega | (simp only [List.length_cons, List.length_nil, List.length_append, List.length_set, List.length_replicate, List.length_map, List.length_range, List.length_take, List.length_drop, List.all_cons, List.all_nil, AV.isCell, Bool.and_self, Bool.and_true, bs_length, is64_length, w64_length, ints_length, edges_length] <;> omega) | rfl | decide) only [bodyA_eq, List.length_cons, List.length_nil, Nat.zero_add, Nat.reduceAdd, Nat.reduceSub, pads, List.cons_append, List.nil_append, run_seq, run_region, runOps_cons, oper_none, ex_mov, opv, putK_to, List.set_cons_succ, List.set_cons_zero, opsK_some, runOps_nil, regK_some, seqK_normal, List.getD_cons_zero, List.getD_cons_succ, ex_bin, bin_and, h1, c1, valK_some, bin_eql, decide_true, oper_guard, guardK_bool, putA_to, if_true, h2, c2, castLit, ex_pick, pickA_bool, run_ret, bodyK_ret, results_1, res_tmp, retvK_some, pbodyK_some, frzN, frz_bool, Bool.and_self, e2, decide_false, ite_self, Bool.and_false, e1, Bool.false_eq_true, if_false, Bool.and_true]

theorem rword_loop {v : Nat} {z : Bool} {w : List Nat} {s4 : AV} {H : Heap} (hv : v ≤ 6) (hw : ∀ x ∈ w, x < 256) (hl : w.length < 1099511627776) : ∀ d i, i + d = w.length →
    ∃ i' : Nat, L.loop a19l0s a19l0 ⟨a19l0F (word z w) (.int .i64 (v : Nat)) s4 (.int .i64 (i : Nat)), H⟩ =
      some (if (w.drop i).any (fun x => decide (2 ^ v ≤ x)) = true then (.ret, ⟨a19l0F (word z w) (.int .i64 (v : Nat)) (.int .i64 1) (.int .i64 (i' : Nat)), H⟩) else (.exit 0, ⟨a19l0F (word z w) (.int .i64 (v : Nat)) s4 (.int .i64 (w.length : Nat)), H⟩))
  | 0, i, h => by
    obtain rfl : i = w.length := by omega
    refine ⟨0, ?_⟩
    rw [if_neg (by simp), a19l0n]
    simp (maxSteps := 30000000) (disch := first | assumption | omega | (simp only [List.length_cons, List.length_nil, List.length_append, List.length_set, List.length_replicate, List.length_map, List.length_range, List.length_take, List.length_drop, List.all_cons, List.all_nil, AV.isCell, Bool.and_self, Bool.and_true, bs_length, is64_length, w64_length, ints_length, edges_length] <;> omega) | rfl | decide) only [a19l0b, run_seq, run_region, runOps_cons, oper_none, ex_mov, opv, List.getD_cons_succ, List.getD_cons_zero, putK_to, List.set_cons_succ, List.set_cons_zero, opsK_some, ex_len, lenA_sl, valK_some, ex_bin, bin_lss, Int.lt_irrefl, decide_false, runOps_nil, regK_some, seqK_normal, run_cond, condK_bool, Bool.false_eq_true, run_skip, run_exit, if_false, seqK_exit, loopK_exit, a19l0c]
  | d + 1, i, h => by
    have hlt : (i : Int) < (w.length : Nat) := by omega
    have hl37 := letters37 v hv
    have hx : w.getD i 0 < 256 := by
      rw [List.getD_eq_getElem?_getD, List.getElem?_eq_getElem (by omega)]
      exact hw _ (List.getElem_mem _)
    have e1 : (((2 ^ v : Nat) : Int) ≤ ((w.getD i 0 : Nat) : Int)) = (2 ^ v ≤ w.getD i 0) := propext ⟨fun h => by omega, fun h => by omega⟩
    rw [drop_getN (by omega : i < w.length), List.any_cons]
    by_cases e : 2 ^ v ≤ w.getD i 0
    · refine ⟨i, ?_⟩
      rw [if_pos (by rw [decide_eq_true e, Bool.true_or]), a19l0n]
      simp (maxSteps := 30000000) (disch := first | assumption | omega | (simp only [List.length_cons, List.length_nil, List.length_append, List.length_set, List.length_replicate, List.length_map, List.length_range, List.length_take, List.length_drop, List.all_cons, List.all_nil, AV.isCell, Bool.and_self, Bool.and_true, bs_length, is64_length, w64_length, ints_length, edges_length] <;> omega) | rfl | decide) only [a19l0b, run_seq, run_region, runOps_cons, oper_none, ex_mov, opv, List.getD_cons_succ, List.getD_cons_zero, putK_to, List.set_cons_succ, List.set_cons_zero, opsK_some, ex_len, lenA_sl, valK_some, ex_bin, bin_lss, hlt, decide_true, runOps_nil, regK_some, seqK_normal, run_cond, condK_bool, run_skip, run_exit, if_true, run_block, run_draw, List.take_succ_cons, List.take_zero, runFree_cons, foper_none, fe_mov, fstK_some, fputK_to, freeK_some, fe_iaddr, ex_iaddr, iaddrA_sl, Int.toNat_natCast, Nat.mul_one, fe_load, ex_load, rd_vptr, bs_drop, bs_take, bs_at0, drop_getD, Nat.add_zero, loadK_1, fe_conv, ex_conv, convA_int, wr64, fe_call, List.map_cons, List.map_nil, pcallA_eq, frzN, List.mapM_cons, frz_int, List.mapM_nil, Option.pure_def, Option.bind_eq_bind, Option.bind_some, argK_some, hl37, retK_some, scal, scal1, fzIds, List.flatMap_cons, bor_int, List.flatMap_nil, List.append_nil, List.foldl_nil, ite_self, quietK_some, quietCall, List.isEmpty_nil, Bool.or_true, runFree_nil, drawK_some, List.drop_succ_cons, List.drop_zero, adopt, adoptVal, bin_geq, e1, e, run_ret, blockK_ret, seqK_ret, loopK_ret, a19l0c]
    · obtain ⟨i', ih⟩ := rword_loop (z := z) (s4 := s4) (H := H) hv hw hl d (i + 1) (by omega)
      refine ⟨i', ?_⟩
      have e2 : (decide (2 ^ v ≤ w.getD i 0) || (w.drop (i + 1)).any fun x => decide (2 ^ v ≤ x)) = (w.drop (i + 1)).any fun x => decide (2 ^ v ≤ x) := by rw [decide_eq_false e, Bool.false_or]
      rw [e2, a19l0n]
      by_cases e3 : (w.drop (i + 1)).any (fun x => decide (2 ^ v ≤ x)) = true
      · rw [if_pos e3] at ih ⊢
        simp (maxSteps := 30000000) (disch := first | assumption | omega | (simp only [List.length_cons, List.length_nil, List.length_append, List.length_set, List.length_replicate, List.length_map, List.length_range, List.length_take, List.length_drop, List.all_cons, List.all_nil, AV.isCell, Bool.and_self, Bool.and_true, bs_length, is64_length, w64_length, ints_length, edges_length] <;> omega) | rfl | decide) only [a19l0b, run_seq, run_region, runOps_cons, oper_none, ex_mov, opv, List.getD_cons_succ, List.getD_cons_zero, putK_to, List.set_cons_succ, List.set_cons_zero, opsK_some, ex_len, lenA_sl, valK_some, ex_bin, bin_lss, hlt, decide_true, runOps_nil, regK_some, seqK_normal, run_cond, condK_bool, run_skip, run_exit, if_true, run_block, run_draw, List.take_succ_cons, List.take_zero, runFree_cons, foper_none, fe_mov, fstK_some, fputK_to, freeK_some, fe_iaddr, ex_iaddr, iaddrA_sl, Int.toNat_natCast, Nat.mul_one, fe_load, ex_load, rd_vptr, bs_drop, bs_take, bs_at0, drop_getD, Nat.add_zero, loadK_1, fe_conv, ex_conv, convA_int, wr64, fe_call, List.map_cons, List.map_nil, pcallA_eq, frzN, List.mapM_cons, frz_int, List.mapM_nil, Option.pure_def, Option.bind_eq_bind, Option.bind_some, argK_some, hl37, retK_some, scal, scal1, fzIds, List.flatMap_cons, bor_int, List.flatMap_nil, List.append_nil, List.foldl_nil, ite_self, quietK_some, quietCall, List.isEmpty_nil, Bool.or_true, runFree_nil, drawK_some, List.drop_succ_cons, List.drop_zero, adopt, adoptVal, bin_geq, e1, e, decide_false, Bool.false_eq_true, run_ret, if_false, blockK_normal, bin_add, cadd1, loopK_normal, a19l0c, ih]
      · rw [if_neg e3] at ih ⊢
        simp (maxSteps := 30000000) (disch := first | assumption | omega | (simp only [List.length_cons, List.length_nil, List.length_append, List.length_set, List.length_replicate, List.length_map, List.length_range, List.length_take, List.length_drop, List.all_cons, List.all_nil, AV.isCell, Bool.and_self, Bool.and_true, bs_length, is64_length, w64_length, ints_length, edges_length] <;> omega) | rfl | decide) only [a19l0b, run_seq, run_region, runOps_cons, oper_none, ex_mov, opv, List.getD_cons_succ, List.getD_cons_zero, putK_to, List.set_cons_succ, List.set_cons_zero, opsK_some, ex_len, lenA_sl, valK_some, ex_bin, bin_lss, hlt, decide_true, runOps_nil, regK_some, seqK_normal, run_cond, condK_bool, run_skip, run_exit, if_true, run_block, run_draw, List.take_succ_cons, List.take_zero, runFree_cons, foper_none, fe_mov, fstK_some, fputK_to, freeK_some, fe_iaddr, ex_iaddr, iaddrA_sl, Int.toNat_natCast, Nat.mul_one, fe_load, ex_load, rd_vptr, bs_drop, bs_take, bs_at0, drop_getD, Nat.add_zero, loadK_1, fe_conv, ex_conv, convA_int, wr64, fe_call, List.map_cons, List.map_nil, pcallA_eq, frzN, List.mapM_cons, frz_int, List.mapM_nil, Option.pure_def, Option.bind_eq_bind, Option.bind_some, argK_some, hl37, retK_some, scal, scal1, fzIds, List.flatMap_cons, bor_int, List.flatMap_nil, List.append_nil, List.foldl_nil, ite_self, quietK_some, quietCall, List.isEmpty_nil, Bool.or_true, runFree_nil, drawK_some, List.drop_succ_cons, List.drop_zero, adopt, adoptVal, bin_geq, e1, e, decide_false, Bool.false_eq_true, run_ret, if_false, blockK_normal, bin_add, cadd1, loopK_normal, a19l0c, ih]

theorem rword (v : Nat) (z : Bool) (w : List Nat) (hv : v ≤ 6) (hw : ∀ x ∈ w, x < 256) (hl : w.length < 1099511627776) : L.pcall 19 [word z w, .int .i64 (v : Nat)] = some (.int .i64 (wordErr v w)) := by
  obtain ⟨i', h⟩ := rword_loop (z := z) (s4 := .int .i64 0) (H := []) hv hw hl w.length 0 (by omega)
  simp only [Int.natCast_zero, List.drop_zero] at h
  have e1 : ((64 : Int) < (w.length : Nat)) = (64 < w.length) := propext ⟨fun h => by omega, fun h => by omega⟩
  unfold wordErr
  rw [a19p, a19, pbodyA_eq]
  by_cases c1 : 64 < w.length
  · simp (maxSteps := 30000000) (disch := first | assumption | omega | (simp only [List.length_cons, List.length_nil, List.length_append, List.length_set, List.length_replicate, List.length_map, List.length_range, List.length_take, List.length_drop, List.all_cons, List.all_nil, AV.isCell, Bool.and_self, Bool.and_true, bs_length, is64_length, w64_length, ints_length, edges_length] <;> omega) | rfl | decide) only [bodyA_eq, List.length_cons, List.length_nil, Nat.zero_add, Nat.reduceAdd, Nat.reduceSub, pads, List.cons_append, List.nil_append, run_seq, run_region, runOps_cons, oper_none, ex_mov, opv, putK_to, List.set_cons_succ, List.set_cons_zero, opsK_some, runOps_nil, regK_some, seqK_normal, List.getD_cons_zero, ex_len, List.getD_cons_succ, lenA_sl, valK_some, ex_bin, bin_gtr, e1, c1, decide_true, run_cond, condK_bool, run_ret, run_skip, if_true, seqK_ret, bodyK_ret, results_1, res_tmp, retvK_some, pbodyK_some, frzN, frz_int]
  · by_cases c2 : w.any (fun x => decide (2 ^ v ≤ x)) = true
    · rw [if_pos c2] at h ⊢
      simp (maxSteps := 30000000) (disch := first | assumption | omega | (simp only [List.length_cons, List.length_nil, List.length_append, List.length_set, List.length_replicate, List.length_map, List.length_range, List.length_take, List.length_drop, List.all_cons, List.all_nil, AV.isCell, Bool.and_self, Bool.and_true, bs_length, is64_length, w64_length, ints_length, edges_length] <;> omega) | rfl | decide) only [bodyA_eq, List.length_cons, List.length_nil, Nat.zero_add, Nat.reduceAdd, Nat.reduceSub, pads, List.cons_append, List.nil_append, run_seq, run_region, runOps_cons, oper_none, ex_mov, opv, putK_to, List.set_cons_succ, List.set_cons_zero, opsK_some, runOps_nil, regK_some, seqK_normal, List.getD_cons_zero, ex_len, List.getD_cons_succ, lenA_sl, valK_some, ex_bin, bin_gtr, e1, c1, decide_false, run_cond, condK_bool, Bool.false_eq_true, run_ret, run_skip, if_false, run_block, run_loop, a19l0c, h, blockK_ret, seqK_ret, bodyK_ret, results_1, res_tmp, retvK_some, pbodyK_some, frzN, frz_int]
    · rw [if_neg c2] at h ⊢
      simp (maxSteps := 30000000) (disch := first | assumption | omega | (simp only [List.length_cons, List.length_nil, List.length_append, List.length_set, List.length_replicate, List.length_map, List.length_range, List.length_take, List.length_drop, List.all_cons, List.all_nil, AV.isCell, Bool.and_self, Bool.and_true, bs_length, is64_length, w64_length, ints_length, edges_length] <;> omega) | rfl | decide) only [bodyA_eq, List.length_cons, List.length_nil, Nat.zero_add, Nat.reduceAdd, Nat.reduceSub, pads, List.cons_append, List.nil_append, run_seq, run_region, runOps_cons, oper_none, ex_mov, opv, putK_to, List.set_cons_succ, List.set_cons_zero, opsK_some, runOps_nil, regK_some, seqK_normal, List.getD_cons_zero, ex_len, List.getD_cons_succ, lenA_sl, valK_some, ex_bin, bin_gtr, e1, c1, decide_false, run_cond, condK_bool, Bool.false_eq_true, run_ret, run_skip, if_false, run_block, run_loop, a19l0c, h, blockK_exit, if_true, bodyK_ret, results_1, res_tmp, retvK_some, pbodyK_some, frzN, frz_int]

/-- the elements below N, ascending -/
def bitL (l : List Nat) (N : Nat) : List Int := List.map Int.ofNat (List.filter (fun j => mem l j) (List.range N))
theorem bitL_succ (l : List Nat) (N : Nat) : bitL l (N + 1) = bitL l N ++ if mem l N = true then [(N : Int)] else [] := by
  unfold bitL
  rw [List.range_succ, List.filter_append, List.map_append]
  congr 1
  by_cases h : mem l N = true
  · simp [h]
  · simp [h]

theorem bitL_len (l : List Nat) (N : Nat) : (bitL l N).length ≤ N := by
  unfold bitL
  rw [List.length_map]
  exact Nat.le_trans (List.length_filter_le _ _) (by simp)

theorem bit_cond {l : List Nat} {i k : Nat} (hi : i < 64) (hk : k < 64) : ((((l.getD i 0 : Nat) : Int).fdiv (2 ^ min k IntKind.u64.bits)).tmod 2 = 1) = (mem l (64 * i + k) = true) := by
  rw [mem_word hi hk, show min k IntKind.u64.bits = k from Nat.min_eq_left (by show k ≤ 64; omega)]
  generalize l.getD i 0 = x
  have h1 : ((x : Nat) : Int).fdiv (2 ^ k) = ((x / 2 ^ k : Nat) : Int) := by
    rw [Int.fdiv_eq_ediv_of_nonneg _ (Int.le_of_lt (Int.pow_pos (by omega)))]
    simp
  rw [h1, show ((x / 2 ^ k : Nat) : Int).tmod 2 = ((x / 2 ^ k % 2 : Nat) : Int) from rfl, Nat.testBit_eq_decide_div_mod_eq, decide_eq_true_eq]
  exact propext ⟨fun h => by omega, fun h => by omega⟩

/-- a list of numbers under way -/
def OwnI (b : Nat) (T : Heap) (v : AV) (l : List Int) : Prop := (v = .sl true 0 [] ∧ l = []) ∨ ∃ k, v = .own false (k + b) 0 l.length 1 ∧ T[k]? = some (.cells false false (ints l))

theorem bits_loop {z : Bool} {l : List Nat} {i : Nat} (hi : i < 64) (hil : i < l.length) (hl : l.length < 1099511627776) (hW : W l) : ∀ d k T v, k + d = 64 → OwnI 0 T v (bitL l (64 * i + k)) →
    ∃ T' v', L.loop a21l0s a21l0 ⟨a21l0F (sw z l) v (.int .i64 (i : Nat)) (.int .i64 (k : Nat)), T⟩ = some (.exit 2, ⟨a21l0F (sw z l) v' (.int .i64 (i : Nat)) (.int .i64 64), T'⟩) ∧ OwnI 0 T' v' (bitL l (64 * i + 64))
  | 0, k, T, v, h, hO => by
    obtain rfl : k = 64 := by omega
    refine ⟨T, v, ?_, hO⟩
    rw [a21l0n]
    simp (maxSteps := 30000000) (disch := first | assumption | omega | (simp only [List.length_cons, List.length_nil, List.length_append, List.length_set, List.length_replicate, List.length_map, List.length_range, List.length_take, List.length_drop, List.all_cons, List.all_nil, AV.isCell, Bool.and_self, Bool.and_true, bs_length, is64_length, w64_length, ints_length, edges_length] <;> omega) | rfl | decide) only [a21l0b, castLit, run_seq, run_region, runOps_cons, oper_none, ex_mov, opv, List.getD_cons_succ, List.getD_cons_zero, putK_to, List.set_cons_succ, List.set_cons_zero, opsK_some, ex_bin, bin_lss, Int.lt_irrefl, decide_false, valK_some, runOps_nil, regK_some, seqK_normal, run_cond, condK_bool, Bool.false_eq_true, run_skip, run_exit, if_false, seqK_exit, loopK_exit, a21l0c]
  | d + 1, k, T, v, h, hO => by
    have hlt : (k : Int) < 64 := by omega
    have hs := bitL_succ l (64 * i + k)
    have hk : k < 64 := by omega
    have hll := bitL_len l (64 * i + k)
    have hn : 64 * (i : Int) + (k : Int) = ((64 * i + k : Nat) : Int) := by omega
    have hbit := bit_cond (l := l) hi hk
    by_cases e : mem l (64 * i + k) = true
    · rw [if_pos e] at hs
      have hsl : (bitL l (64 * i + k + 1)).length = (bitL l (64 * i + k)).length + 1 := by rw [hs]; simp
      rw [e] at hbit
      rcases hO with ⟨rfl, h0⟩ | ⟨m, rfl, hm⟩
      · rw [h0] at hs hsl
        obtain ⟨T', v', g1, g2⟩ := bits_loop (z := z) hi hil hl hW d (k + 1) (T ++ [.cells false false (ints (bitL l (64 * i + (k + 1))))]) (.own false T.length 0 1 1) (by omega) (.inr ⟨T.length, by rw [← Nat.add_assoc, hsl]; rfl, by simp⟩)
        refine ⟨T', v', ?_, g2⟩
        have hi2 : ints (bitL l (64 * i + (k + 1))) = [AV.int .i64 ((64 * i + k : Nat) : Int)] := by rw [← Nat.add_assoc, hs]; rfl
        rw [hi2] at g1
        rw [a21l0n]
        simp (maxSteps := 30000000) (disch := first | assumption | omega | (simp only [List.length_cons, List.length_nil, List.length_append, List.length_set, List.length_replicate, List.length_map, List.length_range, List.length_take, List.length_drop, List.all_cons, List.all_nil, AV.isCell, Bool.and_self, Bool.and_true, bs_length, is64_length, w64_length, ints_length, edges_length] <;> omega) | rfl | decide) only [a21l0b, run_seq, run_region, runOps_cons, oper_none, ex_mov, opv, List.getD_cons_succ, List.getD_cons_zero, putK_to, List.set_cons_succ, List.set_cons_zero, opsK_some, ex_bin, bin_lss, hlt, decide_true, valK_some, runOps_nil, regK_some, seqK_normal, run_cond, condK_bool, run_skip, run_exit, if_true, run_block, ex_iaddr, iaddrA_sl, Int.toNat_natCast, Nat.mul_one, ex_load, rd_vptr, w64_drop, w64_take, w64_at0, drop_getD, Nat.add_zero, loadK_1, ex_conv, convA_int, wrU64, bin_shr, bin_rem, bin_eql, hbit, bin_mul, wr64, bin_add, hn, ex_bslice, AV.cells, List.all_cons, List.length_cons, List.length_nil, Nat.zero_add, beq_self_eq_true, List.all_nil, Bool.and_self, repz_1, List.append_nil, List.map_cons, List.map_nil, fillA, Nat.le_refl, AV.isCell, and_self, splice, List.take_zero, List.nil_append, List.drop_succ_cons, List.drop_nil, newK_some, newA_data, frzN, List.flatMap_cons, bor_int, List.flatMap_nil, List.isEmpty_nil, List.mapM_cons, frz_int, List.mapM_nil, Option.pure_def, Option.bind_eq_bind, Option.bind_some, slK_some, ex_append, src_sl, appK_nil, Nat.reduceBEq, newA_own, blockK_normal, cadd1, loopK_normal, a21l0c, g1]
      · have hml := (List.getElem?_eq_some_iff.1 hm).1
        obtain ⟨T', v', g1, g2⟩ := bits_loop (z := z) hi hil hl hW d (k + 1) (T.set m .dead ++ [.cells false false (ints (bitL l (64 * i + (k + 1))))]) (.own false T.length 0 ((bitL l (64 * i + k)).length + 1) 1) (by omega) (.inr ⟨T.length, by rw [← Nat.add_assoc, hsl]; rfl, by simp⟩)
        refine ⟨T', v', ?_, g2⟩
        have hi2 : ints (bitL l (64 * i + (k + 1))) = ints (bitL l (64 * i + k)) ++ [AV.int .i64 ((64 * i + k : Nat) : Int)] := by rw [← Nat.add_assoc, hs, ← ints_app]; rfl
        rw [hi2] at g1
        rw [a21l0n]
        simp (maxSteps := 30000000) (disch := first | assumption | omega | (simp only [List.length_cons, List.length_nil, List.length_append, List.length_set, List.length_replicate, List.length_map, List.length_range, List.length_take, List.length_drop, List.all_cons, List.all_nil, AV.isCell, Bool.and_self, Bool.and_true, bs_length, is64_length, w64_length, ints_length, edges_length] <;> omega) | rfl | decide) only [a21l0b, Nat.add_zero, run_seq, run_region, runOps_cons, oper_none, ex_mov, opv, List.getD_cons_succ, List.getD_cons_zero, putK_to, List.set_cons_succ, List.set_cons_zero, opsK_some, ex_bin, bin_lss, hlt, decide_true, valK_some, runOps_nil, regK_some, seqK_normal, run_cond, condK_bool, run_skip, run_exit, if_true, run_block, ex_iaddr, iaddrA_sl, Int.toNat_natCast, Nat.mul_one, ex_load, rd_vptr, w64_drop, w64_take, w64_at0, drop_getD, loadK_1, ex_conv, convA_int, wrU64, bin_shr, bin_rem, bin_eql, hbit, bin_mul, wr64, bin_add, hn, ex_bslice, AV.cells, List.all_cons, List.length_cons, List.length_nil, Nat.zero_add, beq_self_eq_true, List.all_nil, Bool.and_self, repz_1, List.append_nil, List.map_cons, List.map_nil, fillA, Nat.le_refl, AV.isCell, and_self, splice, List.take_zero, List.nil_append, List.drop_succ_cons, List.drop_nil, newK_some, newA_data, frzN, List.flatMap_cons, bor_int, List.flatMap_nil, List.isEmpty_nil, List.mapM_cons, frz_int, List.mapM_nil, Option.pure_def, Option.bind_eq_bind, Option.bind_some, slK_some, ex_append, src_sl, appK_own, hm, appOK_cells, Nat.reduceBEq, ints_take, List.take_length, blockK_normal, cadd1, loopK_normal, a21l0c, g1]
    · have e' : mem l (64 * i + k) = false := by simpa using e
      rw [if_neg e, List.append_nil] at hs
      rw [e'] at hbit
      obtain ⟨T', v', g1, g2⟩ := bits_loop (z := z) hi hil hl hW d (k + 1) T v (by omega) (by rw [← Nat.add_assoc, hs]; exact hO)
      refine ⟨T', v', ?_, g2⟩
      rw [a21l0n]
      simp (maxSteps := 30000000) (disch := first | assumption | omega | (simp only [List.length_cons, List.length_nil, List.length_append, List.length_set, List.length_replicate, List.length_map, List.length_range, List.length_take, List.length_drop, List.all_cons, List.all_nil, AV.isCell, Bool.and_self, Bool.and_true, bs_length, is64_length, w64_length, ints_length, edges_length] <;> omega) | rfl | decide) only [a21l0b, run_seq, run_region, runOps_cons, oper_none, ex_mov, opv, List.getD_cons_succ, List.getD_cons_zero, putK_to, List.set_cons_succ, List.set_cons_zero, opsK_some, ex_bin, bin_lss, hlt, decide_true, valK_some, runOps_nil, regK_some, seqK_normal, run_cond, condK_bool, run_skip, run_exit, if_true, run_block, ex_iaddr, iaddrA_sl, Int.toNat_natCast, Nat.mul_one, ex_load, rd_vptr, w64_drop, w64_take, w64_at0, drop_getD, Nat.add_zero, loadK_1, ex_conv, convA_int, wrU64, bin_shr, bin_rem, bin_eql, hbit, Bool.false_eq_true, decide_false, bin_mul, wr64, bin_add, ex_bslice, AV.cells, List.all_cons, List.length_cons, List.length_nil, Nat.zero_add, beq_self_eq_true, List.all_nil, Bool.and_self, repz_1, List.append_nil, List.map_cons, List.map_nil, fillA, Nat.le_refl, AV.isCell, and_self, splice, List.take_zero, List.nil_append, List.drop_succ_cons, List.drop_nil, newK_some, newA_data, frzN, List.flatMap_cons, bor_int, List.flatMap_nil, List.isEmpty_nil, List.mapM_cons, frz_int, List.mapM_nil, Option.pure_def, Option.bind_eq_bind, Option.bind_some, slK_some, ex_append, src_sl, if_false, blockK_normal, cadd1, loopK_normal, a21l0c, g1]

theorem list_loop {z : Bool} {l : List Nat} (hl : l.length < 1099511627776) (hW : W l) : ∀ d i T v, i + d = min l.length 64 → OwnI 0 T v (bitL l (64 * i)) →
    ∃ T' v', L.loop a21l1s a21l1 ⟨a21l1F (sw z l) v (.int .i64 (i : Nat)), T⟩ = some (.exit 0, ⟨a21l1F (sw z l) v' (.int .i64 ((min l.length 64 : Nat))), T'⟩) ∧ OwnI 0 T' v' (bitL l (64 * min l.length 64))
  | 0, i, T, v, h, hO => by
    obtain rfl : i = min l.length 64 := by omega
    refine ⟨T, v, ?_, hO⟩
    rw [a21l1n]
    by_cases c1 : ((min l.length 64 : Nat) : Int) < (l.length : Nat)
    · have c2 : ¬ ((min l.length 64 : Nat) : Int) < 64 := by omega
      simp (maxSteps := 30000000) (disch := first | assumption | omega | (simp only [List.length_cons, List.length_nil, List.length_append, List.length_set, List.length_replicate, List.length_map, List.length_range, List.length_take, List.length_drop, List.all_cons, List.all_nil, AV.isCell, Bool.and_self, Bool.and_true, bs_length, is64_length, w64_length, ints_length, edges_length] <;> omega) | rfl | decide) only [a21l1b, run_seq, run_region, runOps_cons, oper_none, ex_mov, opv, List.getD_cons_succ, List.getD_cons_zero, putK_to, List.set_cons_succ, List.set_cons_zero, opsK_some, ex_len, lenA_sl, valK_some, ex_bin, bin_lss, c1, decide_true, oper_guard, guardK_bool, putA_to, if_true, c2, decide_false, ex_pick, pickA_bool, ite_self, runOps_nil, regK_some, seqK_normal, run_cond, condK_bool, Bool.false_eq_true, run_skip, run_exit, if_false, seqK_exit, loopK_exit, a21l1c]
    · simp (maxSteps := 30000000) (disch := first | assumption | omega | (simp only [List.length_cons, List.length_nil, List.length_append, List.length_set, List.length_replicate, List.length_map, List.length_range, List.length_take, List.length_drop, List.all_cons, List.all_nil, AV.isCell, Bool.and_self, Bool.and_true, bs_length, is64_length, w64_length, ints_length, edges_length] <;> omega) | rfl | decide) only [a21l1b, run_seq, run_region, runOps_cons, oper_none, ex_mov, opv, List.getD_cons_succ, List.getD_cons_zero, putK_to, List.set_cons_succ, List.set_cons_zero, opsK_some, ex_len, lenA_sl, valK_some, ex_bin, bin_lss, c1, decide_false, oper_guard, guardK_bool, Bool.false_eq_true, putA_to, if_false, ex_pick, pickA_bool, runOps_nil, regK_some, seqK_normal, run_cond, condK_bool, run_skip, run_exit, seqK_exit, loopK_exit, a21l1c]
  | d + 1, i, T, v, h, hO => by
    have c1 : ((i : Nat) : Int) < (l.length : Nat) := by omega
    have c2 : ((i : Nat) : Int) < 64 := by omega
    obtain ⟨T1, v1, g1, g2⟩ := bits_loop (z := z) (by omega : i < 64) (by omega) hl hW 64 0 T v (by omega) (by rw [Nat.add_zero]; exact hO)
    obtain ⟨T', v', g3, g4⟩ := list_loop (z := z) hl hW d (i + 1) T1 v1 (by omega) g2
    refine ⟨T', v', ?_, g4⟩
    simp only [Int.natCast_zero] at g1
    rw [a21l1n]
    simp (maxSteps := 30000000) (disch := first | assumption | omega | (simp only [List.length_cons, List.length_nil, List.length_append, List.length_set, List.length_replicate, List.length_map, List.length_range, List.length_take, List.length_drop, List.all_cons, List.all_nil, AV.isCell, Bool.and_self, Bool.and_true, bs_length, is64_length, w64_length, ints_length, edges_length] <;> omega) | rfl | decide) only [a21l1b, run_seq, run_region, runOps_cons, oper_none, ex_mov, opv, List.getD_cons_succ, List.getD_cons_zero, putK_to, List.set_cons_succ, List.set_cons_zero, opsK_some, ex_len, lenA_sl, valK_some, ex_bin, bin_lss, c1, decide_true, oper_guard, guardK_bool, putA_to, if_true, c2, ex_pick, pickA_bool, runOps_nil, regK_some, seqK_normal, run_cond, condK_bool, run_skip, run_exit, run_block, run_loop, a21l0c, g1, blockK_exit, blockK_normal, bin_add, cadd1, wr64, loopK_normal, a21l1c, g3]

theorem take_ints (l : List Int) : List.take l.length (ints l) = ints l := by rw [ints_take, List.take_length]

theorem list_eq (z : Bool) (l : List Nat) (hl : l.length < 1099511627776) (hW : W l) : ∃ z', L.pcall 21 [sw z l] = some (iw z' (bitL l (64 * min l.length 64))) := by
  obtain ⟨T', v', g1, g2⟩ := list_loop (z := z) hl hW (min l.length 64) 0 [] (.sl true 0 []) (by omega) (.inl ⟨rfl, rfl⟩)
  simp only [Int.natCast_zero] at g1
  rcases g2 with ⟨rfl, h0⟩ | ⟨k, rfl, hk⟩
  · refine ⟨true, ?_⟩
    rw [h0, a21p, a21, pbodyA_eq]
    simp (maxSteps := 30000000) (disch := first | assumption | omega | (simp only [List.length_cons, List.length_nil, List.length_append, List.length_set, List.length_replicate, List.length_map, List.length_range, List.length_take, List.length_drop, List.all_cons, List.all_nil, AV.isCell, Bool.and_self, Bool.and_true, bs_length, is64_length, w64_length, ints_length, edges_length] <;> omega) | rfl | decide) only [bodyA_eq, List.length_cons, List.length_nil, Nat.zero_add, Nat.reduceSub, pads, List.cons_append, List.nil_append, run_seq, run_region, runOps_cons, oper_none, ex_mov, opv, putK_to, List.set_cons_succ, List.set_cons_zero, opsK_some, runOps_nil, regK_some, seqK_normal, run_block, run_loop, a21l1c, g1, blockK_exit, if_true, List.getD_cons_succ, List.getD_cons_zero, run_ret, bodyK_ret, results_1, res_tmp, retvK_some, pbodyK_some, frzN, frz_sl]
    try rfl
  · refine ⟨false, ?_⟩
    rw [a21p, a21, pbodyA_eq]
    simp (maxSteps := 30000000) (disch := first | assumption | omega | (simp only [List.length_cons, List.length_nil, List.length_append, List.length_set, List.length_replicate, List.length_map, List.length_range, List.length_take, List.length_drop, List.all_cons, List.all_nil, AV.isCell, Bool.and_self, Bool.and_true, bs_length, is64_length, w64_length, ints_length, edges_length] <;> omega) | rfl | decide) only [bodyA_eq, List.length_cons, List.length_nil, Nat.zero_add, Nat.reduceSub, pads, List.cons_append, List.nil_append, run_seq, run_region, runOps_cons, oper_none, ex_mov, opv, putK_to, List.set_cons_succ, List.set_cons_zero, opsK_some, runOps_nil, regK_some, seqK_normal, run_block, run_loop, a21l1c, g1, Nat.add_zero, blockK_exit, if_true, List.getD_cons_succ, List.getD_cons_zero, run_ret, bodyK_ret, results_1, res_tmp, retvK_some, pbodyK_some, frzN, frz_own, hk, frzK_cells, Nat.mul_one, List.drop_zero, ints_take, List.take_length, frz_ints, slK_some]

theorem mem_bitL {l : List Nat} {N : Nat} {q : Int} : q ∈ bitL l N ↔ ∃ j, j < N ∧ mem l j = true ∧ q = (j : Int) := by
  unfold bitL
  simp only [List.mem_map, List.mem_filter, List.mem_range]
  constructor
  · rintro ⟨j, ⟨h1, h2⟩, rfl⟩
    exact ⟨j, h1, h2, rfl⟩
  · rintro ⟨j, h1, h2, rfl⟩
    exact ⟨j, ⟨h1, h2⟩, rfl⟩

theorem mem_out {l : List Nat} {j : Nat} (h : 64 * min l.length 64 ≤ j) : mem l j = false := by
  unfold mem
  by_cases hj : j < 4096
  · rw [getD_out (by omega)]; simp
  · simp [hj]

theorem inS_list (l : List Nat) (j : Nat) : inS (bitL l (64 * min l.length 64)) j = mem l j := by
  unfold inS
  rw [Bool.eq_iff_iff, List.contains_iff_mem, mem_bitL]
  constructor
  · rintro ⟨i, h1, h2, h3⟩
    have : i = j := by omega
    rw [← this]; exact h2
  · intro h
    rcases Nat.lt_or_ge j (64 * min l.length 64) with q | q
    · exact ⟨j, q, h, rfl⟩
    · rw [mem_out q] at h; cases h
end Go.Abs.Nfa
