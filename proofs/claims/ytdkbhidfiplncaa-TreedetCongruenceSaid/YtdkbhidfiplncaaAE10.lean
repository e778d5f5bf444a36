/- TreedetCongruence on the interpreter's values. -/
import Derived.Test.YtdkbhidfiplncaaAE9
import Derived.Test.YtdkbhidfiplncaaAK1
namespace Go.Abs.Det
open Go Go.Abs
set_option linter.unusedSimpArgs false
set_option linter.unusedVariables false

set_option maxRecDepth 20000 in
set_option maxHeartbeats 4000000 in
theorem law7 (d : Dfa) : L.pcall 7 [d.av] = some (.bool true) := by
  have hsub := sub42 d
  have hkk := k15
  unfold Dfa.av at hsub ⊢
  unfold Dfa.cells at hsub ⊢
  by_cases h0 : d.next.length = 0
  · have hb := nrm_bd d.vars (n := 3) (by omega)
    have hs2 : subT d = .agg [.int .i64 (nrm d.vars 3), .int .i64 0, .sl true 0 [], .sl true 0 []] := if_pos h0
    rw [hs2] at hsub
    have hr := classes25_none (nrm d.vars 3) 0 true true hb.1 (by omega)
    rw [a7p, a7, pbodyA_eq]
    simp (maxSteps := 30000000) (disch := first | assumption | omega | (simp only [List.length_cons, List.length_nil, List.length_append, List.length_set, List.length_replicate, List.length_map, List.length_range, List.length_take, List.length_drop, List.all_cons, List.all_nil, AV.isCell, Bool.and_self, Bool.and_true, bs_length, is64_length, w64_length, ints_length, ints_length, bools_len, List.length_map] <;> omega) | rfl | decide) only [bodyA_eq, List.length_cons, List.length_nil, Nat.zero_add, Nat.reduceSub, pads, List.cons_append, List.nil_append, run_seq, run_region, runOps_cons, oper_none, ex_box, AV.cells, opv, List.getD_cons_zero, List.all_cons, AV.isCell, List.all_nil, Bool.and_self, ↓reduceIte, putK_to, List.set_cons_succ, List.set_cons_zero, opsK_some, ex_mov, runOps_nil, regK_some, seqK_normal, ex_load, List.getD_cons_succ, rd_ptr, List.getElem?_cons_zero, rdK_cells, List.drop_zero, List.take_succ_cons, List.take_nil, loadK_n, valK_some, ex_call, List.map_cons, List.map_nil, pcallA_eq, frzN, List.mapM_cons, frz_agg, frz_int, frz_sl, List.mapM_nil, Option.pure_def, Option.bind_eq_bind, Option.bind_some, Option.map_some, argK_some, hsub, retK_some, scal, scal1, Bool.and_true, Bool.and_false, Bool.false_eq_true, fzIds, List.flatMap_cons, bor_agg, bor_int, bor_sl, List.flatMap_nil, List.append_nil, List.foldl_nil, ex_store, Nat.reduceAdd, wr_ptr, List.getElem?_cons_succ, wrK_cells, splice, List.take_zero, List.drop_succ_cons, List.drop_nil, storeK_some, putK_no, hr, ex_ext, extA_tup, ex_bin, bin_neq, Int.reduceEq, decide_false, Bool.not_false, run_cond, condK_bool, bin_eql, decide_true, oper_guard, guardK_bool, ex_len, lenA_sl, castLit, ex_pick, pickA_bool, hkk, run_ret, seqK_ret, bodyK_ret, results_1, res_tmp, retvK_some, pbodyK_some, frz_bool]
  · rw [subT_some h0] at hsub
    have hV := subD_valid h0
    generalize subD d = D at *
    obtain ⟨c, m, hS, hr⟩ := classes25 hV
    obtain ⟨key, k1, k2⟩ := hS.num
    have n64 := hV.n64
    have hlen : c.length = D.next.length := by rw [k1]; unfold nums; rw [List.length_map]; exact (numK_ok key _).len
    have hl := fun T X => con_s (H := X :: .cells false false D.cells :: T) hV k1 hS.cong rfl D.next.length 0 (by omega)
    have hm0 : mxK key 0 = 0 := rfl
    rw [hm0] at hl
    simp only [Int.natCast_zero] at hl
    unfold Da.av at hsub hr
    unfold Da.cells at hsub hr hl
    rw [a7p, a7, pbodyA_eq]
    simp (maxSteps := 30000000) (disch := first | assumption | omega | (simp only [List.length_cons, List.length_nil, List.length_append, List.length_set, List.length_replicate, List.length_map, List.length_range, List.length_take, List.length_drop, List.all_cons, List.all_nil, AV.isCell, Bool.and_self, Bool.and_true, bs_length, is64_length, w64_length, ints_length, ints_length, bools_len, List.length_map] <;> omega) | rfl | decide) only [bodyA_eq, List.length_cons, List.length_nil, Nat.zero_add, Nat.reduceSub, pads, List.cons_append, List.nil_append, run_seq, run_region, runOps_cons, oper_none, ex_box, AV.cells, opv, List.getD_cons_zero, List.all_cons, AV.isCell, List.all_nil, Bool.and_self, ↓reduceIte, putK_to, List.set_cons_succ, List.set_cons_zero, opsK_some, ex_mov, runOps_nil, regK_some, seqK_normal, ex_load, List.getD_cons_succ, rd_ptr, List.getElem?_cons_zero, rdK_cells, List.drop_zero, List.take_succ_cons, List.take_nil, loadK_n, valK_some, ex_call, List.map_cons, List.map_nil, pcallA_eq, frzN, List.mapM_cons, frz_agg, frz_int, frz_sl, List.mapM_nil, Option.pure_def, Option.bind_eq_bind, Option.bind_some, Option.map_some, argK_some, hsub, retK_some, scal, scal1, Bool.and_true, Bool.and_false, Bool.false_eq_true, fzIds, List.flatMap_cons, bor_agg, bor_int, bor_sl, List.flatMap_nil, List.append_nil, List.foldl_nil, ex_store, Nat.reduceAdd, wr_ptr, List.getElem?_cons_succ, wrK_cells, splice, List.take_zero, List.drop_succ_cons, List.drop_nil, storeK_some, putK_no, hr, ex_ext, extA_tup, ex_bin, bin_neq, decide_true, Bool.not_true, run_cond, condK_bool, run_skip, ex_len, lenA_sl, ex_faddr, faddrA_ptr, loadK_1, run_block, run_loop, a7l3c, hl, blockK_exit, hkk, run_ret, bodyK_ret, results_1, res_tmp, retvK_some, pbodyK_some, frz_bool]
end Go.Abs.Det
