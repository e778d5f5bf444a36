/- Classes. -/
import Derived.Test.YtdkbhidfiplncaaAME
namespace Go.Abs.Det
open Go Go.Abs
set_option linter.unusedSimpArgs false
set_option linter.unusedVariables false

theorem classes25 {D : Da} (hV : Va D) : ∃ c m, Stab D c m ∧ L.pcall 25 [D.av] = some (.tup [.sl false D.next.length (ints c), .int .i64 0]) := by
  obtain ⟨c, m, h1, h2⟩ := classes60 hV
  refine ⟨c, m, h1, ?_⟩
  have h := check_ok D hV
  unfold Da.av at h h2 ⊢
  unfold Da.cells at h h2 ⊢
  rw [a25p, a25, pbodyA_eq]
  simp (maxSteps := 30000000) (disch := first | assumption | omega | (simp only [List.length_cons, List.length_nil, List.length_append, List.length_set, List.length_replicate, List.length_map, List.length_range, List.length_take, List.length_drop, List.all_cons, List.all_nil, AV.isCell, Bool.and_self, Bool.and_true, bs_length, is64_length, w64_length, ints_length, ints_length, bools_len, List.length_map] <;> omega) | rfl | decide) only [bodyA_eq, List.length_cons, List.length_nil, Nat.zero_add, Nat.reduceSub, pads, List.cons_append, List.nil_append, run_seq, run_region, runOps_cons, oper_none, ex_box, AV.cells, opv, List.getD_cons_zero, List.all_cons, AV.isCell, List.all_nil, Bool.and_self, ↓reduceIte, putK_to, List.set_cons_succ, List.set_cons_zero, opsK_some, ex_mov, runOps_nil, regK_some, seqK_normal, ex_load, List.getD_cons_succ, rd_ptr, List.getElem?_cons_zero, rdK_cells, List.drop_zero, List.take_succ_cons, List.take_nil, loadK_n, valK_some, ex_call, List.map_cons, List.map_nil, pcallA_eq, frzN, List.mapM_cons, frz_agg, frz_int, frz_sl, List.mapM_nil, Option.pure_def, Option.bind_eq_bind, Option.bind_some, Option.map_some, argK_some, h, retK_some, scal, scal1, ex_bin, bin_neq, decide_true, Bool.not_true, run_cond, condK_bool, Bool.false_eq_true, run_skip, h2, Bool.and_true, fzIds, List.flatMap_cons, bor_agg, bor_int, bor_sl, List.flatMap_nil, List.append_nil, List.foldl_nil, ex_ext, extA_tup, List.getElem?_cons_succ, run_ret, bodyK_ret, results_2, resL_cons, res_tmp, resK_some, resL_nil, retvK_some, pbodyK_some, frz_tup]
theorem classes25_none (v e : Int) (z1 z2 : Bool) (v0 : 0 ≤ v) (v3 : v ≤ 3) : L.pcall 25 [.agg [.int .i64 v, .int .i64 e, .sl z1 0 [], .sl z2 0 []]] = some (.tup [.sl true 0 [], .int .i64 3]) := by
  have h := check_none v e z1 z2 0 [] v0 v3
  rw [a25p, a25, pbodyA_eq]
  simp (maxSteps := 30000000) (disch := first | assumption | omega | (simp only [List.length_cons, List.length_nil, List.length_append, List.length_set, List.length_replicate, List.length_map, List.length_range, List.length_take, List.length_drop, List.all_cons, List.all_nil, AV.isCell, Bool.and_self, Bool.and_true, bs_length, is64_length, w64_length, ints_length, ints_length, bools_len, List.length_map] <;> omega) | rfl | decide) only [bodyA_eq, List.length_cons, List.length_nil, Nat.zero_add, Nat.reduceSub, pads, List.cons_append, List.nil_append, run_seq, run_region, runOps_cons, oper_none, ex_box, AV.cells, opv, List.getD_cons_zero, List.all_cons, AV.isCell, List.all_nil, Bool.and_self, ↓reduceIte, putK_to, List.set_cons_succ, List.set_cons_zero, opsK_some, ex_mov, runOps_nil, regK_some, seqK_normal, ex_load, List.getD_cons_succ, rd_ptr, List.getElem?_cons_zero, rdK_cells, List.drop_zero, List.take_succ_cons, List.take_nil, loadK_n, valK_some, ex_call, List.map_cons, List.map_nil, pcallA_eq, frzN, List.mapM_cons, frz_agg, frz_int, frz_sl, List.mapM_nil, Option.pure_def, Option.bind_eq_bind, Option.bind_some, Option.map_some, argK_some, h, retK_some, scal, scal1, ex_bin, bin_neq, Int.reduceEq, decide_false, Bool.not_false, run_cond, condK_bool, run_ret, seqK_ret, bodyK_ret, results_2, resL_cons, res_tmp, resK_some, resL_nil, retvK_some, pbodyK_some, frz_tup]

end Go.Abs.Det
