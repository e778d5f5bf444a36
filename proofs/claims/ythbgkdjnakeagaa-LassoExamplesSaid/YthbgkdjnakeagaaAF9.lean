/- The reference: repeats. -/
import Derived.Test.YthbgkdjnakeagaaAF8
import Derived.Test.YthbgkdjnakeagaaAW16
namespace Go.Abs.Lasso
set_option linter.unusedVariables false
set_option linter.unusedSimpArgs false
open Go Go.Abs

theorem ratn_eq (z1 z2 : Bool) (p q : List Nat) (i : Nat) (hp : p.length < 1099511627776) (hq : q.length < 1099511627776) (h2 : i < 9223372036854775808) :
    L.pcall 26 [las z1 z2 p q, .int .i64 (i : Nat)] = some (.int .u8 (seqM p q i : Nat)) := by
  rw [rat_eq z1 z2 p q i hp hq (by omega) (by omega), atM_nat]

theorem rep_loop {z1 z : Bool} {p q : List Nat} {a d : Nat} (hq0 : 0 < q.length) (hp : p.length < 1099511627776) (hq : q.length < 1099511627776) (ha : a < 1099511627776) (hd : d < 1099511627776) : ∀ t i, i + t = max (p.length + q.length) (a + q.length) →
    ∃ i' : Nat, ((∀ j, i ≤ j → j < max (p.length + q.length) (a + q.length) → seqM p q j = seqM p q (j + d)) ∧
        L.loop a42l0s a42l0 ⟨a42l0F (.int .i64 (a : Nat)) (.int .i64 (d : Nat)) (.ptr 0 0) (.bool false) (.int .i64 (i : Nat)), [.cells false false [word z1 p, word z q]]⟩ = some (.exit 0, ⟨a42l0F (.int .i64 (a : Nat)) (.int .i64 (d : Nat)) (.ptr 0 0) (.bool false) (.int .i64 (i' : Nat)), [.cells false false [word z1 p, word z q]]⟩)) ∨
      ((∃ j, i ≤ j ∧ seqM p q j ≠ seqM p q (j + d)) ∧
        L.loop a42l0s a42l0 ⟨a42l0F (.int .i64 (a : Nat)) (.int .i64 (d : Nat)) (.ptr 0 0) (.bool false) (.int .i64 (i : Nat)), [.cells false false [word z1 p, word z q]]⟩ = some (.ret, ⟨a42l0F (.int .i64 (a : Nat)) (.int .i64 (d : Nat)) (.ptr 0 0) (.bool false) (.int .i64 (i' : Nat)), [.cells false false [word z1 p, word z q]]⟩))
  | 0, i, h => by
    refine ⟨i, .inl ⟨fun j h1 h2 => by omega, ?_⟩⟩
    have c1 : ¬ ((i : Nat) : Int) < ((p.length + q.length : Nat) : Int) := by omega
    have c2 : ¬ ((i : Nat) : Int) < ((a + q.length : Nat) : Int) := by omega
    rw [a42l0n]
    simp (maxSteps := 30000000) (disch := first | assumption | omega | (simp only [List.length_cons, List.length_nil, List.length_append, List.length_set, List.length_replicate, List.length_map, List.length_range, List.length_take, List.length_drop, List.all_cons, List.all_nil, AV.isCell, Bool.and_self, Bool.and_true, bs_length, is64_length] <;> omega) | rfl | decide) only [a42l0b, run_seq, run_region, runOps_cons, oper_none, ex_mov, opv, List.getD_cons_succ, List.getD_cons_zero, putK_to, List.set_cons_succ, List.set_cons_zero, opsK_some, ex_faddr, faddrA_ptr, Nat.add_zero, valK_some, ex_load, rd_ptr, List.getElem?_cons_zero, rdK_cells, List.drop_zero, List.take_succ_cons, List.take_zero, loadK_1, ex_len, lenA_sl, Nat.zero_add, List.drop_succ_cons, List.take_nil, ex_bin, bin_add, cadd, wr64, bin_lss, c1, decide_false, oper_guard, guardK_bool, putA_to, if_true, c2, ex_pick, pickA_bool, Bool.false_eq_true, if_false, runOps_nil, regK_some, seqK_normal, run_cond, condK_bool, run_skip, run_exit, seqK_exit, loopK_exit, a42l0c]
  | t + 1, i, h => by
    have h1 := ratn_eq z1 z p q i hp hq (by omega)
    have h2 := ratn_eq z1 z p q (i + d) hp hq (by omega)
    by_cases e : seqM p q i = seqM p q (i + d)
    · have he : (((seqM p q i : Nat) : Int) = ((seqM p q (i + d) : Nat) : Int)) = True := eq_true (by omega)
      obtain ⟨i', ih⟩ := rep_loop (z1 := z1) (z := z) hq0 hp hq ha hd t (i + 1) (by omega)
      refine ⟨i', ?_⟩
      rcases ih with ⟨g1, g2⟩ | ⟨⟨j, g0, g1⟩, g2⟩
      · refine .inl ⟨fun j h1 h2 => ?_, ?_⟩
        · by_cases hj : j = i
          · subst hj; exact e
          · exact g1 j (by omega) h2
        · rw [a42l0n]
          by_cases c1 : ((i : Nat) : Int) < ((p.length + q.length : Nat) : Int)
          · simp (maxSteps := 30000000) (disch := first | assumption | omega | (simp only [List.length_cons, List.length_nil, List.length_append, List.length_set, List.length_replicate, List.length_map, List.length_range, List.length_take, List.length_drop, List.all_cons, List.all_nil, AV.isCell, Bool.and_self, Bool.and_true, bs_length, is64_length] <;> omega) | rfl | decide) only [a42l0b, run_seq, run_region, runOps_cons, oper_none, ex_mov, opv, List.getD_cons_succ, List.getD_cons_zero, putK_to, List.set_cons_succ, List.set_cons_zero, opsK_some, ex_faddr, faddrA_ptr, Nat.add_zero, valK_some, ex_load, rd_ptr, List.getElem?_cons_zero, rdK_cells, List.drop_zero, List.take_succ_cons, List.take_zero, loadK_1, ex_len, lenA_sl, Nat.zero_add, List.drop_succ_cons, List.take_nil, ex_bin, bin_add, cadd, wr64, bin_lss, c1, decide_true, oper_guard, guardK_bool, Bool.true_eq_false, putA_to, if_false, ex_pick, pickA_bool, if_true, runOps_nil, regK_some, seqK_normal, run_cond, condK_bool, run_skip, run_exit, run_block, run_draw, runFree_cons, foper_none, fe_load, loadK_n, fstK_some, fputK_to, freeK_some, fe_mov, fe_call, List.map_cons, List.map_nil, pcallA_eq, frzN, List.mapM_cons, frz_agg, frz_sl, List.mapM_nil, Option.pure_def, Option.bind_eq_bind, Option.bind_some, Option.map_some, frz_int, argK_some, h1, retK_some, scal, scal1, fzIds, List.flatMap_cons, bor_agg, bor_sl, List.flatMap_nil, List.append_nil, bor_int, List.foldl_nil, ite_self, quietK_some, quietCall, List.isEmpty_nil, Bool.or_true, fe_bin, runFree_nil, drawK_some, adopt, adoptVal, ex_call, h2, bin_neq, he, Bool.not_true, Bool.false_eq_true, run_ret, blockK_normal, cadd1, loopK_normal, a42l0c, g2]
          · have c2 : ((i : Nat) : Int) < ((a + q.length : Nat) : Int) := by omega
            simp (maxSteps := 30000000) (disch := first | assumption | omega | (simp only [List.length_cons, List.length_nil, List.length_append, List.length_set, List.length_replicate, List.length_map, List.length_range, List.length_take, List.length_drop, List.all_cons, List.all_nil, AV.isCell, Bool.and_self, Bool.and_true, bs_length, is64_length] <;> omega) | rfl | decide) only [a42l0b, run_seq, run_region, runOps_cons, oper_none, ex_mov, opv, List.getD_cons_succ, List.getD_cons_zero, putK_to, List.set_cons_succ, List.set_cons_zero, opsK_some, ex_faddr, faddrA_ptr, Nat.add_zero, valK_some, ex_load, rd_ptr, List.getElem?_cons_zero, rdK_cells, List.drop_zero, List.take_succ_cons, List.take_zero, loadK_1, ex_len, lenA_sl, Nat.zero_add, List.drop_succ_cons, List.take_nil, ex_bin, bin_add, cadd, wr64, bin_lss, c1, decide_false, oper_guard, guardK_bool, putA_to, if_true, c2, decide_true, ex_pick, pickA_bool, Bool.false_eq_true, ite_self, runOps_nil, regK_some, seqK_normal, run_cond, condK_bool, run_skip, run_exit, run_block, run_draw, runFree_cons, foper_none, fe_load, loadK_n, fstK_some, fputK_to, freeK_some, fe_mov, fe_call, List.map_cons, List.map_nil, pcallA_eq, frzN, List.mapM_cons, frz_agg, frz_sl, List.mapM_nil, Option.pure_def, Option.bind_eq_bind, Option.bind_some, Option.map_some, frz_int, argK_some, h1, retK_some, scal, scal1, fzIds, List.flatMap_cons, bor_agg, bor_sl, List.flatMap_nil, List.append_nil, bor_int, List.foldl_nil, quietK_some, quietCall, List.isEmpty_nil, Bool.or_true, fe_bin, runFree_nil, drawK_some, adopt, adoptVal, ex_call, h2, bin_neq, he, Bool.not_true, run_ret, if_false, blockK_normal, cadd1, loopK_normal, a42l0c, g2]
      · refine .inr ⟨⟨j, by omega, g1⟩, ?_⟩
        rw [a42l0n]
        by_cases c1 : ((i : Nat) : Int) < ((p.length + q.length : Nat) : Int)
        · simp (maxSteps := 30000000) (disch := first | assumption | omega | (simp only [List.length_cons, List.length_nil, List.length_append, List.length_set, List.length_replicate, List.length_map, List.length_range, List.length_take, List.length_drop, List.all_cons, List.all_nil, AV.isCell, Bool.and_self, Bool.and_true, bs_length, is64_length] <;> omega) | rfl | decide) only [a42l0b, run_seq, run_region, runOps_cons, oper_none, ex_mov, opv, List.getD_cons_succ, List.getD_cons_zero, putK_to, List.set_cons_succ, List.set_cons_zero, opsK_some, ex_faddr, faddrA_ptr, Nat.add_zero, valK_some, ex_load, rd_ptr, List.getElem?_cons_zero, rdK_cells, List.drop_zero, List.take_succ_cons, List.take_zero, loadK_1, ex_len, lenA_sl, Nat.zero_add, List.drop_succ_cons, List.take_nil, ex_bin, bin_add, cadd, wr64, bin_lss, c1, decide_true, oper_guard, guardK_bool, Bool.true_eq_false, putA_to, if_false, ex_pick, pickA_bool, if_true, runOps_nil, regK_some, seqK_normal, run_cond, condK_bool, run_skip, run_exit, run_block, run_draw, runFree_cons, foper_none, fe_load, loadK_n, fstK_some, fputK_to, freeK_some, fe_mov, fe_call, List.map_cons, List.map_nil, pcallA_eq, frzN, List.mapM_cons, frz_agg, frz_sl, List.mapM_nil, Option.pure_def, Option.bind_eq_bind, Option.bind_some, Option.map_some, frz_int, argK_some, h1, retK_some, scal, scal1, fzIds, List.flatMap_cons, bor_agg, bor_sl, List.flatMap_nil, List.append_nil, bor_int, List.foldl_nil, ite_self, quietK_some, quietCall, List.isEmpty_nil, Bool.or_true, fe_bin, runFree_nil, drawK_some, adopt, adoptVal, ex_call, h2, bin_neq, he, Bool.not_true, Bool.false_eq_true, run_ret, blockK_normal, cadd1, loopK_normal, a42l0c, g2]
        · have c2 : ((i : Nat) : Int) < ((a + q.length : Nat) : Int) := by omega
          simp (maxSteps := 30000000) (disch := first | assumption | omega | (simp only [List.length_cons, List.length_nil, List.length_append, List.length_set, List.length_replicate, List.length_map, List.length_range, List.length_take, List.length_drop, List.all_cons, List.all_nil, AV.isCell, Bool.and_self, Bool.and_true, bs_length, is64_length] <;> omega) | rfl | decide) only [a42l0b, run_seq, run_region, runOps_cons, oper_none, ex_mov, opv, List.getD_cons_succ, List.getD_cons_zero, putK_to, List.set_cons_succ, List.set_cons_zero, opsK_some, ex_faddr, faddrA_ptr, Nat.add_zero, valK_some, ex_load, rd_ptr, List.getElem?_cons_zero, rdK_cells, List.drop_zero, List.take_succ_cons, List.take_zero, loadK_1, ex_len, lenA_sl, Nat.zero_add, List.drop_succ_cons, List.take_nil, ex_bin, bin_add, cadd, wr64, bin_lss, c1, decide_false, oper_guard, guardK_bool, putA_to, if_true, c2, decide_true, ex_pick, pickA_bool, Bool.false_eq_true, ite_self, runOps_nil, regK_some, seqK_normal, run_cond, condK_bool, run_skip, run_exit, run_block, run_draw, runFree_cons, foper_none, fe_load, loadK_n, fstK_some, fputK_to, freeK_some, fe_mov, fe_call, List.map_cons, List.map_nil, pcallA_eq, frzN, List.mapM_cons, frz_agg, frz_sl, List.mapM_nil, Option.pure_def, Option.bind_eq_bind, Option.bind_some, Option.map_some, frz_int, argK_some, h1, retK_some, scal, scal1, fzIds, List.flatMap_cons, bor_agg, bor_sl, List.flatMap_nil, List.append_nil, bor_int, List.foldl_nil, quietK_some, quietCall, List.isEmpty_nil, Bool.or_true, fe_bin, runFree_nil, drawK_some, adopt, adoptVal, ex_call, h2, bin_neq, he, Bool.not_true, run_ret, if_false, blockK_normal, cadd1, loopK_normal, a42l0c, g2]
    · have he : ¬ (((seqM p q i : Nat) : Int) = ((seqM p q (i + d) : Nat) : Int)) := by omega
      refine ⟨i, .inr ⟨⟨i, Nat.le_refl _, e⟩, ?_⟩⟩
      rw [a42l0n]
      by_cases c1 : ((i : Nat) : Int) < ((p.length + q.length : Nat) : Int)
      · simp (maxSteps := 30000000) (disch := first | assumption | omega | (simp only [List.length_cons, List.length_nil, List.length_append, List.length_set, List.length_replicate, List.length_map, List.length_range, List.length_take, List.length_drop, List.all_cons, List.all_nil, AV.isCell, Bool.and_self, Bool.and_true, bs_length, is64_length] <;> omega) | rfl | decide) only [a42l0b, run_seq, run_region, runOps_cons, oper_none, ex_mov, opv, List.getD_cons_succ, List.getD_cons_zero, putK_to, List.set_cons_succ, List.set_cons_zero, opsK_some, ex_faddr, faddrA_ptr, Nat.add_zero, valK_some, ex_load, rd_ptr, List.getElem?_cons_zero, rdK_cells, List.drop_zero, List.take_succ_cons, List.take_zero, loadK_1, ex_len, lenA_sl, Nat.zero_add, List.drop_succ_cons, List.take_nil, ex_bin, bin_add, cadd, wr64, bin_lss, c1, decide_true, oper_guard, guardK_bool, Bool.true_eq_false, putA_to, if_false, ex_pick, pickA_bool, if_true, runOps_nil, regK_some, seqK_normal, run_cond, condK_bool, run_skip, run_exit, run_block, run_draw, runFree_cons, foper_none, fe_load, loadK_n, fstK_some, fputK_to, freeK_some, fe_mov, fe_call, List.map_cons, List.map_nil, pcallA_eq, frzN, List.mapM_cons, frz_agg, frz_sl, List.mapM_nil, Option.pure_def, Option.bind_eq_bind, Option.bind_some, Option.map_some, frz_int, argK_some, h1, retK_some, scal, scal1, fzIds, List.flatMap_cons, bor_agg, bor_sl, List.flatMap_nil, List.append_nil, bor_int, List.foldl_nil, ite_self, quietK_some, quietCall, List.isEmpty_nil, Bool.or_true, fe_bin, runFree_nil, drawK_some, adopt, adoptVal, ex_call, h2, bin_neq, he, decide_false, Bool.not_false, run_ret, blockK_ret, seqK_ret, loopK_ret, a42l0c]
      · have c2 : ((i : Nat) : Int) < ((a + q.length : Nat) : Int) := by omega
        simp (maxSteps := 30000000) (disch := first | assumption | omega | (simp only [List.length_cons, List.length_nil, List.length_append, List.length_set, List.length_replicate, List.length_map, List.length_range, List.length_take, List.length_drop, List.all_cons, List.all_nil, AV.isCell, Bool.and_self, Bool.and_true, bs_length, is64_length] <;> omega) | rfl | decide) only [a42l0b, run_seq, run_region, runOps_cons, oper_none, ex_mov, opv, List.getD_cons_succ, List.getD_cons_zero, putK_to, List.set_cons_succ, List.set_cons_zero, opsK_some, ex_faddr, faddrA_ptr, Nat.add_zero, valK_some, ex_load, rd_ptr, List.getElem?_cons_zero, rdK_cells, List.drop_zero, List.take_succ_cons, List.take_zero, loadK_1, ex_len, lenA_sl, Nat.zero_add, List.drop_succ_cons, List.take_nil, ex_bin, bin_add, cadd, wr64, bin_lss, c1, decide_false, oper_guard, guardK_bool, putA_to, if_true, c2, decide_true, ex_pick, pickA_bool, Bool.false_eq_true, ite_self, runOps_nil, regK_some, seqK_normal, run_cond, condK_bool, run_skip, run_exit, run_block, run_draw, runFree_cons, foper_none, fe_load, loadK_n, fstK_some, fputK_to, freeK_some, fe_mov, fe_call, List.map_cons, List.map_nil, pcallA_eq, frzN, List.mapM_cons, frz_agg, frz_sl, List.mapM_nil, Option.pure_def, Option.bind_eq_bind, Option.bind_some, Option.map_some, frz_int, argK_some, h1, retK_some, scal, scal1, fzIds, List.flatMap_cons, bor_agg, bor_sl, List.flatMap_nil, List.append_nil, bor_int, List.foldl_nil, quietK_some, quietCall, List.isEmpty_nil, Bool.or_true, fe_bin, runFree_nil, drawK_some, adopt, adoptVal, ex_call, h2, bin_neq, he, Bool.not_false, run_ret, blockK_ret, seqK_ret, loopK_ret, a42l0c]

theorem repeats_eq (z1 z2 : Bool) (p q : List Nat) (a d : Nat) (hq0 : 0 < q.length) (hp : p.length < 1099511627776) (hq : q.length < 1099511627776) (ha : a < 1099511627776) (hd : d < 1099511627776) :
    ∃ b : Bool, L.pcall 42 [las z1 z2 p q, .int .i64 (a : Nat), .int .i64 (d : Nat)] = some (.bool b) ∧ (b = true ↔ ∀ i, a ≤ i → seqM p q (i + d) = seqM p q i) := by
  obtain ⟨z, hfull⟩ := rfull_eq z1 z2 p q
  rw [fullM_of hq0] at hfull
  obtain ⟨i', h⟩ := rep_loop (z1 := z1) (z := z) (a := a) (d := d) hq0 hp hq ha hd (max (p.length + q.length) (a + q.length) - a) a (by omega)
  rcases h with ⟨h1, h2⟩ | ⟨⟨j, h0, h1⟩, h2⟩
  · refine ⟨true, ?_, ⟨fun _ => ?_, fun _ => rfl⟩⟩
    · rw [a42p, a42, pbodyA_eq]
      simp (maxSteps := 30000000) (disch := first | assumption | omega | (simp only [List.length_cons, List.length_nil, List.length_append, List.length_set, List.length_replicate, List.length_map, List.length_range, List.length_take, List.length_drop, List.all_cons, List.all_nil, AV.isCell, Bool.and_self, Bool.and_true, bs_length, is64_length] <;> omega) | rfl | decide) only [bodyA_eq, List.length_cons, List.length_nil, Nat.zero_add, Nat.reduceAdd, Nat.reduceSub, pads, List.cons_append, List.nil_append, run_seq, run_region, runOps_cons, oper_none, ex_box, AV.cells, opv, List.getD_cons_zero, List.all_cons, AV.isCell, List.all_nil, Bool.and_self, if_true, putK_to, List.set_cons_succ, List.set_cons_zero, opsK_some, ex_mov, runOps_nil, regK_some, seqK_normal, ex_load, List.getD_cons_succ, rd_ptr, List.getElem?_cons_zero, rdK_cells, List.drop_zero, List.take_succ_cons, List.take_nil, loadK_n, valK_some, ex_call, List.map_cons, List.map_nil, pcallA_eq, frzN, List.mapM_cons, frz_agg, frz_sl, List.mapM_nil, Option.pure_def, Option.bind_eq_bind, Option.bind_some, Option.map_some, argK_some, hfull, retK_some, scal, scal1, Bool.and_true, Bool.false_eq_true, fzIds, List.flatMap_cons, bor_agg, bor_sl, List.flatMap_nil, List.append_nil, List.foldl_nil, ite_self, ex_store, wr_ptr, wrK_cells, splice, List.take_zero, List.drop_succ_cons, List.drop_nil, storeK_some, putK_no, run_block, run_loop, a42l0c, h2, blockK_exit, run_ret, bodyK_ret, results_1, res_tmp, retvK_some, pbodyK_some, frz_bool]
    · -- beyond the range by the loop's own period
      intro i
      induction i using Nat.strongRecOn with
      | _ i ih =>
        intro hi
        by_cases hlt : i < max (p.length + q.length) (a + q.length)
        · exact (h1 i hi hlt).symm
        · have k := ih (i - q.length) (by omega) (by omega)
          have k1 := seqM_per (p := p) hq0 (i := i - q.length) (by omega)
          have k2 := seqM_per (p := p) hq0 (i := i - q.length + d) (by omega)
          rw [show i - q.length + q.length = i by omega] at k1
          rw [show i - q.length + d + q.length = i + d by omega] at k2
          rw [k1, k2, k]
  · refine ⟨false, ?_, ⟨fun h => (nomatch h), fun h => absurd (h j h0).symm h1⟩⟩
    rw [a42p, a42, pbodyA_eq]
    simp (maxSteps := 30000000) (disch := first | assumption | omega | (simp only [List.length_cons, List.length_nil, List.length_append, List.length_set, List.length_replicate, List.length_map, List.length_range, List.length_take, List.length_drop, List.all_cons, List.all_nil, AV.isCell, Bool.and_self, Bool.and_true, bs_length, is64_length] <;> omega) | rfl | decide) only [bodyA_eq, List.length_cons, List.length_nil, Nat.zero_add, Nat.reduceAdd, Nat.reduceSub, pads, List.cons_append, List.nil_append, run_seq, run_region, runOps_cons, oper_none, ex_box, AV.cells, opv, List.getD_cons_zero, List.all_cons, AV.isCell, List.all_nil, Bool.and_self, if_true, putK_to, List.set_cons_succ, List.set_cons_zero, opsK_some, ex_mov, runOps_nil, regK_some, seqK_normal, ex_load, List.getD_cons_succ, rd_ptr, List.getElem?_cons_zero, rdK_cells, List.drop_zero, List.take_succ_cons, List.take_nil, loadK_n, valK_some, ex_call, List.map_cons, List.map_nil, pcallA_eq, frzN, List.mapM_cons, frz_agg, frz_sl, List.mapM_nil, Option.pure_def, Option.bind_eq_bind, Option.bind_some, Option.map_some, argK_some, hfull, retK_some, scal, scal1, Bool.and_true, Bool.false_eq_true, fzIds, List.flatMap_cons, bor_agg, bor_sl, List.flatMap_nil, List.append_nil, List.foldl_nil, ite_self, ex_store, wr_ptr, wrK_cells, splice, List.take_zero, List.drop_succ_cons, List.drop_nil, storeK_some, putK_no, run_block, run_loop, a42l0c, h2, blockK_ret, seqK_ret, bodyK_ret, results_1, res_tmp, retvK_some, pbodyK_some, frz_bool]

/-! cut -/
def takeM (f : Nat → Nat) (n : Nat) : List Nat := (List.range n).map f
theorem takeM_succ (f : Nat → Nat) (n : Nat) : takeM f n ++ [f n] = takeM f (n + 1) := by simp [takeM, List.range_succ]
theorem takeM_length (f : Nat → Nat) (n : Nat) : (takeM f n).length = n := by simp [takeM]

/-- a word under way: nil, or a block of the heap's tail -/
def BldW (T : Heap) (v : AV) (l : List Nat) : Prop :=
  (v = .sl true 0 [] ∧ l = []) ∨ ∃ k, v = .own false (k + 2) 0 l.length 1 ∧ T[k]? = some (.cells false false (bs l))

theorem cut_loop {z1 z : Bool} {p q : List Nat} {a d : Nat} {c1 : Blk} (hp : p.length < 1099511627776) (hq : q.length < 1099511627776) (ha : a < 1099511627776) (hd : d < 1099511627776) : ∀ t i T v, i + t = a + d → BldW T v (takeM (seqM p q) i) →
    ∃ T' v', L.loop a43l0s a43l0 ⟨a43l0F (.int .i64 (a : Nat)) (.int .i64 (d : Nat)) (.ptr 0 0) (.ptr 1 0) v (.int .i64 (i : Nat)), .cells false false [word z1 p, word z q] :: c1 :: T⟩ =
        some (.exit 0, ⟨a43l0F (.int .i64 (a : Nat)) (.int .i64 (d : Nat)) (.ptr 0 0) (.ptr 1 0) v' (.int .i64 ((a + d : Nat))), .cells false false [word z1 p, word z q] :: c1 :: T'⟩) ∧ BldW T' v' (takeM (seqM p q) (a + d))
  | 0, i, T, v, h, hB => by
    obtain rfl : i = a + d := by omega
    refine ⟨T, v, ?_, hB⟩
    rw [a43l0n]
    simp (maxSteps := 30000000) (disch := first | assumption | omega | (simp only [List.length_cons, List.length_nil, List.length_append, List.length_set, List.length_replicate, List.length_map, List.length_range, List.length_take, List.length_drop, List.all_cons, List.all_nil, AV.isCell, Bool.and_self, Bool.and_true, bs_length, is64_length] <;> omega) | rfl | decide) only [a43l0b, run_seq, run_region, runOps_cons, oper_none, ex_mov, opv, List.getD_cons_succ, List.getD_cons_zero, putK_to, List.set_cons_succ, List.set_cons_zero, opsK_some, ex_bin, bin_add, cadd, wr64, valK_some, bin_lss, Int.lt_irrefl, decide_false, runOps_nil, regK_some, seqK_normal, run_cond, condK_bool, Bool.false_eq_true, run_skip, run_exit, if_false, seqK_exit, loopK_exit, a43l0c]
  | t + 1, i, T, v, h, hB => by
    have c : ((i : Nat) : Int) < ((a + d : Nat) : Int) := by omega
    have hat := ratn_eq z1 z p q i hp hq (by omega)
    have hsn := takeM_succ (seqM p q) i
    have hlen := takeM_length (seqM p q) i
    rcases hB with ⟨rfl, e1⟩ | ⟨k, rfl, e1⟩
    · have hi : i = 0 := by rw [← hlen, e1]; rfl
      subst hi
      obtain ⟨T', v', h1, h2⟩ := cut_loop (z1 := z1) (z := z) (c1 := c1) hp hq ha hd t 1 (T ++ [.cells false false (bs (takeM (seqM p q) 1))]) (.own false (T.length + 2) 0 1 1) (by omega) (.inr ⟨T.length, by rw [takeM_length], by simp⟩)
      refine ⟨T', v', ?_, h2⟩
      have hb : bs (takeM (seqM p q) 1) = [AV.int .u8 (seqM p q 0 : Nat)] := rfl
      rw [hb] at h1
      have c' : (0 : Int) < ((a + d : Nat) : Int) := by omega
      simp only [Int.natCast_zero, Int.natCast_one] at hat h1 ⊢
      rw [a43l0n]
      simp (maxSteps := 30000000) (disch := first | assumption | omega | (simp only [List.length_cons, List.length_nil, List.length_append, List.length_set, List.length_replicate, List.length_map, List.length_range, List.length_take, List.length_drop, List.all_cons, List.all_nil, AV.isCell, Bool.and_self, Bool.and_true, bs_length, is64_length] <;> omega) | rfl | decide) only [a43l0b, run_seq, run_region, runOps_cons, oper_none, ex_mov, opv, List.getD_cons_succ, List.getD_cons_zero, putK_to, List.set_cons_succ, List.set_cons_zero, opsK_some, ex_bin, bin_add, cadd, wr64, valK_some, bin_lss, c', decide_true, runOps_nil, regK_some, seqK_normal, run_cond, condK_bool, run_skip, run_exit, if_true, run_block, ex_load, rd_ptr, List.getElem?_cons_zero, rdK_cells, List.drop_zero, List.take_succ_cons, List.take_nil, loadK_n, ex_call, List.map_cons, List.map_nil, pcallA_eq, frzN, List.mapM_cons, frz_agg, frz_sl, List.mapM_nil, Option.pure_def, Option.bind_eq_bind, Option.bind_some, Option.map_some, frz_int, argK_some, hat, retK_some, scal, scal1, fzIds, List.flatMap_cons, bor_agg, bor_sl, List.flatMap_nil, List.append_nil, bor_int, List.foldl_nil, ite_self, ex_bslice, AV.cells, List.all_cons, List.length_cons, List.length_nil, Nat.zero_add, beq_self_eq_true, List.all_nil, Bool.and_self, repz_1, Nat.mul_one, fillA, Nat.le_refl, AV.isCell, and_self, splice, List.take_zero, List.nil_append, List.drop_succ_cons, List.drop_nil, newK_some, newA_data, List.isEmpty_nil, slK_some, ex_append, src_sl, appK_nil, Nat.reduceBEq, newA_own, List.cons_append, blockK_normal, Int.zero_add, loopK_normal, a43l0c, h1]
    · have hk := (List.getElem?_eq_some_iff.1 e1).1
      rw [hlen]
      obtain ⟨T', v', h1, h2⟩ := cut_loop (z1 := z1) (z := z) (c1 := c1) hp hq ha hd t (i + 1) (T.set k .dead ++ [.cells false false (bs (takeM (seqM p q) (i + 1)))]) (.own false (T.length + 2) 0 (i + 1) 1) (by omega) (.inr ⟨T.length, by rw [takeM_length], by simp⟩)
      refine ⟨T', v', ?_, h2⟩
      have hb : bs (takeM (seqM p q) i) ++ [AV.int .u8 (seqM p q i : Nat)] = bs (takeM (seqM p q) (i + 1)) := by rw [← hsn]; simp [bs]
      have hcut : List.take i (bs (takeM (seqM p q) i)) = bs (takeM (seqM p q) i) := List.take_of_length_le (by rw [bs_length, hlen]; exact Nat.le_refl _)
      have hbl : (bs (takeM (seqM p q) i)).length = i := by rw [bs_length, hlen]
      rw [a43l0n]
      simp (maxSteps := 30000000) (disch := first | assumption | omega | (simp only [List.length_cons, List.length_nil, List.length_append, List.length_set, List.length_replicate, List.length_map, List.length_range, List.length_take, List.length_drop, List.all_cons, List.all_nil, AV.isCell, Bool.and_self, Bool.and_true, bs_length, is64_length] <;> omega) | rfl | decide) only [a43l0b, run_seq, run_region, runOps_cons, oper_none, ex_mov, opv, List.getD_cons_succ, List.getD_cons_zero, putK_to, List.set_cons_succ, List.set_cons_zero, opsK_some, ex_bin, bin_add, cadd, wr64, valK_some, bin_lss, c, decide_true, runOps_nil, regK_some, seqK_normal, run_cond, condK_bool, run_skip, run_exit, if_true, run_block, ex_load, rd_ptr, List.getElem?_cons_zero, rdK_cells, List.drop_zero, List.take_succ_cons, List.take_nil, loadK_n, ex_call, List.map_cons, List.map_nil, pcallA_eq, frzN, List.mapM_cons, frz_agg, frz_sl, List.mapM_nil, Option.pure_def, Option.bind_eq_bind, Option.bind_some, Option.map_some, frz_int, argK_some, hat, retK_some, scal, scal1, fzIds, List.flatMap_cons, bor_agg, bor_sl, List.flatMap_nil, List.append_nil, bor_int, List.foldl_nil, ite_self, ex_bslice, AV.cells, List.all_cons, List.length_cons, List.length_nil, Nat.zero_add, beq_self_eq_true, List.all_nil, Bool.and_self, repz_1, Nat.mul_one, fillA, Nat.le_refl, AV.isCell, and_self, splice, List.take_zero, List.nil_append, List.drop_succ_cons, List.drop_nil, newK_some, newA_data, List.isEmpty_nil, slK_some, ex_append, src_sl, appK_own, List.getElem?_cons_succ, e1, appOK_cells, Nat.reduceBEq, hcut, hb, List.cons_append, blockK_normal, cadd1, loopK_normal, a43l0c, h1]

theorem takeM_take (f : Nat → Nat) (a d : Nat) : (takeM f (a + d)).take a = takeM f a := by
  unfold takeM
  rw [← List.map_take, List.take_range, Nat.min_eq_left (by omega)]
theorem takeM_drop (f : Nat → Nat) (a d : Nat) : (takeM f (a + d)).drop a = takeM (fun i => f (a + i)) d := by
  apply List.ext_getElem
  · simp [takeM]
  · intro i h1 h2; simp [takeM]

theorem rcut_eq (z1 z2 : Bool) (p q : List Nat) (a d : Nat) (hp : p.length < 1099511627776) (hq : q.length < 1099511627776) (ha : a < 1099511627776) (hd0 : 0 < d) (hd : d < 1099511627776) :
    L.pcall 43 [las z1 z2 p q, .int .i64 (a : Nat), .int .i64 (d : Nat)] = some (las (a == 0) false (takeM (seqM p q) a) (takeM (fun i => seqM p q (a + i)) d)) := by
  obtain ⟨T', v', h1, h2⟩ := cut_loop (z1 := z1) (z := z2) (c1 := .cells false false [.sl true 0 [], .sl true 0 []]) hp hq ha hd (a + d) 0 [] (.sl true 0 []) (by omega) (.inl ⟨rfl, rfl⟩)
  have hlen := takeM_length (seqM p q) (a + d)
  rcases h2 with ⟨-, e⟩ | ⟨k, rfl, e⟩
  · rw [e] at hlen; simp at hlen; omega
  · rw [hlen] at h1
    simp only [Int.natCast_zero] at h1
    have e1 := takeM_take (seqM p q) a d
    have e2 := takeM_drop (seqM p q) a d
    have l1 := takeM_length (seqM p q) a
    have l2 := takeM_length (fun i => seqM p q (a + i)) d
    have e3 : List.take d (takeM (fun i => seqM p q (a + i)) d) = takeM (fun i => seqM p q (a + i)) d := List.take_of_length_le (by omega)
    have e4 : (d == 0) = false := by simp; omega
    rw [a43p, a43, pbodyA_eq]
    simp (maxSteps := 30000000) (disch := first | assumption | omega | (simp only [List.length_cons, List.length_nil, List.length_append, List.length_set, List.length_replicate, List.length_map, List.length_range, List.length_take, List.length_drop, List.all_cons, List.all_nil, AV.isCell, Bool.and_self, Bool.and_true, bs_length, is64_length] <;> omega) | rfl | decide) only [bodyA_eq, List.length_cons, List.length_nil, Nat.zero_add, Nat.reduceAdd, Nat.reduceSub, pads, List.cons_append, List.nil_append, run_seq, run_region, runOps_cons, oper_none, ex_box, AV.cells, opv, List.getD_cons_zero, List.all_cons, AV.isCell, List.all_nil, Bool.and_self, if_true, putK_to, List.set_cons_succ, List.set_cons_zero, opsK_some, runOps_nil, regK_some, seqK_normal, ex_mov, run_block, run_loop, a43l0c, h1, blockK_exit, run_draw, List.take_succ_cons, List.take_zero, runFree_cons, foper_none, fe_mov, List.getD_cons_succ, fstK_some, fputK_to, freeK_some, fe_slice, ex_slice, Option.map_none, Option.map_some, sliceA_own, bounds_ns, Int.toNat_natCast, cutK_own, Nat.mul_one, Nat.add_zero, Nat.sub_zero, valK_some, fe_append, src_own, List.getElem?_cons_succ, e, srcK_cells, List.drop_zero, bs_take, e1, fappK_sl, appK_nil, newA_data, frzN, bor_bs, List.isEmpty_nil, frz_bs, slK_some, bounds_sn, Nat.add_sub_cancel_left, runFree_nil, drawK_some, List.drop_succ_cons, adopt, adoptVal, ex_append, bs_drop, e2, e3, e4, newA_own, ex_build, beq_self_eq_true, List.map_cons, List.map_nil, fillA, Nat.reduceLeDiff, and_self, splice, Nat.le_refl, List.drop_nil, List.append_nil, ex_store, wr_ptr, List.getElem?_cons_zero, wrK_cells, storeK_some, putK_no, run_ret, bodyK_ret, results_1, res_cell, rd_ptr, rdK_cells, List.take_nil, cellK_some, mkv_n, retvK_some, pbodyK_some, frz_agg, List.mapM_cons, frz_sl, frz_own, hget0, frzK_cells, List.mapM_nil, Option.pure_def, Option.bind_eq_bind, Option.bind_some]
    rw [sl_word l1, sl_word l2]
end Go.Abs.Lasso
