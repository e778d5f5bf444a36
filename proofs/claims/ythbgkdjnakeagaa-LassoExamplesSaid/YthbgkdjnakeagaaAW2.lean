/- Encodings and small functions. -/
import Derived.Test.YthbgkdjnakeagaaAProg
import Derived.Test.YthbgkdjnakeagaaAbsEnc
namespace Go.Abs.Lasso
set_option linter.unusedVariables false
set_option linter.unusedSimpArgs false
open Go Go.Abs
set_option linter.unusedSimpArgs false

noncomputable abbrev L : Rec := lim aprog

abbrev las (z1 z2 : Bool) (p q : List Nat) : AV := .agg [word z1 p, word z2 q]

/-- a loop that is not empty -/
def fullM (q : List Nat) : List Nat := if q = [] then [0] else q

def indexM (p q : Nat) (i : Int) : Int := if i < p then max i 0 else p + (i - p) % (max q 1 : Nat)

def SZ : Nat := 1099511627776

theorem index_eq (z1 z2 : Bool) (p q : List Nat) (i : Int) (hp : p.length < 1099511627776) (hq : q.length < 1099511627776) (h1 : -9223372036854775808 ≤ i) (h2 : i < 9223372036854775808) :
    L.pcall 27 [las z1 z2 p q, .int .i64 i] = some (.int .i64 (indexM p.length q.length i)) := by
  rw [a27p, a27, pbodyA_eq]
  unfold indexM
  by_cases hlt : i < p.length
  · simp (maxSteps := 30000000) (disch := first | assumption | omega | (simp only [List.length_cons, List.length_nil, List.length_append, List.length_set, List.length_replicate, List.length_map, List.length_range, List.length_take, List.length_drop, List.all_cons, List.all_nil, AV.isCell, Bool.and_self, Bool.and_true, bs_length, is64_length] <;> omega) | rfl | decide) only [bodyA_eq, List.length_cons, List.length_nil, Nat.zero_add, Nat.reduceAdd, Nat.reduceSub, pads, List.cons_append, List.nil_append, run_seq, run_region, runOps_cons, oper_none, ex_box, AV.cells, opv, List.getD_cons_zero, List.all_cons, AV.isCell, List.all_nil, Bool.and_self, if_true, putK_to, List.set_cons_succ, List.set_cons_zero, opsK_some, ex_mov, runOps_nil, regK_some, seqK_normal, ex_faddr, List.getD_cons_succ, faddrA_ptr, Nat.add_zero, valK_some, ex_load, rd_ptr, List.getElem?_cons_zero, rdK_cells, List.drop_zero, List.take_succ_cons, List.take_zero, loadK_1, ex_len, lenA_sl, ex_bin, bin_lss, hlt, decide_true, run_cond, condK_bool, ex_maxi, maxA_int, run_ret, run_skip, seqK_ret, bodyK_ret, results_1, res_tmp, retvK_some, pbodyK_some, frzN, frz_int]
  · have e3 := Int.emod_nonneg (i - p.length) (b := (max (q.length : Int) 1)) (by omega)
    have e4 := Int.emod_lt_of_pos (i - p.length) (b := (max (q.length : Int) 1)) (by omega)
    have e2 : (i - p.length).tmod (max (q.length : Int) 1) = (i - p.length) % (max (q.length : Int) 1) := Int.tmod_eq_emod_of_nonneg (by omega)
    simp (maxSteps := 30000000) (disch := first | assumption | omega | (simp only [List.length_cons, List.length_nil, List.length_append, List.length_set, List.length_replicate, List.length_map, List.length_range, List.length_take, List.length_drop, List.all_cons, List.all_nil, AV.isCell, Bool.and_self, Bool.and_true, bs_length, is64_length] <;> omega) | rfl | decide) only [bodyA_eq, List.length_cons, List.length_nil, Nat.zero_add, Nat.reduceAdd, Nat.reduceSub, pads, List.cons_append, List.nil_append, run_seq, run_region, runOps_cons, oper_none, ex_box, AV.cells, opv, List.getD_cons_zero, List.all_cons, AV.isCell, List.all_nil, Bool.and_self, if_true, putK_to, List.set_cons_succ, List.set_cons_zero, opsK_some, ex_mov, runOps_nil, regK_some, seqK_normal, ex_faddr, List.getD_cons_succ, faddrA_ptr, Nat.add_zero, valK_some, ex_load, rd_ptr, List.getElem?_cons_zero, rdK_cells, List.drop_zero, List.take_succ_cons, List.take_zero, loadK_1, ex_len, lenA_sl, ex_bin, bin_lss, hlt, decide_false, run_cond, condK_bool, Bool.false_eq_true, ex_maxi, maxA_int, run_ret, run_skip, if_false, bin_sub, wr64, List.drop_succ_cons, List.take_nil, bin_rem, e2, bin_add, bodyK_ret, results_1, res_tmp, retvK_some, pbodyK_some, frzN, frz_int]
    rw [show ((max q.length 1 : Nat) : Int) = max (q.length : Int) 1 by omega]

theorem full_eq (z1 z2 : Bool) (p q : List Nat) : ∃ z, L.pcall 35 [las z1 z2 p q] = some (las z1 z p (fullM q)) := by
  rw [a35p, a35, pbodyA_eq]
  by_cases hq : q = []
  · subst hq
    refine ⟨false, ?_⟩
    simp (maxSteps := 30000000) (disch := first | assumption | omega | (simp only [List.length_cons, List.length_nil, List.length_append, List.length_set, List.length_replicate, List.length_map, List.length_range, List.length_take, List.length_drop, List.all_cons, List.all_nil, AV.isCell, Bool.and_self, Bool.and_true, bs_length, is64_length] <;> omega) | rfl | decide) only [bodyA_eq, List.length_cons, List.length_nil, Nat.zero_add, Nat.reduceSub, pads, List.cons_append, List.nil_append, run_seq, run_region, runOps_cons, oper_none, ex_box, AV.cells, opv, List.getD_cons_zero, List.all_cons, AV.isCell, List.all_nil, Bool.and_self, if_true, putK_to, List.set_cons_succ, List.set_cons_zero, opsK_some, runOps_nil, regK_some, seqK_normal, ex_faddr, List.getD_cons_succ, faddrA_ptr, valK_some, ex_load, rd_ptr, List.getElem?_cons_zero, rdK_cells, List.drop_succ_cons, List.drop_zero, List.take_succ_cons, List.take_nil, loadK_1, ex_len, lenA_sl, castLit, ex_bin, bin_eql, decide_true, run_cond, condK_bool, ex_mkslice, mksK_int, Int.toNat_one, repz_1, List.append_nil, newA_own, Nat.reduceAdd, ex_store, wr_ptr, wrK_cells, splice, List.take_zero, List.drop_nil, storeK_some, putK_no, run_skip, loadK_n, List.getElem?_cons_succ, run_ret, bodyK_ret, results_1, res_cell, cellK_some, mkv_n, retvK_some, pbodyK_some, frzN, frz_agg, List.mapM_cons, frz_sl, bs, frz_own, frzK_cells, Nat.mul_one, frz_int, List.mapM_nil, Option.pure_def, Option.bind_eq_bind, Option.bind_some, slK_some, Option.map_some]
    rfl
  · refine ⟨z2, ?_⟩
    have hl : ¬ ((q.length : Int) = 0) := by
      have : q.length ≠ 0 := by simpa using hq
      omega
    simp (maxSteps := 30000000) (disch := first | assumption | omega | (simp only [List.length_cons, List.length_nil, List.length_append, List.length_set, List.length_replicate, List.length_map, List.length_range, List.length_take, List.length_drop, List.all_cons, List.all_nil, AV.isCell, Bool.and_self, Bool.and_true, bs_length, is64_length] <;> omega) | rfl | decide) only [bodyA_eq, List.length_cons, List.length_nil, Nat.zero_add, Nat.reduceSub, pads, List.cons_append, List.nil_append, run_seq, run_region, runOps_cons, oper_none, ex_box, AV.cells, opv, List.getD_cons_zero, List.all_cons, AV.isCell, List.all_nil, Bool.and_self, if_true, putK_to, List.set_cons_succ, List.set_cons_zero, opsK_some, runOps_nil, regK_some, seqK_normal, ex_faddr, List.getD_cons_succ, faddrA_ptr, valK_some, ex_load, rd_ptr, List.getElem?_cons_zero, rdK_cells, List.drop_succ_cons, List.drop_zero, List.take_succ_cons, List.take_nil, loadK_1, ex_len, lenA_sl, ex_bin, bin_eql, hl, decide_false, run_cond, condK_bool, Bool.false_eq_true, ex_mkslice, mksK_int, Int.toNat_one, repz_1, List.append_nil, newA_own, Nat.reduceAdd, ex_store, wr_ptr, wrK_cells, splice, List.take_zero, List.drop_nil, storeK_some, putK_no, run_skip, if_false, loadK_n, List.getElem?_cons_succ, run_ret, bodyK_ret, results_1, res_cell, cellK_some, mkv_n, retvK_some, pbodyK_some, frzN, frz_agg, List.mapM_cons, frz_sl, List.mapM_nil, Option.pure_def, Option.bind_eq_bind, Option.bind_some, Option.map_some, fullM, if_neg hq]

def atM (p q : List Nat) (i : Int) : Nat := if i < 0 then 0 else if i < p.length then p.getD i.toNat 0 else (fullM q).getD ((i.toNat - p.length) % (fullM q).length) 0

theorem fullM_pos (q : List Nat) : 0 < (fullM q).length := by
  unfold fullM
  split
  · simp
  · rename_i h; exact List.length_pos_iff.2 h

theorem fullM_len (q : List Nat) : (fullM q).length = max q.length 1 := by
  unfold fullM
  split
  · rename_i h; subst h; rfl
  · rename_i h; have := List.length_pos_iff.2 h; omega

theorem at_eq (z1 z2 : Bool) (p q : List Nat) (i : Int) (hp : p.length < 1099511627776) (hq : q.length < 1099511627776) (h1 : -9223372036854775808 ≤ i) (h2 : i < 9223372036854775808) :
    L.pcall 25 [las z1 z2 p q, .int .i64 i] = some (.int .u8 (atM p q i : Nat)) := by
  rw [a25p, a25, pbodyA_eq]
  obtain ⟨z, hfull⟩ := full_eq z1 z2 p q
  have hfl := fullM_len q
  have hidx := index_eq z1 z p (fullM q) i (by omega) (by omega) h1 h2
  have hfp := fullM_pos q
  unfold atM
  by_cases hneg : i < 0
  · simp (maxSteps := 30000000) (disch := first | assumption | omega | (simp only [List.length_cons, List.length_nil, List.length_append, List.length_set, List.length_replicate, List.length_map, List.length_range, List.length_take, List.length_drop, List.all_cons, List.all_nil, AV.isCell, Bool.and_self, Bool.and_true, bs_length, is64_length] <;> omega) | rfl | decide) only [bodyA_eq, List.length_cons, List.length_nil, Nat.zero_add, Nat.reduceAdd, Nat.reduceSub, pads, List.cons_append, List.nil_append, run_seq, run_region, runOps_cons, oper_none, ex_box, AV.cells, opv, List.getD_cons_zero, List.all_cons, AV.isCell, List.all_nil, Bool.and_self, if_true, putK_to, List.set_cons_succ, List.set_cons_zero, opsK_some, ex_mov, runOps_nil, regK_some, seqK_normal, List.getD_cons_succ, ex_bin, bin_lss, hneg, decide_true, valK_some, run_cond, condK_bool, run_ret, run_skip, seqK_ret, bodyK_ret, results_1, res_tmp, retvK_some, pbodyK_some, frzN, frz_int, castLit]
  · by_cases hlt : i < p.length
    · have hi : indexM p.length (fullM q).length i = i := by unfold indexM; rw [if_pos hlt]; omega
      have hng : ¬ (0 ≤ i - (p.length : Int)) := by omega
      simp (maxSteps := 30000000) (disch := first | assumption | omega | (simp only [List.length_cons, List.length_nil, List.length_append, List.length_set, List.length_replicate, List.length_map, List.length_range, List.length_take, List.length_drop, List.all_cons, List.all_nil, AV.isCell, Bool.and_self, Bool.and_true, bs_length, is64_length] <;> omega) | rfl | decide) only [bodyA_eq, List.length_cons, List.length_nil, Nat.zero_add, Nat.reduceAdd, Nat.reduceSub, pads, List.cons_append, List.nil_append, run_seq, run_region, runOps_cons, oper_none, ex_box, AV.cells, opv, List.getD_cons_zero, List.all_cons, AV.isCell, List.all_nil, Bool.and_self, if_true, putK_to, List.set_cons_succ, List.set_cons_zero, opsK_some, ex_mov, runOps_nil, regK_some, seqK_normal, List.getD_cons_succ, ex_bin, bin_lss, hneg, decide_false, valK_some, run_cond, condK_bool, Bool.false_eq_true, run_ret, run_skip, if_false, ex_load, rd_ptr, List.getElem?_cons_zero, rdK_cells, List.drop_zero, List.take_succ_cons, List.take_nil, loadK_n, ex_call, List.map_cons, List.map_nil, pcallA_eq, frzN, List.mapM_cons, frz_agg, frz_sl, List.mapM_nil, Option.pure_def, Option.bind_eq_bind, Option.bind_some, Option.map_some, argK_some, hfull, retK_some, scal, scal1, Bool.and_true, fzIds, List.flatMap_cons, bor_agg, bor_sl, List.flatMap_nil, List.append_nil, List.foldl_nil, ite_self, ex_store, wr_ptr, wrK_cells, splice, List.take_zero, List.drop_succ_cons, List.drop_nil, storeK_some, putK_no, run_draw, runFree_cons, foper_none, fe_load, fstK_some, fputK_to, freeK_some, fe_mov, fe_call, frz_int, hidx, hi, bor_int, quietK_some, quietCall, List.isEmpty_nil, Bool.or_true, fe_faddr, ex_faddr, faddrA_ptr, Nat.add_zero, loadK_1, fe_len, ex_len, lenA_sl, runFree_nil, drawK_some, adopt, adoptVal, bin_sub, wr64, bin_geq, hng, ex_iaddr, iaddrA_sl, Nat.mul_one, rd_vptr, bs_drop, bs_take, bs_at0, drop_getD, bodyK_ret, results_1, res_tmp, retvK_some, pbodyK_some, hlt]
    · have hi : indexM p.length (fullM q).length i = p.length + (((i.toNat - p.length) % (fullM q).length : Nat) : Int) := by
        unfold indexM
        rw [if_neg hlt, show max (fullM q).length 1 = (fullM q).length by omega, show i - (p.length : Int) = ((i.toNat - p.length : Nat) : Int) by omega]
        simp
      have hkl : (i.toNat - p.length) % (fullM q).length < (fullM q).length := Nat.mod_lt _ hfp
      generalize hg : (i.toNat - p.length) % (fullM q).length = k at *
      have h0 : (0 : Int) ≤ (k : Nat) := by omega
      simp (maxSteps := 30000000) (disch := first | assumption | omega | (simp only [List.length_cons, List.length_nil, List.length_append, List.length_set, List.length_replicate, List.length_map, List.length_range, List.length_take, List.length_drop, List.all_cons, List.all_nil, AV.isCell, Bool.and_self, Bool.and_true, bs_length, is64_length] <;> omega) | rfl | decide) only [bodyA_eq, List.length_cons, List.length_nil, Nat.zero_add, Nat.reduceAdd, Nat.reduceSub, pads, List.cons_append, List.nil_append, run_seq, run_region, runOps_cons, oper_none, ex_box, AV.cells, opv, List.getD_cons_zero, List.all_cons, AV.isCell, List.all_nil, Bool.and_self, if_true, putK_to, List.set_cons_succ, List.set_cons_zero, opsK_some, ex_mov, runOps_nil, regK_some, seqK_normal, List.getD_cons_succ, ex_bin, bin_lss, hneg, decide_false, valK_some, run_cond, condK_bool, Bool.false_eq_true, run_ret, run_skip, if_false, ex_load, rd_ptr, List.getElem?_cons_zero, rdK_cells, List.drop_zero, List.take_succ_cons, List.take_nil, loadK_n, ex_call, List.map_cons, List.map_nil, pcallA_eq, frzN, List.mapM_cons, frz_agg, frz_sl, List.mapM_nil, Option.pure_def, Option.bind_eq_bind, Option.bind_some, Option.map_some, argK_some, hfull, retK_some, scal, scal1, Bool.and_true, fzIds, List.flatMap_cons, bor_agg, bor_sl, List.flatMap_nil, List.append_nil, List.foldl_nil, ite_self, ex_store, wr_ptr, wrK_cells, splice, List.take_zero, List.drop_succ_cons, List.drop_nil, storeK_some, putK_no, run_draw, runFree_cons, foper_none, fe_load, fstK_some, fputK_to, freeK_some, fe_mov, fe_call, frz_int, hidx, hi, cadd, bor_int, quietK_some, quietCall, List.isEmpty_nil, Bool.or_true, fe_faddr, ex_faddr, faddrA_ptr, Nat.add_zero, loadK_1, fe_len, ex_len, lenA_sl, runFree_nil, drawK_some, adopt, adoptVal, bin_sub, csub, Nat.add_sub_cancel_left, wr64, bin_geq, h0, decide_true, ex_iaddr, iaddrA_sl, Int.toNat_natCast, Nat.mul_one, rd_vptr, bs_drop, bs_take, bs_at0, drop_getD, seqK_ret, bodyK_ret, results_1, res_tmp, retvK_some, pbodyK_some, hlt]
end Go.Abs.Lasso
