/- Merge; the order of sequences. -/
import Derived.Test.YthbgkdjnakeagaaAW10
namespace Go.Abs.Lasso
set_option linter.unusedVariables false
set_option linter.unusedSimpArgs false
open Go Go.Abs
set_option linter.unusedSimpArgs false

theorem gcd_loop {s2 s3 s4 : AV} {H : Heap} : ∀ y x, x < 1099511627776 → y < 1099511627776 →
    L.loop a32l0s a32l0 ⟨a32l0F s2 s3 s4 (.int .i64 (x : Nat)) (.int .i64 (y : Nat)), H⟩ = some (.exit 0, ⟨a32l0F s2 s3 s4 (.int .i64 (Nat.gcd x y : Nat)) (.int .i64 0), H⟩) := by
  intro y
  induction y using Nat.strongRecOn with
  | _ y ih =>
    intro x hx hy
    by_cases h0 : y = 0
    · subst h0
      rw [a32l0n]
      simp (maxSteps := 30000000) (disch := first | assumption | omega | (simp only [List.length_cons, List.length_nil, List.length_append, List.length_set, List.length_replicate, List.length_map, List.length_range, List.length_take, List.length_drop, List.all_cons, List.all_nil, AV.isCell, Bool.and_self, Bool.and_true, bs_length, is64_length] <;> omega) | rfl | decide) only [run_seq, seqK_normal, seqK_exit, seqK_ret, seqK_none, seqK_ite, run_cond, condK_bool, run_block, blockK_exit, blockK_normal, blockK_ret, blockK_none, blockK_ite, loopK_normal, loopK_exit, loopK_ret, loopK_ite, regK_some, regK_none, regK_ite, run_region, run_skip, run_label, run_exit, run_ret, run_scope, run_stuck, runOps_nil, runOps_cons, opsK_some, opsK_none, opsK_ite, putK_to, putK_no, putK_none, putK_ite, oper_none, oper_guard, guardK_bool, guardK_tup, putA_to, putA_no, run_draw, drawK_some, drawK_none, drawK_ite, run_drawl, drawlK_some, drawlK_none, drawlK_ite, apartK_some, apartK_none, apartK_ite, apart, disj, runFree_nil, runFree_cons, freeK_some, freeK_none, freeK_ite, fputK_to, fputK_no, fputK_none, fputK_ite, foper_none, foper_guard, fguardK_bool, fguardK_tup, valK_some, valK_none, valK_ite, ex_mov, pickA_bool, ex_pick, ex_box, ex_build, newK_some, newA_own, slK_some, newA_data, ex_bslice, loadK_1, loadK_n, ex_load, rd_ptr, rdK_cells, rd_vptr, wr_ptr, wrK_cells, storeK_some, ex_store, nilA_ptr, nilA_vptr, nilA_func, nilA_yield, ex_nilchk, ex_bin, bin_add, bin_sub, bin_mul, bin_quo, bin_rem, bin_and, bin_or, bin_xor, bin_andNot, bin_shl, bin_shr, bin_eql, bin_neq, bin_lss, bin_leq, bin_gtr, bin_geq, beqA_f, beqA_t, ex_beq, isnilA_slf, isnilA_slt, isnilA_ownf, isnilA_ownt, ex_isnil, ex_un, un_not, un_neg, un_xor, convA_int, ex_conv, ex_mkfunc, mksK_int, ex_mkslice, ex_slice, sliceA_sl, sliceA_own, cutK_sl, cutK_own, bounds_nn, bounds_sn, bounds_ns, bounds_ss, faddrA_ptr, faddrA_vptr, ex_faddr, fieldA_agg, mkv_1, mkv_n, ex_field, iaddrA_sl, iaddrA_own, ex_iaddr, extA_tup, ex_ext, lenA_sl, lenA_own, ex_len, ex_cap, aeqA_agg, ex_aeq, ex_append, appK_nil, appK_own, appOK_cells, src_sl, src_own, srcK_cells, ex_appendz, appzK_int, maxA_int, minA_int, ex_maxi, ex_mini, retK_some, retK_none, retK_ite, argK_some, pcallA_eq, ex_call, ex_icall, fcallK_func, ex_fcall, quietK_some, quietK_none, quietK_ite, fe_call, fquietK_func, fe_fcall, fe_box, fstK_some, fstK_none, fstK_ite, fe_mov, fe_pick, fe_build, fe_bslice, fe_load, fe_nilchk, fe_bin, fe_beq, fe_isnil, fe_un, fe_conv, fe_mkfunc, fe_mkslice, fe_slice, fe_faddr, fe_field, fe_iaddr, fe_ext, fe_len, fe_cap, fe_aeq, fe_maxi, fe_mini, fappK_sl, fe_append, retvK_some, bodyK_normal, bodyK_ret, bodyK_none, bodyK_ite, bodyA_eq, pbodyK_some, pbodyK_none, pbodyK_ite, pbodyA_eq, cellK_some, res_tmp, res_cell, results_0, results_1, resK_some, resL_nil, resL_cons, results_2, run_range, rangeK_func, run_loop, roundAsg_normal, roundMid_some, roundBody_some, roundBody_ite, roundEnd_normal, roundEnd_exit, roundEnd_ret, rangeEnd_some, rangeOut_0, rangeOut_2, List.zip_cons_cons, List.zip_nil_right, List.zip_nil_left, opv, adopt, adoptVal, quietCall, scal, scal1, fzIds, fzBlk, List.foldl_nil, List.foldl_cons, List.map_nil, List.map_cons, ite_self, Bool.not_true, Bool.not_false, Bool.or_true, Bool.true_or, Bool.false_or, Bool.or_false, List.length_cons, List.length_nil, List.length_append, List.append_assoc, pads, List.cons_append, List.nil_append, List.getD_cons_succ, List.getD_cons_zero, List.set_cons_succ, List.set_cons_zero, AV.cells, List.all_cons, List.all_nil, AV.isCell, Bool.and_self, Bool.and_true, Bool.true_and, Bool.and_false, Bool.false_and, if_true, if_false, Bool.false_eq_true, Bool.true_eq_false, Option.map_some, Option.map_none, splice, fillA, List.getElem?_cons_zero, List.getElem?_cons_succ, List.drop_zero, List.drop_succ_cons, List.take_succ_cons, List.take_zero, List.drop_nil, List.take_nil, Nat.zero_add, Nat.reduceAdd, Nat.reduceSub, Nat.reduceLeDiff, Nat.reduceMul, frz_int, frz_bool, frz_str, frz_nilp, frz_nilf, frz_any, frz_func, frz_sl, frz_agg, frz_tup, frz_own, frzK_cells, decide_true, decide_false, decide_eq_true_eq, decide_eq_false_iff_not, Bool.not_eq_true', Bool.not_eq_eq_eq_not, ne_eq, not_false_eq_true, not_true_eq_false, and_self, and_true, true_and, List.mapM_cons, List.mapM_nil, Option.pure_def, Option.bind_eq_bind, Option.bind_some, frzN, Nat.le_refl, List.append_nil, List.flatMap_nil, List.flatMap_cons, bor_int, bor_bool, bor_str, bor_nilp, bor_nilf, bor_any, bor_func, bor_ptr, bor_sl, bor_agg, bor_tup, bor_own, borK_cells, bor_bs, bor_is64, List.isEmpty_nil, beq_self_eq_true, Nat.mul_one, Nat.add_zero, Nat.sub_zero, Int.toNat_natCast, Int.toNat_zero, Int.toNat_one, Int.reduceAdd, Int.reduceSub, Int.reduceMul, Int.reduceLT, Int.reduceLE, Int.reduceEq, Int.reduceToNat, Int.reduceNeg, Int.zero_add, Int.add_zero, Int.sub_zero, Int.natCast_zero, Int.natCast_one, Int.lt_irrefl, Int.zero_tmod, Nat.reduceEqDiff, Nat.reduceBEq, Nat.reduceLT, bs_length, bs_take, bs_drop, bs_app, bs_at0, drop_getD, bs_put1, frz_bs, is64_length, is64_take, is64_drop, is64_app, is64_at0, is64_put1, frz_is64, repz_is64, repz_bs, List.length_replicate, List.length_set, List.take_length, List.drop_length, take_rest, repz_0, repz_1, repz_2, repz_3, repz_4, repz_5, repz_6, repz_7, repz_8, repz_9, repz_10, repz_11, repz_12, hget, hget0, hset, hset0, hmod, hmod0, List.modify_cons, ltc0, castLit, cadd, cadd1, csub, csub1, ctmod, ctdiv, cmul, wr64, wrN8, a32l0b, a32l0c, Nat.gcd_zero_right]
    · have hp : (0 : Int) < (y : Nat) := by omega
      have hlt : x % y < y := Nat.mod_lt _ (by omega)
      have := ih (x % y) hlt y hy (by omega)
      rw [a32l0n]
      simp (maxSteps := 30000000) (disch := first | assumption | omega | (simp only [List.length_cons, List.length_nil, List.length_append, List.length_set, List.length_replicate, List.length_map, List.length_range, List.length_take, List.length_drop, List.all_cons, List.all_nil, AV.isCell, Bool.and_self, Bool.and_true, bs_length, is64_length] <;> omega) | rfl | decide) only [run_seq, seqK_normal, seqK_exit, seqK_ret, seqK_none, seqK_ite, run_cond, condK_bool, run_block, blockK_exit, blockK_normal, blockK_ret, blockK_none, blockK_ite, loopK_normal, loopK_exit, loopK_ret, loopK_ite, regK_some, regK_none, regK_ite, run_region, run_skip, run_label, run_exit, run_ret, run_scope, run_stuck, runOps_nil, runOps_cons, opsK_some, opsK_none, opsK_ite, putK_to, putK_no, putK_none, putK_ite, oper_none, oper_guard, guardK_bool, guardK_tup, putA_to, putA_no, run_draw, drawK_some, drawK_none, drawK_ite, run_drawl, drawlK_some, drawlK_none, drawlK_ite, apartK_some, apartK_none, apartK_ite, apart, disj, runFree_nil, runFree_cons, freeK_some, freeK_none, freeK_ite, fputK_to, fputK_no, fputK_none, fputK_ite, foper_none, foper_guard, fguardK_bool, fguardK_tup, valK_some, valK_none, valK_ite, ex_mov, pickA_bool, ex_pick, ex_box, ex_build, newK_some, newA_own, slK_some, newA_data, ex_bslice, loadK_1, loadK_n, ex_load, rd_ptr, rdK_cells, rd_vptr, wr_ptr, wrK_cells, storeK_some, ex_store, nilA_ptr, nilA_vptr, nilA_func, nilA_yield, ex_nilchk, ex_bin, bin_add, bin_sub, bin_mul, bin_quo, bin_rem, bin_and, bin_or, bin_xor, bin_andNot, bin_shl, bin_shr, bin_eql, bin_neq, bin_lss, bin_leq, bin_gtr, bin_geq, beqA_f, beqA_t, ex_beq, isnilA_slf, isnilA_slt, isnilA_ownf, isnilA_ownt, ex_isnil, ex_un, un_not, un_neg, un_xor, convA_int, ex_conv, ex_mkfunc, mksK_int, ex_mkslice, ex_slice, sliceA_sl, sliceA_own, cutK_sl, cutK_own, bounds_nn, bounds_sn, bounds_ns, bounds_ss, faddrA_ptr, faddrA_vptr, ex_faddr, fieldA_agg, mkv_1, mkv_n, ex_field, iaddrA_sl, iaddrA_own, ex_iaddr, extA_tup, ex_ext, lenA_sl, lenA_own, ex_len, ex_cap, aeqA_agg, ex_aeq, ex_append, appK_nil, appK_own, appOK_cells, src_sl, src_own, srcK_cells, ex_appendz, appzK_int, maxA_int, minA_int, ex_maxi, ex_mini, retK_some, retK_none, retK_ite, argK_some, pcallA_eq, ex_call, ex_icall, fcallK_func, ex_fcall, quietK_some, quietK_none, quietK_ite, fe_call, fquietK_func, fe_fcall, fe_box, fstK_some, fstK_none, fstK_ite, fe_mov, fe_pick, fe_build, fe_bslice, fe_load, fe_nilchk, fe_bin, fe_beq, fe_isnil, fe_un, fe_conv, fe_mkfunc, fe_mkslice, fe_slice, fe_faddr, fe_field, fe_iaddr, fe_ext, fe_len, fe_cap, fe_aeq, fe_maxi, fe_mini, fappK_sl, fe_append, retvK_some, bodyK_normal, bodyK_ret, bodyK_none, bodyK_ite, bodyA_eq, pbodyK_some, pbodyK_none, pbodyK_ite, pbodyA_eq, cellK_some, res_tmp, res_cell, results_0, results_1, resK_some, resL_nil, resL_cons, results_2, run_range, rangeK_func, run_loop, roundAsg_normal, roundMid_some, roundBody_some, roundBody_ite, roundEnd_normal, roundEnd_exit, roundEnd_ret, rangeEnd_some, rangeOut_0, rangeOut_2, List.zip_cons_cons, List.zip_nil_right, List.zip_nil_left, opv, adopt, adoptVal, quietCall, scal, scal1, fzIds, fzBlk, List.foldl_nil, List.foldl_cons, List.map_nil, List.map_cons, ite_self, Bool.not_true, Bool.not_false, Bool.or_true, Bool.true_or, Bool.false_or, Bool.or_false, List.length_cons, List.length_nil, List.length_append, List.append_assoc, pads, List.cons_append, List.nil_append, List.getD_cons_succ, List.getD_cons_zero, List.set_cons_succ, List.set_cons_zero, AV.cells, List.all_cons, List.all_nil, AV.isCell, Bool.and_self, Bool.and_true, Bool.true_and, Bool.and_false, Bool.false_and, if_true, if_false, Bool.false_eq_true, Bool.true_eq_false, Option.map_some, Option.map_none, splice, fillA, List.getElem?_cons_zero, List.getElem?_cons_succ, List.drop_zero, List.drop_succ_cons, List.take_succ_cons, List.take_zero, List.drop_nil, List.take_nil, Nat.zero_add, Nat.reduceAdd, Nat.reduceSub, Nat.reduceLeDiff, Nat.reduceMul, frz_int, frz_bool, frz_str, frz_nilp, frz_nilf, frz_any, frz_func, frz_sl, frz_agg, frz_tup, frz_own, frzK_cells, decide_true, decide_false, decide_eq_true_eq, decide_eq_false_iff_not, Bool.not_eq_true', Bool.not_eq_eq_eq_not, ne_eq, not_false_eq_true, not_true_eq_false, and_self, and_true, true_and, List.mapM_cons, List.mapM_nil, Option.pure_def, Option.bind_eq_bind, Option.bind_some, frzN, Nat.le_refl, List.append_nil, List.flatMap_nil, List.flatMap_cons, bor_int, bor_bool, bor_str, bor_nilp, bor_nilf, bor_any, bor_func, bor_ptr, bor_sl, bor_agg, bor_tup, bor_own, borK_cells, bor_bs, bor_is64, List.isEmpty_nil, beq_self_eq_true, Nat.mul_one, Nat.add_zero, Nat.sub_zero, Int.toNat_natCast, Int.toNat_zero, Int.toNat_one, Int.reduceAdd, Int.reduceSub, Int.reduceMul, Int.reduceLT, Int.reduceLE, Int.reduceEq, Int.reduceToNat, Int.reduceNeg, Int.zero_add, Int.add_zero, Int.sub_zero, Int.natCast_zero, Int.natCast_one, Int.lt_irrefl, Int.zero_tmod, Nat.reduceEqDiff, Nat.reduceBEq, Nat.reduceLT, bs_length, bs_take, bs_drop, bs_app, bs_at0, drop_getD, bs_put1, frz_bs, is64_length, is64_take, is64_drop, is64_app, is64_at0, is64_put1, frz_is64, repz_is64, repz_bs, List.length_replicate, List.length_set, List.take_length, List.drop_length, take_rest, repz_0, repz_1, repz_2, repz_3, repz_4, repz_5, repz_6, repz_7, repz_8, repz_9, repz_10, repz_11, repz_12, hget, hget0, hset, hset0, hmod, hmod0, List.modify_cons, ltc0, castLit, cadd, cadd1, csub, csub1, ctmod, ctdiv, cmul, wr64, wrN8, a32l0b, a32l0c, hp, this]
      rw [show Nat.gcd x y = Nat.gcd y (x % y) from by rw [Nat.gcd_comm, Nat.gcd_rec, Nat.gcd_comm]]

/-- the merged letters of n + p positions -/
def joinL (f g : Nat → Nat) (n p : Nat) : AV := las false false ((List.range n).map fun i => f i ||| g i) ((List.range p).map fun i => f (n + i) ||| g (n + i))

theorem merge_eq {z1 z2 z3 z4 y1 y2 y3 y4 : Bool} {pa qa pb qb pa' qa' pb' qb' : List Nat} {f g : Nat → Nat} {B : Nat} (hB : B < 67108864) (hf : ∀ i, f i < 256) (hg : ∀ i, g i < 256)
    (ha : L.pcall 12 [las z1 z2 pa qa] = some (las y1 y2 pa' qa')) (hb : L.pcall 12 [las z3 z4 pb qb] = some (las y3 y4 pb' qb')) (h1 : pa'.length ≤ B) (h2 : qa'.length ≤ B) (h3 : pb'.length ≤ B) (h4 : qb'.length ≤ B) (hqa : 0 < qa'.length) (hqb : 0 < qb'.length)
    (hfa : ∀ i, seqM pa' qa' i = f i) (hgb : ∀ i, seqM pb' qb' i = g i) :
    (qa'.length / Nat.gcd qa'.length qb'.length * qb'.length ≤ 4096 → ∀ z z' p q, L.pcall 12 [joinL f g (max pa'.length pb'.length) (qa'.length / Nat.gcd qa'.length qb'.length * qb'.length)] = some (las z z' p q) →
      L.pcall 32 [las z1 z2 pa qa, las z3 z4 pb qb] = some (.tup [las z z' p q, .int .i64 0])) ∧
    (4096 < qa'.length / Nat.gcd qa'.length qb'.length * qb'.length → L.pcall 32 [las z1 z2 pa qa, las z3 z4 pb qb] = some (.tup [las true true [] [], .int .i64 4])) := by
  have hgcd : 0 < Nat.gcd qa'.length qb'.length := Nat.gcd_pos_of_pos_left _ hqa
  have hl := gcd_loop (s2 := .ptr 0 0) (s3 := .ptr 1 0) (s4 := .ptr 2 0) (H := [.cells false false [word y1 pa', word y2 qa'], .cells false false [word y3 pb', word y4 qb'], .cells false false [.sl true 0 [], .sl true 0 []]]) qb'.length qa'.length (by omega) (by omega)
  generalize hgg : Nat.gcd qa'.length qb'.length = e at *
  have hd : qa'.length / e ≤ B := Nat.le_trans (Nat.div_le_self ..) h2
  have hm : qa'.length / e * qb'.length ≤ 67108864 * 67108864 := Nat.mul_le_mul (by omega) (by omega)
  generalize hdd : qa'.length / e = D at *
  generalize hpp : D * qb'.length = P at *
  refine ⟨fun hP z z' p q hv => ?_, fun hP => ?_⟩
  · have hH : ∀ (T : Heap) (i : Nat), i < max pa'.length pb'.length + P → L.icall (.func 47 [.ptr 0 0, .ptr 1 0]) [.int .i64 (i : Nat)] ([.cells false false [word y1 pa', word y2 qa'], .cells false false [word y3 pb', word y4 qb'], .cells false false [.sl true 0 [], .sl true 0 []]] ++ T) = some (.int .u8 ((f i ||| g i : Nat) : Int), [.cells false false [word y1 pa', word y2 qa'], .cells false false [word y3 pb', word y4 qb'], .cells false false [.sl true 0 [], .sl true 0 []]] ++ T) := by
      intro T i hi
      rw [let47 y1 y2 y3 y4 pa' qa' pb' qb' _ 0 1 i rfl rfl (by omega) (by omega) (by omega) (by omega) (by omega), hfa, hgb, or8 (hf i) (hg i)]
    obtain ⟨T, hb2⟩ := build_eq (n := max pa'.length pb'.length) (p := P) (by omega) (by omega) hH hv
    have hmx : max (pa'.length : Int) (pb'.length : Int) = ((max pa'.length pb'.length : Nat) : Int) := by omega
    have hng : ¬ ((4096 : Int) < (P : Nat)) := by omega
    rw [a32p, a32, pbodyA_eq]
    simp (maxSteps := 30000000) (disch := first | assumption | omega | (simp only [List.length_cons, List.length_nil, List.length_append, List.length_set, List.length_replicate, List.length_map, List.length_range, List.length_take, List.length_drop, List.all_cons, List.all_nil, AV.isCell, Bool.and_self, Bool.and_true, bs_length, is64_length] <;> omega) | rfl | decide) only [run_seq, seqK_normal, seqK_exit, seqK_ret, seqK_none, seqK_ite, run_cond, condK_bool, run_block, blockK_exit, blockK_normal, blockK_ret, blockK_none, blockK_ite, loopK_normal, loopK_exit, loopK_ret, loopK_ite, regK_some, regK_none, regK_ite, run_region, run_skip, run_label, run_exit, run_ret, run_scope, run_stuck, runOps_nil, runOps_cons, opsK_some, opsK_none, opsK_ite, putK_to, putK_no, putK_none, putK_ite, oper_none, oper_guard, guardK_bool, guardK_tup, putA_to, putA_no, run_draw, drawK_some, drawK_none, drawK_ite, run_drawl, drawlK_some, drawlK_none, drawlK_ite, apartK_some, apartK_none, apartK_ite, apart, disj, runFree_nil, runFree_cons, freeK_some, freeK_none, freeK_ite, fputK_to, fputK_no, fputK_none, fputK_ite, foper_none, foper_guard, fguardK_bool, fguardK_tup, valK_some, valK_none, valK_ite, ex_mov, pickA_bool, ex_pick, ex_box, ex_build, newK_some, newA_own, slK_some, newA_data, ex_bslice, loadK_1, loadK_n, ex_load, rd_ptr, rdK_cells, rd_vptr, wr_ptr, wrK_cells, storeK_some, ex_store, nilA_ptr, nilA_vptr, nilA_func, nilA_yield, ex_nilchk, ex_bin, bin_add, bin_sub, bin_mul, bin_quo, bin_rem, bin_and, bin_or, bin_xor, bin_andNot, bin_shl, bin_shr, bin_eql, bin_neq, bin_lss, bin_leq, bin_gtr, bin_geq, beqA_f, beqA_t, ex_beq, isnilA_slf, isnilA_slt, isnilA_ownf, isnilA_ownt, ex_isnil, ex_un, un_not, un_neg, un_xor, convA_int, ex_conv, ex_mkfunc, mksK_int, ex_mkslice, ex_slice, sliceA_sl, sliceA_own, cutK_sl, cutK_own, bounds_nn, bounds_sn, bounds_ns, bounds_ss, faddrA_ptr, faddrA_vptr, ex_faddr, fieldA_agg, mkv_1, mkv_n, ex_field, iaddrA_sl, iaddrA_own, ex_iaddr, extA_tup, ex_ext, lenA_sl, lenA_own, ex_len, ex_cap, aeqA_agg, ex_aeq, ex_append, appK_nil, appK_own, appOK_cells, src_sl, src_own, srcK_cells, ex_appendz, appzK_int, maxA_int, minA_int, ex_maxi, ex_mini, retK_some, retK_none, retK_ite, argK_some, pcallA_eq, ex_call, ex_icall, fcallK_func, ex_fcall, quietK_some, quietK_none, quietK_ite, fe_call, fquietK_func, fe_fcall, fe_box, fstK_some, fstK_none, fstK_ite, fe_mov, fe_pick, fe_build, fe_bslice, fe_load, fe_nilchk, fe_bin, fe_beq, fe_isnil, fe_un, fe_conv, fe_mkfunc, fe_mkslice, fe_slice, fe_faddr, fe_field, fe_iaddr, fe_ext, fe_len, fe_cap, fe_aeq, fe_maxi, fe_mini, fappK_sl, fe_append, retvK_some, bodyK_normal, bodyK_ret, bodyK_none, bodyK_ite, bodyA_eq, pbodyK_some, pbodyK_none, pbodyK_ite, pbodyA_eq, cellK_some, res_tmp, res_cell, results_0, results_1, resK_some, resL_nil, resL_cons, results_2, run_range, rangeK_func, run_loop, roundAsg_normal, roundMid_some, roundBody_some, roundBody_ite, roundEnd_normal, roundEnd_exit, roundEnd_ret, rangeEnd_some, rangeOut_0, rangeOut_2, List.zip_cons_cons, List.zip_nil_right, List.zip_nil_left, opv, adopt, adoptVal, quietCall, scal, scal1, fzIds, fzBlk, List.foldl_nil, List.foldl_cons, List.map_nil, List.map_cons, ite_self, Bool.not_true, Bool.not_false, Bool.or_true, Bool.true_or, Bool.false_or, Bool.or_false, List.length_cons, List.length_nil, List.length_append, List.append_assoc, pads, List.cons_append, List.nil_append, List.getD_cons_succ, List.getD_cons_zero, List.set_cons_succ, List.set_cons_zero, AV.cells, List.all_cons, List.all_nil, AV.isCell, Bool.and_self, Bool.and_true, Bool.true_and, Bool.and_false, Bool.false_and, if_true, if_false, Bool.false_eq_true, Bool.true_eq_false, Option.map_some, Option.map_none, splice, fillA, List.getElem?_cons_zero, List.getElem?_cons_succ, List.drop_zero, List.drop_succ_cons, List.take_succ_cons, List.take_zero, List.drop_nil, List.take_nil, Nat.zero_add, Nat.reduceAdd, Nat.reduceSub, Nat.reduceLeDiff, Nat.reduceMul, frz_int, frz_bool, frz_str, frz_nilp, frz_nilf, frz_any, frz_func, frz_sl, frz_agg, frz_tup, frz_own, frzK_cells, decide_true, decide_false, decide_eq_true_eq, decide_eq_false_iff_not, Bool.not_eq_true', Bool.not_eq_eq_eq_not, ne_eq, not_false_eq_true, not_true_eq_false, and_self, and_true, true_and, List.mapM_cons, List.mapM_nil, Option.pure_def, Option.bind_eq_bind, Option.bind_some, frzN, Nat.le_refl, List.append_nil, List.flatMap_nil, List.flatMap_cons, bor_int, bor_bool, bor_str, bor_nilp, bor_nilf, bor_any, bor_func, bor_ptr, bor_sl, bor_agg, bor_tup, bor_own, borK_cells, bor_bs, bor_is64, List.isEmpty_nil, beq_self_eq_true, Nat.mul_one, Nat.add_zero, Nat.sub_zero, Int.toNat_natCast, Int.toNat_zero, Int.toNat_one, Int.reduceAdd, Int.reduceSub, Int.reduceMul, Int.reduceLT, Int.reduceLE, Int.reduceEq, Int.reduceToNat, Int.reduceNeg, Int.zero_add, Int.add_zero, Int.sub_zero, Int.natCast_zero, Int.natCast_one, Int.lt_irrefl, Int.zero_tmod, Nat.reduceEqDiff, Nat.reduceBEq, Nat.reduceLT, bs_length, bs_take, bs_drop, bs_app, bs_at0, drop_getD, bs_put1, frz_bs, is64_length, is64_take, is64_drop, is64_app, is64_at0, is64_put1, frz_is64, repz_is64, repz_bs, List.length_replicate, List.length_set, List.take_length, List.drop_length, take_rest, repz_0, repz_1, repz_2, repz_3, repz_4, repz_5, repz_6, repz_7, repz_8, repz_9, repz_10, repz_11, repz_12, hget, hget0, hset, hset0, hmod, hmod0, List.modify_cons, ltc0, castLit, cadd, cadd1, csub, csub1, ctmod, ctdiv, cmul, wr64, wrN8, ha, hb, hl, a32l0c, hdd, hpp, hng, hmx, hb2]
  · have hgt : ((4096 : Int) < (P : Nat)) := by omega
    rw [a32p, a32, pbodyA_eq]
    simp (maxSteps := 30000000) (disch := first | assumption | omega | (simp only [List.length_cons, List.length_nil, List.length_append, List.length_set, List.length_replicate, List.length_map, List.length_range, List.length_take, List.length_drop, List.all_cons, List.all_nil, AV.isCell, Bool.and_self, Bool.and_true, bs_length, is64_length] <;> omega) | rfl | decide) only [run_seq, seqK_normal, seqK_exit, seqK_ret, seqK_none, seqK_ite, run_cond, condK_bool, run_block, blockK_exit, blockK_normal, blockK_ret, blockK_none, blockK_ite, loopK_normal, loopK_exit, loopK_ret, loopK_ite, regK_some, regK_none, regK_ite, run_region, run_skip, run_label, run_exit, run_ret, run_scope, run_stuck, runOps_nil, runOps_cons, opsK_some, opsK_none, opsK_ite, putK_to, putK_no, putK_none, putK_ite, oper_none, oper_guard, guardK_bool, guardK_tup, putA_to, putA_no, run_draw, drawK_some, drawK_none, drawK_ite, run_drawl, drawlK_some, drawlK_none, drawlK_ite, apartK_some, apartK_none, apartK_ite, apart, disj, runFree_nil, runFree_cons, freeK_some, freeK_none, freeK_ite, fputK_to, fputK_no, fputK_none, fputK_ite, foper_none, foper_guard, fguardK_bool, fguardK_tup, valK_some, valK_none, valK_ite, ex_mov, pickA_bool, ex_pick, ex_box, ex_build, newK_some, newA_own, slK_some, newA_data, ex_bslice, loadK_1, loadK_n, ex_load, rd_ptr, rdK_cells, rd_vptr, wr_ptr, wrK_cells, storeK_some, ex_store, nilA_ptr, nilA_vptr, nilA_func, nilA_yield, ex_nilchk, ex_bin, bin_add, bin_sub, bin_mul, bin_quo, bin_rem, bin_and, bin_or, bin_xor, bin_andNot, bin_shl, bin_shr, bin_eql, bin_neq, bin_lss, bin_leq, bin_gtr, bin_geq, beqA_f, beqA_t, ex_beq, isnilA_slf, isnilA_slt, isnilA_ownf, isnilA_ownt, ex_isnil, ex_un, un_not, un_neg, un_xor, convA_int, ex_conv, ex_mkfunc, mksK_int, ex_mkslice, ex_slice, sliceA_sl, sliceA_own, cutK_sl, cutK_own, bounds_nn, bounds_sn, bounds_ns, bounds_ss, faddrA_ptr, faddrA_vptr, ex_faddr, fieldA_agg, mkv_1, mkv_n, ex_field, iaddrA_sl, iaddrA_own, ex_iaddr, extA_tup, ex_ext, lenA_sl, lenA_own, ex_len, ex_cap, aeqA_agg, ex_aeq, ex_append, appK_nil, appK_own, appOK_cells, src_sl, src_own, srcK_cells, ex_appendz, appzK_int, maxA_int, minA_int, ex_maxi, ex_mini, retK_some, retK_none, retK_ite, argK_some, pcallA_eq, ex_call, ex_icall, fcallK_func, ex_fcall, quietK_some, quietK_none, quietK_ite, fe_call, fquietK_func, fe_fcall, fe_box, fstK_some, fstK_none, fstK_ite, fe_mov, fe_pick, fe_build, fe_bslice, fe_load, fe_nilchk, fe_bin, fe_beq, fe_isnil, fe_un, fe_conv, fe_mkfunc, fe_mkslice, fe_slice, fe_faddr, fe_field, fe_iaddr, fe_ext, fe_len, fe_cap, fe_aeq, fe_maxi, fe_mini, fappK_sl, fe_append, retvK_some, bodyK_normal, bodyK_ret, bodyK_none, bodyK_ite, bodyA_eq, pbodyK_some, pbodyK_none, pbodyK_ite, pbodyA_eq, cellK_some, res_tmp, res_cell, results_0, results_1, resK_some, resL_nil, resL_cons, results_2, run_range, rangeK_func, run_loop, roundAsg_normal, roundMid_some, roundBody_some, roundBody_ite, roundEnd_normal, roundEnd_exit, roundEnd_ret, rangeEnd_some, rangeOut_0, rangeOut_2, List.zip_cons_cons, List.zip_nil_right, List.zip_nil_left, opv, adopt, adoptVal, quietCall, scal, scal1, fzIds, fzBlk, List.foldl_nil, List.foldl_cons, List.map_nil, List.map_cons, ite_self, Bool.not_true, Bool.not_false, Bool.or_true, Bool.true_or, Bool.false_or, Bool.or_false, List.length_cons, List.length_nil, List.length_append, List.append_assoc, pads, List.cons_append, List.nil_append, List.getD_cons_succ, List.getD_cons_zero, List.set_cons_succ, List.set_cons_zero, AV.cells, List.all_cons, List.all_nil, AV.isCell, Bool.and_self, Bool.and_true, Bool.true_and, Bool.and_false, Bool.false_and, if_true, if_false, Bool.false_eq_true, Bool.true_eq_false, Option.map_some, Option.map_none, splice, fillA, List.getElem?_cons_zero, List.getElem?_cons_succ, List.drop_zero, List.drop_succ_cons, List.take_succ_cons, List.take_zero, List.drop_nil, List.take_nil, Nat.zero_add, Nat.reduceAdd, Nat.reduceSub, Nat.reduceLeDiff, Nat.reduceMul, frz_int, frz_bool, frz_str, frz_nilp, frz_nilf, frz_any, frz_func, frz_sl, frz_agg, frz_tup, frz_own, frzK_cells, decide_true, decide_false, decide_eq_true_eq, decide_eq_false_iff_not, Bool.not_eq_true', Bool.not_eq_eq_eq_not, ne_eq, not_false_eq_true, not_true_eq_false, and_self, and_true, true_and, List.mapM_cons, List.mapM_nil, Option.pure_def, Option.bind_eq_bind, Option.bind_some, frzN, Nat.le_refl, List.append_nil, List.flatMap_nil, List.flatMap_cons, bor_int, bor_bool, bor_str, bor_nilp, bor_nilf, bor_any, bor_func, bor_ptr, bor_sl, bor_agg, bor_tup, bor_own, borK_cells, bor_bs, bor_is64, List.isEmpty_nil, beq_self_eq_true, Nat.mul_one, Nat.add_zero, Nat.sub_zero, Int.toNat_natCast, Int.toNat_zero, Int.toNat_one, Int.reduceAdd, Int.reduceSub, Int.reduceMul, Int.reduceLT, Int.reduceLE, Int.reduceEq, Int.reduceToNat, Int.reduceNeg, Int.zero_add, Int.add_zero, Int.sub_zero, Int.natCast_zero, Int.natCast_one, Int.lt_irrefl, Int.zero_tmod, Nat.reduceEqDiff, Nat.reduceBEq, Nat.reduceLT, bs_length, bs_take, bs_drop, bs_app, bs_at0, drop_getD, bs_put1, frz_bs, is64_length, is64_take, is64_drop, is64_app, is64_at0, is64_put1, frz_is64, repz_is64, repz_bs, List.length_replicate, List.length_set, List.take_length, List.drop_length, take_rest, repz_0, repz_1, repz_2, repz_3, repz_4, repz_5, repz_6, repz_7, repz_8, repz_9, repz_10, repz_11, repz_12, hget, hget0, hset, hset0, hmod, hmod0, List.modify_cons, ltc0, castLit, cadd, cadd1, csub, csub1, ctmod, ctdiv, cmul, wr64, wrN8, ha, hb, hl, a32l0c, hdd, hpp, hgt]
    rfl

/-! the order of sequences -/
/-- c compares f with g -/
def CmpIs (f g : Nat → Nat) (c : Int) : Prop := (c = 0 ∧ ∀ i, f i = g i) ∨ (c = -1 ∧ ∃ i, (∀ j, j < i → f j = g j) ∧ f i < g i) ∨ (c = 1 ∧ ∃ i, (∀ j, j < i → f j = g j) ∧ g i < f i)

theorem CmpIs.uniq {f g : Nat → Nat} {c d : Int} (h : CmpIs f g c) (k : CmpIs f g d) : c = d := by
  rcases h with ⟨rfl, h⟩ | ⟨rfl, i, h1, h2⟩ | ⟨rfl, i, h1, h2⟩ <;> rcases k with ⟨rfl, k⟩ | ⟨rfl, j, k1, k2⟩ | ⟨rfl, j, k1, k2⟩
  · rfl
  · have := h j; omega
  · have := h j; omega
  · have := k i; omega
  · rfl
  · exfalso
    rcases Nat.lt_trichotomy i j with e | e | e
    · have := k1 i e; omega
    · subst e; omega
    · have := h1 j e; omega
  · have := k i; omega
  · exfalso
    rcases Nat.lt_trichotomy i j with e | e | e
    · have := k1 i e; omega
    · subst e; omega
    · have := h1 j e; omega
  · rfl

theorem CmpIs.symm {f g : Nat → Nat} {c : Int} (h : CmpIs f g c) : CmpIs g f (-c) := by
  rcases h with ⟨rfl, h⟩ | ⟨rfl, i, h1, h2⟩ | ⟨rfl, i, h1, h2⟩
  · exact .inl ⟨rfl, fun i => (h i).symm⟩
  · exact .inr (.inr ⟨rfl, i, fun j hj => (h1 j hj).symm, h2⟩)
  · exact .inr (.inl ⟨rfl, i, fun j hj => (h1 j hj).symm, h2⟩)

theorem CmpIs.range {f g : Nat → Nat} {c : Int} (h : CmpIs f g c) : -1 ≤ c ∧ c ≤ 1 := by
  rcases h with ⟨rfl, h⟩ | ⟨rfl, i, h1, h2⟩ | ⟨rfl, i, h1, h2⟩ <;> omega

theorem CmpIs.eq {f g h : Nat → Nat} {c d : Int} (k : CmpIs f g 0) (k1 : CmpIs f h c) (k2 : CmpIs g h d) : c = d := by
  rcases k with ⟨_, k⟩ | ⟨e, _⟩ | ⟨e, _⟩
  · have : f = g := funext k
    subst this
    exact k1.uniq k2
  · omega
  · omega

theorem CmpIs.trans {f g h : Nat → Nat} {c d : Int} (k1 : CmpIs f g c) (k2 : CmpIs g h c) (k : CmpIs f h d) : d = c := by
  refine k.uniq ?_
  rcases k1 with ⟨rfl, a⟩ | ⟨rfl, i, a1, a2⟩ | ⟨rfl, i, a1, a2⟩ <;> rcases k2 with ⟨e, b⟩ | ⟨e, j, b1, b2⟩ | ⟨e, j, b1, b2⟩ <;> try omega
  · exact .inl ⟨rfl, fun i => (a i).trans (b i)⟩
  · refine .inr (.inl ⟨rfl, min i j, fun t ht => (a1 t (by omega)).trans (b1 t (by omega)), ?_⟩)
    rcases Nat.lt_trichotomy i j with e | e | e
    · rw [Nat.min_eq_left (by omega), ← b1 i e]; exact a2
    · subst e; rw [Nat.min_self]; omega
    · rw [Nat.min_eq_right (by omega), a1 j e]; exact b2
  · refine .inr (.inr ⟨rfl, min i j, fun t ht => (a1 t (by omega)).trans (b1 t (by omega)), ?_⟩)
    rcases Nat.lt_trichotomy i j with e | e | e
    · rw [Nat.min_eq_left (by omega), ← b1 i e]; exact a2
    · subst e; rw [Nat.min_self]; omega
    · rw [Nat.min_eq_right (by omega), a1 j e]; exact b2

/-- a word before a sequence -/
def prep (w : List Nat) (f : Nat → Nat) (i : Nat) : Nat := if i < w.length then w.getD i 0 else f (i - w.length)

theorem CmpIs.prep {f g : Nat → Nat} {c : Int} (w : List Nat) (h : CmpIs f g c) : CmpIs (prep w f) (prep w g) c := by
  have hin : ∀ j, j < w.length → Lasso.prep w f j = Lasso.prep w g j := fun j hj => by simp [Lasso.prep, hj]
  have hout : ∀ f : Nat → Nat, ∀ i, Lasso.prep w f (w.length + i) = f i := fun f i => by
    unfold Lasso.prep
    rw [if_neg (by omega), Nat.add_sub_cancel_left]
  have hall : ∀ i, (∀ j, j < i → f j = g j) → ∀ j, j < w.length + i → Lasso.prep w f j = Lasso.prep w g j := fun i h j hj => by
    by_cases hw : j < w.length
    · exact hin j hw
    · obtain ⟨t, rfl⟩ : ∃ t, j = w.length + t := ⟨j - w.length, by omega⟩
      rw [hout, hout]
      exact h t (by omega)
  rcases h with ⟨rfl, h⟩ | ⟨rfl, i, h1, h2⟩ | ⟨rfl, i, h1, h2⟩
  · exact .inl ⟨rfl, fun i => hall (i + 1) (fun j _ => h j) i (by omega)⟩
  · exact .inr (.inl ⟨rfl, w.length + i, hall i h1, by rw [hout, hout]; exact h2⟩)
  · exact .inr (.inr ⟨rfl, w.length + i, hall i h1, by rw [hout, hout]; exact h2⟩)

theorem cmpM_spec (f g : Nat → Nat) : ∀ d i, (∀ j, j < i → f j = g j) →
    (cmpM f g i d = 0 ∧ ∀ j, j < i + d → f j = g j) ∨ (cmpM f g i d = -1 ∧ ∃ i, (∀ j, j < i → f j = g j) ∧ f i < g i) ∨ (cmpM f g i d = 1 ∧ ∃ i, (∀ j, j < i → f j = g j) ∧ g i < f i)
  | 0, i, h => .inl ⟨rfl, h⟩
  | d + 1, i, h => by
    unfold cmpM
    by_cases h1 : f i < g i
    · rw [if_pos h1]; exact .inr (.inl ⟨rfl, i, h, h1⟩)
    · by_cases h2 : g i < f i
      · rw [if_neg h1, if_pos h2]; exact .inr (.inr ⟨rfl, i, h, h2⟩)
      · rw [if_neg h1, if_neg h2]
        have := cmpM_spec f g d (i + 1) (fun j hj => by
          by_cases e : j = i
          · subst e; omega
          · exact h j (by omega))
        rw [show i + (d + 1) = i + 1 + d by omega]
        exact this

theorem per_mod {h : Nat → Nat} {x : Nat} (hp : ∀ t, h (t + x) = h t) (hx : 0 < x) (t : Nat) : h t = h (t % x) := by
  induction t using Nat.strongRecOn with
  | _ t ih =>
    by_cases hlt : t < x
    · rw [Nat.mod_eq_of_lt hlt]
    · have := hp (t - x)
      rw [show t - x + x = t by omega] at this
      rw [this, ih (t - x) (by omega)]
      exact congrArg h (Nat.mod_eq_sub_mod (by omega)).symm

/-- two periodic sequences that agree for the sum of their periods agree -/
theorem per_agree {h k : Nat → Nat} {x y : Nat} (hh : ∀ t, h (t + x) = h t) (hk : ∀ t, k (t + y) = k t) (hx : 0 < x) (hy : 0 < y) (he : ∀ t, t < x + y → h t = k t) (t : Nat) : h t = k t := by
  have hhy : ∀ t, h (t + y) = h t := by
    intro t
    have hm := Nat.mod_lt t hx
    have h1 : h (t % x + y) = h (t % x) := by rw [he _ (by omega), hk, he _ (by omega)]
    calc h (t + y) = h ((t + y) % x) := per_mod hh hx _
      _ = h ((t % x + y) % x) := by rw [Nat.mod_add_mod]
      _ = h (t % x + y) := (per_mod hh hx _).symm
      _ = h (t % x) := h1
      _ = h t := (per_mod hh hx t).symm
  rw [per_mod hhy hy t, per_mod hk hy t]
  exact he _ (by have := Nat.mod_lt t hy; omega)

theorem seq_period (p q : List Nat) (n : Nat) (hn : p.length ≤ n) (t : Nat) : seqM p q (n + (t + (fullM q).length)) = seqM p q (n + t) := by
  rw [seqM_loop (by omega), seqM_loop (by omega), show n + (t + (fullM q).length) - p.length = n + t - p.length + (fullM q).length by omega, Nat.add_mod_right]

theorem far_agree (p q p' q' : List Nat) (h : ∀ j, j < farM p q p' q' → seqM p q j = seqM p' q' j) (i : Nat) : seqM p q i = seqM p' q' i := by
  have h1 := fullM_len q
  have h2 := fullM_len q'
  unfold farM at h
  by_cases hi : i < max p.length p'.length
  · exact h i (by omega)
  · obtain ⟨t, rfl⟩ : ∃ t, i = max p.length p'.length + t := ⟨i - max p.length p'.length, by omega⟩
    exact per_agree (h := fun t => seqM p q (max p.length p'.length + t)) (k := fun t => seqM p' q' (max p.length p'.length + t)) (seq_period p q _ (by omega)) (seq_period p' q' _ (by omega)) (fullM_pos q) (fullM_pos q') (fun t ht => h _ (by omega)) t

theorem compare_has {v u : AV} {f g : Nat → Nat} {B B' : Nat} (h : HasLas v f B) (k : HasLas u g B') (hB : B < 134217728) (hB' : B' < 134217728) :
    ∃ c, L.pcall 33 [v, u] = some (.int .i64 c) ∧ L.pcall 34 [v, u] = some (.bool (decide (c = 0))) ∧ CmpIs f g c := by
  obtain ⟨z1, z2, p, q, rfl, hz, hp, hq, hs⟩ := h
  obtain ⟨z3, z4, p', q', rfl, hz', hp', hq', hs'⟩ := k
  refine ⟨_, compare_eq z1 z2 z3 z4 p q p' q' (by omega) (by omega) (by omega) (by omega), equal_eq z1 z2 z3 z4 p q p' q' (by omega) (by omega) (by omega) (by omega), ?_⟩
  obtain rfl : seqM p q = f := funext hs
  obtain rfl : seqM p' q' = g := funext hs'
  rcases cmpM_spec (seqM p q) (seqM p' q') (farM p q p' q') 0 (fun j hj => by omega) with ⟨e, h⟩ | h | h
  · exact .inl ⟨e, far_agree p q p' q' (fun j hj => h j (by omega))⟩
  · exact .inr (.inl h)
  · exact .inr (.inr h)

theorem at_has {v : AV} {f : Nat → Nat} {B i : Nat} (h : HasLas v f B) (hB : B < 134217728) (hi : i < 1099511627776) : L.pcall 25 [v, .int .i64 (i : Nat)] = some (.int .u8 (f i : Nat)) := by
  obtain ⟨z1, z2, p, q, rfl, hz, hp, hq, hs⟩ := h
  rw [atn_eq z1 z2 p q i (by omega) (by omega) (by omega), hs]
end Go.Abs.Lasso
