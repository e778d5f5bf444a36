/- TreedetPreserves on the interpreter's values. -/
import Derived.Test.YtdkbhidfiplncaaAMS
import Derived.Test.YtdkbhidfiplncaaAK1
import Derived.Test.YtdkbhidfiplncaaAMD
namespace Go.Abs.Det
open Go Go.Abs
set_option linter.unusedSimpArgs false
set_option linter.unusedVariables false

set_option maxRecDepth 20000 in
set_option maxHeartbeats 4000000 in
theorem law6 (d : Dfa) (z : Bool) (t : List Lf) (hx : ∀ e ∈ t, e.x < 256) : L.pcall 6 [d.av, tw z t] = some (.bool true) := by
  have hsub := sub42 d
  have hkk := k15
  have e1 : min ((t.length : Nat) : Int) 15 = ((t.take 15).length : Nat) := by rw [List.length_take]; omega
  have l1 : (t.take 15).length ≤ t.length := by rw [List.length_take]; omega
  have k1 : List.take ((t.take 15).length * 3) (lfs t) = lfs (t.take 15) := by
    unfold lfs
    rw [rows_take (enc := encF) (k := 3) (fun _ => rfl), take_len]
  have c1 := copy13 z (t.take 15) (by rw [List.length_take]; omega)
  have hx1 : ∀ e ∈ t.take 15, e.x < 256 := fun e he => hx e (List.mem_of_mem_take he)
  have m1 : (t.take 15).length ≤ 15 := by rw [List.length_take]; omega
  generalize t.take 15 = a at *
  generalize (a.length == 0) = y1 at *
  by_cases h0 : d.next.length = 0
  · have hb := nrm_bd d.vars (n := 3) (by omega)
    have hs2 : subT d = .agg [.int .i64 (nrm d.vars 3), .int .i64 0, .sl true 0 [], .sl true 0 []] := if_pos h0
    rw [hs2] at hsub
    have hr1 := renumber21_none (nrm d.vars 3) 0 true true hb.1 (by omega)
    have hr2 := minimize23_none (nrm d.vars 3) 0 true true hb.1 (by omega)
    unfold Dfa.av at hsub ⊢
    unfold Dfa.cells at hsub ⊢
    unfold tw at c1 ⊢
    rw [a6p, a6, pbodyA_eq]
    simp (maxSteps := 30000000) (disch := first | assumption | omega | (simp only [List.length_cons, List.length_nil, List.length_append, List.length_set, List.length_replicate, List.length_map, List.length_range, List.length_take, List.length_drop, List.all_cons, List.all_nil, AV.isCell, Bool.and_self, Bool.and_true, bs_length, is64_length, w64_length, ints_length, ints_length, bools_len, List.length_map, lfs_length] <;> omega) | rfl | decide) only [bodyA_eq, List.length_cons, List.length_nil, Nat.zero_add, Nat.reduceAdd, Nat.reduceSub, pads, List.cons_append, List.nil_append, run_seq, run_region, runOps_cons, oper_none, ex_box, AV.cells, opv, List.getD_cons_zero, List.all_cons, AV.isCell, List.all_nil, Bool.and_self, ↓reduceIte, putK_to, List.set_cons_succ, List.set_cons_zero, opsK_some, ex_mov, runOps_nil, regK_some, seqK_normal, run_draw, List.take_succ_cons, List.take_zero, runFree_cons, foper_none, fe_load, ex_load, List.getD_cons_succ, rd_ptr, List.getElem?_cons_zero, rdK_cells, List.drop_zero, List.take_nil, loadK_n, valK_some, fstK_some, fputK_to, freeK_some, fe_call, List.map_cons, List.map_nil, pcallA_eq, frzN, List.mapM_cons, frz_agg, frz_int, frz_sl, List.mapM_nil, Option.pure_def, Option.bind_eq_bind, Option.bind_some, Option.map_some, argK_some, hsub, retK_some, scal, scal1, Bool.and_true, Bool.and_false, Bool.false_eq_true, fzIds, List.flatMap_cons, bor_agg, bor_int, bor_sl, List.flatMap_nil, List.append_nil, List.foldl_nil, quietK_some, quietCall, Bool.or_true, fe_mov, fe_len, ex_len, lenA_sl, fe_mini, ex_mini, minA_int, e1, fe_slice, ex_slice, Option.map_none, sliceA_sl, bounds_ns, Int.toNat_natCast, cutK_sl, Nat.sub_zero, Nat.reduceMul, k1, c1, fe_box, runFree_nil, drawK_some, List.drop_succ_cons, adopt, adoptVal, putA_to, ex_store, wr_ptr, List.getElem?_cons_succ, wrK_cells, splice, List.drop_nil, storeK_some, putK_no, ex_call, hr1, ex_ext, extA_tup, hr2, ex_bin, bin_neq, Int.reduceEq, decide_false, Bool.not_false, oper_guard, guardK_bool, Bool.true_eq_false, ex_pick, pickA_bool, run_cond, condK_bool, bin_eql, decide_true, ex_faddr, faddrA_ptr, loadK_1, castLit, hkk, run_ret, seqK_ret, bodyK_ret, results_1, res_tmp, retvK_some, pbodyK_some, frz_bool]
  · rw [subT_some h0] at hsub
    have hV := subD_valid h0
    generalize subD d = D at *
    obtain ⟨M, hM, q1⟩ := minimize_is hV
    have hVA := renD_valid hV
    have hVM := hM.valid hV
    obtain ⟨M2, hM2, q2⟩ := minimize_is hVM
    obtain ⟨M3, hM3, q3⟩ := minimize_is hVA
    have eM : M.vars = D.vars := hM.vars
    obtain rfl : M = M2 := hM.uniq hV hVM eM.symm (fun T h => (hM.acc hV h).symm) hM2
    obtain rfl : M = M3 := hM.uniq hV hVA rfl (fun T h => (renD_acc hV h).symm) hM3
    have q4 := renumber21 hV
    have q5 := renumber21 hVA
    rw [ren_idem hV] at q5
    obtain ⟨ab, ae, hacc⟩ := acc_answer hV y1 a (by omega) hx1
    have q6 := hacc D hV rfl (fun T h => rfl)
    have q7 := hacc (renD D) hVA rfl (fun T h => renD_acc hV h)
    have q8 := hacc M hVM eM (fun T h => hM.acc hV h)
    have s1 := dfa_same hVA
    have s2 := dfa_same hVM
    have g1 := hM.le hV
    have g2 := renD_le hV
    have n64 := hV.n64
    clear hM hM2 hM3 hacc
    generalize renD D = A at *
    have i1 : (((A.next.length : Nat) : Int) < (M.next.length : Nat)) = False := eq_false (by omega)
    have i2 : (((D.next.length : Nat) : Int) < (A.next.length : Nat)) = False := eq_false (by omega)
    unfold Da.av at hsub q1 q2 q3 q4 q5 q6 q7 q8 s1 s2
    unfold Da.cells at hsub q1 q2 q3 q4 q5 q6 q7 q8 s1 s2
    unfold Dfa.av at hsub ⊢
    unfold Dfa.cells at hsub ⊢
    unfold tw at c1 q6 q7 q8 ⊢
    clear hV hVA hVM
    rw [a6p, a6, pbodyA_eq]
    simp (maxSteps := 30000000) (disch := first | assumption | omega | (simp only [List.length_cons, List.length_nil, List.length_append, List.length_set, List.length_replicate, List.length_map, List.length_range, List.length_take, List.length_drop, List.all_cons, List.all_nil, AV.isCell, Bool.and_self, Bool.and_true, bs_length, is64_length, w64_length, ints_length, ints_length, bools_len, List.length_map, lfs_length] <;> omega) | rfl | decide) only [bodyA_eq, List.length_cons, List.length_nil, Nat.zero_add, Nat.reduceAdd, Nat.reduceSub, pads, List.cons_append, List.nil_append, run_seq, run_region, runOps_cons, oper_none, ex_box, AV.cells, opv, List.getD_cons_zero, List.all_cons, AV.isCell, List.all_nil, Bool.and_self, ↓reduceIte, putK_to, List.set_cons_succ, List.set_cons_zero, opsK_some, ex_mov, runOps_nil, regK_some, seqK_normal, run_draw, List.take_succ_cons, List.take_zero, runFree_cons, foper_none, fe_load, ex_load, List.getD_cons_succ, rd_ptr, List.getElem?_cons_zero, rdK_cells, List.drop_zero, List.take_nil, loadK_n, valK_some, fstK_some, fputK_to, freeK_some, fe_call, List.map_cons, List.map_nil, pcallA_eq, frzN, List.mapM_cons, frz_agg, frz_int, frz_sl, List.mapM_nil, Option.pure_def, Option.bind_eq_bind, Option.bind_some, Option.map_some, argK_some, hsub, retK_some, scal, scal1, Bool.and_true, Bool.and_false, Bool.false_eq_true, fzIds, List.flatMap_cons, bor_agg, bor_int, bor_sl, List.flatMap_nil, List.append_nil, List.foldl_nil, quietK_some, quietCall, Bool.or_true, fe_mov, fe_len, ex_len, lenA_sl, fe_mini, ex_mini, minA_int, e1, fe_slice, ex_slice, Option.map_none, sliceA_sl, bounds_ns, Int.toNat_natCast, cutK_sl, Nat.sub_zero, Nat.reduceMul, k1, c1, fe_box, runFree_nil, drawK_some, List.drop_succ_cons, adopt, adoptVal, putA_to, ex_store, wr_ptr, List.getElem?_cons_succ, wrK_cells, splice, List.drop_nil, storeK_some, putK_no, ex_call, q4, ex_ext, extA_tup, q1, ex_bin, bin_neq, decide_true, Bool.not_true, oper_guard, guardK_bool, ex_pick, pickA_bool, run_cond, condK_bool, run_skip, q5, q2, q3, q6, q7, q8, s1, ex_un, un_not, s2, ex_faddr, faddrA_ptr, loadK_1, bin_gtr, i1, decide_false, i2, ex_beq, beqA_f, bin_eql, hkk, run_ret, bodyK_ret, results_1, res_tmp, retvK_some, pbodyK_some, frz_bool]
end Go.Abs.Det
