/- Suffix and Prepend, of the program (their results the caller's own) and of the reference. -/
import Derived.Test.YthbgkdjnakeagaaAF10
namespace Go.Abs.Lasso
set_option linter.unusedVariables false
set_option linter.unusedSimpArgs false
open Go Go.Abs

/-- the results of a call that are the caller's own, or of which the prefix is nil -/
def OwnRes (f : Nat) (args : List AV) (S : Nat → Nat) (z : Bool) : Prop := ∃ p' q', Canon S p' q' ∧ p'.length < 1099511627776 ∧ q'.length < 1099511627776 ∧
  ((z = true ∧ p' = [] ∧ ocallA L f args = some (.agg [.sl true 0 [], .own false 0 0 q'.length 1], [.cells false false (bs q')])) ∨
   (z = false ∧ ocallA L f args = some (.agg [.own false 0 0 p'.length 1, .own false 1 0 q'.length 1], [.cells false false (bs p'), .cells false false (bs q')])))

theorem own12 {z1 z2 : Bool} {p q : List Nat} (hz : z1 = true → p = []) (hp : p.length < 1099511627776) (hq : q.length < 1000000000000) : OwnRes 12 [las z1 z2 p q] (seqM p q) z1 := by
  have hfl := fullM_len q
  cases z1 with
  | true =>
    obtain rfl := hz rfl
    obtain ⟨q', h1, h2, -, h4⟩ := canon_own0 z2 q (by omega)
    exact ⟨[], q', h1, by simp, by omega, .inl ⟨rfl, rfl, h4⟩⟩
  | false =>
    obtain ⟨p', q', h1, h2, h3, -, h4⟩ := canon_own z2 p q hp (by omega)
    exact ⟨p', q', h1, by omega, by omega, .inr ⟨rfl, h4⟩⟩

theorem idx_nat (p n : Nat) (hn : 0 < n) (k : Int) : ∃ m : Nat, indexM p n k = (m : Int) ∧ m < p + n := by
  unfold indexM
  by_cases h : k < p
  · rw [if_pos h]
    exact ⟨k.toNat, by omega, by omega⟩
  · rw [if_neg h]
    have e1 := Int.emod_nonneg (k - p) (b := ((max n 1 : Nat) : Int)) (by omega)
    have e2 := Int.emod_lt_of_pos (k - p) (b := ((max n 1 : Nat) : Int)) (by omega)
    exact ⟨(p + (k - p) % ((max n 1 : Nat) : Int)).toNat, by omega, by omega⟩

/-- what a suffix from position m on denotes, as its canonical form is sought -/
def sufS (p q : List Nat) (m : Nat) : Nat → Nat := if m < p.length then seqM (p.drop m) (fullM q) else seqM [] ((fullM q).drop (m - p.length) ++ (fullM q).take (m - p.length))

set_option maxHeartbeats 4000000 in
theorem suffix_own {z1 z2 : Bool} {p q : List Nat} {k : Int} {m : Nat} (hz : z1 = true → p = []) (hm : indexM p.length (fullM q).length k = (m : Int)) (hm2 : m < p.length + (fullM q).length) (hp : p.length < 134217728) (hq : q.length < 134217728) (hk1 : -9223372036854775808 ≤ k) (hk2 : k < 9223372036854775808) :
    OwnRes 13 [las z1 z2 p q, .int .i64 k] (sufS p q m) (decide (p.length ≤ m)) := by
  obtain ⟨z, hfull⟩ := full_eq z1 z2 p q
  have hfl := fullM_len q
  have hfp := fullM_pos q
  have hidx := index_eq z1 z p (fullM q) k (by omega) (by omega) hk1 hk2
  rw [hm] at hidx
  by_cases hlt : m < p.length
  · have hz1 : z1 = false := by
      cases z1 with
      | true => rw [hz rfl] at hlt; simp at hlt
      | false => rfl
    subst hz1
    obtain ⟨p', q', h1, h2, h3, h4⟩ := own12 (z1 := false) (z2 := z) (p := p.drop m) (q := fullM q) (fun e => by cases e) (by rw [List.length_drop]; omega) (by omega)
    rcases h4 with ⟨h, -⟩ | ⟨-, h4⟩
    · cases h
    have c1 : ocallA L 12 [.agg [.sl false (p.length - m) (bs (p.drop m)), word z (fullM q)]] = some (.agg [.own false 0 0 p'.length 1, .own false 1 0 q'.length 1], [.cells false false (bs p'), .cells false false (bs q')]) := by
      rw [← List.length_drop]; exact h4
    have hng : ¬ ((p.length : Int) ≤ (m : Nat)) := by omega
    refine ⟨p', q', by unfold sufS; rw [if_pos hlt]; exact h1, h2, h3, .inr ⟨by simpa using hlt, ?_⟩⟩
    rw [ocallA_eq, a13i, a13, bodyA_eq]
    simp (maxSteps := 30000000) (disch := first | assumption | omega | (simp only [List.length_cons, List.length_nil, List.length_append, List.length_set, List.length_replicate, List.length_map, List.length_range, List.length_take, List.length_drop, List.all_cons, List.all_nil, AV.isCell, Bool.and_self, Bool.and_true, bs_length, is64_length] <;> omega) | rfl | decide) only [List.append_nil, List.length_cons, List.length_nil, Nat.zero_add, Nat.reduceAdd, Nat.reduceSub, pads, List.cons_append, List.nil_append, run_seq, run_region, runOps_cons, oper_none, ex_box, AV.cells, opv, List.getD_cons_zero, List.all_cons, AV.isCell, List.all_nil, Bool.and_self, if_true, putK_to, List.set_cons_succ, List.set_cons_zero, opsK_some, runOps_nil, regK_some, seqK_normal, ex_load, List.getD_cons_succ, rd_ptr, List.getElem?_cons_zero, rdK_cells, List.drop_zero, List.take_succ_cons, List.take_nil, loadK_n, valK_some, ex_call, List.map_cons, List.map_nil, pcallA_eq, frzN, List.mapM_cons, frz_agg, frz_sl, List.mapM_nil, Option.pure_def, Option.bind_eq_bind, Option.bind_some, Option.map_some, argK_some, hfull, retK_some, scal, scal1, Bool.and_true, Bool.false_eq_true, fzIds, List.flatMap_cons, bor_agg, bor_sl, List.flatMap_nil, List.foldl_nil, ite_self, ex_store, wr_ptr, wrK_cells, splice, List.take_zero, List.drop_succ_cons, List.drop_nil, storeK_some, putK_no, ex_mov, frz_int, hidx, bor_int, ex_faddr, faddrA_ptr, Nat.add_zero, loadK_1, ex_len, lenA_sl, ex_bin, bin_geq, hng, decide_false, run_cond, condK_bool, run_drawp, runPriv_cons, isPriv_faddr, privA_eq, AOp.args, dataV, data1, privK_some, relV, rel2, rel1, allData_nil, and_self, if_false, foper_none, fe_faddr, fstK_some, fputK_to, free1K_some, isPriv_load, fe_load, isPriv_mov, priv1K_some, isPriv_bin, fe_bin, fe_mov, Bool.and_false, bin_sub, wr64, isPriv_slice, List.append_assoc, Bool.true_and, ex_slice, Option.map_none, sliceA_sl, fe_slice, run_skip, bounds_sn, Int.toNat_natCast, cutK_sl, Nat.mul_one, bs_drop, bs_take, take_rest, runPriv_nil, consK_some, drawpK_some, adoptS_nil, adoptL, ex_build, beq_self_eq_true, fillA, Nat.reduceLeDiff, Nat.le_refl, ex_ocall, ocArgK_some, c1, ocK_some, liftV, lift2, lift1, List.getElem?_cons_succ, apartK_some, run_ret, bodyK_ret, results_1, res_cell, cellK_some, mkv_n, retvK_some, ocallK_some, compact_agg, take2_agg, takeL_cons, take1_own, findI_nil, t1I_new, dat_bs, tkL_some, findI_cons, Nat.reduceBEq, takeL_nil]
  · obtain ⟨t, ht⟩ : ∃ t, m = p.length + t := ⟨m - p.length, by omega⟩
    subst ht
    obtain ⟨zc, hc, hzc⟩ := concat_eq z z ((fullM q).drop t) ((fullM q).take t) (by rw [List.length_drop]; omega) (by rw [List.length_take]; omega)
    have hlen : ((fullM q).drop t ++ (fullM q).take t).length = (fullM q).length := by rw [List.length_append, List.length_drop, List.length_take]; omega
    obtain ⟨p', q', h1, h2, h3, h4⟩ := own12 (z1 := true) (z2 := zc) (p := []) (q := (fullM q).drop t ++ (fullM q).take t) (fun _ => rfl) (by simp) (by omega)
    rcases h4 with ⟨-, rfl, h4⟩ | ⟨h, -⟩
    · have hc' : L.pcall 38 [.sl false 2 [.sl z ((fullM q).length - t) (bs ((fullM q).drop t)), .sl z t (bs ((fullM q).take t))]] = some (.sl zc (fullM q).length (bs ((fullM q).drop t ++ (fullM q).take t))) := by
        rw [sl_word (by rw [List.length_drop]), sl_word (by rw [List.length_take]; omega), sl_word hlen]; exact hc
      have c1 : ocallA L 12 [.agg [.sl true 0 [], .sl zc (fullM q).length (bs ((fullM q).drop t ++ (fullM q).take t))]] = some (.agg [.sl true 0 [], .own false 0 0 q'.length 1], [.cells false false (bs q')]) := by
        rw [sl_word hlen]; exact h4
      have hge : ((p.length : Int) ≤ ((p.length + t : Nat) : Int)) := by omega
      refine ⟨[], q', by unfold sufS; rw [if_neg hlt, Nat.add_sub_cancel_left]; exact h1, by simp, h3, .inl ⟨by simp, rfl, ?_⟩⟩
      rw [ocallA_eq, a13i, a13, bodyA_eq]
      simp (maxSteps := 30000000) (disch := first | assumption | omega | (simp only [List.length_cons, List.length_nil, List.length_append, List.length_set, List.length_replicate, List.length_map, List.length_range, List.length_take, List.length_drop, List.all_cons, List.all_nil, AV.isCell, Bool.and_self, Bool.and_true, bs_length, is64_length] <;> omega) | rfl | decide) only [List.append_nil, List.length_cons, List.length_nil, Nat.zero_add, Nat.reduceAdd, Nat.reduceSub, pads, List.cons_append, List.nil_append, run_seq, run_region, runOps_cons, oper_none, ex_box, AV.cells, opv, List.getD_cons_zero, List.all_cons, AV.isCell, List.all_nil, Bool.and_self, if_true, putK_to, List.set_cons_succ, List.set_cons_zero, opsK_some, runOps_nil, regK_some, seqK_normal, ex_load, List.getD_cons_succ, rd_ptr, List.getElem?_cons_zero, rdK_cells, List.drop_zero, List.take_succ_cons, List.take_nil, loadK_n, valK_some, ex_call, List.map_cons, List.map_nil, pcallA_eq, frzN, List.mapM_cons, frz_agg, frz_sl, List.mapM_nil, Option.pure_def, Option.bind_eq_bind, Option.bind_some, Option.map_some, argK_some, hfull, retK_some, scal, scal1, Bool.and_true, Bool.false_eq_true, fzIds, List.flatMap_cons, bor_agg, bor_sl, List.flatMap_nil, List.foldl_nil, ite_self, ex_store, wr_ptr, wrK_cells, splice, List.take_zero, List.drop_succ_cons, List.drop_nil, storeK_some, putK_no, ex_mov, frz_int, hidx, bor_int, ex_faddr, faddrA_ptr, Nat.add_zero, loadK_1, ex_len, lenA_sl, ex_bin, bin_geq, hge, decide_true, run_cond, condK_bool, run_drawp, runPriv_cons, isPriv_faddr, privA_eq, AOp.args, dataV, data1, privK_some, relV, rel2, rel1, allData_nil, and_self, if_false, foper_none, fe_faddr, fstK_some, fputK_to, free1K_some, isPriv_load, fe_load, isPriv_mov, priv1K_some, isPriv_bin, fe_bin, fe_mov, Bool.and_false, bin_sub, csub, Nat.add_sub_cancel_left, wr64, isPriv_slice, List.append_assoc, Bool.true_and, ex_slice, Option.map_none, sliceA_sl, fe_slice, bounds_sn, Int.toNat_natCast, cutK_sl, Nat.mul_one, bs_drop, bs_take, take_rest, runPriv_nil, consK_some, drawpK_some, adoptS_nil, adoptL, bounds_ns, Nat.sub_zero, ex_bslice, beq_self_eq_true, repz_2, fillA, Nat.reduceLeDiff, Nat.le_refl, newK_some, newA_data, List.isEmpty_nil, slK_some, hc', ex_build, ex_ocall, ocArgK_some, c1, ocK_some, liftV, lift2, lift1, List.getElem?_cons_succ, apartK_some, run_ret, run_skip, seqK_ret, bodyK_ret, results_1, res_cell, cellK_some, mkv_n, retvK_some, ocallK_some, compact_agg, take2_agg, takeL_cons, take1_sl, tkL_some, take1_own, findI_nil, t1I_new, dat_bs, takeL_nil]
    · cases h

theorem prepend_own {z1 z2 z : Bool} {w p q : List Nat} (hw : w.length < 134217728) (hp : p.length < 134217728) (hq : q.length < 134217728) :
    ∃ zc, (zc = true → w ++ p = []) ∧ OwnRes 14 [word z w, las z1 z2 p q] (seqM (w ++ p) q) zc := by
  obtain ⟨zc, hc, hzc⟩ := concat_eq z z1 w p (by omega) (by omega)
  refine ⟨zc, hzc, ?_⟩
  have hc' : L.pcall 38 [.sl false 2 [word z w, word z1 p]] = some (.sl zc (w.length + p.length) (bs (w ++ p))) := by
    rw [hc, ← List.length_append]
  obtain ⟨p', q', h1, h2, h3, h4⟩ := own12 (z1 := zc) (z2 := z2) (p := w ++ p) (q := q) hzc (by rw [List.length_append]; omega) (by omega)
  refine ⟨p', q', h1, h2, h3, ?_⟩
  rcases h4 with ⟨rfl, rfl, h4⟩ | ⟨rfl, h4⟩
  · refine .inl ⟨rfl, rfl, ?_⟩
    have c1 : ocallA L 12 [.agg [.sl true (w.length + p.length) (bs (w ++ p)), word z2 q]] = some (.agg [.sl true 0 [], .own false 0 0 q'.length 1], [.cells false false (bs q')]) := by
      rw [← List.length_append]; exact h4
    rw [ocallA_eq, a14i, a14, bodyA_eq]
    simp (maxSteps := 30000000) (disch := first | assumption | omega | (simp only [List.length_cons, List.length_nil, List.length_append, List.length_set, List.length_replicate, List.length_map, List.length_range, List.length_take, List.length_drop, List.all_cons, List.all_nil, AV.isCell, Bool.and_self, Bool.and_true, bs_length, is64_length] <;> omega) | rfl | decide) only [List.append_nil, List.length_cons, List.length_nil, Nat.zero_add, Nat.reduceAdd, Nat.reduceSub, pads, List.cons_append, List.nil_append, run_seq, run_region, runOps_cons, oper_none, ex_box, AV.cells, opv, List.getD_cons_succ, List.getD_cons_zero, List.all_cons, AV.isCell, List.all_nil, Bool.and_self, if_true, putK_to, List.set_cons_succ, List.set_cons_zero, opsK_some, runOps_nil, regK_some, seqK_normal, run_drawp, List.take_succ_cons, List.take_zero, runPriv_cons, isPriv_mov, Bool.false_eq_true, privA_eq, AOp.args, dataV, data1, ex_mov, privK_some, relV, rel2, rel1, allData_nil, and_self, priv1K_some, isPriv_faddr, Bool.and_true, ex_faddr, faddrA_ptr, Nat.add_zero, valK_some, if_false, foper_none, fe_faddr, fstK_some, fputK_to, free1K_some, isPriv_load, ex_load, rd_ptr, fe_load, List.getElem?_cons_zero, rdK_cells, List.drop_zero, loadK_1, isPriv_bslt, List.map_cons, List.map_nil, ex_bslice, beq_self_eq_true, repz_2, Nat.mul_one, fillA, Nat.reduceLeDiff, true_and, splice, List.drop_succ_cons, Nat.le_refl, List.drop_nil, fe_bslice, fe_mov, newK_some, newA_data, frzN, List.flatMap_cons, bor_sl, List.flatMap_nil, List.isEmpty_nil, List.mapM_cons, frz_sl, List.mapM_nil, Option.pure_def, Option.bind_eq_bind, Option.bind_some, slK_some, isPriv_call, ex_call, pcallA_eq, frz_any, argK_some, fe_call, hc', retK_some, scal, scal1, fzIds, List.foldl_nil, ite_self, List.take_nil, runPriv_nil, consK_some, quietK_some, quietCall, Bool.or_true, drawpK_some, adoptS_nil, adoptL, ex_build, Option.map_some, ex_ocall, bor_agg, frz_agg, ocArgK_some, c1, ocK_some, liftV, lift2, lift1, ex_store, wr_ptr, List.getElem?_cons_succ, wrK_cells, storeK_some, putK_no, apartK_some, run_ret, bodyK_ret, results_1, res_cell, cellK_some, mkv_n, retvK_some, ocallK_some, compact_agg, take2_agg, takeL_cons, take1_sl, tkL_some, take1_own, findI_nil, t1I_new, dat_bs, takeL_nil]
  · refine .inr ⟨rfl, ?_⟩
    have c1 : ocallA L 12 [.agg [.sl false (w.length + p.length) (bs (w ++ p)), word z2 q]] = some (.agg [.own false 0 0 p'.length 1, .own false 1 0 q'.length 1], [.cells false false (bs p'), .cells false false (bs q')]) := by
      rw [← List.length_append]; exact h4
    rw [ocallA_eq, a14i, a14, bodyA_eq]
    simp (maxSteps := 30000000) (disch := first | assumption | omega | (simp only [List.length_cons, List.length_nil, List.length_append, List.length_set, List.length_replicate, List.length_map, List.length_range, List.length_take, List.length_drop, List.all_cons, List.all_nil, AV.isCell, Bool.and_self, Bool.and_true, bs_length, is64_length] <;> omega) | rfl | decide) only [List.append_nil, List.length_cons, List.length_nil, Nat.zero_add, Nat.reduceAdd, Nat.reduceSub, pads, List.cons_append, List.nil_append, run_seq, run_region, runOps_cons, oper_none, ex_box, AV.cells, opv, List.getD_cons_succ, List.getD_cons_zero, List.all_cons, AV.isCell, List.all_nil, Bool.and_self, if_true, putK_to, List.set_cons_succ, List.set_cons_zero, opsK_some, runOps_nil, regK_some, seqK_normal, run_drawp, List.take_succ_cons, List.take_zero, runPriv_cons, isPriv_mov, Bool.false_eq_true, privA_eq, AOp.args, dataV, data1, ex_mov, privK_some, relV, rel2, rel1, allData_nil, and_self, priv1K_some, isPriv_faddr, Bool.and_true, ex_faddr, faddrA_ptr, Nat.add_zero, valK_some, if_false, foper_none, fe_faddr, fstK_some, fputK_to, free1K_some, isPriv_load, ex_load, rd_ptr, fe_load, List.getElem?_cons_zero, rdK_cells, List.drop_zero, loadK_1, isPriv_bslt, List.map_cons, List.map_nil, ex_bslice, beq_self_eq_true, repz_2, Nat.mul_one, fillA, Nat.reduceLeDiff, true_and, splice, List.drop_succ_cons, Nat.le_refl, List.drop_nil, fe_bslice, fe_mov, newK_some, newA_data, frzN, List.flatMap_cons, bor_sl, List.flatMap_nil, List.isEmpty_nil, List.mapM_cons, frz_sl, List.mapM_nil, Option.pure_def, Option.bind_eq_bind, Option.bind_some, slK_some, isPriv_call, ex_call, pcallA_eq, frz_any, argK_some, fe_call, hc', retK_some, scal, scal1, fzIds, List.foldl_nil, ite_self, List.take_nil, runPriv_nil, consK_some, quietK_some, quietCall, Bool.or_true, drawpK_some, adoptS_nil, adoptL, ex_build, Option.map_some, ex_ocall, bor_agg, frz_agg, ocArgK_some, c1, ocK_some, liftV, lift2, lift1, ex_store, wr_ptr, List.getElem?_cons_succ, wrK_cells, storeK_some, putK_no, apartK_some, run_ret, bodyK_ret, results_1, res_cell, cellK_some, mkv_n, retvK_some, ocallK_some, compact_agg, take2_agg, takeL_cons, take1_own, findI_nil, t1I_new, dat_bs, tkL_some, findI_cons, Nat.reduceBEq, Option.map_none, takeL_nil]
end Go.Abs.Lasso
