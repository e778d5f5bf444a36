/- The reference's Suffix, Prepend, Project. -/
import Derived.Test.YthbgkdjnakeagaaAF12
namespace Go.Abs.Lasso
set_option linter.unusedVariables false
set_option linter.unusedSimpArgs false
open Go Go.Abs

/-- the result of the reference: the canonical form, as data -/
def RefRes (f : Nat) (args : List AV) (S : Nat → Nat) : Prop := ∃ z p' q', Canon S p' q' ∧ L.pcall f args = some (las z false p' q')

set_option maxHeartbeats 4000000 in
theorem rsuffix_eq {z1 z2 : Bool} {p q : List Nat} {k : Int} {m : Nat} (hm : indexM p.length (fullM q).length k = (m : Int)) (hm2 : m < p.length + (fullM q).length) (hp : p.length < 134217728) (hq : q.length < 134217728) (hk1 : -9223372036854775808 ≤ k) (hk2 : k < 9223372036854775808) :
    RefRes 18 [las z1 z2 p q, .int .i64 k] (sufS p q m) := by
  obtain ⟨z, hfull⟩ := rfull_eq z1 z2 p q
  have hfl := fullM_len q
  have hfp := fullM_pos q
  have hidx := rindex_eq z1 z p (fullM q) k (by omega) (by omega) hk1 hk2
  rw [hm] at hidx
  by_cases hlt : m < p.length
  · obtain ⟨z', p', q', h1, h2⟩ := rcanon_eq z1 z (p.drop m) (fullM q) (by rw [List.length_drop]; omega) (by omega)
    have c1 : L.pcall 17 [.agg [.sl z1 (p.length - m) (bs (p.drop m)), word z (fullM q)]] = some (las z' false p' q') := by
      rw [← List.length_drop]; exact h2
    have hlt' : ((m : Nat) : Int) < (p.length : Nat) := by omega
    refine ⟨z', p', q', by unfold sufS; rw [if_pos hlt]; exact h1, ?_⟩
    rw [a18p, a18, pbodyA_eq]
    simp (maxSteps := 30000000) (disch := first | assumption | omega | (simp only [List.length_cons, List.length_nil, List.length_append, List.length_set, List.length_replicate, List.length_map, List.length_range, List.length_take, List.length_drop, List.all_cons, List.all_nil, AV.isCell, Bool.and_self, Bool.and_true, bs_length, is64_length] <;> omega) | rfl | decide) only [bodyA_eq, List.length_cons, List.length_nil, Nat.zero_add, Nat.reduceAdd, Nat.reduceSub, pads, List.cons_append, List.nil_append, run_seq, run_region, runOps_cons, oper_none, ex_box, AV.cells, opv, List.getD_cons_zero, List.all_cons, AV.isCell, List.all_nil, Bool.and_self, if_true, putK_to, List.set_cons_succ, List.set_cons_zero, opsK_some, runOps_nil, regK_some, seqK_normal, ex_load, List.getD_cons_succ, rd_ptr, List.getElem?_cons_zero, rdK_cells, List.drop_zero, List.take_succ_cons, List.take_nil, loadK_n, valK_some, ex_call, List.map_cons, List.map_nil, pcallA_eq, frzN, List.mapM_cons, frz_agg, frz_sl, List.mapM_nil, Option.pure_def, Option.bind_eq_bind, Option.bind_some, Option.map_some, argK_some, hfull, retK_some, scal, scal1, Bool.and_true, Bool.false_eq_true, fzIds, List.flatMap_cons, bor_agg, bor_sl, List.flatMap_nil, List.append_nil, List.foldl_nil, ite_self, ex_store, wr_ptr, wrK_cells, splice, List.take_zero, List.drop_succ_cons, List.drop_nil, storeK_some, putK_no, ex_mov, frz_int, hidx, bor_int, ex_faddr, faddrA_ptr, Nat.add_zero, loadK_1, ex_len, lenA_sl, ex_bin, bin_lss, hlt', decide_true, run_cond, condK_bool, run_draw, runFree_cons, foper_none, fe_faddr, fstK_some, fputK_to, freeK_some, fe_load, fe_mov, fe_slice, ex_slice, Option.map_none, sliceA_sl, bounds_sn, Int.toNat_natCast, cutK_sl, Nat.mul_one, bs_drop, bs_take, take_rest, runFree_nil, drawK_some, adopt, adoptVal, ex_build, beq_self_eq_true, fillA, Nat.reduceLeDiff, and_self, Nat.le_refl, c1, List.getElem?_cons_succ, run_ret, run_skip, seqK_ret, bodyK_ret, results_1, res_cell, cellK_some, mkv_n, retvK_some, pbodyK_some]
  · obtain ⟨t, ht⟩ : ∃ t, m = p.length + t := ⟨m - p.length, by omega⟩
    subst ht
    have hlen : ((fullM q).drop t ++ (fullM q).take t).length = (fullM q).length := by rw [List.length_append, List.length_drop, List.length_take]; omega
    obtain ⟨z', p', q', h1, h2⟩ := rcanon_eq true false [] ((fullM q).drop t ++ (fullM q).take t) (by simp) (by omega)
    have c1 : L.pcall 17 [.agg [.sl true 0 [], .sl false (fullM q).length (bs ((fullM q).drop t ++ (fullM q).take t))]] = some (las z' false p' q') := by
      rw [sl_word hlen]; exact h2
    have hge : ¬ (((p.length + t : Nat) : Int) < (p.length : Nat)) := by omega
    have hz : ((fullM q).length - t == 0) = false := by simp; omega
    have hn : (fullM q).length - t + t = (fullM q).length := by omega
    have htk2 : List.take (fullM q).length (List.drop t (fullM q) ++ List.take t (fullM q)) = List.drop t (fullM q) ++ List.take t (fullM q) := List.take_of_length_le (by omega)
    have htk : List.take ((fullM q).length - t) (List.drop t (fullM q)) = List.drop t (fullM q) := List.take_of_length_le (by rw [List.length_drop]; omega)
    refine ⟨z', p', q', by unfold sufS; rw [if_neg hlt, Nat.add_sub_cancel_left]; exact h1, ?_⟩
    rw [a18p, a18, pbodyA_eq]
    simp (maxSteps := 30000000) (disch := first | assumption | omega | (simp only [List.length_cons, List.length_nil, List.length_append, List.length_set, List.length_replicate, List.length_map, List.length_range, List.length_take, List.length_drop, List.all_cons, List.all_nil, AV.isCell, Bool.and_self, Bool.and_true, bs_length, is64_length] <;> omega) | rfl | decide) only [bodyA_eq, List.length_cons, List.length_nil, Nat.zero_add, Nat.reduceAdd, Nat.reduceSub, pads, List.cons_append, List.nil_append, run_seq, run_region, runOps_cons, oper_none, ex_box, AV.cells, opv, List.getD_cons_zero, List.all_cons, AV.isCell, List.all_nil, Bool.and_self, if_true, putK_to, List.set_cons_succ, List.set_cons_zero, opsK_some, runOps_nil, regK_some, seqK_normal, ex_load, List.getD_cons_succ, rd_ptr, List.getElem?_cons_zero, rdK_cells, List.drop_zero, List.take_succ_cons, List.take_nil, loadK_n, valK_some, ex_call, List.map_cons, List.map_nil, pcallA_eq, frzN, List.mapM_cons, frz_agg, frz_sl, List.mapM_nil, Option.pure_def, Option.bind_eq_bind, Option.bind_some, Option.map_some, argK_some, hfull, retK_some, scal, scal1, Bool.and_true, Bool.false_eq_true, fzIds, List.flatMap_cons, bor_agg, bor_sl, List.flatMap_nil, List.append_nil, List.foldl_nil, ite_self, ex_store, wr_ptr, wrK_cells, splice, List.take_zero, List.drop_succ_cons, List.drop_nil, storeK_some, putK_no, ex_mov, frz_int, hidx, bor_int, ex_faddr, faddrA_ptr, Nat.add_zero, loadK_1, ex_len, lenA_sl, ex_bin, bin_lss, hge, decide_false, run_cond, condK_bool, run_draw, runFree_cons, foper_none, fe_faddr, fstK_some, fputK_to, freeK_some, fe_load, fe_mov, fe_slice, ex_slice, Option.map_none, sliceA_sl, run_skip, if_false, bin_sub, csub, Nat.add_sub_cancel_left, wr64, run_drawp, runPriv_cons, isPriv_faddr, privA_eq, AOp.args, dataV, data1, privK_some, relV, rel2, rel1, allData_nil, and_self, free1K_some, isPriv_load, isPriv_mov, priv1K_some, isPriv_slice, List.append_assoc, Bool.true_and, bounds_sn, Int.toNat_natCast, cutK_sl, Nat.mul_one, bs_drop, bs_take, htk, isPriv_appf, ex_append, src_sl, appK_nil, hz, newA_own, allData_cons, dat_bs, bounds_ns, Nat.sub_zero, runPriv_nil, consK_some, drawpK_some, adoptS_nil, adoptL, liftV, lift2, lift1, appK_own, List.getElem?_cons_succ, appOK_cells, Bool.false_and, hn, bs_app, ex_build, beq_self_eq_true, fillA, Nat.le_refl, frz_own, frzK_cells, htk2, frz_bs, slK_some, c1, bor_own, borK_cells, bor_bs, List.foldl_cons, List.modify_cons, Nat.reduceEqDiff, fzBlk, apartK_some, run_ret, bodyK_ret, results_1, res_cell, cellK_some, mkv_n, retvK_some, pbodyK_some]

theorem rprepend_eq {z1 z2 z : Bool} {w p q : List Nat} (hw : w.length < 134217728) (hp : p.length < 134217728) (hq : q.length < 134217728) :
    RefRes 19 [word z w, las z1 z2 p q] (seqM (w ++ p) q) := by
  have h0 := fun zc => rcanon_eq zc z2 (w ++ p) q (by rw [List.length_append]; omega) (by omega)
  have hl : (w ++ p).length = w.length + p.length := List.length_append
  by_cases hw0 : w = []
  · subst hw0
    by_cases hp0 : p = []
    · subst hp0
      obtain ⟨z', p', q', h1, h2⟩ := h0 true
      have c1 : L.pcall 17 [.agg [.sl true 0 [], .sl z2 q.length (bs q)]] = some (las z' false p' q') := h2
      refine ⟨z', p', q', h1, ?_⟩
      rw [a19p, a19, pbodyA_eq]
      simp (maxSteps := 30000000) (disch := first | assumption | omega | (simp only [List.length_cons, List.length_nil, List.length_append, List.length_set, List.length_replicate, List.length_map, List.length_range, List.length_take, List.length_drop, List.all_cons, List.all_nil, AV.isCell, Bool.and_self, Bool.and_true, bs_length, is64_length] <;> omega) | rfl | decide) only [bodyA_eq, List.length_cons, List.length_nil, Nat.zero_add, Nat.reduceAdd, Nat.reduceSub, pads, List.cons_append, List.nil_append, run_seq, run_region, runOps_cons, oper_none, ex_box, AV.cells, opv, List.getD_cons_succ, List.getD_cons_zero, List.all_cons, AV.isCell, List.all_nil, Bool.and_self, if_true, putK_to, List.set_cons_succ, List.set_cons_zero, opsK_some, runOps_nil, regK_some, seqK_normal, run_drawp, List.take_succ_cons, List.take_zero, runPriv_cons, isPriv_mov, Bool.false_eq_true, privA_eq, AOp.args, dataV, data1, ex_mov, privK_some, relV, rel2, rel1, allData_nil, and_self, priv1K_some, isPriv_appf, Bool.and_true, Bool.and_false, ex_append, if_false, foper_none, fe_mov, fstK_some, fputK_to, free1K_some, src_sl, appK_nil, beq_self_eq_true, newA_own, allData_cons, dat_bs, isPriv_faddr, ex_faddr, faddrA_ptr, Nat.add_zero, valK_some, fe_faddr, isPriv_load, ex_load, rd_ptr, fe_load, List.getElem?_cons_zero, rdK_cells, List.drop_zero, loadK_1, List.drop_succ_cons, List.take_nil, runPriv_nil, consK_some, drawpK_some, adoptS_nil, adoptL, liftV, lift2, lift1, appK_own, List.getElem?_cons_succ, appOK_cells, Nat.mul_one, ex_build, List.map_cons, List.map_nil, fillA, Nat.reduceLeDiff, splice, Nat.le_refl, List.drop_nil, List.append_nil, Option.map_some, ex_call, pcallA_eq, frzN, List.mapM_cons, frz_agg, frz_own, frzK_cells, List.mapM_nil, Option.pure_def, slK_some, frz_sl, Option.bind_eq_bind, Option.bind_some, argK_some, c1, retK_some, scal, scal1, fzIds, List.flatMap_cons, bor_agg, bor_own, borK_cells, List.flatMap_nil, bor_sl, List.foldl_cons, List.modify_cons, Nat.reduceEqDiff, fzBlk, List.foldl_nil, ex_store, wr_ptr, wrK_cells, storeK_some, putK_no, apartK_some, apart, disj, seqK_ite, run_ret, seqK_none, bodyK_ite, bodyK_ret, results_1, res_cell, cellK_some, mkv_n, retvK_some, bodyK_none, pbodyK_ite, pbodyK_some, pbodyK_none]
      rfl
    · obtain ⟨z', p', q', h1, h2⟩ := h0 false
      have hb : (p.length == 0) = false := by simpa using hp0
      have c1 : L.pcall 17 [.agg [.sl false p.length (bs p), .sl z2 q.length (bs q)]] = some (las z' false p' q') := h2
      refine ⟨z', p', q', h1, ?_⟩
      rw [a19p, a19, pbodyA_eq]
      simp (maxSteps := 30000000) (disch := first | assumption | omega | (simp only [List.length_cons, List.length_nil, List.length_append, List.length_set, List.length_replicate, List.length_map, List.length_range, List.length_take, List.length_drop, List.all_cons, List.all_nil, AV.isCell, Bool.and_self, Bool.and_true, bs_length, is64_length] <;> omega) | rfl | decide) only [bodyA_eq, List.length_cons, List.length_nil, Nat.zero_add, Nat.reduceAdd, Nat.reduceSub, pads, List.cons_append, List.nil_append, run_seq, run_region, runOps_cons, oper_none, ex_box, AV.cells, opv, List.getD_cons_succ, List.getD_cons_zero, List.all_cons, AV.isCell, List.all_nil, Bool.and_self, if_true, putK_to, List.set_cons_succ, List.set_cons_zero, opsK_some, runOps_nil, regK_some, seqK_normal, run_drawp, List.take_succ_cons, List.take_zero, runPriv_cons, isPriv_mov, Bool.false_eq_true, privA_eq, AOp.args, dataV, data1, ex_mov, privK_some, relV, rel2, rel1, allData_nil, and_self, priv1K_some, isPriv_appf, Bool.and_true, Bool.and_false, ex_append, if_false, foper_none, fe_mov, fstK_some, fputK_to, free1K_some, src_sl, appK_nil, beq_self_eq_true, newA_own, allData_cons, dat_bs, isPriv_faddr, ex_faddr, faddrA_ptr, Nat.add_zero, valK_some, fe_faddr, isPriv_load, ex_load, rd_ptr, fe_load, List.getElem?_cons_zero, rdK_cells, List.drop_zero, loadK_1, List.drop_succ_cons, List.take_nil, runPriv_nil, consK_some, drawpK_some, adoptS_nil, adoptL, liftV, lift2, lift1, appK_own, List.getElem?_cons_succ, appOK_cells, hb, Nat.mul_one, ex_build, List.map_cons, List.map_nil, fillA, Nat.reduceLeDiff, splice, Nat.le_refl, List.drop_nil, List.append_nil, Option.map_some, ex_call, pcallA_eq, frzN, List.mapM_cons, frz_agg, frz_own, frzK_cells, bs_take, List.take_length, frz_bs, slK_some, frz_sl, List.mapM_nil, Option.pure_def, Option.bind_eq_bind, Option.bind_some, argK_some, c1, retK_some, scal, scal1, fzIds, List.flatMap_cons, bor_agg, bor_own, borK_cells, bor_bs, bor_sl, List.flatMap_nil, List.foldl_cons, List.modify_cons, Nat.reduceEqDiff, fzBlk, List.foldl_nil, ex_store, wr_ptr, wrK_cells, storeK_some, putK_no, apartK_some, apart, disj, seqK_ite, run_ret, seqK_none, bodyK_ite, bodyK_ret, results_1, res_cell, cellK_some, mkv_n, retvK_some, bodyK_none, pbodyK_ite, pbodyK_some, pbodyK_none]
      rfl
  · obtain ⟨z', p', q', h1, h2⟩ := h0 false
    have hb : (w.length == 0) = false := by simpa using hw0
    have c1 : L.pcall 17 [.agg [.sl false (w.length + p.length) (bs (w ++ p)), word z2 q]] = some (las z' false p' q') := by
      rw [sl_word hl]; exact h2
    have htk : List.take (w.length + p.length) (w ++ p) = w ++ p := List.take_of_length_le (by omega)
    refine ⟨z', p', q', h1, ?_⟩
    rw [a19p, a19, pbodyA_eq]
    simp (maxSteps := 30000000) (disch := first | assumption | omega | (simp only [List.length_cons, List.length_nil, List.length_append, List.length_set, List.length_replicate, List.length_map, List.length_range, List.length_take, List.length_drop, List.all_cons, List.all_nil, AV.isCell, Bool.and_self, Bool.and_true, bs_length, is64_length] <;> omega) | rfl | decide) only [bodyA_eq, List.length_cons, List.length_nil, Nat.zero_add, Nat.reduceAdd, Nat.reduceSub, pads, List.cons_append, List.nil_append, run_seq, run_region, runOps_cons, oper_none, ex_box, AV.cells, opv, List.getD_cons_succ, List.getD_cons_zero, List.all_cons, AV.isCell, List.all_nil, Bool.and_self, if_true, putK_to, List.set_cons_succ, List.set_cons_zero, opsK_some, runOps_nil, regK_some, seqK_normal, run_drawp, List.take_succ_cons, List.take_zero, runPriv_cons, isPriv_mov, Bool.false_eq_true, privA_eq, AOp.args, dataV, data1, ex_mov, privK_some, relV, rel2, rel1, allData_nil, and_self, priv1K_some, isPriv_appf, Bool.and_true, Bool.and_false, ex_append, if_false, foper_none, fe_mov, fstK_some, fputK_to, free1K_some, src_sl, appK_nil, hb, newA_own, allData_cons, dat_bs, isPriv_faddr, ex_faddr, faddrA_ptr, Nat.add_zero, valK_some, fe_faddr, isPriv_load, ex_load, rd_ptr, fe_load, List.getElem?_cons_zero, rdK_cells, List.drop_zero, loadK_1, List.drop_succ_cons, List.take_nil, runPriv_nil, consK_some, drawpK_some, adoptS_nil, adoptL, liftV, lift2, lift1, appK_own, List.getElem?_cons_succ, appOK_cells, Bool.false_and, Nat.mul_one, bs_take, List.take_length, bs_app, ex_build, beq_self_eq_true, List.map_cons, List.map_nil, fillA, Nat.reduceLeDiff, splice, Nat.le_refl, List.drop_nil, List.append_nil, Option.map_some, ex_call, pcallA_eq, frzN, List.mapM_cons, frz_agg, frz_own, frzK_cells, htk, frz_bs, slK_some, frz_sl, List.mapM_nil, Option.pure_def, Option.bind_eq_bind, Option.bind_some, argK_some, c1, retK_some, scal, scal1, fzIds, List.flatMap_cons, bor_agg, bor_own, borK_cells, bor_bs, bor_sl, List.flatMap_nil, List.foldl_cons, List.modify_cons, Nat.reduceEqDiff, fzBlk, List.foldl_nil, ex_store, wr_ptr, wrK_cells, storeK_some, putK_no, apartK_some, apart, disj, seqK_ite, run_ret, seqK_none, bodyK_ite, bodyK_ret, results_1, res_cell, cellK_some, mkv_n, retvK_some, bodyK_none, pbodyK_ite, pbodyK_some, pbodyK_none]
    rfl

/-- a word under way in a block behind the first three -/
def BldP (T : Heap) (v : AV) (l : List Nat) : Prop :=
  (v = .sl true 0 [] ∧ l = []) ∨ ∃ k, v = .own false (k + 3) 0 l.length 1 ∧ T[k]? = some (.cells false false (bs l))

theorem maskL_take {m : Nat} {p : List Nat} {i : Nat} (hi : i < p.length) : maskL m (p.take i) ++ [p.getD i 0 &&& m] = maskL m (p.take (i + 1)) := by
  unfold maskL
  rw [List.getD_eq_getElem?_getD, List.getElem?_eq_getElem hi, Option.getD_some]
  show (p.take i).map (· &&& m) ++ [p[i]].map (· &&& m) = _
  rw [← List.map_append, List.take_append_getElem]

theorem getD_lt {p : List Nat} (hp : ∀ x ∈ p, x < 256) (i : Nat) : p.getD i 0 < 256 := by
  rw [List.getD_eq_getElem?_getD]
  cases h : p[i]? with
  | none => simp
  | some x => exact hp x (List.mem_of_getElem? h)

theorem rproj0 {z1 z : Bool} {p q : List Nat} {m : Nat} {b1 : Blk} {u : AV} (hm : m < 256) (hpw : ∀ x ∈ p, x < 256) (hp : p.length < 1099511627776) (hu : u.isCell = true) : ∀ t i T v, i + t = p.length → BldP T v (maskL m (p.take i)) →
    ∃ T' v', v'.isCell = true ∧ L.loop a20l0s a20l0 ⟨a20l0F (.int .u8 (m : Nat)) (.ptr 0 0) (.ptr 1 0) (.ptr 2 0) (.int .i64 (i : Nat)), .cells false false [word z1 p, word z q] :: b1 :: .cells false false [v, u] :: T⟩ =
      some (.exit 0, ⟨a20l0F (.int .u8 (m : Nat)) (.ptr 0 0) (.ptr 1 0) (.ptr 2 0) (.int .i64 (p.length : Nat)), .cells false false [word z1 p, word z q] :: b1 :: .cells false false [v', u] :: T'⟩) ∧ BldP T' v' (maskL m p)
  | 0, i, T, v, h, hB => by
    obtain rfl : i = p.length := by omega
    rw [List.take_length] at hB
    refine ⟨T, v, ?_, ?_, hB⟩
    · rcases hB with ⟨rfl, -⟩ | ⟨k, rfl, -⟩ <;> rfl
    rw [a20l0n]
    simp (maxSteps := 30000000) (disch := first | assumption | omega | (simp only [List.length_cons, List.length_nil, List.length_append, List.length_set, List.length_replicate, List.length_map, List.length_range, List.length_take, List.length_drop, List.all_cons, List.all_nil, AV.isCell, Bool.and_self, Bool.and_true, bs_length, is64_length] <;> omega) | rfl | decide) only [a20l0b, run_seq, run_region, runOps_cons, oper_none, ex_mov, opv, List.getD_cons_succ, List.getD_cons_zero, putK_to, List.set_cons_succ, List.set_cons_zero, opsK_some, ex_faddr, faddrA_ptr, Nat.add_zero, valK_some, ex_load, rd_ptr, List.getElem?_cons_zero, rdK_cells, List.drop_zero, List.take_succ_cons, List.take_zero, loadK_1, ex_len, lenA_sl, ex_bin, bin_lss, Int.lt_irrefl, decide_false, runOps_nil, regK_some, seqK_normal, run_cond, condK_bool, Bool.false_eq_true, run_skip, run_exit, if_false, seqK_exit, loopK_exit, a20l0c]
  | t + 1, i, T, v, h, hB => by
    have hi : i < p.length := by omega
    have c : ((i : Nat) : Int) < ((p.length : Nat) : Int) := by omega
    have hsn := maskL_take (m := m) hi
    have hand := and8 (getD_lt hpw i) hm
    have hlen : (maskL m (p.take i)).length = i := by rw [maskL_length, List.length_take]; omega
    have hlen1 : (maskL m (p.take (i + 1))).length = i + 1 := by rw [maskL_length, List.length_take]; omega
    rcases hB with ⟨rfl, e1⟩ | ⟨k, rfl, e1⟩
    · have hi0 : i = 0 := by rw [← hlen, e1]; rfl
      subst hi0
      obtain ⟨T', v', h0, h1, h2⟩ := rproj0 (z1 := z1) (z := z) (q := q) (b1 := b1) hm hpw hp hu t 1 (T ++ [.cells false false (bs (maskL m (p.take 1)))]) (.own false (T.length + 3) 0 1 1) (by omega) (.inr ⟨T.length, by rw [hlen1], by simp⟩)
      refine ⟨T', v', h0, ?_, h2⟩
      have hb : bs (maskL m (p.take 1)) = [AV.int .u8 ((p.getD 0 0 &&& m : Nat) : Int)] := by rw [← hsn]; rfl
      rw [hb] at h1
      simp only [Int.natCast_zero, Int.natCast_one] at h1 c ⊢
      rw [a20l0n]
      simp (maxSteps := 30000000) (disch := first | assumption | omega | (simp only [List.length_cons, List.length_nil, List.length_append, List.length_set, List.length_replicate, List.length_map, List.length_range, List.length_take, List.length_drop, List.all_cons, List.all_nil, AV.isCell, Bool.and_self, Bool.and_true, bs_length, is64_length] <;> omega) | rfl | decide) only [a20l0b, run_seq, run_region, runOps_cons, oper_none, ex_mov, opv, List.getD_cons_succ, List.getD_cons_zero, putK_to, List.set_cons_succ, List.set_cons_zero, opsK_some, ex_faddr, faddrA_ptr, Nat.add_zero, valK_some, ex_load, rd_ptr, List.getElem?_cons_zero, rdK_cells, List.drop_zero, List.take_succ_cons, List.take_zero, loadK_1, ex_len, lenA_sl, ex_bin, bin_lss, c, decide_true, runOps_nil, regK_some, seqK_normal, run_cond, condK_bool, run_skip, run_exit, if_true, run_block, run_draw, runFree_cons, foper_none, fe_faddr, fstK_some, fputK_to, freeK_some, fe_load, List.getElem?_cons_succ, fe_mov, fe_iaddr, ex_iaddr, iaddrA_sl, Int.toNat_zero, Nat.mul_one, rd_vptr, bs_take, bs_at0, fe_bin, bin_and, hand, fe_bslice, ex_bslice, AV.cells, List.all_cons, List.length_cons, List.length_nil, Nat.zero_add, beq_self_eq_true, List.all_nil, Bool.and_self, repz_1, List.append_nil, List.map_cons, List.map_nil, fillA, Nat.le_refl, AV.isCell, and_self, splice, List.nil_append, List.drop_succ_cons, List.drop_nil, newK_some, newA_data, frzN, List.flatMap_cons, bor_int, List.flatMap_nil, List.isEmpty_nil, List.mapM_cons, frz_int, List.mapM_nil, Option.pure_def, Option.bind_eq_bind, Option.bind_some, slK_some, runFree_nil, drawK_some, adopt, adoptVal, ex_append, src_sl, appK_nil, Nat.reduceBEq, newA_own, List.cons_append, ex_store, wr_ptr, wrK_cells, storeK_some, putK_no, blockK_normal, bin_add, Int.zero_add, wr64, loopK_normal, a20l0c, h1]
    · have hk := (List.getElem?_eq_some_iff.1 e1).1
      rw [hlen]
      obtain ⟨T', v', h0, h1, h2⟩ := rproj0 (z1 := z1) (z := z) (q := q) (b1 := b1) hm hpw hp hu t (i + 1) (T.set k .dead ++ [.cells false false (bs (maskL m (p.take (i + 1))))]) (.own false (T.length + 3) 0 (i + 1) 1) (by omega) (.inr ⟨T.length, by rw [hlen1], by simp⟩)
      refine ⟨T', v', h0, ?_, h2⟩
      have hb : bs (maskL m (p.take i)) ++ [AV.int .u8 ((p.getD i 0 &&& m : Nat) : Int)] = bs (maskL m (p.take (i + 1))) := by rw [← hsn]; simp [bs]
      have hcut : List.take i (bs (maskL m (p.take i))) = bs (maskL m (p.take i)) := List.take_of_length_le (by rw [bs_length, hlen]; exact Nat.le_refl _)
      have hbl : (bs (maskL m (p.take i))).length = i := by rw [bs_length, hlen]
      rw [a20l0n]
      simp (maxSteps := 30000000) (disch := first | assumption | omega | (simp only [List.length_cons, List.length_nil, List.length_append, List.length_set, List.length_replicate, List.length_map, List.length_range, List.length_take, List.length_drop, List.all_cons, List.all_nil, AV.isCell, Bool.and_self, Bool.and_true, bs_length, is64_length] <;> omega) | rfl | decide) only [a20l0b, run_seq, run_region, runOps_cons, oper_none, ex_mov, opv, List.getD_cons_succ, List.getD_cons_zero, putK_to, List.set_cons_succ, List.set_cons_zero, opsK_some, ex_faddr, faddrA_ptr, Nat.add_zero, valK_some, ex_load, rd_ptr, List.getElem?_cons_zero, rdK_cells, List.drop_zero, List.take_succ_cons, List.take_zero, loadK_1, ex_len, lenA_sl, ex_bin, bin_lss, c, decide_true, runOps_nil, regK_some, seqK_normal, run_cond, condK_bool, run_skip, run_exit, if_true, run_block, run_draw, runFree_cons, foper_none, fe_faddr, fstK_some, fputK_to, freeK_some, fe_load, List.getElem?_cons_succ, fe_mov, fe_iaddr, ex_iaddr, iaddrA_sl, Int.toNat_natCast, Nat.mul_one, rd_vptr, bs_drop, bs_take, bs_at0, drop_getD, fe_bin, bin_and, hand, fe_bslice, ex_bslice, AV.cells, List.all_cons, List.length_cons, List.length_nil, Nat.zero_add, beq_self_eq_true, List.all_nil, Bool.and_self, repz_1, List.append_nil, List.map_cons, List.map_nil, fillA, Nat.le_refl, AV.isCell, and_self, splice, List.nil_append, List.drop_succ_cons, List.drop_nil, newK_some, newA_data, frzN, List.flatMap_cons, bor_int, List.flatMap_nil, List.isEmpty_nil, List.mapM_cons, frz_int, List.mapM_nil, Option.pure_def, Option.bind_eq_bind, Option.bind_some, slK_some, runFree_nil, drawK_some, adopt, adoptVal, ex_append, src_sl, appK_own, e1, appOK_cells, Nat.reduceBEq, hcut, hb, List.cons_append, ex_store, wr_ptr, wrK_cells, storeK_some, putK_no, blockK_normal, bin_add, cadd1, wr64, loopK_normal, a20l0c, h1]
end Go.Abs.Lasso
