/- The law NfaTrims. -/
import Derived.Test.YtbfnjdhafgnlnaaDoorAT11
import Derived.Test.YtbfnjdhafgnlnaaDoorATS
namespace Go.Abs.NfaD
open Go Go.Abs
set_option linter.unusedSimpArgs false
set_option linter.unusedVariables false

/-- what the law asks of the trimmed automaton -/
theorem trim_facts (n : Aut) (hf : Fits n) (hv : Valid n) (hz1 : n.z1 = true → n.st = []) (hz2 : n.z2 = true → n.fi = []) (hz3 : n.ed.length < 1000) (l1 : n.st.length < 1000) (l2 : n.fi.length < 1000) (hc : L.pcall 26 [n.av] = some (.int .i64 0)) :
    ∃ (m : Aut) (kk : Aut) (zr zp : Bool) (r p : List Nat), L.pcall 17 [n.av] = some (.tup [m.av, .int .i64 0]) ∧ Fits m ∧ Valid m ∧ m.vars = n.vars ∧ (∀ w, AccB m w ↔ AccB n w) ∧
      L.pcall 17 [m.av] = some (.tup [kk.av, .int .i64 0]) ∧ L.pcall 22 [kk.av, m.av] = some (.bool true) ∧
      L.pcall 15 [m.av] = some (.tup [sw zr r, .int .i64 0]) ∧ L.pcall 16 [m.av] = some (.tup [sw zp p, .int .i64 0]) ∧ L.pcall 29 [sw zr r] = some (.int .i64 m.states) ∧ L.pcall 29 [sw zp p] = some (.int .i64 m.states) := by
  -- reachable and productive states of an automaton
  have both : ∀ n : Aut, Fits n → Valid n → (n.z1 = true → n.st = []) → (n.z2 = true → n.fi = []) → n.ed.length < 1000 → ∃ z zr r C zp p D, L.pcall 15 [n.av] = some (.tup [sw zr r, .int .i64 0]) ∧ HasSet (sw zr r) C ∧ Rea n C ∧ L.pcall 16 [n.av] = some (.tup [sw zp p, .int .i64 0]) ∧ HasSet (sw zp p) D ∧ Rea (revA n z) D := by
    intro n hf hv hz1 hz2 hz3
    obtain ⟨e, r1, r2, r3, r4⟩ := reverse_eq n hf hz1 hz2 (by omega)
    obtain rfl : e = 0 := r2.2 hv
    obtain ⟨z, r5, r6⟩ := r4 rfl
    have hf' := fits_rev hf z
    obtain ⟨e', q1, q2⟩ := check_eq (revA n z) hf'
    obtain rfl : e' = 0 := q2.2 (valid_rev hv z)
    obtain ⟨zb, rb, D, b1, b2, b4⟩ := reach_has (revA n z) hf' q1 (valid_rev hv z)
    have b3 := prod_has n (revA n z) r5 b1
    obtain ⟨zr, rr, C, c1, c2, c3⟩ := reach_has n hf r1 hv
    exact ⟨z, zr, rr, C, zb, rb, D, c1, c2, c3, b3, b2, b4⟩
  obtain ⟨z, zr, r, C, zp, p, D, c1, c2, c3, b3, b2, b4⟩ := both n hf hv hz1 hz2 hz3
  have hu := use_of hv c3 b4
  obtain ⟨y1, y2, y3, t1, t2, t3, t4⟩ := trim_eq n hf hv l1 l2 c1 c2 b3 b2
  have hmf := trim_fits (z1 := y1) (z2 := y2) (z3 := y3) hf (fun j => C j && D j)
  have hmv := trim_valid (z1 := y1) (z2 := y2) (z3 := y3) hv hu
  have hmi := trim_in (z1 := y1) (z2 := y2) (z3 := y3) hu
  have hacc := fun w => acc_trim (z1 := y1) (z2 := y2) (z3 := y3) hu w
  have hst : (trimA n (fun j => C j && D j) y1 y2 y3).states = ((setL fun j => C j && D j).length : Nat) := rfl
  have hle := trim_states hu
  have hml1 : (trimA n (fun j => C j && D j) y1 y2 y3).st.length < 1000 := Nat.lt_of_le_of_lt (List.length_filterMap_le _ _) l1
  have hml2 : (trimA n (fun j => C j && D j) y1 y2 y3).fi.length < 1000 := Nat.lt_of_le_of_lt (List.length_filterMap_le _ _) l2
  have hml3 : (trimA n (fun j => C j && D j) y1 y2 y3).ed.length < 1000 := Nat.lt_of_le_of_lt (List.length_filterMap_le _ _) hz3
  have hvars : (trimA n (fun j => C j && D j) y1 y2 y3).vars = n.vars := rfl
  obtain ⟨z', zr', r', C', zp', p', D', c1', c2', c3', b3', b2', b4'⟩ := both _ hmf hmv t2 t3 hml3
  have hC' := reach_all hu c3'
  -- the other direction
  have hu2 := use_rev hv c3 b4
  have hD' : ∀ j, D' j = decide (j < (setL fun j => C j && D j).length) := by
    have hcomm : (fun j => C j && D j) = (fun j => D j && C j) := by funext j; rw [Bool.and_comm]
    obtain ⟨x3, hx⟩ := trim_rev (n := n) (zz := z) (z1 := y1) (z2 := y2) (z3 := y3) (fun j => C j && D j) z'
    rw [hx] at b4'
    rw [hcomm] at b4' ⊢
    exact reach_all hu2 b4'
  have hU' : ∀ j, (C' j && D' j) = decide (j < (setL fun j => C j && D j).length) := fun j => by rw [hC', hD', Bool.and_self]
  obtain ⟨x1, x2, x3, s1, s2, s3, s4⟩ := trim_eq _ hmf hmv hml1 hml2 c1' c2' b3' b2'
  have hfull := trim_full (z1 := x1) (z2 := x2) (z3 := x3) hmi hst (by omega) hU'
  have e1 := len_has c2'
  have e2 := len_has b2'
  have f1 : (setL C').length = (setL fun j => C j && D j).length := by
    rw [setL_congr (T := fun j => decide (j < (setL fun j => C j && D j).length)) (fun j _ => hC' j), setL_full (by omega)]
  have f2 : (setL D').length = (setL fun j => C j && D j).length := by
    rw [setL_congr (T := fun j => decide (j < (setL fun j => C j && D j).length)) (fun j _ => hD' j), setL_full (by omega)]
  rw [f1, ← hst] at e1
  rw [f2, ← hst] at e2
  have hsame := nfa_same _ hmf x1 x2 x3
  rw [← hfull] at hsame
  exact ⟨_, _, zr', zp', r', p', t1, hmf, hmv, hvars, hacc, s1, hsame, c1', b3', e1, e2⟩

set_option maxRecDepth 100000 in
set_option maxHeartbeats 8000000 in
theorem law5 (avs : List AV) (h : FitTs [TNfa, TWord] avs) : L.pcall 5 avs = some (.bool true) := by
  obtain ⟨_, r, rfl, h0, h⟩ := fitTs_cons h
  obtain ⟨_, r, rfl, h1, h⟩ := fitTs_cons h
  obtain rfl := fitTs_nil h
  obtain ⟨n, rfl, hz1, hz2, hb⟩ := fit_nfa h0
  obtain ⟨zw, w, rfl, hzw, hwl, hw⟩ := fit_word (fitT_one h1)
  clear h h0 h1
  have hlong := long1 n
  rw [a5p, a5, pbodyA_eq]
  by_cases hL : (decide (100 < n.st.length) || decide (100 < n.fi.length) || decide (520 < n.ed.length)) = true
  · rw [hL] at hlong
    simp (maxSteps := 30000000) (disch := first | assumption | omega | (simp only [List.length_cons, List.length_nil, List.length_append, List.length_set, List.length_replicate, List.length_map, List.length_range, List.length_take, List.length_drop, List.all_cons, List.all_nil, AV.isCell, Bool.and_self, Bool.and_true, bs_length, is64_length, w64_length, ints_length, edges_length] <;> omega) | rfl | decide) only [bodyA_eq, List.length_cons, List.length_nil, Nat.zero_add, Nat.reduceAdd, Nat.reduceSub, pads, List.cons_append, List.nil_append, run_seq, run_region, runOps_cons, oper_none, ex_box, AV.cells, opv, List.getD_cons_zero, List.all_cons, AV.isCell, List.all_nil, Bool.and_self, if_true, putK_to, List.set_cons_succ, List.set_cons_zero, opsK_some, ex_mov, runOps_nil, regK_some, seqK_normal, ex_load, List.getD_cons_succ, rd_ptr, List.getElem?_cons_zero, rdK_cells, List.drop_zero, List.take_succ_cons, List.take_nil, loadK_n, valK_some, ex_bslice, beq_self_eq_true, repz_1, List.append_nil, List.map_cons, Nat.reduceMul, List.map_nil, fillA, Nat.le_refl, and_self, splice, List.take_zero, List.drop_succ_cons, List.drop_nil, newK_some, newA_data, frzN, List.flatMap_cons, bor_int, bor_sl, List.flatMap_nil, List.isEmpty_nil, List.mapM_cons, frz_int, frz_sl, List.mapM_nil, Option.pure_def, Option.bind_eq_bind, Option.bind_some, slK_some, ex_call, pcallA_eq, argK_some, hlong, retK_some, scal, scal1, fzIds, List.foldl_nil, ite_self, oper_guard, guardK_bool, Bool.true_eq_false, putA_to, if_false, ex_len, ex_bin, ex_pick, pickA_bool, awake_eq, ex_un, run_cond, condK_bool, run_ret, run_skip, seqK_ret, bodyK_ret, results_1, res_tmp, retvK_some, pbodyK_some, frz_bool]
  have hL' : (decide (100 < n.st.length) || decide (100 < n.fi.length) || decide (520 < n.ed.length)) = false := by simpa using hL
  rw [hL'] at hlong
  simp only [Bool.or_eq_false_iff, decide_eq_false_iff_not] at hL'
  have hf : Fits n := ⟨by omega, by omega, by omega, hb⟩
  by_cases hW : 100 < w.length
  · have el : (100 : Int) < (w.length : Nat) := by omega
    simp (maxSteps := 30000000) (disch := first | assumption | omega | (simp only [List.length_cons, List.length_nil, List.length_append, List.length_set, List.length_replicate, List.length_map, List.length_range, List.length_take, List.length_drop, List.all_cons, List.all_nil, AV.isCell, Bool.and_self, Bool.and_true, bs_length, is64_length, w64_length, ints_length, edges_length] <;> omega) | rfl | decide) only [bodyA_eq, List.length_cons, List.length_nil, Nat.zero_add, Nat.reduceAdd, Nat.reduceSub, pads, List.cons_append, List.nil_append, run_seq, run_region, runOps_cons, oper_none, ex_box, AV.cells, opv, List.getD_cons_zero, List.all_cons, AV.isCell, List.all_nil, Bool.and_self, if_true, putK_to, List.set_cons_succ, List.set_cons_zero, opsK_some, ex_mov, runOps_nil, regK_some, seqK_normal, ex_load, List.getD_cons_succ, rd_ptr, List.getElem?_cons_zero, rdK_cells, List.drop_zero, List.take_succ_cons, List.take_nil, loadK_n, valK_some, ex_bslice, beq_self_eq_true, repz_1, List.append_nil, List.map_cons, Nat.reduceMul, List.map_nil, fillA, Nat.le_refl, and_self, splice, List.take_zero, List.drop_succ_cons, List.drop_nil, newK_some, newA_data, frzN, List.flatMap_cons, bor_int, bor_sl, List.flatMap_nil, List.isEmpty_nil, List.mapM_cons, frz_int, frz_sl, List.mapM_nil, Option.pure_def, Option.bind_eq_bind, Option.bind_some, slK_some, ex_call, pcallA_eq, argK_some, hlong, retK_some, scal, scal1, fzIds, List.foldl_nil, ite_self, oper_guard, guardK_bool, putA_to, ex_len, lenA_sl, ex_bin, bin_gtr, el, decide_true, ex_pick, pickA_bool, Bool.false_eq_true, Bool.true_eq_false, awake_eq, if_false, ex_un, run_cond, condK_bool, run_ret, run_skip, seqK_ret, bodyK_ret, results_1, res_tmp, retvK_some, pbodyK_some, frz_bool]
  have el : ((100 : Int) < (w.length : Nat)) = False := eq_false (by omega)
  obtain ⟨e, q1, q2, q3, q4, q5⟩ := acc_has n hf zw w hw (by omega)
  by_cases he : e = 0
  · subst he
    have hv := q2.1 rfl
    obtain ⟨m, kk, zr, zp, r, p, g1, g2, g3, g4, g5, g6, g7, g8, g9, g10, g11⟩ := trim_facts n hf hv hz1 hz2 (by omega) (by omega) (by omega) q1
    obtain ⟨e', p1, p2, p3, p4, p5⟩ := acc_has m g2 zw w hw (by omega)
    obtain rfl : e' = 0 := p2.2 g3
    rw [g4] at p4 p5
    by_cases hwe : wordErr n.vars.toNat w = 0
    · obtain ⟨t, k1, k2⟩ := q5 rfl hwe
      obtain ⟨t', k3, k4⟩ := p5 rfl hwe
      have : t' = t := by rw [Bool.eq_iff_iff, k4, k2, g5 w]
      subst this
      clear q3 q4 q5 p3 p4 p5
      cases t' <;> simp (maxSteps := 30000000) (disch := first | assumption | omega | (simp only [List.length_cons, List.length_nil, List.length_append, List.length_set, List.length_replicate, List.length_map, List.length_range, List.length_take, List.length_drop, List.all_cons, List.all_nil, AV.isCell, Bool.and_self, Bool.and_true, bs_length, is64_length, w64_length, ints_length, edges_length] <;> omega) | rfl | decide) only [bodyA_eq, List.length_cons, List.length_nil, Nat.zero_add, Nat.reduceAdd, Nat.reduceSub, pads, List.cons_append, List.nil_append, run_seq, run_region, runOps_cons, oper_none, ex_box, AV.cells, opv, List.getD_cons_zero, List.all_cons, AV.isCell, List.all_nil, Bool.and_self, if_true, putK_to, List.set_cons_succ, List.set_cons_zero, opsK_some, ex_mov, runOps_nil, regK_some, seqK_normal, ex_load, List.getD_cons_succ, rd_ptr, List.getElem?_cons_zero, rdK_cells, List.drop_zero, List.take_succ_cons, List.take_nil, loadK_n, valK_some, ex_bslice, beq_self_eq_true, repz_1, List.append_nil, List.map_cons, Nat.reduceMul, List.map_nil, fillA, Nat.le_refl, and_self, splice, List.take_zero, List.drop_succ_cons, List.drop_nil, newK_some, newA_data, frzN, List.flatMap_cons, bor_int, bor_sl, List.flatMap_nil, List.isEmpty_nil, List.mapM_cons, frz_int, frz_sl, List.mapM_nil, Option.pure_def, Option.bind_eq_bind, Option.bind_some, slK_some, ex_call, pcallA_eq, argK_some, hlong, retK_some, scal, scal1, fzIds, List.foldl_nil, ite_self, oper_guard, guardK_bool, putA_to, ex_len, lenA_sl, ex_bin, bin_gtr, el, decide_false, ex_pick, pickA_bool, Bool.false_eq_true, if_false, awake_eq, ex_un, un_not, Bool.not_true, run_cond, condK_bool, run_ret, run_skip, frz_agg, Option.map_some, g1, Bool.and_true, bor_agg, ex_ext, extA_tup, List.getElem?_cons_succ, ex_store, wr_ptr, wrK_cells, storeK_some, putK_no, k1, k3, bin_neq, decide_true, g6, g8, g9, run_draw, runFree_cons, foper_none, fe_mov, fstK_some, fputK_to, freeK_some, fe_bin, bin_eql, foper_guard, fguardK_bool, fe_beq, ex_beq, beqA_f, fe_pick, fe_load, fe_call, g7, quietK_some, quietCall, Bool.or_true, g10, fe_faddr, ex_faddr, faddrA_ptr, loadK_1, g11, runFree_nil, drawK_some, adopt, adoptVal, bodyK_ret, results_1, res_tmp, retvK_some, pbodyK_some, frz_bool]
    · have k1 := q4 rfl hwe
      have k3 := p4 rfl hwe
      generalize wordErr n.vars.toNat w = we at *
      clear q3 q4 q5 p3 p4 p5
      simp (maxSteps := 30000000) (disch := first | assumption | omega | (simp only [List.length_cons, List.length_nil, List.length_append, List.length_set, List.length_replicate, List.length_map, List.length_range, List.length_take, List.length_drop, List.all_cons, List.all_nil, AV.isCell, Bool.and_self, Bool.and_true, bs_length, is64_length, w64_length, ints_length, edges_length] <;> omega) | rfl | decide) only [bodyA_eq, List.length_cons, List.length_nil, Nat.zero_add, Nat.reduceAdd, Nat.reduceSub, pads, List.cons_append, List.nil_append, run_seq, run_region, runOps_cons, oper_none, ex_box, AV.cells, opv, List.getD_cons_zero, List.all_cons, AV.isCell, List.all_nil, Bool.and_self, if_true, putK_to, List.set_cons_succ, List.set_cons_zero, opsK_some, ex_mov, runOps_nil, regK_some, seqK_normal, ex_load, List.getD_cons_succ, rd_ptr, List.getElem?_cons_zero, rdK_cells, List.drop_zero, List.take_succ_cons, List.take_nil, loadK_n, valK_some, ex_bslice, beq_self_eq_true, repz_1, List.append_nil, List.map_cons, Nat.reduceMul, List.map_nil, fillA, Nat.le_refl, and_self, splice, List.take_zero, List.drop_succ_cons, List.drop_nil, newK_some, newA_data, frzN, List.flatMap_cons, bor_int, bor_sl, List.flatMap_nil, List.isEmpty_nil, List.mapM_cons, frz_int, frz_sl, List.mapM_nil, Option.pure_def, Option.bind_eq_bind, Option.bind_some, slK_some, ex_call, pcallA_eq, argK_some, hlong, retK_some, scal, scal1, fzIds, List.foldl_nil, ite_self, oper_guard, guardK_bool, putA_to, ex_len, lenA_sl, ex_bin, bin_gtr, el, decide_false, ex_pick, pickA_bool, Bool.false_eq_true, if_false, awake_eq, ex_un, un_not, Bool.not_true, run_cond, condK_bool, run_ret, run_skip, frz_agg, Option.map_some, g1, Bool.and_true, bor_agg, ex_ext, extA_tup, List.getElem?_cons_succ, ex_store, wr_ptr, wrK_cells, storeK_some, putK_no, k1, k3, bin_neq, decide_true, g6, g8, g9, run_draw, runFree_cons, foper_none, fe_mov, fstK_some, fputK_to, freeK_some, fe_bin, bin_eql, foper_guard, fguardK_bool, fe_beq, ex_beq, beqA_f, fe_pick, fe_load, fe_call, g7, quietK_some, quietCall, Bool.or_true, g10, fe_faddr, ex_faddr, faddrA_ptr, loadK_1, g11, runFree_nil, drawK_some, adopt, adoptVal, bodyK_ret, results_1, res_tmp, retvK_some, pbodyK_some, frz_bool]
  · have k1 := q3 he
    have k2 := reach_bad n q1 he
    have k3 := trim_bad n k2 rfl he
    obtain ⟨t, g, k4⟩ : ∃ t g, L.pcall 25 [zeroA.av, word zw w] = some (.tup [.bool t, .int .i64 g]) := by
      obtain ⟨e', p1, p2, p3, p4, p5⟩ := acc_has zeroA ⟨by decide, by decide, by decide, fun e he => by simp [zeroA] at he⟩ zw w hw (by omega)
      by_cases he' : e' = 0
      · by_cases hwe : wordErr zeroA.vars.toNat w = 0
        · obtain ⟨t, k1, _⟩ := p5 he' hwe
          exact ⟨t, 0, k1⟩
        · exact ⟨false, _, p4 he' hwe⟩
      · exact ⟨false, _, p3 he'⟩
    clear q2 q3 q4 q5
    simp (maxSteps := 30000000) (disch := first | assumption | omega | (simp only [List.length_cons, List.length_nil, List.length_append, List.length_set, List.length_replicate, List.length_map, List.length_range, List.length_take, List.length_drop, List.all_cons, List.all_nil, AV.isCell, Bool.and_self, Bool.and_true, bs_length, is64_length, w64_length, ints_length, edges_length] <;> omega) | rfl | decide) only [bodyA_eq, List.length_cons, List.length_nil, Nat.zero_add, Nat.reduceAdd, Nat.reduceSub, pads, List.cons_append, List.nil_append, run_seq, run_region, runOps_cons, oper_none, ex_box, AV.cells, opv, List.getD_cons_zero, List.all_cons, AV.isCell, List.all_nil, Bool.and_self, if_true, putK_to, List.set_cons_succ, List.set_cons_zero, opsK_some, ex_mov, runOps_nil, regK_some, seqK_normal, ex_load, List.getD_cons_succ, rd_ptr, List.getElem?_cons_zero, rdK_cells, List.drop_zero, List.take_succ_cons, List.take_nil, loadK_n, valK_some, ex_bslice, beq_self_eq_true, repz_1, List.append_nil, List.map_cons, Nat.reduceMul, List.map_nil, fillA, Nat.le_refl, and_self, splice, List.take_zero, List.drop_succ_cons, List.drop_nil, newK_some, newA_data, frzN, List.flatMap_cons, bor_int, bor_sl, List.flatMap_nil, List.isEmpty_nil, List.mapM_cons, frz_int, frz_sl, List.mapM_nil, Option.pure_def, Option.bind_eq_bind, Option.bind_some, slK_some, ex_call, pcallA_eq, argK_some, hlong, retK_some, scal, scal1, fzIds, List.foldl_nil, ite_self, oper_guard, guardK_bool, putA_to, ex_len, lenA_sl, ex_bin, bin_gtr, el, decide_false, ex_pick, pickA_bool, Bool.false_eq_true, if_false, awake_eq, ex_un, un_not, Bool.not_true, run_cond, condK_bool, run_ret, run_skip, frz_agg, Option.map_some, k3, Bool.and_true, bor_agg, ex_ext, extA_tup, List.getElem?_cons_succ, ex_store, wr_ptr, wrK_cells, storeK_some, putK_no, k1, k4, bin_neq, he, Bool.not_false, q1, bin_eql, decide_true, ex_faddr, faddrA_ptr, loadK_1, seqK_ret, bodyK_ret, results_1, res_tmp, retvK_some, pbodyK_some, frz_bool]
    rfl
end Go.Abs.NfaD
