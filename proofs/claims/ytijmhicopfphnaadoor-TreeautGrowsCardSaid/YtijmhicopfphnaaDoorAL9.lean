/- The law TreeautGrows. -/
import Derived.Test.YtijmhicopfphnaaDoorAL8
import Derived.Test.YtijmhicopfphnaaDoorAK1
namespace Go.Abs.Tree
open Go Go.Abs
set_option linter.unusedSimpArgs false
set_option linter.unusedVariables false

theorem ev_mono {E : Nat} {rl rl' : List Rl} (h : ∀ u ∈ rl', u ∈ rl) (h0 : ∀ e ∈ rl, 0 ≤ e.t) : ∀ (T : BT) (j : Nat), (ev E rl' T).testBit j = true → (ev E rl T).testBit j = true
  | .nil, j, hj => hj
  | .node x l r, j, hj => by
    have hl := ev_mono (E := E) h h0 l
    have hr := ev_mono (E := E) h h0 r
    rw [ev, toM_bit _ _ _ _ _ _ (fun e he => h0 e (h e he)), Nat.zero_testBit, Bool.false_or, List.any_eq_true] at hj
    rw [ev, toM_bit _ _ _ _ _ _ h0, Nat.zero_testBit, Bool.false_or, List.any_eq_true]
    obtain ⟨u, hu, hh⟩ := hj
    refine ⟨u, h u hu, ?_⟩
    unfold hit at hh ⊢
    simp only [Bool.and_eq_true] at hh ⊢
    exact ⟨⟨⟨hl _ hh.1.1.1, hr _ hh.1.1.2⟩, hh.1.2⟩, hh.2⟩

/-- a number brought into 0..m -/
theorem into (p : Int) (m : Nat) (hm : m < 1099511627776) : ∃ k : Nat, k ≤ m ∧ (IntKind.i64.wrap (IntKind.i64.wrap (p.tmod ((m + 1 : Nat) : Int) + (m : Nat)) + 1)).tmod ((m + 1 : Nat) : Int) = (k : Nat) := by
  have h1 := Int.tmod_lt_of_pos p (show (0 : Int) < ((m + 1 : Nat) : Int) by omega)
  have h2 := Int.lt_tmod_of_pos p (show (0 : Int) < ((m + 1 : Nat) : Int) by omega)
  have w : ∀ x : Int, -9223372036854775808 ≤ x → x < 9223372036854775808 → IntKind.i64.wrap x = x := fun x a b => by
    simp [IntKind.wrap, IntKind.bits, IntKind.signed]; omega
  rw [w (p.tmod _ + _) (by omega) (by omega), w _ (by omega) (by omega)]
  have h3 := Int.tmod_lt_of_pos (p.tmod ((m + 1 : Nat) : Int) + (m : Nat) + 1) (show (0 : Int) < ((m + 1 : Nat) : Int) by omega)
  have h4 := Int.tmod_nonneg (a := p.tmod ((m + 1 : Nat) : Int) + (m : Nat) + 1) ((m + 1 : Nat) : Int) (by omega)
  exact ⟨((p.tmod ((m + 1 : Nat) : Int) + (m : Nat) + 1).tmod ((m + 1 : Nat) : Int)).toNat, by omega, by omega⟩

abbrev leA (n : Aut) (kr kf : Nat) : Aut := ⟨n.vars, n.states, n.z1, n.st, n.z2, n.fi.take kf, n.z3, n.rl.take kr⟩

set_option maxHeartbeats 4000000 in
theorem law7 (n : Aut) (z : Bool) (t : List Lf) (p q : Int) (hb : ∀ e ∈ n.rl, e.p < 256 ∧ e.n < 256) (hx : ∀ e ∈ t, e.x < 256) :
    L.pcall 7 [n.av, tw z t, .agg [.int .i64 p, .int .i64 q]] = some (.bool true) := by
  have hsm := small34 n
  have hcp := copy13 z (t.take 15) (by rw [List.length_take]; omega)
  have e15 : min ((t.length : Nat) : Int) 15 = ((t.take 15).length : Nat) := by rw [List.length_take]; omega
  have l15 : (t.take 15).length ≤ t.length := by rw [List.length_take]; omega
  have t15 : List.take ((t.take 15).length * 3) (lfs t) = lfs (t.take 15) := by
    unfold lfs
    rw [rows_take (enc := encF) (k := 3) (fun _ => rfl), take_len]
  have hx' : ∀ e ∈ t.take 15, e.x < 256 := fun e he => hx e (List.mem_of_mem_take he)
  have ht' : (t.take 15).length < 1099511627776 := by rw [List.length_take]; omega
  generalize t.take 15 = u at *
  have hI : TyA (cpA (smA n)) := ⟨by simp; omega, by simp; omega, by simp; omega, fun e he => hb e (List.mem_of_mem_take he)⟩
  generalize cpA (smA n) = m at *
  have hcm := copy33 m hI.st hI.fi hI.rl
  have hC : TyA (cpA m) := ⟨hI.st, hI.fi, hI.rl, hI.u8⟩
  obtain ⟨kr, kr1, kr3⟩ := into p m.rl.length hI.rl
  obtain ⟨kf, kf1, kf3⟩ := into q m.fi.length hI.fi
  have lr : (m.rl.take kr).length = kr := by rw [List.length_take]; omega
  have lf : (m.fi.take kf).length = kf := by rw [List.length_take]; omega
  have t5 : List.take (kr * 5) (rls m.rl) = rls (m.rl.take kr) := by
    unfold rls
    rw [rows_take (enc := encR) (k := 5) (fun _ => rfl)]
  have hLs : TyA (leA (cpA m) kr kf) := ⟨hI.st, by simp; have := hI.fi; omega, by simp; have := hI.rl; omega, fun e he => hI.u8 e (List.mem_of_mem_take he)⟩
  obtain ⟨e1, zz1, l1, b1, s1, a1, n1, y1⟩ := run_ex m (u.length == 0) u hI ht' hx'
  obtain ⟨e2, zz2, l2, b2, s2, a2, n2, y2⟩ := run_ex (leA (cpA m) kr kf) (u.length == 0) u hLs ht' hx'
  have hkk := k16
  have r1 := hI.rl
  have r2 := hI.fi
  simp only [leA, cpA, Aut.av, Aut.cells, iw, lr, lf] at s2 a2
  have e0 : (((0 : Nat) : Int) = 0) = True := eq_true rfl
  have le1 : ((l1.length : Int) = 0) = (l1.length = 0) := propext ⟨fun h => by omega, fun h => by omega⟩
  by_cases c1 : e1 = 0
  · subst c1
    obtain ⟨V1, ⟨T, hF⟩, g1⟩ := y1 rfl
    obtain ⟨S1, B1⟩ := g1 T hF
    by_cases c2 : e2 = 0
    · subst c2
      obtain ⟨V2, -, g2⟩ := y2 rfl
      obtain ⟨S2, B2⟩ := g2 T hF
      have mono : ∀ j, (evA (leA (cpA m) kr kf) T).testBit j = true → (evA m T).testBit j = true := fun j hj =>
        ev_mono (rl := m.rl) (rl' := m.rl.take kr) (fun u hu => List.mem_of_mem_take hu) (fun e he => (V1.rule e he).2.2.1) T j hj
      obtain ⟨tt, h35, hs⟩ := subset_has S2 S1
      have htt : tt = true := hs.2 (fun j hj => by
        simp only [Bool.and_eq_true] at hj ⊢
        exact ⟨hj.1, mono j hj.2⟩)
      subst htt
      have hb : b2 = true → b1 = true := fun hb => by
        obtain ⟨j, h1, h2⟩ := B2.1 hb
        refine B1.2 ⟨j, mono j h1, ?_⟩
        rw [List.contains_iff_mem] at h2 ⊢
        exact List.mem_of_mem_take h2
      rw [a7p, a7, pbodyA_eq]
      cases hb1 : b1 with
      | true => 
        rw [hb1] at a1
        simp (maxSteps := 30000000) (disch := first | assumption | omega | (simp only [List.length_cons, List.length_nil, List.length_append, List.length_set, List.length_replicate, List.length_map, List.length_range, List.length_take, List.length_drop, List.all_cons, List.all_nil, AV.isCell, Bool.and_self, Bool.and_true, bs_length, is64_length, w64_length, ints_length, lfs_length, rls_length] <;> omega) | rfl | decide) only [bodyA_eq, List.length_cons, List.length_nil, Nat.zero_add, Nat.reduceAdd, Nat.reduceSub, pads, List.cons_append, List.nil_append, run_seq, run_region, runOps_cons, oper_none, ex_box, AV.cells, opv, List.getD_cons_zero, List.all_cons, AV.isCell, List.all_nil, Bool.and_self, if_true, putK_to, List.set_cons_succ, List.set_cons_zero, opsK_some, List.getD_cons_succ, ex_mov, runOps_nil, regK_some, seqK_normal, run_draw, List.take_succ_cons, List.take_zero, runFree_cons, foper_none, fe_load, ex_load, rd_ptr, List.getElem?_cons_zero, rdK_cells, List.drop_zero, List.take_nil, loadK_n, valK_some, fstK_some, fputK_to, freeK_some, fe_call, List.map_cons, List.map_nil, pcallA_eq, frzN, List.mapM_cons, frz_agg, frz_int, frz_sl, List.mapM_nil, Option.pure_def, Option.bind_eq_bind, Option.bind_some, Option.map_some, argK_some, hsm, retK_some, scal, scal1, Bool.and_true, Bool.and_false, Bool.false_eq_true, fzIds, List.flatMap_cons, bor_agg, bor_int, bor_sl, List.flatMap_nil, List.append_nil, List.foldl_nil, ite_self, quietK_some, quietCall, Bool.or_true, fe_mov, fe_len, ex_len, lenA_sl, fe_mini, ex_mini, minA_int, e15, fe_slice, ex_slice, Option.map_none, sliceA_sl, bounds_ns, Int.toNat_natCast, cutK_sl, Nat.sub_zero, Nat.reduceMul, t15, hcp, fe_box, runFree_nil, drawK_some, List.drop_succ_cons, adopt, adoptVal, putA_to, ex_store, wr_ptr, List.getElem?_cons_succ, wrK_cells, splice, List.drop_nil, storeK_some, putK_no, ex_call, hcm, fe_faddr, ex_faddr, faddrA_ptr, loadK_1, fe_arrat, ex_arrat, arratA_ptr, Int.toNat_zero, Nat.mul_one, Nat.add_zero, fe_bin, ex_bin, bin_add, cadd1, wr64, bin_rem, kr3, t5, Int.toNat_one, kf3, ints_take, s1, ex_ext, extA_tup, s2, a1, a2, bin_neq, decide_true, Bool.not_true, oper_guard, guardK_bool, ex_pick, pickA_bool, if_false, run_cond, condK_bool, bin_eql, decide_eq_false_iff_not, opsK_ite, hkk, decide_eq_true_eq, guardK_tup, regK_ite, seqK_ite, run_ret, run_skip, h35, Bool.true_eq_false, ex_un, bodyK_ret, results_1, res_tmp, retvK_some, pbodyK_some, frz_bool]
      | false =>
        have hb2 : b2 = false := by cases b2 <;> simp_all
        rw [hb1] at a1
        rw [hb2] at a2
        simp (maxSteps := 30000000) (disch := first | assumption | omega | (simp only [List.length_cons, List.length_nil, List.length_append, List.length_set, List.length_replicate, List.length_map, List.length_range, List.length_take, List.length_drop, List.all_cons, List.all_nil, AV.isCell, Bool.and_self, Bool.and_true, bs_length, is64_length, w64_length, ints_length, lfs_length, rls_length] <;> omega) | rfl | decide) only [bodyA_eq, List.length_cons, List.length_nil, Nat.zero_add, Nat.reduceAdd, Nat.reduceSub, pads, List.cons_append, List.nil_append, run_seq, run_region, runOps_cons, oper_none, ex_box, AV.cells, opv, List.getD_cons_zero, List.all_cons, AV.isCell, List.all_nil, Bool.and_self, if_true, putK_to, List.set_cons_succ, List.set_cons_zero, opsK_some, List.getD_cons_succ, ex_mov, runOps_nil, regK_some, seqK_normal, run_draw, List.take_succ_cons, List.take_zero, runFree_cons, foper_none, fe_load, ex_load, rd_ptr, List.getElem?_cons_zero, rdK_cells, List.drop_zero, List.take_nil, loadK_n, valK_some, fstK_some, fputK_to, freeK_some, fe_call, List.map_cons, List.map_nil, pcallA_eq, frzN, List.mapM_cons, frz_agg, frz_int, frz_sl, List.mapM_nil, Option.pure_def, Option.bind_eq_bind, Option.bind_some, Option.map_some, argK_some, hsm, retK_some, scal, scal1, Bool.and_true, Bool.and_false, Bool.false_eq_true, fzIds, List.flatMap_cons, bor_agg, bor_int, bor_sl, List.flatMap_nil, List.append_nil, List.foldl_nil, ite_self, quietK_some, quietCall, Bool.or_true, fe_mov, fe_len, ex_len, lenA_sl, fe_mini, ex_mini, minA_int, e15, fe_slice, ex_slice, Option.map_none, sliceA_sl, bounds_ns, Int.toNat_natCast, cutK_sl, Nat.sub_zero, Nat.reduceMul, t15, hcp, fe_box, runFree_nil, drawK_some, List.drop_succ_cons, adopt, adoptVal, putA_to, ex_store, wr_ptr, List.getElem?_cons_succ, wrK_cells, splice, List.drop_nil, storeK_some, putK_no, ex_call, hcm, fe_faddr, ex_faddr, faddrA_ptr, loadK_1, fe_arrat, ex_arrat, arratA_ptr, Int.toNat_zero, Nat.mul_one, Nat.add_zero, fe_bin, ex_bin, bin_add, cadd1, wr64, bin_rem, kr3, t5, Int.toNat_one, kf3, ints_take, s1, ex_ext, extA_tup, s2, a1, a2, bin_neq, decide_true, Bool.not_true, oper_guard, guardK_bool, ex_pick, pickA_bool, if_false, run_cond, condK_bool, bin_eql, decide_eq_false_iff_not, opsK_ite, hkk, decide_eq_true_eq, guardK_tup, regK_ite, seqK_ite, run_ret, run_skip, h35, ex_un, un_not, Bool.not_false, bodyK_ret, results_1, res_tmp, retvK_some, pbodyK_some, frz_bool]
    · rw [a7p, a7, pbodyA_eq]
      by_cases c3 : l1.length = 0
      · simp (maxSteps := 30000000) (disch := first | assumption | omega | (simp only [List.length_cons, List.length_nil, List.length_append, List.length_set, List.length_replicate, List.length_map, List.length_range, List.length_take, List.length_drop, List.all_cons, List.all_nil, AV.isCell, Bool.and_self, Bool.and_true, bs_length, is64_length, w64_length, ints_length, lfs_length, rls_length] <;> omega) | rfl | decide) only [bodyA_eq, List.length_cons, List.length_nil, Nat.zero_add, Nat.reduceAdd, Nat.reduceSub, pads, List.cons_append, List.nil_append, run_seq, run_region, runOps_cons, oper_none, ex_box, AV.cells, opv, List.getD_cons_zero, List.all_cons, AV.isCell, List.all_nil, Bool.and_self, if_true, putK_to, List.set_cons_succ, List.set_cons_zero, opsK_some, List.getD_cons_succ, ex_mov, runOps_nil, regK_some, seqK_normal, run_draw, List.take_succ_cons, List.take_zero, runFree_cons, foper_none, fe_load, ex_load, rd_ptr, List.getElem?_cons_zero, rdK_cells, List.drop_zero, List.take_nil, loadK_n, valK_some, fstK_some, fputK_to, freeK_some, fe_call, List.map_cons, List.map_nil, pcallA_eq, frzN, List.mapM_cons, frz_agg, frz_int, frz_sl, List.mapM_nil, Option.pure_def, Option.bind_eq_bind, Option.bind_some, Option.map_some, argK_some, hsm, retK_some, scal, scal1, Bool.and_true, Bool.and_false, Bool.false_eq_true, fzIds, List.flatMap_cons, bor_agg, bor_int, bor_sl, List.flatMap_nil, List.append_nil, List.foldl_nil, ite_self, quietK_some, quietCall, Bool.or_true, fe_mov, fe_len, ex_len, lenA_sl, fe_mini, ex_mini, minA_int, e15, fe_slice, ex_slice, Option.map_none, sliceA_sl, bounds_ns, Int.toNat_natCast, cutK_sl, Nat.sub_zero, Nat.reduceMul, t15, hcp, fe_box, runFree_nil, drawK_some, List.drop_succ_cons, adopt, adoptVal, putA_to, ex_store, wr_ptr, List.getElem?_cons_succ, wrK_cells, splice, List.drop_nil, storeK_some, putK_no, ex_call, hcm, fe_faddr, ex_faddr, faddrA_ptr, loadK_1, fe_arrat, ex_arrat, arratA_ptr, Int.toNat_zero, Nat.mul_one, Nat.add_zero, fe_bin, ex_bin, bin_add, cadd1, wr64, bin_rem, kr3, t5, Int.toNat_one, kf3, ints_take, s1, ex_ext, extA_tup, s2, a1, a2, bin_neq, decide_true, Bool.not_true, oper_guard, guardK_bool, c2, decide_false, Bool.not_false, ex_pick, pickA_bool, run_cond, condK_bool, c3, castLit, bin_eql, Bool.true_eq_false, if_false, guardK_tup, run_ret, run_skip, seqK_ret, bodyK_ret, results_1, res_tmp, retvK_some, pbodyK_some, frz_bool]
      · simp (maxSteps := 30000000) (disch := first | assumption | omega | (simp only [List.length_cons, List.length_nil, List.length_append, List.length_set, List.length_replicate, List.length_map, List.length_range, List.length_take, List.length_drop, List.all_cons, List.all_nil, AV.isCell, Bool.and_self, Bool.and_true, bs_length, is64_length, w64_length, ints_length, lfs_length, rls_length] <;> omega) | rfl | decide) only [bodyA_eq, List.length_cons, List.length_nil, Nat.zero_add, Nat.reduceAdd, Nat.reduceSub, pads, List.cons_append, List.nil_append, run_seq, run_region, runOps_cons, oper_none, ex_box, AV.cells, opv, List.getD_cons_zero, List.all_cons, AV.isCell, List.all_nil, Bool.and_self, if_true, putK_to, List.set_cons_succ, List.set_cons_zero, opsK_some, List.getD_cons_succ, ex_mov, runOps_nil, regK_some, seqK_normal, run_draw, List.take_succ_cons, List.take_zero, runFree_cons, foper_none, fe_load, ex_load, rd_ptr, List.getElem?_cons_zero, rdK_cells, List.drop_zero, List.take_nil, loadK_n, valK_some, fstK_some, fputK_to, freeK_some, fe_call, List.map_cons, List.map_nil, pcallA_eq, frzN, List.mapM_cons, frz_agg, frz_int, frz_sl, List.mapM_nil, Option.pure_def, Option.bind_eq_bind, Option.bind_some, Option.map_some, argK_some, hsm, retK_some, scal, scal1, Bool.and_true, Bool.and_false, Bool.false_eq_true, fzIds, List.flatMap_cons, bor_agg, bor_int, bor_sl, List.flatMap_nil, List.append_nil, List.foldl_nil, ite_self, quietK_some, quietCall, Bool.or_true, fe_mov, fe_len, ex_len, lenA_sl, fe_mini, ex_mini, minA_int, e15, fe_slice, ex_slice, Option.map_none, sliceA_sl, bounds_ns, Int.toNat_natCast, cutK_sl, Nat.sub_zero, Nat.reduceMul, t15, hcp, fe_box, runFree_nil, drawK_some, List.drop_succ_cons, adopt, adoptVal, putA_to, ex_store, wr_ptr, List.getElem?_cons_succ, wrK_cells, splice, List.drop_nil, storeK_some, putK_no, ex_call, hcm, fe_faddr, ex_faddr, faddrA_ptr, loadK_1, fe_arrat, ex_arrat, arratA_ptr, Int.toNat_zero, Nat.mul_one, Nat.add_zero, fe_bin, ex_bin, bin_add, cadd1, wr64, bin_rem, kr3, t5, Int.toNat_one, kf3, ints_take, s1, ex_ext, extA_tup, s2, a1, a2, bin_neq, decide_true, Bool.not_true, oper_guard, guardK_bool, c2, decide_false, Bool.not_false, ex_pick, pickA_bool, run_cond, condK_bool, bin_eql, le1, c3, hkk, run_ret, run_skip, seqK_ret, bodyK_ret, results_1, res_tmp, retvK_some, pbodyK_some, frz_bool]
  · obtain ⟨rfl, rfl, rfl⟩ := n1 c1
    rw [a7p, a7, pbodyA_eq]
    simp (maxSteps := 30000000) (disch := first | assumption | omega | (simp only [List.length_cons, List.length_nil, List.length_append, List.length_set, List.length_replicate, List.length_map, List.length_range, List.length_take, List.length_drop, List.all_cons, List.all_nil, AV.isCell, Bool.and_self, Bool.and_true, bs_length, is64_length, w64_length, ints_length, lfs_length, rls_length] <;> omega) | rfl | decide) only [bodyA_eq, List.length_cons, List.length_nil, Nat.zero_add, Nat.reduceAdd, Nat.reduceSub, pads, List.cons_append, List.nil_append, run_seq, run_region, runOps_cons, oper_none, ex_box, AV.cells, opv, List.getD_cons_zero, List.all_cons, AV.isCell, List.all_nil, Bool.and_self, if_true, putK_to, List.set_cons_succ, List.set_cons_zero, opsK_some, List.getD_cons_succ, ex_mov, runOps_nil, regK_some, seqK_normal, run_draw, List.take_succ_cons, List.take_zero, runFree_cons, foper_none, fe_load, ex_load, rd_ptr, List.getElem?_cons_zero, rdK_cells, List.drop_zero, List.take_nil, loadK_n, valK_some, fstK_some, fputK_to, freeK_some, fe_call, List.map_cons, List.map_nil, pcallA_eq, frzN, List.mapM_cons, frz_agg, frz_int, frz_sl, List.mapM_nil, Option.pure_def, Option.bind_eq_bind, Option.bind_some, Option.map_some, argK_some, hsm, retK_some, scal, scal1, Bool.and_true, Bool.and_false, Bool.false_eq_true, fzIds, List.flatMap_cons, bor_agg, bor_int, bor_sl, List.flatMap_nil, List.append_nil, List.foldl_nil, ite_self, quietK_some, quietCall, Bool.or_true, fe_mov, fe_len, ex_len, lenA_sl, fe_mini, ex_mini, minA_int, e15, fe_slice, ex_slice, Option.map_none, sliceA_sl, bounds_ns, Int.toNat_natCast, cutK_sl, Nat.sub_zero, Nat.reduceMul, t15, hcp, fe_box, runFree_nil, drawK_some, List.drop_succ_cons, adopt, adoptVal, putA_to, ex_store, wr_ptr, List.getElem?_cons_succ, wrK_cells, splice, List.drop_nil, storeK_some, putK_no, ex_call, hcm, fe_faddr, ex_faddr, faddrA_ptr, loadK_1, fe_arrat, ex_arrat, arratA_ptr, Int.toNat_zero, Nat.mul_one, Nat.add_zero, fe_bin, ex_bin, bin_add, cadd1, wr64, bin_rem, kr3, t5, Int.toNat_one, kf3, ints_take, s1, ex_ext, extA_tup, s2, a1, a2, bin_neq, c1, decide_false, Bool.not_false, oper_guard, guardK_bool, Bool.true_eq_false, if_false, ex_pick, pickA_bool, run_cond, condK_bool, castLit, bin_eql, decide_true, guardK_tup, run_ret, run_skip, seqK_ret, bodyK_ret, results_1, res_tmp, retvK_some, pbodyK_some, frz_bool]
end Go.Abs.Tree
