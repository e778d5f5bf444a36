/- The law TreeautTrims, on the interpreter's values and on what fits. -/
import Derived.Test.YtijmhicopfphnaaDoorAL38
import Derived.Test.YtijmhicopfphnaaDoorAK1
import Derived.Test.YtijmhicopfphnaaDoorALF
namespace Go.Abs.Tree
open Go Go.Abs
set_option linter.unusedSimpArgs false
set_option linter.unusedVariables false

theorem tr_ty {n : Aut} {S w : Nat} {z1 z2 z3 : Bool} (hV : Valid n) (hU : Use n S w) (hT : TyA n) : TyA (trA n w n.states.toNat z1 z2 z3) := by
  refine ⟨Nat.lt_of_le_of_lt (mapL_len _ _) hT.st, Nat.lt_of_le_of_lt (mapL_len _ _) hT.fi, Nat.lt_of_le_of_lt (mapR_len _ _) hT.rl, fun e he => ?_⟩
  obtain ⟨u, hu, -, rfl⟩ := (mem_mapR (tr_rls hV hU)).1 he
  exact hT.u8 u hu

set_option maxRecDepth 20000 in
set_option maxHeartbeats 4000000 in
theorem law9 (n : Aut) (z : Bool) (t : List Lf) (hb : ∀ e ∈ n.rl, e.p < 256 ∧ e.n < 256) (hx : ∀ e ∈ t, e.x < 256) :
    L.pcall 9 [n.av, tw z t] = some (.bool true) := by
  have hsm := small34 n
  have hcp := copy13 z (t.take 15) (by rw [List.length_take]; omega)
  have e15 : min ((t.length : Nat) : Int) 15 = ((t.take 15).length : Nat) := by rw [List.length_take]; omega
  have l15 : (t.take 15).length ≤ t.length := by rw [List.length_take]; omega
  have t15 : List.take ((t.take 15).length * 3) (lfs t) = lfs (t.take 15) := by
    unfold lfs
    rw [rows_take (enc := encF) (k := 3) (fun _ => rfl), take_len]
  have hx' : ∀ e ∈ t.take 15, e.x < 256 := fun e he => hx e (List.mem_of_mem_take he)
  have ht' : (t.take 15).length < 1099511627776 := by rw [List.length_take]; omega
  generalize t.take 15 = u at *
  have hI : TyA (cpA (smA n)) := ⟨by simp; omega, by simp; omega, by simp; omega, fun e he => hb e (List.mem_of_mem_take he)⟩
  generalize cpA (smA n) = m at *
  have hkk := k16
  have hm := check_eq m hI.st hI.fi hI.rl hI.u8
  obtain ⟨tr1, tr2⟩ := trim22 hI
  by_cases c : chkE m = 0
  · obtain ⟨S, w, z1, z2, z3, hU, h1⟩ := tr2 c
    have hV := chkE_zero.1 c
    have hB := tr_valid (z1 := z1) (z2 := z2) (z3 := z3) hV hU
    have hTB := tr_ty (z1 := z1) (z2 := z2) (z3 := z3) hV hU hI
    have hkB := check_eq _ hTB.st hTB.fi hTB.rl hTB.u8
    rw [chkE_zero.2 hB] at hkB
    obtain ⟨S', w', y1, y2, y3, hU', h2⟩ := (trim22 hTB).2 (chkE_zero.2 hB)
    rw [tr_again hV hU hU'] at h2
    have h25 := aut_same _ hTB.st hTB.fi hTB.rl y1 y2 y3
    obtain ⟨e, zr, lr, r1, -, r3, r4⟩ := reach_ex _ hTB
    obtain rfl := r3.2 hB
    obtain ⟨v, v1, v2, v3, v4, v5⟩ := r4 rfl
    have hfull := tr_full (z1 := z1) (z2 := z2) (z3 := z3) hV hU v3 v4
    have hbelow : ∀ j, v.testBit j = true → j < rnk (fun j => w.testBit j) m.states.toNat := fun j hj => by
      have := v5 (fun j => decide (j < rnk (fun j => w.testBit j) m.states.toNat)) (fun u hu _ _ => by
        have hr := hB.rule u hu
        have hb : u.t < ((rnk (fun j => w.testBit j) m.states.toNat : Nat) : Int) := hr.2.2.2
        simp only [decide_eq_true_eq]; omega) (fun j hj => by
        have hj := (contains_word (fun q hq => (hB.sts q hq).1) j).1 hj
        have := ascB_mem hB.st _ hj
        have hb : (j : Int) < ((rnk (fun j => w.testBit j) m.states.toNat : Nat) : Int) := this.2
        simp only [decide_eq_true_eq]; omega) j hj
      simpa using this
    have hused := tr_used (z1 := z1) (z2 := z2) (z3 := z3) hV hU
    have hR : rnk (fun j => w.testBit j) m.states.toNat ≤ 64 := by
      have := rnk_le (fun j => w.testBit j) m.states.toNat
      have := hV.s64
      omega
    have hlen := len_has (v1.congr (T := fun j => decide (j < rnk (fun j => w.testBit j) m.states.toNat)) (fun j => by
      rw [Bool.eq_iff_iff]
      simp only [Bool.and_eq_true, decide_eq_true_eq]
      exact ⟨fun h => hbelow j h.2, fun h => ⟨by omega, hfull j h⟩⟩))
    rw [cnt_below (by omega)] at hlen
    obtain ⟨zp, lp, bp, -, p2, p3, p4⟩ := run_eq m (u.length == 0) u hI ht' hx'
    obtain ⟨zq, lq, bq, -, q2, q3, q4⟩ := run_eq (trA m w m.states.toNat z1 z2 z3) (u.length == 0) u hTB ht' hx'
    have ep : bothE m u = tchkE u m.vars.toNat := if_pos c
    have eq : bothE (trA m w m.states.toNat z1 z2 z3) u = tchkE u m.vars.toNat := if_pos (chkE_zero.2 hB)
    rw [ep] at p2 p3 p4
    rw [eq] at q2 q3 q4
    have hacc : bq = bp := by
      by_cases k : tchkE u m.vars.toNat = 0
      · obtain ⟨-, -, -, T, hF⟩ := bothE_zero.1 (ep.trans k)
        rw [Bool.eq_iff_iff, (p4 k T hF).2, (q4 k T hF).2]
        exact tr_acc hV hU T
      · obtain ⟨-, -, rfl⟩ := p3 k
        obtain ⟨-, -, rfl⟩ := q3 k
        rfl
    subst hacc
    generalize tchkE u m.vars.toNat = e at *
    have hBs : (trA m w m.states.toNat z1 z2 z3).states = ((rnk (fun j => w.testBit j) m.states.toNat : Nat) : Int) := rfl
    generalize trA m w m.states.toNat z1 z2 z3 = B at *
    generalize rnk (fun j => w.testBit j) m.states.toNat = R at *
    obtain ⟨s4', hall⟩ := all_used (b0 := .cells false false n.cells) (b1 := .cells false false m.cells) (b3 := .cells false false [.int .i64 B.vars, .int .i64 B.states, iw y1 B.st, iw y2 B.fi, .sl y3 B.rl.length (rls B.rl)]) (s13 := .bool bq) (s14 := .int .i64 e) (s15 := .bool bq) (s16 := .int .i64 e) hBs hR hTB.rl hTB.fi hused R 0 (.bool false) (by omega)
    simp only [Int.natCast_zero] at hall
    simp only [Aut.av, Aut.cells, hBs] at h1 h2 r1 q2 h25 hkB hall
    rw [a9p, a9, pbodyA_eq]
    simp (maxSteps := 30000000) (disch := first | assumption | omega | (simp only [List.length_cons, List.length_nil, List.length_append, List.length_set, List.length_replicate, List.length_map, List.length_range, List.length_take, List.length_drop, List.all_cons, List.all_nil, AV.isCell, Bool.and_self, Bool.and_true, bs_length, is64_length, w64_length, ints_length, lfs_length, rls_length] <;> omega) | rfl | decide) only [bodyA_eq, List.length_cons, List.length_nil, Nat.zero_add, Nat.reduceAdd, Nat.reduceSub, pads, List.cons_append, List.nil_append, run_seq, run_region, runOps_cons, oper_none, ex_box, AV.cells, opv, List.getD_cons_zero, List.all_cons, AV.isCell, List.all_nil, Bool.and_self, ↓reduceIte, putK_to, List.set_cons_succ, List.set_cons_zero, opsK_some, ex_mov, runOps_nil, regK_some, seqK_normal, run_draw, List.take_succ_cons, List.take_zero, runFree_cons, foper_none, fe_load, ex_load, List.getD_cons_succ, rd_ptr, List.getElem?_cons_zero, rdK_cells, List.drop_zero, List.take_nil, loadK_n, valK_some, fstK_some, fputK_to, freeK_some, fe_call, List.map_cons, List.map_nil, pcallA_eq, frzN, List.mapM_cons, frz_agg, frz_int, frz_sl, List.mapM_nil, Option.pure_def, Option.bind_eq_bind, Option.bind_some, Option.map_some, argK_some, hsm, retK_some, scal, scal1, Bool.and_true, Bool.and_false, Bool.false_eq_true, fzIds, List.flatMap_cons, bor_agg, bor_int, bor_sl, List.flatMap_nil, List.append_nil, List.foldl_nil, quietK_some, quietCall, Bool.or_true, fe_mov, fe_len, ex_len, lenA_sl, fe_mini, ex_mini, minA_int, e15, fe_slice, ex_slice, Option.map_none, sliceA_sl, bounds_ns, Int.toNat_natCast, cutK_sl, Nat.sub_zero, Nat.reduceMul, t15, hcp, fe_box, runFree_nil, drawK_some, List.drop_succ_cons, adopt, adoptVal, putA_to, ex_store, wr_ptr, List.getElem?_cons_succ, wrK_cells, splice, List.drop_nil, storeK_some, putK_no, ex_call, h1, ex_ext, extA_tup, ex_bin, bin_neq, decide_true, Bool.not_true, run_cond, condK_bool, run_skip, h2, r1, p2, q2, fe_bin, foper_guard, fguardK_bool, h25, fe_un, ex_un, un_not, fe_pick, ex_pick, pickA_bool, hlen, fe_faddr, ex_faddr, faddrA_ptr, loadK_1, oper_guard, guardK_bool, hkB, run_block, run_loop, a9l1c, hall, blockK_exit, ex_beq, beqA_f, bin_eql, hkk, run_ret, bodyK_ret, results_1, res_tmp, retvK_some, pbodyK_some, frz_bool]
  · have h1 := tr1 c
    generalize chkE m = e at *
    rw [a9p, a9, pbodyA_eq]
    simp (maxSteps := 30000000) (disch := first | assumption | omega | (simp only [List.length_cons, List.length_nil, List.length_append, List.length_set, List.length_replicate, List.length_map, List.length_range, List.length_take, List.length_drop, List.all_cons, List.all_nil, AV.isCell, Bool.and_self, Bool.and_true, bs_length, is64_length, w64_length, ints_length, lfs_length, rls_length] <;> omega) | rfl | decide) only [bodyA_eq, List.length_cons, List.length_nil, Nat.zero_add, Nat.reduceAdd, Nat.reduceSub, pads, List.cons_append, List.nil_append, run_seq, run_region, runOps_cons, oper_none, ex_box, AV.cells, opv, List.getD_cons_zero, List.all_cons, AV.isCell, List.all_nil, Bool.and_self, ↓reduceIte, putK_to, List.set_cons_succ, List.set_cons_zero, opsK_some, ex_mov, runOps_nil, regK_some, seqK_normal, run_draw, List.take_succ_cons, List.take_zero, runFree_cons, foper_none, fe_load, ex_load, List.getD_cons_succ, rd_ptr, List.getElem?_cons_zero, rdK_cells, List.drop_zero, List.take_nil, loadK_n, valK_some, fstK_some, fputK_to, freeK_some, fe_call, List.map_cons, List.map_nil, pcallA_eq, frzN, List.mapM_cons, frz_agg, frz_int, frz_sl, List.mapM_nil, Option.pure_def, Option.bind_eq_bind, Option.bind_some, Option.map_some, argK_some, hsm, retK_some, scal, scal1, Bool.and_true, Bool.and_false, Bool.false_eq_true, fzIds, List.flatMap_cons, bor_agg, bor_int, bor_sl, List.flatMap_nil, List.append_nil, List.foldl_nil, quietK_some, quietCall, Bool.or_true, fe_mov, fe_len, ex_len, lenA_sl, fe_mini, ex_mini, minA_int, e15, fe_slice, ex_slice, Option.map_none, sliceA_sl, bounds_ns, Int.toNat_natCast, cutK_sl, Nat.sub_zero, Nat.reduceMul, t15, hcp, fe_box, runFree_nil, drawK_some, List.drop_succ_cons, adopt, adoptVal, putA_to, ex_store, wr_ptr, List.getElem?_cons_succ, wrK_cells, splice, List.drop_nil, storeK_some, putK_no, ex_call, h1, ex_ext, extA_tup, ex_bin, bin_neq, c, decide_false, Bool.not_false, run_cond, condK_bool, hm, bin_eql, decide_true, oper_guard, guardK_bool, ex_faddr, faddrA_ptr, loadK_1, ex_pick, pickA_bool, hkk, run_ret, seqK_ret, bodyK_ret, results_1, res_tmp, retvK_some, pbodyK_some, frz_bool]

theorem law9t (avs : List AV) (h : FitTs [TAut, TTree] avs) : L.pcall 9 avs = some (.bool true) := by
  obtain ⟨_, r, rfl, h0, h⟩ := fitTs_cons h
  obtain ⟨_, r, rfl, h1, h⟩ := fitTs_cons h
  obtain rfl := fitTs_nil h
  obtain ⟨n, rfl, hb⟩ := fit_aut h0
  obtain ⟨z, t, rfl, hx⟩ := fit_tree (fitT_one h1)
  exact law9 n z t hb hx
end Go.Abs.Tree
