/- The law TreeautUnites, on the interpreter's values and on what fits. -/
import Derived.Test.YtijmhicopfphnaaDoorAL31
import Derived.Test.YtijmhicopfphnaaDoorAK1
import Derived.Test.YtijmhicopfphnaaDoorALF
namespace Go.Abs.Tree
open Go Go.Abs
set_option linter.unusedSimpArgs false
set_option linter.unusedVariables false

set_option maxRecDepth 20000 in
set_option maxHeartbeats 4000000 in
theorem law6 (n k : Aut) (z : Bool) (t : List Lf) (hb : ∀ e ∈ n.rl, e.p < 256 ∧ e.n < 256) (hbk : ∀ e ∈ k.rl, e.p < 256 ∧ e.n < 256) (hx : ∀ e ∈ t, e.x < 256) :
    L.pcall 6 [n.av, k.av, tw z t] = some (.bool true) := by
  have hsm := small34 n
  have hsk := small34 k
  have hcp := copy13 z (t.take 15) (by rw [List.length_take]; omega)
  have e15 : min ((t.length : Nat) : Int) 15 = ((t.take 15).length : Nat) := by rw [List.length_take]; omega
  have l15 : (t.take 15).length ≤ t.length := by rw [List.length_take]; omega
  have t15 : List.take ((t.take 15).length * 3) (lfs t) = lfs (t.take 15) := by
    unfold lfs
    rw [rows_take (enc := encF) (k := 3) (fun _ => rfl), take_len]
  have hx' : ∀ e ∈ t.take 15, e.x < 256 := fun e he => hx e (List.mem_of_mem_take he)
  have ht' : (t.take 15).length < 1099511627776 := by rw [List.length_take]; omega
  generalize t.take 15 = u at *
  have hI : TyA (cpA (smA n)) := ⟨by simp; omega, by simp; omega, by simp; omega, fun e he => hb e (List.mem_of_mem_take he)⟩
  have hJ : TyA (cpA (smA k)) := ⟨by simp; omega, by simp; omega, by simp; omega, fun e he => hbk e (List.mem_of_mem_take he)⟩
  have r1 : (cpA (smA n)).rl.length ≤ 100 := by simp; omega
  have r2 : (cpA (smA k)).rl.length ≤ 100 := by simp; omega
  have r3 : (cpA (smA n)).st.length ≤ 70 ∧ (cpA (smA n)).fi.length ≤ 70 := ⟨by simp; omega, by simp; omega⟩
  have r4 : (cpA (smA k)).st.length ≤ 70 ∧ (cpA (smA k)).fi.length ≤ 70 := ⟨by simp; omega, by simp; omega⟩
  generalize cpA (smA n) = x at *
  generalize cpA (smA k) = y at *
  have hkk := k16
  have c1 := check_eq x hI.st hI.fi hI.rl hI.u8
  have c2 := check_eq y hJ.st hJ.fi hJ.rl hJ.u8
  by_cases hE : uniE x y = 0
  · obtain ⟨z1, z2, z3, hu⟩ := union_ok x y hI hJ hE
    obtain ⟨hVx, hVy, hvv, hVu⟩ := uni_valid (z1 := z1) (z2 := z2) (z3 := z3) hE
    have s0 := hVx.s0
    have s64 := hVx.s64
    have hU : TyA (uniA x y z1 z2 z3) := ⟨by simp; omega, by simp; omega, by simp; omega, fun e he => by
      rcases List.mem_append.1 he with he | he
      · exact hI.u8 e he
      · obtain ⟨e', h1, rfl⟩ := List.mem_map.1 he
        exact hJ.u8 e' h1⟩
    obtain ⟨zp, lp, bp, p1, p2, p3, p4⟩ := run_eq x (u.length == 0) u hI ht' hx'
    obtain ⟨zq, lq, bq, q1, q2, q3, q4⟩ := run_eq y (u.length == 0) u hJ ht' hx'
    obtain ⟨zr, lr, br, v1, v2, v3, v4⟩ := run_eq (uniA x y z1 z2 z3) (u.length == 0) u hU ht' hx'
    have ex : bothE x u = tchkE u x.vars.toNat := if_pos (chkE_zero.2 hVx)
    have ey : bothE y u = tchkE u x.vars.toNat := by rw [hvv]; exact if_pos (chkE_zero.2 hVy)
    have eu : bothE (uniA x y z1 z2 z3) u = tchkE u x.vars.toNat := if_pos (chkE_zero.2 hVu)
    rw [ex] at p2 p3 p4
    rw [ey] at q2 q3 q4
    rw [eu] at v2 v3 v4
    have hacc : br = (bp || bq) := by
      by_cases c : tchkE u x.vars.toNat = 0
      · obtain ⟨-, -, -, T, hF⟩ := bothE_zero.1 (ex.trans c)
        rw [Bool.eq_iff_iff, Bool.or_eq_true, (p4 c T hF).2, (q4 c T hF).2, (v4 c T hF).2]
        exact uni_acc hVx hVy T
      · obtain ⟨-, -, rfl⟩ := p3 c
        obtain ⟨-, -, rfl⟩ := q3 c
        obtain ⟨-, -, rfl⟩ := v3 c
        rfl
    subst hacc
    generalize tchkE u x.vars.toNat = e at *
    generalize uniA x y z1 z2 z3 = U at *
    rw [a6p, a6, pbodyA_eq]
    cases bp with
    | true => simp (maxSteps := 30000000) (disch := first | assumption | omega | (simp only [List.length_cons, List.length_nil, List.length_append, List.length_set, List.length_replicate, List.length_map, List.length_range, List.length_take, List.length_drop, List.all_cons, List.all_nil, AV.isCell, Bool.and_self, Bool.and_true, bs_length, is64_length, w64_length, ints_length, lfs_length, rls_length] <;> omega) | rfl | decide) only [bodyA_eq, List.length_cons, List.length_nil, Nat.zero_add, Nat.reduceAdd, Nat.reduceSub, pads, List.cons_append, List.nil_append, run_seq, run_region, runOps_cons, oper_none, ex_box, AV.cells, opv, List.getD_cons_zero, List.all_cons, AV.isCell, List.all_nil, Bool.and_self, ↓reduceIte, putK_to, List.set_cons_succ, List.set_cons_zero, opsK_some, List.getD_cons_succ, ex_mov, runOps_nil, regK_some, seqK_normal, run_draw, List.take_succ_cons, List.take_zero, runFree_cons, foper_none, fe_load, ex_load, rd_ptr, List.getElem?_cons_zero, rdK_cells, List.drop_zero, List.take_nil, loadK_n, valK_some, fstK_some, fputK_to, freeK_some, fe_call, List.map_cons, List.map_nil, pcallA_eq, frzN, List.mapM_cons, frz_agg, frz_int, frz_sl, List.mapM_nil, Option.pure_def, Option.bind_eq_bind, Option.bind_some, Option.map_some, argK_some, hsm, retK_some, scal, scal1, Bool.and_true, Bool.and_false, Bool.false_eq_true, fzIds, List.flatMap_cons, bor_agg, bor_int, bor_sl, List.flatMap_nil, List.append_nil, List.foldl_nil, quietK_some, quietCall, Bool.or_true, List.getElem?_cons_succ, hsk, fe_mov, fe_len, ex_len, lenA_sl, fe_mini, ex_mini, minA_int, e15, fe_slice, ex_slice, Option.map_none, sliceA_sl, bounds_ns, Int.toNat_natCast, cutK_sl, Nat.sub_zero, Nat.reduceMul, t15, hcp, fe_box, runFree_nil, drawK_some, List.drop_succ_cons, adopt, adoptVal, putA_to, ex_store, wr_ptr, wrK_cells, splice, List.drop_nil, storeK_some, putK_no, ex_call, hu, ex_ext, extA_tup, ex_bin, bin_neq, decide_true, Bool.not_true, run_cond, condK_bool, run_skip, p2, q2, v2, Bool.true_or, bin_eql, oper_guard, guardK_bool, ex_pick, pickA_bool, Bool.true_eq_false, ex_beq, beqA_f, hkk, run_ret, bodyK_ret, results_1, res_tmp, retvK_some, pbodyK_some, frz_bool]
    | false => simp (maxSteps := 30000000) (disch := first | assumption | omega | (simp only [List.length_cons, List.length_nil, List.length_append, List.length_set, List.length_replicate, List.length_map, List.length_range, List.length_take, List.length_drop, List.all_cons, List.all_nil, AV.isCell, Bool.and_self, Bool.and_true, bs_length, is64_length, w64_length, ints_length, lfs_length, rls_length] <;> omega) | rfl | decide) only [bodyA_eq, List.length_cons, List.length_nil, Nat.zero_add, Nat.reduceAdd, Nat.reduceSub, pads, List.cons_append, List.nil_append, run_seq, run_region, runOps_cons, oper_none, ex_box, AV.cells, opv, List.getD_cons_zero, List.all_cons, AV.isCell, List.all_nil, Bool.and_self, ↓reduceIte, putK_to, List.set_cons_succ, List.set_cons_zero, opsK_some, List.getD_cons_succ, ex_mov, runOps_nil, regK_some, seqK_normal, run_draw, List.take_succ_cons, List.take_zero, runFree_cons, foper_none, fe_load, ex_load, rd_ptr, List.getElem?_cons_zero, rdK_cells, List.drop_zero, List.take_nil, loadK_n, valK_some, fstK_some, fputK_to, freeK_some, fe_call, List.map_cons, List.map_nil, pcallA_eq, frzN, List.mapM_cons, frz_agg, frz_int, frz_sl, List.mapM_nil, Option.pure_def, Option.bind_eq_bind, Option.bind_some, Option.map_some, argK_some, hsm, retK_some, scal, scal1, Bool.and_true, Bool.and_false, Bool.false_eq_true, fzIds, List.flatMap_cons, bor_agg, bor_int, bor_sl, List.flatMap_nil, List.append_nil, List.foldl_nil, quietK_some, quietCall, Bool.or_true, List.getElem?_cons_succ, hsk, fe_mov, fe_len, ex_len, lenA_sl, fe_mini, ex_mini, minA_int, e15, fe_slice, ex_slice, Option.map_none, sliceA_sl, bounds_ns, Int.toNat_natCast, cutK_sl, Nat.sub_zero, Nat.reduceMul, t15, hcp, fe_box, runFree_nil, drawK_some, List.drop_succ_cons, adopt, adoptVal, putA_to, ex_store, wr_ptr, wrK_cells, splice, List.drop_nil, storeK_some, putK_no, ex_call, hu, ex_ext, extA_tup, ex_bin, bin_neq, decide_true, Bool.not_true, run_cond, condK_bool, run_skip, p2, q2, v2, Bool.false_or, bin_eql, oper_guard, guardK_bool, ex_pick, pickA_bool, ex_beq, beqA_f, hkk, run_ret, bodyK_ret, results_1, res_tmp, retvK_some, pbodyK_some, frz_bool]
  · by_cases k1 : chkE x = 0
    · by_cases k2 : chkE y = 0
      · have hu := union_bad x y hI hJ k1 k2 hE
        have hVx := chkE_zero.1 k1
        have hVy := chkE_zero.1 k2
        have s1 := hVx.s0
        have s2 := hVx.s64
        have s3 := hVy.s0
        have s4 := hVy.s64
        rw [k1] at c1
        rw [k2] at c2
        by_cases k3 : x.vars = y.vars
        · have e3 : (x.vars = y.vars) = True := eq_true k3
          have k4 : 64 < x.states + y.states := by
            refine Decidable.byContradiction fun h4 => hE ?_
            unfold uniE
            rw [if_pos k1, if_pos k2, if_pos k3, if_neg (by omega)]
          generalize uniE x y = e at *
          rw [a6p, a6, pbodyA_eq]
          simp (maxSteps := 30000000) (disch := first | assumption | omega | (simp only [List.length_cons, List.length_nil, List.length_append, List.length_set, List.length_replicate, List.length_map, List.length_range, List.length_take, List.length_drop, List.all_cons, List.all_nil, AV.isCell, Bool.and_self, Bool.and_true, bs_length, is64_length, w64_length, ints_length, lfs_length, rls_length] <;> omega) | rfl | decide) only [bodyA_eq, List.length_cons, List.length_nil, Nat.zero_add, Nat.reduceAdd, Nat.reduceSub, pads, List.cons_append, List.nil_append, run_seq, run_region, runOps_cons, oper_none, ex_box, AV.cells, opv, List.getD_cons_zero, List.all_cons, AV.isCell, List.all_nil, Bool.and_self, ↓reduceIte, putK_to, List.set_cons_succ, List.set_cons_zero, opsK_some, List.getD_cons_succ, ex_mov, runOps_nil, regK_some, seqK_normal, run_draw, List.take_succ_cons, List.take_zero, runFree_cons, foper_none, fe_load, ex_load, rd_ptr, List.getElem?_cons_zero, rdK_cells, List.drop_zero, List.take_nil, loadK_n, valK_some, fstK_some, fputK_to, freeK_some, fe_call, List.map_cons, List.map_nil, pcallA_eq, frzN, List.mapM_cons, frz_agg, frz_int, frz_sl, List.mapM_nil, Option.pure_def, Option.bind_eq_bind, Option.bind_some, Option.map_some, argK_some, hsm, retK_some, scal, scal1, Bool.and_true, Bool.and_false, Bool.false_eq_true, fzIds, List.flatMap_cons, bor_agg, bor_int, bor_sl, List.flatMap_nil, List.append_nil, List.foldl_nil, quietK_some, quietCall, Bool.or_true, List.getElem?_cons_succ, hsk, fe_mov, fe_len, ex_len, lenA_sl, fe_mini, ex_mini, minA_int, e15, fe_slice, ex_slice, Option.map_none, sliceA_sl, bounds_ns, Int.toNat_natCast, cutK_sl, Nat.sub_zero, Nat.reduceMul, t15, hcp, fe_box, runFree_nil, drawK_some, List.drop_succ_cons, adopt, adoptVal, putA_to, ex_store, wr_ptr, wrK_cells, splice, List.drop_nil, storeK_some, putK_no, ex_call, hu, ex_ext, extA_tup, ex_bin, bin_neq, hE, decide_false, Bool.not_false, run_cond, condK_bool, ex_faddr, faddrA_ptr, loadK_1, bin_eql, decide_true, oper_guard, guardK_bool, c1, Bool.not_true, c2, ex_pick, pickA_bool, Nat.add_zero, e3, bin_add, wr64, bin_gtr, k4, hkk, run_ret, seqK_ret, bodyK_ret, results_1, res_tmp, retvK_some, pbodyK_some, frz_bool]
        · have e3 : (x.vars = y.vars) = False := eq_false k3
          generalize uniE x y = e at *
          rw [a6p, a6, pbodyA_eq]
          simp (maxSteps := 30000000) (disch := first | assumption | omega | (simp only [List.length_cons, List.length_nil, List.length_append, List.length_set, List.length_replicate, List.length_map, List.length_range, List.length_take, List.length_drop, List.all_cons, List.all_nil, AV.isCell, Bool.and_self, Bool.and_true, bs_length, is64_length, w64_length, ints_length, lfs_length, rls_length] <;> omega) | rfl | decide) only [bodyA_eq, List.length_cons, List.length_nil, Nat.zero_add, Nat.reduceAdd, Nat.reduceSub, pads, List.cons_append, List.nil_append, run_seq, run_region, runOps_cons, oper_none, ex_box, AV.cells, opv, List.getD_cons_zero, List.all_cons, AV.isCell, List.all_nil, Bool.and_self, ↓reduceIte, putK_to, List.set_cons_succ, List.set_cons_zero, opsK_some, List.getD_cons_succ, ex_mov, runOps_nil, regK_some, seqK_normal, run_draw, List.take_succ_cons, List.take_zero, runFree_cons, foper_none, fe_load, ex_load, rd_ptr, List.getElem?_cons_zero, rdK_cells, List.drop_zero, List.take_nil, loadK_n, valK_some, fstK_some, fputK_to, freeK_some, fe_call, List.map_cons, List.map_nil, pcallA_eq, frzN, List.mapM_cons, frz_agg, frz_int, frz_sl, List.mapM_nil, Option.pure_def, Option.bind_eq_bind, Option.bind_some, Option.map_some, argK_some, hsm, retK_some, scal, scal1, Bool.and_true, Bool.and_false, Bool.false_eq_true, fzIds, List.flatMap_cons, bor_agg, bor_int, bor_sl, List.flatMap_nil, List.append_nil, List.foldl_nil, quietK_some, quietCall, Bool.or_true, List.getElem?_cons_succ, hsk, fe_mov, fe_len, ex_len, lenA_sl, fe_mini, ex_mini, minA_int, e15, fe_slice, ex_slice, Option.map_none, sliceA_sl, bounds_ns, Int.toNat_natCast, cutK_sl, Nat.sub_zero, Nat.reduceMul, t15, hcp, fe_box, runFree_nil, drawK_some, List.drop_succ_cons, adopt, adoptVal, putA_to, ex_store, wr_ptr, wrK_cells, splice, List.drop_nil, storeK_some, putK_no, ex_call, hu, ex_ext, extA_tup, ex_bin, bin_neq, hE, decide_false, Bool.not_false, run_cond, condK_bool, ex_faddr, faddrA_ptr, loadK_1, bin_eql, decide_true, oper_guard, guardK_bool, c1, Bool.not_true, c2, ex_pick, pickA_bool, Nat.add_zero, e3, Bool.true_eq_false, hkk, run_ret, seqK_ret, bodyK_ret, results_1, res_tmp, retvK_some, pbodyK_some, frz_bool]
      · have hu := union_err x y hI hJ (.inr k2)
        rw [k1] at c1
        generalize uniE x y = e at *
        generalize chkE y = e' at *
        rw [a6p, a6, pbodyA_eq]
        simp (maxSteps := 30000000) (disch := first | assumption | omega | (simp only [List.length_cons, List.length_nil, List.length_append, List.length_set, List.length_replicate, List.length_map, List.length_range, List.length_take, List.length_drop, List.all_cons, List.all_nil, AV.isCell, Bool.and_self, Bool.and_true, bs_length, is64_length, w64_length, ints_length, lfs_length, rls_length] <;> omega) | rfl | decide) only [bodyA_eq, List.length_cons, List.length_nil, Nat.zero_add, Nat.reduceAdd, Nat.reduceSub, pads, List.cons_append, List.nil_append, run_seq, run_region, runOps_cons, oper_none, ex_box, AV.cells, opv, List.getD_cons_zero, List.all_cons, AV.isCell, List.all_nil, Bool.and_self, ↓reduceIte, putK_to, List.set_cons_succ, List.set_cons_zero, opsK_some, List.getD_cons_succ, ex_mov, runOps_nil, regK_some, seqK_normal, run_draw, List.take_succ_cons, List.take_zero, runFree_cons, foper_none, fe_load, ex_load, rd_ptr, List.getElem?_cons_zero, rdK_cells, List.drop_zero, List.take_nil, loadK_n, valK_some, fstK_some, fputK_to, freeK_some, fe_call, List.map_cons, List.map_nil, pcallA_eq, frzN, List.mapM_cons, frz_agg, frz_int, frz_sl, List.mapM_nil, Option.pure_def, Option.bind_eq_bind, Option.bind_some, Option.map_some, argK_some, hsm, retK_some, scal, scal1, Bool.and_true, Bool.and_false, Bool.false_eq_true, fzIds, List.flatMap_cons, bor_agg, bor_int, bor_sl, List.flatMap_nil, List.append_nil, List.foldl_nil, quietK_some, quietCall, Bool.or_true, List.getElem?_cons_succ, hsk, fe_mov, fe_len, ex_len, lenA_sl, fe_mini, ex_mini, minA_int, e15, fe_slice, ex_slice, Option.map_none, sliceA_sl, bounds_ns, Int.toNat_natCast, cutK_sl, Nat.sub_zero, Nat.reduceMul, t15, hcp, fe_box, runFree_nil, drawK_some, List.drop_succ_cons, adopt, adoptVal, putA_to, ex_store, wr_ptr, wrK_cells, splice, List.drop_nil, storeK_some, putK_no, ex_call, hu, ex_ext, extA_tup, ex_bin, bin_neq, hE, decide_false, Bool.not_false, run_cond, condK_bool, ex_faddr, faddrA_ptr, loadK_1, bin_eql, decide_true, oper_guard, guardK_bool, c1, Bool.not_true, c2, k2, ex_pick, pickA_bool, Bool.true_eq_false, hkk, run_ret, seqK_ret, bodyK_ret, results_1, res_tmp, retvK_some, pbodyK_some, frz_bool]
    · have hu := union_err x y hI hJ (.inl k1)
      generalize uniE x y = e at *
      generalize chkE x = e' at *
      rw [a6p, a6, pbodyA_eq]
      simp (maxSteps := 30000000) (disch := first | assumption | omega | (simp only [List.length_cons, List.length_nil, List.length_append, List.length_set, List.length_replicate, List.length_map, List.length_range, List.length_take, List.length_drop, List.all_cons, List.all_nil, AV.isCell, Bool.and_self, Bool.and_true, bs_length, is64_length, w64_length, ints_length, lfs_length, rls_length] <;> omega) | rfl | decide) only [bodyA_eq, List.length_cons, List.length_nil, Nat.zero_add, Nat.reduceAdd, Nat.reduceSub, pads, List.cons_append, List.nil_append, run_seq, run_region, runOps_cons, oper_none, ex_box, AV.cells, opv, List.getD_cons_zero, List.all_cons, AV.isCell, List.all_nil, Bool.and_self, ↓reduceIte, putK_to, List.set_cons_succ, List.set_cons_zero, opsK_some, List.getD_cons_succ, ex_mov, runOps_nil, regK_some, seqK_normal, run_draw, List.take_succ_cons, List.take_zero, runFree_cons, foper_none, fe_load, ex_load, rd_ptr, List.getElem?_cons_zero, rdK_cells, List.drop_zero, List.take_nil, loadK_n, valK_some, fstK_some, fputK_to, freeK_some, fe_call, List.map_cons, List.map_nil, pcallA_eq, frzN, List.mapM_cons, frz_agg, frz_int, frz_sl, List.mapM_nil, Option.pure_def, Option.bind_eq_bind, Option.bind_some, Option.map_some, argK_some, hsm, retK_some, scal, scal1, Bool.and_true, Bool.and_false, Bool.false_eq_true, fzIds, List.flatMap_cons, bor_agg, bor_int, bor_sl, List.flatMap_nil, List.append_nil, List.foldl_nil, quietK_some, quietCall, Bool.or_true, List.getElem?_cons_succ, hsk, fe_mov, fe_len, ex_len, lenA_sl, fe_mini, ex_mini, minA_int, e15, fe_slice, ex_slice, Option.map_none, sliceA_sl, bounds_ns, Int.toNat_natCast, cutK_sl, Nat.sub_zero, Nat.reduceMul, t15, hcp, fe_box, runFree_nil, drawK_some, List.drop_succ_cons, adopt, adoptVal, putA_to, ex_store, wr_ptr, wrK_cells, splice, List.drop_nil, storeK_some, putK_no, ex_call, hu, ex_ext, extA_tup, ex_bin, bin_neq, hE, decide_false, Bool.not_false, run_cond, condK_bool, ex_faddr, faddrA_ptr, loadK_1, bin_eql, decide_true, oper_guard, guardK_bool, c1, k1, Bool.true_eq_false, ex_pick, pickA_bool, hkk, run_ret, seqK_ret, bodyK_ret, results_1, res_tmp, retvK_some, pbodyK_some, frz_bool]

theorem law6t (avs : List AV) (h : FitTs [TAut, TAut, TTree] avs) : L.pcall 6 avs = some (.bool true) := by
  obtain ⟨_, r, rfl, h0, h⟩ := fitTs_cons h
  obtain ⟨_, r, rfl, h1, h⟩ := fitTs_cons h
  obtain ⟨_, r, rfl, h2, h⟩ := fitTs_cons h
  obtain rfl := fitTs_nil h
  obtain ⟨n, rfl, hb⟩ := fit_aut h0
  obtain ⟨k, rfl, hk⟩ := fit_aut h1
  obtain ⟨z, t, rfl, hx⟩ := fit_tree (fitT_one h2)
  exact law6 n k z t hb hk hx
end Go.Abs.Tree
