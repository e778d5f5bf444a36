/- The law TreedetJoins on the interpreter's values. -/
import Derived.Test.YtdkbhidfiplncaaAD13
import Derived.Test.YtdkbhidfiplncaaAD4
import Derived.Test.YtdkbhidfiplncaaAK1
namespace Go.Abs.Det
open Go Go.Abs
set_option linter.unusedSimpArgs false
set_option linter.unusedVariables false

set_option maxRecDepth 20000 in
set_option maxHeartbeats 4000000 in
theorem law10 (d : Dfa) (x : Nat) (z1 z2 : Bool) (t1 t2 : List Lf) (hx : x < 256) (h1 : ∀ e ∈ t1, e.x < 256) (h2 : ∀ e ∈ t2, e.x < 256) :
    L.pcall 10 [d.av, .int .u8 (x : Nat), .agg [tw z1 t1, tw z2 t2]] = some (.bool true) := by
  have hsub := sub42 d
  have hkk := k15
  have e1 : min ((t1.length : Nat) : Int) 15 = ((t1.take 15).length : Nat) := by rw [List.length_take]; omega
  have e2 : min ((t2.length : Nat) : Int) 15 = ((t2.take 15).length : Nat) := by rw [List.length_take]; omega
  have l1 : (t1.take 15).length ≤ t1.length := by rw [List.length_take]; omega
  have l2 : (t2.take 15).length ≤ t2.length := by rw [List.length_take]; omega
  have k1 : List.take ((t1.take 15).length * 3) (lfs t1) = lfs (t1.take 15) := by
    unfold lfs
    rw [rows_take (enc := encF) (k := 3) (fun _ => rfl), take_len]
  have k2 : List.take ((t2.take 15).length * 3) (lfs t2) = lfs (t2.take 15) := by
    unfold lfs
    rw [rows_take (enc := encF) (k := 3) (fun _ => rfl), take_len]
  have c1 := copy13 z1 (t1.take 15) (by rw [List.length_take]; omega)
  have c2 := copy13 z2 (t2.take 15) (by rw [List.length_take]; omega)
  have hx1 : ∀ e ∈ t1.take 15, e.x < 256 := fun e he => h1 e (List.mem_of_mem_take he)
  have hx2 : ∀ e ∈ t2.take 15, e.x < 256 := fun e he => h2 e (List.mem_of_mem_take he)
  have m1 : (t1.take 15).length ≤ 15 := by rw [List.length_take]; omega
  have m2 : (t2.take 15).length ≤ 15 := by rw [List.length_take]; omega
  generalize t1.take 15 = a at *
  generalize t2.take 15 = b at *
  have hz1 : (a.length == 0) = true → a = [] := fun h => List.length_eq_zero_iff.1 (by simpa using h)
  have hz2 : (b.length == 0) = true → b = [] := fun h => List.length_eq_zero_iff.1 (by simpa using h)
  have hJ := Join39 x (a.length == 0) (b.length == 0) a b hz1 hz2 (by omega) (by omega)
  generalize (a.length == 0) = y1 at *
  generalize (b.length == 0) = y2 at *
  unfold Dfa.av at hsub ⊢
  unfold Dfa.cells at hsub ⊢
  unfold tw at c1 c2
  by_cases h0 : d.next.length = 0
  · -- no states
    have hb := nrm_bd d.vars (n := 3) (by omega)
    have hs2 : subT d = .agg [.int .i64 (nrm d.vars 3), .int .i64 0, .sl true 0 [], .sl true 0 []] := if_pos h0
    rw [hs2] at hsub
    have hr := fun z t => run16_none (nrm d.vars 3) 0 true true z t hb.1 (by omega)
    rcases hJ with ⟨_, _, _, l, r, _, _, hJ⟩ | ⟨e, he, _, hJ⟩
    · have hr' := hr false (encT 0 (.node x l r))
      unfold tw at hJ hr'
      rw [a10p, a10, pbodyA_eq]
      simp (maxSteps := 30000000) (disch := first | assumption | omega | (simp only [List.length_cons, List.length_nil, List.length_append, List.length_set, List.length_replicate, List.length_map, List.length_range, List.length_take, List.length_drop, List.all_cons, List.all_nil, AV.isCell, Bool.and_self, Bool.and_true, bs_length, is64_length, w64_length, ints_length, ints_length, bools_len, List.length_map, lfs_length] <;> omega) | rfl | decide) only [bodyA_eq, List.length_cons, List.length_nil, Nat.zero_add, Nat.reduceAdd, Nat.reduceSub, pads, List.cons_append, List.nil_append, run_seq, run_region, runOps_cons, oper_none, ex_box, AV.cells, opv, List.getD_cons_zero, List.all_cons, AV.isCell, List.all_nil, Bool.and_self, ↓reduceIte, putK_to, List.set_cons_succ, List.set_cons_zero, opsK_some, List.getD_cons_succ, ex_mov, runOps_nil, regK_some, seqK_normal, ex_load, rd_ptr, List.getElem?_cons_zero, rdK_cells, List.drop_zero, List.take_succ_cons, List.take_nil, loadK_n, valK_some, ex_call, List.map_cons, List.map_nil, pcallA_eq, frzN, List.mapM_cons, frz_agg, frz_int, frz_sl, List.mapM_nil, Option.pure_def, Option.bind_eq_bind, Option.bind_some, Option.map_some, argK_some, hsub, retK_some, scal, scal1, Bool.and_true, Bool.and_false, Bool.false_eq_true, fzIds, List.flatMap_cons, bor_agg, bor_int, bor_sl, List.flatMap_nil, List.append_nil, List.foldl_nil, ex_store, wr_ptr, List.getElem?_cons_succ, wrK_cells, splice, List.take_zero, List.drop_succ_cons, List.drop_nil, storeK_some, putK_no, run_draw, runFree_cons, foper_none, fe_arrat, ex_arrat, arratA_ptr, Int.toNat_zero, Nat.mul_one, Nat.add_zero, fstK_some, fputK_to, freeK_some, fe_load, loadK_1, fe_len, ex_len, lenA_sl, fe_mini, ex_mini, minA_int, e1, fe_slice, ex_slice, Option.map_none, sliceA_sl, bounds_ns, Int.toNat_natCast, cutK_sl, Nat.sub_zero, Nat.reduceMul, k1, fe_call, c1, quietK_some, quietCall, Bool.or_true, Int.toNat_one, e2, k2, runFree_nil, drawK_some, adopt, adoptVal, c2, hJ, ex_ext, extA_tup, hr', ex_bin, bin_neq, decide_true, Bool.not_true, oper_guard, guardK_bool, Int.reduceEq, decide_false, Bool.not_false, ex_pick, pickA_bool, run_cond, condK_bool, castLit, bin_eql, hkk, run_ret, seqK_ret, bodyK_ret, results_1, res_tmp, retvK_some, pbodyK_some, frz_bool]
    · have hr' := hr true []
      unfold tw at hJ hr'
      change L.pcall 16 [_, .sl true 0 []] = _ at hr'
      rw [a10p, a10, pbodyA_eq]
      simp (maxSteps := 30000000) (disch := first | assumption | omega | (simp only [List.length_cons, List.length_nil, List.length_append, List.length_set, List.length_replicate, List.length_map, List.length_range, List.length_take, List.length_drop, List.all_cons, List.all_nil, AV.isCell, Bool.and_self, Bool.and_true, bs_length, is64_length, w64_length, ints_length, ints_length, bools_len, List.length_map, lfs_length] <;> omega) | rfl | decide) only [bodyA_eq, List.length_cons, List.length_nil, Nat.zero_add, Nat.reduceAdd, Nat.reduceSub, pads, List.cons_append, List.nil_append, run_seq, run_region, runOps_cons, oper_none, ex_box, AV.cells, opv, List.getD_cons_zero, List.all_cons, AV.isCell, List.all_nil, Bool.and_self, ↓reduceIte, putK_to, List.set_cons_succ, List.set_cons_zero, opsK_some, List.getD_cons_succ, ex_mov, runOps_nil, regK_some, seqK_normal, ex_load, rd_ptr, List.getElem?_cons_zero, rdK_cells, List.drop_zero, List.take_succ_cons, List.take_nil, loadK_n, valK_some, ex_call, List.map_cons, List.map_nil, pcallA_eq, frzN, List.mapM_cons, frz_agg, frz_int, frz_sl, List.mapM_nil, Option.pure_def, Option.bind_eq_bind, Option.bind_some, Option.map_some, argK_some, hsub, retK_some, scal, scal1, Bool.and_true, Bool.and_false, Bool.false_eq_true, fzIds, List.flatMap_cons, bor_agg, bor_int, bor_sl, List.flatMap_nil, List.append_nil, List.foldl_nil, ex_store, wr_ptr, List.getElem?_cons_succ, wrK_cells, splice, List.take_zero, List.drop_succ_cons, List.drop_nil, storeK_some, putK_no, run_draw, runFree_cons, foper_none, fe_arrat, ex_arrat, arratA_ptr, Int.toNat_zero, Nat.mul_one, Nat.add_zero, fstK_some, fputK_to, freeK_some, fe_load, loadK_1, fe_len, ex_len, lenA_sl, fe_mini, ex_mini, minA_int, e1, fe_slice, ex_slice, Option.map_none, sliceA_sl, bounds_ns, Int.toNat_natCast, cutK_sl, Nat.sub_zero, Nat.reduceMul, k1, fe_call, c1, quietK_some, quietCall, Bool.or_true, Int.toNat_one, e2, k2, runFree_nil, drawK_some, adopt, adoptVal, c2, hJ, ex_ext, extA_tup, hr', ex_bin, bin_neq, he, decide_false, Bool.not_false, oper_guard, guardK_bool, Bool.true_eq_false, putA_to, ex_pick, pickA_bool, run_cond, condK_bool, castLit, bin_eql, decide_true, hkk, run_ret, seqK_ret, bodyK_ret, results_1, res_tmp, retvK_some, pbodyK_some, frz_bool]
  · rw [subT_some h0] at hsub
    have hV := subD_valid h0
    generalize subD d = D at *
    rcases hJ with ⟨f1, f2, hab, l, r, hl, hr, hJ⟩ | ⟨e, he, _, hJ⟩
    · obtain ⟨rfl, q1⟩ := formed_enc hl
      obtain ⟨rfl, q2⟩ := formed_enc hr
      have hll := encT_length l 0
      have hrl := encT_length r 0
      have hsz : (BT.node x l r).size = 1 + (l.size + r.size) := rfl
      by_cases hlab : x < two D.vars ∧ l.labs (· < two D.vars) ∧ r.labs (· < two D.vars)
      · have ra := run16_ok hV false (T := .node x l r) (by omega) hlab
        have rb := run16_ok hV y1 (T := l) (by omega) hlab.2.1
        have rc := run16_ok hV y2 (T := r) (by omega) hlab.2.2
        have hjl := encT_length (.node x l r) 0
        rw [hsz] at hjl ra
        have sl := stL_len D l
        have sr := stL_len D r
        have b1 := stB_bd hV hlab.2.1
        have b2 := stB_bd hV hlab.2.2
        have g1 := getD_in (a := ([] : List (List Int))) (show (stB D l).toNat < D.next.length by omega)
        have g2 := hV.rl _ g1
        have g3 := getD_in (a := ([] : List Int)) (show (stB D r).toNat < (D.next.getD (stB D l).toNat []).length by omega)
        have g4 := hV.cl _ g1 _ g3
        have hx2' := hlab.1
        have n64 := hV.n64
        have hnode : stL D (.node x l r) = stB D (.node x l r) :: (stL D l ++ stL D r) := rfl
        have hfin : stB D (.node x l r) = ((D.next.getD (stB D l).toNat []).getD (stB D r).toNat []).getD x 0 := rfl
        have hgx : List.take 1 (List.drop x (ints ((D.next.getD (stB D l).toNat []).getD (stB D r).toNat []))) = [.int .i64 (((D.next.getD (stB D l).toNat []).getD (stB D r).toNat []).getD x 0)] := map_at1 _ _ (by omega)
        have hp : 0 < l.size → (stL D l).getD 0 0 = stB D l := fun h => stB_root D h
        have hq : 0 < r.size → (stL D r).getD 0 0 = stB D r := fun h => stB_root D h
        have hp0 : ¬ 0 < l.size → D.empty = stB D l := fun h => by cases l with | nil => rfl | node => simp [BT.size] at h
        have hq0 : ¬ 0 < r.size → D.empty = stB D r := fun h => by cases r with | nil => rfl | node => simp [BT.size] at h
        rw [hnode] at ra
        have hcp := copy47o false (stL D l) (by omega)
        have hsm := fun z => ints_same false z (stL D l ++ stL D r) (by rw [List.length_append]; omega)
        rw [hfin] at ra
        generalize stB D l = sl0 at *
        generalize stB D r = sr0 at *
        generalize stL D l = SL at *
        generalize stL D r = SR at *
        unfold tw at hJ ra rb rc
        unfold iw at hcp hsm
        simp only [List.length_append, sl, sr] at hcp hsm
        simp only [hll, hrl, hjl] at e1 e2 k1 k2 c1 c2 hJ ra rb rc
        unfold Da.av at hsub ra rb rc
        unfold Da.cells at hsub ra rb rc
        generalize lfs (encT 0 l) = tl at *
        generalize lfs (encT 0 r) = tr at *
        generalize lfs (encT 0 (.node x l r)) = tj at *
        generalize l.size = nl at *
        generalize r.size = nr at *
        have hsum : (((1 + (nl + nr) : Nat) : Int) = 1 + (nl : Nat) + (nr : Nat)) = True := eq_true (by omega)
        have hn1 : 1 + (nl + nr) - 1 = nl + nr := by omega
        have tk1 : List.take (nl + nr) (SL ++ SR) = SL ++ SR := List.take_of_length_le (by rw [List.length_append]; omega)
        have tk2 : List.take nl SL = SL := List.take_of_length_le (by omega)
        by_cases c3 : 0 < nl <;> by_cases c4 : 0 < nr
        · have c3' : (0 : Int) < (nl : Nat) := by omega
          have c4' : (0 : Int) < (nr : Nat) := by omega
          rw [a10p, a10, pbodyA_eq]
          simp (maxSteps := 30000000) (disch := first | assumption | omega | (simp only [List.length_cons, List.length_nil, List.length_append, List.length_set, List.length_replicate, List.length_map, List.length_range, List.length_take, List.length_drop, List.all_cons, List.all_nil, AV.isCell, Bool.and_self, Bool.and_true, bs_length, is64_length, w64_length, ints_length, ints_length, bools_len, List.length_map, lfs_length] <;> omega) | rfl | decide) only [bodyA_eq, List.length_cons, List.length_nil, Nat.zero_add, Nat.reduceAdd, Nat.reduceSub, pads, List.cons_append, List.nil_append, run_seq, run_region, runOps_cons, oper_none, ex_box, AV.cells, opv, List.getD_cons_zero, List.all_cons, AV.isCell, List.all_nil, Bool.and_self, ↓reduceIte, putK_to, List.set_cons_succ, List.set_cons_zero, opsK_some, List.getD_cons_succ, ex_mov, runOps_nil, regK_some, seqK_normal, ex_load, rd_ptr, List.getElem?_cons_zero, rdK_cells, List.drop_zero, List.take_succ_cons, List.take_nil, loadK_n, valK_some, ex_call, List.map_cons, List.map_nil, pcallA_eq, frzN, List.mapM_cons, frz_agg, frz_int, frz_sl, List.mapM_nil, Option.pure_def, Option.bind_eq_bind, Option.bind_some, Option.map_some, argK_some, hsub, retK_some, scal, scal1, Bool.and_true, Bool.and_false, Bool.false_eq_true, fzIds, List.flatMap_cons, bor_agg, bor_int, bor_sl, List.flatMap_nil, List.append_nil, List.foldl_nil, ex_store, wr_ptr, List.getElem?_cons_succ, wrK_cells, splice, List.take_zero, List.drop_succ_cons, List.drop_nil, storeK_some, putK_no, run_draw, runFree_cons, foper_none, fe_arrat, ex_arrat, arratA_ptr, Int.toNat_zero, Nat.mul_one, Nat.add_zero, fstK_some, fputK_to, freeK_some, fe_load, loadK_1, fe_len, ex_len, lenA_sl, fe_mini, ex_mini, minA_int, e1, fe_slice, ex_slice, Option.map_none, sliceA_sl, bounds_ns, Int.toNat_natCast, cutK_sl, Nat.sub_zero, Nat.reduceMul, k1, fe_call, c1, quietK_some, quietCall, Bool.or_true, Int.toNat_one, e2, k2, runFree_nil, drawK_some, adopt, adoptVal, c2, hJ, ex_ext, extA_tup, ra, ex_bin, bin_neq, decide_true, Bool.not_true, oper_guard, guardK_bool, ex_pick, pickA_bool, run_cond, condK_bool, run_skip, rb, rc, run_drawp, runPriv_cons, isPriv_mov, fe_mov, free1K_some, isPriv_bin, fe_bin, foper_guard, fguardK_bool, isPriv_pick, fe_pick, isPriv_len, bin_add, wr64, hsum, isPriv_slice, bounds_sn, hn1, ints_drop, ints_take, tk1, runPriv_nil, consK_some, drawpK_some, adoptS_nil, adoptL, ex_ocall, ocArgK_some, hcp, ocK_some, liftV, lift2, lift1, ex_append, src_sl, appK_own, appOK_cells, tk2, ints_app, frz_own, frzK_cells, frz_ints, slK_some, hsm, ex_un, un_not, apartK_some, fe_faddr, ex_faddr, faddrA_ptr, bin_gtr, c3', ex_iaddr, iaddrA_sl, rd_vptr, ints_at0, hp c3, c4', hq c4, fe_iaddr, ints_one, rows_at, rowsD, g2, row_at, rowT, g4, getD_dropI, bin_eql, hkk, run_ret, bodyK_ret, results_1, res_tmp, retvK_some, pbodyK_some, frz_bool]
        · have c3' : (0 : Int) < (nl : Nat) := by omega
          have c4' : ¬ (0 : Int) < (nr : Nat) := by omega
          have hz := hq0 c4
          subst hz
          rw [a10p, a10, pbodyA_eq]
          simp (maxSteps := 30000000) (disch := first | assumption | omega | (simp only [List.length_cons, List.length_nil, List.length_append, List.length_set, List.length_replicate, List.length_map, List.length_range, List.length_take, List.length_drop, List.all_cons, List.all_nil, AV.isCell, Bool.and_self, Bool.and_true, bs_length, is64_length, w64_length, ints_length, ints_length, bools_len, List.length_map, lfs_length] <;> omega) | rfl | decide) only [bodyA_eq, List.length_cons, List.length_nil, Nat.zero_add, Nat.reduceAdd, Nat.reduceSub, pads, List.cons_append, List.nil_append, run_seq, run_region, runOps_cons, oper_none, ex_box, AV.cells, opv, List.getD_cons_zero, List.all_cons, AV.isCell, List.all_nil, Bool.and_self, ↓reduceIte, putK_to, List.set_cons_succ, List.set_cons_zero, opsK_some, List.getD_cons_succ, ex_mov, runOps_nil, regK_some, seqK_normal, ex_load, rd_ptr, List.getElem?_cons_zero, rdK_cells, List.drop_zero, List.take_succ_cons, List.take_nil, loadK_n, valK_some, ex_call, List.map_cons, List.map_nil, pcallA_eq, frzN, List.mapM_cons, frz_agg, frz_int, frz_sl, List.mapM_nil, Option.pure_def, Option.bind_eq_bind, Option.bind_some, Option.map_some, argK_some, hsub, retK_some, scal, scal1, Bool.and_true, Bool.and_false, Bool.false_eq_true, fzIds, List.flatMap_cons, bor_agg, bor_int, bor_sl, List.flatMap_nil, List.append_nil, List.foldl_nil, ex_store, wr_ptr, List.getElem?_cons_succ, wrK_cells, splice, List.take_zero, List.drop_succ_cons, List.drop_nil, storeK_some, putK_no, run_draw, runFree_cons, foper_none, fe_arrat, ex_arrat, arratA_ptr, Int.toNat_zero, Nat.mul_one, Nat.add_zero, fstK_some, fputK_to, freeK_some, fe_load, loadK_1, fe_len, ex_len, lenA_sl, fe_mini, ex_mini, minA_int, e1, fe_slice, ex_slice, Option.map_none, sliceA_sl, bounds_ns, Int.toNat_natCast, cutK_sl, Nat.sub_zero, Nat.reduceMul, k1, fe_call, c1, quietK_some, quietCall, Bool.or_true, Int.toNat_one, e2, k2, runFree_nil, drawK_some, adopt, adoptVal, c2, hJ, ex_ext, extA_tup, ra, ex_bin, bin_neq, decide_true, Bool.not_true, oper_guard, guardK_bool, ex_pick, pickA_bool, run_cond, condK_bool, run_skip, rb, rc, run_drawp, runPriv_cons, isPriv_mov, fe_mov, free1K_some, isPriv_bin, fe_bin, foper_guard, fguardK_bool, isPriv_pick, fe_pick, isPriv_len, bin_add, wr64, hsum, isPriv_slice, bounds_sn, hn1, ints_drop, ints_take, tk1, runPriv_nil, consK_some, drawpK_some, adoptS_nil, adoptL, ex_ocall, ocArgK_some, hcp, ocK_some, liftV, lift2, lift1, ex_append, src_sl, appK_own, appOK_cells, tk2, ints_app, frz_own, frzK_cells, frz_ints, slK_some, hsm, ex_un, un_not, apartK_some, fe_faddr, ex_faddr, faddrA_ptr, bin_gtr, c3', ex_iaddr, iaddrA_sl, rd_vptr, ints_at0, hp c3, c4', decide_false, fe_iaddr, ints_one, rows_at, rowsD, g2, row_at, rowT, g4, getD_dropI, bin_eql, hkk, run_ret, bodyK_ret, results_1, res_tmp, retvK_some, pbodyK_some, frz_bool]
        · have c3' : ¬ (0 : Int) < (nl : Nat) := by omega
          have c4' : (0 : Int) < (nr : Nat) := by omega
          have hz := hp0 c3
          subst hz
          rw [a10p, a10, pbodyA_eq]
          simp (maxSteps := 30000000) (disch := first | assumption | omega | (simp only [List.length_cons, List.length_nil, List.length_append, List.length_set, List.length_replicate, List.length_map, List.length_range, List.length_take, List.length_drop, List.all_cons, List.all_nil, AV.isCell, Bool.and_self, Bool.and_true, bs_length, is64_length, w64_length, ints_length, ints_length, bools_len, List.length_map, lfs_length] <;> omega) | rfl | decide) only [bodyA_eq, List.length_cons, List.length_nil, Nat.zero_add, Nat.reduceAdd, Nat.reduceSub, pads, List.cons_append, List.nil_append, run_seq, run_region, runOps_cons, oper_none, ex_box, AV.cells, opv, List.getD_cons_zero, List.all_cons, AV.isCell, List.all_nil, Bool.and_self, ↓reduceIte, putK_to, List.set_cons_succ, List.set_cons_zero, opsK_some, List.getD_cons_succ, ex_mov, runOps_nil, regK_some, seqK_normal, ex_load, rd_ptr, List.getElem?_cons_zero, rdK_cells, List.drop_zero, List.take_succ_cons, List.take_nil, loadK_n, valK_some, ex_call, List.map_cons, List.map_nil, pcallA_eq, frzN, List.mapM_cons, frz_agg, frz_int, frz_sl, List.mapM_nil, Option.pure_def, Option.bind_eq_bind, Option.bind_some, Option.map_some, argK_some, hsub, retK_some, scal, scal1, Bool.and_true, Bool.and_false, Bool.false_eq_true, fzIds, List.flatMap_cons, bor_agg, bor_int, bor_sl, List.flatMap_nil, List.append_nil, List.foldl_nil, ex_store, wr_ptr, List.getElem?_cons_succ, wrK_cells, splice, List.take_zero, List.drop_succ_cons, List.drop_nil, storeK_some, putK_no, run_draw, runFree_cons, foper_none, fe_arrat, ex_arrat, arratA_ptr, Int.toNat_zero, Nat.mul_one, Nat.add_zero, fstK_some, fputK_to, freeK_some, fe_load, loadK_1, fe_len, ex_len, lenA_sl, fe_mini, ex_mini, minA_int, e1, fe_slice, ex_slice, Option.map_none, sliceA_sl, bounds_ns, Int.toNat_natCast, cutK_sl, Nat.sub_zero, Nat.reduceMul, k1, fe_call, c1, quietK_some, quietCall, Bool.or_true, Int.toNat_one, e2, k2, runFree_nil, drawK_some, adopt, adoptVal, c2, hJ, ex_ext, extA_tup, ra, ex_bin, bin_neq, decide_true, Bool.not_true, oper_guard, guardK_bool, ex_pick, pickA_bool, run_cond, condK_bool, run_skip, rb, rc, run_drawp, runPriv_cons, isPriv_mov, fe_mov, free1K_some, isPriv_bin, fe_bin, foper_guard, fguardK_bool, isPriv_pick, fe_pick, isPriv_len, bin_add, wr64, hsum, isPriv_slice, bounds_sn, hn1, ints_drop, ints_take, tk1, runPriv_nil, consK_some, drawpK_some, adoptS_nil, adoptL, ex_ocall, ocArgK_some, hcp, ocK_some, liftV, lift2, lift1, ex_append, src_sl, appK_own, appOK_cells, tk2, ints_app, frz_own, frzK_cells, frz_ints, slK_some, hsm, ex_un, un_not, apartK_some, fe_faddr, ex_faddr, faddrA_ptr, bin_gtr, c3', decide_false, c4', ex_iaddr, iaddrA_sl, rd_vptr, ints_at0, hq c4, fe_iaddr, ints_one, rows_at, rowsD, g2, row_at, rowT, g4, getD_dropI, bin_eql, hkk, run_ret, bodyK_ret, results_1, res_tmp, retvK_some, pbodyK_some, frz_bool]
        · have c3' : ¬ (0 : Int) < (nl : Nat) := by omega
          have c4' : ¬ (0 : Int) < (nr : Nat) := by omega
          have hz := hp0 c3
          subst hz
          have hz := hq0 c4
          subst hz
          rw [a10p, a10, pbodyA_eq]
          simp (maxSteps := 30000000) (disch := first | assumption | omega | (simp only [List.length_cons, List.length_nil, List.length_append, List.length_set, List.length_replicate, List.length_map, List.length_range, List.length_take, List.length_drop, List.all_cons, List.all_nil, AV.isCell, Bool.and_self, Bool.and_true, bs_length, is64_length, w64_length, ints_length, ints_length, bools_len, List.length_map, lfs_length] <;> omega) | rfl | decide) only [bodyA_eq, List.length_cons, List.length_nil, Nat.zero_add, Nat.reduceAdd, Nat.reduceSub, pads, List.cons_append, List.nil_append, run_seq, run_region, runOps_cons, oper_none, ex_box, AV.cells, opv, List.getD_cons_zero, List.all_cons, AV.isCell, List.all_nil, Bool.and_self, ↓reduceIte, putK_to, List.set_cons_succ, List.set_cons_zero, opsK_some, List.getD_cons_succ, ex_mov, runOps_nil, regK_some, seqK_normal, ex_load, rd_ptr, List.getElem?_cons_zero, rdK_cells, List.drop_zero, List.take_succ_cons, List.take_nil, loadK_n, valK_some, ex_call, List.map_cons, List.map_nil, pcallA_eq, frzN, List.mapM_cons, frz_agg, frz_int, frz_sl, List.mapM_nil, Option.pure_def, Option.bind_eq_bind, Option.bind_some, Option.map_some, argK_some, hsub, retK_some, scal, scal1, Bool.and_true, Bool.and_false, Bool.false_eq_true, fzIds, List.flatMap_cons, bor_agg, bor_int, bor_sl, List.flatMap_nil, List.append_nil, List.foldl_nil, ex_store, wr_ptr, List.getElem?_cons_succ, wrK_cells, splice, List.take_zero, List.drop_succ_cons, List.drop_nil, storeK_some, putK_no, run_draw, runFree_cons, foper_none, fe_arrat, ex_arrat, arratA_ptr, Int.toNat_zero, Nat.mul_one, Nat.add_zero, fstK_some, fputK_to, freeK_some, fe_load, loadK_1, fe_len, ex_len, lenA_sl, fe_mini, ex_mini, minA_int, e1, fe_slice, ex_slice, Option.map_none, sliceA_sl, bounds_ns, Int.toNat_natCast, cutK_sl, Nat.sub_zero, Nat.reduceMul, k1, fe_call, c1, quietK_some, quietCall, Bool.or_true, Int.toNat_one, e2, k2, runFree_nil, drawK_some, adopt, adoptVal, c2, hJ, ex_ext, extA_tup, ra, ex_bin, bin_neq, decide_true, Bool.not_true, oper_guard, guardK_bool, ex_pick, pickA_bool, run_cond, condK_bool, run_skip, rb, rc, run_drawp, runPriv_cons, isPriv_mov, fe_mov, free1K_some, isPriv_bin, fe_bin, foper_guard, fguardK_bool, isPriv_pick, fe_pick, isPriv_len, bin_add, wr64, hsum, isPriv_slice, bounds_sn, hn1, ints_drop, ints_take, tk1, runPriv_nil, consK_some, drawpK_some, adoptS_nil, adoptL, ex_ocall, ocArgK_some, hcp, ocK_some, liftV, lift2, lift1, ex_append, src_sl, appK_own, appOK_cells, tk2, ints_app, frz_own, frzK_cells, frz_ints, slK_some, hsm, ex_un, un_not, apartK_some, fe_faddr, ex_faddr, faddrA_ptr, bin_gtr, c3', decide_false, c4', fe_iaddr, ex_iaddr, iaddrA_sl, rd_vptr, ints_one, rows_at, rowsD, g2, row_at, rowT, g4, ints_at0, getD_dropI, bin_eql, hkk, run_ret, bodyK_ret, results_1, res_tmp, retvK_some, pbodyK_some, frz_bool]
      · have hne : tchkE (encT 0 (.node x l r)) D.vars.toNat ≠ 0 := fun hz => hlab (by
          obtain ⟨T', e1, _, e3⟩ := (tchk_zero hV.v0).1 hz
          have : T' = .node x l r := formed_uniq (t := encT 0 (.node x l r)) (by rw [e1]; exact enc_formed (by have := congrArg List.length e1; rw [encT_length, encT_length] at this; omega)) (enc_formed (by omega))
          subst this
          exact e3)
        have ra := run16_err hV false (encT 0 (.node x l r)) (by rw [encT_length]; omega) (fun e he => by
          rw [encT, List.mem_cons, List.mem_append] at he
          have mv : ∀ (T : BT) (m m' : Nat), (∀ e ∈ encT m T, e.x < 256) → ∀ e ∈ encT m' T, e.x < 256 := fun T m m' h => (enc_labs (p := (· < 256)) T m').2 ((enc_labs (p := (· < 256)) T m).1 h)
          rcases he with rfl | he | he
          · exact hx
          · exact mv l 0 _ hx1 e he
          · exact mv r 0 _ hx2 e he) hne
        generalize tchkE (encT 0 (.node x l r)) D.vars.toNat = e at *
        unfold tw at hJ ra
        unfold Da.av at hsub ra
        unfold Da.cells at hsub ra
        rw [a10p, a10, pbodyA_eq]
        simp (maxSteps := 30000000) (disch := first | assumption | omega | (simp only [List.length_cons, List.length_nil, List.length_append, List.length_set, List.length_replicate, List.length_map, List.length_range, List.length_take, List.length_drop, List.all_cons, List.all_nil, AV.isCell, Bool.and_self, Bool.and_true, bs_length, is64_length, w64_length, ints_length, ints_length, bools_len, List.length_map, lfs_length] <;> omega) | rfl | decide) only [bodyA_eq, List.length_cons, List.length_nil, Nat.zero_add, Nat.reduceAdd, Nat.reduceSub, pads, List.cons_append, List.nil_append, run_seq, run_region, runOps_cons, oper_none, ex_box, AV.cells, opv, List.getD_cons_zero, List.all_cons, AV.isCell, List.all_nil, Bool.and_self, ↓reduceIte, putK_to, List.set_cons_succ, List.set_cons_zero, opsK_some, List.getD_cons_succ, ex_mov, runOps_nil, regK_some, seqK_normal, ex_load, rd_ptr, List.getElem?_cons_zero, rdK_cells, List.drop_zero, List.take_succ_cons, List.take_nil, loadK_n, valK_some, ex_call, List.map_cons, List.map_nil, pcallA_eq, frzN, List.mapM_cons, frz_agg, frz_int, frz_sl, List.mapM_nil, Option.pure_def, Option.bind_eq_bind, Option.bind_some, Option.map_some, argK_some, hsub, retK_some, scal, scal1, Bool.and_true, Bool.and_false, Bool.false_eq_true, fzIds, List.flatMap_cons, bor_agg, bor_int, bor_sl, List.flatMap_nil, List.append_nil, List.foldl_nil, ex_store, wr_ptr, List.getElem?_cons_succ, wrK_cells, splice, List.take_zero, List.drop_succ_cons, List.drop_nil, storeK_some, putK_no, run_draw, runFree_cons, foper_none, fe_arrat, ex_arrat, arratA_ptr, Int.toNat_zero, Nat.mul_one, Nat.add_zero, fstK_some, fputK_to, freeK_some, fe_load, loadK_1, fe_len, ex_len, lenA_sl, fe_mini, ex_mini, minA_int, e1, fe_slice, ex_slice, Option.map_none, sliceA_sl, bounds_ns, Int.toNat_natCast, cutK_sl, Nat.sub_zero, Nat.reduceMul, k1, fe_call, c1, quietK_some, quietCall, Bool.or_true, Int.toNat_one, e2, k2, runFree_nil, drawK_some, adopt, adoptVal, c2, hJ, ex_ext, extA_tup, ra, ex_bin, bin_neq, decide_true, Bool.not_true, oper_guard, guardK_bool, hne, decide_false, Bool.not_false, ex_pick, pickA_bool, run_cond, condK_bool, castLit, bin_eql, hkk, run_ret, seqK_ret, bodyK_ret, results_1, res_tmp, retvK_some, pbodyK_some, frz_bool]
    · have hr' := run16_ok hV true (T := .nil) (by simp [BT.size]) trivial
      unfold tw at hJ
      change L.pcall 16 [_, .sl true 0 []] = some (.tup [.sl false 0 [], .int .i64 0]) at hr'
      unfold Da.av at hsub hr'
      unfold Da.cells at hsub hr'
      rw [a10p, a10, pbodyA_eq]
      simp (maxSteps := 30000000) (disch := first | assumption | omega | (simp only [List.length_cons, List.length_nil, List.length_append, List.length_set, List.length_replicate, List.length_map, List.length_range, List.length_take, List.length_drop, List.all_cons, List.all_nil, AV.isCell, Bool.and_self, Bool.and_true, bs_length, is64_length, w64_length, ints_length, ints_length, bools_len, List.length_map, lfs_length] <;> omega) | rfl | decide) only [bodyA_eq, List.length_cons, List.length_nil, Nat.zero_add, Nat.reduceAdd, Nat.reduceSub, pads, List.cons_append, List.nil_append, run_seq, run_region, runOps_cons, oper_none, ex_box, AV.cells, opv, List.getD_cons_zero, List.all_cons, AV.isCell, List.all_nil, Bool.and_self, ↓reduceIte, putK_to, List.set_cons_succ, List.set_cons_zero, opsK_some, List.getD_cons_succ, ex_mov, runOps_nil, regK_some, seqK_normal, ex_load, rd_ptr, List.getElem?_cons_zero, rdK_cells, List.drop_zero, List.take_succ_cons, List.take_nil, loadK_n, valK_some, ex_call, List.map_cons, List.map_nil, pcallA_eq, frzN, List.mapM_cons, frz_agg, frz_int, frz_sl, List.mapM_nil, Option.pure_def, Option.bind_eq_bind, Option.bind_some, Option.map_some, argK_some, hsub, retK_some, scal, scal1, Bool.and_true, Bool.and_false, Bool.false_eq_true, fzIds, List.flatMap_cons, bor_agg, bor_int, bor_sl, List.flatMap_nil, List.append_nil, List.foldl_nil, ex_store, wr_ptr, List.getElem?_cons_succ, wrK_cells, splice, List.take_zero, List.drop_succ_cons, List.drop_nil, storeK_some, putK_no, run_draw, runFree_cons, foper_none, fe_arrat, ex_arrat, arratA_ptr, Int.toNat_zero, Nat.mul_one, Nat.add_zero, fstK_some, fputK_to, freeK_some, fe_load, loadK_1, fe_len, ex_len, lenA_sl, fe_mini, ex_mini, minA_int, e1, fe_slice, ex_slice, Option.map_none, sliceA_sl, bounds_ns, Int.toNat_natCast, cutK_sl, Nat.sub_zero, Nat.reduceMul, k1, fe_call, c1, quietK_some, quietCall, Bool.or_true, Int.toNat_one, e2, k2, runFree_nil, drawK_some, adopt, adoptVal, c2, hJ, ex_ext, extA_tup, hr', ex_bin, bin_neq, he, decide_false, Bool.not_false, oper_guard, guardK_bool, Bool.true_eq_false, putA_to, ex_pick, pickA_bool, run_cond, condK_bool, castLit, bin_eql, decide_true, hkk, run_ret, seqK_ret, bodyK_ret, results_1, res_tmp, retvK_some, pbodyK_some, frz_bool]
end Go.Abs.Det
