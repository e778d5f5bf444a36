/- Concat of trees, join, Join. -/
import Derived.Test.YtdkbhidfiplncaaAD3
namespace Go.Abs.Det
open Go Go.Abs
set_option linter.unusedSimpArgs false
set_option linter.unusedVariables false

set_option maxHeartbeats 4000000 in
theorem concat97 (z1 z2 z3 : Bool) (a b c : List Lf) (h0 : 0 < a.length) (ha : a.length < 1099511627776) (hb : b.length < 1099511627776) (hc : c.length < 1099511627776) :
    L.pcall 115 [.sl false 3 [tw z1 a, tw z2 b, tw z3 c]] = some (tw false (a ++ (b ++ c))) := by
  have ta : List.take (a.length * 3) (lfs a) = lfs a := List.take_of_length_le (by rw [lfs_length]; omega)
  have tb : List.take (b.length * 3) (lfs b) = lfs b := List.take_of_length_le (by rw [lfs_length]; omega)
  have tc : List.take (c.length * 3) (lfs c) = lfs c := List.take_of_length_le (by rw [lfs_length]; omega)
  have hn0 : (0 : Int) < ((a.length + b.length + c.length : Nat) : Int) := by omega
  have tab : List.take ((a.length + b.length) * 3) (lfs a ++ lfs b) = lfs a ++ lfs b := List.take_of_length_le (by rw [List.length_append, lfs_length, lfs_length]; omega)
  have hl3 : (a ++ (b ++ c)).length = a.length + b.length + c.length := by simp; omega
  have tabc : List.take ((a.length + b.length + c.length) * 3) (lfs (a ++ (b ++ c))) = lfs (a ++ (b ++ c)) := List.take_of_length_le (by rw [lfs_length, hl3]; omega)
  have app3 : lfs a ++ (lfs b ++ lfs c) = lfs (a ++ (b ++ c)) := by rw [lfs_app, lfs_app]
  have hz : (a.length + b.length + c.length == 0) = false := by rw [beq_eq_false_iff_ne]; omega
  rw [a115p, a115, pbodyA_eq]
  simp (maxSteps := 30000000) (disch := first | assumption | omega | (simp only [List.length_cons, List.length_nil, List.length_append, List.length_set, List.length_replicate, List.length_map, List.length_range, List.length_take, List.length_drop, List.all_cons, List.all_nil, AV.isCell, Bool.and_self, Bool.and_true, bs_length, is64_length, w64_length, ints_length, lfs_length] <;> omega) | rfl | decide) only [bodyA_eq, List.length_cons, List.length_nil, Nat.zero_add, Nat.reduceSub, pads, List.cons_append, List.nil_append, run_seq, run_region, runOps_cons, oper_none, ex_mov, opv, putK_to, List.set_cons_succ, List.set_cons_zero, opsK_some, runOps_nil, regK_some, seqK_normal, List.getD_cons_zero, ex_len, List.getD_cons_succ, lenA_sl, castLit, valK_some, run_block, run_loop, a115l0c, a115l0n, a115l0b, ex_bin, bin_lss, Int.reduceLT, decide_true, run_cond, condK_bool, ↓reduceIte, run_skip, ex_iaddr, iaddrA_sl, Int.toNat_zero, Nat.mul_one, ex_load, rd_vptr, List.drop_zero, List.take_succ_cons, List.take_zero, loadK_1, bin_add, Int.zero_add, wr64, ltc0, decide_false, Bool.false_eq_true, blockK_normal, loopK_normal, Int.toNat_one, List.drop_succ_cons, cadd, Int.reduceAdd, Int.reduceToNat, List.take_nil, Int.lt_irrefl, run_exit, seqK_exit, loopK_exit, blockK_exit, ex_icall, List.map_cons, List.map_nil, a122i, a122, List.append_nil, Nat.reduceAdd, ex_cap, bin_sub, Int.sub_zero, bin_gtr, hn0, ex_slice, Option.map_none, Option.map_some, sliceA_sl, bounds_ns, cutK_sl, Nat.sub_zero, Nat.reduceMul, List.drop_nil, ex_appendz, appzK_int, Int.toNat_natCast, hz, newA_own, sliceA_own, cutK_own, Nat.add_zero, run_ret, bodyK_ret, results_1, res_tmp, retvK_some, a115l1c, a115l1n, a115l1b, ex_append, src_sl, appK_own, List.getElem?_cons_zero, appOK_cells, Bool.false_and, List.getElem?_cons_succ, ta, tab, List.append_assoc, app3, pbodyK_some, frzN, frz_own, frzK_cells, tabc, frz_lfs, slK_some]
  unfold tw
  rw [hl3]

theorem rootI_len {m : Nat} : ∀ T : BT, rootI m T = if 0 < T.size then (m : Int) else -1
  | .nil => rfl
  | .node _ _ _ => by rw [if_pos (by simp [BT.size]; omega)]; rfl

set_option maxHeartbeats 4000000 in
theorem join76 (x : Nat) (z1 z2 : Bool) (l r : BT) (h1 : z1 = true → encT 0 l = []) (h2 : z2 = true → encT 0 r = []) (hl : l.size < 1073741824) (hr : r.size < 1073741824) :
    L.pcall 92 [.int .u8 (x : Nat), tw z1 (encT 0 l), tw z2 (encT 0 r)] = some (tw false (encT 0 (.node x l r))) := by
  have el := encT_length l 0
  have er := encT_length r 0
  have s1 := shift_eq z1 (d := 1) h1 (by omega) (fun e he => by have := enc_small l 0 e he; omega)
  have s2 := shift_eq z2 (d := 1 + (l.size : Int)) h2 (by omega) (fun e he => by have := enc_small r 0 e he; omega)
  rw [mv_enc l 0 1 (by omega)] at s1
  rw [mv_enc r 0 (1 + l.size) (by omega)] at s2
  have g1 : (encT 1 l).length = l.size := encT_length l 1
  have g2 : (encT (1 + l.size) r).length = r.size := encT_length r (1 + l.size)
  have hc := concat97 false z1 z2 [⟨x, rootI 1 l, rootI (1 + l.size) r⟩] (encT 1 l) (encT (1 + l.size) r) (by simp) (by simp) (by omega) (by omega)
  have hfin : [(⟨x, rootI 1 l, rootI (1 + l.size) r⟩ : Lf)] ++ (encT 1 l ++ encT (1 + l.size) r) = encT 0 (.node x l r) := by
    simp only [encT, List.cons_append, List.nil_append, Nat.zero_add]
  rw [hfin] at hc
  have hone : tw false [(⟨x, rootI 1 l, rootI (1 + l.size) r⟩ : Lf)] = .sl false 1 [.int .u8 (x : Nat), .int .i64 (rootI 1 l), .int .i64 (rootI (1 + l.size) r)] := rfl
  rw [hone] at hc
  unfold tw at s1 s2 hc ⊢
  rw [el, g1] at s1
  rw [er, g2] at s2
  rw [g1, g2] at hc
  rw [el, er]
  rw [rootI_len, rootI_len] at hc
  have c1 : ((0 : Int) < (l.size : Nat)) = (0 < l.size) := propext ⟨fun h => by omega, fun h => by omega⟩
  have c2 : ((0 : Int) < (r.size : Nat)) = (0 < r.size) := propext ⟨fun h => by omega, fun h => by omega⟩
  generalize lfs (encT 0 (.node x l r)) = R at *
  generalize (encT 0 (.node x l r)).length = N at *
  generalize lfs (encT 0 l) = A at *
  generalize lfs (encT 0 r) = B at *
  generalize lfs (encT 1 l) = C at *
  generalize lfs (encT (1 + l.size) r) = D at *
  have e1 : IntKind.i64.wrap (1 + ((l.size : Nat) : Int)) = ((1 + l.size : Nat) : Int) := by rw [wr64 (by omega) (by omega)]; omega
  have e2 : (1 : Int) + ((l.size : Nat) : Int) = ((1 + l.size : Nat) : Int) := by omega
  rw [e2] at s2
  rw [a92p, a92, pbodyA_eq]
  by_cases d1 : 0 < l.size <;> by_cases d2 : 0 < r.size <;> simp only [d1, d2, if_true, if_false, Int.natCast_one] at hc <;> simp (maxSteps := 30000000) (disch := first | assumption | omega | (simp only [List.length_cons, List.length_nil, List.length_append, List.length_set, List.length_replicate, List.length_map, List.length_range, List.length_take, List.length_drop, List.all_cons, List.all_nil, AV.isCell, Bool.and_self, Bool.and_true, bs_length, is64_length, w64_length, ints_length, lfs_length] <;> omega) | rfl | decide) only [Int.reduceNeg, bodyA_eq, List.length_cons, List.length_nil, Nat.zero_add, Nat.reduceAdd, Nat.reduceSub, pads, List.cons_append, List.nil_append, run_seq, run_region, runOps_cons, oper_none, ex_mov, opv, putK_to, List.set_cons_succ, List.set_cons_zero, opsK_some, runOps_nil, regK_some, seqK_normal, List.getD_cons_zero, ex_build, AV.cells, List.all_cons, List.getD_cons_succ, beq_self_eq_true, List.all_nil, Bool.and_self, ↓reduceIte, List.map_cons, List.map_nil, fillA, Nat.reduceLeDiff, AV.isCell, and_self, splice, List.take_zero, List.drop_succ_cons, List.drop_zero, List.take_succ_cons, Nat.le_refl, List.drop_nil, List.append_nil, Option.map_some, valK_some, ex_box, ex_store, wr_ptr, List.getElem?_cons_zero, wrK_cells, storeK_some, putK_no, ex_len, lenA_sl, ex_bin, bin_gtr, c1, d1, decide_true, run_cond, condK_bool, ex_faddr, faddrA_ptr, c2, d2, bin_add, e1, run_draw, runFree_cons, foper_none, fe_load, ex_load, rd_ptr, rdK_cells, List.take_nil, loadK_n, fstK_some, fputK_to, freeK_some, fe_bslice, ex_bslice, repz_1, Nat.reduceMul, newK_some, newA_data, frzN, List.flatMap_cons, bor_int, List.flatMap_nil, List.isEmpty_nil, List.mapM_cons, frz_int, List.mapM_nil, Option.pure_def, Option.bind_eq_bind, Option.bind_some, slK_some, fe_mov, fe_call, pcallA_eq, frz_sl, argK_some, s1, retK_some, scal, scal1, Bool.false_eq_true, fzIds, bor_sl, List.foldl_nil, quietK_some, quietCall, Bool.or_true, fe_len, fe_bin, s2, runFree_nil, drawK_some, adopt, adoptVal, repz_3, Nat.mul_one, ex_call, hc, run_ret, bodyK_ret, results_1, res_tmp, retvK_some, pbodyK_some, decide_false, run_skip]

theorem Join39 (x : Nat) (z1 z2 : Bool) (a b : List Lf) (h1 : z1 = true → a = []) (h2 : z2 = true → b = []) (ha : a.length < 1099511627776) (hb : b.length < 1099511627776) :
    (formedB a = true ∧ formedB b = true ∧ a.length + b.length < 31 ∧ ∃ l r, Formed a l ∧ Formed b r ∧ L.pcall 46 [.int .u8 (x : Nat), tw z1 a, tw z2 b] = some (.tup [tw false (encT 0 (.node x l r)), .int .i64 0])) ∨
      ∃ e : Int, e ≠ 0 ∧ ¬ (formedB a = true ∧ formedB b = true ∧ a.length + b.length < 31) ∧ L.pcall 46 [.int .u8 (x : Nat), tw z1 a, tw z2 b] = some (.tup [.sl true 0 [], .int .i64 e]) := by
  have f1 := formed_eq z1 a ha
  have f2 := formed_eq z2 b hb
  have e31 : ((31 : Int) ≤ ((a.length + b.length : Nat) : Int)) = (31 ≤ a.length + b.length) := propext ⟨fun h => by omega, fun h => by omega⟩
  cases c1 : formedB a with
  | false =>
    right
    refine ⟨2, by omega, by simp, ?_⟩
    rw [c1] at f1
    rw [a46p, a46, pbodyA_eq]
    simp (maxSteps := 30000000) (disch := first | assumption | omega | (simp only [List.length_cons, List.length_nil, List.length_append, List.length_set, List.length_replicate, List.length_map, List.length_range, List.length_take, List.length_drop, List.all_cons, List.all_nil, AV.isCell, Bool.and_self, Bool.and_true, bs_length, is64_length, w64_length, ints_length, lfs_length] <;> omega) | rfl | decide) only [bodyA_eq, List.length_cons, List.length_nil, Nat.zero_add, Nat.reduceAdd, Nat.reduceSub, pads, List.cons_append, List.nil_append, run_seq, run_region, runOps_cons, oper_none, ex_mov, opv, putK_to, List.set_cons_succ, List.set_cons_zero, opsK_some, runOps_nil, regK_some, seqK_normal, run_block, List.getD_cons_succ, List.getD_cons_zero, ex_call, List.map_cons, List.map_nil, pcallA_eq, frzN, List.mapM_cons, frz_sl, List.mapM_nil, Option.pure_def, Option.bind_eq_bind, Option.bind_some, argK_some, f1, retK_some, scal, scal1, ↓reduceIte, ex_un, un_not, Bool.not_false, valK_some, oper_guard, guardK_bool, Bool.true_eq_false, putA_to, ex_pick, pickA_bool, run_cond, condK_bool, run_ret, blockK_ret, seqK_ret, bodyK_ret, results_2, resL_cons, res_tmp, resK_some, resL_nil, Option.map_some, retvK_some, pbodyK_some, frz_tup, frz_int]
  | true =>
    rw [c1] at f1
    cases c2 : formedB b with
    | false =>
      right
      refine ⟨2, by omega, by simp, ?_⟩
      rw [c2] at f2
      rw [a46p, a46, pbodyA_eq]
      simp (maxSteps := 30000000) (disch := first | assumption | omega | (simp only [List.length_cons, List.length_nil, List.length_append, List.length_set, List.length_replicate, List.length_map, List.length_range, List.length_take, List.length_drop, List.all_cons, List.all_nil, AV.isCell, Bool.and_self, Bool.and_true, bs_length, is64_length, w64_length, ints_length, lfs_length] <;> omega) | rfl | decide) only [bodyA_eq, List.length_cons, List.length_nil, Nat.zero_add, Nat.reduceAdd, Nat.reduceSub, pads, List.cons_append, List.nil_append, run_seq, run_region, runOps_cons, oper_none, ex_mov, opv, putK_to, List.set_cons_succ, List.set_cons_zero, opsK_some, runOps_nil, regK_some, seqK_normal, run_block, List.getD_cons_succ, List.getD_cons_zero, ex_call, List.map_cons, List.map_nil, pcallA_eq, frzN, List.mapM_cons, frz_sl, List.mapM_nil, Option.pure_def, Option.bind_eq_bind, Option.bind_some, argK_some, f1, retK_some, scal, scal1, ↓reduceIte, ex_un, un_not, Bool.not_true, valK_some, oper_guard, guardK_bool, f2, Bool.not_false, ex_pick, pickA_bool, Bool.false_eq_true, run_cond, condK_bool, run_ret, blockK_ret, seqK_ret, bodyK_ret, results_2, resL_cons, res_tmp, resK_some, resL_nil, Option.map_some, retvK_some, pbodyK_some, frz_tup, frz_int]
    | true =>
      rw [c2] at f2
      by_cases c3 : 31 ≤ a.length + b.length
      · right
        refine ⟨4, by omega, by omega, ?_⟩
        rw [a46p, a46, pbodyA_eq]
        simp (maxSteps := 30000000) (disch := first | assumption | omega | (simp only [List.length_cons, List.length_nil, List.length_append, List.length_set, List.length_replicate, List.length_map, List.length_range, List.length_take, List.length_drop, List.all_cons, List.all_nil, AV.isCell, Bool.and_self, Bool.and_true, bs_length, is64_length, w64_length, ints_length, lfs_length] <;> omega) | rfl | decide) only [bodyA_eq, List.length_cons, List.length_nil, Nat.zero_add, Nat.reduceAdd, Nat.reduceSub, pads, List.cons_append, List.nil_append, run_seq, run_region, runOps_cons, oper_none, ex_mov, opv, putK_to, List.set_cons_succ, List.set_cons_zero, opsK_some, runOps_nil, regK_some, seqK_normal, run_block, List.getD_cons_succ, List.getD_cons_zero, ex_call, List.map_cons, List.map_nil, pcallA_eq, frzN, List.mapM_cons, frz_sl, List.mapM_nil, Option.pure_def, Option.bind_eq_bind, Option.bind_some, argK_some, f1, retK_some, scal, scal1, ↓reduceIte, ex_un, un_not, Bool.not_true, valK_some, oper_guard, guardK_bool, f2, ex_pick, pickA_bool, Bool.false_eq_true, run_cond, condK_bool, ex_len, lenA_sl, ex_bin, bin_add, cadd, wr64, bin_geq, e31, c3, decide_true, run_ret, blockK_ret, seqK_ret, bodyK_ret, results_2, resL_cons, res_tmp, resK_some, resL_nil, Option.map_some, retvK_some, pbodyK_some, frz_tup, frz_int]
      · left
        obtain ⟨l, hl⟩ := formedB_iff.1 c1
        obtain ⟨r, hr⟩ := formedB_iff.1 c2
        obtain ⟨q1, p1⟩ := formed_enc hl
        obtain ⟨q2, p2⟩ := formed_enc hr
        refine ⟨rfl, rfl, by omega, l, r, hl, hr, ?_⟩
        have hj := join76 x z1 z2 l r (fun h => q1 ▸ h1 h) (fun h => q2 ▸ h2 h) (by omega) (by omega)
        rw [← q1, ← q2] at hj
        rw [a46p, a46, pbodyA_eq]
        simp (maxSteps := 30000000) (disch := first | assumption | omega | (simp only [List.length_cons, List.length_nil, List.length_append, List.length_set, List.length_replicate, List.length_map, List.length_range, List.length_take, List.length_drop, List.all_cons, List.all_nil, AV.isCell, Bool.and_self, Bool.and_true, bs_length, is64_length, w64_length, ints_length, lfs_length] <;> omega) | rfl | decide) only [bodyA_eq, List.length_cons, List.length_nil, Nat.zero_add, Nat.reduceAdd, Nat.reduceSub, pads, List.cons_append, List.nil_append, run_seq, run_region, runOps_cons, oper_none, ex_mov, opv, putK_to, List.set_cons_succ, List.set_cons_zero, opsK_some, runOps_nil, regK_some, seqK_normal, run_block, List.getD_cons_succ, List.getD_cons_zero, ex_call, List.map_cons, List.map_nil, pcallA_eq, frzN, List.mapM_cons, frz_sl, List.mapM_nil, Option.pure_def, Option.bind_eq_bind, Option.bind_some, argK_some, f1, retK_some, scal, scal1, ↓reduceIte, ex_un, un_not, Bool.not_true, valK_some, oper_guard, guardK_bool, f2, ex_pick, pickA_bool, Bool.false_eq_true, run_cond, condK_bool, ex_len, lenA_sl, ex_bin, bin_add, cadd, wr64, bin_geq, e31, c3, decide_false, run_skip, blockK_normal, frz_int, hj, fzIds, List.flatMap_cons, bor_int, bor_sl, List.flatMap_nil, List.append_nil, List.foldl_nil, run_ret, bodyK_ret, results_2, resL_cons, res_tmp, resK_some, resL_nil, Option.map_some, retvK_some, pbodyK_some, frz_tup]
end Go.Abs.Det
