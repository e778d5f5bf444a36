/- moved, shift, copies of trees. -/
import Derived.Test.YtdkbhidfiplncaaAD2
namespace Go.Abs.Det
open Go Go.Abs
set_option linter.unusedSimpArgs false
set_option linter.unusedVariables false

theorem frz_lfs (d : Nat) (H : Heap) (l : List Lf) : (lfs l).mapM (frz d H) = some (lfs l) := by
  induction l with
  | nil => rfl
  | cons e l ih =>
    have : lfs (e :: l) = .int .u8 (e.x : Nat) :: .int .i64 e.l :: .int .i64 e.r :: lfs l := rfl
    rw [this]
    simp only [List.mapM_cons, frz_int, ih]
    rfl
theorem bor_lfs (d : Nat) (H : Heap) (l : List Lf) : (lfs l).flatMap (bor d H) = [] := by
  induction l with
  | nil => rfl
  | cons e l ih =>
    have : lfs (e :: l) = .int .u8 (e.x : Nat) :: .int .i64 e.l :: .int .i64 e.r :: lfs l := rfl
    rw [this]
    simp only [List.flatMap_cons, bor_int, ih]
    rfl

theorem dat_lfs (l : List Lf) : (lfs l).all data1 = true := by
  induction l with
  | nil => rfl
  | cons e l ih =>
    have : lfs (e :: l) = encF e ++ lfs l := rfl
    rw [this, List.all_append, ih]; rfl

theorem moved_eq (i d : Int) (h : i = -1 ∨ (-9223372036854775808 ≤ i + d ∧ i + d < 9223372036854775808)) : L.pcall 124 [.int .i64 i, .int .i64 d] = some (.int .i64 (mvI d i)) := by
  unfold mvI
  rw [a124p, a124, pbodyA_eq]
  by_cases c : i = -1
  · rw [if_pos c]
    simp (maxSteps := 30000000) (disch := first | assumption | omega | (simp only [List.length_cons, List.length_nil, List.length_append, List.length_set, List.length_replicate, List.length_map, List.length_range, List.length_take, List.length_drop, List.all_cons, List.all_nil, AV.isCell, Bool.and_self, Bool.and_true, bs_length, is64_length, w64_length, ints_length, lfs_length] <;> omega) | rfl | decide) only [Int.reduceNeg, c, bodyA_eq, List.length_cons, List.length_nil, Nat.zero_add, Nat.reduceAdd, Nat.reduceSub, pads, List.cons_append, List.nil_append, run_seq, run_region, runOps_cons, oper_none, ex_mov, opv, putK_to, List.set_cons_succ, List.set_cons_zero, opsK_some, runOps_nil, regK_some, seqK_normal, List.getD_cons_zero, ex_bin, List.getD_cons_succ, bin_eql, decide_true, valK_some, run_cond, condK_bool, ↓reduceIte, run_ret, seqK_ret, bodyK_ret, results_1, res_tmp, retvK_some, pbodyK_some, frzN, frz_int]
  · rw [if_neg c]
    simp (maxSteps := 30000000) (disch := first | assumption | omega | (simp only [List.length_cons, List.length_nil, List.length_append, List.length_set, List.length_replicate, List.length_map, List.length_range, List.length_take, List.length_drop, List.all_cons, List.all_nil, AV.isCell, Bool.and_self, Bool.and_true, bs_length, is64_length, w64_length, ints_length, lfs_length] <;> omega) | rfl | decide) only [Int.reduceNeg, bodyA_eq, List.length_cons, List.length_nil, Nat.zero_add, Nat.reduceAdd, Nat.reduceSub, pads, List.cons_append, List.nil_append, run_seq, run_region, runOps_cons, oper_none, ex_mov, opv, putK_to, List.set_cons_succ, List.set_cons_zero, opsK_some, runOps_nil, regK_some, seqK_normal, List.getD_cons_zero, ex_bin, List.getD_cons_succ, bin_eql, c, decide_false, valK_some, run_cond, condK_bool, Bool.false_eq_true, ↓reduceIte, run_skip, bin_add, wr64, run_ret, bodyK_ret, results_1, res_tmp, retvK_some, pbodyK_some, frzN, frz_int]

theorem cloneT_own (l : List Lf) (hl : l.length < 1099511627776) : ocallA L 123 [tw false l] = some (.own false 0 0 l.length 3, [.cells false false (lfs l)]) ∧ ocallA L 123 [.sl true 0 []] = some (.sl true 0 [], []) := by
  have htk : List.take (l.length * 3) (lfs l) = lfs l := List.take_of_length_le (by rw [lfs_length]; omega)
  constructor
  · rw [ocallA_eq, a123i, a123, bodyA_eq]
    simp (maxSteps := 30000000) (disch := first | assumption | omega | (simp only [List.length_cons, List.length_nil, List.length_append, List.length_set, List.length_replicate, List.length_map, List.length_range, List.length_take, List.length_drop, List.all_cons, List.all_nil, AV.isCell, Bool.and_self, Bool.and_true, bs_length, is64_length, w64_length, ints_length, lfs_length] <;> omega) | rfl | decide) only [List.append_nil, List.length_cons, List.length_nil, Nat.zero_add, Nat.reduceSub, pads, List.cons_append, List.nil_append, run_seq, run_region, runOps_cons, oper_none, ex_mov, opv, putK_to, List.set_cons_succ, List.set_cons_zero, opsK_some, runOps_nil, regK_some, seqK_normal, List.getD_cons_zero, ex_isnil, List.getD_cons_succ, isnilA_slf, valK_some, run_cond, condK_bool, Bool.false_eq_true, ↓reduceIte, run_skip, ex_bslice, AV.cells, List.all_nil, repz_0, List.map_nil, fillA, newK_some, newA_own, ex_append, src_sl, appK_own, List.getElem?_cons_zero, appOK_cells, Bool.false_and, Nat.zero_mul, List.take_nil, run_ret, bodyK_ret, results_1, res_tmp, retvK_some, ocallK_some, compact_own, take1_own, List.getElem?_cons_succ, findI_nil, t1I_new, dat_lfs, Option.map_some, List.map_cons]
  · rw [ocallA_eq, a123i, a123, bodyA_eq]
    simp (maxSteps := 30000000) (disch := first | assumption | omega | (simp only [List.length_cons, List.length_nil, List.length_append, List.length_set, List.length_replicate, List.length_map, List.length_range, List.length_take, List.length_drop, List.all_cons, List.all_nil, AV.isCell, Bool.and_self, Bool.and_true, bs_length, is64_length, w64_length, ints_length, lfs_length] <;> omega) | rfl | decide) only [List.append_nil, List.length_cons, List.length_nil, Nat.zero_add, Nat.reduceSub, pads, List.cons_append, List.nil_append, run_seq, run_region, runOps_cons, oper_none, ex_mov, opv, putK_to, List.set_cons_succ, List.set_cons_zero, opsK_some, runOps_nil, regK_some, seqK_normal, List.getD_cons_zero, ex_isnil, List.getD_cons_succ, isnilA_slf, valK_some, run_cond, condK_bool, ↓reduceIte, run_ret, seqK_ret, bodyK_ret, results_1, res_tmp, retvK_some, ocallK_some, compact_sl, Option.map_some, List.map_nil]

theorem lfs_app (a b : List Lf) : lfs a ++ lfs b = lfs (a ++ b) := rows_app ..
theorem lfs_split {A B : List Lf} {e : Lf} : lfs (A ++ e :: B) = lfs A ++ (.int .u8 (e.x : Nat) :: .int .i64 e.l :: .int .i64 e.r :: lfs B) := by
  rw [← lfs_app]; rfl
theorem getD_mid {A B : List Lf} {e : Lf} : (A ++ e :: B).getD A.length f0 = e := by simp [List.getD]

theorem put12 {α : Type} (P Q : List α) (c0 c1 c2 x y : α) {n : Nat} (h : P.length = n) :
    List.take (n + 2) (List.take (n + 1) (P ++ c0 :: c1 :: c2 :: Q) ++ x :: List.drop (n + 1 + 1) (P ++ c0 :: c1 :: c2 :: Q)) ++ y :: List.drop (n + 2 + 1) (List.take (n + 1) (P ++ c0 :: c1 :: c2 :: Q) ++ x :: List.drop (n + 1 + 1) (P ++ c0 :: c1 :: c2 :: Q)) = P ++ c0 :: x :: y :: Q := by
  subst h
  have e1 : List.take (P.length + 1) (P ++ c0 :: c1 :: c2 :: Q) = P ++ [c0] := by rw [List.take_length_add_append]; rfl
  have e2 : List.drop (P.length + 1 + 1) (P ++ c0 :: c1 :: c2 :: Q) = c2 :: Q := by rw [Nat.add_assoc, List.drop_length_add_append]; rfl
  rw [e1, e2, List.append_assoc, List.take_length_add_append, Nat.add_assoc, List.drop_length_add_append]
  simp

theorem shift_loop {d : Int} {t : List Lf} (ht : t.length < 1099511627776) (hd : ∀ e ∈ t, (e.l = -1 ∨ (-9223372036854775808 ≤ e.l + d ∧ e.l + d < 9223372036854775808)) ∧ (e.r = -1 ∨ (-9223372036854775808 ≤ e.r + d ∧ e.r + d < 9223372036854775808))) : ∀ (B A : List Lf) (T : Heap), t = A ++ B →
    ∃ T', L.loop a116l0s a116l0 ⟨a116l0F (.int .i64 d) (.own false 0 0 t.length 3) (.own false 0 0 t.length 3) (.int .i64 (t.length : Nat)) (.int .i64 (A.length : Nat)), .cells false false (lfs (A.map (mvL d) ++ B)) :: T⟩ =
      some (.exit 0, ⟨a116l0F (.int .i64 d) (.own false 0 0 t.length 3) (.own false 0 0 t.length 3) (.int .i64 (t.length : Nat)) (.int .i64 (t.length : Nat)), .cells false false (lfs (t.map (mvL d))) :: T'⟩)
  | [], A, T, h => by
    obtain rfl : t = A := by simpa using h
    refine ⟨T, ?_⟩
    rw [List.append_nil, a116l0n]
    simp (maxSteps := 30000000) (disch := first | assumption | omega | (simp only [List.length_cons, List.length_nil, List.length_append, List.length_set, List.length_replicate, List.length_map, List.length_range, List.length_take, List.length_drop, List.all_cons, List.all_nil, AV.isCell, Bool.and_self, Bool.and_true, bs_length, is64_length, w64_length, ints_length, lfs_length] <;> omega) | rfl | decide) only [a116l0b, run_seq, run_region, runOps_cons, oper_none, ex_bin, opv, List.getD_cons_succ, List.getD_cons_zero, bin_lss, Int.lt_irrefl, decide_false, valK_some, putK_to, List.set_cons_succ, List.set_cons_zero, opsK_some, runOps_nil, regK_some, seqK_normal, run_cond, condK_bool, Bool.false_eq_true, ↓reduceIte, run_exit, seqK_exit, loopK_exit, a116l0c]
  | e :: B, A, T, h => by
    have hlen : t.length = A.length + (B.length + 1) := by rw [h]; simp
    have hlt : (A.length : Int) < (t.length : Nat) := by omega
    obtain ⟨hm1, hm2⟩ := hd e (by rw [h]; simp)
    have m1 := moved_eq e.l d hm1
    have m2 := moved_eq e.r d hm2
    obtain ⟨T', ih⟩ := shift_loop ht hd B (A ++ [e]) (T ++ [.cells false false (encF e)]) (by rw [h]; simp)
    refine ⟨T', ?_⟩
    have hg : (A.map (mvL d) ++ e :: B).getD A.length f0 = e := by
      have := getD_mid (A := A.map (mvL d)) (B := B) (e := e)
      rwa [List.length_map] at this
    have hl2 : (A.map (mvL d) ++ e :: B).length = t.length := by simp [hlen]
    have hput := put12 (lfs (A.map (mvL d))) (lfs B) (.int .u8 (e.x : Nat)) (.int .i64 e.l) (.int .i64 e.r) (.int .i64 (mvI d e.l)) (.int .i64 (mvI d e.r)) (n := A.length * 3) (by rw [lfs_length, List.length_map])
    have hres : lfs (A.map (mvL d)) ++ (AV.int .u8 (e.x : Nat) :: .int .i64 (mvI d e.l) :: .int .i64 (mvI d e.r) :: lfs B) = lfs ((A ++ [e]).map (mvL d) ++ B) := by
      have : lfs (A.map (mvL d) ++ mvL d e :: B) = _ := lfs_split
      rw [List.map_append, List.map_cons, List.map_nil, List.append_assoc, List.cons_append, List.nil_append, this]
      rfl
    rw [← lfs_split, hres] at hput
    have hln : (A ++ [e]).length = A.length + 1 := by simp
    rw [hln] at ih
    simp only [encF] at ih
    rw [a116l0n]
    simp (maxSteps := 30000000) (disch := first | assumption | omega | (simp only [List.length_cons, List.length_nil, List.length_append, List.length_set, List.length_replicate, List.length_map, List.length_range, List.length_take, List.length_drop, List.all_cons, List.all_nil, AV.isCell, Bool.and_self, Bool.and_true, bs_length, is64_length, w64_length, ints_length, lfs_length] <;> omega) | rfl | decide) only [a116l0b, run_seq, run_region, runOps_cons, oper_none, ex_bin, opv, List.getD_cons_succ, List.getD_cons_zero, bin_lss, hlt, decide_true, valK_some, putK_to, List.set_cons_succ, List.set_cons_zero, opsK_some, runOps_nil, regK_some, seqK_normal, run_cond, condK_bool, ↓reduceIte, run_skip, run_block, ex_mov, ex_iaddr, iaddrA_own, Int.toNat_natCast, Nat.zero_add, ex_load, rd_ptr, List.getElem?_cons_zero, rdK_cells, lfs_at, hg, loadK_n, ex_box, AV.cells, List.all_cons, AV.isCell, List.all_nil, Bool.and_self, List.length_cons, List.cons_append, ex_store, List.length_nil, Nat.reduceAdd, wr_ptr, List.getElem?_cons_succ, hget0, wrK_cells, splice, List.take_zero, List.nil_append, List.drop_succ_cons, List.drop_nil, List.append_nil, hset0, storeK_some, putK_no, run_draw, List.take_succ_cons, runFree_cons, foper_none, fe_mov, fstK_some, fputK_to, freeK_some, fe_faddr, ex_faddr, faddrA_ptr, fe_load, List.drop_zero, loadK_1, fe_call, List.map_cons, List.map_nil, pcallA_eq, frzN, List.mapM_cons, frz_int, List.mapM_nil, Option.pure_def, Option.bind_eq_bind, Option.bind_some, argK_some, m1, retK_some, scal, scal1, quietK_some, quietCall, List.flatMap_cons, bor_int, List.flatMap_nil, Bool.or_true, List.take_nil, runFree_nil, drawK_some, adopt, adoptVal, ex_call, m2, List.append_assoc, hput, blockK_normal, bin_add, cadd1, wr64, loopK_normal, a116l0c, ih]

theorem shift_eq (z : Bool) {d : Int} {t : List Lf} (hz : z = true → t = []) (ht : t.length < 1099511627776) (hd : ∀ e ∈ t, (e.l = -1 ∨ (-9223372036854775808 ≤ e.l + d ∧ e.l + d < 9223372036854775808)) ∧ (e.r = -1 ∨ (-9223372036854775808 ≤ e.r + d ∧ e.r + d < 9223372036854775808))) :
    L.pcall 116 [tw z t, .int .i64 d] = some (tw z (t.map (mvL d))) := by
  obtain ⟨c1, c2⟩ := cloneT_own t ht
  have hm : (t.map (mvL d)).length = t.length := List.length_map ..
  cases z with
  | true =>
    obtain rfl := hz rfl
    have h : L.loop a116l0s a116l0 ⟨a116l0F (.int .i64 d) (.sl true 0 []) (.sl true 0 []) (.int .i64 0) (.int .i64 0), []⟩ = some (.exit 0, ⟨a116l0F (.int .i64 d) (.sl true 0 []) (.sl true 0 []) (.int .i64 0) (.int .i64 0), []⟩) := by
      rw [a116l0n]
      simp (maxSteps := 30000000) (disch := first | assumption | omega | (simp only [List.length_cons, List.length_nil, List.length_append, List.length_set, List.length_replicate, List.length_map, List.length_range, List.length_take, List.length_drop, List.all_cons, List.all_nil, AV.isCell, Bool.and_self, Bool.and_true, bs_length, is64_length, w64_length, ints_length, lfs_length] <;> omega) | rfl | decide) only [a116l0b, run_seq, run_region, runOps_cons, oper_none, ex_bin, opv, List.getD_cons_succ, List.getD_cons_zero, bin_lss, Int.lt_irrefl, decide_false, valK_some, putK_to, List.set_cons_succ, List.set_cons_zero, opsK_some, runOps_nil, regK_some, seqK_normal, run_cond, condK_bool, Bool.false_eq_true, ↓reduceIte, run_exit, seqK_exit, loopK_exit, a116l0c]
    change L.pcall 116 [.sl true 0 [], .int .i64 d] = some (.sl true 0 [])
    rw [a116p, a116, pbodyA_eq]
    simp (maxSteps := 30000000) (disch := first | assumption | omega | (simp only [List.length_cons, List.length_nil, List.length_append, List.length_set, List.length_replicate, List.length_map, List.length_range, List.length_take, List.length_drop, List.all_cons, List.all_nil, AV.isCell, Bool.and_self, Bool.and_true, bs_length, is64_length, w64_length, ints_length, lfs_length] <;> omega) | rfl | decide) only [bodyA_eq, List.length_cons, List.length_nil, Nat.zero_add, Nat.reduceAdd, Nat.reduceSub, pads, List.cons_append, List.nil_append, run_seq, run_region, runOps_cons, oper_none, ex_mov, opv, putK_to, List.set_cons_succ, List.set_cons_zero, opsK_some, runOps_nil, regK_some, seqK_normal, List.getD_cons_zero, ex_ocall, frzN, List.map_cons, List.getD_cons_succ, List.map_nil, List.flatMap_cons, bor_sl, List.flatMap_nil, List.append_nil, List.mapM_cons, frz_sl, List.mapM_nil, Option.pure_def, Option.bind_eq_bind, Option.bind_some, ocArgK_some, c2, ocK_some, liftV, lift2, lift1, fzIds, List.foldl_nil, ex_len, lenA_sl, castLit, valK_some, run_block, run_loop, a116l0c, h, blockK_exit, ↓reduceIte, run_ret, bodyK_ret, results_1, res_tmp, retvK_some, pbodyK_some]
  | false =>
    obtain ⟨T', h⟩ := shift_loop ht hd t [] [] rfl
    simp only [List.map_nil, List.nil_append, List.length_nil, Int.natCast_zero] at h
    rw [a116p, a116, pbodyA_eq]
    have htk : List.take (t.length * 3) (lfs (t.map (mvL d))) = lfs (t.map (mvL d)) := List.take_of_length_le (by rw [lfs_length, hm]; omega)
    simp (maxSteps := 30000000) (disch := first | assumption | omega | (simp only [List.length_cons, List.length_nil, List.length_append, List.length_set, List.length_replicate, List.length_map, List.length_range, List.length_take, List.length_drop, List.all_cons, List.all_nil, AV.isCell, Bool.and_self, Bool.and_true, bs_length, is64_length, w64_length, ints_length, lfs_length] <;> omega) | rfl | decide) only [bodyA_eq, List.length_cons, List.length_nil, Nat.zero_add, Nat.reduceAdd, Nat.reduceSub, pads, List.cons_append, List.nil_append, run_seq, run_region, runOps_cons, oper_none, ex_mov, opv, putK_to, List.set_cons_succ, List.set_cons_zero, opsK_some, runOps_nil, regK_some, seqK_normal, List.getD_cons_zero, ex_ocall, frzN, List.map_cons, List.getD_cons_succ, List.map_nil, List.flatMap_cons, bor_sl, List.flatMap_nil, List.append_nil, List.mapM_cons, frz_sl, List.mapM_nil, Option.pure_def, Option.bind_eq_bind, Option.bind_some, ocArgK_some, c1, ocK_some, liftV, lift2, lift1, Nat.add_zero, fzIds, List.foldl_nil, ex_len, lenA_own, valK_some, run_block, run_loop, a116l0c, h, blockK_exit, ↓reduceIte, run_ret, bodyK_ret, results_1, res_tmp, retvK_some, pbodyK_some, frz_own, List.getElem?_cons_zero, frzK_cells, List.drop_zero, htk, frz_lfs, slK_some]
    unfold tw
    rw [hm]
theorem copy13 (z : Bool) (l : List Lf) (hl : l.length < 1099511627776) : L.pcall 13 [tw z l] = some (tw (l.length == 0) l) := by
  have htk : List.take (l.length * 3) (lfs l) = lfs l := List.take_of_length_le (by rw [lfs_length]; omega)
  rw [a13p, a13, pbodyA_eq]
  simp (maxSteps := 30000000) (disch := first | assumption | omega | (simp only [List.length_cons, List.length_nil, List.length_append, List.length_set, List.length_replicate, List.length_map, List.length_range, List.length_take, List.length_drop, List.all_cons, List.all_nil, AV.isCell, Bool.and_self, Bool.and_true, bs_length, is64_length, w64_length, ints_length, lfs_length] <;> omega) | rfl | decide) only [bodyA_eq, List.length_cons, List.length_nil, Nat.zero_add, Nat.reduceSub, pads, List.cons_append, List.nil_append, run_seq, run_region, runOps_cons, oper_none, ex_mov, opv, putK_to, List.set_cons_succ, List.set_cons_zero, opsK_some, runOps_nil, regK_some, seqK_normal, List.getD_cons_zero, ex_append, List.getD_cons_succ, src_sl, appK_nil, newA_own, run_ret, bodyK_ret, results_1, res_tmp, retvK_some, pbodyK_some, frzN, frz_own, List.getElem?_cons_zero, frzK_cells, List.drop_zero, htk, frz_lfs, slK_some]
end Go.Abs.Det
