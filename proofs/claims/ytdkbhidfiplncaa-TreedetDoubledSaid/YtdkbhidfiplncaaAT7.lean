/- TreedetDoubled on the interpreter's values, and on what fits. -/
import Derived.Test.YtdkbhidfiplncaaAMT
import Derived.Test.YtdkbhidfiplncaaAMS
import Derived.Test.YtdkbhidfiplncaaAEC
import Derived.Test.YtdkbhidfiplncaaAK1
import Derived.Test.YtdkbhidfiplncaaAFit
namespace Go.Abs.Det
open Go Go.Abs
set_option linter.unusedSimpArgs false
set_option linter.unusedVariables false

set_option maxHeartbeats 1000000 in
theorem law8_loop {D : Da} {c : List Int} {G : Heap} {b n : Nat} (hn : n = D.next.length) (h5 : n ≤ 5) (hcl : c.length = 2 * n) (hc : ∀ s, s < n → c.getD s 0 = c.getD (s + n) 0) (hb : G[b]? = some (.cells false false D.cells)) : ∀ e s, s + e = n →
    L.loop a8l0s a8l0 ⟨a8l0F (.bool false) (.ptr b 0) (.sl false (2 * n) (ints c)) (.int .i64 (s : Nat)), G⟩ = some (.exit 0, ⟨a8l0F (.bool false) (.ptr b 0) (.sl false (2 * n) (ints c)) (.int .i64 (n : Nat)), G⟩)
  | 0, s, h => by
    obtain rfl : s = n := by omega
    unfold Da.cells at hb
    rw [← hn] at hb
    rw [a8l0n]
    simp (maxSteps := 30000000) (disch := first | assumption | omega | (simp only [List.length_cons, List.length_nil, List.length_append, List.length_set, List.length_replicate, List.length_map, List.length_range, List.length_take, List.length_drop, List.all_cons, List.all_nil, AV.isCell, Bool.and_self, Bool.and_true, bs_length, is64_length, w64_length, ints_length, ints_length, bools_len, List.length_map] <;> omega) | rfl | decide) only [a8l0b, run_seq, run_region, runOps_cons, oper_none, ex_mov, opv, List.getD_cons_succ, List.getD_cons_zero, putK_to, List.set_cons_succ, List.set_cons_zero, opsK_some, ex_faddr, faddrA_ptr, Nat.zero_add, valK_some, ex_load, rd_ptr, hb, rdK_cells, List.drop_succ_cons, List.drop_zero, List.take_succ_cons, List.take_zero, loadK_1, ex_len, lenA_sl, ex_bin, bin_lss, Int.lt_irrefl, decide_false, runOps_nil, regK_some, seqK_normal, run_cond, condK_bool, Bool.false_eq_true, ↓reduceIte, run_exit, seqK_exit, loopK_exit, a8l0c]
  | e + 1, s, h => by
    have hlt : (s : Int) < (n : Nat) := by omega
    have ih := law8_loop hn h5 hcl hc hb e (s + 1) (by omega)
    have g1 : List.take 1 (List.drop s (ints c)) = [.int .i64 (c.getD s 0)] := map_at1 _ _ (by omega)
    have g2 : List.take 1 (List.drop (s + n) (ints c)) = [.int .i64 (c.getD (s + n) 0)] := map_at1 _ _ (by omega)
    have he := eq_true (hc s (by omega))
    unfold Da.cells at hb
    rw [← hn] at hb
    rw [a8l0n]
    simp (maxSteps := 30000000) (disch := first | assumption | omega | (simp only [List.length_cons, List.length_nil, List.length_append, List.length_set, List.length_replicate, List.length_map, List.length_range, List.length_take, List.length_drop, List.all_cons, List.all_nil, AV.isCell, Bool.and_self, Bool.and_true, bs_length, is64_length, w64_length, ints_length, ints_length, bools_len, List.length_map] <;> omega) | rfl | decide) only [a8l0b, run_seq, run_region, runOps_cons, oper_none, ex_mov, opv, List.getD_cons_succ, List.getD_cons_zero, putK_to, List.set_cons_succ, List.set_cons_zero, opsK_some, ex_faddr, faddrA_ptr, Nat.zero_add, valK_some, ex_load, rd_ptr, hb, rdK_cells, List.drop_succ_cons, List.drop_zero, List.take_succ_cons, List.take_zero, loadK_1, ex_len, lenA_sl, ex_bin, bin_lss, hlt, decide_true, runOps_nil, regK_some, seqK_normal, run_cond, condK_bool, ↓reduceIte, run_skip, run_block, run_draw, runFree_cons, foper_none, fe_mov, fstK_some, fputK_to, freeK_some, fe_iaddr, ex_iaddr, iaddrA_sl, Int.toNat_natCast, Nat.mul_one, fe_load, rd_vptr, ints_drop, ints_take, ints_at0, getD_dropI, Nat.add_zero, runFree_nil, drawK_some, adopt, adoptVal, bin_add, cadd, wr64, bin_neq, he, Bool.not_true, Bool.false_eq_true, blockK_normal, cadd1, loopK_normal, a8l0c, ih]

set_option maxRecDepth 20000 in
set_option maxHeartbeats 4000000 in
theorem law8 (d : Dfa) (ch : Int) : L.pcall 8 [d.av, .int .i64 ch] = some (.bool true) := by
  have hsub : L.pcall 42 [d.av, .int .i64 5] = some (subTk d 5) := sub42k d (k := 5) (by omega) (by omega)
  have hkk := k15
  by_cases h0 : d.next.length = 0
  · have hb := nrm_bd d.vars (n := 3) (by omega)
    have hs2 : subTk d 5 = .agg [.int .i64 (nrm d.vars 3), .int .i64 0, .sl true 0 [], .sl true 0 []] := if_pos h0
    rw [hs2] at hsub
    unfold Dfa.av at hsub ⊢
    unfold Dfa.cells at hsub ⊢
    rw [a8p, a8, pbodyA_eq]
    simp (maxSteps := 30000000) (disch := first | assumption | omega | (simp only [List.length_cons, List.length_nil, List.length_append, List.length_set, List.length_replicate, List.length_map, List.length_range, List.length_take, List.length_drop, List.all_cons, List.all_nil, AV.isCell, Bool.and_self, Bool.and_true, bs_length, is64_length, w64_length, ints_length, ints_length, bools_len, List.length_map] <;> omega) | rfl | decide) only [bodyA_eq, List.length_cons, List.length_nil, Nat.zero_add, Nat.reduceAdd, Nat.reduceSub, pads, List.cons_append, List.nil_append, run_seq, run_region, runOps_cons, oper_none, ex_box, AV.cells, opv, List.getD_cons_zero, List.all_cons, AV.isCell, List.all_nil, Bool.and_self, ↓reduceIte, putK_to, List.set_cons_succ, List.set_cons_zero, opsK_some, ex_mov, runOps_nil, regK_some, seqK_normal, ex_load, List.getD_cons_succ, rd_ptr, List.getElem?_cons_zero, rdK_cells, List.drop_zero, List.take_succ_cons, List.take_nil, loadK_n, valK_some, ex_call, List.map_cons, List.map_nil, pcallA_eq, frzN, List.mapM_cons, frz_agg, frz_int, frz_sl, List.mapM_nil, Option.pure_def, Option.bind_eq_bind, Option.bind_some, Option.map_some, argK_some, hsub, retK_some, scal, scal1, Bool.and_true, Bool.and_false, Bool.false_eq_true, fzIds, List.flatMap_cons, bor_agg, bor_int, bor_sl, List.flatMap_nil, List.append_nil, List.foldl_nil, ex_store, wr_ptr, List.getElem?_cons_succ, wrK_cells, splice, List.take_zero, List.drop_succ_cons, List.drop_nil, storeK_some, putK_no, ex_faddr, faddrA_ptr, loadK_1, ex_len, lenA_sl, castLit, ex_bin, bin_eql, decide_true, run_cond, condK_bool, hkk, run_ret, seqK_ret, bodyK_ret, results_1, res_tmp, retvK_some, pbodyK_some, frz_bool]
  · rw [subTk_some h0] at hsub
    have hV := subDk_valid (d := d) (k := 5) (by omega) (by omega) h0
    have h5 : (subDk d 5).next.length ≤ 5 := by rw [subDk_len]; omega
    generalize subDk d 5 = D at *
    generalize hcm : bitsA .and .i64 ch 65535 = cm
    have q0 := doubled43 hV h5 cm
    have hV2 := dbl_valid (ch := cm) hV h5
    obtain ⟨M, hM, q1⟩ := minimize_is hV
    obtain ⟨M2, hM2, q2⟩ := minimize_is hV2
    obtain rfl : M = M2 := hM.uniq hV hV2 rfl (fun T h => (dbl_acc hV h5 h).symm) hM2
    have s2 := dfa_same (hM.valid hV)
    obtain ⟨c, m, hS, q3⟩ := classes25 hV2
    have hcl := (stab_bd hS).1
    have hc := fun s hs => dbl_class (s := s) hV h5 hS hs
    rw [dbl_len] at hcl q3
    have n0 := hV.n0
    have hl := fun T X Y => law8_loop (D := D) (c := c) (G := X :: .cells false false D.cells :: Y :: T) (b := 1) rfl h5 hcl hc rfl D.next.length 0 (by omega)
    simp only [Int.natCast_zero] at hl
    have n0' : ((D.next.length : Nat) : Int) ≠ 0 := by omega
    have e2 : (2 : Int) * (D.next.length : Nat) = ((2 * D.next.length : Nat) : Int) := by omega
    clear hM hM2 hS hc
    generalize dblD D cm = E at *
    unfold Da.av at hsub q0 q1 q2 q3 s2
    unfold Da.cells at hsub q0 q1 q2 q3 s2 hl
    unfold Dfa.av at hsub ⊢
    unfold Dfa.cells at hsub ⊢
    clear hV hV2
    rw [a8p, a8, pbodyA_eq]
    simp (maxSteps := 30000000) (disch := first | assumption | omega | (simp only [List.length_cons, List.length_nil, List.length_append, List.length_set, List.length_replicate, List.length_map, List.length_range, List.length_take, List.length_drop, List.all_cons, List.all_nil, AV.isCell, Bool.and_self, Bool.and_true, bs_length, is64_length, w64_length, ints_length, ints_length, bools_len, List.length_map] <;> omega) | rfl | decide) only [bodyA_eq, List.length_cons, List.length_nil, Nat.zero_add, Nat.reduceAdd, Nat.reduceSub, pads, List.cons_append, List.nil_append, run_seq, run_region, runOps_cons, oper_none, ex_box, AV.cells, opv, List.getD_cons_zero, List.all_cons, AV.isCell, List.all_nil, Bool.and_self, ↓reduceIte, putK_to, List.set_cons_succ, List.set_cons_zero, opsK_some, ex_mov, runOps_nil, regK_some, seqK_normal, ex_load, List.getD_cons_succ, rd_ptr, List.getElem?_cons_zero, rdK_cells, List.drop_zero, List.take_succ_cons, List.take_nil, loadK_n, valK_some, ex_call, List.map_cons, List.map_nil, pcallA_eq, frzN, List.mapM_cons, frz_agg, frz_int, frz_sl, List.mapM_nil, Option.pure_def, Option.bind_eq_bind, Option.bind_some, Option.map_some, argK_some, hsub, retK_some, scal, scal1, Bool.and_true, Bool.and_false, Bool.false_eq_true, fzIds, List.flatMap_cons, bor_agg, bor_int, bor_sl, List.flatMap_nil, List.append_nil, List.foldl_nil, ex_store, wr_ptr, List.getElem?_cons_succ, wrK_cells, splice, List.take_zero, List.drop_succ_cons, List.drop_nil, storeK_some, putK_no, ex_faddr, faddrA_ptr, loadK_1, ex_len, lenA_sl, ex_bin, bin_eql, n0', decide_false, run_cond, condK_bool, run_skip, bin_and, hcm, q0, q1, ex_ext, extA_tup, q2, q3, bin_neq, decide_true, Bool.not_true, oper_guard, guardK_bool, ex_pick, pickA_bool, s2, ex_un, un_not, bin_mul, e2, wr64, run_block, run_loop, a8l0c, hl, blockK_exit, hkk, run_ret, bodyK_ret, results_1, res_tmp, retvK_some, pbodyK_some, frz_bool]

abbrev TI : TS := ⟨false, [.int .i64]⟩
theorem law8t (avs : List AV) (h : FitTs [TDfa, TI] avs) : L.pcall 8 avs = some (.bool true) := by
  obtain ⟨_, r, rfl, h0, h⟩ := fitTs_cons h
  obtain ⟨_, r, rfl, h1, h⟩ := fitTs_cons h
  obtain rfl := fitTs_nil h
  obtain ⟨d, rfl⟩ := fit_dfa h0
  obtain ⟨ch, rfl, _⟩ := fit_i64 (fitT_one h1)
  exact law8 d ch
end Go.Abs.Det
