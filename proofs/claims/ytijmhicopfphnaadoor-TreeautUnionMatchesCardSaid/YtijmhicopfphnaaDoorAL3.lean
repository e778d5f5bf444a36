/- The tree's Check, words of states. -/
import Derived.Test.YtijmhicopfphnaaDoorAL2
namespace Go.Abs.Tree
open Go Go.Abs
set_option linter.unusedSimpArgs false
set_option linter.unusedVariables false

theorem shrN (x : Nat) {v b : Nat} (h : v ≤ b) : Int.fdiv (x : Int) (2 ^ min v b) = ((x >>> v : Nat) : Int) := by
  rw [Nat.min_eq_left h, Nat.shiftRight_eq_div_pow, show (2 : Int) ^ v = ((2 ^ v : Nat) : Int) from by rw [Int.natCast_pow]; rfl, Int.fdiv_eq_ediv_of_nonneg _ (Int.natCast_nonneg _)]
  rfl

theorem lab_loop {z : Bool} {t : List Lf} {v : Nat} {s4 : AV} (hv : v ≤ 3) (hl : t.length < 1099511627776) (hx : ∀ e ∈ t, e.x < 256) : ∀ d i H, i + d = t.length →
    ∃ (H' : Heap) (i' : AV), (∀ e ∈ t.drop i, e.x >>> v = 0) ∧ L.loop a81l0s a81l0 ⟨a81l0F (tw z t) (.int .i64 (v : Nat)) s4 (tw z t) (.int .i64 (t.length : Nat)) (.int .i64 (i : Nat)), H⟩ = some (.exit 1, ⟨a81l0F (tw z t) (.int .i64 (v : Nat)) s4 (tw z t) (.int .i64 (t.length : Nat)) (.int .i64 (t.length : Nat)), H'⟩)
      ∨ (¬ ∀ e ∈ t.drop i, e.x >>> v = 0) ∧ L.loop a81l0s a81l0 ⟨a81l0F (tw z t) (.int .i64 (v : Nat)) s4 (tw z t) (.int .i64 (t.length : Nat)) (.int .i64 (i : Nat)), H⟩ = some (.ret, ⟨a81l0F (tw z t) (.int .i64 (v : Nat)) (.int .i64 1) (tw z t) (.int .i64 (t.length : Nat)) i', H'⟩)
  | 0, i, H, h => by
    obtain rfl : i = t.length := by omega
    refine ⟨H, .any, .inl ⟨by rw [List.drop_length]; simp, ?_⟩⟩
    rw [a81l0n]
    simp (maxSteps := 30000000) (disch := first | assumption | omega | (simp only [List.length_cons, List.length_nil, List.length_append, List.length_set, List.length_replicate, List.length_map, List.length_range, List.length_take, List.length_drop, List.all_cons, List.all_nil, AV.isCell, Bool.and_self, Bool.and_true, bs_length, is64_length, w64_length, ints_length, lfs_length] <;> omega) | rfl | decide) only [a81l0b, run_seq, run_region, runOps_cons, oper_none, ex_bin, opv, List.getD_cons_succ, List.getD_cons_zero, bin_lss, Int.lt_irrefl, decide_false, valK_some, putK_to, List.set_cons_succ, List.set_cons_zero, opsK_some, runOps_nil, regK_some, seqK_normal, run_cond, condK_bool, Bool.false_eq_true, ↓reduceIte, run_exit, seqK_exit, loopK_exit, a81l0c]
  | d + 1, i, H, h => by
    have hlt : (i : Int) < (t.length : Nat) := by omega
    have hm := hx _ (getF_mem (by omega : i < t.length))
    have hs := shrN (t.getD i f0).x (show v ≤ IntKind.i64.bits from by show v ≤ 64; omega)
    rw [drop_getF (by omega : i < t.length)]
    by_cases c : (t.getD i f0).x >>> v = 0
    · have c' : ((((t.getD i f0).x >>> v : Nat) : Int) = 0) = True := eq_true (by omega)
      obtain ⟨H', i', ih⟩ := lab_loop (z := z) (s4 := s4) hv hl hx d (i + 1) (H ++ [.cells false false (encF (t.getD i f0))]) (by omega)
      simp only [encF] at ih
      refine ⟨H', i', ih.imp (fun q => ⟨?_, ?_⟩) (fun q => ⟨?_, ?_⟩)⟩
      · intro e he
        rcases List.mem_cons.1 he with rfl | he
        · exact c
        · exact q.1 e he
      · have q := q.2
        rw [a81l0n]
        simp (maxSteps := 30000000) (disch := first | assumption | omega | (simp only [List.length_cons, List.length_nil, List.length_append, List.length_set, List.length_replicate, List.length_map, List.length_range, List.length_take, List.length_drop, List.all_cons, List.all_nil, AV.isCell, Bool.and_self, Bool.and_true, bs_length, is64_length, w64_length, ints_length, lfs_length] <;> omega) | rfl | decide) only [a81l0b, run_seq, run_region, runOps_cons, oper_none, ex_bin, opv, List.getD_cons_succ, List.getD_cons_zero, bin_lss, hlt, decide_true, valK_some, putK_to, List.set_cons_succ, List.set_cons_zero, opsK_some, runOps_nil, regK_some, seqK_normal, run_cond, condK_bool, ↓reduceIte, run_skip, run_block, ex_iaddr, iaddrA_sl, Int.toNat_natCast, ex_load, rd_vptr, lfs_at, loadK_n, ex_box, AV.cells, List.all_cons, AV.isCell, List.all_nil, Bool.and_self, ex_store, List.length_cons, List.length_nil, Nat.zero_add, Nat.reduceAdd, wr_ptr, hget0, List.getElem?_cons_zero, wrK_cells, splice, List.take_zero, List.nil_append, List.drop_succ_cons, List.drop_nil, List.append_nil, hset0, storeK_some, putK_no, ex_faddr, faddrA_ptr, Nat.add_zero, rd_ptr, rdK_cells, List.drop_zero, List.take_succ_cons, loadK_1, ex_conv, convA_int, wr64, ex_mov, bin_shr, hs, bin_neq, c', Bool.not_true, Bool.false_eq_true, blockK_normal, bin_add, cadd1, loopK_normal, a81l0c, q]
      · intro f
        exact q.1 (fun e he => f e (List.mem_cons_of_mem _ he))
      · have q := q.2
        rw [a81l0n]
        simp (maxSteps := 30000000) (disch := first | assumption | omega | (simp only [List.length_cons, List.length_nil, List.length_append, List.length_set, List.length_replicate, List.length_map, List.length_range, List.length_take, List.length_drop, List.all_cons, List.all_nil, AV.isCell, Bool.and_self, Bool.and_true, bs_length, is64_length, w64_length, ints_length, lfs_length] <;> omega) | rfl | decide) only [a81l0b, run_seq, run_region, runOps_cons, oper_none, ex_bin, opv, List.getD_cons_succ, List.getD_cons_zero, bin_lss, hlt, decide_true, valK_some, putK_to, List.set_cons_succ, List.set_cons_zero, opsK_some, runOps_nil, regK_some, seqK_normal, run_cond, condK_bool, ↓reduceIte, run_skip, run_block, ex_iaddr, iaddrA_sl, Int.toNat_natCast, ex_load, rd_vptr, lfs_at, loadK_n, ex_box, AV.cells, List.all_cons, AV.isCell, List.all_nil, Bool.and_self, ex_store, List.length_cons, List.length_nil, Nat.zero_add, Nat.reduceAdd, wr_ptr, hget0, List.getElem?_cons_zero, wrK_cells, splice, List.take_zero, List.nil_append, List.drop_succ_cons, List.drop_nil, List.append_nil, hset0, storeK_some, putK_no, ex_faddr, faddrA_ptr, Nat.add_zero, rd_ptr, rdK_cells, List.drop_zero, List.take_succ_cons, loadK_1, ex_conv, convA_int, wr64, ex_mov, bin_shr, hs, bin_neq, c', Bool.not_true, Bool.false_eq_true, blockK_normal, bin_add, cadd1, loopK_normal, a81l0c, q]
    · have c' : ((((t.getD i f0).x >>> v : Nat) : Int) = 0) = False := eq_false (by omega)
      refine ⟨H ++ [.cells false false (encF (t.getD i f0))], .int .i64 (i : Nat), .inr ⟨fun f => c (f _ (List.mem_cons_self ..)), ?_⟩⟩
      rw [a81l0n]
      simp (maxSteps := 30000000) (disch := first | assumption | omega | (simp only [List.length_cons, List.length_nil, List.length_append, List.length_set, List.length_replicate, List.length_map, List.length_range, List.length_take, List.length_drop, List.all_cons, List.all_nil, AV.isCell, Bool.and_self, Bool.and_true, bs_length, is64_length, w64_length, ints_length, lfs_length] <;> omega) | rfl | decide) only [a81l0b, run_seq, run_region, runOps_cons, oper_none, ex_bin, opv, List.getD_cons_succ, List.getD_cons_zero, bin_lss, hlt, decide_true, valK_some, putK_to, List.set_cons_succ, List.set_cons_zero, opsK_some, runOps_nil, regK_some, seqK_normal, run_cond, condK_bool, ↓reduceIte, run_skip, run_block, ex_iaddr, iaddrA_sl, Int.toNat_natCast, ex_load, rd_vptr, lfs_at, loadK_n, ex_box, AV.cells, List.all_cons, AV.isCell, List.all_nil, Bool.and_self, ex_store, List.length_cons, List.length_nil, Nat.zero_add, Nat.reduceAdd, wr_ptr, hget0, List.getElem?_cons_zero, wrK_cells, splice, List.take_zero, List.nil_append, List.drop_succ_cons, List.drop_nil, List.append_nil, hset0, storeK_some, putK_no, ex_faddr, faddrA_ptr, Nat.add_zero, rd_ptr, rdK_cells, List.drop_zero, List.take_succ_cons, loadK_1, ex_conv, convA_int, wr64, ex_mov, bin_shr, hs, bin_neq, c', decide_false, Bool.not_false, run_ret, blockK_ret, seqK_ret, loopK_ret, a81l0c, encF]

theorem tcheck_ex (z : Bool) (t : List Lf) (v : Nat) (hv : v ≤ 3) (hl : t.length < 1099511627776) (hx : ∀ e ∈ t, e.x < 256) :
    ∃ e : Int, L.pcall 81 [tw z t, .int .i64 (v : Nat)] = some (.int .i64 e) ∧ (e = 0 → (∀ e ∈ t, e.x >>> v = 0) ∧ ∃ T, Formed t T) := by
  have hv3 : ¬ ((3 : Int) < (v : Nat)) := by omega
  have e31 : ((31 : Int) < (t.length : Nat)) = (31 < t.length) := propext ⟨fun h => by omega, fun h => by omega⟩
  by_cases c : 31 < t.length
  · refine ⟨4, ?_, fun h => by omega⟩
    rw [a81p, a81, pbodyA_eq]
    simp (maxSteps := 30000000) (disch := first | assumption | omega | (simp only [List.length_cons, List.length_nil, List.length_append, List.length_set, List.length_replicate, List.length_map, List.length_range, List.length_take, List.length_drop, List.all_cons, List.all_nil, AV.isCell, Bool.and_self, Bool.and_true, bs_length, is64_length, w64_length, ints_length, lfs_length] <;> omega) | rfl | decide) only [bodyA_eq, List.length_cons, List.length_nil, Nat.zero_add, Nat.reduceAdd, Nat.reduceSub, pads, List.cons_append, List.nil_append, run_seq, run_region, runOps_cons, oper_none, ex_mov, opv, putK_to, List.set_cons_succ, List.set_cons_zero, opsK_some, runOps_nil, regK_some, seqK_normal, run_block, List.getD_cons_succ, List.getD_cons_zero, ex_bin, bin_lss, ltc0, decide_false, valK_some, oper_guard, guardK_bool, ↓reduceIte, bin_gtr, hv3, ex_pick, pickA_bool, Bool.false_eq_true, run_cond, condK_bool, ex_len, lenA_sl, e31, c, decide_true, run_ret, blockK_ret, seqK_ret, bodyK_ret, results_1, res_tmp, retvK_some, pbodyK_some, frzN, frz_int]
  · obtain ⟨H', i', g⟩ := lab_loop (z := z) (s4 := .int .i64 0) hv hl hx t.length 0 [] (by omega)
    simp only [Int.natCast_zero, List.drop_zero] at g
    rcases g with ⟨g1, g⟩ | ⟨g1, g⟩
    · rcases formed_ex z t hl with q | ⟨q, q2⟩
      · refine ⟨2, ?_, fun h => by omega⟩
        rw [a81p, a81, pbodyA_eq]
        simp (maxSteps := 30000000) (disch := first | assumption | omega | (simp only [List.length_cons, List.length_nil, List.length_append, List.length_set, List.length_replicate, List.length_map, List.length_range, List.length_take, List.length_drop, List.all_cons, List.all_nil, AV.isCell, Bool.and_self, Bool.and_true, bs_length, is64_length, w64_length, ints_length, lfs_length] <;> omega) | rfl | decide) only [bodyA_eq, List.length_cons, List.length_nil, Nat.zero_add, Nat.reduceAdd, Nat.reduceSub, pads, List.cons_append, List.nil_append, run_seq, run_region, runOps_cons, oper_none, ex_mov, opv, putK_to, List.set_cons_succ, List.set_cons_zero, opsK_some, runOps_nil, regK_some, seqK_normal, run_block, List.getD_cons_succ, List.getD_cons_zero, ex_bin, bin_lss, ltc0, decide_false, valK_some, oper_guard, guardK_bool, ↓reduceIte, bin_gtr, hv3, ex_pick, pickA_bool, Bool.false_eq_true, run_cond, condK_bool, ex_len, lenA_sl, e31, c, run_skip, blockK_normal, run_loop, a81l0c, g, blockK_exit, ex_call, List.map_cons, List.map_nil, pcallA_eq, frzN, List.mapM_cons, frz_sl, List.mapM_nil, Option.pure_def, Option.bind_eq_bind, Option.bind_some, argK_some, q, retK_some, scal, scal1, ex_un, un_not, Bool.not_false, run_ret, seqK_ret, bodyK_ret, results_1, res_tmp, retvK_some, pbodyK_some, frz_int]
      · refine ⟨0, ?_, fun h => ⟨g1, q2⟩⟩
        rw [a81p, a81, pbodyA_eq]
        simp (maxSteps := 30000000) (disch := first | assumption | omega | (simp only [List.length_cons, List.length_nil, List.length_append, List.length_set, List.length_replicate, List.length_map, List.length_range, List.length_take, List.length_drop, List.all_cons, List.all_nil, AV.isCell, Bool.and_self, Bool.and_true, bs_length, is64_length, w64_length, ints_length, lfs_length] <;> omega) | rfl | decide) only [bodyA_eq, List.length_cons, List.length_nil, Nat.zero_add, Nat.reduceAdd, Nat.reduceSub, pads, List.cons_append, List.nil_append, run_seq, run_region, runOps_cons, oper_none, ex_mov, opv, putK_to, List.set_cons_succ, List.set_cons_zero, opsK_some, runOps_nil, regK_some, seqK_normal, run_block, List.getD_cons_succ, List.getD_cons_zero, ex_bin, bin_lss, ltc0, decide_false, valK_some, oper_guard, guardK_bool, ↓reduceIte, bin_gtr, hv3, ex_pick, pickA_bool, Bool.false_eq_true, run_cond, condK_bool, ex_len, lenA_sl, e31, c, run_skip, blockK_normal, run_loop, a81l0c, g, blockK_exit, ex_call, List.map_cons, List.map_nil, pcallA_eq, frzN, List.mapM_cons, frz_sl, List.mapM_nil, Option.pure_def, Option.bind_eq_bind, Option.bind_some, argK_some, q, retK_some, scal, scal1, ex_un, un_not, Bool.not_true, run_ret, bodyK_ret, results_1, res_tmp, retvK_some, pbodyK_some, frz_int]
    · refine ⟨1, ?_, fun h => by omega⟩
      rw [a81p, a81, pbodyA_eq]
      simp (maxSteps := 30000000) (disch := first | assumption | omega | (simp only [List.length_cons, List.length_nil, List.length_append, List.length_set, List.length_replicate, List.length_map, List.length_range, List.length_take, List.length_drop, List.all_cons, List.all_nil, AV.isCell, Bool.and_self, Bool.and_true, bs_length, is64_length, w64_length, ints_length, lfs_length] <;> omega) | rfl | decide) only [bodyA_eq, List.length_cons, List.length_nil, Nat.zero_add, Nat.reduceAdd, Nat.reduceSub, pads, List.cons_append, List.nil_append, run_seq, run_region, runOps_cons, oper_none, ex_mov, opv, putK_to, List.set_cons_succ, List.set_cons_zero, opsK_some, runOps_nil, regK_some, seqK_normal, run_block, List.getD_cons_succ, List.getD_cons_zero, ex_bin, bin_lss, ltc0, decide_false, valK_some, oper_guard, guardK_bool, ↓reduceIte, bin_gtr, hv3, ex_pick, pickA_bool, Bool.false_eq_true, run_cond, condK_bool, ex_len, lenA_sl, e31, c, run_skip, blockK_normal, run_loop, a81l0c, g, blockK_ret, seqK_ret, bodyK_ret, results_1, res_tmp, retvK_some, pbodyK_some, frzN, frz_int]

/-! words of states -/
def wordM (a : Nat) : List Int → Nat
  | [] => a
  | q :: l => wordM (a ||| 2 ^ q.toNat) l

theorem shl64 {v : Nat} (hv : v < 64) : IntKind.u64.wrap (1 * 2 ^ min v IntKind.u64.bits) = ((2 ^ v : Nat) : Int) := by
  have e1 : min v IntKind.u64.bits = v := Nat.min_eq_left (by show v ≤ 64; omega)
  have e2 : (2 : Nat) ^ v < 2 ^ 64 := Nat.pow_lt_pow_right (by omega) hv
  rw [e1, Int.one_mul, show (2 : Int) ^ v = ((2 ^ v : Nat) : Int) from by rw [Int.natCast_pow]; rfl]
  exact wrU64 (by omega)
theorem pow64 {v : Nat} (hv : v < 64) : 2 ^ v < 18446744073709551616 := Nat.pow_lt_pow_right (m := v) (n := 64) (a := 2) (by omega) hv

theorem word_loop {z : Bool} {l : List Int} {H : Heap} (hl : l.length < 1099511627776) (hq : ∀ q ∈ l, 0 ≤ q ∧ q < 64) : ∀ d i a, i + d = l.length → a < 18446744073709551616 →
    L.loop a54l0s a54l0 ⟨a54l0F (.int .u64 (a : Nat)) (iw z l) (.int .i64 (l.length : Nat)) (.int .i64 (i : Nat)), H⟩ = some (.exit 0, ⟨a54l0F (.int .u64 (wordM a (l.drop i) : Nat)) (iw z l) (.int .i64 (l.length : Nat)) (.int .i64 (l.length : Nat)), H⟩)
  | 0, i, a, h, ha => by
    obtain rfl : i = l.length := by omega
    rw [List.drop_length, wordM, a54l0n]
    simp (maxSteps := 30000000) (disch := first | assumption | omega | (simp only [List.length_cons, List.length_nil, List.length_append, List.length_set, List.length_replicate, List.length_map, List.length_range, List.length_take, List.length_drop, List.all_cons, List.all_nil, AV.isCell, Bool.and_self, Bool.and_true, bs_length, is64_length, w64_length, ints_length, lfs_length] <;> omega) | rfl | decide) only [a54l0b, run_seq, run_region, runOps_cons, oper_none, ex_bin, opv, List.getD_cons_succ, List.getD_cons_zero, bin_lss, Int.lt_irrefl, decide_false, valK_some, putK_to, List.set_cons_succ, List.set_cons_zero, opsK_some, runOps_nil, regK_some, seqK_normal, run_cond, condK_bool, Bool.false_eq_true, ↓reduceIte, run_exit, seqK_exit, loopK_exit, a54l0c]
  | d + 1, i, a, h, ha => by
    have hlt : (i : Int) < (l.length : Nat) := by omega
    have hm := hq (l.getD i 0) (by rw [List.getD_eq_getElem?_getD, List.getElem?_eq_getElem (by omega : i < l.length)]; exact List.getElem_mem _)
    have hs := shl64 (show (l.getD i 0).toNat < 64 by omega)
    have hp := pow64 (show (l.getD i 0).toNat < 64 by omega)
    have ho := or64 ha hp
    have h0 := hm.1
    have ih := word_loop (z := z) (H := H) hl hq d (i + 1) (a ||| 2 ^ (l.getD i 0).toNat) (by omega) (or_lt ha hp)
    rw [drop_getI (by omega : i < l.length), wordM, a54l0n]
    simp (maxSteps := 30000000) (disch := first | assumption | omega | (simp only [List.length_cons, List.length_nil, List.length_append, List.length_set, List.length_replicate, List.length_map, List.length_range, List.length_take, List.length_drop, List.all_cons, List.all_nil, AV.isCell, Bool.and_self, Bool.and_true, bs_length, is64_length, w64_length, ints_length, lfs_length] <;> omega) | rfl | decide) only [a54l0b, run_seq, run_region, runOps_cons, oper_none, ex_bin, opv, List.getD_cons_succ, List.getD_cons_zero, bin_lss, hlt, decide_true, valK_some, putK_to, List.set_cons_succ, List.set_cons_zero, opsK_some, runOps_nil, regK_some, seqK_normal, run_cond, condK_bool, ↓reduceIte, run_skip, run_block, ex_iaddr, iaddrA_sl, Int.toNat_natCast, Nat.mul_one, ex_load, rd_vptr, ints_drop, ints_take, ints_at0, getD_dropI, Nat.add_zero, loadK_1, ex_mov, bin_shl, hs, bin_or, ho, blockK_normal, bin_add, cadd1, wr64, loopK_normal, a54l0c, ih]

theorem word_eq (z : Bool) (l : List Int) (hl : l.length < 1099511627776) (hq : ∀ q ∈ l, 0 ≤ q ∧ q < 64) : L.pcall 54 [iw z l] = some (.int .u64 (wordM 0 l : Nat)) := by
  have h := word_loop (z := z) (H := []) hl hq l.length 0 0 (by omega) (by omega)
  simp only [Int.natCast_zero, List.drop_zero] at h
  rw [a54p, a54, pbodyA_eq]
  simp (maxSteps := 30000000) (disch := first | assumption | omega | (simp only [List.length_cons, List.length_nil, List.length_append, List.length_set, List.length_replicate, List.length_map, List.length_range, List.length_take, List.length_drop, List.all_cons, List.all_nil, AV.isCell, Bool.and_self, Bool.and_true, bs_length, is64_length, w64_length, ints_length, lfs_length] <;> omega) | rfl | decide) only [bodyA_eq, List.length_cons, List.length_nil, Nat.zero_add, Nat.reduceSub, pads, List.cons_append, List.nil_append, run_seq, run_region, runOps_cons, oper_none, ex_mov, opv, putK_to, List.set_cons_succ, List.set_cons_zero, opsK_some, runOps_nil, regK_some, seqK_normal, List.getD_cons_zero, ex_len, List.getD_cons_succ, lenA_sl, valK_some, run_block, run_loop, a54l0c, h, blockK_exit, ↓reduceIte, run_ret, bodyK_ret, results_1, res_tmp, retvK_some, pbodyK_some, frzN, frz_int]

theorem wordM_bit : ∀ (l : List Int) (a j : Nat), (∀ q ∈ l, 0 ≤ q) → (wordM a l).testBit j = (a.testBit j || l.contains (j : Int))
  | [], a, j, h => by simp [wordM]
  | q :: l, a, j, h => by
    have h0 := h q (List.mem_cons_self ..)
    have e : decide (q.toNat = j) = ((j : Int) == q) := by
      rw [Bool.eq_iff_iff]; simp only [decide_eq_true_eq, beq_iff_eq]; omega
    rw [wordM, wordM_bit l _ j (fun q hq => h q (List.mem_cons_of_mem _ hq)), Nat.testBit_or, Nat.testBit_two_pow, List.contains_cons, e, Bool.or_assoc]
theorem wordM_lt : ∀ (l : List Int) (a : Nat), a < 18446744073709551616 → (∀ q ∈ l, 0 ≤ q ∧ q < 64) → wordM a l < 18446744073709551616
  | [], a, ha, h => ha
  | q :: l, a, ha, h => by
    have h0 := h q (List.mem_cons_self ..)
    exact wordM_lt l _ (or_lt ha (pow64 (by omega))) (fun q hq => h q (List.mem_cons_of_mem _ hq))
end Go.Abs.Tree
