/- BinarySearch in the list of a set: the number of a state. -/
import Derived.Test.YtbfnjdhafgnlnaaDoorAT6
namespace Go.Abs.NfaD
open Go Go.Abs
set_option linter.unusedSimpArgs false
set_option linter.unusedVariables false

/-- how many of S are below q -/
def rank (S : Nat → Bool) (q : Nat) : Nat := ((List.range q).filter S).length

theorem setL_split (S : Nat → Bool) {q : Nat} (hq : q ≤ 4096) : setL S = (List.range q).filter S ++ (List.range' q (4096 - q)).filter S := by
  unfold setL
  have e0 := List.range'_append_1 (s := 0) (m := q) (n := 4096 - q)
  rw [Nat.zero_add, show q + (4096 - q) = 4096 by omega] at e0
  rw [List.range_eq_range', List.range_eq_range', ← List.filter_append, e0]

theorem rank_le (S : Nat → Bool) {q : Nat} (hq : q ≤ 4096) : rank S q ≤ (setL S).length := by
  rw [setL_split S hq, List.length_append]; unfold rank; omega

theorem setL_len (S : Nat → Bool) : (setL S).length ≤ 4096 := by
  unfold setL
  exact Nat.le_trans (List.length_filter_le _ _) (by simp)

theorem setL_lt (S : Nat → Bool) {q h : Nat} (hq : q ≤ 4096) (hh : h < (setL S).length) : ((setL S).getD h 0 < q) = (h < rank S q) := by
  have hs := setL_split S hq
  rw [hs] at hh ⊢
  rw [List.length_append] at hh
  apply propext
  rw [List.getD_eq_getElem?_getD]
  by_cases c : h < ((List.range q).filter S).length
  · rw [List.getElem?_append_left c, List.getElem?_eq_getElem c, Option.getD_some]
    have := List.getElem_mem c
    rw [List.mem_filter, List.mem_range] at this
    exact ⟨fun _ => c, fun _ => this.1⟩
  · rw [List.getElem?_append_right (by omega), List.getElem?_eq_getElem (by omega), Option.getD_some]
    have := List.getElem_mem (l := (List.range' q (4096 - q)).filter S) (n := h - ((List.range q).filter S).length) (by omega)
    rw [List.mem_filter, List.mem_range'_1] at this
    exact ⟨fun _ => by omega, fun h' => (c h').elim⟩

theorem setL_rank (S : Nat → Bool) {q : Nat} (hq : q < 4096) : (rank S q < (setL S).length ∧ (setL S).getD (rank S q) 0 = q) ↔ S q = true := by
  have hs := setL_split S (by omega : q ≤ 4096)
  have h1 : List.range' q (4096 - q) = q :: List.range' (q + 1) (4096 - (q + 1)) := by
    rw [show 4096 - q = (4096 - (q + 1)) + 1 by omega, List.range'_succ]
  rw [hs]
  unfold rank
  rw [List.length_append, List.getD_eq_getElem?_getD, List.getElem?_append_right (by omega), Nat.sub_self, h1, List.filter_cons]
  constructor
  · rintro ⟨h2, h3⟩
    cases hq' : S q with
    | true => rfl
    | false =>
      rw [hq'] at h2 h3
      simp only [Bool.false_eq_true, if_false] at h2 h3
      have hl : 0 < ((List.range' (q + 1) (4096 - (q + 1))).filter S).length := by omega
      rw [List.getElem?_eq_getElem hl, Option.getD_some] at h3
      have := List.getElem_mem hl
      rw [List.mem_filter, List.mem_range'_1] at this
      omega
  · intro hq'
    rw [if_pos hq']
    simp

theorem nan84 (a : Int) : L.pcall 84 [.int .i64 a] = some (.bool false) := by
  have e : (a != a) = false := by simp
  rw [a84p, a84, pbodyA_eq]
  simp (maxSteps := 30000000) (disch := first | assumption | omega | (simp only [List.length_cons, List.length_nil, List.length_append, List.length_set, List.length_replicate, List.length_map, List.length_range, List.length_take, List.length_drop, List.all_cons, List.all_nil, AV.isCell, Bool.and_self, Bool.and_true, bs_length, is64_length, w64_length, ints_length] <;> omega) | rfl | decide) only [bodyA_eq, List.length_cons, List.length_nil, Nat.zero_add, Nat.reduceSub, pads, List.cons_append, List.nil_append, run_seq, run_region, runOps_cons, oper_none, ex_mov, opv, putK_to, List.set_cons_succ, List.set_cons_zero, opsK_some, runOps_nil, regK_some, seqK_normal, List.getD_cons_zero, ex_bin, List.getD_cons_succ, bin_neq, decide_true, Bool.not_true, valK_some, run_ret, bodyK_ret, results_1, res_tmp, retvK_some, pbodyK_some, frzN, frz_bool]
theorem nan73 (a : Int) : L.pcall 73 [.int .i64 a] = some (.bool false) := by
  have e : (a != a) = false := by simp
  rw [a73p, a73, pbodyA_eq]
  simp (maxSteps := 30000000) (disch := first | assumption | omega | (simp only [List.length_cons, List.length_nil, List.length_append, List.length_set, List.length_replicate, List.length_map, List.length_range, List.length_take, List.length_drop, List.all_cons, List.all_nil, AV.isCell, Bool.and_self, Bool.and_true, bs_length, is64_length, w64_length, ints_length] <;> omega) | rfl | decide) only [bodyA_eq, List.length_cons, List.length_nil, Nat.zero_add, Nat.reduceSub, pads, List.cons_append, List.nil_append, run_seq, run_region, runOps_cons, oper_none, ex_mov, opv, putK_to, List.set_cons_succ, List.set_cons_zero, opsK_some, runOps_nil, regK_some, seqK_normal, List.getD_cons_zero, ex_bin, List.getD_cons_succ, bin_neq, decide_true, Bool.not_true, valK_some, run_ret, bodyK_ret, results_1, res_tmp, retvK_some, pbodyK_some, frzN, frz_bool]
theorem less72 (a b : Int) : L.pcall 72 [.int .i64 a, .int .i64 b] = some (.bool (decide (a < b))) := by
  rw [a72p, a72, pbodyA_eq]
  simp (maxSteps := 30000000) (disch := first | assumption | omega | (simp only [List.length_cons, List.length_nil, List.length_append, List.length_set, List.length_replicate, List.length_map, List.length_range, List.length_take, List.length_drop, List.all_cons, List.all_nil, AV.isCell, Bool.and_self, Bool.and_true, bs_length, is64_length, w64_length, ints_length] <;> omega) | rfl | decide) only [bodyA_eq, List.length_cons, List.length_nil, Nat.zero_add, Nat.reduceAdd, Nat.reduceSub, pads, List.cons_append, List.nil_append, run_seq, run_region, runOps_cons, oper_none, ex_mov, opv, putK_to, List.set_cons_succ, List.set_cons_zero, opsK_some, runOps_nil, regK_some, seqK_normal, List.getD_cons_zero, ex_call, List.map_cons, List.getD_cons_succ, List.map_nil, pcallA_eq, frzN, List.mapM_cons, frz_int, List.mapM_nil, Option.pure_def, Option.bind_eq_bind, Option.bind_some, argK_some, nan84, retK_some, scal, scal1, fzIds, List.flatMap_cons, bor_int, List.flatMap_nil, List.append_nil, List.foldl_nil, ite_self, oper_guard, guardK_bool, Bool.false_eq_true, putA_to, if_false, frz_tup, Option.map_some, ex_un, ex_pick, pickA_bool, valK_some, if_true, ex_bin, bin_lss, run_ret, bodyK_ret, results_1, res_tmp, retvK_some, pbodyK_some, frz_bool]

theorem bs_loop {z : Bool} {l : List Nat} {q r : Nat} (hl : l.length ≤ 4096) (hr : ∀ h, h < l.length → (l.getD h 0 < q) = (h < r)) : ∀ d i j, j - i ≤ d → i ≤ r → r ≤ j → j ≤ l.length →
    L.loop a47l0s a47l0 ⟨a47l0F (.sl z l.length (is64 l)) (.int .i64 (q : Nat)) (.int .i64 (l.length : Nat)) (.int .i64 (i : Nat)) (.int .i64 (j : Nat)), []⟩ =
      some (.exit 0, ⟨a47l0F (.sl z l.length (is64 l)) (.int .i64 (q : Nat)) (.int .i64 (l.length : Nat)) (.int .i64 (r : Nat)) (.int .i64 (r : Nat)), []⟩)
  | 0, i, j, h1, h2, h3, h4 => by
    obtain rfl : i = r := by omega
    obtain rfl : j = i := by omega
    rw [a47l0n]
    simp (maxSteps := 30000000) (disch := first | assumption | omega | (simp only [List.length_cons, List.length_nil, List.length_append, List.length_set, List.length_replicate, List.length_map, List.length_range, List.length_take, List.length_drop, List.all_cons, List.all_nil, AV.isCell, Bool.and_self, Bool.and_true, bs_length, is64_length, w64_length, ints_length] <;> omega) | rfl | decide) only [a47l0b, run_seq, run_region, runOps_cons, oper_none, ex_mov, opv, List.getD_cons_succ, List.getD_cons_zero, putK_to, List.set_cons_succ, List.set_cons_zero, opsK_some, ex_bin, bin_lss, Int.lt_irrefl, decide_false, valK_some, runOps_nil, regK_some, seqK_normal, run_cond, condK_bool, Bool.false_eq_true, run_skip, run_exit, if_false, seqK_exit, loopK_exit, a47l0c]
  | d + 1, i, j, h1, h2, h3, h4 => by
    by_cases hij : i < j
    · have hlt : (i : Int) < (j : Nat) := by omega
      have hm : ((i + j : Nat) : Int).fdiv (2 ^ (min 1 IntKind.u64.bits)) = (((i + j) / 2 : Nat) : Int) := shrN (i + j) 1 (by omega)
      have hmlt : (i + j) / 2 < l.length := by omega
      have hrm := hr _ hmlt
      have hle : ((((l.getD ((i + j) / 2) 0 : Nat) : Int) < (q : Nat))) = (l.getD ((i + j) / 2) 0 < q) := propext ⟨fun h => by omega, fun h => by omega⟩
      by_cases c : (i + j) / 2 < r
      · have ih := bs_loop (z := z) hl hr d ((i + j) / 2 + 1) j (by omega) (by omega) h3 h4
        rw [a47l0n]
        generalize (i + j) / 2 = m at *
        simp (maxSteps := 30000000) (disch := first | assumption | omega | (simp only [List.length_cons, List.length_nil, List.length_append, List.length_set, List.length_replicate, List.length_map, List.length_range, List.length_take, List.length_drop, List.all_cons, List.all_nil, AV.isCell, Bool.and_self, Bool.and_true, bs_length, is64_length, w64_length, ints_length] <;> omega) | rfl | decide) only [a47l0b, run_seq, run_region, runOps_cons, oper_none, ex_mov, opv, List.getD_cons_succ, List.getD_cons_zero, putK_to, List.set_cons_succ, List.set_cons_zero, opsK_some, ex_bin, bin_lss, hlt, decide_true, valK_some, runOps_nil, regK_some, seqK_normal, run_cond, condK_bool, run_skip, run_exit, if_true, run_block, bin_add, cadd, wr64, ex_conv, convA_int, wrU64, bin_shr, Int.toNat_one, hm, ex_iaddr, iaddrA_sl, Int.toNat_natCast, Nat.mul_one, ex_load, rd_vptr, is64_drop, is64_take, is64_at0, drop_getD, Nat.add_zero, loadK_1, ex_call, List.map_cons, List.map_nil, pcallA_eq, frzN, List.mapM_cons, frz_int, List.mapM_nil, Option.pure_def, Option.bind_eq_bind, Option.bind_some, argK_some, less72, hle, hrm, c, retK_some, scal, scal1, fzIds, List.flatMap_cons, bor_int, List.flatMap_nil, List.append_nil, List.foldl_nil, ite_self, cadd1, blockK_normal, loopK_normal, a47l0c, ih]
      · have ih := bs_loop (z := z) hl hr d i ((i + j) / 2) (by omega) h2 (by omega) (by omega)
        rw [a47l0n]
        generalize (i + j) / 2 = m at *
        simp (maxSteps := 30000000) (disch := first | assumption | omega | (simp only [List.length_cons, List.length_nil, List.length_append, List.length_set, List.length_replicate, List.length_map, List.length_range, List.length_take, List.length_drop, List.all_cons, List.all_nil, AV.isCell, Bool.and_self, Bool.and_true, bs_length, is64_length, w64_length, ints_length] <;> omega) | rfl | decide) only [a47l0b, run_seq, run_region, runOps_cons, oper_none, ex_mov, opv, List.getD_cons_succ, List.getD_cons_zero, putK_to, List.set_cons_succ, List.set_cons_zero, opsK_some, ex_bin, bin_lss, hlt, decide_true, valK_some, runOps_nil, regK_some, seqK_normal, run_cond, condK_bool, run_skip, run_exit, if_true, run_block, bin_add, cadd, wr64, ex_conv, convA_int, wrU64, bin_shr, Int.toNat_one, hm, ex_iaddr, iaddrA_sl, Int.toNat_natCast, Nat.mul_one, ex_load, rd_vptr, is64_drop, is64_take, is64_at0, drop_getD, Nat.add_zero, loadK_1, ex_call, List.map_cons, List.map_nil, pcallA_eq, frzN, List.mapM_cons, frz_int, List.mapM_nil, Option.pure_def, Option.bind_eq_bind, Option.bind_some, argK_some, less72, hle, hrm, c, decide_false, retK_some, scal, scal1, fzIds, List.flatMap_cons, bor_int, List.flatMap_nil, List.append_nil, List.foldl_nil, ite_self, Bool.false_eq_true, cadd1, if_false, blockK_normal, loopK_normal, a47l0c, ih]
    · obtain rfl : i = r := by omega
      obtain rfl : j = i := by omega
      rw [a47l0n]
      simp (maxSteps := 30000000) (disch := first | assumption | omega | (simp only [List.length_cons, List.length_nil, List.length_append, List.length_set, List.length_replicate, List.length_map, List.length_range, List.length_take, List.length_drop, List.all_cons, List.all_nil, AV.isCell, Bool.and_self, Bool.and_true, bs_length, is64_length, w64_length, ints_length] <;> omega) | rfl | decide) only [a47l0b, run_seq, run_region, runOps_cons, oper_none, ex_mov, opv, List.getD_cons_succ, List.getD_cons_zero, putK_to, List.set_cons_succ, List.set_cons_zero, opsK_some, ex_bin, bin_lss, Int.lt_irrefl, decide_false, valK_some, runOps_nil, regK_some, seqK_normal, run_cond, condK_bool, Bool.false_eq_true, run_skip, run_exit, if_false, seqK_exit, loopK_exit, a47l0c]

theorem bs_eq (z : Bool) (S : Nat → Bool) {q : Nat} (hq : q < 4096) : L.pcall 47 [.sl z (setL S).length (is64 (setL S)), .int .i64 (q : Nat)] = some (.tup [.int .i64 (rank S q : Nat), .bool (S q)]) := by
  have hlen := setL_len S
  have hrk := rank_le S (by omega : q ≤ 4096)
  have hloop := bs_loop (z := z) (l := setL S) (q := q) (r := rank S q) hlen (fun h hh => setL_lt S (by omega) hh) (setL S).length 0 (setL S).length (by omega) (by omega) hrk (by omega)
  have hiff := setL_rank S hq
  simp only [Int.natCast_zero] at hloop
  generalize setL S = l at *
  generalize rank S q = r at *
  by_cases hlt : r < l.length
  · have hlt' : (r : Int) < (l.length : Nat) := by omega
    by_cases he : l.getD r 0 = q
    · rw [hiff.1 ⟨hlt, he⟩, a47p, a47, pbodyA_eq]
      simp (maxSteps := 30000000) (disch := first | assumption | omega | (simp only [List.length_cons, List.length_nil, List.length_append, List.length_set, List.length_replicate, List.length_map, List.length_range, List.length_take, List.length_drop, List.all_cons, List.all_nil, AV.isCell, Bool.and_self, Bool.and_true, bs_length, is64_length, w64_length, ints_length] <;> omega) | rfl | decide) only [bodyA_eq, List.length_cons, List.length_nil, Nat.zero_add, Nat.reduceAdd, Nat.reduceSub, pads, List.cons_append, List.nil_append, run_seq, run_region, runOps_cons, oper_none, ex_mov, opv, putK_to, List.set_cons_succ, List.set_cons_zero, opsK_some, runOps_nil, regK_some, seqK_normal, List.getD_cons_zero, ex_len, List.getD_cons_succ, lenA_sl, valK_some, run_block, run_loop, a47l0c, hloop, blockK_exit, if_true, ex_bin, bin_lss, hlt', decide_true, oper_guard, guardK_bool, putA_to, ex_iaddr, iaddrA_sl, Int.toNat_natCast, Nat.mul_one, ex_load, rd_vptr, is64_drop, is64_take, is64_at0, drop_getD, Nat.add_zero, he, loadK_1, bin_eql, Bool.true_eq_false, if_false, ex_call, List.map_cons, List.map_nil, pcallA_eq, frzN, List.mapM_cons, frz_tup, List.mapM_nil, Option.pure_def, Option.map_some, Option.bind_eq_bind, Option.bind_some, argK_some, ite_self, guardK_tup, ex_pick, pickA_bool, run_ret, bodyK_ret, results_2, resL_cons, res_tmp, resK_some, resL_nil, retvK_some, pbodyK_some, frz_int, frz_bool]
    · have hS : S q = false := by
        rw [Bool.eq_false_iff]
        exact fun h => he (hiff.2 h).2
      have he' : (((l.getD r 0 : Nat) : Int) = (q : Nat)) = False := eq_false (by omega)
      have he2 : (((l.getD r 0 : Nat) : Int) == (q : Nat)) = false := by rw [beq_eq_false_iff_ne]; omega
      rw [hS, a47p, a47, pbodyA_eq]
      simp (maxSteps := 30000000) (disch := first | assumption | omega | (simp only [List.length_cons, List.length_nil, List.length_append, List.length_set, List.length_replicate, List.length_map, List.length_range, List.length_take, List.length_drop, List.all_cons, List.all_nil, AV.isCell, Bool.and_self, Bool.and_true, bs_length, is64_length, w64_length, ints_length] <;> omega) | rfl | decide) only [bodyA_eq, List.length_cons, List.length_nil, Nat.zero_add, Nat.reduceAdd, Nat.reduceSub, pads, List.cons_append, List.nil_append, run_seq, run_region, runOps_cons, oper_none, ex_mov, opv, putK_to, List.set_cons_succ, List.set_cons_zero, opsK_some, runOps_nil, regK_some, seqK_normal, List.getD_cons_zero, ex_len, List.getD_cons_succ, lenA_sl, valK_some, run_block, run_loop, a47l0c, hloop, blockK_exit, if_true, ex_bin, bin_lss, hlt', decide_true, oper_guard, guardK_bool, putA_to, ex_iaddr, iaddrA_sl, Int.toNat_natCast, Nat.mul_one, ex_load, rd_vptr, is64_drop, is64_take, is64_at0, drop_getD, Nat.add_zero, loadK_1, bin_eql, he', decide_false, ex_call, List.map_cons, List.map_nil, pcallA_eq, frzN, List.mapM_cons, frz_int, List.mapM_nil, Option.pure_def, Option.bind_eq_bind, Option.bind_some, argK_some, nan73, retK_some, scal, scal1, fzIds, List.flatMap_cons, bor_int, List.flatMap_nil, List.append_nil, List.foldl_nil, ite_self, Bool.false_eq_true, if_false, frz_tup, Option.map_some, ex_pick, pickA_bool, run_ret, bodyK_ret, results_2, resL_cons, res_tmp, resK_some, resL_nil, retvK_some, pbodyK_some, frz_bool]
  · have hS : S q = false := by
      rw [Bool.eq_false_iff]
      exact fun h => hlt (hiff.2 h).1
    have hlt' : ¬ (r : Int) < (l.length : Nat) := by omega
    rw [hS, a47p, a47, pbodyA_eq]
    simp (maxSteps := 30000000) (disch := first | assumption | omega | (simp only [List.length_cons, List.length_nil, List.length_append, List.length_set, List.length_replicate, List.length_map, List.length_range, List.length_take, List.length_drop, List.all_cons, List.all_nil, AV.isCell, Bool.and_self, Bool.and_true, bs_length, is64_length, w64_length, ints_length] <;> omega) | rfl | decide) only [bodyA_eq, List.length_cons, List.length_nil, Nat.zero_add, Nat.reduceAdd, Nat.reduceSub, pads, List.cons_append, List.nil_append, run_seq, run_region, runOps_cons, oper_none, ex_mov, opv, putK_to, List.set_cons_succ, List.set_cons_zero, opsK_some, runOps_nil, regK_some, seqK_normal, List.getD_cons_zero, ex_len, List.getD_cons_succ, lenA_sl, valK_some, run_block, run_loop, a47l0c, hloop, blockK_exit, if_true, ex_bin, bin_lss, hlt', decide_false, oper_guard, guardK_bool, Bool.false_eq_true, putA_to, if_false, ex_iaddr, ex_load, ite_self, guardK_tup, ex_pick, pickA_bool, run_ret, bodyK_ret, results_2, resL_cons, res_tmp, resK_some, resL_nil, Option.map_some, retvK_some, pbodyK_some, frzN, frz_tup, List.mapM_cons, frz_int, frz_bool, List.mapM_nil, Option.pure_def, Option.bind_eq_bind, Option.bind_some]
end Go.Abs.NfaD
