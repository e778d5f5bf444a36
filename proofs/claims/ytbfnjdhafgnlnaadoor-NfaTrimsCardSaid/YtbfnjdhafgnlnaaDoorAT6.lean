/- The list of a set is what its words hold, in ascending order; Len. -/
import Derived.Test.YtbfnjdhafgnlnaaDoorAT5
import Derived.Test.YtbfnjdhafgnlnaaDoorAN3
namespace Go.Abs.NfaD
open Go Go.Abs
set_option linter.unusedSimpArgs false
set_option linter.unusedVariables false

theorem bitsFrom_range (x : Nat) : bitsFrom x 0 = (List.range 64).filter fun i => x.testBit i := by
  unfold bitsFrom
  rw [Nat.sub_zero, ← List.range_eq_range']

theorem elems_filter (a : List Nat) : ∀ d i, i + d ≤ 64 → elemsFrom a i d = (List.range' (64 * i) (64 * d)).filter (mem a)
  | 0, i, _ => by simp [elemsFrom]
  | d + 1, i, h => by
    rw [elemsFrom, elems_filter a d (i + 1) (by omega), Nat.mul_add 64 d 1, Nat.add_comm (64 * d), Nat.mul_one, ← List.range'_append_1, List.filter_append, bitsFrom_range, Nat.mul_add 64 i 1, Nat.mul_one]
    congr 1
    rw [List.range'_eq_map_range, List.filter_map]
    congr 1
    apply List.filter_congr
    intro b hb
    have hb' := List.mem_range.1 hb
    show _ = mem a (64 * i + b)
    unfold mem
    rw [show (64 * i + b) / 64 = i by omega, show (64 * i + b) % 64 = b by omega]
    simp [show 64 * i + b < 4096 by omega]

theorem listM_filter (a : List Nat) : listM a = (List.range 4096).filter (mem a) := by
  unfold listM
  have hN : min a.length 64 ≤ 64 := Nat.min_le_right _ _
  rw [elems_filter a _ 0 (by omega), Nat.mul_zero]
  have e : List.range 4096 = List.range' 0 (64 * min a.length 64) ++ List.range' (64 * min a.length 64) (4096 - 64 * min a.length 64) := by
    have e0 := List.range'_append_1 (s := 0) (m := 64 * min a.length 64) (n := 4096 - 64 * min a.length 64)
    rw [Nat.zero_add, show 64 * min a.length 64 + (4096 - 64 * min a.length 64) = 4096 by omega] at e0
    rw [List.range_eq_range', e0]
  rw [e, List.filter_append]
  have h2 : (List.range' (64 * min a.length 64) (4096 - 64 * min a.length 64)).filter (mem a) = [] := by
    rw [List.filter_eq_nil_iff]
    intro j hj
    rw [List.mem_range'_1] at hj
    have : a.length ≤ j / 64 := by omega
    unfold mem
    rw [getD_out this]
    simp
  rw [h2, List.append_nil]

/-- the numbers of S in ascending order -/
def setL (S : Nat → Bool) : List Nat := (List.range 4096).filter S

theorem list_has {v : AV} {S : Nat → Bool} (hv : HasSet v S) : L.pcall 44 [v] = some (.sl (decide ((setL S).length = 0)) (setL S).length (is64 (setL S))) := by
  obtain ⟨z, l, rfl, w, hl, h⟩ := hv
  have e : setL S = listM l := by
    rw [listM_filter]
    unfold setL
    apply List.filter_congr
    intro j _
    rw [h]
  rw [e]
  exact list_eq z w hl

/-- the sum of the words' numbers of bits -/
def popSum (a : List Nat) : Nat → Nat
  | 0 => 0
  | n + 1 => popSum a n + popN (a.getD n 0) 64

theorem popN_le (x n : Nat) : popN x n ≤ n := by
  unfold popN
  exact Nat.le_trans (List.length_filter_le _ _) (by simp)
theorem popSum_le (a : List Nat) : ∀ n, popSum a n ≤ 64 * n
  | 0 => by simp [popSum]
  | n + 1 => by have := popSum_le a n; have := popN_le (a.getD n 0) 64; simp only [popSum]; omega

theorem popSum_elems (a : List Nat) : ∀ n, n ≤ 64 → popSum a n = ((List.range (64 * n)).filter (mem a)).length
  | 0, _ => by simp [popSum]
  | n + 1, h => by
    rw [popSum, popSum_elems a n (by omega), Nat.mul_add, Nat.mul_one, List.range_add, List.filter_append, List.length_append, List.filter_map, List.length_map]
    congr 1
    unfold popN
    congr 1
    apply List.filter_congr
    intro b hb
    have hb' := List.mem_range.1 hb
    show _ = mem a (64 * n + b)
    unfold mem
    rw [show (64 * n + b) / 64 = n by omega, show (64 * n + b) % 64 = b by omega]
    simp [show 64 * n + b < 4096 by omega]

theorem popSum_list (a : List Nat) (hl : a.length ≤ 64) : popSum a a.length = (listM a).length := by
  have h1 : min a.length 64 = a.length := Nat.min_eq_left hl
  rw [popSum_elems a _ hl]
  unfold listM
  rw [h1, elems_filter a _ 0 (by omega), Nat.mul_zero, List.range_eq_range']

theorem len_loop {z : Bool} {a : List Nat} (wa : W a) (hl : a.length ≤ 64) : ∀ d i, i + d = a.length →
    L.loop a29l0s a29l0 ⟨a29l0F (.int .i64 (popSum a i : Nat)) (sw z a) (.int .i64 (a.length : Nat)) (.int .i64 (i : Nat)), []⟩ =
      some (.exit 0, ⟨a29l0F (.int .i64 (popSum a a.length : Nat)) (sw z a) (.int .i64 (a.length : Nat)) (.int .i64 (a.length : Nat)), []⟩)
  | 0, i, h => by
    obtain rfl : i = a.length := by omega
    rw [a29l0n]
    simp (maxSteps := 30000000) (disch := first | assumption | omega | (simp only [List.length_cons, List.length_nil, List.length_append, List.length_set, List.length_replicate, List.length_map, List.length_range, List.length_take, List.length_drop, List.all_cons, List.all_nil, AV.isCell, Bool.and_self, Bool.and_true, bs_length, is64_length, w64_length, ints_length] <;> omega) | rfl | decide) only [a29l0b, run_seq, run_region, runOps_cons, oper_none, ex_bin, opv, List.getD_cons_succ, List.getD_cons_zero, bin_lss, Int.lt_irrefl, decide_false, valK_some, putK_to, List.set_cons_succ, List.set_cons_zero, opsK_some, runOps_nil, regK_some, seqK_normal, run_cond, condK_bool, Bool.false_eq_true, run_skip, run_exit, if_false, seqK_exit, loopK_exit, a29l0c]
  | d + 1, i, h => by
    have hlt : (i : Int) < (a.length : Nat) := by omega
    have ih := len_loop (z := z) wa hl d (i + 1) (by omega)
    have hp := ones63 (wa.get i)
    have h1 := popSum_le a i
    have h2 := popN_le (a.getD i 0) 64
    simp only [popSum] at ih
    rw [a29l0n]
    generalize popN (a.getD i 0) 64 = p at *
    generalize popSum a i = q at *
    simp (maxSteps := 30000000) (disch := first | assumption | omega | (simp only [List.length_cons, List.length_nil, List.length_append, List.length_set, List.length_replicate, List.length_map, List.length_range, List.length_take, List.length_drop, List.all_cons, List.all_nil, AV.isCell, Bool.and_self, Bool.and_true, bs_length, is64_length, w64_length, ints_length] <;> omega) | rfl | decide) only [a29l0b, run_seq, run_region, runOps_cons, oper_none, ex_bin, opv, List.getD_cons_succ, List.getD_cons_zero, bin_lss, hlt, decide_true, valK_some, putK_to, List.set_cons_succ, List.set_cons_zero, opsK_some, runOps_nil, regK_some, seqK_normal, run_cond, condK_bool, run_skip, run_exit, if_true, run_block, ex_iaddr, iaddrA_sl, Int.toNat_natCast, Nat.mul_one, ex_load, rd_vptr, w64_drop, w64_take, w64_at0, drop_getD, Nat.add_zero, loadK_1, ex_mov, ex_call, List.map_cons, List.map_nil, pcallA_eq, frzN, List.mapM_cons, frz_int, List.mapM_nil, Option.pure_def, Option.bind_eq_bind, Option.bind_some, argK_some, hp, retK_some, scal, scal1, fzIds, List.flatMap_cons, bor_int, List.flatMap_nil, List.append_nil, List.foldl_nil, ite_self, bin_add, cadd, wr64, blockK_normal, cadd1, loopK_normal, a29l0c, ih]

theorem len_has {v : AV} {S : Nat → Bool} (hv : HasSet v S) : L.pcall 29 [v] = some (.int .i64 ((setL S).length : Nat)) := by
  obtain ⟨za, a, rfl, wa, la, ha⟩ := id hv
  obtain ⟨z, h⟩ := union_raw (za := za) (zb := true) (b := []) wa (fun x hx => by simp at hx) la (by simp)
  have hcan : L.pcall 62 [sw za a] = some (sw z (combM (· ||| ·) a [])) := by
    rw [a62p, a62, pbodyA_eq]
    have h' : L.pcall 77 [sw za a, .sl true 0 []] = _ := h
    simp (maxSteps := 30000000) (disch := first | assumption | omega | (simp only [List.length_cons, List.length_nil, List.length_append, List.length_set, List.length_replicate, List.length_map, List.length_range, List.length_take, List.length_drop, List.all_cons, List.all_nil, AV.isCell, Bool.and_self, Bool.and_true, bs_length, is64_length, w64_length, ints_length] <;> omega) | rfl | decide) only [bodyA_eq, List.length_cons, List.length_nil, Nat.zero_add, Nat.reduceSub, pads, List.cons_append, List.nil_append, run_seq, run_region, runOps_cons, oper_none, ex_mov, opv, putK_to, List.set_cons_succ, List.set_cons_zero, opsK_some, runOps_nil, regK_some, seqK_normal, List.getD_cons_zero, ex_call, List.map_cons, List.getD_cons_succ, List.map_nil, pcallA_eq, frzN, List.mapM_cons, frz_sl, List.mapM_nil, Option.pure_def, Option.bind_eq_bind, Option.bind_some, argK_some, h', retK_some, scal, scal1, Bool.false_eq_true, fzIds, List.flatMap_cons, bor_sl, List.flatMap_nil, List.append_nil, List.foldl_nil, ite_self, run_ret, bodyK_ret, results_1, res_tmp, retvK_some, pbodyK_some]
  have hW : W (combM (· ||| ·) a []) := combM_W (fun x y hx hy => or_lt hx hy) wa (fun x hx => by simp at hx)
  have hlen := combM_len (· ||| ·) a []
  have hS : ∀ j, mem (combM (· ||| ·) a []) j = S j := fun j => by
    by_cases hj : j < 4096
    · rw [mem_comb (f := (· || ·)) a [] (by simp) (fun x y i => by simp) j hj, ha]
      simp [mem]
    · rw [hv.out (j := j) (by omega)]
      simp [mem, hj]
  generalize combM (· ||| ·) a [] = b at *
  have e : setL S = listM b := by
    rw [listM_filter]
    unfold setL
    apply List.filter_congr
    intro j _
    rw [hS]
  have hloop := len_loop (z := z) hW hlen b.length 0 (by omega)
  rw [e, ← popSum_list b hlen]
  simp only [popSum, Int.natCast_zero] at hloop
  rw [a29p, a29, pbodyA_eq]
  simp (maxSteps := 30000000) (disch := first | assumption | omega | (simp only [List.length_cons, List.length_nil, List.length_append, List.length_set, List.length_replicate, List.length_map, List.length_range, List.length_take, List.length_drop, List.all_cons, List.all_nil, AV.isCell, Bool.and_self, Bool.and_true, bs_length, is64_length, w64_length, ints_length] <;> omega) | rfl | decide) only [bodyA_eq, List.length_cons, List.length_nil, Nat.zero_add, Nat.reduceSub, pads, List.cons_append, List.nil_append, run_seq, run_region, runOps_cons, oper_none, ex_mov, opv, putK_to, List.set_cons_succ, List.set_cons_zero, opsK_some, runOps_nil, regK_some, seqK_normal, List.getD_cons_zero, ex_call, List.map_cons, List.getD_cons_succ, List.map_nil, pcallA_eq, frzN, List.mapM_cons, frz_sl, List.mapM_nil, Option.pure_def, Option.bind_eq_bind, Option.bind_some, argK_some, hcan, retK_some, scal, scal1, Bool.false_eq_true, fzIds, List.flatMap_cons, bor_sl, List.flatMap_nil, List.append_nil, List.foldl_nil, ite_self, ex_len, lenA_sl, valK_some, run_block, run_loop, a29l0c, hloop, blockK_exit, if_true, run_ret, bodyK_ret, results_1, res_tmp, retvK_some, pbodyK_some, frz_int]
end Go.Abs.NfaD
