/- elements' outer loop; List. -/
import Derived.Test.YtbfnjdhafgnlnaaDoorAT2
namespace Go.Abs.NfaD
open Go Go.Abs
set_option linter.unusedSimpArgs false
set_option linter.unusedVariables false

def elemsFrom (a : List Nat) : Nat → Nat → List Nat
  | i, 0 => []
  | i, d + 1 => (bitsFrom (a.getD i 0) 0).map (fun b => 64 * i + b) ++ elemsFrom a (i + 1) d

theorem elemsFrom_len (a : List Nat) : ∀ d i, (elemsFrom a i d).length ≤ 64 * d
  | 0, i => by simp [elemsFrom]
  | d + 1, i => by
    have h1 := bitsFrom_len (a.getD i 0) 0
    have h2 := elemsFrom_len a d (i + 1)
    simp only [elemsFrom, List.length_append, List.length_map]
    omega

/-- the elements of a set of words -/
def listM (a : List Nat) : List Nat := elemsFrom a 0 (min a.length 64)

theorem listM_len (a : List Nat) : (listM a).length ≤ 4096 := by
  have := elemsFrom_len a (min a.length 64) 0
  unfold listM
  omega

section
variable (s0 s1 s3 s4 s5 s6 s7 s8 s9 s10 s11 : AV)

theorem out80 (sS : AV) {z : Bool} {a : List Nat} (wa : W a) {N : Nat} (hN : N = min a.length 64) : ∀ d i l, i + d = N → l.length ≤ 64 * i →
    L.loop a80l1s a80l1 ⟨a80l1F (.yield 2) (.sl z N (w64 (a.take N))) (.int .i64 (N : Nat)) (.int .i64 (i : Nat)), H44 s0 s1 s3 s4 s5 s6 s7 s8 s9 s10 s11 sS l⟩ =
      some (.exit 0, ⟨a80l1F (.yield 2) (.sl z N (w64 (a.take N))) (.int .i64 (N : Nat)) (.int .i64 (N : Nat)), H44 s0 s1 s3 s4 s5 s6 s7 s8 s9 s10 s11 sS (l ++ elemsFrom a i d)⟩)
  | 0, i, l, h, hl => by
    obtain rfl : i = N := by omega
    rw [elemsFrom, List.append_nil, a80l1n]
    simp (maxSteps := 30000000) (disch := first | assumption | omega | (simp only [List.length_cons, List.length_nil, List.length_append, List.length_set, List.length_replicate, List.length_map, List.length_range, List.length_take, List.length_drop, List.all_cons, List.all_nil, AV.isCell, Bool.and_self, Bool.and_true, bs_length, is64_length, w64_length, ints_length] <;> omega) | rfl | decide) only [a80l1b, run_seq, run_region, runOps_cons, oper_none, ex_bin, opv, List.getD_cons_succ, List.getD_cons_zero, bin_lss, Int.lt_irrefl, decide_false, valK_some, putK_to, List.set_cons_succ, List.set_cons_zero, opsK_some, runOps_nil, regK_some, seqK_normal, run_cond, condK_bool, Bool.false_eq_true, run_skip, run_exit, if_false, seqK_exit, loopK_exit, a80l1c]
  | d + 1, i, l, h, hl => by
    have hlt : (i : Int) < (N : Nat) := by omega
    have hb := bitsFrom_len (a.getD i 0) 0
    have ih := out80 sS (z := z) wa hN d (i + 1) (l ++ (bitsFrom (a.getD i 0) 0).map (fun b => 64 * i + b)) (by omega) (by simp only [List.length_append, List.length_map]; omega)
    have hin := in80 s0 s1 s3 s4 s5 s6 s7 s8 s9 s10 s11 sS (x := a.getD i 0) i (by omega) 64 0 (a.getD i 0) l (by omega) (fun b => by simp) (wa.get i) (by omega) (.sl z N (w64 (a.take N))) (.int .i64 (N : Nat)) (.int .i64 (i : Nat))
    have hln : (List.take N a).length = N := by rw [List.length_take]; omega
    have hg : (List.take N a).getD i 0 = a.getD i 0 := by
      simp [List.getD, List.getElem?_take, show i < N by omega]
    rw [elemsFrom, ← List.append_assoc, ← ih, a80l1n]
    simp only [H44] at hin ⊢
    generalize (bitsFrom (a.getD i 0) 0) = B at *
    simp (maxSteps := 30000000) (disch := first | assumption | omega | (simp only [List.length_cons, List.length_nil, List.length_append, List.length_set, List.length_replicate, List.length_map, List.length_range, List.length_take, List.length_drop, List.all_cons, List.all_nil, AV.isCell, Bool.and_self, Bool.and_true, bs_length, is64_length, w64_length, ints_length] <;> omega) | rfl | decide) only [a80l1b, run_seq, run_region, runOps_cons, oper_none, ex_bin, opv, List.getD_cons_succ, List.getD_cons_zero, bin_lss, hlt, decide_true, valK_some, putK_to, List.set_cons_succ, List.set_cons_zero, opsK_some, runOps_nil, regK_some, seqK_normal, run_cond, condK_bool, run_skip, run_exit, if_true, run_block, ex_mov, ex_iaddr, iaddrA_sl, Int.toNat_natCast, Nat.mul_one, ex_load, rd_vptr, w64_drop, w64_take, w64_at0, drop_getD, Nat.add_zero, hg, loadK_1, run_loop, a80l0c, hin, blockK_exit, blockK_normal, bin_add, cadd1, wr64, loopK_normal, a80l1c]
end

theorem list_eq (z : Bool) {a : List Nat} (wa : W a) (hl : a.length < 1099511627776) : L.pcall 44 [sw z a] = some (.sl (decide ((listM a).length = 0)) (listM a).length (is64 (listM a))) := by
  have hm : min (a.length : Int) 64 = ((min a.length 64 : Nat) : Int) := by omega
  have ho := fun s0 s1 s3 s4 s5 s6 s7 s8 s9 s10 s11 sS => out80 s0 s1 s3 s4 s5 s6 s7 s8 s9 s10 s11 sS (z := z) wa rfl (min a.length 64) 0 [] (by omega) (by simp)
  simp only [List.nil_append, Int.natCast_zero, H44, outL, heapL] at ho
  have hle : min a.length 64 ≤ a.length := Nat.min_le_left _ _
  have hll := listM_len a
  change ∀ s0 s1 s3 s4 s5 s6 s7 s8 s9 s10 s11 sS, _ = some (_, (⟨_, (Blk.cells false false [outL (listM a)] :: Blk.cells false false [sS] :: Blk.loop 0 none (F44 s0 s1 s3 s4 s5 s6 s7 s8 s9 s10 s11) [6] a44r0a a44r0 :: heapL (listM a) : Heap)⟩ : St)) at ho
  generalize min a.length 64 = N at *
  rw [a44p, a44, pbodyA_eq]
  cases e : listM a with
  | nil =>
    rw [e] at ho
    simp only [outL, heapL] at ho
    simp (maxSteps := 30000000) (disch := first | assumption | omega | (simp only [List.length_cons, List.length_nil, List.length_append, List.length_set, List.length_replicate, List.length_map, List.length_range, List.length_take, List.length_drop, List.all_cons, List.all_nil, AV.isCell, Bool.and_self, Bool.and_true, bs_length, is64_length, w64_length, ints_length] <;> omega) | rfl | decide) only [bodyA_eq, List.length_cons, List.length_nil, Nat.zero_add, Nat.reduceSub, pads, List.cons_append, List.nil_append, run_seq, run_region, runOps_cons, oper_none, ex_box, AV.cells, opv, List.all_cons, AV.isCell, List.all_nil, Bool.and_self, if_true, putK_to, List.set_cons_succ, List.set_cons_zero, opsK_some, runOps_nil, regK_some, seqK_normal, ex_mov, List.getD_cons_zero, ex_icall, List.map_cons, List.getD_cons_succ, List.map_nil, a69i, a69, List.append_nil, ex_mkfunc, run_ret, bodyK_ret, results_1, res_tmp, retvK_some, run_block, run_range, rangeK_func, Nat.reduceAdd, a80i, a80, ex_load, rd_ptr, List.getElem?_cons_succ, List.getElem?_cons_zero, rdK_cells, List.drop_zero, List.take_succ_cons, List.take_nil, loadK_1, valK_some, ex_len, lenA_sl, ex_mini, minA_int, hm, ex_slice, Option.map_none, Option.map_some, sliceA_sl, bounds_ns, Int.toNat_natCast, cutK_sl, Nat.sub_zero, Nat.mul_one, w64_take, run_loop, a80l1c, ho, blockK_exit, bodyK_normal, results_0, rangeEnd_some, rangeOut_0, blockK_normal, ex_store, wr_ptr, wrK_cells, splice, List.take_zero, List.drop_succ_cons, List.drop_nil, storeK_some, putK_no, res_cell, cellK_some, mkv_1, pbodyK_some, frzN, frz_sl, decide_true]
    rfl
  | cons x l =>
    rw [e] at ho hll
    simp only [List.length_cons] at hll
    simp only [outL, heapL] at ho
    have htk : List.take (l.length + 1) (x :: l) = x :: l := List.take_of_length_le (by simp)
    simp (maxSteps := 30000000) (disch := first | assumption | omega | (simp only [List.length_cons, List.length_nil, List.length_append, List.length_set, List.length_replicate, List.length_map, List.length_range, List.length_take, List.length_drop, List.all_cons, List.all_nil, AV.isCell, Bool.and_self, Bool.and_true, bs_length, is64_length, w64_length, ints_length] <;> omega) | rfl | decide) only [bodyA_eq, List.length_cons, List.length_nil, Nat.zero_add, Nat.reduceSub, pads, List.cons_append, List.nil_append, run_seq, run_region, runOps_cons, oper_none, ex_box, AV.cells, opv, List.all_cons, AV.isCell, List.all_nil, Bool.and_self, if_true, putK_to, List.set_cons_succ, List.set_cons_zero, opsK_some, runOps_nil, regK_some, seqK_normal, ex_mov, List.getD_cons_zero, ex_icall, List.map_cons, List.getD_cons_succ, List.map_nil, a69i, a69, List.append_nil, ex_mkfunc, run_ret, bodyK_ret, results_1, res_tmp, retvK_some, run_block, run_range, rangeK_func, Nat.reduceAdd, a80i, a80, ex_load, rd_ptr, List.getElem?_cons_succ, List.getElem?_cons_zero, rdK_cells, List.drop_zero, List.take_succ_cons, List.take_nil, loadK_1, valK_some, ex_len, lenA_sl, ex_mini, minA_int, hm, ex_slice, Option.map_none, Option.map_some, sliceA_sl, bounds_ns, Int.toNat_natCast, cutK_sl, Nat.sub_zero, Nat.mul_one, w64_take, run_loop, a80l1c, ho, blockK_exit, bodyK_normal, results_0, rangeEnd_some, rangeOut_0, blockK_normal, ex_store, wr_ptr, wrK_cells, splice, List.take_zero, List.drop_succ_cons, List.drop_nil, storeK_some, putK_no, res_cell, cellK_some, mkv_1, pbodyK_some, frzN, frz_own, dead_get, frzK_cells, is64_take, htk, frz_is64, slK_some, Nat.reduceEqDiff, decide_false]
end Go.Abs.NfaD
