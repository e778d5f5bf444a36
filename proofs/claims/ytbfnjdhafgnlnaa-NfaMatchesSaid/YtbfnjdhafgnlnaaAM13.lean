/- What the law NfaMatches does besides: sets of the reference, comparisons, copies, results overwritten. -/
import Derived.Test.YtbfnjdhafgnlnaaAM12
import Derived.Test.YtbfnjdhafgnlnaaAwake
import Derived.Test.YtbfnjdhafgnlnaaAbsIn
namespace Go.Abs.Nfa
open Go Go.Abs
set_option linter.unusedSimpArgs false
set_option linter.unusedVariables false

theorem frz_edges (d : Nat) (H : Heap) (l : List Ed) : (edges l).mapM (frz d H) = some (edges l) := by
  induction l with
  | nil => rfl
  | cons e l ih =>
    have : edges (e :: l) = .int .i64 e.a :: .int .i64 e.b :: .int .u8 (e.p : Nat) :: .int .u8 (e.n : Nat) :: edges l := rfl
    rw [this]
    simp only [List.mapM_cons, frz_int, ih]
    rfl
theorem bor_edges (d : Nat) (H : Heap) (l : List Ed) : (edges l).flatMap (bor d H) = [] := by
  induction l with
  | nil => rfl
  | cons e l ih =>
    have : edges (e :: l) = .int .i64 e.a :: .int .i64 e.b :: .int .u8 (e.p : Nat) :: .int .u8 (e.n : Nat) :: edges l := rfl
    rw [this]
    simp only [List.flatMap_cons, bor_int, ih]
    rfl

theorem ints_same_loop {l : List Int} {z z' : Bool} {s4 : AV} {H : Heap} (hl : l.length < 1099511627776) : ∀ d i, i + d = l.length →
    L.loop a40l0s a40l0 ⟨a40l0F (iw z l) (iw z' l) s4 (.int .i64 (i : Nat)), H⟩ = some (.exit 0, ⟨a40l0F (iw z l) (iw z' l) s4 (.int .i64 (l.length : Nat)), H⟩)
  | 0, i, h => by
    obtain rfl : i = l.length := by omega
    rw [a40l0n]
    simp (maxSteps := 30000000) (disch := first | assumption | omega | (simp only [List.length_cons, List.length_nil, List.length_append, List.length_set, List.length_replicate, List.length_map, List.length_range, List.length_take, List.length_drop, List.all_cons, List.all_nil, AV.isCell, Bool.and_self, Bool.and_true, bs_length, is64_length, w64_length, ints_length, edges_length] <;> omega) | rfl | decide) only [a40l0b, run_seq, run_region, runOps_cons, oper_none, ex_mov, opv, List.getD_cons_succ, List.getD_cons_zero, putK_to, List.set_cons_succ, List.set_cons_zero, opsK_some, ex_len, lenA_sl, valK_some, ex_bin, bin_lss, Int.lt_irrefl, decide_false, runOps_nil, regK_some, seqK_normal, run_cond, condK_bool, Bool.false_eq_true, run_skip, run_exit, if_false, seqK_exit, loopK_exit, a40l0c]
  | d + 1, i, h => by
    have hlt : (i : Int) < (l.length : Nat) := by omega
    have ih := ints_same_loop (z := z) (z' := z') (s4 := s4) (H := H) hl d (i + 1) (by omega)
    rw [a40l0n]
    simp (maxSteps := 30000000) (disch := first | assumption | omega | (simp only [List.length_cons, List.length_nil, List.length_append, List.length_set, List.length_replicate, List.length_map, List.length_range, List.length_take, List.length_drop, List.all_cons, List.all_nil, AV.isCell, Bool.and_self, Bool.and_true, bs_length, is64_length, w64_length, ints_length, edges_length] <;> omega) | rfl | decide) only [a40l0b, run_seq, run_region, runOps_cons, oper_none, ex_mov, opv, List.getD_cons_succ, List.getD_cons_zero, putK_to, List.set_cons_succ, List.set_cons_zero, opsK_some, ex_len, lenA_sl, valK_some, ex_bin, bin_lss, hlt, decide_true, runOps_nil, regK_some, seqK_normal, run_cond, condK_bool, run_skip, run_exit, if_true, run_block, run_draw, List.take_succ_cons, List.take_zero, runFree_cons, foper_none, fe_mov, fstK_some, fputK_to, freeK_some, fe_iaddr, ex_iaddr, iaddrA_sl, Int.toNat_natCast, Nat.mul_one, fe_load, ex_load, rd_vptr, ints_drop, ints_take, ints_at0, getD_dropI, Nat.add_zero, loadK_1, runFree_nil, drawK_some, List.drop_succ_cons, List.drop_zero, adopt, adoptVal, bin_neq, Bool.not_true, Bool.false_eq_true, run_ret, if_false, blockK_normal, bin_add, cadd1, wr64, loopK_normal, a40l0c, ih]

theorem ints_same (z z' : Bool) (l : List Int) (hl : l.length < 1099511627776) : L.pcall 40 [iw z l, iw z' l] = some (.bool true) := by
  have ih := fun s4 => ints_same_loop (z := z) (z' := z') (s4 := s4) (H := []) hl l.length 0 (by omega)
  simp only [Int.natCast_zero] at ih
  rw [a40p, a40, pbodyA_eq]
  simp (maxSteps := 30000000) (disch := first | assumption | omega | (simp only [List.length_cons, List.length_nil, List.length_append, List.length_set, List.length_replicate, List.length_map, List.length_range, List.length_take, List.length_drop, List.all_cons, List.all_nil, AV.isCell, Bool.and_self, Bool.and_true, bs_length, is64_length, w64_length, ints_length, edges_length] <;> omega) | rfl | decide) only [bodyA_eq, List.length_cons, List.length_nil, Nat.zero_add, Nat.reduceAdd, Nat.reduceSub, pads, List.cons_append, List.nil_append, run_seq, run_region, runOps_cons, oper_none, ex_mov, opv, putK_to, List.set_cons_succ, List.set_cons_zero, opsK_some, runOps_nil, regK_some, seqK_normal, List.getD_cons_zero, ex_len, List.getD_cons_succ, lenA_sl, valK_some, ex_bin, bin_neq, decide_true, Bool.not_true, run_cond, condK_bool, Bool.false_eq_true, run_ret, run_skip, if_false, run_block, run_loop, a40l0c, ih, blockK_exit, if_true, bodyK_ret, results_1, res_tmp, retvK_some, pbodyK_some, frzN, frz_bool]

theorem eds_same_loop {l : List Ed} {z z' : Bool} {s4 : AV} {H : Heap} (hl : l.length < 1099511627776) : ∀ d i, i + d = l.length →
    L.loop a48l0s a48l0 ⟨a48l0F (.sl z l.length (edges l)) (.sl z' l.length (edges l)) s4 (.int .i64 (i : Nat)), H⟩ = some (.exit 0, ⟨a48l0F (.sl z l.length (edges l)) (.sl z' l.length (edges l)) s4 (.int .i64 (l.length : Nat)), H⟩)
  | 0, i, h => by
    obtain rfl : i = l.length := by omega
    rw [a48l0n]
    simp (maxSteps := 30000000) (disch := first | assumption | omega | (simp only [List.length_cons, List.length_nil, List.length_append, List.length_set, List.length_replicate, List.length_map, List.length_range, List.length_take, List.length_drop, List.all_cons, List.all_nil, AV.isCell, Bool.and_self, Bool.and_true, bs_length, is64_length, w64_length, ints_length, edges_length] <;> omega) | rfl | decide) only [a48l0b, run_seq, run_region, runOps_cons, oper_none, ex_mov, opv, List.getD_cons_succ, List.getD_cons_zero, putK_to, List.set_cons_succ, List.set_cons_zero, opsK_some, ex_len, lenA_sl, valK_some, ex_bin, bin_lss, Int.lt_irrefl, decide_false, runOps_nil, regK_some, seqK_normal, run_cond, condK_bool, Bool.false_eq_true, run_skip, run_exit, if_false, seqK_exit, loopK_exit, a48l0c]
  | d + 1, i, h => by
    have hlt : (i : Int) < (l.length : Nat) := by omega
    have ih := eds_same_loop (z := z) (z' := z') (s4 := s4) (H := H) hl d (i + 1) (by omega)
    rw [a48l0n]
    simp (maxSteps := 30000000) (disch := first | assumption | omega | (simp only [List.length_cons, List.length_nil, List.length_append, List.length_set, List.length_replicate, List.length_map, List.length_range, List.length_take, List.length_drop, List.all_cons, List.all_nil, AV.isCell, Bool.and_self, Bool.and_true, bs_length, is64_length, w64_length, ints_length, edges_length] <;> omega) | rfl | decide) only [a48l0b, run_seq, run_region, runOps_cons, oper_none, ex_mov, opv, List.getD_cons_succ, List.getD_cons_zero, putK_to, List.set_cons_succ, List.set_cons_zero, opsK_some, ex_len, lenA_sl, valK_some, ex_bin, bin_lss, hlt, decide_true, runOps_nil, regK_some, seqK_normal, run_cond, condK_bool, run_skip, run_exit, if_true, run_block, run_draw, List.take_succ_cons, List.take_zero, runFree_cons, foper_none, fe_mov, fstK_some, fputK_to, freeK_some, fe_iaddr, ex_iaddr, iaddrA_sl, Int.toNat_natCast, fe_load, ex_load, rd_vptr, edges_at, loadK_n, runFree_nil, drawK_some, List.drop_succ_cons, List.drop_zero, adopt, adoptVal, ex_aeq, aeqA_agg, eqCells, eq1, beq_self_eq_true, Bool.and_self, Option.map_some, bne_self_eq_false, Bool.false_eq_true, run_ret, if_false, blockK_normal, bin_add, cadd1, wr64, loopK_normal, a48l0c, ih]

theorem eds_same (z z' : Bool) (l : List Ed) (hl : l.length < 1099511627776) : L.pcall 48 [.sl z l.length (edges l), .sl z' l.length (edges l)] = some (.bool true) := by
  have ih := fun s4 => eds_same_loop (z := z) (z' := z') (s4 := s4) (H := []) hl l.length 0 (by omega)
  simp only [Int.natCast_zero] at ih
  rw [a48p, a48, pbodyA_eq]
  simp (maxSteps := 30000000) (disch := first | assumption | omega | (simp only [List.length_cons, List.length_nil, List.length_append, List.length_set, List.length_replicate, List.length_map, List.length_range, List.length_take, List.length_drop, List.all_cons, List.all_nil, AV.isCell, Bool.and_self, Bool.and_true, bs_length, is64_length, w64_length, ints_length, edges_length] <;> omega) | rfl | decide) only [bodyA_eq, List.length_cons, List.length_nil, Nat.zero_add, Nat.reduceAdd, Nat.reduceSub, pads, List.cons_append, List.nil_append, run_seq, run_region, runOps_cons, oper_none, ex_mov, opv, putK_to, List.set_cons_succ, List.set_cons_zero, opsK_some, runOps_nil, regK_some, seqK_normal, List.getD_cons_zero, ex_len, List.getD_cons_succ, lenA_sl, valK_some, ex_bin, bin_neq, decide_true, Bool.not_true, run_cond, condK_bool, Bool.false_eq_true, run_ret, run_skip, if_false, run_block, run_loop, a48l0c, ih, blockK_exit, if_true, bodyK_ret, results_1, res_tmp, retvK_some, pbodyK_some, frzN, frz_bool]

theorem nfa_same (n : Aut) (hf : Fits n) (z1 z2 z3 : Bool) : L.pcall 14 [(Aut.mk n.vars n.states z1 n.st z2 n.fi z3 n.ed).av, n.av] = some (.bool true) := by
  have g1 := ints_same z1 n.z1 n.st hf.l1
  have g2 := ints_same z2 n.z2 n.fi hf.l2
  have g3 := eds_same z3 n.z3 n.ed hf.l3
  rw [a14p, a14, pbodyA_eq]
  simp (maxSteps := 30000000) (disch := first | assumption | omega | (simp only [List.length_cons, List.length_nil, List.length_append, List.length_set, List.length_replicate, List.length_map, List.length_range, List.length_take, List.length_drop, List.all_cons, List.all_nil, AV.isCell, Bool.and_self, Bool.and_true, bs_length, is64_length, w64_length, ints_length, edges_length] <;> omega) | rfl | decide) only [bodyA_eq, List.length_cons, List.length_nil, Nat.zero_add, Nat.reduceAdd, Nat.reduceSub, pads, List.cons_append, List.nil_append, run_seq, run_region, runOps_cons, oper_none, ex_box, AV.cells, opv, List.getD_cons_zero, List.all_cons, AV.isCell, List.all_nil, Bool.and_self, if_true, putK_to, List.set_cons_succ, List.set_cons_zero, opsK_some, List.getD_cons_succ, ex_mov, runOps_nil, regK_some, seqK_normal, ex_faddr, faddrA_ptr, Nat.add_zero, valK_some, ex_load, rd_ptr, List.getElem?_cons_zero, rdK_cells, List.drop_zero, List.take_succ_cons, List.take_zero, loadK_1, List.getElem?_cons_succ, ex_bin, bin_eql, decide_true, oper_guard, guardK_bool, putA_to, List.drop_succ_cons, ex_pick, pickA_bool, ex_call, List.map_cons, List.map_nil, pcallA_eq, frzN, List.mapM_cons, frz_sl, List.mapM_nil, Option.pure_def, Option.bind_eq_bind, Option.bind_some, argK_some, g1, retK_some, scal, scal1, fzIds, List.flatMap_cons, bor_sl, List.flatMap_nil, List.append_nil, List.foldl_nil, ite_self, g2, List.take_nil, g3, run_ret, bodyK_ret, results_1, res_tmp, retvK_some, pbodyK_some, frz_bool]

/-! words backwards -/
def outB : Nat → AV
  | 0 => .sl true 0 []
  | k + 1 => .own false k 0 (k + 1) 1
def hpB (l : List Nat) : Nat → Heap
  | 0 => []
  | k + 1 => List.replicate k .dead ++ [.cells false false (bs l)]

theorem long1 (n : Aut) : L.pcall 8 [.sl false 1 n.cells] = some (.bool (decide (100 < n.st.length) || decide (100 < n.fi.length) || decide (520 < n.ed.length))) := by
  have e1 : ((100 : Int) < (n.st.length : Nat)) = (100 < n.st.length) := propext ⟨fun h => by omega, fun h => by omega⟩
  have e2 : ((100 : Int) < (n.fi.length : Nat)) = (100 < n.fi.length) := propext ⟨fun h => by omega, fun h => by omega⟩
  have e3 : ((520 : Int) < (n.ed.length : Nat)) = (520 < n.ed.length) := propext ⟨fun h => by omega, fun h => by omega⟩
  rw [a8p, a8, pbodyA_eq]
  by_cases c1 : 100 < n.st.length
  · simp (maxSteps := 30000000) (disch := first | assumption | omega | (simp only [List.length_cons, List.length_nil, List.length_append, List.length_set, List.length_replicate, List.length_map, List.length_range, List.length_take, List.length_drop, List.all_cons, List.all_nil, AV.isCell, Bool.and_self, Bool.and_true, bs_length, is64_length, w64_length, ints_length, edges_length] <;> omega) | rfl | decide) only [bodyA_eq, List.length_cons, List.length_nil, Nat.zero_add, Nat.reduceSub, pads, List.cons_append, List.nil_append, run_seq, run_region, runOps_cons, oper_none, ex_mov, opv, putK_to, List.set_cons_succ, List.set_cons_zero, opsK_some, runOps_nil, regK_some, seqK_normal, run_block, run_loop, a8l0c, a8l0n, a8l0b, List.getD_cons_succ, List.getD_cons_zero, ex_len, lenA_sl, castLit, valK_some, ex_bin, bin_lss, Int.reduceLT, decide_true, run_cond, condK_bool, run_skip, run_exit, if_true, ex_iaddr, iaddrA_sl, Int.toNat_zero, Nat.reduceMul, ex_faddr, faddrA_vptr, ex_load, rd_vptr, List.drop_succ_cons, List.drop_zero, List.take_succ_cons, List.take_zero, loadK_1, bin_gtr, e1, c1, oper_guard, guardK_bool, Bool.true_eq_false, putA_to, if_false, ex_pick, pickA_bool, run_ret, blockK_ret, seqK_ret, loopK_ret, bodyK_ret, results_1, res_tmp, retvK_some, pbodyK_some, frzN, frz_bool, Bool.true_or]
  · by_cases c2 : 100 < n.fi.length
    · simp (maxSteps := 30000000) (disch := first | assumption | omega | (simp only [List.length_cons, List.length_nil, List.length_append, List.length_set, List.length_replicate, List.length_map, List.length_range, List.length_take, List.length_drop, List.all_cons, List.all_nil, AV.isCell, Bool.and_self, Bool.and_true, bs_length, is64_length, w64_length, ints_length, edges_length] <;> omega) | rfl | decide) only [bodyA_eq, List.length_cons, List.length_nil, Nat.zero_add, Nat.reduceSub, pads, List.cons_append, List.nil_append, run_seq, run_region, runOps_cons, oper_none, ex_mov, opv, putK_to, List.set_cons_succ, List.set_cons_zero, opsK_some, runOps_nil, regK_some, seqK_normal, run_block, run_loop, a8l0c, a8l0n, a8l0b, List.getD_cons_succ, List.getD_cons_zero, ex_len, lenA_sl, castLit, valK_some, ex_bin, bin_lss, Int.reduceLT, decide_true, run_cond, condK_bool, run_skip, run_exit, if_true, ex_iaddr, iaddrA_sl, Int.toNat_zero, Nat.reduceMul, ex_faddr, faddrA_vptr, ex_load, rd_vptr, List.drop_succ_cons, List.drop_zero, List.take_succ_cons, List.take_zero, loadK_1, bin_gtr, e1, c1, decide_false, oper_guard, guardK_bool, putA_to, e2, c2, ex_pick, pickA_bool, Bool.false_eq_true, ite_self, Bool.true_eq_false, if_false, run_ret, blockK_ret, seqK_ret, loopK_ret, bodyK_ret, results_1, res_tmp, retvK_some, pbodyK_some, frzN, frz_bool, Bool.or_true, Bool.true_or]
    · by_cases c3 : 520 < n.ed.length
      · simp (maxSteps := 30000000) (disch := first | assumption | omega | (simp only [List.length_cons, List.length_nil, List.length_append, List.length_set, List.length_replicate, List.length_map, List.length_range, List.length_take, List.length_drop, List.all_cons, List.all_nil, AV.isCell, Bool.and_self, Bool.and_true, bs_length, is64_length, w64_length, ints_length, edges_length] <;> omega) | rfl | decide) only [bodyA_eq, List.length_cons, List.length_nil, Nat.zero_add, Nat.reduceSub, pads, List.cons_append, List.nil_append, run_seq, run_region, runOps_cons, oper_none, ex_mov, opv, putK_to, List.set_cons_succ, List.set_cons_zero, opsK_some, runOps_nil, regK_some, seqK_normal, run_block, run_loop, a8l0c, a8l0n, a8l0b, List.getD_cons_succ, List.getD_cons_zero, ex_len, lenA_sl, castLit, valK_some, ex_bin, bin_lss, Int.reduceLT, decide_true, run_cond, condK_bool, run_skip, run_exit, if_true, ex_iaddr, iaddrA_sl, Int.toNat_zero, Nat.reduceMul, ex_faddr, faddrA_vptr, ex_load, rd_vptr, List.drop_succ_cons, List.drop_zero, List.take_succ_cons, List.take_zero, loadK_1, bin_gtr, e1, c1, decide_false, oper_guard, guardK_bool, putA_to, e2, c2, ex_pick, pickA_bool, Bool.false_eq_true, if_false, List.take_nil, e3, c3, ite_self, run_ret, blockK_ret, seqK_ret, loopK_ret, bodyK_ret, results_1, res_tmp, retvK_some, pbodyK_some, frzN, frz_bool, Bool.or_false, Bool.or_true]
      · simp (maxSteps := 30000000) (disch := first | assumption | omega | (simp only [List.length_cons, List.length_nil, List.length_append, List.length_set, List.length_replicate, List.length_map, List.length_range, List.length_take, List.length_drop, List.all_cons, List.all_nil, AV.isCell, Bool.and_self, Bool.and_true, bs_length, is64_length, w64_length, ints_length, edges_length] <;> omega) | rfl | decide) only [bodyA_eq, List.length_cons, List.length_nil, Nat.zero_add, Nat.reduceSub, pads, List.cons_append, List.nil_append, run_seq, run_region, runOps_cons, oper_none, ex_mov, opv, putK_to, List.set_cons_succ, List.set_cons_zero, opsK_some, runOps_nil, regK_some, seqK_normal, run_block, run_loop, a8l0c, a8l0n, a8l0b, List.getD_cons_succ, List.getD_cons_zero, ex_len, lenA_sl, castLit, valK_some, ex_bin, bin_lss, Int.reduceLT, decide_true, run_cond, condK_bool, run_skip, run_exit, if_true, ex_iaddr, iaddrA_sl, Int.toNat_zero, Nat.reduceMul, ex_faddr, faddrA_vptr, ex_load, rd_vptr, List.drop_succ_cons, List.drop_zero, List.take_succ_cons, List.take_zero, loadK_1, bin_gtr, e1, c1, decide_false, oper_guard, guardK_bool, putA_to, e2, c2, ex_pick, pickA_bool, Bool.false_eq_true, if_false, List.take_nil, e3, c3, run_ret, blockK_normal, bin_add, Int.zero_add, wr64, loopK_normal, Int.lt_irrefl, seqK_exit, loopK_exit, blockK_exit, bodyK_ret, results_1, res_tmp, retvK_some, pbodyK_some, frzN, frz_bool, Bool.or_false]

/-! what comes in -/
abbrev TNfa : TS := ⟨true, [.int .i64, .int .i64, .sl [.int .i64], .sl [.int .i64], .sl [.int .i64, .int .i64, .int .u8, .int .u8]]⟩
abbrev TWord : TS := ⟨false, [.sl [.int .u8]]⟩
abbrev TU8 : TS := ⟨false, [.int .u8]⟩
abbrev TSet : TS := ⟨false, [.sl [.int .u64]]⟩

theorem i64s_ints : ∀ (cs : List AV), (∀ x ∈ cs, Fit (.int .i64) x) → ∃ l : List Int, cs = ints l
  | [], _ => ⟨[], rfl⟩
  | a :: cs, h => by
    obtain ⟨n, rfl, _⟩ := fit_i64 (h a (by simp))
    obtain ⟨l, rfl⟩ := i64s_ints cs (fun x hx => h x (by simp [hx]))
    exact ⟨n :: l, rfl⟩

theorem fit_iw {a : AV} (h : Fit (.sl [.int .i64]) a) : ∃ z l, a = iw z l ∧ (z = true → l = []) := by
  obtain ⟨z, cs, rfl, hz, hl, hf⟩ := fit_sl1 h
  obtain ⟨l, rfl⟩ := i64s_ints cs hf
  exact ⟨z, l, by rw [ints_length], fun e => List.map_eq_nil_iff.1 (hz e)⟩

theorem rows_eds : ∀ (rs : List (List AV)), (∀ r ∈ rs, r.length = 4) → (∀ r ∈ rs, ∀ (i : Nat) (c : CS) (a : AV), ([.int .i64, .int .i64, .int .u8, .int .u8] : List CS)[i]? = some c → r[i]? = some a → Fit c a) →
    ∃ l : List Ed, rs.flatten = edges l ∧ l.length = rs.length ∧ ∀ e ∈ l, e.p < 256 ∧ e.n < 256
  | [], _, _ => ⟨[], rfl, rfl, by simp⟩
  | r :: rs, hl, hf => by
    obtain ⟨l, h1, h2, h3⟩ := rows_eds rs (fun r hr => hl r (by simp [hr])) (fun r hr => hf r (by simp [hr]))
    have hr := hl r (by simp)
    match r, hr with
    | [x0, x1, x2, x3], _ =>
      have hfr := hf [x0, x1, x2, x3] (by simp)
      obtain ⟨a, rfl, _⟩ := fit_i64 (hfr 0 _ _ rfl rfl)
      obtain ⟨b, rfl, _⟩ := fit_i64 (hfr 1 _ _ rfl rfl)
      obtain ⟨p, rfl, hp⟩ := fit_u8 (hfr 2 _ _ rfl rfl)
      obtain ⟨n, rfl, hn⟩ := fit_u8 (hfr 3 _ _ rfl rfl)
      refine ⟨⟨a, b, p, n⟩ :: l, ?_, by simp [h2], ?_⟩
      · rw [List.flatten_cons, h1]; rfl
      · intro e he
        rcases List.mem_cons.1 he with rfl | he
        · exact ⟨hp, hn⟩
        · exact h3 e he

theorem fit_eds {a : AV} (h : Fit (.sl [.int .i64, .int .i64, .int .u8, .int .u8]) a) : ∃ z l, a = .sl z l.length (edges l) ∧ (z = true → l = []) ∧ ∀ e ∈ l, e.p < 256 ∧ e.n < 256 := by
  cases h with
  | nil => exact ⟨true, [], rfl, fun _ => rfl, by simp⟩
  | @sl _ rs hn hl hr =>
    obtain ⟨l, h1, h2, h3⟩ := rows_eds rs hl hr
    exact ⟨false, l, by rw [h1, h2], by simp, h3⟩

theorem fit_nfa3 {a : AV} (h : FitT TNfa a) : ∃ n : Aut, a = n.av ∧ (n.z1 = true → n.st = []) ∧ (n.z2 = true → n.fi = []) ∧ (n.z3 = true → n.ed = []) ∧ ∀ e ∈ n.ed, e.p < 256 ∧ e.n < 256 := by
  obtain ⟨cs, rfl, h'⟩ := fitT_many h
  obtain ⟨a1, cs, rfl, h1, h'⟩ := fitAll_cons h'
  obtain ⟨a2, cs, rfl, h2, h'⟩ := fitAll_cons h'
  obtain ⟨a3, cs, rfl, h3, h'⟩ := fitAll_cons h'
  obtain ⟨a4, cs, rfl, h4, h'⟩ := fitAll_cons h'
  obtain ⟨a5, cs, rfl, h5, h'⟩ := fitAll_cons h'
  obtain rfl := fitAll_nil h'
  obtain ⟨v, rfl, _⟩ := fit_i64 h1
  obtain ⟨s, rfl, _⟩ := fit_i64 h2
  obtain ⟨z1, st, rfl, hz1⟩ := fit_iw h3
  obtain ⟨z2, fi, rfl, hz2⟩ := fit_iw h4
  obtain ⟨z3, ed, rfl, hz3, hb⟩ := fit_eds h5
  exact ⟨⟨v, s, z1, st, z2, fi, z3, ed⟩, rfl, hz1, hz2, hz3, hb⟩

theorem fit_nfa {a : AV} (h : FitT TNfa a) : ∃ n : Aut, a = n.av ∧ (n.z1 = true → n.st = []) ∧ (n.z2 = true → n.fi = []) ∧ ∀ e ∈ n.ed, e.p < 256 ∧ e.n < 256 := by
  obtain ⟨n, h1, h2, h3, _, h4⟩ := fit_nfa3 h
  exact ⟨n, h1, h2, h3, h4⟩

theorem fit_u64 {a : AV} (h : Fit (.int .u64) a) : ∃ n : Nat, a = .int .u64 (n : Nat) ∧ n < 18446744073709551616 := by
  cases h with
  | @int k n h1 h2 =>
    have e1 : IntKind.u64.min = 0 := rfl
    have e2 : IntKind.u64.max = 18446744073709551615 := rfl
    rw [e1] at h1; rw [e2] at h2
    exact ⟨n.toNat, by rw [Int.toNat_of_nonneg h1], by omega⟩

theorem u64s_w64 : ∀ (cs : List AV), (∀ x ∈ cs, Fit (.int .u64) x) → ∃ l : List Nat, cs = w64 l ∧ W l
  | [], _ => ⟨[], rfl, by intro x hx; simp at hx⟩
  | a :: cs, h => by
    obtain ⟨n, rfl, hn⟩ := fit_u64 (h a (by simp))
    obtain ⟨l, rfl, hl⟩ := u64s_w64 cs (fun x hx => h x (by simp [hx]))
    refine ⟨n :: l, rfl, fun x hx => ?_⟩
    rcases List.mem_cons.1 hx with rfl | hx
    · exact hn
    · exact hl x hx

theorem fit_set {a : AV} (h : Fit (.sl [.int .u64]) a) : ∃ z l, a = sw z l ∧ W l := by
  obtain ⟨z, cs, rfl, hz, hl, hf⟩ := fit_sl1 h
  obtain ⟨l, rfl, hw⟩ := u64s_w64 cs hf
  exact ⟨z, l, by rw [w64_length], hw⟩


theorem longS1 (z1 : Bool) (a : List Nat) : L.pcall 15 [.sl false 1 [sw z1 a]] = some (.bool (decide (80 < a.length))) := by
  have e1 : ((80 : Int) < (a.length : Nat)) = (80 < a.length) := propext ⟨fun h => by omega, fun h => by omega⟩
  rw [a15p, a15, pbodyA_eq]
  by_cases c1 : 80 < a.length <;> simp (maxSteps := 30000000) (disch := first | assumption | omega | (simp only [List.length_cons, List.length_nil, List.length_append, List.length_set, List.length_replicate, List.length_map, List.length_range, List.length_take, List.length_drop, List.all_cons, List.all_nil, AV.isCell, Bool.and_self, Bool.and_true, bs_length, is64_length, w64_length, ints_length, edges_length] <;> omega) | rfl | decide) only [bodyA_eq, List.length_cons, List.length_nil, Nat.zero_add, Nat.reduceSub, pads, List.cons_append, List.nil_append, run_seq, run_region, runOps_cons, oper_none, ex_mov, opv, putK_to, List.set_cons_succ, List.set_cons_zero, opsK_some, runOps_nil, regK_some, seqK_normal, run_block, run_loop, a15l0c, a15l0n, a15l0b, List.getD_cons_succ, List.getD_cons_zero, ex_len, lenA_sl, castLit, valK_some, ex_bin, bin_lss, Int.reduceLT, decide_true, run_cond, condK_bool, run_skip, run_exit, if_true, ex_iaddr, iaddrA_sl, Int.toNat_zero, Nat.mul_one, ex_load, rd_vptr, List.drop_zero, List.take_succ_cons, List.take_nil, loadK_1, bin_gtr, e1, c1, run_ret, blockK_ret, seqK_ret, loopK_ret, bodyK_ret, results_1, res_tmp, retvK_some, pbodyK_some, frzN, frz_bool, decide_false, Bool.false_eq_true, if_false, blockK_normal, bin_add, Int.zero_add, wr64, loopK_normal, Int.lt_irrefl, seqK_exit, loopK_exit, blockK_exit]

theorem rof_eq (z : Bool) (l : List Int) (hl : l.length < 1099511627776) (hq : ∀ q ∈ l, 0 ≤ q ∧ q < 4096) : ∃ z' r, L.pcall 57 [iw z l] = some (sw z' r) ∧ CanS r (inS l) := by
  obtain ⟨T', v', r', g1, g2, g3⟩ := rof_loop (z := z) hl hq l.length 0 [] (.sl true 0 []) [] _ (by omega) (.inl ⟨rfl, rfl⟩) canS_nil
  simp only [Int.natCast_zero] at g1
  have g3' := g3.congr (T := inS l) (fun j => by simp [inS])
  rcases g2 with ⟨rfl, e⟩ | ⟨k, rfl, hk⟩
  · refine ⟨true, [], ?_, e ▸ g3'⟩
    rw [a57p, a57, pbodyA_eq]
    simp (maxSteps := 30000000) (disch := first | assumption | omega | (simp only [List.length_cons, List.length_nil, List.length_append, List.length_set, List.length_replicate, List.length_map, List.length_range, List.length_take, List.length_drop, List.all_cons, List.all_nil, AV.isCell, Bool.and_self, Bool.and_true, bs_length, is64_length, w64_length, ints_length, edges_length] <;> omega) | rfl | decide) only [bodyA_eq, List.length_cons, List.length_nil, Nat.zero_add, Nat.reduceSub, pads, List.cons_append, List.nil_append, run_seq, run_region, runOps_cons, oper_none, ex_mov, opv, putK_to, List.set_cons_succ, List.set_cons_zero, opsK_some, runOps_nil, regK_some, seqK_normal, run_block, run_loop, a57l1c, g1, blockK_exit, if_true, List.getD_cons_succ, List.getD_cons_zero, run_ret, bodyK_ret, results_1, res_tmp, retvK_some, pbodyK_some, frzN, frz_sl]
    try rfl
  · refine ⟨false, r', ?_, g3'⟩
    rw [a57p, a57, pbodyA_eq]
    simp (maxSteps := 30000000) (disch := first | assumption | omega | (simp only [List.length_cons, List.length_nil, List.length_append, List.length_set, List.length_replicate, List.length_map, List.length_range, List.length_take, List.length_drop, List.all_cons, List.all_nil, AV.isCell, Bool.and_self, Bool.and_true, bs_length, is64_length, w64_length, ints_length, edges_length] <;> omega) | rfl | decide) only [bodyA_eq, List.length_cons, List.length_nil, Nat.zero_add, Nat.reduceSub, pads, List.cons_append, List.nil_append, run_seq, run_region, runOps_cons, oper_none, ex_mov, opv, putK_to, List.set_cons_succ, List.set_cons_zero, opsK_some, runOps_nil, regK_some, seqK_normal, run_block, run_loop, a57l1c, g1, blockK_exit, if_true, List.getD_cons_succ, List.getD_cons_zero, run_ret, bodyK_ret, results_1, res_tmp, retvK_some, pbodyK_some, frzN, frz_own, hk, frzK_cells, Nat.mul_one, List.drop_zero, w64_take, List.take_length, frz_w64, slK_some]

theorem set_err (v : AV) (hv : ∀ d H, frz (d + 1) H v = some v) (e : Int) (he : e ≠ 0) : L.pcall 27 [v, .int .i64 e] = some (.sl true 0 []) := by
  rw [a27p, a27, pbodyA_eq]
  simp (maxSteps := 30000000) (disch := first | assumption | omega | (simp only [List.length_cons, List.length_nil, List.length_append, List.length_set, List.length_replicate, List.length_map, List.length_range, List.length_take, List.length_drop, List.all_cons, List.all_nil, AV.isCell, Bool.and_self, Bool.and_true, bs_length, is64_length, w64_length, ints_length, edges_length] <;> omega) | rfl | decide) only [bodyA_eq, List.length_cons, List.length_nil, Nat.zero_add, Nat.reduceAdd, Nat.reduceSub, pads, List.cons_append, List.nil_append, run_seq, run_region, runOps_cons, oper_none, ex_mov, opv, putK_to, List.set_cons_succ, List.set_cons_zero, opsK_some, runOps_nil, regK_some, seqK_normal, List.getD_cons_succ, List.getD_cons_zero, ex_bin, bin_neq, he, decide_false, Bool.not_false, valK_some, run_cond, condK_bool, run_ret, run_skip, if_true, seqK_ret, bodyK_ret, results_1, res_tmp, retvK_some, pbodyK_some, frzN, frz_sl]

theorem set_ok (z : Bool) (l : List Int) (hl : l.length < 1099511627776) (hq : ∀ q ∈ l, 0 ≤ q ∧ q < 4096) : ∃ z' r, L.pcall 27 [iw z l, .int .i64 0] = some (sw z' r) ∧ CanS r (inS l) := by
  obtain ⟨z', r, h1, h2⟩ := rof_eq z l hl hq
  refine ⟨z', r, ?_, h2⟩
  rw [a27p, a27, pbodyA_eq]
  simp (maxSteps := 30000000) (disch := first | assumption | omega | (simp only [List.length_cons, List.length_nil, List.length_append, List.length_set, List.length_replicate, List.length_map, List.length_range, List.length_take, List.length_drop, List.all_cons, List.all_nil, AV.isCell, Bool.and_self, Bool.and_true, bs_length, is64_length, w64_length, ints_length, edges_length] <;> omega) | rfl | decide) only [bodyA_eq, List.length_cons, List.length_nil, Nat.zero_add, Nat.reduceAdd, Nat.reduceSub, pads, List.cons_append, List.nil_append, run_seq, run_region, runOps_cons, oper_none, ex_mov, opv, putK_to, List.set_cons_succ, List.set_cons_zero, opsK_some, runOps_nil, regK_some, seqK_normal, List.getD_cons_succ, List.getD_cons_zero, ex_bin, bin_neq, decide_true, Bool.not_true, valK_some, run_cond, condK_bool, Bool.false_eq_true, run_ret, run_skip, if_false, ex_call, List.map_cons, List.map_nil, pcallA_eq, frzN, List.mapM_cons, frz_sl, List.mapM_nil, Option.pure_def, Option.bind_eq_bind, Option.bind_some, argK_some, h1, retK_some, scal, scal1, fzIds, List.flatMap_cons, bor_sl, List.flatMap_nil, List.append_nil, List.foldl_nil, ite_self, bodyK_ret, results_1, res_tmp, retvK_some, pbodyK_some]

theorem sets_same_loop {l : List Nat} {z z' : Bool} {s4 : AV} {H : Heap} (hl : l.length < 1099511627776) : ∀ d i, i + d = l.length →
    L.loop a26l0s a26l0 ⟨a26l0F (sw z l) (sw z' l) s4 (.int .i64 (i : Nat)), H⟩ = some (.exit 0, ⟨a26l0F (sw z l) (sw z' l) s4 (.int .i64 (l.length : Nat)), H⟩)
  | 0, i, h => by
    obtain rfl : i = l.length := by omega
    rw [a26l0n]
    simp (maxSteps := 30000000) (disch := first | assumption | omega | (simp only [List.length_cons, List.length_nil, List.length_append, List.length_set, List.length_replicate, List.length_map, List.length_range, List.length_take, List.length_drop, List.all_cons, List.all_nil, AV.isCell, Bool.and_self, Bool.and_true, bs_length, is64_length, w64_length, ints_length, edges_length] <;> omega) | rfl | decide) only [a26l0b, run_seq, run_region, runOps_cons, oper_none, ex_mov, opv, List.getD_cons_succ, List.getD_cons_zero, putK_to, List.set_cons_succ, List.set_cons_zero, opsK_some, ex_len, lenA_sl, valK_some, ex_bin, bin_lss, Int.lt_irrefl, decide_false, runOps_nil, regK_some, seqK_normal, run_cond, condK_bool, Bool.false_eq_true, run_skip, run_exit, if_false, seqK_exit, loopK_exit, a26l0c]
  | d + 1, i, h => by
    have hlt : (i : Int) < (l.length : Nat) := by omega
    have ih := sets_same_loop (z := z) (z' := z') (s4 := s4) (H := H) hl d (i + 1) (by omega)
    rw [a26l0n]
    simp (maxSteps := 30000000) (disch := first | assumption | omega | (simp only [List.length_cons, List.length_nil, List.length_append, List.length_set, List.length_replicate, List.length_map, List.length_range, List.length_take, List.length_drop, List.all_cons, List.all_nil, AV.isCell, Bool.and_self, Bool.and_true, bs_length, is64_length, w64_length, ints_length, edges_length] <;> omega) | rfl | decide) only [a26l0b, run_seq, run_region, runOps_cons, oper_none, ex_mov, opv, List.getD_cons_succ, List.getD_cons_zero, putK_to, List.set_cons_succ, List.set_cons_zero, opsK_some, ex_len, lenA_sl, valK_some, ex_bin, bin_lss, hlt, decide_true, runOps_nil, regK_some, seqK_normal, run_cond, condK_bool, run_skip, run_exit, if_true, run_block, run_draw, List.take_succ_cons, List.take_zero, runFree_cons, foper_none, fe_mov, fstK_some, fputK_to, freeK_some, fe_iaddr, ex_iaddr, iaddrA_sl, Int.toNat_natCast, Nat.mul_one, fe_load, ex_load, rd_vptr, w64_drop, w64_take, w64_at0, drop_getD, Nat.add_zero, loadK_1, runFree_nil, drawK_some, List.drop_succ_cons, List.drop_zero, adopt, adoptVal, bin_neq, Bool.not_true, Bool.false_eq_true, run_ret, if_false, blockK_normal, bin_add, cadd1, wr64, loopK_normal, a26l0c, ih]

theorem sets_same (z z' : Bool) (l : List Nat) (hl : l.length < 1099511627776) : L.pcall 26 [sw z l, sw z' l] = some (.bool true) := by
  have h := fun s4 => sets_same_loop (z := z) (z' := z') (s4 := s4) (H := []) hl l.length 0 (by omega)
  simp only [Int.natCast_zero] at h
  rw [a26p, a26, pbodyA_eq]
  simp (maxSteps := 30000000) (disch := first | assumption | omega | (simp only [List.length_cons, List.length_nil, List.length_append, List.length_set, List.length_replicate, List.length_map, List.length_range, List.length_take, List.length_drop, List.all_cons, List.all_nil, AV.isCell, Bool.and_self, Bool.and_true, bs_length, is64_length, w64_length, ints_length, edges_length] <;> omega) | rfl | decide) only [bodyA_eq, List.length_cons, List.length_nil, Nat.zero_add, Nat.reduceAdd, Nat.reduceSub, pads, List.cons_append, List.nil_append, run_seq, run_region, runOps_cons, oper_none, ex_mov, opv, putK_to, List.set_cons_succ, List.set_cons_zero, opsK_some, runOps_nil, regK_some, seqK_normal, List.getD_cons_zero, ex_len, List.getD_cons_succ, lenA_sl, valK_some, ex_bin, bin_neq, decide_true, Bool.not_true, run_cond, condK_bool, Bool.false_eq_true, run_ret, run_skip, if_false, run_block, run_loop, a26l0c, h, blockK_exit, if_true, bodyK_ret, results_1, res_tmp, retvK_some, pbodyK_some, frzN, frz_bool]

theorem bytes_same_loop {l : List Nat} {z z' : Bool} {s4 : AV} {H : Heap} (hl : l.length < 1099511627776) : ∀ d i, i + d = l.length →
    L.loop a28l0s a28l0 ⟨a28l0F (word z l) (word z' l) s4 (.int .i64 (i : Nat)), H⟩ = some (.exit 0, ⟨a28l0F (word z l) (word z' l) s4 (.int .i64 (l.length : Nat)), H⟩)
  | 0, i, h => by
    obtain rfl : i = l.length := by omega
    rw [a28l0n]
    simp (maxSteps := 30000000) (disch := first | assumption | omega | (simp only [List.length_cons, List.length_nil, List.length_append, List.length_set, List.length_replicate, List.length_map, List.length_range, List.length_take, List.length_drop, List.all_cons, List.all_nil, AV.isCell, Bool.and_self, Bool.and_true, bs_length, is64_length, w64_length, ints_length, edges_length] <;> omega) | rfl | decide) only [a28l0b, run_seq, run_region, runOps_cons, oper_none, ex_mov, opv, List.getD_cons_succ, List.getD_cons_zero, putK_to, List.set_cons_succ, List.set_cons_zero, opsK_some, ex_len, lenA_sl, valK_some, ex_bin, bin_lss, Int.lt_irrefl, decide_false, runOps_nil, regK_some, seqK_normal, run_cond, condK_bool, Bool.false_eq_true, run_skip, run_exit, if_false, seqK_exit, loopK_exit, a28l0c]
  | d + 1, i, h => by
    have hlt : (i : Int) < (l.length : Nat) := by omega
    have ih := bytes_same_loop (z := z) (z' := z') (s4 := s4) (H := H) hl d (i + 1) (by omega)
    rw [a28l0n]
    simp (maxSteps := 30000000) (disch := first | assumption | omega | (simp only [List.length_cons, List.length_nil, List.length_append, List.length_set, List.length_replicate, List.length_map, List.length_range, List.length_take, List.length_drop, List.all_cons, List.all_nil, AV.isCell, Bool.and_self, Bool.and_true, bs_length, is64_length, w64_length, ints_length, edges_length] <;> omega) | rfl | decide) only [a28l0b, run_seq, run_region, runOps_cons, oper_none, ex_mov, opv, List.getD_cons_succ, List.getD_cons_zero, putK_to, List.set_cons_succ, List.set_cons_zero, opsK_some, ex_len, lenA_sl, valK_some, ex_bin, bin_lss, hlt, decide_true, runOps_nil, regK_some, seqK_normal, run_cond, condK_bool, run_skip, run_exit, if_true, run_block, run_draw, List.take_succ_cons, List.take_zero, runFree_cons, foper_none, fe_mov, fstK_some, fputK_to, freeK_some, fe_iaddr, ex_iaddr, iaddrA_sl, Int.toNat_natCast, Nat.mul_one, fe_load, ex_load, rd_vptr, bs_drop, bs_take, bs_at0, drop_getD, Nat.add_zero, loadK_1, runFree_nil, drawK_some, List.drop_succ_cons, List.drop_zero, adopt, adoptVal, bin_neq, Bool.not_true, Bool.false_eq_true, run_ret, if_false, blockK_normal, bin_add, cadd1, wr64, loopK_normal, a28l0c, ih]

theorem bytes_same (z z' : Bool) (l : List Nat) (hl : l.length < 1099511627776) : L.pcall 28 [word z l, word z' l] = some (.bool true) := by
  have h := fun s4 => bytes_same_loop (z := z) (z' := z') (s4 := s4) (H := []) hl l.length 0 (by omega)
  simp only [Int.natCast_zero] at h
  rw [a28p, a28, pbodyA_eq]
  simp (maxSteps := 30000000) (disch := first | assumption | omega | (simp only [List.length_cons, List.length_nil, List.length_append, List.length_set, List.length_replicate, List.length_map, List.length_range, List.length_take, List.length_drop, List.all_cons, List.all_nil, AV.isCell, Bool.and_self, Bool.and_true, bs_length, is64_length, w64_length, ints_length, edges_length] <;> omega) | rfl | decide) only [bodyA_eq, List.length_cons, List.length_nil, Nat.zero_add, Nat.reduceAdd, Nat.reduceSub, pads, List.cons_append, List.nil_append, run_seq, run_region, runOps_cons, oper_none, ex_mov, opv, putK_to, List.set_cons_succ, List.set_cons_zero, opsK_some, runOps_nil, regK_some, seqK_normal, List.getD_cons_zero, ex_len, List.getD_cons_succ, lenA_sl, valK_some, ex_bin, bin_neq, decide_true, Bool.not_true, run_cond, condK_bool, Bool.false_eq_true, run_ret, run_skip, if_false, run_block, run_loop, a28l0c, h, blockK_exit, if_true, bodyK_ret, results_1, res_tmp, retvK_some, pbodyK_some, frzN, frz_bool]

theorem copy17 (z : Bool) (l : List Nat) (hl : l.length < 1099511627776) : L.pcall 17 [word z l] = some (word (l.length == 0) l) := by
  rw [a17p, a17, pbodyA_eq]
  simp (maxSteps := 30000000) (disch := first | assumption | omega | (simp only [List.length_cons, List.length_nil, List.length_append, List.length_set, List.length_replicate, List.length_map, List.length_range, List.length_take, List.length_drop, List.all_cons, List.all_nil, AV.isCell, Bool.and_self, Bool.and_true, bs_length, is64_length, w64_length, ints_length, edges_length] <;> omega) | rfl | decide) only [bodyA_eq, List.length_cons, List.length_nil, Nat.zero_add, Nat.reduceSub, pads, List.cons_append, List.nil_append, run_seq, run_region, runOps_cons, oper_none, ex_mov, opv, putK_to, List.set_cons_succ, List.set_cons_zero, opsK_some, runOps_nil, regK_some, seqK_normal, List.getD_cons_zero, ex_append, List.getD_cons_succ, src_sl, appK_nil, newA_own, run_ret, bodyK_ret, results_1, res_tmp, retvK_some, pbodyK_some, frzN, frz_own, List.getElem?_cons_zero, frzK_cells, Nat.mul_one, List.drop_zero, bs_take, List.take_length, frz_bs, slK_some]

theorem copy49 (z : Bool) (l : List Ed) (hl : l.length < 1099511627776) : L.pcall 49 [.sl z l.length (edges l)] = some (.sl (l.length == 0) l.length (edges l)) := by
  have htk : List.take (l.length * 4) (edges l) = edges l := List.take_of_length_le (by rw [edges_length]; omega)
  rw [a49p, a49, pbodyA_eq]
  simp (maxSteps := 30000000) (disch := first | assumption | omega | (simp only [List.length_cons, List.length_nil, List.length_append, List.length_set, List.length_replicate, List.length_map, List.length_range, List.length_take, List.length_drop, List.all_cons, List.all_nil, AV.isCell, Bool.and_self, Bool.and_true, bs_length, is64_length, w64_length, ints_length, edges_length] <;> omega) | rfl | decide) only [bodyA_eq, List.length_cons, List.length_nil, Nat.zero_add, Nat.reduceSub, pads, List.cons_append, List.nil_append, run_seq, run_region, runOps_cons, oper_none, ex_mov, opv, putK_to, List.set_cons_succ, List.set_cons_zero, opsK_some, runOps_nil, regK_some, seqK_normal, List.getD_cons_zero, ex_append, List.getD_cons_succ, src_sl, appK_nil, newA_own, run_ret, bodyK_ret, results_1, res_tmp, retvK_some, pbodyK_some, frzN, frz_own, List.getElem?_cons_zero, frzK_cells, List.drop_zero, htk, frz_edges, slK_some]

/-- the law's copy -/
abbrev cpA (n : Aut) : Aut := ⟨n.vars, n.states, n.st.length == 0, n.st, n.fi.length == 0, n.fi, n.ed.length == 0, n.ed⟩

theorem copy16 (n : Aut) (hf : Fits n) : L.pcall 16 [n.av] = some (cpA n).av := by
  have h1 := copy34 n.z1 n.st hf.l1
  have h2 := copy34 n.z2 n.fi hf.l2
  have h3 := copy49 n.z3 n.ed hf.l3
  rw [a16p, a16, pbodyA_eq]
  simp (maxSteps := 30000000) (disch := first | assumption | omega | (simp only [List.length_cons, List.length_nil, List.length_append, List.length_set, List.length_replicate, List.length_map, List.length_range, List.length_take, List.length_drop, List.all_cons, List.all_nil, AV.isCell, Bool.and_self, Bool.and_true, bs_length, is64_length, w64_length, ints_length, edges_length] <;> omega) | rfl | decide) only [bodyA_eq, List.length_cons, List.length_nil, Nat.zero_add, Nat.reduceSub, pads, List.cons_append, List.nil_append, run_seq, run_region, runOps_cons, oper_none, ex_box, AV.cells, opv, List.getD_cons_zero, List.all_cons, AV.isCell, List.all_nil, Bool.and_self, if_true, putK_to, List.set_cons_succ, List.set_cons_zero, opsK_some, runOps_nil, regK_some, seqK_normal, run_draw, List.take_succ_cons, List.take_zero, runFree_cons, foper_none, fe_faddr, ex_faddr, List.getD_cons_succ, faddrA_ptr, Nat.add_zero, valK_some, fstK_some, fputK_to, freeK_some, fe_load, ex_load, rd_ptr, List.getElem?_cons_zero, rdK_cells, List.drop_zero, loadK_1, List.drop_succ_cons, fe_call, List.map_cons, List.map_nil, pcallA_eq, frzN, List.mapM_cons, frz_sl, List.mapM_nil, Option.pure_def, Option.bind_eq_bind, Option.bind_some, argK_some, h1, retK_some, scal, scal1, Bool.false_eq_true, fzIds, List.flatMap_cons, bor_sl, List.flatMap_nil, List.append_nil, List.foldl_nil, ite_self, quietK_some, quietCall, List.isEmpty_nil, Bool.or_true, h2, List.take_nil, h3, runFree_nil, drawK_some, adopt, adoptVal, ex_build, beq_self_eq_true, fillA, Nat.reduceAdd, Nat.reduceLeDiff, and_self, splice, Nat.le_refl, List.drop_nil, Option.map_some, ex_store, wr_ptr, List.getElem?_cons_succ, wrK_cells, storeK_some, putK_no, run_ret, bodyK_ret, results_1, res_cell, cellK_some, mkv_n, retvK_some, pbodyK_some, frz_agg, frz_int]

def s77 (n : Nat) : List AV := List.replicate n (.int .u64 77)

theorem over_loop {k n : Nat} (hn : n < 1099511627776) : ∀ d i B (G : Heap), i + d = n → n ≤ B.length → G[k]? = some (.cells false false B) →
    L.loop a29l0s a29l0 ⟨a29l0F (.own false k 0 n 1) (.int .i64 (i : Nat)), G⟩ = some (.exit 0, ⟨a29l0F (.own false k 0 n 1) (.int .i64 (n : Nat)), G.set k (.cells false false (B.take i ++ s77 (n - i) ++ B.drop n))⟩)
  | 0, i, B, G, h, hB, hk => by
    obtain rfl : i = n := by omega
    have hself : G.set k (.cells false false B) = G := by
      apply List.ext_getElem?
      intro j
      rw [List.getElem?_set]
      by_cases e : k = j
      · subst e
        rw [if_pos rfl, if_pos (List.getElem?_eq_some_iff.1 hk).1, hk]
      · rw [if_neg e]
    have e : B.take i ++ s77 (i - i) ++ B.drop i = B := by rw [Nat.sub_self]; simp [s77]
    rw [e, hself, a29l0n]
    simp (maxSteps := 30000000) (disch := first | assumption | omega | (simp only [List.length_cons, List.length_nil, List.length_append, List.length_set, List.length_replicate, List.length_map, List.length_range, List.length_take, List.length_drop, List.all_cons, List.all_nil, AV.isCell, Bool.and_self, Bool.and_true, bs_length, is64_length, w64_length, ints_length, edges_length] <;> omega) | rfl | decide) only [a29l0b, run_seq, run_region, runOps_cons, oper_none, ex_mov, opv, List.getD_cons_succ, List.getD_cons_zero, putK_to, List.set_cons_succ, List.set_cons_zero, opsK_some, ex_len, lenA_own, valK_some, ex_bin, bin_lss, Int.lt_irrefl, decide_false, runOps_nil, regK_some, seqK_normal, run_cond, condK_bool, Bool.false_eq_true, run_skip, run_exit, if_false, seqK_exit, loopK_exit, a29l0c]
  | d + 1, i, B, G, h, hB, hk => by
    have hlt : (i : Int) < (n : Nat) := by omega
    have hkl := (List.getElem?_eq_some_iff.1 hk).1
    have hl : (B.take i ++ .int .u64 77 :: B.drop (i + 1)).length = B.length := by simp only [List.length_append, List.length_take, List.length_cons, List.length_drop]; omega
    have ih := over_loop (k := k) hn d (i + 1) (B.take i ++ .int .u64 77 :: B.drop (i + 1)) (G.set k (.cells false false (B.take i ++ .int .u64 77 :: B.drop (i + 1)))) (by omega) (by omega) (by simp [hkl])
    rw [List.set_set] at ih
    have hti : (B.take i).length = i := by rw [List.length_take]; omega
    have e : (B.take i ++ .int .u64 77 :: B.drop (i + 1)).take (i + 1) ++ s77 (n - (i + 1)) ++ (B.take i ++ .int .u64 77 :: B.drop (i + 1)).drop n = B.take i ++ s77 (n - i) ++ B.drop n := by
      have e1 : (B.take i ++ .int .u64 77 :: B.drop (i + 1)).drop n = B.drop n := by
        rw [List.drop_append, hti, List.drop_of_length_le (by omega : (B.take i).length ≤ n), List.nil_append, show n - i = (n - i - 1) + 1 by omega, List.drop_succ_cons, List.drop_drop, show i + 1 + (n - i - 1) = n by omega]
      rw [e1, List.take_append, hti, List.take_of_length_le (by omega), show i + 1 - i = 1 by omega, show n - i = (n - (i + 1)) + 1 by omega]
      simp [s77, List.replicate_succ]
    rw [e] at ih
    rw [a29l0n]
    simp (maxSteps := 30000000) (disch := first | assumption | omega | (simp only [List.length_cons, List.length_nil, List.length_append, List.length_set, List.length_replicate, List.length_map, List.length_range, List.length_take, List.length_drop, List.all_cons, List.all_nil, AV.isCell, Bool.and_self, Bool.and_true, bs_length, is64_length, w64_length, ints_length, edges_length] <;> omega) | rfl | decide) only [a29l0b, run_seq, run_region, runOps_cons, oper_none, ex_mov, opv, List.getD_cons_succ, List.getD_cons_zero, putK_to, List.set_cons_succ, List.set_cons_zero, opsK_some, ex_len, lenA_own, valK_some, ex_bin, bin_lss, hlt, decide_true, runOps_nil, regK_some, seqK_normal, run_cond, condK_bool, run_skip, run_exit, if_true, run_block, ex_iaddr, iaddrA_own, Int.toNat_natCast, Nat.mul_one, Nat.zero_add, ex_store, AV.cells, List.length_cons, List.length_nil, wr_ptr, hk, wrK_cells, splice, List.append_assoc, List.cons_append, List.nil_append, storeK_some, putK_no, blockK_normal, bin_add, cadd1, wr64, loopK_normal, a29l0c, ih]

noncomputable def ovK (k n : Nat) (H : Heap) : Option Blk → Option (AV × Heap)
  | some (.cells false false B) => if n ≤ B.length ∧ n < 1099511627776 then some (.tup [], H.set k (.cells false false (s77 n ++ B.drop n))) else L.icall (.func 29 []) [.own false k 0 n 1] H
  | _ => L.icall (.func 29 []) [.own false k 0 n 1] H

theorem over_own (k n : Nat) (H : Heap) : L.icall (.func 29 []) [.own false k 0 n 1] H = ovK k n H H[k]? := by
  unfold ovK
  split
  · rename_i B hb
    split
    · rename_i hc
      have h := over_loop (k := k) hc.2 n 0 B H (by omega) hc.1 hb
      simp only [Int.natCast_zero, List.take_zero, List.nil_append, Nat.sub_zero] at h
      rw [a29i, a29]
      simp (maxSteps := 30000000) (disch := first | assumption | omega | (simp only [List.length_cons, List.length_nil, List.length_append, List.length_set, List.length_replicate, List.length_map, List.length_range, List.length_take, List.length_drop, List.all_cons, List.all_nil, AV.isCell, Bool.and_self, Bool.and_true, bs_length, is64_length, w64_length, ints_length, edges_length] <;> omega) | rfl | decide) only [List.append_nil, bodyA_eq, List.length_cons, List.length_nil, Nat.zero_add, Nat.reduceSub, pads, List.cons_append, List.nil_append, run_seq, run_region, runOps_cons, oper_none, ex_mov, opv, putK_to, List.set_cons_succ, List.set_cons_zero, opsK_some, runOps_nil, regK_some, seqK_normal, run_block, run_loop, a29l0c, h, blockK_exit, if_true, bodyK_normal, results_0, retvK_some]
    · rfl
  · rfl

theorem ovK_some {k n : Nat} {H : Heap} {B : List AV} (h1 : n ≤ B.length) (h2 : n < 1099511627776) : ovK k n H (some (.cells false false B)) = some (.tup [], H.set k (.cells false false (s77 n ++ B.drop n))) := by
  unfold ovK
  exact if_pos ⟨h1, h2⟩

theorem over_nil (H : Heap) : L.icall (.func 29 []) [.sl true 0 []] H = some (.tup [], H) := by
  rw [a29i, a29]
  simp (maxSteps := 30000000) (disch := first | assumption | omega | (simp only [List.length_cons, List.length_nil, List.length_append, List.length_set, List.length_replicate, List.length_map, List.length_range, List.length_take, List.length_drop, List.all_cons, List.all_nil, AV.isCell, Bool.and_self, Bool.and_true, bs_length, is64_length, w64_length, ints_length, edges_length] <;> omega) | rfl | decide) only [List.append_nil, bodyA_eq, List.length_cons, List.length_nil, Nat.zero_add, Nat.reduceSub, pads, List.cons_append, List.nil_append, run_seq, run_region, runOps_cons, oper_none, ex_mov, opv, putK_to, List.set_cons_succ, List.set_cons_zero, opsK_some, runOps_nil, regK_some, seqK_normal, run_block, run_loop, a29l0c, a29l0n, a29l0b, List.getD_cons_succ, List.getD_cons_zero, ex_len, lenA_sl, castLit, valK_some, ex_bin, bin_lss, Int.lt_irrefl, decide_false, run_cond, condK_bool, Bool.false_eq_true, run_skip, run_exit, if_false, seqK_exit, loopK_exit, blockK_exit, if_true, bodyK_normal, results_0, retvK_some]
end Go.Abs.Nfa
