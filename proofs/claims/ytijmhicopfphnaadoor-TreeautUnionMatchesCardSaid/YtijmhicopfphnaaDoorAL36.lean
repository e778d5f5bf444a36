/- EqualTreeNFA of equal automata. -/
import Derived.Test.YtijmhicopfphnaaDoorALC
namespace Go.Abs.Tree
open Go Go.Abs
set_option linter.unusedSimpArgs false
set_option linter.unusedVariables false

theorem ints_same_loop {l : List Int} {z z' : Bool} {s4 : AV} {H : Heap} (hl : l.length < 1099511627776) : ∀ d i, i + d = l.length →
    L.loop a60l0s a60l0 ⟨a60l0F (iw z l) (iw z' l) s4 (.int .i64 (i : Nat)), H⟩ = some (.exit 0, ⟨a60l0F (iw z l) (iw z' l) s4 (.int .i64 (l.length : Nat)), H⟩)
  | 0, i, h => by
    obtain rfl : i = l.length := by omega
    rw [a60l0n]
    simp (maxSteps := 30000000) (disch := first | assumption | omega | (simp only [List.length_cons, List.length_nil, List.length_append, List.length_set, List.length_replicate, List.length_map, List.length_range, List.length_take, List.length_drop, List.all_cons, List.all_nil, AV.isCell, Bool.and_self, Bool.and_true, bs_length, is64_length, w64_length, ints_length, rls_length] <;> omega) | rfl | decide) only [a60l0b, run_seq, run_region, runOps_cons, oper_none, ex_mov, opv, List.getD_cons_succ, List.getD_cons_zero, putK_to, List.set_cons_succ, List.set_cons_zero, opsK_some, ex_len, lenA_sl, valK_some, ex_bin, bin_lss, Int.lt_irrefl, decide_false, runOps_nil, regK_some, seqK_normal, run_cond, condK_bool, Bool.false_eq_true, ↓reduceIte, run_exit, seqK_exit, loopK_exit, a60l0c]
  | d + 1, i, h => by
    have hlt : (i : Int) < (l.length : Nat) := by omega
    have ih := ints_same_loop (z := z) (z' := z') (s4 := s4) (H := H) hl d (i + 1) (by omega)
    rw [a60l0n]
    simp (maxSteps := 30000000) (disch := first | assumption | omega | (simp only [List.length_cons, List.length_nil, List.length_append, List.length_set, List.length_replicate, List.length_map, List.length_range, List.length_take, List.length_drop, List.all_cons, List.all_nil, AV.isCell, Bool.and_self, Bool.and_true, bs_length, is64_length, w64_length, ints_length, rls_length] <;> omega) | rfl | decide) only [a60l0b, run_seq, run_region, runOps_cons, oper_none, ex_mov, opv, List.getD_cons_succ, List.getD_cons_zero, putK_to, List.set_cons_succ, List.set_cons_zero, opsK_some, ex_len, lenA_sl, valK_some, ex_bin, bin_lss, hlt, decide_true, runOps_nil, regK_some, seqK_normal, run_cond, condK_bool, ↓reduceIte, run_skip, run_block, run_draw, List.take_succ_cons, List.take_zero, runFree_cons, foper_none, fe_mov, fstK_some, fputK_to, freeK_some, fe_iaddr, ex_iaddr, iaddrA_sl, Int.toNat_natCast, Nat.mul_one, fe_load, ex_load, rd_vptr, ints_drop, ints_take, ints_at0, getD_dropI, Nat.add_zero, loadK_1, runFree_nil, drawK_some, List.drop_succ_cons, List.drop_zero, adopt, adoptVal, bin_neq, Bool.not_true, Bool.false_eq_true, blockK_normal, bin_add, cadd1, wr64, loopK_normal, a60l0c, ih]

theorem ints_same (z z' : Bool) (l : List Int) (hl : l.length < 1099511627776) : L.pcall 60 [iw z l, iw z' l] = some (.bool true) := by
  have ih := fun s4 => ints_same_loop (z := z) (z' := z') (s4 := s4) (H := []) hl l.length 0 (by omega)
  simp only [Int.natCast_zero] at ih
  rw [a60p, a60, pbodyA_eq]
  simp (maxSteps := 30000000) (disch := first | assumption | omega | (simp only [List.length_cons, List.length_nil, List.length_append, List.length_set, List.length_replicate, List.length_map, List.length_range, List.length_take, List.length_drop, List.all_cons, List.all_nil, AV.isCell, Bool.and_self, Bool.and_true, bs_length, is64_length, w64_length, ints_length, rls_length] <;> omega) | rfl | decide) only [bodyA_eq, List.length_cons, List.length_nil, Nat.zero_add, Nat.reduceAdd, Nat.reduceSub, pads, List.cons_append, List.nil_append, run_seq, run_region, runOps_cons, oper_none, ex_mov, opv, putK_to, List.set_cons_succ, List.set_cons_zero, opsK_some, runOps_nil, regK_some, seqK_normal, List.getD_cons_zero, ex_len, List.getD_cons_succ, lenA_sl, valK_some, ex_bin, bin_neq, decide_true, Bool.not_true, run_cond, condK_bool, Bool.false_eq_true, ↓reduceIte, run_skip, run_block, run_loop, a60l0c, ih, blockK_exit, run_ret, bodyK_ret, results_1, res_tmp, retvK_some, pbodyK_some, frzN, frz_bool]

theorem rls_same_loop {l : List Rl} {z z' : Bool} {s4 : AV} {H : Heap} (hl : l.length < 1099511627776) : ∀ d i, i + d = l.length →
    L.loop a61l0s a61l0 ⟨a61l0F (.sl z l.length (rls l)) (.sl z' l.length (rls l)) s4 (.int .i64 (i : Nat)), H⟩ = some (.exit 0, ⟨a61l0F (.sl z l.length (rls l)) (.sl z' l.length (rls l)) s4 (.int .i64 (l.length : Nat)), H⟩)
  | 0, i, h => by
    obtain rfl : i = l.length := by omega
    rw [a61l0n]
    simp (maxSteps := 30000000) (disch := first | assumption | omega | (simp only [List.length_cons, List.length_nil, List.length_append, List.length_set, List.length_replicate, List.length_map, List.length_range, List.length_take, List.length_drop, List.all_cons, List.all_nil, AV.isCell, Bool.and_self, Bool.and_true, bs_length, is64_length, w64_length, ints_length, rls_length] <;> omega) | rfl | decide) only [a61l0b, run_seq, run_region, runOps_cons, oper_none, ex_mov, opv, List.getD_cons_succ, List.getD_cons_zero, putK_to, List.set_cons_succ, List.set_cons_zero, opsK_some, ex_len, lenA_sl, valK_some, ex_bin, bin_lss, Int.lt_irrefl, decide_false, runOps_nil, regK_some, seqK_normal, run_cond, condK_bool, Bool.false_eq_true, ↓reduceIte, run_exit, seqK_exit, loopK_exit, a61l0c]
  | d + 1, i, h => by
    have hlt : (i : Int) < (l.length : Nat) := by omega
    have ih := rls_same_loop (z := z) (z' := z') (s4 := s4) (H := H) hl d (i + 1) (by omega)
    rw [a61l0n]
    simp (maxSteps := 30000000) (disch := first | assumption | omega | (simp only [List.length_cons, List.length_nil, List.length_append, List.length_set, List.length_replicate, List.length_map, List.length_range, List.length_take, List.length_drop, List.all_cons, List.all_nil, AV.isCell, Bool.and_self, Bool.and_true, bs_length, is64_length, w64_length, ints_length, rls_length] <;> omega) | rfl | decide) only [a61l0b, run_seq, run_region, runOps_cons, oper_none, ex_mov, opv, List.getD_cons_succ, List.getD_cons_zero, putK_to, List.set_cons_succ, List.set_cons_zero, opsK_some, ex_len, lenA_sl, valK_some, ex_bin, bin_lss, hlt, decide_true, runOps_nil, regK_some, seqK_normal, run_cond, condK_bool, ↓reduceIte, run_skip, run_block, run_draw, List.take_succ_cons, List.take_zero, runFree_cons, foper_none, fe_mov, fstK_some, fputK_to, freeK_some, fe_iaddr, ex_iaddr, iaddrA_sl, Int.toNat_natCast, fe_load, ex_load, rd_vptr, rls_at, loadK_n, runFree_nil, drawK_some, List.drop_succ_cons, List.drop_zero, adopt, adoptVal, ex_aeq, aeqA_agg, eqCells, eq1, beq_self_eq_true, Bool.and_self, Option.map_some, bne_self_eq_false, Bool.false_eq_true, blockK_normal, bin_add, cadd1, wr64, loopK_normal, a61l0c, ih]

theorem rls_same (z z' : Bool) (l : List Rl) (hl : l.length < 1099511627776) : L.pcall 61 [.sl z l.length (rls l), .sl z' l.length (rls l)] = some (.bool true) := by
  have ih := fun s4 => rls_same_loop (z := z) (z' := z') (s4 := s4) (H := []) hl l.length 0 (by omega)
  simp only [Int.natCast_zero] at ih
  rw [a61p, a61, pbodyA_eq]
  simp (maxSteps := 30000000) (disch := first | assumption | omega | (simp only [List.length_cons, List.length_nil, List.length_append, List.length_set, List.length_replicate, List.length_map, List.length_range, List.length_take, List.length_drop, List.all_cons, List.all_nil, AV.isCell, Bool.and_self, Bool.and_true, bs_length, is64_length, w64_length, ints_length, rls_length] <;> omega) | rfl | decide) only [bodyA_eq, List.length_cons, List.length_nil, Nat.zero_add, Nat.reduceAdd, Nat.reduceSub, pads, List.cons_append, List.nil_append, run_seq, run_region, runOps_cons, oper_none, ex_mov, opv, putK_to, List.set_cons_succ, List.set_cons_zero, opsK_some, runOps_nil, regK_some, seqK_normal, List.getD_cons_zero, ex_len, List.getD_cons_succ, lenA_sl, valK_some, ex_bin, bin_neq, decide_true, Bool.not_true, run_cond, condK_bool, Bool.false_eq_true, ↓reduceIte, run_skip, run_block, run_loop, a61l0c, ih, blockK_exit, run_ret, bodyK_ret, results_1, res_tmp, retvK_some, pbodyK_some, frzN, frz_bool]

theorem aut_same (n : Aut) (h1 : n.st.length < 1099511627776) (h2 : n.fi.length < 1099511627776) (h3 : n.rl.length < 1099511627776) (z1 z2 z3 : Bool) : L.pcall 25 [n.av, (Aut.mk n.vars n.states z1 n.st z2 n.fi z3 n.rl).av] = some (.bool true) := by
  have g1 := ints_same n.z1 z1 n.st h1
  have g2 := ints_same n.z2 z2 n.fi h2
  have g3 := rls_same n.z3 z3 n.rl h3
  rw [a25p, a25, pbodyA_eq]
  simp (maxSteps := 30000000) (disch := first | assumption | omega | (simp only [List.length_cons, List.length_nil, List.length_append, List.length_set, List.length_replicate, List.length_map, List.length_range, List.length_take, List.length_drop, List.all_cons, List.all_nil, AV.isCell, Bool.and_self, Bool.and_true, bs_length, is64_length, w64_length, ints_length, rls_length] <;> omega) | rfl | decide) only [bodyA_eq, List.length_cons, List.length_nil, Nat.zero_add, Nat.reduceAdd, Nat.reduceSub, pads, List.cons_append, List.nil_append, run_seq, run_region, runOps_cons, oper_none, ex_box, AV.cells, opv, List.getD_cons_zero, List.all_cons, AV.isCell, List.all_nil, Bool.and_self, ↓reduceIte, putK_to, List.set_cons_succ, List.set_cons_zero, opsK_some, List.getD_cons_succ, ex_mov, runOps_nil, regK_some, seqK_normal, ex_faddr, faddrA_ptr, Nat.add_zero, valK_some, ex_load, rd_ptr, List.getElem?_cons_zero, rdK_cells, List.drop_zero, List.take_succ_cons, List.take_zero, loadK_1, List.getElem?_cons_succ, ex_bin, bin_eql, decide_true, oper_guard, guardK_bool, List.drop_succ_cons, ex_pick, pickA_bool, ex_call, List.map_cons, List.map_nil, pcallA_eq, frzN, List.mapM_cons, frz_sl, List.mapM_nil, Option.pure_def, Option.bind_eq_bind, Option.bind_some, argK_some, g1, retK_some, scal, scal1, g2, List.take_nil, g3, run_ret, bodyK_ret, results_1, res_tmp, retvK_some, pbodyK_some, frz_bool]

end Go.Abs.Tree
