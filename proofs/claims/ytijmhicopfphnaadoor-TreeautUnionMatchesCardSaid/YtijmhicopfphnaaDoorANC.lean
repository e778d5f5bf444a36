/- Cubes. -/
import Derived.Test.YtijmhicopfphnaaDoorANA
namespace Go.Abs.Tree
open Go Go.Abs
set_option linter.unusedSimpArgs false
set_option linter.unusedVariables false

/-! cubes and words -/
def hasB (p n x : Nat) : Bool := decide (x &&& p = p) && decide (x &&& n = 0)

theorem cubeHas (p n x : Nat) (hp : p < 256) (hn : n < 256) (hx : x < 256) : L.pcall 83 [.agg [.int .u8 (p : Nat), .int .u8 (n : Nat)], .int .u8 (x : Nat)] = some (.bool (hasB p n x)) := by
  have h1 := and8 hx hp
  have h2 := and8 hx hn
  have e1 : (((x &&& p : Nat) : Int) = ((p : Nat) : Int)) = (x &&& p = p) := propext ⟨fun h => by omega, fun h => by omega⟩
  have e2 : (((x &&& n : Nat) : Int) = 0) = (x &&& n = 0) := propext ⟨fun h => by omega, fun h => by omega⟩
  unfold hasB
  rw [a83p, a83, pbodyA_eq]
  by_cases c1 : x &&& p = p <;> by_cases c2 : x &&& n = 0 <;> simp (maxSteps := 30000000) (disch := first | assumption | omega | (simp only [List.length_cons, List.length_nil, List.length_append, List.length_set, List.length_replicate, List.length_map, List.length_range, List.length_take, List.length_drop, List.all_cons, List.all_nil, AV.isCell, Bool.and_self, Bool.and_true, bs_length, is64_length, w64_length, ints_length] <;> omega) | rfl | decide) only [bodyA_eq, List.length_cons, List.length_nil, Nat.zero_add, Nat.reduceAdd, Nat.reduceSub, pads, List.cons_append, List.nil_append, run_seq, run_region, runOps_cons, oper_none, ex_box, AV.cells, opv, List.getD_cons_zero, List.all_cons, AV.isCell, List.all_nil, Bool.and_self, ↓reduceIte, putK_to, List.set_cons_succ, List.set_cons_zero, opsK_some, ex_mov, runOps_nil, regK_some, seqK_normal, List.getD_cons_succ, ex_faddr, faddrA_ptr, Nat.add_zero, valK_some, ex_load, rd_ptr, List.getElem?_cons_zero, rdK_cells, List.drop_zero, List.take_succ_cons, List.take_zero, loadK_1, ex_bin, bin_and, h1, c1, bin_eql, decide_true, oper_guard, guardK_bool, List.drop_succ_cons, List.take_nil, h2, c2, castLit, ex_pick, pickA_bool, run_ret, bodyK_ret, results_1, res_tmp, retvK_some, pbodyK_some, frzN, frz_bool, e2, decide_false, Bool.and_false, e1, Bool.false_eq_true, putA_to, Bool.and_true]

def cubeErr (v p n : Nat) : Int := if 2 ^ v ≤ p ||| n then 7 else if p &&& n = 0 then 0 else 2

theorem shl1 {v : Nat} (hv : v ≤ 6) : IntKind.i64.wrap (1 * 2 ^ min v IntKind.i64.bits) = ((2 ^ v : Nat) : Int) := by
  have : v = 0 ∨ v = 1 ∨ v = 2 ∨ v = 3 ∨ v = 4 ∨ v = 5 ∨ v = 6 := by omega
  rcases this with rfl | rfl | rfl | rfl | rfl | rfl | rfl <;> rfl

theorem cubeCheck (v p n : Nat) (hv : v ≤ 6) (hp : p < 256) (hn : n < 256) : L.pcall 45 [.agg [.int .u8 (p : Nat), .int .u8 (n : Nat)], .int .i64 (v : Nat)] = some (.int .i64 (cubeErr v p n)) := by
  have h1 := or8 hp hn
  have h2 := and8 hp hn
  have h3 : ¬ ((6 : Int) < (v : Nat)) := by omega
  have hor : p ||| n < 256 := by
    have := Nat.or_lt_two_pow (x := p) (y := n) (n := 8) (by omega) (by omega)
    omega
  have e1 : (((2 ^ v : Nat) : Int) ≤ ((p ||| n : Nat) : Int)) = (2 ^ v ≤ p ||| n) := propext ⟨fun h => by omega, fun h => by omega⟩
  have e2 : (((p &&& n : Nat) : Int) = 0) = (p &&& n = 0) := propext ⟨fun h => by omega, fun h => by omega⟩
  have hsh := shl1 hv
  unfold cubeErr
  rw [a45p, a45, pbodyA_eq]
  by_cases c1 : 2 ^ v ≤ p ||| n
  · simp (maxSteps := 30000000) (disch := first | assumption | omega | (simp only [List.length_cons, List.length_nil, List.length_append, List.length_set, List.length_replicate, List.length_map, List.length_range, List.length_take, List.length_drop, List.all_cons, List.all_nil, AV.isCell, Bool.and_self, Bool.and_true, bs_length, is64_length, w64_length, ints_length] <;> omega) | rfl | decide) only [bodyA_eq, List.length_cons, List.length_nil, Nat.zero_add, Nat.reduceAdd, Nat.reduceSub, pads, List.cons_append, List.nil_append, run_seq, run_region, runOps_cons, oper_none, ex_box, AV.cells, opv, List.getD_cons_zero, List.all_cons, AV.isCell, List.all_nil, Bool.and_self, ↓reduceIte, putK_to, List.set_cons_succ, List.set_cons_zero, opsK_some, ex_mov, runOps_nil, regK_some, seqK_normal, run_block, List.getD_cons_succ, ex_bin, bin_lss, ltc0, decide_false, valK_some, oper_guard, guardK_bool, bin_gtr, h3, ex_pick, pickA_bool, Bool.false_eq_true, run_cond, condK_bool, run_draw, List.take_succ_cons, List.take_zero, runFree_cons, foper_none, fe_faddr, ex_faddr, faddrA_ptr, Nat.add_zero, fstK_some, fputK_to, freeK_some, fe_load, ex_load, rd_ptr, List.getElem?_cons_zero, rdK_cells, List.drop_zero, loadK_1, List.drop_succ_cons, List.take_nil, fe_bin, bin_or, h1, fe_conv, ex_conv, convA_int, wr64, runFree_nil, drawK_some, adopt, adoptVal, bin_shl, Int.toNat_natCast, hsh, bin_geq, e1, c1, decide_true, run_ret, blockK_ret, seqK_ret, bodyK_ret, results_1, res_tmp, retvK_some, pbodyK_some, frzN, frz_int]
  · by_cases c2 : p &&& n = 0 <;> simp (maxSteps := 30000000) (disch := first | assumption | omega | (simp only [List.length_cons, List.length_nil, List.length_append, List.length_set, List.length_replicate, List.length_map, List.length_range, List.length_take, List.length_drop, List.all_cons, List.all_nil, AV.isCell, Bool.and_self, Bool.and_true, bs_length, is64_length, w64_length, ints_length] <;> omega) | rfl | decide) only [bodyA_eq, List.length_cons, List.length_nil, Nat.zero_add, Nat.reduceAdd, Nat.reduceSub, pads, List.cons_append, List.nil_append, run_seq, run_region, runOps_cons, oper_none, ex_box, AV.cells, opv, List.getD_cons_zero, List.all_cons, AV.isCell, List.all_nil, Bool.and_self, ↓reduceIte, putK_to, List.set_cons_succ, List.set_cons_zero, opsK_some, ex_mov, runOps_nil, regK_some, seqK_normal, run_block, List.getD_cons_succ, ex_bin, bin_lss, ltc0, decide_false, valK_some, oper_guard, guardK_bool, bin_gtr, h3, ex_pick, pickA_bool, Bool.false_eq_true, run_cond, condK_bool, run_draw, List.take_succ_cons, List.take_zero, runFree_cons, foper_none, fe_faddr, ex_faddr, faddrA_ptr, Nat.add_zero, fstK_some, fputK_to, freeK_some, fe_load, ex_load, rd_ptr, List.getElem?_cons_zero, rdK_cells, List.drop_zero, loadK_1, List.drop_succ_cons, List.take_nil, fe_bin, bin_or, h1, fe_conv, ex_conv, convA_int, wr64, runFree_nil, drawK_some, adopt, adoptVal, bin_shl, Int.toNat_natCast, hsh, bin_geq, e1, c1, bin_and, h2, c2, castLit, bin_neq, decide_true, Bool.not_true, run_skip, blockK_normal, run_ret, bodyK_ret, results_1, res_tmp, retvK_some, pbodyK_some, frzN, frz_int, e2, Bool.not_false, blockK_ret, seqK_ret]
end Go.Abs.Tree
