/- Automata as data; Check of a valid one. -/
import Derived.Test.YtdkbhidfiplncaaAD8
namespace Go.Abs.Det
open Go Go.Abs
set_option linter.unusedSimpArgs false
set_option linter.unusedVariables false

/-- deterministic automata as data -/
structure Da where
  vars : Int
  empty : Int
  next : List (List (List Int))
  fin : List Bool
def rowsD (l : List (List Int)) : AV := .sl false l.length (l.map rowT)
def Da.cells (D : Da) : List AV := [.int .i64 D.vars, .int .i64 D.empty, .sl false D.next.length (D.next.map rowsD), .sl false D.fin.length (bools D.fin)]
def Da.av (D : Da) : AV := .agg D.cells
theorem row_at {l : List (List Int)} {i : Nat} (h : i < l.length) : List.take 1 (List.drop i (l.map rowT)) = [rowT (l.getD i [])] := map_at1 _ _ h
theorem rows_at {l : List (List (List Int))} {i : Nat} (h : i < l.length) : List.take 1 (List.drop i (l.map rowsD)) = [rowsD (l.getD i [])] := map_at1 _ _ h

structure Va (D : Da) : Prop where
  v0 : 0 ≤ D.vars
  v3 : D.vars ≤ 3
  n0 : 0 < D.next.length
  n64 : D.next.length ≤ 64
  fl : D.fin.length = D.next.length
  e0 : 0 ≤ D.empty
  en : D.empty < D.next.length
  rl : ∀ rows ∈ D.next, rows.length = D.next.length
  cl : ∀ rows ∈ D.next, ∀ row ∈ rows, row.length = two D.vars
  ce : ∀ rows ∈ D.next, ∀ row ∈ rows, ∀ s ∈ row, 0 ≤ s ∧ s < D.next.length

theorem getD_in {α : Type} {l : List α} {i : Nat} {a : α} (h : i < l.length) : l.getD i a ∈ l := by
  rw [List.getD_eq_getElem?_getD, List.getElem?_eq_getElem h]
  exact List.getElem_mem _
theorem two_bd {v : Int} (h : v ≤ 3) : two v ≤ 8 ∧ 0 < two v := by
  have : v.toNat = 0 ∨ v.toNat = 1 ∨ v.toNat = 2 ∨ v.toNat = 3 := by omega
  unfold two
  rcases this with e | e | e | e <;> rw [e] <;> decide
theorem two_shl {v : Int} (h0 : 0 ≤ v) (h : v ≤ 3) : IntKind.i64.wrap (1 * 2 ^ min v.toNat IntKind.i64.bits) = (two v : Nat) := by
  have : v = 0 ∨ v = 1 ∨ v = 2 ∨ v = 3 := by omega
  rcases this with rfl | rfl | rfl | rfl <;> decide

theorem state52 {k : Nat} {s : Int} {n : Nat} {H : Heap} (h : H[k]? = some (.cells false false [.int .i64 (n : Nat)])) : L.icall (.func 52 [.ptr k 0]) [.int .i64 s] H = some (.bool (decide (0 ≤ s ∧ s < (n : Nat))), H) := by
  rw [a52i, a52]
  by_cases c : 0 ≤ s
  · by_cases c2 : s < (n : Nat)
    · rw [decide_eq_true ⟨c, c2⟩]
      simp (maxSteps := 30000000) (disch := first | assumption | omega | (simp only [List.length_cons, List.length_nil, List.length_append, List.length_set, List.length_replicate, List.length_map, List.length_range, List.length_take, List.length_drop, List.all_cons, List.all_nil, AV.isCell, Bool.and_self, Bool.and_true, bs_length, is64_length, w64_length, ints_length, ints_length, bools_len, List.length_map] <;> omega) | rfl | decide) only [List.cons_append, List.nil_append, bodyA_eq, List.length_cons, List.length_nil, Nat.zero_add, Nat.reduceAdd, Nat.reduceSub, pads, run_seq, run_region, runOps_cons, oper_none, ex_mov, opv, putK_to, List.set_cons_succ, List.set_cons_zero, opsK_some, runOps_nil, regK_some, seqK_normal, List.getD_cons_zero, ex_bin, List.getD_cons_succ, bin_geq, c, decide_true, valK_some, oper_guard, guardK_bool, ↓reduceIte, ex_load, rd_ptr, h, rdK_cells, List.drop_zero, List.take_succ_cons, List.take_nil, loadK_1, bin_lss, c2, ex_pick, pickA_bool, run_ret, bodyK_ret, results_1, res_tmp, retvK_some]
    · rw [decide_eq_false (by omega)]
      simp (maxSteps := 30000000) (disch := first | assumption | omega | (simp only [List.length_cons, List.length_nil, List.length_append, List.length_set, List.length_replicate, List.length_map, List.length_range, List.length_take, List.length_drop, List.all_cons, List.all_nil, AV.isCell, Bool.and_self, Bool.and_true, bs_length, is64_length, w64_length, ints_length, ints_length, bools_len, List.length_map] <;> omega) | rfl | decide) only [List.cons_append, List.nil_append, bodyA_eq, List.length_cons, List.length_nil, Nat.zero_add, Nat.reduceAdd, Nat.reduceSub, pads, run_seq, run_region, runOps_cons, oper_none, ex_mov, opv, putK_to, List.set_cons_succ, List.set_cons_zero, opsK_some, runOps_nil, regK_some, seqK_normal, List.getD_cons_zero, ex_bin, List.getD_cons_succ, bin_geq, c, decide_true, valK_some, oper_guard, guardK_bool, ↓reduceIte, ex_load, rd_ptr, h, rdK_cells, List.drop_zero, List.take_succ_cons, List.take_nil, loadK_1, bin_lss, c2, decide_false, ex_pick, pickA_bool, run_ret, bodyK_ret, results_1, res_tmp, retvK_some]
  · rw [decide_eq_false (by omega)]
    simp (maxSteps := 30000000) (disch := first | assumption | omega | (simp only [List.length_cons, List.length_nil, List.length_append, List.length_set, List.length_replicate, List.length_map, List.length_range, List.length_take, List.length_drop, List.all_cons, List.all_nil, AV.isCell, Bool.and_self, Bool.and_true, bs_length, is64_length, w64_length, ints_length, ints_length, bools_len, List.length_map] <;> omega) | rfl | decide) only [List.cons_append, List.nil_append, bodyA_eq, List.length_cons, List.length_nil, Nat.zero_add, Nat.reduceAdd, Nat.reduceSub, pads, run_seq, run_region, runOps_cons, oper_none, ex_mov, opv, putK_to, List.set_cons_succ, List.set_cons_zero, opsK_some, runOps_nil, regK_some, seqK_normal, List.getD_cons_zero, ex_bin, List.getD_cons_succ, bin_geq, c, decide_false, valK_some, oper_guard, guardK_bool, Bool.false_eq_true, ↓reduceIte, putA_to, ex_pick, pickA_bool, run_ret, bodyK_ret, results_1, res_tmp, retvK_some]
end Go.Abs.Det
