/- Check of a valid automaton. -/
import Derived.Test.YtdkbhidfiplncaaAD9
namespace Go.Abs.Det
open Go Go.Abs
set_option linter.unusedSimpArgs false
set_option linter.unusedVariables false

section
variable {D : Da} {H : Heap} {s43 s44 s45 s53 s54 s55 : AV}

theorem chk_row {row : List Int} (hl : row.length ≤ 8) (h1 : H[1]? = some (.cells false false [.int .i64 (D.next.length : Nat)])) (hs : ∀ s ∈ row, 0 ≤ s ∧ s < D.next.length) : ∀ e i, i + e = row.length →
    L.loop a14l0s a14l0 ⟨a14l0F (.ptr 0 0) (.int .i64 0) (.ptr 1 0) (.func 52 [.ptr 1 0]) s43 s44 s45 s53 s54 s55 (.sl false row.length (ints row)) (.int .i64 (row.length : Nat)) (.int .i64 (i : Nat)), H⟩ =
      some (.exit 5, ⟨a14l0F (.ptr 0 0) (.int .i64 0) (.ptr 1 0) (.func 52 [.ptr 1 0]) s43 s44 s45 s53 s54 s55 (.sl false row.length (ints row)) (.int .i64 (row.length : Nat)) (.int .i64 (row.length : Nat)), H⟩) := by
  intro e
  induction e with
  | zero =>
    intro i h
    obtain rfl : i = row.length := by omega
    rw [a14l0n]
    simp (maxSteps := 30000000) (disch := first | assumption | omega | (simp only [List.length_cons, List.length_nil, List.length_append, List.length_set, List.length_replicate, List.length_map, List.length_range, List.length_take, List.length_drop, List.all_cons, List.all_nil, AV.isCell, Bool.and_self, Bool.and_true, bs_length, is64_length, w64_length, ints_length, ints_length, bools_len, List.length_map] <;> omega) | rfl | decide) only [a14l0b, run_seq, run_region, runOps_cons, oper_none, ex_bin, opv, List.getD_cons_succ, List.getD_cons_zero, bin_lss, Int.lt_irrefl, decide_false, valK_some, putK_to, List.set_cons_succ, List.set_cons_zero, opsK_some, runOps_nil, regK_some, seqK_normal, run_cond, condK_bool, Bool.false_eq_true, ↓reduceIte, run_exit, seqK_exit, loopK_exit, a14l0c]
  | succ e ih =>
    intro i h
    have hlt : (i : Int) < (row.length : Nat) := by omega
    have ih' := ih (i + 1) (by omega)
    have hs' := hs _ (getD_in (a := 0) (show i < row.length by omega))
    have h52 := state52 (s := row.getD i 0) h1
    rw [decide_eq_true hs'] at h52
    rw [a14l0n]
    simp (maxSteps := 30000000) (disch := first | assumption | omega | (simp only [List.length_cons, List.length_nil, List.length_append, List.length_set, List.length_replicate, List.length_map, List.length_range, List.length_take, List.length_drop, List.all_cons, List.all_nil, AV.isCell, Bool.and_self, Bool.and_true, bs_length, is64_length, w64_length, ints_length, ints_length, bools_len, List.length_map] <;> omega) | rfl | decide) only [a14l0b, run_seq, run_region, runOps_cons, oper_none, ex_bin, opv, List.getD_cons_succ, List.getD_cons_zero, bin_lss, hlt, decide_true, valK_some, putK_to, List.set_cons_succ, List.set_cons_zero, opsK_some, runOps_nil, regK_some, seqK_normal, run_cond, condK_bool, ↓reduceIte, run_skip, run_block, ex_iaddr, iaddrA_sl, Int.toNat_natCast, Nat.mul_one, ex_load, rd_vptr, ints_drop, ints_take, ints_at0, getD_dropI, Nat.add_zero, loadK_1, ex_mov, ex_icall, List.map_cons, List.map_nil, h52, ex_un, un_not, Bool.not_true, Bool.false_eq_true, blockK_normal, bin_add, cadd1, wr64, loopK_normal, a14l0c, ih']

theorem chk_rows {rows : List (List Int)} (hv0 : 0 ≤ D.vars) (hv3 : D.vars ≤ 3) (hl : rows.length ≤ 64) (h0 : H[0]? = some (.cells false false D.cells)) (h1 : H[1]? = some (.cells false false [.int .i64 (D.next.length : Nat)]))
    (hc : ∀ row ∈ rows, row.length = two D.vars) (hs : ∀ row ∈ rows, ∀ s ∈ row, 0 ≤ s ∧ s < D.next.length) : ∀ e i, i + e = rows.length →
    L.loop a14l1s a14l1 ⟨a14l1F (.ptr 0 0) (.int .i64 0) (.ptr 1 0) (.func 52 [.ptr 1 0]) s43 s44 s45 (.sl false rows.length (rows.map rowT)) (.int .i64 (rows.length : Nat)) (.int .i64 (i : Nat)), H⟩ =
      some (.exit 3, ⟨a14l1F (.ptr 0 0) (.int .i64 0) (.ptr 1 0) (.func 52 [.ptr 1 0]) s43 s44 s45 (.sl false rows.length (rows.map rowT)) (.int .i64 (rows.length : Nat)) (.int .i64 (rows.length : Nat)), H⟩) := by
  intro e
  induction e with
  | zero =>
    intro i h
    obtain rfl : i = rows.length := by omega
    rw [a14l1n]
    simp (maxSteps := 30000000) (disch := first | assumption | omega | (simp only [List.length_cons, List.length_nil, List.length_append, List.length_set, List.length_replicate, List.length_map, List.length_range, List.length_take, List.length_drop, List.all_cons, List.all_nil, AV.isCell, Bool.and_self, Bool.and_true, bs_length, is64_length, w64_length, ints_length, ints_length, bools_len, List.length_map] <;> omega) | rfl | decide) only [a14l1b, run_seq, run_region, runOps_cons, oper_none, ex_bin, opv, List.getD_cons_succ, List.getD_cons_zero, bin_lss, Int.lt_irrefl, decide_false, valK_some, putK_to, List.set_cons_succ, List.set_cons_zero, opsK_some, runOps_nil, regK_some, seqK_normal, run_cond, condK_bool, Bool.false_eq_true, ↓reduceIte, run_exit, seqK_exit, loopK_exit, a14l1c]
  | succ e ih =>
    intro i h
    have hlt : (i : Int) < (rows.length : Nat) := by omega
    have ih' := ih (i + 1) (by omega)
    have hm := getD_in (a := ([] : List Int)) (show i < rows.length by omega)
    have hr := chk_row (D := D) (H := H) (s43 := s43) (s44 := s44) (s45 := s45) (s53 := .sl false rows.length (rows.map rowT)) (s54 := .int .i64 (rows.length : Nat)) (s55 := .int .i64 (i : Nat)) (by rw [hc _ hm]; exact (two_bd hv3).1) h1 (hs _ hm) (rows.getD i []).length 0 (by omega)
    have hcl := hc _ hm
    have hsh := two_shl hv0 hv3
    have hv : ¬ D.vars < 0 := by omega
    simp only [Int.natCast_zero] at hr
    unfold Da.cells at h0
    rw [a14l1n]
    rw [hcl] at hr
    simp (maxSteps := 30000000) (disch := first | assumption | omega | (simp only [List.length_cons, List.length_nil, List.length_append, List.length_set, List.length_replicate, List.length_map, List.length_range, List.length_take, List.length_drop, List.all_cons, List.all_nil, AV.isCell, Bool.and_self, Bool.and_true, bs_length, is64_length, w64_length, ints_length, ints_length, bools_len, List.length_map] <;> omega) | rfl | decide) only [a14l1b, run_seq, run_region, runOps_cons, oper_none, ex_bin, opv, List.getD_cons_succ, List.getD_cons_zero, bin_lss, hlt, decide_true, valK_some, putK_to, List.set_cons_succ, List.set_cons_zero, opsK_some, runOps_nil, regK_some, seqK_normal, run_cond, condK_bool, ↓reduceIte, run_skip, run_block, ex_iaddr, iaddrA_sl, Int.toNat_natCast, Nat.mul_one, ex_load, rd_vptr, row_at, rowT, hcl, loadK_1, ex_mov, ex_len, lenA_sl, ex_faddr, faddrA_ptr, Nat.add_zero, rd_ptr, h0, rdK_cells, List.drop_zero, List.take_succ_cons, List.take_zero, bin_shl, hsh, bin_neq, Bool.not_true, Bool.false_eq_true, run_loop, a14l0c, hr, blockK_exit, blockK_normal, bin_add, cadd1, wr64, loopK_normal, a14l1c, ih']

theorem chk_states (hV : Va D) (h0 : H[0]? = some (.cells false false D.cells)) (h1 : H[1]? = some (.cells false false [.int .i64 (D.next.length : Nat)])) : ∀ e i, i + e = D.next.length →
    L.loop a14l2s a14l2 ⟨a14l2F (.ptr 0 0) (.int .i64 0) (.ptr 1 0) (.func 52 [.ptr 1 0]) (.sl false D.next.length (D.next.map rowsD)) (.int .i64 (D.next.length : Nat)) (.int .i64 (i : Nat)), H⟩ =
      some (.exit 1, ⟨a14l2F (.ptr 0 0) (.int .i64 0) (.ptr 1 0) (.func 52 [.ptr 1 0]) (.sl false D.next.length (D.next.map rowsD)) (.int .i64 (D.next.length : Nat)) (.int .i64 (D.next.length : Nat)), H⟩) := by
  intro e
  induction e with
  | zero =>
    intro i h
    obtain rfl : i = D.next.length := by omega
    have hn := hV.n64
    rw [a14l2n]
    simp (maxSteps := 30000000) (disch := first | assumption | omega | (simp only [List.length_cons, List.length_nil, List.length_append, List.length_set, List.length_replicate, List.length_map, List.length_range, List.length_take, List.length_drop, List.all_cons, List.all_nil, AV.isCell, Bool.and_self, Bool.and_true, bs_length, is64_length, w64_length, ints_length, ints_length, bools_len, List.length_map] <;> omega) | rfl | decide) only [a14l2b, run_seq, run_region, runOps_cons, oper_none, ex_bin, opv, List.getD_cons_succ, List.getD_cons_zero, bin_lss, Int.lt_irrefl, decide_false, valK_some, putK_to, List.set_cons_succ, List.set_cons_zero, opsK_some, runOps_nil, regK_some, seqK_normal, run_cond, condK_bool, Bool.false_eq_true, ↓reduceIte, run_exit, seqK_exit, loopK_exit, a14l2c]
  | succ e ih =>
    intro i h
    have hlt : (i : Int) < (D.next.length : Nat) := by omega
    have ih' := ih (i + 1) (by omega)
    have hm := getD_in (a := ([] : List (List Int))) (show i < D.next.length by omega)
    have hrl := hV.rl _ hm
    have hn := hV.n64
    have hr := chk_rows (D := D) (H := H) (s43 := .sl false D.next.length (D.next.map rowsD)) (s44 := .int .i64 (D.next.length : Nat)) (s45 := .int .i64 (i : Nat)) hV.v0 hV.v3 (by omega) h0 h1 (hV.cl _ hm) (hV.ce _ hm) (D.next.getD i []).length 0 (by omega)
    simp only [Int.natCast_zero] at hr
    rw [hrl] at hr
    rw [a14l2n]
    simp (maxSteps := 30000000) (disch := first | assumption | omega | (simp only [List.length_cons, List.length_nil, List.length_append, List.length_set, List.length_replicate, List.length_map, List.length_range, List.length_take, List.length_drop, List.all_cons, List.all_nil, AV.isCell, Bool.and_self, Bool.and_true, bs_length, is64_length, w64_length, ints_length, ints_length, bools_len, List.length_map] <;> omega) | rfl | decide) only [a14l2b, run_seq, run_region, runOps_cons, oper_none, ex_bin, opv, List.getD_cons_succ, List.getD_cons_zero, bin_lss, hlt, decide_true, valK_some, putK_to, List.set_cons_succ, List.set_cons_zero, opsK_some, runOps_nil, regK_some, seqK_normal, run_cond, condK_bool, ↓reduceIte, run_skip, run_block, ex_iaddr, iaddrA_sl, Int.toNat_natCast, Nat.mul_one, ex_load, rd_vptr, rows_at, rowsD, hrl, loadK_1, ex_mov, ex_len, lenA_sl, rd_ptr, h1, rdK_cells, List.drop_zero, List.take_succ_cons, List.take_nil, bin_neq, Bool.not_true, Bool.false_eq_true, run_loop, a14l1c, hr, blockK_exit, blockK_normal, bin_add, cadd1, wr64, loopK_normal, a14l2c, ih']
end

theorem check_ok (D : Da) (hV : Va D) : L.pcall 14 [D.av] = some (.int .i64 0) := by
  have v0 := hV.v0
  have v3 := hV.v3
  have n0 := hV.n0
  have n64 := hV.n64
  have fl := hV.fl
  have hr := fun T => chk_states (H := .cells false false D.cells :: .cells false false [.int .i64 (D.next.length : Nat)] :: T) hV rfl rfl D.next.length 0 (by omega)
  have h52 := fun T => state52 (k := 1) (s := D.empty) (n := D.next.length) (H := .cells false false D.cells :: .cells false false [.int .i64 (D.next.length : Nat)] :: T) rfl
  have e0 := hV.e0
  have en := hV.en
  rw [decide_eq_true ⟨e0, en⟩] at h52
  have c1 : ¬ D.vars < 0 := by omega
  have c2 : ¬ (3 : Int) < D.vars := by omega
  have c3 : (((D.next.length : Nat) : Int) = 0) = False := eq_false (by omega)
  have c4 : ¬ (64 : Int) < (D.next.length : Nat) := by omega
  simp only [Int.natCast_zero] at hr
  unfold Da.cells at hr h52
  simp only [fl] at hr h52
  unfold Da.av Da.cells
  rw [a14p, a14, pbodyA_eq]
  simp (maxSteps := 30000000) (disch := first | assumption | omega | (simp only [List.length_cons, List.length_nil, List.length_append, List.length_set, List.length_replicate, List.length_map, List.length_range, List.length_take, List.length_drop, List.all_cons, List.all_nil, AV.isCell, Bool.and_self, Bool.and_true, bs_length, is64_length, w64_length, ints_length, ints_length, bools_len, List.length_map] <;> omega) | rfl | decide) only [fl, bodyA_eq, List.length_cons, List.length_nil, Nat.zero_add, Nat.reduceSub, pads, List.cons_append, List.nil_append, run_seq, run_region, runOps_cons, oper_none, ex_box, AV.cells, opv, List.getD_cons_zero, List.all_cons, AV.isCell, List.all_nil, Bool.and_self, ↓reduceIte, putK_to, List.set_cons_succ, List.set_cons_zero, opsK_some, ex_mov, runOps_nil, regK_some, seqK_normal, ex_faddr, List.getD_cons_succ, faddrA_ptr, valK_some, ex_load, rd_ptr, List.getElem?_cons_zero, rdK_cells, List.drop_succ_cons, List.drop_zero, List.take_succ_cons, List.take_zero, loadK_1, ex_len, lenA_sl, ex_store, wr_ptr, List.getElem?_cons_succ, wrK_cells, splice, List.drop_nil, List.append_nil, storeK_some, putK_no, ex_mkfunc, List.map_cons, List.map_nil, run_block, Nat.add_zero, ex_bin, bin_lss, c1, decide_false, oper_guard, guardK_bool, bin_gtr, c2, ex_pick, pickA_bool, Bool.false_eq_true, run_cond, condK_bool, List.take_nil, bin_eql, c3, c4, bin_neq, decide_true, Bool.not_true, ex_icall, h52, ex_un, un_not, run_skip, blockK_normal, run_loop, a14l2c, hr, blockK_exit, run_ret, bodyK_ret, results_1, res_tmp, retvK_some, pbodyK_some, frzN, frz_int]

/-- no states -/
theorem check_none (v e : Int) (z1 z2 : Bool) (fn : Nat) (fs : List AV) (v0 : 0 ≤ v) (v3 : v ≤ 3) : L.pcall 14 [.agg [.int .i64 v, .int .i64 e, .sl z1 0 [], .sl z2 fn fs]] = some (.int .i64 3) := by
  have c1 : ¬ v < 0 := by omega
  have c2 : ¬ (3 : Int) < v := by omega
  rw [a14p, a14, pbodyA_eq]
  simp (maxSteps := 30000000) (disch := first | assumption | omega | (simp only [List.length_cons, List.length_nil, List.length_append, List.length_set, List.length_replicate, List.length_map, List.length_range, List.length_take, List.length_drop, List.all_cons, List.all_nil, AV.isCell, Bool.and_self, Bool.and_true, bs_length, is64_length, w64_length, ints_length, ints_length, bools_len, List.length_map] <;> omega) | rfl | decide) only [bodyA_eq, List.length_cons, List.length_nil, Nat.zero_add, Nat.reduceSub, pads, List.cons_append, List.nil_append, run_seq, run_region, runOps_cons, oper_none, ex_box, AV.cells, opv, List.getD_cons_zero, List.all_cons, AV.isCell, List.all_nil, Bool.and_self, ↓reduceIte, putK_to, List.set_cons_succ, List.set_cons_zero, opsK_some, ex_mov, runOps_nil, regK_some, seqK_normal, ex_faddr, List.getD_cons_succ, faddrA_ptr, valK_some, ex_load, rd_ptr, List.getElem?_cons_zero, rdK_cells, List.drop_succ_cons, List.drop_zero, List.take_succ_cons, List.take_zero, loadK_1, ex_len, lenA_sl, castLit, ex_store, wr_ptr, List.getElem?_cons_succ, wrK_cells, splice, List.drop_nil, List.append_nil, storeK_some, putK_no, ex_mkfunc, List.map_cons, List.map_nil, run_block, Nat.add_zero, ex_bin, bin_lss, c1, decide_false, oper_guard, guardK_bool, bin_gtr, c2, ex_pick, pickA_bool, Bool.false_eq_true, run_cond, condK_bool, List.take_nil, bin_eql, decide_true, run_ret, blockK_ret, seqK_ret, bodyK_ret, results_1, res_tmp, retvK_some, pbodyK_some, frzN, frz_int]
end Go.Abs.Det
