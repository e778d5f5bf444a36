/- Copies, small. -/
import Derived.Test.YtijmhicopfphnaaDoorAL7
namespace Go.Abs.Tree
open Go Go.Abs
set_option linter.unusedSimpArgs false
set_option linter.unusedVariables false

theorem dat_rls (l : List Rl) : (rls l).all data1 = true := by
  induction l with
  | nil => rfl
  | cons e l ih =>
    have : rls (e :: l) = encR e ++ rls l := rfl
    rw [this, List.all_append, ih]; rfl
theorem frz_rls (d : Nat) (H : Heap) (l : List Rl) : (rls l).mapM (frz d H) = some (rls l) := by
  induction l with
  | nil => rfl
  | cons e l ih =>
    have : rls (e :: l) = .int .i64 e.l :: .int .i64 e.r :: .int .i64 e.t :: .int .u8 (e.p : Nat) :: .int .u8 (e.n : Nat) :: rls l := rfl
    rw [this]
    simp only [List.mapM_cons, frz_int, ih]
    rfl
theorem bor_rls (d : Nat) (H : Heap) (l : List Rl) : (rls l).flatMap (bor d H) = [] := by
  induction l with
  | nil => rfl
  | cons e l ih =>
    have : rls (e :: l) = .int .i64 e.l :: .int .i64 e.r :: .int .i64 e.t :: .int .u8 (e.p : Nat) :: .int .u8 (e.n : Nat) :: rls l := rfl
    rw [this]
    simp only [List.flatMap_cons, bor_int, ih]
    rfl
theorem frz_lfs (d : Nat) (H : Heap) (l : List Lf) : (lfs l).mapM (frz d H) = some (lfs l) := by
  induction l with
  | nil => rfl
  | cons e l ih =>
    have : lfs (e :: l) = .int .u8 (e.x : Nat) :: .int .i64 e.l :: .int .i64 e.r :: lfs l := rfl
    rw [this]
    simp only [List.mapM_cons, frz_int, ih]
    rfl
theorem bor_lfs (d : Nat) (H : Heap) (l : List Lf) : (lfs l).flatMap (bor d H) = [] := by
  induction l with
  | nil => rfl
  | cons e l ih =>
    have : lfs (e :: l) = .int .u8 (e.x : Nat) :: .int .i64 e.l :: .int .i64 e.r :: lfs l := rfl
    rw [this]
    simp only [List.flatMap_cons, bor_int, ih]
    rfl

theorem take_len {α : Type} (k : Nat) (l : List α) : List.take (l.take k).length l = l.take k := by
  rw [List.length_take]
  rcases Nat.le_total k l.length with h | h
  · rw [Nat.min_eq_left h]
  · rw [Nat.min_eq_right h, List.take_of_length_le h, List.take_of_length_le (Nat.le_refl _)]

theorem copy69 (z : Bool) (l : List Int) (hl : l.length < 1099511627776) : L.pcall 69 [iw z l] = some (iw (l.length == 0) l) := by
  rw [a69p, a69, pbodyA_eq]
  simp (maxSteps := 30000000) (disch := first | assumption | omega | (simp only [List.length_cons, List.length_nil, List.length_append, List.length_set, List.length_replicate, List.length_map, List.length_range, List.length_take, List.length_drop, List.all_cons, List.all_nil, AV.isCell, Bool.and_self, Bool.and_true, bs_length, is64_length, w64_length, ints_length, lfs_length, rls_length] <;> omega) | rfl | decide) only [bodyA_eq, List.length_cons, List.length_nil, Nat.zero_add, Nat.reduceSub, pads, List.cons_append, List.nil_append, run_seq, run_region, runOps_cons, oper_none, ex_mov, opv, putK_to, List.set_cons_succ, List.set_cons_zero, opsK_some, runOps_nil, regK_some, seqK_normal, List.getD_cons_zero, ex_append, List.getD_cons_succ, src_sl, appK_nil, newA_own, run_ret, bodyK_ret, results_1, res_tmp, retvK_some, pbodyK_some, frzN, frz_own, List.getElem?_cons_zero, frzK_cells, Nat.mul_one, List.drop_zero, ints_take, List.take_length, frz_ints, slK_some]
theorem copy70 (z : Bool) (l : List Rl) (hl : l.length < 1099511627776) : L.pcall 70 [.sl z l.length (rls l)] = some (.sl (l.length == 0) l.length (rls l)) := by
  have htk : List.take (l.length * 5) (rls l) = rls l := List.take_of_length_le (by rw [rls_length]; omega)
  rw [a70p, a70, pbodyA_eq]
  simp (maxSteps := 30000000) (disch := first | assumption | omega | (simp only [List.length_cons, List.length_nil, List.length_append, List.length_set, List.length_replicate, List.length_map, List.length_range, List.length_take, List.length_drop, List.all_cons, List.all_nil, AV.isCell, Bool.and_self, Bool.and_true, bs_length, is64_length, w64_length, ints_length, lfs_length, rls_length] <;> omega) | rfl | decide) only [bodyA_eq, List.length_cons, List.length_nil, Nat.zero_add, Nat.reduceSub, pads, List.cons_append, List.nil_append, run_seq, run_region, runOps_cons, oper_none, ex_mov, opv, putK_to, List.set_cons_succ, List.set_cons_zero, opsK_some, runOps_nil, regK_some, seqK_normal, List.getD_cons_zero, ex_append, List.getD_cons_succ, src_sl, appK_nil, newA_own, run_ret, bodyK_ret, results_1, res_tmp, retvK_some, pbodyK_some, frzN, frz_own, List.getElem?_cons_zero, frzK_cells, List.drop_zero, htk, frz_rls, slK_some]

/-- the same, the caller's own -/
theorem copy70o (z : Bool) (l : List Rl) (hl : l.length < 1099511627776) : ocallA L 70 [.sl z l.length (rls l)] = some (.own (l.length == 0) 0 0 l.length 5, [.cells false (l.length == 0) (rls l)]) := by
  have htk : List.take (l.length * 5) (rls l) = rls l := List.take_of_length_le (by rw [rls_length]; omega)
  rw [ocallA_eq, a70i, a70, bodyA_eq]
  simp (maxSteps := 30000000) (disch := first | assumption | omega | (simp only [List.length_cons, List.length_nil, List.length_append, List.length_set, List.length_replicate, List.length_map, List.length_range, List.length_take, List.length_drop, List.all_cons, List.all_nil, AV.isCell, Bool.and_self, Bool.and_true, bs_length, is64_length, w64_length, ints_length, lfs_length, rls_length] <;> omega) | rfl | decide) only [List.append_nil, List.length_cons, List.length_nil, Nat.zero_add, Nat.reduceSub, pads, List.cons_append, List.nil_append, run_seq, run_region, runOps_cons, oper_none, ex_mov, opv, putK_to, List.set_cons_succ, List.set_cons_zero, opsK_some, runOps_nil, regK_some, seqK_normal, List.getD_cons_zero, ex_append, List.getD_cons_succ, src_sl, appK_nil, newA_own, run_ret, bodyK_ret, results_1, res_tmp, retvK_some, ocallK_some, compact_own, take1_own, List.getElem?_cons_zero, findI_nil, t1I_new, dat_rls, ↓reduceIte, Option.map_some, List.map_cons, List.map_nil]

theorem copy69o (z : Bool) (l : List Int) (hl : l.length < 1099511627776) : ocallA L 69 [iw z l] = some (.own (l.length == 0) 0 0 l.length 1, [.cells false (l.length == 0) (ints l)]) := by
  have htk : List.take l.length l = l := List.take_length
  rw [ocallA_eq, a69i, a69, bodyA_eq]
  simp (maxSteps := 30000000) (disch := first | assumption | omega | (simp only [List.length_cons, List.length_nil, List.length_append, List.length_set, List.length_replicate, List.length_map, List.length_range, List.length_take, List.length_drop, List.all_cons, List.all_nil, AV.isCell, Bool.and_self, Bool.and_true, bs_length, is64_length, w64_length, ints_length, lfs_length, rls_length] <;> omega) | rfl | decide) only [List.append_nil, List.length_cons, List.length_nil, Nat.zero_add, Nat.reduceSub, pads, List.cons_append, List.nil_append, run_seq, run_region, runOps_cons, oper_none, ex_mov, opv, putK_to, List.set_cons_succ, List.set_cons_zero, opsK_some, runOps_nil, regK_some, seqK_normal, List.getD_cons_zero, ex_append, List.getD_cons_succ, src_sl, appK_nil, newA_own, run_ret, bodyK_ret, results_1, res_tmp, retvK_some, ocallK_some, compact_own, take1_own, List.getElem?_cons_zero, findI_nil, t1I_new, dat_ints, ↓reduceIte, Option.map_some, List.map_cons, List.map_nil]

/-- the law's copy -/
abbrev cpA (n : Aut) : Aut := ⟨n.vars, n.states, n.st.length == 0, n.st, n.fi.length == 0, n.fi, n.rl.length == 0, n.rl⟩
theorem copy33 (n : Aut) (h1 : n.st.length < 1099511627776) (h2 : n.fi.length < 1099511627776) (h3 : n.rl.length < 1099511627776) : L.pcall 33 [n.av] = some (cpA n).av := by
  have k1 := copy69 n.z1 n.st h1
  have k2 := copy69 n.z2 n.fi h2
  have k3 := copy70 n.z3 n.rl h3
  have k4 := copy70o n.z3 n.rl h3
  have htk : List.take (n.rl.length * 5) (rls n.rl) = rls n.rl := List.take_of_length_le (by rw [rls_length]; omega)
  have k5 := copy69o n.z1 n.st h1
  have k6 := copy69o n.z2 n.fi h2
  have t1 : List.take n.st.length n.st = n.st := List.take_length
  have t2 : List.take n.fi.length n.fi = n.fi := List.take_length
  rw [a33p, a33, pbodyA_eq]
  simp (maxSteps := 30000000) (disch := first | assumption | omega | (simp only [List.length_cons, List.length_nil, List.length_append, List.length_set, List.length_replicate, List.length_map, List.length_range, List.length_take, List.length_drop, List.all_cons, List.all_nil, AV.isCell, Bool.and_self, Bool.and_true, bs_length, is64_length, w64_length, ints_length, lfs_length, rls_length] <;> omega) | rfl | decide) only [bodyA_eq, List.length_cons, List.length_nil, Nat.zero_add, Nat.reduceSub, pads, List.cons_append, List.nil_append, run_seq, run_region, runOps_cons, oper_none, ex_box, AV.cells, opv, List.getD_cons_zero, List.all_cons, AV.isCell, List.all_nil, Bool.and_self, ↓reduceIte, putK_to, List.set_cons_succ, List.set_cons_zero, opsK_some, runOps_nil, regK_some, seqK_normal, run_drawp, List.take_succ_cons, List.take_zero, runPriv_cons, isPriv_faddr, Bool.false_eq_true, foper_none, fe_faddr, ex_faddr, List.getD_cons_succ, faddrA_ptr, Nat.add_zero, valK_some, fstK_some, fputK_to, free1K_some, isPriv_load, fe_load, ex_load, rd_ptr, List.getElem?_cons_zero, rdK_cells, List.drop_zero, loadK_1, List.drop_succ_cons, isPriv_ocall, privA_eq, AOp.args, dataV, data1, ex_ocall, frzN, List.map_cons, List.map_nil, List.flatMap_cons, bor_sl, List.flatMap_nil, List.append_nil, List.mapM_cons, frz_sl, List.mapM_nil, Option.pure_def, Option.bind_eq_bind, Option.bind_some, ocArgK_some, k5, ocK_some, liftV, lift2, lift1, fzIds, List.foldl_nil, privK_some, relV, rel2, rel1, allData_cons, dat_ints, allData_nil, and_self, priv1K_some, k6, List.take_nil, k4, dat_rls, runPriv_nil, consK_some, drawpK_some, adoptS_nil, adoptL, Nat.reduceAdd, ex_build, beq_self_eq_true, fillA, Nat.reduceLeDiff, splice, Nat.le_refl, List.drop_nil, Option.map_some, ex_store, wr_ptr, List.getElem?_cons_succ, wrK_cells, storeK_some, putK_no, apartK_some, run_ret, bodyK_ret, results_1, res_cell, cellK_some, mkv_n, retvK_some, pbodyK_some, frz_agg, frz_int, frz_own, frzK_cells, Nat.mul_one, ints_take, t1, frz_ints, slK_some, t2, htk, frz_rls]

end Go.Abs.Tree
