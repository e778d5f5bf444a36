/- Copies, small, Subset. -/
import Derived.Test.YtijmhicopfphnaaDoorAL7
namespace Go.Abs.Tree
open Go Go.Abs
set_option linter.unusedSimpArgs false
set_option linter.unusedVariables false

theorem frz_rls (d : Nat) (H : Heap) (l : List Rl) : (rls l).mapM (frz d H) = some (rls l) := by
  induction l with
  | nil => rfl
  | cons e l ih =>
    have : rls (e :: l) = .int .i64 e.l :: .int .i64 e.r :: .int .i64 e.t :: .int .u8 (e.p : Nat) :: .int .u8 (e.n : Nat) :: rls l := rfl
    rw [this]
    simp only [List.mapM_cons, frz_int, ih]
    rfl
theorem bor_rls (d : Nat) (H : Heap) (l : List Rl) : (rls l).flatMap (bor d H) = [] := by
  induction l with
  | nil => rfl
  | cons e l ih =>
    have : rls (e :: l) = .int .i64 e.l :: .int .i64 e.r :: .int .i64 e.t :: .int .u8 (e.p : Nat) :: .int .u8 (e.n : Nat) :: rls l := rfl
    rw [this]
    simp only [List.flatMap_cons, bor_int, ih]
    rfl
theorem frz_lfs (d : Nat) (H : Heap) (l : List Lf) : (lfs l).mapM (frz d H) = some (lfs l) := by
  induction l with
  | nil => rfl
  | cons e l ih =>
    have : lfs (e :: l) = .int .u8 (e.x : Nat) :: .int .i64 e.l :: .int .i64 e.r :: lfs l := rfl
    rw [this]
    simp only [List.mapM_cons, frz_int, ih]
    rfl
theorem bor_lfs (d : Nat) (H : Heap) (l : List Lf) : (lfs l).flatMap (bor d H) = [] := by
  induction l with
  | nil => rfl
  | cons e l ih =>
    have : lfs (e :: l) = .int .u8 (e.x : Nat) :: .int .i64 e.l :: .int .i64 e.r :: lfs l := rfl
    rw [this]
    simp only [List.flatMap_cons, bor_int, ih]
    rfl

theorem take_len {α : Type} (k : Nat) (l : List α) : List.take (l.take k).length l = l.take k := by
  rw [List.length_take]
  rcases Nat.le_total k l.length with h | h
  · rw [Nat.min_eq_left h]
  · rw [Nat.min_eq_right h, List.take_of_length_le h, List.take_of_length_le (Nat.le_refl _)]

theorem copy13 (z : Bool) (l : List Lf) (hl : l.length < 1099511627776) : L.pcall 13 [tw z l] = some (tw (l.length == 0) l) := by
  have htk : List.take (l.length * 3) (lfs l) = lfs l := List.take_of_length_le (by rw [lfs_length]; omega)
  rw [a13p, a13, pbodyA_eq]
  simp (maxSteps := 30000000) (disch := first | assumption | omega | (simp only [List.length_cons, List.length_nil, List.length_append, List.length_set, List.length_replicate, List.length_map, List.length_range, List.length_take, List.length_drop, List.all_cons, List.all_nil, AV.isCell, Bool.and_self, Bool.and_true, bs_length, is64_length, w64_length, ints_length, lfs_length, rls_length] <;> omega) | rfl | decide) only [bodyA_eq, List.length_cons, List.length_nil, Nat.zero_add, Nat.reduceSub, pads, List.cons_append, List.nil_append, run_seq, run_region, runOps_cons, oper_none, ex_mov, opv, putK_to, List.set_cons_succ, List.set_cons_zero, opsK_some, runOps_nil, regK_some, seqK_normal, List.getD_cons_zero, ex_append, List.getD_cons_succ, src_sl, appK_nil, newA_own, run_ret, bodyK_ret, results_1, res_tmp, retvK_some, pbodyK_some, frzN, frz_own, List.getElem?_cons_zero, frzK_cells, List.drop_zero, htk, frz_lfs, slK_some]
theorem copy69 (z : Bool) (l : List Int) (hl : l.length < 1099511627776) : L.pcall 69 [iw z l] = some (iw (l.length == 0) l) := by
  rw [a69p, a69, pbodyA_eq]
  simp (maxSteps := 30000000) (disch := first | assumption | omega | (simp only [List.length_cons, List.length_nil, List.length_append, List.length_set, List.length_replicate, List.length_map, List.length_range, List.length_take, List.length_drop, List.all_cons, List.all_nil, AV.isCell, Bool.and_self, Bool.and_true, bs_length, is64_length, w64_length, ints_length, lfs_length, rls_length] <;> omega) | rfl | decide) only [bodyA_eq, List.length_cons, List.length_nil, Nat.zero_add, Nat.reduceSub, pads, List.cons_append, List.nil_append, run_seq, run_region, runOps_cons, oper_none, ex_mov, opv, putK_to, List.set_cons_succ, List.set_cons_zero, opsK_some, runOps_nil, regK_some, seqK_normal, List.getD_cons_zero, ex_append, List.getD_cons_succ, src_sl, appK_nil, newA_own, run_ret, bodyK_ret, results_1, res_tmp, retvK_some, pbodyK_some, frzN, frz_own, List.getElem?_cons_zero, frzK_cells, Nat.mul_one, List.drop_zero, ints_take, List.take_length, frz_ints, slK_some]
theorem copy70 (z : Bool) (l : List Rl) (hl : l.length < 1099511627776) : L.pcall 70 [.sl z l.length (rls l)] = some (.sl (l.length == 0) l.length (rls l)) := by
  have htk : List.take (l.length * 5) (rls l) = rls l := List.take_of_length_le (by rw [rls_length]; omega)
  rw [a70p, a70, pbodyA_eq]
  simp (maxSteps := 30000000) (disch := first | assumption | omega | (simp only [List.length_cons, List.length_nil, List.length_append, List.length_set, List.length_replicate, List.length_map, List.length_range, List.length_take, List.length_drop, List.all_cons, List.all_nil, AV.isCell, Bool.and_self, Bool.and_true, bs_length, is64_length, w64_length, ints_length, lfs_length, rls_length] <;> omega) | rfl | decide) only [bodyA_eq, List.length_cons, List.length_nil, Nat.zero_add, Nat.reduceSub, pads, List.cons_append, List.nil_append, run_seq, run_region, runOps_cons, oper_none, ex_mov, opv, putK_to, List.set_cons_succ, List.set_cons_zero, opsK_some, runOps_nil, regK_some, seqK_normal, List.getD_cons_zero, ex_append, List.getD_cons_succ, src_sl, appK_nil, newA_own, run_ret, bodyK_ret, results_1, res_tmp, retvK_some, pbodyK_some, frzN, frz_own, List.getElem?_cons_zero, frzK_cells, List.drop_zero, htk, frz_rls, slK_some]

/-- the law's copy -/
abbrev cpA (n : Aut) : Aut := ⟨n.vars, n.states, n.st.length == 0, n.st, n.fi.length == 0, n.fi, n.rl.length == 0, n.rl⟩
theorem copy33 (n : Aut) (h1 : n.st.length < 1099511627776) (h2 : n.fi.length < 1099511627776) (h3 : n.rl.length < 1099511627776) : L.pcall 33 [n.av] = some (cpA n).av := by
  have h1 := copy69 n.z1 n.st h1
  have h2 := copy69 n.z2 n.fi h2
  have h3 := copy70 n.z3 n.rl h3
  rw [a33p, a33, pbodyA_eq]
  simp (maxSteps := 30000000) (disch := first | assumption | omega | (simp only [List.length_cons, List.length_nil, List.length_append, List.length_set, List.length_replicate, List.length_map, List.length_range, List.length_take, List.length_drop, List.all_cons, List.all_nil, AV.isCell, Bool.and_self, Bool.and_true, bs_length, is64_length, w64_length, ints_length, lfs_length, rls_length] <;> omega) | rfl | decide) only [bodyA_eq, List.length_cons, List.length_nil, Nat.zero_add, Nat.reduceSub, pads, List.cons_append, List.nil_append, run_seq, run_region, runOps_cons, oper_none, ex_box, AV.cells, opv, List.getD_cons_zero, List.all_cons, AV.isCell, List.all_nil, Bool.and_self, if_true, putK_to, List.set_cons_succ, List.set_cons_zero, opsK_some, runOps_nil, regK_some, seqK_normal, run_draw, List.take_succ_cons, List.take_zero, runFree_cons, foper_none, fe_faddr, ex_faddr, List.getD_cons_succ, faddrA_ptr, Nat.add_zero, valK_some, fstK_some, fputK_to, freeK_some, fe_load, ex_load, rd_ptr, List.getElem?_cons_zero, rdK_cells, List.drop_zero, loadK_1, List.drop_succ_cons, fe_call, List.map_cons, List.map_nil, pcallA_eq, frzN, List.mapM_cons, frz_sl, List.mapM_nil, Option.pure_def, Option.bind_eq_bind, Option.bind_some, argK_some, h1, retK_some, scal, scal1, Bool.false_eq_true, fzIds, List.flatMap_cons, bor_sl, List.flatMap_nil, List.append_nil, List.foldl_nil, ite_self, quietK_some, quietCall, Bool.or_true, h2, List.take_nil, h3, runFree_nil, drawK_some, adopt, adoptVal, ex_build, beq_self_eq_true, fillA, Nat.reduceAdd, Nat.reduceLeDiff, and_self, splice, Nat.le_refl, List.drop_nil, Option.map_some, ex_store, wr_ptr, List.getElem?_cons_succ, wrK_cells, storeK_some, putK_no, run_ret, bodyK_ret, results_1, res_cell, cellK_some, mkv_n, retvK_some, pbodyK_some, frz_agg, frz_int]

/-- the first 100 rules -/
abbrev smA (n : Aut) : Aut := ⟨n.vars, n.states, n.z1, n.st.take 70, n.z2, n.fi.take 70, n.z3, n.rl.take 100⟩
theorem small34 (n : Aut) : L.pcall 34 [n.av] = some (cpA (smA n)).av := by
  have h := copy33 (smA n) (by simp; omega) (by simp; omega) (by simp; omega)
  have e1 : min ((n.st.length : Nat) : Int) 70 = ((n.st.take 70).length : Nat) := by rw [List.length_take]; omega
  have e2 : min ((n.fi.length : Nat) : Int) 70 = ((n.fi.take 70).length : Nat) := by rw [List.length_take]; omega
  have e3 : min ((n.rl.length : Nat) : Int) 100 = ((n.rl.take 100).length : Nat) := by rw [List.length_take]; omega
  have t1 : List.take (n.st.take 70).length n.st = n.st.take 70 := take_len ..
  have t2 : List.take (n.fi.take 70).length n.fi = n.fi.take 70 := take_len ..
  have t3 : List.take ((n.rl.take 100).length * 5) (rls n.rl) = rls (n.rl.take 100) := by
    unfold rls
    rw [rows_take (enc := encR) (k := 5) (fun _ => rfl)]
    rw [take_len]
  have l1 : (n.st.take 70).length ≤ n.st.length := by rw [List.length_take]; omega
  have l2 : (n.fi.take 70).length ≤ n.fi.length := by rw [List.length_take]; omega
  have l3 : (n.rl.take 100).length ≤ n.rl.length := by rw [List.length_take]; omega
  have c1 : (n.st.take 70).length ≤ 70 := by rw [List.length_take]; omega
  have c2 : (n.fi.take 70).length ≤ 70 := by rw [List.length_take]; omega
  have c3 : (n.rl.take 100).length ≤ 100 := by rw [List.length_take]; omega
  dsimp only [smA, cpA, Aut.av, Aut.cells, iw] at h ⊢
  generalize n.st.take 70 = st at *
  generalize n.fi.take 70 = fi at *
  generalize n.rl.take 100 = rl at *
  rw [a34p, a34, pbodyA_eq]
  simp (maxSteps := 30000000) (disch := first | assumption | omega | (simp only [List.length_cons, List.length_nil, List.length_append, List.length_set, List.length_replicate, List.length_map, List.length_range, List.length_take, List.length_drop, List.all_cons, List.all_nil, AV.isCell, Bool.and_self, Bool.and_true, bs_length, is64_length, w64_length, ints_length, lfs_length, rls_length] <;> omega) | rfl | decide) only [bodyA_eq, List.length_cons, List.length_nil, Nat.zero_add, Nat.reduceSub, pads, List.cons_append, List.nil_append, run_seq, run_region, runOps_cons, oper_none, ex_box, AV.cells, opv, List.getD_cons_zero, List.all_cons, AV.isCell, List.all_nil, Bool.and_self, if_true, putK_to, List.set_cons_succ, List.set_cons_zero, opsK_some, runOps_nil, regK_some, seqK_normal, ex_faddr, List.getD_cons_succ, faddrA_ptr, valK_some, ex_load, rd_ptr, List.getElem?_cons_zero, rdK_cells, List.drop_succ_cons, List.drop_zero, List.take_succ_cons, List.take_zero, loadK_1, ex_len, lenA_sl, ex_mini, minA_int, e1, ex_slice, Option.map_none, Option.map_some, sliceA_sl, bounds_ns, Int.toNat_natCast, cutK_sl, Nat.sub_zero, Nat.mul_one, ints_take, t1, ex_store, wr_ptr, wrK_cells, splice, Nat.reduceAdd, storeK_some, putK_no, e2, t2, List.take_nil, e3, Nat.reduceMul, t3, List.drop_nil, List.append_nil, loadK_n, ex_call, List.map_cons, List.map_nil, pcallA_eq, frzN, List.mapM_cons, frz_agg, frz_int, frz_sl, List.mapM_nil, Option.pure_def, Option.bind_eq_bind, Option.bind_some, argK_some, h, retK_some, scal, scal1, Bool.and_true, Bool.and_false, Bool.false_eq_true, fzIds, List.flatMap_cons, bor_agg, bor_int, bor_sl, List.flatMap_nil, List.foldl_nil, ite_self, List.getElem?_cons_succ, run_ret, bodyK_ret, results_1, res_cell, cellK_some, mkv_n, retvK_some, pbodyK_some]

/-! subset -/
theorem andN64 {a b : Nat} (ha : a < 18446744073709551616) (hb : b < 18446744073709551616) : bitsA .andNot .u64 (a : Int) (b : Int) = ((a ^^^ (a &&& b) : Nat) : Int) := by
  have h3 : a ^^^ (a &&& b) < 2 ^ 64 := Nat.xor_lt_two_pow (by omega) (Nat.lt_of_le_of_lt Nat.and_le_left (by omega))
  have e : BitVec.ofInt 64 (a : Int) &&& ~~~ BitVec.ofInt 64 (b : Int) = BitVec.ofInt 64 (a : Int) ^^^ (BitVec.ofInt 64 (a : Int) &&& BitVec.ofInt 64 (b : Int)) := by
    apply BitVec.eq_of_getLsbD_eq
    intro i hi
    simp only [BitVec.getLsbD_and, BitVec.getLsbD_not, BitVec.getLsbD_xor, hi, decide_true, Bool.true_and]
    cases (BitVec.ofInt 64 (a : Int)).getLsbD i <;> cases (BitVec.ofInt 64 (b : Int)).getLsbD i <;> rfl
  change IntKind.u64.wrap (((BitVec.ofInt 64 (a : Int) &&& ~~~ BitVec.ofInt 64 (b : Int)).toNat : Nat) : Int) = _
  rw [e, BitVec.toNat_xor, BitVec.toNat_and, bitN64 ha, bitN64 hb]
  exact wrU64 (by omega)

theorem minus94 (x y : Nat) (H : Heap) (hx : x < 18446744073709551616) (hy : y < 18446744073709551616) : L.icall (.func 94 []) [.int .u64 (x : Nat), .int .u64 (y : Nat)] H = some (.int .u64 (x ^^^ (x &&& y) : Nat), H) := by
  have h := andN64 hx hy
  rw [a94i, a94]
  simp (maxSteps := 30000000) (disch := first | assumption | omega | (simp only [List.length_cons, List.length_nil, List.length_append, List.length_set, List.length_replicate, List.length_map, List.length_range, List.length_take, List.length_drop, List.all_cons, List.all_nil, AV.isCell, Bool.and_self, Bool.and_true, bs_length, is64_length, w64_length, ints_length, lfs_length, rls_length] <;> omega) | rfl | decide) only [List.append_nil, bodyA_eq, List.length_cons, List.length_nil, Nat.zero_add, Nat.reduceAdd, Nat.reduceSub, pads, List.cons_append, List.nil_append, run_seq, run_region, runOps_cons, oper_none, ex_mov, opv, putK_to, List.set_cons_succ, List.set_cons_zero, opsK_some, runOps_nil, regK_some, seqK_normal, List.getD_cons_zero, List.getD_cons_succ, ex_bin, bin_andNot, h, valK_some, run_ret, bodyK_ret, results_1, res_tmp, retvK_some]

theorem subset_has {v u : AV} {S T : Nat → Bool} (hv : HasSet v S) (hu : HasSet u T) : ∃ t, L.pcall 35 [v, u] = some (.bool t) ∧ (t = true ↔ ∀ j, S j = true → T j = true) := by
  obtain ⟨za, a, rfl, wa, la, ha⟩ := id hv
  obtain ⟨zb, b, rfl, wb, lb, hb⟩ := id hu
  obtain ⟨z, H', h⟩ := comb_eq (za := za) (zb := zb) (g := 94) (op := fun x y => x ^^^ (x &&& y)) (fun x y H hx hy => minus94 x y H hx hy) wa wb
  have hlen := combM_len (fun x y => x ^^^ (x &&& y)) a b
  have hW := combM_W (op := fun x y => x ^^^ (x &&& y)) (fun x y hx hy => by
    have : x ^^^ (x &&& y) < 2 ^ 64 := Nat.xor_lt_two_pow (by omega) (Nat.lt_of_le_of_lt Nat.and_le_left (by omega))
    omega) wa wb
  have hmem : ∀ j, j < 4096 → mem (combM (fun x y => x ^^^ (x &&& y)) a b) j = (S j && !T j) := fun j hj => by
    rw [mem_comb (f := fun p q => p && !q) a b (by simp) (fun x y i => by simp; cases x.testBit i <;> cases y.testBit i <;> rfl) j hj, ha, hb]
  have hlast := combM_last (fun x y => x ^^^ (x &&& y)) a b
  generalize combM (fun x y => x ^^^ (x &&& y)) a b = r at *
  have h71 : L.pcall 71 [sw za a, sw zb b] = some (sw z r) := by
    rw [a71p, a71, pbodyA_eq]
    simp (maxSteps := 30000000) (disch := first | assumption | omega | (simp only [List.length_cons, List.length_nil, List.length_append, List.length_set, List.length_replicate, List.length_map, List.length_range, List.length_take, List.length_drop, List.all_cons, List.all_nil, AV.isCell, Bool.and_self, Bool.and_true, bs_length, is64_length, w64_length, ints_length, lfs_length, rls_length] <;> omega) | rfl | decide) only [bodyA_eq, List.length_cons, List.length_nil, Nat.zero_add, Nat.reduceAdd, Nat.reduceSub, pads, List.cons_append, List.nil_append, run_seq, run_region, runOps_cons, oper_none, ex_mov, opv, putK_to, List.set_cons_succ, List.set_cons_zero, opsK_some, runOps_nil, regK_some, seqK_normal, List.getD_cons_zero, List.getD_cons_succ, ex_icall, List.map_cons, List.map_nil, h, run_ret, bodyK_ret, results_1, res_tmp, retvK_some, pbodyK_some, frzN, frz_sl]
  have e : (((r.length : Nat) : Int) = 0) = (r.length = 0) := propext ⟨fun h => by omega, fun h => by omega⟩
  refine ⟨decide (r.length = 0), ?_, ?_⟩
  · rw [a35p, a35, pbodyA_eq]
    simp (maxSteps := 30000000) (disch := first | assumption | omega | (simp only [List.length_cons, List.length_nil, List.length_append, List.length_set, List.length_replicate, List.length_map, List.length_range, List.length_take, List.length_drop, List.all_cons, List.all_nil, AV.isCell, Bool.and_self, Bool.and_true, bs_length, is64_length, w64_length, ints_length, lfs_length, rls_length] <;> omega) | rfl | decide) only [bodyA_eq, List.length_cons, List.length_nil, Nat.zero_add, Nat.reduceAdd, Nat.reduceSub, pads, List.cons_append, List.nil_append, run_seq, run_region, runOps_cons, oper_none, ex_mov, opv, putK_to, List.set_cons_succ, List.set_cons_zero, opsK_some, runOps_nil, regK_some, seqK_normal, List.getD_cons_zero, List.getD_cons_succ, ex_call, List.map_cons, List.map_nil, pcallA_eq, frzN, List.mapM_cons, frz_sl, List.mapM_nil, Option.pure_def, Option.bind_eq_bind, Option.bind_some, argK_some, h71, retK_some, scal, scal1, Bool.false_eq_true, fzIds, List.flatMap_cons, bor_sl, List.flatMap_nil, List.append_nil, List.foldl_nil, ite_self, ex_len, lenA_sl, valK_some, ex_bin, bin_eql, e, run_ret, bodyK_ret, results_1, res_tmp, retvK_some, pbodyK_some, frz_bool]
  · rw [decide_eq_true_eq]
    constructor
    · intro h0 j hj
      have hj4 : j < 4096 := by
        rcases Nat.lt_or_ge j 4096 with q | q
        · exact q
        · rw [hv.out q] at hj; cases hj
      have := hmem j hj4
      rw [List.length_eq_zero_iff.1 h0, hj] at this
      simp [mem] at this
      exact this
    · intro hs
      rcases Nat.eq_zero_or_pos r.length with q | q
      · exact q
      · have hne : r ≠ [] := List.length_pos_iff.1 q
        obtain ⟨i, hi, hbit⟩ := bit_of_ne (hlast hne) (hW.get _)
        have hj : 64 * (r.length - 1) + i < 4096 := by omega
        have h1 := hmem _ hj
        have hm : mem r (64 * (r.length - 1) + i) = true := by
          unfold mem
          rw [show (64 * (r.length - 1) + i) / 64 = r.length - 1 by omega, show (64 * (r.length - 1) + i) % 64 = i by omega, hbit]
          simp [hj]
        rw [hm] at h1
        have h2 := h1.symm
        simp only [Bool.and_eq_true] at h2
        rw [hs _ h2.1] at h2
        simp at h2
end Go.Abs.Tree
