/- mapped: lists and rules by numbers. -/
import Derived.Test.YtijmhicopfphnaaDoorALC
namespace Go.Abs.Tree
open Go Go.Abs
set_option linter.unusedSimpArgs false
set_option linter.unusedVariables false

abbrev numM (num : List Int) (s : Int) : Int := num.getD s.toNat 0
def mapL (num : List Int) : List Int → List Int
  | [] => []
  | s :: l => if 0 ≤ numM num s then numM num s :: mapL num l else mapL num l
def mvR (num : List Int) (u : Rl) : Rl := ⟨numM num u.l, numM num u.r, numM num u.t, u.p, u.n⟩
def mapR (num : List Int) : List Rl → List Rl
  | [] => []
  | u :: l => if 0 ≤ min (min (numM num u.l) (numM num u.r)) (numM num u.t) then mvR num u :: mapR num l else mapR num l
theorem mapL_len (num : List Int) : ∀ l, (mapL num l).length ≤ l.length
  | [] => by simp [mapL]
  | s :: l => by
    have := mapL_len num l
    rw [mapL]
    split <;> simp <;> omega
theorem mapR_len (num : List Int) : ∀ l, (mapR num l).length ≤ l.length
  | [] => by simp [mapR]
  | s :: l => by
    have := mapR_len num l
    rw [mapR]
    split <;> simp <;> omega

/-- numbers that are nil or a block of the heap, from block b on -/
def OwnIb (b : Nat) (G : Heap) (v : AV) (l : List Int) : Prop := (v = .sl true 0 [] ∧ l = []) ∨ ∃ k, b ≤ k ∧ v = .own false k 0 l.length 1 ∧ G[k]? = some (.cells false false (ints l))

theorem list_loop {num : List Int} {zn z : Bool} {l : List Int} (hl : l.length < 1099511627776) (hq : ∀ q ∈ l, 0 ≤ q ∧ q < (num.length : Nat)) : ∀ d i G v w, i + d = l.length → w.length ≤ i → OwnIb 0 G v w →
    ∃ G' v', L.loop a89l0s a89l0 ⟨a89l0F (.vptr [iw zn num] 0) v (iw z l) (.int .i64 (l.length : Nat)) (.int .i64 (i : Nat)), G⟩ =
      some (.exit 0, ⟨a89l0F (.vptr [iw zn num] 0) v' (iw z l) (.int .i64 (l.length : Nat)) (.int .i64 (l.length : Nat)), G'⟩) ∧ OwnIb 0 G' v' (w ++ mapL num (l.drop i))
  | 0, i, G, v, w, h, hw, hO => by
    obtain rfl : i = l.length := by omega
    refine ⟨G, v, ?_, by rw [List.drop_length, mapL, List.append_nil]; exact hO⟩
    rw [a89l0n]
    simp (maxSteps := 30000000) (disch := first | assumption | omega | (simp only [List.length_cons, List.length_nil, List.length_append, List.length_set, List.length_replicate, List.length_map, List.length_range, List.length_take, List.length_drop, List.all_cons, List.all_nil, AV.isCell, Bool.and_self, Bool.and_true, bs_length, is64_length, w64_length, ints_length, lfs_length, rls_length] <;> omega) | rfl | decide) only [a89l0b, run_seq, run_region, runOps_cons, oper_none, ex_bin, opv, List.getD_cons_succ, List.getD_cons_zero, bin_lss, Int.lt_irrefl, decide_false, valK_some, putK_to, List.set_cons_succ, List.set_cons_zero, opsK_some, runOps_nil, regK_some, seqK_normal, run_cond, condK_bool, Bool.false_eq_true, ↓reduceIte, run_exit, seqK_exit, loopK_exit, a89l0c]
  | d + 1, i, G, v, w, h, hw, hO => by
    have hlt : (i : Int) < (l.length : Nat) := by omega
    have hi : i < l.length := by omega
    have hm : l.getD i 0 ∈ l := by
      rw [List.getD_eq_getElem?_getD, List.getElem?_eq_getElem hi]
      exact List.getElem_mem _
    obtain ⟨q0, q1⟩ := hq _ hm
    rw [drop_getI hi, mapL]
    by_cases c : 0 ≤ numM num (l.getD i 0)
    · rw [if_pos c]
      rcases hO with ⟨rfl, rfl⟩ | ⟨k, k0, rfl, hk⟩
      · obtain ⟨G', v', e1, e2⟩ := list_loop (zn := zn) (z := z) hl hq d (i + 1) (G ++ [.cells false false (ints [numM num (l.getD i 0)])]) (.own false G.length 0 1 1) [numM num (l.getD i 0)] (by omega) (by simp) (.inr ⟨G.length, by omega, by simp, by simp⟩)
        refine ⟨G', v', ?_, by simpa using e2⟩
        simp only [ints_one] at e1
        rw [a89l0n]
        simp (maxSteps := 30000000) (disch := first | assumption | omega | (simp only [List.length_cons, List.length_nil, List.length_append, List.length_set, List.length_replicate, List.length_map, List.length_range, List.length_take, List.length_drop, List.all_cons, List.all_nil, AV.isCell, Bool.and_self, Bool.and_true, bs_length, is64_length, w64_length, ints_length, lfs_length, rls_length] <;> omega) | rfl | decide) only [a89l0b, run_seq, run_region, runOps_cons, oper_none, ex_bin, opv, List.getD_cons_succ, List.getD_cons_zero, bin_lss, hlt, decide_true, valK_some, putK_to, List.set_cons_succ, List.set_cons_zero, opsK_some, runOps_nil, regK_some, seqK_normal, run_cond, condK_bool, ↓reduceIte, run_skip, run_block, ex_iaddr, iaddrA_sl, Int.toNat_natCast, Nat.mul_one, ex_load, rd_vptr, ints_drop, ints_take, ints_at0, getD_dropI, Nat.add_zero, loadK_1, ex_mov, List.drop_zero, List.take_succ_cons, List.take_nil, bin_geq, c, ex_bslice, AV.cells, List.all_cons, List.length_cons, List.length_nil, Nat.zero_add, beq_self_eq_true, List.all_nil, Bool.and_self, repz_1, List.append_nil, List.map_cons, List.map_nil, fillA, Nat.le_refl, AV.isCell, and_self, splice, List.take_zero, List.nil_append, List.drop_succ_cons, List.drop_nil, newK_some, newA_data, frzN, List.flatMap_cons, bor_int, List.flatMap_nil, List.isEmpty_nil, List.mapM_cons, frz_int, List.mapM_nil, Option.pure_def, Option.bind_eq_bind, Option.bind_some, slK_some, ex_append, src_sl, appK_nil, Nat.reduceBEq, newA_own, blockK_normal, bin_add, cadd1, wr64, loopK_normal, a89l0c, e1]
      · have hsn : ints w ++ [AV.int .i64 (numM num (l.getD i 0))] = ints (w ++ [numM num (l.getD i 0)]) := ints_snoc ..
        obtain ⟨G', v', e1, e2⟩ := list_loop (zn := zn) (z := z) hl hq d (i + 1) (G.set k Blk.dead ++ [Blk.cells false false (ints (w ++ [numM num (l.getD i 0)]))]) (.own false G.length 0 (w.length + 1) 1) (w ++ [numM num (l.getD i 0)]) (by omega) (by simp; omega) (.inr ⟨G.length, by omega, by simp, by simp⟩)
        refine ⟨G', v', ?_, by simpa using e2⟩
        rw [a89l0n]
        simp (maxSteps := 30000000) (disch := first | assumption | omega | (simp only [List.length_cons, List.length_nil, List.length_append, List.length_set, List.length_replicate, List.length_map, List.length_range, List.length_take, List.length_drop, List.all_cons, List.all_nil, AV.isCell, Bool.and_self, Bool.and_true, bs_length, is64_length, w64_length, ints_length, lfs_length, rls_length] <;> omega) | rfl | decide) only [a89l0b, run_seq, run_region, runOps_cons, oper_none, ex_bin, opv, List.getD_cons_succ, List.getD_cons_zero, bin_lss, hlt, decide_true, valK_some, putK_to, List.set_cons_succ, List.set_cons_zero, opsK_some, runOps_nil, regK_some, seqK_normal, run_cond, condK_bool, ↓reduceIte, run_skip, run_block, ex_iaddr, iaddrA_sl, Int.toNat_natCast, Nat.mul_one, ex_load, rd_vptr, ints_drop, ints_take, ints_at0, getD_dropI, Nat.add_zero, loadK_1, ex_mov, List.drop_zero, List.take_succ_cons, List.take_nil, bin_geq, c, ex_bslice, AV.cells, List.all_cons, List.length_cons, List.length_nil, Nat.zero_add, beq_self_eq_true, List.all_nil, Bool.and_self, repz_1, List.append_nil, List.map_cons, List.map_nil, fillA, Nat.le_refl, AV.isCell, and_self, splice, List.take_zero, List.nil_append, List.drop_succ_cons, List.drop_nil, newK_some, newA_data, frzN, List.flatMap_cons, bor_int, List.flatMap_nil, List.isEmpty_nil, List.mapM_cons, frz_int, List.mapM_nil, Option.pure_def, Option.bind_eq_bind, Option.bind_some, slK_some, ex_append, src_sl, appK_own, hk, appOK_cells, Nat.reduceBEq, List.take_length, hsn, blockK_normal, bin_add, cadd1, wr64, loopK_normal, a89l0c, e1]
    · rw [if_neg c]
      obtain ⟨G', v', e1, e2⟩ := list_loop (zn := zn) (z := z) hl hq d (i + 1) G v w (by omega) (by omega) hO
      refine ⟨G', v', ?_, e2⟩
      rw [a89l0n]
      simp (maxSteps := 30000000) (disch := first | assumption | omega | (simp only [List.length_cons, List.length_nil, List.length_append, List.length_set, List.length_replicate, List.length_map, List.length_range, List.length_take, List.length_drop, List.all_cons, List.all_nil, AV.isCell, Bool.and_self, Bool.and_true, bs_length, is64_length, w64_length, ints_length, lfs_length, rls_length] <;> omega) | rfl | decide) only [a89l0b, run_seq, run_region, runOps_cons, oper_none, ex_bin, opv, List.getD_cons_succ, List.getD_cons_zero, bin_lss, hlt, decide_true, valK_some, putK_to, List.set_cons_succ, List.set_cons_zero, opsK_some, runOps_nil, regK_some, seqK_normal, run_cond, condK_bool, ↓reduceIte, run_skip, run_block, ex_iaddr, iaddrA_sl, Int.toNat_natCast, Nat.mul_one, ex_load, rd_vptr, ints_drop, ints_take, ints_at0, getD_dropI, Nat.add_zero, loadK_1, ex_mov, List.drop_zero, List.take_succ_cons, List.take_nil, bin_geq, c, decide_false, Bool.false_eq_true, blockK_normal, bin_add, cadd1, wr64, loopK_normal, a89l0c, e1]

theorem list89 (num : List Int) (zn z : Bool) (l : List Int) (hl : l.length < 1099511627776) (hq : ∀ q ∈ l, 0 ≤ q ∧ q < (num.length : Nat)) : L.pcall 89 [iw z l, .vptr [iw zn num] 0] = some (iw (mapL num l).isEmpty (mapL num l)) ∨ L.pcall 89 [iw z l, .vptr [iw zn num] 0] = some (iw false (mapL num l)) := by
  obtain ⟨G', v', e1, e2⟩ := list_loop (zn := zn) (z := z) hl hq l.length 0 [] (.sl true 0 []) [] (by omega) (by simp) (.inl ⟨rfl, rfl⟩)
  simp only [Int.natCast_zero, List.drop_zero, List.nil_append] at e1 e2
  have := mapL_len num l
  generalize mapL num l = w at *
  rcases e2 with ⟨rfl, rfl⟩ | ⟨k, k0, rfl, hk⟩
  · left
    rw [a89p, a89, pbodyA_eq]
    simp (maxSteps := 30000000) (disch := first | assumption | omega | (simp only [List.length_cons, List.length_nil, List.length_append, List.length_set, List.length_replicate, List.length_map, List.length_range, List.length_take, List.length_drop, List.all_cons, List.all_nil, AV.isCell, Bool.and_self, Bool.and_true, bs_length, is64_length, w64_length, ints_length, lfs_length, rls_length] <;> omega) | rfl | decide) only [bodyA_eq, List.length_cons, List.length_nil, Nat.zero_add, Nat.reduceAdd, Nat.reduceSub, pads, List.cons_append, List.nil_append, run_seq, run_region, runOps_cons, oper_none, ex_mov, opv, putK_to, List.set_cons_succ, List.set_cons_zero, opsK_some, runOps_nil, regK_some, seqK_normal, List.getD_cons_zero, ex_len, List.getD_cons_succ, lenA_sl, valK_some, run_block, run_loop, a89l0c, e1, blockK_exit, ↓reduceIte, run_ret, bodyK_ret, results_1, res_tmp, retvK_some, pbodyK_some, frzN, frz_sl, List.isEmpty_nil]
    rfl
  · right
    rw [a89p, a89, pbodyA_eq]
    simp (maxSteps := 30000000) (disch := first | assumption | omega | (simp only [List.length_cons, List.length_nil, List.length_append, List.length_set, List.length_replicate, List.length_map, List.length_range, List.length_take, List.length_drop, List.all_cons, List.all_nil, AV.isCell, Bool.and_self, Bool.and_true, bs_length, is64_length, w64_length, ints_length, lfs_length, rls_length] <;> omega) | rfl | decide) only [bodyA_eq, List.length_cons, List.length_nil, Nat.zero_add, Nat.reduceAdd, Nat.reduceSub, pads, List.cons_append, List.nil_append, run_seq, run_region, runOps_cons, oper_none, ex_mov, opv, putK_to, List.set_cons_succ, List.set_cons_zero, opsK_some, runOps_nil, regK_some, seqK_normal, List.getD_cons_zero, ex_len, List.getD_cons_succ, lenA_sl, valK_some, run_block, run_loop, a89l0c, e1, blockK_exit, ↓reduceIte, run_ret, bodyK_ret, results_1, res_tmp, retvK_some, pbodyK_some, frzN, frz_own, hk, frzK_cells, Nat.mul_one, List.drop_zero, ints_take, List.take_length, frz_ints, slK_some]
end Go.Abs.Tree
