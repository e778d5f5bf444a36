/- The reference's Project. -/
import Derived.Test.YthbgkdjnakeagaaAF13
namespace Go.Abs.Lasso
set_option linter.unusedVariables false
set_option linter.unusedSimpArgs false
open Go Go.Abs

/-- two words under way that share no block -/
def Sep (v u : AV) : Prop := ∀ k n n', v = .own false k 0 n 1 → u = .own false k 0 n' 1 → False

theorem BldP.keep {T : Heap} {v : AV} {l : List Nat} (h : BldP T v l) {k n : Nat} (hk : k < T.length) (hs : Sep v (.own false (k + 3) 0 n 1)) (b : Blk) : BldP (T.set k .dead ++ [b]) v l := by
  rcases h with h | ⟨j, rfl, e⟩
  · exact .inl h
  · have hj := (List.getElem?_eq_some_iff.1 e).1
    have hne : k ≠ j := fun e2 => hs (j + 3) _ _ rfl (by rw [e2])
    refine .inr ⟨j, rfl, ?_⟩
    rw [List.getElem?_append_left (by simpa using hj), List.getElem?_set_ne hne, e]

theorem BldP.keep0 {T : Heap} {v : AV} {l : List Nat} (h : BldP T v l) (b : Blk) : BldP (T ++ [b]) v l := by
  rcases h with h | ⟨j, rfl, e⟩
  · exact .inl h
  · have hj := (List.getElem?_eq_some_iff.1 e).1
    refine .inr ⟨j, rfl, ?_⟩
    rw [List.getElem?_append_left hj, e]

theorem BldP.sep {T : Heap} {v : AV} {l : List Nat} (h : BldP T v l) (n : Nat) : Sep v (.own false (T.length + 3) 0 n 1) := by
  intro k a b e1 e2
  rcases h with ⟨rfl, -⟩ | ⟨j, rfl, e⟩
  · cases e1
  · have hj := (List.getElem?_eq_some_iff.1 e).1
    injection e1 with _ a1
    injection e2 with _ a2
    omega

theorem BldP.cell {T : Heap} {v : AV} {l : List Nat} (h : BldP T v l) : v.isCell = true := by
  rcases h with ⟨rfl, -⟩ | ⟨k, rfl, -⟩ <;> rfl

theorem rproj1 {z1 z : Bool} {p q : List Nat} {m : Nat} {b1 : Blk} {v : AV} {P : List Nat} (hm : m < 256) (hqw : ∀ x ∈ q, x < 256) (hq : q.length < 1099511627776) : ∀ t i T u, i + t = q.length → BldP T u (maskL m (q.take i)) → BldP T v P → Sep v u →
    ∃ T' u', L.loop a20l1s a20l1 ⟨a20l1F (.int .u8 (m : Nat)) (.ptr 0 0) (.ptr 1 0) (.ptr 2 0) (.int .i64 (i : Nat)), .cells false false [word z1 p, word z q] :: b1 :: .cells false false [v, u] :: T⟩ =
      some (.exit 2, ⟨a20l1F (.int .u8 (m : Nat)) (.ptr 0 0) (.ptr 1 0) (.ptr 2 0) (.int .i64 (q.length : Nat)), .cells false false [word z1 p, word z q] :: b1 :: .cells false false [v, u'] :: T'⟩) ∧ BldP T' u' (maskL m q) ∧ BldP T' v P
  | 0, i, T, u, h, hB, hV, hS => by
    obtain rfl : i = q.length := by omega
    rw [List.take_length] at hB
    refine ⟨T, u, ?_, hB, hV⟩
    rw [a20l1n]
    simp (maxSteps := 30000000) (disch := first | assumption | omega | (simp only [List.length_cons, List.length_nil, List.length_append, List.length_set, List.length_replicate, List.length_map, List.length_range, List.length_take, List.length_drop, List.all_cons, List.all_nil, AV.isCell, Bool.and_self, Bool.and_true, bs_length, is64_length] <;> omega) | rfl | decide) only [a20l1b, run_seq, run_region, runOps_cons, oper_none, ex_mov, opv, List.getD_cons_succ, List.getD_cons_zero, putK_to, List.set_cons_succ, List.set_cons_zero, opsK_some, ex_faddr, faddrA_ptr, Nat.zero_add, valK_some, ex_load, rd_ptr, List.getElem?_cons_zero, rdK_cells, List.drop_succ_cons, List.drop_zero, List.take_succ_cons, List.take_nil, loadK_1, ex_len, lenA_sl, ex_bin, bin_lss, Int.lt_irrefl, decide_false, runOps_nil, regK_some, seqK_normal, run_cond, condK_bool, Bool.false_eq_true, run_skip, run_exit, if_false, seqK_exit, loopK_exit, a20l1c]
  | t + 1, i, T, u, h, hB, hV, hS => by
    have hi : i < q.length := by omega
    have c : ((i : Nat) : Int) < ((q.length : Nat) : Int) := by omega
    have hsn := maskL_take (m := m) hi
    have hand := and8 (getD_lt hqw i) hm
    have hlen : (maskL m (q.take i)).length = i := by rw [maskL_length, List.length_take]; omega
    have hlen1 : (maskL m (q.take (i + 1))).length = i + 1 := by rw [maskL_length, List.length_take]; omega
    have hcell := hV.cell
    rcases hB with ⟨rfl, e1⟩ | ⟨k, rfl, e1⟩
    · have hi0 : i = 0 := by rw [← hlen, e1]; rfl
      subst hi0
      obtain ⟨T', u', h1, h2, h3⟩ := rproj1 (z1 := z1) (z := z) (p := p) (b1 := b1) (v := v) (P := P) hm hqw hq t 1 (T ++ [.cells false false (bs (maskL m (q.take 1)))]) (.own false (T.length + 3) 0 1 1) (by omega) (.inr ⟨T.length, by rw [hlen1], by simp⟩) (hV.keep0 _) (hV.sep _)
      refine ⟨T', u', ?_, h2, h3⟩
      have hb : bs (maskL m (q.take 1)) = [AV.int .u8 ((q.getD 0 0 &&& m : Nat) : Int)] := by rw [← hsn]; rfl
      rw [hb] at h1
      simp only [Int.natCast_zero, Int.natCast_one] at h1 c ⊢
      rw [a20l1n]
      simp (maxSteps := 30000000) (disch := first | assumption | omega | (simp only [List.length_cons, List.length_nil, List.length_append, List.length_set, List.length_replicate, List.length_map, List.length_range, List.length_take, List.length_drop, List.all_cons, List.all_nil, AV.isCell, Bool.and_self, Bool.and_true, bs_length, is64_length] <;> omega) | rfl | decide) only [a20l1b, run_seq, run_region, runOps_cons, oper_none, ex_mov, opv, List.getD_cons_succ, List.getD_cons_zero, putK_to, List.set_cons_succ, List.set_cons_zero, opsK_some, ex_faddr, faddrA_ptr, Nat.zero_add, valK_some, ex_load, rd_ptr, List.getElem?_cons_zero, rdK_cells, List.drop_succ_cons, List.drop_zero, List.take_succ_cons, List.take_nil, loadK_1, ex_len, lenA_sl, ex_bin, bin_lss, c, decide_true, runOps_nil, regK_some, seqK_normal, run_cond, condK_bool, run_skip, run_exit, if_true, run_block, run_draw, List.take_zero, runFree_cons, foper_none, fe_faddr, fstK_some, fputK_to, freeK_some, fe_load, List.getElem?_cons_succ, fe_mov, fe_iaddr, ex_iaddr, iaddrA_sl, Int.toNat_zero, Nat.mul_one, rd_vptr, bs_take, bs_at0, fe_bin, bin_and, hand, fe_bslice, ex_bslice, AV.cells, List.all_cons, List.length_cons, List.length_nil, beq_self_eq_true, List.all_nil, Bool.and_self, repz_1, List.append_nil, List.map_cons, List.map_nil, fillA, Nat.le_refl, AV.isCell, and_self, splice, List.nil_append, List.drop_nil, newK_some, newA_data, frzN, List.flatMap_cons, bor_int, List.flatMap_nil, List.isEmpty_nil, List.mapM_cons, frz_int, List.mapM_nil, Option.pure_def, Option.bind_eq_bind, Option.bind_some, slK_some, runFree_nil, drawK_some, adopt, adoptVal, ex_append, src_sl, appK_nil, Nat.reduceBEq, newA_own, List.cons_append, ex_store, wr_ptr, wrK_cells, Nat.reduceAdd, storeK_some, putK_no, blockK_normal, bin_add, Int.zero_add, wr64, loopK_normal, a20l1c, h1]
    · have hk := (List.getElem?_eq_some_iff.1 e1).1
      rw [hlen] at hS ⊢
      obtain ⟨T', u', h1, h2, h3⟩ := rproj1 (z1 := z1) (z := z) (p := p) (b1 := b1) (v := v) (P := P) hm hqw hq t (i + 1) (T.set k .dead ++ [.cells false false (bs (maskL m (q.take (i + 1))))]) (.own false (T.length + 3) 0 (i + 1) 1) (by omega) (.inr ⟨T.length, by rw [hlen1], by simp⟩) (hV.keep hk hS _) (hV.sep _)
      refine ⟨T', u', ?_, h2, h3⟩
      have hb : bs (maskL m (q.take i)) ++ [AV.int .u8 ((q.getD i 0 &&& m : Nat) : Int)] = bs (maskL m (q.take (i + 1))) := by rw [← hsn]; simp [bs]
      have hcut : List.take i (bs (maskL m (q.take i))) = bs (maskL m (q.take i)) := List.take_of_length_le (by rw [bs_length, hlen]; exact Nat.le_refl _)
      have hbl : (bs (maskL m (q.take i))).length = i := by rw [bs_length, hlen]
      rw [a20l1n]
      simp (maxSteps := 30000000) (disch := first | assumption | omega | (simp only [List.length_cons, List.length_nil, List.length_append, List.length_set, List.length_replicate, List.length_map, List.length_range, List.length_take, List.length_drop, List.all_cons, List.all_nil, AV.isCell, Bool.and_self, Bool.and_true, bs_length, is64_length] <;> omega) | rfl | decide) only [a20l1b, run_seq, run_region, runOps_cons, oper_none, ex_mov, opv, List.getD_cons_succ, List.getD_cons_zero, putK_to, List.set_cons_succ, List.set_cons_zero, opsK_some, ex_faddr, faddrA_ptr, Nat.zero_add, valK_some, ex_load, rd_ptr, List.getElem?_cons_zero, rdK_cells, List.drop_succ_cons, List.drop_zero, List.take_succ_cons, List.take_nil, loadK_1, ex_len, lenA_sl, ex_bin, bin_lss, c, decide_true, runOps_nil, regK_some, seqK_normal, run_cond, condK_bool, run_skip, run_exit, if_true, run_block, run_draw, List.take_zero, runFree_cons, foper_none, fe_faddr, fstK_some, fputK_to, freeK_some, fe_load, List.getElem?_cons_succ, fe_mov, fe_iaddr, ex_iaddr, iaddrA_sl, Int.toNat_natCast, Nat.mul_one, rd_vptr, bs_drop, bs_take, bs_at0, drop_getD, Nat.add_zero, fe_bin, bin_and, hand, fe_bslice, ex_bslice, AV.cells, List.all_cons, List.length_cons, List.length_nil, beq_self_eq_true, List.all_nil, Bool.and_self, repz_1, List.append_nil, List.map_cons, List.map_nil, fillA, Nat.le_refl, AV.isCell, and_self, splice, List.nil_append, List.drop_nil, newK_some, newA_data, frzN, List.flatMap_cons, bor_int, List.flatMap_nil, List.isEmpty_nil, List.mapM_cons, frz_int, List.mapM_nil, Option.pure_def, Option.bind_eq_bind, Option.bind_some, slK_some, runFree_nil, drawK_some, adopt, adoptVal, ex_append, src_sl, appK_own, e1, appOK_cells, Nat.reduceBEq, hcut, hb, List.cons_append, ex_store, wr_ptr, wrK_cells, Nat.reduceAdd, storeK_some, putK_no, blockK_normal, bin_add, cadd1, wr64, loopK_normal, a20l1c, h1]

set_option maxHeartbeats 4000000 in
theorem rproject_eq {z1 z2 : Bool} {p q : List Nat} {m : Nat} (hm : m < 256) (hpw : ∀ x ∈ p, x < 256) (hqw : ∀ x ∈ q, x < 256) (hp : p.length < 134217728) (hq : q.length < 134217728) :
    RefRes 20 [las z1 z2 p q, .int .u8 (m : Nat)] (seqM (maskL m p) (maskL m (fullM q))) := by
  obtain ⟨z, hfull⟩ := rfull_eq z1 z2 p q
  have hfl := fullM_len q
  have hfp := fullM_pos q
  have hfq : ∀ x ∈ fullM q, x < 256 := by
    unfold fullM
    split
    · simp
    · exact hqw
  obtain ⟨T1, v, e0, e1, e2⟩ := rproj0 (z1 := z1) (z := z) (q := fullM q) (b1 := .cells false false [.sl true 0 [], .sl true 0 []]) (u := .sl true 0 []) hm hpw (by omega) rfl p.length 0 [] (.sl true 0 []) (by omega) (.inl ⟨rfl, rfl⟩)
  obtain ⟨T2, u, k1, k2, k3⟩ := rproj1 (z1 := z1) (z := z) (p := p) (b1 := .cells false false [.sl true 0 [], .sl true 0 []]) (v := v) (P := maskL m p) hm hfq (by omega) (fullM q).length 0 T1 (.sl true 0 []) (by omega) (.inl ⟨rfl, rfl⟩) e2 (fun _ _ _ _ h => by cases h)
  simp only [Int.natCast_zero] at e1 k1
  have l1 := maskL_length m p
  have l2 := maskL_length m (fullM q)
  have tk1 : List.take p.length (maskL m p) = maskL m p := List.take_of_length_le (by omega)
  have tk2 : List.take (fullM q).length (maskL m (fullM q)) = maskL m (fullM q) := List.take_of_length_le (by omega)
  have h0 := fun zc => rcanon_eq zc false (maskL m p) (maskL m (fullM q)) (by omega) (by omega)
  rcases k2 with ⟨-, h⟩ | ⟨j, rfl, f1⟩
  · rw [h] at l2; simp at l2; omega
  rw [l2] at k1
  have m1 : ∀ j, (j + 3 - 1 = 0) = False := fun j => eq_false (by omega)
  have m2 : ∀ j, (j + 3 - 1 - 1 = 0) = False := fun j => eq_false (by omega)
  have m3 : ∀ j, j + 3 - 1 - 1 - 1 = j := fun j => by omega
  rcases k3 with ⟨rfl, h⟩ | ⟨i, rfl, f2⟩
  · obtain ⟨z', p', q', h1, h2⟩ := h0 true
    rw [h] at h2
    have c1 : L.pcall 17 [.agg [.sl true 0 [], .sl false (fullM q).length (bs (maskL m (fullM q)))]] = some (las z' false p' q') := by
      rw [sl_word l2]; exact h2
    refine ⟨z', p', q', h1, ?_⟩
    rw [a20p, a20, pbodyA_eq]
    simp (maxSteps := 30000000) (disch := first | assumption | omega | (simp only [List.length_cons, List.length_nil, List.length_append, List.length_set, List.length_replicate, List.length_map, List.length_range, List.length_take, List.length_drop, List.all_cons, List.all_nil, AV.isCell, Bool.and_self, Bool.and_true, bs_length, is64_length] <;> omega) | rfl | decide) only [bodyA_eq, List.length_cons, List.length_nil, Nat.zero_add, Nat.reduceAdd, Nat.reduceSub, pads, List.cons_append, List.nil_append, run_seq, run_region, runOps_cons, oper_none, ex_box, AV.cells, opv, List.getD_cons_zero, List.all_cons, AV.isCell, List.all_nil, Bool.and_self, if_true, putK_to, List.set_cons_succ, List.set_cons_zero, opsK_some, runOps_nil, regK_some, seqK_normal, ex_load, List.getD_cons_succ, rd_ptr, List.getElem?_cons_zero, rdK_cells, List.drop_zero, List.take_succ_cons, List.take_nil, loadK_n, valK_some, ex_call, List.map_cons, List.map_nil, pcallA_eq, frzN, List.mapM_cons, frz_agg, frz_sl, List.mapM_nil, Option.pure_def, Option.bind_eq_bind, Option.bind_some, Option.map_some, argK_some, hfull, retK_some, scal, scal1, Bool.and_true, Bool.false_eq_true, fzIds, List.flatMap_cons, bor_agg, bor_sl, List.flatMap_nil, List.append_nil, List.foldl_nil, ite_self, ex_store, wr_ptr, wrK_cells, splice, List.take_zero, List.drop_succ_cons, List.drop_nil, storeK_some, putK_no, ex_mov, run_block, run_loop, a20l0c, e1, blockK_exit, a20l1c, k1, List.getElem?_cons_succ, frz_own, f1, frzK_cells, Nat.mul_one, bs_take, tk2, frz_bs, slK_some, c1, bor_own, borK_cells, bor_bs, List.foldl_cons, List.modify_cons, Nat.reduceEqDiff, fzBlk, m1, m2, m3, if_false, run_ret, bodyK_ret, results_1, res_cell, cellK_some, mkv_n, retvK_some, pbodyK_some]
  · obtain ⟨z', p', q', h1, h2⟩ := h0 false
    rw [l1] at e1 k1
    have c1 : L.pcall 17 [.agg [.sl false p.length (bs (maskL m p)), .sl false (fullM q).length (bs (maskL m (fullM q)))]] = some (las z' false p' q') := by
      rw [sl_word l2, sl_word l1]; exact h2
    refine ⟨z', p', q', h1, ?_⟩
    rw [a20p, a20, pbodyA_eq]
    simp (maxSteps := 30000000) (disch := first | assumption | omega | (simp only [List.length_cons, List.length_nil, List.length_append, List.length_set, List.length_replicate, List.length_map, List.length_range, List.length_take, List.length_drop, List.all_cons, List.all_nil, AV.isCell, Bool.and_self, Bool.and_true, bs_length, is64_length] <;> omega) | rfl | decide) only [bodyA_eq, List.length_cons, List.length_nil, Nat.zero_add, Nat.reduceAdd, Nat.reduceSub, pads, List.cons_append, List.nil_append, run_seq, run_region, runOps_cons, oper_none, ex_box, AV.cells, opv, List.getD_cons_zero, List.all_cons, AV.isCell, List.all_nil, Bool.and_self, if_true, putK_to, List.set_cons_succ, List.set_cons_zero, opsK_some, runOps_nil, regK_some, seqK_normal, ex_load, List.getD_cons_succ, rd_ptr, List.getElem?_cons_zero, rdK_cells, List.drop_zero, List.take_succ_cons, List.take_nil, loadK_n, valK_some, ex_call, List.map_cons, List.map_nil, pcallA_eq, frzN, List.mapM_cons, frz_agg, frz_sl, List.mapM_nil, Option.pure_def, Option.bind_eq_bind, Option.bind_some, Option.map_some, argK_some, hfull, retK_some, scal, scal1, Bool.and_true, Bool.false_eq_true, fzIds, List.flatMap_cons, bor_agg, bor_sl, List.flatMap_nil, List.append_nil, List.foldl_nil, ite_self, ex_store, wr_ptr, wrK_cells, splice, List.take_zero, List.drop_succ_cons, List.drop_nil, storeK_some, putK_no, ex_mov, run_block, run_loop, a20l0c, e1, blockK_exit, a20l1c, k1, List.getElem?_cons_succ, frz_own, f2, frzK_cells, Nat.mul_one, bs_take, tk1, frz_bs, slK_some, f1, tk2, c1, bor_own, borK_cells, bor_bs, List.foldl_cons, List.modify_cons, Nat.reduceEqDiff, fzBlk, m1, m2, m3, if_false, run_ret, bodyK_ret, results_1, res_cell, cellK_some, mkv_n, retvK_some, pbodyK_some]
end Go.Abs.Lasso
