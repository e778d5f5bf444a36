/- mapped. -/
import Derived.Test.YtijmhicopfphnaaDoorAL27
namespace Go.Abs.Tree
open Go Go.Abs
set_option linter.unusedSimpArgs false
set_option linter.unusedVariables false

theorem rls_snoc (l : List Rl) (e : Rl) : rls l ++ encR e = rls (l ++ [e]) := rows_app encR l [e]

/-- the state of mapped's loop -/
structure InvM (zn : Bool) (num : List Int) (c0 c1 c2 c3 : AV) (G : Heap) (rv : AV) (w : List Rl) : Prop where
  g1 : G[1]? = some (.cells true false [iw zn num])
  g2 : ∃ cs, G[2]? = some (.cells false false cs) ∧ cs.length = 5
  g3 : G[3]? = some (.cells false false [c0, c1, c2, c3, rv])
  own : (rv = .sl true 0 [] ∧ w = []) ∨ ∃ k, 3 < k ∧ rv = .own false k 0 w.length 5 ∧ G[k]? = some (.cells false false (rls w))

set_option maxRecDepth 20000 in
set_option maxHeartbeats 4000000 in
theorem mapped_loop {num : List Int} {zn z : Bool} {rl : List Rl} {c0 c1 c2 c3 : AV} (hl : rl.length < 1099511627776) (hq : ∀ u ∈ rl, (0 ≤ u.l ∧ u.l < (num.length : Nat)) ∧ (0 ≤ u.r ∧ u.r < (num.length : Nat)) ∧ (0 ≤ u.t ∧ u.t < (num.length : Nat))) : ∀ d i G rv w, i + d = rl.length → w.length ≤ i → InvM zn num c0 c1 c2 c3 G rv w →
    ∃ G' rv', L.loop a58l0s a58l0 ⟨a58l0F (.ptr 1 0) (.ptr 2 0) (.ptr 3 0) (.sl z rl.length (rls rl)) (.int .i64 (rl.length : Nat)) (.int .i64 (i : Nat)), G⟩ =
      some (.exit 0, ⟨a58l0F (.ptr 1 0) (.ptr 2 0) (.ptr 3 0) (.sl z rl.length (rls rl)) (.int .i64 (rl.length : Nat)) (.int .i64 (rl.length : Nat)), G'⟩) ∧ InvM zn num c0 c1 c2 c3 G' rv' (w ++ mapR num (rl.drop i))
  | 0, i, G, rv, w, h, hw, hI => by
    obtain rfl : i = rl.length := by omega
    refine ⟨G, rv, ?_, by rw [List.drop_length, mapR, List.append_nil]; exact hI⟩
    rw [a58l0n]
    simp (maxSteps := 30000000) (disch := first | assumption | omega | (simp only [List.length_cons, List.length_nil, List.length_append, List.length_set, List.length_replicate, List.length_map, List.length_range, List.length_take, List.length_drop, List.all_cons, List.all_nil, AV.isCell, Bool.and_self, Bool.and_true, bs_length, is64_length, w64_length, ints_length, lfs_length, rls_length] <;> omega) | rfl | decide) only [a58l0b, run_seq, run_region, runOps_cons, oper_none, ex_bin, opv, List.getD_cons_succ, List.getD_cons_zero, bin_lss, Int.lt_irrefl, decide_false, valK_some, putK_to, List.set_cons_succ, List.set_cons_zero, opsK_some, runOps_nil, regK_some, seqK_normal, run_cond, condK_bool, Bool.false_eq_true, ↓reduceIte, run_exit, seqK_exit, loopK_exit, a58l0c]
  | d + 1, i, G, rv, w, h, hw, hI => by
    have hlt : (i : Int) < (rl.length : Nat) := by omega
    have hi : i < rl.length := by omega
    obtain ⟨⟨l0, l1⟩, ⟨r0', r1⟩, ⟨t0, t1⟩⟩ := hq _ (getR_mem hi)
    have len3 := (List.getElem?_eq_some_iff.1 hI.g3).1
    have a1 : ∀ X : Heap, (G ++ X)[1]? = some (.cells true false [iw zn num]) := fun X => app_get hI.g1
    have a3 : ∀ X : Heap, (G ++ X)[3]? = some (.cells false false [c0, c1, c2, c3, rv]) := fun X => app_get hI.g3
    have b1 : (1 != G.length) = true := by rw [bne_iff_ne]; omega
    rw [drop_getR hi, mapR]
    by_cases c : 0 ≤ min (min (numM num (rl.getD i r0).l) (numM num (rl.getD i r0).r)) (numM num (rl.getD i r0).t)
    · rw [if_pos c]
      rcases hI.own with ⟨hrv, hww⟩ | ⟨k, k0, hrv, hk⟩
      · subst hww
        obtain ⟨G', rv', e1, e2⟩ := mapped_loop (zn := zn) (z := z) hl hq d (i + 1) ((G ++ [Blk.cells false false (encR (mvR num (rl.getD i r0))), Blk.cells false false (encR (mvR num (rl.getD i r0)))]).set 3 (Blk.cells false false [c0, c1, c2, c3, .own false (G.length + 1) 0 1 5])) (.own false (G.length + 1) 0 1 5) [mvR num (rl.getD i r0)] (by omega) (by simp)
          ⟨by rw [List.getElem?_set_ne (by omega)]; exact a1 _, by
            obtain ⟨cs, h2, h3⟩ := hI.g2
            exact ⟨cs, by rw [List.getElem?_set_ne (by omega)]; exact app_get h2, h3⟩, by rw [List.getElem?_set_self (by simp; omega)], .inr ⟨G.length + 1, by omega, rfl, by rw [List.getElem?_set_ne (by omega)]; simp [rls, rows]⟩⟩
        refine ⟨G', rv', ?_, by simpa using e2⟩
        simp only [encR, mvR, numM] at e1
        rw [a58l0n]
        simp only [hrv] at a3 ⊢
        simp (maxSteps := 30000000) (disch := first | assumption | omega | (simp only [List.length_cons, List.length_nil, List.length_append, List.length_set, List.length_replicate, List.length_map, List.length_range, List.length_take, List.length_drop, List.all_cons, List.all_nil, AV.isCell, Bool.and_self, Bool.and_true, bs_length, is64_length, w64_length, ints_length, lfs_length, rls_length] <;> omega) | rfl | decide) only [a58l0b, run_seq, run_region, runOps_cons, oper_none, ex_bin, opv, List.getD_cons_succ, List.getD_cons_zero, bin_lss, hlt, decide_true, valK_some, putK_to, List.set_cons_succ, List.set_cons_zero, opsK_some, runOps_nil, regK_some, seqK_normal, run_cond, condK_bool, ↓reduceIte, run_skip, run_block, ex_iaddr, iaddrA_sl, Int.toNat_natCast, ex_load, rd_vptr, rls_at, loadK_n, ex_box, AV.cells, List.all_cons, AV.isCell, List.all_nil, Bool.and_self, ex_store, List.length_cons, List.length_nil, Nat.zero_add, Nat.reduceAdd, wr_ptr, hget0, List.getElem?_cons_zero, wrK_cells, splice, List.take_zero, List.nil_append, List.drop_succ_cons, List.drop_nil, List.append_nil, hset0, storeK_some, putK_no, run_drawl, List.take_succ_cons, runFree_cons, foper_none, fe_load, rd_ptr, a1, rdK_cells, List.drop_zero, List.take_nil, loadK_1, fstK_some, fputK_to, freeK_some, fe_faddr, ex_faddr, faddrA_ptr, Nat.add_zero, fe_iaddr, Nat.mul_one, ints_drop, ints_take, ints_at0, getD_dropI, runFree_nil, drawlK_some, adopt, adoptVal, List.cons_append, apartK_some, apart, disj, b1, Nat.reduceLeDiff, decide_false, Bool.or_false, Nat.le_refl, Bool.or_true, ex_mm, List.map_cons, List.map_nil, mmA_min, mmA_nil, bin_geq, c, a3, ex_bslice, beq_self_eq_true, repz_1, Nat.reduceMul, fillA, and_self, newK_some, newA_data, frzN, List.flatMap_cons, bor_int, List.flatMap_nil, List.isEmpty_nil, List.mapM_cons, frz_int, List.mapM_nil, Option.pure_def, Option.bind_eq_bind, Option.bind_some, slK_some, ex_append, src_sl, appK_nil, Nat.reduceBEq, newA_own, List.length_append, List.append_assoc, blockK_normal, bin_add, cadd1, wr64, ex_mov, loopK_normal, a58l0c, e1]
      · have hk' : ∀ X : Heap, (G ++ X)[k]? = some (.cells false false (rls w)) := fun X => app_get hk
        have klt := (List.getElem?_eq_some_iff.1 hk).1
        have htk : List.take (w.length * 5) (rls w) = rls w := List.take_of_length_le (by rw [rls_length]; omega)
        have hsn := rls_snoc w (mvR num (rl.getD i r0))
        obtain ⟨G', rv', e1, e2⟩ := mapped_loop (zn := zn) (z := z) hl hq d (i + 1) (((G ++ [Blk.cells false false (encR (mvR num (rl.getD i r0)))]).set k Blk.dead ++ [Blk.cells false false (rls (w ++ [mvR num (rl.getD i r0)]))]).set 3 (Blk.cells false false [c0, c1, c2, c3, .own false (G.length + 1) 0 (w.length + 1) 5])) (.own false (G.length + 1) 0 (w.length + 1) 5) (w ++ [mvR num (rl.getD i r0)]) (by omega) (by simp; omega)
          ⟨by rw [List.getElem?_set_ne (by omega)]; exact app_get (by rw [List.getElem?_set_ne (by omega)]; exact a1 _), by
            obtain ⟨cs, h2, h3⟩ := hI.g2
            exact ⟨cs, by rw [List.getElem?_set_ne (by omega)]; exact app_get (by rw [List.getElem?_set_ne (by omega)]; exact app_get h2), h3⟩, by rw [List.getElem?_set_self (by simp; omega)], .inr ⟨G.length + 1, by omega, by simp, by rw [List.getElem?_set_ne (by omega)]; simp⟩⟩
        refine ⟨G', rv', ?_, by simpa using e2⟩
        simp only [encR, mvR, numM] at e1 hsn
        rw [a58l0n]
        have a4 : ∀ X Y : Heap, ((G ++ X).set k Blk.dead ++ Y)[3]? = some (.cells false false [c0, c1, c2, c3, rv]) := fun X Y => app_get (by rw [List.getElem?_set_ne (by omega)]; exact a3 X)
        simp only [hrv] at a3 a4 ⊢
        simp (maxSteps := 30000000) (disch := first | assumption | omega | (simp only [List.length_cons, List.length_nil, List.length_append, List.length_set, List.length_replicate, List.length_map, List.length_range, List.length_take, List.length_drop, List.all_cons, List.all_nil, AV.isCell, Bool.and_self, Bool.and_true, bs_length, is64_length, w64_length, ints_length, lfs_length, rls_length] <;> omega) | rfl | decide) only [a58l0b, run_seq, run_region, runOps_cons, oper_none, ex_bin, opv, List.getD_cons_succ, List.getD_cons_zero, bin_lss, hlt, decide_true, valK_some, putK_to, List.set_cons_succ, List.set_cons_zero, opsK_some, runOps_nil, regK_some, seqK_normal, run_cond, condK_bool, ↓reduceIte, run_skip, run_block, ex_iaddr, iaddrA_sl, Int.toNat_natCast, ex_load, rd_vptr, rls_at, loadK_n, ex_box, AV.cells, List.all_cons, AV.isCell, List.all_nil, Bool.and_self, ex_store, List.length_cons, List.length_nil, Nat.zero_add, Nat.reduceAdd, wr_ptr, hget0, List.getElem?_cons_zero, wrK_cells, splice, List.take_zero, List.nil_append, List.drop_succ_cons, List.drop_nil, List.append_nil, hset0, storeK_some, putK_no, run_drawl, List.take_succ_cons, runFree_cons, foper_none, fe_load, rd_ptr, a1, rdK_cells, List.drop_zero, List.take_nil, loadK_1, fstK_some, fputK_to, freeK_some, fe_faddr, ex_faddr, faddrA_ptr, Nat.add_zero, fe_iaddr, Nat.mul_one, ints_drop, ints_take, ints_at0, getD_dropI, runFree_nil, drawlK_some, adopt, adoptVal, List.cons_append, apartK_some, apart, disj, b1, Nat.reduceLeDiff, decide_false, Bool.or_false, Nat.le_refl, Bool.or_true, ex_mm, List.map_cons, List.map_nil, mmA_min, mmA_nil, bin_geq, c, a3, ex_bslice, beq_self_eq_true, repz_1, Nat.reduceMul, fillA, and_self, newK_some, newA_data, frzN, List.flatMap_cons, bor_int, List.flatMap_nil, List.isEmpty_nil, List.mapM_cons, frz_int, List.mapM_nil, Option.pure_def, Option.bind_eq_bind, Option.bind_some, slK_some, ex_append, src_sl, appK_own, hk', appOK_cells, Nat.reduceBEq, List.length_append, htk, hsn, a4, blockK_normal, bin_add, cadd1, wr64, ex_mov, loopK_normal, a58l0c, e1]
    · rw [if_neg c]
      obtain ⟨G', rv', e1, e2⟩ := mapped_loop (zn := zn) (z := z) hl hq d (i + 1) (G ++ [Blk.cells false false (encR (mvR num (rl.getD i r0)))]) rv w (by omega) (by omega) ⟨a1 _, by
            obtain ⟨cs, h2, h3⟩ := hI.g2
            exact ⟨cs, app_get h2, h3⟩, a3 _, by
            rcases hI.own with ⟨h1, h2⟩ | ⟨k, k0, h1, h2⟩
            · exact .inl ⟨h1, h2⟩
            · exact .inr ⟨k, k0, h1, app_get h2⟩⟩
      refine ⟨G', rv', ?_, e2⟩
      simp only [encR, mvR, numM] at e1
      rw [a58l0n]
      simp (maxSteps := 30000000) (disch := first | assumption | omega | (simp only [List.length_cons, List.length_nil, List.length_append, List.length_set, List.length_replicate, List.length_map, List.length_range, List.length_take, List.length_drop, List.all_cons, List.all_nil, AV.isCell, Bool.and_self, Bool.and_true, bs_length, is64_length, w64_length, ints_length, lfs_length, rls_length] <;> omega) | rfl | decide) only [a58l0b, run_seq, run_region, runOps_cons, oper_none, ex_bin, opv, List.getD_cons_succ, List.getD_cons_zero, bin_lss, hlt, decide_true, valK_some, putK_to, List.set_cons_succ, List.set_cons_zero, opsK_some, runOps_nil, regK_some, seqK_normal, run_cond, condK_bool, ↓reduceIte, run_skip, run_block, ex_iaddr, iaddrA_sl, Int.toNat_natCast, ex_load, rd_vptr, rls_at, loadK_n, ex_box, AV.cells, List.all_cons, AV.isCell, List.all_nil, Bool.and_self, ex_store, List.length_cons, List.length_nil, Nat.zero_add, Nat.reduceAdd, wr_ptr, hget0, List.getElem?_cons_zero, wrK_cells, splice, List.take_zero, List.nil_append, List.drop_succ_cons, List.drop_nil, List.append_nil, hset0, storeK_some, putK_no, run_drawl, List.take_succ_cons, runFree_cons, foper_none, fe_load, rd_ptr, a1, rdK_cells, List.drop_zero, List.take_nil, loadK_1, fstK_some, fputK_to, freeK_some, fe_faddr, ex_faddr, faddrA_ptr, Nat.add_zero, fe_iaddr, Nat.mul_one, ints_drop, ints_take, ints_at0, getD_dropI, runFree_nil, drawlK_some, adopt, adoptVal, List.cons_append, apartK_some, apart, disj, b1, Nat.reduceLeDiff, decide_false, Bool.or_false, Nat.le_refl, Bool.or_true, ex_mm, List.map_cons, List.map_nil, mmA_min, mmA_nil, bin_geq, c, Bool.false_eq_true, blockK_normal, bin_add, cadd1, wr64, ex_mov, loopK_normal, a58l0c, e1]

/-- the automaton with the numbers in place of the states -/
abbrev mapA (num : List Int) (n : Aut) (z1 z2 z3 : Bool) : Aut := ⟨n.vars, 0, z1, mapL num n.st, z2, mapL num n.fi, z3, mapR num n.rl⟩

set_option maxHeartbeats 4000000 in
theorem mapped58 (n : Aut) (zn : Bool) (num : List Int) (h1 : n.st.length < 1099511627776) (h2 : n.fi.length < 1099511627776) (h3 : n.rl.length < 1099511627776)
    (q1 : ∀ q ∈ n.st, 0 ≤ q ∧ q < (num.length : Nat)) (q2 : ∀ q ∈ n.fi, 0 ≤ q ∧ q < (num.length : Nat)) (q3 : ∀ u ∈ n.rl, (0 ≤ u.l ∧ u.l < (num.length : Nat)) ∧ (0 ≤ u.r ∧ u.r < (num.length : Nat)) ∧ (0 ≤ u.t ∧ u.t < (num.length : Nat))) :
    ∃ z1 z2 z3, L.pcall 58 [n.av, iw zn num] = some (mapA num n z1 z2 z3).av := by
  have k1 : ∃ z1, L.pcall 89 [iw n.z1 n.st, .vptr [iw zn num] 0] = some (iw z1 (mapL num n.st)) := (list89 num zn n.z1 n.st h1 q1).elim (fun h => ⟨_, h⟩) (fun h => ⟨_, h⟩)
  have k2 : ∃ z1, L.pcall 89 [iw n.z2 n.fi, .vptr [iw zn num] 0] = some (iw z1 (mapL num n.fi)) := (list89 num zn n.z2 n.fi h2 q2).elim (fun h => ⟨_, h⟩) (fun h => ⟨_, h⟩)
  obtain ⟨z1, k1⟩ := k1
  obtain ⟨z2, k2⟩ := k2
  obtain ⟨G', rv', e1, e2⟩ := mapped_loop (zn := zn) (z := n.z3) (c0 := .int .i64 n.vars) (c1 := .int .i64 0) (c2 := iw z1 (mapL num n.st)) (c3 := iw z2 (mapL num n.fi)) h3 q3 n.rl.length 0
    [.cells false false n.cells, .cells true false [iw zn num], .cells false false [.int .i64 0, .int .i64 0, .sl true 0 [], .sl true 0 [], .sl true 0 []], .cells false false [.int .i64 n.vars, .int .i64 0, iw z1 (mapL num n.st), iw z2 (mapL num n.fi), .sl true 0 []]] (.sl true 0 []) [] (by omega) (by simp) ⟨rfl, ⟨_, rfl, rfl⟩, rfl, .inl ⟨rfl, rfl⟩⟩
  simp only [Int.natCast_zero, List.drop_zero, List.nil_append] at e1 e2
  obtain ⟨cs, g2, g2l⟩ := e2.g2
  have g3 := e2.g3
  have hlen := mapR_len num n.rl
  unfold mapA
  generalize mapR num n.rl = w at *
  have g2s : ∀ b : Blk, (G'.set 2 b)[2]? = some b := fun b => List.getElem?_set_self (List.getElem?_eq_some_iff.1 g2).1
  match cs, g2l with
  | [x0, x1, x2, x3, x4], _ =>
    rcases e2.own with ⟨hr, hw⟩ | ⟨k, k3, hr, hk⟩
    · refine ⟨z1, z2, true, ?_⟩
      rw [hr] at g3
      subst hw
      change _ = some (AV.agg [.int .i64 n.vars, .int .i64 0, iw z1 (mapL num n.st), iw z2 (mapL num n.fi), .sl true 0 []])
      rw [a58p, a58, pbodyA_eq]
      simp (maxSteps := 30000000) (disch := first | assumption | omega | (simp only [List.length_cons, List.length_nil, List.length_append, List.length_set, List.length_replicate, List.length_map, List.length_range, List.length_take, List.length_drop, List.all_cons, List.all_nil, AV.isCell, Bool.and_self, Bool.and_true, bs_length, is64_length, w64_length, ints_length, lfs_length, rls_length] <;> omega) | rfl | decide) only [bodyA_eq, List.length_cons, List.length_nil, Nat.zero_add, Nat.reduceAdd, Nat.reduceSub, pads, List.cons_append, List.nil_append, run_seq, run_region, runOps_cons, oper_none, ex_box, AV.cells, opv, List.getD_cons_zero, List.all_cons, AV.isCell, List.all_nil, Bool.and_self, ↓reduceIte, putK_to, List.set_cons_succ, List.set_cons_zero, opsK_some, List.getD_cons_succ, runOps_nil, regK_some, seqK_normal, ex_mkfunc, List.map_cons, List.map_nil, ex_mov, run_fz, fzIds, frzN, List.flatMap_cons, bor_ptr, List.getElem?_cons_succ, List.getElem?_cons_zero, borPK_cells, bor_sl, List.flatMap_nil, List.append_nil, List.foldl_cons, List.modify_cons, Nat.reduceEqDiff, fzBlk, List.foldl_nil, run_draw, List.take_succ_cons, List.take_zero, runFree_cons, foper_none, fe_faddr, ex_faddr, faddrA_ptr, Nat.add_zero, valK_some, fstK_some, fputK_to, freeK_some, fe_load, ex_load, rd_ptr, rdK_cells, List.drop_zero, loadK_1, fe_mov, List.drop_succ_cons, fe_fcall, fquietK_func, pcallA_eq, List.mapM_cons, frz_sl, frz_ptr, ptrK_cells, List.mapM_nil, Option.pure_def, Option.bind_eq_bind, Option.bind_some, Option.map_some, argK_some, k1, retK_some, scal, scal1, Bool.false_eq_true, quietK_some, quietCall, frozenB_eq, frzBK_t, Bool.or_true, k2, fe_build, ex_build, beq_self_eq_true, fillA, Nat.reduceLeDiff, and_self, splice, fe_box, runFree_nil, drawK_some, adopt, adoptVal, putA_to, ex_store, wr_ptr, wrK_cells, List.drop_nil, storeK_some, putK_no, List.take_nil, ex_len, lenA_sl, run_block, run_loop, a58l0c, e1, blockK_exit, g3, loadK_n, g2, run_ret, bodyK_ret, results_1, res_cell, g2s, cellK_some, mkv_n, retvK_some, pbodyK_some, frz_agg, frz_int]
    · refine ⟨z1, z2, false, ?_⟩
      rw [hr] at g3
      have hks : ∀ b : Blk, (G'.set 2 b)[k]? = some (.cells false false (rls w)) := fun b => by rw [List.getElem?_set_ne (by omega)]; exact hk
      have htk : List.take (w.length * 5) (rls w) = rls w := List.take_of_length_le (by rw [rls_length]; omega)
      rw [a58p, a58, pbodyA_eq]
      simp (maxSteps := 30000000) (disch := first | assumption | omega | (simp only [List.length_cons, List.length_nil, List.length_append, List.length_set, List.length_replicate, List.length_map, List.length_range, List.length_take, List.length_drop, List.all_cons, List.all_nil, AV.isCell, Bool.and_self, Bool.and_true, bs_length, is64_length, w64_length, ints_length, lfs_length, rls_length] <;> omega) | rfl | decide) only [bodyA_eq, List.length_cons, List.length_nil, Nat.zero_add, Nat.reduceAdd, Nat.reduceSub, pads, List.cons_append, List.nil_append, run_seq, run_region, runOps_cons, oper_none, ex_box, AV.cells, opv, List.getD_cons_zero, List.all_cons, AV.isCell, List.all_nil, Bool.and_self, ↓reduceIte, putK_to, List.set_cons_succ, List.set_cons_zero, opsK_some, List.getD_cons_succ, runOps_nil, regK_some, seqK_normal, ex_mkfunc, List.map_cons, List.map_nil, ex_mov, run_fz, fzIds, frzN, List.flatMap_cons, bor_ptr, List.getElem?_cons_succ, List.getElem?_cons_zero, borPK_cells, bor_sl, List.flatMap_nil, List.append_nil, List.foldl_cons, List.modify_cons, Nat.reduceEqDiff, fzBlk, List.foldl_nil, run_draw, List.take_succ_cons, List.take_zero, runFree_cons, foper_none, fe_faddr, ex_faddr, faddrA_ptr, Nat.add_zero, valK_some, fstK_some, fputK_to, freeK_some, fe_load, ex_load, rd_ptr, rdK_cells, List.drop_zero, loadK_1, fe_mov, List.drop_succ_cons, fe_fcall, fquietK_func, pcallA_eq, List.mapM_cons, frz_sl, frz_ptr, ptrK_cells, List.mapM_nil, Option.pure_def, Option.bind_eq_bind, Option.bind_some, Option.map_some, argK_some, k1, retK_some, scal, scal1, Bool.false_eq_true, quietK_some, quietCall, frozenB_eq, frzBK_t, Bool.or_true, k2, fe_build, ex_build, beq_self_eq_true, fillA, Nat.reduceLeDiff, and_self, splice, fe_box, runFree_nil, drawK_some, adopt, adoptVal, putA_to, ex_store, wr_ptr, wrK_cells, List.drop_nil, storeK_some, putK_no, List.take_nil, ex_len, lenA_sl, run_block, run_loop, a58l0c, e1, blockK_exit, g3, loadK_n, g2, run_ret, bodyK_ret, results_1, res_cell, g2s, cellK_some, mkv_n, retvK_some, pbodyK_some, frz_agg, frz_int, frz_own, hks, frzK_cells, htk, frz_rls, slK_some]
end Go.Abs.Tree
