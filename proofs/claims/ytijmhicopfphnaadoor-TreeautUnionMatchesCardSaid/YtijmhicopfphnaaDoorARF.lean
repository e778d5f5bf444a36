/- The reference's Union: its loops over the states. -/
import Derived.Test.YtijmhicopfphnaaDoorAR1
import Derived.Test.YtijmhicopfphnaaDoorAL29
import Derived.Test.YtijmhicopfphnaaDoorALC
namespace Go.Abs.Tree
open Go Go.Abs
set_option linter.unusedSimpArgs false
set_option linter.unusedVariables false

structure InvR (x y : Aut) (G : Heap) (c : List AV) : Prop where
  g0 : G[0]? = some (.cells false false x.cells)
  g1 : G[1]? = some (.cells false false y.cells)
  g3 : G[6]? = some (.cells false false c)

theorem ref_loop0 {x y : Aut} {sa : Nat} {c0 c1 c3 c4 : AV} (hs : x.states = (sa : Nat)) (hsa : sa ≤ 64) (hl : y.st.length < 1099511627776) (hb : ∀ q ∈ y.st, 0 ≤ q ∧ q < 64) : ∀ d i G z k w, i + d = y.st.length → w.length < 1099511627776 + i → InvR x y G [c0, c1, .own z k 0 w.length 1, c3, c4] → 2 < k ∧ k ≠ 6 → G[k]? = some (.cells false z (ints w)) →
    ∃ G' z' k', L.loop a31l0s a31l0 ⟨a31l0F (.ptr 0 0) (.ptr 1 0) (.ptr 2 0) (.ptr 6 0) (.int .i64 (i : Nat)), G⟩ = some (.exit 0, ⟨a31l0F (.ptr 0 0) (.ptr 1 0) (.ptr 2 0) (.ptr 6 0) (.int .i64 (y.st.length : Nat)), G'⟩) ∧
      InvR x y G' [c0, c1, .own z' k' 0 (w ++ (y.st.drop i).map fun q => (sa : Int) + q).length 1, c3, c4] ∧ (2 < k' ∧ k' ≠ 6) ∧ (k' = k ∨ G.length ≤ k') ∧ G'[k']? = some (.cells false z' (ints (w ++ (y.st.drop i).map fun q => (sa : Int) + q))) ∧ (∀ b, b < G.length → b ≠ 6 → b ≠ k → G'[b]? = G[b]?) ∧ G.length ≤ G'.length := by
  intro d
  induction d with
  | zero =>
    intro i G z k w h hw hI hk3 hk
    obtain rfl : i = y.st.length := by omega
    have h1 := hI.g1
    refine ⟨G, z, k, ?_, by rw [List.drop_length, List.map_nil, List.append_nil]; exact hI, hk3, .inl rfl, by rw [List.drop_length, List.map_nil, List.append_nil]; exact hk, fun _ _ _ _ => rfl, Nat.le_refl _⟩
    rw [a31l0n]
    simp (maxSteps := 30000000) (disch := first | assumption | omega | (simp only [List.length_cons, List.length_nil, List.length_append, List.length_set, List.length_replicate, List.length_map, List.length_range, List.length_take, List.length_drop, List.all_cons, List.all_nil, AV.isCell, Bool.and_self, Bool.and_true, bs_length, is64_length, w64_length, ints_length, rls_length] <;> omega) | rfl | decide) only [a31l0b, run_seq, run_region, runOps_cons, oper_none, ex_mov, opv, List.getD_cons_succ, List.getD_cons_zero, putK_to, List.set_cons_succ, List.set_cons_zero, opsK_some, ex_faddr, faddrA_ptr, Nat.zero_add, valK_some, ex_load, rd_ptr, h1, rdK_cells, List.drop_succ_cons, List.drop_zero, List.take_succ_cons, List.take_zero, loadK_1, ex_len, lenA_sl, ex_bin, bin_lss, Int.lt_irrefl, decide_false, runOps_nil, regK_some, seqK_normal, run_cond, condK_bool, Bool.false_eq_true, ↓reduceIte, run_exit, seqK_exit, loopK_exit, a31l0c]
  | succ d IH =>
    intro i G z k w h hw hI hk3 hk
    have hlt : (i : Int) < (y.st.length : Nat) := by omega
    have h0 := hI.g0
    have h1 := hI.g1
    have h3 := hI.g3
    have len3 := (List.getElem?_eq_some_iff.1 h3).1
    have lenk := (List.getElem?_eq_some_iff.1 hk).1
    have hq := hb (y.st.getD i 0) (by
      rw [List.getD_eq_getElem?_getD, List.getElem?_eq_getElem (by omega : i < y.st.length)]
      exact List.getElem_mem _)
    have htk : List.take w.length w = w := List.take_length
    have hsn : ints w ++ [AV.int .i64 (y.st.getD i 0 + (sa : Nat))] = ints (w ++ [(sa : Int) + y.st.getD i 0]) := by
      rw [Int.add_comm]; exact ints_snoc ..
    have ga : ∀ b X, b ≠ k → b < G.length → (G.set k Blk.dead ++ X)[b]? = G[b]? := fun b X hb hl => by
      rw [List.getElem?_append_left (by rw [List.length_set]; exact hl), List.getElem?_set_ne (fun h => hb h.symm)]
    have g3 : ∀ X, (G.set k Blk.dead ++ X)[6]? = some (.cells false false [c0, c1, .own z k 0 w.length 1, c3, c4]) := fun X => by rw [ga 6 X (by omega) len3]; exact h3
    have hset : ∀ X b (B : Blk), b ≠ 6 → b ≠ k → b < G.length → ((G.set k Blk.dead ++ X).set 6 B)[b]? = G[b]? := fun X b B n3 nk hl => by
      rw [List.getElem?_set_ne (fun h => n3 h.symm), ga b X nk hl]
    have lenn : ∀ (X : Heap) (B : Blk), ((G.set k Blk.dead ++ X).set 6 B).length = G.length + X.length := fun X B => by simp
    obtain ⟨G', z', k', e1, e2, e3, e4, e5, e6, e7⟩ := IH (i + 1) ((G.set k Blk.dead ++ [Blk.cells false false (ints (w ++ [(sa : Int) + y.st.getD i 0]))]).set 6 (Blk.cells false false [c0, c1, .own false G.length 0 (w.length + 1) 1, c3, c4])) false G.length (w ++ [(sa : Int) + y.st.getD i 0]) (by omega) (by simp; omega)
      ⟨by rw [hset _ 0 _ (by omega) (by omega) (by omega)]; exact h0, by rw [hset _ 1 _ (by omega) (by omega) (by omega)]; exact h1, by
        rw [List.getElem?_set_self (by simp; omega)]; simp⟩ (by omega) (by rw [List.getElem?_set_ne (by omega)]; simp)
    rw [lenn] at e4 e6 e7
    rw [drop_getI (by omega : i < y.st.length), List.map_cons]
    have eapp : w ++ ((sa : Int) + y.st.getD i 0) :: (y.st.drop (i + 1)).map (fun q => (sa : Int) + q) = w ++ [(sa : Int) + y.st.getD i 0] ++ (y.st.drop (i + 1)).map (fun q => (sa : Int) + q) := by simp
    rw [eapp]
    refine ⟨G', z', k', ?_, e2, e3, .inr (by simp only [List.length_cons, List.length_nil] at e4; omega), e5, fun b b1 b2 b3 => ?_, by simp at e7; omega⟩
    · rw [a31l0n]
      simp (maxSteps := 30000000) (disch := first | assumption | omega | (simp only [List.length_cons, List.length_nil, List.length_append, List.length_set, List.length_replicate, List.length_map, List.length_range, List.length_take, List.length_drop, List.all_cons, List.all_nil, AV.isCell, Bool.and_self, Bool.and_true, bs_length, is64_length, w64_length, ints_length, rls_length] <;> omega) | rfl | decide) only [a31l0b, run_seq, run_region, runOps_cons, oper_none, ex_mov, opv, List.getD_cons_succ, List.getD_cons_zero, putK_to, List.set_cons_succ, List.set_cons_zero, opsK_some, ex_faddr, faddrA_ptr, Nat.zero_add, valK_some, ex_load, rd_ptr, h1, rdK_cells, List.drop_succ_cons, List.drop_zero, List.take_succ_cons, List.take_zero, loadK_1, ex_len, lenA_sl, ex_bin, bin_lss, hlt, decide_true, runOps_nil, regK_some, seqK_normal, run_cond, condK_bool, ↓reduceIte, run_skip, run_block, run_draw, runFree_cons, foper_none, fe_faddr, fstK_some, fputK_to, freeK_some, fe_load, h3, fe_mov, fe_iaddr, ex_iaddr, iaddrA_sl, Int.toNat_natCast, Nat.mul_one, rd_vptr, ints_drop, ints_take, ints_at0, getD_dropI, Nat.add_zero, runFree_nil, drawK_some, adopt, adoptVal, h0, hs, bin_add, wr64, ex_bslice, AV.cells, List.all_cons, List.length_cons, List.length_nil, beq_self_eq_true, List.all_nil, Bool.and_self, repz_1, List.append_nil, List.map_cons, List.map_nil, fillA, Nat.le_refl, AV.isCell, and_self, splice, List.nil_append, List.drop_nil, newK_some, newA_data, frzN, List.flatMap_cons, bor_int, List.flatMap_nil, List.isEmpty_nil, List.mapM_cons, frz_int, List.mapM_nil, Option.pure_def, Option.bind_eq_bind, Option.bind_some, slK_some, ex_append, src_sl, appK_own, hk, appOK_cells, Nat.reduceBEq, Bool.and_false, htk, hsn, ex_store, wr_ptr, g3, wrK_cells, List.cons_append, Nat.reduceAdd, storeK_some, putK_no, blockK_normal, cadd1, loopK_normal, a31l0c, e1]
    · rw [e6 b (by simp; omega) b2 (by omega), hset _ b _ b2 b3 b1]

theorem ref_loop1 {x y : Aut} {sa : Nat} {c0 c1 c3 c4 : AV} (hs : x.states = (sa : Nat)) (hsa : sa ≤ 64) (hl : y.fi.length < 1099511627776) (hb : ∀ q ∈ y.fi, 0 ≤ q ∧ q < 64) : ∀ d i G z k w, i + d = y.fi.length → w.length < 1099511627776 + i → InvR x y G [c0, c1, c3, .own z k 0 w.length 1, c4] → 2 < k ∧ k ≠ 6 → G[k]? = some (.cells false z (ints w)) →
    ∃ G' z' k', L.loop a31l1s a31l1 ⟨a31l1F (.ptr 0 0) (.ptr 1 0) (.ptr 2 0) (.ptr 6 0) (.int .i64 (i : Nat)), G⟩ = some (.exit 2, ⟨a31l1F (.ptr 0 0) (.ptr 1 0) (.ptr 2 0) (.ptr 6 0) (.int .i64 (y.fi.length : Nat)), G'⟩) ∧
      InvR x y G' [c0, c1, c3, .own z' k' 0 (w ++ (y.fi.drop i).map fun q => (sa : Int) + q).length 1, c4] ∧ (2 < k' ∧ k' ≠ 6) ∧ (k' = k ∨ G.length ≤ k') ∧ G'[k']? = some (.cells false z' (ints (w ++ (y.fi.drop i).map fun q => (sa : Int) + q))) ∧ (∀ b, b < G.length → b ≠ 6 → b ≠ k → G'[b]? = G[b]?) ∧ G.length ≤ G'.length := by
  intro d
  induction d with
  | zero =>
    intro i G z k w h hw hI hk3 hk
    obtain rfl : i = y.fi.length := by omega
    have h1 := hI.g1
    refine ⟨G, z, k, ?_, by rw [List.drop_length, List.map_nil, List.append_nil]; exact hI, hk3, .inl rfl, by rw [List.drop_length, List.map_nil, List.append_nil]; exact hk, fun _ _ _ _ => rfl, Nat.le_refl _⟩
    rw [a31l1n]
    simp (maxSteps := 30000000) (disch := first | assumption | omega | (simp only [List.length_cons, List.length_nil, List.length_append, List.length_set, List.length_replicate, List.length_map, List.length_range, List.length_take, List.length_drop, List.all_cons, List.all_nil, AV.isCell, Bool.and_self, Bool.and_true, bs_length, is64_length, w64_length, ints_length, rls_length] <;> omega) | rfl | decide) only [a31l1b, run_seq, run_region, runOps_cons, oper_none, ex_mov, opv, List.getD_cons_succ, List.getD_cons_zero, putK_to, List.set_cons_succ, List.set_cons_zero, opsK_some, ex_faddr, faddrA_ptr, Nat.zero_add, valK_some, ex_load, rd_ptr, h1, rdK_cells, List.drop_succ_cons, List.drop_zero, List.take_succ_cons, List.take_zero, loadK_1, ex_len, lenA_sl, ex_bin, bin_lss, Int.lt_irrefl, decide_false, runOps_nil, regK_some, seqK_normal, run_cond, condK_bool, Bool.false_eq_true, ↓reduceIte, run_exit, seqK_exit, loopK_exit, a31l1c]
  | succ d IH =>
    intro i G z k w h hw hI hk3 hk
    have hlt : (i : Int) < (y.fi.length : Nat) := by omega
    have h0 := hI.g0
    have h1 := hI.g1
    have h3 := hI.g3
    have len3 := (List.getElem?_eq_some_iff.1 h3).1
    have lenk := (List.getElem?_eq_some_iff.1 hk).1
    have hq := hb (y.fi.getD i 0) (by
      rw [List.getD_eq_getElem?_getD, List.getElem?_eq_getElem (by omega : i < y.fi.length)]
      exact List.getElem_mem _)
    have htk : List.take w.length w = w := List.take_length
    have hsn : ints w ++ [AV.int .i64 (y.fi.getD i 0 + (sa : Nat))] = ints (w ++ [(sa : Int) + y.fi.getD i 0]) := by
      rw [Int.add_comm]; exact ints_snoc ..
    have ga : ∀ b X, b ≠ k → b < G.length → (G.set k Blk.dead ++ X)[b]? = G[b]? := fun b X hb hl => by
      rw [List.getElem?_append_left (by rw [List.length_set]; exact hl), List.getElem?_set_ne (fun h => hb h.symm)]
    have g3 : ∀ X, (G.set k Blk.dead ++ X)[6]? = some (.cells false false [c0, c1, c3, .own z k 0 w.length 1, c4]) := fun X => by rw [ga 6 X (by omega) len3]; exact h3
    have hset : ∀ X b (B : Blk), b ≠ 6 → b ≠ k → b < G.length → ((G.set k Blk.dead ++ X).set 6 B)[b]? = G[b]? := fun X b B n3 nk hl => by
      rw [List.getElem?_set_ne (fun h => n3 h.symm), ga b X nk hl]
    have lenn : ∀ (X : Heap) (B : Blk), ((G.set k Blk.dead ++ X).set 6 B).length = G.length + X.length := fun X B => by simp
    obtain ⟨G', z', k', e1, e2, e3, e4, e5, e6, e7⟩ := IH (i + 1) ((G.set k Blk.dead ++ [Blk.cells false false (ints (w ++ [(sa : Int) + y.fi.getD i 0]))]).set 6 (Blk.cells false false [c0, c1, c3, .own false G.length 0 (w.length + 1) 1, c4])) false G.length (w ++ [(sa : Int) + y.fi.getD i 0]) (by omega) (by simp; omega)
      ⟨by rw [hset _ 0 _ (by omega) (by omega) (by omega)]; exact h0, by rw [hset _ 1 _ (by omega) (by omega) (by omega)]; exact h1, by
        rw [List.getElem?_set_self (by simp; omega)]; simp⟩ (by omega) (by rw [List.getElem?_set_ne (by omega)]; simp)
    rw [lenn] at e4 e6 e7
    rw [drop_getI (by omega : i < y.fi.length), List.map_cons]
    have eapp : w ++ ((sa : Int) + y.fi.getD i 0) :: (y.fi.drop (i + 1)).map (fun q => (sa : Int) + q) = w ++ [(sa : Int) + y.fi.getD i 0] ++ (y.fi.drop (i + 1)).map (fun q => (sa : Int) + q) := by simp
    rw [eapp]
    refine ⟨G', z', k', ?_, e2, e3, .inr (by simp only [List.length_cons, List.length_nil] at e4; omega), e5, fun b b1 b2 b3 => ?_, by simp at e7; omega⟩
    · rw [a31l1n]
      simp (maxSteps := 30000000) (disch := first | assumption | omega | (simp only [List.length_cons, List.length_nil, List.length_append, List.length_set, List.length_replicate, List.length_map, List.length_range, List.length_take, List.length_drop, List.all_cons, List.all_nil, AV.isCell, Bool.and_self, Bool.and_true, bs_length, is64_length, w64_length, ints_length, rls_length] <;> omega) | rfl | decide) only [a31l1b, run_seq, run_region, runOps_cons, oper_none, ex_mov, opv, List.getD_cons_succ, List.getD_cons_zero, putK_to, List.set_cons_succ, List.set_cons_zero, opsK_some, ex_faddr, faddrA_ptr, Nat.zero_add, valK_some, ex_load, rd_ptr, h1, rdK_cells, List.drop_succ_cons, List.drop_zero, List.take_succ_cons, List.take_zero, loadK_1, ex_len, lenA_sl, ex_bin, bin_lss, hlt, decide_true, runOps_nil, regK_some, seqK_normal, run_cond, condK_bool, ↓reduceIte, run_skip, run_block, run_draw, runFree_cons, foper_none, fe_faddr, fstK_some, fputK_to, freeK_some, fe_load, h3, fe_mov, fe_iaddr, ex_iaddr, iaddrA_sl, Int.toNat_natCast, Nat.mul_one, rd_vptr, ints_drop, ints_take, ints_at0, getD_dropI, Nat.add_zero, runFree_nil, drawK_some, adopt, adoptVal, h0, hs, bin_add, wr64, ex_bslice, AV.cells, List.all_cons, List.length_cons, List.length_nil, beq_self_eq_true, List.all_nil, Bool.and_self, repz_1, List.append_nil, List.map_cons, List.map_nil, fillA, Nat.le_refl, AV.isCell, and_self, splice, List.nil_append, List.drop_nil, newK_some, newA_data, frzN, List.flatMap_cons, bor_int, List.flatMap_nil, List.isEmpty_nil, List.mapM_cons, frz_int, List.mapM_nil, Option.pure_def, Option.bind_eq_bind, Option.bind_some, slK_some, ex_append, src_sl, appK_own, hk, appOK_cells, Nat.reduceBEq, Bool.and_false, htk, hsn, ex_store, wr_ptr, g3, wrK_cells, List.cons_append, Nat.reduceAdd, storeK_some, putK_no, blockK_normal, cadd1, loopK_normal, a31l1c, e1]
    · rw [e6 b (by simp; omega) b2 (by omega), hset _ b _ b2 b3 b1]

set_option maxRecDepth 20000 in
set_option maxHeartbeats 4000000 in
theorem ref_loop2 {x y : Aut} {sa : Nat} {c0 c1 c2 c3 : AV} (hs : x.states = (sa : Nat)) (hsa : sa ≤ 64) (hl : y.rl.length < 1099511627776) (hb : ∀ u ∈ y.rl, (0 ≤ u.l ∧ u.l < 64) ∧ (0 ≤ u.r ∧ u.r < 64) ∧ (0 ≤ u.t ∧ u.t < 64)) : ∀ d i G z k w, i + d = y.rl.length → w.length < 1099511627776 + i → InvR x y G [c0, c1, c2, c3, .own z k 0 w.length 5] → 2 < k ∧ k ≠ 6 → G[k]? = some (.cells false z (rls w)) →
    ∃ G' z' k', L.loop a31l2s a31l2 ⟨a31l2F (.ptr 0 0) (.ptr 1 0) (.ptr 2 0) (.ptr 6 0) (.int .i64 (i : Nat)), G⟩ = some (.exit 4, ⟨a31l2F (.ptr 0 0) (.ptr 1 0) (.ptr 2 0) (.ptr 6 0) (.int .i64 (y.rl.length : Nat)), G'⟩) ∧
      InvR x y G' [c0, c1, c2, c3, .own z' k' 0 (w ++ (y.rl.drop i).map (shR sa)).length 5] ∧ (2 < k' ∧ k' ≠ 6) ∧ (k' = k ∨ G.length ≤ k') ∧ G'[k']? = some (.cells false z' (rls (w ++ (y.rl.drop i).map (shR sa)))) ∧ (∀ b, b < G.length → b ≠ 6 → b ≠ k → G'[b]? = G[b]?) ∧ G.length ≤ G'.length := by
  intro d
  induction d with
  | zero =>
    intro i G z k w h hw hI hk3 hk
    obtain rfl : i = y.rl.length := by omega
    have h1 := hI.g1
    refine ⟨G, z, k, ?_, by rw [List.drop_length, List.map_nil, List.append_nil]; exact hI, hk3, .inl rfl, by rw [List.drop_length, List.map_nil, List.append_nil]; exact hk, fun _ _ _ _ => rfl, Nat.le_refl _⟩
    rw [a31l2n]
    simp (maxSteps := 30000000) (disch := first | assumption | omega | (simp only [List.length_cons, List.length_nil, List.length_append, List.length_set, List.length_replicate, List.length_map, List.length_range, List.length_take, List.length_drop, List.all_cons, List.all_nil, AV.isCell, Bool.and_self, Bool.and_true, bs_length, is64_length, w64_length, ints_length, rls_length] <;> omega) | rfl | decide) only [a31l2b, run_seq, run_region, runOps_cons, oper_none, ex_mov, opv, List.getD_cons_succ, List.getD_cons_zero, putK_to, List.set_cons_succ, List.set_cons_zero, opsK_some, ex_faddr, faddrA_ptr, Nat.zero_add, valK_some, ex_load, rd_ptr, h1, rdK_cells, List.drop_succ_cons, List.drop_zero, List.take_succ_cons, List.take_nil, loadK_1, ex_len, lenA_sl, ex_bin, bin_lss, Int.lt_irrefl, decide_false, runOps_nil, regK_some, seqK_normal, run_cond, condK_bool, Bool.false_eq_true, ↓reduceIte, run_exit, seqK_exit, loopK_exit, a31l2c]
  | succ d IH =>
    intro i G z k w h hw hI hk3 hk
    have hlt : (i : Int) < (y.rl.length : Nat) := by omega
    have len3 := (List.getElem?_eq_some_iff.1 hI.g3).1
    have lenk := (List.getElem?_eq_some_iff.1 hk).1
    have h0 : ∀ X : Heap, (G ++ X)[0]? = some (.cells false false x.cells) := fun X => app_get hI.g0
    have h1 : ∀ X : Heap, (G ++ X)[1]? = some (.cells false false y.cells) := fun X => app_get hI.g1
    have h1' := hI.g1
    have h3 : ∀ X : Heap, (G ++ X)[6]? = some (.cells false false [c0, c1, c2, c3, .own z k 0 w.length 5]) := fun X => app_get hI.g3
    have hk' : ∀ X : Heap, (G ++ X)[k]? = some (.cells false z (rls w)) := fun X => app_get hk
    have hq := hb _ (getR_mem (by omega : i < y.rl.length))
    have htk : List.take (w.length * 5) (rls w) = rls w := List.take_of_length_le (by rw [rls_length]; omega)
    have hsn : rls w ++ [AV.int .i64 ((y.rl.getD i r0).l + (sa : Nat)), .int .i64 ((y.rl.getD i r0).r + (sa : Nat)), .int .i64 ((y.rl.getD i r0).t + (sa : Nat)), .int .u8 ((y.rl.getD i r0).p : Nat), .int .u8 ((y.rl.getD i r0).n : Nat)] = rls (w ++ [shR sa (y.rl.getD i r0)]) := by
      rw [Int.add_comm (y.rl.getD i r0).l, Int.add_comm (y.rl.getD i r0).r, Int.add_comm (y.rl.getD i r0).t]
      exact rows_app encR w [shR sa (y.rl.getD i r0)]
    have g3 : ∀ X Y : Heap, ((G ++ X).set k Blk.dead ++ Y)[6]? = some (.cells false false [c0, c1, c2, c3, .own z k 0 w.length 5]) := fun X Y => app_get (by rw [List.getElem?_set_ne (by omega)]; exact h3 X)
    have hset : ∀ (X Y : Heap) b (B : Blk), b ≠ 6 → b ≠ k → b < G.length → (((G ++ X).set k Blk.dead ++ Y).set 6 B)[b]? = G[b]? := fun X Y b B n3 nk hl => by
      rw [List.getElem?_set_ne (fun h => n3 h.symm), List.getElem?_append_left (by simp; omega), List.getElem?_set_ne (fun h => nk h.symm), List.getElem?_append_left hl]
    have lenn : ∀ (X Y : Heap) (B : Blk), (((G ++ X).set k Blk.dead ++ Y).set 6 B).length = G.length + X.length + Y.length := fun X Y B => by simp
    obtain ⟨G', z', k', e1, e2, e3, e4, e5, e6, e7⟩ := IH (i + 1) (((G ++ [Blk.cells false false (encR (y.rl.getD i r0))]).set k Blk.dead ++ [Blk.cells false false (rls (w ++ [shR sa (y.rl.getD i r0)]))]).set 6 (Blk.cells false false [c0, c1, c2, c3, .own false (G.length + 1) 0 (w.length + 1) 5])) false (G.length + 1) (w ++ [shR sa (y.rl.getD i r0)]) (by omega) (by simp; omega)
      ⟨by rw [hset _ _ 0 _ (by omega) (by omega) (by omega)]; exact hI.g0, by rw [hset _ _ 1 _ (by omega) (by omega) (by omega)]; exact hI.g1, by
        rw [List.getElem?_set_self (by simp; omega)]; simp⟩ (by omega) (by rw [List.getElem?_set_ne (by omega)]; simp)
    rw [lenn] at e4 e6 e7
    simp only [List.length_cons, List.length_nil] at e4 e6 e7
    rw [drop_getR (by omega : i < y.rl.length), List.map_cons]
    have eapp : w ++ shR sa (y.rl.getD i r0) :: (y.rl.drop (i + 1)).map (shR sa) = w ++ [shR sa (y.rl.getD i r0)] ++ (y.rl.drop (i + 1)).map (shR sa) := by simp
    rw [eapp]
    refine ⟨G', z', k', ?_, e2, e3, .inr (by omega), e5, fun b b1 b2 b3 => ?_, by omega⟩
    · simp only [encR] at e1
      rw [a31l2n]
      simp (maxSteps := 30000000) (disch := first | assumption | omega | (simp only [List.length_cons, List.length_nil, List.length_append, List.length_set, List.length_replicate, List.length_map, List.length_range, List.length_take, List.length_drop, List.all_cons, List.all_nil, AV.isCell, Bool.and_self, Bool.and_true, bs_length, is64_length, w64_length, ints_length, rls_length] <;> omega) | rfl | decide) only [a31l2b, run_seq, run_region, runOps_cons, oper_none, ex_mov, opv, List.getD_cons_succ, List.getD_cons_zero, putK_to, List.set_cons_succ, List.set_cons_zero, opsK_some, ex_faddr, faddrA_ptr, Nat.zero_add, valK_some, ex_load, rd_ptr, h1', rdK_cells, List.drop_succ_cons, List.drop_zero, List.take_succ_cons, List.take_nil, loadK_1, ex_len, lenA_sl, ex_bin, bin_lss, hlt, decide_true, runOps_nil, regK_some, seqK_normal, run_cond, condK_bool, ↓reduceIte, run_skip, run_block, ex_iaddr, iaddrA_sl, Int.toNat_natCast, rd_vptr, rls_at, loadK_n, ex_box, AV.cells, List.all_cons, AV.isCell, List.all_nil, Bool.and_self, ex_store, List.length_cons, List.length_nil, Nat.reduceAdd, wr_ptr, hget0, List.getElem?_cons_zero, wrK_cells, splice, List.take_zero, List.nil_append, List.drop_nil, List.append_nil, hset0, storeK_some, putK_no, h3, Nat.add_zero, h0, hs, bin_add, wr64, ex_build, beq_self_eq_true, List.map_cons, List.map_nil, fillA, Nat.reduceLeDiff, and_self, List.cons_append, Nat.le_refl, Option.map_some, ex_bslice, repz_1, Nat.reduceMul, newK_some, newA_data, frzN, List.flatMap_cons, bor_int, List.flatMap_nil, List.isEmpty_nil, List.mapM_cons, frz_int, List.mapM_nil, Option.pure_def, Option.bind_eq_bind, Option.bind_some, slK_some, ex_append, src_sl, appK_own, hk', appOK_cells, Nat.reduceBEq, Bool.and_false, List.length_append, htk, hsn, g3, blockK_normal, cadd1, loopK_normal, a31l2c, e1]
    · rw [e6 b (by omega) b2 (by omega), hset _ _ b _ b2 b3 b1]
end Go.Abs.Tree

/- The reference's Union. -/
namespace Go.Abs.Tree
open Go Go.Abs
set_option linter.unusedSimpArgs false
set_option linter.unusedVariables false

theorem copy33oo (n : Aut) (h1 : n.st.length < 1099511627776) (h2 : n.fi.length < 1099511627776) (h3 : n.rl.length < 1099511627776) :
    ocallA L 33 [n.av] = some (.agg [.int .i64 n.vars, .int .i64 n.states, .own (n.st.length == 0) 0 0 n.st.length 1, .own (n.fi.length == 0) 1 0 n.fi.length 1, .own (n.rl.length == 0) 2 0 n.rl.length 5], [.cells false (n.st.length == 0) (ints n.st), .cells false (n.fi.length == 0) (ints n.fi), .cells false (n.rl.length == 0) (rls n.rl)]) := by
  have k4 := copy70o n.z3 n.rl h3
  have k5 := copy69o n.z1 n.st h1
  have k6 := copy69o n.z2 n.fi h2
  have t1 : List.take n.st.length n.st = n.st := List.take_length
  have t2 : List.take n.fi.length n.fi = n.fi := List.take_length
  have htk : List.take (n.rl.length * 5) (rls n.rl) = rls n.rl := List.take_of_length_le (by rw [rls_length]; omega)
  rw [ocallA_eq, a33i, a33, bodyA_eq]
  simp (maxSteps := 30000000) (disch := first | assumption | omega | (simp only [List.length_cons, List.length_nil, List.length_append, List.length_set, List.length_replicate, List.length_map, List.length_range, List.length_take, List.length_drop, List.all_cons, List.all_nil, AV.isCell, Bool.and_self, Bool.and_true, bs_length, is64_length, w64_length, ints_length, rls_length] <;> omega) | rfl | decide) only [List.append_nil, List.length_cons, List.length_nil, Nat.zero_add, Nat.reduceSub, pads, List.cons_append, List.nil_append, run_seq, run_region, runOps_cons, oper_none, ex_box, AV.cells, opv, List.getD_cons_zero, List.all_cons, AV.isCell, List.all_nil, Bool.and_self, ↓reduceIte, putK_to, List.set_cons_succ, List.set_cons_zero, opsK_some, runOps_nil, regK_some, seqK_normal, run_drawp, List.take_succ_cons, List.take_zero, runPriv_cons, isPriv_faddr, Bool.false_eq_true, foper_none, fe_faddr, ex_faddr, List.getD_cons_succ, faddrA_ptr, Nat.add_zero, valK_some, fstK_some, fputK_to, free1K_some, isPriv_load, fe_load, ex_load, rd_ptr, List.getElem?_cons_zero, rdK_cells, List.drop_zero, loadK_1, List.drop_succ_cons, isPriv_ocall, privA_eq, AOp.args, dataV, data1, ex_ocall, frzN, List.map_cons, List.map_nil, List.flatMap_cons, bor_sl, List.flatMap_nil, List.mapM_cons, frz_sl, List.mapM_nil, Option.pure_def, Option.bind_eq_bind, Option.bind_some, ocArgK_some, k5, ocK_some, liftV, lift2, lift1, fzIds, List.foldl_nil, privK_some, relV, rel2, rel1, allData_cons, dat_ints, allData_nil, and_self, priv1K_some, k6, List.take_nil, k4, dat_rls, runPriv_nil, consK_some, drawpK_some, adoptS_nil, adoptL, Nat.reduceAdd, ex_build, beq_self_eq_true, fillA, Nat.reduceLeDiff, splice, Nat.le_refl, List.drop_nil, Option.map_some, ex_store, wr_ptr, List.getElem?_cons_succ, wrK_cells, storeK_some, putK_no, apartK_some, run_ret, bodyK_ret, results_1, res_cell, cellK_some, mkv_n, retvK_some, ocallK_some, compact_agg, take2_agg, takeL_cons, take1_int, tkL_some, take1_own, findI_nil, t1I_new, findI_cons, Nat.reduceBEq, Option.map_none, takeL_nil]

set_option maxRecDepth 20000 in
set_option maxHeartbeats 2000000 in
theorem runion_err (x y : Aut) (hx : TyA x) (hy : TyA y) (h : uniE x y ≠ 0) : L.pcall 31 [x.av, y.av] = some (.tup [zA.av, .int .i64 (uniE x y)]) := by
  have c1 := rcheck_eq x hx.st hx.fi hx.rl hx.u8
  have c2 := rcheck_eq y hy.st hy.fi hy.rl hy.u8
  unfold uniE at h ⊢
  change _ = some (AV.tup [.agg [.int .i64 0, .int .i64 0, .sl true 0 [], .sl true 0 [], .sl true 0 []], _])
  by_cases k1 : chkE x = 0
  · rw [if_pos k1] at h ⊢
    by_cases k2 : chkE y = 0
    · rw [if_pos k2] at h ⊢
      have hVx := chkE_zero.1 k1
      have hVy := chkE_zero.1 k2
      have s1 := hVx.s0
      have s2 := hVx.s64
      have s3 := hVy.s0
      have s4 := hVy.s64
      have r1 := hVx.rl
      have r2 := hVy.rl
      rw [k1] at c1
      rw [k2] at c2
      by_cases k3 : x.vars = y.vars
      · rw [if_pos k3] at h ⊢
        have e3 : (x.vars = y.vars) = True := eq_true k3
        have e512 : ((512 : Int) < ((x.rl.length + y.rl.length : Nat) : Int)) = (512 < x.rl.length + y.rl.length) := propext ⟨fun h => by omega, fun h => by omega⟩
        by_cases k4 : 64 < x.states + y.states
        · rw [if_pos (.inl k4)]
          clear h
          rw [a31p, a31, pbodyA_eq]
          simp (maxSteps := 30000000) (disch := first | assumption | omega | (simp only [List.length_cons, List.length_nil, List.length_append, List.length_set, List.length_replicate, List.length_map, List.length_range, List.length_take, List.length_drop, List.all_cons, List.all_nil, AV.isCell, Bool.and_self, Bool.and_true, bs_length, is64_length, w64_length, ints_length, rls_length] <;> omega) | rfl | decide) only [bodyA_eq, List.length_cons, List.length_nil, Nat.zero_add, Nat.reduceAdd, Nat.reduceSub, pads, List.cons_append, List.nil_append, run_seq, run_region, runOps_cons, oper_none, ex_box, AV.cells, opv, List.getD_cons_zero, List.all_cons, AV.isCell, List.all_nil, Bool.and_self, ↓reduceIte, putK_to, List.set_cons_succ, List.set_cons_zero, opsK_some, List.getD_cons_succ, ex_mov, runOps_nil, regK_some, seqK_normal, ex_load, rd_ptr, List.getElem?_cons_zero, rdK_cells, List.drop_zero, List.take_succ_cons, List.take_nil, loadK_n, valK_some, ex_call, List.map_cons, List.map_nil, pcallA_eq, frzN, List.mapM_cons, frz_agg, frz_int, frz_sl, List.mapM_nil, Option.pure_def, Option.bind_eq_bind, Option.bind_some, Option.map_some, argK_some, c1, retK_some, scal, scal1, ex_bin, bin_neq, decide_true, Bool.not_true, run_cond, condK_bool, Bool.false_eq_true, run_skip, List.getElem?_cons_succ, c2, ex_faddr, faddrA_ptr, Nat.add_zero, List.take_zero, loadK_1, e3, List.drop_succ_cons, bin_add, wr64, bin_gtr, k4, oper_guard, guardK_bool, Bool.true_eq_false, putA_to, ex_pick, pickA_bool, ex_build, fillA, ex_store, wr_ptr, wrK_cells, splice, List.drop_nil, List.append_nil, storeK_some, putK_no, run_ret, seqK_ret, bodyK_ret, results_2, resL_cons, res_cell, cellK_some, mkv_n, resK_some, res_tmp, resL_nil, retvK_some, pbodyK_some, frz_tup]
        · by_cases k5 : 512 < x.rl.length + y.rl.length
          · rw [if_pos (.inr k5)]
            clear h
            rw [a31p, a31, pbodyA_eq]
            simp (maxSteps := 30000000) (disch := first | assumption | omega | (simp only [List.length_cons, List.length_nil, List.length_append, List.length_set, List.length_replicate, List.length_map, List.length_range, List.length_take, List.length_drop, List.all_cons, List.all_nil, AV.isCell, Bool.and_self, Bool.and_true, bs_length, is64_length, w64_length, ints_length, rls_length] <;> omega) | rfl | decide) only [bodyA_eq, List.length_cons, List.length_nil, Nat.zero_add, Nat.reduceAdd, Nat.reduceSub, pads, List.cons_append, List.nil_append, run_seq, run_region, runOps_cons, oper_none, ex_box, AV.cells, opv, List.getD_cons_zero, List.all_cons, AV.isCell, List.all_nil, Bool.and_self, ↓reduceIte, putK_to, List.set_cons_succ, List.set_cons_zero, opsK_some, List.getD_cons_succ, ex_mov, runOps_nil, regK_some, seqK_normal, ex_load, rd_ptr, List.getElem?_cons_zero, rdK_cells, List.drop_zero, List.take_succ_cons, List.take_nil, loadK_n, valK_some, ex_call, List.map_cons, List.map_nil, pcallA_eq, frzN, List.mapM_cons, frz_agg, frz_int, frz_sl, List.mapM_nil, Option.pure_def, Option.bind_eq_bind, Option.bind_some, Option.map_some, argK_some, c1, retK_some, scal, scal1, ex_bin, bin_neq, decide_true, Bool.not_true, run_cond, condK_bool, Bool.false_eq_true, run_skip, List.getElem?_cons_succ, c2, ex_faddr, faddrA_ptr, Nat.add_zero, List.take_zero, loadK_1, e3, List.drop_succ_cons, bin_add, wr64, bin_gtr, k4, decide_false, oper_guard, guardK_bool, ex_len, lenA_sl, cadd, e512, k5, ex_pick, pickA_bool, ex_build, fillA, ex_store, wr_ptr, wrK_cells, splice, List.drop_nil, List.append_nil, storeK_some, putK_no, run_ret, seqK_ret, bodyK_ret, results_2, resL_cons, res_cell, cellK_some, mkv_n, resK_some, res_tmp, resL_nil, retvK_some, pbodyK_some, frz_tup]
          · rw [if_neg (by omega)] at h
            exact (h rfl).elim
      · rw [if_neg k3]
        have e3 : (x.vars = y.vars) = False := eq_false k3
        clear h
        rw [a31p, a31, pbodyA_eq]
        simp (maxSteps := 30000000) (disch := first | assumption | omega | (simp only [List.length_cons, List.length_nil, List.length_append, List.length_set, List.length_replicate, List.length_map, List.length_range, List.length_take, List.length_drop, List.all_cons, List.all_nil, AV.isCell, Bool.and_self, Bool.and_true, bs_length, is64_length, w64_length, ints_length, rls_length] <;> omega) | rfl | decide) only [bodyA_eq, List.length_cons, List.length_nil, Nat.zero_add, Nat.reduceAdd, Nat.reduceSub, pads, List.cons_append, List.nil_append, run_seq, run_region, runOps_cons, oper_none, ex_box, AV.cells, opv, List.getD_cons_zero, List.all_cons, AV.isCell, List.all_nil, Bool.and_self, ↓reduceIte, putK_to, List.set_cons_succ, List.set_cons_zero, opsK_some, List.getD_cons_succ, ex_mov, runOps_nil, regK_some, seqK_normal, ex_load, rd_ptr, List.getElem?_cons_zero, rdK_cells, List.drop_zero, List.take_succ_cons, List.take_nil, loadK_n, valK_some, ex_call, List.map_cons, List.map_nil, pcallA_eq, frzN, List.mapM_cons, frz_agg, frz_int, frz_sl, List.mapM_nil, Option.pure_def, Option.bind_eq_bind, Option.bind_some, Option.map_some, argK_some, c1, retK_some, scal, scal1, ex_bin, bin_neq, decide_true, Bool.not_true, run_cond, condK_bool, Bool.false_eq_true, run_skip, List.getElem?_cons_succ, c2, ex_faddr, faddrA_ptr, Nat.add_zero, List.take_zero, loadK_1, e3, decide_false, Bool.not_false, ex_build, fillA, ex_store, wr_ptr, wrK_cells, splice, List.drop_succ_cons, List.drop_nil, List.append_nil, storeK_some, putK_no, run_ret, seqK_ret, bodyK_ret, results_2, resL_cons, res_cell, cellK_some, mkv_n, resK_some, res_tmp, resL_nil, retvK_some, pbodyK_some, frz_tup]
    · rw [if_neg k2]
      rw [k1] at c1
      clear h
      generalize chkE y = e at *
      rw [a31p, a31, pbodyA_eq]
      simp (maxSteps := 30000000) (disch := first | assumption | omega | (simp only [List.length_cons, List.length_nil, List.length_append, List.length_set, List.length_replicate, List.length_map, List.length_range, List.length_take, List.length_drop, List.all_cons, List.all_nil, AV.isCell, Bool.and_self, Bool.and_true, bs_length, is64_length, w64_length, ints_length, rls_length] <;> omega) | rfl | decide) only [bodyA_eq, List.length_cons, List.length_nil, Nat.zero_add, Nat.reduceAdd, Nat.reduceSub, pads, List.cons_append, List.nil_append, run_seq, run_region, runOps_cons, oper_none, ex_box, AV.cells, opv, List.getD_cons_zero, List.all_cons, AV.isCell, List.all_nil, Bool.and_self, ↓reduceIte, putK_to, List.set_cons_succ, List.set_cons_zero, opsK_some, List.getD_cons_succ, ex_mov, runOps_nil, regK_some, seqK_normal, ex_load, rd_ptr, List.getElem?_cons_zero, rdK_cells, List.drop_zero, List.take_succ_cons, List.take_nil, loadK_n, valK_some, ex_call, List.map_cons, List.map_nil, pcallA_eq, frzN, List.mapM_cons, frz_agg, frz_int, frz_sl, List.mapM_nil, Option.pure_def, Option.bind_eq_bind, Option.bind_some, Option.map_some, argK_some, c1, retK_some, scal, scal1, ex_bin, bin_neq, decide_true, Bool.not_true, run_cond, condK_bool, Bool.false_eq_true, run_skip, List.getElem?_cons_succ, c2, k2, decide_false, Bool.not_false, ex_build, fillA, ex_store, wr_ptr, wrK_cells, splice, List.take_zero, List.drop_succ_cons, List.drop_nil, List.append_nil, storeK_some, putK_no, run_ret, seqK_ret, bodyK_ret, results_2, resL_cons, res_cell, cellK_some, mkv_n, resK_some, res_tmp, resL_nil, retvK_some, pbodyK_some, frz_tup]
  · rw [if_neg k1]
    clear h
    generalize chkE x = e at *
    rw [a31p, a31, pbodyA_eq]
    simp (maxSteps := 30000000) (disch := first | assumption | omega | (simp only [List.length_cons, List.length_nil, List.length_append, List.length_set, List.length_replicate, List.length_map, List.length_range, List.length_take, List.length_drop, List.all_cons, List.all_nil, AV.isCell, Bool.and_self, Bool.and_true, bs_length, is64_length, w64_length, ints_length, rls_length] <;> omega) | rfl | decide) only [bodyA_eq, List.length_cons, List.length_nil, Nat.zero_add, Nat.reduceAdd, Nat.reduceSub, pads, List.cons_append, List.nil_append, run_seq, run_region, runOps_cons, oper_none, ex_box, AV.cells, opv, List.getD_cons_zero, List.all_cons, AV.isCell, List.all_nil, Bool.and_self, ↓reduceIte, putK_to, List.set_cons_succ, List.set_cons_zero, opsK_some, List.getD_cons_succ, ex_mov, runOps_nil, regK_some, seqK_normal, ex_load, rd_ptr, List.getElem?_cons_zero, rdK_cells, List.drop_zero, List.take_succ_cons, List.take_nil, loadK_n, valK_some, ex_call, List.map_cons, List.map_nil, pcallA_eq, frzN, List.mapM_cons, frz_agg, frz_int, frz_sl, List.mapM_nil, Option.pure_def, Option.bind_eq_bind, Option.bind_some, Option.map_some, argK_some, c1, retK_some, scal, scal1, ex_bin, bin_neq, k1, decide_false, Bool.not_false, run_cond, condK_bool, ex_build, fillA, ex_store, wr_ptr, List.getElem?_cons_succ, wrK_cells, splice, List.take_zero, List.drop_succ_cons, List.drop_nil, List.append_nil, storeK_some, putK_no, run_ret, seqK_ret, bodyK_ret, results_2, resL_cons, res_cell, cellK_some, mkv_n, resK_some, res_tmp, resL_nil, retvK_some, pbodyK_some, frz_tup]
end Go.Abs.Tree

/- The reference's Union, the united automaton. -/
namespace Go.Abs.Tree
open Go Go.Abs
set_option linter.unusedSimpArgs false
set_option linter.unusedVariables false

set_option maxRecDepth 20000 in
set_option maxHeartbeats 2000000 in
theorem runion_ok (x y : Aut) (hx : TyA x) (hy : TyA y) (h : uniE x y = 0) : ∃ z1 z2 z3, L.pcall 31 [x.av, y.av] = some (.tup [(uniA x y z1 z2 z3).av, .int .i64 0]) := by
  unfold uniE at h
  split at h
  case isFalse => contradiction
  rename_i k1
  split at h
  case isFalse => contradiction
  rename_i k2
  split at h
  case isFalse => omega
  rename_i k3
  split at h
  case isTrue => omega
  rename_i k45
  have k4 : ¬ 64 < x.states + y.states := by omega
  have k5 : ¬ 512 < x.rl.length + y.rl.length := by omega
  have c1 := rcheck_eq x hx.st hx.fi hx.rl hx.u8
  have c2 := rcheck_eq y hy.st hy.fi hy.rl hy.u8
  rw [k1] at c1
  rw [k2] at c2
  have hVx := chkE_zero.1 k1
  have hVy := chkE_zero.1 k2
  have s1 := hVx.s0
  have s2 := hVx.s64
  have s3 := hVy.s0
  have s4 := hVy.s64
  have r1 := hVx.rl
  have r2 := hVy.rl
  obtain ⟨sa, hsa⟩ : ∃ sa : Nat, x.states = (sa : Nat) := ⟨x.states.toNat, by omega⟩
  have e3 : (x.vars = y.vars) = True := eq_true k3
  have e512 : ((512 : Int) < ((x.rl.length + y.rl.length : Nat) : Int)) = False := eq_false (by omega)
  have hcp := copy33oo x hx.st hx.fi hx.rl
  have l1 := hx.st
  have l2 := hx.fi
  have l3 := hx.rl
  have l4 := hy.st
  have l5 := hy.fi
  have l6 := hy.rl
  -- the three loops
  obtain ⟨G1, z1, b1, p1, p2, p3, p4, p5, p6, p7⟩ := ref_loop0 (x := x) (y := y) (sa := sa) (c0 := .int .i64 x.vars) (c1 := .int .i64 (x.states + y.states)) (c3 := .own (x.fi.length == 0) 4 0 x.fi.length 1) (c4 := .own (x.rl.length == 0) 5 0 x.rl.length 5) hsa (by omega) hy.st (fun q hq => by have := ascB_mem hVy.st q hq; omega) y.st.length 0
    [.cells false false x.cells, .cells false false y.cells, .cells false false [.int .i64 0, .int .i64 0, .sl true 0 [], .sl true 0 [], .sl true 0 []], .cells false (x.st.length == 0) (ints x.st), .cells false (x.fi.length == 0) (ints x.fi), .cells false (x.rl.length == 0) (rls x.rl), .cells false false [.int .i64 x.vars, .int .i64 (x.states + y.states), .own (x.st.length == 0) 3 0 x.st.length 1, .own (x.fi.length == 0) 4 0 x.fi.length 1, .own (x.rl.length == 0) 5 0 x.rl.length 5]]
    (x.st.length == 0) 3 x.st (by omega) (by omega) ⟨rfl, rfl, rfl⟩ (by omega) rfl
  have u2 := p6 2 (by simp) (by omega) (by omega)
  have u4 := p6 4 (by simp) (by omega) (by omega)
  have u5 := p6 5 (by simp) (by omega) (by omega)
  simp only [List.getElem?_cons_succ, List.getElem?_cons_zero, List.length_cons, List.length_nil, List.drop_zero, Int.natCast_zero] at u2 u4 u5 p1 p2 p4 p5 p7
  have lb1 := (List.getElem?_eq_some_iff.1 p5).1
  obtain ⟨G2, z2, b2, q1, q2, q3, q4, q5, q6, q7⟩ := ref_loop1 (x := x) (y := y) (sa := sa) hsa (by omega) hy.fi (fun q hq => by have := ascB_mem hVy.fi q hq; omega) y.fi.length 0 G1 (x.fi.length == 0) 4 x.fi (by omega) (by omega) p2 (by omega) u4
  have v2 := q6 2 (by omega) (by omega) (by omega)
  have v5 := q6 5 (by omega) (by omega) (by omega)
  have vb := q6 b1 lb1 (by omega) (by omega)
  rw [u2] at v2
  rw [u5] at v5
  rw [p5] at vb
  simp only [List.drop_zero, Int.natCast_zero] at q1 q2 q5
  have lb2 := (List.getElem?_eq_some_iff.1 q5).1
  obtain ⟨G3, z3, b3, t1, t2, t3, t4, t5, t6, t7⟩ := ref_loop2 (x := x) (y := y) (sa := sa) hsa (by omega) hy.rl (fun u hu => by have := hVy.rule u hu; omega) y.rl.length 0 G2 (x.rl.length == 0) 5 x.rl (by omega) (by omega) q2 (by omega) v5
  have w2 := t6 2 (by omega) (by omega) (by omega)
  have wb1 := t6 b1 (by omega) (by omega) (by omega)
  have wb2 := t6 b2 lb2 (by omega) (by omega)
  rw [v2] at w2
  rw [vb] at wb1
  rw [q5] at wb2
  simp only [List.drop_zero, Int.natCast_zero] at t1 t2 t5
  have g3 := t2.g3
  have n2 := (List.getElem?_eq_some_iff.1 w2).1
  have s2' : ∀ B : Blk, (G3.set 2 B)[2]? = some B := fun B => List.getElem?_set_self n2
  have nb1 : ∀ B : Blk, (G3.set 2 B)[b1]? = G3[b1]? := fun B => List.getElem?_set_ne (by omega)
  have nb2 : ∀ B : Blk, (G3.set 2 B)[b2]? = G3[b2]? := fun B => List.getElem?_set_ne (by omega)
  have nb3 : ∀ B : Blk, (G3.set 2 B)[b3]? = G3[b3]? := fun B => List.getElem?_set_ne (by omega)
  refine ⟨z1, z2, z3, ?_⟩
  have m1 : (x.st ++ y.st.map fun q => (sa : Int) + q).length < 2199023255552 := by rw [List.length_append, List.length_map]; omega
  have m2 : (x.fi ++ y.fi.map fun q => (sa : Int) + q).length < 2199023255552 := by rw [List.length_append, List.length_map]; omega
  have m3 : (x.rl ++ y.rl.map (shR sa)).length < 2199023255552 := by rw [List.length_append, List.length_map]; omega
  unfold uniA
  simp only [Aut.av, Aut.cells, hsa] at c1 c2 hcp p1 q1 t1 g3 k4 ⊢
  generalize x.st ++ y.st.map (fun q => (sa : Int) + q) = S at *
  generalize x.fi ++ y.fi.map (fun q => (sa : Int) + q) = F at *
  generalize x.rl ++ y.rl.map (shR (sa : Int)) = R at *
  have d1 : List.take S.length S = S := List.take_length
  have d2 : List.take F.length F = F := List.take_length
  have d3 : List.take (R.length * 5) (rls R) = rls R := List.take_of_length_le (by rw [rls_length]; omega)
  rw [a31p, a31, pbodyA_eq]
  simp (maxSteps := 30000000) (disch := first | assumption | omega | (simp only [List.length_cons, List.length_nil, List.length_append, List.length_set, List.length_replicate, List.length_map, List.length_range, List.length_take, List.length_drop, List.all_cons, List.all_nil, AV.isCell, Bool.and_self, Bool.and_true, bs_length, is64_length, w64_length, ints_length, rls_length] <;> omega) | rfl | decide) only [bodyA_eq, List.length_cons, List.length_nil, Nat.zero_add, Nat.reduceAdd, Nat.reduceSub, pads, List.cons_append, List.nil_append, run_seq, run_region, runOps_cons, oper_none, ex_box, AV.cells, opv, List.getD_cons_zero, List.all_cons, AV.isCell, List.all_nil, Bool.and_self, ↓reduceIte, putK_to, List.set_cons_succ, List.set_cons_zero, opsK_some, List.getD_cons_succ, ex_mov, runOps_nil, regK_some, seqK_normal, ex_load, rd_ptr, List.getElem?_cons_zero, rdK_cells, List.drop_zero, List.take_succ_cons, List.take_nil, loadK_n, valK_some, ex_call, List.map_cons, List.map_nil, pcallA_eq, frzN, List.mapM_cons, frz_agg, frz_int, frz_sl, List.mapM_nil, Option.pure_def, Option.bind_eq_bind, Option.bind_some, Option.map_some, argK_some, c1, retK_some, scal, scal1, ex_bin, bin_neq, decide_true, Bool.not_true, run_cond, condK_bool, Bool.false_eq_true, run_skip, List.getElem?_cons_succ, c2, ex_faddr, faddrA_ptr, Nat.add_zero, List.take_zero, loadK_1, e3, List.drop_succ_cons, bin_add, wr64, bin_gtr, k4, decide_false, oper_guard, guardK_bool, ex_len, lenA_sl, cadd, e512, ex_pick, pickA_bool, ex_ocall, List.flatMap_cons, bor_agg, bor_int, bor_sl, List.flatMap_nil, List.append_nil, ocArgK_some, hcp, ocK_some, liftV, lift2, lift1, fzIds, List.foldl_nil, ex_store, wr_ptr, wrK_cells, splice, List.drop_nil, storeK_some, putK_no, run_block, run_loop, a31l0c, p1, blockK_exit, a31l1c, q1, a31l2c, t1, g3, w2, run_ret, bodyK_ret, results_2, resL_cons, res_cell, s2', cellK_some, mkv_n, resK_some, res_tmp, resL_nil, retvK_some, pbodyK_some, frz_tup, frz_own, nb1, wb1, frzK_cells, Nat.mul_one, ints_take, d1, frz_ints, slK_some, nb2, wb2, d2, nb3, t5, d3, frz_rls]
end Go.Abs.Tree
