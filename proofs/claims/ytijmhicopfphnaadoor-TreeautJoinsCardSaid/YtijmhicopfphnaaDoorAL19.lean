/- The law TreeautJoins. -/
import Derived.Test.YtijmhicopfphnaaDoorAL18
import Derived.Test.YtijmhicopfphnaaDoorANI
namespace Go.Abs.Tree
open Go Go.Abs
set_option linter.unusedSimpArgs false
set_option linter.unusedVariables false

theorem letter41 (x p n : Nat) (hx : x < 256) (hp : p < 256) (hn : n < 256) : L.pcall 41 [.int .u8 (x : Nat), .int .u8 (p : Nat), .int .u8 (n : Nat)] = some (.bool (hasB p n x)) := by
  have h1 := and8 hx hp
  have h2 := and8 hx hn
  have e1 : (((x &&& p : Nat) : Int) = ((p : Nat) : Int)) = (x &&& p = p) := propext ⟨fun h => by omega, fun h => by omega⟩
  have e2 : (((x &&& n : Nat) : Int) = 0) = (x &&& n = 0) := propext ⟨fun h => by omega, fun h => by omega⟩
  unfold hasB
  rw [a41p, a41, pbodyA_eq]
  by_cases c1 : x &&& p = p
  · by_cases c2 : x &&& n = 0
    · simp (maxSteps := 30000000) (disch := first | assumption | omega | (simp only [List.length_cons, List.length_nil, List.length_append, List.length_set, List.length_replicate, List.length_map, List.length_range, List.length_take, List.length_drop, List.all_cons, List.all_nil, AV.isCell, Bool.and_self, Bool.and_true, bs_length, is64_length, w64_length, ints_length, lfs_length, rls_length] <;> omega) | rfl | decide) only [bodyA_eq, List.length_cons, List.length_nil, Nat.zero_add, Nat.reduceAdd, Nat.reduceSub, pads, List.cons_append, List.nil_append, run_seq, run_region, runOps_cons, oper_none, ex_mov, opv, putK_to, List.set_cons_succ, List.set_cons_zero, opsK_some, runOps_nil, regK_some, seqK_normal, List.getD_cons_zero, List.getD_cons_succ, ex_bin, bin_and, h1, c1, valK_some, bin_eql, decide_true, oper_guard, guardK_bool, putA_to, if_true, h2, c2, castLit, ex_pick, pickA_bool, run_ret, bodyK_ret, results_1, res_tmp, retvK_some, pbodyK_some, frzN, frz_bool, Bool.and_self]
    · simp (maxSteps := 30000000) (disch := first | assumption | omega | (simp only [List.length_cons, List.length_nil, List.length_append, List.length_set, List.length_replicate, List.length_map, List.length_range, List.length_take, List.length_drop, List.all_cons, List.all_nil, AV.isCell, Bool.and_self, Bool.and_true, bs_length, is64_length, w64_length, ints_length, lfs_length, rls_length] <;> omega) | rfl | decide) only [bodyA_eq, List.length_cons, List.length_nil, Nat.zero_add, Nat.reduceAdd, Nat.reduceSub, pads, List.cons_append, List.nil_append, run_seq, run_region, runOps_cons, oper_none, ex_mov, opv, putK_to, List.set_cons_succ, List.set_cons_zero, opsK_some, runOps_nil, regK_some, seqK_normal, List.getD_cons_zero, List.getD_cons_succ, ex_bin, bin_and, h1, c1, valK_some, bin_eql, decide_true, oper_guard, guardK_bool, putA_to, if_true, h2, e2, c2, decide_false, ex_pick, pickA_bool, ite_self, run_ret, bodyK_ret, results_1, res_tmp, retvK_some, pbodyK_some, frzN, frz_bool, Bool.and_false]
  · by_cases c2 : x &&& n = 0
    · simp (maxSteps := 30000000) (disch := first | assumption | omega | (simp only [List.length_cons, List.length_nil, List.length_append, List.length_set, List.length_replicate, List.length_map, List.length_range, List.length_take, List.length_drop, List.all_cons, List.all_nil, AV.isCell, Bool.and_self, Bool.and_true, bs_length, is64_length, w64_length, ints_length, lfs_length, rls_length] <;> omega) | rfl | decide) only [bodyA_eq, List.length_cons, List.length_nil, Nat.zero_add, Nat.reduceAdd, Nat.reduceSub, pads, List.cons_append, List.nil_append, run_seq, run_region, runOps_cons, oper_none, ex_mov, opv, putK_to, List.set_cons_succ, List.set_cons_zero, opsK_some, runOps_nil, regK_some, seqK_normal, List.getD_cons_zero, List.getD_cons_succ, ex_bin, bin_and, h1, valK_some, bin_eql, e1, c1, decide_false, oper_guard, guardK_bool, Bool.false_eq_true, putA_to, if_false, ex_pick, pickA_bool, run_ret, bodyK_ret, results_1, res_tmp, retvK_some, pbodyK_some, frzN, frz_bool, c2, decide_true, Bool.and_true]
    · simp (maxSteps := 30000000) (disch := first | assumption | omega | (simp only [List.length_cons, List.length_nil, List.length_append, List.length_set, List.length_replicate, List.length_map, List.length_range, List.length_take, List.length_drop, List.all_cons, List.all_nil, AV.isCell, Bool.and_self, Bool.and_true, bs_length, is64_length, w64_length, ints_length, lfs_length, rls_length] <;> omega) | rfl | decide) only [bodyA_eq, List.length_cons, List.length_nil, Nat.zero_add, Nat.reduceAdd, Nat.reduceSub, pads, List.cons_append, List.nil_append, run_seq, run_region, runOps_cons, oper_none, ex_mov, opv, putK_to, List.set_cons_succ, List.set_cons_zero, opsK_some, runOps_nil, regK_some, seqK_normal, List.getD_cons_zero, List.getD_cons_succ, ex_bin, bin_and, h1, valK_some, bin_eql, e1, c1, decide_false, oper_guard, guardK_bool, Bool.false_eq_true, putA_to, if_false, ex_pick, pickA_bool, run_ret, bodyK_ret, results_1, res_tmp, retvK_some, pbodyK_some, frzN, frz_bool, c2, Bool.and_self]

/-- numbers that are nil or a block of the heap -/
def OwnIG (G : Heap) (v : AV) (l : List Int) : Prop := (v = .sl true 0 [] ∧ l = []) ∨ ∃ k, 2 < k ∧ v = .own false k 0 l.length 1 ∧ G[k]? = some (.cells false false (ints l))
theorem OwnIG.app {G : Heap} {v : AV} {l : List Int} (h : OwnIG G v l) (X : Heap) : OwnIG (G ++ X) v l := by
  rcases h with h | ⟨k, e0, e1, e2⟩
  · exact .inl h
  · exact .inr ⟨k, e0, e1, app_get e2⟩

def wantM (P Q : Nat → Bool) (x : Nat) : List Rl → List Int
  | [] => []
  | u :: t => if (P u.l.toNat && Q u.r.toNat && hasB u.p u.n x) = true then u.t :: wantM P Q x t else wantM P Q x t
theorem wantM_has (P Q : Nat → Bool) (x : Nat) (j : Int) : ∀ l : List Rl, (wantM P Q x l).contains j = l.any fun u => P u.l.toNat && Q u.r.toNat && hasB u.p u.n x && decide (u.t = j)
  | [] => rfl
  | u :: t => by
    rw [wantM, List.any_cons]
    split
    · rename_i h
      have e : (j == u.t) = decide (u.t = j) := by rw [Bool.eq_iff_iff, beq_iff_eq, decide_eq_true_eq]; exact eq_comm
      rw [List.contains_cons, wantM_has P Q x j t, h, e, Bool.true_and]
    · rename_i h
      rw [wantM_has P Q x j t]
      simp only [Bool.not_eq_true] at h
      rw [h, Bool.false_and, Bool.false_or]
theorem wantM_mem {P Q : Nat → Bool} {x : Nat} {l : List Rl} {q : Int} (h : q ∈ wantM P Q x l) : ∃ u ∈ l, u.t = q := by
  have := wantM_has P Q x q l
  rw [List.contains_iff_mem.2 h] at this
  obtain ⟨u, hu, h2⟩ := List.any_eq_true.1 this.symm
  simp only [Bool.and_eq_true, decide_eq_true_eq] at h2
  exact ⟨u, hu, h2.2⟩
theorem wantM_len (P Q : Nat → Bool) (x : Nat) : ∀ l : List Rl, (wantM P Q x l).length ≤ l.length
  | [] => by simp [wantM]
  | u :: t => by
    have := wantM_len P Q x t
    rw [wantM]
    split <;> simp <;> omega

section
variable {s12 s15 s17 : AV}
set_option maxHeartbeats 4000000 in
theorem want_loop {m : Aut} {x : Nat} {p q : AV} {P Q : Nat → Bool} (hl : m.rl.length < 1099511627776) (hb : RlOk m.rl) (hx : x < 256) (hP : HasSet p P) (hQ : HasSet q Q) (hp : ∃ z l, p = sw z l) (hq : ∃ z l, q = sw z l) : ∀ d i G v w, i + d = m.rl.length → w.length ≤ i → G[2]? = some (.cells false false m.cells) → OwnIG G v w →
    ∃ G' v', L.loop a10l0s a10l0 ⟨a10l0F (.int .u8 (x : Nat)) (.ptr 2 0) s12 p s15 q s17 v (.int .i64 (i : Nat)), G⟩ =
      some (.exit 0, ⟨a10l0F (.int .u8 (x : Nat)) (.ptr 2 0) s12 p s15 q s17 v' (.int .i64 (m.rl.length : Nat)), G'⟩) ∧ G'[2]? = some (.cells false false m.cells) ∧ OwnIG G' v' (w ++ wantM P Q x (m.rl.drop i))
  | 0, i, G, v, w, h, hw, hG, hO => by
    obtain rfl : i = m.rl.length := by omega
    refine ⟨G, v, ?_, hG, by rw [List.drop_length, wantM, List.append_nil]; exact hO⟩
    rw [a10l0n]
    simp (maxSteps := 30000000) (disch := first | assumption | omega | (simp only [List.length_cons, List.length_nil, List.length_append, List.length_set, List.length_replicate, List.length_map, List.length_range, List.length_take, List.length_drop, List.all_cons, List.all_nil, AV.isCell, Bool.and_self, Bool.and_true, bs_length, is64_length, w64_length, ints_length, lfs_length, rls_length] <;> omega) | rfl | decide) only [a10l0b, run_seq, run_region, runOps_cons, oper_none, ex_mov, opv, List.getD_cons_succ, List.getD_cons_zero, putK_to, List.set_cons_succ, List.set_cons_zero, opsK_some, ex_faddr, faddrA_ptr, Nat.zero_add, valK_some, ex_load, rd_ptr, hG, rdK_cells, List.drop_succ_cons, List.drop_zero, List.take_succ_cons, List.take_nil, loadK_1, ex_len, lenA_sl, ex_bin, bin_lss, Int.lt_irrefl, decide_false, runOps_nil, regK_some, seqK_normal, run_cond, condK_bool, Bool.false_eq_true, run_skip, run_exit, if_false, seqK_exit, loopK_exit, a10l0c]
  | d + 1, i, G, v, w, h, hw, hG, hO => by
    have hlt : (i : Int) < (m.rl.length : Nat) := by omega
    obtain ⟨⟨l0, l1⟩, ⟨r0', r1⟩, ⟨t0, t1⟩, p1, n1⟩ := hb _ (getR_mem (by omega : i < m.rl.length))
    have h1 := has_hasI hP (m.rl.getD i r0).l l0 (by omega)
    have h2 := has_hasI hQ (m.rl.getD i r0).r r0' (by omega)
    have h3 := letter41 x (m.rl.getD i r0).p (m.rl.getD i r0).n hx p1 n1
    have len2 := (List.getElem?_eq_some_iff.1 hG).1
    have hgx : (G ++ [.cells false false (encR (m.rl.getD i r0))])[2]? = some (.cells false false m.cells) := app_get hG
    have hgb : (G ++ [Blk.cells false false (encR (m.rl.getD i r0))])[G.length]? = some (.cells false false (encR (m.rl.getD i r0))) := by simp
    have hOx := hO.app [.cells false false (encR (m.rl.getD i r0))]
    have lenx : 2 < (G ++ [Blk.cells false false (encR (m.rl.getD i r0))]).length := by simp; omega
    rw [drop_getR (by omega : i < m.rl.length), wantM]
    by_cases c : (P (m.rl.getD i r0).l.toNat && Q (m.rl.getD i r0).r.toNat && hasB (m.rl.getD i r0).p (m.rl.getD i r0).n x) = true
    · rw [if_pos c]
      simp only [Bool.and_eq_true] at c
      rw [c.1.1] at h1
      rw [c.1.2] at h2
      rw [c.2] at h3
      obtain ⟨zp, lp, rfl⟩ := hp
      obtain ⟨zq, lq, rfl⟩ := hq
      rcases hO with ⟨rfl, rfl⟩ | ⟨k, k2, rfl, hk⟩
      · obtain ⟨G', v', e1, e2, e3⟩ := want_loop (m := m) hl hb hx hP hQ ⟨_, _, rfl⟩ ⟨_, _, rfl⟩ d (i + 1) (G ++ [.cells false false (encR (m.rl.getD i r0))] ++ [.cells false false (ints [(m.rl.getD i r0).t])]) (.own false (G.length + 1) 0 1 1) [(m.rl.getD i r0).t] (by omega) (by simp) (app_get hgx) (.inr ⟨G.length + 1, by omega, by simp, by simp⟩)
        refine ⟨G', v', ?_, e2, by simpa using e3⟩
        simp only [encR, ints_one, List.append_assoc, List.cons_append, List.nil_append] at e1 hgx hgb
        rw [a10l0n]
        simp (maxSteps := 30000000) (disch := first | assumption | omega | (simp only [List.length_cons, List.length_nil, List.length_append, List.length_set, List.length_replicate, List.length_map, List.length_range, List.length_take, List.length_drop, List.all_cons, List.all_nil, AV.isCell, Bool.and_self, Bool.and_true, bs_length, is64_length, w64_length, ints_length, lfs_length, rls_length] <;> omega) | rfl | decide) only [a10l0b, run_seq, run_region, runOps_cons, oper_none, ex_mov, opv, List.getD_cons_succ, List.getD_cons_zero, putK_to, List.set_cons_succ, List.set_cons_zero, opsK_some, ex_faddr, faddrA_ptr, Nat.zero_add, valK_some, ex_load, rd_ptr, hG, rdK_cells, List.drop_succ_cons, List.drop_zero, List.take_succ_cons, List.take_nil, loadK_1, ex_len, lenA_sl, ex_bin, bin_lss, hlt, decide_true, runOps_nil, regK_some, seqK_normal, run_cond, condK_bool, run_skip, run_exit, if_true, run_block, ex_iaddr, iaddrA_sl, Int.toNat_natCast, rd_vptr, rls_at, loadK_n, ex_box, AV.cells, List.all_cons, AV.isCell, List.all_nil, Bool.and_self, ex_store, List.length_cons, List.length_nil, Nat.reduceAdd, wr_ptr, hget0, List.getElem?_cons_zero, wrK_cells, splice, List.take_zero, List.nil_append, List.drop_nil, List.append_nil, hset0, storeK_some, putK_no, Nat.add_zero, hgb, ex_call, List.map_cons, List.map_nil, pcallA_eq, frzN, List.mapM_cons, frz_sl, frz_int, List.mapM_nil, Option.pure_def, Option.bind_eq_bind, Option.bind_some, argK_some, h1, retK_some, scal, scal1, fzIds, List.flatMap_cons, bor_sl, bor_int, List.flatMap_nil, List.foldl_nil, ite_self, oper_guard, guardK_bool, putA_to, h2, ex_pick, pickA_bool, h3, ex_bslice, beq_self_eq_true, repz_1, Nat.mul_one, fillA, Nat.le_refl, and_self, newK_some, newA_data, List.isEmpty_nil, slK_some, ex_append, src_sl, appK_nil, Nat.reduceBEq, newA_own, List.length_append, List.append_assoc, List.cons_append, blockK_normal, bin_add, cadd1, wr64, loopK_normal, a10l0c, e1]
      · have hk' : (G ++ [Blk.cells false false (encR (m.rl.getD i r0))])[k]? = some (.cells false false (ints w)) := app_get hk
        obtain ⟨G', v', e1, e2, e3⟩ := want_loop (m := m) hl hb hx hP hQ ⟨_, _, rfl⟩ ⟨_, _, rfl⟩ d (i + 1) ((G ++ [Blk.cells false false (encR (m.rl.getD i r0))]).set k Blk.dead ++ [Blk.cells false false (ints (w ++ [(m.rl.getD i r0).t]))]) (.own false (G.length + 1) 0 (w.length + 1) 1) (w ++ [(m.rl.getD i r0).t]) (by omega) (by simp; omega) (app_get (by rw [List.getElem?_set_ne (by omega)]; exact hgx)) (.inr ⟨G.length + 1, by omega, by simp, by simp⟩)
        refine ⟨G', v', ?_, e2, by simpa using e3⟩
        have hsn : ints w ++ [AV.int .i64 (m.rl.getD i r0).t] = ints (w ++ [(m.rl.getD i r0).t]) := ints_snoc ..
        have hgd : ((G ++ [Blk.cells false false (encR (m.rl.getD i r0))]).set k .dead)[2]? = some (.cells false false m.cells) := by rw [List.getElem?_set_ne (by omega)]; exact hgx
        simp only [encR] at e1 hgx hgb hk' hgd
        rw [a10l0n]
        simp (maxSteps := 30000000) (disch := first | assumption | omega | (simp only [List.length_cons, List.length_nil, List.length_append, List.length_set, List.length_replicate, List.length_map, List.length_range, List.length_take, List.length_drop, List.all_cons, List.all_nil, AV.isCell, Bool.and_self, Bool.and_true, bs_length, is64_length, w64_length, ints_length, lfs_length, rls_length] <;> omega) | rfl | decide) only [a10l0b, run_seq, run_region, runOps_cons, oper_none, ex_mov, opv, List.getD_cons_succ, List.getD_cons_zero, putK_to, List.set_cons_succ, List.set_cons_zero, opsK_some, ex_faddr, faddrA_ptr, Nat.zero_add, valK_some, ex_load, rd_ptr, hG, rdK_cells, List.drop_succ_cons, List.drop_zero, List.take_succ_cons, List.take_nil, loadK_1, ex_len, lenA_sl, ex_bin, bin_lss, hlt, decide_true, runOps_nil, regK_some, seqK_normal, run_cond, condK_bool, run_skip, run_exit, if_true, run_block, ex_iaddr, iaddrA_sl, Int.toNat_natCast, rd_vptr, rls_at, loadK_n, ex_box, AV.cells, List.all_cons, AV.isCell, List.all_nil, Bool.and_self, ex_store, List.length_cons, List.length_nil, Nat.reduceAdd, wr_ptr, hget0, List.getElem?_cons_zero, wrK_cells, splice, List.take_zero, List.nil_append, List.drop_nil, List.append_nil, hset0, storeK_some, putK_no, Nat.add_zero, hgb, ex_call, List.map_cons, List.map_nil, pcallA_eq, frzN, List.mapM_cons, frz_sl, frz_int, List.mapM_nil, Option.pure_def, Option.bind_eq_bind, Option.bind_some, argK_some, h1, retK_some, scal, scal1, fzIds, List.flatMap_cons, bor_sl, bor_int, List.flatMap_nil, List.foldl_nil, ite_self, oper_guard, guardK_bool, putA_to, h2, ex_pick, pickA_bool, h3, ex_bslice, beq_self_eq_true, repz_1, Nat.mul_one, fillA, Nat.le_refl, and_self, newK_some, newA_data, List.isEmpty_nil, slK_some, ex_append, src_sl, appK_own, hk', appOK_cells, Nat.reduceBEq, List.length_append, ints_take, List.take_length, hsn, blockK_normal, bin_add, cadd1, wr64, loopK_normal, a10l0c, e1]
    · rw [if_neg c]
      obtain ⟨zp, lp, rfl⟩ := hp
      obtain ⟨zq, lq, rfl⟩ := hq
      obtain ⟨G', v', e1, e2, e3⟩ := want_loop (m := m) hl hb hx hP hQ ⟨_, _, rfl⟩ ⟨_, _, rfl⟩ d (i + 1) (G ++ [.cells false false (encR (m.rl.getD i r0))]) v w (by omega) (by omega) hgx hOx
      refine ⟨G', v', ?_, e2, e3⟩
      simp only [encR] at e1 hgx hgb
      by_cases c1 : P (m.rl.getD i r0).l.toNat = true
      · by_cases c2 : Q (m.rl.getD i r0).r.toNat = true
        · have c3 : hasB (m.rl.getD i r0).p (m.rl.getD i r0).n x = false := by
            cases c3 : hasB (m.rl.getD i r0).p (m.rl.getD i r0).n x
            · rfl
            · exact (c (by rw [c1, c2, c3]; rfl)).elim
          rw [c1] at h1
          rw [c2] at h2
          rw [c3] at h3
          rw [a10l0n]
          simp (maxSteps := 30000000) (disch := first | assumption | omega | (simp only [List.length_cons, List.length_nil, List.length_append, List.length_set, List.length_replicate, List.length_map, List.length_range, List.length_take, List.length_drop, List.all_cons, List.all_nil, AV.isCell, Bool.and_self, Bool.and_true, bs_length, is64_length, w64_length, ints_length, lfs_length, rls_length] <;> omega) | rfl | decide) only [a10l0b, run_seq, run_region, runOps_cons, oper_none, ex_mov, opv, List.getD_cons_succ, List.getD_cons_zero, putK_to, List.set_cons_succ, List.set_cons_zero, opsK_some, ex_faddr, faddrA_ptr, Nat.zero_add, valK_some, ex_load, rd_ptr, hG, rdK_cells, List.drop_succ_cons, List.drop_zero, List.take_succ_cons, List.take_nil, loadK_1, ex_len, lenA_sl, ex_bin, bin_lss, hlt, decide_true, runOps_nil, regK_some, seqK_normal, run_cond, condK_bool, run_skip, run_exit, if_true, run_block, ex_iaddr, iaddrA_sl, Int.toNat_natCast, rd_vptr, rls_at, loadK_n, ex_box, AV.cells, List.all_cons, AV.isCell, List.all_nil, Bool.and_self, ex_store, List.length_cons, List.length_nil, Nat.reduceAdd, wr_ptr, hget0, List.getElem?_cons_zero, wrK_cells, splice, List.take_zero, List.nil_append, List.drop_nil, List.append_nil, hset0, storeK_some, putK_no, Nat.add_zero, hgb, ex_call, List.map_cons, List.map_nil, pcallA_eq, frzN, List.mapM_cons, frz_sl, frz_int, List.mapM_nil, Option.pure_def, Option.bind_eq_bind, Option.bind_some, argK_some, h1, retK_some, scal, scal1, fzIds, List.flatMap_cons, bor_sl, bor_int, List.flatMap_nil, List.foldl_nil, ite_self, oper_guard, guardK_bool, putA_to, h2, ex_pick, pickA_bool, h3, Bool.false_eq_true, ex_bslice, beq_self_eq_true, repz_1, Nat.mul_one, fillA, Nat.le_refl, and_self, newK_some, newA_data, List.isEmpty_nil, slK_some, ex_append, src_sl, if_false, blockK_normal, bin_add, cadd1, wr64, loopK_normal, a10l0c, e1]
        · simp only [Bool.not_eq_true] at c2
          rw [c1] at h1
          rw [c2] at h2
          rw [a10l0n]
          simp (maxSteps := 30000000) (disch := first | assumption | omega | (simp only [List.length_cons, List.length_nil, List.length_append, List.length_set, List.length_replicate, List.length_map, List.length_range, List.length_take, List.length_drop, List.all_cons, List.all_nil, AV.isCell, Bool.and_self, Bool.and_true, bs_length, is64_length, w64_length, ints_length, lfs_length, rls_length] <;> omega) | rfl | decide) only [a10l0b, run_seq, run_region, runOps_cons, oper_none, ex_mov, opv, List.getD_cons_succ, List.getD_cons_zero, putK_to, List.set_cons_succ, List.set_cons_zero, opsK_some, ex_faddr, faddrA_ptr, Nat.zero_add, valK_some, ex_load, rd_ptr, hG, rdK_cells, List.drop_succ_cons, List.drop_zero, List.take_succ_cons, List.take_nil, loadK_1, ex_len, lenA_sl, ex_bin, bin_lss, hlt, decide_true, runOps_nil, regK_some, seqK_normal, run_cond, condK_bool, run_skip, run_exit, if_true, run_block, ex_iaddr, iaddrA_sl, Int.toNat_natCast, rd_vptr, rls_at, loadK_n, ex_box, AV.cells, List.all_cons, AV.isCell, List.all_nil, Bool.and_self, ex_store, List.length_cons, List.length_nil, Nat.reduceAdd, wr_ptr, hget0, List.getElem?_cons_zero, wrK_cells, splice, List.take_zero, List.nil_append, List.drop_nil, List.append_nil, hset0, storeK_some, putK_no, Nat.add_zero, hgb, ex_call, List.map_cons, List.map_nil, pcallA_eq, frzN, List.mapM_cons, frz_sl, frz_int, List.mapM_nil, Option.pure_def, Option.bind_eq_bind, Option.bind_some, argK_some, h1, retK_some, scal, scal1, fzIds, List.flatMap_cons, bor_sl, bor_int, List.flatMap_nil, List.foldl_nil, ite_self, oper_guard, guardK_bool, putA_to, h2, ex_pick, pickA_bool, Bool.false_eq_true, if_false, frz_tup, Option.map_some, ex_bslice, beq_self_eq_true, repz_1, Nat.mul_one, fillA, Nat.le_refl, and_self, newK_some, newA_data, List.isEmpty_nil, slK_some, ex_append, src_sl, blockK_normal, bin_add, cadd1, wr64, loopK_normal, a10l0c, e1]
      · simp only [Bool.not_eq_true] at c1
        rw [c1] at h1
        rw [a10l0n]
        simp (maxSteps := 30000000) (disch := first | assumption | omega | (simp only [List.length_cons, List.length_nil, List.length_append, List.length_set, List.length_replicate, List.length_map, List.length_range, List.length_take, List.length_drop, List.all_cons, List.all_nil, AV.isCell, Bool.and_self, Bool.and_true, bs_length, is64_length, w64_length, ints_length, lfs_length, rls_length] <;> omega) | rfl | decide) only [a10l0b, run_seq, run_region, runOps_cons, oper_none, ex_mov, opv, List.getD_cons_succ, List.getD_cons_zero, putK_to, List.set_cons_succ, List.set_cons_zero, opsK_some, ex_faddr, faddrA_ptr, Nat.zero_add, valK_some, ex_load, rd_ptr, hG, rdK_cells, List.drop_succ_cons, List.drop_zero, List.take_succ_cons, List.take_nil, loadK_1, ex_len, lenA_sl, ex_bin, bin_lss, hlt, decide_true, runOps_nil, regK_some, seqK_normal, run_cond, condK_bool, run_skip, run_exit, if_true, run_block, ex_iaddr, iaddrA_sl, Int.toNat_natCast, rd_vptr, rls_at, loadK_n, ex_box, AV.cells, List.all_cons, AV.isCell, List.all_nil, Bool.and_self, ex_store, List.length_cons, List.length_nil, Nat.reduceAdd, wr_ptr, hget0, List.getElem?_cons_zero, wrK_cells, splice, List.take_zero, List.nil_append, List.drop_nil, List.append_nil, hset0, storeK_some, putK_no, Nat.add_zero, hgb, ex_call, List.map_cons, List.map_nil, pcallA_eq, frzN, List.mapM_cons, frz_sl, frz_int, List.mapM_nil, Option.pure_def, Option.bind_eq_bind, Option.bind_some, argK_some, h1, retK_some, scal, scal1, fzIds, List.flatMap_cons, bor_sl, bor_int, List.flatMap_nil, List.foldl_nil, ite_self, oper_guard, guardK_bool, Bool.false_eq_true, putA_to, if_false, frz_tup, Option.map_some, ex_pick, pickA_bool, ex_bslice, beq_self_eq_true, repz_1, Nat.mul_one, fillA, Nat.le_refl, and_self, newK_some, newA_data, List.isEmpty_nil, slK_some, ex_append, src_sl, blockK_normal, bin_add, cadd1, wr64, loopK_normal, a10l0c, e1]
end
end Go.Abs.Tree
