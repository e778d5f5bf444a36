/- Concat of two; Union. -/
import Derived.Test.YtijmhicopfphnaaDoorAL28
import Derived.Test.YtijmhicopfphnaaDoorAL7
namespace Go.Abs.Tree
open Go Go.Abs
set_option linter.unusedSimpArgs false
set_option linter.unusedVariables false

set_option maxHeartbeats 4000000 in
theorem concat67 (z1 z2 : Bool) (a b : List Int) (ha : a.length < 1099511627776) (hb : b.length < 1099511627776) :
    ∃ z, L.pcall 67 [.sl false 2 [iw z1 a, iw z2 b]] = some (iw z (a ++ b)) := by
  by_cases h0 : a.length + b.length = 0
  · have h1 : a = [] := List.length_eq_zero_iff.1 (by omega)
    have h2 : b = [] := List.length_eq_zero_iff.1 (by omega)
    subst h1; subst h2
    refine ⟨true, ?_⟩
    change L.pcall 67 [.sl false 2 [.sl z1 0 [], .sl z2 0 []]] = some (.sl true 0 [])
    rw [a67p, a67, pbodyA_eq]
    simp (maxSteps := 30000000) (disch := first | assumption | omega | (simp only [List.length_cons, List.length_nil, List.length_append, List.length_set, List.length_replicate, List.length_map, List.length_range, List.length_take, List.length_drop, List.all_cons, List.all_nil, AV.isCell, Bool.and_self, Bool.and_true, bs_length, is64_length, w64_length, ints_length, lfs_length, rls_length] <;> omega) | rfl | decide) only [bodyA_eq, List.length_cons, List.length_nil, Nat.zero_add, Nat.reduceSub, pads, List.cons_append, List.nil_append, run_seq, run_region, runOps_cons, oper_none, ex_mov, opv, putK_to, List.set_cons_succ, List.set_cons_zero, opsK_some, runOps_nil, regK_some, seqK_normal, List.getD_cons_zero, ex_len, List.getD_cons_succ, lenA_sl, castLit, valK_some, run_block, run_loop, a67l0c, a67l0n, a67l0b, ex_bin, bin_lss, Int.reduceLT, decide_true, run_cond, condK_bool, ↓reduceIte, run_skip, ex_iaddr, iaddrA_sl, Int.toNat_zero, Nat.mul_one, ex_load, rd_vptr, List.drop_zero, List.take_succ_cons, List.take_zero, loadK_1, bin_add, Int.add_zero, wr64, Int.lt_irrefl, decide_false, Bool.false_eq_true, blockK_normal, Int.zero_add, loopK_normal, Int.toNat_one, List.drop_succ_cons, List.take_nil, Int.reduceAdd, run_exit, seqK_exit, loopK_exit, blockK_exit, ex_icall, List.map_cons, List.map_nil, a91i, a91, List.append_nil, Nat.reduceAdd, ex_cap, bin_sub, Int.sub_zero, bin_gtr, run_ret, bodyK_ret, results_1, res_tmp, retvK_some, a67l1c, a67l1n, a67l1b, ex_append, src_sl, appK_nil, beq_self_eq_true, newA_own, appK_own, List.getElem?_cons_zero, appOK_cells, Bool.and_self, Nat.add_zero, pbodyK_some, frzN, frz_own, List.getElem?_cons_succ, frzK_cells, List.drop_nil, List.mapM_nil, Option.pure_def, slK_some]
  · refine ⟨false, ?_⟩
    have hn0 : (0 : Int) < ((a.length + b.length : Nat) : Int) := by omega
    have hz : (a.length + b.length == 0) = false := by rw [beq_eq_false_iff_ne]; omega
    have hl3 : (a ++ b).length = a.length + b.length := by simp
    have htk : List.take (a.length + b.length) (a ++ b) = a ++ b := List.take_of_length_le (by omega)
    rw [a67p, a67, pbodyA_eq]
    simp (maxSteps := 30000000) (disch := first | assumption | omega | (simp only [List.length_cons, List.length_nil, List.length_append, List.length_set, List.length_replicate, List.length_map, List.length_range, List.length_take, List.length_drop, List.all_cons, List.all_nil, AV.isCell, Bool.and_self, Bool.and_true, bs_length, is64_length, w64_length, ints_length, lfs_length, rls_length] <;> omega) | rfl | decide) only [bodyA_eq, List.length_cons, List.length_nil, Nat.zero_add, Nat.reduceSub, pads, List.cons_append, List.nil_append, run_seq, run_region, runOps_cons, oper_none, ex_mov, opv, putK_to, List.set_cons_succ, List.set_cons_zero, opsK_some, runOps_nil, regK_some, seqK_normal, List.getD_cons_zero, ex_len, List.getD_cons_succ, lenA_sl, castLit, valK_some, run_block, run_loop, a67l0c, a67l0n, a67l0b, ex_bin, bin_lss, Int.reduceLT, decide_true, run_cond, condK_bool, ↓reduceIte, run_skip, ex_iaddr, iaddrA_sl, Int.toNat_zero, Nat.mul_one, ex_load, rd_vptr, List.drop_zero, List.take_succ_cons, List.take_zero, loadK_1, bin_add, Int.zero_add, wr64, ltc0, decide_false, Bool.false_eq_true, blockK_normal, loopK_normal, Int.toNat_one, List.drop_succ_cons, List.take_nil, cadd, Int.reduceAdd, Int.lt_irrefl, run_exit, seqK_exit, loopK_exit, blockK_exit, ex_icall, List.map_cons, List.map_nil, a91i, a91, List.append_nil, Nat.reduceAdd, ex_cap, bin_sub, Int.sub_zero, bin_gtr, hn0, ex_slice, Option.map_none, Option.map_some, sliceA_sl, bounds_ns, cutK_sl, Nat.sub_zero, List.drop_nil, ex_appendz, appzK_int, Int.toNat_natCast, hz, repz_is64, newA_own, sliceA_own, cutK_own, Nat.add_zero, run_ret, bodyK_ret, results_1, res_tmp, retvK_some, a67l1c, a67l1n, a67l1b, ex_append, src_sl, appK_own, List.getElem?_cons_zero, appOK_cells, Bool.false_and, List.getElem?_cons_succ, ints_take, List.take_length, ints_app, pbodyK_some, frzN, frz_own, frzK_cells, htk, frz_ints, slK_some]
    exact congrArg some (sl_ints hl3)

set_option maxHeartbeats 4000000 in
theorem concat68 (z1 z2 : Bool) (a b : List Rl) (ha : a.length < 1099511627776) (hb : b.length < 1099511627776) :
    ∃ z, L.pcall 68 [.sl false 2 [.sl z1 a.length (rls a), .sl z2 b.length (rls b)]] = some (.sl z (a ++ b).length (rls (a ++ b))) := by
  have ta : List.take (a.length * 5) (rls a) = rls a := List.take_of_length_le (by rw [rls_length]; omega)
  have tb : List.take (b.length * 5) (rls b) = rls b := List.take_of_length_le (by rw [rls_length]; omega)
  by_cases h0 : a.length + b.length = 0
  · have h1 : a = [] := List.length_eq_zero_iff.1 (by omega)
    have h2 : b = [] := List.length_eq_zero_iff.1 (by omega)
    subst h1; subst h2
    refine ⟨true, ?_⟩
    change L.pcall 68 [.sl false 2 [.sl z1 0 [], .sl z2 0 []]] = some (.sl true 0 [])
    rw [a68p, a68, pbodyA_eq]
    simp (maxSteps := 30000000) (disch := first | assumption | omega | (simp only [List.length_cons, List.length_nil, List.length_append, List.length_set, List.length_replicate, List.length_map, List.length_range, List.length_take, List.length_drop, List.all_cons, List.all_nil, AV.isCell, Bool.and_self, Bool.and_true, bs_length, is64_length, w64_length, ints_length, lfs_length, rls_length] <;> omega) | rfl | decide) only [bodyA_eq, List.length_cons, List.length_nil, Nat.zero_add, Nat.reduceSub, pads, List.cons_append, List.nil_append, run_seq, run_region, runOps_cons, oper_none, ex_mov, opv, putK_to, List.set_cons_succ, List.set_cons_zero, opsK_some, runOps_nil, regK_some, seqK_normal, List.getD_cons_zero, ex_len, List.getD_cons_succ, lenA_sl, castLit, valK_some, run_block, run_loop, a68l0c, a68l0n, a68l0b, ex_bin, bin_lss, Int.reduceLT, decide_true, run_cond, condK_bool, ↓reduceIte, run_skip, ex_iaddr, iaddrA_sl, Int.toNat_zero, Nat.mul_one, ex_load, rd_vptr, List.drop_zero, List.take_succ_cons, List.take_zero, loadK_1, bin_add, Int.add_zero, wr64, Int.lt_irrefl, decide_false, Bool.false_eq_true, blockK_normal, Int.zero_add, loopK_normal, Int.toNat_one, List.drop_succ_cons, List.take_nil, Int.reduceAdd, run_exit, seqK_exit, loopK_exit, blockK_exit, ex_icall, List.map_cons, List.map_nil, a92i, a92, List.append_nil, Nat.reduceAdd, ex_cap, bin_sub, Int.sub_zero, bin_gtr, run_ret, bodyK_ret, results_1, res_tmp, retvK_some, a68l1c, a68l1n, a68l1b, ex_append, src_sl, appK_nil, beq_self_eq_true, newA_own, appK_own, List.getElem?_cons_zero, appOK_cells, Bool.and_self, Nat.add_zero, Nat.reduceMul, pbodyK_some, frzN, frz_own, List.getElem?_cons_succ, frzK_cells, List.drop_nil, List.mapM_nil, Option.pure_def, slK_some]
  · refine ⟨false, ?_⟩
    have hn0 : (0 : Int) < ((a.length + b.length : Nat) : Int) := by omega
    have hz : (a.length + b.length == 0) = false := by rw [beq_eq_false_iff_ne]; omega
    have hl3 : (a ++ b).length = a.length + b.length := by simp
    have app : rls a ++ rls b = rls (a ++ b) := rows_app ..
    have htk : List.take ((a.length + b.length) * 5) (rls (a ++ b)) = rls (a ++ b) := List.take_of_length_le (by rw [rls_length, hl3]; omega)
    rw [a68p, a68, pbodyA_eq]
    simp (maxSteps := 30000000) (disch := first | assumption | omega | (simp only [List.length_cons, List.length_nil, List.length_append, List.length_set, List.length_replicate, List.length_map, List.length_range, List.length_take, List.length_drop, List.all_cons, List.all_nil, AV.isCell, Bool.and_self, Bool.and_true, bs_length, is64_length, w64_length, ints_length, lfs_length, rls_length] <;> omega) | rfl | decide) only [bodyA_eq, List.length_cons, List.length_nil, Nat.zero_add, Nat.reduceSub, pads, List.cons_append, List.nil_append, run_seq, run_region, runOps_cons, oper_none, ex_mov, opv, putK_to, List.set_cons_succ, List.set_cons_zero, opsK_some, runOps_nil, regK_some, seqK_normal, List.getD_cons_zero, ex_len, List.getD_cons_succ, lenA_sl, castLit, valK_some, run_block, run_loop, a68l0c, a68l0n, a68l0b, ex_bin, bin_lss, Int.reduceLT, decide_true, run_cond, condK_bool, ↓reduceIte, run_skip, ex_iaddr, iaddrA_sl, Int.toNat_zero, Nat.mul_one, ex_load, rd_vptr, List.drop_zero, List.take_succ_cons, List.take_zero, loadK_1, bin_add, Int.zero_add, wr64, ltc0, decide_false, Bool.false_eq_true, blockK_normal, loopK_normal, Int.toNat_one, List.drop_succ_cons, List.take_nil, cadd, Int.reduceAdd, Int.lt_irrefl, run_exit, seqK_exit, loopK_exit, blockK_exit, ex_icall, List.map_cons, List.map_nil, a92i, a92, List.append_nil, Nat.reduceAdd, ex_cap, bin_sub, Int.sub_zero, bin_gtr, hn0, ex_slice, Option.map_none, Option.map_some, sliceA_sl, bounds_ns, cutK_sl, Nat.sub_zero, Nat.reduceMul, List.drop_nil, ex_appendz, appzK_int, Int.toNat_natCast, hz, newA_own, sliceA_own, cutK_own, Nat.add_zero, run_ret, bodyK_ret, results_1, res_tmp, retvK_some, a68l1c, a68l1n, a68l1b, ex_append, src_sl, appK_own, List.getElem?_cons_zero, appOK_cells, Bool.false_and, List.getElem?_cons_succ, ta, app, pbodyK_some, frzN, frz_own, frzK_cells, htk, frz_rls, slK_some, List.length_append]

/-- the states' new numbers -/
def offs (sa n : Nat) : List Nat := (List.range n).map (sa + ·)
theorem offs_len (sa n : Nat) : (offs sa n).length = n := by simp [offs]

theorem offs_loop {x : Aut} {sa n : Nat} {cy cz b3 b4 : Blk} (hs : x.states = (sa : Nat)) (hsa : sa ≤ 64) (hn : n ≤ 64) : ∀ d i, i + d = n →
    L.loop a30l1s a30l1 ⟨a30l1F (.ptr 0 0) (.ptr 1 0) (.ptr 2 0) (.own false 5 0 n 1) (.int .i64 (n : Nat)) (.int .i64 (i : Nat)), [.cells false false x.cells, cy, cz, b3, b4, .cells false false (is64 (offs sa i ++ List.replicate d 0))]⟩ =
      some (.exit 3, ⟨a30l1F (.ptr 0 0) (.ptr 1 0) (.ptr 2 0) (.own false 5 0 n 1) (.int .i64 (n : Nat)) (.int .i64 (n : Nat)), [.cells false false x.cells, cy, cz, b3, b4, .cells false false (is64 (offs sa n))]⟩)
  | 0, i, h => by
    obtain rfl : i = n := by omega
    rw [List.replicate_zero, List.append_nil, a30l1n]
    simp (maxSteps := 30000000) (disch := first | assumption | omega | (simp only [List.length_cons, List.length_nil, List.length_append, List.length_set, List.length_replicate, List.length_map, List.length_range, List.length_take, List.length_drop, List.all_cons, List.all_nil, AV.isCell, Bool.and_self, Bool.and_true, bs_length, is64_length, w64_length, ints_length, lfs_length, rls_length] <;> omega) | rfl | decide) only [a30l1b, run_seq, run_region, runOps_cons, oper_none, ex_bin, opv, List.getD_cons_succ, List.getD_cons_zero, bin_lss, Int.lt_irrefl, decide_false, valK_some, putK_to, List.set_cons_succ, List.set_cons_zero, opsK_some, runOps_nil, regK_some, seqK_normal, run_cond, condK_bool, Bool.false_eq_true, ↓reduceIte, run_exit, seqK_exit, loopK_exit, a30l1c]
  | d + 1, i, h => by
    have hlt : (i : Int) < (n : Nat) := by omega
    have hl := offs_len sa i
    have hll : (offs sa i ++ List.replicate (d + 1) 0).length = n := by simp [hl]; omega
    have ih := offs_loop (cy := cy) (cz := cz) (b3 := b3) (b4 := b4) hs hsa hn d (i + 1) (by omega)
    have hset : (offs sa i ++ List.replicate (d + 1) 0).set i (sa + i) = offs sa (i + 1) ++ List.replicate d 0 := by
      rw [List.set_append_right _ _ (by omega), hl, Nat.sub_self, List.replicate_succ, List.set_cons_zero]
      simp [offs, List.range_succ]
    rw [a30l1n]
    simp (maxSteps := 30000000) (disch := first | assumption | omega | (simp only [List.length_cons, List.length_nil, List.length_append, List.length_set, List.length_replicate, List.length_map, List.length_range, List.length_take, List.length_drop, List.all_cons, List.all_nil, AV.isCell, Bool.and_self, Bool.and_true, bs_length, is64_length, w64_length, ints_length, lfs_length, rls_length] <;> omega) | rfl | decide) only [a30l1b, run_seq, run_region, runOps_cons, oper_none, ex_bin, opv, List.getD_cons_succ, List.getD_cons_zero, bin_lss, hlt, decide_true, valK_some, putK_to, List.set_cons_succ, List.set_cons_zero, opsK_some, runOps_nil, regK_some, seqK_normal, run_cond, condK_bool, ↓reduceIte, run_skip, run_block, ex_mov, ex_faddr, faddrA_ptr, Nat.zero_add, ex_load, rd_ptr, List.getElem?_cons_zero, rdK_cells, List.drop_succ_cons, hs, List.drop_zero, List.take_succ_cons, List.take_zero, loadK_1, bin_add, cadd, wr64, ex_iaddr, iaddrA_own, Int.toNat_natCast, Nat.mul_one, ex_store, AV.cells, List.length_cons, List.length_nil, wr_ptr, List.getElem?_cons_succ, wrK_cells, splice, is64_take, is64_drop, List.append_assoc, List.cons_append, List.nil_append, is64_put1, hset, storeK_some, putK_no, blockK_normal, cadd1, loopK_normal, a30l1c, ih]

def shR (k : Int) (u : Rl) : Rl := ⟨k + u.l, k + u.r, k + u.t, u.p, u.n⟩
theorem offs_num {sa n : Nat} {q : Int} (h0 : 0 ≤ q) (h1 : q < (n : Nat)) : numM ((offs sa n).map fun (k : Nat) => (k : Int)) q = sa + q := by
  have h : q.toNat < n := by omega
  simp [numM, offs, List.getD, List.getElem?_map, List.getElem?_range h]
  omega
theorem mapL_offs {sa n : Nat} : ∀ l : List Int, (∀ q ∈ l, 0 ≤ q ∧ q < (n : Nat)) → mapL ((offs sa n).map fun (k : Nat) => (k : Int)) l = l.map fun q => (sa : Int) + q
  | [], _ => rfl
  | q :: l, h => by
    have hq := h q (by simp)
    rw [mapL, offs_num hq.1 hq.2, if_pos (by omega), mapL_offs l (fun q hq => h q (by simp [hq])), List.map_cons]
theorem mapR_offs {sa n : Nat} : ∀ l : List Rl, (∀ u ∈ l, (0 ≤ u.l ∧ u.l < (n : Nat)) ∧ (0 ≤ u.r ∧ u.r < (n : Nat)) ∧ (0 ≤ u.t ∧ u.t < (n : Nat))) → mapR ((offs sa n).map fun (k : Nat) => (k : Int)) l = l.map (shR sa)
  | [], _ => rfl
  | u :: l, h => by
    obtain ⟨h1, h2, h3⟩ := h u (by simp)
    rw [mapR, mvR, offs_num h1.1 h1.2, offs_num h2.1 h2.2, offs_num h3.1 h3.2, if_pos (by omega), mapR_offs l (fun u hu => h u (by simp [hu])), List.map_cons]
    rfl

/-- the empty automaton -/
abbrev zA : Aut := ⟨0, 0, true, [], true, [], true, []⟩
/-- the united automaton -/
abbrev uniA (x y : Aut) (z1 z2 z3 : Bool) : Aut := ⟨x.vars, x.states + y.states, z1, x.st ++ y.st.map fun q => x.states + q, z2, x.fi ++ y.fi.map fun q => x.states + q, z3, x.rl ++ y.rl.map (shR x.states)⟩
def uniE (x y : Aut) : Int := if chkE x = 0 then if chkE y = 0 then if x.vars = y.vars then if 64 < x.states + y.states ∨ 512 < x.rl.length + y.rl.length then 4 else 0 else 7 else chkE y else chkE x

theorem is64_ints (l : List Nat) : is64 l = ints (l.map fun (k : Nat) => (k : Int)) := by simp [is64, ints]
end Go.Abs.Tree
