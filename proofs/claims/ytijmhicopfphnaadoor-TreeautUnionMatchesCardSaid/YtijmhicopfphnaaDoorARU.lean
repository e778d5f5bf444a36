/- Union, the results the caller's own. -/
import Derived.Test.YtijmhicopfphnaaDoorAL29
import Derived.Test.YtijmhicopfphnaaDoorAR5
namespace Go.Abs.Tree
open Go Go.Abs
set_option linter.unusedSimpArgs false
set_option linter.unusedVariables false

theorem cc67 (z1 z2 : Bool) (a b : List Int) (ha : a.length < 1099511627776) (hb : b.length < 1099511627776) :
    ocallA L 67 [.sl false 2 [iw z1 a, iw z2 b]] = some (.own ((a ++ b).length == 0) 0 0 (a ++ b).length 1, [.cells false ((a ++ b).length == 0) (ints (a ++ b))]) := by
  by_cases h0 : a.length + b.length = 0
  · have h1 : a = [] := List.length_eq_zero_iff.1 (by omega)
    have h2 : b = [] := List.length_eq_zero_iff.1 (by omega)
    subst h1; subst h2
    exact concat67n z1 z2
  · have hz : ((a ++ b).length == 0) = false := by rw [beq_eq_false_iff_ne, List.length_append]; omega
    rw [hz]
    exact concat67o z1 z2 a b ha hb (by omega)
theorem cc68 (z1 z2 : Bool) (a b : List Rl) (ha : a.length < 1099511627776) (hb : b.length < 1099511627776) :
    ocallA L 68 [.sl false 2 [.sl z1 a.length (rls a), .sl z2 b.length (rls b)]] = some (.own ((a ++ b).length == 0) 0 0 (a ++ b).length 5, [.cells false ((a ++ b).length == 0) (rls (a ++ b))]) := by
  by_cases h0 : a.length + b.length = 0
  · have h1 : a = [] := List.length_eq_zero_iff.1 (by omega)
    have h2 : b = [] := List.length_eq_zero_iff.1 (by omega)
    subst h1; subst h2
    exact concat68n z1 z2
  · have hz : ((a ++ b).length == 0) = false := by rw [beq_eq_false_iff_ne, List.length_append]; omega
    rw [hz]
    exact concat68o z1 z2 a b ha hb (by omega)

abbrev zC : Blk := .cells false false [.int .i64 0, .int .i64 0, .sl true 0 [], .sl true 0 [], .sl true 0 []]

section
variable {x y : Aut} {s5 : AV}
abbrev xyA (x y : Aut) : AV := .agg [.int .i64 x.vars, .int .i64 x.states, iw x.z1 x.st, iw x.z2 x.fi, .sl x.z3 x.rl.length (rls x.rl), .int .i64 y.vars, .int .i64 y.states, iw y.z1 y.st, iw y.z2 y.fi, .sl y.z3 y.rl.length (rls y.rl)]
noncomputable abbrev L0 (x y : Aut) (s5 : AV) (i : Int) (H : Heap) := L.loop a30l0s a30l0 ⟨a30l0F (.ptr 0 0) (.ptr 1 0) (.ptr 2 0) s5 (xyA x y) (.int .i64 i), H⟩
abbrev H0 (x y : Aut) : Heap := [.cells false false x.cells, .cells false false y.cells, zC]

theorem chk_end (T : Heap) : L0 x y s5 2 (H0 x y ++ T) = some (.exit 0, ⟨a30l0F (.ptr 0 0) (.ptr 1 0) (.ptr 2 0) s5 (xyA x y) (.int .i64 2), H0 x y ++ T⟩) := by
  unfold L0
  rw [a30l0n]
  simp (maxSteps := 30000000) (disch := first | assumption | omega | (simp only [List.length_cons, List.length_nil, List.length_append, List.length_set, List.length_replicate, List.length_map, List.length_range, List.length_take, List.length_drop, List.all_cons, List.all_nil, AV.isCell, Bool.and_self, Bool.and_true, bs_length, is64_length, w64_length, ints_length, lfs_length, rls_length] <;> omega) | rfl | decide) only [a30l0b, List.cons_append, List.nil_append, run_seq, run_region, runOps_cons, oper_none, ex_bin, opv, List.getD_cons_succ, List.getD_cons_zero, bin_lss, Int.lt_irrefl, decide_false, valK_some, putK_to, List.set_cons_succ, List.set_cons_zero, opsK_some, runOps_nil, regK_some, seqK_normal, run_cond, condK_bool, Bool.false_eq_true, ↓reduceIte, run_exit, seqK_exit, loopK_exit, a30l0c]
theorem chk_next {i : Int} {n : Aut} (hi : i = 0 ∧ n = x ∨ i = 1 ∧ n = y) (T : Heap) (h : L.pcall 14 [n.av] = some (.int .i64 0)) : L0 x y s5 i (H0 x y ++ T) = L0 x y s5 (i + 1) (H0 x y ++ T ++ [.cells false false n.cells]) := by
  unfold L0
  rw [a30l0n]
  rcases hi with ⟨rfl, rfl⟩ | ⟨rfl, rfl⟩
  · simp (maxSteps := 30000000) (disch := first | assumption | omega | (simp only [List.length_cons, List.length_nil, List.length_append, List.length_set, List.length_replicate, List.length_map, List.length_range, List.length_take, List.length_drop, List.all_cons, List.all_nil, AV.isCell, Bool.and_self, Bool.and_true, bs_length, is64_length, w64_length, ints_length, lfs_length, rls_length] <;> omega) | rfl | decide) only [a30l0b, List.cons_append, List.nil_append, run_seq, run_region, runOps_cons, oper_none, ex_bin, opv, List.getD_cons_succ, List.getD_cons_zero, bin_lss, Int.reduceLT, decide_true, valK_some, putK_to, List.set_cons_succ, List.set_cons_zero, opsK_some, runOps_nil, regK_some, seqK_normal, run_cond, condK_bool, ↓reduceIte, run_skip, run_block, ex_idx, idxA_agg, Int.toNat_zero, Nat.reduceMul, List.drop_zero, List.take_succ_cons, List.take_zero, mkv_n, ex_box, AV.cells, List.all_cons, AV.isCell, List.all_nil, Bool.and_self, List.length_cons, ex_store, List.length_nil, Nat.zero_add, Nat.reduceAdd, wr_ptr, List.getElem?_cons_succ, hget0, List.getElem?_cons_zero, wrK_cells, splice, List.drop_succ_cons, List.drop_nil, List.append_nil, hset0, storeK_some, putK_no, ex_load, rd_ptr, rdK_cells, List.take_nil, loadK_n, ex_call, List.map_cons, List.map_nil, pcallA_eq, frzN, List.mapM_cons, frz_agg, frz_int, frz_sl, List.mapM_nil, Option.pure_def, Option.bind_eq_bind, Option.bind_some, Option.map_some, argK_some, h, retK_some, scal, scal1, ex_mov, bin_neq, Bool.not_true, Bool.false_eq_true, blockK_normal, bin_add, Int.zero_add, wr64, loopK_normal, a30l0c]
  · simp (maxSteps := 30000000) (disch := first | assumption | omega | (simp only [List.length_cons, List.length_nil, List.length_append, List.length_set, List.length_replicate, List.length_map, List.length_range, List.length_take, List.length_drop, List.all_cons, List.all_nil, AV.isCell, Bool.and_self, Bool.and_true, bs_length, is64_length, w64_length, ints_length, lfs_length, rls_length] <;> omega) | rfl | decide) only [a30l0b, List.cons_append, List.nil_append, run_seq, run_region, runOps_cons, oper_none, ex_bin, opv, List.getD_cons_succ, List.getD_cons_zero, bin_lss, Int.reduceLT, decide_true, valK_some, putK_to, List.set_cons_succ, List.set_cons_zero, opsK_some, runOps_nil, regK_some, seqK_normal, run_cond, condK_bool, ↓reduceIte, run_skip, run_block, ex_idx, idxA_agg, Int.toNat_one, Nat.reduceMul, List.drop_succ_cons, List.drop_zero, List.take_succ_cons, List.take_nil, mkv_n, ex_box, AV.cells, List.all_cons, AV.isCell, List.all_nil, Bool.and_self, List.length_cons, ex_store, List.length_nil, Nat.zero_add, Nat.reduceAdd, wr_ptr, List.getElem?_cons_succ, hget0, List.getElem?_cons_zero, wrK_cells, splice, List.take_zero, List.drop_nil, List.append_nil, hset0, storeK_some, putK_no, ex_load, rd_ptr, rdK_cells, loadK_n, ex_call, List.map_cons, List.map_nil, pcallA_eq, frzN, List.mapM_cons, frz_agg, frz_int, frz_sl, List.mapM_nil, Option.pure_def, Option.bind_eq_bind, Option.bind_some, Option.map_some, argK_some, h, retK_some, scal, scal1, ex_mov, bin_neq, Bool.not_true, Bool.false_eq_true, blockK_normal, bin_add, Int.reduceAdd, wr64, loopK_normal, a30l0c]
theorem chk_stop {i : Int} {n : Aut} {e : Int} (hi : i = 0 ∧ n = x ∨ i = 1 ∧ n = y) (he : e ≠ 0) (T : Heap) (h : L.pcall 14 [n.av] = some (.int .i64 e)) : L0 x y s5 i (H0 x y ++ T) = some (.ret, ⟨a30l0F (.ptr 0 0) (.ptr 1 0) (.ptr 2 0) (.int .i64 e) (xyA x y) (.int .i64 i), H0 x y ++ T ++ [.cells false false n.cells]⟩) := by
  unfold L0
  rw [a30l0n]
  rcases hi with ⟨rfl, rfl⟩ | ⟨rfl, rfl⟩
  · simp (maxSteps := 30000000) (disch := first | assumption | omega | (simp only [List.length_cons, List.length_nil, List.length_append, List.length_set, List.length_replicate, List.length_map, List.length_range, List.length_take, List.length_drop, List.all_cons, List.all_nil, AV.isCell, Bool.and_self, Bool.and_true, bs_length, is64_length, w64_length, ints_length, lfs_length, rls_length] <;> omega) | rfl | decide) only [a30l0b, List.cons_append, List.nil_append, run_seq, run_region, runOps_cons, oper_none, ex_bin, opv, List.getD_cons_succ, List.getD_cons_zero, bin_lss, Int.reduceLT, decide_true, valK_some, putK_to, List.set_cons_succ, List.set_cons_zero, opsK_some, runOps_nil, regK_some, seqK_normal, run_cond, condK_bool, ↓reduceIte, run_skip, run_block, ex_idx, idxA_agg, Int.toNat_zero, Nat.reduceMul, List.drop_zero, List.take_succ_cons, List.take_zero, mkv_n, ex_box, AV.cells, List.all_cons, AV.isCell, List.all_nil, Bool.and_self, List.length_cons, ex_store, List.length_nil, Nat.zero_add, Nat.reduceAdd, wr_ptr, List.getElem?_cons_succ, hget0, List.getElem?_cons_zero, wrK_cells, splice, List.drop_succ_cons, List.drop_nil, List.append_nil, hset0, storeK_some, putK_no, ex_load, rd_ptr, rdK_cells, List.take_nil, loadK_n, ex_call, List.map_cons, List.map_nil, pcallA_eq, frzN, List.mapM_cons, frz_agg, frz_int, frz_sl, List.mapM_nil, Option.pure_def, Option.bind_eq_bind, Option.bind_some, Option.map_some, argK_some, h, retK_some, scal, scal1, ex_mov, bin_neq, he, decide_false, Bool.not_false, ex_build, fillA, run_ret, blockK_ret, seqK_ret, loopK_ret, a30l0c]
  · simp (maxSteps := 30000000) (disch := first | assumption | omega | (simp only [List.length_cons, List.length_nil, List.length_append, List.length_set, List.length_replicate, List.length_map, List.length_range, List.length_take, List.length_drop, List.all_cons, List.all_nil, AV.isCell, Bool.and_self, Bool.and_true, bs_length, is64_length, w64_length, ints_length, lfs_length, rls_length] <;> omega) | rfl | decide) only [a30l0b, List.cons_append, List.nil_append, run_seq, run_region, runOps_cons, oper_none, ex_bin, opv, List.getD_cons_succ, List.getD_cons_zero, bin_lss, Int.reduceLT, decide_true, valK_some, putK_to, List.set_cons_succ, List.set_cons_zero, opsK_some, runOps_nil, regK_some, seqK_normal, run_cond, condK_bool, ↓reduceIte, run_skip, run_block, ex_idx, idxA_agg, Int.toNat_one, Nat.reduceMul, List.drop_succ_cons, List.drop_zero, List.take_succ_cons, List.take_nil, mkv_n, ex_box, AV.cells, List.all_cons, AV.isCell, List.all_nil, Bool.and_self, List.length_cons, ex_store, List.length_nil, Nat.zero_add, Nat.reduceAdd, wr_ptr, List.getElem?_cons_succ, hget0, List.getElem?_cons_zero, wrK_cells, splice, List.take_zero, List.drop_nil, List.append_nil, hset0, storeK_some, putK_no, ex_load, rd_ptr, rdK_cells, loadK_n, ex_call, List.map_cons, List.map_nil, pcallA_eq, frzN, List.mapM_cons, frz_agg, frz_int, frz_sl, List.mapM_nil, Option.pure_def, Option.bind_eq_bind, Option.bind_some, Option.map_some, argK_some, h, retK_some, scal, scal1, ex_mov, bin_neq, he, decide_false, Bool.not_false, ex_build, fillA, run_ret, blockK_ret, seqK_ret, loopK_ret, a30l0c]
end

theorem chk_both {x y : Aut} (hx : TyA x) (hy : TyA y) (k1 : chkE x = 0) (k2 : chkE y = 0) : L.loop a30l0s a30l0 ⟨a30l0F (.ptr 0 0) (.ptr 1 0) (.ptr 2 0) (.int .i64 0) (xyA x y) (.int .i64 0), [.cells false false x.cells, .cells false false y.cells, zC]⟩ =
    some (.exit 0, ⟨a30l0F (.ptr 0 0) (.ptr 1 0) (.ptr 2 0) (.int .i64 0) (xyA x y) (.int .i64 2), [.cells false false x.cells, .cells false false y.cells, zC, .cells false false x.cells, .cells false false y.cells]⟩) := by
  have c1 := check_eq x hx.st hx.fi hx.rl hx.u8
  have c2 := check_eq y hy.st hy.fi hy.rl hy.u8
  rw [k1] at c1
  rw [k2] at c2
  have n1 := chk_next (x := x) (y := y) (s5 := .int .i64 0) (.inl ⟨rfl, rfl⟩) [] c1
  have n2 := chk_next (x := x) (y := y) (s5 := .int .i64 0) (.inr ⟨rfl, rfl⟩) [.cells false false x.cells] c2
  have n3 := chk_end (x := x) (y := y) (s5 := .int .i64 0) [.cells false false x.cells, .cells false false y.cells]
  simp only [List.append_nil, Int.zero_add, H0, List.cons_append, List.nil_append, Int.reduceAdd] at n1 n2 n3
  exact n1.trans (n2.trans n3)

set_option maxRecDepth 20000 in
set_option maxHeartbeats 2000000 in
theorem union_own (x y : Aut) (hx : TyA x) (hy : TyA y) (h : uniE x y = 0) : ocallA L 30 [x.av, y.av] = some (.tup [.agg [.int .i64 x.vars, .int .i64 (x.states + y.states), .own ((x.st ++ y.st.map fun q => x.states + q).length == 0) 0 0 (x.st ++ y.st.map fun q => x.states + q).length 1, .own ((x.fi ++ y.fi.map fun q => x.states + q).length == 0) 1 0 (x.fi ++ y.fi.map fun q => x.states + q).length 1, .own ((x.rl ++ y.rl.map (shR x.states)).length == 0) 2 0 (x.rl ++ y.rl.map (shR x.states)).length 5], .int .i64 0],
    [.cells false ((x.st ++ y.st.map fun q => x.states + q).length == 0) (ints (x.st ++ y.st.map fun q => x.states + q)), .cells false ((x.fi ++ y.fi.map fun q => x.states + q).length == 0) (ints (x.fi ++ y.fi.map fun q => x.states + q)), .cells false ((x.rl ++ y.rl.map (shR x.states)).length == 0) (rls (x.rl ++ y.rl.map (shR x.states)))]) := by
  unfold uniE at h
  split at h
  case isFalse => contradiction
  rename_i k1
  split at h
  case isFalse => contradiction
  rename_i k2
  split at h
  case isFalse => omega
  rename_i k3
  split at h
  case isTrue => omega
  rename_i k45
  have k4 : ¬ 64 < x.states + y.states := by omega
  have k5 : ¬ 512 < x.rl.length + y.rl.length := by omega
  have hL := chk_both hx hy k1 k2
  have hVx := chkE_zero.1 k1
  have hVy := chkE_zero.1 k2
  have s1 := hVx.s0
  have s2 := hVx.s64
  have s3 := hVy.s0
  have s4 := hVy.s64
  obtain ⟨sa, hsa⟩ : ∃ sa : Nat, x.states = (sa : Nat) := ⟨x.states.toNat, by omega⟩
  obtain ⟨n, hn⟩ : ∃ n : Nat, y.states = (n : Nat) := ⟨y.states.toNat, by omega⟩
  have e3 : (x.vars = y.vars) = True := eq_true k3
  have e64 : ((64 : Int) < ((sa + n : Nat) : Int)) = False := eq_false (by omega)
  have e512 : ((512 : Int) < ((x.rl.length + y.rl.length : Nat) : Int)) = False := eq_false (by omega)
  have sts : ∀ q ∈ y.st, 0 ≤ q ∧ q < (n : Nat) := fun q hq => by have := ascB_mem hVy.st q hq; omega
  have fis : ∀ q ∈ y.fi, 0 ≤ q ∧ q < (n : Nat) := fun q hq => by have := ascB_mem hVy.fi q hq; omega
  have rls' : ∀ u ∈ y.rl, (0 ≤ u.l ∧ u.l < (n : Nat)) ∧ (0 ≤ u.r ∧ u.r < (n : Nat)) ∧ (0 ≤ u.t ∧ u.t < (n : Nat)) := fun u hu => by have := hVy.rule u hu; omega
  have hnl : ((offs sa n).map fun (k : Nat) => (k : Int)).length = n := by rw [List.length_map, offs_len]
  obtain ⟨m1, m2, m3, hm⟩ := mapped58 y false ((offs sa n).map fun (k : Nat) => (k : Int)) hy.st hy.fi hy.rl (by rw [hnl]; exact sts) (by rw [hnl]; exact fis) (by rw [hnl]; exact rls')
  unfold mapA at hm
  rw [mapL_offs _ sts, mapL_offs _ fis, mapR_offs _ rls'] at hm
  have hol := offs_loop (x := x) (sa := sa) (n := n) (cy := .cells false false y.cells) (cz := zC) (b3 := .cells false false x.cells) (b4 := .cells false false y.cells) hsa (by omega) (by omega) n 0 (by omega)
  have ho0 : offs sa 0 ++ List.replicate n 0 = List.replicate n 0 := rfl
  rw [ho0] at hol
  have hfl : iw false ((offs sa n).map fun (k : Nat) => (k : Int)) = .sl false n (is64 (offs sa n)) := by rw [is64_ints]; unfold iw; rw [hnl]
  rw [hfl] at hm
  have d1 := cc67 x.z1 m1 x.st (y.st.map fun q => (sa : Int) + q) hx.st (by rw [List.length_map]; exact hy.st)
  have d2 := cc67 x.z2 m2 x.fi (y.fi.map fun q => (sa : Int) + q) hx.fi (by rw [List.length_map]; exact hy.fi)
  have d3 := cc68 x.z3 m3 x.rl (y.rl.map (shR sa)) hx.rl (by rw [List.length_map]; exact hy.rl)
  simp only [Aut.av, Aut.cells, xyA, zC, hsa, hn] at hm hL hol ⊢
  have ol := offs_len sa n
  have htk : List.take n (offs sa n) = offs sa n := List.take_of_length_le (by omega)
  have e1 : ∀ (l : List Int), List.take l.length l = l := fun l => List.take_length
  have e2 : ∀ (l : List Rl), List.take (l.length * 5) (rls l) = rls l := fun l => List.take_of_length_le (by rw [rls_length]; omega)
  have m1 : (x.st ++ y.st.map fun q => (sa : Int) + q).length < 2199023255552 := by rw [List.length_append, List.length_map]; have := hx.st; have := hy.st; omega
  have m2 : (x.fi ++ y.fi.map fun q => (sa : Int) + q).length < 2199023255552 := by rw [List.length_append, List.length_map]; have := hx.fi; have := hy.fi; omega
  have m3 : (x.rl ++ y.rl.map (shR sa)).length < 2199023255552 := by rw [List.length_append, List.length_map]; have := hx.rl; have := hy.rl; omega
  generalize hS : x.st ++ y.st.map (fun q => (sa : Int) + q) = S at *
  generalize hF : x.fi ++ y.fi.map (fun q => (sa : Int) + q) = F at *
  generalize hR : x.rl ++ y.rl.map (shR (sa : Int)) = R at *
  generalize y.st.map (fun q => (sa : Int) + q) = S' at *
  generalize y.fi.map (fun q => (sa : Int) + q) = F' at *
  generalize y.rl.map (shR (sa : Int)) = R' at *
  simp only [Int.natCast_zero] at hol
  rw [ocallA_eq, a30i, a30, bodyA_eq]
  simp (maxSteps := 30000000) (disch := first | assumption | omega | (simp only [List.length_cons, List.length_nil, List.length_append, List.length_set, List.length_replicate, List.length_map, List.length_range, List.length_take, List.length_drop, List.all_cons, List.all_nil, AV.isCell, Bool.and_self, Bool.and_true, bs_length, is64_length, w64_length, ints_length, lfs_length, rls_length] <;> omega) | rfl | decide) only [List.append_nil, List.length_cons, List.length_nil, Nat.zero_add, Nat.reduceAdd, Nat.reduceSub, pads, List.cons_append, List.nil_append, run_seq, run_region, runOps_cons, oper_none, ex_box, AV.cells, opv, List.getD_cons_zero, List.all_cons, AV.isCell, List.all_nil, Bool.and_self, ↓reduceIte, putK_to, List.set_cons_succ, List.set_cons_zero, opsK_some, List.getD_cons_succ, ex_mov, runOps_nil, regK_some, seqK_normal, ex_load, rd_ptr, List.getElem?_cons_zero, rdK_cells, List.drop_zero, List.take_succ_cons, List.take_nil, loadK_n, valK_some, List.getElem?_cons_succ, ex_build, beq_self_eq_true, List.map_cons, List.map_nil, fillA, Nat.reduceLeDiff, and_self, splice, List.take_zero, List.drop_succ_cons, Nat.le_refl, List.drop_nil, Option.map_some, run_block, run_loop, a30l0c, hL, blockK_exit, ex_faddr, faddrA_ptr, Nat.add_zero, loadK_1, ex_bin, bin_neq, e3, decide_true, Bool.not_true, run_cond, condK_bool, Bool.false_eq_true, bin_add, cadd, wr64, bin_gtr, e64, decide_false, oper_guard, guardK_bool, ex_len, lenA_sl, e512, ex_pick, pickA_bool, run_skip, blockK_normal, ex_mkslice, mksK_int, Int.toNat_natCast, repz_is64, newA_own, lenA_own, a30l1c, hol, ex_call, pcallA_eq, frzN, List.mapM_cons, frz_agg, frz_int, frz_sl, List.mapM_nil, Option.pure_def, Option.bind_eq_bind, Option.bind_some, frz_own, frzK_cells, Nat.mul_one, is64_take, htk, frz_is64, slK_some, argK_some, hm, retK_some, scal, scal1, Bool.and_true, Bool.and_false, fzIds, List.flatMap_cons, bor_agg, bor_int, bor_sl, List.flatMap_nil, bor_own, borK_cells, bor_is64, List.foldl_cons, List.modify_cons, Nat.reduceEqDiff, fzBlk, List.foldl_nil, ex_store, wr_ptr, wrK_cells, storeK_some, putK_no, run_drawp, runPriv_cons, isPriv_faddr, foper_none, fe_faddr, fstK_some, fputK_to, free1K_some, isPriv_load, fe_load, isPriv_bin, fe_bin, isPriv_bslt, fe_bslice, ex_bslice, repz_2, newK_some, newA_data, List.isEmpty_nil, isPriv_ocall, privA_eq, AOp.args, dataV, data1, ex_ocall, ocArgK_some, d1, ocK_some, liftV, lift2, lift1, privK_some, relV, rel2, rel1, allData_cons, dat_ints, allData_nil, priv1K_some, d2, d3, dat_rls, runPriv_nil, consK_some, drawpK_some, adoptS_nil, adoptL, apartK_some, run_ret, bodyK_ret, results_2, resL_cons, res_cell, cellK_some, mkv_n, resK_some, res_tmp, resL_nil, retvK_some, ocallK_some, compact_tup, takeL2_cons, take2_agg, takeL_cons, take1_int, tkL_some, take1_own, findI_nil, t1I_new, findI_cons, Nat.reduceBEq, Option.map_none, takeL_nil, tkL2_some, take2_int, takeL2_nil]
end Go.Abs.Tree

/- Union's errors, in the caller's own form. -/
namespace Go.Abs.Tree
open Go Go.Abs
set_option linter.unusedSimpArgs false
set_option linter.unusedVariables false

set_option maxRecDepth 20000 in
set_option maxHeartbeats 2000000 in
theorem union_erro (x y : Aut) (hx : TyA x) (hy : TyA y) (h : chkE x ≠ 0 ∨ chkE y ≠ 0) : ocallA L 30 [x.av, y.av] = some (.tup [zA.av, .int .i64 (uniE x y)], []) := by
  have c1 := check_eq x hx.st hx.fi hx.rl hx.u8
  have c2 := check_eq y hy.st hy.fi hy.rl hy.u8
  unfold uniE
  change _ = some (AV.tup [.agg [.int .i64 0, .int .i64 0, .sl true 0 [], .sl true 0 [], .sl true 0 []], _], [])
  by_cases k1 : chkE x = 0
  · rw [if_pos k1, if_neg (by omega)]
    rw [k1] at c1
    have n1 := chk_next (x := x) (y := y) (s5 := .int .i64 0) (.inl ⟨rfl, rfl⟩) [] c1
    have n2 := chk_stop (x := x) (y := y) (s5 := .int .i64 0) (.inr ⟨rfl, rfl⟩) (by omega) [.cells false false x.cells] c2
    simp only [List.append_nil, Int.zero_add, H0, List.cons_append, List.nil_append] at n1 n2
    have hL := n1.trans n2
    unfold L0 at hL
    generalize chkE y = e at *
    rw [ocallA_eq, a30i, a30, bodyA_eq]
    simp (maxSteps := 30000000) (disch := first | assumption | omega | (simp only [List.length_cons, List.length_nil, List.length_append, List.length_set, List.length_replicate, List.length_map, List.length_range, List.length_take, List.length_drop, List.all_cons, List.all_nil, AV.isCell, Bool.and_self, Bool.and_true, bs_length, is64_length, w64_length, ints_length, lfs_length, rls_length] <;> omega) | rfl | decide) only [List.append_nil, List.length_cons, List.length_nil, Nat.zero_add, Nat.reduceAdd, Nat.reduceSub, pads, List.cons_append, List.nil_append, run_seq, run_region, runOps_cons, oper_none, ex_box, AV.cells, opv, List.getD_cons_zero, List.all_cons, AV.isCell, List.all_nil, Bool.and_self, ↓reduceIte, putK_to, List.set_cons_succ, List.set_cons_zero, opsK_some, List.getD_cons_succ, ex_mov, runOps_nil, regK_some, seqK_normal, ex_load, rd_ptr, List.getElem?_cons_zero, rdK_cells, List.drop_zero, List.take_succ_cons, List.take_nil, loadK_n, valK_some, List.getElem?_cons_succ, ex_build, beq_self_eq_true, List.map_cons, List.map_nil, fillA, Nat.reduceLeDiff, and_self, splice, List.take_zero, List.drop_succ_cons, Nat.le_refl, List.drop_nil, Option.map_some, run_block, run_loop, a30l0c, hL, blockK_ret, seqK_ret, bodyK_ret, results_2, resL_cons, res_cell, cellK_some, mkv_n, resK_some, res_tmp, resL_nil, retvK_some, ocallK_some, compact_tup, takeL2_cons, take2_agg, takeL_cons, take1_int, tkL_some, take1_sl, takeL_nil, tkL2_some, take2_int, takeL2_nil]
  · rw [if_neg k1]
    have n2 := chk_stop (x := x) (y := y) (s5 := .int .i64 0) (.inl ⟨rfl, rfl⟩) k1 [] c1
    simp only [List.append_nil, H0, List.cons_append, List.nil_append] at n2
    unfold L0 at n2
    generalize chkE x = e at *
    rw [ocallA_eq, a30i, a30, bodyA_eq]
    simp (maxSteps := 30000000) (disch := first | assumption | omega | (simp only [List.length_cons, List.length_nil, List.length_append, List.length_set, List.length_replicate, List.length_map, List.length_range, List.length_take, List.length_drop, List.all_cons, List.all_nil, AV.isCell, Bool.and_self, Bool.and_true, bs_length, is64_length, w64_length, ints_length, lfs_length, rls_length] <;> omega) | rfl | decide) only [List.append_nil, List.length_cons, List.length_nil, Nat.zero_add, Nat.reduceAdd, Nat.reduceSub, pads, List.cons_append, List.nil_append, run_seq, run_region, runOps_cons, oper_none, ex_box, AV.cells, opv, List.getD_cons_zero, List.all_cons, AV.isCell, List.all_nil, Bool.and_self, ↓reduceIte, putK_to, List.set_cons_succ, List.set_cons_zero, opsK_some, List.getD_cons_succ, ex_mov, runOps_nil, regK_some, seqK_normal, ex_load, rd_ptr, List.getElem?_cons_zero, rdK_cells, List.drop_zero, List.take_succ_cons, List.take_nil, loadK_n, valK_some, List.getElem?_cons_succ, ex_build, beq_self_eq_true, List.map_cons, List.map_nil, fillA, Nat.reduceLeDiff, and_self, splice, List.take_zero, List.drop_succ_cons, Nat.le_refl, List.drop_nil, Option.map_some, run_block, run_loop, a30l0c, n2, blockK_ret, seqK_ret, bodyK_ret, results_2, resL_cons, res_cell, cellK_some, mkv_n, resK_some, res_tmp, resL_nil, retvK_some, ocallK_some, compact_tup, takeL2_cons, take2_agg, takeL_cons, take1_int, tkL_some, take1_sl, takeL_nil, tkL2_some, take2_int, takeL2_nil]

set_option maxRecDepth 20000 in
set_option maxHeartbeats 2000000 in
theorem union_bado (x y : Aut) (hx : TyA x) (hy : TyA y) (k1 : chkE x = 0) (k2 : chkE y = 0) (h : uniE x y ≠ 0) : ocallA L 30 [x.av, y.av] = some (.tup [zA.av, .int .i64 (uniE x y)], []) := by
  have hL := chk_both hx hy k1 k2
  have hVx := chkE_zero.1 k1
  have hVy := chkE_zero.1 k2
  have r1 := hVx.rl
  have r2 := hVy.rl
  have s1 := hVx.s0
  have s2 := hVx.s64
  have s3 := hVy.s0
  have s4 := hVy.s64
  unfold uniE at h ⊢
  rw [if_pos k1, if_pos k2] at h ⊢
  change _ = some (AV.tup [.agg [.int .i64 0, .int .i64 0, .sl true 0 [], .sl true 0 [], .sl true 0 []], _], [])
  by_cases k3 : x.vars = y.vars
  · rw [if_pos k3] at h ⊢
    have e3 : (x.vars = y.vars) = True := eq_true k3
    have e512 : ((512 : Int) < ((x.rl.length + y.rl.length : Nat) : Int)) = (512 < x.rl.length + y.rl.length) := propext ⟨fun h => by omega, fun h => by omega⟩
    by_cases k4 : 64 < x.states + y.states
    · rw [if_pos (.inl k4)]
      rw [ocallA_eq, a30i, a30, bodyA_eq]
      simp (maxSteps := 30000000) (disch := first | assumption | omega | (simp only [List.length_cons, List.length_nil, List.length_append, List.length_set, List.length_replicate, List.length_map, List.length_range, List.length_take, List.length_drop, List.all_cons, List.all_nil, AV.isCell, Bool.and_self, Bool.and_true, bs_length, is64_length, w64_length, ints_length, lfs_length, rls_length] <;> omega) | rfl | decide) only [List.append_nil, List.length_cons, List.length_nil, Nat.zero_add, Nat.reduceAdd, Nat.reduceSub, pads, List.cons_append, List.nil_append, run_seq, run_region, runOps_cons, oper_none, ex_box, AV.cells, opv, List.getD_cons_zero, List.all_cons, AV.isCell, List.all_nil, Bool.and_self, ↓reduceIte, putK_to, List.set_cons_succ, List.set_cons_zero, opsK_some, List.getD_cons_succ, ex_mov, runOps_nil, regK_some, seqK_normal, ex_load, rd_ptr, List.getElem?_cons_zero, rdK_cells, List.drop_zero, List.take_succ_cons, List.take_nil, loadK_n, valK_some, List.getElem?_cons_succ, ex_build, beq_self_eq_true, List.map_cons, List.map_nil, fillA, Nat.reduceLeDiff, and_self, splice, List.take_zero, List.drop_succ_cons, Nat.le_refl, List.drop_nil, Option.map_some, run_block, run_loop, a30l0c, hL, blockK_exit, ex_faddr, faddrA_ptr, Nat.add_zero, loadK_1, ex_bin, bin_neq, e3, decide_true, Bool.not_true, run_cond, condK_bool, Bool.false_eq_true, bin_add, wr64, bin_gtr, k4, oper_guard, guardK_bool, Bool.true_eq_false, putA_to, ex_pick, pickA_bool, ex_store, wr_ptr, wrK_cells, storeK_some, putK_no, run_ret, blockK_ret, seqK_ret, bodyK_ret, results_2, resL_cons, res_cell, cellK_some, mkv_n, resK_some, res_tmp, resL_nil, retvK_some, ocallK_some, compact_tup, takeL2_cons, take2_agg, takeL_cons, take1_int, tkL_some, take1_sl, takeL_nil, tkL2_some, take2_int, takeL2_nil]
    · by_cases k5 : 512 < x.rl.length + y.rl.length
      · rw [if_pos (.inr k5)]
        rw [ocallA_eq, a30i, a30, bodyA_eq]
        simp (maxSteps := 30000000) (disch := first | assumption | omega | (simp only [List.length_cons, List.length_nil, List.length_append, List.length_set, List.length_replicate, List.length_map, List.length_range, List.length_take, List.length_drop, List.all_cons, List.all_nil, AV.isCell, Bool.and_self, Bool.and_true, bs_length, is64_length, w64_length, ints_length, lfs_length, rls_length] <;> omega) | rfl | decide) only [List.append_nil, List.length_cons, List.length_nil, Nat.zero_add, Nat.reduceAdd, Nat.reduceSub, pads, List.cons_append, List.nil_append, run_seq, run_region, runOps_cons, oper_none, ex_box, AV.cells, opv, List.getD_cons_zero, List.all_cons, AV.isCell, List.all_nil, Bool.and_self, ↓reduceIte, putK_to, List.set_cons_succ, List.set_cons_zero, opsK_some, List.getD_cons_succ, ex_mov, runOps_nil, regK_some, seqK_normal, ex_load, rd_ptr, List.getElem?_cons_zero, rdK_cells, List.drop_zero, List.take_succ_cons, List.take_nil, loadK_n, valK_some, List.getElem?_cons_succ, ex_build, beq_self_eq_true, List.map_cons, List.map_nil, fillA, Nat.reduceLeDiff, and_self, splice, List.take_zero, List.drop_succ_cons, Nat.le_refl, List.drop_nil, Option.map_some, run_block, run_loop, a30l0c, hL, blockK_exit, ex_faddr, faddrA_ptr, Nat.add_zero, loadK_1, ex_bin, bin_neq, e3, decide_true, Bool.not_true, run_cond, condK_bool, Bool.false_eq_true, bin_add, wr64, bin_gtr, k4, decide_false, oper_guard, guardK_bool, ex_len, lenA_sl, cadd, e512, k5, ex_pick, pickA_bool, ex_store, wr_ptr, wrK_cells, storeK_some, putK_no, run_ret, blockK_ret, seqK_ret, bodyK_ret, results_2, resL_cons, res_cell, cellK_some, mkv_n, resK_some, res_tmp, resL_nil, retvK_some, ocallK_some, compact_tup, takeL2_cons, take2_agg, takeL_cons, take1_int, tkL_some, take1_sl, takeL_nil, tkL2_some, take2_int, takeL2_nil]
      · rw [if_neg (by omega)] at h
        exact (h rfl).elim
  · rw [if_neg k3]
    have e3 : (x.vars = y.vars) = False := eq_false k3
    clear h
    rw [ocallA_eq, a30i, a30, bodyA_eq]
    simp (maxSteps := 30000000) (disch := first | assumption | omega | (simp only [List.length_cons, List.length_nil, List.length_append, List.length_set, List.length_replicate, List.length_map, List.length_range, List.length_take, List.length_drop, List.all_cons, List.all_nil, AV.isCell, Bool.and_self, Bool.and_true, bs_length, is64_length, w64_length, ints_length, lfs_length, rls_length] <;> omega) | rfl | decide) only [List.append_nil, List.length_cons, List.length_nil, Nat.zero_add, Nat.reduceAdd, Nat.reduceSub, pads, List.cons_append, List.nil_append, run_seq, run_region, runOps_cons, oper_none, ex_box, AV.cells, opv, List.getD_cons_zero, List.all_cons, AV.isCell, List.all_nil, Bool.and_self, ↓reduceIte, putK_to, List.set_cons_succ, List.set_cons_zero, opsK_some, List.getD_cons_succ, ex_mov, runOps_nil, regK_some, seqK_normal, ex_load, rd_ptr, List.getElem?_cons_zero, rdK_cells, List.drop_zero, List.take_succ_cons, List.take_nil, loadK_n, valK_some, List.getElem?_cons_succ, ex_build, beq_self_eq_true, List.map_cons, List.map_nil, fillA, Nat.reduceLeDiff, and_self, splice, List.take_zero, List.drop_succ_cons, Nat.le_refl, List.drop_nil, Option.map_some, run_block, run_loop, a30l0c, hL, blockK_exit, ex_faddr, faddrA_ptr, Nat.add_zero, loadK_1, ex_bin, bin_neq, k3, decide_false, Bool.not_false, run_cond, condK_bool, ex_store, wr_ptr, wrK_cells, storeK_some, putK_no, run_ret, blockK_ret, seqK_ret, bodyK_ret, results_2, resL_cons, res_cell, cellK_some, mkv_n, resK_some, res_tmp, resL_nil, retvK_some, ocallK_some, compact_tup, takeL2_cons, take2_agg, takeL_cons, take1_int, tkL_some, take1_sl, takeL_nil, tkL2_some, take2_int, takeL2_nil]

end Go.Abs.Tree
