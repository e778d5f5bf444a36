/- The rules exchanged; the loop of TreeautMirrors. -/
import Derived.Test.YtijmhicopfphnaaDoorAL23
namespace Go.Abs.Tree
open Go Go.Abs
set_option linter.unusedSimpArgs false
set_option linter.unusedVariables false

def swR (e : Rl) : Rl := ⟨e.r, e.l, e.t, e.p, e.n⟩
theorem hit_sw (l r x : Nat) (u : Rl) : hit l r x (swR u) = hit r l x u := by
  unfold hit swR
  simp only [Bool.and_comm]
theorem toM_sw (l r x : Nat) : ∀ (t : List Rl) (a : Nat), toM l r x a (t.map swR) = toM r l x a t
  | [], a => rfl
  | u :: t, a => by
    rw [List.map_cons, toM, toM, hit_sw, toM_sw l r x t]
    rfl
theorem ev_sw (E : Nat) (rl : List Rl) : ∀ T : BT, ev E (rl.map swR) T.mir = ev E rl T
  | .nil => rfl
  | .node x l r => by rw [BT.mir, ev, ev, toM_sw, ev_sw E rl l, ev_sw E rl r]

theorem rlErr_sw (s : Int) (v : Nat) (e : Rl) : rlErr s v (swR e) = rlErr s v e := by
  unfold rlErr swR
  simp only
  rw [Int.min_comm e.r e.l, Int.max_comm e.r e.l]
theorem rlsErr_sw (s : Int) (v : Nat) : ∀ l : List Rl, rlsErr s v (l.map swR) = rlsErr s v l
  | [] => rfl
  | e :: t => by rw [List.map_cons, rlsErr, rlsErr, rlErr_sw, rlsErr_sw s v t]

theorem copy33o (n : Aut) (h1 : n.st.length < 1099511627776) (h2 : n.fi.length < 1099511627776) (h3 : n.rl.length < 1099511627776) :
    ocallA L 33 [n.av] = some (.agg [.int .i64 n.vars, .int .i64 n.states, iw (n.st.length == 0) n.st, iw (n.fi.length == 0) n.fi, .own (n.rl.length == 0) 0 0 n.rl.length 5], [.cells false (n.rl.length == 0) (rls n.rl)]) := by
  have k1 := copy69 n.z1 n.st h1
  have k2 := copy69 n.z2 n.fi h2
  have k4 := copy70o n.z3 n.rl h3
  have htk : List.take (n.rl.length * 5) (rls n.rl) = rls n.rl := List.take_of_length_le (by rw [rls_length]; omega)
  rw [ocallA_eq, a33i, a33, bodyA_eq]
  simp (maxSteps := 30000000) (disch := first | assumption | omega | (simp only [List.length_cons, List.length_nil, List.length_append, List.length_set, List.length_replicate, List.length_map, List.length_range, List.length_take, List.length_drop, List.all_cons, List.all_nil, AV.isCell, Bool.and_self, Bool.and_true, bs_length, is64_length, w64_length, ints_length, lfs_length, rls_length] <;> omega) | rfl | decide) only [List.append_nil, List.length_cons, List.length_nil, Nat.zero_add, Nat.reduceSub, pads, List.cons_append, List.nil_append, run_seq, run_region, runOps_cons, oper_none, ex_box, AV.cells, opv, List.getD_cons_zero, List.all_cons, AV.isCell, List.all_nil, Bool.and_self, if_true, putK_to, List.set_cons_succ, List.set_cons_zero, opsK_some, runOps_nil, regK_some, seqK_normal, run_drawp, List.take_succ_cons, List.take_zero, runPriv_cons, isPriv_faddr, Bool.false_eq_true, privA_eq, AOp.args, dataV, data1, List.getD_cons_succ, Bool.and_true, ex_faddr, faddrA_ptr, Nat.add_zero, valK_some, privK_some, relV, rel2, rel1, allData_nil, and_self, if_false, foper_none, fe_faddr, fstK_some, fputK_to, free1K_some, isPriv_load, ex_load, rd_ptr, fe_load, List.getElem?_cons_zero, rdK_cells, List.drop_zero, loadK_1, List.drop_succ_cons, isPriv_call, ex_call, List.map_cons, List.map_nil, pcallA_eq, frzN, List.mapM_cons, frz_sl, List.mapM_nil, Option.pure_def, Option.bind_eq_bind, Option.bind_some, argK_some, k1, retK_some, scal, scal1, fzIds, List.flatMap_cons, bor_sl, List.flatMap_nil, List.foldl_nil, ite_self, priv1K_some, k2, List.take_nil, isPriv_ocall, ex_ocall, ocArgK_some, k4, ocK_some, liftV, lift2, lift1, allData_cons, dat_rls, runPriv_nil, consK_some, fe_call, quietK_some, quietCall, Bool.or_true, drawpK_some, adoptS_nil, adoptL, Nat.reduceAdd, ex_build, beq_self_eq_true, fillA, Nat.reduceLeDiff, splice, Nat.le_refl, List.drop_nil, Option.map_some, ex_store, wr_ptr, List.getElem?_cons_succ, wrK_cells, storeK_some, putK_no, apartK_some, run_ret, bodyK_ret, results_1, res_cell, cellK_some, mkv_n, retvK_some, ocallK_some, compact_agg, take2_agg, takeL_cons, take1_int, tkL_some, take1_sl, take1_own, findI_nil, t1I_new, takeL_nil]

theorem rls_app (a b : List Rl) : rls a ++ rls b = rls (a ++ b) := rows_app ..
theorem rls_split {A B : List Rl} {e : Rl} : rls (A ++ e :: B) = rls A ++ (.int .i64 e.l :: .int .i64 e.r :: .int .i64 e.t :: .int .u8 (e.p : Nat) :: .int .u8 (e.n : Nat) :: rls B) := by
  rw [← rls_app]; rfl
theorem rls_at0 {l : List Rl} {i : Nat} (h : i < l.length) : List.take 1 (List.drop (i * 5) (rls l)) = [.int .i64 (l.getD i r0).l] := by
  have := congrArg (List.take 1) (rls_at h)
  rw [List.take_take] at this
  exact this
theorem rls_at1 {l : List Rl} {i : Nat} (h : i < l.length) : List.take 1 (List.drop (i * 5 + 1) (rls l)) = [.int .i64 (l.getD i r0).r] := by
  have := congrArg (fun x => List.take 1 (List.drop 1 x)) (rls_at h)
  simp only [List.drop_take, List.drop_drop, List.take_take] at this
  exact this

theorem put01 {α : Type} (P Q : List α) (c0 c1 x y : α) {n : Nat} (h : P.length = n) :
    List.take (n + 1) (List.take n (P ++ c0 :: c1 :: Q) ++ x :: List.drop (n + 1) (P ++ c0 :: c1 :: Q)) ++ y :: List.drop (n + 1 + 1) (List.take n (P ++ c0 :: c1 :: Q) ++ x :: List.drop (n + 1) (P ++ c0 :: c1 :: Q)) = P ++ x :: y :: Q := by
  subst h
  have e1 : List.take P.length (P ++ c0 :: c1 :: Q) = P := by simp
  have e2 : List.drop (P.length + 1) (P ++ c0 :: c1 :: Q) = c1 :: Q := by rw [List.drop_length_add_append]; rfl
  rw [e1, e2, List.take_length_add_append, Nat.add_assoc, List.drop_length_add_append]
  simp

set_option maxHeartbeats 4000000 in
theorem swap_loop {m : Aut} {b0 : Blk} {s6 s7 v s c1 c2 : AV} (hl : m.rl.length < 1099511627776) : ∀ (B A : List Rl), m.rl = A ++ B →
    L.loop a11l0s a11l0 ⟨a11l0F (.ptr 1 0) s6 s7 (.ptr 3 0) (.int .i64 (A.length : Nat)), [b0, .cells false false m.cells, .cells false (m.rl.length == 0) (rls (A.map swR ++ B)), .cells false false [v, s, c1, c2, .own (m.rl.length == 0) 2 0 m.rl.length 5]]⟩ =
      some (.exit 0, ⟨a11l0F (.ptr 1 0) s6 s7 (.ptr 3 0) (.int .i64 (m.rl.length : Nat)), [b0, .cells false false m.cells, .cells false (m.rl.length == 0) (rls (m.rl.map swR)), .cells false false [v, s, c1, c2, .own (m.rl.length == 0) 2 0 m.rl.length 5]]⟩)
  | [], A, h => by
    obtain h : m.rl = A := by simpa using h
    rw [← h, List.append_nil, a11l0n]
    simp (maxSteps := 30000000) (disch := first | assumption | omega | (simp only [List.length_cons, List.length_nil, List.length_append, List.length_set, List.length_replicate, List.length_map, List.length_range, List.length_take, List.length_drop, List.all_cons, List.all_nil, AV.isCell, Bool.and_self, Bool.and_true, bs_length, is64_length, w64_length, ints_length, lfs_length, rls_length] <;> omega) | rfl | decide) only [a11l0b, run_seq, run_region, runOps_cons, oper_none, ex_mov, opv, List.getD_cons_succ, List.getD_cons_zero, putK_to, List.set_cons_succ, List.set_cons_zero, opsK_some, ex_faddr, faddrA_ptr, Nat.zero_add, valK_some, ex_load, rd_ptr, List.getElem?_cons_succ, List.getElem?_cons_zero, rdK_cells, List.drop_succ_cons, List.drop_zero, List.take_succ_cons, List.take_nil, loadK_1, ex_len, lenA_own, ex_bin, bin_lss, Int.lt_irrefl, decide_false, runOps_nil, regK_some, seqK_normal, run_cond, condK_bool, Bool.false_eq_true, run_skip, run_exit, if_false, seqK_exit, loopK_exit, a11l0c]
  | e :: B, A, h => by
    have hlen : m.rl.length = A.length + (B.length + 1) := by rw [h]; simp
    have hlt : (A.length : Int) < (m.rl.length : Nat) := by omega
    have hltn : A.length < m.rl.length := by omega
    have ih := swap_loop (b0 := b0) (s6 := s6) (s7 := s7) (v := v) (s := s) (c1 := c1) (c2 := c2) hl B (A ++ [e]) (by rw [h]; simp)
    have hg : m.rl.getD A.length r0 = e := by rw [h]; simp [List.getD]
    have g0 := rls_at0 hltn
    have g1 := rls_at1 hltn
    rw [hg] at g0 g1
    have hz : (m.rl.length == 0) = false := by rw [beq_eq_false_iff_ne]; omega
    have hl2 : (A.map swR ++ e :: B).length = m.rl.length := by simp [hlen]
    have hput := put01 (rls (A.map swR)) (.int .i64 e.t :: .int .u8 (e.p : Nat) :: .int .u8 (e.n : Nat) :: rls B) (.int .i64 e.l) (.int .i64 e.r) (.int .i64 e.r) (.int .i64 e.l) (n := A.length * 5) (by rw [rls_length, List.length_map])
    have hres : rls (A.map swR) ++ (AV.int .i64 e.r :: .int .i64 e.l :: .int .i64 e.t :: .int .u8 (e.p : Nat) :: .int .u8 (e.n : Nat) :: rls B) = rls ((A ++ [e]).map swR ++ B) := by
      have : rls (A.map swR ++ swR e :: B) = _ := rls_split
      rw [List.map_append, List.map_cons, List.map_nil, List.append_assoc, List.cons_append, List.nil_append, this]
      rfl
    rw [← rls_split, hres] at hput
    have hln : (A ++ [e]).length = A.length + 1 := by simp
    have h32 : ((3 : Nat) != 2) = true := rfl
    rw [hln] at ih
    rw [hz] at ih ⊢
    rw [a11l0n]
    simp (maxSteps := 30000000) (disch := first | assumption | omega | (simp only [List.length_cons, List.length_nil, List.length_append, List.length_set, List.length_replicate, List.length_map, List.length_range, List.length_take, List.length_drop, List.all_cons, List.all_nil, AV.isCell, Bool.and_self, Bool.and_true, bs_length, is64_length, w64_length, ints_length, lfs_length, rls_length] <;> omega) | rfl | decide) only [a11l0b, run_seq, run_region, runOps_cons, oper_none, ex_mov, opv, List.getD_cons_succ, List.getD_cons_zero, putK_to, List.set_cons_succ, List.set_cons_zero, opsK_some, ex_faddr, faddrA_ptr, Nat.zero_add, valK_some, ex_load, rd_ptr, List.getElem?_cons_succ, List.getElem?_cons_zero, rdK_cells, List.drop_succ_cons, List.drop_zero, List.take_succ_cons, List.take_nil, loadK_1, ex_len, lenA_own, ex_bin, bin_lss, hlt, decide_true, runOps_nil, regK_some, seqK_normal, run_cond, condK_bool, run_skip, run_exit, if_true, run_block, run_drawl, List.take_zero, runFree_cons, foper_none, fe_faddr, fstK_some, fputK_to, freeK_some, fe_load, fe_mov, fe_iaddr, ex_iaddr, iaddrA_sl, Int.toNat_natCast, faddrA_vptr, rd_vptr, g1, runFree_nil, drawlK_some, adopt, adoptVal, Nat.add_zero, g0, iaddrA_own, ex_store, AV.cells, List.length_cons, List.length_nil, wr_ptr, wrK_cells, splice, List.append_assoc, List.cons_append, List.nil_append, storeK_some, putK_no, hput, apartK_some, List.all_cons, apart, disj, h32, Nat.reduceAdd, Bool.true_or, Nat.reduceLeDiff, List.all_nil, Bool.and_self, blockK_normal, bin_add, cadd1, wr64, loopK_normal, a11l0c, ih]
end Go.Abs.Tree
