/- Project, of the program: its results the caller's own. -/
import Derived.Test.YthbgkdjnakeagaaAF11
namespace Go.Abs.Lasso
set_option linter.unusedVariables false
set_option linter.unusedSimpArgs false
open Go Go.Abs

theorem atn_eq (z1 z2 : Bool) (p q : List Nat) (i : Nat) (hp : p.length < 1099511627776) (hq : q.length < 1099511627776) (h2 : i < 9223372036854775808) :
    L.pcall 25 [las z1 z2 p q, .int .i64 (i : Nat)] = some (.int .u8 (seqM p q i : Nat)) := by
  rw [at_eq z1 z2 p q i hp hq (by omega) (by omega), atM_nat]

/-- the letters laid by i rounds of build -/
def laid (f : Nat → Nat) (N i : Nat) : List Nat := (List.range N).map fun j => if j < i then f j else 0
theorem laid_length (f : Nat → Nat) (N i : Nat) : (laid f N i).length = N := by simp [laid]
theorem laid_0 (f : Nat → Nat) (N : Nat) : List.replicate N 0 = laid f N 0 := by
  unfold laid
  apply List.ext_getElem
  · simp
  · intro j h1 h2; simp
theorem laid_put (f : Nat → Nat) (N i : Nat) : (laid f N i).set i (f i) = laid f N (i + 1) := by
  unfold laid
  apply List.ext_getElem
  · simp
  · intro j h1 h2
    simp only [List.getElem_set, List.getElem_map, List.getElem_range]
    by_cases h : i = j
    · subst h; simp
    · have : (j < i + 1) ↔ j < i := by omega
      simp [h, this]
theorem laid_all (f : Nat → Nat) (N : Nat) : laid f N N = takeM f N := by
  unfold laid takeM
  apply List.map_congr_left
  intro j hj
  simp at hj
  simp [hj]

theorem build_loop {g : Nat} {caps : List AV} {f : Nat → Nat} {N n : Nat} {H : Heap} (hN : N < 1099511627776) (b : Blk) (hlet : ∀ (T : Heap) (i : Nat), i < N → L.icall (.func g caps) [.int .i64 (i : Nat)] (H ++ T) = some (.int .u8 (f i : Nat), H ++ T)) : ∀ d i, i + d = N →
    L.loop a39l0s a39l0 ⟨a39l0F (.int .i64 (n : Nat)) (.func g caps) (.ptr H.length 0) (.own false (H.length + 1) 0 N 1) (.int .i64 (N : Nat)) (.int .i64 (i : Nat)), H ++ [b, .cells false false (bs (laid f N i))]⟩ =
      some (.exit 0, ⟨a39l0F (.int .i64 (n : Nat)) (.func g caps) (.ptr H.length 0) (.own false (H.length + 1) 0 N 1) (.int .i64 (N : Nat)) (.int .i64 (N : Nat)), H ++ [b, .cells false false (bs (laid f N N))]⟩)
  | 0, i, h => by
    obtain rfl : i = N := by omega
    rw [a39l0n]
    simp (maxSteps := 30000000) (disch := first | assumption | omega | (simp only [List.length_cons, List.length_nil, List.length_append, List.length_set, List.length_replicate, List.length_map, List.length_range, List.length_take, List.length_drop, List.all_cons, List.all_nil, AV.isCell, Bool.and_self, Bool.and_true, bs_length, is64_length] <;> omega) | rfl | decide) only [a39l0b, run_seq, run_region, runOps_cons, oper_none, ex_bin, opv, List.getD_cons_succ, List.getD_cons_zero, bin_lss, Int.lt_irrefl, decide_false, valK_some, putK_to, List.set_cons_succ, List.set_cons_zero, opsK_some, runOps_nil, regK_some, seqK_normal, run_cond, condK_bool, Bool.false_eq_true, run_skip, run_exit, if_false, seqK_exit, loopK_exit, a39l0c]
  | d + 1, i, h => by
    have hlt : (i : Int) < (N : Nat) := by omega
    have ih := build_loop (n := n) hN b hlet d (i + 1) (by omega)
    have hl := hlet [b, .cells false false (bs (laid f N i))] i (by omega)
    have hlen := laid_length f N i
    rw [a39l0n]
    simp (maxSteps := 30000000) (disch := first | assumption | omega | (simp only [List.length_cons, List.length_nil, List.length_append, List.length_set, List.length_replicate, List.length_map, List.length_range, List.length_take, List.length_drop, List.all_cons, List.all_nil, AV.isCell, Bool.and_self, Bool.and_true, bs_length, is64_length] <;> omega) | rfl | decide) only [a39l0b, run_seq, run_region, runOps_cons, oper_none, ex_bin, opv, List.getD_cons_succ, List.getD_cons_zero, bin_lss, hlt, decide_true, valK_some, putK_to, List.set_cons_succ, List.set_cons_zero, opsK_some, runOps_nil, regK_some, seqK_normal, run_cond, condK_bool, run_skip, run_exit, if_true, run_block, ex_mov, ex_icall, List.map_cons, List.map_nil, hl, ex_iaddr, iaddrA_own, Int.toNat_natCast, Nat.mul_one, Nat.zero_add, ex_store, AV.cells, List.length_cons, List.length_nil, wr_ptr, hget, List.getElem?_cons_succ, List.getElem?_cons_zero, wrK_cells, splice, bs_take, bs_drop, List.append_assoc, List.cons_append, List.nil_append, bs_put1, laid_put, hset, storeK_some, putK_no, blockK_normal, bin_add, cadd1, wr64, loopK_normal, a39l0c, ih]

theorem build_own {g : Nat} {caps : List AV} {f : Nat → Nat} {n p : Nat} {H : Heap} (hn : n < 268435456) (hp : p < 268435456) (hlet : ∀ (T : Heap) (i : Nat), i < n + p → L.icall (.func g caps) [.int .i64 (i : Nat)] (H ++ T) = some (.int .u8 (f i : Nat), H ++ T))
    {a b : Nat} {p' q' : List Nat} (hv : ocallA L 12 [las false false (takeM f n) (takeM (fun i => f (n + i)) p)] = some (.agg [.own false 0 0 a 1, .own false 1 0 b 1], [.cells false false (bs p'), .cells false false (bs q')])) :
    ∃ c0 c1, L.icall (.func 39 []) [.int .i64 (n : Nat), .int .i64 (p : Nat), .func g caps] H = some (.agg [.own false (H.length + 2) 0 a 1, .own false (H.length + 3) 0 b 1], H ++ [c0, c1, .cells false false (bs p'), .cells false false (bs q')]) := by
  have hl := build_loop (n := n) (N := n + p) (by omega) (.cells false false [.sl true 0 [], .sl true 0 []]) hlet (n + p) 0 (by omega)
  rw [← laid_0] at hl
  change L.loop a39l0s a39l0 ⟨a39l0F _ _ _ _ _ (.int .i64 0), _⟩ = _ at hl
  rw [laid_all] at hl
  have e1 := takeM_take f n p
  have e2 := takeM_drop f n p
  have l0 := takeM_length f (n + p)
  have l1 := takeM_length f n
  have l2 := takeM_length (fun i => f (n + i)) p
  have e3 : List.take p (takeM (fun i => f (n + i)) p) = takeM (fun i => f (n + i)) p := List.take_of_length_le (by omega)
  have hv' : ocallA L 12 [.agg [.sl false n (bs (takeM f n)), .sl false p (bs (takeM (fun i => f (n + i)) p))]] = some (.agg [.own false 0 0 a 1, .own false 1 0 b 1], [.cells false false (bs p'), .cells false false (bs q')]) := by
    rw [sl_word l1, sl_word l2]; exact hv
  refine ⟨.cells false false [.own false (H.length + 2) 0 a 1, .own false (H.length + 3) 0 b 1], .cells true false (bs (takeM f (n + p))), ?_⟩
  rw [a39i, a39]
  simp (maxSteps := 30000000) (disch := first | assumption | omega | (simp only [List.length_cons, List.length_nil, List.length_append, List.length_set, List.length_replicate, List.length_map, List.length_range, List.length_take, List.length_drop, List.all_cons, List.all_nil, AV.isCell, Bool.and_self, Bool.and_true, bs_length, is64_length] <;> omega) | rfl | decide) only [List.append_nil, bodyA_eq, List.length_cons, List.length_nil, Nat.zero_add, Nat.reduceAdd, Nat.reduceSub, pads, List.cons_append, List.nil_append, run_seq, run_region, runOps_cons, oper_none, ex_box, AV.cells, opv, List.all_cons, AV.isCell, List.all_nil, Bool.and_self, if_true, putK_to, List.set_cons_succ, List.set_cons_zero, opsK_some, runOps_nil, regK_some, seqK_normal, ex_mov, List.getD_cons_zero, List.getD_cons_succ, ex_bin, bin_add, cadd, wr64, valK_some, ex_mkslice, mksK_int, Int.toNat_natCast, repz_bs, newA_own, List.length_append, List.append_assoc, ex_len, lenA_own, run_block, run_loop, a39l0c, hl, blockK_exit, run_drawp, List.take_succ_cons, List.take_zero, runPriv_cons, isPriv_mov, Bool.false_eq_true, privA_eq, AOp.args, dataV, data1, Bool.and_true, privK_some, relV, rel2, rel1, allData_nil, and_self, if_false, foper_none, fe_mov, fstK_some, fputK_to, free1K_some, priv1K_some, isPriv_slice, Bool.false_and, ex_slice, Option.map_none, Option.map_some, sliceA_own, fe_slice, bounds_ns, cutK_own, Nat.mul_one, Nat.add_zero, Nat.sub_zero, runPriv_nil, consK_some, drawpK_some, List.drop_succ_cons, List.drop_zero, adoptS_nil, adoptL, bounds_sn, Nat.add_sub_cancel_left, ex_build, beq_self_eq_true, List.map_cons, List.map_nil, fillA, Nat.reduceLeDiff, splice, Nat.le_refl, List.drop_nil, ex_ocall, frzN, List.flatMap_cons, bor_agg, bor_own, hget, List.getElem?_cons_succ, List.getElem?_cons_zero, borK_cells, bs_take, e1, bor_bs, bs_drop, e2, e3, List.flatMap_nil, List.mapM_cons, frz_agg, frz_own, frzK_cells, frz_bs, slK_some, List.mapM_nil, Option.pure_def, Option.bind_eq_bind, Option.bind_some, ocArgK_some, hv', ocK_some, liftV, lift2, lift1, fzIds, List.foldl_cons, hmod, List.modify_cons, Nat.reduceEqDiff, fzBlk, List.foldl_nil, ex_store, wr_ptr, hget0, wrK_cells, hset0, storeK_some, putK_no, apartK_some, run_ret, bodyK_ret, results_1, res_cell, rd_ptr, rdK_cells, List.take_nil, cellK_some, mkv_n, retvK_some]

theorem let40 (z1 z2 : Bool) (p q : List Nat) (m : Nat) (H : Heap) (a b i : Nat) {f1 f2 g1 g2 : Bool} (ha : H[a]? = some (.cells f1 f2 [word z1 p, word z2 q])) (hb : H[b]? = some (.cells g1 g2 [.int .u8 (m : Nat)])) (hp : p.length < 1099511627776) (hq : q.length < 1099511627776) (hi : i < 1099511627776) :
    L.icall (.func 40 [.ptr a 0, .ptr b 0]) [.int .i64 (i : Nat)] H = some (.int .u8 (bitsA .and .u8 (seqM p q i : Nat) (m : Nat)), H) := by
  have hat := atn_eq z1 z2 p q i hp hq (by omega)
  rw [a40i, a40]
  simp (maxSteps := 30000000) (disch := first | assumption | omega | (simp only [List.length_cons, List.length_nil, List.length_append, List.length_set, List.length_replicate, List.length_map, List.length_range, List.length_take, List.length_drop, List.all_cons, List.all_nil, AV.isCell, Bool.and_self, Bool.and_true, bs_length, is64_length] <;> omega) | rfl | decide) only [List.cons_append, List.nil_append, bodyA_eq, List.length_cons, List.length_nil, Nat.zero_add, Nat.reduceAdd, Nat.reduceSub, pads, run_seq, run_region, runOps_cons, oper_none, ex_mov, opv, putK_to, List.set_cons_succ, List.set_cons_zero, opsK_some, runOps_nil, regK_some, seqK_normal, run_draw, List.take_succ_cons, List.take_zero, runFree_cons, foper_none, fe_load, ex_load, List.getD_cons_succ, List.getD_cons_zero, rd_ptr, ha, rdK_cells, List.drop_zero, List.take_nil, loadK_n, valK_some, fstK_some, fputK_to, freeK_some, fe_mov, fe_call, List.map_cons, List.map_nil, pcallA_eq, frzN, List.mapM_cons, frz_agg, frz_sl, List.mapM_nil, Option.pure_def, Option.bind_eq_bind, Option.bind_some, Option.map_some, frz_int, argK_some, hat, retK_some, scal, scal1, fzIds, List.flatMap_cons, bor_agg, bor_sl, List.flatMap_nil, List.append_nil, bor_int, List.foldl_nil, ite_self, quietK_some, quietCall, List.isEmpty_nil, Bool.or_true, if_true, hb, loadK_1, runFree_nil, drawK_some, List.drop_succ_cons, adopt, adoptVal, ex_bin, bin_and, run_ret, bodyK_ret, results_1, res_tmp, retvK_some]

theorem seq_lt {p q : List Nat} (hp : ∀ x ∈ p, x < 256) (hq : ∀ x ∈ q, x < 256) (i : Nat) : seqM p q i < 256 := by
  have get : ∀ l : List Nat, (∀ x ∈ l, x < 256) → ∀ i, l.getD i 0 < 256 := by
    intro l hl i
    rw [List.getD_eq_getElem?_getD]
    cases h : l[i]? with
    | none => simp
    | some x => exact hl x (List.mem_of_getElem? h)
  unfold seqM
  split
  · exact get p hp _
  · refine get _ ?_ _
    unfold fullM
    split
    · simp
    · exact hq

/-- a word with a mask -/
def maskL (m : Nat) (p : List Nat) : List Nat := p.map (· &&& m)
theorem maskL_length (m : Nat) (p : List Nat) : (maskL m p).length = p.length := by simp [maskL]
theorem mask_pre (p q : List Nat) (m : Nat) : takeM (fun i => seqM p q i &&& m) p.length = maskL m p := by
  apply List.ext_getElem
  · simp [takeM, maskL]
  · intro i h1 h2
    have hi : i < p.length := by simpa [takeM] using h1
    simp [takeM, maskL, seqM_pre hi, hi]
theorem mask_loop (p q : List Nat) (m : Nat) : takeM (fun i => seqM p q (p.length + i) &&& m) (fullM q).length = maskL m (fullM q) := by
  apply List.ext_getElem
  · simp [takeM, maskL]
  · intro i h1 h2
    have hi : i < (fullM q).length := by simpa [takeM] using h1
    simp [takeM, maskL, seqM_loop (p := p) (q := q) (i := p.length + i) (by omega), Nat.mod_eq_of_lt hi, hi]

set_option maxHeartbeats 4000000 in
theorem project_own {z1 z2 : Bool} {p q : List Nat} {m : Nat} (hm : m < 256) (hpw : ∀ x ∈ p, x < 256) (hqw : ∀ x ∈ q, x < 256) (hp : p.length < 134217728) (hq : q.length < 134217728) :
    OwnRes 15 [las z1 z2 p q, .int .u8 (m : Nat)] (seqM (maskL m p) (maskL m (fullM q))) false := by
  obtain ⟨z, hfull⟩ := full_eq z1 z2 p q
  have hfl := fullM_len q
  have hfp := fullM_pos q
  have hfq : ∀ x ∈ fullM q, x < 256 := by
    unfold fullM
    split
    · simp
    · exact hqw
  have l1 := maskL_length m p
  have l2 := maskL_length m (fullM q)
  obtain ⟨p', q', h1, h2, h3, h4⟩ := own12 (z1 := false) (z2 := false) (p := maskL m p) (q := maskL m (fullM q)) (fun e => by cases e) (by omega) (by omega)
  rcases h4 with ⟨h, -⟩ | ⟨-, h4⟩
  · cases h
  have e1 := mask_pre p (fullM q) m
  have e2 := mask_loop p (fullM q) m
  rw [fullM_of hfp] at e2
  rw [← e1, ← e2] at h4
  have hH : ∀ (T : Heap) (i : Nat), i < p.length + (fullM q).length → L.icall (.func 40 [.ptr 0 0, .ptr 1 0]) [.int .i64 (i : Nat)] ([.cells false false [word z1 p, word z (fullM q)], .cells false false [.int .u8 (m : Nat)], .cells false false [.sl true 0 [], .sl true 0 []]] ++ T) = some (.int .u8 ((seqM p (fullM q) i &&& m : Nat) : Int), [.cells false false [word z1 p, word z (fullM q)], .cells false false [.int .u8 (m : Nat)], .cells false false [.sl true 0 [], .sl true 0 []]] ++ T) := by
    intro T i hi
    rw [let40 z1 z p (fullM q) m _ 0 1 i rfl rfl (by omega) (by omega) (by omega), and8 (seq_lt hpw hfq i) hm]
  obtain ⟨c0, c1, hb⟩ := build_own (n := p.length) (p := (fullM q).length) (by omega) (by omega) hH h4
  refine ⟨p', q', h1, h2, h3, .inr ⟨rfl, ?_⟩⟩
  rw [ocallA_eq, a15i, a15, bodyA_eq]
  simp (maxSteps := 30000000) (disch := first | assumption | omega | (simp only [List.length_cons, List.length_nil, List.length_append, List.length_set, List.length_replicate, List.length_map, List.length_range, List.length_take, List.length_drop, List.all_cons, List.all_nil, AV.isCell, Bool.and_self, Bool.and_true, bs_length, is64_length] <;> omega) | rfl | decide) only [List.append_nil, List.length_cons, List.length_nil, Nat.zero_add, Nat.reduceAdd, Nat.reduceSub, pads, List.cons_append, List.nil_append, run_seq, run_region, runOps_cons, oper_none, ex_box, AV.cells, opv, List.getD_cons_zero, List.all_cons, AV.isCell, List.all_nil, Bool.and_self, if_true, putK_to, List.set_cons_succ, List.set_cons_zero, opsK_some, List.getD_cons_succ, runOps_nil, regK_some, seqK_normal, ex_load, rd_ptr, List.getElem?_cons_zero, rdK_cells, List.drop_zero, List.take_succ_cons, List.take_nil, loadK_n, valK_some, ex_call, List.map_cons, List.map_nil, pcallA_eq, frzN, List.mapM_cons, frz_agg, frz_sl, List.mapM_nil, Option.pure_def, Option.bind_eq_bind, Option.bind_some, Option.map_some, argK_some, hfull, retK_some, scal, scal1, Bool.and_true, Bool.false_eq_true, fzIds, List.flatMap_cons, bor_agg, bor_sl, List.flatMap_nil, List.foldl_nil, ite_self, ex_store, wr_ptr, wrK_cells, splice, List.take_zero, List.drop_succ_cons, List.drop_nil, storeK_some, putK_no, ex_faddr, faddrA_ptr, Nat.add_zero, loadK_1, ex_len, lenA_sl, ex_mkfunc, ex_icall, hb, List.getElem?_cons_succ, run_ret, bodyK_ret, results_1, res_cell, cellK_some, mkv_n, retvK_some, ocallK_some, compact_agg, take2_agg, takeL_cons, take1_own, findI_nil, t1I_new, dat_bs, tkL_some, findI_cons, Nat.reduceBEq, Option.map_none, if_false, takeL_nil]
end Go.Abs.Lasso
