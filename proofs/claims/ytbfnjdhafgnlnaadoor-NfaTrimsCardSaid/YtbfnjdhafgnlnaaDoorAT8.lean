/- Trim's loops. -/
import Derived.Test.YtbfnjdhafgnlnaaDoorAT7
import Derived.Test.YtbfnjdhafgnlnaaDoorAN7
namespace Go.Abs.NfaD
open Go Go.Abs
set_option linter.unusedSimpArgs false
set_option linter.unusedVariables false

/-- a list under way: nil, or a block of the heap's tail -/
def Bld (T : Heap) (v : AV) (es n : Nat) (cs : List AV) : Prop :=
  (v = .sl true 0 [] ∧ n = 0 ∧ cs = []) ∨ ∃ k, v = .own false (k + 1 + 1 + 1) 0 n es ∧ T[k]? = some (.cells false false cs) ∧ cs.length = n * es

/-- the block that a list under way lies in is not the j-th -/
def Not (v : AV) (j : Nat) : Prop := ∀ n es, v ≠ .own false (j + 1 + 1 + 1) 0 n es

theorem getI_mem {l : List Int} {i : Nat} (h : i < l.length) : l.getD i 0 ∈ l := by
  rw [List.getD_eq_getElem?_getD, List.getElem?_eq_getElem h]
  exact List.getElem_mem _

/-- a state's new number -/
def num (U : Nat → Bool) (q : Int) : Option Int := if U q.toNat = true then some ((rank U q.toNat : Nat) : Int) else none
def numE (U : Nat → Bool) (e : Ed) : Option Ed := if U e.a.toNat = true ∧ U e.b.toNat = true then some ⟨(rank U e.a.toNat : Nat), (rank U e.b.toNat : Nat), e.p, e.n⟩ else none

abbrev HT (n : Aut) (U : Nat → Bool) (z : Bool) (k : Nat) (sv fv ev : AV) (T : Heap) : Heap := .cells false false n.cells :: .cells false false [.int .i64 n.vars, .int .i64 (k : Nat), sv, fv, ev] :: .cells false false [.sl z (setL U).length (is64 (setL U))] :: T

theorem number46 {c0 c1 : Blk} {z : Bool} {T : Heap} (U : Nat → Bool) (q : Int) (h0 : 0 ≤ q) (h1 : q < 4096) : L.icall (.func 46 [.ptr 2 0]) [.int .i64 q] (c0 :: c1 :: .cells false false [.sl z (setL U).length (is64 (setL U))] :: T) =
    some (.tup [.int .i64 (rank U q.toNat : Nat), .bool (U q.toNat)], c0 :: c1 :: .cells false false [.sl z (setL U).length (is64 (setL U))] :: T) := by
  have h := bs_eq z U (q := q.toNat) (by omega)
  rw [show ((q.toNat : Nat) : Int) = q by omega] at h
  have hl := setL_len U
  rw [a46i, a46]
  simp (maxSteps := 30000000) (disch := first | assumption | omega | (simp only [List.length_cons, List.length_nil, List.length_append, List.length_set, List.length_replicate, List.length_map, List.length_range, List.length_take, List.length_drop, List.all_cons, List.all_nil, AV.isCell, Bool.and_self, Bool.and_true, bs_length, is64_length, w64_length, ints_length, edges_length] <;> omega) | rfl | decide) only [List.cons_append, List.nil_append, bodyA_eq, List.length_cons, List.length_nil, Nat.zero_add, Nat.reduceAdd, Nat.reduceSub, pads, run_seq, run_region, runOps_cons, oper_none, ex_mov, opv, putK_to, List.set_cons_succ, List.set_cons_zero, opsK_some, runOps_nil, regK_some, seqK_normal, ex_load, List.getD_cons_succ, List.getD_cons_zero, rd_ptr, List.getElem?_cons_succ, List.getElem?_cons_zero, rdK_cells, List.drop_zero, List.take_succ_cons, List.take_nil, loadK_1, valK_some, ex_call, List.map_cons, List.map_nil, pcallA_eq, frzN, List.mapM_cons, frz_sl, frz_int, List.mapM_nil, Option.pure_def, Option.bind_eq_bind, Option.bind_some, argK_some, h, retK_some, scal, List.all_cons, scal1, List.all_nil, Bool.and_self, fzIds, List.flatMap_cons, bor_sl, bor_int, List.flatMap_nil, List.append_nil, List.foldl_nil, ite_self, ex_ext, extA_tup, run_ret, bodyK_ret, results_2, resL_cons, res_tmp, resK_some, resL_nil, Option.map_some, retvK_some]

theorem ts_loop {n : Aut} {U : Nat → Bool} {z : Bool} {k0 : Nat} {o1 o2 : AV} (hl : n.st.length < 1000) (hq : ∀ q ∈ n.st, 0 ≤ q ∧ q < 4096) : ∀ d i T sv l, i + d = n.st.length → l.length + d < 100000 → Bld T sv 1 l.length (ints l) →
    ∃ T' sv', L.loop a17l0s a17l0 ⟨a17l0F (.ptr 0 0) (.ptr 1 0) (.func 46 [.ptr 2 0]) (iw n.z1 n.st) (.int .i64 (n.st.length : Nat)) (.int .i64 (i : Nat)), HT n U z k0 sv o1 o2 T⟩ =
      some (.exit 0, ⟨a17l0F (.ptr 0 0) (.ptr 1 0) (.func 46 [.ptr 2 0]) (iw n.z1 n.st) (.int .i64 (n.st.length : Nat)) (.int .i64 (n.st.length : Nat)), HT n U z k0 sv' o1 o2 T'⟩) ∧
      Bld T' sv' 1 (l ++ (n.st.drop i).filterMap (num U)).length (ints (l ++ (n.st.drop i).filterMap (num U))) ∧
      (∀ j x, Not sv j → T[j]? = some x → T'[j]? = some x ∧ Not sv' j)
  | 0, i, T, sv, l, h, hll, hB => by
    obtain rfl : i = n.st.length := by omega
    refine ⟨T, sv, ?_, by rw [List.drop_length]; simpa using hB, fun j x h1 h2 => ⟨h2, h1⟩⟩
    rw [a17l0n]
    simp (maxSteps := 30000000) (disch := first | assumption | omega | (simp only [List.length_cons, List.length_nil, List.length_append, List.length_set, List.length_replicate, List.length_map, List.length_range, List.length_take, List.length_drop, List.all_cons, List.all_nil, AV.isCell, Bool.and_self, Bool.and_true, bs_length, is64_length, w64_length, ints_length, edges_length] <;> omega) | rfl | decide) only [a17l0b, run_seq, run_region, runOps_cons, oper_none, ex_bin, opv, List.getD_cons_succ, List.getD_cons_zero, bin_lss, Int.lt_irrefl, decide_false, valK_some, putK_to, List.set_cons_succ, List.set_cons_zero, opsK_some, runOps_nil, regK_some, seqK_normal, run_cond, condK_bool, Bool.false_eq_true, run_skip, run_exit, if_false, seqK_exit, loopK_exit, a17l0c]
  | d + 1, i, T, sv, l, h, hll, hB => by
    have hlt : (i : Int) < (n.st.length : Nat) := by omega
    have hqi := hq _ (getI_mem (by omega : i < n.st.length))
    have hnum := fun (c0 c1 : Blk) (T : Heap) => number46 (c0 := c0) (c1 := c1) (z := z) (T := T) U (n.st.getD i 0) hqi.1 hqi.2
    have hd : (n.st.drop i) = n.st.getD i 0 :: n.st.drop (i + 1) := by rw [drop_getI (by omega)]
    cases hU : U (n.st.getD i 0).toNat with
    | false =>
      rw [hU] at hnum
      have hf : (n.st.drop i).filterMap (num U) = (n.st.drop (i + 1)).filterMap (num U) := by
        rw [hd, List.filterMap_cons]; simp only [num, hU, Bool.false_eq_true, if_false]
      obtain ⟨T', sv', h1, h2, h3⟩ := ts_loop (U := U) (z := z) (k0 := k0) (o1 := o1) (o2 := o2) hl hq d (i + 1) T sv l (by omega) (by omega) hB
      refine ⟨T', sv', ?_, by rw [hf]; exact h2, h3⟩
      rw [a17l0n]
      simp (maxSteps := 30000000) (disch := first | assumption | omega | (simp only [List.length_cons, List.length_nil, List.length_append, List.length_set, List.length_replicate, List.length_map, List.length_range, List.length_take, List.length_drop, List.all_cons, List.all_nil, AV.isCell, Bool.and_self, Bool.and_true, bs_length, is64_length, w64_length, ints_length, edges_length] <;> omega) | rfl | decide) only [a17l0b, run_seq, run_region, runOps_cons, oper_none, ex_bin, opv, List.getD_cons_succ, List.getD_cons_zero, bin_lss, hlt, decide_true, valK_some, putK_to, List.set_cons_succ, List.set_cons_zero, opsK_some, runOps_nil, regK_some, seqK_normal, run_cond, condK_bool, run_skip, run_exit, if_true, run_block, ex_iaddr, iaddrA_sl, Int.toNat_natCast, Nat.mul_one, ex_load, rd_vptr, ints_drop, ints_take, ints_at0, getD_dropI, Nat.add_zero, loadK_1, ex_mov, ex_icall, List.map_cons, List.map_nil, hnum, ex_ext, extA_tup, List.getElem?_cons_zero, List.getElem?_cons_succ, Bool.false_eq_true, ex_faddr, faddrA_ptr, Nat.zero_add, rd_ptr, rdK_cells, List.drop_succ_cons, List.drop_zero, List.take_succ_cons, List.take_zero, ex_bslice, AV.cells, List.all_cons, List.length_cons, List.length_nil, beq_self_eq_true, List.all_nil, Bool.and_self, repz_1, List.append_nil, fillA, Nat.le_refl, AV.isCell, and_self, splice, List.nil_append, List.drop_nil, newK_some, newA_data, frzN, List.flatMap_cons, bor_int, List.flatMap_nil, List.isEmpty_nil, List.mapM_cons, frz_int, List.mapM_nil, Option.pure_def, Option.bind_eq_bind, Option.bind_some, slK_some, ex_append, src_sl, if_false, blockK_normal, bin_add, cadd1, wr64, loopK_normal, a17l0c, h1]
    | true =>
      rw [hU] at hnum
      have hf : (n.st.drop i).filterMap (num U) = ((rank U (n.st.getD i 0).toNat : Nat) : Int) :: (n.st.drop (i + 1)).filterMap (num U) := by
        rw [hd, List.filterMap_cons]; simp only [num, hU, if_true]
      rw [hf]
      generalize rank U (n.st.getD i 0).toNat = r at *
      rcases hB with ⟨rfl, e1, e2⟩ | ⟨k, rfl, e1, e2⟩
      · have hl0 : l = [] := List.length_eq_zero_iff.1 e1
        subst hl0
        obtain ⟨T', sv', h1, h2, h3⟩ := ts_loop (U := U) (z := z) (k0 := k0) (o1 := o1) (o2 := o2) hl hq d (i + 1) (T ++ [.cells false false (ints [(r : Int)])]) (.own false (T.length + 1 + 1 + 1) 0 1 1) [(r : Int)] (by omega) (by simp at hll ⊢; omega)
          (.inr ⟨T.length, rfl, by simp, by rw [ints_length]; simp⟩)
        refine ⟨T', sv', ?_, ?_, fun j x q1 q2 => ?_⟩
        · simp only [List.cons_append, List.nil_append, ints_one] at h1
          rw [a17l0n]
          simp (maxSteps := 30000000) (disch := first | assumption | omega | (simp only [List.length_cons, List.length_nil, List.length_append, List.length_set, List.length_replicate, List.length_map, List.length_range, List.length_take, List.length_drop, List.all_cons, List.all_nil, AV.isCell, Bool.and_self, Bool.and_true, bs_length, is64_length, w64_length, ints_length, edges_length] <;> omega) | rfl | decide) only [a17l0b, run_seq, run_region, runOps_cons, oper_none, ex_bin, opv, List.getD_cons_succ, List.getD_cons_zero, bin_lss, hlt, decide_true, valK_some, putK_to, List.set_cons_succ, List.set_cons_zero, opsK_some, runOps_nil, regK_some, seqK_normal, run_cond, condK_bool, run_skip, run_exit, if_true, run_block, ex_iaddr, iaddrA_sl, Int.toNat_natCast, Nat.mul_one, ex_load, rd_vptr, ints_drop, ints_take, ints_at0, getD_dropI, Nat.add_zero, loadK_1, ex_mov, ex_icall, List.map_cons, List.map_nil, hnum, ex_ext, extA_tup, List.getElem?_cons_zero, List.getElem?_cons_succ, ex_faddr, faddrA_ptr, Nat.zero_add, rd_ptr, rdK_cells, List.drop_succ_cons, List.drop_zero, List.take_succ_cons, List.take_zero, ex_bslice, AV.cells, List.all_cons, List.length_cons, List.length_nil, beq_self_eq_true, List.all_nil, Bool.and_self, repz_1, List.append_nil, fillA, Nat.le_refl, AV.isCell, and_self, splice, List.nil_append, List.drop_nil, newK_some, newA_data, frzN, List.flatMap_cons, bor_int, List.flatMap_nil, List.isEmpty_nil, List.mapM_cons, frz_int, List.mapM_nil, Option.pure_def, Option.bind_eq_bind, Option.bind_some, slK_some, ex_append, src_sl, appK_nil, Nat.reduceBEq, newA_own, List.cons_append, ex_store, wr_ptr, wrK_cells, Nat.reduceAdd, storeK_some, putK_no, blockK_normal, bin_add, cadd1, wr64, loopK_normal, a17l0c, h1]
        · simpa using h2
        · have hj := (List.getElem?_eq_some_iff.1 q2).1
          exact h3 j x (fun n es e => by cases e; omega) (by rw [List.getElem?_append_left hj]; exact q2)
      · have hk := (List.getElem?_eq_some_iff.1 e1).1
        obtain ⟨T', sv', h1, h2, h3⟩ := ts_loop (U := U) (z := z) (k0 := k0) (o1 := o1) (o2 := o2) hl hq d (i + 1) (T.set k .dead ++ [.cells false false (ints (l ++ [(r : Int)]))]) (.own false (T.length + 1 + 1 + 1) 0 (l ++ [(r : Int)]).length 1) (l ++ [(r : Int)]) (by omega) (by simp at hll ⊢; omega)
          (.inr ⟨T.length, rfl, by simp, by rw [ints_length]; simp⟩)
        refine ⟨T', sv', ?_, ?_, fun j x q1 q2 => ?_⟩
        · have hsn : ints l ++ [AV.int .i64 (r : Int)] = ints (l ++ [(r : Int)]) := by simp [ints]
          have hll2 : (l ++ [(r : Int)]).length = l.length + 1 := by simp
          simp only [hll2] at h1
          rw [a17l0n]
          simp (maxSteps := 30000000) (disch := first | assumption | omega | (simp only [List.length_cons, List.length_nil, List.length_append, List.length_set, List.length_replicate, List.length_map, List.length_range, List.length_take, List.length_drop, List.all_cons, List.all_nil, AV.isCell, Bool.and_self, Bool.and_true, bs_length, is64_length, w64_length, ints_length, edges_length] <;> omega) | rfl | decide) only [a17l0b, run_seq, run_region, runOps_cons, oper_none, ex_bin, opv, List.getD_cons_succ, List.getD_cons_zero, bin_lss, hlt, decide_true, valK_some, putK_to, List.set_cons_succ, List.set_cons_zero, opsK_some, runOps_nil, regK_some, seqK_normal, run_cond, condK_bool, run_skip, run_exit, if_true, run_block, ex_iaddr, iaddrA_sl, Int.toNat_natCast, Nat.mul_one, ex_load, rd_vptr, ints_drop, ints_take, ints_at0, getD_dropI, Nat.add_zero, loadK_1, ex_mov, ex_icall, List.map_cons, List.map_nil, hnum, ex_ext, extA_tup, List.getElem?_cons_zero, List.getElem?_cons_succ, ex_faddr, faddrA_ptr, Nat.zero_add, rd_ptr, rdK_cells, List.drop_succ_cons, List.drop_zero, List.take_succ_cons, List.take_zero, ex_bslice, AV.cells, List.all_cons, List.length_cons, List.length_nil, beq_self_eq_true, List.all_nil, Bool.and_self, repz_1, List.append_nil, fillA, Nat.le_refl, AV.isCell, and_self, splice, List.nil_append, List.drop_nil, newK_some, newA_data, frzN, List.flatMap_cons, bor_int, List.flatMap_nil, List.isEmpty_nil, List.mapM_cons, frz_int, List.mapM_nil, Option.pure_def, Option.bind_eq_bind, Option.bind_some, slK_some, ex_append, src_sl, appK_own, e1, appOK_cells, Nat.reduceBEq, List.take_length, hsn, List.cons_append, ex_store, wr_ptr, wrK_cells, Nat.reduceAdd, storeK_some, putK_no, blockK_normal, bin_add, cadd1, wr64, loopK_normal, a17l0c, h1]
        · simpa using h2
        · have hj := (List.getElem?_eq_some_iff.1 q2).1
          have hjk : j ≠ k := by
            rintro rfl
            exact q1 _ _ rfl
          exact h3 j x (fun n es e => by cases e; omega) (by rw [List.getElem?_append_left (by simpa using hj), List.getElem?_set_ne (fun e => hjk e.symm)]; exact q2)

theorem tf_loop {n : Aut} {U : Nat → Bool} {z : Bool} {k0 : Nat} {o1 o2 : AV} (hl : n.fi.length < 1000) (hq : ∀ q ∈ n.fi, 0 ≤ q ∧ q < 4096) : ∀ d i T sv l, i + d = n.fi.length → l.length + d < 100000 → Bld T sv 1 l.length (ints l) →
    ∃ T' sv', L.loop a17l1s a17l1 ⟨a17l1F (.ptr 0 0) (.ptr 1 0) (.func 46 [.ptr 2 0]) (iw n.z2 n.fi) (.int .i64 (n.fi.length : Nat)) (.int .i64 (i : Nat)), HT n U z k0 o1 sv o2 T⟩ =
      some (.exit 2, ⟨a17l1F (.ptr 0 0) (.ptr 1 0) (.func 46 [.ptr 2 0]) (iw n.z2 n.fi) (.int .i64 (n.fi.length : Nat)) (.int .i64 (n.fi.length : Nat)), HT n U z k0 o1 sv' o2 T'⟩) ∧
      Bld T' sv' 1 (l ++ (n.fi.drop i).filterMap (num U)).length (ints (l ++ (n.fi.drop i).filterMap (num U))) ∧
      (∀ j x, Not sv j → T[j]? = some x → T'[j]? = some x ∧ Not sv' j)
  | 0, i, T, sv, l, h, hll, hB => by
    obtain rfl : i = n.fi.length := by omega
    refine ⟨T, sv, ?_, by rw [List.drop_length]; simpa using hB, fun j x h1 h2 => ⟨h2, h1⟩⟩
    rw [a17l1n]
    simp (maxSteps := 30000000) (disch := first | assumption | omega | (simp only [List.length_cons, List.length_nil, List.length_append, List.length_set, List.length_replicate, List.length_map, List.length_range, List.length_take, List.length_drop, List.all_cons, List.all_nil, AV.isCell, Bool.and_self, Bool.and_true, bs_length, is64_length, w64_length, ints_length, edges_length] <;> omega) | rfl | decide) only [a17l1b, run_seq, run_region, runOps_cons, oper_none, ex_bin, opv, List.getD_cons_succ, List.getD_cons_zero, bin_lss, Int.lt_irrefl, decide_false, valK_some, putK_to, List.set_cons_succ, List.set_cons_zero, opsK_some, runOps_nil, regK_some, seqK_normal, run_cond, condK_bool, Bool.false_eq_true, run_skip, run_exit, if_false, seqK_exit, loopK_exit, a17l1c]
  | d + 1, i, T, sv, l, h, hll, hB => by
    have hlt : (i : Int) < (n.fi.length : Nat) := by omega
    have hqi := hq _ (getI_mem (by omega : i < n.fi.length))
    have hnum := fun (c0 c1 : Blk) (T : Heap) => number46 (c0 := c0) (c1 := c1) (z := z) (T := T) U (n.fi.getD i 0) hqi.1 hqi.2
    have hd : (n.fi.drop i) = n.fi.getD i 0 :: n.fi.drop (i + 1) := by rw [drop_getI (by omega)]
    cases hU : U (n.fi.getD i 0).toNat with
    | false =>
      rw [hU] at hnum
      have hf : (n.fi.drop i).filterMap (num U) = (n.fi.drop (i + 1)).filterMap (num U) := by
        rw [hd, List.filterMap_cons]; simp only [num, hU, Bool.false_eq_true, if_false]
      obtain ⟨T', sv', h1, h2, h3⟩ := tf_loop (U := U) (z := z) (k0 := k0) (o1 := o1) (o2 := o2) hl hq d (i + 1) T sv l (by omega) (by omega) hB
      refine ⟨T', sv', ?_, by rw [hf]; exact h2, h3⟩
      rw [a17l1n]
      simp (maxSteps := 30000000) (disch := first | assumption | omega | (simp only [List.length_cons, List.length_nil, List.length_append, List.length_set, List.length_replicate, List.length_map, List.length_range, List.length_take, List.length_drop, List.all_cons, List.all_nil, AV.isCell, Bool.and_self, Bool.and_true, bs_length, is64_length, w64_length, ints_length, edges_length] <;> omega) | rfl | decide) only [a17l1b, run_seq, run_region, runOps_cons, oper_none, ex_bin, opv, List.getD_cons_succ, List.getD_cons_zero, bin_lss, hlt, decide_true, valK_some, putK_to, List.set_cons_succ, List.set_cons_zero, opsK_some, runOps_nil, regK_some, seqK_normal, run_cond, condK_bool, run_skip, run_exit, if_true, run_block, ex_iaddr, iaddrA_sl, Int.toNat_natCast, Nat.mul_one, ex_load, rd_vptr, ints_drop, ints_take, ints_at0, getD_dropI, Nat.add_zero, loadK_1, ex_mov, ex_icall, List.map_cons, List.map_nil, hnum, ex_ext, extA_tup, List.getElem?_cons_zero, List.getElem?_cons_succ, Bool.false_eq_true, ex_faddr, faddrA_ptr, Nat.zero_add, rd_ptr, rdK_cells, List.drop_succ_cons, List.drop_zero, List.take_succ_cons, List.take_zero, ex_bslice, AV.cells, List.all_cons, List.length_cons, List.length_nil, beq_self_eq_true, List.all_nil, Bool.and_self, repz_1, List.append_nil, fillA, Nat.le_refl, AV.isCell, and_self, splice, List.nil_append, List.drop_nil, newK_some, newA_data, frzN, List.flatMap_cons, bor_int, List.flatMap_nil, List.isEmpty_nil, List.mapM_cons, frz_int, List.mapM_nil, Option.pure_def, Option.bind_eq_bind, Option.bind_some, slK_some, ex_append, src_sl, if_false, blockK_normal, bin_add, cadd1, wr64, loopK_normal, a17l1c, h1]
    | true =>
      rw [hU] at hnum
      have hf : (n.fi.drop i).filterMap (num U) = ((rank U (n.fi.getD i 0).toNat : Nat) : Int) :: (n.fi.drop (i + 1)).filterMap (num U) := by
        rw [hd, List.filterMap_cons]; simp only [num, hU, if_true]
      rw [hf]
      generalize rank U (n.fi.getD i 0).toNat = r at *
      rcases hB with ⟨rfl, e1, e2⟩ | ⟨k, rfl, e1, e2⟩
      · have hl0 : l = [] := List.length_eq_zero_iff.1 e1
        subst hl0
        obtain ⟨T', sv', h1, h2, h3⟩ := tf_loop (U := U) (z := z) (k0 := k0) (o1 := o1) (o2 := o2) hl hq d (i + 1) (T ++ [.cells false false (ints [(r : Int)])]) (.own false (T.length + 1 + 1 + 1) 0 1 1) [(r : Int)] (by omega) (by simp at hll ⊢; omega)
          (.inr ⟨T.length, rfl, by simp, by rw [ints_length]; simp⟩)
        refine ⟨T', sv', ?_, ?_, fun j x q1 q2 => ?_⟩
        · simp only [List.cons_append, List.nil_append, ints_one] at h1
          rw [a17l1n]
          simp (maxSteps := 30000000) (disch := first | assumption | omega | (simp only [List.length_cons, List.length_nil, List.length_append, List.length_set, List.length_replicate, List.length_map, List.length_range, List.length_take, List.length_drop, List.all_cons, List.all_nil, AV.isCell, Bool.and_self, Bool.and_true, bs_length, is64_length, w64_length, ints_length, edges_length] <;> omega) | rfl | decide) only [a17l1b, run_seq, run_region, runOps_cons, oper_none, ex_bin, opv, List.getD_cons_succ, List.getD_cons_zero, bin_lss, hlt, decide_true, valK_some, putK_to, List.set_cons_succ, List.set_cons_zero, opsK_some, runOps_nil, regK_some, seqK_normal, run_cond, condK_bool, run_skip, run_exit, if_true, run_block, ex_iaddr, iaddrA_sl, Int.toNat_natCast, Nat.mul_one, ex_load, rd_vptr, ints_drop, ints_take, ints_at0, getD_dropI, Nat.add_zero, loadK_1, ex_mov, ex_icall, List.map_cons, List.map_nil, hnum, ex_ext, extA_tup, List.getElem?_cons_zero, List.getElem?_cons_succ, ex_faddr, faddrA_ptr, Nat.zero_add, rd_ptr, rdK_cells, List.drop_succ_cons, List.drop_zero, List.take_succ_cons, List.take_zero, ex_bslice, AV.cells, List.all_cons, List.length_cons, List.length_nil, beq_self_eq_true, List.all_nil, Bool.and_self, repz_1, List.append_nil, fillA, Nat.le_refl, AV.isCell, and_self, splice, List.nil_append, List.drop_nil, newK_some, newA_data, frzN, List.flatMap_cons, bor_int, List.flatMap_nil, List.isEmpty_nil, List.mapM_cons, frz_int, List.mapM_nil, Option.pure_def, Option.bind_eq_bind, Option.bind_some, slK_some, ex_append, src_sl, appK_nil, Nat.reduceBEq, newA_own, List.cons_append, ex_store, wr_ptr, wrK_cells, Nat.reduceAdd, storeK_some, putK_no, blockK_normal, bin_add, cadd1, wr64, loopK_normal, a17l1c, h1]
        · simpa using h2
        · have hj := (List.getElem?_eq_some_iff.1 q2).1
          exact h3 j x (fun n es e => by cases e; omega) (by rw [List.getElem?_append_left hj]; exact q2)
      · have hk := (List.getElem?_eq_some_iff.1 e1).1
        obtain ⟨T', sv', h1, h2, h3⟩ := tf_loop (U := U) (z := z) (k0 := k0) (o1 := o1) (o2 := o2) hl hq d (i + 1) (T.set k .dead ++ [.cells false false (ints (l ++ [(r : Int)]))]) (.own false (T.length + 1 + 1 + 1) 0 (l ++ [(r : Int)]).length 1) (l ++ [(r : Int)]) (by omega) (by simp at hll ⊢; omega)
          (.inr ⟨T.length, rfl, by simp, by rw [ints_length]; simp⟩)
        refine ⟨T', sv', ?_, ?_, fun j x q1 q2 => ?_⟩
        · have hsn : ints l ++ [AV.int .i64 (r : Int)] = ints (l ++ [(r : Int)]) := by simp [ints]
          have hll2 : (l ++ [(r : Int)]).length = l.length + 1 := by simp
          simp only [hll2] at h1
          rw [a17l1n]
          simp (maxSteps := 30000000) (disch := first | assumption | omega | (simp only [List.length_cons, List.length_nil, List.length_append, List.length_set, List.length_replicate, List.length_map, List.length_range, List.length_take, List.length_drop, List.all_cons, List.all_nil, AV.isCell, Bool.and_self, Bool.and_true, bs_length, is64_length, w64_length, ints_length, edges_length] <;> omega) | rfl | decide) only [a17l1b, run_seq, run_region, runOps_cons, oper_none, ex_bin, opv, List.getD_cons_succ, List.getD_cons_zero, bin_lss, hlt, decide_true, valK_some, putK_to, List.set_cons_succ, List.set_cons_zero, opsK_some, runOps_nil, regK_some, seqK_normal, run_cond, condK_bool, run_skip, run_exit, if_true, run_block, ex_iaddr, iaddrA_sl, Int.toNat_natCast, Nat.mul_one, ex_load, rd_vptr, ints_drop, ints_take, ints_at0, getD_dropI, Nat.add_zero, loadK_1, ex_mov, ex_icall, List.map_cons, List.map_nil, hnum, ex_ext, extA_tup, List.getElem?_cons_zero, List.getElem?_cons_succ, ex_faddr, faddrA_ptr, Nat.zero_add, rd_ptr, rdK_cells, List.drop_succ_cons, List.drop_zero, List.take_succ_cons, List.take_zero, ex_bslice, AV.cells, List.all_cons, List.length_cons, List.length_nil, beq_self_eq_true, List.all_nil, Bool.and_self, repz_1, List.append_nil, fillA, Nat.le_refl, AV.isCell, and_self, splice, List.nil_append, List.drop_nil, newK_some, newA_data, frzN, List.flatMap_cons, bor_int, List.flatMap_nil, List.isEmpty_nil, List.mapM_cons, frz_int, List.mapM_nil, Option.pure_def, Option.bind_eq_bind, Option.bind_some, slK_some, ex_append, src_sl, appK_own, e1, appOK_cells, Nat.reduceBEq, List.take_length, hsn, List.cons_append, ex_store, wr_ptr, wrK_cells, Nat.reduceAdd, storeK_some, putK_no, blockK_normal, bin_add, cadd1, wr64, loopK_normal, a17l1c, h1]
        · simpa using h2
        · have hj := (List.getElem?_eq_some_iff.1 q2).1
          have hjk : j ≠ k := by
            rintro rfl
            exact q1 _ _ rfl
          exact h3 j x (fun n es e => by cases e; omega) (by rw [List.getElem?_append_left (by simpa using hj), List.getElem?_set_ne (fun e => hjk e.symm)]; exact q2)

set_option maxHeartbeats 2000000 in
theorem te_loop {n : Aut} {U : Nat → Bool} {z : Bool} {k0 : Nat} {o1 o2 : AV} (hl : n.ed.length < 1000) (hq : ∀ e ∈ n.ed, (0 ≤ e.a ∧ e.a < 4096) ∧ 0 ≤ e.b ∧ e.b < 4096) : ∀ d i T ev l, i + d = n.ed.length → l.length + d < 100000 → Bld T ev 4 l.length (edges l) →
    ∃ T' ev', L.loop a17l2s a17l2 ⟨a17l2F (.ptr 1 0) (.func 46 [.ptr 2 0]) (.sl n.z3 n.ed.length (edges n.ed)) (.int .i64 (n.ed.length : Nat)) (.int .i64 (i : Nat)), HT n U z k0 o1 o2 ev T⟩ =
      some (.exit 4, ⟨a17l2F (.ptr 1 0) (.func 46 [.ptr 2 0]) (.sl n.z3 n.ed.length (edges n.ed)) (.int .i64 (n.ed.length : Nat)) (.int .i64 (n.ed.length : Nat)), HT n U z k0 o1 o2 ev' T'⟩) ∧
      Bld T' ev' 4 (l ++ (n.ed.drop i).filterMap (numE U)).length (edges (l ++ (n.ed.drop i).filterMap (numE U))) ∧
      (∀ j x, Not ev j → T[j]? = some x → T'[j]? = some x ∧ Not ev' j)
  | 0, i, T, ev, l, h, hll, hB => by
    obtain rfl : i = n.ed.length := by omega
    refine ⟨T, ev, ?_, by rw [List.drop_length]; simpa using hB, fun j x h1 h2 => ⟨h2, h1⟩⟩
    rw [a17l2n]
    simp (maxSteps := 30000000) (disch := first | assumption | omega | (simp only [List.length_cons, List.length_nil, List.length_append, List.length_set, List.length_replicate, List.length_map, List.length_range, List.length_take, List.length_drop, List.all_cons, List.all_nil, AV.isCell, Bool.and_self, Bool.and_true, bs_length, is64_length, w64_length, ints_length, edges_length] <;> omega) | rfl | decide) only [a17l2b, run_seq, run_region, runOps_cons, oper_none, ex_bin, opv, List.getD_cons_succ, List.getD_cons_zero, bin_lss, Int.lt_irrefl, decide_false, valK_some, putK_to, List.set_cons_succ, List.set_cons_zero, opsK_some, runOps_nil, regK_some, seqK_normal, run_cond, condK_bool, Bool.false_eq_true, run_skip, run_exit, if_false, seqK_exit, loopK_exit, a17l2c]
  | d + 1, i, T, ev, l, h, hll, hB => by
    have hlt : (i : Int) < (n.ed.length : Nat) := by omega
    have hqi := hq _ (getE_mem (by omega : i < n.ed.length))
    have hna := fun (c0 c1 : Blk) (T : Heap) => number46 (c0 := c0) (c1 := c1) (z := z) (T := T) U (n.ed.getD i e0).a hqi.1.1 hqi.1.2
    have hnb := fun (c0 c1 : Blk) (T : Heap) => number46 (c0 := c0) (c1 := c1) (z := z) (T := T) U (n.ed.getD i e0).b hqi.2.1 hqi.2.2
    have hd : (n.ed.drop i) = n.ed.getD i e0 :: n.ed.drop (i + 1) := by rw [drop_getE (by omega)]
    have skip : ¬ (U (n.ed.getD i e0).a.toNat = true ∧ U (n.ed.getD i e0).b.toNat = true) → (n.ed.drop i).filterMap (numE U) = (n.ed.drop (i + 1)).filterMap (numE U) := fun hU => by
      rw [hd, List.filterMap_cons]; simp only [numE, if_neg hU]
    have keep : Bld (T ++ [.cells false false (encE (n.ed.getD i e0))]) ev 4 l.length (edges l) := by
      rcases hB with hB | ⟨k, e1, e2, e3⟩
      · exact .inl hB
      · exact .inr ⟨k, e1, by rw [List.getElem?_append_left (List.getElem?_eq_some_iff.1 e2).1]; exact e2, e3⟩
    have old : ∀ (j : Nat) (x : Blk), T[j]? = some x → (T ++ [.cells false false (encE (n.ed.getD i e0))])[j]? = some x := fun j x q => by
      rw [List.getElem?_append_left (List.getElem?_eq_some_iff.1 q).1]; exact q
    cases hUa : U (n.ed.getD i e0).a.toNat with
    | false =>
      rw [hUa] at hna
      have hf := skip (fun h => by rw [hUa] at h; cases h.1)
      obtain ⟨T', ev', h1, h2, h3⟩ := te_loop (U := U) (z := z) (k0 := k0) (o1 := o1) (o2 := o2) hl hq d (i + 1) (T ++ [.cells false false (encE (n.ed.getD i e0))]) ev l (by omega) (by omega) keep
      refine ⟨T', ev', ?_, by rw [hf]; exact h2, fun j x q1 q2 => h3 j x q1 (old j x q2)⟩
      simp only [encE] at h1
      rw [a17l2n]
      simp (maxSteps := 30000000) (disch := first | assumption | omega | (simp only [List.length_cons, List.length_nil, List.length_append, List.length_set, List.length_replicate, List.length_map, List.length_range, List.length_take, List.length_drop, List.all_cons, List.all_nil, AV.isCell, Bool.and_self, Bool.and_true, bs_length, is64_length, w64_length, ints_length, edges_length] <;> omega) | rfl | decide) only [a17l2b, run_seq, run_region, runOps_cons, oper_none, ex_bin, opv, List.getD_cons_succ, List.getD_cons_zero, bin_lss, hlt, decide_true, valK_some, putK_to, List.set_cons_succ, List.set_cons_zero, opsK_some, runOps_nil, regK_some, seqK_normal, run_cond, condK_bool, run_skip, run_exit, if_true, run_block, ex_iaddr, iaddrA_sl, Int.toNat_natCast, ex_load, rd_vptr, edges_at, loadK_n, ex_box, AV.cells, List.all_cons, AV.isCell, List.all_nil, Bool.and_self, List.length_cons, List.cons_append, ex_store, List.length_nil, Nat.zero_add, Nat.reduceAdd, wr_ptr, List.getElem?_cons_succ, hget0, List.getElem?_cons_zero, wrK_cells, splice, List.take_zero, List.nil_append, List.drop_succ_cons, List.drop_nil, List.append_nil, hset0, storeK_some, putK_no, ex_mov, ex_faddr, faddrA_ptr, Nat.add_zero, rd_ptr, rdK_cells, List.drop_zero, List.take_succ_cons, loadK_1, ex_icall, List.map_cons, List.map_nil, hna, ex_ext, extA_tup, hnb, oper_guard, guardK_bool, Bool.false_eq_true, putA_to, if_false, ex_pick, pickA_bool, List.take_nil, ex_build, beq_self_eq_true, fillA, Nat.reduceLeDiff, and_self, Nat.le_refl, Option.map_some, ex_bslice, repz_1, Nat.reduceMul, newK_some, newA_data, frzN, List.flatMap_cons, bor_int, List.flatMap_nil, List.isEmpty_nil, List.mapM_cons, frz_int, List.mapM_nil, Option.pure_def, Option.bind_eq_bind, Option.bind_some, slK_some, ex_append, src_sl, blockK_normal, bin_add, cadd1, wr64, loopK_normal, a17l2c, h1]
    | true =>
      rw [hUa] at hna
      cases hUb : U (n.ed.getD i e0).b.toNat with
      | false =>
        rw [hUb] at hnb
        have hf := skip (fun h => by rw [hUb] at h; cases h.2)
        obtain ⟨T', ev', h1, h2, h3⟩ := te_loop (U := U) (z := z) (k0 := k0) (o1 := o1) (o2 := o2) hl hq d (i + 1) (T ++ [.cells false false (encE (n.ed.getD i e0))]) ev l (by omega) (by omega) keep
        refine ⟨T', ev', ?_, by rw [hf]; exact h2, fun j x q1 q2 => h3 j x q1 (old j x q2)⟩
        simp only [encE] at h1
        rw [a17l2n]
        simp (maxSteps := 30000000) (disch := first | assumption | omega | (simp only [List.length_cons, List.length_nil, List.length_append, List.length_set, List.length_replicate, List.length_map, List.length_range, List.length_take, List.length_drop, List.all_cons, List.all_nil, AV.isCell, Bool.and_self, Bool.and_true, bs_length, is64_length, w64_length, ints_length, edges_length] <;> omega) | rfl | decide) only [a17l2b, run_seq, run_region, runOps_cons, oper_none, ex_bin, opv, List.getD_cons_succ, List.getD_cons_zero, bin_lss, hlt, decide_true, valK_some, putK_to, List.set_cons_succ, List.set_cons_zero, opsK_some, runOps_nil, regK_some, seqK_normal, run_cond, condK_bool, run_skip, run_exit, if_true, run_block, ex_iaddr, iaddrA_sl, Int.toNat_natCast, ex_load, rd_vptr, edges_at, loadK_n, ex_box, AV.cells, List.all_cons, AV.isCell, List.all_nil, Bool.and_self, List.length_cons, List.cons_append, ex_store, List.length_nil, Nat.zero_add, Nat.reduceAdd, wr_ptr, List.getElem?_cons_succ, hget0, List.getElem?_cons_zero, wrK_cells, splice, List.take_zero, List.nil_append, List.drop_succ_cons, List.drop_nil, List.append_nil, hset0, storeK_some, putK_no, ex_mov, ex_faddr, faddrA_ptr, Nat.add_zero, rd_ptr, rdK_cells, List.drop_zero, List.take_succ_cons, loadK_1, ex_icall, List.map_cons, List.map_nil, hna, ex_ext, extA_tup, hnb, oper_guard, guardK_bool, putA_to, ex_pick, pickA_bool, ite_self, Bool.false_eq_true, List.take_nil, ex_build, beq_self_eq_true, fillA, Nat.reduceLeDiff, and_self, Nat.le_refl, Option.map_some, ex_bslice, repz_1, Nat.reduceMul, newK_some, newA_data, frzN, List.flatMap_cons, bor_int, List.flatMap_nil, List.isEmpty_nil, List.mapM_cons, frz_int, List.mapM_nil, Option.pure_def, Option.bind_eq_bind, Option.bind_some, slK_some, ex_append, src_sl, if_false, blockK_normal, bin_add, cadd1, wr64, loopK_normal, a17l2c, h1]
      | true =>
        rw [hUb] at hnb
        have hf : (n.ed.drop i).filterMap (numE U) = ⟨(rank U (n.ed.getD i e0).a.toNat : Nat), (rank U (n.ed.getD i e0).b.toNat : Nat), (n.ed.getD i e0).p, (n.ed.getD i e0).n⟩ :: (n.ed.drop (i + 1)).filterMap (numE U) := by
          rw [hd, List.filterMap_cons]; simp only [numE, hUa, hUb, and_self, if_true]
        rw [hf]
        generalize rank U (n.ed.getD i e0).a.toNat = ra at *
        generalize rank U (n.ed.getD i e0).b.toNat = rb at *
        generalize hne : (⟨(ra : Nat), (rb : Nat), (n.ed.getD i e0).p, (n.ed.getD i e0).n⟩ : Ed) = ne at *
        have hone : edges [ne] = [.int .i64 (ra : Nat), .int .i64 (rb : Nat), .int .u8 ((n.ed.getD i e0).p : Nat), .int .u8 ((n.ed.getD i e0).n : Nat)] := by subst hne; rfl
        have hsn : edges l ++ [AV.int .i64 (ra : Nat), .int .i64 (rb : Nat), .int .u8 ((n.ed.getD i e0).p : Nat), .int .u8 ((n.ed.getD i e0).n : Nat)] = edges (l ++ [ne]) := by
          subst hne; exact edges_snoc l ⟨(ra : Nat), (rb : Nat), (n.ed.getD i e0).p, (n.ed.getD i e0).n⟩
        have hcut : List.take (l.length * 4) (edges l) = edges l := List.take_of_length_le (by rw [edges_length]; omega)
        rcases hB with ⟨rfl, e1, e2⟩ | ⟨k, rfl, e1, e2⟩
        · have hl0 : l = [] := List.length_eq_zero_iff.1 e1
          subst hl0
          obtain ⟨T', sv', h1, h2, h3⟩ := te_loop (U := U) (z := z) (k0 := k0) (o1 := o1) (o2 := o2) hl hq d (i + 1) (T ++ [.cells false false (encE (n.ed.getD i e0))] ++ [.cells false false (edges [ne])]) (.own false (T.length + 1 + 1 + 1 + 1) 0 1 4) [ne] (by omega) (by simp at hll ⊢; omega)
            (.inr ⟨T.length + 1, rfl, by simp, by rw [edges_length]⟩)
          refine ⟨T', sv', ?_, ?_, fun j x q1 q2 => ?_⟩
          · simp only [List.append_assoc, List.cons_append, List.nil_append, hone, encE] at h1
            rw [a17l2n]
            simp (maxSteps := 30000000) (disch := first | assumption | omega | (simp only [List.length_cons, List.length_nil, List.length_append, List.length_set, List.length_replicate, List.length_map, List.length_range, List.length_take, List.length_drop, List.all_cons, List.all_nil, AV.isCell, Bool.and_self, Bool.and_true, bs_length, is64_length, w64_length, ints_length, edges_length] <;> omega) | rfl | decide) only [a17l2b, run_seq, run_region, runOps_cons, oper_none, ex_bin, opv, List.getD_cons_succ, List.getD_cons_zero, bin_lss, hlt, decide_true, valK_some, putK_to, List.set_cons_succ, List.set_cons_zero, opsK_some, runOps_nil, regK_some, seqK_normal, run_cond, condK_bool, run_skip, run_exit, if_true, run_block, ex_iaddr, iaddrA_sl, Int.toNat_natCast, ex_load, rd_vptr, edges_at, loadK_n, ex_box, AV.cells, List.all_cons, AV.isCell, List.all_nil, Bool.and_self, List.length_cons, List.cons_append, ex_store, List.length_nil, Nat.zero_add, Nat.reduceAdd, wr_ptr, List.getElem?_cons_succ, hget0, List.getElem?_cons_zero, wrK_cells, splice, List.take_zero, List.nil_append, List.drop_succ_cons, List.drop_nil, List.append_nil, hset0, storeK_some, putK_no, ex_mov, ex_faddr, faddrA_ptr, Nat.add_zero, rd_ptr, rdK_cells, List.drop_zero, List.take_succ_cons, loadK_1, ex_icall, List.map_cons, List.map_nil, hna, ex_ext, extA_tup, hnb, oper_guard, guardK_bool, putA_to, ex_pick, pickA_bool, List.take_nil, ex_build, beq_self_eq_true, fillA, Nat.reduceLeDiff, and_self, Nat.le_refl, Option.map_some, ex_bslice, repz_1, Nat.reduceMul, newK_some, newA_data, frzN, List.flatMap_cons, bor_int, List.flatMap_nil, List.isEmpty_nil, List.mapM_cons, frz_int, List.mapM_nil, Option.pure_def, Option.bind_eq_bind, Option.bind_some, slK_some, ex_append, src_sl, appK_nil, Nat.reduceBEq, newA_own, List.length_append, List.append_assoc, blockK_normal, bin_add, cadd1, wr64, loopK_normal, a17l2c, h1]
          · simpa using h2
          · have hj := (List.getElem?_eq_some_iff.1 q2).1
            exact h3 j x (fun n es e => by cases e; omega) (by rw [List.append_assoc, List.getElem?_append_left hj]; exact q2)
        · have hk := (List.getElem?_eq_some_iff.1 e1).1
          obtain ⟨T', sv', h1, h2, h3⟩ := te_loop (U := U) (z := z) (k0 := k0) (o1 := o1) (o2 := o2) hl hq d (i + 1) (T.set k .dead ++ [.cells false false (encE (n.ed.getD i e0))] ++ [.cells false false (edges (l ++ [ne]))]) (.own false (T.length + 1 + 1 + 1 + 1) 0 (l ++ [ne]).length 4) (l ++ [ne]) (by omega) (by simp at hll ⊢; omega)
            (.inr ⟨T.length + 1, rfl, by simp, by rw [edges_length]⟩)
          refine ⟨T', sv', ?_, ?_, fun j x q1 q2 => ?_⟩
          · have hll2 : (l ++ [ne]).length = l.length + 1 := by simp
            have hg : ∀ X : Heap, (T ++ X)[k]? = some (.cells false false (edges l)) := fun X => by rw [List.getElem?_append_left hk]; exact e1
            have hs : ∀ X : Heap, (T ++ X).set k .dead = T.set k .dead ++ X := fun X => by rw [List.set_append_left _ _ hk]
            simp only [List.append_assoc, List.cons_append, List.nil_append, hone, hll2, encE] at h1
            rw [a17l2n]
            simp (maxSteps := 30000000) (disch := first | assumption | omega | (simp only [List.length_cons, List.length_nil, List.length_append, List.length_set, List.length_replicate, List.length_map, List.length_range, List.length_take, List.length_drop, List.all_cons, List.all_nil, AV.isCell, Bool.and_self, Bool.and_true, bs_length, is64_length, w64_length, ints_length, edges_length] <;> omega) | rfl | decide) only [a17l2b, run_seq, run_region, runOps_cons, oper_none, ex_bin, opv, List.getD_cons_succ, List.getD_cons_zero, bin_lss, hlt, decide_true, valK_some, putK_to, List.set_cons_succ, List.set_cons_zero, opsK_some, runOps_nil, regK_some, seqK_normal, run_cond, condK_bool, run_skip, run_exit, if_true, run_block, ex_iaddr, iaddrA_sl, Int.toNat_natCast, ex_load, rd_vptr, edges_at, loadK_n, ex_box, AV.cells, List.all_cons, AV.isCell, List.all_nil, Bool.and_self, List.length_cons, List.cons_append, ex_store, List.length_nil, Nat.zero_add, Nat.reduceAdd, wr_ptr, List.getElem?_cons_succ, hget0, List.getElem?_cons_zero, wrK_cells, splice, List.take_zero, List.nil_append, List.drop_succ_cons, List.drop_nil, List.append_nil, hset0, storeK_some, putK_no, ex_mov, ex_faddr, faddrA_ptr, Nat.add_zero, rd_ptr, rdK_cells, List.drop_zero, List.take_succ_cons, loadK_1, ex_icall, List.map_cons, List.map_nil, hna, ex_ext, extA_tup, hnb, oper_guard, guardK_bool, putA_to, ex_pick, pickA_bool, List.take_nil, ex_build, beq_self_eq_true, fillA, Nat.reduceLeDiff, and_self, Nat.le_refl, Option.map_some, ex_bslice, repz_1, Nat.reduceMul, newK_some, newA_data, frzN, List.flatMap_cons, bor_int, List.flatMap_nil, List.isEmpty_nil, List.mapM_cons, frz_int, List.mapM_nil, Option.pure_def, Option.bind_eq_bind, Option.bind_some, slK_some, ex_append, src_sl, appK_own, hg, appOK_cells, Nat.reduceBEq, List.length_append, hs, hcut, hsn, List.append_assoc, blockK_normal, bin_add, cadd1, wr64, loopK_normal, a17l2c, h1]
          · simpa using h2
          · have hj := (List.getElem?_eq_some_iff.1 q2).1
            have hjk : j ≠ k := by
              rintro rfl
              exact q1 _ _ rfl
            exact h3 j x (fun n es e => by cases e; omega) (by rw [List.append_assoc, List.getElem?_append_left (by simpa using hj), List.getElem?_set_ne (fun e => hjk e.symm)]; exact q2)
end Go.Abs.NfaD
