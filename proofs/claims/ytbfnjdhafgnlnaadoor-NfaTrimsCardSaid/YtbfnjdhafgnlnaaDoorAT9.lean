/- Trim. -/
import Derived.Test.YtbfnjdhafgnlnaaDoorAT8
import Derived.Test.YtbfnjdhafgnlnaaDoorAN10
namespace Go.Abs.NfaD
open Go Go.Abs
set_option linter.unusedSimpArgs false
set_option linter.unusedVariables false

theorem Bld.keep {T T' : Heap} {v : AV} {es n : Nat} {cs : List AV} (h : Bld T v es n cs) (hk : ∀ j x, v = .own false (j + 1 + 1 + 1) 0 n es → T[j]? = some x → T'[j]? = some x) : Bld T' v es n cs := by
  rcases h with h | ⟨k, e1, e2, e3⟩
  · exact .inl h
  · exact .inr ⟨k, e1, hk k _ e1 e2, e3⟩

theorem Bld.cell {T : Heap} {v : AV} {es n : Nat} {cs : List AV} (h : Bld T v es n cs) : v.isCell = true := by
  rcases h with ⟨rfl, _⟩ | ⟨k, rfl, _⟩ <;> rfl

theorem Bld.out {T : Heap} {v : AV} {es n : Nat} {cs : List AV} (h : Bld T v es n cs) (hf : ∀ d H, cs.mapM (frz d H) = some cs) : ∃ z, (z = true → n = 0) ∧ ∀ d c0 c1 c2, frz (d + 1) (c0 :: c1 :: c2 :: T) v = some (.sl z n cs) := by
  rcases h with ⟨rfl, rfl, rfl⟩ | ⟨k, rfl, e2, e3⟩
  · exact ⟨true, fun _ => rfl, fun d _ _ _ => rfl⟩
  · refine ⟨false, (fun h => (by cases h)), fun d c0 c1 c2 => ?_⟩
    have e : (c0 :: c1 :: c2 :: T)[k + 1 + 1 + 1]? = some (.cells false false cs) := e2
    have hle : 0 + n * es ≤ cs.length := by omega
    have hcut : List.take (n * es) cs = cs := List.take_of_length_le (by omega)
    simp only [frz, e, if_pos hle, List.drop_zero, hcut, hf, Option.map_some]

def trimA (n : Aut) (U : Nat → Bool) (z1 z2 z3 : Bool) : Aut := ⟨n.vars, (setL U).length, z1, n.st.filterMap (num U), z2, n.fi.filterMap (num U), z3, n.ed.filterMap (numE U)⟩

theorem inter_has {v u : AV} {S T : Nat → Bool} (hv : HasSet v S) (hu : HasSet u T) : ∃ z l, L.pcall 45 [v, u] = some (sw z l) ∧ HasSet (sw z l) (fun j => S j && T j) := by
  obtain ⟨za, a, rfl, wa, la, ha⟩ := id hv
  obtain ⟨zb, b, rfl, wb, lb, hb⟩ := id hu
  obtain ⟨z, H', h⟩ := comb_eq (za := za) (zb := zb) (g := 71) (op := (· &&& ·)) (fun x y H hx hy => and73 x y H hx hy) wa wb
  refine ⟨z, combM (· &&& ·) a b, ?_, z, _, rfl, combM_W (fun x y hx hy => Nat.lt_of_le_of_lt Nat.and_le_left hx) wa wb, by have := combM_len (· &&& ·) a b; omega, fun j => ?_⟩
  · rw [a45p, a45, pbodyA_eq]
    simp (maxSteps := 30000000) (disch := first | assumption | omega | (simp only [List.length_cons, List.length_nil, List.length_append, List.length_set, List.length_replicate, List.length_map, List.length_range, List.length_take, List.length_drop, List.all_cons, List.all_nil, AV.isCell, Bool.and_self, Bool.and_true, bs_length, is64_length, w64_length, ints_length, edges_length] <;> omega) | rfl | decide) only [bodyA_eq, List.length_cons, List.length_nil, Nat.zero_add, Nat.reduceAdd, Nat.reduceSub, pads, List.cons_append, List.nil_append, run_seq, run_region, runOps_cons, oper_none, ex_mov, opv, putK_to, List.set_cons_succ, List.set_cons_zero, opsK_some, runOps_nil, regK_some, seqK_normal, List.getD_cons_zero, List.getD_cons_succ, ex_icall, List.map_cons, List.map_nil, h, run_ret, bodyK_ret, results_1, res_tmp, retvK_some, pbodyK_some, frzN, frz_sl]
  · by_cases hj : j < 4096
    · rw [mem_comb (f := (· && ·)) a b (by simp) (fun x y i => by simp) j hj, ha, hb]
    · show mem _ j = (S j && T j)
      rw [hv.out (j := j) (by omega), hu.out (j := j) (by omega)]
      simp [mem, hj]

theorem trim_bad (n : Aut) {e : Int} {v : AV} (h : L.pcall 15 [n.av] = some (.tup [v, .int .i64 e])) (hv : v = .sl true 0 []) (he : e ≠ 0) : L.pcall 17 [n.av] = some (.tup [zeroA.av, .int .i64 e]) := by
  subst hv
  rw [a17p, a17, pbodyA_eq]
  simp (maxSteps := 30000000) (disch := first | assumption | omega | (simp only [List.length_cons, List.length_nil, List.length_append, List.length_set, List.length_replicate, List.length_map, List.length_range, List.length_take, List.length_drop, List.all_cons, List.all_nil, AV.isCell, Bool.and_self, Bool.and_true, bs_length, is64_length, w64_length, ints_length, edges_length] <;> omega) | rfl | decide) only [bodyA_eq, List.length_cons, List.length_nil, Nat.zero_add, Nat.reduceSub, pads, List.cons_append, List.nil_append, run_seq, run_region, runOps_cons, oper_none, ex_box, AV.cells, opv, List.getD_cons_zero, List.all_cons, AV.isCell, List.all_nil, Bool.and_self, if_true, putK_to, List.set_cons_succ, List.set_cons_zero, opsK_some, ex_mov, runOps_nil, regK_some, seqK_normal, ex_load, List.getD_cons_succ, rd_ptr, List.getElem?_cons_zero, rdK_cells, List.drop_zero, List.take_succ_cons, List.take_nil, loadK_n, valK_some, ex_call, List.map_cons, List.map_nil, pcallA_eq, frzN, List.mapM_cons, frz_agg, frz_int, frz_sl, List.mapM_nil, Option.pure_def, Option.bind_eq_bind, Option.bind_some, Option.map_some, argK_some, h, retK_some, scal, scal1, Bool.and_true, Bool.false_eq_true, fzIds, List.flatMap_cons, bor_agg, bor_int, bor_sl, List.flatMap_nil, List.append_nil, List.foldl_nil, ite_self, ex_ext, extA_tup, List.getElem?_cons_succ, ex_bin, bin_neq, he, decide_false, Bool.not_false, run_cond, condK_bool, ex_build, fillA, ex_store, Nat.reduceAdd, wr_ptr, wrK_cells, splice, List.take_zero, List.drop_succ_cons, List.drop_nil, storeK_some, putK_no, run_ret, run_skip, seqK_ret, bodyK_ret, results_2, resL_cons, res_cell, cellK_some, mkv_n, resK_some, res_tmp, resL_nil, retvK_some, pbodyK_some, frz_tup]
  rfl

set_option maxHeartbeats 2000000 in
theorem trim_eq (n : Aut) (hf : Fits n) (hv : Valid n) (l1 : n.st.length < 1000) (l2 : n.fi.length < 1000) {zr zp : Bool} {r p : List Nat} {C D : Nat → Bool} (h1 : L.pcall 15 [n.av] = some (.tup [sw zr r, .int .i64 0])) (hr : HasSet (sw zr r) C) (h2 : L.pcall 16 [n.av] = some (.tup [sw zp p, .int .i64 0])) (hp : HasSet (sw zp p) D) :
    ∃ z1 z2 z3, L.pcall 17 [n.av] = some (.tup [(trimA n (fun j => C j && D j) z1 z2 z3).av, .int .i64 0]) ∧ (z1 = true → (trimA n (fun j => C j && D j) z1 z2 z3).st = []) ∧ (z2 = true → (trimA n (fun j => C j && D j) z1 z2 z3).fi = []) ∧ (z3 = true → (trimA n (fun j => C j && D j) z1 z2 z3).ed = []) := by
  obtain ⟨zi, li, h3, h4⟩ := inter_has hr hp
  have h5 := list_has h4
  have hlen := setL_len (fun j => C j && D j)
  unfold trimA
  generalize hU : (fun j => C j && D j) = U at *
  generalize decide ((setL U).length = 0) = z at *
  have hel := hv.el
  obtain ⟨T1, sv, k1, b1, m1⟩ := ts_loop (n := n) (U := U) (z := z) (k0 := (setL U).length) (o1 := .sl true 0 []) (o2 := .sl true 0 []) l1 hv.stOk n.st.length 0 [] (.sl true 0 []) [] (by omega) (by simp; omega) (.inl ⟨rfl, rfl, rfl⟩)
  obtain ⟨T2, fv, k2, b2, m2⟩ := tf_loop (n := n) (U := U) (z := z) (k0 := (setL U).length) (o1 := sv) (o2 := .sl true 0 []) l2 hv.fiOk n.fi.length 0 T1 (.sl true 0 []) [] (by omega) (by simp; omega) (.inl ⟨rfl, rfl, rfl⟩)
  obtain ⟨T3, ev, k3, b3, m3⟩ := te_loop (n := n) (U := U) (z := z) (k0 := (setL U).length) (o1 := sv) (o2 := fv) (by omega) (fun e he => ⟨(hv.edOk hf e he).1, (hv.edOk hf e he).2.1⟩) n.ed.length 0 T2 (.sl true 0 []) [] (by omega) (by simp; omega) (.inl ⟨rfl, rfl, rfl⟩)
  have nn : ∀ j, Not (.sl true 0 []) j := fun j n es e => by cases e
  have b1' := (b1.keep (T' := T2) fun j x _ q => (m2 j x (nn j) q).1).keep (T' := T3) fun j x _ q => (m3 j x (nn j) q).1
  have b2' := b2.keep (T' := T3) fun j x _ q => (m3 j x (nn j) q).1
  have c1 := b1'.cell
  have c2 := b2'.cell
  have c3 := b3.cell
  obtain ⟨z1, y1, f1⟩ := b1'.out (fun d H => frz_ints d H _)
  obtain ⟨z2, y2, f2⟩ := b2'.out (fun d H => frz_ints d H _)
  obtain ⟨z3, y3, f3⟩ := b3.out (fun d H => frz_edges d H _)
  simp only [List.drop_zero, List.nil_append, Int.natCast_zero] at k1 k2 k3 f1 f2 f3 y1 y2 y3
  refine ⟨z1, z2, z3, ?_, fun h => List.length_eq_zero_iff.1 (y1 h), fun h => List.length_eq_zero_iff.1 (y2 h), fun h => List.length_eq_zero_iff.1 (y3 h)⟩
  have hall : ([.int .i64 n.vars, .int .i64 ((setL U).length : Nat), sv, fv, ev] : List AV).all AV.isCell = true := by simp only [List.all_cons, List.all_nil, c1, c2, c3]; rfl
  rw [a17p, a17, pbodyA_eq]
  simp (maxSteps := 30000000) (disch := first | assumption | omega | (simp only [List.length_cons, List.length_nil, List.length_append, List.length_set, List.length_replicate, List.length_map, List.length_range, List.length_take, List.length_drop, List.all_cons, List.all_nil, AV.isCell, Bool.and_self, Bool.and_true, bs_length, is64_length, w64_length, ints_length, edges_length] <;> omega) | rfl | decide) only [bodyA_eq, List.length_cons, List.length_nil, Nat.zero_add, Nat.reduceSub, pads, List.cons_append, List.nil_append, run_seq, run_region, runOps_cons, oper_none, ex_box, AV.cells, opv, List.getD_cons_zero, List.all_cons, AV.isCell, List.all_nil, Bool.and_self, if_true, putK_to, List.set_cons_succ, List.set_cons_zero, opsK_some, ex_mov, runOps_nil, regK_some, seqK_normal, ex_load, List.getD_cons_succ, rd_ptr, List.getElem?_cons_zero, rdK_cells, List.drop_zero, List.take_succ_cons, List.take_nil, loadK_n, valK_some, ex_call, List.map_cons, List.map_nil, pcallA_eq, frzN, List.mapM_cons, frz_agg, frz_int, frz_sl, List.mapM_nil, Option.pure_def, Option.bind_eq_bind, Option.bind_some, Option.map_some, argK_some, h1, retK_some, scal, scal1, Bool.and_true, Bool.false_eq_true, fzIds, List.flatMap_cons, bor_agg, bor_int, bor_sl, List.flatMap_nil, List.append_nil, List.foldl_nil, ite_self, ex_ext, extA_tup, List.getElem?_cons_succ, ex_bin, bin_neq, decide_true, Bool.not_true, run_cond, condK_bool, ex_build, fillA, ex_store, Nat.reduceAdd, wr_ptr, wrK_cells, splice, List.take_zero, List.drop_succ_cons, List.drop_nil, storeK_some, putK_no, run_ret, run_skip, if_false, h2, h3, h5, ex_mkfunc, run_drawl, runFree_cons, foper_none, fe_faddr, ex_faddr, faddrA_ptr, Nat.add_zero, fstK_some, fputK_to, freeK_some, fe_load, loadK_1, fe_len, ex_len, lenA_sl, runFree_nil, drawlK_some, adopt, adoptVal, apartK_some, apart, disj, bne, Nat.reduceBEq, Bool.not_false, Nat.reduceLeDiff, decide_false, Bool.or_false, run_block, run_loop, a17l0c, k1, blockK_exit, a17l1c, k2, a17l2c, k3, bodyK_ret, results_2, resL_cons, res_cell, cellK_some, mkv_n, resK_some, res_tmp, resL_nil, retvK_some, pbodyK_some, frz_tup, f1, f2, f3]
end Go.Abs.NfaD
