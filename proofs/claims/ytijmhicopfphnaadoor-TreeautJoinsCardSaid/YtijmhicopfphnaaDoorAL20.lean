/- The law TreeautJoins, on the interpreter's values. -/
import Derived.Test.YtijmhicopfphnaaDoorAL19
import Derived.Test.YtijmhicopfphnaaDoorAK1
namespace Go.Abs.Tree
open Go Go.Abs
set_option linter.unusedSimpArgs false
set_option linter.unusedVariables false

theorem Formed.labs {t : List Lf} {T : BT} (h : Formed t T) (p : Nat → Prop) : (∀ e ∈ t, p e.x) ↔ T.labs p := by
  obtain ⟨e, -⟩ := formed_enc h
  rw [e]
  exact enc_labs T 0

/-- what a part of the joined tree needs -/
theorem part_ok {m : Aut} {a t : List Lf} {A T : BT} (h : bothE m t = 0) (hF : Formed t T) (hA : Formed a A) (hs : a.length ≤ 31) (hp : ∀ p, T.labs p → A.labs p) : bothE m a = 0 := by
  obtain ⟨hV, -, hlab, -⟩ := bothE_zero.1 h
  refine bothE_zero.2 ⟨hV, hs, ?_, A, hA⟩
  exact (hA.labs fun x => x >>> m.vars.toNat = 0).2 (hp _ ((hF.labs fun x => x >>> m.vars.toNat = 0).1 hlab))

set_option maxRecDepth 20000 in
set_option maxHeartbeats 8000000 in
theorem law10 (n : Aut) (x : Nat) (z1 z2 : Bool) (t1 t2 : List Lf) (hb : ∀ e ∈ n.rl, e.p < 256 ∧ e.n < 256) (hx : x < 256) (hx1 : ∀ e ∈ t1, e.x < 256) (hx2 : ∀ e ∈ t2, e.x < 256) :
    L.pcall 10 [n.av, .int .u8 (x : Nat), .agg [tw z1 t1, tw z2 t2]] = some (.bool true) := by
  have hsm := small34 n
  have cp1 := copy13 z1 (t1.take 15) (by rw [List.length_take]; omega)
  have cp2 := copy13 z2 (t2.take 15) (by rw [List.length_take]; omega)
  have e1 : min ((t1.length : Nat) : Int) 15 = ((t1.take 15).length : Nat) := by rw [List.length_take]; omega
  have e2 : min ((t2.length : Nat) : Int) 15 = ((t2.take 15).length : Nat) := by rw [List.length_take]; omega
  have l1 : (t1.take 15).length ≤ t1.length := by rw [List.length_take]; omega
  have l2 : (t2.take 15).length ≤ t2.length := by rw [List.length_take]; omega
  have r1 : List.take ((t1.take 15).length * 3) (lfs t1) = lfs (t1.take 15) := by
    unfold lfs
    rw [rows_take (enc := encF) (k := 3) (fun _ => rfl), take_len]
  have r2 : List.take ((t2.take 15).length * 3) (lfs t2) = lfs (t2.take 15) := by
    unfold lfs
    rw [rows_take (enc := encF) (k := 3) (fun _ => rfl), take_len]
  have hx1' : ∀ e ∈ t1.take 15, e.x < 256 := fun e he => hx1 e (List.mem_of_mem_take he)
  have hx2' : ∀ e ∈ t2.take 15, e.x < 256 := fun e he => hx2 e (List.mem_of_mem_take he)
  have h15 : (t1.take 15).length ≤ 15 := by rw [List.length_take]; omega
  have h25 : (t2.take 15).length ≤ 15 := by rw [List.length_take]; omega
  generalize t1.take 15 = a at *
  generalize t2.take 15 = b at *
  have hI : TyA (cpA (smA n)) := ⟨by simp; omega, by simp; omega, by simp; omega, fun e he => hb e (List.mem_of_mem_take he)⟩
  generalize cpA (smA n) = m at *
  have hkk := k16
  have ml := hI.rl
  have q1 : (a.length == 0) = true → a = [] := fun h => List.length_eq_zero_iff.1 (by simpa using h)
  have q2 : (b.length == 0) = true → b = [] := fun h => List.length_eq_zero_iff.1 (by simpa using h)
  generalize (a.length == 0) = za at *
  generalize (b.length == 0) = zb at *
  rcases Join39 x za zb a b q1 q2 (by omega) (by omega) with ⟨-, -, hsum, l, r, hl, hr, hj⟩ | ⟨e, he, -, hj⟩
  · -- the joined tree
    obtain ⟨ea, sa⟩ := formed_enc hl
    obtain ⟨eb, sb⟩ := formed_enc hr
    have la : a.length = l.size := by rw [ea, encT_length]
    have lb : b.length = r.size := by rw [eb, encT_length]
    have hF : Formed (encT 0 (.node x l r)) (.node x l r) := enc_formed (by simp only [BT.size]; omega)
    have hlen : (encT 0 (.node x l r)).length < 1099511627776 := by rw [encT_length]; simp only [BT.size]; omega
    have hxt : ∀ e ∈ encT 0 (.node x l r), e.x < 256 := by
      rw [enc_labs (p := (· < 256))]
      exact ⟨hx, (hl.labs (· < 256)).1 hx1', (hr.labs (· < 256)).1 hx2'⟩
    obtain ⟨zs, ls, bs, s1, s2, s3, s4⟩ := run_eq m false (encT 0 (.node x l r)) hI hlen hxt
    by_cases c : bothE m (encT 0 (.node x l r)) = 0
    · have cl : bothE m a = 0 := part_ok c hF hl (by omega) (fun p h => h.2.1)
      have cr : bothE m b = 0 := part_ok c hF hr (by omega) (fun p h => h.2.2)
      have c0 : bothE m [] = 0 := part_ok c hF (A := .nil) (.inl ⟨rfl, rfl⟩) (by simp) (fun p h => trivial)
      obtain ⟨hV, -⟩ := bothE_zero.1 c
      obtain ⟨zp, lp, bp, p1, -, -, p4⟩ := run_eq m za a hI (by omega) hx1'
      obtain ⟨zq, lq, bq, u1, -, -, u4⟩ := run_eq m zb b hI (by omega) hx2'
      obtain ⟨zn, ln, bn, n1, -, -, n4⟩ := run_eq m true [] hI (by simp) (by simp)
      change L.pcall 16 [m.av, .sl true 0 []] = _ at n1
      have S := (s4 c _ hF).1
      have P := (p4 cl _ hl).1
      have Q := (u4 cr _ hr).1
      have N := (n4 c0 .nil (.inl ⟨rfl, rfl⟩)).1
      rw [c] at s1
      rw [cl] at p1
      rw [cr] at u1
      rw [c0] at n1
      obtain ⟨G', v', w1, w2, w3⟩ := want_loop (s12 := sw zs ls) (s15 := .int .i64 0) (s17 := .int .i64 0) (m := m) ml (hV.ok hI) hx P Q ⟨_, _, rfl⟩ ⟨_, _, rfl⟩ m.rl.length 0 [.cells false false n.cells, .cells false false [tw z1 t1, tw z2 t2], .cells false false m.cells] (.sl true 0 []) [] (by omega) (by simp) rfl (.inl ⟨rfl, rfl⟩)
      simp only [Int.natCast_zero, List.drop_zero, List.nil_append] at w1 w3
      have wb : ∀ q ∈ wantM (fun j => decide (j < 64) && (evA m l).testBit j) (fun j => decide (j < 64) && (evA m r).testBit j) x m.rl, 0 ≤ q ∧ q < 4096 := fun q hq => by
        obtain ⟨u, hu, rfl⟩ := wantM_mem hq
        have := hV.ok hI u hu
        omega
      have wl := wantM_len (fun j => decide (j < 64) && (evA m l).testBit j) (fun j => decide (j < 64) && (evA m r).testBit j) x m.rl
      have wh := fun j : Int => wantM_has (fun j => decide (j < 64) && (evA m l).testBit j) (fun j => decide (j < 64) && (evA m r).testBit j) x j m.rl
      generalize wantM (fun j => decide (j < 64) && (evA m l).testBit j) (fun j => decide (j < 64) && (evA m r).testBit j) x m.rl = want at *
      have st0 : ∀ q ∈ m.st, 0 ≤ q ∧ q < 4096 := fun q hq => by have := hV.sts q hq; omega
      obtain ⟨zo, lo, o1, o2⟩ := of_has (z := m.z1) (l := m.st) hI.st st0
      obtain ⟨tn, t1', t2'⟩ := equal_has N o2
      obtain rfl : tn = true := t2'.2 (fun j => by
        have e : (evA m .nil).testBit j = m.st.contains (j : Int) := by
          show (wordM 0 m.st).testBit j = _
          rw [wordM_bit _ _ _ (fun q hq => (hV.sts q hq).1)]
          simp
        rw [e, Bool.and_eq_right_iff_imp]
        intro h
        have := hV.sts _ (List.contains_iff_mem.1 h)
        simp only [decide_eq_true_eq]; omega)
      have fin : ∀ zw lw, (∀ j, (evA m (.node x l r)).testBit j = want.contains (j : Int)) → HasSet (sw zw lw) (fun j => want.contains (j : Int)) → L.pcall 42 [sw zs ls, sw zw lw] = some (.bool true) := fun zw lw h1 h2 => by
        obtain ⟨tt, y1, y2⟩ := equal_has S h2
        obtain rfl : tt = true := y2.2 (fun j => by
          rw [h1, Bool.and_eq_right_iff_imp]
          intro h
          rw [wh, List.any_eq_true] at h
          obtain ⟨u, hu, h⟩ := h
          simp only [Bool.and_eq_true, decide_eq_true_eq] at h
          have := hV.ok hI u hu
          simp only [decide_eq_true_eq]; omega)
        exact y1
      have same : ∀ j : Nat, (evA m (.node x l r)).testBit j = want.contains (j : Int) := fun j => by
        show (toM (evA m l) (evA m r) x 0 m.rl).testBit j = _
        rw [toM_bit _ _ _ _ _ _ (fun e he => (hV.ok hI e he).2.2.1.1), Nat.zero_testBit, Bool.false_or, wh]
        rw [Bool.eq_iff_iff, List.any_eq_true, List.any_eq_true]
        constructor
        · rintro ⟨u, hu, h⟩
          refine ⟨u, hu, ?_⟩
          have := hV.ok hI u hu
          unfold hit at h
          simp only [Bool.and_eq_true, decide_eq_true_eq] at h ⊢
          exact ⟨⟨⟨⟨by omega, h.1.1.1⟩, by omega, h.1.1.2⟩, h.1.2⟩, h.2⟩
        · rintro ⟨u, hu, h⟩
          refine ⟨u, hu, ?_⟩
          unfold hit
          simp only [Bool.and_eq_true, decide_eq_true_eq] at h ⊢
          exact ⟨⟨⟨h.1.1.1.2, h.1.1.2.2⟩, h.1.2⟩, h.2⟩
      rcases w3 with ⟨rfl, rfl⟩ | ⟨k, k2, rfl, hk⟩
      · obtain ⟨zw, lw, v1, v2⟩ := of_has (z := true) (l := []) (by simp) (by simp)
        have y1 := fin zw lw same v2
        change L.pcall 36 [.sl true 0 []] = _ at v1
        rw [a10p, a10, pbodyA_eq]
        simp (maxSteps := 30000000) (disch := first | assumption | omega | (simp only [List.length_cons, List.length_nil, List.length_append, List.length_set, List.length_replicate, List.length_map, List.length_range, List.length_take, List.length_drop, List.all_cons, List.all_nil, AV.isCell, Bool.and_self, Bool.and_true, bs_length, is64_length, w64_length, ints_length, lfs_length, rls_length] <;> omega) | rfl | decide) only [bodyA_eq, List.length_cons, List.length_nil, Nat.zero_add, Nat.reduceAdd, Nat.reduceSub, pads, List.cons_append, List.nil_append, run_seq, run_region, runOps_cons, oper_none, ex_box, AV.cells, opv, List.getD_cons_zero, List.all_cons, AV.isCell, List.all_nil, Bool.and_self, if_true, putK_to, List.set_cons_succ, List.set_cons_zero, opsK_some, List.getD_cons_succ, ex_mov, runOps_nil, regK_some, seqK_normal, ex_call, List.map_nil, pcallA_eq, frzN, List.mapM_nil, Option.pure_def, argK_some, hkk, retK_some, scal, scal1, fzIds, List.flatMap_nil, List.foldl_nil, ite_self, ex_un, un_not, Bool.not_true, valK_some, run_cond, condK_bool, Bool.false_eq_true, run_ret, run_skip, if_false, ex_load, rd_ptr, List.getElem?_cons_zero, rdK_cells, List.drop_zero, List.take_succ_cons, List.take_nil, loadK_n, List.map_cons, List.mapM_cons, frz_agg, frz_int, frz_sl, Option.bind_eq_bind, Option.bind_some, Option.map_some, hsm, Bool.and_true, Bool.and_false, List.flatMap_cons, bor_agg, bor_int, bor_sl, List.append_nil, ex_store, wr_ptr, List.getElem?_cons_succ, wrK_cells, splice, List.take_zero, List.drop_succ_cons, List.drop_nil, storeK_some, putK_no, run_draw, runFree_cons, foper_none, fe_arrat, ex_arrat, arratA_ptr, Int.toNat_zero, Nat.mul_one, Nat.add_zero, fstK_some, fputK_to, freeK_some, fe_load, loadK_1, fe_len, ex_len, lenA_sl, fe_mini, ex_mini, minA_int, e1, fe_slice, ex_slice, Option.map_none, sliceA_sl, bounds_ns, Int.toNat_natCast, cutK_sl, Nat.sub_zero, Nat.reduceMul, r1, fe_call, cp1, quietK_some, quietCall, Bool.or_true, Int.toNat_one, e2, r2, runFree_nil, drawK_some, adopt, adoptVal, cp2, hj, ex_ext, extA_tup, s1, ex_bin, bin_neq, decide_true, oper_guard, guardK_bool, putA_to, ex_pick, pickA_bool, bin_eql, p1, u1, run_block, run_loop, a10l0c, w1, blockK_exit, w2, n1, v1, y1, ex_faddr, faddrA_ptr, o1, t1', bodyK_ret, results_1, res_tmp, retvK_some, pbodyK_some, frz_bool]
      · obtain ⟨zw, lw, v1, v2⟩ := of_has (z := false) (l := want) (by omega) wb
        have y1 := fin zw lw same v2
        have w4 : (List.modify G' k fzBlk)[2]? = some (.cells false false m.cells) := by
          rw [List.getElem?_modify, w2]
          show some (if k = 2 then _ else _) = _
          rw [if_neg (by omega)]
        rw [a10p, a10, pbodyA_eq]
        simp (maxSteps := 30000000) (disch := first | assumption | omega | (simp only [List.length_cons, List.length_nil, List.length_append, List.length_set, List.length_replicate, List.length_map, List.length_range, List.length_take, List.length_drop, List.all_cons, List.all_nil, AV.isCell, Bool.and_self, Bool.and_true, bs_length, is64_length, w64_length, ints_length, lfs_length, rls_length] <;> omega) | rfl | decide) only [bodyA_eq, List.length_cons, List.length_nil, Nat.zero_add, Nat.reduceAdd, Nat.reduceSub, pads, List.cons_append, List.nil_append, run_seq, run_region, runOps_cons, oper_none, ex_box, AV.cells, opv, List.getD_cons_zero, List.all_cons, AV.isCell, List.all_nil, Bool.and_self, if_true, putK_to, List.set_cons_succ, List.set_cons_zero, opsK_some, List.getD_cons_succ, ex_mov, runOps_nil, regK_some, seqK_normal, ex_call, List.map_nil, pcallA_eq, frzN, List.mapM_nil, Option.pure_def, argK_some, hkk, retK_some, scal, scal1, fzIds, List.flatMap_nil, List.foldl_nil, ite_self, ex_un, un_not, Bool.not_true, valK_some, run_cond, condK_bool, Bool.false_eq_true, run_ret, run_skip, if_false, ex_load, rd_ptr, List.getElem?_cons_zero, rdK_cells, List.drop_zero, List.take_succ_cons, List.take_nil, loadK_n, List.map_cons, List.mapM_cons, frz_agg, frz_int, frz_sl, Option.bind_eq_bind, Option.bind_some, Option.map_some, hsm, Bool.and_true, Bool.and_false, List.flatMap_cons, bor_agg, bor_int, bor_sl, List.append_nil, ex_store, wr_ptr, List.getElem?_cons_succ, wrK_cells, splice, List.take_zero, List.drop_succ_cons, List.drop_nil, storeK_some, putK_no, run_draw, runFree_cons, foper_none, fe_arrat, ex_arrat, arratA_ptr, Int.toNat_zero, Nat.mul_one, Nat.add_zero, fstK_some, fputK_to, freeK_some, fe_load, loadK_1, fe_len, ex_len, lenA_sl, fe_mini, ex_mini, minA_int, e1, fe_slice, ex_slice, Option.map_none, sliceA_sl, bounds_ns, Int.toNat_natCast, cutK_sl, Nat.sub_zero, Nat.reduceMul, r1, fe_call, cp1, quietK_some, quietCall, Bool.or_true, Int.toNat_one, e2, r2, runFree_nil, drawK_some, adopt, adoptVal, cp2, hj, ex_ext, extA_tup, s1, ex_bin, bin_neq, decide_true, oper_guard, guardK_bool, putA_to, ex_pick, pickA_bool, bin_eql, p1, u1, run_block, run_loop, a10l0c, w1, blockK_exit, w2, n1, frz_own, hk, frzK_cells, ints_take, List.take_length, frz_ints, slK_some, v1, bor_own, borK_cells, bor_ints, List.foldl_cons, y1, ex_faddr, faddrA_ptr, w4, o1, t1', bodyK_ret, results_1, res_tmp, retvK_some, pbodyK_some, frz_bool]
    · obtain ⟨rfl, rfl, -⟩ := s3 c
      rw [a10p, a10, pbodyA_eq]
      simp (maxSteps := 30000000) (disch := first | assumption | omega | (simp only [List.length_cons, List.length_nil, List.length_append, List.length_set, List.length_replicate, List.length_map, List.length_range, List.length_take, List.length_drop, List.all_cons, List.all_nil, AV.isCell, Bool.and_self, Bool.and_true, bs_length, is64_length, w64_length, ints_length, lfs_length, rls_length] <;> omega) | rfl | decide) only [bodyA_eq, List.length_cons, List.length_nil, Nat.zero_add, Nat.reduceAdd, Nat.reduceSub, pads, List.cons_append, List.nil_append, run_seq, run_region, runOps_cons, oper_none, ex_box, AV.cells, opv, List.getD_cons_zero, List.all_cons, AV.isCell, List.all_nil, Bool.and_self, if_true, putK_to, List.set_cons_succ, List.set_cons_zero, opsK_some, List.getD_cons_succ, ex_mov, runOps_nil, regK_some, seqK_normal, ex_call, List.map_nil, pcallA_eq, frzN, List.mapM_nil, Option.pure_def, argK_some, hkk, retK_some, scal, scal1, fzIds, List.flatMap_nil, List.foldl_nil, ite_self, ex_un, un_not, Bool.not_true, valK_some, run_cond, condK_bool, Bool.false_eq_true, run_ret, run_skip, if_false, ex_load, rd_ptr, List.getElem?_cons_zero, rdK_cells, List.drop_zero, List.take_succ_cons, List.take_nil, loadK_n, List.map_cons, List.mapM_cons, frz_agg, frz_int, frz_sl, Option.bind_eq_bind, Option.bind_some, Option.map_some, hsm, Bool.and_true, Bool.and_false, List.flatMap_cons, bor_agg, bor_int, bor_sl, List.append_nil, ex_store, wr_ptr, List.getElem?_cons_succ, wrK_cells, splice, List.take_zero, List.drop_succ_cons, List.drop_nil, storeK_some, putK_no, run_draw, runFree_cons, foper_none, fe_arrat, ex_arrat, arratA_ptr, Int.toNat_zero, Nat.mul_one, Nat.add_zero, fstK_some, fputK_to, freeK_some, fe_load, loadK_1, fe_len, ex_len, lenA_sl, fe_mini, ex_mini, minA_int, e1, fe_slice, ex_slice, Option.map_none, sliceA_sl, bounds_ns, Int.toNat_natCast, cutK_sl, Nat.sub_zero, Nat.reduceMul, r1, fe_call, cp1, quietK_some, quietCall, Bool.or_true, Int.toNat_one, e2, r2, runFree_nil, drawK_some, adopt, adoptVal, cp2, hj, ex_ext, extA_tup, s1, ex_bin, bin_neq, decide_true, oper_guard, guardK_bool, putA_to, c, decide_false, Bool.not_false, ex_pick, pickA_bool, castLit, bin_eql, seqK_ret, bodyK_ret, results_1, res_tmp, retvK_some, pbodyK_some, frz_bool]
  · -- no tree
    obtain ⟨zn, ln, bn, n1, -, n3, n4⟩ := run_eq m true [] hI (by simp) (by simp)
    change L.pcall 16 [m.av, .sl true 0 []] = _ at n1
    rw [a10p, a10, pbodyA_eq]
    simp (maxSteps := 30000000) (disch := first | assumption | omega | (simp only [List.length_cons, List.length_nil, List.length_append, List.length_set, List.length_replicate, List.length_map, List.length_range, List.length_take, List.length_drop, List.all_cons, List.all_nil, AV.isCell, Bool.and_self, Bool.and_true, bs_length, is64_length, w64_length, ints_length, lfs_length, rls_length] <;> omega) | rfl | decide) only [bodyA_eq, List.length_cons, List.length_nil, Nat.zero_add, Nat.reduceAdd, Nat.reduceSub, pads, List.cons_append, List.nil_append, run_seq, run_region, runOps_cons, oper_none, ex_box, AV.cells, opv, List.getD_cons_zero, List.all_cons, AV.isCell, List.all_nil, Bool.and_self, if_true, putK_to, List.set_cons_succ, List.set_cons_zero, opsK_some, List.getD_cons_succ, ex_mov, runOps_nil, regK_some, seqK_normal, ex_call, List.map_nil, pcallA_eq, frzN, List.mapM_nil, Option.pure_def, argK_some, hkk, retK_some, scal, scal1, fzIds, List.flatMap_nil, List.foldl_nil, ite_self, ex_un, un_not, Bool.not_true, valK_some, run_cond, condK_bool, Bool.false_eq_true, run_ret, run_skip, if_false, ex_load, rd_ptr, List.getElem?_cons_zero, rdK_cells, List.drop_zero, List.take_succ_cons, List.take_nil, loadK_n, List.map_cons, List.mapM_cons, frz_agg, frz_int, frz_sl, Option.bind_eq_bind, Option.bind_some, Option.map_some, hsm, Bool.and_true, Bool.and_false, List.flatMap_cons, bor_agg, bor_int, bor_sl, List.append_nil, ex_store, wr_ptr, List.getElem?_cons_succ, wrK_cells, splice, List.take_zero, List.drop_succ_cons, List.drop_nil, storeK_some, putK_no, run_draw, runFree_cons, foper_none, fe_arrat, ex_arrat, arratA_ptr, Int.toNat_zero, Nat.mul_one, Nat.add_zero, fstK_some, fputK_to, freeK_some, fe_load, loadK_1, fe_len, ex_len, lenA_sl, fe_mini, ex_mini, minA_int, e1, fe_slice, ex_slice, Option.map_none, sliceA_sl, bounds_ns, Int.toNat_natCast, cutK_sl, Nat.sub_zero, Nat.reduceMul, r1, fe_call, cp1, quietK_some, quietCall, Bool.or_true, Int.toNat_one, e2, r2, runFree_nil, drawK_some, adopt, adoptVal, cp2, hj, ex_ext, extA_tup, n1, ex_bin, bin_neq, he, decide_false, Bool.not_false, oper_guard, guardK_bool, Bool.true_eq_false, putA_to, ex_pick, pickA_bool, seqK_ret, bodyK_ret, results_1, res_tmp, retvK_some, pbodyK_some, frz_bool]
end Go.Abs.Tree
