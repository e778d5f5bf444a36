/- The law TreeautMirrors, on the interpreter's values. -/
import Derived.Test.YtijmhicopfphnaaDoorAL24
import Derived.Test.YtijmhicopfphnaaDoorAK1
namespace Go.Abs.Tree
open Go Go.Abs
set_option linter.unusedSimpArgs false
set_option linter.unusedVariables false

abbrev mirA (m : Aut) : Aut := ⟨m.vars, m.states, m.st.length == 0, m.st, m.fi.length == 0, m.fi, m.rl.length == 0, m.rl.map swR⟩

theorem Formed.labs' {t : List Lf} {T : BT} (h : Formed t T) (p : Nat → Prop) : (∀ e ∈ t, p e.x) ↔ T.labs p := by
  obtain ⟨e, -⟩ := formed_enc h
  rw [e]
  exact enc_labs T 0

theorem chkE_mir (m : Aut) : chkE (mirA m) = chkE m := by
  unfold chkE
  simp only [List.length_map, rlsErr_sw]

theorem bothE_mir {m : Aut} {u : List Lf} {T : BT} (hF : Formed u T) : bothE (mirA m) (encT 0 T.mir) = bothE m u := by
  obtain ⟨e, hs⟩ := formed_enc hF
  have f1 : formedB u = true := formedB_iff.2 ⟨T, hF⟩
  have f2 : formedB (encT 0 T.mir) = true := formedB_iff.2 ⟨T.mir, enc_formed (by rw [BT.mir_size]; exact hs)⟩
  have l1 : (encT 0 T.mir).length = u.length := by rw [encT_length, BT.mir_size, e, encT_length]
  have lab : ∀ v, labOk (encT 0 T.mir) v = labOk u v := fun v => by
    rw [Bool.eq_iff_iff, labOk_iff, labOk_iff, e, enc_labs (p := fun x => x >>> v = 0), enc_labs (p := fun x => x >>> v = 0), BT.mir_labs]
  unfold bothE tchkE
  rw [chkE_mir, l1, lab, f1, f2]

set_option maxRecDepth 20000 in
set_option maxHeartbeats 8000000 in
theorem law11 (n : Aut) (z : Bool) (t : List Lf) (hb : ∀ e ∈ n.rl, e.p < 256 ∧ e.n < 256) (hx : ∀ e ∈ t, e.x < 256) :
    L.pcall 11 [n.av, tw z t] = some (.bool true) := by
  have hsm := small34 n
  have hcp := copy13 z (t.take 15) (by rw [List.length_take]; omega)
  have e15 : min ((t.length : Nat) : Int) 15 = ((t.take 15).length : Nat) := by rw [List.length_take]; omega
  have l15 : (t.take 15).length ≤ t.length := by rw [List.length_take]; omega
  have t15 : List.take ((t.take 15).length * 3) (lfs t) = lfs (t.take 15) := by
    unfold lfs
    rw [rows_take (enc := encF) (k := 3) (fun _ => rfl), take_len]
  have hx' : ∀ e ∈ t.take 15, e.x < 256 := fun e he => hx e (List.mem_of_mem_take he)
  have ht' : (t.take 15).length < 1099511627776 := by rw [List.length_take]; omega
  generalize t.take 15 = u at *
  have hI : TyA (cpA (smA n)) := ⟨by simp; omega, by simp; omega, by simp; omega, fun e he => hb e (List.mem_of_mem_take he)⟩
  generalize cpA (smA n) = m at *
  have hkk := k16
  have hM := Mirror43 (u.length == 0) u rfl ht'
  generalize hzu : (u.length == 0) = zu at *
  rcases hM with ⟨-, hM⟩ | ⟨T, hF, -, hM⟩
  · rw [a11p, a11, pbodyA_eq]
    simp (maxSteps := 30000000) (disch := first | assumption | omega | (simp only [List.length_cons, List.length_nil, List.length_append, List.length_set, List.length_replicate, List.length_map, List.length_range, List.length_take, List.length_drop, List.all_cons, List.all_nil, AV.isCell, Bool.and_self, Bool.and_true, bs_length, is64_length, w64_length, ints_length, lfs_length, rls_length] <;> omega) | rfl | decide) only [bodyA_eq, List.length_cons, List.length_nil, Nat.zero_add, Nat.reduceAdd, Nat.reduceSub, pads, List.cons_append, List.nil_append, run_seq, run_region, runOps_cons, oper_none, ex_box, AV.cells, opv, List.getD_cons_zero, List.all_cons, AV.isCell, List.all_nil, Bool.and_self, if_true, putK_to, List.set_cons_succ, List.set_cons_zero, opsK_some, ex_mov, runOps_nil, regK_some, seqK_normal, run_draw, List.take_succ_cons, List.take_zero, runFree_cons, foper_none, fe_load, ex_load, List.getD_cons_succ, rd_ptr, List.getElem?_cons_zero, rdK_cells, List.drop_zero, List.take_nil, loadK_n, valK_some, fstK_some, fputK_to, freeK_some, fe_call, List.map_cons, List.map_nil, pcallA_eq, frzN, List.mapM_cons, frz_agg, frz_int, frz_sl, List.mapM_nil, Option.pure_def, Option.bind_eq_bind, Option.bind_some, Option.map_some, argK_some, hsm, retK_some, scal, scal1, Bool.and_true, Bool.and_false, Bool.false_eq_true, fzIds, List.flatMap_cons, bor_agg, bor_int, bor_sl, List.flatMap_nil, List.append_nil, List.foldl_nil, ite_self, quietK_some, quietCall, Bool.or_true, fe_mov, fe_len, ex_len, lenA_sl, fe_mini, ex_mini, minA_int, e15, fe_slice, ex_slice, Option.map_none, sliceA_sl, bounds_ns, Int.toNat_natCast, cutK_sl, Nat.sub_zero, Nat.reduceMul, t15, hcp, fe_box, runFree_nil, drawK_some, List.drop_succ_cons, adopt, adoptVal, putA_to, ex_store, wr_ptr, List.getElem?_cons_succ, wrK_cells, splice, List.drop_nil, storeK_some, putK_no, ex_call, hM, ex_ext, extA_tup, ex_bin, bin_neq, Int.reduceEq, decide_false, Bool.not_false, run_cond, condK_bool, hkk, run_ret, run_skip, seqK_ret, bodyK_ret, results_1, res_tmp, retvK_some, pbodyK_some, frz_bool]
  · obtain ⟨eu, su⟩ := formed_enc hF
    have hF' : Formed (encT 0 T.mir) T.mir := enc_formed (by rw [BT.mir_size]; exact su)
    have hxm : ∀ e ∈ encT 0 T.mir, e.x < 256 := by
      rw [enc_labs (p := (· < 256)), BT.mir_labs]
      exact (hF.labs' (· < 256)).1 hx'
    have hJ : TyA (mirA m) := ⟨hI.st, hI.fi, by rw [List.length_map]; exact hI.rl, fun e he => by
      obtain ⟨e', h1, rfl⟩ := List.mem_map.1 he
      exact hI.u8 e' h1⟩
    have hlm : (encT 0 T.mir).length < 1099511627776 := by rw [encT_length, BT.mir_size]; omega
    obtain ⟨z1, l1, b1, p1, p2, p3, p4⟩ := run_eq m zu u hI ht' hx'
    obtain ⟨z2, l2, b2, q1, q2, q3, q4⟩ := run_eq (mirA m) T.isNil (encT 0 T.mir) hJ hlm hxm
    rw [bothE_mir hF] at q1 q2 q3 q4
    have hc := copy33o m hI.st hI.fi hI.rl
    have hsl := swap_loop (m := m) (b0 := .cells false false n.cells) (s6 := tw zu u) (s7 := tw T.isNil (encT 0 T.mir)) (v := .int .i64 m.vars) (s := .int .i64 m.states) (c1 := iw (m.st.length == 0) m.st) (c2 := iw (m.fi.length == 0) m.fi) hI.rl m.rl [] rfl
    simp only [List.map_nil, List.nil_append, List.length_nil, Int.natCast_zero] at hsl
    have hyq : L.pcall 42 [sw z1 l1, sw z2 l2] = some (.bool true) ∧ b2 = b1 := by
      by_cases c : bothE m u = 0
      · obtain ⟨S1, B1⟩ := p4 c T hF
        obtain ⟨S2, B2⟩ := q4 c T.mir hF'
        have ee : evA (mirA m) T.mir = evA m T := ev_sw _ _ T
        rw [ee] at S2 B2
        obtain ⟨tt, y1, y2⟩ := equal_has S1 S2
        obtain rfl : tt = true := y2.2 (fun _ => rfl)
        refine ⟨y1, ?_⟩
        rw [Bool.eq_iff_iff, B1, B2]
      · obtain ⟨rfl, rfl, rfl⟩ := p3 c
        obtain ⟨rfl, rfl, rfl⟩ := q3 c
        obtain ⟨tt, y1, y2⟩ := equal_has (empty_has (z := true)) (empty_has (z := true))
        obtain rfl : tt = true := y2.2 (fun _ => rfl)
        exact ⟨y1, rfl⟩
    obtain ⟨hy, rfl⟩ := hyq
    have hlen : (m.rl.map swR).length = m.rl.length := List.length_map ..
    have htk : List.take (m.rl.length * 5) (rls (m.rl.map swR)) = rls (m.rl.map swR) := List.take_of_length_le (by rw [rls_length, hlen]; omega)
    simp only [mirA, Aut.av, Aut.cells, hlen] at q1 q2
    generalize bothE m u = e at *
    have ml := hI.rl
    rw [a11p, a11, pbodyA_eq]
    simp (maxSteps := 30000000) (disch := first | assumption | omega | (simp only [List.length_cons, List.length_nil, List.length_append, List.length_set, List.length_replicate, List.length_map, List.length_range, List.length_take, List.length_drop, List.all_cons, List.all_nil, AV.isCell, Bool.and_self, Bool.and_true, bs_length, is64_length, w64_length, ints_length, lfs_length, rls_length] <;> omega) | rfl | decide) only [bodyA_eq, List.length_cons, List.length_nil, Nat.zero_add, Nat.reduceAdd, Nat.reduceSub, pads, List.cons_append, List.nil_append, run_seq, run_region, runOps_cons, oper_none, ex_box, AV.cells, opv, List.getD_cons_zero, List.all_cons, AV.isCell, List.all_nil, Bool.and_self, if_true, putK_to, List.set_cons_succ, List.set_cons_zero, opsK_some, ex_mov, runOps_nil, regK_some, seqK_normal, run_draw, List.take_succ_cons, List.take_zero, runFree_cons, foper_none, fe_load, ex_load, List.getD_cons_succ, rd_ptr, List.getElem?_cons_zero, rdK_cells, List.drop_zero, List.take_nil, loadK_n, valK_some, fstK_some, fputK_to, freeK_some, fe_call, List.map_cons, List.map_nil, pcallA_eq, frzN, List.mapM_cons, frz_agg, frz_int, frz_sl, List.mapM_nil, Option.pure_def, Option.bind_eq_bind, Option.bind_some, Option.map_some, argK_some, hsm, retK_some, scal, scal1, Bool.and_true, Bool.and_false, Bool.false_eq_true, fzIds, List.flatMap_cons, bor_agg, bor_int, bor_sl, List.flatMap_nil, List.append_nil, List.foldl_nil, ite_self, quietK_some, quietCall, Bool.or_true, fe_mov, fe_len, ex_len, lenA_sl, fe_mini, ex_mini, minA_int, e15, fe_slice, ex_slice, Option.map_none, sliceA_sl, bounds_ns, Int.toNat_natCast, cutK_sl, Nat.sub_zero, Nat.reduceMul, t15, hcp, fe_box, runFree_nil, drawK_some, List.drop_succ_cons, adopt, adoptVal, putA_to, ex_store, wr_ptr, List.getElem?_cons_succ, wrK_cells, splice, List.drop_nil, storeK_some, putK_no, ex_call, hM, ex_ext, extA_tup, ex_bin, bin_neq, decide_true, Bool.not_true, run_cond, condK_bool, hkk, run_ret, run_skip, if_false, ex_ocall, ocArgK_some, hc, ocK_some, liftV, lift2, lift1, Nat.add_zero, run_block, run_loop, a11l0c, hsl, blockK_exit, p1, frz_own, frzK_cells, htk, frz_rls, slK_some, q1, bor_own, borK_cells, bor_rls, List.foldl_cons, List.modify_cons, Nat.reduceEqDiff, fzBlk, p2, q2, hy, oper_guard, guardK_bool, bin_eql, ex_pick, pickA_bool, ex_beq, beqA_f, bodyK_ret, results_1, res_tmp, retvK_some, pbodyK_some, frz_bool]
end Go.Abs.Tree
