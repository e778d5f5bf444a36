/- The reference's Run and Accepts. -/
import Derived.Test.YtbfnjdhafgnlnaaAM10
namespace Go.Abs.Nfa
open Go Go.Abs
set_option linter.unusedSimpArgs false
set_option linter.unusedVariables false

theorem copy34 (z : Bool) (l : List Int) (hl : l.length < 1099511627776) : L.pcall 34 [iw z l] = some (iw (l.length == 0) l) := by
  rw [a34p, a34, pbodyA_eq]
  simp (maxSteps := 30000000) (disch := first | assumption | omega | (simp only [List.length_cons, List.length_nil, List.length_append, List.length_set, List.length_replicate, List.length_map, List.length_range, List.length_take, List.length_drop, List.all_cons, List.all_nil, AV.isCell, Bool.and_self, Bool.and_true, bs_length, is64_length, w64_length, ints_length, edges_length] <;> omega) | rfl | decide) only [bodyA_eq, List.length_cons, List.length_nil, Nat.zero_add, Nat.reduceSub, pads, List.cons_append, List.nil_append, run_seq, run_region, runOps_cons, oper_none, ex_mov, opv, putK_to, List.set_cons_succ, List.set_cons_zero, opsK_some, runOps_nil, regK_some, seqK_normal, List.getD_cons_zero, ex_append, List.getD_cons_succ, src_sl, appK_nil, newA_own, run_ret, bodyK_ret, results_1, res_tmp, retvK_some, pbodyK_some, frzN, frz_own, List.getElem?_cons_zero, frzK_cells, Nat.mul_one, List.drop_zero, ints_take, List.take_length, frz_ints, slK_some]

theorem runS_congr {ed : List Ed} {S T : Nat → Bool} (h : ∀ j, S j = T j) (w : List Nat) (j : Nat) : runS ed S w j = runS ed T w j := by
  have : S = T := funext h
  rw [this]

theorem rrun_loop {n : Aut} {zw : Bool} {w : List Nat} (hv : Valid n) (hw : ∀ x ∈ w, x < 256) (hwl : w.length < 1099511627776) (hl : n.ed.length < 1099511627776) (hb : EdOk n.ed) : ∀ d i z r, i + d = w.length → r.length < 1099511627776 → (∀ q ∈ r, 0 ≤ q ∧ q < 4096) →
    ∃ z' r', L.loop a22l0s a22l0 ⟨a22l0F (word zw w) (.ptr 0 0) (iw z r) (.int .i64 (i : Nat)), [.cells false false n.cells]⟩ =
      some (.exit 0, ⟨a22l0F (word zw w) (.ptr 0 0) (iw z' r') (.int .i64 (w.length : Nat)), [.cells false false n.cells]⟩) ∧ (∀ j, inS r' j = runS n.ed (inS r) (w.drop i) j) ∧ r'.length < 1099511627776 ∧ ∀ q ∈ r', 0 ≤ q ∧ q < 4096
  | 0, i, z, r, h, hr, hq => by
    obtain rfl : i = w.length := by omega
    refine ⟨z, r, ?_, fun j => by rw [List.drop_length]; rfl, hr, hq⟩
    rw [a22l0n]
    simp (maxSteps := 30000000) (disch := first | assumption | omega | (simp only [List.length_cons, List.length_nil, List.length_append, List.length_set, List.length_replicate, List.length_map, List.length_range, List.length_take, List.length_drop, List.all_cons, List.all_nil, AV.isCell, Bool.and_self, Bool.and_true, bs_length, is64_length, w64_length, ints_length, edges_length] <;> omega) | rfl | decide) only [a22l0b, run_seq, run_region, runOps_cons, oper_none, ex_mov, opv, List.getD_cons_succ, List.getD_cons_zero, putK_to, List.set_cons_succ, List.set_cons_zero, opsK_some, ex_len, lenA_sl, valK_some, ex_bin, bin_lss, Int.lt_irrefl, decide_false, runOps_nil, regK_some, seqK_normal, run_cond, condK_bool, Bool.false_eq_true, run_skip, run_exit, if_false, seqK_exit, loopK_exit, a22l0c]
  | d + 1, i, z, r, h, hr, hq => by
    have hlt : (i : Int) < (w.length : Nat) := by omega
    have hx : w.getD i 0 < 256 := by
      rw [List.getD_eq_getElem?_getD, List.getElem?_eq_getElem (by omega)]
      exact hw _ (List.getElem_mem _)
    obtain ⟨z1, h1⟩ := rafter_eq (n := n) (z := z) (sl := r) hv hx hr hl hb
    have hlen := lisL_len (stepS n.ed (inS r) (w.getD i 0)) n.states.toNat
    have h64 := hv.s64
    have hin := fun j => inS_lisL (S := inS r) (x := w.getD i 0) hv.edB j
    obtain ⟨z2, r2, h3, h4, h5, h6⟩ := rrun_loop (zw := zw) hv hw hwl hl hb d (i + 1) z1 (lisL (stepS n.ed (inS r) (w.getD i 0)) n.states.toNat) (by omega) (by omega) (fun q hq => by have := lisL_range q hq; omega)
    refine ⟨z2, r2, ?_, fun j => ?_, h5, h6⟩
    · rw [a22l0n]
      simp (maxSteps := 30000000) (disch := first | assumption | omega | (simp only [List.length_cons, List.length_nil, List.length_append, List.length_set, List.length_replicate, List.length_map, List.length_range, List.length_take, List.length_drop, List.all_cons, List.all_nil, AV.isCell, Bool.and_self, Bool.and_true, bs_length, is64_length, w64_length, ints_length, edges_length] <;> omega) | rfl | decide) only [a22l0b, run_seq, run_region, runOps_cons, oper_none, ex_mov, opv, List.getD_cons_succ, List.getD_cons_zero, putK_to, List.set_cons_succ, List.set_cons_zero, opsK_some, ex_len, lenA_sl, valK_some, ex_bin, bin_lss, hlt, decide_true, runOps_nil, regK_some, seqK_normal, run_cond, condK_bool, run_skip, run_exit, if_true, run_block, run_draw, List.take_succ_cons, List.take_zero, runFree_cons, foper_none, fe_load, ex_load, rd_ptr, List.getElem?_cons_zero, rdK_cells, List.drop_zero, List.take_nil, loadK_n, fstK_some, fputK_to, freeK_some, fe_mov, fe_iaddr, ex_iaddr, iaddrA_sl, Int.toNat_natCast, Nat.mul_one, rd_vptr, bs_drop, bs_take, bs_at0, drop_getD, Nat.add_zero, loadK_1, runFree_nil, drawK_some, List.drop_succ_cons, adopt, adoptVal, ex_call, List.map_cons, List.map_nil, pcallA_eq, frzN, List.mapM_cons, frz_agg, frz_int, frz_sl, List.mapM_nil, Option.pure_def, Option.bind_eq_bind, Option.bind_some, Option.map_some, argK_some, h1, retK_some, scal, scal1, Bool.false_eq_true, fzIds, List.flatMap_cons, bor_agg, bor_int, bor_sl, List.flatMap_nil, List.append_nil, List.foldl_nil, ite_self, blockK_normal, bin_add, cadd1, wr64, loopK_normal, a22l0c, h3]
    · rw [h4, runS_congr hin, drop_getN (by omega : i < w.length)]
      rfl

theorem rrun_eq (n : Aut) (hf : Fits n) (hv : Valid n) (zw : Bool) (w : List Nat) (hw : ∀ x ∈ w, x < 256) (hwl : w.length < 1099511627776) :
    ∃ z r, L.pcall 22 [n.av, word zw w] = some (iw z r) ∧ (∀ j, inS r j = runS n.ed (inS n.st) w j) ∧ r.length < 1099511627776 ∧ ∀ q ∈ r, 0 ≤ q ∧ q < 4096 := by
  have h0 := copy34 n.z1 n.st hf.l1
  obtain ⟨z2, r2, h3, h4, h5, h6⟩ := rrun_loop (zw := zw) hv hw hwl hf.l3 (hv.edOk hf) w.length 0 (n.st.length == 0) n.st (by omega) hf.l1 hv.stOk
  simp only [Int.natCast_zero, List.drop_zero] at h3 h4
  refine ⟨z2, r2, ?_, h4, h5, h6⟩
  rw [a22p, a22, pbodyA_eq]
  simp (maxSteps := 30000000) (disch := first | assumption | omega | (simp only [List.length_cons, List.length_nil, List.length_append, List.length_set, List.length_replicate, List.length_map, List.length_range, List.length_take, List.length_drop, List.all_cons, List.all_nil, AV.isCell, Bool.and_self, Bool.and_true, bs_length, is64_length, w64_length, ints_length, edges_length] <;> omega) | rfl | decide) only [bodyA_eq, List.length_cons, List.length_nil, Nat.zero_add, Nat.reduceAdd, Nat.reduceSub, pads, List.cons_append, List.nil_append, run_seq, run_region, runOps_cons, oper_none, ex_box, AV.cells, opv, List.getD_cons_zero, List.all_cons, AV.isCell, List.all_nil, Bool.and_self, if_true, putK_to, List.set_cons_succ, List.set_cons_zero, opsK_some, ex_mov, runOps_nil, regK_some, seqK_normal, ex_faddr, List.getD_cons_succ, faddrA_ptr, valK_some, ex_load, rd_ptr, List.getElem?_cons_zero, rdK_cells, List.drop_succ_cons, List.drop_zero, List.take_succ_cons, List.take_zero, loadK_1, ex_call, List.map_cons, List.map_nil, pcallA_eq, frzN, List.mapM_cons, frz_sl, List.mapM_nil, Option.pure_def, Option.bind_eq_bind, Option.bind_some, argK_some, h0, retK_some, scal, scal1, Bool.false_eq_true, fzIds, List.flatMap_cons, bor_sl, List.flatMap_nil, List.append_nil, List.foldl_nil, ite_self, run_block, run_loop, a22l0c, h3, blockK_exit, run_ret, bodyK_ret, results_1, res_tmp, retvK_some, pbodyK_some]

theorem racc_loop {n : Aut} {z : Bool} {r : List Int} {s4 s5 : AV} (hfi : n.fi.length < 1099511627776) (hr : r.length < 1099511627776) : ∀ d i, i + d = r.length →
    ∃ i' : Nat, L.loop a23l0s a23l0 ⟨a23l0F (.ptr 0 0) s4 s5 (iw z r) (.int .i64 (i : Nat)), [.cells false false n.cells]⟩ =
      some (if (r.drop i).any (fun q => n.fi.contains q) = true then (.ret, ⟨a23l0F (.ptr 0 0) (.bool true) (.int .i64 0) (iw z r) (.int .i64 (i' : Nat)), [.cells false false n.cells]⟩) else (.exit 0, ⟨a23l0F (.ptr 0 0) s4 s5 (iw z r) (.int .i64 (r.length : Nat)), [.cells false false n.cells]⟩))
  | 0, i, h => by
    obtain rfl : i = r.length := by omega
    refine ⟨0, ?_⟩
    rw [if_neg (by simp), a23l0n]
    simp (maxSteps := 30000000) (disch := first | assumption | omega | (simp only [List.length_cons, List.length_nil, List.length_append, List.length_set, List.length_replicate, List.length_map, List.length_range, List.length_take, List.length_drop, List.all_cons, List.all_nil, AV.isCell, Bool.and_self, Bool.and_true, bs_length, is64_length, w64_length, ints_length, edges_length] <;> omega) | rfl | decide) only [a23l0b, run_seq, run_region, runOps_cons, oper_none, ex_mov, opv, List.getD_cons_succ, List.getD_cons_zero, putK_to, List.set_cons_succ, List.set_cons_zero, opsK_some, ex_len, lenA_sl, valK_some, ex_bin, bin_lss, Int.lt_irrefl, decide_false, runOps_nil, regK_some, seqK_normal, run_cond, condK_bool, Bool.false_eq_true, run_skip, run_exit, if_false, seqK_exit, loopK_exit, a23l0c]
  | d + 1, i, h => by
    have hlt : (i : Int) < (r.length : Nat) := by omega
    have hh := hasint n.z2 n.fi (r.getD i 0) hfi
    rw [drop_getI (by omega : i < r.length), List.any_cons]
    cases e : n.fi.contains (r.getD i 0) with
    | true =>
      rw [e] at hh
      refine ⟨i, ?_⟩
      rw [if_pos (by rfl), a23l0n]
      simp (maxSteps := 30000000) (disch := first | assumption | omega | (simp only [List.length_cons, List.length_nil, List.length_append, List.length_set, List.length_replicate, List.length_map, List.length_range, List.length_take, List.length_drop, List.all_cons, List.all_nil, AV.isCell, Bool.and_self, Bool.and_true, bs_length, is64_length, w64_length, ints_length, edges_length] <;> omega) | rfl | decide) only [a23l0b, run_seq, run_region, runOps_cons, oper_none, ex_mov, opv, List.getD_cons_succ, List.getD_cons_zero, putK_to, List.set_cons_succ, List.set_cons_zero, opsK_some, ex_len, lenA_sl, valK_some, ex_bin, bin_lss, hlt, decide_true, runOps_nil, regK_some, seqK_normal, run_cond, condK_bool, run_skip, run_exit, if_true, run_block, run_draw, List.take_succ_cons, List.take_zero, runFree_cons, foper_none, fe_faddr, ex_faddr, faddrA_ptr, Nat.zero_add, fstK_some, fputK_to, freeK_some, fe_load, ex_load, rd_ptr, List.getElem?_cons_zero, rdK_cells, List.drop_succ_cons, List.drop_zero, loadK_1, fe_mov, fe_iaddr, ex_iaddr, iaddrA_sl, Int.toNat_natCast, Nat.mul_one, rd_vptr, ints_drop, ints_take, ints_at0, getD_dropI, Nat.add_zero, runFree_nil, drawK_some, adopt, adoptVal, ex_call, List.map_cons, List.map_nil, pcallA_eq, frzN, List.mapM_cons, frz_sl, frz_int, List.mapM_nil, Option.pure_def, Option.bind_eq_bind, Option.bind_some, argK_some, hh, retK_some, scal, scal1, fzIds, List.flatMap_cons, bor_sl, bor_int, List.flatMap_nil, List.append_nil, List.foldl_nil, ite_self, run_ret, blockK_ret, seqK_ret, loopK_ret, a23l0c]
    | false =>
      rw [e] at hh
      obtain ⟨i', ih⟩ := racc_loop (n := n) (z := z) (s4 := s4) (s5 := s5) hfi hr d (i + 1) (by omega)
      refine ⟨i', ?_⟩
      rw [Bool.false_or, a23l0n]
      by_cases e2 : (r.drop (i + 1)).any (fun q => n.fi.contains q) = true
      · rw [if_pos e2] at ih ⊢
        simp (maxSteps := 30000000) (disch := first | assumption | omega | (simp only [List.length_cons, List.length_nil, List.length_append, List.length_set, List.length_replicate, List.length_map, List.length_range, List.length_take, List.length_drop, List.all_cons, List.all_nil, AV.isCell, Bool.and_self, Bool.and_true, bs_length, is64_length, w64_length, ints_length, edges_length] <;> omega) | rfl | decide) only [a23l0b, run_seq, run_region, runOps_cons, oper_none, ex_mov, opv, List.getD_cons_succ, List.getD_cons_zero, putK_to, List.set_cons_succ, List.set_cons_zero, opsK_some, ex_len, lenA_sl, valK_some, ex_bin, bin_lss, hlt, decide_true, runOps_nil, regK_some, seqK_normal, run_cond, condK_bool, run_skip, run_exit, if_true, run_block, run_draw, List.take_succ_cons, List.take_zero, runFree_cons, foper_none, fe_faddr, ex_faddr, faddrA_ptr, Nat.zero_add, fstK_some, fputK_to, freeK_some, fe_load, ex_load, rd_ptr, List.getElem?_cons_zero, rdK_cells, List.drop_succ_cons, List.drop_zero, loadK_1, fe_mov, fe_iaddr, ex_iaddr, iaddrA_sl, Int.toNat_natCast, Nat.mul_one, rd_vptr, ints_drop, ints_take, ints_at0, getD_dropI, Nat.add_zero, runFree_nil, drawK_some, adopt, adoptVal, ex_call, List.map_cons, List.map_nil, pcallA_eq, frzN, List.mapM_cons, frz_sl, frz_int, List.mapM_nil, Option.pure_def, Option.bind_eq_bind, Option.bind_some, argK_some, hh, retK_some, scal, scal1, fzIds, List.flatMap_cons, bor_sl, bor_int, List.flatMap_nil, List.append_nil, List.foldl_nil, ite_self, Bool.false_eq_true, run_ret, if_false, blockK_normal, bin_add, cadd1, wr64, loopK_normal, a23l0c, ih]
      · rw [if_neg e2] at ih ⊢
        simp (maxSteps := 30000000) (disch := first | assumption | omega | (simp only [List.length_cons, List.length_nil, List.length_append, List.length_set, List.length_replicate, List.length_map, List.length_range, List.length_take, List.length_drop, List.all_cons, List.all_nil, AV.isCell, Bool.and_self, Bool.and_true, bs_length, is64_length, w64_length, ints_length, edges_length] <;> omega) | rfl | decide) only [a23l0b, run_seq, run_region, runOps_cons, oper_none, ex_mov, opv, List.getD_cons_succ, List.getD_cons_zero, putK_to, List.set_cons_succ, List.set_cons_zero, opsK_some, ex_len, lenA_sl, valK_some, ex_bin, bin_lss, hlt, decide_true, runOps_nil, regK_some, seqK_normal, run_cond, condK_bool, run_skip, run_exit, if_true, run_block, run_draw, List.take_succ_cons, List.take_zero, runFree_cons, foper_none, fe_faddr, ex_faddr, faddrA_ptr, Nat.zero_add, fstK_some, fputK_to, freeK_some, fe_load, ex_load, rd_ptr, List.getElem?_cons_zero, rdK_cells, List.drop_succ_cons, List.drop_zero, loadK_1, fe_mov, fe_iaddr, ex_iaddr, iaddrA_sl, Int.toNat_natCast, Nat.mul_one, rd_vptr, ints_drop, ints_take, ints_at0, getD_dropI, Nat.add_zero, runFree_nil, drawK_some, adopt, adoptVal, ex_call, List.map_cons, List.map_nil, pcallA_eq, frzN, List.mapM_cons, frz_sl, frz_int, List.mapM_nil, Option.pure_def, Option.bind_eq_bind, Option.bind_some, argK_some, hh, retK_some, scal, scal1, fzIds, List.flatMap_cons, bor_sl, bor_int, List.flatMap_nil, List.append_nil, List.foldl_nil, ite_self, Bool.false_eq_true, run_ret, if_false, blockK_normal, bin_add, cadd1, wr64, loopK_normal, a23l0c, ih]

theorem racc_eq (n : Aut) (hf : Fits n) (zw : Bool) (w : List Nat) (hw : ∀ x ∈ w, x < 256) (hwl : w.length < 1099511627776) :
    ∃ t : Bool, L.pcall 23 [n.av, word zw w] = some (.tup [.bool t, .int .i64 (runErr n w)]) ∧ (t = true ↔ runErr n w = 0 ∧ AccB n w) := by
  have h1 := rcheck_eq n hf
  obtain ⟨-, h2⟩ := check_exact n hf
  unfold runErr
  generalize chkM n = e at *
  by_cases he : e = 0
  · have hv := h2.1 he
    subst he
    rw [if_pos rfl]
    obtain ⟨v, hnv⟩ : ∃ v : Nat, n.vars = (v : Nat) := ⟨n.vars.toNat, by have := hv.v0; omega⟩
    have hvt : n.vars.toNat = v := by omega
    have hwc := rword v zw w (by have := hv.v6; omega) hw hwl
    rw [hvt]
    rw [← hnv] at hwc
    generalize wordErr v w = we at *
    by_cases hwe : we = 0
    · subst hwe
      obtain ⟨z, r, g1, g2, g3, g4⟩ := rrun_eq n hf hv zw w hw hwl
      obtain ⟨i', g5⟩ := racc_loop (n := n) (z := z) (s4 := .bool false) (s5 := .int .i64 0) hf.l2 g3 r.length 0 (by omega)
      simp only [Int.natCast_zero, List.drop_zero] at g5
      have hacc : r.any (fun q => n.fi.contains q) = true ↔ AccB n w := by
        rw [List.any_eq_true]
        constructor
        · rintro ⟨q, h3, h4⟩
          have h5 := g4 q h3
          refine ⟨q.toNat, ?_, ?_⟩
          · rw [← g2]; unfold inS; rw [Int.toNat_of_nonneg h5.1]; simpa using h3
          · unfold inS; rw [Int.toNat_of_nonneg h5.1]; exact h4
        · rintro ⟨j, h3, h4⟩
          rw [← g2] at h3
          exact ⟨(j : Int), by simpa [inS] using h3, h4⟩
      by_cases c : r.any (fun q => n.fi.contains q) = true
      · rw [if_pos c] at g5
        refine ⟨true, ?_, ⟨fun _ => ⟨rfl, hacc.1 c⟩, fun _ => rfl⟩⟩
        rw [a23p, a23, pbodyA_eq]
        simp (maxSteps := 30000000) (disch := first | assumption | omega | (simp only [List.length_cons, List.length_nil, List.length_append, List.length_set, List.length_replicate, List.length_map, List.length_range, List.length_take, List.length_drop, List.all_cons, List.all_nil, AV.isCell, Bool.and_self, Bool.and_true, bs_length, is64_length, w64_length, ints_length, edges_length] <;> omega) | rfl | decide) only [bodyA_eq, List.length_cons, List.length_nil, Nat.zero_add, Nat.reduceAdd, Nat.reduceSub, pads, List.cons_append, List.nil_append, run_seq, run_region, runOps_cons, oper_none, ex_box, AV.cells, opv, List.getD_cons_zero, List.all_cons, AV.isCell, List.all_nil, Bool.and_self, if_true, putK_to, List.set_cons_succ, List.set_cons_zero, opsK_some, ex_mov, runOps_nil, regK_some, seqK_normal, ex_load, List.getD_cons_succ, rd_ptr, List.getElem?_cons_zero, rdK_cells, List.drop_zero, List.take_succ_cons, List.take_nil, loadK_n, valK_some, ex_call, List.map_cons, List.map_nil, pcallA_eq, frzN, List.mapM_cons, frz_agg, frz_int, frz_sl, List.mapM_nil, Option.pure_def, Option.bind_eq_bind, Option.bind_some, Option.map_some, argK_some, h1, retK_some, scal, scal1, fzIds, List.flatMap_cons, bor_agg, bor_int, bor_sl, List.flatMap_nil, List.append_nil, List.foldl_nil, ite_self, ex_bin, bin_eql, decide_true, run_cond, condK_bool, ex_faddr, faddrA_ptr, Nat.add_zero, List.take_zero, loadK_1, hwc, run_skip, bin_neq, Bool.not_true, Bool.false_eq_true, run_ret, if_false, g1, run_block, run_loop, a23l0c, g5, blockK_ret, seqK_ret, bodyK_ret, results_2, resL_cons, res_tmp, resK_some, resL_nil, retvK_some, pbodyK_some, frz_tup, frz_bool]
      · rw [if_neg c] at g5
        refine ⟨false, ?_, ⟨fun h => (nomatch h), fun h => absurd (hacc.2 h.2) c⟩⟩
        rw [a23p, a23, pbodyA_eq]
        simp (maxSteps := 30000000) (disch := first | assumption | omega | (simp only [List.length_cons, List.length_nil, List.length_append, List.length_set, List.length_replicate, List.length_map, List.length_range, List.length_take, List.length_drop, List.all_cons, List.all_nil, AV.isCell, Bool.and_self, Bool.and_true, bs_length, is64_length, w64_length, ints_length, edges_length] <;> omega) | rfl | decide) only [bodyA_eq, List.length_cons, List.length_nil, Nat.zero_add, Nat.reduceAdd, Nat.reduceSub, pads, List.cons_append, List.nil_append, run_seq, run_region, runOps_cons, oper_none, ex_box, AV.cells, opv, List.getD_cons_zero, List.all_cons, AV.isCell, List.all_nil, Bool.and_self, if_true, putK_to, List.set_cons_succ, List.set_cons_zero, opsK_some, ex_mov, runOps_nil, regK_some, seqK_normal, ex_load, List.getD_cons_succ, rd_ptr, List.getElem?_cons_zero, rdK_cells, List.drop_zero, List.take_succ_cons, List.take_nil, loadK_n, valK_some, ex_call, List.map_cons, List.map_nil, pcallA_eq, frzN, List.mapM_cons, frz_agg, frz_int, frz_sl, List.mapM_nil, Option.pure_def, Option.bind_eq_bind, Option.bind_some, Option.map_some, argK_some, h1, retK_some, scal, scal1, fzIds, List.flatMap_cons, bor_agg, bor_int, bor_sl, List.flatMap_nil, List.append_nil, List.foldl_nil, ite_self, ex_bin, bin_eql, decide_true, run_cond, condK_bool, ex_faddr, faddrA_ptr, Nat.add_zero, List.take_zero, loadK_1, hwc, run_skip, bin_neq, Bool.not_true, Bool.false_eq_true, run_ret, if_false, g1, run_block, run_loop, a23l0c, g5, blockK_exit, bodyK_ret, results_2, resL_cons, res_tmp, resK_some, resL_nil, retvK_some, pbodyK_some, frz_tup, frz_bool]
    · refine ⟨false, ?_, ⟨fun h => (nomatch h), fun h => absurd h.1 hwe⟩⟩
      rw [a23p, a23, pbodyA_eq]
      simp (maxSteps := 30000000) (disch := first | assumption | omega | (simp only [List.length_cons, List.length_nil, List.length_append, List.length_set, List.length_replicate, List.length_map, List.length_range, List.length_take, List.length_drop, List.all_cons, List.all_nil, AV.isCell, Bool.and_self, Bool.and_true, bs_length, is64_length, w64_length, ints_length, edges_length] <;> omega) | rfl | decide) only [bodyA_eq, List.length_cons, List.length_nil, Nat.zero_add, Nat.reduceAdd, Nat.reduceSub, pads, List.cons_append, List.nil_append, run_seq, run_region, runOps_cons, oper_none, ex_box, AV.cells, opv, List.getD_cons_zero, List.all_cons, AV.isCell, List.all_nil, Bool.and_self, if_true, putK_to, List.set_cons_succ, List.set_cons_zero, opsK_some, ex_mov, runOps_nil, regK_some, seqK_normal, ex_load, List.getD_cons_succ, rd_ptr, List.getElem?_cons_zero, rdK_cells, List.drop_zero, List.take_succ_cons, List.take_nil, loadK_n, valK_some, ex_call, List.map_cons, List.map_nil, pcallA_eq, frzN, List.mapM_cons, frz_agg, frz_int, frz_sl, List.mapM_nil, Option.pure_def, Option.bind_eq_bind, Option.bind_some, Option.map_some, argK_some, h1, retK_some, scal, scal1, fzIds, List.flatMap_cons, bor_agg, bor_int, bor_sl, List.flatMap_nil, List.append_nil, List.foldl_nil, ite_self, ex_bin, bin_eql, decide_true, run_cond, condK_bool, ex_faddr, faddrA_ptr, Nat.add_zero, List.take_zero, loadK_1, hwc, run_skip, bin_neq, hwe, decide_false, Bool.not_false, run_ret, seqK_ret, bodyK_ret, results_2, resL_cons, res_tmp, resK_some, resL_nil, retvK_some, pbodyK_some, frz_tup, frz_bool]
  · rw [if_neg he]
    refine ⟨false, ?_, ⟨fun h => (nomatch h), fun h => absurd h.1 he⟩⟩
    rw [a23p, a23, pbodyA_eq]
    simp (maxSteps := 30000000) (disch := first | assumption | omega | (simp only [List.length_cons, List.length_nil, List.length_append, List.length_set, List.length_replicate, List.length_map, List.length_range, List.length_take, List.length_drop, List.all_cons, List.all_nil, AV.isCell, Bool.and_self, Bool.and_true, bs_length, is64_length, w64_length, ints_length, edges_length] <;> omega) | rfl | decide) only [bodyA_eq, List.length_cons, List.length_nil, Nat.zero_add, Nat.reduceAdd, Nat.reduceSub, pads, List.cons_append, List.nil_append, run_seq, run_region, runOps_cons, oper_none, ex_box, AV.cells, opv, List.getD_cons_zero, List.all_cons, AV.isCell, List.all_nil, Bool.and_self, if_true, putK_to, List.set_cons_succ, List.set_cons_zero, opsK_some, ex_mov, runOps_nil, regK_some, seqK_normal, ex_load, List.getD_cons_succ, rd_ptr, List.getElem?_cons_zero, rdK_cells, List.drop_zero, List.take_succ_cons, List.take_nil, loadK_n, valK_some, ex_call, List.map_cons, List.map_nil, pcallA_eq, frzN, List.mapM_cons, frz_agg, frz_int, frz_sl, List.mapM_nil, Option.pure_def, Option.bind_eq_bind, Option.bind_some, Option.map_some, argK_some, h1, retK_some, scal, scal1, fzIds, List.flatMap_cons, bor_agg, bor_int, bor_sl, List.flatMap_nil, List.append_nil, List.foldl_nil, ite_self, ex_bin, bin_eql, he, decide_false, run_cond, condK_bool, Bool.false_eq_true, ex_faddr, faddrA_ptr, Nat.add_zero, List.take_zero, loadK_1, run_skip, if_false, bin_neq, Bool.not_false, run_ret, seqK_ret, bodyK_ret, results_2, resL_cons, res_tmp, resK_some, resL_nil, retvK_some, pbodyK_some, frz_tup, frz_bool]
end Go.Abs.Nfa
