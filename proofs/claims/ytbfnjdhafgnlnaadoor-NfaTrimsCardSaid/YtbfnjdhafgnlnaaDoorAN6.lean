/- Run, Accepts by what they compute. -/
import Derived.Test.YtbfnjdhafgnlnaaDoorAN5
namespace Go.Abs.NfaD
open Go Go.Abs
set_option linter.unusedSimpArgs false
set_option linter.unusedVariables false

def runS (ed : List Ed) (S : Nat → Bool) (w : List Nat) : Nat → Bool := w.foldl (fun S x => stepS ed S x) S
def inS (l : List Int) (j : Nat) : Bool := l.contains (j : Int)

theorem runw_loop {n : Aut} {zw : Bool} {w : List Nat} (hw : ∀ x ∈ w, x < 256) (hwl : w.length < 1099511627776) (hl : n.ed.length < 1099511627776) (hb : EdOk n.ed) : ∀ d i zs ls S, i + d = w.length → HasSet (sw zs ls) S →
    ∃ z r, L.loop a30l0s a30l0 ⟨a30l0F (.ptr 0 0) (sw zs ls) (word zw w) (.int .i64 (w.length : Nat)) (.int .i64 (i : Nat)), [.cells false false n.cells]⟩ =
      some (.exit 0, ⟨a30l0F (.ptr 0 0) (sw z r) (word zw w) (.int .i64 (w.length : Nat)) (.int .i64 (w.length : Nat)), [.cells false false n.cells]⟩) ∧ HasSet (sw z r) (runS n.ed S (w.drop i))
  | 0, i, zs, ls, S, h, hS => by
    obtain rfl : i = w.length := by omega
    refine ⟨zs, ls, ?_, hS.congr (fun j => by rw [List.drop_length]; rfl)⟩
    rw [a30l0n]
    simp (maxSteps := 30000000) (disch := first | assumption | omega | (simp only [List.length_cons, List.length_nil, List.length_append, List.length_set, List.length_replicate, List.length_map, List.length_range, List.length_take, List.length_drop, List.all_cons, List.all_nil, AV.isCell, Bool.and_self, Bool.and_true, bs_length, is64_length, w64_length, ints_length, edges_length] <;> omega) | rfl | decide) only [a30l0b, run_seq, run_region, runOps_cons, oper_none, ex_bin, opv, List.getD_cons_succ, List.getD_cons_zero, bin_lss, Int.lt_irrefl, decide_false, valK_some, putK_to, List.set_cons_succ, List.set_cons_zero, opsK_some, runOps_nil, regK_some, seqK_normal, run_cond, condK_bool, Bool.false_eq_true, run_skip, run_exit, if_false, seqK_exit, loopK_exit, a30l0c]
  | d + 1, i, zs, ls, S, h, hS => by
    have hlt : (i : Int) < (w.length : Nat) := by omega
    have hx : w.getD i 0 < 256 := by
      rw [List.getD_eq_getElem?_getD, List.getElem?_eq_getElem (by omega)]
      exact hw _ (List.getElem_mem _)
    obtain ⟨z1, r1, h1, h2⟩ := after_has (n := n) hx hS hl hb
    obtain ⟨z2, r2, h3, h4⟩ := runw_loop (zw := zw) hw hwl hl hb d (i + 1) z1 r1 _ (by omega) h2
    refine ⟨z2, r2, ?_, h4.congr (fun j => by rw [drop_getN (by omega : i < w.length)]; rfl)⟩
    rw [a30l0n]
    simp (maxSteps := 30000000) (disch := first | assumption | omega | (simp only [List.length_cons, List.length_nil, List.length_append, List.length_set, List.length_replicate, List.length_map, List.length_range, List.length_take, List.length_drop, List.all_cons, List.all_nil, AV.isCell, Bool.and_self, Bool.and_true, bs_length, is64_length, w64_length, ints_length, edges_length] <;> omega) | rfl | decide) only [a30l0b, run_seq, run_region, runOps_cons, oper_none, ex_bin, opv, List.getD_cons_succ, List.getD_cons_zero, bin_lss, hlt, decide_true, valK_some, putK_to, List.set_cons_succ, List.set_cons_zero, opsK_some, runOps_nil, regK_some, seqK_normal, run_cond, condK_bool, run_skip, run_exit, if_true, run_block, ex_iaddr, iaddrA_sl, Int.toNat_natCast, Nat.mul_one, ex_load, rd_vptr, bs_drop, bs_take, bs_at0, drop_getD, Nat.add_zero, loadK_1, ex_mov, rd_ptr, List.getElem?_cons_zero, rdK_cells, List.drop_zero, List.take_succ_cons, List.take_nil, loadK_n, ex_call, List.map_cons, List.map_nil, pcallA_eq, frzN, List.mapM_cons, frz_agg, frz_int, frz_sl, List.mapM_nil, Option.pure_def, Option.bind_eq_bind, Option.bind_some, Option.map_some, argK_some, h1, retK_some, scal, scal1, Bool.false_eq_true, fzIds, List.flatMap_cons, bor_agg, bor_int, bor_sl, List.flatMap_nil, List.append_nil, List.foldl_nil, ite_self, blockK_normal, bin_add, cadd1, wr64, loopK_normal, a30l0c, h3]

theorem ascB_range {s : Int} : ∀ {l : List Int} {last : Int}, ascB s last l = true → ∀ q ∈ l, last < q ∧ q < s
  | [], _, _, q, hq => by simp at hq
  | a :: l, last, h, q, hq => by
    unfold ascB at h
    split at h
    · cases h
    · rename_i hn
      rcases List.mem_cons.1 hq with rfl | hq
      · omega
      · have := ascB_range h q hq; omega

theorem eds_ok {s : Int} {v : Nat} : ∀ {l : List Ed}, edsErr s v l = 0 → ∀ e ∈ l, edErr s v e = 0
  | [], _, e, he => by simp at he
  | a :: l, h, e, he => by
    by_cases h1 : edErr s v a = 0
    · rw [edsErr_eq h1] at h
      rcases List.mem_cons.1 he with rfl | he
      · exact h1
      · exact eds_ok h e he
    · rw [edsErr_ne h1] at h
      exact (h1 h).elim

theorem ed_ok {s : Int} {v : Nat} {e : Ed} (h : edErr s v e = 0) : 0 ≤ e.a ∧ e.a < s ∧ 0 ≤ e.b ∧ e.b < s ∧ cubeErr v e.p e.n = 0 := by
  unfold edErr at h
  split at h
  · omega
  · rename_i hn
    exact ⟨by omega, by omega, by omega, by omega, h⟩

theorem Valid.edOk {n : Aut} (h : Valid n) (hf : Fits n) : EdOk n.ed := fun e he => by
  have h1 := ed_ok (eds_ok h.ed e he)
  have h2 := h.s64
  have h3 := hf.by_ e he
  exact ⟨by omega, by omega, h3⟩
theorem Valid.stOk {n : Aut} (h : Valid n) : ∀ q ∈ n.st, 0 ≤ q ∧ q < 4096 := fun q hq => by
  have := ascB_range h.st q hq; have := h.s64; omega
theorem Valid.fiOk {n : Aut} (h : Valid n) : ∀ q ∈ n.fi, 0 ≤ q ∧ q < 4096 := fun q hq => by
  have := ascB_range h.fi q hq; have := h.s64; omega

/-- what Run gives -/
theorem run_has (n : Aut) (hf : Fits n) (zw : Bool) (w : List Nat) (hw : ∀ x ∈ w, x < 256) (hwl : w.length < 1099511627776) :
    ∃ e : Int, L.pcall 26 [n.av] = some (.int .i64 e) ∧ (e = 0 ↔ Valid n) ∧
      (e ≠ 0 → L.pcall 30 [n.av, word zw w] = some (.tup [.sl true 0 [], .int .i64 e])) ∧
      (e = 0 → wordErr n.vars.toNat w ≠ 0 → L.pcall 30 [n.av, word zw w] = some (.tup [.sl true 0 [], .int .i64 (wordErr n.vars.toNat w)])) ∧
      (e = 0 → wordErr n.vars.toNat w = 0 → ∃ z r, L.pcall 30 [n.av, word zw w] = some (.tup [sw z r, .int .i64 0]) ∧ HasSet (sw z r) (runS n.ed (inS n.st) w)) := by
  obtain ⟨e, h1, h2⟩ := check_eq n hf
  refine ⟨e, h1, h2, fun he => ?_, fun he hwe => ?_, fun he hwe => ?_⟩
  · rw [a30p, a30, pbodyA_eq]
    simp (maxSteps := 30000000) (disch := first | assumption | omega | (simp only [List.length_cons, List.length_nil, List.length_append, List.length_set, List.length_replicate, List.length_map, List.length_range, List.length_take, List.length_drop, List.all_cons, List.all_nil, AV.isCell, Bool.and_self, Bool.and_true, bs_length, is64_length, w64_length, ints_length, edges_length] <;> omega) | rfl | decide) only [bodyA_eq, List.length_cons, List.length_nil, Nat.zero_add, Nat.reduceAdd, Nat.reduceSub, pads, List.cons_append, List.nil_append, run_seq, run_region, runOps_cons, oper_none, ex_box, AV.cells, opv, List.getD_cons_zero, List.all_cons, AV.isCell, List.all_nil, Bool.and_self, if_true, putK_to, List.set_cons_succ, List.set_cons_zero, opsK_some, ex_mov, runOps_nil, regK_some, seqK_normal, ex_load, List.getD_cons_succ, rd_ptr, List.getElem?_cons_zero, rdK_cells, List.drop_zero, List.take_succ_cons, List.take_nil, loadK_n, valK_some, ex_call, List.map_cons, List.map_nil, pcallA_eq, frzN, List.mapM_cons, frz_agg, frz_int, frz_sl, List.mapM_nil, Option.pure_def, Option.bind_eq_bind, Option.bind_some, Option.map_some, argK_some, h1, retK_some, scal, scal1, fzIds, List.flatMap_cons, bor_agg, bor_int, bor_sl, List.flatMap_nil, List.append_nil, List.foldl_nil, ite_self, ex_bin, bin_eql, he, decide_false, run_cond, condK_bool, Bool.false_eq_true, run_skip, if_false, bin_neq, Bool.not_false, run_ret, seqK_ret, bodyK_ret, results_2, resL_cons, res_tmp, resK_some, resL_nil, retvK_some, pbodyK_some, frz_tup]
  · have hv := h2.1 he
    have hnv : n.vars = ((n.vars.toNat : Nat) : Int) := by have := hv.v0; omega
    have hwc := wordCheck n n.vars.toNat zw w (by have := hv.v6; omega) hnv hw hwl
    generalize wordErr n.vars.toNat w = we at *
    subst he
    rw [a30p, a30, pbodyA_eq]
    simp (maxSteps := 30000000) (disch := first | assumption | omega | (simp only [List.length_cons, List.length_nil, List.length_append, List.length_set, List.length_replicate, List.length_map, List.length_range, List.length_take, List.length_drop, List.all_cons, List.all_nil, AV.isCell, Bool.and_self, Bool.and_true, bs_length, is64_length, w64_length, ints_length, edges_length] <;> omega) | rfl | decide) only [bodyA_eq, List.length_cons, List.length_nil, Nat.zero_add, Nat.reduceAdd, Nat.reduceSub, pads, List.cons_append, List.nil_append, run_seq, run_region, runOps_cons, oper_none, ex_box, AV.cells, opv, List.getD_cons_zero, List.all_cons, AV.isCell, List.all_nil, Bool.and_self, if_true, putK_to, List.set_cons_succ, List.set_cons_zero, opsK_some, ex_mov, runOps_nil, regK_some, seqK_normal, ex_load, List.getD_cons_succ, rd_ptr, List.getElem?_cons_zero, rdK_cells, List.drop_zero, List.take_succ_cons, List.take_nil, loadK_n, valK_some, ex_call, List.map_cons, List.map_nil, pcallA_eq, frzN, List.mapM_cons, frz_agg, frz_int, frz_sl, List.mapM_nil, Option.pure_def, Option.bind_eq_bind, Option.bind_some, Option.map_some, argK_some, h1, retK_some, scal, scal1, fzIds, List.flatMap_cons, bor_agg, bor_int, bor_sl, List.flatMap_nil, List.append_nil, List.foldl_nil, ite_self, ex_bin, bin_eql, decide_true, run_cond, condK_bool, hwc, run_skip, bin_neq, hwe, decide_false, Bool.not_false, run_ret, seqK_ret, bodyK_ret, results_2, resL_cons, res_tmp, resK_some, resL_nil, retvK_some, pbodyK_some, frz_tup]
  · have hv := h2.1 he
    have hnv : n.vars = ((n.vars.toNat : Nat) : Int) := by have := hv.v0; omega
    have hwc := wordCheck n n.vars.toNat zw w (by have := hv.v6; omega) hnv hw hwl
    rw [hwe] at hwc
    subst he
    obtain ⟨z1, r1, h3, h4⟩ := of_has (z := n.z1) hf.l1 hv.stOk
    obtain ⟨z2, r2, h5, h6⟩ := runw_loop (n := n) (zw := zw) hw hwl hf.l3 (hv.edOk hf) w.length 0 z1 r1 _ (by omega) h4
    simp only [Int.natCast_zero, List.drop_zero] at h5 h6
    refine ⟨z2, r2, ?_, h6⟩
    rw [a30p, a30, pbodyA_eq]
    simp (maxSteps := 30000000) (disch := first | assumption | omega | (simp only [List.length_cons, List.length_nil, List.length_append, List.length_set, List.length_replicate, List.length_map, List.length_range, List.length_take, List.length_drop, List.all_cons, List.all_nil, AV.isCell, Bool.and_self, Bool.and_true, bs_length, is64_length, w64_length, ints_length, edges_length] <;> omega) | rfl | decide) only [bodyA_eq, List.length_cons, List.length_nil, Nat.zero_add, Nat.reduceAdd, Nat.reduceSub, pads, List.cons_append, List.nil_append, run_seq, run_region, runOps_cons, oper_none, ex_box, AV.cells, opv, List.getD_cons_zero, List.all_cons, AV.isCell, List.all_nil, Bool.and_self, if_true, putK_to, List.set_cons_succ, List.set_cons_zero, opsK_some, ex_mov, runOps_nil, regK_some, seqK_normal, ex_load, List.getD_cons_succ, rd_ptr, List.getElem?_cons_zero, rdK_cells, List.drop_zero, List.take_succ_cons, List.take_nil, loadK_n, valK_some, ex_call, List.map_cons, List.map_nil, pcallA_eq, frzN, List.mapM_cons, frz_agg, frz_int, frz_sl, List.mapM_nil, Option.pure_def, Option.bind_eq_bind, Option.bind_some, Option.map_some, argK_some, h1, retK_some, scal, scal1, fzIds, List.flatMap_cons, bor_agg, bor_int, bor_sl, List.flatMap_nil, List.append_nil, List.foldl_nil, ite_self, ex_bin, bin_eql, decide_true, run_cond, condK_bool, hwc, run_skip, bin_neq, Bool.not_true, Bool.false_eq_true, run_ret, if_false, ex_faddr, faddrA_ptr, List.drop_succ_cons, List.take_zero, loadK_1, h3, ex_len, lenA_sl, run_block, run_loop, a30l0c, h5, blockK_exit, bodyK_ret, results_2, resL_cons, res_tmp, resK_some, resL_nil, retvK_some, pbodyK_some, frz_tup]

/-- does the automaton accept the word? -/
def AccB (n : Aut) (w : List Nat) : Prop := ∃ j, runS n.ed (inS n.st) w j = true ∧ inS n.fi j = true

theorem acc_has (n : Aut) (hf : Fits n) (zw : Bool) (w : List Nat) (hw : ∀ x ∈ w, x < 256) (hwl : w.length < 1099511627776) :
    ∃ e : Int, L.pcall 26 [n.av] = some (.int .i64 e) ∧ (e = 0 ↔ Valid n) ∧
      (e ≠ 0 → L.pcall 25 [n.av, word zw w] = some (.tup [.bool false, .int .i64 e])) ∧
      (e = 0 → wordErr n.vars.toNat w ≠ 0 → L.pcall 25 [n.av, word zw w] = some (.tup [.bool false, .int .i64 (wordErr n.vars.toNat w)])) ∧
      (e = 0 → wordErr n.vars.toNat w = 0 → ∃ t, L.pcall 25 [n.av, word zw w] = some (.tup [.bool t, .int .i64 0]) ∧ (t = true ↔ AccB n w)) := by
  obtain ⟨e, h1, h2, h3, h4, h5⟩ := run_has n hf zw w hw hwl
  refine ⟨e, h1, h2, fun he => ?_, fun he hwe => ?_, fun he hwe => ?_⟩
  · have := h3 he
    rw [a25p, a25, pbodyA_eq]
    simp (maxSteps := 30000000) (disch := first | assumption | omega | (simp only [List.length_cons, List.length_nil, List.length_append, List.length_set, List.length_replicate, List.length_map, List.length_range, List.length_take, List.length_drop, List.all_cons, List.all_nil, AV.isCell, Bool.and_self, Bool.and_true, bs_length, is64_length, w64_length, ints_length, edges_length] <;> omega) | rfl | decide) only [bodyA_eq, List.length_cons, List.length_nil, Nat.zero_add, Nat.reduceAdd, Nat.reduceSub, pads, List.cons_append, List.nil_append, run_seq, run_region, runOps_cons, oper_none, ex_box, AV.cells, opv, List.getD_cons_zero, List.all_cons, AV.isCell, List.all_nil, Bool.and_self, if_true, putK_to, List.set_cons_succ, List.set_cons_zero, opsK_some, ex_mov, runOps_nil, regK_some, seqK_normal, ex_load, List.getD_cons_succ, rd_ptr, List.getElem?_cons_zero, rdK_cells, List.drop_zero, List.take_succ_cons, List.take_nil, loadK_n, valK_some, ex_call, List.map_cons, List.map_nil, pcallA_eq, frzN, List.mapM_cons, frz_agg, frz_int, frz_sl, List.mapM_nil, Option.pure_def, Option.bind_eq_bind, Option.bind_some, Option.map_some, argK_some, this, retK_some, scal, scal1, Bool.and_true, Bool.false_eq_true, fzIds, List.flatMap_cons, bor_agg, bor_int, bor_sl, List.flatMap_nil, List.append_nil, List.foldl_nil, ite_self, ex_ext, extA_tup, List.getElem?_cons_succ, ex_bin, bin_eql, he, decide_false, oper_guard, guardK_bool, putA_to, if_false, ex_faddr, faddrA_ptr, frz_tup, ex_pick, pickA_bool, run_ret, bodyK_ret, results_2, resL_cons, res_tmp, resK_some, resL_nil, retvK_some, pbodyK_some, frz_bool]
  · have := h4 he hwe
    rw [a25p, a25, pbodyA_eq]
    simp (maxSteps := 30000000) (disch := first | assumption | omega | (simp only [List.length_cons, List.length_nil, List.length_append, List.length_set, List.length_replicate, List.length_map, List.length_range, List.length_take, List.length_drop, List.all_cons, List.all_nil, AV.isCell, Bool.and_self, Bool.and_true, bs_length, is64_length, w64_length, ints_length, edges_length] <;> omega) | rfl | decide) only [bodyA_eq, List.length_cons, List.length_nil, Nat.zero_add, Nat.reduceAdd, Nat.reduceSub, pads, List.cons_append, List.nil_append, run_seq, run_region, runOps_cons, oper_none, ex_box, AV.cells, opv, List.getD_cons_zero, List.all_cons, AV.isCell, List.all_nil, Bool.and_self, if_true, putK_to, List.set_cons_succ, List.set_cons_zero, opsK_some, ex_mov, runOps_nil, regK_some, seqK_normal, ex_load, List.getD_cons_succ, rd_ptr, List.getElem?_cons_zero, rdK_cells, List.drop_zero, List.take_succ_cons, List.take_nil, loadK_n, valK_some, ex_call, List.map_cons, List.map_nil, pcallA_eq, frzN, List.mapM_cons, frz_agg, frz_int, frz_sl, List.mapM_nil, Option.pure_def, Option.bind_eq_bind, Option.bind_some, Option.map_some, argK_some, this, retK_some, scal, scal1, Bool.and_true, Bool.false_eq_true, fzIds, List.flatMap_cons, bor_agg, bor_int, bor_sl, List.flatMap_nil, List.append_nil, List.foldl_nil, ite_self, ex_ext, extA_tup, List.getElem?_cons_succ, ex_bin, bin_eql, hwe, decide_false, oper_guard, guardK_bool, putA_to, if_false, ex_faddr, faddrA_ptr, frz_tup, ex_pick, pickA_bool, run_ret, bodyK_ret, results_2, resL_cons, res_tmp, resK_some, resL_nil, retvK_some, pbodyK_some, frz_bool]
  · obtain ⟨z, r, g1, g2⟩ := h5 he hwe
    have hv := h2.1 he
    obtain ⟨z1, r1, g3, g4⟩ := of_has (z := n.z2) hf.l2 hv.fiOk
    obtain ⟨t, g5, g6⟩ := meets_has g2 g4
    refine ⟨t, ?_, g6⟩
    rw [a25p, a25, pbodyA_eq]
    simp (maxSteps := 30000000) (disch := first | assumption | omega | (simp only [List.length_cons, List.length_nil, List.length_append, List.length_set, List.length_replicate, List.length_map, List.length_range, List.length_take, List.length_drop, List.all_cons, List.all_nil, AV.isCell, Bool.and_self, Bool.and_true, bs_length, is64_length, w64_length, ints_length, edges_length] <;> omega) | rfl | decide) only [bodyA_eq, List.length_cons, List.length_nil, Nat.zero_add, Nat.reduceAdd, Nat.reduceSub, pads, List.cons_append, List.nil_append, run_seq, run_region, runOps_cons, oper_none, ex_box, AV.cells, opv, List.getD_cons_zero, List.all_cons, AV.isCell, List.all_nil, Bool.and_self, if_true, putK_to, List.set_cons_succ, List.set_cons_zero, opsK_some, ex_mov, runOps_nil, regK_some, seqK_normal, ex_load, List.getD_cons_succ, rd_ptr, List.getElem?_cons_zero, rdK_cells, List.drop_zero, List.take_succ_cons, List.take_nil, loadK_n, valK_some, ex_call, List.map_cons, List.map_nil, pcallA_eq, frzN, List.mapM_cons, frz_agg, frz_int, frz_sl, List.mapM_nil, Option.pure_def, Option.bind_eq_bind, Option.bind_some, Option.map_some, argK_some, g1, retK_some, scal, scal1, Bool.and_true, Bool.false_eq_true, fzIds, List.flatMap_cons, bor_agg, bor_int, bor_sl, List.flatMap_nil, List.append_nil, List.foldl_nil, ite_self, ex_ext, extA_tup, List.getElem?_cons_succ, ex_bin, bin_eql, decide_true, oper_guard, guardK_bool, putA_to, ex_faddr, faddrA_ptr, List.drop_succ_cons, List.take_zero, loadK_1, g3, g5, ex_pick, pickA_bool, run_ret, bodyK_ret, results_2, resL_cons, res_tmp, resK_some, resL_nil, retvK_some, pbodyK_some, frz_tup, frz_bool]
end Go.Abs.NfaD
