/- Automata and trees as values; the lists of states; Check. -/
import Derived.Test.YtijmhicopfphnaaDoorAMN
namespace Go.Abs.Tree
open Go Go.Abs
set_option linter.unusedSimpArgs false
set_option linter.unusedVariables false

structure Rl where
  l : Int
  r : Int
  t : Int
  p : Nat
  n : Nat
def r0 : Rl := ⟨0, 0, 0, 0, 0⟩
def encR (e : Rl) : List AV := [.int .i64 e.l, .int .i64 e.r, .int .i64 e.t, .int .u8 (e.p : Nat), .int .u8 (e.n : Nat)]
def rls (l : List Rl) : List AV := rows encR l
theorem rls_length (l : List Rl) : (rls l).length = l.length * 5 := rows_length (enc := encR) (k := 5) (fun _ => rfl) l
theorem rls_at {l : List Rl} {i : Nat} (h : i < l.length) : List.take 5 (List.drop (i * 5) (rls l)) = [.int .i64 (l.getD i r0).l, .int .i64 (l.getD i r0).r, .int .i64 (l.getD i r0).t, .int .u8 ((l.getD i r0).p : Nat), .int .u8 ((l.getD i r0).n : Nat)] := by
  unfold rls
  rw [rows_drop (enc := encR) (k := 5) (fun _ => rfl), List.drop_eq_getElem_cons h]
  have : l.getD i r0 = l[i] := by simp [List.getD, List.getElem?_eq_getElem h]
  rw [this]
  rfl
theorem drop_getR {l : List Rl} {i : Nat} (h : i < l.length) : l.drop i = l.getD i r0 :: l.drop (i + 1) := by
  rw [List.drop_eq_getElem_cons h]
  simp [List.getD, List.getElem?_eq_getElem h]
theorem getR_mem {l : List Rl} {i : Nat} (h : i < l.length) : l.getD i r0 ∈ l := by
  rw [List.getD_eq_getElem?_getD, List.getElem?_eq_getElem h]
  exact List.getElem_mem _

structure Aut where
  vars : Int
  states : Int
  z1 : Bool
  st : List Int
  z2 : Bool
  fi : List Int
  z3 : Bool
  rl : List Rl

abbrev Aut.cells (n : Aut) : List AV := [.int .i64 n.vars, .int .i64 n.states, iw n.z1 n.st, iw n.z2 n.fi, .sl n.z3 n.rl.length (rls n.rl)]
abbrev Aut.av (n : Aut) : AV := .agg n.cells

/-- strictly ascending states -/
def ascB (s : Int) : Int → List Int → Bool
  | _, [] => true
  | last, q :: t => if q ≤ last ∨ s ≤ q then false else ascB s q t

theorem asc_loop {s : Int} {z : Bool} {l : List Int} {s4 : AV} {H : Heap} (hl : l.length < 1099511627776) : ∀ d i last, i + d = l.length →
    ∃ (last' : Int) (i' : Nat), L.loop a44l0s a44l0 ⟨a44l0F (.int .i64 s) s4 (.int .i64 last) (iw z l) (.int .i64 (l.length : Nat)) (.int .i64 (i : Nat)), H⟩ =
      some (if ascB s last (l.drop i) = true then (.exit 0, ⟨a44l0F (.int .i64 s) s4 (.int .i64 last') (iw z l) (.int .i64 (l.length : Nat)) (.int .i64 (l.length : Nat)), H⟩)
        else (.ret, ⟨a44l0F (.int .i64 s) (.int .i64 8) (.int .i64 last') (iw z l) (.int .i64 (l.length : Nat)) (.int .i64 (i' : Nat)), H⟩))
  | 0, i, last, h => by
    obtain rfl : i = l.length := by omega
    refine ⟨last, 0, ?_⟩
    rw [if_pos (by rw [List.drop_length]; rfl), a44l0n]
    simp (maxSteps := 30000000) (disch := first | assumption | omega | (simp only [List.length_cons, List.length_nil, List.length_append, List.length_set, List.length_replicate, List.length_map, List.length_range, List.length_take, List.length_drop, List.all_cons, List.all_nil, AV.isCell, Bool.and_self, Bool.and_true, bs_length, is64_length, w64_length, ints_length, rls_length] <;> omega) | rfl | decide) only [a44l0b, run_seq, run_region, runOps_cons, oper_none, ex_bin, opv, List.getD_cons_succ, List.getD_cons_zero, bin_lss, Int.lt_irrefl, decide_false, valK_some, putK_to, List.set_cons_succ, List.set_cons_zero, opsK_some, runOps_nil, regK_some, seqK_normal, run_cond, condK_bool, Bool.false_eq_true, run_skip, run_exit, if_false, seqK_exit, loopK_exit, a44l0c]
  | d + 1, i, last, h => by
    have hlt : (i : Int) < (l.length : Nat) := by omega
    rw [drop_getI (by omega : i < l.length)]
    by_cases c1 : l.getD i 0 ≤ last
    · refine ⟨last, i, ?_⟩
      have ea : ascB s last (l.getD i 0 :: l.drop (i + 1)) = false := if_pos (.inl c1)
      rw [ea, if_neg (by simp), a44l0n]
      simp (maxSteps := 30000000) (disch := first | assumption | omega | (simp only [List.length_cons, List.length_nil, List.length_append, List.length_set, List.length_replicate, List.length_map, List.length_range, List.length_take, List.length_drop, List.all_cons, List.all_nil, AV.isCell, Bool.and_self, Bool.and_true, bs_length, is64_length, w64_length, ints_length, rls_length] <;> omega) | rfl | decide) only [a44l0b, run_seq, run_region, runOps_cons, oper_none, ex_bin, opv, List.getD_cons_succ, List.getD_cons_zero, bin_lss, hlt, decide_true, valK_some, putK_to, List.set_cons_succ, List.set_cons_zero, opsK_some, runOps_nil, regK_some, seqK_normal, run_cond, condK_bool, run_skip, run_exit, if_true, run_block, ex_iaddr, iaddrA_sl, Int.toNat_natCast, Nat.mul_one, ex_load, rd_vptr, ints_drop, ints_take, ints_at0, getD_dropI, Nat.add_zero, loadK_1, ex_mov, bin_leq, c1, oper_guard, guardK_bool, Bool.true_eq_false, putA_to, if_false, ex_pick, pickA_bool, run_ret, seqK_ret, blockK_ret, loopK_ret, a44l0c]
    · by_cases c2 : s ≤ l.getD i 0
      · refine ⟨last, i, ?_⟩
        have ea : ascB s last (l.getD i 0 :: l.drop (i + 1)) = false := if_pos (.inr c2)
        rw [ea, if_neg (by simp), a44l0n]
        simp (maxSteps := 30000000) (disch := first | assumption | omega | (simp only [List.length_cons, List.length_nil, List.length_append, List.length_set, List.length_replicate, List.length_map, List.length_range, List.length_take, List.length_drop, List.all_cons, List.all_nil, AV.isCell, Bool.and_self, Bool.and_true, bs_length, is64_length, w64_length, ints_length, rls_length] <;> omega) | rfl | decide) only [a44l0b, run_seq, run_region, runOps_cons, oper_none, ex_bin, opv, List.getD_cons_succ, List.getD_cons_zero, bin_lss, hlt, decide_true, valK_some, putK_to, List.set_cons_succ, List.set_cons_zero, opsK_some, runOps_nil, regK_some, seqK_normal, run_cond, condK_bool, run_skip, run_exit, if_true, run_block, ex_iaddr, iaddrA_sl, Int.toNat_natCast, Nat.mul_one, ex_load, rd_vptr, ints_drop, ints_take, ints_at0, getD_dropI, Nat.add_zero, loadK_1, ex_mov, bin_leq, c1, decide_false, oper_guard, guardK_bool, putA_to, bin_geq, c2, ex_pick, pickA_bool, Bool.false_eq_true, ite_self, run_ret, seqK_ret, blockK_ret, loopK_ret, a44l0c]
      · obtain ⟨last', i', ih⟩ := asc_loop (s := s) (z := z) (s4 := s4) (H := H) hl d (i + 1) (l.getD i 0) (by omega)
        refine ⟨last', i', ?_⟩
        have ea : ascB s last (l.getD i 0 :: l.drop (i + 1)) = ascB s (l.getD i 0) (l.drop (i + 1)) := if_neg (by omega)
        rw [ea, a44l0n]
        by_cases e : ascB s (l.getD i 0) (l.drop (i + 1)) = true
        · rw [if_pos e] at ih ⊢
          simp (maxSteps := 30000000) (disch := first | assumption | omega | (simp only [List.length_cons, List.length_nil, List.length_append, List.length_set, List.length_replicate, List.length_map, List.length_range, List.length_take, List.length_drop, List.all_cons, List.all_nil, AV.isCell, Bool.and_self, Bool.and_true, bs_length, is64_length, w64_length, ints_length, rls_length] <;> omega) | rfl | decide) only [a44l0b, run_seq, run_region, runOps_cons, oper_none, ex_bin, opv, List.getD_cons_succ, List.getD_cons_zero, bin_lss, hlt, decide_true, valK_some, putK_to, List.set_cons_succ, List.set_cons_zero, opsK_some, runOps_nil, regK_some, seqK_normal, run_cond, condK_bool, run_skip, run_exit, if_true, run_block, ex_iaddr, iaddrA_sl, Int.toNat_natCast, Nat.mul_one, ex_load, rd_vptr, ints_drop, ints_take, ints_at0, getD_dropI, Nat.add_zero, loadK_1, ex_mov, bin_leq, c1, decide_false, oper_guard, guardK_bool, putA_to, bin_geq, c2, ex_pick, pickA_bool, Bool.false_eq_true, if_false, run_ret, blockK_normal, bin_add, cadd1, wr64, loopK_normal, a44l0c, ih]
        · rw [if_neg e] at ih ⊢
          simp (maxSteps := 30000000) (disch := first | assumption | omega | (simp only [List.length_cons, List.length_nil, List.length_append, List.length_set, List.length_replicate, List.length_map, List.length_range, List.length_take, List.length_drop, List.all_cons, List.all_nil, AV.isCell, Bool.and_self, Bool.and_true, bs_length, is64_length, w64_length, ints_length, rls_length] <;> omega) | rfl | decide) only [a44l0b, run_seq, run_region, runOps_cons, oper_none, ex_bin, opv, List.getD_cons_succ, List.getD_cons_zero, bin_lss, hlt, decide_true, valK_some, putK_to, List.set_cons_succ, List.set_cons_zero, opsK_some, runOps_nil, regK_some, seqK_normal, run_cond, condK_bool, run_skip, run_exit, if_true, run_block, ex_iaddr, iaddrA_sl, Int.toNat_natCast, Nat.mul_one, ex_load, rd_vptr, ints_drop, ints_take, ints_at0, getD_dropI, Nat.add_zero, loadK_1, ex_mov, bin_leq, c1, decide_false, oper_guard, guardK_bool, putA_to, bin_geq, c2, ex_pick, pickA_bool, Bool.false_eq_true, if_false, run_ret, blockK_normal, bin_add, cadd1, wr64, loopK_normal, a44l0c, ih]

def ascErr (s : Int) (l : List Int) : Int := if ascB s (-1) l = true then 0 else 8
theorem asc_eq (s : Int) (z : Bool) (l : List Int) (hl : l.length < 1099511627776) : L.pcall 44 [iw z l, .int .i64 s] = some (.int .i64 (ascErr s l)) := by
  obtain ⟨last', i', h⟩ := asc_loop (s := s) (z := z) (s4 := .int .i64 0) (H := []) hl l.length 0 (-1) (by omega)
  simp only [Int.natCast_zero, List.drop_zero] at h
  unfold ascErr
  rw [a44p, a44, pbodyA_eq]
  by_cases e : ascB s (-1) l = true
  · rw [if_pos e] at h ⊢
    simp (maxSteps := 30000000) (disch := first | assumption | omega | (simp only [List.length_cons, List.length_nil, List.length_append, List.length_set, List.length_replicate, List.length_map, List.length_range, List.length_take, List.length_drop, List.all_cons, List.all_nil, AV.isCell, Bool.and_self, Bool.and_true, bs_length, is64_length, w64_length, ints_length, rls_length] <;> omega) | rfl | decide) only [Int.reduceNeg, bodyA_eq, List.length_cons, List.length_nil, Nat.zero_add, Nat.reduceAdd, Nat.reduceSub, pads, List.cons_append, List.nil_append, run_seq, run_region, runOps_cons, oper_none, ex_mov, opv, putK_to, List.set_cons_succ, List.set_cons_zero, opsK_some, runOps_nil, regK_some, seqK_normal, List.getD_cons_zero, ex_len, List.getD_cons_succ, lenA_sl, valK_some, run_block, run_loop, a44l0c, h, blockK_exit, if_true, run_ret, bodyK_ret, results_1, res_tmp, retvK_some, pbodyK_some, frzN, frz_int]
  · rw [if_neg e] at h ⊢
    simp (maxSteps := 30000000) (disch := first | assumption | omega | (simp only [List.length_cons, List.length_nil, List.length_append, List.length_set, List.length_replicate, List.length_map, List.length_range, List.length_take, List.length_drop, List.all_cons, List.all_nil, AV.isCell, Bool.and_self, Bool.and_true, bs_length, is64_length, w64_length, ints_length, rls_length] <;> omega) | rfl | decide) only [Int.reduceNeg, bodyA_eq, List.length_cons, List.length_nil, Nat.zero_add, Nat.reduceAdd, Nat.reduceSub, pads, List.cons_append, List.nil_append, run_seq, run_region, runOps_cons, oper_none, ex_mov, opv, putK_to, List.set_cons_succ, List.set_cons_zero, opsK_some, runOps_nil, regK_some, seqK_normal, List.getD_cons_zero, ex_len, List.getD_cons_succ, lenA_sl, valK_some, run_block, run_loop, a44l0c, h, blockK_ret, seqK_ret, bodyK_ret, results_1, res_tmp, retvK_some, pbodyK_some, frzN, frz_int]

def rlErr (s : Int) (v : Nat) (e : Rl) : Int := if min (min e.l e.r) e.t < 0 ∨ s ≤ max (max e.l e.r) e.t then 8 else cubeErr v e.p e.n
def rlsErr (s : Int) (v : Nat) : List Rl → Int
  | [] => 0
  | e :: t => if rlErr s v e = 0 then rlsErr s v t else rlErr s v e
theorem rlsErr_ne {s : Int} {v : Nat} {e : Rl} {t : List Rl} (h : rlErr s v e ≠ 0) : rlsErr s v (e :: t) = rlErr s v e := if_neg h
theorem rlsErr_eq {s : Int} {v : Nat} {e : Rl} {t : List Rl} (h : rlErr s v e = 0) : rlsErr s v (e :: t) = rlsErr s v t := if_pos h

theorem lists_loop (n : Aut) {s2 : AV} (h1 : n.st.length < 1099511627776) (h2 : n.fi.length < 1099511627776) :
    ∃ i' : AV, L.loop a14l0s a14l0 ⟨a14l0F (.ptr 0 0) s2 (.agg [iw n.z1 n.st, iw n.z2 n.fi]) (.int .i64 0), [.cells false false n.cells]⟩ =
      some (if ascErr n.states n.st = 0 ∧ ascErr n.states n.fi = 0 then (.exit 1, ⟨a14l0F (.ptr 0 0) s2 (.agg [iw n.z1 n.st, iw n.z2 n.fi]) (.int .i64 2), [.cells false false n.cells]⟩)
        else (.ret, ⟨a14l0F (.ptr 0 0) (.int .i64 8) (.agg [iw n.z1 n.st, iw n.z2 n.fi]) i', [.cells false false n.cells]⟩)) := by
  have e1 := asc_eq n.states n.z1 n.st h1
  have e2 := asc_eq n.states n.z2 n.fi h2
  have k2 : L.loop a14l0s a14l0 ⟨a14l0F (.ptr 0 0) s2 (.agg [iw n.z1 n.st, iw n.z2 n.fi]) (.int .i64 2), [.cells false false n.cells]⟩ = some (.exit 1, ⟨a14l0F (.ptr 0 0) s2 (.agg [iw n.z1 n.st, iw n.z2 n.fi]) (.int .i64 2), [.cells false false n.cells]⟩) := by
    rw [a14l0n]
    simp (maxSteps := 30000000) (disch := first | assumption | omega | (simp only [List.length_cons, List.length_nil, List.length_append, List.length_set, List.length_replicate, List.length_map, List.length_range, List.length_take, List.length_drop, List.all_cons, List.all_nil, AV.isCell, Bool.and_self, Bool.and_true, bs_length, is64_length, w64_length, ints_length, rls_length] <;> omega) | rfl | decide) only [a14l0b, run_seq, run_region, runOps_cons, oper_none, ex_bin, opv, List.getD_cons_succ, List.getD_cons_zero, bin_lss, Int.lt_irrefl, decide_false, valK_some, putK_to, List.set_cons_succ, List.set_cons_zero, opsK_some, runOps_nil, regK_some, seqK_normal, run_cond, condK_bool, Bool.false_eq_true, run_skip, run_exit, if_false, seqK_exit, loopK_exit, a14l0c]
  have g : ∀ l, ascErr n.states l = 0 ∨ ascErr n.states l = 8 := fun l => by unfold ascErr; split <;> simp
  rcases g n.st with c1 | c1
  · rcases g n.fi with c2 | c2
    · refine ⟨.int .i64 2, ?_⟩
      rw [c1] at e1
      rw [c2] at e2
      rw [if_pos ⟨c1, c2⟩, a14l0n]
      simp (maxSteps := 30000000) (disch := first | assumption | omega | (simp only [List.length_cons, List.length_nil, List.length_append, List.length_set, List.length_replicate, List.length_map, List.length_range, List.length_take, List.length_drop, List.all_cons, List.all_nil, AV.isCell, Bool.and_self, Bool.and_true, bs_length, is64_length, w64_length, ints_length, rls_length] <;> omega) | rfl | decide) only [a14l0b, run_seq, run_region, runOps_cons, oper_none, ex_bin, opv, List.getD_cons_succ, List.getD_cons_zero, bin_lss, Int.reduceLT, decide_true, valK_some, putK_to, List.set_cons_succ, List.set_cons_zero, opsK_some, runOps_nil, regK_some, seqK_normal, run_cond, condK_bool, run_skip, run_exit, if_true, run_block, ex_idx, idxA_agg, Int.toNat_zero, Nat.mul_one, List.drop_zero, List.take_succ_cons, List.take_zero, mkv_1, ex_mov, ex_faddr, faddrA_ptr, Nat.zero_add, ex_load, rd_ptr, List.getElem?_cons_zero, rdK_cells, List.drop_succ_cons, loadK_1, ex_call, List.map_cons, List.map_nil, pcallA_eq, frzN, List.mapM_cons, frz_sl, frz_int, List.mapM_nil, Option.pure_def, Option.bind_eq_bind, Option.bind_some, argK_some, e1, retK_some, scal, scal1, fzIds, List.flatMap_cons, bor_sl, bor_int, List.flatMap_nil, List.append_nil, List.foldl_nil, ite_self, bin_neq, Bool.not_true, Bool.false_eq_true, run_ret, if_false, blockK_normal, bin_add, Int.zero_add, wr64, loopK_normal, a14l0c]
      rw [a14l0n]
      simp (maxSteps := 30000000) (disch := first | assumption | omega | (simp only [List.length_cons, List.length_nil, List.length_append, List.length_set, List.length_replicate, List.length_map, List.length_range, List.length_take, List.length_drop, List.all_cons, List.all_nil, AV.isCell, Bool.and_self, Bool.and_true, bs_length, is64_length, w64_length, ints_length, rls_length] <;> omega) | rfl | decide) only [a14l0b, run_seq, run_region, runOps_cons, oper_none, ex_bin, opv, List.getD_cons_succ, List.getD_cons_zero, bin_lss, Int.reduceLT, decide_true, valK_some, putK_to, List.set_cons_succ, List.set_cons_zero, opsK_some, runOps_nil, regK_some, seqK_normal, run_cond, condK_bool, run_skip, run_exit, if_true, run_block, ex_idx, idxA_agg, Int.toNat_one, Nat.mul_one, List.drop_succ_cons, List.drop_zero, List.take_succ_cons, List.take_nil, mkv_1, ex_mov, ex_faddr, faddrA_ptr, Nat.zero_add, ex_load, rd_ptr, List.getElem?_cons_zero, rdK_cells, List.take_zero, loadK_1, ex_call, List.map_cons, List.map_nil, pcallA_eq, frzN, List.mapM_cons, frz_sl, frz_int, List.mapM_nil, Option.pure_def, Option.bind_eq_bind, Option.bind_some, argK_some, e2, retK_some, scal, scal1, fzIds, List.flatMap_cons, bor_sl, bor_int, List.flatMap_nil, List.append_nil, List.foldl_nil, ite_self, bin_neq, Bool.not_true, Bool.false_eq_true, run_ret, if_false, blockK_normal, bin_add, Int.reduceAdd, wr64, loopK_normal, a14l0c, k2]
    · refine ⟨.int .i64 1, ?_⟩
      rw [c1] at e1
      rw [c2] at e2
      rw [if_neg (by omega), a14l0n]
      simp (maxSteps := 30000000) (disch := first | assumption | omega | (simp only [List.length_cons, List.length_nil, List.length_append, List.length_set, List.length_replicate, List.length_map, List.length_range, List.length_take, List.length_drop, List.all_cons, List.all_nil, AV.isCell, Bool.and_self, Bool.and_true, bs_length, is64_length, w64_length, ints_length, rls_length] <;> omega) | rfl | decide) only [a14l0b, run_seq, run_region, runOps_cons, oper_none, ex_bin, opv, List.getD_cons_succ, List.getD_cons_zero, bin_lss, Int.reduceLT, decide_true, valK_some, putK_to, List.set_cons_succ, List.set_cons_zero, opsK_some, runOps_nil, regK_some, seqK_normal, run_cond, condK_bool, run_skip, run_exit, if_true, run_block, ex_idx, idxA_agg, Int.toNat_zero, Nat.mul_one, List.drop_zero, List.take_succ_cons, List.take_zero, mkv_1, ex_mov, ex_faddr, faddrA_ptr, Nat.zero_add, ex_load, rd_ptr, List.getElem?_cons_zero, rdK_cells, List.drop_succ_cons, loadK_1, ex_call, List.map_cons, List.map_nil, pcallA_eq, frzN, List.mapM_cons, frz_sl, frz_int, List.mapM_nil, Option.pure_def, Option.bind_eq_bind, Option.bind_some, argK_some, e1, retK_some, scal, scal1, fzIds, List.flatMap_cons, bor_sl, bor_int, List.flatMap_nil, List.append_nil, List.foldl_nil, ite_self, bin_neq, Bool.not_true, Bool.false_eq_true, run_ret, if_false, blockK_normal, bin_add, Int.zero_add, wr64, loopK_normal, a14l0c]
      rw [a14l0n]
      simp (maxSteps := 30000000) (disch := first | assumption | omega | (simp only [List.length_cons, List.length_nil, List.length_append, List.length_set, List.length_replicate, List.length_map, List.length_range, List.length_take, List.length_drop, List.all_cons, List.all_nil, AV.isCell, Bool.and_self, Bool.and_true, bs_length, is64_length, w64_length, ints_length, rls_length] <;> omega) | rfl | decide) only [a14l0b, run_seq, run_region, runOps_cons, oper_none, ex_bin, opv, List.getD_cons_succ, List.getD_cons_zero, bin_lss, Int.reduceLT, decide_true, valK_some, putK_to, List.set_cons_succ, List.set_cons_zero, opsK_some, runOps_nil, regK_some, seqK_normal, run_cond, condK_bool, run_skip, run_exit, if_true, run_block, ex_idx, idxA_agg, Int.toNat_one, Nat.mul_one, List.drop_succ_cons, List.drop_zero, List.take_succ_cons, List.take_nil, mkv_1, ex_mov, ex_faddr, faddrA_ptr, Nat.zero_add, ex_load, rd_ptr, List.getElem?_cons_zero, rdK_cells, List.take_zero, loadK_1, ex_call, List.map_cons, List.map_nil, pcallA_eq, frzN, List.mapM_cons, frz_sl, frz_int, List.mapM_nil, Option.pure_def, Option.bind_eq_bind, Option.bind_some, argK_some, e2, retK_some, scal, scal1, fzIds, List.flatMap_cons, bor_sl, bor_int, List.flatMap_nil, List.append_nil, List.foldl_nil, ite_self, bin_neq, Int.reduceEq, decide_false, Bool.not_false, run_ret, blockK_ret, seqK_ret, loopK_ret, a14l0c]
  · refine ⟨.int .i64 0, ?_⟩
    rw [c1] at e1
    rw [if_neg (by omega), a14l0n]
    simp (maxSteps := 30000000) (disch := first | assumption | omega | (simp only [List.length_cons, List.length_nil, List.length_append, List.length_set, List.length_replicate, List.length_map, List.length_range, List.length_take, List.length_drop, List.all_cons, List.all_nil, AV.isCell, Bool.and_self, Bool.and_true, bs_length, is64_length, w64_length, ints_length, rls_length] <;> omega) | rfl | decide) only [a14l0b, run_seq, run_region, runOps_cons, oper_none, ex_bin, opv, List.getD_cons_succ, List.getD_cons_zero, bin_lss, Int.reduceLT, decide_true, valK_some, putK_to, List.set_cons_succ, List.set_cons_zero, opsK_some, runOps_nil, regK_some, seqK_normal, run_cond, condK_bool, run_skip, run_exit, if_true, run_block, ex_idx, idxA_agg, Int.toNat_zero, Nat.mul_one, List.drop_zero, List.take_succ_cons, List.take_zero, mkv_1, ex_mov, ex_faddr, faddrA_ptr, Nat.zero_add, ex_load, rd_ptr, List.getElem?_cons_zero, rdK_cells, List.drop_succ_cons, loadK_1, ex_call, List.map_cons, List.map_nil, pcallA_eq, frzN, List.mapM_cons, frz_sl, frz_int, List.mapM_nil, Option.pure_def, Option.bind_eq_bind, Option.bind_some, argK_some, e1, retK_some, scal, scal1, fzIds, List.flatMap_cons, bor_sl, bor_int, List.flatMap_nil, List.append_nil, List.foldl_nil, ite_self, bin_neq, Int.reduceEq, decide_false, Bool.not_false, run_ret, blockK_ret, seqK_ret, loopK_ret, a14l0c]

set_option maxHeartbeats 4000000 in
theorem rules_loop {n : Aut} {v : Nat} {s2 : AV} (hv : v ≤ 6) (hnv : n.vars = (v : Nat)) (hl : n.rl.length < 1099511627776) (hb : ∀ e ∈ n.rl, e.p < 256 ∧ e.n < 256) : ∀ d i T, i + d = n.rl.length →
    ∃ (T' : Heap) (i' : Nat), L.loop a14l1s a14l1 ⟨a14l1F (.ptr 0 0) s2 (.sl n.z3 n.rl.length (rls n.rl)) (.int .i64 (n.rl.length : Nat)) (.int .i64 (i : Nat)), .cells false false n.cells :: T⟩ =
      some (if rlsErr n.states v (n.rl.drop i) = 0 then (.exit 3, ⟨a14l1F (.ptr 0 0) s2 (.sl n.z3 n.rl.length (rls n.rl)) (.int .i64 (n.rl.length : Nat)) (.int .i64 (n.rl.length : Nat)), .cells false false n.cells :: T'⟩)
        else (.ret, ⟨a14l1F (.ptr 0 0) (.int .i64 (rlsErr n.states v (n.rl.drop i))) (.sl n.z3 n.rl.length (rls n.rl)) (.int .i64 (n.rl.length : Nat)) (.int .i64 (i' : Nat)), .cells false false n.cells :: T'⟩))
  | 0, i, T, h => by
    obtain rfl : i = n.rl.length := by omega
    refine ⟨T, 0, ?_⟩
    rw [if_pos (by rw [List.drop_length]; rfl), a14l1n]
    simp (maxSteps := 30000000) (disch := first | assumption | omega | (simp only [List.length_cons, List.length_nil, List.length_append, List.length_set, List.length_replicate, List.length_map, List.length_range, List.length_take, List.length_drop, List.all_cons, List.all_nil, AV.isCell, Bool.and_self, Bool.and_true, bs_length, is64_length, w64_length, ints_length, rls_length] <;> omega) | rfl | decide) only [a14l1b, run_seq, run_region, runOps_cons, oper_none, ex_bin, opv, List.getD_cons_succ, List.getD_cons_zero, bin_lss, Int.lt_irrefl, decide_false, valK_some, putK_to, List.set_cons_succ, List.set_cons_zero, opsK_some, runOps_nil, regK_some, seqK_normal, run_cond, condK_bool, Bool.false_eq_true, run_skip, run_exit, if_false, seqK_exit, loopK_exit, a14l1c]
  | d + 1, i, T, h => by
    have hlt : (i : Int) < (n.rl.length : Nat) := by omega
    have hm := hb _ (getR_mem (by omega : i < n.rl.length))
    have hcube := cubeCheck v (n.rl.getD i r0).p (n.rl.getD i r0).n hv hm.1 hm.2
    rw [drop_getR (by omega : i < n.rl.length)]
    by_cases c1 : min (min (n.rl.getD i r0).l (n.rl.getD i r0).r) (n.rl.getD i r0).t < 0
    · refine ⟨T ++ [.cells false false (encR (n.rl.getD i r0))], i, ?_⟩
      have ee : rlErr n.states v (n.rl.getD i r0) = 8 := if_pos (.inl c1)
      rw [rlsErr_ne (by rw [ee]; omega), ee, if_neg (by omega), a14l1n]
      simp (maxSteps := 30000000) (disch := first | assumption | omega | (simp only [List.length_cons, List.length_nil, List.length_append, List.length_set, List.length_replicate, List.length_map, List.length_range, List.length_take, List.length_drop, List.all_cons, List.all_nil, AV.isCell, Bool.and_self, Bool.and_true, bs_length, is64_length, w64_length, ints_length, rls_length] <;> omega) | rfl | decide) only [a14l1b, run_seq, run_region, runOps_cons, oper_none, ex_bin, opv, List.getD_cons_succ, List.getD_cons_zero, bin_lss, hlt, decide_true, valK_some, putK_to, List.set_cons_succ, List.set_cons_zero, opsK_some, runOps_nil, regK_some, seqK_normal, run_cond, condK_bool, run_skip, run_exit, if_true, run_block, ex_iaddr, iaddrA_sl, Int.toNat_natCast, ex_load, rd_vptr, rls_at, loadK_n, ex_box, AV.cells, List.all_cons, AV.isCell, List.all_nil, Bool.and_self, List.length_cons, List.cons_append, ex_store, List.length_nil, Nat.zero_add, Nat.reduceAdd, wr_ptr, List.getElem?_cons_succ, hget0, List.getElem?_cons_zero, wrK_cells, splice, List.take_zero, List.nil_append, List.drop_succ_cons, List.drop_nil, List.append_nil, hset0, storeK_some, putK_no, ex_faddr, faddrA_ptr, Nat.add_zero, rd_ptr, rdK_cells, List.drop_zero, List.take_succ_cons, loadK_1, ex_mm, List.map_cons, List.map_nil, mmA_min, mmA_nil, c1, ex_mov, oper_guard, guardK_bool, Bool.true_eq_false, putA_to, if_false, ex_pick, pickA_bool, run_ret, seqK_ret, blockK_ret, loopK_ret, a14l1c, encR]
    · by_cases c2 : n.states ≤ max (max (n.rl.getD i r0).l (n.rl.getD i r0).r) (n.rl.getD i r0).t
      · refine ⟨T ++ [.cells false false (encR (n.rl.getD i r0))], i, ?_⟩
        have ee : rlErr n.states v (n.rl.getD i r0) = 8 := if_pos (.inr c2)
        rw [rlsErr_ne (by rw [ee]; omega), ee, if_neg (by omega), a14l1n]
        simp (maxSteps := 30000000) (disch := first | assumption | omega | (simp only [List.length_cons, List.length_nil, List.length_append, List.length_set, List.length_replicate, List.length_map, List.length_range, List.length_take, List.length_drop, List.all_cons, List.all_nil, AV.isCell, Bool.and_self, Bool.and_true, bs_length, is64_length, w64_length, ints_length, rls_length] <;> omega) | rfl | decide) only [a14l1b, run_seq, run_region, runOps_cons, oper_none, ex_bin, opv, List.getD_cons_succ, List.getD_cons_zero, bin_lss, hlt, decide_true, valK_some, putK_to, List.set_cons_succ, List.set_cons_zero, opsK_some, runOps_nil, regK_some, seqK_normal, run_cond, condK_bool, run_skip, run_exit, if_true, run_block, ex_iaddr, iaddrA_sl, Int.toNat_natCast, ex_load, rd_vptr, rls_at, loadK_n, ex_box, AV.cells, List.all_cons, AV.isCell, List.all_nil, Bool.and_self, List.length_cons, List.cons_append, ex_store, List.length_nil, Nat.zero_add, Nat.reduceAdd, wr_ptr, List.getElem?_cons_succ, hget0, List.getElem?_cons_zero, wrK_cells, splice, List.take_zero, List.nil_append, List.drop_succ_cons, List.drop_nil, List.append_nil, hset0, storeK_some, putK_no, ex_faddr, faddrA_ptr, Nat.add_zero, rd_ptr, rdK_cells, List.drop_zero, List.take_succ_cons, loadK_1, ex_mm, List.map_cons, List.map_nil, mmA_min, mmA_nil, c1, decide_false, ex_mov, oper_guard, guardK_bool, putA_to, mmA_max, bin_geq, c2, ex_pick, pickA_bool, Bool.false_eq_true, ite_self, run_ret, seqK_ret, blockK_ret, loopK_ret, a14l1c, encR]
      · have ee : rlErr n.states v (n.rl.getD i r0) = cubeErr v (n.rl.getD i r0).p (n.rl.getD i r0).n := if_neg (by omega)
        by_cases c3 : cubeErr v (n.rl.getD i r0).p (n.rl.getD i r0).n = 0
        · obtain ⟨T', i', ih⟩ := rules_loop (s2 := s2) hv hnv hl hb d (i + 1) (T ++ [.cells false false (encR (n.rl.getD i r0))]) (by omega)
          refine ⟨T', i', ?_⟩
          rw [c3] at hcube
          rw [rlsErr_eq (by rw [ee]; exact c3), a14l1n]
          simp only [encR] at ih
          by_cases e : rlsErr n.states v (n.rl.drop (i + 1)) = 0
          · rw [if_pos e] at ih ⊢
            simp (maxSteps := 30000000) (disch := first | assumption | omega | (simp only [List.length_cons, List.length_nil, List.length_append, List.length_set, List.length_replicate, List.length_map, List.length_range, List.length_take, List.length_drop, List.all_cons, List.all_nil, AV.isCell, Bool.and_self, Bool.and_true, bs_length, is64_length, w64_length, ints_length, rls_length] <;> omega) | rfl | decide) only [a14l1b, run_seq, run_region, runOps_cons, oper_none, ex_bin, opv, List.getD_cons_succ, List.getD_cons_zero, bin_lss, hlt, decide_true, valK_some, putK_to, List.set_cons_succ, List.set_cons_zero, opsK_some, runOps_nil, regK_some, seqK_normal, run_cond, condK_bool, run_skip, run_exit, if_true, run_block, ex_iaddr, iaddrA_sl, Int.toNat_natCast, ex_load, rd_vptr, rls_at, loadK_n, ex_box, AV.cells, List.all_cons, AV.isCell, List.all_nil, Bool.and_self, List.length_cons, List.cons_append, ex_store, List.length_nil, Nat.zero_add, Nat.reduceAdd, wr_ptr, List.getElem?_cons_succ, hget0, List.getElem?_cons_zero, wrK_cells, splice, List.take_zero, List.nil_append, List.drop_succ_cons, List.drop_nil, List.append_nil, hset0, storeK_some, putK_no, ex_faddr, faddrA_ptr, Nat.add_zero, rd_ptr, rdK_cells, List.drop_zero, List.take_succ_cons, loadK_1, ex_mm, List.map_cons, List.map_nil, mmA_min, mmA_nil, c1, decide_false, ex_mov, oper_guard, guardK_bool, putA_to, mmA_max, bin_geq, c2, ex_pick, pickA_bool, Bool.false_eq_true, if_false, run_ret, List.take_nil, ex_build, beq_self_eq_true, fillA, Nat.reduceLeDiff, and_self, Nat.le_refl, Option.map_some, hnv, ex_call, pcallA_eq, frzN, List.mapM_cons, frz_agg, frz_int, List.mapM_nil, Option.pure_def, Option.bind_eq_bind, Option.bind_some, argK_some, hcube, retK_some, scal, scal1, fzIds, List.flatMap_cons, bor_agg, bor_int, List.flatMap_nil, List.foldl_nil, ite_self, bin_neq, Bool.not_true, blockK_normal, bin_add, cadd1, wr64, loopK_normal, a14l1c, ih]
          · rw [if_neg e] at ih ⊢
            simp (maxSteps := 30000000) (disch := first | assumption | omega | (simp only [List.length_cons, List.length_nil, List.length_append, List.length_set, List.length_replicate, List.length_map, List.length_range, List.length_take, List.length_drop, List.all_cons, List.all_nil, AV.isCell, Bool.and_self, Bool.and_true, bs_length, is64_length, w64_length, ints_length, rls_length] <;> omega) | rfl | decide) only [a14l1b, run_seq, run_region, runOps_cons, oper_none, ex_bin, opv, List.getD_cons_succ, List.getD_cons_zero, bin_lss, hlt, decide_true, valK_some, putK_to, List.set_cons_succ, List.set_cons_zero, opsK_some, runOps_nil, regK_some, seqK_normal, run_cond, condK_bool, run_skip, run_exit, if_true, run_block, ex_iaddr, iaddrA_sl, Int.toNat_natCast, ex_load, rd_vptr, rls_at, loadK_n, ex_box, AV.cells, List.all_cons, AV.isCell, List.all_nil, Bool.and_self, List.length_cons, List.cons_append, ex_store, List.length_nil, Nat.zero_add, Nat.reduceAdd, wr_ptr, List.getElem?_cons_succ, hget0, List.getElem?_cons_zero, wrK_cells, splice, List.take_zero, List.nil_append, List.drop_succ_cons, List.drop_nil, List.append_nil, hset0, storeK_some, putK_no, ex_faddr, faddrA_ptr, Nat.add_zero, rd_ptr, rdK_cells, List.drop_zero, List.take_succ_cons, loadK_1, ex_mm, List.map_cons, List.map_nil, mmA_min, mmA_nil, c1, decide_false, ex_mov, oper_guard, guardK_bool, putA_to, mmA_max, bin_geq, c2, ex_pick, pickA_bool, Bool.false_eq_true, if_false, run_ret, List.take_nil, ex_build, beq_self_eq_true, fillA, Nat.reduceLeDiff, and_self, Nat.le_refl, Option.map_some, hnv, ex_call, pcallA_eq, frzN, List.mapM_cons, frz_agg, frz_int, List.mapM_nil, Option.pure_def, Option.bind_eq_bind, Option.bind_some, argK_some, hcube, retK_some, scal, scal1, fzIds, List.flatMap_cons, bor_agg, bor_int, List.flatMap_nil, List.foldl_nil, ite_self, bin_neq, Bool.not_true, blockK_normal, bin_add, cadd1, wr64, loopK_normal, a14l1c, ih]
        · refine ⟨T ++ [.cells false false (encR (n.rl.getD i r0))], i, ?_⟩
          rw [rlsErr_ne (by rw [ee]; exact c3), ee, if_neg c3, a14l1n]
          simp (maxSteps := 30000000) (disch := first | assumption | omega | (simp only [List.length_cons, List.length_nil, List.length_append, List.length_set, List.length_replicate, List.length_map, List.length_range, List.length_take, List.length_drop, List.all_cons, List.all_nil, AV.isCell, Bool.and_self, Bool.and_true, bs_length, is64_length, w64_length, ints_length, rls_length] <;> omega) | rfl | decide) only [a14l1b, run_seq, run_region, runOps_cons, oper_none, ex_bin, opv, List.getD_cons_succ, List.getD_cons_zero, bin_lss, hlt, decide_true, valK_some, putK_to, List.set_cons_succ, List.set_cons_zero, opsK_some, runOps_nil, regK_some, seqK_normal, run_cond, condK_bool, run_skip, run_exit, if_true, run_block, ex_iaddr, iaddrA_sl, Int.toNat_natCast, ex_load, rd_vptr, rls_at, loadK_n, ex_box, AV.cells, List.all_cons, AV.isCell, List.all_nil, Bool.and_self, List.length_cons, List.cons_append, ex_store, List.length_nil, Nat.zero_add, Nat.reduceAdd, wr_ptr, List.getElem?_cons_succ, hget0, List.getElem?_cons_zero, wrK_cells, splice, List.take_zero, List.nil_append, List.drop_succ_cons, List.drop_nil, List.append_nil, hset0, storeK_some, putK_no, ex_faddr, faddrA_ptr, Nat.add_zero, rd_ptr, rdK_cells, List.drop_zero, List.take_succ_cons, loadK_1, ex_mm, List.map_cons, List.map_nil, mmA_min, mmA_nil, c1, decide_false, ex_mov, oper_guard, guardK_bool, putA_to, mmA_max, bin_geq, c2, ex_pick, pickA_bool, Bool.false_eq_true, if_false, run_ret, List.take_nil, ex_build, beq_self_eq_true, fillA, Nat.reduceLeDiff, and_self, Nat.le_refl, Option.map_some, hnv, ex_call, pcallA_eq, frzN, List.mapM_cons, frz_agg, frz_int, List.mapM_nil, Option.pure_def, Option.bind_eq_bind, Option.bind_some, argK_some, hcube, retK_some, scal, scal1, fzIds, List.flatMap_cons, bor_agg, bor_int, List.flatMap_nil, List.foldl_nil, ite_self, bin_neq, c3, Bool.not_false, blockK_ret, seqK_ret, loopK_ret, a14l1c, encR]

def chkE (n : Aut) : Int :=
  if n.vars < 0 ∨ 3 < n.vars then 7 else if n.states < 0 then 1 else if 64 < n.states ∨ 512 < n.rl.length then 4
  else if ascErr n.states n.st = 0 ∧ ascErr n.states n.fi = 0 then rlsErr n.states n.vars.toNat n.rl else 8

set_option maxHeartbeats 4000000 in
theorem check_eq (n : Aut) (h1 : n.st.length < 1099511627776) (h2 : n.fi.length < 1099511627776) (h3 : n.rl.length < 1099511627776) (hb : ∀ e ∈ n.rl, e.p < 256 ∧ e.n < 256) : L.pcall 14 [n.av] = some (.int .i64 (chkE n)) := by
  have e5 : ((512 : Int) < (n.rl.length : Nat)) = (512 < n.rl.length) := propext ⟨fun h => by omega, fun h => by omega⟩
  unfold chkE
  rw [a14p, a14, pbodyA_eq]
  by_cases c1 : n.vars < 0
  · rw [if_pos (.inl c1)]
    simp (maxSteps := 30000000) (disch := first | assumption | omega | (simp only [List.length_cons, List.length_nil, List.length_append, List.length_set, List.length_replicate, List.length_map, List.length_range, List.length_take, List.length_drop, List.all_cons, List.all_nil, AV.isCell, Bool.and_self, Bool.and_true, bs_length, is64_length, w64_length, ints_length, rls_length] <;> omega) | rfl | decide) only [bodyA_eq, List.length_cons, List.length_nil, Nat.zero_add, Nat.reduceSub, pads, List.cons_append, List.nil_append, run_seq, run_region, runOps_cons, oper_none, ex_box, AV.cells, opv, List.getD_cons_zero, List.all_cons, AV.isCell, List.all_nil, Bool.and_self, if_true, putK_to, List.set_cons_succ, List.set_cons_zero, opsK_some, ex_mov, runOps_nil, regK_some, seqK_normal, run_block, ex_faddr, List.getD_cons_succ, faddrA_ptr, Nat.add_zero, valK_some, ex_load, rd_ptr, List.getElem?_cons_zero, rdK_cells, List.drop_zero, List.take_succ_cons, List.take_zero, loadK_1, ex_bin, bin_lss, c1, decide_true, oper_guard, guardK_bool, Bool.true_eq_false, putA_to, if_false, ex_pick, pickA_bool, run_cond, condK_bool, run_ret, List.drop_succ_cons, decide_eq_true_eq, bin_gtr, decide_eq_false_iff_not, opsK_ite, List.take_nil, ex_len, lenA_sl, regK_ite, seqK_ite, blockK_ret, seqK_ret, bodyK_ret, results_1, res_tmp, retvK_some, pbodyK_some, frzN, frz_int]
  · by_cases c2 : 3 < n.vars
    · rw [if_pos (.inr c2)]
      simp (maxSteps := 30000000) (disch := first | assumption | omega | (simp only [List.length_cons, List.length_nil, List.length_append, List.length_set, List.length_replicate, List.length_map, List.length_range, List.length_take, List.length_drop, List.all_cons, List.all_nil, AV.isCell, Bool.and_self, Bool.and_true, bs_length, is64_length, w64_length, ints_length, rls_length] <;> omega) | rfl | decide) only [bodyA_eq, List.length_cons, List.length_nil, Nat.zero_add, Nat.reduceSub, pads, List.cons_append, List.nil_append, run_seq, run_region, runOps_cons, oper_none, ex_box, AV.cells, opv, List.getD_cons_zero, List.all_cons, AV.isCell, List.all_nil, Bool.and_self, if_true, putK_to, List.set_cons_succ, List.set_cons_zero, opsK_some, ex_mov, runOps_nil, regK_some, seqK_normal, run_block, ex_faddr, List.getD_cons_succ, faddrA_ptr, Nat.add_zero, valK_some, ex_load, rd_ptr, List.getElem?_cons_zero, rdK_cells, List.drop_zero, List.take_succ_cons, List.take_zero, loadK_1, ex_bin, bin_lss, c1, decide_false, oper_guard, guardK_bool, putA_to, bin_gtr, c2, decide_true, ex_pick, pickA_bool, Bool.false_eq_true, ite_self, run_cond, condK_bool, run_ret, List.drop_succ_cons, decide_eq_true_eq, decide_eq_false_iff_not, opsK_ite, List.take_nil, ex_len, lenA_sl, regK_ite, seqK_ite, blockK_ret, seqK_ret, bodyK_ret, results_1, res_tmp, retvK_some, pbodyK_some, frzN, frz_int]
    · rw [if_neg (by omega)]
      by_cases c3 : n.states < 0
      · rw [if_pos c3]
        simp (maxSteps := 30000000) (disch := first | assumption | omega | (simp only [List.length_cons, List.length_nil, List.length_append, List.length_set, List.length_replicate, List.length_map, List.length_range, List.length_take, List.length_drop, List.all_cons, List.all_nil, AV.isCell, Bool.and_self, Bool.and_true, bs_length, is64_length, w64_length, ints_length, rls_length] <;> omega) | rfl | decide) only [bodyA_eq, List.length_cons, List.length_nil, Nat.zero_add, Nat.reduceSub, pads, List.cons_append, List.nil_append, run_seq, run_region, runOps_cons, oper_none, ex_box, AV.cells, opv, List.getD_cons_zero, List.all_cons, AV.isCell, List.all_nil, Bool.and_self, if_true, putK_to, List.set_cons_succ, List.set_cons_zero, opsK_some, ex_mov, runOps_nil, regK_some, seqK_normal, run_block, ex_faddr, List.getD_cons_succ, faddrA_ptr, Nat.add_zero, valK_some, ex_load, rd_ptr, List.getElem?_cons_zero, rdK_cells, List.drop_zero, List.take_succ_cons, List.take_zero, loadK_1, ex_bin, bin_lss, c1, decide_false, oper_guard, guardK_bool, putA_to, bin_gtr, c2, ex_pick, pickA_bool, Bool.false_eq_true, if_false, run_cond, condK_bool, run_ret, List.drop_succ_cons, c3, decide_true, decide_eq_false_iff_not, opsK_ite, List.take_nil, ex_len, lenA_sl, decide_eq_true_eq, regK_ite, seqK_ite, blockK_ret, seqK_ret, bodyK_ret, results_1, res_tmp, retvK_some, pbodyK_some, frzN, frz_int]
      · rw [if_neg c3]
        by_cases c4 : 64 < n.states
        · rw [if_pos (.inl c4)]
          simp (maxSteps := 30000000) (disch := first | assumption | omega | (simp only [List.length_cons, List.length_nil, List.length_append, List.length_set, List.length_replicate, List.length_map, List.length_range, List.length_take, List.length_drop, List.all_cons, List.all_nil, AV.isCell, Bool.and_self, Bool.and_true, bs_length, is64_length, w64_length, ints_length, rls_length] <;> omega) | rfl | decide) only [bodyA_eq, List.length_cons, List.length_nil, Nat.zero_add, Nat.reduceSub, pads, List.cons_append, List.nil_append, run_seq, run_region, runOps_cons, oper_none, ex_box, AV.cells, opv, List.getD_cons_zero, List.all_cons, AV.isCell, List.all_nil, Bool.and_self, if_true, putK_to, List.set_cons_succ, List.set_cons_zero, opsK_some, ex_mov, runOps_nil, regK_some, seqK_normal, run_block, ex_faddr, List.getD_cons_succ, faddrA_ptr, Nat.add_zero, valK_some, ex_load, rd_ptr, List.getElem?_cons_zero, rdK_cells, List.drop_zero, List.take_succ_cons, List.take_zero, loadK_1, ex_bin, bin_lss, c1, decide_false, oper_guard, guardK_bool, putA_to, bin_gtr, c2, ex_pick, pickA_bool, Bool.false_eq_true, if_false, run_cond, condK_bool, run_ret, List.drop_succ_cons, c3, c4, decide_true, Bool.true_eq_false, ex_len, run_skip, blockK_ret, seqK_ret, bodyK_ret, results_1, res_tmp, retvK_some, pbodyK_some, frzN, frz_int]
        · by_cases c5 : 512 < n.rl.length
          · rw [if_pos (.inr c5)]
            simp (maxSteps := 30000000) (disch := first | assumption | omega | (simp only [List.length_cons, List.length_nil, List.length_append, List.length_set, List.length_replicate, List.length_map, List.length_range, List.length_take, List.length_drop, List.all_cons, List.all_nil, AV.isCell, Bool.and_self, Bool.and_true, bs_length, is64_length, w64_length, ints_length, rls_length] <;> omega) | rfl | decide) only [bodyA_eq, List.length_cons, List.length_nil, Nat.zero_add, Nat.reduceSub, pads, List.cons_append, List.nil_append, run_seq, run_region, runOps_cons, oper_none, ex_box, AV.cells, opv, List.getD_cons_zero, List.all_cons, AV.isCell, List.all_nil, Bool.and_self, if_true, putK_to, List.set_cons_succ, List.set_cons_zero, opsK_some, ex_mov, runOps_nil, regK_some, seqK_normal, run_block, ex_faddr, List.getD_cons_succ, faddrA_ptr, Nat.add_zero, valK_some, ex_load, rd_ptr, List.getElem?_cons_zero, rdK_cells, List.drop_zero, List.take_succ_cons, List.take_zero, loadK_1, ex_bin, bin_lss, c1, decide_false, oper_guard, guardK_bool, putA_to, bin_gtr, c2, ex_pick, pickA_bool, Bool.false_eq_true, if_false, run_cond, condK_bool, run_ret, List.drop_succ_cons, c3, c4, List.take_nil, ex_len, lenA_sl, e5, c5, decide_true, ite_self, run_skip, blockK_ret, seqK_ret, bodyK_ret, results_1, res_tmp, retvK_some, pbodyK_some, frzN, frz_int]
          · rw [if_neg (by omega)]
            obtain ⟨i', g⟩ := lists_loop n (s2 := .int .i64 0) h1 h2
            by_cases c6 : ascErr n.states n.st = 0 ∧ ascErr n.states n.fi = 0
            · rw [if_pos c6] at g ⊢
              obtain ⟨v, hv⟩ : ∃ v : Nat, n.vars = (v : Nat) := ⟨n.vars.toNat, by omega⟩
              have htv : n.vars.toNat = v := by omega
              obtain ⟨T', i2, g2⟩ := rules_loop (n := n) (v := v) (s2 := .int .i64 0) (by omega) hv h3 hb n.rl.length 0 [] (by omega)
              simp only [Int.natCast_zero, List.drop_zero] at g2
              rw [htv]
              by_cases c7 : rlsErr n.states v n.rl = 0
              · rw [if_pos c7] at g2
                rw [c7]
                simp (maxSteps := 30000000) (disch := first | assumption | omega | (simp only [List.length_cons, List.length_nil, List.length_append, List.length_set, List.length_replicate, List.length_map, List.length_range, List.length_take, List.length_drop, List.all_cons, List.all_nil, AV.isCell, Bool.and_self, Bool.and_true, bs_length, is64_length, w64_length, ints_length, rls_length] <;> omega) | rfl | decide) only [bodyA_eq, List.length_cons, List.length_nil, Nat.zero_add, Nat.reduceSub, pads, List.cons_append, List.nil_append, run_seq, run_region, runOps_cons, oper_none, ex_box, AV.cells, opv, List.getD_cons_zero, List.all_cons, AV.isCell, List.all_nil, Bool.and_self, if_true, putK_to, List.set_cons_succ, List.set_cons_zero, opsK_some, ex_mov, runOps_nil, regK_some, seqK_normal, run_block, ex_faddr, List.getD_cons_succ, faddrA_ptr, Nat.add_zero, valK_some, ex_load, rd_ptr, List.getElem?_cons_zero, rdK_cells, List.drop_zero, List.take_succ_cons, List.take_zero, loadK_1, ex_bin, bin_lss, c1, decide_false, oper_guard, guardK_bool, putA_to, bin_gtr, c2, ex_pick, pickA_bool, Bool.false_eq_true, if_false, run_cond, condK_bool, run_ret, List.drop_succ_cons, c3, c4, List.take_nil, ex_len, lenA_sl, e5, c5, run_skip, blockK_normal, ex_build, beq_self_eq_true, List.map_cons, List.map_nil, fillA, Nat.reduceAdd, Nat.reduceLeDiff, and_self, splice, Nat.le_refl, List.drop_nil, List.append_nil, Option.map_some, run_loop, a14l0c, g, blockK_exit, a14l1c, g2, bodyK_ret, results_1, res_tmp, retvK_some, pbodyK_some, frzN, frz_int]
              · rw [if_neg c7] at g2
                simp (maxSteps := 30000000) (disch := first | assumption | omega | (simp only [List.length_cons, List.length_nil, List.length_append, List.length_set, List.length_replicate, List.length_map, List.length_range, List.length_take, List.length_drop, List.all_cons, List.all_nil, AV.isCell, Bool.and_self, Bool.and_true, bs_length, is64_length, w64_length, ints_length, rls_length] <;> omega) | rfl | decide) only [bodyA_eq, List.length_cons, List.length_nil, Nat.zero_add, Nat.reduceSub, pads, List.cons_append, List.nil_append, run_seq, run_region, runOps_cons, oper_none, ex_box, AV.cells, opv, List.getD_cons_zero, List.all_cons, AV.isCell, List.all_nil, Bool.and_self, if_true, putK_to, List.set_cons_succ, List.set_cons_zero, opsK_some, ex_mov, runOps_nil, regK_some, seqK_normal, run_block, ex_faddr, List.getD_cons_succ, faddrA_ptr, Nat.add_zero, valK_some, ex_load, rd_ptr, List.getElem?_cons_zero, rdK_cells, List.drop_zero, List.take_succ_cons, List.take_zero, loadK_1, ex_bin, bin_lss, c1, decide_false, oper_guard, guardK_bool, putA_to, bin_gtr, c2, ex_pick, pickA_bool, Bool.false_eq_true, if_false, run_cond, condK_bool, run_ret, List.drop_succ_cons, c3, c4, List.take_nil, ex_len, lenA_sl, e5, c5, run_skip, blockK_normal, ex_build, beq_self_eq_true, List.map_cons, List.map_nil, fillA, Nat.reduceAdd, Nat.reduceLeDiff, and_self, splice, Nat.le_refl, List.drop_nil, List.append_nil, Option.map_some, run_loop, a14l0c, g, blockK_exit, a14l1c, g2, blockK_ret, seqK_ret, bodyK_ret, results_1, res_tmp, retvK_some, pbodyK_some, frzN, frz_int]
            · rw [if_neg c6] at g ⊢
              simp (maxSteps := 30000000) (disch := first | assumption | omega | (simp only [List.length_cons, List.length_nil, List.length_append, List.length_set, List.length_replicate, List.length_map, List.length_range, List.length_take, List.length_drop, List.all_cons, List.all_nil, AV.isCell, Bool.and_self, Bool.and_true, bs_length, is64_length, w64_length, ints_length, rls_length] <;> omega) | rfl | decide) only [bodyA_eq, List.length_cons, List.length_nil, Nat.zero_add, Nat.reduceSub, pads, List.cons_append, List.nil_append, run_seq, run_region, runOps_cons, oper_none, ex_box, AV.cells, opv, List.getD_cons_zero, List.all_cons, AV.isCell, List.all_nil, Bool.and_self, if_true, putK_to, List.set_cons_succ, List.set_cons_zero, opsK_some, ex_mov, runOps_nil, regK_some, seqK_normal, run_block, ex_faddr, List.getD_cons_succ, faddrA_ptr, Nat.add_zero, valK_some, ex_load, rd_ptr, List.getElem?_cons_zero, rdK_cells, List.drop_zero, List.take_succ_cons, List.take_zero, loadK_1, ex_bin, bin_lss, c1, decide_false, oper_guard, guardK_bool, putA_to, bin_gtr, c2, ex_pick, pickA_bool, Bool.false_eq_true, if_false, run_cond, condK_bool, run_ret, List.drop_succ_cons, c3, c4, List.take_nil, ex_len, lenA_sl, e5, c5, run_skip, blockK_normal, ex_build, beq_self_eq_true, List.map_cons, List.map_nil, fillA, Nat.reduceAdd, Nat.reduceLeDiff, and_self, splice, Nat.le_refl, List.drop_nil, List.append_nil, Option.map_some, run_loop, a14l0c, g, blockK_ret, seqK_ret, bodyK_ret, results_1, res_tmp, retvK_some, pbodyK_some, frzN, frz_int]
end Go.Abs.Tree

/- Trees: end, formed, Check. -/
namespace Go.Abs.Tree
open Go Go.Abs
set_option linter.unusedSimpArgs false
set_option linter.unusedVariables false

structure Lf where
  x : Nat
  l : Int
  r : Int
def f0 : Lf := ⟨0, 0, 0⟩
def encF (e : Lf) : List AV := [.int .u8 (e.x : Nat), .int .i64 e.l, .int .i64 e.r]
def lfs (l : List Lf) : List AV := rows encF l
abbrev tw (z : Bool) (t : List Lf) : AV := .sl z t.length (lfs t)
theorem lfs_length (l : List Lf) : (lfs l).length = l.length * 3 := rows_length (enc := encF) (k := 3) (fun _ => rfl) l
theorem lfs_drop {l : List Lf} {i : Nat} (h : i < l.length) : List.drop (i * 3) (lfs l) = encF (l.getD i f0) ++ lfs (l.drop (i + 1)) := by
  unfold lfs
  rw [rows_drop (enc := encF) (k := 3) (fun _ => rfl), List.drop_eq_getElem_cons h]
  have : l.getD i f0 = l[i] := by simp [List.getD, List.getElem?_eq_getElem h]
  rw [this]
  rfl
theorem lfs_at {l : List Lf} {i : Nat} (h : i < l.length) : List.take 3 (List.drop (i * 3) (lfs l)) = [.int .u8 ((l.getD i f0).x : Nat), .int .i64 (l.getD i f0).l, .int .i64 (l.getD i f0).r] := by
  rw [lfs_drop h]; rfl
theorem lfs_at1 {l : List Lf} {i : Nat} (h : i < l.length) : List.take 1 (List.drop (i * 3 + 1) (lfs l)) = [.int .i64 (l.getD i f0).l] := by
  rw [← List.drop_drop, lfs_drop h]; rfl
theorem lfs_at2 {l : List Lf} {i : Nat} (h : i < l.length) : List.take 1 (List.drop (i * 3 + 2) (lfs l)) = [.int .i64 (l.getD i f0).r] := by
  rw [← List.drop_drop, lfs_drop h]; rfl
theorem drop_getF {l : List Lf} {i : Nat} (h : i < l.length) : l.drop i = l.getD i f0 :: l.drop (i + 1) := by
  rw [List.drop_eq_getElem_cons h]
  simp [List.getD, List.getElem?_eq_getElem h]
theorem getF_mem {l : List Lf} {i : Nat} (h : i < l.length) : l.getD i f0 ∈ l := by
  rw [List.getD_eq_getElem?_getD, List.getElem?_eq_getElem h]
  exact List.getElem_mem _

/-- binary trees -/
inductive BT
  | nil
  | node (x : Nat) (l r : BT)

/-- child c, a tree T; its block begins at m if there is one, and ends before n -/
inductive Sub (t : List Lf) : Int → Nat → BT → Nat → Prop
  | none (m : Nat) : Sub t (-1) m .nil m
  | some {m k n : Nat} {l r : BT} (hm : m < t.length) (hl : Sub t (t.getD m f0).l (m + 1) l k) (hr : Sub t (t.getD m f0).r k r n) : Sub t (m : Int) m (.node (t.getD m f0).x l r) n

noncomputable abbrev LP (z : Bool) (t : List Lf) (H : Heap) (l r : Int) (s4 : AV) (next j : Int) := L.loop a96l0s a96l0 ⟨a96l0F (tw z t) s4 (.int .i64 next) (.agg [.int .i64 l, .int .i64 r]) (.int .i64 j), H⟩
abbrev LQ (z : Bool) (t : List Lf) (H : Heap) (l r : Int) (s4 : AV) (next j : Int) : St := ⟨a96l0F (tw z t) s4 (.int .i64 next) (.agg [.int .i64 l, .int .i64 r]) (.int .i64 j), H⟩

section
variable {z : Bool} {t : List Lf} {H : Heap} {l r : Int} {s4 : AV}
theorem end2 (next : Int) : LP z t H l r s4 next 2 = some (.exit 0, LQ z t H l r s4 next 2) := by
  unfold LP
  rw [a96l0n]
  simp (maxSteps := 30000000) (disch := first | assumption | omega | (simp only [List.length_cons, List.length_nil, List.length_append, List.length_set, List.length_replicate, List.length_map, List.length_range, List.length_take, List.length_drop, List.all_cons, List.all_nil, AV.isCell, Bool.and_self, Bool.and_true, bs_length, is64_length, w64_length, ints_length, lfs_length] <;> omega) | rfl | decide) only [a96l0b, Int.reduceNeg, run_seq, run_region, runOps_cons, oper_none, ex_bin, opv, List.getD_cons_succ, List.getD_cons_zero, bin_lss, Int.lt_irrefl, decide_false, valK_some, putK_to, List.set_cons_succ, List.set_cons_zero, opsK_some, runOps_nil, regK_some, seqK_normal, run_cond, condK_bool, Bool.false_eq_true, run_skip, run_exit, if_false, seqK_exit, loopK_exit, a96l0c]
theorem endA (next : Int) {c j : Int} (hj : j = 0 ∧ c = l ∨ j = 1 ∧ c = r) (hc : c = -1) : LP z t H l r s4 next j = LP z t H l r s4 next (j + 1) := by
  unfold LP
  rcases hj with ⟨rfl, rfl⟩ | ⟨rfl, rfl⟩
  · rw [a96l0n]
    simp (maxSteps := 30000000) (disch := first | assumption | omega | (simp only [List.length_cons, List.length_nil, List.length_append, List.length_set, List.length_replicate, List.length_map, List.length_range, List.length_take, List.length_drop, List.all_cons, List.all_nil, AV.isCell, Bool.and_self, Bool.and_true, bs_length, is64_length, w64_length, ints_length, lfs_length] <;> omega) | rfl | decide) only [a96l0b, Int.reduceNeg, hc, run_seq, run_region, runOps_cons, oper_none, ex_bin, opv, List.getD_cons_succ, List.getD_cons_zero, bin_lss, Int.reduceLT, decide_true, valK_some, putK_to, List.set_cons_succ, List.set_cons_zero, opsK_some, runOps_nil, regK_some, seqK_normal, run_cond, condK_bool, run_skip, run_exit, if_true, run_block, ex_idx, idxA_agg, Int.toNat_zero, Nat.mul_one, List.drop_zero, List.take_succ_cons, List.take_zero, mkv_1, ex_mov, bin_eql, bin_neq, oper_guard, guardK_bool, Bool.not_eq_eq_eq_not, Bool.not_false, decide_eq_true_eq, putA_to, opsK_ite, ex_len, lenA_sl, bin_geq, ex_pick, pickA_bool, Bool.not_true, decide_eq_false_iff_not, regK_ite, seqK_ite, blockK_exit, Nat.reduceEqDiff, if_false, seqK_exit, bin_add, Int.zero_add, wr64, loopK_normal, a96l0c]
  · rw [a96l0n]
    simp (maxSteps := 30000000) (disch := first | assumption | omega | (simp only [List.length_cons, List.length_nil, List.length_append, List.length_set, List.length_replicate, List.length_map, List.length_range, List.length_take, List.length_drop, List.all_cons, List.all_nil, AV.isCell, Bool.and_self, Bool.and_true, bs_length, is64_length, w64_length, ints_length, lfs_length] <;> omega) | rfl | decide) only [a96l0b, Int.reduceNeg, hc, run_seq, run_region, runOps_cons, oper_none, ex_bin, opv, List.getD_cons_succ, List.getD_cons_zero, bin_lss, Int.reduceLT, decide_true, valK_some, putK_to, List.set_cons_succ, List.set_cons_zero, opsK_some, runOps_nil, regK_some, seqK_normal, run_cond, condK_bool, run_skip, run_exit, if_true, run_block, ex_idx, idxA_agg, Int.toNat_one, Nat.mul_one, List.drop_succ_cons, List.drop_zero, List.take_succ_cons, List.take_nil, mkv_1, ex_mov, bin_eql, bin_neq, oper_guard, guardK_bool, Bool.not_eq_eq_eq_not, Bool.not_false, decide_eq_true_eq, putA_to, opsK_ite, ex_len, lenA_sl, bin_geq, ex_pick, pickA_bool, Bool.not_true, decide_eq_false_iff_not, regK_ite, seqK_ite, blockK_exit, Nat.reduceEqDiff, if_false, seqK_exit, bin_add, Int.reduceAdd, wr64, loopK_normal, a96l0c]
theorem endB (next : Nat) {c j : Int} (hj : j = 0 ∧ c = l ∨ j = 1 ∧ c = r) (hc : c ≠ -1) (hb : c ≠ (next : Int) ∨ t.length ≤ next) : LP z t H l r s4 (next : Nat) j = some (.ret, LQ z t H l r (.int .i64 (-1)) (next : Nat) j) := by
  unfold LP
  rcases hj with ⟨rfl, rfl⟩ | ⟨rfl, rfl⟩ <;> rw [a96l0n] <;> by_cases h1 : c = (next : Int)
  · have h2 : ((t.length : Nat) : Int) ≤ (next : Nat) := by omega
    have h3 : ¬ ((next : Nat) : Int) = -1 := by omega
    simp (maxSteps := 30000000) (disch := first | assumption | omega | (simp only [List.length_cons, List.length_nil, List.length_append, List.length_set, List.length_replicate, List.length_map, List.length_range, List.length_take, List.length_drop, List.all_cons, List.all_nil, AV.isCell, Bool.and_self, Bool.and_true, bs_length, is64_length, w64_length, ints_length, lfs_length] <;> omega) | rfl | decide) only [a96l0b, Int.reduceNeg, h1, run_seq, run_region, runOps_cons, oper_none, ex_bin, opv, List.getD_cons_succ, List.getD_cons_zero, bin_lss, Int.reduceLT, decide_true, valK_some, putK_to, List.set_cons_succ, List.set_cons_zero, opsK_some, runOps_nil, regK_some, seqK_normal, run_cond, condK_bool, run_skip, run_exit, if_true, run_block, ex_idx, idxA_agg, Int.toNat_zero, Nat.mul_one, List.drop_zero, List.take_succ_cons, List.take_zero, mkv_1, ex_mov, bin_eql, h3, decide_false, Bool.false_eq_true, bin_neq, Bool.not_true, oper_guard, guardK_bool, putA_to, ex_len, lenA_sl, bin_geq, h2, ex_pick, pickA_bool, ite_self, run_ret, if_false, blockK_ret, seqK_ret, loopK_ret, a96l0c]
  · simp (maxSteps := 30000000) (disch := first | assumption | omega | (simp only [List.length_cons, List.length_nil, List.length_append, List.length_set, List.length_replicate, List.length_map, List.length_range, List.length_take, List.length_drop, List.all_cons, List.all_nil, AV.isCell, Bool.and_self, Bool.and_true, bs_length, is64_length, w64_length, ints_length, lfs_length] <;> omega) | rfl | decide) only [a96l0b, Int.reduceNeg, run_seq, run_region, runOps_cons, oper_none, ex_bin, opv, List.getD_cons_succ, List.getD_cons_zero, bin_lss, Int.reduceLT, decide_true, valK_some, putK_to, List.set_cons_succ, List.set_cons_zero, opsK_some, runOps_nil, regK_some, seqK_normal, run_cond, condK_bool, run_skip, run_exit, if_true, run_block, ex_idx, idxA_agg, Int.toNat_zero, Nat.mul_one, List.drop_zero, List.take_succ_cons, List.take_zero, mkv_1, ex_mov, bin_eql, hc, decide_false, Bool.false_eq_true, bin_neq, h1, Bool.not_false, oper_guard, guardK_bool, Bool.true_eq_false, putA_to, if_false, ex_len, ex_pick, pickA_bool, run_ret, blockK_ret, seqK_ret, loopK_ret, a96l0c]
  · have h2 : ((t.length : Nat) : Int) ≤ (next : Nat) := by omega
    have h3 : ¬ ((next : Nat) : Int) = -1 := by omega
    simp (maxSteps := 30000000) (disch := first | assumption | omega | (simp only [List.length_cons, List.length_nil, List.length_append, List.length_set, List.length_replicate, List.length_map, List.length_range, List.length_take, List.length_drop, List.all_cons, List.all_nil, AV.isCell, Bool.and_self, Bool.and_true, bs_length, is64_length, w64_length, ints_length, lfs_length] <;> omega) | rfl | decide) only [a96l0b, Int.reduceNeg, h1, run_seq, run_region, runOps_cons, oper_none, ex_bin, opv, List.getD_cons_succ, List.getD_cons_zero, bin_lss, Int.reduceLT, decide_true, valK_some, putK_to, List.set_cons_succ, List.set_cons_zero, opsK_some, runOps_nil, regK_some, seqK_normal, run_cond, condK_bool, run_skip, run_exit, if_true, run_block, ex_idx, idxA_agg, Int.toNat_one, Nat.mul_one, List.drop_succ_cons, List.drop_zero, List.take_succ_cons, List.take_nil, mkv_1, ex_mov, bin_eql, h3, decide_false, Bool.false_eq_true, bin_neq, Bool.not_true, oper_guard, guardK_bool, putA_to, ex_len, lenA_sl, bin_geq, h2, ex_pick, pickA_bool, ite_self, run_ret, if_false, blockK_ret, seqK_ret, loopK_ret, a96l0c]
  · simp (maxSteps := 30000000) (disch := first | assumption | omega | (simp only [List.length_cons, List.length_nil, List.length_append, List.length_set, List.length_replicate, List.length_map, List.length_range, List.length_take, List.length_drop, List.all_cons, List.all_nil, AV.isCell, Bool.and_self, Bool.and_true, bs_length, is64_length, w64_length, ints_length, lfs_length] <;> omega) | rfl | decide) only [a96l0b, Int.reduceNeg, run_seq, run_region, runOps_cons, oper_none, ex_bin, opv, List.getD_cons_succ, List.getD_cons_zero, bin_lss, Int.reduceLT, decide_true, valK_some, putK_to, List.set_cons_succ, List.set_cons_zero, opsK_some, runOps_nil, regK_some, seqK_normal, run_cond, condK_bool, run_skip, run_exit, if_true, run_block, ex_idx, idxA_agg, Int.toNat_one, Nat.mul_one, List.drop_succ_cons, List.drop_zero, List.take_succ_cons, List.take_nil, mkv_1, ex_mov, bin_eql, hc, decide_false, Bool.false_eq_true, bin_neq, h1, Bool.not_false, oper_guard, guardK_bool, Bool.true_eq_false, putA_to, if_false, ex_len, ex_pick, pickA_bool, run_ret, blockK_ret, seqK_ret, loopK_ret, a96l0c]
theorem endC (next : Nat) {c j : Int} (hj : j = 0 ∧ c = l ∨ j = 1 ∧ c = r) (hb : c = (next : Int)) (hn : next < t.length) (hq : L.pcall 96 [tw z t, .int .i64 (next : Nat)] = some (.int .i64 (-1))) : LP z t H l r s4 (next : Nat) j = some (.ret, LQ z t H l r (.int .i64 (-1)) (-1) j) := by
  have h2 : ¬ ((t.length : Nat) : Int) ≤ (next : Nat) := by omega
  have h3 : ¬ ((next : Nat) : Int) = -1 := by omega
  subst hb
  unfold LP
  rcases hj with ⟨rfl, rfl⟩ | ⟨rfl, rfl⟩ <;> rw [a96l0n]
  · simp (maxSteps := 30000000) (disch := first | assumption | omega | (simp only [List.length_cons, List.length_nil, List.length_append, List.length_set, List.length_replicate, List.length_map, List.length_range, List.length_take, List.length_drop, List.all_cons, List.all_nil, AV.isCell, Bool.and_self, Bool.and_true, bs_length, is64_length, w64_length, ints_length, lfs_length] <;> omega) | rfl | decide) only [a96l0b, Int.reduceNeg, run_seq, run_region, runOps_cons, oper_none, ex_bin, opv, List.getD_cons_succ, List.getD_cons_zero, bin_lss, Int.reduceLT, decide_true, valK_some, putK_to, List.set_cons_succ, List.set_cons_zero, opsK_some, runOps_nil, regK_some, seqK_normal, run_cond, condK_bool, run_skip, run_exit, if_true, run_block, ex_idx, idxA_agg, Int.toNat_zero, Nat.mul_one, List.drop_zero, List.take_succ_cons, List.take_zero, mkv_1, ex_mov, bin_eql, h3, decide_false, Bool.false_eq_true, bin_neq, Bool.not_true, oper_guard, guardK_bool, putA_to, ex_len, lenA_sl, bin_geq, h2, ex_pick, pickA_bool, if_false, run_ret, blockK_normal, ex_call, List.map_cons, List.map_nil, pcallA_eq, frzN, List.mapM_cons, frz_sl, frz_int, List.mapM_nil, Option.pure_def, Option.bind_eq_bind, Option.bind_some, argK_some, hq, retK_some, scal, scal1, fzIds, List.flatMap_cons, bor_sl, bor_int, List.flatMap_nil, List.append_nil, List.foldl_nil, ite_self, blockK_ret, seqK_ret, loopK_ret, a96l0c]
  · simp (maxSteps := 30000000) (disch := first | assumption | omega | (simp only [List.length_cons, List.length_nil, List.length_append, List.length_set, List.length_replicate, List.length_map, List.length_range, List.length_take, List.length_drop, List.all_cons, List.all_nil, AV.isCell, Bool.and_self, Bool.and_true, bs_length, is64_length, w64_length, ints_length, lfs_length] <;> omega) | rfl | decide) only [a96l0b, Int.reduceNeg, run_seq, run_region, runOps_cons, oper_none, ex_bin, opv, List.getD_cons_succ, List.getD_cons_zero, bin_lss, Int.reduceLT, decide_true, valK_some, putK_to, List.set_cons_succ, List.set_cons_zero, opsK_some, runOps_nil, regK_some, seqK_normal, run_cond, condK_bool, run_skip, run_exit, if_true, run_block, ex_idx, idxA_agg, Int.toNat_one, Nat.mul_one, List.drop_succ_cons, List.drop_zero, List.take_succ_cons, List.take_nil, mkv_1, ex_mov, bin_eql, h3, decide_false, Bool.false_eq_true, bin_neq, Bool.not_true, oper_guard, guardK_bool, putA_to, ex_len, lenA_sl, bin_geq, h2, ex_pick, pickA_bool, if_false, run_ret, blockK_normal, ex_call, List.map_cons, List.map_nil, pcallA_eq, frzN, List.mapM_cons, frz_sl, frz_int, List.mapM_nil, Option.pure_def, Option.bind_eq_bind, Option.bind_some, argK_some, hq, retK_some, scal, scal1, fzIds, List.flatMap_cons, bor_sl, bor_int, List.flatMap_nil, List.append_nil, List.foldl_nil, ite_self, blockK_ret, seqK_ret, loopK_ret, a96l0c]
theorem endD (next m : Nat) {c j : Int} (hj : j = 0 ∧ c = l ∨ j = 1 ∧ c = r) (hb : c = (next : Int)) (hn : next < t.length) (hq : L.pcall 96 [tw z t, .int .i64 (next : Nat)] = some (.int .i64 (m : Nat))) : LP z t H l r s4 (next : Nat) j = LP z t H l r s4 (m : Nat) (j + 1) := by
  have h2 : ¬ ((t.length : Nat) : Int) ≤ (next : Nat) := by omega
  have h3 : ¬ ((next : Nat) : Int) = -1 := by omega
  have h4 : ¬ ((m : Nat) : Int) = -1 := by omega
  subst hb
  unfold LP
  rcases hj with ⟨rfl, rfl⟩ | ⟨rfl, rfl⟩ <;> rw [a96l0n]
  · simp (maxSteps := 30000000) (disch := first | assumption | omega | (simp only [List.length_cons, List.length_nil, List.length_append, List.length_set, List.length_replicate, List.length_map, List.length_range, List.length_take, List.length_drop, List.all_cons, List.all_nil, AV.isCell, Bool.and_self, Bool.and_true, bs_length, is64_length, w64_length, ints_length, lfs_length] <;> omega) | rfl | decide) only [a96l0b, Int.reduceNeg, run_seq, run_region, runOps_cons, oper_none, ex_bin, opv, List.getD_cons_succ, List.getD_cons_zero, bin_lss, Int.reduceLT, decide_true, valK_some, putK_to, List.set_cons_succ, List.set_cons_zero, opsK_some, runOps_nil, regK_some, seqK_normal, run_cond, condK_bool, run_skip, run_exit, if_true, run_block, ex_idx, idxA_agg, Int.toNat_zero, Nat.mul_one, List.drop_zero, List.take_succ_cons, List.take_zero, mkv_1, ex_mov, bin_eql, h3, decide_false, Bool.false_eq_true, bin_neq, Bool.not_true, oper_guard, guardK_bool, putA_to, ex_len, lenA_sl, bin_geq, h2, ex_pick, pickA_bool, if_false, run_ret, blockK_normal, ex_call, List.map_cons, List.map_nil, pcallA_eq, frzN, List.mapM_cons, frz_sl, frz_int, List.mapM_nil, Option.pure_def, Option.bind_eq_bind, Option.bind_some, argK_some, hq, retK_some, scal, scal1, fzIds, List.flatMap_cons, bor_sl, bor_int, List.flatMap_nil, List.append_nil, List.foldl_nil, ite_self, h4, bin_add, Int.zero_add, wr64, loopK_normal, a96l0c]
  · simp (maxSteps := 30000000) (disch := first | assumption | omega | (simp only [List.length_cons, List.length_nil, List.length_append, List.length_set, List.length_replicate, List.length_map, List.length_range, List.length_take, List.length_drop, List.all_cons, List.all_nil, AV.isCell, Bool.and_self, Bool.and_true, bs_length, is64_length, w64_length, ints_length, lfs_length] <;> omega) | rfl | decide) only [a96l0b, Int.reduceNeg, run_seq, run_region, runOps_cons, oper_none, ex_bin, opv, List.getD_cons_succ, List.getD_cons_zero, bin_lss, Int.reduceLT, decide_true, valK_some, putK_to, List.set_cons_succ, List.set_cons_zero, opsK_some, runOps_nil, regK_some, seqK_normal, run_cond, condK_bool, run_skip, run_exit, if_true, run_block, ex_idx, idxA_agg, Int.toNat_one, Nat.mul_one, List.drop_succ_cons, List.drop_zero, List.take_succ_cons, List.take_nil, mkv_1, ex_mov, bin_eql, h3, decide_false, Bool.false_eq_true, bin_neq, Bool.not_true, oper_guard, guardK_bool, putA_to, ex_len, lenA_sl, bin_geq, h2, ex_pick, pickA_bool, if_false, run_ret, blockK_normal, ex_call, List.map_cons, List.map_nil, pcallA_eq, frzN, List.mapM_cons, frz_sl, frz_int, List.mapM_nil, Option.pure_def, Option.bind_eq_bind, Option.bind_some, argK_some, hq, retK_some, scal, scal1, fzIds, List.flatMap_cons, bor_sl, bor_int, List.flatMap_nil, List.append_nil, List.foldl_nil, ite_self, h4, bin_add, Int.reduceAdd, wr64, loopK_normal, a96l0c]
end

theorem end_exit {z : Bool} {t : List Lf} {i n : Nat} (ht : t.length < 1099511627776) (hi : i < t.length) (h : LP z t [] (t.getD i f0).l (t.getD i f0).r (.int .i64 0) ((i + 1 : Nat) : Int) 0 = some (.exit 0, LQ z t [] (t.getD i f0).l (t.getD i f0).r (.int .i64 0) (n : Nat) 2)) :
    L.pcall 96 [tw z t, .int .i64 (i : Nat)] = some (.int .i64 (n : Nat)) := by
  unfold LP LQ at h
  rw [a96p, a96, pbodyA_eq]
  simp (maxSteps := 30000000) (disch := first | assumption | omega | (simp only [List.length_cons, List.length_nil, List.length_append, List.length_set, List.length_replicate, List.length_map, List.length_range, List.length_take, List.length_drop, List.all_cons, List.all_nil, AV.isCell, Bool.and_self, Bool.and_true, bs_length, is64_length, w64_length, ints_length, lfs_length] <;> omega) | rfl | decide) only [bodyA_eq, List.length_cons, List.length_nil, Nat.zero_add, Nat.reduceAdd, Nat.reduceSub, pads, List.cons_append, List.nil_append, run_seq, run_region, runOps_cons, oper_none, ex_mov, opv, putK_to, List.set_cons_succ, List.set_cons_zero, opsK_some, runOps_nil, regK_some, seqK_normal, List.getD_cons_succ, List.getD_cons_zero, ex_bin, bin_add, cadd1, wr64, valK_some, run_draw, List.take_succ_cons, List.take_nil, runFree_cons, foper_none, fe_mov, fstK_some, fputK_to, freeK_some, fe_iaddr, ex_iaddr, iaddrA_sl, Int.toNat_natCast, fe_faddr, ex_faddr, faddrA_vptr, fe_load, ex_load, rd_vptr, lfs_at1, loadK_1, lfs_at2, fe_build, ex_build, AV.cells, List.all_cons, beq_self_eq_true, List.all_nil, Bool.and_self, List.map_cons, List.map_nil, fillA, Nat.reduceLeDiff, AV.isCell, and_self, splice, List.take_zero, List.drop_succ_cons, List.drop_zero, Nat.le_refl, List.drop_nil, List.append_nil, if_true, Option.map_some, runFree_nil, drawK_some, adopt, adoptVal, run_block, run_loop, a96l0c, h, blockK_exit, run_ret, bodyK_ret, results_1, res_tmp, retvK_some, pbodyK_some, frzN, frz_int]
theorem end_ret {z : Bool} {t : List Lf} {i : Nat} {n j : Int} (ht : t.length < 1099511627776) (hi : i < t.length) (h : LP z t [] (t.getD i f0).l (t.getD i f0).r (.int .i64 0) ((i + 1 : Nat) : Int) 0 = some (.ret, LQ z t [] (t.getD i f0).l (t.getD i f0).r (.int .i64 (-1)) n j)) :
    L.pcall 96 [tw z t, .int .i64 (i : Nat)] = some (.int .i64 (-1)) := by
  unfold LP LQ at h
  rw [a96p, a96, pbodyA_eq]
  simp (maxSteps := 30000000) (disch := first | assumption | omega | (simp only [List.length_cons, List.length_nil, List.length_append, List.length_set, List.length_replicate, List.length_map, List.length_range, List.length_take, List.length_drop, List.all_cons, List.all_nil, AV.isCell, Bool.and_self, Bool.and_true, bs_length, is64_length, w64_length, ints_length, lfs_length] <;> omega) | rfl | decide) only [bodyA_eq, List.length_cons, List.length_nil, Nat.zero_add, Nat.reduceAdd, Nat.reduceSub, pads, List.cons_append, List.nil_append, run_seq, run_region, runOps_cons, oper_none, ex_mov, opv, putK_to, List.set_cons_succ, List.set_cons_zero, opsK_some, runOps_nil, regK_some, seqK_normal, List.getD_cons_succ, List.getD_cons_zero, ex_bin, bin_add, cadd1, wr64, valK_some, run_draw, List.take_succ_cons, List.take_nil, runFree_cons, foper_none, fe_mov, fstK_some, fputK_to, freeK_some, fe_iaddr, ex_iaddr, iaddrA_sl, Int.toNat_natCast, fe_faddr, ex_faddr, faddrA_vptr, fe_load, ex_load, rd_vptr, lfs_at1, loadK_1, lfs_at2, fe_build, ex_build, AV.cells, List.all_cons, beq_self_eq_true, List.all_nil, Bool.and_self, List.map_cons, List.map_nil, fillA, Nat.reduceLeDiff, AV.isCell, and_self, splice, List.take_zero, List.drop_succ_cons, List.drop_zero, Nat.le_refl, List.drop_nil, List.append_nil, if_true, Option.map_some, runFree_nil, drawK_some, adopt, adoptVal, run_block, run_loop, a96l0c, h, Int.reduceNeg, blockK_ret, seqK_ret, bodyK_ret, results_1, res_tmp, retvK_some, pbodyK_some, frzN, frz_int]

theorem end_ex {z : Bool} {t : List Lf} (ht : t.length < 1099511627776) : ∀ k i, i < t.length → t.length ≤ i + k →
    L.pcall 96 [tw z t, .int .i64 (i : Nat)] = some (.int .i64 (-1)) ∨ ∃ n T, L.pcall 96 [tw z t, .int .i64 (i : Nat)] = some (.int .i64 (n : Nat)) ∧ i < n ∧ n ≤ t.length ∧ Sub t (i : Int) i T n
  | 0, i, hi, hk => by omega
  | k + 1, i, hi, hk => by
    have ih := fun i' (h : i < i') (h2 : i' < t.length) => end_ex (z := z) ht k i' h2 (by omega)
    -- after the first child
    have first : (∃ n j, LP z t [] (t.getD i f0).l (t.getD i f0).r (.int .i64 0) ((i + 1 : Nat) : Int) 0 = some (.ret, LQ z t [] (t.getD i f0).l (t.getD i f0).r (.int .i64 (-1)) n j)) ∨
        ∃ m T, i < m ∧ m ≤ t.length ∧ Sub t (t.getD i f0).l (i + 1) T m ∧ LP z t [] (t.getD i f0).l (t.getD i f0).r (.int .i64 0) ((i + 1 : Nat) : Int) 0 = LP z t [] (t.getD i f0).l (t.getD i f0).r (.int .i64 0) (m : Nat) 1 := by
      by_cases c1 : (t.getD i f0).l = -1
      · exact .inr ⟨i + 1, .nil, by omega, by omega, c1 ▸ .none _, endA _ (.inl ⟨rfl, rfl⟩) c1⟩
      · by_cases c2 : (t.getD i f0).l ≠ ((i + 1 : Nat) : Int) ∨ t.length ≤ i + 1
        · exact .inl ⟨_, _, endB (i + 1) (.inl ⟨rfl, rfl⟩) c1 c2⟩
        · have c3 : (t.getD i f0).l = ((i + 1 : Nat) : Int) := by omega
          rcases ih (i + 1) (by omega) (by omega) with q | ⟨m, T, q, q1, q2, q3⟩
          · exact .inl ⟨_, _, endC (i + 1) (.inl ⟨rfl, rfl⟩) c3 (by omega) q⟩
          · exact .inr ⟨m, T, by omega, q2, c3 ▸ q3, endD (i + 1) m (.inl ⟨rfl, rfl⟩) c3 (by omega) q⟩
    rcases first with ⟨n, j, h⟩ | ⟨m, T, m1, m2, hT, h⟩
    · exact .inl (end_ret ht hi h)
    · by_cases c1 : (t.getD i f0).r = -1
      · refine .inr ⟨m, .node (t.getD i f0).x T .nil, end_exit ht hi (by rw [h, endA _ (.inr ⟨rfl, rfl⟩) c1]; exact end2 _), m1, m2, .some hi hT (c1 ▸ .none _)⟩
      · by_cases c2 : (t.getD i f0).r ≠ (m : Int) ∨ t.length ≤ m
        · exact .inl (end_ret ht hi (h.trans (endB m (.inr ⟨rfl, rfl⟩) c1 c2)))
        · have c3 : (t.getD i f0).r = (m : Int) := by omega
          rcases ih m m1 (by omega) with q | ⟨n, T', q, q1, q2, q3⟩
          · exact .inl (end_ret ht hi (h.trans (endC m (.inr ⟨rfl, rfl⟩) c3 (by omega) q)))
          · exact .inr ⟨n, .node (t.getD i f0).x T T', end_exit ht hi (by rw [h, endD m n (.inr ⟨rfl, rfl⟩) c3 (by omega) q]; exact end2 _), by omega, q2, .some hi hT (c3 ▸ q3)⟩

/-- well formed: empty, or the block of the first node is the whole -/
def Formed (t : List Lf) (T : BT) : Prop := t = [] ∧ T = .nil ∨ t.length ≤ 31 ∧ Sub t 0 0 T t.length

theorem formed_ex (z : Bool) (t : List Lf) (ht : t.length < 1099511627776) : L.pcall 75 [tw z t] = some (.bool false) ∨ L.pcall 75 [tw z t] = some (.bool true) ∧ ∃ T, Formed t T := by
  have e : (((t.length : Nat) : Int) ≤ 31) = (t.length ≤ 31) := propext ⟨fun h => by omega, fun h => by omega⟩
  by_cases h0 : t.length = 0
  · right
    refine ⟨?_, .nil, .inl ⟨List.length_eq_zero_iff.1 h0, rfl⟩⟩
    have h0' : (((t.length : Nat) : Int) = 0) = True := eq_true (by omega)
    rw [a75p, a75, pbodyA_eq]
    simp (maxSteps := 30000000) (disch := first | assumption | omega | (simp only [List.length_cons, List.length_nil, List.length_append, List.length_set, List.length_replicate, List.length_map, List.length_range, List.length_take, List.length_drop, List.all_cons, List.all_nil, AV.isCell, Bool.and_self, Bool.and_true, bs_length, is64_length, w64_length, ints_length, lfs_length] <;> omega) | rfl | decide) only [bodyA_eq, List.length_cons, List.length_nil, Nat.zero_add, Nat.reduceSub, pads, List.cons_append, List.nil_append, run_seq, run_region, runOps_cons, oper_none, ex_mov, opv, putK_to, List.set_cons_succ, List.set_cons_zero, opsK_some, runOps_nil, regK_some, seqK_normal, List.getD_cons_zero, ex_len, List.getD_cons_succ, lenA_sl, valK_some, ex_bin, bin_eql, h0', decide_true, oper_guard, guardK_bool, Bool.true_eq_false, putA_to, if_false, ite_self, guardK_tup, ex_pick, pickA_bool, if_true, run_ret, bodyK_ret, results_1, res_tmp, retvK_some, pbodyK_some, frzN, frz_bool]
  · have h0' : (((t.length : Nat) : Int) = 0) = False := eq_false (by omega)
    by_cases h1 : t.length ≤ 31
    · rcases end_ex (z := z) ht t.length 0 (by omega) (by omega) with q | ⟨n, T, q, q1, q2, q3⟩
      · left
        simp only [Int.natCast_zero] at q
        have h2 : ((-1 : Int) = (t.length : Nat)) = False := eq_false (by omega)
        rw [a75p, a75, pbodyA_eq]
        simp (maxSteps := 30000000) (disch := first | assumption | omega | (simp only [List.length_cons, List.length_nil, List.length_append, List.length_set, List.length_replicate, List.length_map, List.length_range, List.length_take, List.length_drop, List.all_cons, List.all_nil, AV.isCell, Bool.and_self, Bool.and_true, bs_length, is64_length, w64_length, ints_length, lfs_length] <;> omega) | rfl | decide) only [bodyA_eq, List.length_cons, List.length_nil, Nat.zero_add, Nat.reduceSub, pads, List.cons_append, List.nil_append, run_seq, run_region, runOps_cons, oper_none, ex_mov, opv, putK_to, List.set_cons_succ, List.set_cons_zero, opsK_some, runOps_nil, regK_some, seqK_normal, List.getD_cons_zero, ex_len, List.getD_cons_succ, lenA_sl, valK_some, ex_bin, bin_eql, h0', decide_false, oper_guard, guardK_bool, putA_to, if_true, bin_leq, e, h1, decide_true, ex_call, List.map_cons, List.map_nil, pcallA_eq, frzN, List.mapM_cons, frz_sl, frz_int, List.mapM_nil, Option.pure_def, Option.bind_eq_bind, Option.bind_some, argK_some, q, Int.reduceNeg, retK_some, scal, scal1, fzIds, List.flatMap_cons, bor_sl, bor_int, List.flatMap_nil, List.append_nil, List.foldl_nil, ite_self, h2, ex_pick, pickA_bool, Bool.false_eq_true, if_false, run_ret, bodyK_ret, results_1, res_tmp, retvK_some, pbodyK_some, frz_bool]
      · simp only [Int.natCast_zero] at q
        by_cases c : n = t.length
        · right
          refine ⟨?_, T, .inr ⟨h1, c ▸ q3⟩⟩
          have h2 : (((n : Nat) : Int) = (t.length : Nat)) = True := eq_true (by omega)
          rw [a75p, a75, pbodyA_eq]
          simp (maxSteps := 30000000) (disch := first | assumption | omega | (simp only [List.length_cons, List.length_nil, List.length_append, List.length_set, List.length_replicate, List.length_map, List.length_range, List.length_take, List.length_drop, List.all_cons, List.all_nil, AV.isCell, Bool.and_self, Bool.and_true, bs_length, is64_length, w64_length, ints_length, lfs_length] <;> omega) | rfl | decide) only [bodyA_eq, List.length_cons, List.length_nil, Nat.zero_add, Nat.reduceSub, pads, List.cons_append, List.nil_append, run_seq, run_region, runOps_cons, oper_none, ex_mov, opv, putK_to, List.set_cons_succ, List.set_cons_zero, opsK_some, runOps_nil, regK_some, seqK_normal, List.getD_cons_zero, ex_len, List.getD_cons_succ, lenA_sl, valK_some, ex_bin, bin_eql, h0', decide_false, oper_guard, guardK_bool, putA_to, if_true, bin_leq, e, h1, decide_true, ex_call, List.map_cons, List.map_nil, pcallA_eq, frzN, List.mapM_cons, frz_sl, frz_int, List.mapM_nil, Option.pure_def, Option.bind_eq_bind, Option.bind_some, argK_some, q, retK_some, scal, scal1, fzIds, List.flatMap_cons, bor_sl, bor_int, List.flatMap_nil, List.append_nil, List.foldl_nil, ite_self, h2, ex_pick, pickA_bool, Bool.false_eq_true, run_ret, bodyK_ret, results_1, res_tmp, retvK_some, pbodyK_some, frz_bool]
        · left
          have h2 : (((n : Nat) : Int) = (t.length : Nat)) = False := eq_false (by omega)
          rw [a75p, a75, pbodyA_eq]
          simp (maxSteps := 30000000) (disch := first | assumption | omega | (simp only [List.length_cons, List.length_nil, List.length_append, List.length_set, List.length_replicate, List.length_map, List.length_range, List.length_take, List.length_drop, List.all_cons, List.all_nil, AV.isCell, Bool.and_self, Bool.and_true, bs_length, is64_length, w64_length, ints_length, lfs_length] <;> omega) | rfl | decide) only [bodyA_eq, List.length_cons, List.length_nil, Nat.zero_add, Nat.reduceSub, pads, List.cons_append, List.nil_append, run_seq, run_region, runOps_cons, oper_none, ex_mov, opv, putK_to, List.set_cons_succ, List.set_cons_zero, opsK_some, runOps_nil, regK_some, seqK_normal, List.getD_cons_zero, ex_len, List.getD_cons_succ, lenA_sl, valK_some, ex_bin, bin_eql, h0', decide_false, oper_guard, guardK_bool, putA_to, if_true, bin_leq, e, h1, decide_true, ex_call, List.map_cons, List.map_nil, pcallA_eq, frzN, List.mapM_cons, frz_sl, frz_int, List.mapM_nil, Option.pure_def, Option.bind_eq_bind, Option.bind_some, argK_some, q, retK_some, scal, scal1, fzIds, List.flatMap_cons, bor_sl, bor_int, List.flatMap_nil, List.append_nil, List.foldl_nil, ite_self, h2, ex_pick, pickA_bool, Bool.false_eq_true, if_false, run_ret, bodyK_ret, results_1, res_tmp, retvK_some, pbodyK_some, frz_bool]
    · left
      rw [a75p, a75, pbodyA_eq]
      simp (maxSteps := 30000000) (disch := first | assumption | omega | (simp only [List.length_cons, List.length_nil, List.length_append, List.length_set, List.length_replicate, List.length_map, List.length_range, List.length_take, List.length_drop, List.all_cons, List.all_nil, AV.isCell, Bool.and_self, Bool.and_true, bs_length, is64_length, w64_length, ints_length, lfs_length] <;> omega) | rfl | decide) only [bodyA_eq, List.length_cons, List.length_nil, Nat.zero_add, Nat.reduceSub, pads, List.cons_append, List.nil_append, run_seq, run_region, runOps_cons, oper_none, ex_mov, opv, putK_to, List.set_cons_succ, List.set_cons_zero, opsK_some, runOps_nil, regK_some, seqK_normal, List.getD_cons_zero, ex_len, List.getD_cons_succ, lenA_sl, valK_some, ex_bin, bin_eql, h0', decide_false, oper_guard, guardK_bool, putA_to, if_true, bin_leq, e, h1, Bool.false_eq_true, if_false, ex_call, List.map_cons, List.map_nil, pcallA_eq, frzN, List.mapM_cons, frz_tup, List.mapM_nil, Option.pure_def, Option.map_some, frz_int, Option.bind_eq_bind, Option.bind_some, argK_some, ex_pick, pickA_bool, run_ret, bodyK_ret, results_1, res_tmp, retvK_some, pbodyK_some, frz_bool]
end Go.Abs.Tree

/- The tree's Check, words of states. -/
namespace Go.Abs.Tree
open Go Go.Abs
set_option linter.unusedSimpArgs false
set_option linter.unusedVariables false

theorem shrN (x : Nat) {v b : Nat} (h : v ≤ b) : Int.fdiv (x : Int) (2 ^ min v b) = ((x >>> v : Nat) : Int) := by
  rw [Nat.min_eq_left h, Nat.shiftRight_eq_div_pow, show (2 : Int) ^ v = ((2 ^ v : Nat) : Int) from by rw [Int.natCast_pow]; rfl, Int.fdiv_eq_ediv_of_nonneg _ (Int.natCast_nonneg _)]
  rfl

theorem lab_loop {z : Bool} {t : List Lf} {v : Nat} {s4 : AV} (hv : v ≤ 3) (hl : t.length < 1099511627776) (hx : ∀ e ∈ t, e.x < 256) : ∀ d i H, i + d = t.length →
    ∃ (H' : Heap) (i' : AV), (∀ e ∈ t.drop i, e.x >>> v = 0) ∧ L.loop a81l0s a81l0 ⟨a81l0F (tw z t) (.int .i64 (v : Nat)) s4 (tw z t) (.int .i64 (t.length : Nat)) (.int .i64 (i : Nat)), H⟩ = some (.exit 1, ⟨a81l0F (tw z t) (.int .i64 (v : Nat)) s4 (tw z t) (.int .i64 (t.length : Nat)) (.int .i64 (t.length : Nat)), H'⟩)
      ∨ (¬ ∀ e ∈ t.drop i, e.x >>> v = 0) ∧ L.loop a81l0s a81l0 ⟨a81l0F (tw z t) (.int .i64 (v : Nat)) s4 (tw z t) (.int .i64 (t.length : Nat)) (.int .i64 (i : Nat)), H⟩ = some (.ret, ⟨a81l0F (tw z t) (.int .i64 (v : Nat)) (.int .i64 1) (tw z t) (.int .i64 (t.length : Nat)) i', H'⟩)
  | 0, i, H, h => by
    obtain rfl : i = t.length := by omega
    refine ⟨H, .any, .inl ⟨by rw [List.drop_length]; simp, ?_⟩⟩
    rw [a81l0n]
    simp (maxSteps := 30000000) (disch := first | assumption | omega | (simp only [List.length_cons, List.length_nil, List.length_append, List.length_set, List.length_replicate, List.length_map, List.length_range, List.length_take, List.length_drop, List.all_cons, List.all_nil, AV.isCell, Bool.and_self, Bool.and_true, bs_length, is64_length, w64_length, ints_length, lfs_length] <;> omega) | rfl | decide) only [a81l0b, run_seq, run_region, runOps_cons, oper_none, ex_bin, opv, List.getD_cons_succ, List.getD_cons_zero, bin_lss, Int.lt_irrefl, decide_false, valK_some, putK_to, List.set_cons_succ, List.set_cons_zero, opsK_some, runOps_nil, regK_some, seqK_normal, run_cond, condK_bool, Bool.false_eq_true, run_skip, run_exit, if_false, seqK_exit, loopK_exit, a81l0c]
  | d + 1, i, H, h => by
    have hlt : (i : Int) < (t.length : Nat) := by omega
    have hm := hx _ (getF_mem (by omega : i < t.length))
    have hs := shrN (t.getD i f0).x (show v ≤ IntKind.i64.bits from by show v ≤ 64; omega)
    rw [drop_getF (by omega : i < t.length)]
    by_cases c : (t.getD i f0).x >>> v = 0
    · have c' : ((((t.getD i f0).x >>> v : Nat) : Int) = 0) = True := eq_true (by omega)
      obtain ⟨H', i', ih⟩ := lab_loop (z := z) (s4 := s4) hv hl hx d (i + 1) (H ++ [.cells false false (encF (t.getD i f0))]) (by omega)
      simp only [encF] at ih
      refine ⟨H', i', ih.imp (fun q => ⟨?_, ?_⟩) (fun q => ⟨?_, ?_⟩)⟩
      · intro e he
        rcases List.mem_cons.1 he with rfl | he
        · exact c
        · exact q.1 e he
      · have q := q.2
        rw [a81l0n]
        simp (maxSteps := 30000000) (disch := first | assumption | omega | (simp only [List.length_cons, List.length_nil, List.length_append, List.length_set, List.length_replicate, List.length_map, List.length_range, List.length_take, List.length_drop, List.all_cons, List.all_nil, AV.isCell, Bool.and_self, Bool.and_true, bs_length, is64_length, w64_length, ints_length, lfs_length] <;> omega) | rfl | decide) only [a81l0b, run_seq, run_region, runOps_cons, oper_none, ex_bin, opv, List.getD_cons_succ, List.getD_cons_zero, bin_lss, hlt, decide_true, valK_some, putK_to, List.set_cons_succ, List.set_cons_zero, opsK_some, runOps_nil, regK_some, seqK_normal, run_cond, condK_bool, run_skip, run_exit, if_true, run_block, ex_iaddr, iaddrA_sl, Int.toNat_natCast, ex_load, rd_vptr, lfs_at, loadK_n, ex_box, AV.cells, List.all_cons, AV.isCell, List.all_nil, Bool.and_self, ex_store, List.length_cons, List.length_nil, Nat.zero_add, Nat.reduceAdd, wr_ptr, hget0, List.getElem?_cons_zero, wrK_cells, splice, List.take_zero, List.nil_append, List.drop_succ_cons, List.drop_nil, List.append_nil, hset0, storeK_some, putK_no, ex_faddr, faddrA_ptr, Nat.add_zero, rd_ptr, rdK_cells, List.drop_zero, List.take_succ_cons, loadK_1, ex_conv, convA_int, wr64, ex_mov, bin_shr, hs, bin_neq, c', Bool.not_true, Bool.false_eq_true, run_ret, if_false, blockK_normal, bin_add, cadd1, loopK_normal, a81l0c, q]
      · intro f
        exact q.1 (fun e he => f e (List.mem_cons_of_mem _ he))
      · have q := q.2
        rw [a81l0n]
        simp (maxSteps := 30000000) (disch := first | assumption | omega | (simp only [List.length_cons, List.length_nil, List.length_append, List.length_set, List.length_replicate, List.length_map, List.length_range, List.length_take, List.length_drop, List.all_cons, List.all_nil, AV.isCell, Bool.and_self, Bool.and_true, bs_length, is64_length, w64_length, ints_length, lfs_length] <;> omega) | rfl | decide) only [a81l0b, run_seq, run_region, runOps_cons, oper_none, ex_bin, opv, List.getD_cons_succ, List.getD_cons_zero, bin_lss, hlt, decide_true, valK_some, putK_to, List.set_cons_succ, List.set_cons_zero, opsK_some, runOps_nil, regK_some, seqK_normal, run_cond, condK_bool, run_skip, run_exit, if_true, run_block, ex_iaddr, iaddrA_sl, Int.toNat_natCast, ex_load, rd_vptr, lfs_at, loadK_n, ex_box, AV.cells, List.all_cons, AV.isCell, List.all_nil, Bool.and_self, ex_store, List.length_cons, List.length_nil, Nat.zero_add, Nat.reduceAdd, wr_ptr, hget0, List.getElem?_cons_zero, wrK_cells, splice, List.take_zero, List.nil_append, List.drop_succ_cons, List.drop_nil, List.append_nil, hset0, storeK_some, putK_no, ex_faddr, faddrA_ptr, Nat.add_zero, rd_ptr, rdK_cells, List.drop_zero, List.take_succ_cons, loadK_1, ex_conv, convA_int, wr64, ex_mov, bin_shr, hs, bin_neq, c', Bool.not_true, Bool.false_eq_true, run_ret, if_false, blockK_normal, bin_add, cadd1, loopK_normal, a81l0c, q]
    · have c' : ((((t.getD i f0).x >>> v : Nat) : Int) = 0) = False := eq_false (by omega)
      refine ⟨H ++ [.cells false false (encF (t.getD i f0))], .int .i64 (i : Nat), .inr ⟨fun f => c (f _ (List.mem_cons_self ..)), ?_⟩⟩
      rw [a81l0n]
      simp (maxSteps := 30000000) (disch := first | assumption | omega | (simp only [List.length_cons, List.length_nil, List.length_append, List.length_set, List.length_replicate, List.length_map, List.length_range, List.length_take, List.length_drop, List.all_cons, List.all_nil, AV.isCell, Bool.and_self, Bool.and_true, bs_length, is64_length, w64_length, ints_length, lfs_length] <;> omega) | rfl | decide) only [a81l0b, run_seq, run_region, runOps_cons, oper_none, ex_bin, opv, List.getD_cons_succ, List.getD_cons_zero, bin_lss, hlt, decide_true, valK_some, putK_to, List.set_cons_succ, List.set_cons_zero, opsK_some, runOps_nil, regK_some, seqK_normal, run_cond, condK_bool, run_skip, run_exit, if_true, run_block, ex_iaddr, iaddrA_sl, Int.toNat_natCast, ex_load, rd_vptr, lfs_at, loadK_n, ex_box, AV.cells, List.all_cons, AV.isCell, List.all_nil, Bool.and_self, ex_store, List.length_cons, List.length_nil, Nat.zero_add, Nat.reduceAdd, wr_ptr, hget0, List.getElem?_cons_zero, wrK_cells, splice, List.take_zero, List.nil_append, List.drop_succ_cons, List.drop_nil, List.append_nil, hset0, storeK_some, putK_no, ex_faddr, faddrA_ptr, Nat.add_zero, rd_ptr, rdK_cells, List.drop_zero, List.take_succ_cons, loadK_1, ex_conv, convA_int, wr64, ex_mov, bin_shr, hs, bin_neq, c', decide_false, Bool.not_false, run_ret, blockK_ret, seqK_ret, loopK_ret, a81l0c, encF]

theorem tcheck_ex (z : Bool) (t : List Lf) (v : Nat) (hv : v ≤ 3) (hl : t.length < 1099511627776) (hx : ∀ e ∈ t, e.x < 256) :
    ∃ e : Int, L.pcall 81 [tw z t, .int .i64 (v : Nat)] = some (.int .i64 e) ∧ (e = 0 → (∀ e ∈ t, e.x >>> v = 0) ∧ ∃ T, Formed t T) := by
  have hv3 : ¬ ((3 : Int) < (v : Nat)) := by omega
  have e31 : ((31 : Int) < (t.length : Nat)) = (31 < t.length) := propext ⟨fun h => by omega, fun h => by omega⟩
  by_cases c : 31 < t.length
  · refine ⟨4, ?_, fun h => by omega⟩
    rw [a81p, a81, pbodyA_eq]
    simp (maxSteps := 30000000) (disch := first | assumption | omega | (simp only [List.length_cons, List.length_nil, List.length_append, List.length_set, List.length_replicate, List.length_map, List.length_range, List.length_take, List.length_drop, List.all_cons, List.all_nil, AV.isCell, Bool.and_self, Bool.and_true, bs_length, is64_length, w64_length, ints_length, lfs_length] <;> omega) | rfl | decide) only [bodyA_eq, List.length_cons, List.length_nil, Nat.zero_add, Nat.reduceAdd, Nat.reduceSub, pads, List.cons_append, List.nil_append, run_seq, run_region, runOps_cons, oper_none, ex_mov, opv, putK_to, List.set_cons_succ, List.set_cons_zero, opsK_some, runOps_nil, regK_some, seqK_normal, run_block, List.getD_cons_succ, List.getD_cons_zero, ex_bin, bin_lss, ltc0, decide_false, valK_some, oper_guard, guardK_bool, putA_to, if_true, bin_gtr, hv3, ex_pick, pickA_bool, Bool.false_eq_true, if_false, run_cond, condK_bool, run_ret, ex_len, lenA_sl, e31, c, decide_true, run_skip, blockK_ret, seqK_ret, bodyK_ret, results_1, res_tmp, retvK_some, pbodyK_some, frzN, frz_int]
  · obtain ⟨H', i', g⟩ := lab_loop (z := z) (s4 := .int .i64 0) hv hl hx t.length 0 [] (by omega)
    simp only [Int.natCast_zero, List.drop_zero] at g
    rcases g with ⟨g1, g⟩ | ⟨g1, g⟩
    · rcases formed_ex z t hl with q | ⟨q, q2⟩
      · refine ⟨2, ?_, fun h => by omega⟩
        rw [a81p, a81, pbodyA_eq]
        simp (maxSteps := 30000000) (disch := first | assumption | omega | (simp only [List.length_cons, List.length_nil, List.length_append, List.length_set, List.length_replicate, List.length_map, List.length_range, List.length_take, List.length_drop, List.all_cons, List.all_nil, AV.isCell, Bool.and_self, Bool.and_true, bs_length, is64_length, w64_length, ints_length, lfs_length] <;> omega) | rfl | decide) only [bodyA_eq, List.length_cons, List.length_nil, Nat.zero_add, Nat.reduceAdd, Nat.reduceSub, pads, List.cons_append, List.nil_append, run_seq, run_region, runOps_cons, oper_none, ex_mov, opv, putK_to, List.set_cons_succ, List.set_cons_zero, opsK_some, runOps_nil, regK_some, seqK_normal, run_block, List.getD_cons_succ, List.getD_cons_zero, ex_bin, bin_lss, ltc0, decide_false, valK_some, oper_guard, guardK_bool, putA_to, if_true, bin_gtr, hv3, ex_pick, pickA_bool, Bool.false_eq_true, if_false, run_cond, condK_bool, run_ret, ex_len, lenA_sl, e31, c, run_skip, blockK_normal, run_loop, a81l0c, g, blockK_exit, ex_call, List.map_cons, List.map_nil, pcallA_eq, frzN, List.mapM_cons, frz_sl, List.mapM_nil, Option.pure_def, Option.bind_eq_bind, Option.bind_some, argK_some, q, retK_some, scal, scal1, fzIds, List.flatMap_cons, bor_sl, List.flatMap_nil, List.append_nil, List.foldl_nil, ite_self, ex_un, un_not, Bool.not_false, seqK_ret, bodyK_ret, results_1, res_tmp, retvK_some, pbodyK_some, frz_int]
      · refine ⟨0, ?_, fun h => ⟨g1, q2⟩⟩
        rw [a81p, a81, pbodyA_eq]
        simp (maxSteps := 30000000) (disch := first | assumption | omega | (simp only [List.length_cons, List.length_nil, List.length_append, List.length_set, List.length_replicate, List.length_map, List.length_range, List.length_take, List.length_drop, List.all_cons, List.all_nil, AV.isCell, Bool.and_self, Bool.and_true, bs_length, is64_length, w64_length, ints_length, lfs_length] <;> omega) | rfl | decide) only [bodyA_eq, List.length_cons, List.length_nil, Nat.zero_add, Nat.reduceAdd, Nat.reduceSub, pads, List.cons_append, List.nil_append, run_seq, run_region, runOps_cons, oper_none, ex_mov, opv, putK_to, List.set_cons_succ, List.set_cons_zero, opsK_some, runOps_nil, regK_some, seqK_normal, run_block, List.getD_cons_succ, List.getD_cons_zero, ex_bin, bin_lss, ltc0, decide_false, valK_some, oper_guard, guardK_bool, putA_to, if_true, bin_gtr, hv3, ex_pick, pickA_bool, Bool.false_eq_true, if_false, run_cond, condK_bool, run_ret, ex_len, lenA_sl, e31, c, run_skip, blockK_normal, run_loop, a81l0c, g, blockK_exit, ex_call, List.map_cons, List.map_nil, pcallA_eq, frzN, List.mapM_cons, frz_sl, List.mapM_nil, Option.pure_def, Option.bind_eq_bind, Option.bind_some, argK_some, q, retK_some, scal, scal1, fzIds, List.flatMap_cons, bor_sl, List.flatMap_nil, List.append_nil, List.foldl_nil, ite_self, ex_un, un_not, Bool.not_true, bodyK_ret, results_1, res_tmp, retvK_some, pbodyK_some, frz_int]
    · refine ⟨1, ?_, fun h => by omega⟩
      rw [a81p, a81, pbodyA_eq]
      simp (maxSteps := 30000000) (disch := first | assumption | omega | (simp only [List.length_cons, List.length_nil, List.length_append, List.length_set, List.length_replicate, List.length_map, List.length_range, List.length_take, List.length_drop, List.all_cons, List.all_nil, AV.isCell, Bool.and_self, Bool.and_true, bs_length, is64_length, w64_length, ints_length, lfs_length] <;> omega) | rfl | decide) only [bodyA_eq, List.length_cons, List.length_nil, Nat.zero_add, Nat.reduceAdd, Nat.reduceSub, pads, List.cons_append, List.nil_append, run_seq, run_region, runOps_cons, oper_none, ex_mov, opv, putK_to, List.set_cons_succ, List.set_cons_zero, opsK_some, runOps_nil, regK_some, seqK_normal, run_block, List.getD_cons_succ, List.getD_cons_zero, ex_bin, bin_lss, ltc0, decide_false, valK_some, oper_guard, guardK_bool, putA_to, if_true, bin_gtr, hv3, ex_pick, pickA_bool, Bool.false_eq_true, if_false, run_cond, condK_bool, run_ret, ex_len, lenA_sl, e31, c, run_skip, blockK_normal, run_loop, a81l0c, g, blockK_ret, seqK_ret, bodyK_ret, results_1, res_tmp, retvK_some, pbodyK_some, frzN, frz_int]

/-! words of states -/
def wordM (a : Nat) : List Int → Nat
  | [] => a
  | q :: l => wordM (a ||| 2 ^ q.toNat) l

theorem shl64 {v : Nat} (hv : v < 64) : IntKind.u64.wrap (1 * 2 ^ min v IntKind.u64.bits) = ((2 ^ v : Nat) : Int) := by
  have e1 : min v IntKind.u64.bits = v := Nat.min_eq_left (by show v ≤ 64; omega)
  have e2 : (2 : Nat) ^ v < 2 ^ 64 := Nat.pow_lt_pow_right (by omega) hv
  rw [e1, Int.one_mul, show (2 : Int) ^ v = ((2 ^ v : Nat) : Int) from by rw [Int.natCast_pow]; rfl]
  exact wrU64 (by omega)
theorem pow64 {v : Nat} (hv : v < 64) : 2 ^ v < 18446744073709551616 := Nat.pow_lt_pow_right (m := v) (n := 64) (a := 2) (by omega) hv

theorem word_loop {z : Bool} {l : List Int} {H : Heap} (hl : l.length < 1099511627776) (hq : ∀ q ∈ l, 0 ≤ q ∧ q < 64) : ∀ d i a, i + d = l.length → a < 18446744073709551616 →
    L.loop a54l0s a54l0 ⟨a54l0F (.int .u64 (a : Nat)) (iw z l) (.int .i64 (l.length : Nat)) (.int .i64 (i : Nat)), H⟩ = some (.exit 0, ⟨a54l0F (.int .u64 (wordM a (l.drop i) : Nat)) (iw z l) (.int .i64 (l.length : Nat)) (.int .i64 (l.length : Nat)), H⟩)
  | 0, i, a, h, ha => by
    obtain rfl : i = l.length := by omega
    rw [List.drop_length, wordM, a54l0n]
    simp (maxSteps := 30000000) (disch := first | assumption | omega | (simp only [List.length_cons, List.length_nil, List.length_append, List.length_set, List.length_replicate, List.length_map, List.length_range, List.length_take, List.length_drop, List.all_cons, List.all_nil, AV.isCell, Bool.and_self, Bool.and_true, bs_length, is64_length, w64_length, ints_length, lfs_length] <;> omega) | rfl | decide) only [a54l0b, run_seq, run_region, runOps_cons, oper_none, ex_bin, opv, List.getD_cons_succ, List.getD_cons_zero, bin_lss, Int.lt_irrefl, decide_false, valK_some, putK_to, List.set_cons_succ, List.set_cons_zero, opsK_some, runOps_nil, regK_some, seqK_normal, run_cond, condK_bool, Bool.false_eq_true, run_skip, run_exit, if_false, seqK_exit, loopK_exit, a54l0c]
  | d + 1, i, a, h, ha => by
    have hlt : (i : Int) < (l.length : Nat) := by omega
    have hm := hq (l.getD i 0) (by rw [List.getD_eq_getElem?_getD, List.getElem?_eq_getElem (by omega : i < l.length)]; exact List.getElem_mem _)
    have hs := shl64 (show (l.getD i 0).toNat < 64 by omega)
    have hp := pow64 (show (l.getD i 0).toNat < 64 by omega)
    have ho := or64 ha hp
    have h0 := hm.1
    have ih := word_loop (z := z) (H := H) hl hq d (i + 1) (a ||| 2 ^ (l.getD i 0).toNat) (by omega) (or_lt ha hp)
    rw [drop_getI (by omega : i < l.length), wordM, a54l0n]
    simp (maxSteps := 30000000) (disch := first | assumption | omega | (simp only [List.length_cons, List.length_nil, List.length_append, List.length_set, List.length_replicate, List.length_map, List.length_range, List.length_take, List.length_drop, List.all_cons, List.all_nil, AV.isCell, Bool.and_self, Bool.and_true, bs_length, is64_length, w64_length, ints_length, lfs_length] <;> omega) | rfl | decide) only [a54l0b, run_seq, run_region, runOps_cons, oper_none, ex_bin, opv, List.getD_cons_succ, List.getD_cons_zero, bin_lss, hlt, decide_true, valK_some, putK_to, List.set_cons_succ, List.set_cons_zero, opsK_some, runOps_nil, regK_some, seqK_normal, run_cond, condK_bool, run_skip, run_exit, if_true, run_block, ex_iaddr, iaddrA_sl, Int.toNat_natCast, Nat.mul_one, ex_load, rd_vptr, ints_drop, ints_take, ints_at0, getD_dropI, Nat.add_zero, loadK_1, ex_mov, bin_shl, hs, bin_or, ho, blockK_normal, bin_add, cadd1, wr64, loopK_normal, a54l0c, ih]

theorem word_eq (z : Bool) (l : List Int) (hl : l.length < 1099511627776) (hq : ∀ q ∈ l, 0 ≤ q ∧ q < 64) : L.pcall 54 [iw z l] = some (.int .u64 (wordM 0 l : Nat)) := by
  have h := word_loop (z := z) (H := []) hl hq l.length 0 0 (by omega) (by omega)
  simp only [Int.natCast_zero, List.drop_zero] at h
  rw [a54p, a54, pbodyA_eq]
  simp (maxSteps := 30000000) (disch := first | assumption | omega | (simp only [List.length_cons, List.length_nil, List.length_append, List.length_set, List.length_replicate, List.length_map, List.length_range, List.length_take, List.length_drop, List.all_cons, List.all_nil, AV.isCell, Bool.and_self, Bool.and_true, bs_length, is64_length, w64_length, ints_length, lfs_length] <;> omega) | rfl | decide) only [bodyA_eq, List.length_cons, List.length_nil, Nat.zero_add, Nat.reduceSub, pads, List.cons_append, List.nil_append, run_seq, run_region, runOps_cons, oper_none, ex_mov, opv, putK_to, List.set_cons_succ, List.set_cons_zero, opsK_some, runOps_nil, regK_some, seqK_normal, List.getD_cons_zero, ex_len, List.getD_cons_succ, lenA_sl, valK_some, run_block, run_loop, a54l0c, h, blockK_exit, if_true, run_ret, bodyK_ret, results_1, res_tmp, retvK_some, pbodyK_some, frzN, frz_int]

theorem wordM_bit : ∀ (l : List Int) (a j : Nat), (∀ q ∈ l, 0 ≤ q) → (wordM a l).testBit j = (a.testBit j || l.contains (j : Int))
  | [], a, j, h => by simp [wordM]
  | q :: l, a, j, h => by
    have h0 := h q (List.mem_cons_self ..)
    have e : decide (q.toNat = j) = ((j : Int) == q) := by
      rw [Bool.eq_iff_iff]; simp only [decide_eq_true_eq, beq_iff_eq]; omega
    rw [wordM, wordM_bit l _ j (fun q hq => h q (List.mem_cons_of_mem _ hq)), Nat.testBit_or, Nat.testBit_two_pow, List.contains_cons, e, Bool.or_assoc]
theorem wordM_lt : ∀ (l : List Int) (a : Nat), a < 18446744073709551616 → (∀ q ∈ l, 0 ≤ q ∧ q < 64) → wordM a l < 18446744073709551616
  | [], a, ha, h => ha
  | q :: l, a, ha, h => by
    have h0 := h q (List.mem_cons_self ..)
    exact wordM_lt l _ (or_lt ha (pow64 (by omega))) (fun q hq => h q (List.mem_cons_of_mem _ hq))
end Go.Abs.Tree
