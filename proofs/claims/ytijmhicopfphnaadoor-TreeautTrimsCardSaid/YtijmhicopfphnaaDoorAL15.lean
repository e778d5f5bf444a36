/- formed, Check and both, exactly; States and Accepts with the exact error. -/
import Derived.Test.YtijmhicopfphnaaDoorAL7
namespace Go.Abs.Tree
open Go Go.Abs
set_option linter.unusedSimpArgs false
set_option linter.unusedVariables false

theorem sub_cases {t : List Lf} {c : Int} {m n : Nat} {T : BT} (h : Sub t c m T n) : (c = -1 ∧ n = m ∧ T = .nil) ∨ (c = (m : Int) ∧ m < t.length) := by
  cases h with
  | none m => exact .inl ⟨rfl, rfl, rfl⟩
  | some hm _ _ => exact .inr ⟨rfl, hm⟩

theorem end_of {z : Bool} {t : List Lf} (ht : t.length < 1099511627776) {c : Int} {m n : Nat} {T : BT} (h : Sub t c m T n) : 0 ≤ c → L.pcall 96 [tw z t, .int .i64 (m : Nat)] = some (.int .i64 (n : Nat)) := by
  induction h with
  | none m => intro h; omega
  | @some m k n l r hm hl hr ihl ihr =>
    intro _
    have first : LP z t [] (t.getD m f0).l (t.getD m f0).r (.int .i64 0) ((m + 1 : Nat) : Int) 0 = LP z t [] (t.getD m f0).l (t.getD m f0).r (.int .i64 0) ((k : Nat) : Int) 1 := by
      rcases sub_cases hl with ⟨e1, e2, _⟩ | ⟨e1, e2⟩
      · subst e2
        exact endA _ (.inl ⟨rfl, rfl⟩) e1
      · exact endD (m + 1) k (.inl ⟨rfl, rfl⟩) e1 e2 (ihl (by omega))
    have second : LP z t [] (t.getD m f0).l (t.getD m f0).r (.int .i64 0) ((k : Nat) : Int) 1 = LP z t [] (t.getD m f0).l (t.getD m f0).r (.int .i64 0) ((n : Nat) : Int) 2 := by
      rcases sub_cases hr with ⟨e1, e2, _⟩ | ⟨e1, e2⟩
      · subst e2
        exact endA _ (.inr ⟨rfl, rfl⟩) e1
      · exact endD k n (.inr ⟨rfl, rfl⟩) e1 e2 (ihr (by omega))
    exact end_exit ht hm (by rw [first, second]; exact end2 _)

open Classical in
noncomputable def formedB (t : List Lf) : Bool := decide (∃ T, Formed t T)
open Classical in
theorem formedB_iff {t : List Lf} : formedB t = true ↔ ∃ T, Formed t T := by unfold formedB; rw [decide_eq_true_eq]

theorem formed_yes (z : Bool) {t : List Lf} {T : BT} (ht : t.length < 1099511627776) (h : Formed t T) : L.pcall 75 [tw z t] = some (.bool true) := by
  have e : (((t.length : Nat) : Int) ≤ 31) = (t.length ≤ 31) := propext ⟨fun h => by omega, fun h => by omega⟩
  rcases h with ⟨rfl, rfl⟩ | ⟨h31, hS⟩
  · have h0' : (((([] : List Lf).length : Nat) : Int) = 0) = True := eq_true (by simp)
    rw [a75p, a75, pbodyA_eq]
    simp (maxSteps := 30000000) (disch := first | assumption | omega | (simp only [List.length_cons, List.length_nil, List.length_append, List.length_set, List.length_replicate, List.length_map, List.length_range, List.length_take, List.length_drop, List.all_cons, List.all_nil, AV.isCell, Bool.and_self, Bool.and_true, bs_length, is64_length, w64_length, ints_length, lfs_length, rls_length] <;> omega) | rfl | decide) only [bodyA_eq, List.length_cons, List.length_nil, Nat.zero_add, Nat.reduceSub, pads, List.cons_append, List.nil_append, run_seq, run_region, runOps_cons, oper_none, ex_mov, opv, putK_to, List.set_cons_succ, List.set_cons_zero, opsK_some, runOps_nil, regK_some, seqK_normal, List.getD_cons_zero, ex_len, List.getD_cons_succ, lenA_sl, castLit, valK_some, ex_bin, bin_eql, decide_true, oper_guard, guardK_bool, Bool.true_eq_false, putA_to, if_false, ite_self, guardK_tup, ex_pick, pickA_bool, if_true, run_ret, bodyK_ret, results_1, res_tmp, retvK_some, pbodyK_some, frzN, frz_bool]
  · have q := end_of (z := z) ht hS (by omega)
    have hpos : ¬ t.length = 0 := by
      intro h0
      rcases sub_cases hS with ⟨h, _⟩ | ⟨_, h⟩ <;> omega
    have h0' : (((t.length : Nat) : Int) = 0) = False := eq_false (by omega)
    have h2 : (((t.length : Nat) : Int) = (t.length : Nat)) = True := eq_true rfl
    simp only [Int.natCast_zero] at q
    rw [a75p, a75, pbodyA_eq]
    simp (maxSteps := 30000000) (disch := first | assumption | omega | (simp only [List.length_cons, List.length_nil, List.length_append, List.length_set, List.length_replicate, List.length_map, List.length_range, List.length_take, List.length_drop, List.all_cons, List.all_nil, AV.isCell, Bool.and_self, Bool.and_true, bs_length, is64_length, w64_length, ints_length, lfs_length, rls_length] <;> omega) | rfl | decide) only [bodyA_eq, List.length_cons, List.length_nil, Nat.zero_add, Nat.reduceSub, pads, List.cons_append, List.nil_append, run_seq, run_region, runOps_cons, oper_none, ex_mov, opv, putK_to, List.set_cons_succ, List.set_cons_zero, opsK_some, runOps_nil, regK_some, seqK_normal, List.getD_cons_zero, ex_len, List.getD_cons_succ, lenA_sl, valK_some, ex_bin, bin_eql, h0', decide_false, oper_guard, guardK_bool, putA_to, if_true, bin_leq, e, h31, decide_true, ex_call, List.map_cons, List.map_nil, pcallA_eq, frzN, List.mapM_cons, frz_sl, frz_int, List.mapM_nil, Option.pure_def, Option.bind_eq_bind, Option.bind_some, argK_some, q, retK_some, scal, scal1, fzIds, List.flatMap_cons, bor_sl, bor_int, List.flatMap_nil, List.append_nil, List.foldl_nil, ite_self, ex_pick, pickA_bool, Bool.false_eq_true, run_ret, bodyK_ret, results_1, res_tmp, retvK_some, pbodyK_some, frz_bool]

theorem formed_eq (z : Bool) (t : List Lf) (ht : t.length < 1099511627776) : L.pcall 75 [tw z t] = some (.bool (formedB t)) := by
  cases h : formedB t with
  | true =>
    obtain ⟨T, hT⟩ := formedB_iff.1 h
    exact formed_yes z ht hT
  | false =>
    rcases formed_ex z t ht with q | ⟨_, q⟩
    · exact q
    · rw [formedB_iff.2 q] at h; cases h

def labOk (t : List Lf) (v : Nat) : Bool := t.all fun e => decide (e.x >>> v = 0)
theorem labOk_iff {t : List Lf} {v : Nat} : labOk t v = true ↔ ∀ e ∈ t, e.x >>> v = 0 := by simp [labOk]
noncomputable def tchkE (t : List Lf) (v : Nat) : Int := if 31 < t.length then 4 else if labOk t v = true then (if formedB t = true then 0 else 2) else 1

theorem tcheck_eq (z : Bool) (t : List Lf) (v : Nat) (hv : v ≤ 3) (hl : t.length < 1099511627776) (hx : ∀ e ∈ t, e.x < 256) :
    L.pcall 81 [tw z t, .int .i64 (v : Nat)] = some (.int .i64 (tchkE t v)) := by
  have hv3 : ¬ ((3 : Int) < (v : Nat)) := by omega
  have e31 : ((31 : Int) < (t.length : Nat)) = (31 < t.length) := propext ⟨fun h => by omega, fun h => by omega⟩
  have q := formed_eq z t hl
  unfold tchkE
  by_cases c : 31 < t.length
  · rw [if_pos c, a81p, a81, pbodyA_eq]
    simp (maxSteps := 30000000) (disch := first | assumption | omega | (simp only [List.length_cons, List.length_nil, List.length_append, List.length_set, List.length_replicate, List.length_map, List.length_range, List.length_take, List.length_drop, List.all_cons, List.all_nil, AV.isCell, Bool.and_self, Bool.and_true, bs_length, is64_length, w64_length, ints_length, lfs_length, rls_length] <;> omega) | rfl | decide) only [bodyA_eq, List.length_cons, List.length_nil, Nat.zero_add, Nat.reduceAdd, Nat.reduceSub, pads, List.cons_append, List.nil_append, run_seq, run_region, runOps_cons, oper_none, ex_mov, opv, putK_to, List.set_cons_succ, List.set_cons_zero, opsK_some, runOps_nil, regK_some, seqK_normal, run_block, List.getD_cons_succ, List.getD_cons_zero, ex_bin, bin_lss, ltc0, decide_false, valK_some, oper_guard, guardK_bool, putA_to, if_true, bin_gtr, hv3, ex_pick, pickA_bool, Bool.false_eq_true, if_false, run_cond, condK_bool, run_ret, ex_len, lenA_sl, e31, c, decide_true, run_skip, blockK_ret, seqK_ret, bodyK_ret, results_1, res_tmp, retvK_some, pbodyK_some, frzN, frz_int]
  · rw [if_neg c]
    obtain ⟨H', i', g⟩ := lab_loop (z := z) (s4 := .int .i64 0) hv hl hx t.length 0 [] (by omega)
    simp only [Int.natCast_zero, List.drop_zero] at g
    rcases g with ⟨g1, g⟩ | ⟨g1, g⟩
    · rw [if_pos (labOk_iff.2 g1)]
      cases hf : formedB t with
      | false =>
        rw [hf] at q
        rw [if_neg (by simp), a81p, a81, pbodyA_eq]
        simp (maxSteps := 30000000) (disch := first | assumption | omega | (simp only [List.length_cons, List.length_nil, List.length_append, List.length_set, List.length_replicate, List.length_map, List.length_range, List.length_take, List.length_drop, List.all_cons, List.all_nil, AV.isCell, Bool.and_self, Bool.and_true, bs_length, is64_length, w64_length, ints_length, lfs_length, rls_length] <;> omega) | rfl | decide) only [bodyA_eq, List.length_cons, List.length_nil, Nat.zero_add, Nat.reduceAdd, Nat.reduceSub, pads, List.cons_append, List.nil_append, run_seq, run_region, runOps_cons, oper_none, ex_mov, opv, putK_to, List.set_cons_succ, List.set_cons_zero, opsK_some, runOps_nil, regK_some, seqK_normal, run_block, List.getD_cons_succ, List.getD_cons_zero, ex_bin, bin_lss, ltc0, decide_false, valK_some, oper_guard, guardK_bool, putA_to, if_true, bin_gtr, hv3, ex_pick, pickA_bool, Bool.false_eq_true, if_false, run_cond, condK_bool, run_ret, ex_len, lenA_sl, e31, c, run_skip, blockK_normal, run_loop, a81l0c, g, blockK_exit, ex_call, List.map_cons, List.map_nil, pcallA_eq, frzN, List.mapM_cons, frz_sl, List.mapM_nil, Option.pure_def, Option.bind_eq_bind, Option.bind_some, argK_some, q, retK_some, scal, scal1, fzIds, List.flatMap_cons, bor_sl, List.flatMap_nil, List.append_nil, List.foldl_nil, ite_self, ex_un, un_not, Bool.not_false, seqK_ret, bodyK_ret, results_1, res_tmp, retvK_some, pbodyK_some, frz_int]
      | true =>
        rw [hf] at q
        rw [if_pos rfl, a81p, a81, pbodyA_eq]
        simp (maxSteps := 30000000) (disch := first | assumption | omega | (simp only [List.length_cons, List.length_nil, List.length_append, List.length_set, List.length_replicate, List.length_map, List.length_range, List.length_take, List.length_drop, List.all_cons, List.all_nil, AV.isCell, Bool.and_self, Bool.and_true, bs_length, is64_length, w64_length, ints_length, lfs_length, rls_length] <;> omega) | rfl | decide) only [bodyA_eq, List.length_cons, List.length_nil, Nat.zero_add, Nat.reduceAdd, Nat.reduceSub, pads, List.cons_append, List.nil_append, run_seq, run_region, runOps_cons, oper_none, ex_mov, opv, putK_to, List.set_cons_succ, List.set_cons_zero, opsK_some, runOps_nil, regK_some, seqK_normal, run_block, List.getD_cons_succ, List.getD_cons_zero, ex_bin, bin_lss, ltc0, decide_false, valK_some, oper_guard, guardK_bool, putA_to, if_true, bin_gtr, hv3, ex_pick, pickA_bool, Bool.false_eq_true, if_false, run_cond, condK_bool, run_ret, ex_len, lenA_sl, e31, c, run_skip, blockK_normal, run_loop, a81l0c, g, blockK_exit, ex_call, List.map_cons, List.map_nil, pcallA_eq, frzN, List.mapM_cons, frz_sl, List.mapM_nil, Option.pure_def, Option.bind_eq_bind, Option.bind_some, argK_some, q, retK_some, scal, scal1, fzIds, List.flatMap_cons, bor_sl, List.flatMap_nil, List.append_nil, List.foldl_nil, ite_self, ex_un, un_not, Bool.not_true, bodyK_ret, results_1, res_tmp, retvK_some, pbodyK_some, frz_int]
    · rw [if_neg (fun h => g1 (labOk_iff.1 h)), a81p, a81, pbodyA_eq]
      simp (maxSteps := 30000000) (disch := first | assumption | omega | (simp only [List.length_cons, List.length_nil, List.length_append, List.length_set, List.length_replicate, List.length_map, List.length_range, List.length_take, List.length_drop, List.all_cons, List.all_nil, AV.isCell, Bool.and_self, Bool.and_true, bs_length, is64_length, w64_length, ints_length, lfs_length, rls_length] <;> omega) | rfl | decide) only [bodyA_eq, List.length_cons, List.length_nil, Nat.zero_add, Nat.reduceAdd, Nat.reduceSub, pads, List.cons_append, List.nil_append, run_seq, run_region, runOps_cons, oper_none, ex_mov, opv, putK_to, List.set_cons_succ, List.set_cons_zero, opsK_some, runOps_nil, regK_some, seqK_normal, run_block, List.getD_cons_succ, List.getD_cons_zero, ex_bin, bin_lss, ltc0, decide_false, valK_some, oper_guard, guardK_bool, putA_to, if_true, bin_gtr, hv3, ex_pick, pickA_bool, Bool.false_eq_true, if_false, run_cond, condK_bool, run_ret, ex_len, lenA_sl, e31, c, run_skip, blockK_normal, run_loop, a81l0c, g, blockK_ret, seqK_ret, bodyK_ret, results_1, res_tmp, retvK_some, pbodyK_some, frzN, frz_int]

noncomputable def bothE (n : Aut) (t : List Lf) : Int := if chkE n = 0 then tchkE t n.vars.toNat else chkE n
theorem bothE_zero {n : Aut} {t : List Lf} : bothE n t = 0 ↔ Valid n ∧ t.length ≤ 31 ∧ (∀ e ∈ t, e.x >>> n.vars.toNat = 0) ∧ ∃ T, Formed t T := by
  unfold bothE tchkE
  rw [← chkE_zero, ← labOk_iff, ← formedB_iff]
  by_cases c : chkE n = 0
  · rw [if_pos c]
    by_cases c1 : 31 < t.length
    · rw [if_pos c1]
      exact ⟨fun h => by omega, fun h => by omega⟩
    · rw [if_neg c1]
      cases labOk t n.vars.toNat <;> cases formedB t <;> simp [c] <;> omega
  · rw [if_neg c]
    exact ⟨fun h => (c h).elim, fun h => (c h.1).elim⟩

theorem both_eq (n : Aut) (z : Bool) (t : List Lf) (hT : TyA n) (ht : t.length < 1099511627776) (hx : ∀ e ∈ t, e.x < 256) :
    L.pcall 47 [n.av, tw z t] = some (.int .i64 (bothE n t)) := by
  have h1 := check_eq n hT.st hT.fi hT.rl hT.u8
  unfold bothE
  by_cases c : chkE n = 0
  · have hV := chkE_zero.1 c
    obtain ⟨v, hv⟩ : ∃ v : Nat, n.vars = (v : Nat) := ⟨n.vars.toNat, by have := hV.v0; omega⟩
    have htv : n.vars.toNat = v := by omega
    have h2 := tcheck_eq z t v (by have := hV.v3; omega) ht hx
    rw [c] at h1
    rw [if_pos c, htv, a47p, a47, pbodyA_eq]
    rw [← hv] at h2
    simp (maxSteps := 30000000) (disch := first | assumption | omega | (simp only [List.length_cons, List.length_nil, List.length_append, List.length_set, List.length_replicate, List.length_map, List.length_range, List.length_take, List.length_drop, List.all_cons, List.all_nil, AV.isCell, Bool.and_self, Bool.and_true, bs_length, is64_length, w64_length, ints_length, lfs_length, rls_length] <;> omega) | rfl | decide) only [bodyA_eq, List.length_cons, List.length_nil, Nat.zero_add, Nat.reduceAdd, Nat.reduceSub, pads, List.cons_append, List.nil_append, run_seq, run_region, runOps_cons, oper_none, ex_box, AV.cells, opv, List.getD_cons_zero, List.all_cons, AV.isCell, List.all_nil, Bool.and_self, if_true, putK_to, List.set_cons_succ, List.set_cons_zero, opsK_some, ex_mov, runOps_nil, regK_some, seqK_normal, ex_load, List.getD_cons_succ, rd_ptr, List.getElem?_cons_zero, rdK_cells, List.drop_zero, List.take_succ_cons, List.take_nil, loadK_n, valK_some, ex_call, List.map_cons, List.map_nil, pcallA_eq, frzN, List.mapM_cons, frz_agg, frz_int, frz_sl, List.mapM_nil, Option.pure_def, Option.bind_eq_bind, Option.bind_some, Option.map_some, argK_some, h1, retK_some, scal, scal1, fzIds, List.flatMap_cons, bor_agg, bor_int, bor_sl, List.flatMap_nil, List.append_nil, List.foldl_nil, ite_self, ex_bin, bin_neq, decide_true, Bool.not_true, run_cond, condK_bool, Bool.false_eq_true, run_ret, run_skip, if_false, ex_faddr, faddrA_ptr, Nat.add_zero, List.take_zero, loadK_1, h2, bodyK_ret, results_1, res_tmp, retvK_some, pbodyK_some]
  · rw [if_neg c, a47p, a47, pbodyA_eq]
    simp (maxSteps := 30000000) (disch := first | assumption | omega | (simp only [List.length_cons, List.length_nil, List.length_append, List.length_set, List.length_replicate, List.length_map, List.length_range, List.length_take, List.length_drop, List.all_cons, List.all_nil, AV.isCell, Bool.and_self, Bool.and_true, bs_length, is64_length, w64_length, ints_length, lfs_length, rls_length] <;> omega) | rfl | decide) only [bodyA_eq, List.length_cons, List.length_nil, Nat.zero_add, Nat.reduceAdd, Nat.reduceSub, pads, List.cons_append, List.nil_append, run_seq, run_region, runOps_cons, oper_none, ex_box, AV.cells, opv, List.getD_cons_zero, List.all_cons, AV.isCell, List.all_nil, Bool.and_self, if_true, putK_to, List.set_cons_succ, List.set_cons_zero, opsK_some, ex_mov, runOps_nil, regK_some, seqK_normal, ex_load, List.getD_cons_succ, rd_ptr, List.getElem?_cons_zero, rdK_cells, List.drop_zero, List.take_succ_cons, List.take_nil, loadK_n, valK_some, ex_call, List.map_cons, List.map_nil, pcallA_eq, frzN, List.mapM_cons, frz_agg, frz_int, frz_sl, List.mapM_nil, Option.pure_def, Option.bind_eq_bind, Option.bind_some, Option.map_some, argK_some, h1, retK_some, scal, scal1, fzIds, List.flatMap_cons, bor_agg, bor_int, bor_sl, List.flatMap_nil, List.append_nil, List.foldl_nil, ite_self, ex_bin, bin_neq, c, decide_false, Bool.not_false, run_cond, condK_bool, run_ret, run_skip, seqK_ret, bodyK_ret, results_1, res_tmp, retvK_some, pbodyK_some]

theorem run_eq (n : Aut) (z : Bool) (t : List Lf) (hT : TyA n) (ht : t.length < 1099511627776) (hx : ∀ e ∈ t, e.x < 256) :
    ∃ (zz : Bool) (l : List Nat) (b : Bool), L.pcall 16 [n.av, tw z t] = some (.tup [sw zz l, .int .i64 (bothE n t)]) ∧ L.pcall 18 [n.av, tw z t] = some (.tup [.bool b, .int .i64 (bothE n t)]) ∧
      (bothE n t ≠ 0 → zz = true ∧ l = [] ∧ b = false) ∧
      (bothE n t = 0 → ∀ T, Formed t T → HasSet (sw zz l) (fun j => decide (j < 64) && (evA n T).testBit j) ∧ (b = true ↔ ∃ j, (evA n T).testBit j = true ∧ n.fi.contains (j : Int) = true)) := by
  obtain ⟨e, zz, l, b, s1, s2, s3, s4⟩ := run_ex n z t hT ht hx
  have hb := both_eq n z t hT ht hx
  have he : bothE n t = e := by
    by_cases c : bothE n t = 0
    · obtain ⟨hV, -, -, T, hF⟩ := bothE_zero.1 c
      have h49 := states_eq (z := z) ht hx hT.rl (hV.ok hT) hT.st hV.sts hF
      obtain ⟨zz', l', h5, -⟩ := set_has (ev_lt (wordM_lt n.st 0 (by omega) hV.sts) (hV.ok hT) T)
      have : L.pcall 16 [n.av, tw z t] = some (.tup [sw zz' l', .int .i64 0]) := by
        rw [c] at hb
        rw [a16p, a16, pbodyA_eq]
        simp (maxSteps := 30000000) (disch := first | assumption | omega | (simp only [List.length_cons, List.length_nil, List.length_append, List.length_set, List.length_replicate, List.length_map, List.length_range, List.length_take, List.length_drop, List.all_cons, List.all_nil, AV.isCell, Bool.and_self, Bool.and_true, bs_length, is64_length, w64_length, ints_length, lfs_length, rls_length] <;> omega) | rfl | decide) only [bodyA_eq, List.length_cons, List.length_nil, Nat.zero_add, Nat.reduceAdd, Nat.reduceSub, pads, List.cons_append, List.nil_append, run_seq, run_region, runOps_cons, oper_none, ex_box, AV.cells, opv, List.getD_cons_zero, List.all_cons, AV.isCell, List.all_nil, Bool.and_self, if_true, putK_to, List.set_cons_succ, List.set_cons_zero, opsK_some, ex_mov, runOps_nil, regK_some, seqK_normal, ex_load, List.getD_cons_succ, rd_ptr, List.getElem?_cons_zero, rdK_cells, List.drop_zero, List.take_succ_cons, List.take_nil, loadK_n, valK_some, ex_call, List.map_cons, List.map_nil, pcallA_eq, frzN, List.mapM_cons, frz_agg, frz_int, frz_sl, List.mapM_nil, Option.pure_def, Option.bind_eq_bind, Option.bind_some, Option.map_some, argK_some, hb, retK_some, scal, scal1, fzIds, List.flatMap_cons, bor_agg, bor_int, bor_sl, List.flatMap_nil, List.append_nil, List.foldl_nil, ite_self, ex_bin, bin_neq, decide_true, Bool.not_true, run_cond, condK_bool, Bool.false_eq_true, run_ret, run_skip, if_false, h49, h5, bodyK_ret, results_2, resL_cons, res_tmp, resK_some, resL_nil, retvK_some, pbodyK_some, frz_tup]
      rw [s1] at this
      simp only [Option.some.injEq, AV.tup.injEq, List.cons.injEq, AV.int.injEq] at this
      omega
    · have : L.pcall 16 [n.av, tw z t] = some (.tup [.sl true 0 [], .int .i64 (bothE n t)]) := by
        rw [a16p, a16, pbodyA_eq]
        simp (maxSteps := 30000000) (disch := first | assumption | omega | (simp only [List.length_cons, List.length_nil, List.length_append, List.length_set, List.length_replicate, List.length_map, List.length_range, List.length_take, List.length_drop, List.all_cons, List.all_nil, AV.isCell, Bool.and_self, Bool.and_true, bs_length, is64_length, w64_length, ints_length, lfs_length, rls_length] <;> omega) | rfl | decide) only [bodyA_eq, List.length_cons, List.length_nil, Nat.zero_add, Nat.reduceAdd, Nat.reduceSub, pads, List.cons_append, List.nil_append, run_seq, run_region, runOps_cons, oper_none, ex_box, AV.cells, opv, List.getD_cons_zero, List.all_cons, AV.isCell, List.all_nil, Bool.and_self, if_true, putK_to, List.set_cons_succ, List.set_cons_zero, opsK_some, ex_mov, runOps_nil, regK_some, seqK_normal, ex_load, List.getD_cons_succ, rd_ptr, List.getElem?_cons_zero, rdK_cells, List.drop_zero, List.take_succ_cons, List.take_nil, loadK_n, valK_some, ex_call, List.map_cons, List.map_nil, pcallA_eq, frzN, List.mapM_cons, frz_agg, frz_int, frz_sl, List.mapM_nil, Option.pure_def, Option.bind_eq_bind, Option.bind_some, Option.map_some, argK_some, hb, retK_some, scal, scal1, fzIds, List.flatMap_cons, bor_agg, bor_int, bor_sl, List.flatMap_nil, List.append_nil, List.foldl_nil, ite_self, ex_bin, bin_neq, c, decide_false, Bool.not_false, run_cond, condK_bool, run_ret, run_skip, seqK_ret, bodyK_ret, results_2, resL_cons, res_tmp, resK_some, resL_nil, retvK_some, pbodyK_some, frz_tup]
      rw [s1] at this
      simp only [Option.some.injEq, AV.tup.injEq, List.cons.injEq, AV.int.injEq] at this
      omega
  rw [he]
  exact ⟨zz, l, b, s1, s2, s3, fun h T hF => (s4 h).2.2 T hF⟩
end Go.Abs.Tree
