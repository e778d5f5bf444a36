/- Run; EqualInts; CopyInts; the part of the law's automaton as data. -/
import Derived.Test.YtdkbhidfiplncaaAD12
namespace Go.Abs.Det
open Go Go.Abs
set_option linter.unusedSimpArgs false
set_option linter.unusedVariables false

theorem both_valid {D : Da} (hV : Va D) (z : Bool) (t : List Lf) (hl : t.length < 1099511627776) (hx : ∀ e ∈ t, e.x < 256) : L.pcall 53 [D.av, tw z t] = some (.int .i64 (tchkE t D.vars.toNat)) := by
  have v0 := hV.v0
  have v3 := hV.v3
  have h := both53 D z t 0 (tchkE t D.vars.toNat) (check_ok D hV) (fun _ => by
    have := tcheck_eq z t D.vars.toNat (by omega) hl hx
    rwa [Int.toNat_of_nonneg v0] at this)
  exact h

theorem lab_two {v : Int} {x : Nat} (h0 : 0 ≤ v) : x >>> v.toNat = 0 ↔ x < two v := by
  unfold two
  rw [Nat.shiftRight_eq_div_pow]
  exact Nat.div_eq_zero_iff_lt (Nat.two_pow_pos _)

/-- what a tree without error is -/
theorem tchk_zero {t : List Lf} {v : Int} (h0 : 0 ≤ v) : tchkE t v.toNat = 0 ↔ ∃ T, t = encT 0 T ∧ T.size ≤ 31 ∧ T.labs (· < two v) := by
  unfold tchkE
  constructor
  · intro h
    split at h
    · omega
    split at h
    case isFalse => omega
    rename_i h1
    split at h
    case isFalse => omega
    rename_i h2
    obtain ⟨T, hT⟩ := formedB_iff.1 h2
    obtain ⟨e1, e2⟩ := formed_enc hT
    refine ⟨T, e1, e2, (enc_labs T 0).1 fun e he => (lab_two h0).1 (labOk_iff.1 h1 e (e1 ▸ he))⟩
  · rintro ⟨T, rfl, h2, h3⟩
    rw [if_neg (by rw [encT_length]; omega), if_pos (labOk_iff.2 fun e he => (lab_two h0).2 ((enc_labs T 0).2 h3 e he)), if_pos (formedB_iff.2 ⟨T, enc_formed h2⟩)]

theorem run16_ok {D : Da} (hV : Va D) (z : Bool) {T : BT} (ht : T.size ≤ 31) (hx : T.labs (· < two D.vars)) : L.pcall 16 [D.av, tw z (encT 0 T)] = some (.tup [.sl false T.size (ints (stL D T)), .int .i64 0]) := by
  have hl := encT_length T 0
  have h1 := both_valid hV z (encT 0 T) (by omega) (fun e he => by have := (enc_labs T 0).2 hx e he; have := (two_bd hV.v3).1; omega)
  rw [(tchk_zero hV.v0).2 ⟨T, rfl, ht, hx⟩] at h1
  have h2 := run54 hV z ht hx
  have hsl := stL_len D T
  have htk : List.take T.size (stL D T ++ [D.empty]) = stL D T := by rw [List.take_append_of_le_length (by omega), List.take_of_length_le (by omega)]
  unfold tw at h1 h2 ⊢
  simp only [hl] at h1 h2 ⊢
  unfold Da.av at h1 h2 ⊢
  unfold Da.cells at h1 h2 ⊢
  rw [a16p, a16, pbodyA_eq]
  simp (maxSteps := 30000000) (disch := first | assumption | omega | (simp only [List.length_cons, List.length_nil, List.length_append, List.length_set, List.length_replicate, List.length_map, List.length_range, List.length_take, List.length_drop, List.all_cons, List.all_nil, AV.isCell, Bool.and_self, Bool.and_true, bs_length, is64_length, w64_length, ints_length, ints_length, bools_len, List.length_map, lfs_length] <;> omega) | rfl | decide) only [bodyA_eq, List.length_cons, List.length_nil, Nat.zero_add, Nat.reduceAdd, Nat.reduceSub, pads, List.cons_append, List.nil_append, run_seq, run_region, runOps_cons, oper_none, ex_box, AV.cells, opv, List.getD_cons_zero, List.all_cons, AV.isCell, List.all_nil, Bool.and_self, ↓reduceIte, putK_to, List.set_cons_succ, List.set_cons_zero, opsK_some, ex_mov, runOps_nil, regK_some, seqK_normal, ex_load, List.getD_cons_succ, rd_ptr, List.getElem?_cons_zero, rdK_cells, List.drop_zero, List.take_succ_cons, List.take_nil, loadK_n, valK_some, ex_call, List.map_cons, List.map_nil, pcallA_eq, frzN, List.mapM_cons, frz_agg, frz_int, frz_sl, List.mapM_nil, Option.pure_def, Option.bind_eq_bind, Option.bind_some, Option.map_some, argK_some, h1, retK_some, scal, scal1, ex_bin, bin_neq, decide_true, Bool.not_true, run_cond, condK_bool, Bool.false_eq_true, run_skip, h2, fzIds, List.flatMap_cons, bor_agg, bor_int, bor_sl, List.flatMap_nil, List.append_nil, List.foldl_nil, ex_len, lenA_sl, ex_slice, Option.map_none, sliceA_sl, bounds_nsm, Int.toNat_natCast, cutK_sl, Nat.sub_zero, Nat.mul_one, ints_take, htk, run_ret, bodyK_ret, results_2, resL_cons, res_tmp, resK_some, resL_nil, retvK_some, pbodyK_some, frz_tup]

theorem run16_err {D : Da} (hV : Va D) (z : Bool) (t : List Lf) (hl : t.length < 1099511627776) (hx : ∀ e ∈ t, e.x < 256) (he : tchkE t D.vars.toNat ≠ 0) : L.pcall 16 [D.av, tw z t] = some (.tup [.sl true 0 [], .int .i64 (tchkE t D.vars.toNat)]) := by
  have h1 := both_valid hV z t hl hx
  generalize tchkE t D.vars.toNat = e at *
  unfold Da.av at h1 ⊢
  unfold Da.cells at h1 ⊢
  rw [a16p, a16, pbodyA_eq]
  simp (maxSteps := 30000000) (disch := first | assumption | omega | (simp only [List.length_cons, List.length_nil, List.length_append, List.length_set, List.length_replicate, List.length_map, List.length_range, List.length_take, List.length_drop, List.all_cons, List.all_nil, AV.isCell, Bool.and_self, Bool.and_true, bs_length, is64_length, w64_length, ints_length, ints_length, bools_len, List.length_map, lfs_length] <;> omega) | rfl | decide) only [bodyA_eq, List.length_cons, List.length_nil, Nat.zero_add, Nat.reduceAdd, Nat.reduceSub, pads, List.cons_append, List.nil_append, run_seq, run_region, runOps_cons, oper_none, ex_box, AV.cells, opv, List.getD_cons_zero, List.all_cons, AV.isCell, List.all_nil, Bool.and_self, ↓reduceIte, putK_to, List.set_cons_succ, List.set_cons_zero, opsK_some, ex_mov, runOps_nil, regK_some, seqK_normal, ex_load, List.getD_cons_succ, rd_ptr, List.getElem?_cons_zero, rdK_cells, List.drop_zero, List.take_succ_cons, List.take_nil, loadK_n, valK_some, ex_call, List.map_cons, List.map_nil, pcallA_eq, frzN, List.mapM_cons, frz_agg, frz_int, frz_sl, List.mapM_nil, Option.pure_def, Option.bind_eq_bind, Option.bind_some, Option.map_some, argK_some, h1, retK_some, scal, scal1, ex_bin, bin_neq, he, decide_false, Bool.not_false, run_cond, condK_bool, run_ret, seqK_ret, bodyK_ret, results_2, resL_cons, res_tmp, resK_some, resL_nil, retvK_some, pbodyK_some, frz_tup]

/-- no states -/
theorem run16_none (v e : Int) (z1 z2 : Bool) (z : Bool) (t : List Lf) (v0 : 0 ≤ v) (v3 : v ≤ 3) : L.pcall 16 [.agg [.int .i64 v, .int .i64 e, .sl z1 0 [], .sl z2 0 []], tw z t] = some (.tup [.sl true 0 [], .int .i64 3]) := by
  have h := check_none v e z1 z2 0 [] v0 v3
  have h53 : L.pcall 53 [.agg [.int .i64 v, .int .i64 e, .sl z1 0 [], .sl z2 0 []], tw z t] = some (.int .i64 3) := by
    rw [a53p, a53, pbodyA_eq]
    simp (maxSteps := 30000000) (disch := first | assumption | omega | (simp only [List.length_cons, List.length_nil, List.length_append, List.length_set, List.length_replicate, List.length_map, List.length_range, List.length_take, List.length_drop, List.all_cons, List.all_nil, AV.isCell, Bool.and_self, Bool.and_true, bs_length, is64_length, w64_length, ints_length, ints_length, bools_len, List.length_map, lfs_length] <;> omega) | rfl | decide) only [bodyA_eq, List.length_cons, List.length_nil, Nat.zero_add, Nat.reduceAdd, Nat.reduceSub, pads, List.cons_append, List.nil_append, run_seq, run_region, runOps_cons, oper_none, ex_box, AV.cells, opv, List.getD_cons_zero, List.all_cons, AV.isCell, List.all_nil, Bool.and_self, ↓reduceIte, putK_to, List.set_cons_succ, List.set_cons_zero, opsK_some, ex_mov, runOps_nil, regK_some, seqK_normal, ex_load, List.getD_cons_succ, rd_ptr, List.getElem?_cons_zero, rdK_cells, List.drop_zero, List.take_succ_cons, List.take_nil, loadK_n, valK_some, ex_call, List.map_cons, List.map_nil, pcallA_eq, frzN, List.mapM_cons, frz_agg, frz_int, frz_sl, List.mapM_nil, Option.pure_def, Option.bind_eq_bind, Option.bind_some, Option.map_some, argK_some, h, retK_some, scal, scal1, ex_bin, bin_neq, Int.reduceEq, decide_false, Bool.not_false, run_cond, condK_bool, run_ret, seqK_ret, bodyK_ret, results_1, res_tmp, retvK_some, pbodyK_some]
  rw [a16p, a16, pbodyA_eq]
  simp (maxSteps := 30000000) (disch := first | assumption | omega | (simp only [List.length_cons, List.length_nil, List.length_append, List.length_set, List.length_replicate, List.length_map, List.length_range, List.length_take, List.length_drop, List.all_cons, List.all_nil, AV.isCell, Bool.and_self, Bool.and_true, bs_length, is64_length, w64_length, ints_length, ints_length, bools_len, List.length_map, lfs_length] <;> omega) | rfl | decide) only [bodyA_eq, List.length_cons, List.length_nil, Nat.zero_add, Nat.reduceAdd, Nat.reduceSub, pads, List.cons_append, List.nil_append, run_seq, run_region, runOps_cons, oper_none, ex_box, AV.cells, opv, List.getD_cons_zero, List.all_cons, AV.isCell, List.all_nil, Bool.and_self, ↓reduceIte, putK_to, List.set_cons_succ, List.set_cons_zero, opsK_some, ex_mov, runOps_nil, regK_some, seqK_normal, ex_load, List.getD_cons_succ, rd_ptr, List.getElem?_cons_zero, rdK_cells, List.drop_zero, List.take_succ_cons, List.take_nil, loadK_n, valK_some, ex_call, List.map_cons, List.map_nil, pcallA_eq, frzN, List.mapM_cons, frz_agg, frz_int, frz_sl, List.mapM_nil, Option.pure_def, Option.bind_eq_bind, Option.bind_some, Option.map_some, argK_some, h53, retK_some, scal, scal1, ex_bin, bin_neq, Int.reduceEq, decide_false, Bool.not_false, run_cond, condK_bool, run_ret, seqK_ret, bodyK_ret, results_2, resL_cons, res_tmp, resK_some, resL_nil, retvK_some, pbodyK_some, frz_tup]

theorem ints_same_loop {l : List Int} {z z' : Bool} {s4 : AV} {H : Heap} (hl : l.length < 1099511627776) : ∀ d i, i + d = l.length →
    L.loop a20l0s a20l0 ⟨a20l0F (iw z l) (iw z' l) s4 (.int .i64 (i : Nat)), H⟩ = some (.exit 0, ⟨a20l0F (iw z l) (iw z' l) s4 (.int .i64 (l.length : Nat)), H⟩)
  | 0, i, h => by
    obtain rfl : i = l.length := by omega
    rw [a20l0n]
    simp (maxSteps := 30000000) (disch := first | assumption | omega | (simp only [List.length_cons, List.length_nil, List.length_append, List.length_set, List.length_replicate, List.length_map, List.length_range, List.length_take, List.length_drop, List.all_cons, List.all_nil, AV.isCell, Bool.and_self, Bool.and_true, bs_length, is64_length, w64_length, ints_length, ints_length, bools_len, List.length_map, lfs_length] <;> omega) | rfl | decide) only [a20l0b, run_seq, run_region, runOps_cons, oper_none, ex_mov, opv, List.getD_cons_succ, List.getD_cons_zero, putK_to, List.set_cons_succ, List.set_cons_zero, opsK_some, ex_len, lenA_sl, valK_some, ex_bin, bin_lss, Int.lt_irrefl, decide_false, runOps_nil, regK_some, seqK_normal, run_cond, condK_bool, Bool.false_eq_true, ↓reduceIte, run_exit, seqK_exit, loopK_exit, a20l0c]
  | d + 1, i, h => by
    have hlt : (i : Int) < (l.length : Nat) := by omega
    have ih := ints_same_loop (z := z) (z' := z') (s4 := s4) (H := H) hl d (i + 1) (by omega)
    rw [a20l0n]
    simp (maxSteps := 30000000) (disch := first | assumption | omega | (simp only [List.length_cons, List.length_nil, List.length_append, List.length_set, List.length_replicate, List.length_map, List.length_range, List.length_take, List.length_drop, List.all_cons, List.all_nil, AV.isCell, Bool.and_self, Bool.and_true, bs_length, is64_length, w64_length, ints_length, ints_length, bools_len, List.length_map, lfs_length] <;> omega) | rfl | decide) only [a20l0b, run_seq, run_region, runOps_cons, oper_none, ex_mov, opv, List.getD_cons_succ, List.getD_cons_zero, putK_to, List.set_cons_succ, List.set_cons_zero, opsK_some, ex_len, lenA_sl, valK_some, ex_bin, bin_lss, hlt, decide_true, runOps_nil, regK_some, seqK_normal, run_cond, condK_bool, ↓reduceIte, run_skip, run_block, run_draw, List.take_succ_cons, List.take_zero, runFree_cons, foper_none, fe_mov, fstK_some, fputK_to, freeK_some, fe_iaddr, ex_iaddr, iaddrA_sl, Int.toNat_natCast, Nat.mul_one, fe_load, ex_load, rd_vptr, ints_drop, ints_take, ints_at0, getD_dropI, Nat.add_zero, loadK_1, runFree_nil, drawK_some, List.drop_succ_cons, List.drop_zero, adopt, adoptVal, bin_neq, Bool.not_true, Bool.false_eq_true, blockK_normal, bin_add, cadd1, wr64, loopK_normal, a20l0c, ih]
theorem ints_same (z z' : Bool) (l : List Int) (hl : l.length < 1099511627776) : L.pcall 20 [iw z l, iw z' l] = some (.bool true) := by
  have ih := fun s4 => ints_same_loop (z := z) (z' := z') (s4 := s4) (H := []) hl l.length 0 (by omega)
  simp only [Int.natCast_zero] at ih
  rw [a20p, a20, pbodyA_eq]
  simp (maxSteps := 30000000) (disch := first | assumption | omega | (simp only [List.length_cons, List.length_nil, List.length_append, List.length_set, List.length_replicate, List.length_map, List.length_range, List.length_take, List.length_drop, List.all_cons, List.all_nil, AV.isCell, Bool.and_self, Bool.and_true, bs_length, is64_length, w64_length, ints_length, ints_length, bools_len, List.length_map, lfs_length] <;> omega) | rfl | decide) only [bodyA_eq, List.length_cons, List.length_nil, Nat.zero_add, Nat.reduceAdd, Nat.reduceSub, pads, List.cons_append, List.nil_append, run_seq, run_region, runOps_cons, oper_none, ex_mov, opv, putK_to, List.set_cons_succ, List.set_cons_zero, opsK_some, runOps_nil, regK_some, seqK_normal, List.getD_cons_zero, ex_len, List.getD_cons_succ, lenA_sl, valK_some, ex_bin, bin_neq, decide_true, Bool.not_true, run_cond, condK_bool, Bool.false_eq_true, ↓reduceIte, run_skip, run_block, run_loop, a20l0c, ih, blockK_exit, run_ret, bodyK_ret, results_1, res_tmp, retvK_some, pbodyK_some, frzN, frz_bool]
/-- the part of an automaton, as data -/
def subD (d : Dfa) : Da := ⟨nrm d.vars 3, nrm d.empty (min 8 d.next.length : Nat), (List.range (min 8 d.next.length)).map fun l => (List.range (min 8 d.next.length)).map fun r => rowS d (min 8 d.next.length) (two (nrm d.vars 3)) l r, fiS d (min 8 d.next.length)⟩
theorem subT_some {d : Dfa} (h : d.next.length ≠ 0) : subT d = (subD d).av := by
  unfold subT
  rw [if_neg h]
  unfold Da.av Da.cells subD stT rowsT
  simp only [List.length_map, List.length_range, List.map_map, fiS_len]
  congr 5
  apply List.map_congr_left
  intro k _
  simp only [Function.comp, rowsD, List.length_map, List.length_range, List.map_map]
  rfl
theorem cellS_bd {d : Dfa} {n l r x : Nat} (hn : 0 < n) : 0 ≤ cellS d n l r x ∧ cellS d n l r x < (n : Nat) := by
  unfold cellS
  split
  · exact nrm_bd _ (by omega)
  · omega
theorem subD_valid {d : Dfa} (h : d.next.length ≠ 0) : Va (subD d) := by
  have h1 := nrm_bd d.vars (n := 3) (by omega)
  have h2 := nrm_bd d.empty (n := ((min 8 d.next.length : Nat) : Int)) (by omega)
  have hlen : (subD d).next.length = min 8 d.next.length := by simp [subD]
  refine ⟨h1.1, by show nrm d.vars 3 ≤ 3; omega, by rw [hlen]; omega, by rw [hlen]; omega, by rw [hlen]; exact fiS_len d _, h2.1, by rw [hlen]; exact h2.2, fun rows hr => ?_, fun rows hr row hw => ?_, fun rows hr row hw s hs => ?_⟩
  · obtain ⟨l, _, rfl⟩ := List.mem_map.1 hr
    rw [hlen]; simp
  · obtain ⟨l, _, rfl⟩ := List.mem_map.1 hr
    obtain ⟨r, _, rfl⟩ := List.mem_map.1 hw
    exact rowS_len ..
  · obtain ⟨l, _, rfl⟩ := List.mem_map.1 hr
    obtain ⟨r, _, rfl⟩ := List.mem_map.1 hw
    obtain ⟨x, _, rfl⟩ := List.mem_map.1 hs
    rw [hlen]
    exact cellS_bd (by omega)
end Go.Abs.Det
