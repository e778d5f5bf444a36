/- Of, Equal; automata as values; cubes; words. -/
import Derived.Test.YtijmhicopfphnaaDoorAN2
namespace Go.Abs.Tree
open Go Go.Abs
set_option linter.unusedSimpArgs false
set_option linter.unusedVariables false

abbrev iw (z : Bool) (l : List Int) : AV := .sl z l.length (ints l)

theorem with_hasI {v : AV} {S : Nat → Bool} (hv : HasSet v S) (k : Int) (h0 : 0 ≤ k) (hk : k < 4096) : ∃ z l, L.pcall 72 [v, .int .i64 k] = some (sw z l) ∧ HasSet (sw z l) (fun j => S j || decide (j = k.toNat)) := by
  have := with_has hv k.toNat (by omega)
  rwa [Int.toNat_of_nonneg h0] at this

theorem drop_getI {l : List Int} {i : Nat} (h : i < l.length) : l.drop i = l.getD i 0 :: l.drop (i + 1) := by
  rw [List.drop_eq_getElem_cons h]
  simp [List.getD, List.getElem?_eq_getElem h]

theorem of_loop {l : List Int} {z : Bool} {H : Heap} (hl : l.length < 1099511627776) (hq : ∀ q ∈ l, 0 ≤ q ∧ q < 4096) : ∀ d i zv r S, i + d = l.length → HasSet (sw zv r) S →
    ∃ z' r', L.loop a36l0s a36l0 ⟨a36l0F (sw zv r) (iw z l) (.int .i64 (l.length : Nat)) (.int .i64 (i : Nat)), H⟩ = some (.exit 0, ⟨a36l0F (sw z' r') (iw z l) (.int .i64 (l.length : Nat)) (.int .i64 (l.length : Nat)), H⟩) ∧ HasSet (sw z' r') (fun j => S j || (l.drop i).contains (j : Int))
  | 0, i, zv, r, S, h, hS => by
    obtain rfl : i = l.length := by omega
    refine ⟨zv, r, ?_, hS.congr (fun j => by simp)⟩
    rw [a36l0n]
    simp (maxSteps := 30000000) (disch := first | assumption | omega | (simp only [List.length_cons, List.length_nil, List.length_append, List.length_set, List.length_replicate, List.length_map, List.length_range, List.length_take, List.length_drop, List.all_cons, List.all_nil, AV.isCell, Bool.and_self, Bool.and_true, bs_length, is64_length, w64_length, ints_length] <;> omega) | rfl | decide) only [a36l0b, run_seq, run_region, runOps_cons, oper_none, ex_bin, opv, List.getD_cons_succ, List.getD_cons_zero, bin_lss, Int.lt_irrefl, decide_false, valK_some, putK_to, List.set_cons_succ, List.set_cons_zero, opsK_some, runOps_nil, regK_some, seqK_normal, run_cond, condK_bool, Bool.false_eq_true, run_skip, run_exit, if_false, seqK_exit, loopK_exit, a36l0c]
  | d + 1, i, zv, r, S, h, hS => by
    have hlt : (i : Int) < (l.length : Nat) := by omega
    have hm : l.getD i 0 ∈ l := by
      rw [List.getD_eq_getElem?_getD, List.getElem?_eq_getElem (by omega)]
      exact List.getElem_mem _
    obtain ⟨z1, r1, h1, h2⟩ := with_hasI hS (l.getD i 0) (hq _ hm).1 (hq _ hm).2
    obtain ⟨z2, r2, h3, h4⟩ := of_loop (z := z) (H := H) hl hq d (i + 1) z1 r1 _ (by omega) h2
    refine ⟨z2, r2, ?_, h4.congr (fun j => ?_)⟩
    · rw [a36l0n]
      simp (maxSteps := 30000000) (disch := first | assumption | omega | (simp only [List.length_cons, List.length_nil, List.length_append, List.length_set, List.length_replicate, List.length_map, List.length_range, List.length_take, List.length_drop, List.all_cons, List.all_nil, AV.isCell, Bool.and_self, Bool.and_true, bs_length, is64_length, w64_length, ints_length] <;> omega) | rfl | decide) only [a36l0b, run_seq, run_region, runOps_cons, oper_none, ex_bin, opv, List.getD_cons_succ, List.getD_cons_zero, bin_lss, hlt, decide_true, valK_some, putK_to, List.set_cons_succ, List.set_cons_zero, opsK_some, runOps_nil, regK_some, seqK_normal, run_cond, condK_bool, run_skip, run_exit, if_true, run_block, ex_iaddr, iaddrA_sl, Int.toNat_natCast, Nat.mul_one, ex_load, rd_vptr, ints_drop, ints_take, ints_at0, getD_dropI, Nat.add_zero, loadK_1, ex_mov, ex_call, List.map_cons, List.map_nil, pcallA_eq, frzN, List.mapM_cons, frz_sl, frz_int, List.mapM_nil, Option.pure_def, Option.bind_eq_bind, Option.bind_some, argK_some, h1, retK_some, scal, scal1, Bool.false_eq_true, fzIds, List.flatMap_cons, bor_sl, bor_int, List.flatMap_nil, List.append_nil, List.foldl_nil, ite_self, blockK_normal, bin_add, cadd1, wr64, loopK_normal, a36l0c, h3]
    · rw [drop_getI (by omega : i < l.length), List.contains_cons]
      have hn := (hq _ hm).1
      have : (decide (j = (l.getD i 0).toNat)) = ((j : Int) == l.getD i 0) := by
        rw [Bool.eq_iff_iff]
        simp only [decide_eq_true_eq, beq_iff_eq]
        omega
      rw [this, Bool.or_assoc]

theorem of_has {l : List Int} {z : Bool} (hl : l.length < 1099511627776) (hq : ∀ q ∈ l, 0 ≤ q ∧ q < 4096) : ∃ z' r, L.pcall 36 [iw z l] = some (sw z' r) ∧ HasSet (sw z' r) (fun j => l.contains (j : Int)) := by
  obtain ⟨z', r, h1, h2⟩ := of_loop (z := z) (H := []) hl hq l.length 0 true [] _ (by omega) (empty_has (z := true))
  refine ⟨z', r, ?_, h2.congr (fun j => by simp)⟩
  simp only [Int.natCast_zero] at h1
  change L.loop a36l0s a36l0 ⟨a36l0F (.sl true 0 []) _ _ _, _⟩ = _ at h1
  rw [a36p, a36, pbodyA_eq]
  simp (maxSteps := 30000000) (disch := first | assumption | omega | (simp only [List.length_cons, List.length_nil, List.length_append, List.length_set, List.length_replicate, List.length_map, List.length_range, List.length_take, List.length_drop, List.all_cons, List.all_nil, AV.isCell, Bool.and_self, Bool.and_true, bs_length, is64_length, w64_length, ints_length] <;> omega) | rfl | decide) only [bodyA_eq, List.length_cons, List.length_nil, Nat.zero_add, Nat.reduceSub, pads, List.cons_append, List.nil_append, run_seq, run_region, runOps_cons, oper_none, ex_mov, opv, putK_to, List.set_cons_succ, List.set_cons_zero, opsK_some, runOps_nil, regK_some, seqK_normal, List.getD_cons_zero, ex_len, List.getD_cons_succ, lenA_sl, valK_some, run_block, run_loop, a36l0c, h1, blockK_exit, if_true, run_ret, bodyK_ret, results_1, res_tmp, retvK_some, pbodyK_some, frzN, frz_sl]

/-! equality -/
theorem drop_getN {l : List Nat} {i : Nat} (h : i < l.length) : l.drop i = l.getD i 0 :: l.drop (i + 1) := by
  rw [List.drop_eq_getElem_cons h]
  simp [List.getD, List.getElem?_eq_getElem h]

theorem eq60_loop {l l' : List Nat} {z z' : Bool} {s4 : AV} {H : Heap} (hl : l.length < 1099511627776) (he : l'.length = l.length) : ∀ d i, i + d = l.length →
    ∃ i' : Nat, L.loop a79l0s a79l0 ⟨a79l0F (sw z l) (sw z' l') s4 (.int .i64 (l.length : Nat)) (.int .i64 (i : Nat)), H⟩ =
      some (if l.drop i = l'.drop i then (.exit 0, ⟨a79l0F (sw z l) (sw z' l') s4 (.int .i64 (l.length : Nat)) (.int .i64 (l.length : Nat)), H⟩) else (.ret, ⟨a79l0F (sw z l) (sw z' l') (.bool false) (.int .i64 (l.length : Nat)) (.int .i64 (i' : Nat)), H⟩))
  | 0, i, h => by
    obtain rfl : i = l.length := by omega
    refine ⟨0, ?_⟩
    rw [if_pos (by rw [List.drop_length, List.drop_of_length_le (by omega)]), a79l0n]
    simp (maxSteps := 30000000) (disch := first | assumption | omega | (simp only [List.length_cons, List.length_nil, List.length_append, List.length_set, List.length_replicate, List.length_map, List.length_range, List.length_take, List.length_drop, List.all_cons, List.all_nil, AV.isCell, Bool.and_self, Bool.and_true, bs_length, is64_length, w64_length, ints_length] <;> omega) | rfl | decide) only [a79l0b, run_seq, run_region, runOps_cons, oper_none, ex_bin, opv, List.getD_cons_succ, List.getD_cons_zero, bin_lss, Int.lt_irrefl, decide_false, valK_some, putK_to, List.set_cons_succ, List.set_cons_zero, opsK_some, runOps_nil, regK_some, seqK_normal, run_cond, condK_bool, Bool.false_eq_true, run_skip, run_exit, if_false, seqK_exit, loopK_exit, a79l0c]
  | d + 1, i, h => by
    have hlt : (i : Int) < (l.length : Nat) := by omega
    obtain ⟨i', ih⟩ := eq60_loop (z := z) (z' := z') (s4 := s4) (H := H) hl he d (i + 1) (by omega)
    rw [drop_getN (by omega : i < l.length), drop_getN (by omega : i < l'.length)]
    by_cases e : l.getD i 0 = l'.getD i 0
    · have e' : (((l.getD i 0 : Nat) : Int) = ((l'.getD i 0 : Nat) : Int)) = True := eq_true (by omega)
      refine ⟨i', ?_⟩
      rw [a79l0n]
      simp only [List.cons.injEq, e, true_and]
      by_cases e2 : l.drop (i + 1) = l'.drop (i + 1)
      · rw [if_pos e2] at ih ⊢
        simp (maxSteps := 30000000) (disch := first | assumption | omega | (simp only [List.length_cons, List.length_nil, List.length_append, List.length_set, List.length_replicate, List.length_map, List.length_range, List.length_take, List.length_drop, List.all_cons, List.all_nil, AV.isCell, Bool.and_self, Bool.and_true, bs_length, is64_length, w64_length, ints_length] <;> omega) | rfl | decide) only [a79l0b, run_seq, run_region, runOps_cons, oper_none, ex_bin, opv, List.getD_cons_succ, List.getD_cons_zero, bin_lss, hlt, decide_true, valK_some, putK_to, List.set_cons_succ, List.set_cons_zero, opsK_some, runOps_nil, regK_some, seqK_normal, run_cond, condK_bool, run_skip, run_exit, if_true, run_block, ex_mov, run_draw, List.take_succ_cons, List.take_zero, runFree_cons, foper_none, fe_mov, fstK_some, fputK_to, freeK_some, fe_iaddr, ex_iaddr, iaddrA_sl, Int.toNat_natCast, Nat.mul_one, fe_load, ex_load, rd_vptr, w64_drop, w64_take, w64_at0, drop_getD, Nat.add_zero, loadK_1, runFree_nil, drawK_some, List.drop_succ_cons, List.drop_zero, adopt, adoptVal, bin_neq, e', Bool.not_true, Bool.false_eq_true, run_ret, if_false, blockK_normal, bin_add, cadd1, wr64, loopK_normal, a79l0c, ih]
      · rw [if_neg e2] at ih ⊢
        simp (maxSteps := 30000000) (disch := first | assumption | omega | (simp only [List.length_cons, List.length_nil, List.length_append, List.length_set, List.length_replicate, List.length_map, List.length_range, List.length_take, List.length_drop, List.all_cons, List.all_nil, AV.isCell, Bool.and_self, Bool.and_true, bs_length, is64_length, w64_length, ints_length] <;> omega) | rfl | decide) only [a79l0b, run_seq, run_region, runOps_cons, oper_none, ex_bin, opv, List.getD_cons_succ, List.getD_cons_zero, bin_lss, hlt, decide_true, valK_some, putK_to, List.set_cons_succ, List.set_cons_zero, opsK_some, runOps_nil, regK_some, seqK_normal, run_cond, condK_bool, run_skip, run_exit, if_true, run_block, ex_mov, run_draw, List.take_succ_cons, List.take_zero, runFree_cons, foper_none, fe_mov, fstK_some, fputK_to, freeK_some, fe_iaddr, ex_iaddr, iaddrA_sl, Int.toNat_natCast, Nat.mul_one, fe_load, ex_load, rd_vptr, w64_drop, w64_take, w64_at0, drop_getD, Nat.add_zero, loadK_1, runFree_nil, drawK_some, List.drop_succ_cons, List.drop_zero, adopt, adoptVal, bin_neq, e', Bool.not_true, Bool.false_eq_true, run_ret, if_false, blockK_normal, bin_add, cadd1, wr64, loopK_normal, a79l0c, ih]
    · have e' : (((l.getD i 0 : Nat) : Int) = ((l'.getD i 0 : Nat) : Int)) = False := eq_false (by omega)
      refine ⟨i, ?_⟩
      rw [if_neg (fun q => e (List.cons.inj q).1), a79l0n]
      simp (maxSteps := 30000000) (disch := first | assumption | omega | (simp only [List.length_cons, List.length_nil, List.length_append, List.length_set, List.length_replicate, List.length_map, List.length_range, List.length_take, List.length_drop, List.all_cons, List.all_nil, AV.isCell, Bool.and_self, Bool.and_true, bs_length, is64_length, w64_length, ints_length] <;> omega) | rfl | decide) only [a79l0b, run_seq, run_region, runOps_cons, oper_none, ex_bin, opv, List.getD_cons_succ, List.getD_cons_zero, bin_lss, hlt, decide_true, valK_some, putK_to, List.set_cons_succ, List.set_cons_zero, opsK_some, runOps_nil, regK_some, seqK_normal, run_cond, condK_bool, run_skip, run_exit, if_true, run_block, ex_mov, run_draw, List.take_succ_cons, List.take_zero, runFree_cons, foper_none, fe_mov, fstK_some, fputK_to, freeK_some, fe_iaddr, ex_iaddr, iaddrA_sl, Int.toNat_natCast, Nat.mul_one, fe_load, ex_load, rd_vptr, w64_drop, w64_take, w64_at0, drop_getD, Nat.add_zero, loadK_1, runFree_nil, drawK_some, List.drop_succ_cons, List.drop_zero, adopt, adoptVal, bin_neq, e', decide_false, Bool.not_false, run_ret, blockK_ret, seqK_ret, loopK_ret, a79l0c]

theorem eq60 (z z' : Bool) (l l' : List Nat) (hl : l.length < 1099511627776) (hl' : l'.length < 1099511627776) : L.pcall 79 [sw z l, sw z' l'] = some (.bool (decide (l = l'))) := by
  rw [a79p, a79, pbodyA_eq]
  by_cases h : l.length = l'.length
  · obtain ⟨i', ih⟩ := eq60_loop (z := z) (z' := z') (s4 := .bool false) (H := []) hl h.symm l.length 0 (by omega)
    simp only [Int.natCast_zero, List.drop_zero] at ih
    have e' : (((l.length : Nat) : Int) = ((l'.length : Nat) : Int)) = True := eq_true (by omega)
    by_cases e : l = l'
    · subst e
      rw [if_pos rfl] at ih
      simp (maxSteps := 30000000) (disch := first | assumption | omega | (simp only [List.length_cons, List.length_nil, List.length_append, List.length_set, List.length_replicate, List.length_map, List.length_range, List.length_take, List.length_drop, List.all_cons, List.all_nil, AV.isCell, Bool.and_self, Bool.and_true, bs_length, is64_length, w64_length, ints_length] <;> omega) | rfl | decide) only [bodyA_eq, List.length_cons, List.length_nil, Nat.zero_add, Nat.reduceAdd, Nat.reduceSub, pads, List.cons_append, List.nil_append, run_seq, run_region, runOps_cons, oper_none, ex_mov, opv, putK_to, List.set_cons_succ, List.set_cons_zero, opsK_some, runOps_nil, regK_some, seqK_normal, List.getD_cons_zero, ex_len, List.getD_cons_succ, lenA_sl, valK_some, ex_bin, bin_neq, decide_true, Bool.not_true, run_cond, condK_bool, Bool.false_eq_true, run_ret, run_skip, if_false, run_block, run_loop, a79l0c, ih, blockK_exit, if_true, bodyK_ret, results_1, res_tmp, retvK_some, pbodyK_some, frzN, frz_bool]
    · rw [if_neg e] at ih
      simp (maxSteps := 30000000) (disch := first | assumption | omega | (simp only [List.length_cons, List.length_nil, List.length_append, List.length_set, List.length_replicate, List.length_map, List.length_range, List.length_take, List.length_drop, List.all_cons, List.all_nil, AV.isCell, Bool.and_self, Bool.and_true, bs_length, is64_length, w64_length, ints_length] <;> omega) | rfl | decide) only [bodyA_eq, List.length_cons, List.length_nil, Nat.zero_add, Nat.reduceAdd, Nat.reduceSub, pads, List.cons_append, List.nil_append, run_seq, run_region, runOps_cons, oper_none, ex_mov, opv, putK_to, List.set_cons_succ, List.set_cons_zero, opsK_some, runOps_nil, regK_some, seqK_normal, List.getD_cons_zero, ex_len, List.getD_cons_succ, lenA_sl, valK_some, ex_bin, bin_neq, e', decide_true, Bool.not_true, run_cond, condK_bool, Bool.false_eq_true, run_ret, run_skip, if_false, run_block, run_loop, a79l0c, ih, blockK_ret, seqK_ret, bodyK_ret, results_1, res_tmp, retvK_some, pbodyK_some, frzN, frz_bool, e, decide_false]
  · have e' : (((l.length : Nat) : Int) = ((l'.length : Nat) : Int)) = False := eq_false (by omega)
    have e : ¬ l = l' := by rintro rfl; exact h rfl
    simp (maxSteps := 30000000) (disch := first | assumption | omega | (simp only [List.length_cons, List.length_nil, List.length_append, List.length_set, List.length_replicate, List.length_map, List.length_range, List.length_take, List.length_drop, List.all_cons, List.all_nil, AV.isCell, Bool.and_self, Bool.and_true, bs_length, is64_length, w64_length, ints_length] <;> omega) | rfl | decide) only [bodyA_eq, List.length_cons, List.length_nil, Nat.zero_add, Nat.reduceAdd, Nat.reduceSub, pads, List.cons_append, List.nil_append, run_seq, run_region, runOps_cons, oper_none, ex_mov, opv, putK_to, List.set_cons_succ, List.set_cons_zero, opsK_some, runOps_nil, regK_some, seqK_normal, List.getD_cons_zero, ex_len, List.getD_cons_succ, lenA_sl, valK_some, ex_bin, bin_neq, e', decide_false, Bool.not_false, run_cond, condK_bool, run_ret, run_skip, if_true, seqK_ret, bodyK_ret, results_1, res_tmp, retvK_some, pbodyK_some, frzN, frz_bool, e]

theorem canon_ext {a b : List Nat} (wa : W a) (wb : W b) (h : ∀ j, mem a j = mem b j) : combM (· ||| ·) a [] = combM (· ||| ·) b [] := by
  have hw : ∀ a, W a → W (combM (· ||| ·) a []) := fun a wa => combM_W (fun x y hx hy => or_lt hx hy) wa (by intro x hx; simp at hx)
  have hget : ∀ i, i < 64 → (combM (· ||| ·) a []).getD i 0 = (combM (· ||| ·) b []).getD i 0 := by
    intro i hi
    rw [combM_get _ _ _ (by simp) _ hi, combM_get _ _ _ (by simp) _ hi]
    simp only [List.getD_nil, Nat.or_zero]
    apply Nat.eq_of_testBit_eq
    intro t
    by_cases ht : t < 64
    · have := h (64 * i + t)
      unfold mem at this
      rw [show (64 * i + t) / 64 = i by omega, show (64 * i + t) % 64 = t by omega] at this
      simpa [show 64 * i + t < 4096 by omega] using this
    · have big : ∀ x, x < 18446744073709551616 → x.testBit t = false := fun x hx => Nat.testBit_lt_two_pow (Nat.lt_of_lt_of_le hx (by
        have : 2 ^ 64 ≤ 2 ^ t := Nat.pow_le_pow_right (by omega) (by omega)
        omega))
      rw [big _ (wa.get i), big _ (wb.get i)]
  have la := combM_len (· ||| ·) a []
  have lb := combM_len (· ||| ·) b []
  have hlen : (combM (· ||| ·) a []).length = (combM (· ||| ·) b []).length := by
    rcases Nat.lt_trichotomy (combM (· ||| ·) a []).length (combM (· ||| ·) b []).length with q | q | q
    · exfalso
      have hne : combM (· ||| ·) b [] ≠ [] := by intro e; rw [e] at q; simp at q
      refine combM_last _ b [] hne ?_
      rw [← hget _ (by omega)]
      exact getD_out (by omega)
    · exact q
    · exfalso
      have hne : combM (· ||| ·) a [] ≠ [] := by intro e; rw [e] at q; simp at q
      refine combM_last _ a [] hne ?_
      rw [hget _ (by omega)]
      exact getD_out (by omega)
  apply List.ext_getElem hlen
  intro i h1 h2
  have := hget i (by omega)
  simpa [List.getD, List.getElem?_eq_getElem h1, List.getElem?_eq_getElem h2] using this

theorem equal_has {v u : AV} {S T : Nat → Bool} (hv : HasSet v S) (hu : HasSet u T) : ∃ t, L.pcall 42 [v, u] = some (.bool t) ∧ (t = true ↔ ∀ j, S j = T j) := by
  obtain ⟨za, a, rfl, wa, la, ha⟩ := id hv
  obtain ⟨zb, b, rfl, wb, lb, hb⟩ := id hu
  have wn : W [] := by intro x hx; simp at hx
  obtain ⟨z1, h1⟩ := union_raw (za := za) (zb := true) wa wn la (by simp)
  obtain ⟨z2, h2⟩ := union_raw (za := zb) (zb := true) wb wn lb (by simp)
  have l1 := combM_len (· ||| ·) a []
  have l2 := combM_len (· ||| ·) b []
  change L.pcall 95 [sw za a, .sl true 0 []] = _ at h1
  change L.pcall 95 [sw zb b, .sl true 0 []] = _ at h2
  have g : ∀ z l v, L.pcall 95 [sw z l, .sl true 0 []] = some v → (∃ z' l', v = sw z' l') → L.pcall 73 [sw z l] = some v := by
    rintro z l v h ⟨z', l', rfl⟩
    rw [a73p, a73, pbodyA_eq]
    simp (maxSteps := 30000000) (disch := first | assumption | omega | (simp only [List.length_cons, List.length_nil, List.length_append, List.length_set, List.length_replicate, List.length_map, List.length_range, List.length_take, List.length_drop, List.all_cons, List.all_nil, AV.isCell, Bool.and_self, Bool.and_true, bs_length, is64_length, w64_length, ints_length] <;> omega) | rfl | decide) only [bodyA_eq, List.length_cons, List.length_nil, Nat.zero_add, Nat.reduceSub, pads, List.cons_append, List.nil_append, run_seq, run_region, runOps_cons, oper_none, ex_mov, opv, putK_to, List.set_cons_succ, List.set_cons_zero, opsK_some, runOps_nil, regK_some, seqK_normal, List.getD_cons_zero, ex_call, List.map_cons, List.getD_cons_succ, List.map_nil, pcallA_eq, frzN, List.mapM_cons, frz_sl, List.mapM_nil, Option.pure_def, Option.bind_eq_bind, Option.bind_some, argK_some, h, retK_some, scal, scal1, Bool.false_eq_true, fzIds, List.flatMap_cons, bor_sl, List.flatMap_nil, List.append_nil, List.foldl_nil, ite_self, run_ret, bodyK_ret, results_1, res_tmp, retvK_some, pbodyK_some]
  have g1 := g _ _ _ h1 ⟨_, _, rfl⟩
  have g2 := g _ _ _ h2 ⟨_, _, rfl⟩
  have g3 := eq60 z1 z2 (combM (· ||| ·) a []) (combM (· ||| ·) b []) (by omega) (by omega)
  refine ⟨decide (combM (· ||| ·) a [] = combM (· ||| ·) b []), ?_, ?_⟩
  · rw [a42p, a42, pbodyA_eq]
    simp (maxSteps := 30000000) (disch := first | assumption | omega | (simp only [List.length_cons, List.length_nil, List.length_append, List.length_set, List.length_replicate, List.length_map, List.length_range, List.length_take, List.length_drop, List.all_cons, List.all_nil, AV.isCell, Bool.and_self, Bool.and_true, bs_length, is64_length, w64_length, ints_length] <;> omega) | rfl | decide) only [bodyA_eq, List.length_cons, List.length_nil, Nat.zero_add, Nat.reduceAdd, Nat.reduceSub, pads, List.cons_append, List.nil_append, run_seq, run_region, runOps_cons, oper_none, ex_mov, opv, putK_to, List.set_cons_succ, List.set_cons_zero, opsK_some, runOps_nil, regK_some, seqK_normal, List.getD_cons_zero, ex_call, List.map_cons, List.getD_cons_succ, List.map_nil, pcallA_eq, frzN, List.mapM_cons, frz_sl, List.mapM_nil, Option.pure_def, Option.bind_eq_bind, Option.bind_some, argK_some, g1, retK_some, scal, scal1, Bool.false_eq_true, fzIds, List.flatMap_cons, bor_sl, List.flatMap_nil, List.append_nil, List.foldl_nil, ite_self, g2, g3, run_ret, bodyK_ret, results_1, res_tmp, retvK_some, pbodyK_some, frz_bool]
  · rw [decide_eq_true_eq]
    constructor
    · intro e j
      by_cases hj : j < 4096
      · have q : ∀ l, mem (combM (· ||| ·) l []) j = mem l j := fun l => by
          rw [mem_comb (f := (· || ·)) l [] (by simp) (fun x y i => by simp) j hj]
          simp [mem]
        rw [← ha, ← hb, ← q a, ← q b, e]
      · rw [hv.out (j := j) (by omega), hu.out (j := j) (by omega)]
    · intro h
      exact canon_ext wa wb (fun j => by rw [ha, hb, h])
end Go.Abs.Tree
