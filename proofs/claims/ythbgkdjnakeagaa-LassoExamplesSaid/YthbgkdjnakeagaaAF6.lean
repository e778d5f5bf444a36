/- root: the failure function gives the longest borders. -/
import Derived.Test.YthbgkdjnakeagaaAW2
namespace Go.Abs.Lasso
set_option linter.unusedVariables false
set_option linter.unusedSimpArgs false
open Go Go.Abs
set_option linter.unusedSimpArgs false

/-- k letters at the head of w stand again just before i -/
def Bord (w : List Nat) (i k : Nat) : Prop := k < i ∧ ∀ t, t < k → w.getD t 0 = w.getD (i - k + t) 0

theorem Bord.chain {w : List Nat} {i k j : Nat} (h : Bord w i k) (h2 : Bord w k j) : Bord w i j := by
  refine ⟨by have := h.1; have := h2.1; omega, fun t ht => ?_⟩
  rw [h2.2 t ht, h.2 (k - j + t) (by have := h2.1; omega)]
  congr 1
  have := h.1; have := h2.1; omega

theorem Bord.ext {w : List Nat} {i k : Nat} (h : Bord w i k) (he : w.getD i 0 = w.getD k 0) : Bord w (i + 1) (k + 1) := by
  refine ⟨by have := h.1; omega, fun t ht => ?_⟩
  have hk := h.1
  by_cases e : t = k
  · subst e
    rw [← he]; congr 1; omega
  · rw [h.2 t (by omega)]; congr 1; omega


theorem Bord.zero {w : List Nat} {i : Nat} (h : 0 < i) : Bord w i 0 := ⟨h, fun t ht => by omega⟩

/-- no border of i letters is longer than k -/
def MaxB (w : List Nat) (i k : Nat) : Prop := ∀ b, Bord w i b → b ≤ k

/-- of two borders the shorter is a border of the longer -/
theorem Bord.inner {w : List Nat} {i k b : Nat} (h : Bord w i k) (h2 : Bord w i b) (hlt : b < k) : Bord w k b := by
  refine ⟨hlt, fun t ht => ?_⟩
  have hk := h.1
  have hb := h2.1
  rw [h2.2 t ht, h.2 (k - b + t) (by omega)]
  congr 1; omega

theorem Bord.prev {w : List Nat} {i c : Nat} (h : Bord w (i + 1) (c + 1)) : Bord w i c ∧ w.getD i 0 = w.getD c 0 := by
  have h1 := h.1
  refine ⟨⟨by omega, fun t ht => ?_⟩, ?_⟩
  · rw [h.2 t (by omega)]; congr 1; omega
  · rw [h.2 c (by omega)]; congr 1; omega

theorem root_inner {z : Bool} {w fl : List Nat} {i : Nat} (hi : i < w.length) (hw : w.length < 1099511627776) (hfl : fl.length = w.length + 1) (hf : ∀ j, 0 < j → j ≤ i → Bord w j (fl.getD j 0) ∧ MaxB w j (fl.getD j 0)) :
    ∀ k, Bord w i k → (∀ b, Bord w i b → k < b → w.getD i 0 ≠ w.getD b 0) → ∃ k', Bord w i k' ∧ (k' = 0 ∨ w.getD i 0 = w.getD k' 0) ∧ (∀ b, Bord w i b → k' < b → w.getD i 0 ≠ w.getD b 0) ∧
      L.loop a36l0s a36l0 ⟨a36l0F (word z w) (.own false 0 0 (w.length + 1) 1) (.int .i64 (k : Nat)) (.int .i64 (i : Nat)), [.cells false false (is64 fl)]⟩ = some (.exit 2, ⟨a36l0F (word z w) (.own false 0 0 (w.length + 1) 1) (.int .i64 (k' : Nat)) (.int .i64 (i : Nat)), [.cells false false (is64 fl)]⟩) := by
  intro k
  induction k using Nat.strongRecOn with
  | _ k ih =>
    intro hk hm
    have hki := hk.1
    by_cases h0 : k = 0
    · refine ⟨k, hk, .inl h0, hm, ?_⟩
      have hng : ¬ ((0 : Int) < (k : Nat)) := by omega
      rw [a36l0n]
      simp (maxSteps := 30000000) (disch := first | assumption | omega | (simp only [List.length_cons, List.length_nil, List.length_append, List.length_set, List.length_replicate, List.length_map, List.length_range, List.length_take, List.length_drop, List.all_cons, List.all_nil, AV.isCell, Bool.and_self, Bool.and_true, bs_length, is64_length] <;> omega) | rfl | decide) only [a36l0b, run_seq, run_draw, List.take_succ_cons, List.take_zero, runFree_cons, foper_none, fe_mov, ex_mov, opv, List.getD_cons_succ, List.getD_cons_zero, fstK_some, fputK_to, List.set_cons_succ, List.set_cons_zero, freeK_some, fe_bin, ex_bin, bin_gtr, hng, decide_false, valK_some, foper_guard, fguardK_bool, Bool.false_eq_true, putA_to, if_false, fe_iaddr, ex_iaddr, fe_load, ex_load, runFree_nil, drawK_some, List.drop_succ_cons, List.drop_zero, adopt, adoptVal, runOps_cons, oper_guard, guardK_bool, opsK_some, oper_none, ex_pick, pickA_bool, putK_to, runOps_nil, regK_some, seqK_normal, run_cond, condK_bool, run_skip, run_exit, seqK_exit, loopK_exit, a36l0c]
    · have hgt : ((0 : Int) < (k : Nat)) := by omega
      by_cases he : w.getD i 0 = w.getD k 0
      · refine ⟨k, hk, .inr he, hm, ?_⟩
        have heq : (((w.getD i 0 : Nat) : Int) = ((w.getD k 0 : Nat) : Int)) = True := eq_true (by omega)
        rw [a36l0n]
        simp (maxSteps := 30000000) (disch := first | assumption | omega | (simp only [List.length_cons, List.length_nil, List.length_append, List.length_set, List.length_replicate, List.length_map, List.length_range, List.length_take, List.length_drop, List.all_cons, List.all_nil, AV.isCell, Bool.and_self, Bool.and_true, bs_length, is64_length] <;> omega) | rfl | decide) only [a36l0b, run_seq, run_draw, List.take_succ_cons, List.take_zero, runFree_cons, foper_none, fe_mov, ex_mov, opv, List.getD_cons_succ, List.getD_cons_zero, fstK_some, fputK_to, List.set_cons_succ, List.set_cons_zero, freeK_some, fe_bin, ex_bin, bin_gtr, hgt, decide_true, valK_some, foper_guard, fguardK_bool, putA_to, if_true, fe_iaddr, ex_iaddr, iaddrA_sl, Int.toNat_natCast, Nat.mul_one, fe_load, ex_load, rd_vptr, bs_drop, bs_take, bs_at0, drop_getD, Nat.add_zero, loadK_1, runFree_nil, drawK_some, List.drop_succ_cons, List.drop_zero, adopt, adoptVal, runOps_cons, oper_guard, guardK_bool, bin_neq, heq, Bool.not_true, putK_to, opsK_some, oper_none, ex_pick, pickA_bool, ite_self, runOps_nil, regK_some, seqK_normal, run_cond, condK_bool, Bool.false_eq_true, run_skip, run_exit, if_false, seqK_exit, loopK_exit, a36l0c]
      · have hne : ¬ (((w.getD i 0 : Nat) : Int) = ((w.getD k 0 : Nat) : Int)) := by omega
        obtain ⟨hb, hbm⟩ := hf k (by omega) (by omega)
        obtain ⟨k', h1, h2, h4, h3⟩ := ih _ hb.1 (hk.chain hb) (fun b hb1 hb2 => by
          rcases Nat.lt_trichotomy b k with e | e | e
          · have := hbm b (hk.inner hb1 e); omega
          · subst e; exact he
          · exact hm b hb1 e)
        refine ⟨k', h1, h2, h4, ?_⟩
        rw [a36l0n]
        simp (maxSteps := 30000000) (disch := first | assumption | omega | (simp only [List.length_cons, List.length_nil, List.length_append, List.length_set, List.length_replicate, List.length_map, List.length_range, List.length_take, List.length_drop, List.all_cons, List.all_nil, AV.isCell, Bool.and_self, Bool.and_true, bs_length, is64_length] <;> omega) | rfl | decide) only [a36l0b, run_seq, run_draw, List.take_succ_cons, List.take_zero, runFree_cons, foper_none, fe_mov, ex_mov, opv, List.getD_cons_succ, List.getD_cons_zero, fstK_some, fputK_to, List.set_cons_succ, List.set_cons_zero, freeK_some, fe_bin, ex_bin, bin_gtr, hgt, decide_true, valK_some, foper_guard, fguardK_bool, putA_to, if_true, fe_iaddr, ex_iaddr, iaddrA_sl, Int.toNat_natCast, Nat.mul_one, fe_load, ex_load, rd_vptr, bs_drop, bs_take, bs_at0, drop_getD, Nat.add_zero, loadK_1, runFree_nil, drawK_some, List.drop_succ_cons, List.drop_zero, adopt, adoptVal, runOps_cons, oper_guard, guardK_bool, bin_neq, hne, decide_false, Bool.not_false, putK_to, opsK_some, oper_none, ex_pick, pickA_bool, runOps_nil, regK_some, seqK_normal, run_cond, condK_bool, run_skip, run_exit, run_block, run_region, iaddrA_own, Nat.zero_add, rd_ptr, List.getElem?_cons_zero, rdK_cells, is64_drop, is64_take, is64_at0, blockK_normal, loopK_normal, a36l0c, h3]

theorem root_outer {z : Bool} {w : List Nat} (hw : w.length < 1099511627776) : ∀ (d i k : Nat) (fl : List Nat), i + d = w.length → 0 < i → fl.length = w.length + 1 → (∀ j, 0 < j → j ≤ i → Bord w j (fl.getD j 0) ∧ MaxB w j (fl.getD j 0)) → Bord w i k → MaxB w i k →
    ∃ fl' k', fl'.length = w.length + 1 ∧ (∀ j, 0 < j → j ≤ w.length → Bord w j (fl'.getD j 0) ∧ MaxB w j (fl'.getD j 0)) ∧
      L.loop a36l1s a36l1 ⟨a36l1F (word z w) (.own false 0 0 (w.length + 1) 1) (.int .i64 (k : Nat)) (.int .i64 (i : Nat)), [.cells false false (is64 fl)]⟩ = some (.exit 0, ⟨a36l1F (word z w) (.own false 0 0 (w.length + 1) 1) (.int .i64 (k' : Nat)) (.int .i64 (w.length : Nat)), [.cells false false (is64 fl')]⟩)
  | 0, i, k, fl, hd, hi0, hfl, hf, hk, hmx => by
    have : i = w.length := by omega
    subst this
    refine ⟨fl, k, hfl, hf, ?_⟩
    rw [a36l1n]
    simp (maxSteps := 30000000) (disch := first | assumption | omega | (simp only [List.length_cons, List.length_nil, List.length_append, List.length_set, List.length_replicate, List.length_map, List.length_range, List.length_take, List.length_drop, List.all_cons, List.all_nil, AV.isCell, Bool.and_self, Bool.and_true, bs_length, is64_length] <;> omega) | rfl | decide) only [a36l1b, run_seq, run_region, runOps_cons, oper_none, ex_mov, opv, List.getD_cons_succ, List.getD_cons_zero, putK_to, List.set_cons_succ, List.set_cons_zero, opsK_some, ex_len, lenA_sl, valK_some, ex_bin, bin_lss, Int.lt_irrefl, decide_false, runOps_nil, regK_some, seqK_normal, run_cond, condK_bool, Bool.false_eq_true, run_skip, run_exit, if_false, seqK_exit, loopK_exit, a36l1c]
  | d + 1, i, k, fl, hd, hi0, hfl, hf, hk, hmx => by
    have hi : (i : Int) < (w.length : Nat) := by omega
    obtain ⟨k', hk', he, hm, hl⟩ := root_inner (z := z) (by omega) hw hfl hf k hk (fun b hb1 hb2 => absurd (hmx b hb1) (by omega))
    have hki := hk'.1
    by_cases hq : w.getD i 0 = w.getD k' 0
    · have hnew : MaxB w (i + 1) (k' + 1) := fun b hb => by
        cases b with
        | zero => omega
        | succ c =>
          obtain ⟨h1, h2⟩ := hb.prev
          rcases Nat.lt_or_ge k' c with e | e
          · exact absurd h2 (hm c h1 e)
          · omega
      obtain ⟨fl', k'', h1, h2, h3⟩ := root_outer (z := z) hw d (i + 1) (k' + 1) (fl.set (i + 1) (k' + 1)) (by omega) (by omega) (by simpa using hfl) (fun j hj0 hj1 => by
        by_cases e : j = i + 1
        · subst e
          rw [List.getD_eq_getElem?_getD, List.getElem?_set_self (by omega)]
          exact ⟨hk'.ext hq, hnew⟩
        · rw [List.getD_eq_getElem?_getD, List.getElem?_set_ne (by omega), ← List.getD_eq_getElem?_getD]
          exact hf j hj0 (by omega)) (hk'.ext hq) hnew
      refine ⟨fl', k'', h1, h2, ?_⟩
      have heq : (((w.getD i 0 : Nat) : Int) = ((w.getD k' 0 : Nat) : Int)) = True := eq_true (by omega)
      rw [a36l1n]
      simp (maxSteps := 30000000) (disch := first | assumption | omega | (simp only [List.length_cons, List.length_nil, List.length_append, List.length_set, List.length_replicate, List.length_map, List.length_range, List.length_take, List.length_drop, List.all_cons, List.all_nil, AV.isCell, Bool.and_self, Bool.and_true, bs_length, is64_length] <;> omega) | rfl | decide) only [a36l1b, run_seq, run_region, runOps_cons, oper_none, ex_mov, opv, List.getD_cons_succ, List.getD_cons_zero, putK_to, List.set_cons_succ, List.set_cons_zero, opsK_some, ex_len, lenA_sl, valK_some, ex_bin, bin_lss, hi, decide_true, runOps_nil, regK_some, seqK_normal, run_cond, condK_bool, run_skip, run_exit, if_true, run_block, run_loop, a36l0c, hl, blockK_exit, run_draw, List.take_succ_cons, List.take_zero, runFree_cons, foper_none, fe_mov, fstK_some, fputK_to, freeK_some, fe_iaddr, ex_iaddr, iaddrA_sl, Int.toNat_natCast, Nat.mul_one, fe_load, ex_load, rd_vptr, bs_drop, bs_take, bs_at0, drop_getD, Nat.add_zero, loadK_1, runFree_nil, drawK_some, List.drop_succ_cons, List.drop_zero, adopt, adoptVal, bin_eql, heq, bin_add, cadd1, wr64, iaddrA_own, Nat.zero_add, ex_store, AV.cells, List.length_cons, List.length_nil, wr_ptr, List.getElem?_cons_zero, wrK_cells, splice, is64_take, is64_drop, List.append_assoc, List.cons_append, List.nil_append, is64_put1, storeK_some, putK_no, blockK_normal, loopK_normal, a36l1c, h3]
    · have h0 : k' = 0 := by
        rcases he with h | h
        · exact h
        · exact (hq h).elim
      have hne : ¬ (((w.getD i 0 : Nat) : Int) = ((w.getD k' 0 : Nat) : Int)) := by omega
      have hnew : MaxB w (i + 1) k' := fun b hb => by
        cases b with
        | zero => omega
        | succ c =>
          obtain ⟨h1, h2⟩ := hb.prev
          rcases Nat.lt_or_ge k' c with e | e
          · exact absurd h2 (hm c h1 e)
          · have : c = k' := by omega
            subst this
            exact absurd h2 hq
      obtain ⟨fl', k'', h1, h2, h3⟩ := root_outer (z := z) hw d (i + 1) k' (fl.set (i + 1) k') (by omega) (by omega) (by simpa using hfl) (fun j hj0 hj1 => by
        by_cases e : j = i + 1
        · subst e
          rw [List.getD_eq_getElem?_getD, List.getElem?_set_self (by omega)]
          exact ⟨by rw [h0]; exact .zero (by omega), hnew⟩
        · rw [List.getD_eq_getElem?_getD, List.getElem?_set_ne (by omega), ← List.getD_eq_getElem?_getD]
          exact hf j hj0 (by omega)) (h0 ▸ .zero (by omega)) hnew
      refine ⟨fl', k'', h1, h2, ?_⟩
      rw [a36l1n]
      simp (maxSteps := 30000000) (disch := first | assumption | omega | (simp only [List.length_cons, List.length_nil, List.length_append, List.length_set, List.length_replicate, List.length_map, List.length_range, List.length_take, List.length_drop, List.all_cons, List.all_nil, AV.isCell, Bool.and_self, Bool.and_true, bs_length, is64_length] <;> omega) | rfl | decide) only [a36l1b, run_seq, run_region, runOps_cons, oper_none, ex_mov, opv, List.getD_cons_succ, List.getD_cons_zero, putK_to, List.set_cons_succ, List.set_cons_zero, opsK_some, ex_len, lenA_sl, valK_some, ex_bin, bin_lss, hi, decide_true, runOps_nil, regK_some, seqK_normal, run_cond, condK_bool, run_skip, run_exit, if_true, run_block, run_loop, a36l0c, hl, blockK_exit, run_draw, List.take_succ_cons, List.take_zero, runFree_cons, foper_none, fe_mov, fstK_some, fputK_to, freeK_some, fe_iaddr, ex_iaddr, iaddrA_sl, Int.toNat_natCast, Nat.mul_one, fe_load, ex_load, rd_vptr, bs_drop, bs_take, bs_at0, drop_getD, Nat.add_zero, loadK_1, runFree_nil, drawK_some, List.drop_succ_cons, List.drop_zero, adopt, adoptVal, bin_eql, hne, decide_false, Bool.false_eq_true, bin_add, cadd1, wr64, if_false, iaddrA_own, Nat.zero_add, ex_store, AV.cells, List.length_cons, List.length_nil, wr_ptr, List.getElem?_cons_zero, wrK_cells, splice, is64_take, is64_drop, List.append_assoc, List.cons_append, List.nil_append, is64_put1, storeK_some, putK_no, blockK_normal, loopK_normal, a36l1c, h3]
end Go.Abs.Lasso
