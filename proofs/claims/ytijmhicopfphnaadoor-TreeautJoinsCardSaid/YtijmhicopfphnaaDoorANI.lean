/- Membership. -/
import Derived.Test.YtijmhicopfphnaaDoorAN3
namespace Go.Abs.Tree
open Go Go.Abs
set_option linter.unusedSimpArgs false
set_option linter.unusedVariables false

theorem and73 (x y : Nat) (H : Heap) (hx : x < 18446744073709551616) (hy : y < 18446744073709551616) : L.icall (.func 110 []) [.int .u64 (x : Nat), .int .u64 (y : Nat)] H = some (.int .u64 (x &&& y : Nat), H) := by
  have h := and64 hx hy
  rw [a110i, a110]
  simp (maxSteps := 30000000) (disch := first | assumption | omega | (simp only [List.length_cons, List.length_nil, List.length_append, List.length_set, List.length_replicate, List.length_map, List.length_range, List.length_take, List.length_drop, List.all_cons, List.all_nil, AV.isCell, Bool.and_self, Bool.and_true, bs_length, is64_length, w64_length, ints_length] <;> omega) | rfl | decide) only [List.append_nil, bodyA_eq, List.length_cons, List.length_nil, Nat.zero_add, Nat.reduceAdd, Nat.reduceSub, pads, List.cons_append, List.nil_append, run_seq, run_region, runOps_cons, oper_none, ex_mov, opv, putK_to, List.set_cons_succ, List.set_cons_zero, opsK_some, runOps_nil, regK_some, seqK_normal, List.getD_cons_zero, List.getD_cons_succ, ex_bin, bin_and, h, valK_some, run_ret, bodyK_ret, results_1, res_tmp, retvK_some]

theorem meets_has {v u : AV} {S T : Nat → Bool} (hv : HasSet v S) (hu : HasSet u T) : ∃ t, L.pcall 77 [v, u] = some (.bool t) ∧ (t = true ↔ ∃ j, S j = true ∧ T j = true) := by
  obtain ⟨za, a, rfl, wa, la, ha⟩ := id hv
  obtain ⟨zb, b, rfl, wb, lb, hb⟩ := id hu
  obtain ⟨z, H', h⟩ := comb_eq (za := za) (zb := zb) (g := 110) (op := (· &&& ·)) (fun x y H hx hy => and73 x y H hx hy) wa wb
  have hlen := combM_len (· &&& ·) a b
  have h62 : L.pcall 99 [sw za a, sw zb b] = some (sw z (combM (· &&& ·) a b)) := by
    rw [a99p, a99, pbodyA_eq]
    simp (maxSteps := 30000000) (disch := first | assumption | omega | (simp only [List.length_cons, List.length_nil, List.length_append, List.length_set, List.length_replicate, List.length_map, List.length_range, List.length_take, List.length_drop, List.all_cons, List.all_nil, AV.isCell, Bool.and_self, Bool.and_true, bs_length, is64_length, w64_length, ints_length] <;> omega) | rfl | decide) only [bodyA_eq, List.length_cons, List.length_nil, Nat.zero_add, Nat.reduceAdd, Nat.reduceSub, pads, List.cons_append, List.nil_append, run_seq, run_region, runOps_cons, oper_none, ex_mov, opv, putK_to, List.set_cons_succ, List.set_cons_zero, opsK_some, runOps_nil, regK_some, seqK_normal, List.getD_cons_zero, List.getD_cons_succ, ex_icall, List.map_cons, List.map_nil, h, run_ret, bodyK_ret, results_1, res_tmp, retvK_some, pbodyK_some, frzN, frz_sl]
  refine ⟨decide (0 < (combM (· &&& ·) a b).length), ?_, ?_⟩
  · have e : ((0 : Int) < ((combM (· &&& ·) a b).length : Nat)) = (0 < (combM (· &&& ·) a b).length) := propext ⟨fun h => by omega, fun h => by omega⟩
    rw [a77p, a77, pbodyA_eq]
    simp (maxSteps := 30000000) (disch := first | assumption | omega | (simp only [List.length_cons, List.length_nil, List.length_append, List.length_set, List.length_replicate, List.length_map, List.length_range, List.length_take, List.length_drop, List.all_cons, List.all_nil, AV.isCell, Bool.and_self, Bool.and_true, bs_length, is64_length, w64_length, ints_length] <;> omega) | rfl | decide) only [bodyA_eq, List.length_cons, List.length_nil, Nat.zero_add, Nat.reduceAdd, Nat.reduceSub, pads, List.cons_append, List.nil_append, run_seq, run_region, runOps_cons, oper_none, ex_mov, opv, putK_to, List.set_cons_succ, List.set_cons_zero, opsK_some, runOps_nil, regK_some, seqK_normal, List.getD_cons_zero, List.getD_cons_succ, ex_call, List.map_cons, List.map_nil, pcallA_eq, frzN, List.mapM_cons, frz_sl, List.mapM_nil, Option.pure_def, Option.bind_eq_bind, Option.bind_some, argK_some, h62, retK_some, scal, scal1, Bool.false_eq_true, fzIds, List.flatMap_cons, bor_sl, List.flatMap_nil, List.append_nil, List.foldl_nil, ite_self, ex_len, lenA_sl, valK_some, ex_bin, bin_gtr, e, run_ret, bodyK_ret, results_1, res_tmp, retvK_some, pbodyK_some, frz_bool]
  · rw [decide_eq_true_eq]
    have hmem : ∀ j, j < 4096 → mem (combM (· &&& ·) a b) j = (S j && T j) := fun j hj => by
      rw [mem_comb (f := (· && ·)) a b (by simp) (fun x y i => by simp) j hj, ha, hb]
    constructor
    · intro hpos
      have hne : combM (· &&& ·) a b ≠ [] := List.length_pos_iff.1 hpos
      have hlast := combM_last (· &&& ·) a b hne
      obtain ⟨i, hi, hbit⟩ := bit_of_ne hlast ((combM_W (fun x y hx hy => Nat.lt_of_le_of_lt Nat.and_le_left hx) wa wb).get _)
      have hj : 64 * ((combM (· &&& ·) a b).length - 1) + i < 4096 := by omega
      have := hmem _ hj
      have hm : mem (combM (· &&& ·) a b) (64 * ((combM (· &&& ·) a b).length - 1) + i) = true := by
        unfold mem
        rw [show (64 * ((combM (· &&& ·) a b).length - 1) + i) / 64 = (combM (· &&& ·) a b).length - 1 by omega, show (64 * ((combM (· &&& ·) a b).length - 1) + i) % 64 = i by omega, hbit]
        simp [hj]
      rw [hm] at this
      have h2 := this.symm
      simp only [Bool.and_eq_true] at h2
      exact ⟨_, h2⟩
    · rintro ⟨j, h1, h2⟩
      have hj : j < 4096 := by
        rcases Nat.lt_or_ge j 4096 with q | q
        · exact q
        · rw [hv.out q] at h1; cases h1
      have := hmem j hj
      rw [h1, h2] at this
      rcases Nat.eq_zero_or_pos (combM (· &&& ·) a b).length with q | q
      · rw [List.length_eq_zero_iff.1 q] at this
        simp [mem] at this
      · exact q

theorem has_has {v : AV} {S : Nat → Bool} (hv : HasSet v S) (k : Nat) (hk : k < 4096) : L.pcall 40 [v, .int .i64 (k : Nat)] = some (.bool (S k)) := by
  obtain ⟨z, l, h1, h2⟩ := single_has k hk
  obtain ⟨t, h3, h4⟩ := meets_has hv h2
  obtain ⟨za, a, rfl, wa, la, ha⟩ := id hv
  have e : t = S k := by
    rw [Bool.eq_iff_iff, h4]
    constructor
    · rintro ⟨j, hj, hk⟩
      simp only [decide_eq_true_eq] at hk
      rw [← hk]; exact hj
    · intro h
      exact ⟨k, h, by simp⟩
  rw [e] at h3
  rw [a40p, a40, pbodyA_eq]
  simp (maxSteps := 30000000) (disch := first | assumption | omega | (simp only [List.length_cons, List.length_nil, List.length_append, List.length_set, List.length_replicate, List.length_map, List.length_range, List.length_take, List.length_drop, List.all_cons, List.all_nil, AV.isCell, Bool.and_self, Bool.and_true, bs_length, is64_length, w64_length, ints_length] <;> omega) | rfl | decide) only [bodyA_eq, List.length_cons, List.length_nil, Nat.zero_add, Nat.reduceAdd, Nat.reduceSub, pads, List.cons_append, List.nil_append, run_seq, run_region, runOps_cons, oper_none, ex_mov, opv, putK_to, List.set_cons_succ, List.set_cons_zero, opsK_some, runOps_nil, regK_some, seqK_normal, List.getD_cons_zero, List.getD_cons_succ, ex_call, List.map_cons, List.map_nil, pcallA_eq, frzN, List.mapM_cons, frz_int, List.mapM_nil, Option.pure_def, Option.bind_eq_bind, Option.bind_some, argK_some, h1, retK_some, scal, scal1, Bool.false_eq_true, fzIds, List.flatMap_cons, bor_int, List.flatMap_nil, List.append_nil, List.foldl_nil, ite_self, frz_sl, h3, bor_sl, run_ret, bodyK_ret, results_1, res_tmp, retvK_some, pbodyK_some, frz_bool]

theorem has_hasI {v : AV} {S : Nat → Bool} (hv : HasSet v S) (k : Int) (h0 : 0 ≤ k) (hk : k < 4096) : L.pcall 40 [v, .int .i64 k] = some (.bool (S k.toNat)) := by
  have := has_has hv k.toNat (by omega)
  rwa [Int.toNat_of_nonneg h0] at this
end Go.Abs.Tree
