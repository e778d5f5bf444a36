/- What the law LassoFormsMatch does besides: words compared, a copy, results overwritten. -/
import Derived.Test.YthbgkdjnakeagaaAF14
import Derived.Test.YthbgkdjnakeagaaAwake
import Derived.Test.YthbgkdjnakeagaaAbsIn
namespace Go.Abs.Lasso
set_option linter.unusedVariables false
set_option linter.unusedSimpArgs false
open Go Go.Abs

theorem letters_loop {z1 z2 : Bool} {p : List Nat} {s4 : AV} {H : Heap} (hp : p.length < 9223372036854775807) : ∀ d i, i + d = p.length →
    L.loop a29l0s a29l0 ⟨a29l0F (word z1 p) (word z2 p) s4 (.int .i64 (i : Nat)), H⟩ = some (.exit 0, ⟨a29l0F (word z1 p) (word z2 p) s4 (.int .i64 (p.length : Nat)), H⟩)
  | 0, i, h => by
    obtain rfl : i = p.length := by omega
    rw [a29l0n]
    simp (maxSteps := 30000000) (disch := first | assumption | omega | (simp only [List.length_cons, List.length_nil, List.length_append, List.length_set, List.length_replicate, List.length_map, List.length_range, List.length_take, List.length_drop, List.all_cons, List.all_nil, AV.isCell, Bool.and_self, Bool.and_true, bs_length, is64_length] <;> omega) | rfl | decide) only [a29l0b, run_seq, run_region, runOps_cons, oper_none, ex_mov, opv, List.getD_cons_succ, List.getD_cons_zero, putK_to, List.set_cons_succ, List.set_cons_zero, opsK_some, ex_len, lenA_sl, valK_some, ex_bin, bin_lss, Int.lt_irrefl, decide_false, runOps_nil, regK_some, seqK_normal, run_cond, condK_bool, Bool.false_eq_true, run_skip, run_exit, if_false, seqK_exit, loopK_exit, a29l0c]
  | d + 1, i, h => by
    have ih := letters_loop (z1 := z1) (z2 := z2) (s4 := s4) (H := H) hp d (i + 1) (by omega)
    have hlt : (i : Int) < (p.length : Nat) := by omega
    rw [a29l0n]
    simp (maxSteps := 30000000) (disch := first | assumption | omega | (simp only [List.length_cons, List.length_nil, List.length_append, List.length_set, List.length_replicate, List.length_map, List.length_range, List.length_take, List.length_drop, List.all_cons, List.all_nil, AV.isCell, Bool.and_self, Bool.and_true, bs_length, is64_length] <;> omega) | rfl | decide) only [a29l0b, run_seq, run_region, runOps_cons, oper_none, ex_mov, opv, List.getD_cons_succ, List.getD_cons_zero, putK_to, List.set_cons_succ, List.set_cons_zero, opsK_some, ex_len, lenA_sl, valK_some, ex_bin, bin_lss, hlt, decide_true, runOps_nil, regK_some, seqK_normal, run_cond, condK_bool, run_skip, run_exit, if_true, run_block, run_draw, List.take_succ_cons, List.take_zero, runFree_cons, foper_none, fe_mov, fstK_some, fputK_to, freeK_some, fe_iaddr, ex_iaddr, iaddrA_sl, Int.toNat_natCast, Nat.mul_one, fe_load, ex_load, rd_vptr, bs_drop, bs_take, bs_at0, drop_getD, Nat.add_zero, loadK_1, runFree_nil, drawK_some, List.drop_succ_cons, List.drop_zero, adopt, adoptVal, bin_neq, Bool.not_true, Bool.false_eq_true, run_ret, if_false, blockK_normal, bin_add, cadd1, wr64, loopK_normal, a29l0c, ih]

theorem letters_same (z1 z2 : Bool) (p : List Nat) (hp : p.length < 9223372036854775807) : L.pcall 29 [word z1 p, word z2 p] = some (.bool true) := by
  have hl := fun s4 H => letters_loop (z1 := z1) (z2 := z2) (s4 := s4) (H := H) hp p.length 0 (by omega)
  simp only [Int.natCast_zero] at hl
  rw [a29p, a29, pbodyA_eq]
  simp (maxSteps := 30000000) (disch := first | assumption | omega | (simp only [List.length_cons, List.length_nil, List.length_append, List.length_set, List.length_replicate, List.length_map, List.length_range, List.length_take, List.length_drop, List.all_cons, List.all_nil, AV.isCell, Bool.and_self, Bool.and_true, bs_length, is64_length] <;> omega) | rfl | decide) only [bodyA_eq, List.length_cons, List.length_nil, Nat.zero_add, Nat.reduceAdd, Nat.reduceSub, pads, List.cons_append, List.nil_append, run_seq, run_region, runOps_cons, oper_none, ex_mov, opv, putK_to, List.set_cons_succ, List.set_cons_zero, opsK_some, runOps_nil, regK_some, seqK_normal, List.getD_cons_zero, ex_len, List.getD_cons_succ, lenA_sl, valK_some, ex_bin, bin_neq, decide_true, Bool.not_true, run_cond, condK_bool, Bool.false_eq_true, run_ret, run_skip, if_false, run_block, run_loop, a29l0c, hl, blockK_exit, if_true, bodyK_ret, results_1, res_tmp, retvK_some, pbodyK_some, frzN, frz_bool]

theorem is_same (z1 z2 z3 z4 : Bool) (p q : List Nat) (hp : p.length < 9223372036854775807) (hq : q.length < 9223372036854775807) : L.pcall 16 [las z1 z2 p q, las z3 z4 p q] = some (.bool true) := by
  have h1 := letters_same z1 z3 p hp
  have h2 := letters_same z2 z4 q hq
  rw [a16p, a16, pbodyA_eq]
  simp (maxSteps := 30000000) (disch := first | assumption | omega | (simp only [List.length_cons, List.length_nil, List.length_append, List.length_set, List.length_replicate, List.length_map, List.length_range, List.length_take, List.length_drop, List.all_cons, List.all_nil, AV.isCell, Bool.and_self, Bool.and_true, bs_length, is64_length] <;> omega) | rfl | decide) only [bodyA_eq, List.length_cons, List.length_nil, Nat.zero_add, Nat.reduceAdd, Nat.reduceSub, pads, List.cons_append, List.nil_append, run_seq, run_region, runOps_cons, oper_none, ex_box, AV.cells, opv, List.getD_cons_zero, List.all_cons, AV.isCell, List.all_nil, Bool.and_self, if_true, putK_to, List.set_cons_succ, List.set_cons_zero, opsK_some, List.getD_cons_succ, ex_mov, runOps_nil, regK_some, seqK_normal, ex_faddr, faddrA_ptr, Nat.add_zero, valK_some, ex_load, rd_ptr, List.getElem?_cons_zero, rdK_cells, List.drop_zero, List.take_succ_cons, List.take_zero, loadK_1, List.getElem?_cons_succ, ex_call, List.map_cons, List.map_nil, pcallA_eq, frzN, List.mapM_cons, frz_sl, List.mapM_nil, Option.pure_def, Option.bind_eq_bind, Option.bind_some, argK_some, h1, retK_some, scal, scal1, fzIds, List.flatMap_cons, bor_sl, List.flatMap_nil, List.append_nil, List.foldl_nil, ite_self, oper_guard, guardK_bool, putA_to, List.drop_succ_cons, List.take_nil, h2, ex_pick, pickA_bool, run_ret, bodyK_ret, results_1, res_tmp, retvK_some, pbodyK_some, frz_bool]

theorem own_eq (z1 z2 : Bool) (p q : List Nat) (hp : p.length < 1099511627776) (hq : q.length < 1099511627776) : L.pcall 11 [las z1 z2 p q] = some (las (p.length == 0) (q.length == 0) p q) := by
  rw [a11p, a11, pbodyA_eq]
  simp (maxSteps := 30000000) (disch := first | assumption | omega | (simp only [List.length_cons, List.length_nil, List.length_append, List.length_set, List.length_replicate, List.length_map, List.length_range, List.length_take, List.length_drop, List.all_cons, List.all_nil, AV.isCell, Bool.and_self, Bool.and_true, bs_length, is64_length] <;> omega) | rfl | decide) only [bodyA_eq, List.length_cons, List.length_nil, Nat.zero_add, Nat.reduceSub, pads, List.cons_append, List.nil_append, run_seq, run_region, runOps_cons, oper_none, ex_box, AV.cells, opv, List.getD_cons_zero, List.all_cons, AV.isCell, List.all_nil, Bool.and_self, if_true, putK_to, List.set_cons_succ, List.set_cons_zero, opsK_some, runOps_nil, regK_some, seqK_normal, run_draw, List.take_succ_cons, List.take_zero, runFree_cons, foper_none, fe_faddr, ex_faddr, List.getD_cons_succ, faddrA_ptr, Nat.add_zero, valK_some, fstK_some, fputK_to, freeK_some, fe_load, ex_load, rd_ptr, List.getElem?_cons_zero, rdK_cells, List.drop_zero, loadK_1, fe_append, src_sl, fappK_sl, appK_nil, newA_data, frzN, bor_bs, List.isEmpty_nil, frz_bs, slK_some, List.drop_succ_cons, List.take_nil, runFree_nil, drawK_some, adopt, adoptVal, ex_append, newA_own, Nat.reduceAdd, ex_build, beq_self_eq_true, List.map_cons, List.map_nil, fillA, Nat.reduceLeDiff, and_self, splice, Nat.le_refl, List.drop_nil, List.append_nil, Option.map_some, ex_store, wr_ptr, List.getElem?_cons_succ, wrK_cells, storeK_some, putK_no, run_ret, bodyK_ret, results_1, res_cell, cellK_some, mkv_n, retvK_some, pbodyK_some, frz_agg, List.mapM_cons, frz_sl, frz_own, frzK_cells, Nat.mul_one, bs_take, List.take_length, List.mapM_nil, Option.pure_def, Option.bind_eq_bind, Option.bind_some]

/-- a lasso as it comes in -/
def LasIn (a : AV) : Prop := ∃ z1 z2 p q, a = las z1 z2 p q ∧ (z1 = true → p = []) ∧ p.length ≤ maxLen ∧ q.length ≤ maxLen ∧ (∀ x ∈ p, x < 256) ∧ ∀ x ∈ q, x < 256

abbrev TLas : TS := ⟨true, [.sl [.int .u8], .sl [.int .u8]]⟩
abbrev TWord : TS := ⟨false, [.sl [.int .u8]]⟩
abbrev TU8 : TS := ⟨false, [.int .u8]⟩

theorem fit_las {a : AV} (h : FitT TLas a) : LasIn a := by
  obtain ⟨cs, rfl, h'⟩ := fitT_many h
  obtain ⟨a, cs, rfl, ha, h'⟩ := fitAll_cons h'
  obtain ⟨b, cs, rfl, hb, h'⟩ := fitAll_cons h'
  obtain rfl := fitAll_nil h'
  obtain ⟨z1, p, rfl, hz, hl, hp⟩ := fit_word ha
  obtain ⟨z2, q, rfl, hz2, hl2, hq⟩ := fit_word hb
  exact ⟨z1, z2, p, q, rfl, hz, hl, hl2, hp, hq⟩

set_option maxHeartbeats 2000000 in
theorem long1 (z1 z2 : Bool) (p q : List Nat) : L.pcall 9 [.sl false 1 [word z1 p, word z2 q]] = some (.bool (decide (70 < p.length ∨ 70 < q.length))) := by
  have e1 : ((70 : Int) < (p.length : Nat)) = (70 < p.length) := propext ⟨fun h => by omega, fun h => by omega⟩
  have e2 : ((70 : Int) < (q.length : Nat)) = (70 < q.length) := propext ⟨fun h => by omega, fun h => by omega⟩
  rw [a9p, a9, pbodyA_eq]
  by_cases h1 : 70 < p.length <;> by_cases h2 : 70 < q.length <;> simp (maxSteps := 30000000) (disch := first | assumption | omega | (simp only [List.length_cons, List.length_nil, List.length_append, List.length_set, List.length_replicate, List.length_map, List.length_range, List.length_take, List.length_drop, List.all_cons, List.all_nil, AV.isCell, Bool.and_self, Bool.and_true, bs_length, is64_length] <;> omega) | rfl | decide) only [bodyA_eq, List.length_cons, List.length_nil, Nat.zero_add, Nat.reduceSub, pads, List.cons_append, List.nil_append, run_seq, run_region, runOps_cons, oper_none, ex_mov, opv, putK_to, List.set_cons_succ, List.set_cons_zero, opsK_some, runOps_nil, regK_some, seqK_normal, run_block, run_loop, a9l0c, a9l0n, a9l0b, List.getD_cons_succ, List.getD_cons_zero, ex_len, lenA_sl, castLit, valK_some, ex_bin, bin_lss, Int.reduceLT, decide_true, run_cond, condK_bool, run_skip, run_exit, if_true, ex_iaddr, iaddrA_sl, Int.toNat_zero, Nat.reduceMul, ex_faddr, faddrA_vptr, Nat.add_zero, ex_load, rd_vptr, List.drop_zero, List.take_succ_cons, List.take_zero, loadK_1, bin_gtr, e1, h1, oper_guard, guardK_bool, Bool.true_eq_false, putA_to, if_false, ex_pick, pickA_bool, run_ret, blockK_ret, seqK_ret, loopK_ret, bodyK_ret, results_1, res_tmp, retvK_some, pbodyK_some, frzN, frz_bool, h2, or_self, or_false, decide_false, List.drop_succ_cons, List.take_nil, e2, Bool.false_eq_true, ite_self, or_true, blockK_normal, bin_add, Int.zero_add, wr64, loopK_normal, Int.lt_irrefl, seqK_exit, loopK_exit, blockK_exit]


def r77 (n : Nat) : List AV := List.replicate n (.int .u8 77)
theorem r77_length (n : Nat) : (r77 n).length = n := List.length_replicate

theorem set_self {H : Heap} {k : Nat} {b : Blk} (h : H[k]? = some b) : H.set k b = H := by
  apply List.ext_getElem?
  intro j
  rw [List.getElem?_set]
  by_cases e : k = j
  · subst e
    have hk := (List.getElem?_eq_some_iff.1 h).1
    rw [if_pos rfl, if_pos hk, h]
  · rw [if_neg e]

theorem spoil0 {k b n : Nat} {y : AV} (hn : n < 1099511627776) (hkb : k ≠ b) : ∀ d i B (G : Heap), i + d = n → B.length = n → G[k]? = some (.cells false false B) → G[b]? = some (.cells false false [.own false k 0 n 1, y]) →
    L.loop a21l0s a21l0 ⟨a21l0F (.ptr b 0) (.int .i64 (i : Nat)), G⟩ = some (.exit 0, ⟨a21l0F (.ptr b 0) (.int .i64 (n : Nat)), G.set k (.cells false false (B.take i ++ r77 (n - i)))⟩)
  | 0, i, B, G, h, hB, hk, hb => by
    obtain rfl : i = n := by omega
    have e : B.take i ++ r77 (i - i) = B := by rw [Nat.sub_self, List.take_of_length_le (by omega)]; simp [r77]
    rw [e, set_self hk, a21l0n]
    simp (maxSteps := 30000000) (disch := first | assumption | omega | (simp only [List.length_cons, List.length_nil, List.length_append, List.length_set, List.length_replicate, List.length_map, List.length_range, List.length_take, List.length_drop, List.all_cons, List.all_nil, AV.isCell, Bool.and_self, Bool.and_true, bs_length, is64_length] <;> omega) | rfl | decide) only [a21l0b, run_seq, run_region, runOps_cons, oper_none, ex_mov, opv, List.getD_cons_succ, List.getD_cons_zero, putK_to, List.set_cons_succ, List.set_cons_zero, opsK_some, ex_faddr, faddrA_ptr, Nat.add_zero, valK_some, ex_load, rd_ptr, hb, rdK_cells, List.drop_zero, List.take_succ_cons, List.take_zero, loadK_1, ex_len, lenA_own, ex_bin, bin_lss, Int.lt_irrefl, decide_false, runOps_nil, regK_some, seqK_normal, run_cond, condK_bool, Bool.false_eq_true, run_skip, run_exit, if_false, seqK_exit, loopK_exit, a21l0c]
  | d + 1, i, B, G, h, hB, hk, hb => by
    have hlt : (i : Int) < (n : Nat) := by omega
    have hkl := (List.getElem?_eq_some_iff.1 hk).1
    have hl : (B.take i ++ .int .u8 77 :: B.drop (i + 1)).length = n := by simp only [List.length_append, List.length_take, List.length_cons, List.length_drop]; omega
    have ih := spoil0 (y := y) hn hkb d (i + 1) (B.take i ++ .int .u8 77 :: B.drop (i + 1)) (G.set k (.cells false false (B.take i ++ .int .u8 77 :: B.drop (i + 1)))) (by omega) hl (by simp [hkl]) (by rw [List.getElem?_set_ne hkb]; exact hb)
    rw [List.set_set] at ih
    have e : (B.take i ++ .int .u8 77 :: B.drop (i + 1)).take (i + 1) ++ r77 (n - (i + 1)) = B.take i ++ r77 (n - i) := by
      have hti : (B.take i).length = i := by rw [List.length_take]; omega
      rw [List.take_append, hti, List.take_of_length_le (by omega), show i + 1 - i = 1 by omega, show n - i = (n - (i + 1)) + 1 by omega]
      simp [r77, List.replicate_succ]
    rw [e] at ih
    rw [a21l0n]
    simp (maxSteps := 30000000) (disch := first | assumption | omega | (simp only [List.length_cons, List.length_nil, List.length_append, List.length_set, List.length_replicate, List.length_map, List.length_range, List.length_take, List.length_drop, List.all_cons, List.all_nil, AV.isCell, Bool.and_self, Bool.and_true, bs_length, is64_length] <;> omega) | rfl | decide) only [a21l0b, run_seq, run_region, runOps_cons, oper_none, ex_mov, opv, List.getD_cons_succ, List.getD_cons_zero, putK_to, List.set_cons_succ, List.set_cons_zero, opsK_some, ex_faddr, faddrA_ptr, Nat.add_zero, valK_some, ex_load, rd_ptr, hb, rdK_cells, List.drop_zero, List.take_succ_cons, List.take_zero, loadK_1, ex_len, lenA_own, ex_bin, bin_lss, hlt, decide_true, runOps_nil, regK_some, seqK_normal, run_cond, condK_bool, run_skip, run_exit, if_true, run_block, ex_iaddr, iaddrA_own, Int.toNat_natCast, Nat.mul_one, Nat.zero_add, ex_store, AV.cells, List.length_cons, List.length_nil, wr_ptr, hk, wrK_cells, splice, List.append_assoc, List.cons_append, List.nil_append, storeK_some, putK_no, blockK_normal, bin_add, cadd1, wr64, loopK_normal, a21l0c, ih]

theorem spoil1 {k b n : Nat} {x : AV} (hn : n < 1099511627776) (hkb : k ≠ b) : ∀ d i B (G : Heap), i + d = n → B.length = n → G[k]? = some (.cells false false B) → G[b]? = some (.cells false false [x, .own false k 0 n 1]) →
    L.loop a21l1s a21l1 ⟨a21l1F (.ptr b 0) (.int .i64 (i : Nat)), G⟩ = some (.exit 2, ⟨a21l1F (.ptr b 0) (.int .i64 (n : Nat)), G.set k (.cells false false (B.take i ++ r77 (n - i)))⟩)
  | 0, i, B, G, h, hB, hk, hb => by
    obtain rfl : i = n := by omega
    have e : B.take i ++ r77 (i - i) = B := by rw [Nat.sub_self, List.take_of_length_le (by omega)]; simp [r77]
    rw [e, set_self hk, a21l1n]
    simp (maxSteps := 30000000) (disch := first | assumption | omega | (simp only [List.length_cons, List.length_nil, List.length_append, List.length_set, List.length_replicate, List.length_map, List.length_range, List.length_take, List.length_drop, List.all_cons, List.all_nil, AV.isCell, Bool.and_self, Bool.and_true, bs_length, is64_length] <;> omega) | rfl | decide) only [a21l1b, run_seq, run_region, runOps_cons, oper_none, ex_mov, opv, List.getD_cons_succ, List.getD_cons_zero, putK_to, List.set_cons_succ, List.set_cons_zero, opsK_some, ex_faddr, faddrA_ptr, Nat.zero_add, valK_some, ex_load, rd_ptr, hb, rdK_cells, List.drop_succ_cons, List.drop_zero, List.take_succ_cons, List.take_nil, loadK_1, ex_len, lenA_own, ex_bin, bin_lss, Int.lt_irrefl, decide_false, runOps_nil, regK_some, seqK_normal, run_cond, condK_bool, Bool.false_eq_true, run_skip, run_exit, if_false, seqK_exit, loopK_exit, a21l1c]
  | d + 1, i, B, G, h, hB, hk, hb => by
    have hlt : (i : Int) < (n : Nat) := by omega
    have hkl := (List.getElem?_eq_some_iff.1 hk).1
    have hl : (B.take i ++ .int .u8 77 :: B.drop (i + 1)).length = n := by simp only [List.length_append, List.length_take, List.length_cons, List.length_drop]; omega
    have ih := spoil1 (x := x) hn hkb d (i + 1) (B.take i ++ .int .u8 77 :: B.drop (i + 1)) (G.set k (.cells false false (B.take i ++ .int .u8 77 :: B.drop (i + 1)))) (by omega) hl (by simp [hkl]) (by rw [List.getElem?_set_ne hkb]; exact hb)
    rw [List.set_set] at ih
    have e : (B.take i ++ .int .u8 77 :: B.drop (i + 1)).take (i + 1) ++ r77 (n - (i + 1)) = B.take i ++ r77 (n - i) := by
      have hti : (B.take i).length = i := by rw [List.length_take]; omega
      rw [List.take_append, hti, List.take_of_length_le (by omega), show i + 1 - i = 1 by omega, show n - i = (n - (i + 1)) + 1 by omega]
      simp [r77, List.replicate_succ]
    rw [e] at ih
    rw [a21l1n]
    simp (maxSteps := 30000000) (disch := first | assumption | omega | (simp only [List.length_cons, List.length_nil, List.length_append, List.length_set, List.length_replicate, List.length_map, List.length_range, List.length_take, List.length_drop, List.all_cons, List.all_nil, AV.isCell, Bool.and_self, Bool.and_true, bs_length, is64_length] <;> omega) | rfl | decide) only [a21l1b, run_seq, run_region, runOps_cons, oper_none, ex_mov, opv, List.getD_cons_succ, List.getD_cons_zero, putK_to, List.set_cons_succ, List.set_cons_zero, opsK_some, ex_faddr, faddrA_ptr, Nat.zero_add, valK_some, ex_load, rd_ptr, hb, rdK_cells, List.drop_succ_cons, List.drop_zero, List.take_succ_cons, List.take_nil, loadK_1, ex_len, lenA_own, ex_bin, bin_lss, hlt, decide_true, runOps_nil, regK_some, seqK_normal, run_cond, condK_bool, run_skip, run_exit, if_true, run_block, ex_iaddr, iaddrA_own, Int.toNat_natCast, Nat.mul_one, ex_store, AV.cells, List.length_cons, List.length_nil, wr_ptr, hk, wrK_cells, splice, List.append_assoc, List.cons_append, List.nil_append, storeK_some, putK_no, blockK_normal, bin_add, cadd1, wr64, loopK_normal, a21l1c, ih]

/-- the heap behind spoil -/
noncomputable def spK (a n b m : Nat) (H : Heap) : Option Blk → Option Blk → Option (AV × Heap)
  | some (.cells false false A), some (.cells false false B) => if A.length = n ∧ B.length = m ∧ a ≠ b ∧ n < 1099511627776 ∧ m < 1099511627776 then some (.tup [], (H.set a (.cells false false (r77 n))).set b (.cells false false (r77 m)) ++ [.cells false false [.own false a 0 n 1, .own false b 0 m 1]]) else L.icall (.func 21 []) [.agg [.own false a 0 n 1, .own false b 0 m 1]] H
  | _, _ => L.icall (.func 21 []) [.agg [.own false a 0 n 1, .own false b 0 m 1]] H

theorem spoil_oo (a n b m : Nat) (H : Heap) : L.icall (.func 21 []) [.agg [.own false a 0 n 1, .own false b 0 m 1]] H = spK a n b m H H[a]? H[b]? := by
  unfold spK
  split
  · rename_i A B ha hb
    split
    · rename_i hc
      obtain ⟨hA, hB, hab, hn, hm⟩ := hc
      have la := (List.getElem?_eq_some_iff.1 ha).1
      have lb := (List.getElem?_eq_some_iff.1 hb).1
      have h0 := spoil0 (k := a) (b := H.length) (n := n) (y := .own false b 0 m 1) hn (by omega) n 0 A (H ++ [.cells false false [.own false a 0 n 1, .own false b 0 m 1]]) (by omega) hA (by rw [List.getElem?_append_left la]; exact ha) (by simp)
      have h1 := spoil1 (k := b) (b := H.length) (n := m) (x := .own false a 0 n 1) hm (by omega) m 0 B (H.set a (.cells false false (r77 n)) ++ [.cells false false [.own false a 0 n 1, .own false b 0 m 1]]) (by omega) hB (by rw [List.getElem?_append_left (by simpa using lb), List.getElem?_set_ne hab]; exact hb) (by simp)
      simp only [Int.natCast_zero, List.take_zero, List.nil_append, Nat.sub_zero, List.set_append_left _ _ la] at h0
      rw [List.set_append_left _ _ (by simpa using lb)] at h1
      simp only [Int.natCast_zero, List.take_zero, List.nil_append, Nat.sub_zero] at h1
      rw [a21i, a21]
      simp (maxSteps := 30000000) (disch := first | assumption | omega | (simp only [List.length_cons, List.length_nil, List.length_append, List.length_set, List.length_replicate, List.length_map, List.length_range, List.length_take, List.length_drop, List.all_cons, List.all_nil, AV.isCell, Bool.and_self, Bool.and_true, bs_length, is64_length] <;> omega) | rfl | decide) only [List.append_nil, bodyA_eq, List.length_cons, List.length_nil, Nat.zero_add, Nat.reduceSub, pads, List.cons_append, List.nil_append, run_seq, run_region, runOps_cons, oper_none, ex_box, AV.cells, opv, List.getD_cons_zero, List.all_cons, AV.isCell, List.all_nil, Bool.and_self, if_true, putK_to, List.set_cons_succ, List.set_cons_zero, opsK_some, runOps_nil, regK_some, seqK_normal, ex_mov, run_block, run_loop, a21l0c, h0, blockK_exit, a21l1c, h1, bodyK_normal, results_0, retvK_some]
    · rfl
  · rfl

theorem spK_some {a n b m : Nat} {H : Heap} {A B : List AV} (h1 : A.length = n) (h2 : B.length = m) (h3 : a ≠ b) (h4 : n < 1099511627776) (h5 : m < 1099511627776) : spK a n b m H (some (.cells false false A)) (some (.cells false false B)) = some (.tup [], (H.set a (.cells false false (r77 n))).set b (.cells false false (r77 m)) ++ [.cells false false [.own false a 0 n 1, .own false b 0 m 1]]) := by
  unfold spK
  exact if_pos ⟨h1, h2, h3, h4, h5⟩

noncomputable def spN (b m : Nat) (H : Heap) : Option Blk → Option (AV × Heap)
  | some (.cells false false B) => if B.length = m ∧ m < 1099511627776 then some (.tup [], H.set b (.cells false false (r77 m)) ++ [.cells false false [.sl true 0 [], .own false b 0 m 1]]) else L.icall (.func 21 []) [.agg [.sl true 0 [], .own false b 0 m 1]] H
  | _ => L.icall (.func 21 []) [.agg [.sl true 0 [], .own false b 0 m 1]] H

theorem spoil_no (b m : Nat) (H : Heap) : L.icall (.func 21 []) [.agg [.sl true 0 [], .own false b 0 m 1]] H = spN b m H H[b]? := by
  unfold spN
  split
  · rename_i B hb
    split
    · rename_i hc
      obtain ⟨hB, hm⟩ := hc
      have lb := (List.getElem?_eq_some_iff.1 hb).1
      have h1 := spoil1 (k := b) (b := H.length) (n := m) (x := .sl true 0 []) hm (by omega) m 0 B (H ++ [.cells false false [.sl true 0 [], .own false b 0 m 1]]) (by omega) hB (by rw [List.getElem?_append_left (by simpa using lb)]; exact hb) (by simp)
      rw [List.set_append_left _ _ (by simpa using lb)] at h1
      simp only [Int.natCast_zero, List.take_zero, List.nil_append, Nat.sub_zero] at h1
      rw [a21i, a21]
      simp (maxSteps := 30000000) (disch := first | assumption | omega | (simp only [List.length_cons, List.length_nil, List.length_append, List.length_set, List.length_replicate, List.length_map, List.length_range, List.length_take, List.length_drop, List.all_cons, List.all_nil, AV.isCell, Bool.and_self, Bool.and_true, bs_length, is64_length] <;> omega) | rfl | decide) only [List.append_nil, bodyA_eq, List.length_cons, List.length_nil, Nat.zero_add, Nat.reduceSub, pads, List.cons_append, List.nil_append, run_seq, run_region, runOps_cons, oper_none, ex_box, AV.cells, opv, List.getD_cons_zero, List.all_cons, AV.isCell, List.all_nil, Bool.and_self, if_true, putK_to, List.set_cons_succ, List.set_cons_zero, opsK_some, runOps_nil, regK_some, seqK_normal, ex_mov, run_block, run_loop, a21l0c, a21l0n, a21l0b, List.getD_cons_succ, ex_faddr, faddrA_ptr, Nat.add_zero, valK_some, ex_load, rd_ptr, hget0, List.getElem?_cons_zero, rdK_cells, List.drop_zero, List.take_succ_cons, List.take_zero, loadK_1, ex_len, lenA_sl, castLit, ex_bin, bin_lss, Int.lt_irrefl, decide_false, run_cond, condK_bool, Bool.false_eq_true, run_skip, run_exit, if_false, seqK_exit, loopK_exit, blockK_exit, a21l1c, h1, bodyK_normal, results_0, retvK_some]
    · rfl
  · rfl

theorem spN_some {b m : Nat} {H : Heap} {B : List AV} (h2 : B.length = m) (h5 : m < 1099511627776) : spN b m H (some (.cells false false B)) = some (.tup [], H.set b (.cells false false (r77 m)) ++ [.cells false false [.sl true 0 [], .own false b 0 m 1]]) := by
  unfold spN
  exact if_pos ⟨h2, h5⟩
end Go.Abs.Lasso
