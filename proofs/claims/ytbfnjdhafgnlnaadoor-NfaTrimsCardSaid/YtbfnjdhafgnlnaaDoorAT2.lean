/- elements, List. -/
import Derived.Test.YtbfnjdhafgnlnaaDoorAT1
namespace Go.Abs.NfaD
open Go Go.Abs
set_option linter.unusedSimpArgs false
set_option linter.unusedVariables false

/-- List's frame within its range -/
abbrev F44 (s0 s1 s3 s4 s5 s6 s7 s8 s9 s10 s11 : AV) : List AV := [s0, s1, .ptr 0 0, s3, s4, s5, s6, s7, s8, s9, s10, s11]

def outL : List Nat → AV
  | [] => .sl true 0 []
  | a :: l => .own false (l.length + 1 + 1 + 1) 0 (l.length + 1) 1
def heapL : List Nat → Heap
  | [] => []
  | a :: l => List.replicate l.length .dead ++ [.cells false false (is64 (a :: l))]

theorem is64_snoc (l : List Nat) (n : Nat) : is64 l ++ [AV.int .i64 (n : Nat)] = is64 (l ++ [n]) := by simp [is64]

section
variable (s0 s1 s3 s4 s5 s6 s7 s8 s9 s10 s11 : AV)
abbrev H44 (sS : AV) (l : List Nat) : Heap := .cells false false [outL l] :: .cells false false [sS] :: .loop 0 none (F44 s0 s1 s3 s4 s5 s6 s7 s8 s9 s10 s11) [6] a44r0a a44r0 :: heapL l

theorem round44 (sS : AV) (l : List Nat) (k : Nat) (hl : l.length < 1000000) :
    L.icall (.yield 2) [.int .i64 (k : Nat)] (H44 s0 s1 s3 s4 s5 s6 s7 s8 s9 s10 s11 sS l) = some (.bool true, H44 s0 s1 s3 s4 s5 s6 s7 s8 s9 s10 s11 sS (l ++ [k])) := by
  cases l with
  | nil =>
    rw [lim_round_eq, roundA_eq (hH := rfl) (h1 := rfl) (h2 := rfl) (h3 := rfl)]
    simp only [H44, outL, heapL]
    simp (maxSteps := 30000000) (disch := first | assumption | omega | (simp only [List.length_cons, List.length_nil, List.length_append, List.length_set, List.length_replicate, List.length_map, List.length_range, List.length_take, List.length_drop, List.all_cons, List.all_nil, AV.isCell, Bool.and_self, Bool.and_true, bs_length, is64_length, w64_length, ints_length] <;> omega) | rfl | decide) only [List.zip_cons_cons, List.zip_nil_right, List.foldl_cons, List.set_cons_succ, List.set_cons_zero, List.foldl_nil, a44r0an, a44r0ab, run_region, runOps_cons, oper_none, ex_mov, opv, List.getD_cons_succ, List.getD_cons_zero, putK_to, opsK_some, runOps_nil, regK_some, roundAsg_normal, List.getElem?_cons_succ, List.getElem?_cons_zero, roundMid_some, a44r0n, a44r0b, run_block, ex_load, rd_ptr, rdK_cells, List.drop_zero, List.take_succ_cons, List.take_nil, loadK_1, valK_some, ex_bslice, AV.cells, List.all_cons, List.length_cons, List.length_nil, Nat.zero_add, beq_self_eq_true, List.all_nil, Bool.and_self, repz_1, List.append_nil, Nat.mul_one, List.map_cons, List.map_nil, fillA, Nat.le_refl, AV.isCell, and_self, splice, List.take_zero, List.nil_append, List.drop_succ_cons, List.drop_nil, if_true, newK_some, newA_data, frzN, List.flatMap_cons, bor_int, List.flatMap_nil, List.isEmpty_nil, List.mapM_cons, frz_int, List.mapM_nil, Option.pure_def, Option.bind_eq_bind, Option.bind_some, slK_some, ex_append, src_sl, appK_nil, Nat.reduceBEq, newA_own, Nat.reduceAdd, List.cons_append, ex_store, wr_ptr, wrK_cells, storeK_some, putK_no, blockK_normal, roundBody_some, roundEnd_normal]
    rfl
  | cons a l =>
    have hl' : l.length + 1 < 1000000 := hl
    have hsn : is64 (a :: l) ++ [AV.int .i64 (k : Nat)] = is64 (a :: (l ++ [k])) := is64_snoc (a :: l) k
    have htk : List.take (l.length + 1) (a :: l) = a :: l := List.take_of_length_le (by simp)
    have hrep : List.replicate l.length Blk.dead ++ [Blk.dead] = List.replicate (l.length + 1) Blk.dead := List.replicate_succ'.symm
    rw [lim_round_eq, roundA_eq (hH := rfl) (h1 := rfl) (h2 := rfl) (h3 := rfl)]
    simp only [H44, outL, heapL]
    simp (maxSteps := 30000000) (disch := first | assumption | omega | (simp only [List.length_cons, List.length_nil, List.length_append, List.length_set, List.length_replicate, List.length_map, List.length_range, List.length_take, List.length_drop, List.all_cons, List.all_nil, AV.isCell, Bool.and_self, Bool.and_true, bs_length, is64_length, w64_length, ints_length] <;> omega) | rfl | decide) only [List.zip_cons_cons, List.zip_nil_right, List.foldl_cons, List.set_cons_succ, List.set_cons_zero, List.foldl_nil, a44r0an, a44r0ab, run_region, runOps_cons, oper_none, ex_mov, opv, List.getD_cons_succ, List.getD_cons_zero, putK_to, opsK_some, runOps_nil, regK_some, roundAsg_normal, List.getElem?_cons_succ, List.getElem?_cons_zero, roundMid_some, a44r0n, a44r0b, run_block, ex_load, rd_ptr, rdK_cells, List.drop_zero, List.take_succ_cons, List.take_nil, loadK_1, valK_some, ex_bslice, AV.cells, List.all_cons, List.length_cons, List.length_nil, Nat.zero_add, beq_self_eq_true, List.all_nil, Bool.and_self, repz_1, List.append_nil, Nat.mul_one, List.map_cons, List.map_nil, fillA, Nat.le_refl, AV.isCell, and_self, splice, List.take_zero, List.nil_append, List.drop_succ_cons, List.drop_nil, if_true, newK_some, newA_data, frzN, List.flatMap_cons, bor_int, List.flatMap_nil, List.isEmpty_nil, List.mapM_cons, frz_int, List.mapM_nil, Option.pure_def, Option.bind_eq_bind, Option.bind_some, slK_some, ex_append, src_sl, appK_own, dead_get, appOK_cells, Nat.reduceBEq, List.length_append, List.length_replicate, dead_set, is64_take, htk, hsn, List.cons_append, List.append_assoc, ex_store, wr_ptr, wrK_cells, storeK_some, putK_no, blockK_normal, roundBody_some, roundEnd_normal]
    rw [← hrep, List.append_assoc]
    rfl

theorem bitsFrom_len (x j : Nat) : (bitsFrom x j).length ≤ 64 - j := by
  unfold bitsFrom
  exact Nat.le_trans (List.length_filter_le _ _) (by simp)

theorem in80 (sS : AV) {x : Nat} (i : Nat) (hi : i < 64) : ∀ d j w l, j + d = 64 → (∀ b, w.testBit b = (x.testBit b && decide (j ≤ b))) → w < 18446744073709551616 → l.length + d < 900000 →
    ∀ (t9 t10 t11 : AV), L.loop a80l0s a80l0 ⟨a80l0F (.yield 2) (.int .i64 (i : Nat)) (.int .u64 (w : Nat)) t9 t10 t11, H44 s0 s1 s3 s4 s5 s6 s7 s8 s9 s10 s11 sS l⟩ =
      some (.exit 2, ⟨a80l0F (.yield 2) (.int .i64 (i : Nat)) (.int .u64 0) t9 t10 t11, H44 s0 s1 s3 s4 s5 s6 s7 s8 s9 s10 s11 sS (l ++ (bitsFrom x j).map (fun b => 64 * i + b))⟩) := by
  intro d
  induction d using Nat.strongRecOn with
  | _ d ih =>
    intro j w l hjd hw hw64 hl t9 t10 t11
    rcases low_or (x := x) d j hjd with ⟨h1, h2⟩ | ⟨k, h1, h2, h3, h4, h5⟩
    · obtain rfl : w = 0 := by
        apply Nat.eq_of_testBit_eq
        intro b
        rw [hw, Nat.zero_testBit]
        by_cases hb : b < 64
        · by_cases hj : j ≤ b
          · rw [h2 b hj hb]; rfl
          · simp [hj]
        · have : w.testBit b = false := Nat.testBit_lt_two_pow (Nat.lt_of_lt_of_le (by omega : w < 2 ^ 64) (Nat.pow_le_pow_right (by omega) (by omega)))
          rw [← hw b, this]
      rw [h1, List.map_nil, List.append_nil, a80l0n]
      simp (maxSteps := 30000000) (disch := first | assumption | omega | (simp only [List.length_cons, List.length_nil, List.length_append, List.length_set, List.length_replicate, List.length_map, List.length_range, List.length_take, List.length_drop, List.all_cons, List.all_nil, AV.isCell, Bool.and_self, Bool.and_true, bs_length, is64_length, w64_length, ints_length] <;> omega) | rfl | decide) only [a80l0b, castLit, run_seq, run_region, runOps_cons, oper_none, ex_mov, opv, List.getD_cons_succ, List.getD_cons_zero, putK_to, List.set_cons_succ, List.set_cons_zero, opsK_some, ex_bin, bin_neq, decide_true, Bool.not_true, valK_some, runOps_nil, regK_some, seqK_normal, run_cond, condK_bool, Bool.false_eq_true, run_skip, run_exit, if_false, seqK_exit, loopK_exit, a80l0c]
    · have hlow : Low w k := ⟨by rw [hw, h3]; simp [h1], fun b hb => by
        rw [hw]
        by_cases hj : j ≤ b
        · rw [h4 b hj hb]; rfl
        · simp [hj]⟩
      have htz := tz81 hlow hw64
      have hp := low_pos hlow
      have e0 : ((w : Int) = 0) = False := eq_false (by omega)
      have hand := and64 (a := w) (b := w - 1) hw64 (by omega)
      have hle : w &&& (w - 1) ≤ w := Nat.and_le_left
      have hc : (64 : Int) * (i : Nat) + (k : Nat) = ((64 * i + k : Nat) : Int) := by omega
      have hr := round44 s0 s1 s3 s4 s5 s6 s7 s8 s9 s10 s11 sS l (64 * i + k) (by omega)
      have hrec := ih (64 - (k + 1)) (by omega) (k + 1) (w &&& (w - 1)) (l ++ [64 * i + k]) (by omega) (fun b => by
        rw [low_clear hlow, hw]
        by_cases e : b = k
        · subst e; simp
        · by_cases hb : k + 1 ≤ b
          · simp [e, hb, show j ≤ b by omega]
          · by_cases hj : j ≤ b
            · rw [h4 b hj (by omega)]; rfl
            · simp [hj, hb]) (by omega) (by simp only [List.length_append, List.length_cons, List.length_nil]; omega) t9 t10 t11
      rw [h5, List.map_cons, ← List.singleton_append (l := List.map _ _), ← List.append_assoc, ← hrec, a80l0n]
      simp only [H44] at hr ⊢
      generalize w &&& (w - 1) = w' at *
      simp (maxSteps := 30000000) (disch := first | assumption | omega | (simp only [List.length_cons, List.length_nil, List.length_append, List.length_set, List.length_replicate, List.length_map, List.length_range, List.length_take, List.length_drop, List.all_cons, List.all_nil, AV.isCell, Bool.and_self, Bool.and_true, bs_length, is64_length, w64_length, ints_length] <;> omega) | rfl | decide) only [a80l0b, run_seq, run_region, runOps_cons, oper_none, ex_mov, opv, List.getD_cons_succ, List.getD_cons_zero, putK_to, List.set_cons_succ, List.set_cons_zero, opsK_some, ex_bin, bin_neq, e0, decide_false, Bool.not_false, valK_some, runOps_nil, regK_some, seqK_normal, run_cond, condK_bool, run_skip, run_exit, if_true, run_block, bin_mul, wr64, ex_call, List.map_cons, List.map_nil, pcallA_eq, frzN, List.mapM_cons, frz_int, List.mapM_nil, Option.pure_def, Option.bind_eq_bind, Option.bind_some, argK_some, htz, retK_some, scal, scal1, fzIds, List.flatMap_cons, bor_int, List.flatMap_nil, List.append_nil, List.foldl_nil, ite_self, bin_add, hc, ex_icall, hr, ex_un, un_not, Bool.not_true, Bool.false_eq_true, run_ret, if_false, bin_sub, csub1, wrU64, bin_and, hand, blockK_normal, loopK_normal, a80l0c]
end
end Go.Abs.NfaD
