/- The reference's Of. -/
import Derived.Test.YtbfnjdhafgnlnaaAM11
namespace Go.Abs.Nfa
open Go Go.Abs
set_option linter.unusedSimpArgs false
set_option linter.unusedVariables false

/-- words under way: nil, or a block of the heap -/
def OwnN (T : Heap) (v : AV) (l : List Nat) : Prop := (v = .sl true 0 [] ∧ l = []) ∨ ∃ k, v = .own false k 0 l.length 1 ∧ T[k]? = some (.cells false false (w64 l))

/-- l with zeros up to n words -/
def padN (l : List Nat) (n : Nat) : List Nat := l ++ List.replicate (n - l.length) 0

theorem take_w64 (l : List Nat) : List.take l.length (w64 l) = w64 l := by rw [w64_take, List.take_length]

theorem pad_loop {z : Bool} {l : List Int} {i q : Nat} {r : List Nat} (hq : q < 4096) : ∀ d T v m, m + d = max r.length (q / 64 + 1) → r.length ≤ m → OwnN T v (padN r m) →
    ∃ T' v', L.loop a57l0s a57l0 ⟨a57l0F (iw z l) v (.int .i64 (i : Nat)) (.int .i64 (q : Nat)), T⟩ = some (.exit 2, ⟨a57l0F (iw z l) v' (.int .i64 (i : Nat)) (.int .i64 (q : Nat)), T'⟩) ∧ OwnN T' v' (padN r (max r.length (q / 64 + 1)))
  | 0, T, v, m, h, hr, hO => by
    obtain rfl : m = max r.length (q / 64 + 1) := by omega
    have hdq : ((q : Nat) : Int).tdiv 64 = ((q / 64 : Nat) : Int) := by rw [show (64 : Int) = ((64 : Nat) : Int) from rfl, ctdiv]
    have hpl : (padN r (max r.length (q / 64 + 1))).length = max r.length (q / 64 + 1) := by unfold padN; simp; omega
    refine ⟨T, v, ?_, hO⟩
    rcases hO with ⟨rfl, e⟩ | ⟨k, rfl, hk⟩
    · rw [e] at hpl; simp at hpl; omega
    · have hng : ¬ (((padN r (max r.length (q / 64 + 1))).length : Nat) : Int) ≤ ((q / 64 : Nat) : Int) := by omega
      rw [a57l0n]
      simp (maxSteps := 30000000) (disch := first | assumption | omega | (simp only [List.length_cons, List.length_nil, List.length_append, List.length_set, List.length_replicate, List.length_map, List.length_range, List.length_take, List.length_drop, List.all_cons, List.all_nil, AV.isCell, Bool.and_self, Bool.and_true, bs_length, is64_length, w64_length, ints_length] <;> omega) | rfl | decide) only [a57l0b, run_seq, run_region, runOps_cons, oper_none, ex_mov, opv, List.getD_cons_succ, List.getD_cons_zero, putK_to, List.set_cons_succ, List.set_cons_zero, opsK_some, ex_len, lenA_own, valK_some, ex_bin, bin_quo, hdq, wr64, bin_leq, hng, decide_false, runOps_nil, regK_some, seqK_normal, run_cond, condK_bool, Bool.false_eq_true, run_skip, run_exit, if_false, seqK_exit, loopK_exit, a57l0c]
  | d + 1, T, v, m, h, hr, hO => by
    have hdq : ((q : Nat) : Int).tdiv 64 = ((q / 64 : Nat) : Int) := by rw [show (64 : Int) = ((64 : Nat) : Int) from rfl, ctdiv]
    have hpl : (padN r m).length = m := by unfold padN; simp; omega
    have hps : padN r (m + 1) = padN r m ++ [0] := by
      unfold padN
      rw [show m + 1 - r.length = (m - r.length) + 1 by omega, List.replicate_succ', List.append_assoc]
    have hpl1 : (padN r (m + 1)).length = m + 1 := by rw [hps]; simp [hpl]
    have hw : w64 (padN r (m + 1)) = w64 (padN r m) ++ [AV.int .u64 0] := by rw [hps, ← w64_app]; rfl
    rcases hO with ⟨rfl, e⟩ | ⟨k, rfl, hk⟩
    · have hm0 : m = 0 := by rw [← hpl, e]; rfl
      subst hm0
      rw [e] at hw
      obtain ⟨T', v', g1, g2⟩ := pad_loop (z := z) (l := l) (i := i) (r := r) hq d (T ++ [.cells false false (w64 (padN r (0 + 1)))]) (.own false T.length 0 1 1) 1 (by omega) (by omega) (.inr ⟨T.length, by rw [hpl1], by simp⟩)
      refine ⟨T', v', ?_, g2⟩
      rw [hw] at g1
      simp only [w64_nil, List.nil_append] at g1
      have hle : (0 : Int) ≤ ((q / 64 : Nat) : Int) := by omega
      rw [a57l0n]
      simp (maxSteps := 30000000) (disch := first | assumption | omega | (simp only [List.length_cons, List.length_nil, List.length_append, List.length_set, List.length_replicate, List.length_map, List.length_range, List.length_take, List.length_drop, List.all_cons, List.all_nil, AV.isCell, Bool.and_self, Bool.and_true, bs_length, is64_length, w64_length, ints_length] <;> omega) | rfl | decide) only [a57l0b, run_seq, run_region, runOps_cons, oper_none, ex_mov, opv, List.getD_cons_succ, List.getD_cons_zero, putK_to, List.set_cons_succ, List.set_cons_zero, opsK_some, ex_len, lenA_sl, castLit, valK_some, ex_bin, bin_quo, hdq, wr64, bin_leq, hle, decide_true, runOps_nil, regK_some, seqK_normal, run_cond, condK_bool, run_skip, run_exit, if_true, run_block, ex_bslice, AV.cells, List.all_cons, List.length_cons, List.length_nil, Nat.zero_add, beq_self_eq_true, List.all_nil, Bool.and_self, repz_1, List.append_nil, Nat.mul_one, List.map_cons, List.map_nil, fillA, Nat.le_refl, AV.isCell, and_self, splice, List.take_zero, List.nil_append, List.drop_succ_cons, List.drop_nil, newK_some, newA_data, frzN, List.flatMap_cons, bor_int, List.flatMap_nil, List.isEmpty_nil, List.mapM_cons, frz_int, List.mapM_nil, Option.pure_def, Option.bind_eq_bind, Option.bind_some, slK_some, ex_append, src_sl, appK_nil, Nat.reduceBEq, newA_own, blockK_normal, loopK_normal, a57l0c, g1]
    · have hkl := (List.getElem?_eq_some_iff.1 hk).1
      rw [hpl]
      obtain ⟨T', v', g1, g2⟩ := pad_loop (z := z) (l := l) (i := i) (r := r) hq d (T.set k .dead ++ [.cells false false (w64 (padN r (m + 1)))]) (.own false T.length 0 (m + 1) 1) (m + 1) (by omega) (by omega) (.inr ⟨T.length, by rw [hpl1], by simp⟩)
      refine ⟨T', v', ?_, g2⟩
      rw [hw] at g1
      have hle : ((m : Nat) : Int) ≤ ((q / 64 : Nat) : Int) := by omega
      have htk : List.take m (w64 (padN r m)) = w64 (padN r m) := List.take_of_length_le (by rw [w64_length]; omega)
      rw [a57l0n]
      simp (maxSteps := 30000000) (disch := first | assumption | omega | (simp only [List.length_cons, List.length_nil, List.length_append, List.length_set, List.length_replicate, List.length_map, List.length_range, List.length_take, List.length_drop, List.all_cons, List.all_nil, AV.isCell, Bool.and_self, Bool.and_true, bs_length, is64_length, w64_length, ints_length] <;> omega) | rfl | decide) only [a57l0b, run_seq, run_region, runOps_cons, oper_none, ex_mov, opv, List.getD_cons_succ, List.getD_cons_zero, putK_to, List.set_cons_succ, List.set_cons_zero, opsK_some, ex_len, lenA_own, valK_some, ex_bin, bin_quo, hdq, wr64, bin_leq, hle, decide_true, runOps_nil, regK_some, seqK_normal, run_cond, condK_bool, run_skip, run_exit, if_true, run_block, ex_bslice, AV.cells, List.all_cons, List.length_cons, List.length_nil, Nat.zero_add, beq_self_eq_true, List.all_nil, Bool.and_self, repz_1, List.append_nil, Nat.mul_one, List.map_cons, List.map_nil, fillA, Nat.le_refl, AV.isCell, and_self, splice, List.take_zero, List.nil_append, List.drop_succ_cons, List.drop_nil, newK_some, newA_data, frzN, List.flatMap_cons, bor_int, List.flatMap_nil, List.isEmpty_nil, List.mapM_cons, frz_int, List.mapM_nil, Option.pure_def, Option.bind_eq_bind, Option.bind_some, slK_some, ex_append, src_sl, appK_own, hk, appOK_cells, Nat.reduceBEq, htk, blockK_normal, loopK_normal, a57l0c, g1]

theorem pad_get (r : List Nat) (m i : Nat) : (padN r m).getD i 0 = r.getD i 0 := by
  unfold padN
  by_cases h : i < r.length
  · simp [List.getD, List.getElem?_append_left h]
  · rw [getD_out (by omega : r.length ≤ i), List.getD_eq_getElem?_getD, List.getElem?_append_right (by omega), List.getElem?_replicate]
    split <;> rfl
theorem pad_len (r : List Nat) (m : Nat) (h : r.length ≤ m) : (padN r m).length = m := by unfold padN; simp; omega

/-- the words with one number more -/
def orW (r : List Nat) (k : Nat) : List Nat := (padN r (max r.length (k / 64 + 1))).set (k / 64) (r.getD (k / 64) 0 ||| 2 ^ (k % 64))
theorem orW_len (r : List Nat) (k : Nat) : (orW r k).length = max r.length (k / 64 + 1) := by
  unfold orW
  rw [List.length_set, pad_len _ _ (by omega)]
theorem orW_get (r : List Nat) (k i : Nat) : (orW r k).getD i 0 = if i = k / 64 then r.getD i 0 ||| 2 ^ (k % 64) else r.getD i 0 := by
  unfold orW
  rw [List.getD_eq_getElem?_getD, List.getElem?_set]
  by_cases h : k / 64 = i
  · rw [if_pos h, if_pos (by rw [pad_len _ _ (by omega)]; omega), if_pos h.symm, Option.getD_some, h]
  · rw [if_neg h, if_neg (fun e => h e.symm), ← List.getD_eq_getElem?_getD, pad_get]

theorem pow_lt64 (k : Nat) : 2 ^ (k % 64) < 18446744073709551616 := by
  have : (2 : Nat) ^ (k % 64) < 2 ^ 64 := Nat.pow_lt_pow_right (by omega) (Nat.mod_lt _ (by omega))
  omega

theorem canS_or {r : List Nat} {S : Nat → Bool} {k : Nat} (h : CanS r S) (hk : k < 4096) : CanS (orW r k) (fun j => S j || decide (j = k)) := by
  have hl := h.2.1
  have hol := orW_len r k
  refine ⟨fun x hx => ?_, by omega, fun hne => ?_, fun j => ?_⟩
  · obtain ⟨i, hi, rfl⟩ := List.mem_iff_getElem.1 hx
    have : (orW r k)[i] = (orW r k).getD i 0 := by simp [List.getD, List.getElem?_eq_getElem hi]
    rw [this, orW_get]
    split
    · exact or_lt (h.1.get _) (pow_lt64 k)
    · exact h.1.get _
  · rw [orW_get, hol]
    split
    · intro e
      have := Nat.right_le_or (n := r.getD (max r.length (k / 64 + 1) - 1) 0) (m := 2 ^ (k % 64))
      have hp : 0 < 2 ^ (k % 64) := Nat.pow_pos (by omega)
      omega
    · rename_i hn
      have hlast := h.2.2.1 (by intro e; rw [e] at hn; simp at hn)
      rw [show max r.length (k / 64 + 1) - 1 = r.length - 1 by omega]
      exact hlast
  · show mem (orW r k) j = (S j || decide (j = k))
    rw [← h.2.2.2 j]
    unfold mem
    rw [orW_get]
    by_cases hj : j < 4096
    · rw [decide_eq_true hj, Bool.true_and, Bool.true_and]
      split
      · rename_i e
        rw [Nat.testBit_or, Nat.testBit_two_pow]
        congr 1
        rw [decide_eq_decide]
        omega
      · rename_i e
        have : decide (j = k) = false := by rw [decide_eq_false_iff_not]; rintro rfl; exact e rfl
        rw [this, Bool.or_false]
    · have : decide (j = k) = false := by rw [decide_eq_false_iff_not]; omega
      rw [decide_eq_false hj, this]
      simp

theorem rof_loop {z : Bool} {l : List Int} (hl : l.length < 1099511627776) (hq : ∀ q ∈ l, 0 ≤ q ∧ q < 4096) : ∀ d i T v r S, i + d = l.length → OwnN T v r → CanS r S →
    ∃ T' v' r', L.loop a57l1s a57l1 ⟨a57l1F (iw z l) v (.int .i64 (i : Nat)), T⟩ = some (.exit 0, ⟨a57l1F (iw z l) v' (.int .i64 (l.length : Nat)), T'⟩) ∧ OwnN T' v' r' ∧ CanS r' (fun j => S j || (l.drop i).contains (j : Int))
  | 0, i, T, v, r, S, h, hO, hC => by
    obtain rfl : i = l.length := by omega
    refine ⟨T, v, r, ?_, hO, hC.congr (fun j => by simp)⟩
    rw [a57l1n]
    simp (maxSteps := 30000000) (disch := first | assumption | omega | (simp only [List.length_cons, List.length_nil, List.length_append, List.length_set, List.length_replicate, List.length_map, List.length_range, List.length_take, List.length_drop, List.all_cons, List.all_nil, AV.isCell, Bool.and_self, Bool.and_true, bs_length, is64_length, w64_length, ints_length] <;> omega) | rfl | decide) only [a57l1b, run_seq, run_region, runOps_cons, oper_none, ex_mov, opv, List.getD_cons_succ, List.getD_cons_zero, putK_to, List.set_cons_succ, List.set_cons_zero, opsK_some, ex_len, lenA_sl, valK_some, ex_bin, bin_lss, Int.lt_irrefl, decide_false, runOps_nil, regK_some, seqK_normal, run_cond, condK_bool, Bool.false_eq_true, run_skip, run_exit, if_false, seqK_exit, loopK_exit, a57l1c]
  | d + 1, i, T, v, r, S, h, hO, hC => by
    have hlt : (i : Int) < (l.length : Nat) := by omega
    have hm : l.getD i 0 ∈ l := by
      rw [List.getD_eq_getElem?_getD, List.getElem?_eq_getElem (by omega)]
      exact List.getElem_mem _
    obtain ⟨h0, h1⟩ := hq _ hm
    obtain ⟨q, hqq⟩ : ∃ q : Nat, l.getD i 0 = (q : Int) := ⟨(l.getD i 0).toNat, by omega⟩
    have hcongr : ∀ j, ((S j || decide (j = q)) || (l.drop (i + 1)).contains (j : Int)) = (S j || (l.drop i).contains (j : Int)) := fun j => by
      rw [drop_getI (by omega : i < l.length), List.contains_cons, hqq]
      have : (decide (j = q)) = ((j : Int) == (q : Int)) := by
        rw [Bool.eq_iff_iff]
        simp only [decide_eq_true_eq, beq_iff_eq]
        omega
      rw [this, Bool.or_assoc]
    obtain ⟨T1, v1, g1, g2⟩ := pad_loop (z := z) (l := l) (i := i) (r := r) (q := q) (by omega) (max r.length (q / 64 + 1) - r.length) T v r.length (by omega) (Nat.le_refl _) (by unfold padN; simpa using hO)
    have hpl := pad_len r (max r.length (q / 64 + 1)) (by omega)
    have hl64 := hC.2.1
    rcases g2 with ⟨rfl, e⟩ | ⟨k, rfl, hk⟩
    · rw [e] at hpl; simp at hpl; omega
    · have hkl := (List.getElem?_eq_some_iff.1 hk).1
      obtain ⟨T', v', r', g3, g4, g5⟩ := rof_loop (z := z) hl hq d (i + 1) (T1.set k (.cells false false (w64 (orW r q)))) (.own false k 0 (max r.length (q / 64 + 1)) 1) (orW r q) _ (by omega) (.inr ⟨k, by rw [orW_len], by simp [hkl]⟩) (canS_or hC (by omega : q < 4096))
      refine ⟨T', v', r', ?_, g4, g5.congr hcongr⟩
      rw [hpl] at g1
      have hdq : ((q : Nat) : Int).tdiv 64 = ((q / 64 : Nat) : Int) := by rw [show (64 : Int) = ((64 : Nat) : Int) from rfl, ctdiv]
      have hmq : ((q : Nat) : Int).tmod 64 = ((q % 64 : Nat) : Int) := by rw [show (64 : Int) = ((64 : Nat) : Int) from rfl, ctmod]
      have c1 : ¬ ((q : Nat) : Int) < 0 := by omega
      have c2 : ¬ (4095 : Int) < ((q : Nat) : Int) := by omega
      have hsh : IntKind.u64.wrap (1 * 2 ^ min (q % 64) IntKind.u64.bits) = ((2 ^ (q % 64) : Nat) : Int) := by
        have e1 : min (q % 64) IntKind.u64.bits = q % 64 := Nat.min_eq_left (by show q % 64 ≤ 64; omega)
        rw [e1, Int.one_mul, show (2 : Int) ^ (q % 64) = ((2 ^ (q % 64) : Nat) : Int) from by rw [Int.natCast_pow]; rfl]
        exact wrU64 (by have := pow_lt64 q; omega)
      have hor := or64 (hC.1.get (q / 64)) (pow_lt64 q)
      have hpg := pad_get r (max r.length (q / 64 + 1)) (q / 64)
      have hset : (padN r (max r.length (q / 64 + 1))).set (q / 64) (r.getD (q / 64) 0 ||| 2 ^ (q % 64)) = orW r q := rfl
      rw [a57l1n]
      simp (maxSteps := 30000000) (disch := first | assumption | omega | (simp only [List.length_cons, List.length_nil, List.length_append, List.length_set, List.length_replicate, List.length_map, List.length_range, List.length_take, List.length_drop, List.all_cons, List.all_nil, AV.isCell, Bool.and_self, Bool.and_true, bs_length, is64_length, w64_length, ints_length] <;> omega) | rfl | decide) only [a57l1b, run_seq, run_region, runOps_cons, oper_none, ex_mov, opv, List.getD_cons_succ, List.getD_cons_zero, putK_to, List.set_cons_succ, List.set_cons_zero, opsK_some, ex_len, lenA_sl, valK_some, ex_bin, bin_lss, hlt, decide_true, runOps_nil, regK_some, seqK_normal, run_cond, condK_bool, run_skip, run_exit, if_true, run_block, ex_iaddr, iaddrA_sl, Int.toNat_natCast, Nat.mul_one, ex_load, rd_vptr, ints_drop, ints_take, ints_at0, getD_dropI, Nat.add_zero, hqq, loadK_1, c1, decide_false, oper_guard, guardK_bool, putA_to, bin_gtr, c2, ex_pick, pickA_bool, Bool.false_eq_true, if_false, run_loop, a57l0c, g1, blockK_exit, bin_quo, hdq, wr64, iaddrA_own, Nat.zero_add, rd_ptr, hk, rdK_cells, w64_drop, w64_take, w64_at0, drop_getD, hpg, bin_rem, hmq, ex_conv, convA_int, wrU64, bin_shl, hsh, bin_or, hor, ex_store, AV.cells, List.length_cons, List.length_nil, wr_ptr, wrK_cells, splice, List.append_assoc, List.cons_append, List.nil_append, w64_put1, hset, storeK_some, putK_no, blockK_normal, bin_add, cadd1, loopK_normal, a57l1c, g3]
end Go.Abs.Nfa
