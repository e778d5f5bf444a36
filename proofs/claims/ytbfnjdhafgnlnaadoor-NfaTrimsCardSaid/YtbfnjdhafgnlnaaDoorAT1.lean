/- The lowest bit of a word: TrailingZeros64; the bits of a word in ascending order. -/
import Derived.Test.YtbfnjdhafgnlnaaDoorAN2
namespace Go.Abs.NfaD
open Go Go.Abs
set_option linter.unusedSimpArgs false
set_option linter.unusedVariables false

/-- k is the lowest bit of x -/
def Low (x k : Nat) : Prop := x.testBit k = true ∧ ∀ i, i < k → x.testBit i = false

theorem low_split {x k : Nat} (h : Low x k) : ∃ m, x = 2 ^ (k + 1) * m + 2 ^ k := by
  refine ⟨x / 2 ^ (k + 1), ?_⟩
  apply Nat.eq_of_testBit_eq
  intro i
  rw [Nat.testBit_two_pow_mul_add _ (Nat.pow_lt_pow_right (by omega) (by omega) : 2 ^ k < 2 ^ (k + 1)), Nat.testBit_two_pow, Nat.testBit_div_two_pow]
  split
  · rename_i hi
    by_cases e : k = i
    · subst e; simp [h.1]
    · rw [h.2 i (by omega)]; simp [e]
  · rename_i hi
    rw [show i - (k + 1) + (k + 1) = i by omega]

theorem low_pos {x k : Nat} (h : Low x k) : 0 < x := by
  obtain ⟨m, rfl⟩ := low_split h
  have := Nat.two_pow_pos k
  omega

theorem low_pred {x k : Nat} (h : Low x k) (i : Nat) : (x - 1).testBit i = if i < k then true else if i = k then false else x.testBit i := by
  obtain ⟨m, rfl⟩ := low_split h
  have h1 := Nat.two_pow_pos k
  have h2 : 2 ^ k < 2 ^ (k + 1) := Nat.pow_lt_pow_right (by omega) (by omega)
  rw [show 2 ^ (k + 1) * m + 2 ^ k - 1 = 2 ^ (k + 1) * m + (2 ^ k - 1) by omega, Nat.testBit_two_pow_mul_add _ (by omega), Nat.testBit_two_pow_mul_add _ h2, Nat.testBit_two_pow_sub_one, Nat.testBit_two_pow]
  by_cases a : i < k
  · simp [a, show i < k + 1 by omega]
  · by_cases b : i = k
    · subst b; simp
    · simp [a, b, show ¬ i < k + 1 by omega]

theorem low_and {x k : Nat} (h : Low x k) (hx : x < 2 ^ 64) : x &&& (2 ^ 64 - x) = 2 ^ k := by
  have hp := low_pos h
  apply Nat.eq_of_testBit_eq
  intro i
  have e : 2 ^ 64 - x = 2 ^ 64 - (x - 1 + 1) := by omega
  have hk : k < 64 := by
    rcases Nat.lt_or_ge k 64 with q | q
    · exact q
    · have : x.testBit k = false := Nat.testBit_lt_two_pow (Nat.lt_of_lt_of_le hx (Nat.pow_le_pow_right (by omega) q))
      rw [h.1] at this; cases this
  rw [Nat.testBit_and, e, Nat.testBit_two_pow_sub_succ (by omega), low_pred h, Nat.testBit_two_pow]
  by_cases a : i < k
  · simp [a, h.2 i a, show ¬ k = i by omega]
  · by_cases b : i = k
    · subst b; simp [h.1, hk]
    · by_cases c : x.testBit i = true <;> simp [a, b, c, show ¬ k = i by omega]

theorem low_clear {x k : Nat} (h : Low x k) (i : Nat) : (x &&& (x - 1)).testBit i = (x.testBit i && decide (i ≠ k)) := by
  rw [Nat.testBit_and, low_pred h]
  by_cases a : i < k
  · simp [a, h.2 i a]
  · by_cases b : i = k
    · subst b; simp
    · by_cases c : x.testBit i = true <;> simp [a, b, c]

theorem neg64 {x : Nat} (h0 : 0 < x) (hx : x < 18446744073709551616) : IntKind.u64.wrap (0 - (x : Int)) = ((18446744073709551616 - x : Nat) : Int) := by
  simp [IntKind.wrap, IntKind.bits, IntKind.signed]; omega

theorem wrapU64 (n : Nat) : IntKind.u64.wrap (n : Int) = ((n % 18446744073709551616 : Nat) : Int) := by
  simp [IntKind.wrap, IntKind.bits, IntKind.signed]

def tabIx (k : Nat) : Nat := 2 ^ k * 285870213051353865 % 18446744073709551616 / 288230376151711744

def tabAt (k : Nat) : Bool := match globs 0 with
  | some cs => decide (tabIx k < cs.length) && (match cs[tabIx k]? with
    | some (AV.int .u8 n) => n == (k : Int)
    | _ => false)
  | none => false

theorem tabs (k : Nat) (hk : k < 64) : ∃ cs, globs 0 = some cs ∧ tabIx k < cs.length ∧ List.take 1 (List.drop (tabIx k) cs) = [.int .u8 (k : Nat)] := by
  have h1 : ∀ k : Fin 64, tabAt k.val = true := by decide +kernel
  have h := h1 ⟨k, hk⟩
  unfold tabAt at h
  split at h
  · rename_i cs hcs
    refine ⟨cs, hcs, ?_⟩
    simp only [Bool.and_eq_true, decide_eq_true_eq] at h
    obtain ⟨h2, h3⟩ := h
    refine ⟨h2, ?_⟩
    split at h3
    · rename_i n e
      rw [List.drop_eq_getElem_cons h2, List.take_succ_cons, List.take_zero]
      rw [List.getElem?_eq_getElem h2] at e
      rw [Option.some.inj e, eq_of_beq h3]
    · cases h3
  · cases h


theorem tz1 (k : Nat) : IntKind.u64.wrap (((2 ^ k : Nat) : Int) * 285870213051353865) = ((2 ^ k * 285870213051353865 % 18446744073709551616 : Nat) : Int) := by
    rw [show ((2 ^ k : Nat) : Int) * 285870213051353865 = ((2 ^ k * 285870213051353865 : Nat) : Int) from (Int.natCast_mul _ _).symm]
    exact wrapU64 _
theorem tz2 : (2 : Int) ^ (min 58 IntKind.u64.bits) = 288230376151711744 := by
    rw [show min 58 IntKind.u64.bits = 58 from rfl]; rfl
theorem tz3 (k : Nat) : (((2 ^ k * 285870213051353865 % 18446744073709551616 : Nat) : Int)).fdiv 288230376151711744 = ((tabIx k : Nat) : Int) := by
    unfold tabIx
    generalize 2 ^ k * 285870213051353865 % 18446744073709551616 = c
    rw [Int.fdiv_eq_ediv_of_nonneg _ (by decide)]
    omega
theorem tz4 (k : Nat) : tabIx k < 64 := by
    have : 2 ^ k * 285870213051353865 % 18446744073709551616 < 18446744073709551616 := Nat.mod_lt _ (by omega)
    unfold tabIx
    omega

theorem tz5 {x k : Nat} (h : Low x k) (hx : x < 18446744073709551616) (e0 : ((x : Int) = 0) = False) (e1 : IntKind.u64.wrap (0 - (x : Int)) = ((18446744073709551616 - x : Nat) : Int)) : bitsA .and .u64 (x : Int) ((18446744073709551616 - x : Nat) : Int) = ((2 ^ k : Nat) : Int) := by
    have hp := low_pos h
    rw [and64 hx (by omega)]
    have := low_and h (by omega)
    rw [show (2 : Nat) ^ 64 = 18446744073709551616 by rfl] at this
    rw [this]
theorem tz6 {x k y c j : Nat} {cs : List AV} (hk : k < 64) (e0 : ((x : Int) = 0) = False) (e1 : IntKind.u64.wrap (0 - (x : Int)) = (y : Int)) (e2 : bitsA .and .u64 (x : Int) (y : Int) = (c : Int)) (e3 : IntKind.u64.wrap ((c : Int) * 285870213051353865) = ((c * 285870213051353865 % 18446744073709551616 : Nat) : Int))
  (e4 : (((c * 285870213051353865 % 18446744073709551616 : Nat) : Int)).fdiv (2 ^ (min 58 IntKind.u64.bits)) = (j : Int)) (t1 : globs 0 = some cs) (t2 : j < cs.length) (t3 : List.take 1 (List.drop j cs) = [.int .u8 (k : Nat)]) (hlt : j < 64) : L.pcall 81 [.int .u64 (x : Nat)] = some (.int .i64 (k : Nat)) := by
  generalize c * 285870213051353865 % 18446744073709551616 = d at *
  rw [a81p, a81, pbodyA_eq]
  simp (maxSteps := 30000000) (disch := first | assumption | omega | (simp only [List.length_cons, List.length_nil, List.length_append, List.length_set, List.length_replicate, List.length_map, List.length_range, List.length_take, List.length_drop, List.all_cons, List.all_nil, AV.isCell, Bool.and_self, Bool.and_true, bs_length, is64_length, w64_length, ints_length] <;> omega) | rfl | decide) only [bodyA_eq, List.length_cons, List.length_nil, Nat.zero_add, Nat.reduceSub, pads, List.cons_append, List.nil_append, run_seq, run_region, runOps_cons, oper_none, ex_mov, opv, putK_to, List.set_cons_succ, List.set_cons_zero, opsK_some, runOps_nil, regK_some, seqK_normal, List.getD_cons_zero, ex_bin, List.getD_cons_succ, bin_eql, e0, decide_false, valK_some, run_cond, condK_bool, Bool.false_eq_true, run_ret, run_skip, if_false, ex_un, un_neg, e1, bin_and, e2, bin_mul, e3, bin_shr, Int.reduceToNat, e4, ex_garr, t1, garrA_some, Int.toNat_natCast, Nat.mul_one, ex_load, rd_vptr, t3, loadK_1, ex_conv, convA_int, wr64, bodyK_ret, results_1, res_tmp, retvK_some, pbodyK_some, frzN, frz_int]



theorem low_lt {x k : Nat} (h : Low x k) (hx : x < 18446744073709551616) : k < 64 := by
  rcases Nat.lt_or_ge k 64 with q | q
  · exact q
  · have : x.testBit k = false := Nat.testBit_lt_two_pow (Nat.lt_of_lt_of_le (by omega : x < 2 ^ 64) (Nat.pow_le_pow_right (by omega) q))
    rw [h.1] at this; cases this

theorem tz81 {x k : Nat} (h : Low x k) (hx : x < 18446744073709551616) : L.pcall 81 [.int .u64 (x : Nat)] = some (.int .i64 (k : Nat)) := by
  have hp := low_pos h
  have hk := low_lt h hx
  have e0 : ((x : Int) = 0) = False := eq_false (by omega)
  have e1 := neg64 hp hx
  obtain ⟨cs, t1, t2, t3⟩ := tabs k hk
  exact tz6 hk e0 e1 (tz5 h hx e0 e1) (tz1 k) (by rw [tz2]; exact tz3 k) t1 t2 t3 (tz4 k)

/-! the bits of a word, in ascending order -/
def bitsFrom (x j : Nat) : List Nat := (List.range' j (64 - j)).filter fun i => x.testBit i

theorem bitsFrom_step {x j : Nat} (hj : j < 64) : bitsFrom x j = if x.testBit j = true then j :: bitsFrom x (j + 1) else bitsFrom x (j + 1) := by
  unfold bitsFrom
  rw [show 64 - j = (64 - (j + 1)) + 1 by omega, List.range'_succ, List.filter_cons]

theorem bitsFrom_end (x : Nat) {j : Nat} (h : 64 ≤ j) : bitsFrom x j = [] := by
  unfold bitsFrom
  rw [show 64 - j = 0 by omega]; rfl

/-- either there is no bit from j on, or there is a lowest one -/
theorem low_or {x : Nat} : ∀ d j, j + d = 64 → (bitsFrom x j = [] ∧ ∀ i, j ≤ i → i < 64 → x.testBit i = false) ∨ ∃ k, j ≤ k ∧ k < 64 ∧ x.testBit k = true ∧ (∀ i, j ≤ i → i < k → x.testBit i = false) ∧ bitsFrom x j = k :: bitsFrom x (k + 1)
  | 0, j, h => .inl ⟨bitsFrom_end x (by omega), fun i h1 h2 => by omega⟩
  | d + 1, j, h => by
    rw [bitsFrom_step (by omega)]
    cases hb : x.testBit j with
    | true => exact .inr ⟨j, Nat.le_refl _, by omega, hb, fun i h1 h2 => by omega, by simp⟩
    | false =>
      rcases low_or (x := x) d (j + 1) (by omega) with ⟨h1, h2⟩ | ⟨k, h1, h2, h3, h4, h5⟩
      · refine .inl ⟨by simpa using h1, fun i hi1 hi2 => ?_⟩
        by_cases e : i = j
        · subst e; exact hb
        · exact h2 i (by omega) hi2
      · refine .inr ⟨k, by omega, h2, h3, fun i hi1 hi2 => ?_, by simpa using h5⟩
        by_cases e : i = j
        · subst e; exact hb
        · exact h4 i (by omega) hi2
end Go.Abs.NfaD
