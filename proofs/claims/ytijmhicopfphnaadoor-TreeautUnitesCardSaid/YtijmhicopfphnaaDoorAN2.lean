/- Sets by what they hold. -/
import Derived.Test.YtijmhicopfphnaaDoorAN1
namespace Go.Abs.Tree
open Go Go.Abs
set_option linter.unusedSimpArgs false
set_option linter.unusedVariables false

theorem combM_get (op : Nat → Nat → Nat) (a b : List Nat) (h0 : op 0 0 = 0) (i : Nat) (hi : i < 64) : (combM op a b).getD i 0 = op (a.getD i 0) (b.getD i 0) := by
  unfold combM
  generalize hN : min (max a.length b.length) 64 = N
  have hv : ∀ i, i < N → (vals op a b N).getD i 0 = op (a.getD i 0) (b.getD i 0) := fun i hi => by simp [vals, hi]
  have hle := stripN_le (vals op a b N) N
  by_cases h : i < stripN (vals op a b N) N
  · rw [← hv i (by omega)]
    simp [List.getD, List.getElem?_take, h]
  · rw [getD_out (by rw [List.length_take, vals_length]; omega)]
    by_cases h2 : i < N
    · rw [← hv i h2]
      exact (stripN_zero _ N i (by omega) h2).symm
    · rw [getD_out (l := a) (by omega), getD_out (l := b) (by omega), h0]

theorem combM_len (op : Nat → Nat → Nat) (a b : List Nat) : (combM op a b).length ≤ 64 := by
  unfold combM
  rw [List.length_take, vals_length]; omega

theorem combM_W {op : Nat → Nat → Nat} {a b : List Nat} (hop : ∀ x y, x < 18446744073709551616 → y < 18446744073709551616 → op x y < 18446744073709551616) (wa : W a) (wb : W b) : W (combM op a b) := by
  intro x hx
  have := List.mem_of_mem_take hx
  simp only [vals, List.mem_map] at this
  obtain ⟨i, _, rfl⟩ := this
  exact hop _ _ (wa.get i) (wb.get i)

theorem combM_last (op : Nat → Nat → Nat) (a b : List Nat) (h : combM op a b ≠ []) : (combM op a b).getD ((combM op a b).length - 1) 0 ≠ 0 := by
  unfold combM at h ⊢
  generalize hN : min (max a.length b.length) 64 = N at *
  have hle := stripN_le (vals op a b N) N
  have hl : ((vals op a b N).take (stripN (vals op a b N) N)).length = stripN (vals op a b N) N := by rw [List.length_take, vals_length]; omega
  have hp : 0 < stripN (vals op a b N) N := by
    rw [← hl]; exact List.length_pos_iff.2 h
  rw [hl]
  have := stripN_last _ N hp
  rw [show ((vals op a b N).take (stripN (vals op a b N) N)).getD (stripN (vals op a b N) N - 1) 0 = (vals op a b N).getD (stripN (vals op a b N) N - 1) 0 from by
    simp [List.getD, List.getElem?_take, show stripN (vals op a b N) N - 1 < stripN (vals op a b N) N by omega]]
  exact this

/-- is j in the set of these words? -/
def mem (l : List Nat) (j : Nat) : Bool := decide (j < 4096) && (l.getD (j / 64) 0).testBit (j % 64)

theorem mem_comb {op : Nat → Nat → Nat} {f : Bool → Bool → Bool} (a b : List Nat) (h0 : op 0 0 = 0) (hf : ∀ x y i, (op x y).testBit i = f (x.testBit i) (y.testBit i)) (j : Nat) (hj : j < 4096) : mem (combM op a b) j = f (mem a j) (mem b j) := by
  unfold mem
  rw [combM_get op a b h0 _ (by omega), hf]
  simp [hj]

theorem bit_of_ne {x : Nat} (h : x ≠ 0) (hx : x < 18446744073709551616) : ∃ i, i < 64 ∧ x.testBit i = true := by
  obtain ⟨i, hi⟩ := Nat.exists_testBit_ne_of_ne h
  rw [Nat.zero_testBit] at hi
  have h1 : x.testBit i = true := by simpa using hi
  refine ⟨i, ?_, h1⟩
  rcases Nat.lt_or_ge i 64 with q | q
  · exact q
  · have : x.testBit i = false := Nat.testBit_lt_two_pow (Nat.lt_of_lt_of_le hx (by
      have : 2 ^ 64 ≤ 2 ^ i := Nat.pow_le_pow_right (by omega) q
      omega))
    rw [this] at h1; cases h1

/-- v is a set of the numbers of S -/
def HasSet (v : AV) (S : Nat → Bool) : Prop := ∃ z l, v = sw z l ∧ W l ∧ l.length < 1099511627776 ∧ ∀ j, mem l j = S j

theorem HasSet.out {v : AV} {S : Nat → Bool} (h : HasSet v S) {j : Nat} (hj : 4096 ≤ j) : S j = false := by
  obtain ⟨z, l, rfl, _, _, h⟩ := h
  rw [← h j]
  simp [mem, show ¬ j < 4096 by omega]

theorem HasSet.congr {v : AV} {S T : Nat → Bool} (h : HasSet v S) (e : ∀ j, S j = T j) : HasSet v T := by
  obtain ⟨z, l, rfl, w, hl, h⟩ := h
  exact ⟨z, l, rfl, w, hl, fun j => (h j).trans (e j)⟩

theorem empty_has {z : Bool} : HasSet (.sl z 0 []) (fun _ => false) := ⟨z, [], rfl, by intro x hx; simp at hx, by simp, fun j => by simp [mem]⟩

theorem or_lt {x y : Nat} (hx : x < 18446744073709551616) (hy : y < 18446744073709551616) : x ||| y < 18446744073709551616 := by
  have : x ||| y < 2 ^ 64 := Nat.or_lt_two_pow (by omega) (by omega)
  omega

theorem union_raw {za zb : Bool} {a b : List Nat} (wa : W a) (wb : W b) (ha : a.length < 1099511627776) (hb : b.length < 1099511627776) : ∃ z, L.pcall 95 [sw za a, sw zb b] = some (sw z (combM (· ||| ·) a b)) := by
  obtain ⟨z, H', h⟩ := comb_eq (za := za) (zb := zb) (g := 106) (op := (· ||| ·)) (fun x y H hx hy => or59 x y H hx hy) wa wb
  refine ⟨z, ?_⟩
  rw [a95p, a95, pbodyA_eq]
  simp (maxSteps := 30000000) (disch := first | assumption | omega | (simp only [List.length_cons, List.length_nil, List.length_append, List.length_set, List.length_replicate, List.length_map, List.length_range, List.length_take, List.length_drop, List.all_cons, List.all_nil, AV.isCell, Bool.and_self, Bool.and_true, bs_length, is64_length, w64_length, ints_length] <;> omega) | rfl | decide) only [bodyA_eq, List.length_cons, List.length_nil, Nat.zero_add, Nat.reduceAdd, Nat.reduceSub, pads, List.cons_append, List.nil_append, run_seq, run_region, runOps_cons, oper_none, ex_mov, opv, putK_to, List.set_cons_succ, List.set_cons_zero, opsK_some, runOps_nil, regK_some, seqK_normal, List.getD_cons_zero, List.getD_cons_succ, ex_icall, List.map_cons, List.map_nil, h, run_ret, bodyK_ret, results_1, res_tmp, retvK_some, pbodyK_some, frzN, frz_sl]

theorem union_has {v u : AV} {S T : Nat → Bool} (hv : HasSet v S) (hu : HasSet u T) : ∃ z l, L.pcall 95 [v, u] = some (sw z l) ∧ HasSet (sw z l) (fun j => S j || T j) := by
  obtain ⟨za, a, rfl, wa, la, ha⟩ := id hv
  obtain ⟨zb, b, rfl, wb, lb, hb⟩ := id hu
  obtain ⟨z, h⟩ := union_raw (za := za) (zb := zb) wa wb la lb
  refine ⟨z, _, h, z, _, rfl, combM_W (fun x y hx hy => or_lt hx hy) wa wb, by have := combM_len (· ||| ·) a b; omega, fun j => ?_⟩
  by_cases hj : j < 4096
  · rw [mem_comb (f := (· || ·)) a b (by simp) (fun x y i => by simp) j hj, ha, hb]
  · show mem _ j = (S j || T j)
    rw [hv.out (j := j) (by omega), hu.out (j := j) (by omega)]
    simp [mem, hj]

/-! one number -/
theorem repz_w64 (n : Nat) : repz [AV.int .u64 0] n = w64 (List.replicate n 0) := by
  induction n with
  | zero => rfl
  | succ n ih => simp [repz, ih, w64, List.replicate_succ]

def oneM (k : Nat) : List Nat := (List.replicate (k / 64 + 1) 0).set (k / 64) (2 ^ (k % 64))

theorem single_eq (k : Nat) (hk : k < 4096) : L.pcall 78 [.int .i64 (k : Nat)] = some (.sl false (k / 64 + 1) (w64 (oneM k))) := by
  have h1 : ¬ ((4095 : Int) < (k : Nat)) := by omega
  have h64 : ((k : Nat) : Int).tdiv 64 = ((k / 64 : Nat) : Int) := by rw [show (64 : Int) = ((64 : Nat) : Int) from rfl, ctdiv]
  have hm64 : ((k : Nat) : Int).tmod 64 = ((k % 64 : Nat) : Int) := by rw [show (64 : Int) = ((64 : Nat) : Int) from rfl, ctmod]
  have hlt : k % 64 < 64 := Nat.mod_lt _ (by omega)
  have hd : k / 64 < 64 := by omega
  have hsh : IntKind.u64.wrap (1 * 2 ^ min (k % 64) IntKind.u64.bits) = ((2 ^ (k % 64) : Nat) : Int) := by
    have e1 : min (k % 64) IntKind.u64.bits = k % 64 := Nat.min_eq_left (by show k % 64 ≤ 64; omega)
    have e2 : (2 : Nat) ^ (k % 64) < 2 ^ 64 := Nat.pow_lt_pow_right (by omega) hlt
    rw [e1, Int.one_mul, show (2 : Int) ^ (k % 64) = ((2 ^ (k % 64) : Nat) : Int) from by rw [Int.natCast_pow]; rfl]
    exact wrU64 (by omega)
  unfold oneM
  generalize k / 64 = d at *
  generalize k % 64 = r at *
  have hlen : ((List.replicate (d + 1) 0).set d (2 ^ r)).length = d + 1 := by simp
  have htk : List.take (d + 1) ((List.replicate (d + 1) 0).set d (2 ^ r)) = (List.replicate (d + 1) 0).set d (2 ^ r) := List.take_of_length_le (by omega)
  rw [a78p, a78, pbodyA_eq]
  simp (maxSteps := 30000000) (disch := first | assumption | omega | (simp only [List.length_cons, List.length_nil, List.length_append, List.length_set, List.length_replicate, List.length_map, List.length_range, List.length_take, List.length_drop, List.all_cons, List.all_nil, AV.isCell, Bool.and_self, Bool.and_true, bs_length, is64_length, w64_length, ints_length] <;> omega) | rfl | decide) only [bodyA_eq, List.length_cons, List.length_nil, Nat.zero_add, Nat.reduceSub, pads, List.cons_append, List.nil_append, run_seq, run_region, runOps_cons, oper_none, ex_mov, opv, putK_to, List.set_cons_succ, List.set_cons_zero, opsK_some, runOps_nil, regK_some, seqK_normal, List.getD_cons_zero, ex_bin, List.getD_cons_succ, bin_lss, ltc0, decide_false, valK_some, oper_guard, guardK_bool, putA_to, if_true, bin_gtr, h1, ex_pick, pickA_bool, Bool.false_eq_true, if_false, run_cond, condK_bool, run_ret, run_skip, bin_quo, h64, wr64, bin_add, cadd1, ex_mkslice, mksK_int, Int.toNat_natCast, repz_w64, newA_own, bin_rem, hm64, bin_shl, hsh, ex_iaddr, iaddrA_own, Nat.mul_one, ex_store, AV.cells, wr_ptr, List.getElem?_cons_zero, wrK_cells, splice, w64_take, w64_drop, List.append_assoc, w64_put1, storeK_some, putK_no, bodyK_ret, results_1, res_tmp, retvK_some, pbodyK_some, frzN, frz_own, frzK_cells, List.drop_zero, htk, frz_w64, slK_some]

theorem oneM_W (k : Nat) : W (oneM k) := by
  intro x hx
  rcases List.mem_or_eq_of_mem_set hx with h | rfl
  · rw [(List.mem_replicate.1 h).2]; omega
  · have : (2 : Nat) ^ (k % 64) < 2 ^ 64 := Nat.pow_lt_pow_right (by omega) (Nat.mod_lt _ (by omega))
    omega

theorem oneM_mem (k : Nat) (hk : k < 4096) (j : Nat) : mem (oneM k) j = decide (j = k) := by
  unfold mem oneM
  rw [List.getD_eq_getElem?_getD, List.getElem?_set]
  by_cases h : k / 64 = j / 64
  · rw [if_pos h, if_pos (by simp <;> omega)]
    simp only [Option.getD_some, Nat.testBit_two_pow]
    by_cases e : j = k
    · subst e; simp [hk]
    · have : ¬ k % 64 = j % 64 := by omega
      simp [e, this]
  · rw [if_neg h]
    have e : ¬ j = k := by rintro rfl; exact h rfl
    simp [e, List.getElem?_replicate]
    split <;> simp

theorem single_has (k : Nat) (hk : k < 4096) : ∃ z l, L.pcall 78 [.int .i64 (k : Nat)] = some (sw z l) ∧ HasSet (sw z l) (fun j => decide (j = k)) := by
  have hlen : (oneM k).length = k / 64 + 1 := by simp [oneM]
  refine ⟨false, oneM k, ?_, false, oneM k, rfl, oneM_W k, by omega, oneM_mem k hk⟩
  rw [single_eq k hk, sl_w64 hlen]

theorem with_has {v : AV} {S : Nat → Bool} (hv : HasSet v S) (k : Nat) (hk : k < 4096) : ∃ z l, L.pcall 72 [v, .int .i64 (k : Nat)] = some (sw z l) ∧ HasSet (sw z l) (fun j => S j || decide (j = k)) := by
  obtain ⟨z, l, h1, h2⟩ := single_has k hk
  obtain ⟨z', l', h3, h4⟩ := union_has hv h2
  obtain ⟨za, a, rfl, wa, la, ha⟩ := id hv
  refine ⟨z', l', ?_, h4⟩
  rw [a72p, a72, pbodyA_eq]
  simp (maxSteps := 30000000) (disch := first | assumption | omega | (simp only [List.length_cons, List.length_nil, List.length_append, List.length_set, List.length_replicate, List.length_map, List.length_range, List.length_take, List.length_drop, List.all_cons, List.all_nil, AV.isCell, Bool.and_self, Bool.and_true, bs_length, is64_length, w64_length, ints_length] <;> omega) | rfl | decide) only [bodyA_eq, List.length_cons, List.length_nil, Nat.zero_add, Nat.reduceAdd, Nat.reduceSub, pads, List.cons_append, List.nil_append, run_seq, run_region, runOps_cons, oper_none, ex_mov, opv, putK_to, List.set_cons_succ, List.set_cons_zero, opsK_some, runOps_nil, regK_some, seqK_normal, List.getD_cons_zero, List.getD_cons_succ, ex_call, List.map_cons, List.map_nil, pcallA_eq, frzN, List.mapM_cons, frz_int, List.mapM_nil, Option.pure_def, Option.bind_eq_bind, Option.bind_some, argK_some, h1, retK_some, scal, scal1, Bool.false_eq_true, fzIds, List.flatMap_cons, bor_int, List.flatMap_nil, List.append_nil, List.foldl_nil, ite_self, frz_sl, h3, bor_sl, run_ret, bodyK_ret, results_1, res_tmp, retvK_some, pbodyK_some]
end Go.Abs.Tree
