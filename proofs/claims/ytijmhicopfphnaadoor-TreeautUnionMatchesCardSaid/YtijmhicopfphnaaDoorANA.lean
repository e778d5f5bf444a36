/- Sets of numbers as words: bitset. -/
import Derived.Test.YtijmhicopfphnaaDoorAProg
import Derived.Test.YtijmhicopfphnaaDoorAbsEnc2
namespace Go.Abs.Tree
open Go Go.Abs
set_option linter.unusedSimpArgs false
set_option linter.unusedVariables false

noncomputable abbrev L : Rec := lim aprog

abbrev sw (z : Bool) (l : List Nat) : AV := .sl z l.length (w64 l)
def W (l : List Nat) : Prop := ∀ x ∈ l, x < 18446744073709551616

theorem W.get {l : List Nat} (h : W l) (i : Nat) : l.getD i 0 < 18446744073709551616 := by
  rw [List.getD_eq_getElem?_getD]
  cases e : l[i]? with
  | none => simp
  | some x => exact h x (List.mem_of_getElem? e)

theorem getD_out {l : List Nat} {i : Nat} (h : l.length ≤ i) : l.getD i 0 = 0 := by
  simp [List.getD, List.getElem?_eq_none h]

theorem at71 (z : Bool) (a : List Nat) (i : Nat) (H : Heap) : L.icall (.func 104 []) [sw z a, .int .i64 (i : Nat)] H = some (.int .u64 (a.getD i 0 : Nat), H) := by
  by_cases hi : i < a.length
  · have h1 : (i : Int) < (a.length : Nat) := by omega
    rw [a104i, a104]
    simp (maxSteps := 30000000) (disch := first | assumption | omega | (simp only [List.length_cons, List.length_nil, List.length_append, List.length_set, List.length_replicate, List.length_map, List.length_range, List.length_take, List.length_drop, List.all_cons, List.all_nil, AV.isCell, Bool.and_self, Bool.and_true, bs_length, is64_length, w64_length, ints_length] <;> omega) | rfl | decide) only [List.append_nil, bodyA_eq, List.length_cons, List.length_nil, Nat.zero_add, Nat.reduceAdd, Nat.reduceSub, pads, List.cons_append, List.nil_append, run_seq, run_region, runOps_cons, oper_none, ex_mov, opv, putK_to, List.set_cons_succ, List.set_cons_zero, opsK_some, runOps_nil, regK_some, seqK_normal, List.getD_cons_succ, List.getD_cons_zero, ex_len, lenA_sl, valK_some, ex_bin, bin_lss, h1, decide_true, run_cond, condK_bool, ↓reduceIte, ex_iaddr, iaddrA_sl, Int.toNat_natCast, Nat.mul_one, ex_load, rd_vptr, w64_drop, w64_take, w64_at0, drop_getD, Nat.add_zero, loadK_1, run_ret, seqK_ret, bodyK_ret, results_1, res_tmp, retvK_some]
  · have h1 : ¬ (i : Int) < (a.length : Nat) := by omega
    rw [getD_out (by omega), a104i, a104]
    simp (maxSteps := 30000000) (disch := first | assumption | omega | (simp only [List.length_cons, List.length_nil, List.length_append, List.length_set, List.length_replicate, List.length_map, List.length_range, List.length_take, List.length_drop, List.all_cons, List.all_nil, AV.isCell, Bool.and_self, Bool.and_true, bs_length, is64_length, w64_length, ints_length] <;> omega) | rfl | decide) only [List.append_nil, bodyA_eq, List.length_cons, List.length_nil, Nat.zero_add, Nat.reduceAdd, Nat.reduceSub, pads, List.cons_append, List.nil_append, run_seq, run_region, runOps_cons, oper_none, ex_mov, opv, putK_to, List.set_cons_succ, List.set_cons_zero, opsK_some, runOps_nil, regK_some, seqK_normal, List.getD_cons_succ, List.getD_cons_zero, ex_len, lenA_sl, valK_some, ex_bin, bin_lss, h1, decide_false, run_cond, condK_bool, Bool.false_eq_true, ↓reduceIte, run_skip, run_ret, bodyK_ret, results_1, res_tmp, retvK_some, castLit]

theorem or59 (x y : Nat) (H : Heap) (hx : x < 18446744073709551616) (hy : y < 18446744073709551616) : L.icall (.func 106 []) [.int .u64 (x : Nat), .int .u64 (y : Nat)] H = some (.int .u64 (x ||| y : Nat), H) := by
  have h := or64 hx hy
  rw [a106i, a106]
  simp (maxSteps := 30000000) (disch := first | assumption | omega | (simp only [List.length_cons, List.length_nil, List.length_append, List.length_set, List.length_replicate, List.length_map, List.length_range, List.length_take, List.length_drop, List.all_cons, List.all_nil, AV.isCell, Bool.and_self, Bool.and_true, bs_length, is64_length, w64_length, ints_length] <;> omega) | rfl | decide) only [List.append_nil, bodyA_eq, List.length_cons, List.length_nil, Nat.zero_add, Nat.reduceAdd, Nat.reduceSub, pads, List.cons_append, List.nil_append, run_seq, run_region, runOps_cons, oper_none, ex_mov, opv, putK_to, List.set_cons_succ, List.set_cons_zero, opsK_some, runOps_nil, regK_some, seqK_normal, List.getD_cons_zero, List.getD_cons_succ, ex_bin, bin_or, h, valK_some, run_ret, bodyK_ret, results_1, res_tmp, retvK_some]

def vals (op : Nat → Nat → Nat) (a b : List Nat) (n : Nat) : List Nat := (List.range n).map fun i => op (a.getD i 0) (b.getD i 0)
theorem vals_length (op : Nat → Nat → Nat) (a b : List Nat) (n : Nat) : (vals op a b n).length = n := by simp [vals]
theorem vals_succ (op : Nat → Nat → Nat) (a b : List Nat) (n : Nat) : vals op a b n ++ [op (a.getD n 0) (b.getD n 0)] = vals op a b (n + 1) := by simp [vals, List.range_succ]

def outAt : Nat → AV
  | 0 => .sl true 0 []
  | k + 1 => .own false k 0 (k + 1) 1
def heapAt (op : Nat → Nat → Nat) (a b : List Nat) : Nat → Heap
  | 0 => []
  | k + 1 => List.replicate k .dead ++ [.cells false false (w64 (vals op a b (k + 1)))]

theorem comb_loop {g : Nat} {op : Nat → Nat → Nat} {a b : List Nat} {za zb : Bool} {N : Nat} (hN : N ≤ 64)
    (hop : ∀ x y H, x < 18446744073709551616 → y < 18446744073709551616 → L.icall (.func g []) [.int .u64 (x : Nat), .int .u64 (y : Nat)] H = some (.int .u64 (op x y : Nat), H)) (wa : W a) (wb : W b) : ∀ d i, i + d = N →
    L.loop a93l0s a93l0 ⟨a93l0F (sw za a) (sw zb b) (.func g []) (.func 104 []) (outAt i) (.int .i64 (N : Nat)) (.int .i64 (i : Nat)), heapAt op a b i⟩ =
      some (.exit 0, ⟨a93l0F (sw za a) (sw zb b) (.func g []) (.func 104 []) (outAt N) (.int .i64 (N : Nat)) (.int .i64 (N : Nat)), heapAt op a b N⟩)
  | 0, i, h => by
    obtain rfl : i = N := by omega
    rw [a93l0n]
    simp (maxSteps := 30000000) (disch := first | assumption | omega | (simp only [List.length_cons, List.length_nil, List.length_append, List.length_set, List.length_replicate, List.length_map, List.length_range, List.length_take, List.length_drop, List.all_cons, List.all_nil, AV.isCell, Bool.and_self, Bool.and_true, bs_length, is64_length, w64_length, ints_length] <;> omega) | rfl | decide) only [a93l0b, run_seq, run_region, runOps_cons, oper_none, ex_bin, opv, List.getD_cons_succ, List.getD_cons_zero, bin_lss, Int.lt_irrefl, decide_false, valK_some, putK_to, List.set_cons_succ, List.set_cons_zero, opsK_some, runOps_nil, regK_some, seqK_normal, run_cond, condK_bool, Bool.false_eq_true, ↓reduceIte, run_exit, seqK_exit, loopK_exit, a93l0c]
  | d + 1, i, h => by
    have hlt : (i : Int) < (N : Nat) := by omega
    have h1 := at71 za a i
    have h2 := at71 zb b i
    have h3 := fun H => hop _ _ H (wa.get i) (wb.get i)
    have ih := comb_loop (za := za) (zb := zb) hN hop wa wb d (i + 1) (by omega)
    cases i with
    | zero =>
      have hv : w64 (vals op a b (0 + 1)) = [AV.int .u64 (op (a.getD 0 0) (b.getD 0 0) : Nat)] := rfl
      simp only [outAt, heapAt, hv, List.replicate, List.nil_append, Nat.zero_add, Int.natCast_zero, Int.natCast_one] at ih h1 h2 h3 hlt ⊢
      rw [a93l0n]
      simp (maxSteps := 30000000) (disch := first | assumption | omega | (simp only [List.length_cons, List.length_nil, List.length_append, List.length_set, List.length_replicate, List.length_map, List.length_range, List.length_take, List.length_drop, List.all_cons, List.all_nil, AV.isCell, Bool.and_self, Bool.and_true, bs_length, is64_length, w64_length, ints_length] <;> omega) | rfl | decide) only [a93l0b, run_seq, run_region, runOps_cons, oper_none, ex_bin, opv, List.getD_cons_succ, List.getD_cons_zero, bin_lss, hlt, decide_true, valK_some, putK_to, List.set_cons_succ, List.set_cons_zero, opsK_some, runOps_nil, regK_some, seqK_normal, run_cond, condK_bool, ↓reduceIte, run_skip, run_block, ex_mov, ex_icall, List.map_cons, List.map_nil, h1, h2, h3, ex_bslice, AV.cells, List.all_cons, List.length_cons, List.length_nil, Nat.zero_add, beq_self_eq_true, List.all_nil, Bool.and_self, repz_1, List.append_nil, Nat.mul_one, fillA, Nat.le_refl, AV.isCell, and_self, splice, List.take_zero, List.nil_append, List.drop_succ_cons, List.drop_nil, newK_some, newA_data, frzN, List.flatMap_cons, bor_int, List.flatMap_nil, List.isEmpty_nil, List.mapM_cons, frz_int, List.mapM_nil, Option.pure_def, Option.bind_eq_bind, Option.bind_some, slK_some, ex_append, src_sl, appK_nil, Nat.reduceBEq, newA_own, blockK_normal, bin_add, Int.zero_add, wr64, loopK_normal, a93l0c, ih]
    | succ k =>
      have hl := vals_length op a b (k + 1)
      have htk : List.take (k + 1) (vals op a b (k + 1)) = vals op a b (k + 1) := List.take_of_length_le (by omega)
      have hsn : w64 (vals op a b (k + 1)) ++ [AV.int .u64 (op (a.getD (k + 1) 0) (b.getD (k + 1) 0) : Nat)] = w64 (vals op a b (k + 1 + 1)) := by rw [w64_snoc, vals_succ]
      simp only [outAt, heapAt, List.replicate_succ', List.append_assoc, List.cons_append, List.nil_append] at ih ⊢
      rw [a93l0n]
      simp (maxSteps := 30000000) (disch := first | assumption | omega | (simp only [List.length_cons, List.length_nil, List.length_append, List.length_set, List.length_replicate, List.length_map, List.length_range, List.length_take, List.length_drop, List.all_cons, List.all_nil, AV.isCell, Bool.and_self, Bool.and_true, bs_length, is64_length, w64_length, ints_length] <;> omega) | rfl | decide) only [a93l0b, run_seq, run_region, runOps_cons, oper_none, ex_bin, opv, List.getD_cons_succ, List.getD_cons_zero, bin_lss, hlt, decide_true, valK_some, putK_to, List.set_cons_succ, List.set_cons_zero, opsK_some, runOps_nil, regK_some, seqK_normal, run_cond, condK_bool, ↓reduceIte, run_skip, run_block, ex_mov, ex_icall, List.map_cons, List.map_nil, h1, h2, h3, ex_bslice, AV.cells, List.all_cons, List.length_cons, List.length_nil, Nat.zero_add, beq_self_eq_true, List.all_nil, Bool.and_self, repz_1, List.append_nil, Nat.mul_one, fillA, Nat.le_refl, AV.isCell, and_self, splice, List.take_zero, List.nil_append, List.drop_succ_cons, List.drop_nil, newK_some, newA_data, frzN, List.flatMap_cons, bor_int, List.flatMap_nil, List.isEmpty_nil, List.mapM_cons, frz_int, List.mapM_nil, Option.pure_def, Option.bind_eq_bind, Option.bind_some, slK_some, ex_append, src_sl, appK_own, dead_get, List.getElem?_cons_zero, appOK_cells, Nat.reduceBEq, List.length_append, List.length_replicate, dead_set, w64_take, htk, hsn, List.append_assoc, List.cons_append, blockK_normal, bin_add, cadd1, wr64, loopK_normal, a93l0c, ih]

/-- how many words stay -/
def stripN (l : List Nat) : Nat → Nat
  | 0 => 0
  | n + 1 => if l.getD n 0 = 0 then stripN l n else n + 1
theorem stripN_le (l : List Nat) : ∀ n, stripN l n ≤ n
  | 0 => Nat.le_refl _
  | n + 1 => by unfold stripN; split; have := stripN_le l n; omega; omega
theorem stripN_zero (l : List Nat) : ∀ n i, stripN l n ≤ i → i < n → l.getD i 0 = 0
  | 0, i, h, h2 => by omega
  | n + 1, i, h, h2 => by
    unfold stripN at h
    split at h
    · rename_i e
      by_cases hi : i = n
      · subst hi; exact e
      · exact stripN_zero l n i h (by omega)
    · omega
theorem stripN_last (l : List Nat) : ∀ n, 0 < stripN l n → l.getD (stripN l n - 1) 0 ≠ 0
  | 0, h => by simp [stripN] at h
  | n + 1, h => by
    unfold stripN at h ⊢
    split
    · rename_i e
      rw [if_pos e] at h
      exact stripN_last l n h
    · rename_i e; simpa using e

theorem strip_loop {l : List Nat} {k : Nat} : ∀ n, n ≤ l.length → n ≤ 64 →
    L.loop a93l1s a93l1 ⟨a93l1F (.own false k 0 n 1), List.replicate k .dead ++ [.cells false false (w64 l)]⟩ = some (.exit 2, ⟨a93l1F (.own false k 0 (stripN l n) 1), List.replicate k .dead ++ [.cells false false (w64 l)]⟩)
  | 0, _, _ => by
    rw [a93l1n]
    simp (maxSteps := 30000000) (disch := first | assumption | omega | (simp only [List.length_cons, List.length_nil, List.length_append, List.length_set, List.length_replicate, List.length_map, List.length_range, List.length_take, List.length_drop, List.all_cons, List.all_nil, AV.isCell, Bool.and_self, Bool.and_true, bs_length, is64_length, w64_length, ints_length] <;> omega) | rfl | decide) only [a93l1b, run_seq, run_region, runOps_cons, oper_none, ex_mov, opv, List.getD_cons_succ, List.getD_cons_zero, putK_to, List.set_cons_succ, List.set_cons_zero, opsK_some, ex_len, lenA_own, castLit, valK_some, ex_bin, bin_gtr, Int.lt_irrefl, decide_false, oper_guard, guardK_bool, Bool.false_eq_true, ↓reduceIte, putA_to, ex_pick, pickA_bool, runOps_nil, regK_some, seqK_normal, run_cond, condK_bool, run_exit, seqK_exit, loopK_exit, a93l1c, stripN]
  | n + 1, h, h2 => by
    have h0 : (0 : Int) < ((n + 1 : Nat) : Int) := by omega
    have ih := strip_loop (l := l) (k := k) n (by omega) (by omega)
    unfold stripN
    rw [a93l1n]
    by_cases e : l.getD n 0 = 0
    · have e' : (((l.getD n 0 : Nat) : Int) = 0) = True := eq_true (by omega)
      simp (maxSteps := 30000000) (disch := first | assumption | omega | (simp only [List.length_cons, List.length_nil, List.length_append, List.length_set, List.length_replicate, List.length_map, List.length_range, List.length_take, List.length_drop, List.all_cons, List.all_nil, AV.isCell, Bool.and_self, Bool.and_true, bs_length, is64_length, w64_length, ints_length] <;> omega) | rfl | decide) only [a93l1b, run_seq, run_region, runOps_cons, oper_none, ex_mov, opv, List.getD_cons_succ, List.getD_cons_zero, putK_to, List.set_cons_succ, List.set_cons_zero, opsK_some, ex_len, lenA_own, valK_some, ex_bin, bin_gtr, h0, decide_true, oper_guard, guardK_bool, ↓reduceIte, bin_sub, csub1, Nat.add_sub_cancel, wr64, ex_iaddr, iaddrA_own, Int.toNat_natCast, Nat.mul_one, Nat.zero_add, ex_load, rd_ptr, dead_get, List.getElem?_cons_zero, rdK_cells, w64_drop, w64_take, w64_at0, drop_getD, Nat.add_zero, e, castLit, loadK_1, bin_eql, ex_pick, pickA_bool, runOps_nil, regK_some, seqK_normal, run_cond, condK_bool, run_skip, run_block, ex_slice, Option.map_none, Option.map_some, sliceA_own, bounds_ns, cutK_own, Nat.sub_zero, blockK_normal, loopK_normal, a93l1c, ih]
    · have e' : (((l.getD n 0 : Nat) : Int) = 0) = False := eq_false (by omega)
      simp (maxSteps := 30000000) (disch := first | assumption | omega | (simp only [List.length_cons, List.length_nil, List.length_append, List.length_set, List.length_replicate, List.length_map, List.length_range, List.length_take, List.length_drop, List.all_cons, List.all_nil, AV.isCell, Bool.and_self, Bool.and_true, bs_length, is64_length, w64_length, ints_length] <;> omega) | rfl | decide) only [a93l1b, run_seq, run_region, runOps_cons, oper_none, ex_mov, opv, List.getD_cons_succ, List.getD_cons_zero, putK_to, List.set_cons_succ, List.set_cons_zero, opsK_some, ex_len, lenA_own, valK_some, ex_bin, bin_gtr, h0, decide_true, oper_guard, guardK_bool, ↓reduceIte, bin_sub, csub1, Nat.add_sub_cancel, wr64, ex_iaddr, iaddrA_own, Int.toNat_natCast, Nat.mul_one, Nat.zero_add, ex_load, rd_ptr, dead_get, List.getElem?_cons_zero, rdK_cells, w64_drop, w64_take, w64_at0, drop_getD, Nat.add_zero, loadK_1, bin_eql, e', decide_false, ex_pick, pickA_bool, runOps_nil, regK_some, seqK_normal, run_cond, condK_bool, Bool.false_eq_true, run_exit, seqK_exit, loopK_exit, a93l1c, e]

theorem clip72 (z : Bool) (l : List Nat) (n : Nat) (h : l.length = n) (h64 : n ≤ 64) : L.pcall 105 [.sl z n (w64 l)] = some (.sl z n (w64 l)) := by
  have htk : List.take n l = l := List.take_of_length_le (by omega)
  rw [a105p, a105, pbodyA_eq]
  simp (maxSteps := 30000000) (disch := first | assumption | omega | (simp only [List.length_cons, List.length_nil, List.length_append, List.length_set, List.length_replicate, List.length_map, List.length_range, List.length_take, List.length_drop, List.all_cons, List.all_nil, AV.isCell, Bool.and_self, Bool.and_true, bs_length, is64_length, w64_length, ints_length] <;> omega) | rfl | decide) only [bodyA_eq, List.length_cons, List.length_nil, Nat.zero_add, Nat.reduceSub, pads, List.cons_append, List.nil_append, run_seq, run_region, runOps_cons, oper_none, ex_mov, opv, putK_to, List.set_cons_succ, List.set_cons_zero, opsK_some, runOps_nil, regK_some, seqK_normal, List.getD_cons_zero, ex_len, List.getD_cons_succ, lenA_sl, valK_some, ex_slice, Option.map_none, Option.map_some, sliceA_sl, bounds_nsm, Int.toNat_natCast, cutK_sl, Nat.sub_zero, Nat.mul_one, List.drop_zero, w64_take, htk, run_ret, bodyK_ret, results_1, res_tmp, retvK_some, pbodyK_some, frzN, frz_sl]

/-- the canonical words that combine gives -/
def combM (op : Nat → Nat → Nat) (a b : List Nat) : List Nat :=
  (vals op a b (min (max a.length b.length) 64)).take (stripN (vals op a b (min (max a.length b.length) 64)) (min (max a.length b.length) 64))

theorem comb_eq {g : Nat} {op : Nat → Nat → Nat} {a b : List Nat} {za zb : Bool} (hop : ∀ x y H, x < 18446744073709551616 → y < 18446744073709551616 → L.icall (.func g []) [.int .u64 (x : Nat), .int .u64 (y : Nat)] H = some (.int .u64 (op x y : Nat), H)) (wa : W a) (wb : W b) :
    ∃ z H', L.icall (.func 93 []) [sw za a, sw zb b, .func g []] [] = some (sw z (combM op a b), H') := by
  unfold combM
  have hm : min (max (a.length : Int) (b.length : Int)) 64 = ((min (max a.length b.length) 64 : Nat) : Int) := by omega
  have hN : min (max a.length b.length) 64 ≤ 64 := by omega
  have hl := comb_loop (za := za) (zb := zb) hN hop wa wb (min (max a.length b.length) 64) 0 (by omega)
  generalize min (max a.length b.length) 64 = N at *
  simp only [Int.natCast_zero] at hl
  cases N with
  | zero =>
    refine ⟨true, [], ?_⟩
    simp only [outAt, heapAt, Int.natCast_zero] at hl hm
    have hs : L.loop a93l1s a93l1 ⟨a93l1F (.sl true 0 []), []⟩ = some (.exit 2, ⟨a93l1F (.sl true 0 []), []⟩) := by
      rw [a93l1n]
      simp (maxSteps := 30000000) (disch := first | assumption | omega | (simp only [List.length_cons, List.length_nil, List.length_append, List.length_set, List.length_replicate, List.length_map, List.length_range, List.length_take, List.length_drop, List.all_cons, List.all_nil, AV.isCell, Bool.and_self, Bool.and_true, bs_length, is64_length, w64_length, ints_length] <;> omega) | rfl | decide) only [a93l1b, run_seq, run_region, runOps_cons, oper_none, ex_mov, opv, List.getD_cons_succ, List.getD_cons_zero, putK_to, List.set_cons_succ, List.set_cons_zero, opsK_some, ex_len, lenA_sl, castLit, valK_some, ex_bin, bin_gtr, Int.lt_irrefl, decide_false, oper_guard, guardK_bool, Bool.false_eq_true, ↓reduceIte, putA_to, ex_pick, pickA_bool, runOps_nil, regK_some, seqK_normal, run_cond, condK_bool, run_exit, seqK_exit, loopK_exit, a93l1c]
    have hc := clip72 true [] 0 rfl (by omega)
    rw [w64_nil] at hc
    rw [a93i, a93]
    simp (maxSteps := 30000000) (disch := first | assumption | omega | (simp only [List.length_cons, List.length_nil, List.length_append, List.length_set, List.length_replicate, List.length_map, List.length_range, List.length_take, List.length_drop, List.all_cons, List.all_nil, AV.isCell, Bool.and_self, Bool.and_true, bs_length, is64_length, w64_length, ints_length] <;> omega) | rfl | decide) only [List.append_nil, bodyA_eq, List.length_cons, List.length_nil, Nat.zero_add, Nat.reduceAdd, Nat.reduceSub, pads, List.cons_append, List.nil_append, run_seq, run_region, runOps_cons, oper_none, ex_mov, opv, putK_to, List.set_cons_succ, List.set_cons_zero, opsK_some, runOps_nil, regK_some, seqK_normal, List.getD_cons_zero, ex_len, List.getD_cons_succ, lenA_sl, valK_some, ex_maxi, maxA_int, ex_mini, minA_int, hm, run_block, run_loop, a93l0c, hl, blockK_exit, ↓reduceIte, a93l1c, hs, ex_call, List.map_cons, List.map_nil, pcallA_eq, frzN, List.mapM_cons, frz_sl, List.mapM_nil, Option.pure_def, Option.bind_eq_bind, Option.bind_some, argK_some, hc, retK_some, scal, scal1, Bool.false_eq_true, fzIds, List.flatMap_cons, bor_sl, List.flatMap_nil, List.foldl_nil, run_ret, bodyK_ret, results_1, res_tmp, retvK_some]
    rfl
  | succ k =>
    simp only [outAt, heapAt] at hl
    have hvl := vals_length op a b (k + 1)
    have hs := strip_loop (l := vals op a b (k + 1)) (k := k) (k + 1) (by omega) hN
    have hle := stripN_le (vals op a b (k + 1)) (k + 1)
    generalize stripN (vals op a b (k + 1)) (k + 1) = n at *
    have hlen : ((vals op a b (k + 1)).take n).length = n := by rw [List.length_take]; omega
    have hc := clip72 false ((vals op a b (k + 1)).take n) n hlen (by omega)
    refine ⟨false, List.replicate k .dead ++ [.cells true false (w64 (vals op a b (k + 1)))], ?_⟩
    rw [a93i, a93]
    simp (maxSteps := 30000000) (disch := first | assumption | omega | (simp only [List.length_cons, List.length_nil, List.length_append, List.length_set, List.length_replicate, List.length_map, List.length_range, List.length_take, List.length_drop, List.all_cons, List.all_nil, AV.isCell, Bool.and_self, Bool.and_true, bs_length, is64_length, w64_length, ints_length] <;> omega) | rfl | decide) only [List.append_nil, bodyA_eq, List.length_cons, List.length_nil, Nat.zero_add, Nat.reduceAdd, Nat.reduceSub, pads, List.cons_append, List.nil_append, run_seq, run_region, runOps_cons, oper_none, ex_mov, opv, putK_to, List.set_cons_succ, List.set_cons_zero, opsK_some, runOps_nil, regK_some, seqK_normal, List.getD_cons_zero, ex_len, List.getD_cons_succ, lenA_sl, valK_some, ex_maxi, maxA_int, ex_mini, minA_int, hm, run_block, run_loop, a93l0c, hl, blockK_exit, ↓reduceIte, a93l1c, hs, ex_call, List.map_cons, List.map_nil, pcallA_eq, frzN, List.mapM_cons, frz_own, dead_get, List.getElem?_cons_zero, frzK_cells, Nat.mul_one, List.drop_zero, w64_take, frz_w64, slK_some, List.mapM_nil, Option.pure_def, Option.bind_eq_bind, Option.bind_some, argK_some, hc, retK_some, scal, scal1, Bool.false_eq_true, fzIds, List.flatMap_cons, bor_own, borK_cells, bor_w64, List.flatMap_nil, List.foldl_cons, dead_mod, List.modify_cons, fzBlk, List.foldl_nil, run_ret, bodyK_ret, results_1, res_tmp, retvK_some]
    rw [sl_w64 hlen]
end Go.Abs.Tree

/- Sets by what they hold. -/
namespace Go.Abs.Tree
open Go Go.Abs
set_option linter.unusedSimpArgs false
set_option linter.unusedVariables false

theorem combM_get (op : Nat → Nat → Nat) (a b : List Nat) (h0 : op 0 0 = 0) (i : Nat) (hi : i < 64) : (combM op a b).getD i 0 = op (a.getD i 0) (b.getD i 0) := by
  unfold combM
  generalize hN : min (max a.length b.length) 64 = N
  have hv : ∀ i, i < N → (vals op a b N).getD i 0 = op (a.getD i 0) (b.getD i 0) := fun i hi => by simp [vals, hi]
  have hle := stripN_le (vals op a b N) N
  by_cases h : i < stripN (vals op a b N) N
  · rw [← hv i (by omega)]
    simp [List.getD, List.getElem?_take, h]
  · rw [getD_out (by rw [List.length_take, vals_length]; omega)]
    by_cases h2 : i < N
    · rw [← hv i h2]
      exact (stripN_zero _ N i (by omega) h2).symm
    · rw [getD_out (l := a) (by omega), getD_out (l := b) (by omega), h0]

theorem combM_len (op : Nat → Nat → Nat) (a b : List Nat) : (combM op a b).length ≤ 64 := by
  unfold combM
  rw [List.length_take, vals_length]; omega

theorem combM_W {op : Nat → Nat → Nat} {a b : List Nat} (hop : ∀ x y, x < 18446744073709551616 → y < 18446744073709551616 → op x y < 18446744073709551616) (wa : W a) (wb : W b) : W (combM op a b) := by
  intro x hx
  have := List.mem_of_mem_take hx
  simp only [vals, List.mem_map] at this
  obtain ⟨i, _, rfl⟩ := this
  exact hop _ _ (wa.get i) (wb.get i)

theorem combM_last (op : Nat → Nat → Nat) (a b : List Nat) (h : combM op a b ≠ []) : (combM op a b).getD ((combM op a b).length - 1) 0 ≠ 0 := by
  unfold combM at h ⊢
  generalize hN : min (max a.length b.length) 64 = N at *
  have hle := stripN_le (vals op a b N) N
  have hl : ((vals op a b N).take (stripN (vals op a b N) N)).length = stripN (vals op a b N) N := by rw [List.length_take, vals_length]; omega
  have hp : 0 < stripN (vals op a b N) N := by
    rw [← hl]; exact List.length_pos_iff.2 h
  rw [hl]
  have := stripN_last _ N hp
  rw [show ((vals op a b N).take (stripN (vals op a b N) N)).getD (stripN (vals op a b N) N - 1) 0 = (vals op a b N).getD (stripN (vals op a b N) N - 1) 0 from by
    simp [List.getD, List.getElem?_take, show stripN (vals op a b N) N - 1 < stripN (vals op a b N) N by omega]]
  exact this

/-- is j in the set of these words? -/
def mem (l : List Nat) (j : Nat) : Bool := decide (j < 4096) && (l.getD (j / 64) 0).testBit (j % 64)

theorem mem_comb {op : Nat → Nat → Nat} {f : Bool → Bool → Bool} (a b : List Nat) (h0 : op 0 0 = 0) (hf : ∀ x y i, (op x y).testBit i = f (x.testBit i) (y.testBit i)) (j : Nat) (hj : j < 4096) : mem (combM op a b) j = f (mem a j) (mem b j) := by
  unfold mem
  rw [combM_get op a b h0 _ (by omega), hf]
  simp [hj]

theorem bit_of_ne {x : Nat} (h : x ≠ 0) (hx : x < 18446744073709551616) : ∃ i, i < 64 ∧ x.testBit i = true := by
  obtain ⟨i, hi⟩ := Nat.exists_testBit_ne_of_ne h
  rw [Nat.zero_testBit] at hi
  have h1 : x.testBit i = true := by simpa using hi
  refine ⟨i, ?_, h1⟩
  rcases Nat.lt_or_ge i 64 with q | q
  · exact q
  · have : x.testBit i = false := Nat.testBit_lt_two_pow (Nat.lt_of_lt_of_le hx (by
      have : 2 ^ 64 ≤ 2 ^ i := Nat.pow_le_pow_right (by omega) q
      omega))
    rw [this] at h1; cases h1

/-- v is a set of the numbers of S -/
def HasSet (v : AV) (S : Nat → Bool) : Prop := ∃ z l, v = sw z l ∧ W l ∧ l.length < 1099511627776 ∧ ∀ j, mem l j = S j

theorem HasSet.out {v : AV} {S : Nat → Bool} (h : HasSet v S) {j : Nat} (hj : 4096 ≤ j) : S j = false := by
  obtain ⟨z, l, rfl, _, _, h⟩ := h
  rw [← h j]
  simp [mem, show ¬ j < 4096 by omega]

theorem HasSet.congr {v : AV} {S T : Nat → Bool} (h : HasSet v S) (e : ∀ j, S j = T j) : HasSet v T := by
  obtain ⟨z, l, rfl, w, hl, h⟩ := h
  exact ⟨z, l, rfl, w, hl, fun j => (h j).trans (e j)⟩

theorem empty_has {z : Bool} : HasSet (.sl z 0 []) (fun _ => false) := ⟨z, [], rfl, by intro x hx; simp at hx, by simp, fun j => by simp [mem]⟩

theorem or_lt {x y : Nat} (hx : x < 18446744073709551616) (hy : y < 18446744073709551616) : x ||| y < 18446744073709551616 := by
  have : x ||| y < 2 ^ 64 := Nat.or_lt_two_pow (by omega) (by omega)
  omega

theorem union_raw {za zb : Bool} {a b : List Nat} (wa : W a) (wb : W b) (ha : a.length < 1099511627776) (hb : b.length < 1099511627776) : ∃ z, L.pcall 95 [sw za a, sw zb b] = some (sw z (combM (· ||| ·) a b)) := by
  obtain ⟨z, H', h⟩ := comb_eq (za := za) (zb := zb) (g := 106) (op := (· ||| ·)) (fun x y H hx hy => or59 x y H hx hy) wa wb
  refine ⟨z, ?_⟩
  rw [a95p, a95, pbodyA_eq]
  simp (maxSteps := 30000000) (disch := first | assumption | omega | (simp only [List.length_cons, List.length_nil, List.length_append, List.length_set, List.length_replicate, List.length_map, List.length_range, List.length_take, List.length_drop, List.all_cons, List.all_nil, AV.isCell, Bool.and_self, Bool.and_true, bs_length, is64_length, w64_length, ints_length] <;> omega) | rfl | decide) only [bodyA_eq, List.length_cons, List.length_nil, Nat.zero_add, Nat.reduceAdd, Nat.reduceSub, pads, List.cons_append, List.nil_append, run_seq, run_region, runOps_cons, oper_none, ex_mov, opv, putK_to, List.set_cons_succ, List.set_cons_zero, opsK_some, runOps_nil, regK_some, seqK_normal, List.getD_cons_zero, List.getD_cons_succ, ex_icall, List.map_cons, List.map_nil, h, run_ret, bodyK_ret, results_1, res_tmp, retvK_some, pbodyK_some, frzN, frz_sl]

theorem union_has {v u : AV} {S T : Nat → Bool} (hv : HasSet v S) (hu : HasSet u T) : ∃ z l, L.pcall 95 [v, u] = some (sw z l) ∧ HasSet (sw z l) (fun j => S j || T j) := by
  obtain ⟨za, a, rfl, wa, la, ha⟩ := id hv
  obtain ⟨zb, b, rfl, wb, lb, hb⟩ := id hu
  obtain ⟨z, h⟩ := union_raw (za := za) (zb := zb) wa wb la lb
  refine ⟨z, _, h, z, _, rfl, combM_W (fun x y hx hy => or_lt hx hy) wa wb, by have := combM_len (· ||| ·) a b; omega, fun j => ?_⟩
  by_cases hj : j < 4096
  · rw [mem_comb (f := (· || ·)) a b (by simp) (fun x y i => by simp) j hj, ha, hb]
  · show mem _ j = (S j || T j)
    rw [hv.out (j := j) (by omega), hu.out (j := j) (by omega)]
    simp [mem, hj]

/-! one number -/
theorem repz_w64 (n : Nat) : repz [AV.int .u64 0] n = w64 (List.replicate n 0) := by
  induction n with
  | zero => rfl
  | succ n ih => simp [repz, ih, w64, List.replicate_succ]

def oneM (k : Nat) : List Nat := (List.replicate (k / 64 + 1) 0).set (k / 64) (2 ^ (k % 64))

theorem single_eq (k : Nat) (hk : k < 4096) : L.pcall 78 [.int .i64 (k : Nat)] = some (.sl false (k / 64 + 1) (w64 (oneM k))) := by
  have h1 : ¬ ((4095 : Int) < (k : Nat)) := by omega
  have h64 : ((k : Nat) : Int).tdiv 64 = ((k / 64 : Nat) : Int) := by rw [show (64 : Int) = ((64 : Nat) : Int) from rfl, ctdiv]
  have hm64 : ((k : Nat) : Int).tmod 64 = ((k % 64 : Nat) : Int) := by rw [show (64 : Int) = ((64 : Nat) : Int) from rfl, ctmod]
  have hlt : k % 64 < 64 := Nat.mod_lt _ (by omega)
  have hd : k / 64 < 64 := by omega
  have hsh : IntKind.u64.wrap (1 * 2 ^ min (k % 64) IntKind.u64.bits) = ((2 ^ (k % 64) : Nat) : Int) := by
    have e1 : min (k % 64) IntKind.u64.bits = k % 64 := Nat.min_eq_left (by show k % 64 ≤ 64; omega)
    have e2 : (2 : Nat) ^ (k % 64) < 2 ^ 64 := Nat.pow_lt_pow_right (by omega) hlt
    rw [e1, Int.one_mul, show (2 : Int) ^ (k % 64) = ((2 ^ (k % 64) : Nat) : Int) from by rw [Int.natCast_pow]; rfl]
    exact wrU64 (by omega)
  unfold oneM
  generalize k / 64 = d at *
  generalize k % 64 = r at *
  have hlen : ((List.replicate (d + 1) 0).set d (2 ^ r)).length = d + 1 := by simp
  have htk : List.take (d + 1) ((List.replicate (d + 1) 0).set d (2 ^ r)) = (List.replicate (d + 1) 0).set d (2 ^ r) := List.take_of_length_le (by omega)
  rw [a78p, a78, pbodyA_eq]
  simp (maxSteps := 30000000) (disch := first | assumption | omega | (simp only [List.length_cons, List.length_nil, List.length_append, List.length_set, List.length_replicate, List.length_map, List.length_range, List.length_take, List.length_drop, List.all_cons, List.all_nil, AV.isCell, Bool.and_self, Bool.and_true, bs_length, is64_length, w64_length, ints_length] <;> omega) | rfl | decide) only [bodyA_eq, List.length_cons, List.length_nil, Nat.zero_add, Nat.reduceSub, pads, List.cons_append, List.nil_append, run_seq, run_region, runOps_cons, oper_none, ex_mov, opv, putK_to, List.set_cons_succ, List.set_cons_zero, opsK_some, runOps_nil, regK_some, seqK_normal, List.getD_cons_zero, ex_bin, List.getD_cons_succ, bin_lss, ltc0, decide_false, valK_some, oper_guard, guardK_bool, ↓reduceIte, bin_gtr, h1, ex_pick, pickA_bool, Bool.false_eq_true, run_cond, condK_bool, run_skip, bin_quo, h64, wr64, bin_add, cadd1, ex_mkslice, mksK_int, Int.toNat_natCast, repz_w64, newA_own, bin_rem, hm64, bin_shl, hsh, ex_iaddr, iaddrA_own, Nat.mul_one, ex_store, AV.cells, wr_ptr, List.getElem?_cons_zero, wrK_cells, splice, w64_take, w64_drop, List.append_assoc, w64_put1, storeK_some, putK_no, run_ret, bodyK_ret, results_1, res_tmp, retvK_some, pbodyK_some, frzN, frz_own, frzK_cells, List.drop_zero, htk, frz_w64, slK_some]

theorem oneM_W (k : Nat) : W (oneM k) := by
  intro x hx
  rcases List.mem_or_eq_of_mem_set hx with h | rfl
  · rw [(List.mem_replicate.1 h).2]; omega
  · have : (2 : Nat) ^ (k % 64) < 2 ^ 64 := Nat.pow_lt_pow_right (by omega) (Nat.mod_lt _ (by omega))
    omega

theorem oneM_mem (k : Nat) (hk : k < 4096) (j : Nat) : mem (oneM k) j = decide (j = k) := by
  unfold mem oneM
  rw [List.getD_eq_getElem?_getD, List.getElem?_set]
  by_cases h : k / 64 = j / 64
  · rw [if_pos h, if_pos (by simp <;> omega)]
    simp only [Option.getD_some, Nat.testBit_two_pow]
    by_cases e : j = k
    · subst e; simp [hk]
    · have : ¬ k % 64 = j % 64 := by omega
      simp [e, this]
  · rw [if_neg h]
    have e : ¬ j = k := by rintro rfl; exact h rfl
    simp [e, List.getElem?_replicate]
    split <;> simp

theorem single_has (k : Nat) (hk : k < 4096) : ∃ z l, L.pcall 78 [.int .i64 (k : Nat)] = some (sw z l) ∧ HasSet (sw z l) (fun j => decide (j = k)) := by
  have hlen : (oneM k).length = k / 64 + 1 := by simp [oneM]
  refine ⟨false, oneM k, ?_, false, oneM k, rfl, oneM_W k, by omega, oneM_mem k hk⟩
  rw [single_eq k hk, sl_w64 hlen]

theorem with_has {v : AV} {S : Nat → Bool} (hv : HasSet v S) (k : Nat) (hk : k < 4096) : ∃ z l, L.pcall 72 [v, .int .i64 (k : Nat)] = some (sw z l) ∧ HasSet (sw z l) (fun j => S j || decide (j = k)) := by
  obtain ⟨z, l, h1, h2⟩ := single_has k hk
  obtain ⟨z', l', h3, h4⟩ := union_has hv h2
  obtain ⟨za, a, rfl, wa, la, ha⟩ := id hv
  refine ⟨z', l', ?_, h4⟩
  rw [a72p, a72, pbodyA_eq]
  simp (maxSteps := 30000000) (disch := first | assumption | omega | (simp only [List.length_cons, List.length_nil, List.length_append, List.length_set, List.length_replicate, List.length_map, List.length_range, List.length_take, List.length_drop, List.all_cons, List.all_nil, AV.isCell, Bool.and_self, Bool.and_true, bs_length, is64_length, w64_length, ints_length] <;> omega) | rfl | decide) only [bodyA_eq, List.length_cons, List.length_nil, Nat.zero_add, Nat.reduceAdd, Nat.reduceSub, pads, List.cons_append, List.nil_append, run_seq, run_region, runOps_cons, oper_none, ex_mov, opv, putK_to, List.set_cons_succ, List.set_cons_zero, opsK_some, runOps_nil, regK_some, seqK_normal, List.getD_cons_zero, List.getD_cons_succ, ex_call, List.map_cons, List.map_nil, pcallA_eq, frzN, List.mapM_cons, frz_int, List.mapM_nil, Option.pure_def, Option.bind_eq_bind, Option.bind_some, argK_some, h1, retK_some, scal, scal1, Bool.false_eq_true, ↓reduceIte, fzIds, List.flatMap_cons, bor_int, List.flatMap_nil, List.append_nil, List.foldl_nil, frz_sl, h3, bor_sl, run_ret, bodyK_ret, results_1, res_tmp, retvK_some, pbodyK_some]
end Go.Abs.Tree

/- Of, Equal; automata as values; cubes; words. -/
namespace Go.Abs.Tree
open Go Go.Abs
set_option linter.unusedSimpArgs false
set_option linter.unusedVariables false

abbrev iw (z : Bool) (l : List Int) : AV := .sl z l.length (ints l)

theorem with_hasI {v : AV} {S : Nat → Bool} (hv : HasSet v S) (k : Int) (h0 : 0 ≤ k) (hk : k < 4096) : ∃ z l, L.pcall 72 [v, .int .i64 k] = some (sw z l) ∧ HasSet (sw z l) (fun j => S j || decide (j = k.toNat)) := by
  have := with_has hv k.toNat (by omega)
  rwa [Int.toNat_of_nonneg h0] at this

theorem drop_getI {l : List Int} {i : Nat} (h : i < l.length) : l.drop i = l.getD i 0 :: l.drop (i + 1) := by
  rw [List.drop_eq_getElem_cons h]
  simp [List.getD, List.getElem?_eq_getElem h]

theorem of_loop {l : List Int} {z : Bool} {H : Heap} (hl : l.length < 1099511627776) (hq : ∀ q ∈ l, 0 ≤ q ∧ q < 4096) : ∀ d i zv r S, i + d = l.length → HasSet (sw zv r) S →
    ∃ z' r', L.loop a36l0s a36l0 ⟨a36l0F (sw zv r) (iw z l) (.int .i64 (l.length : Nat)) (.int .i64 (i : Nat)), H⟩ = some (.exit 0, ⟨a36l0F (sw z' r') (iw z l) (.int .i64 (l.length : Nat)) (.int .i64 (l.length : Nat)), H⟩) ∧ HasSet (sw z' r') (fun j => S j || (l.drop i).contains (j : Int))
  | 0, i, zv, r, S, h, hS => by
    obtain rfl : i = l.length := by omega
    refine ⟨zv, r, ?_, hS.congr (fun j => by simp)⟩
    rw [a36l0n]
    simp (maxSteps := 30000000) (disch := first | assumption | omega | (simp only [List.length_cons, List.length_nil, List.length_append, List.length_set, List.length_replicate, List.length_map, List.length_range, List.length_take, List.length_drop, List.all_cons, List.all_nil, AV.isCell, Bool.and_self, Bool.and_true, bs_length, is64_length, w64_length, ints_length] <;> omega) | rfl | decide) only [a36l0b, run_seq, run_region, runOps_cons, oper_none, ex_bin, opv, List.getD_cons_succ, List.getD_cons_zero, bin_lss, Int.lt_irrefl, decide_false, valK_some, putK_to, List.set_cons_succ, List.set_cons_zero, opsK_some, runOps_nil, regK_some, seqK_normal, run_cond, condK_bool, Bool.false_eq_true, ↓reduceIte, run_exit, seqK_exit, loopK_exit, a36l0c]
  | d + 1, i, zv, r, S, h, hS => by
    have hlt : (i : Int) < (l.length : Nat) := by omega
    have hm : l.getD i 0 ∈ l := by
      rw [List.getD_eq_getElem?_getD, List.getElem?_eq_getElem (by omega)]
      exact List.getElem_mem _
    obtain ⟨z1, r1, h1, h2⟩ := with_hasI hS (l.getD i 0) (hq _ hm).1 (hq _ hm).2
    obtain ⟨z2, r2, h3, h4⟩ := of_loop (z := z) (H := H) hl hq d (i + 1) z1 r1 _ (by omega) h2
    refine ⟨z2, r2, ?_, h4.congr (fun j => ?_)⟩
    · rw [a36l0n]
      simp (maxSteps := 30000000) (disch := first | assumption | omega | (simp only [List.length_cons, List.length_nil, List.length_append, List.length_set, List.length_replicate, List.length_map, List.length_range, List.length_take, List.length_drop, List.all_cons, List.all_nil, AV.isCell, Bool.and_self, Bool.and_true, bs_length, is64_length, w64_length, ints_length] <;> omega) | rfl | decide) only [a36l0b, run_seq, run_region, runOps_cons, oper_none, ex_bin, opv, List.getD_cons_succ, List.getD_cons_zero, bin_lss, hlt, decide_true, valK_some, putK_to, List.set_cons_succ, List.set_cons_zero, opsK_some, runOps_nil, regK_some, seqK_normal, run_cond, condK_bool, ↓reduceIte, run_skip, run_block, ex_iaddr, iaddrA_sl, Int.toNat_natCast, Nat.mul_one, ex_load, rd_vptr, ints_drop, ints_take, ints_at0, getD_dropI, Nat.add_zero, loadK_1, ex_mov, ex_call, List.map_cons, List.map_nil, pcallA_eq, frzN, List.mapM_cons, frz_sl, frz_int, List.mapM_nil, Option.pure_def, Option.bind_eq_bind, Option.bind_some, argK_some, h1, retK_some, scal, scal1, Bool.false_eq_true, fzIds, List.flatMap_cons, bor_sl, bor_int, List.flatMap_nil, List.append_nil, List.foldl_nil, blockK_normal, bin_add, cadd1, wr64, loopK_normal, a36l0c, h3]
    · rw [drop_getI (by omega : i < l.length), List.contains_cons]
      have hn := (hq _ hm).1
      have : (decide (j = (l.getD i 0).toNat)) = ((j : Int) == l.getD i 0) := by
        rw [Bool.eq_iff_iff]
        simp only [decide_eq_true_eq, beq_iff_eq]
        omega
      rw [this, Bool.or_assoc]

theorem of_has {l : List Int} {z : Bool} (hl : l.length < 1099511627776) (hq : ∀ q ∈ l, 0 ≤ q ∧ q < 4096) : ∃ z' r, L.pcall 36 [iw z l] = some (sw z' r) ∧ HasSet (sw z' r) (fun j => l.contains (j : Int)) := by
  obtain ⟨z', r, h1, h2⟩ := of_loop (z := z) (H := []) hl hq l.length 0 true [] _ (by omega) (empty_has (z := true))
  refine ⟨z', r, ?_, h2.congr (fun j => by simp)⟩
  simp only [Int.natCast_zero] at h1
  change L.loop a36l0s a36l0 ⟨a36l0F (.sl true 0 []) _ _ _, _⟩ = _ at h1
  rw [a36p, a36, pbodyA_eq]
  simp (maxSteps := 30000000) (disch := first | assumption | omega | (simp only [List.length_cons, List.length_nil, List.length_append, List.length_set, List.length_replicate, List.length_map, List.length_range, List.length_take, List.length_drop, List.all_cons, List.all_nil, AV.isCell, Bool.and_self, Bool.and_true, bs_length, is64_length, w64_length, ints_length] <;> omega) | rfl | decide) only [bodyA_eq, List.length_cons, List.length_nil, Nat.zero_add, Nat.reduceSub, pads, List.cons_append, List.nil_append, run_seq, run_region, runOps_cons, oper_none, ex_mov, opv, putK_to, List.set_cons_succ, List.set_cons_zero, opsK_some, runOps_nil, regK_some, seqK_normal, List.getD_cons_zero, ex_len, List.getD_cons_succ, lenA_sl, valK_some, run_block, run_loop, a36l0c, h1, blockK_exit, ↓reduceIte, run_ret, bodyK_ret, results_1, res_tmp, retvK_some, pbodyK_some, frzN, frz_sl]

/-! equality -/
theorem drop_getN {l : List Nat} {i : Nat} (h : i < l.length) : l.drop i = l.getD i 0 :: l.drop (i + 1) := by
  rw [List.drop_eq_getElem_cons h]
  simp [List.getD, List.getElem?_eq_getElem h]

theorem eq60_loop {l l' : List Nat} {z z' : Bool} {s4 : AV} {H : Heap} (hl : l.length < 1099511627776) (he : l'.length = l.length) : ∀ d i, i + d = l.length →
    ∃ i' : Nat, L.loop a79l0s a79l0 ⟨a79l0F (sw z l) (sw z' l') s4 (.int .i64 (l.length : Nat)) (.int .i64 (i : Nat)), H⟩ =
      some (if l.drop i = l'.drop i then (.exit 0, ⟨a79l0F (sw z l) (sw z' l') s4 (.int .i64 (l.length : Nat)) (.int .i64 (l.length : Nat)), H⟩) else (.ret, ⟨a79l0F (sw z l) (sw z' l') (.bool false) (.int .i64 (l.length : Nat)) (.int .i64 (i' : Nat)), H⟩))
  | 0, i, h => by
    obtain rfl : i = l.length := by omega
    refine ⟨0, ?_⟩
    rw [if_pos (by rw [List.drop_length, List.drop_of_length_le (by omega)]), a79l0n]
    simp (maxSteps := 30000000) (disch := first | assumption | omega | (simp only [List.length_cons, List.length_nil, List.length_append, List.length_set, List.length_replicate, List.length_map, List.length_range, List.length_take, List.length_drop, List.all_cons, List.all_nil, AV.isCell, Bool.and_self, Bool.and_true, bs_length, is64_length, w64_length, ints_length] <;> omega) | rfl | decide) only [a79l0b, run_seq, run_region, runOps_cons, oper_none, ex_bin, opv, List.getD_cons_succ, List.getD_cons_zero, bin_lss, Int.lt_irrefl, decide_false, valK_some, putK_to, List.set_cons_succ, List.set_cons_zero, opsK_some, runOps_nil, regK_some, seqK_normal, run_cond, condK_bool, Bool.false_eq_true, ↓reduceIte, run_exit, seqK_exit, loopK_exit, a79l0c]
  | d + 1, i, h => by
    have hlt : (i : Int) < (l.length : Nat) := by omega
    obtain ⟨i', ih⟩ := eq60_loop (z := z) (z' := z') (s4 := s4) (H := H) hl he d (i + 1) (by omega)
    rw [drop_getN (by omega : i < l.length), drop_getN (by omega : i < l'.length)]
    by_cases e : l.getD i 0 = l'.getD i 0
    · have e' : (((l.getD i 0 : Nat) : Int) = ((l'.getD i 0 : Nat) : Int)) = True := eq_true (by omega)
      refine ⟨i', ?_⟩
      rw [a79l0n]
      simp only [List.cons.injEq, e, true_and]
      by_cases e2 : l.drop (i + 1) = l'.drop (i + 1)
      · rw [if_pos e2] at ih ⊢
        simp (maxSteps := 30000000) (disch := first | assumption | omega | (simp only [List.length_cons, List.length_nil, List.length_append, List.length_set, List.length_replicate, List.length_map, List.length_range, List.length_take, List.length_drop, List.all_cons, List.all_nil, AV.isCell, Bool.and_self, Bool.and_true, bs_length, is64_length, w64_length, ints_length] <;> omega) | rfl | decide) only [a79l0b, run_seq, run_region, runOps_cons, oper_none, ex_bin, opv, List.getD_cons_succ, List.getD_cons_zero, bin_lss, hlt, decide_true, valK_some, putK_to, List.set_cons_succ, List.set_cons_zero, opsK_some, runOps_nil, regK_some, seqK_normal, run_cond, condK_bool, ↓reduceIte, run_skip, run_block, ex_mov, run_draw, List.take_succ_cons, List.take_zero, runFree_cons, foper_none, fe_mov, fstK_some, fputK_to, freeK_some, fe_iaddr, ex_iaddr, iaddrA_sl, Int.toNat_natCast, Nat.mul_one, fe_load, ex_load, rd_vptr, w64_drop, w64_take, w64_at0, drop_getD, Nat.add_zero, loadK_1, runFree_nil, drawK_some, List.drop_succ_cons, List.drop_zero, adopt, adoptVal, bin_neq, e', Bool.not_true, Bool.false_eq_true, blockK_normal, bin_add, cadd1, wr64, loopK_normal, a79l0c, ih]
      · rw [if_neg e2] at ih ⊢
        simp (maxSteps := 30000000) (disch := first | assumption | omega | (simp only [List.length_cons, List.length_nil, List.length_append, List.length_set, List.length_replicate, List.length_map, List.length_range, List.length_take, List.length_drop, List.all_cons, List.all_nil, AV.isCell, Bool.and_self, Bool.and_true, bs_length, is64_length, w64_length, ints_length] <;> omega) | rfl | decide) only [a79l0b, run_seq, run_region, runOps_cons, oper_none, ex_bin, opv, List.getD_cons_succ, List.getD_cons_zero, bin_lss, hlt, decide_true, valK_some, putK_to, List.set_cons_succ, List.set_cons_zero, opsK_some, runOps_nil, regK_some, seqK_normal, run_cond, condK_bool, ↓reduceIte, run_skip, run_block, ex_mov, run_draw, List.take_succ_cons, List.take_zero, runFree_cons, foper_none, fe_mov, fstK_some, fputK_to, freeK_some, fe_iaddr, ex_iaddr, iaddrA_sl, Int.toNat_natCast, Nat.mul_one, fe_load, ex_load, rd_vptr, w64_drop, w64_take, w64_at0, drop_getD, Nat.add_zero, loadK_1, runFree_nil, drawK_some, List.drop_succ_cons, List.drop_zero, adopt, adoptVal, bin_neq, e', Bool.not_true, Bool.false_eq_true, blockK_normal, bin_add, cadd1, wr64, loopK_normal, a79l0c, ih]
    · have e' : (((l.getD i 0 : Nat) : Int) = ((l'.getD i 0 : Nat) : Int)) = False := eq_false (by omega)
      refine ⟨i, ?_⟩
      rw [if_neg (fun q => e (List.cons.inj q).1), a79l0n]
      simp (maxSteps := 30000000) (disch := first | assumption | omega | (simp only [List.length_cons, List.length_nil, List.length_append, List.length_set, List.length_replicate, List.length_map, List.length_range, List.length_take, List.length_drop, List.all_cons, List.all_nil, AV.isCell, Bool.and_self, Bool.and_true, bs_length, is64_length, w64_length, ints_length] <;> omega) | rfl | decide) only [a79l0b, run_seq, run_region, runOps_cons, oper_none, ex_bin, opv, List.getD_cons_succ, List.getD_cons_zero, bin_lss, hlt, decide_true, valK_some, putK_to, List.set_cons_succ, List.set_cons_zero, opsK_some, runOps_nil, regK_some, seqK_normal, run_cond, condK_bool, ↓reduceIte, run_skip, run_block, ex_mov, run_draw, List.take_succ_cons, List.take_zero, runFree_cons, foper_none, fe_mov, fstK_some, fputK_to, freeK_some, fe_iaddr, ex_iaddr, iaddrA_sl, Int.toNat_natCast, Nat.mul_one, fe_load, ex_load, rd_vptr, w64_drop, w64_take, w64_at0, drop_getD, Nat.add_zero, loadK_1, runFree_nil, drawK_some, List.drop_succ_cons, List.drop_zero, adopt, adoptVal, bin_neq, e', decide_false, Bool.not_false, run_ret, blockK_ret, seqK_ret, loopK_ret, a79l0c]

theorem eq60 (z z' : Bool) (l l' : List Nat) (hl : l.length < 1099511627776) (hl' : l'.length < 1099511627776) : L.pcall 79 [sw z l, sw z' l'] = some (.bool (decide (l = l'))) := by
  rw [a79p, a79, pbodyA_eq]
  by_cases h : l.length = l'.length
  · obtain ⟨i', ih⟩ := eq60_loop (z := z) (z' := z') (s4 := .bool false) (H := []) hl h.symm l.length 0 (by omega)
    simp only [Int.natCast_zero, List.drop_zero] at ih
    have e' : (((l.length : Nat) : Int) = ((l'.length : Nat) : Int)) = True := eq_true (by omega)
    by_cases e : l = l'
    · subst e
      rw [if_pos rfl] at ih
      simp (maxSteps := 30000000) (disch := first | assumption | omega | (simp only [List.length_cons, List.length_nil, List.length_append, List.length_set, List.length_replicate, List.length_map, List.length_range, List.length_take, List.length_drop, List.all_cons, List.all_nil, AV.isCell, Bool.and_self, Bool.and_true, bs_length, is64_length, w64_length, ints_length] <;> omega) | rfl | decide) only [bodyA_eq, List.length_cons, List.length_nil, Nat.zero_add, Nat.reduceAdd, Nat.reduceSub, pads, List.cons_append, List.nil_append, run_seq, run_region, runOps_cons, oper_none, ex_mov, opv, putK_to, List.set_cons_succ, List.set_cons_zero, opsK_some, runOps_nil, regK_some, seqK_normal, List.getD_cons_zero, ex_len, List.getD_cons_succ, lenA_sl, valK_some, ex_bin, bin_neq, decide_true, Bool.not_true, run_cond, condK_bool, Bool.false_eq_true, ↓reduceIte, run_skip, run_block, run_loop, a79l0c, ih, blockK_exit, run_ret, bodyK_ret, results_1, res_tmp, retvK_some, pbodyK_some, frzN, frz_bool]
    · rw [if_neg e] at ih
      simp (maxSteps := 30000000) (disch := first | assumption | omega | (simp only [List.length_cons, List.length_nil, List.length_append, List.length_set, List.length_replicate, List.length_map, List.length_range, List.length_take, List.length_drop, List.all_cons, List.all_nil, AV.isCell, Bool.and_self, Bool.and_true, bs_length, is64_length, w64_length, ints_length] <;> omega) | rfl | decide) only [bodyA_eq, List.length_cons, List.length_nil, Nat.zero_add, Nat.reduceAdd, Nat.reduceSub, pads, List.cons_append, List.nil_append, run_seq, run_region, runOps_cons, oper_none, ex_mov, opv, putK_to, List.set_cons_succ, List.set_cons_zero, opsK_some, runOps_nil, regK_some, seqK_normal, List.getD_cons_zero, ex_len, List.getD_cons_succ, lenA_sl, valK_some, ex_bin, bin_neq, e', decide_true, Bool.not_true, run_cond, condK_bool, Bool.false_eq_true, ↓reduceIte, run_skip, run_block, run_loop, a79l0c, ih, blockK_ret, seqK_ret, bodyK_ret, results_1, res_tmp, retvK_some, pbodyK_some, frzN, frz_bool, e, decide_false]
  · have e' : (((l.length : Nat) : Int) = ((l'.length : Nat) : Int)) = False := eq_false (by omega)
    have e : ¬ l = l' := by rintro rfl; exact h rfl
    simp (maxSteps := 30000000) (disch := first | assumption | omega | (simp only [List.length_cons, List.length_nil, List.length_append, List.length_set, List.length_replicate, List.length_map, List.length_range, List.length_take, List.length_drop, List.all_cons, List.all_nil, AV.isCell, Bool.and_self, Bool.and_true, bs_length, is64_length, w64_length, ints_length] <;> omega) | rfl | decide) only [bodyA_eq, List.length_cons, List.length_nil, Nat.zero_add, Nat.reduceAdd, Nat.reduceSub, pads, List.cons_append, List.nil_append, run_seq, run_region, runOps_cons, oper_none, ex_mov, opv, putK_to, List.set_cons_succ, List.set_cons_zero, opsK_some, runOps_nil, regK_some, seqK_normal, List.getD_cons_zero, ex_len, List.getD_cons_succ, lenA_sl, valK_some, ex_bin, bin_neq, e', decide_false, Bool.not_false, run_cond, condK_bool, ↓reduceIte, run_ret, seqK_ret, bodyK_ret, results_1, res_tmp, retvK_some, pbodyK_some, frzN, frz_bool, e]

theorem canon_ext {a b : List Nat} (wa : W a) (wb : W b) (h : ∀ j, mem a j = mem b j) : combM (· ||| ·) a [] = combM (· ||| ·) b [] := by
  have hw : ∀ a, W a → W (combM (· ||| ·) a []) := fun a wa => combM_W (fun x y hx hy => or_lt hx hy) wa (by intro x hx; simp at hx)
  have hget : ∀ i, i < 64 → (combM (· ||| ·) a []).getD i 0 = (combM (· ||| ·) b []).getD i 0 := by
    intro i hi
    rw [combM_get _ _ _ (by simp) _ hi, combM_get _ _ _ (by simp) _ hi]
    simp only [List.getD_nil, Nat.or_zero]
    apply Nat.eq_of_testBit_eq
    intro t
    by_cases ht : t < 64
    · have := h (64 * i + t)
      unfold mem at this
      rw [show (64 * i + t) / 64 = i by omega, show (64 * i + t) % 64 = t by omega] at this
      simpa [show 64 * i + t < 4096 by omega] using this
    · have big : ∀ x, x < 18446744073709551616 → x.testBit t = false := fun x hx => Nat.testBit_lt_two_pow (Nat.lt_of_lt_of_le hx (by
        have : 2 ^ 64 ≤ 2 ^ t := Nat.pow_le_pow_right (by omega) (by omega)
        omega))
      rw [big _ (wa.get i), big _ (wb.get i)]
  have la := combM_len (· ||| ·) a []
  have lb := combM_len (· ||| ·) b []
  have hlen : (combM (· ||| ·) a []).length = (combM (· ||| ·) b []).length := by
    rcases Nat.lt_trichotomy (combM (· ||| ·) a []).length (combM (· ||| ·) b []).length with q | q | q
    · exfalso
      have hne : combM (· ||| ·) b [] ≠ [] := by intro e; rw [e] at q; simp at q
      refine combM_last _ b [] hne ?_
      rw [← hget _ (by omega)]
      exact getD_out (by omega)
    · exact q
    · exfalso
      have hne : combM (· ||| ·) a [] ≠ [] := by intro e; rw [e] at q; simp at q
      refine combM_last _ a [] hne ?_
      rw [hget _ (by omega)]
      exact getD_out (by omega)
  apply List.ext_getElem hlen
  intro i h1 h2
  have := hget i (by omega)
  simpa [List.getD, List.getElem?_eq_getElem h1, List.getElem?_eq_getElem h2] using this

theorem equal_has {v u : AV} {S T : Nat → Bool} (hv : HasSet v S) (hu : HasSet u T) : ∃ t, L.pcall 42 [v, u] = some (.bool t) ∧ (t = true ↔ ∀ j, S j = T j) := by
  obtain ⟨za, a, rfl, wa, la, ha⟩ := id hv
  obtain ⟨zb, b, rfl, wb, lb, hb⟩ := id hu
  have wn : W [] := by intro x hx; simp at hx
  obtain ⟨z1, h1⟩ := union_raw (za := za) (zb := true) wa wn la (by simp)
  obtain ⟨z2, h2⟩ := union_raw (za := zb) (zb := true) wb wn lb (by simp)
  have l1 := combM_len (· ||| ·) a []
  have l2 := combM_len (· ||| ·) b []
  change L.pcall 95 [sw za a, .sl true 0 []] = _ at h1
  change L.pcall 95 [sw zb b, .sl true 0 []] = _ at h2
  have g : ∀ z l v, L.pcall 95 [sw z l, .sl true 0 []] = some v → (∃ z' l', v = sw z' l') → L.pcall 73 [sw z l] = some v := by
    rintro z l v h ⟨z', l', rfl⟩
    rw [a73p, a73, pbodyA_eq]
    simp (maxSteps := 30000000) (disch := first | assumption | omega | (simp only [List.length_cons, List.length_nil, List.length_append, List.length_set, List.length_replicate, List.length_map, List.length_range, List.length_take, List.length_drop, List.all_cons, List.all_nil, AV.isCell, Bool.and_self, Bool.and_true, bs_length, is64_length, w64_length, ints_length] <;> omega) | rfl | decide) only [bodyA_eq, List.length_cons, List.length_nil, Nat.zero_add, Nat.reduceSub, pads, List.cons_append, List.nil_append, run_seq, run_region, runOps_cons, oper_none, ex_mov, opv, putK_to, List.set_cons_succ, List.set_cons_zero, opsK_some, runOps_nil, regK_some, seqK_normal, List.getD_cons_zero, ex_call, List.map_cons, List.getD_cons_succ, List.map_nil, pcallA_eq, frzN, List.mapM_cons, frz_sl, List.mapM_nil, Option.pure_def, Option.bind_eq_bind, Option.bind_some, argK_some, h, retK_some, scal, scal1, Bool.false_eq_true, ↓reduceIte, fzIds, List.flatMap_cons, bor_sl, List.flatMap_nil, List.append_nil, List.foldl_nil, run_ret, bodyK_ret, results_1, res_tmp, retvK_some, pbodyK_some]
  have g1 := g _ _ _ h1 ⟨_, _, rfl⟩
  have g2 := g _ _ _ h2 ⟨_, _, rfl⟩
  have g3 := eq60 z1 z2 (combM (· ||| ·) a []) (combM (· ||| ·) b []) (by omega) (by omega)
  refine ⟨decide (combM (· ||| ·) a [] = combM (· ||| ·) b []), ?_, ?_⟩
  · rw [a42p, a42, pbodyA_eq]
    simp (maxSteps := 30000000) (disch := first | assumption | omega | (simp only [List.length_cons, List.length_nil, List.length_append, List.length_set, List.length_replicate, List.length_map, List.length_range, List.length_take, List.length_drop, List.all_cons, List.all_nil, AV.isCell, Bool.and_self, Bool.and_true, bs_length, is64_length, w64_length, ints_length] <;> omega) | rfl | decide) only [bodyA_eq, List.length_cons, List.length_nil, Nat.zero_add, Nat.reduceAdd, Nat.reduceSub, pads, List.cons_append, List.nil_append, run_seq, run_region, runOps_cons, oper_none, ex_mov, opv, putK_to, List.set_cons_succ, List.set_cons_zero, opsK_some, runOps_nil, regK_some, seqK_normal, List.getD_cons_zero, ex_call, List.map_cons, List.getD_cons_succ, List.map_nil, pcallA_eq, frzN, List.mapM_cons, frz_sl, List.mapM_nil, Option.pure_def, Option.bind_eq_bind, Option.bind_some, argK_some, g1, retK_some, scal, scal1, Bool.false_eq_true, ↓reduceIte, fzIds, List.flatMap_cons, bor_sl, List.flatMap_nil, List.append_nil, List.foldl_nil, g2, g3, run_ret, bodyK_ret, results_1, res_tmp, retvK_some, pbodyK_some, frz_bool]
  · rw [decide_eq_true_eq]
    constructor
    · intro e j
      by_cases hj : j < 4096
      · have q : ∀ l, mem (combM (· ||| ·) l []) j = mem l j := fun l => by
          rw [mem_comb (f := (· || ·)) l [] (by simp) (fun x y i => by simp) j hj]
          simp [mem]
        rw [← ha, ← hb, ← q a, ← q b, e]
      · rw [hv.out (j := j) (by omega), hu.out (j := j) (by omega)]
    · intro h
      exact canon_ext wa wb (fun j => by rw [ha, hb, h])
end Go.Abs.Tree
