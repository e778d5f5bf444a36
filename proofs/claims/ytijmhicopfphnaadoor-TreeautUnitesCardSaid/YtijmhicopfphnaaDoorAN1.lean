/- Sets of numbers as words: bitset. -/
import Derived.Test.YtijmhicopfphnaaDoorAProg
import Derived.Test.YtijmhicopfphnaaDoorAbsEnc2
namespace Go.Abs.Tree
open Go Go.Abs
set_option linter.unusedSimpArgs false
set_option linter.unusedVariables false

noncomputable abbrev L : Rec := lim aprog

abbrev sw (z : Bool) (l : List Nat) : AV := .sl z l.length (w64 l)
def W (l : List Nat) : Prop := ∀ x ∈ l, x < 18446744073709551616

theorem W.get {l : List Nat} (h : W l) (i : Nat) : l.getD i 0 < 18446744073709551616 := by
  rw [List.getD_eq_getElem?_getD]
  cases e : l[i]? with
  | none => simp
  | some x => exact h x (List.mem_of_getElem? e)

theorem getD_out {l : List Nat} {i : Nat} (h : l.length ≤ i) : l.getD i 0 = 0 := by
  simp [List.getD, List.getElem?_eq_none h]

theorem at71 (z : Bool) (a : List Nat) (i : Nat) (H : Heap) : L.icall (.func 104 []) [sw z a, .int .i64 (i : Nat)] H = some (.int .u64 (a.getD i 0 : Nat), H) := by
  by_cases hi : i < a.length
  · have h1 : (i : Int) < (a.length : Nat) := by omega
    rw [a104i, a104]
    simp (maxSteps := 30000000) (disch := first | assumption | omega | (simp only [List.length_cons, List.length_nil, List.length_append, List.length_set, List.length_replicate, List.length_map, List.length_range, List.length_take, List.length_drop, List.all_cons, List.all_nil, AV.isCell, Bool.and_self, Bool.and_true, bs_length, is64_length, w64_length, ints_length] <;> omega) | rfl | decide) only [List.append_nil, bodyA_eq, List.length_cons, List.length_nil, Nat.zero_add, Nat.reduceAdd, Nat.reduceSub, pads, List.cons_append, List.nil_append, run_seq, run_region, runOps_cons, oper_none, ex_mov, opv, putK_to, List.set_cons_succ, List.set_cons_zero, opsK_some, runOps_nil, regK_some, seqK_normal, List.getD_cons_succ, List.getD_cons_zero, ex_len, lenA_sl, valK_some, ex_bin, bin_lss, h1, decide_true, run_cond, condK_bool, ex_iaddr, iaddrA_sl, Int.toNat_natCast, Nat.mul_one, ex_load, rd_vptr, w64_drop, w64_take, w64_at0, drop_getD, Nat.add_zero, loadK_1, run_ret, run_skip, if_true, seqK_ret, bodyK_ret, results_1, res_tmp, retvK_some]
  · have h1 : ¬ (i : Int) < (a.length : Nat) := by omega
    rw [getD_out (by omega), a104i, a104]
    simp (maxSteps := 30000000) (disch := first | assumption | omega | (simp only [List.length_cons, List.length_nil, List.length_append, List.length_set, List.length_replicate, List.length_map, List.length_range, List.length_take, List.length_drop, List.all_cons, List.all_nil, AV.isCell, Bool.and_self, Bool.and_true, bs_length, is64_length, w64_length, ints_length] <;> omega) | rfl | decide) only [List.append_nil, bodyA_eq, List.length_cons, List.length_nil, Nat.zero_add, Nat.reduceAdd, Nat.reduceSub, pads, List.cons_append, List.nil_append, run_seq, run_region, runOps_cons, oper_none, ex_mov, opv, putK_to, List.set_cons_succ, List.set_cons_zero, opsK_some, runOps_nil, regK_some, seqK_normal, List.getD_cons_succ, List.getD_cons_zero, ex_len, lenA_sl, valK_some, ex_bin, bin_lss, h1, decide_false, run_cond, condK_bool, Bool.false_eq_true, ex_iaddr, run_skip, if_false, run_ret, bodyK_ret, results_1, res_tmp, retvK_some, castLit]

theorem or59 (x y : Nat) (H : Heap) (hx : x < 18446744073709551616) (hy : y < 18446744073709551616) : L.icall (.func 106 []) [.int .u64 (x : Nat), .int .u64 (y : Nat)] H = some (.int .u64 (x ||| y : Nat), H) := by
  have h := or64 hx hy
  rw [a106i, a106]
  simp (maxSteps := 30000000) (disch := first | assumption | omega | (simp only [List.length_cons, List.length_nil, List.length_append, List.length_set, List.length_replicate, List.length_map, List.length_range, List.length_take, List.length_drop, List.all_cons, List.all_nil, AV.isCell, Bool.and_self, Bool.and_true, bs_length, is64_length, w64_length, ints_length] <;> omega) | rfl | decide) only [List.append_nil, bodyA_eq, List.length_cons, List.length_nil, Nat.zero_add, Nat.reduceAdd, Nat.reduceSub, pads, List.cons_append, List.nil_append, run_seq, run_region, runOps_cons, oper_none, ex_mov, opv, putK_to, List.set_cons_succ, List.set_cons_zero, opsK_some, runOps_nil, regK_some, seqK_normal, List.getD_cons_zero, List.getD_cons_succ, ex_bin, bin_or, h, valK_some, run_ret, bodyK_ret, results_1, res_tmp, retvK_some]

def vals (op : Nat → Nat → Nat) (a b : List Nat) (n : Nat) : List Nat := (List.range n).map fun i => op (a.getD i 0) (b.getD i 0)
theorem vals_length (op : Nat → Nat → Nat) (a b : List Nat) (n : Nat) : (vals op a b n).length = n := by simp [vals]
theorem vals_succ (op : Nat → Nat → Nat) (a b : List Nat) (n : Nat) : vals op a b n ++ [op (a.getD n 0) (b.getD n 0)] = vals op a b (n + 1) := by simp [vals, List.range_succ]

def outAt : Nat → AV
  | 0 => .sl true 0 []
  | k + 1 => .own false k 0 (k + 1) 1
def heapAt (op : Nat → Nat → Nat) (a b : List Nat) : Nat → Heap
  | 0 => []
  | k + 1 => List.replicate k .dead ++ [.cells false false (w64 (vals op a b (k + 1)))]

theorem comb_loop {g : Nat} {op : Nat → Nat → Nat} {a b : List Nat} {za zb : Bool} {N : Nat} (hN : N ≤ 64)
    (hop : ∀ x y H, x < 18446744073709551616 → y < 18446744073709551616 → L.icall (.func g []) [.int .u64 (x : Nat), .int .u64 (y : Nat)] H = some (.int .u64 (op x y : Nat), H)) (wa : W a) (wb : W b) : ∀ d i, i + d = N →
    L.loop a93l0s a93l0 ⟨a93l0F (sw za a) (sw zb b) (.func g []) (.func 104 []) (outAt i) (.int .i64 (N : Nat)) (.int .i64 (i : Nat)), heapAt op a b i⟩ =
      some (.exit 0, ⟨a93l0F (sw za a) (sw zb b) (.func g []) (.func 104 []) (outAt N) (.int .i64 (N : Nat)) (.int .i64 (N : Nat)), heapAt op a b N⟩)
  | 0, i, h => by
    obtain rfl : i = N := by omega
    rw [a93l0n]
    simp (maxSteps := 30000000) (disch := first | assumption | omega | (simp only [List.length_cons, List.length_nil, List.length_append, List.length_set, List.length_replicate, List.length_map, List.length_range, List.length_take, List.length_drop, List.all_cons, List.all_nil, AV.isCell, Bool.and_self, Bool.and_true, bs_length, is64_length, w64_length, ints_length] <;> omega) | rfl | decide) only [a93l0b, run_seq, run_region, runOps_cons, oper_none, ex_bin, opv, List.getD_cons_succ, List.getD_cons_zero, bin_lss, Int.lt_irrefl, decide_false, valK_some, putK_to, List.set_cons_succ, List.set_cons_zero, opsK_some, runOps_nil, regK_some, seqK_normal, run_cond, condK_bool, Bool.false_eq_true, run_skip, run_exit, if_false, seqK_exit, loopK_exit, a93l0c]
  | d + 1, i, h => by
    have hlt : (i : Int) < (N : Nat) := by omega
    have h1 := at71 za a i
    have h2 := at71 zb b i
    have h3 := fun H => hop _ _ H (wa.get i) (wb.get i)
    have ih := comb_loop (za := za) (zb := zb) hN hop wa wb d (i + 1) (by omega)
    cases i with
    | zero =>
      have hv : w64 (vals op a b (0 + 1)) = [AV.int .u64 (op (a.getD 0 0) (b.getD 0 0) : Nat)] := rfl
      simp only [outAt, heapAt, hv, List.replicate, List.nil_append, Nat.zero_add, Int.natCast_zero, Int.natCast_one] at ih h1 h2 h3 hlt ⊢
      rw [a93l0n]
      simp (maxSteps := 30000000) (disch := first | assumption | omega | (simp only [List.length_cons, List.length_nil, List.length_append, List.length_set, List.length_replicate, List.length_map, List.length_range, List.length_take, List.length_drop, List.all_cons, List.all_nil, AV.isCell, Bool.and_self, Bool.and_true, bs_length, is64_length, w64_length, ints_length] <;> omega) | rfl | decide) only [a93l0b, run_seq, run_region, runOps_cons, oper_none, ex_bin, opv, List.getD_cons_succ, List.getD_cons_zero, bin_lss, hlt, decide_true, valK_some, putK_to, List.set_cons_succ, List.set_cons_zero, opsK_some, runOps_nil, regK_some, seqK_normal, run_cond, condK_bool, run_skip, run_exit, if_true, run_block, ex_mov, ex_icall, List.map_cons, List.map_nil, h1, h2, h3, ex_bslice, AV.cells, List.all_cons, List.length_cons, List.length_nil, Nat.zero_add, beq_self_eq_true, List.all_nil, Bool.and_self, repz_1, List.append_nil, Nat.mul_one, fillA, Nat.le_refl, AV.isCell, and_self, splice, List.take_zero, List.nil_append, List.drop_succ_cons, List.drop_nil, newK_some, newA_data, frzN, List.flatMap_cons, bor_int, List.flatMap_nil, List.isEmpty_nil, List.mapM_cons, frz_int, List.mapM_nil, Option.pure_def, Option.bind_eq_bind, Option.bind_some, slK_some, ex_append, src_sl, appK_nil, Nat.reduceBEq, newA_own, blockK_normal, bin_add, Int.zero_add, wr64, loopK_normal, a93l0c, ih]
    | succ k =>
      have hl := vals_length op a b (k + 1)
      have htk : List.take (k + 1) (vals op a b (k + 1)) = vals op a b (k + 1) := List.take_of_length_le (by omega)
      have hsn : w64 (vals op a b (k + 1)) ++ [AV.int .u64 (op (a.getD (k + 1) 0) (b.getD (k + 1) 0) : Nat)] = w64 (vals op a b (k + 1 + 1)) := by rw [w64_snoc, vals_succ]
      simp only [outAt, heapAt, List.replicate_succ', List.append_assoc, List.cons_append, List.nil_append] at ih ⊢
      rw [a93l0n]
      simp (maxSteps := 30000000) (disch := first | assumption | omega | (simp only [List.length_cons, List.length_nil, List.length_append, List.length_set, List.length_replicate, List.length_map, List.length_range, List.length_take, List.length_drop, List.all_cons, List.all_nil, AV.isCell, Bool.and_self, Bool.and_true, bs_length, is64_length, w64_length, ints_length] <;> omega) | rfl | decide) only [a93l0b, run_seq, run_region, runOps_cons, oper_none, ex_bin, opv, List.getD_cons_succ, List.getD_cons_zero, bin_lss, hlt, decide_true, valK_some, putK_to, List.set_cons_succ, List.set_cons_zero, opsK_some, runOps_nil, regK_some, seqK_normal, run_cond, condK_bool, run_skip, run_exit, if_true, run_block, ex_mov, ex_icall, List.map_cons, List.map_nil, h1, h2, h3, ex_bslice, AV.cells, List.all_cons, List.length_cons, List.length_nil, Nat.zero_add, beq_self_eq_true, List.all_nil, Bool.and_self, repz_1, List.append_nil, Nat.mul_one, fillA, Nat.le_refl, AV.isCell, and_self, splice, List.take_zero, List.nil_append, List.drop_succ_cons, List.drop_nil, newK_some, newA_data, frzN, List.flatMap_cons, bor_int, List.flatMap_nil, List.isEmpty_nil, List.mapM_cons, frz_int, List.mapM_nil, Option.pure_def, Option.bind_eq_bind, Option.bind_some, slK_some, ex_append, src_sl, appK_own, dead_get, List.getElem?_cons_zero, appOK_cells, Nat.reduceBEq, List.length_append, List.length_replicate, dead_set, w64_take, htk, hsn, List.append_assoc, List.cons_append, blockK_normal, bin_add, cadd1, wr64, loopK_normal, a93l0c, ih]

/-- how many words stay -/
def stripN (l : List Nat) : Nat → Nat
  | 0 => 0
  | n + 1 => if l.getD n 0 = 0 then stripN l n else n + 1
theorem stripN_le (l : List Nat) : ∀ n, stripN l n ≤ n
  | 0 => Nat.le_refl _
  | n + 1 => by unfold stripN; split; have := stripN_le l n; omega; omega
theorem stripN_zero (l : List Nat) : ∀ n i, stripN l n ≤ i → i < n → l.getD i 0 = 0
  | 0, i, h, h2 => by omega
  | n + 1, i, h, h2 => by
    unfold stripN at h
    split at h
    · rename_i e
      by_cases hi : i = n
      · subst hi; exact e
      · exact stripN_zero l n i h (by omega)
    · omega
theorem stripN_last (l : List Nat) : ∀ n, 0 < stripN l n → l.getD (stripN l n - 1) 0 ≠ 0
  | 0, h => by simp [stripN] at h
  | n + 1, h => by
    unfold stripN at h ⊢
    split
    · rename_i e
      rw [if_pos e] at h
      exact stripN_last l n h
    · rename_i e; simpa using e

theorem strip_loop {l : List Nat} {k : Nat} : ∀ n, n ≤ l.length → n ≤ 64 →
    L.loop a93l1s a93l1 ⟨a93l1F (.own false k 0 n 1), List.replicate k .dead ++ [.cells false false (w64 l)]⟩ = some (.exit 2, ⟨a93l1F (.own false k 0 (stripN l n) 1), List.replicate k .dead ++ [.cells false false (w64 l)]⟩)
  | 0, _, _ => by
    rw [a93l1n]
    simp (maxSteps := 30000000) (disch := first | assumption | omega | (simp only [List.length_cons, List.length_nil, List.length_append, List.length_set, List.length_replicate, List.length_map, List.length_range, List.length_take, List.length_drop, List.all_cons, List.all_nil, AV.isCell, Bool.and_self, Bool.and_true, bs_length, is64_length, w64_length, ints_length] <;> omega) | rfl | decide) only [a93l1b, run_seq, run_region, runOps_cons, oper_none, ex_mov, opv, List.getD_cons_succ, List.getD_cons_zero, putK_to, List.set_cons_succ, List.set_cons_zero, opsK_some, ex_len, lenA_own, castLit, valK_some, ex_bin, bin_gtr, Int.lt_irrefl, decide_false, oper_guard, guardK_bool, Bool.false_eq_true, putA_to, if_false, ex_iaddr, ex_load, ex_pick, pickA_bool, runOps_nil, regK_some, seqK_normal, run_cond, condK_bool, run_skip, run_exit, seqK_exit, loopK_exit, a93l1c, stripN]
  | n + 1, h, h2 => by
    have h0 : (0 : Int) < ((n + 1 : Nat) : Int) := by omega
    have ih := strip_loop (l := l) (k := k) n (by omega) (by omega)
    unfold stripN
    rw [a93l1n]
    by_cases e : l.getD n 0 = 0
    · have e' : (((l.getD n 0 : Nat) : Int) = 0) = True := eq_true (by omega)
      simp (maxSteps := 30000000) (disch := first | assumption | omega | (simp only [List.length_cons, List.length_nil, List.length_append, List.length_set, List.length_replicate, List.length_map, List.length_range, List.length_take, List.length_drop, List.all_cons, List.all_nil, AV.isCell, Bool.and_self, Bool.and_true, bs_length, is64_length, w64_length, ints_length] <;> omega) | rfl | decide) only [a93l1b, run_seq, run_region, runOps_cons, oper_none, ex_mov, opv, List.getD_cons_succ, List.getD_cons_zero, putK_to, List.set_cons_succ, List.set_cons_zero, opsK_some, ex_len, lenA_own, valK_some, ex_bin, bin_gtr, h0, decide_true, oper_guard, guardK_bool, putA_to, if_true, bin_sub, csub1, Nat.add_sub_cancel, wr64, ex_iaddr, iaddrA_own, Int.toNat_natCast, Nat.mul_one, Nat.zero_add, ex_load, rd_ptr, dead_get, List.getElem?_cons_zero, rdK_cells, w64_drop, w64_take, w64_at0, drop_getD, Nat.add_zero, e, castLit, loadK_1, bin_eql, ex_pick, pickA_bool, runOps_nil, regK_some, seqK_normal, run_cond, condK_bool, run_skip, run_exit, run_block, ex_slice, Option.map_none, Option.map_some, sliceA_own, bounds_ns, cutK_own, Nat.sub_zero, blockK_normal, loopK_normal, a93l1c, ih]
    · have e' : (((l.getD n 0 : Nat) : Int) = 0) = False := eq_false (by omega)
      simp (maxSteps := 30000000) (disch := first | assumption | omega | (simp only [List.length_cons, List.length_nil, List.length_append, List.length_set, List.length_replicate, List.length_map, List.length_range, List.length_take, List.length_drop, List.all_cons, List.all_nil, AV.isCell, Bool.and_self, Bool.and_true, bs_length, is64_length, w64_length, ints_length] <;> omega) | rfl | decide) only [a93l1b, run_seq, run_region, runOps_cons, oper_none, ex_mov, opv, List.getD_cons_succ, List.getD_cons_zero, putK_to, List.set_cons_succ, List.set_cons_zero, opsK_some, ex_len, lenA_own, valK_some, ex_bin, bin_gtr, h0, decide_true, oper_guard, guardK_bool, putA_to, if_true, bin_sub, csub1, Nat.add_sub_cancel, wr64, ex_iaddr, iaddrA_own, Int.toNat_natCast, Nat.mul_one, Nat.zero_add, ex_load, rd_ptr, dead_get, List.getElem?_cons_zero, rdK_cells, w64_drop, w64_take, w64_at0, drop_getD, Nat.add_zero, loadK_1, bin_eql, e', decide_false, ex_pick, pickA_bool, ite_self, runOps_nil, regK_some, seqK_normal, run_cond, condK_bool, Bool.false_eq_true, run_skip, run_exit, if_false, seqK_exit, loopK_exit, a93l1c, e]

theorem clip72 (z : Bool) (l : List Nat) (n : Nat) (h : l.length = n) (h64 : n ≤ 64) : L.pcall 105 [.sl z n (w64 l)] = some (.sl z n (w64 l)) := by
  have htk : List.take n l = l := List.take_of_length_le (by omega)
  rw [a105p, a105, pbodyA_eq]
  simp (maxSteps := 30000000) (disch := first | assumption | omega | (simp only [List.length_cons, List.length_nil, List.length_append, List.length_set, List.length_replicate, List.length_map, List.length_range, List.length_take, List.length_drop, List.all_cons, List.all_nil, AV.isCell, Bool.and_self, Bool.and_true, bs_length, is64_length, w64_length, ints_length] <;> omega) | rfl | decide) only [bodyA_eq, List.length_cons, List.length_nil, Nat.zero_add, Nat.reduceSub, pads, List.cons_append, List.nil_append, run_seq, run_region, runOps_cons, oper_none, ex_mov, opv, putK_to, List.set_cons_succ, List.set_cons_zero, opsK_some, runOps_nil, regK_some, seqK_normal, List.getD_cons_zero, ex_len, List.getD_cons_succ, lenA_sl, valK_some, ex_slice, Option.map_none, Option.map_some, sliceA_sl, bounds_nsm, Int.toNat_natCast, cutK_sl, Nat.sub_zero, Nat.mul_one, List.drop_zero, w64_take, htk, run_ret, bodyK_ret, results_1, res_tmp, retvK_some, pbodyK_some, frzN, frz_sl]

/-- the canonical words that combine gives -/
def combM (op : Nat → Nat → Nat) (a b : List Nat) : List Nat :=
  (vals op a b (min (max a.length b.length) 64)).take (stripN (vals op a b (min (max a.length b.length) 64)) (min (max a.length b.length) 64))

theorem comb_eq {g : Nat} {op : Nat → Nat → Nat} {a b : List Nat} {za zb : Bool} (hop : ∀ x y H, x < 18446744073709551616 → y < 18446744073709551616 → L.icall (.func g []) [.int .u64 (x : Nat), .int .u64 (y : Nat)] H = some (.int .u64 (op x y : Nat), H)) (wa : W a) (wb : W b) :
    ∃ z H', L.icall (.func 93 []) [sw za a, sw zb b, .func g []] [] = some (sw z (combM op a b), H') := by
  unfold combM
  have hm : min (max (a.length : Int) (b.length : Int)) 64 = ((min (max a.length b.length) 64 : Nat) : Int) := by omega
  have hN : min (max a.length b.length) 64 ≤ 64 := by omega
  have hl := comb_loop (za := za) (zb := zb) hN hop wa wb (min (max a.length b.length) 64) 0 (by omega)
  generalize min (max a.length b.length) 64 = N at *
  simp only [Int.natCast_zero] at hl
  cases N with
  | zero =>
    refine ⟨true, [], ?_⟩
    simp only [outAt, heapAt, Int.natCast_zero] at hl hm
    have hs : L.loop a93l1s a93l1 ⟨a93l1F (.sl true 0 []), []⟩ = some (.exit 2, ⟨a93l1F (.sl true 0 []), []⟩) := by
      rw [a93l1n]
      simp (maxSteps := 30000000) (disch := first | assumption | omega | (simp only [List.length_cons, List.length_nil, List.length_append, List.length_set, List.length_replicate, List.length_map, List.length_range, List.length_take, List.length_drop, List.all_cons, List.all_nil, AV.isCell, Bool.and_self, Bool.and_true, bs_length, is64_length, w64_length, ints_length] <;> omega) | rfl | decide) only [a93l1b, run_seq, run_region, runOps_cons, oper_none, ex_mov, opv, List.getD_cons_succ, List.getD_cons_zero, putK_to, List.set_cons_succ, List.set_cons_zero, opsK_some, ex_len, lenA_sl, castLit, valK_some, ex_bin, bin_gtr, Int.lt_irrefl, decide_false, oper_guard, guardK_bool, Bool.false_eq_true, putA_to, if_false, ex_iaddr, ex_load, ex_pick, pickA_bool, runOps_nil, regK_some, seqK_normal, run_cond, condK_bool, run_skip, run_exit, seqK_exit, loopK_exit, a93l1c]
    have hc := clip72 true [] 0 rfl (by omega)
    rw [w64_nil] at hc
    rw [a93i, a93]
    simp (maxSteps := 30000000) (disch := first | assumption | omega | (simp only [List.length_cons, List.length_nil, List.length_append, List.length_set, List.length_replicate, List.length_map, List.length_range, List.length_take, List.length_drop, List.all_cons, List.all_nil, AV.isCell, Bool.and_self, Bool.and_true, bs_length, is64_length, w64_length, ints_length] <;> omega) | rfl | decide) only [List.append_nil, bodyA_eq, List.length_cons, List.length_nil, Nat.zero_add, Nat.reduceAdd, Nat.reduceSub, pads, List.cons_append, List.nil_append, run_seq, run_region, runOps_cons, oper_none, ex_mov, opv, putK_to, List.set_cons_succ, List.set_cons_zero, opsK_some, runOps_nil, regK_some, seqK_normal, List.getD_cons_zero, ex_len, List.getD_cons_succ, lenA_sl, valK_some, ex_maxi, maxA_int, ex_mini, minA_int, hm, run_block, run_loop, a93l0c, hl, blockK_exit, if_true, a93l1c, hs, ex_call, List.map_cons, List.map_nil, pcallA_eq, frzN, List.mapM_cons, frz_sl, List.mapM_nil, Option.pure_def, Option.bind_eq_bind, Option.bind_some, argK_some, hc, retK_some, scal, scal1, Bool.false_eq_true, fzIds, List.flatMap_cons, bor_sl, List.flatMap_nil, List.foldl_nil, ite_self, run_ret, bodyK_ret, results_1, res_tmp, retvK_some]
    rfl
  | succ k =>
    simp only [outAt, heapAt] at hl
    have hvl := vals_length op a b (k + 1)
    have hs := strip_loop (l := vals op a b (k + 1)) (k := k) (k + 1) (by omega) hN
    have hle := stripN_le (vals op a b (k + 1)) (k + 1)
    generalize stripN (vals op a b (k + 1)) (k + 1) = n at *
    have hlen : ((vals op a b (k + 1)).take n).length = n := by rw [List.length_take]; omega
    have hc := clip72 false ((vals op a b (k + 1)).take n) n hlen (by omega)
    refine ⟨false, List.replicate k .dead ++ [.cells true false (w64 (vals op a b (k + 1)))], ?_⟩
    rw [a93i, a93]
    simp (maxSteps := 30000000) (disch := first | assumption | omega | (simp only [List.length_cons, List.length_nil, List.length_append, List.length_set, List.length_replicate, List.length_map, List.length_range, List.length_take, List.length_drop, List.all_cons, List.all_nil, AV.isCell, Bool.and_self, Bool.and_true, bs_length, is64_length, w64_length, ints_length] <;> omega) | rfl | decide) only [List.append_nil, bodyA_eq, List.length_cons, List.length_nil, Nat.zero_add, Nat.reduceAdd, Nat.reduceSub, pads, List.cons_append, List.nil_append, run_seq, run_region, runOps_cons, oper_none, ex_mov, opv, putK_to, List.set_cons_succ, List.set_cons_zero, opsK_some, runOps_nil, regK_some, seqK_normal, List.getD_cons_zero, ex_len, List.getD_cons_succ, lenA_sl, valK_some, ex_maxi, maxA_int, ex_mini, minA_int, hm, run_block, run_loop, a93l0c, hl, blockK_exit, if_true, a93l1c, hs, ex_call, List.map_cons, List.map_nil, pcallA_eq, frzN, List.mapM_cons, frz_own, dead_get, List.getElem?_cons_zero, frzK_cells, Nat.mul_one, List.drop_zero, w64_take, frz_w64, slK_some, List.mapM_nil, Option.pure_def, Option.bind_eq_bind, Option.bind_some, argK_some, hc, retK_some, scal, scal1, Bool.false_eq_true, fzIds, List.flatMap_cons, bor_own, borK_cells, bor_w64, List.flatMap_nil, List.foldl_cons, dead_mod, List.modify_cons, fzBlk, List.foldl_nil, if_false, run_ret, bodyK_ret, results_1, res_tmp, retvK_some]
    rw [sl_w64 hlen]
end Go.Abs.Tree
