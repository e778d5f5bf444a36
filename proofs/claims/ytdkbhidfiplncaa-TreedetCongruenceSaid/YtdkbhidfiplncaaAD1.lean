/- Trees: end, formed, Check. -/
import Derived.Test.YtdkbhidfiplncaaAProg
import Derived.Test.YtdkbhidfiplncaaAbsEnc2
namespace Go.Abs.Det
open Go Go.Abs
set_option linter.unusedSimpArgs false
set_option linter.unusedVariables false

noncomputable abbrev L : Rec := lim aprog

abbrev iw (z : Bool) (l : List Int) : AV := .sl z l.length (ints l)
theorem drop_getI {l : List Int} {i : Nat} (h : i < l.length) : l.drop i = l.getD i 0 :: l.drop (i + 1) := by
  rw [List.drop_eq_getElem_cons h]
  simp [List.getD, List.getElem?_eq_getElem h]
theorem app_get {G X : Heap} {b : Nat} {x : Blk} (h : G[b]? = some x) : (G ++ X)[b]? = some x := by
  rw [List.getElem?_append_left (List.getElem?_eq_some_iff.1 h).1]; exact h
theorem take_len {α : Type} (k : Nat) (l : List α) : List.take (l.take k).length l = l.take k := by
  rw [List.length_take]
  rcases Nat.le_total k l.length with h | h
  · rw [Nat.min_eq_left h]
  · rw [Nat.min_eq_right h, List.take_of_length_le h, List.take_of_length_le (Nat.le_refl _)]

structure Lf where
  x : Nat
  l : Int
  r : Int
def f0 : Lf := ⟨0, 0, 0⟩
def encF (e : Lf) : List AV := [.int .u8 (e.x : Nat), .int .i64 e.l, .int .i64 e.r]
def lfs (l : List Lf) : List AV := rows encF l
abbrev tw (z : Bool) (t : List Lf) : AV := .sl z t.length (lfs t)
theorem lfs_length (l : List Lf) : (lfs l).length = l.length * 3 := rows_length (enc := encF) (k := 3) (fun _ => rfl) l
theorem lfs_drop {l : List Lf} {i : Nat} (h : i < l.length) : List.drop (i * 3) (lfs l) = encF (l.getD i f0) ++ lfs (l.drop (i + 1)) := by
  unfold lfs
  rw [rows_drop (enc := encF) (k := 3) (fun _ => rfl), List.drop_eq_getElem_cons h]
  have : l.getD i f0 = l[i] := by simp [List.getD, List.getElem?_eq_getElem h]
  rw [this]
  rfl
theorem lfs_at {l : List Lf} {i : Nat} (h : i < l.length) : List.take 3 (List.drop (i * 3) (lfs l)) = [.int .u8 ((l.getD i f0).x : Nat), .int .i64 (l.getD i f0).l, .int .i64 (l.getD i f0).r] := by
  rw [lfs_drop h]; rfl
theorem lfs_at1 {l : List Lf} {i : Nat} (h : i < l.length) : List.take 1 (List.drop (i * 3 + 1) (lfs l)) = [.int .i64 (l.getD i f0).l] := by
  rw [← List.drop_drop, lfs_drop h]; rfl
theorem lfs_at2 {l : List Lf} {i : Nat} (h : i < l.length) : List.take 1 (List.drop (i * 3 + 2) (lfs l)) = [.int .i64 (l.getD i f0).r] := by
  rw [← List.drop_drop, lfs_drop h]; rfl
theorem drop_getF {l : List Lf} {i : Nat} (h : i < l.length) : l.drop i = l.getD i f0 :: l.drop (i + 1) := by
  rw [List.drop_eq_getElem_cons h]
  simp [List.getD, List.getElem?_eq_getElem h]
theorem getF_mem {l : List Lf} {i : Nat} (h : i < l.length) : l.getD i f0 ∈ l := by
  rw [List.getD_eq_getElem?_getD, List.getElem?_eq_getElem h]
  exact List.getElem_mem _

/-- binary trees -/
inductive BT
  | nil
  | node (x : Nat) (l r : BT)

/-- child c, a tree T; its block begins at m if there is one, and ends before n -/
inductive Sub (t : List Lf) : Int → Nat → BT → Nat → Prop
  | none (m : Nat) : Sub t (-1) m .nil m
  | some {m k n : Nat} {l r : BT} (hm : m < t.length) (hl : Sub t (t.getD m f0).l (m + 1) l k) (hr : Sub t (t.getD m f0).r k r n) : Sub t (m : Int) m (.node (t.getD m f0).x l r) n

noncomputable abbrev LP (z : Bool) (t : List Lf) (H : Heap) (l r : Int) (s4 : AV) (next j : Int) := L.loop a114l0s a114l0 ⟨a114l0F (tw z t) s4 (.int .i64 next) (.agg [.int .i64 l, .int .i64 r]) (.int .i64 j), H⟩
abbrev LQ (z : Bool) (t : List Lf) (H : Heap) (l r : Int) (s4 : AV) (next j : Int) : St := ⟨a114l0F (tw z t) s4 (.int .i64 next) (.agg [.int .i64 l, .int .i64 r]) (.int .i64 j), H⟩

section
variable {z : Bool} {t : List Lf} {H : Heap} {l r : Int} {s4 : AV}
theorem end2 (next : Int) : LP z t H l r s4 next 2 = some (.exit 0, LQ z t H l r s4 next 2) := by
  unfold LP
  rw [a114l0n]
  simp (maxSteps := 30000000) (disch := first | assumption | omega | (simp only [List.length_cons, List.length_nil, List.length_append, List.length_set, List.length_replicate, List.length_map, List.length_range, List.length_take, List.length_drop, List.all_cons, List.all_nil, AV.isCell, Bool.and_self, Bool.and_true, bs_length, is64_length, w64_length, ints_length, lfs_length] <;> omega) | rfl | decide) only [a114l0b, Int.reduceNeg, run_seq, run_region, runOps_cons, oper_none, ex_bin, opv, List.getD_cons_succ, List.getD_cons_zero, bin_lss, Int.lt_irrefl, decide_false, valK_some, putK_to, List.set_cons_succ, List.set_cons_zero, opsK_some, runOps_nil, regK_some, seqK_normal, run_cond, condK_bool, Bool.false_eq_true, ↓reduceIte, run_exit, seqK_exit, loopK_exit, a114l0c]
theorem endA (next : Int) {c j : Int} (hj : j = 0 ∧ c = l ∨ j = 1 ∧ c = r) (hc : c = -1) : LP z t H l r s4 next j = LP z t H l r s4 next (j + 1) := by
  unfold LP
  rcases hj with ⟨rfl, rfl⟩ | ⟨rfl, rfl⟩
  · rw [a114l0n]
    simp (maxSteps := 30000000) (disch := first | assumption | omega | (simp only [List.length_cons, List.length_nil, List.length_append, List.length_set, List.length_replicate, List.length_map, List.length_range, List.length_take, List.length_drop, List.all_cons, List.all_nil, AV.isCell, Bool.and_self, Bool.and_true, bs_length, is64_length, w64_length, ints_length, lfs_length] <;> omega) | rfl | decide) only [a114l0b, Int.reduceNeg, hc, run_seq, run_region, runOps_cons, oper_none, ex_bin, opv, List.getD_cons_succ, List.getD_cons_zero, bin_lss, Int.reduceLT, decide_true, valK_some, putK_to, List.set_cons_succ, List.set_cons_zero, opsK_some, runOps_nil, regK_some, seqK_normal, run_cond, condK_bool, ↓reduceIte, run_skip, run_block, ex_idx, idxA_agg, Int.toNat_zero, Nat.mul_one, List.drop_zero, List.take_succ_cons, List.take_zero, mkv_1, ex_mov, bin_eql, run_exit, blockK_exit, Nat.reduceEqDiff, seqK_exit, bin_add, Int.zero_add, wr64, loopK_normal, a114l0c]
  · rw [a114l0n]
    simp (maxSteps := 30000000) (disch := first | assumption | omega | (simp only [List.length_cons, List.length_nil, List.length_append, List.length_set, List.length_replicate, List.length_map, List.length_range, List.length_take, List.length_drop, List.all_cons, List.all_nil, AV.isCell, Bool.and_self, Bool.and_true, bs_length, is64_length, w64_length, ints_length, lfs_length] <;> omega) | rfl | decide) only [a114l0b, Int.reduceNeg, hc, run_seq, run_region, runOps_cons, oper_none, ex_bin, opv, List.getD_cons_succ, List.getD_cons_zero, bin_lss, Int.reduceLT, decide_true, valK_some, putK_to, List.set_cons_succ, List.set_cons_zero, opsK_some, runOps_nil, regK_some, seqK_normal, run_cond, condK_bool, ↓reduceIte, run_skip, run_block, ex_idx, idxA_agg, Int.toNat_one, Nat.mul_one, List.drop_succ_cons, List.drop_zero, List.take_succ_cons, List.take_nil, mkv_1, ex_mov, bin_eql, run_exit, blockK_exit, Nat.reduceEqDiff, seqK_exit, bin_add, Int.reduceAdd, wr64, loopK_normal, a114l0c]
theorem endB (next : Nat) {c j : Int} (hj : j = 0 ∧ c = l ∨ j = 1 ∧ c = r) (hc : c ≠ -1) (hb : c ≠ (next : Int) ∨ t.length ≤ next) : LP z t H l r s4 (next : Nat) j = some (.ret, LQ z t H l r (.int .i64 (-1)) (next : Nat) j) := by
  unfold LP
  rcases hj with ⟨rfl, rfl⟩ | ⟨rfl, rfl⟩ <;> rw [a114l0n] <;> by_cases h1 : c = (next : Int)
  · have h2 : ((t.length : Nat) : Int) ≤ (next : Nat) := by omega
    have h3 : ¬ ((next : Nat) : Int) = -1 := by omega
    simp (maxSteps := 30000000) (disch := first | assumption | omega | (simp only [List.length_cons, List.length_nil, List.length_append, List.length_set, List.length_replicate, List.length_map, List.length_range, List.length_take, List.length_drop, List.all_cons, List.all_nil, AV.isCell, Bool.and_self, Bool.and_true, bs_length, is64_length, w64_length, ints_length, lfs_length] <;> omega) | rfl | decide) only [a114l0b, Int.reduceNeg, h1, run_seq, run_region, runOps_cons, oper_none, ex_bin, opv, List.getD_cons_succ, List.getD_cons_zero, bin_lss, Int.reduceLT, decide_true, valK_some, putK_to, List.set_cons_succ, List.set_cons_zero, opsK_some, runOps_nil, regK_some, seqK_normal, run_cond, condK_bool, ↓reduceIte, run_skip, run_block, ex_idx, idxA_agg, Int.toNat_zero, Nat.mul_one, List.drop_zero, List.take_succ_cons, List.take_zero, mkv_1, ex_mov, bin_eql, h3, decide_false, Bool.false_eq_true, bin_neq, Bool.not_true, oper_guard, guardK_bool, ex_len, lenA_sl, bin_geq, h2, ex_pick, pickA_bool, run_ret, blockK_ret, seqK_ret, loopK_ret, a114l0c]
  · simp (maxSteps := 30000000) (disch := first | assumption | omega | (simp only [List.length_cons, List.length_nil, List.length_append, List.length_set, List.length_replicate, List.length_map, List.length_range, List.length_take, List.length_drop, List.all_cons, List.all_nil, AV.isCell, Bool.and_self, Bool.and_true, bs_length, is64_length, w64_length, ints_length, lfs_length] <;> omega) | rfl | decide) only [a114l0b, Int.reduceNeg, run_seq, run_region, runOps_cons, oper_none, ex_bin, opv, List.getD_cons_succ, List.getD_cons_zero, bin_lss, Int.reduceLT, decide_true, valK_some, putK_to, List.set_cons_succ, List.set_cons_zero, opsK_some, runOps_nil, regK_some, seqK_normal, run_cond, condK_bool, ↓reduceIte, run_skip, run_block, ex_idx, idxA_agg, Int.toNat_zero, Nat.mul_one, List.drop_zero, List.take_succ_cons, List.take_zero, mkv_1, ex_mov, bin_eql, hc, decide_false, Bool.false_eq_true, bin_neq, h1, Bool.not_false, oper_guard, guardK_bool, Bool.true_eq_false, putA_to, ex_pick, pickA_bool, run_ret, blockK_ret, seqK_ret, loopK_ret, a114l0c]
  · have h2 : ((t.length : Nat) : Int) ≤ (next : Nat) := by omega
    have h3 : ¬ ((next : Nat) : Int) = -1 := by omega
    simp (maxSteps := 30000000) (disch := first | assumption | omega | (simp only [List.length_cons, List.length_nil, List.length_append, List.length_set, List.length_replicate, List.length_map, List.length_range, List.length_take, List.length_drop, List.all_cons, List.all_nil, AV.isCell, Bool.and_self, Bool.and_true, bs_length, is64_length, w64_length, ints_length, lfs_length] <;> omega) | rfl | decide) only [a114l0b, Int.reduceNeg, h1, run_seq, run_region, runOps_cons, oper_none, ex_bin, opv, List.getD_cons_succ, List.getD_cons_zero, bin_lss, Int.reduceLT, decide_true, valK_some, putK_to, List.set_cons_succ, List.set_cons_zero, opsK_some, runOps_nil, regK_some, seqK_normal, run_cond, condK_bool, ↓reduceIte, run_skip, run_block, ex_idx, idxA_agg, Int.toNat_one, Nat.mul_one, List.drop_succ_cons, List.drop_zero, List.take_succ_cons, List.take_nil, mkv_1, ex_mov, bin_eql, h3, decide_false, Bool.false_eq_true, bin_neq, Bool.not_true, oper_guard, guardK_bool, ex_len, lenA_sl, bin_geq, h2, ex_pick, pickA_bool, run_ret, blockK_ret, seqK_ret, loopK_ret, a114l0c]
  · simp (maxSteps := 30000000) (disch := first | assumption | omega | (simp only [List.length_cons, List.length_nil, List.length_append, List.length_set, List.length_replicate, List.length_map, List.length_range, List.length_take, List.length_drop, List.all_cons, List.all_nil, AV.isCell, Bool.and_self, Bool.and_true, bs_length, is64_length, w64_length, ints_length, lfs_length] <;> omega) | rfl | decide) only [a114l0b, Int.reduceNeg, run_seq, run_region, runOps_cons, oper_none, ex_bin, opv, List.getD_cons_succ, List.getD_cons_zero, bin_lss, Int.reduceLT, decide_true, valK_some, putK_to, List.set_cons_succ, List.set_cons_zero, opsK_some, runOps_nil, regK_some, seqK_normal, run_cond, condK_bool, ↓reduceIte, run_skip, run_block, ex_idx, idxA_agg, Int.toNat_one, Nat.mul_one, List.drop_succ_cons, List.drop_zero, List.take_succ_cons, List.take_nil, mkv_1, ex_mov, bin_eql, hc, decide_false, Bool.false_eq_true, bin_neq, h1, Bool.not_false, oper_guard, guardK_bool, Bool.true_eq_false, putA_to, ex_pick, pickA_bool, run_ret, blockK_ret, seqK_ret, loopK_ret, a114l0c]
theorem endC (next : Nat) {c j : Int} (hj : j = 0 ∧ c = l ∨ j = 1 ∧ c = r) (hb : c = (next : Int)) (hn : next < t.length) (hq : L.pcall 114 [tw z t, .int .i64 (next : Nat)] = some (.int .i64 (-1))) : LP z t H l r s4 (next : Nat) j = some (.ret, LQ z t H l r (.int .i64 (-1)) (-1) j) := by
  have h2 : ¬ ((t.length : Nat) : Int) ≤ (next : Nat) := by omega
  have h3 : ¬ ((next : Nat) : Int) = -1 := by omega
  subst hb
  unfold LP
  rcases hj with ⟨rfl, rfl⟩ | ⟨rfl, rfl⟩ <;> rw [a114l0n]
  · simp (maxSteps := 30000000) (disch := first | assumption | omega | (simp only [List.length_cons, List.length_nil, List.length_append, List.length_set, List.length_replicate, List.length_map, List.length_range, List.length_take, List.length_drop, List.all_cons, List.all_nil, AV.isCell, Bool.and_self, Bool.and_true, bs_length, is64_length, w64_length, ints_length, lfs_length] <;> omega) | rfl | decide) only [a114l0b, Int.reduceNeg, run_seq, run_region, runOps_cons, oper_none, ex_bin, opv, List.getD_cons_succ, List.getD_cons_zero, bin_lss, Int.reduceLT, decide_true, valK_some, putK_to, List.set_cons_succ, List.set_cons_zero, opsK_some, runOps_nil, regK_some, seqK_normal, run_cond, condK_bool, ↓reduceIte, run_skip, run_block, ex_idx, idxA_agg, Int.toNat_zero, Nat.mul_one, List.drop_zero, List.take_succ_cons, List.take_zero, mkv_1, ex_mov, bin_eql, h3, decide_false, Bool.false_eq_true, bin_neq, Bool.not_true, oper_guard, guardK_bool, ex_len, lenA_sl, bin_geq, h2, ex_pick, pickA_bool, blockK_normal, ex_call, List.map_cons, List.map_nil, pcallA_eq, frzN, List.mapM_cons, frz_sl, frz_int, List.mapM_nil, Option.pure_def, Option.bind_eq_bind, Option.bind_some, argK_some, hq, retK_some, scal, scal1, run_ret, blockK_ret, seqK_ret, loopK_ret, a114l0c]
  · simp (maxSteps := 30000000) (disch := first | assumption | omega | (simp only [List.length_cons, List.length_nil, List.length_append, List.length_set, List.length_replicate, List.length_map, List.length_range, List.length_take, List.length_drop, List.all_cons, List.all_nil, AV.isCell, Bool.and_self, Bool.and_true, bs_length, is64_length, w64_length, ints_length, lfs_length] <;> omega) | rfl | decide) only [a114l0b, Int.reduceNeg, run_seq, run_region, runOps_cons, oper_none, ex_bin, opv, List.getD_cons_succ, List.getD_cons_zero, bin_lss, Int.reduceLT, decide_true, valK_some, putK_to, List.set_cons_succ, List.set_cons_zero, opsK_some, runOps_nil, regK_some, seqK_normal, run_cond, condK_bool, ↓reduceIte, run_skip, run_block, ex_idx, idxA_agg, Int.toNat_one, Nat.mul_one, List.drop_succ_cons, List.drop_zero, List.take_succ_cons, List.take_nil, mkv_1, ex_mov, bin_eql, h3, decide_false, Bool.false_eq_true, bin_neq, Bool.not_true, oper_guard, guardK_bool, ex_len, lenA_sl, bin_geq, h2, ex_pick, pickA_bool, blockK_normal, ex_call, List.map_cons, List.map_nil, pcallA_eq, frzN, List.mapM_cons, frz_sl, frz_int, List.mapM_nil, Option.pure_def, Option.bind_eq_bind, Option.bind_some, argK_some, hq, retK_some, scal, scal1, run_ret, blockK_ret, seqK_ret, loopK_ret, a114l0c]
theorem endD (next m : Nat) {c j : Int} (hj : j = 0 ∧ c = l ∨ j = 1 ∧ c = r) (hb : c = (next : Int)) (hn : next < t.length) (hq : L.pcall 114 [tw z t, .int .i64 (next : Nat)] = some (.int .i64 (m : Nat))) : LP z t H l r s4 (next : Nat) j = LP z t H l r s4 (m : Nat) (j + 1) := by
  have h2 : ¬ ((t.length : Nat) : Int) ≤ (next : Nat) := by omega
  have h3 : ¬ ((next : Nat) : Int) = -1 := by omega
  have h4 : ¬ ((m : Nat) : Int) = -1 := by omega
  subst hb
  unfold LP
  rcases hj with ⟨rfl, rfl⟩ | ⟨rfl, rfl⟩ <;> rw [a114l0n]
  · simp (maxSteps := 30000000) (disch := first | assumption | omega | (simp only [List.length_cons, List.length_nil, List.length_append, List.length_set, List.length_replicate, List.length_map, List.length_range, List.length_take, List.length_drop, List.all_cons, List.all_nil, AV.isCell, Bool.and_self, Bool.and_true, bs_length, is64_length, w64_length, ints_length, lfs_length] <;> omega) | rfl | decide) only [a114l0b, Int.reduceNeg, run_seq, run_region, runOps_cons, oper_none, ex_bin, opv, List.getD_cons_succ, List.getD_cons_zero, bin_lss, Int.reduceLT, decide_true, valK_some, putK_to, List.set_cons_succ, List.set_cons_zero, opsK_some, runOps_nil, regK_some, seqK_normal, run_cond, condK_bool, ↓reduceIte, run_skip, run_block, ex_idx, idxA_agg, Int.toNat_zero, Nat.mul_one, List.drop_zero, List.take_succ_cons, List.take_zero, mkv_1, ex_mov, bin_eql, h3, decide_false, Bool.false_eq_true, bin_neq, Bool.not_true, oper_guard, guardK_bool, ex_len, lenA_sl, bin_geq, h2, ex_pick, pickA_bool, blockK_normal, ex_call, List.map_cons, List.map_nil, pcallA_eq, frzN, List.mapM_cons, frz_sl, frz_int, List.mapM_nil, Option.pure_def, Option.bind_eq_bind, Option.bind_some, argK_some, hq, retK_some, scal, scal1, h4, bin_add, Int.zero_add, wr64, loopK_normal, a114l0c]
  · simp (maxSteps := 30000000) (disch := first | assumption | omega | (simp only [List.length_cons, List.length_nil, List.length_append, List.length_set, List.length_replicate, List.length_map, List.length_range, List.length_take, List.length_drop, List.all_cons, List.all_nil, AV.isCell, Bool.and_self, Bool.and_true, bs_length, is64_length, w64_length, ints_length, lfs_length] <;> omega) | rfl | decide) only [a114l0b, Int.reduceNeg, run_seq, run_region, runOps_cons, oper_none, ex_bin, opv, List.getD_cons_succ, List.getD_cons_zero, bin_lss, Int.reduceLT, decide_true, valK_some, putK_to, List.set_cons_succ, List.set_cons_zero, opsK_some, runOps_nil, regK_some, seqK_normal, run_cond, condK_bool, ↓reduceIte, run_skip, run_block, ex_idx, idxA_agg, Int.toNat_one, Nat.mul_one, List.drop_succ_cons, List.drop_zero, List.take_succ_cons, List.take_nil, mkv_1, ex_mov, bin_eql, h3, decide_false, Bool.false_eq_true, bin_neq, Bool.not_true, oper_guard, guardK_bool, ex_len, lenA_sl, bin_geq, h2, ex_pick, pickA_bool, blockK_normal, ex_call, List.map_cons, List.map_nil, pcallA_eq, frzN, List.mapM_cons, frz_sl, frz_int, List.mapM_nil, Option.pure_def, Option.bind_eq_bind, Option.bind_some, argK_some, hq, retK_some, scal, scal1, h4, bin_add, Int.reduceAdd, wr64, loopK_normal, a114l0c]
end

theorem end_exit {z : Bool} {t : List Lf} {i n : Nat} (ht : t.length < 1099511627776) (hi : i < t.length) (h : LP z t [] (t.getD i f0).l (t.getD i f0).r (.int .i64 0) ((i + 1 : Nat) : Int) 0 = some (.exit 0, LQ z t [] (t.getD i f0).l (t.getD i f0).r (.int .i64 0) (n : Nat) 2)) :
    L.pcall 114 [tw z t, .int .i64 (i : Nat)] = some (.int .i64 (n : Nat)) := by
  unfold LP LQ at h
  rw [a114p, a114, pbodyA_eq]
  simp (maxSteps := 30000000) (disch := first | assumption | omega | (simp only [List.length_cons, List.length_nil, List.length_append, List.length_set, List.length_replicate, List.length_map, List.length_range, List.length_take, List.length_drop, List.all_cons, List.all_nil, AV.isCell, Bool.and_self, Bool.and_true, bs_length, is64_length, w64_length, ints_length, lfs_length] <;> omega) | rfl | decide) only [bodyA_eq, List.length_cons, List.length_nil, Nat.zero_add, Nat.reduceAdd, Nat.reduceSub, pads, List.cons_append, List.nil_append, run_seq, run_region, runOps_cons, oper_none, ex_mov, opv, putK_to, List.set_cons_succ, List.set_cons_zero, opsK_some, runOps_nil, regK_some, seqK_normal, List.getD_cons_succ, List.getD_cons_zero, ex_bin, bin_add, cadd1, wr64, valK_some, run_draw, List.take_succ_cons, List.take_nil, runFree_cons, foper_none, fe_mov, fstK_some, fputK_to, freeK_some, fe_iaddr, ex_iaddr, iaddrA_sl, Int.toNat_natCast, fe_faddr, ex_faddr, faddrA_vptr, fe_load, ex_load, rd_vptr, lfs_at1, loadK_1, lfs_at2, fe_build, ex_build, AV.cells, List.all_cons, beq_self_eq_true, List.all_nil, Bool.and_self, ↓reduceIte, List.map_cons, List.map_nil, fillA, Nat.reduceLeDiff, AV.isCell, and_self, splice, List.take_zero, List.drop_succ_cons, List.drop_zero, Nat.le_refl, List.drop_nil, List.append_nil, Option.map_some, runFree_nil, drawK_some, adopt, adoptVal, run_block, run_loop, a114l0c, h, blockK_exit, run_ret, bodyK_ret, results_1, res_tmp, retvK_some, pbodyK_some, frzN, frz_int]
theorem end_ret {z : Bool} {t : List Lf} {i : Nat} {n j : Int} (ht : t.length < 1099511627776) (hi : i < t.length) (h : LP z t [] (t.getD i f0).l (t.getD i f0).r (.int .i64 0) ((i + 1 : Nat) : Int) 0 = some (.ret, LQ z t [] (t.getD i f0).l (t.getD i f0).r (.int .i64 (-1)) n j)) :
    L.pcall 114 [tw z t, .int .i64 (i : Nat)] = some (.int .i64 (-1)) := by
  unfold LP LQ at h
  rw [a114p, a114, pbodyA_eq]
  simp (maxSteps := 30000000) (disch := first | assumption | omega | (simp only [List.length_cons, List.length_nil, List.length_append, List.length_set, List.length_replicate, List.length_map, List.length_range, List.length_take, List.length_drop, List.all_cons, List.all_nil, AV.isCell, Bool.and_self, Bool.and_true, bs_length, is64_length, w64_length, ints_length, lfs_length] <;> omega) | rfl | decide) only [bodyA_eq, List.length_cons, List.length_nil, Nat.zero_add, Nat.reduceAdd, Nat.reduceSub, pads, List.cons_append, List.nil_append, run_seq, run_region, runOps_cons, oper_none, ex_mov, opv, putK_to, List.set_cons_succ, List.set_cons_zero, opsK_some, runOps_nil, regK_some, seqK_normal, List.getD_cons_succ, List.getD_cons_zero, ex_bin, bin_add, cadd1, wr64, valK_some, run_draw, List.take_succ_cons, List.take_nil, runFree_cons, foper_none, fe_mov, fstK_some, fputK_to, freeK_some, fe_iaddr, ex_iaddr, iaddrA_sl, Int.toNat_natCast, fe_faddr, ex_faddr, faddrA_vptr, fe_load, ex_load, rd_vptr, lfs_at1, loadK_1, lfs_at2, fe_build, ex_build, AV.cells, List.all_cons, beq_self_eq_true, List.all_nil, Bool.and_self, ↓reduceIte, List.map_cons, List.map_nil, fillA, Nat.reduceLeDiff, AV.isCell, and_self, splice, List.take_zero, List.drop_succ_cons, List.drop_zero, Nat.le_refl, List.drop_nil, List.append_nil, Option.map_some, runFree_nil, drawK_some, adopt, adoptVal, run_block, run_loop, a114l0c, h, Int.reduceNeg, blockK_ret, seqK_ret, bodyK_ret, results_1, res_tmp, retvK_some, pbodyK_some, frzN, frz_int]

theorem end_ex {z : Bool} {t : List Lf} (ht : t.length < 1099511627776) : ∀ k i, i < t.length → t.length ≤ i + k →
    L.pcall 114 [tw z t, .int .i64 (i : Nat)] = some (.int .i64 (-1)) ∨ ∃ n T, L.pcall 114 [tw z t, .int .i64 (i : Nat)] = some (.int .i64 (n : Nat)) ∧ i < n ∧ n ≤ t.length ∧ Sub t (i : Int) i T n
  | 0, i, hi, hk => by omega
  | k + 1, i, hi, hk => by
    have ih := fun i' (h : i < i') (h2 : i' < t.length) => end_ex (z := z) ht k i' h2 (by omega)
    -- after the first child
    have first : (∃ n j, LP z t [] (t.getD i f0).l (t.getD i f0).r (.int .i64 0) ((i + 1 : Nat) : Int) 0 = some (.ret, LQ z t [] (t.getD i f0).l (t.getD i f0).r (.int .i64 (-1)) n j)) ∨
        ∃ m T, i < m ∧ m ≤ t.length ∧ Sub t (t.getD i f0).l (i + 1) T m ∧ LP z t [] (t.getD i f0).l (t.getD i f0).r (.int .i64 0) ((i + 1 : Nat) : Int) 0 = LP z t [] (t.getD i f0).l (t.getD i f0).r (.int .i64 0) (m : Nat) 1 := by
      by_cases c1 : (t.getD i f0).l = -1
      · exact .inr ⟨i + 1, .nil, by omega, by omega, c1 ▸ .none _, endA _ (.inl ⟨rfl, rfl⟩) c1⟩
      · by_cases c2 : (t.getD i f0).l ≠ ((i + 1 : Nat) : Int) ∨ t.length ≤ i + 1
        · exact .inl ⟨_, _, endB (i + 1) (.inl ⟨rfl, rfl⟩) c1 c2⟩
        · have c3 : (t.getD i f0).l = ((i + 1 : Nat) : Int) := by omega
          rcases ih (i + 1) (by omega) (by omega) with q | ⟨m, T, q, q1, q2, q3⟩
          · exact .inl ⟨_, _, endC (i + 1) (.inl ⟨rfl, rfl⟩) c3 (by omega) q⟩
          · exact .inr ⟨m, T, by omega, q2, c3 ▸ q3, endD (i + 1) m (.inl ⟨rfl, rfl⟩) c3 (by omega) q⟩
    rcases first with ⟨n, j, h⟩ | ⟨m, T, m1, m2, hT, h⟩
    · exact .inl (end_ret ht hi h)
    · by_cases c1 : (t.getD i f0).r = -1
      · refine .inr ⟨m, .node (t.getD i f0).x T .nil, end_exit ht hi (by rw [h, endA _ (.inr ⟨rfl, rfl⟩) c1]; exact end2 _), m1, m2, .some hi hT (c1 ▸ .none _)⟩
      · by_cases c2 : (t.getD i f0).r ≠ (m : Int) ∨ t.length ≤ m
        · exact .inl (end_ret ht hi (h.trans (endB m (.inr ⟨rfl, rfl⟩) c1 c2)))
        · have c3 : (t.getD i f0).r = (m : Int) := by omega
          rcases ih m m1 (by omega) with q | ⟨n, T', q, q1, q2, q3⟩
          · exact .inl (end_ret ht hi (h.trans (endC m (.inr ⟨rfl, rfl⟩) c3 (by omega) q)))
          · exact .inr ⟨n, .node (t.getD i f0).x T T', end_exit ht hi (by rw [h, endD m n (.inr ⟨rfl, rfl⟩) c3 (by omega) q]; exact end2 _), by omega, q2, .some hi hT (c3 ▸ q3)⟩

/-- well formed: empty, or the block of the first node is the whole -/
def Formed (t : List Lf) (T : BT) : Prop := t = [] ∧ T = .nil ∨ t.length ≤ 31 ∧ Sub t 0 0 T t.length

theorem formed_ex (z : Bool) (t : List Lf) (ht : t.length < 1099511627776) : L.pcall 91 [tw z t] = some (.bool false) ∨ L.pcall 91 [tw z t] = some (.bool true) ∧ ∃ T, Formed t T := by
  have e : (((t.length : Nat) : Int) ≤ 31) = (t.length ≤ 31) := propext ⟨fun h => by omega, fun h => by omega⟩
  by_cases h0 : t.length = 0
  · right
    refine ⟨?_, .nil, .inl ⟨List.length_eq_zero_iff.1 h0, rfl⟩⟩
    have h0' : (((t.length : Nat) : Int) = 0) = True := eq_true (by omega)
    rw [a91p, a91, pbodyA_eq]
    simp (maxSteps := 30000000) (disch := first | assumption | omega | (simp only [List.length_cons, List.length_nil, List.length_append, List.length_set, List.length_replicate, List.length_map, List.length_range, List.length_take, List.length_drop, List.all_cons, List.all_nil, AV.isCell, Bool.and_self, Bool.and_true, bs_length, is64_length, w64_length, ints_length, lfs_length] <;> omega) | rfl | decide) only [bodyA_eq, List.length_cons, List.length_nil, Nat.zero_add, Nat.reduceSub, pads, List.cons_append, List.nil_append, run_seq, run_region, runOps_cons, oper_none, ex_mov, opv, putK_to, List.set_cons_succ, List.set_cons_zero, opsK_some, runOps_nil, regK_some, seqK_normal, List.getD_cons_zero, ex_len, List.getD_cons_succ, lenA_sl, valK_some, ex_bin, bin_eql, h0', decide_true, oper_guard, guardK_bool, Bool.true_eq_false, ↓reduceIte, putA_to, guardK_tup, ex_pick, pickA_bool, run_ret, bodyK_ret, results_1, res_tmp, retvK_some, pbodyK_some, frzN, frz_bool]
  · have h0' : (((t.length : Nat) : Int) = 0) = False := eq_false (by omega)
    by_cases h1 : t.length ≤ 31
    · rcases end_ex (z := z) ht t.length 0 (by omega) (by omega) with q | ⟨n, T, q, q1, q2, q3⟩
      · left
        simp only [Int.natCast_zero] at q
        have h2 : ((-1 : Int) = (t.length : Nat)) = False := eq_false (by omega)
        rw [a91p, a91, pbodyA_eq]
        simp (maxSteps := 30000000) (disch := first | assumption | omega | (simp only [List.length_cons, List.length_nil, List.length_append, List.length_set, List.length_replicate, List.length_map, List.length_range, List.length_take, List.length_drop, List.all_cons, List.all_nil, AV.isCell, Bool.and_self, Bool.and_true, bs_length, is64_length, w64_length, ints_length, lfs_length] <;> omega) | rfl | decide) only [bodyA_eq, List.length_cons, List.length_nil, Nat.zero_add, Nat.reduceSub, pads, List.cons_append, List.nil_append, run_seq, run_region, runOps_cons, oper_none, ex_mov, opv, putK_to, List.set_cons_succ, List.set_cons_zero, opsK_some, runOps_nil, regK_some, seqK_normal, List.getD_cons_zero, ex_len, List.getD_cons_succ, lenA_sl, valK_some, ex_bin, bin_eql, h0', decide_false, oper_guard, guardK_bool, ↓reduceIte, bin_leq, e, h1, decide_true, ex_call, List.map_cons, List.map_nil, pcallA_eq, frzN, List.mapM_cons, frz_sl, frz_int, List.mapM_nil, Option.pure_def, Option.bind_eq_bind, Option.bind_some, argK_some, q, Int.reduceNeg, retK_some, scal, scal1, h2, ex_pick, pickA_bool, Bool.false_eq_true, run_ret, bodyK_ret, results_1, res_tmp, retvK_some, pbodyK_some, frz_bool]
      · simp only [Int.natCast_zero] at q
        by_cases c : n = t.length
        · right
          refine ⟨?_, T, .inr ⟨h1, c ▸ q3⟩⟩
          have h2 : (((n : Nat) : Int) = (t.length : Nat)) = True := eq_true (by omega)
          rw [a91p, a91, pbodyA_eq]
          simp (maxSteps := 30000000) (disch := first | assumption | omega | (simp only [List.length_cons, List.length_nil, List.length_append, List.length_set, List.length_replicate, List.length_map, List.length_range, List.length_take, List.length_drop, List.all_cons, List.all_nil, AV.isCell, Bool.and_self, Bool.and_true, bs_length, is64_length, w64_length, ints_length, lfs_length] <;> omega) | rfl | decide) only [bodyA_eq, List.length_cons, List.length_nil, Nat.zero_add, Nat.reduceSub, pads, List.cons_append, List.nil_append, run_seq, run_region, runOps_cons, oper_none, ex_mov, opv, putK_to, List.set_cons_succ, List.set_cons_zero, opsK_some, runOps_nil, regK_some, seqK_normal, List.getD_cons_zero, ex_len, List.getD_cons_succ, lenA_sl, valK_some, ex_bin, bin_eql, h0', decide_false, oper_guard, guardK_bool, ↓reduceIte, bin_leq, e, h1, decide_true, ex_call, List.map_cons, List.map_nil, pcallA_eq, frzN, List.mapM_cons, frz_sl, frz_int, List.mapM_nil, Option.pure_def, Option.bind_eq_bind, Option.bind_some, argK_some, q, retK_some, scal, scal1, h2, ex_pick, pickA_bool, Bool.false_eq_true, run_ret, bodyK_ret, results_1, res_tmp, retvK_some, pbodyK_some, frz_bool]
        · left
          have h2 : (((n : Nat) : Int) = (t.length : Nat)) = False := eq_false (by omega)
          rw [a91p, a91, pbodyA_eq]
          simp (maxSteps := 30000000) (disch := first | assumption | omega | (simp only [List.length_cons, List.length_nil, List.length_append, List.length_set, List.length_replicate, List.length_map, List.length_range, List.length_take, List.length_drop, List.all_cons, List.all_nil, AV.isCell, Bool.and_self, Bool.and_true, bs_length, is64_length, w64_length, ints_length, lfs_length] <;> omega) | rfl | decide) only [bodyA_eq, List.length_cons, List.length_nil, Nat.zero_add, Nat.reduceSub, pads, List.cons_append, List.nil_append, run_seq, run_region, runOps_cons, oper_none, ex_mov, opv, putK_to, List.set_cons_succ, List.set_cons_zero, opsK_some, runOps_nil, regK_some, seqK_normal, List.getD_cons_zero, ex_len, List.getD_cons_succ, lenA_sl, valK_some, ex_bin, bin_eql, h0', decide_false, oper_guard, guardK_bool, ↓reduceIte, bin_leq, e, h1, decide_true, ex_call, List.map_cons, List.map_nil, pcallA_eq, frzN, List.mapM_cons, frz_sl, frz_int, List.mapM_nil, Option.pure_def, Option.bind_eq_bind, Option.bind_some, argK_some, q, retK_some, scal, scal1, h2, ex_pick, pickA_bool, Bool.false_eq_true, run_ret, bodyK_ret, results_1, res_tmp, retvK_some, pbodyK_some, frz_bool]
    · left
      rw [a91p, a91, pbodyA_eq]
      simp (maxSteps := 30000000) (disch := first | assumption | omega | (simp only [List.length_cons, List.length_nil, List.length_append, List.length_set, List.length_replicate, List.length_map, List.length_range, List.length_take, List.length_drop, List.all_cons, List.all_nil, AV.isCell, Bool.and_self, Bool.and_true, bs_length, is64_length, w64_length, ints_length, lfs_length] <;> omega) | rfl | decide) only [bodyA_eq, List.length_cons, List.length_nil, Nat.zero_add, Nat.reduceSub, pads, List.cons_append, List.nil_append, run_seq, run_region, runOps_cons, oper_none, ex_mov, opv, putK_to, List.set_cons_succ, List.set_cons_zero, opsK_some, runOps_nil, regK_some, seqK_normal, List.getD_cons_zero, ex_len, List.getD_cons_succ, lenA_sl, valK_some, ex_bin, bin_eql, h0', decide_false, oper_guard, guardK_bool, ↓reduceIte, bin_leq, e, h1, Bool.false_eq_true, putA_to, ex_pick, pickA_bool, run_ret, bodyK_ret, results_1, res_tmp, retvK_some, pbodyK_some, frzN, frz_bool]
theorem shrN (x : Nat) {v b : Nat} (h : v ≤ b) : Int.fdiv (x : Int) (2 ^ min v b) = ((x >>> v : Nat) : Int) := by
  rw [Nat.min_eq_left h, Nat.shiftRight_eq_div_pow, show (2 : Int) ^ v = ((2 ^ v : Nat) : Int) from by rw [Int.natCast_pow]; rfl, Int.fdiv_eq_ediv_of_nonneg _ (Int.natCast_nonneg _)]
  rfl

theorem lab_loop {z : Bool} {t : List Lf} {v : Nat} {s4 : AV} (hv : v ≤ 3) (hl : t.length < 1099511627776) (hx : ∀ e ∈ t, e.x < 256) : ∀ d i H, i + d = t.length →
    ∃ (H' : Heap) (i' : AV), (∀ e ∈ t.drop i, e.x >>> v = 0) ∧ L.loop a99l0s a99l0 ⟨a99l0F (tw z t) (.int .i64 (v : Nat)) s4 (tw z t) (.int .i64 (t.length : Nat)) (.int .i64 (i : Nat)), H⟩ = some (.exit 1, ⟨a99l0F (tw z t) (.int .i64 (v : Nat)) s4 (tw z t) (.int .i64 (t.length : Nat)) (.int .i64 (t.length : Nat)), H'⟩)
      ∨ (¬ ∀ e ∈ t.drop i, e.x >>> v = 0) ∧ L.loop a99l0s a99l0 ⟨a99l0F (tw z t) (.int .i64 (v : Nat)) s4 (tw z t) (.int .i64 (t.length : Nat)) (.int .i64 (i : Nat)), H⟩ = some (.ret, ⟨a99l0F (tw z t) (.int .i64 (v : Nat)) (.int .i64 1) (tw z t) (.int .i64 (t.length : Nat)) i', H'⟩)
  | 0, i, H, h => by
    obtain rfl : i = t.length := by omega
    refine ⟨H, .any, .inl ⟨by rw [List.drop_length]; simp, ?_⟩⟩
    rw [a99l0n]
    simp (maxSteps := 30000000) (disch := first | assumption | omega | (simp only [List.length_cons, List.length_nil, List.length_append, List.length_set, List.length_replicate, List.length_map, List.length_range, List.length_take, List.length_drop, List.all_cons, List.all_nil, AV.isCell, Bool.and_self, Bool.and_true, bs_length, is64_length, w64_length, ints_length, lfs_length] <;> omega) | rfl | decide) only [a99l0b, run_seq, run_region, runOps_cons, oper_none, ex_bin, opv, List.getD_cons_succ, List.getD_cons_zero, bin_lss, Int.lt_irrefl, decide_false, valK_some, putK_to, List.set_cons_succ, List.set_cons_zero, opsK_some, runOps_nil, regK_some, seqK_normal, run_cond, condK_bool, Bool.false_eq_true, ↓reduceIte, run_exit, seqK_exit, loopK_exit, a99l0c]
  | d + 1, i, H, h => by
    have hlt : (i : Int) < (t.length : Nat) := by omega
    have hm := hx _ (getF_mem (by omega : i < t.length))
    have hs := shrN (t.getD i f0).x (show v ≤ IntKind.i64.bits from by show v ≤ 64; omega)
    rw [drop_getF (by omega : i < t.length)]
    by_cases c : (t.getD i f0).x >>> v = 0
    · have c' : ((((t.getD i f0).x >>> v : Nat) : Int) = 0) = True := eq_true (by omega)
      obtain ⟨H', i', ih⟩ := lab_loop (z := z) (s4 := s4) hv hl hx d (i + 1) (H ++ [.cells false false (encF (t.getD i f0))]) (by omega)
      simp only [encF] at ih
      refine ⟨H', i', ih.imp (fun q => ⟨?_, ?_⟩) (fun q => ⟨?_, ?_⟩)⟩
      · intro e he
        rcases List.mem_cons.1 he with rfl | he
        · exact c
        · exact q.1 e he
      · have q := q.2
        rw [a99l0n]
        simp (maxSteps := 30000000) (disch := first | assumption | omega | (simp only [List.length_cons, List.length_nil, List.length_append, List.length_set, List.length_replicate, List.length_map, List.length_range, List.length_take, List.length_drop, List.all_cons, List.all_nil, AV.isCell, Bool.and_self, Bool.and_true, bs_length, is64_length, w64_length, ints_length, lfs_length] <;> omega) | rfl | decide) only [a99l0b, run_seq, run_region, runOps_cons, oper_none, ex_bin, opv, List.getD_cons_succ, List.getD_cons_zero, bin_lss, hlt, decide_true, valK_some, putK_to, List.set_cons_succ, List.set_cons_zero, opsK_some, runOps_nil, regK_some, seqK_normal, run_cond, condK_bool, ↓reduceIte, run_skip, run_block, ex_iaddr, iaddrA_sl, Int.toNat_natCast, ex_load, rd_vptr, lfs_at, loadK_n, ex_box, AV.cells, List.all_cons, AV.isCell, List.all_nil, Bool.and_self, ex_store, List.length_cons, List.length_nil, Nat.zero_add, Nat.reduceAdd, wr_ptr, hget0, List.getElem?_cons_zero, wrK_cells, splice, List.take_zero, List.nil_append, List.drop_succ_cons, List.drop_nil, List.append_nil, hset0, storeK_some, putK_no, ex_faddr, faddrA_ptr, Nat.add_zero, rd_ptr, rdK_cells, List.drop_zero, List.take_succ_cons, loadK_1, ex_conv, convA_int, wr64, ex_mov, bin_shr, hs, bin_neq, c', Bool.not_true, Bool.false_eq_true, blockK_normal, bin_add, cadd1, loopK_normal, a99l0c, q]
      · intro f
        exact q.1 (fun e he => f e (List.mem_cons_of_mem _ he))
      · have q := q.2
        rw [a99l0n]
        simp (maxSteps := 30000000) (disch := first | assumption | omega | (simp only [List.length_cons, List.length_nil, List.length_append, List.length_set, List.length_replicate, List.length_map, List.length_range, List.length_take, List.length_drop, List.all_cons, List.all_nil, AV.isCell, Bool.and_self, Bool.and_true, bs_length, is64_length, w64_length, ints_length, lfs_length] <;> omega) | rfl | decide) only [a99l0b, run_seq, run_region, runOps_cons, oper_none, ex_bin, opv, List.getD_cons_succ, List.getD_cons_zero, bin_lss, hlt, decide_true, valK_some, putK_to, List.set_cons_succ, List.set_cons_zero, opsK_some, runOps_nil, regK_some, seqK_normal, run_cond, condK_bool, ↓reduceIte, run_skip, run_block, ex_iaddr, iaddrA_sl, Int.toNat_natCast, ex_load, rd_vptr, lfs_at, loadK_n, ex_box, AV.cells, List.all_cons, AV.isCell, List.all_nil, Bool.and_self, ex_store, List.length_cons, List.length_nil, Nat.zero_add, Nat.reduceAdd, wr_ptr, hget0, List.getElem?_cons_zero, wrK_cells, splice, List.take_zero, List.nil_append, List.drop_succ_cons, List.drop_nil, List.append_nil, hset0, storeK_some, putK_no, ex_faddr, faddrA_ptr, Nat.add_zero, rd_ptr, rdK_cells, List.drop_zero, List.take_succ_cons, loadK_1, ex_conv, convA_int, wr64, ex_mov, bin_shr, hs, bin_neq, c', Bool.not_true, Bool.false_eq_true, blockK_normal, bin_add, cadd1, loopK_normal, a99l0c, q]
    · have c' : ((((t.getD i f0).x >>> v : Nat) : Int) = 0) = False := eq_false (by omega)
      refine ⟨H ++ [.cells false false (encF (t.getD i f0))], .int .i64 (i : Nat), .inr ⟨fun f => c (f _ (List.mem_cons_self ..)), ?_⟩⟩
      rw [a99l0n]
      simp (maxSteps := 30000000) (disch := first | assumption | omega | (simp only [List.length_cons, List.length_nil, List.length_append, List.length_set, List.length_replicate, List.length_map, List.length_range, List.length_take, List.length_drop, List.all_cons, List.all_nil, AV.isCell, Bool.and_self, Bool.and_true, bs_length, is64_length, w64_length, ints_length, lfs_length] <;> omega) | rfl | decide) only [a99l0b, run_seq, run_region, runOps_cons, oper_none, ex_bin, opv, List.getD_cons_succ, List.getD_cons_zero, bin_lss, hlt, decide_true, valK_some, putK_to, List.set_cons_succ, List.set_cons_zero, opsK_some, runOps_nil, regK_some, seqK_normal, run_cond, condK_bool, ↓reduceIte, run_skip, run_block, ex_iaddr, iaddrA_sl, Int.toNat_natCast, ex_load, rd_vptr, lfs_at, loadK_n, ex_box, AV.cells, List.all_cons, AV.isCell, List.all_nil, Bool.and_self, ex_store, List.length_cons, List.length_nil, Nat.zero_add, Nat.reduceAdd, wr_ptr, hget0, List.getElem?_cons_zero, wrK_cells, splice, List.take_zero, List.nil_append, List.drop_succ_cons, List.drop_nil, List.append_nil, hset0, storeK_some, putK_no, ex_faddr, faddrA_ptr, Nat.add_zero, rd_ptr, rdK_cells, List.drop_zero, List.take_succ_cons, loadK_1, ex_conv, convA_int, wr64, ex_mov, bin_shr, hs, bin_neq, c', decide_false, Bool.not_false, run_ret, blockK_ret, seqK_ret, loopK_ret, a99l0c, encF]

theorem sub_cases {t : List Lf} {c : Int} {m n : Nat} {T : BT} (h : Sub t c m T n) : (c = -1 ∧ n = m ∧ T = .nil) ∨ (c = (m : Int) ∧ m < t.length) := by
  cases h with
  | none m => exact .inl ⟨rfl, rfl, rfl⟩
  | some hm _ _ => exact .inr ⟨rfl, hm⟩

theorem end_of {z : Bool} {t : List Lf} (ht : t.length < 1099511627776) {c : Int} {m n : Nat} {T : BT} (h : Sub t c m T n) : 0 ≤ c → L.pcall 114 [tw z t, .int .i64 (m : Nat)] = some (.int .i64 (n : Nat)) := by
  induction h with
  | none m => intro h; omega
  | @some m k n l r hm hl hr ihl ihr =>
    intro _
    have first : LP z t [] (t.getD m f0).l (t.getD m f0).r (.int .i64 0) ((m + 1 : Nat) : Int) 0 = LP z t [] (t.getD m f0).l (t.getD m f0).r (.int .i64 0) ((k : Nat) : Int) 1 := by
      rcases sub_cases hl with ⟨e1, e2, _⟩ | ⟨e1, e2⟩
      · subst e2
        exact endA _ (.inl ⟨rfl, rfl⟩) e1
      · exact endD (m + 1) k (.inl ⟨rfl, rfl⟩) e1 e2 (ihl (by omega))
    have second : LP z t [] (t.getD m f0).l (t.getD m f0).r (.int .i64 0) ((k : Nat) : Int) 1 = LP z t [] (t.getD m f0).l (t.getD m f0).r (.int .i64 0) ((n : Nat) : Int) 2 := by
      rcases sub_cases hr with ⟨e1, e2, _⟩ | ⟨e1, e2⟩
      · subst e2
        exact endA _ (.inr ⟨rfl, rfl⟩) e1
      · exact endD k n (.inr ⟨rfl, rfl⟩) e1 e2 (ihr (by omega))
    exact end_exit ht hm (by rw [first, second]; exact end2 _)

open Classical in
noncomputable def formedB (t : List Lf) : Bool := decide (∃ T, Formed t T)
open Classical in
theorem formedB_iff {t : List Lf} : formedB t = true ↔ ∃ T, Formed t T := by unfold formedB; rw [decide_eq_true_eq]

theorem formed_yes (z : Bool) {t : List Lf} {T : BT} (ht : t.length < 1099511627776) (h : Formed t T) : L.pcall 91 [tw z t] = some (.bool true) := by
  have e : (((t.length : Nat) : Int) ≤ 31) = (t.length ≤ 31) := propext ⟨fun h => by omega, fun h => by omega⟩
  rcases h with ⟨rfl, rfl⟩ | ⟨h31, hS⟩
  · have h0' : (((([] : List Lf).length : Nat) : Int) = 0) = True := eq_true (by simp)
    rw [a91p, a91, pbodyA_eq]
    simp (maxSteps := 30000000) (disch := first | assumption | omega | (simp only [List.length_cons, List.length_nil, List.length_append, List.length_set, List.length_replicate, List.length_map, List.length_range, List.length_take, List.length_drop, List.all_cons, List.all_nil, AV.isCell, Bool.and_self, Bool.and_true, bs_length, is64_length, w64_length, ints_length, lfs_length] <;> omega) | rfl | decide) only [bodyA_eq, List.length_cons, List.length_nil, Nat.zero_add, Nat.reduceSub, pads, List.cons_append, List.nil_append, run_seq, run_region, runOps_cons, oper_none, ex_mov, opv, putK_to, List.set_cons_succ, List.set_cons_zero, opsK_some, runOps_nil, regK_some, seqK_normal, List.getD_cons_zero, ex_len, List.getD_cons_succ, lenA_sl, castLit, valK_some, ex_bin, bin_eql, decide_true, oper_guard, guardK_bool, Bool.true_eq_false, ↓reduceIte, putA_to, guardK_tup, ex_pick, pickA_bool, run_ret, bodyK_ret, results_1, res_tmp, retvK_some, pbodyK_some, frzN, frz_bool]
  · have q := end_of (z := z) ht hS (by omega)
    have hpos : ¬ t.length = 0 := by
      intro h0
      rcases sub_cases hS with ⟨h, _⟩ | ⟨_, h⟩ <;> omega
    have h0' : (((t.length : Nat) : Int) = 0) = False := eq_false (by omega)
    have h2 : (((t.length : Nat) : Int) = (t.length : Nat)) = True := eq_true rfl
    simp only [Int.natCast_zero] at q
    rw [a91p, a91, pbodyA_eq]
    simp (maxSteps := 30000000) (disch := first | assumption | omega | (simp only [List.length_cons, List.length_nil, List.length_append, List.length_set, List.length_replicate, List.length_map, List.length_range, List.length_take, List.length_drop, List.all_cons, List.all_nil, AV.isCell, Bool.and_self, Bool.and_true, bs_length, is64_length, w64_length, ints_length, lfs_length] <;> omega) | rfl | decide) only [bodyA_eq, List.length_cons, List.length_nil, Nat.zero_add, Nat.reduceSub, pads, List.cons_append, List.nil_append, run_seq, run_region, runOps_cons, oper_none, ex_mov, opv, putK_to, List.set_cons_succ, List.set_cons_zero, opsK_some, runOps_nil, regK_some, seqK_normal, List.getD_cons_zero, ex_len, List.getD_cons_succ, lenA_sl, valK_some, ex_bin, bin_eql, h0', decide_false, oper_guard, guardK_bool, ↓reduceIte, bin_leq, e, h31, decide_true, ex_call, List.map_cons, List.map_nil, pcallA_eq, frzN, List.mapM_cons, frz_sl, frz_int, List.mapM_nil, Option.pure_def, Option.bind_eq_bind, Option.bind_some, argK_some, q, retK_some, scal, scal1, ex_pick, pickA_bool, Bool.false_eq_true, run_ret, bodyK_ret, results_1, res_tmp, retvK_some, pbodyK_some, frz_bool]

theorem formed_eq (z : Bool) (t : List Lf) (ht : t.length < 1099511627776) : L.pcall 91 [tw z t] = some (.bool (formedB t)) := by
  cases h : formedB t with
  | true =>
    obtain ⟨T, hT⟩ := formedB_iff.1 h
    exact formed_yes z ht hT
  | false =>
    rcases formed_ex z t ht with q | ⟨_, q⟩
    · exact q
    · rw [formedB_iff.2 q] at h; cases h

def labOk (t : List Lf) (v : Nat) : Bool := t.all fun e => decide (e.x >>> v = 0)
theorem labOk_iff {t : List Lf} {v : Nat} : labOk t v = true ↔ ∀ e ∈ t, e.x >>> v = 0 := by simp [labOk]
noncomputable def tchkE (t : List Lf) (v : Nat) : Int := if 31 < t.length then 4 else if labOk t v = true then (if formedB t = true then 0 else 2) else 1

theorem tcheck_eq (z : Bool) (t : List Lf) (v : Nat) (hv : v ≤ 3) (hl : t.length < 1099511627776) (hx : ∀ e ∈ t, e.x < 256) :
    L.pcall 99 [tw z t, .int .i64 (v : Nat)] = some (.int .i64 (tchkE t v)) := by
  have hv3 : ¬ ((3 : Int) < (v : Nat)) := by omega
  have e31 : ((31 : Int) < (t.length : Nat)) = (31 < t.length) := propext ⟨fun h => by omega, fun h => by omega⟩
  have q := formed_eq z t hl
  unfold tchkE
  by_cases c : 31 < t.length
  · rw [if_pos c, a99p, a99, pbodyA_eq]
    simp (maxSteps := 30000000) (disch := first | assumption | omega | (simp only [List.length_cons, List.length_nil, List.length_append, List.length_set, List.length_replicate, List.length_map, List.length_range, List.length_take, List.length_drop, List.all_cons, List.all_nil, AV.isCell, Bool.and_self, Bool.and_true, bs_length, is64_length, w64_length, ints_length, lfs_length] <;> omega) | rfl | decide) only [bodyA_eq, List.length_cons, List.length_nil, Nat.zero_add, Nat.reduceAdd, Nat.reduceSub, pads, List.cons_append, List.nil_append, run_seq, run_region, runOps_cons, oper_none, ex_mov, opv, putK_to, List.set_cons_succ, List.set_cons_zero, opsK_some, runOps_nil, regK_some, seqK_normal, run_block, List.getD_cons_succ, List.getD_cons_zero, ex_bin, bin_lss, ltc0, decide_false, valK_some, oper_guard, guardK_bool, ↓reduceIte, bin_gtr, hv3, ex_pick, pickA_bool, Bool.false_eq_true, run_cond, condK_bool, ex_len, lenA_sl, e31, c, decide_true, run_ret, blockK_ret, seqK_ret, bodyK_ret, results_1, res_tmp, retvK_some, pbodyK_some, frzN, frz_int]
  · rw [if_neg c]
    obtain ⟨H', i', g⟩ := lab_loop (z := z) (s4 := .int .i64 0) hv hl hx t.length 0 [] (by omega)
    simp only [Int.natCast_zero, List.drop_zero] at g
    rcases g with ⟨g1, g⟩ | ⟨g1, g⟩
    · rw [if_pos (labOk_iff.2 g1)]
      cases hf : formedB t with
      | false =>
        rw [hf] at q
        rw [if_neg (by simp), a99p, a99, pbodyA_eq]
        simp (maxSteps := 30000000) (disch := first | assumption | omega | (simp only [List.length_cons, List.length_nil, List.length_append, List.length_set, List.length_replicate, List.length_map, List.length_range, List.length_take, List.length_drop, List.all_cons, List.all_nil, AV.isCell, Bool.and_self, Bool.and_true, bs_length, is64_length, w64_length, ints_length, lfs_length] <;> omega) | rfl | decide) only [bodyA_eq, List.length_cons, List.length_nil, Nat.zero_add, Nat.reduceAdd, Nat.reduceSub, pads, List.cons_append, List.nil_append, run_seq, run_region, runOps_cons, oper_none, ex_mov, opv, putK_to, List.set_cons_succ, List.set_cons_zero, opsK_some, runOps_nil, regK_some, seqK_normal, run_block, List.getD_cons_succ, List.getD_cons_zero, ex_bin, bin_lss, ltc0, decide_false, valK_some, oper_guard, guardK_bool, ↓reduceIte, bin_gtr, hv3, ex_pick, pickA_bool, Bool.false_eq_true, run_cond, condK_bool, ex_len, lenA_sl, e31, c, run_skip, blockK_normal, run_loop, a99l0c, g, blockK_exit, ex_call, List.map_cons, List.map_nil, pcallA_eq, frzN, List.mapM_cons, frz_sl, List.mapM_nil, Option.pure_def, Option.bind_eq_bind, Option.bind_some, argK_some, q, retK_some, scal, scal1, ex_un, un_not, Bool.not_false, run_ret, seqK_ret, bodyK_ret, results_1, res_tmp, retvK_some, pbodyK_some, frz_int]
      | true =>
        rw [hf] at q
        rw [if_pos rfl, a99p, a99, pbodyA_eq]
        simp (maxSteps := 30000000) (disch := first | assumption | omega | (simp only [List.length_cons, List.length_nil, List.length_append, List.length_set, List.length_replicate, List.length_map, List.length_range, List.length_take, List.length_drop, List.all_cons, List.all_nil, AV.isCell, Bool.and_self, Bool.and_true, bs_length, is64_length, w64_length, ints_length, lfs_length] <;> omega) | rfl | decide) only [bodyA_eq, List.length_cons, List.length_nil, Nat.zero_add, Nat.reduceAdd, Nat.reduceSub, pads, List.cons_append, List.nil_append, run_seq, run_region, runOps_cons, oper_none, ex_mov, opv, putK_to, List.set_cons_succ, List.set_cons_zero, opsK_some, runOps_nil, regK_some, seqK_normal, run_block, List.getD_cons_succ, List.getD_cons_zero, ex_bin, bin_lss, ltc0, decide_false, valK_some, oper_guard, guardK_bool, ↓reduceIte, bin_gtr, hv3, ex_pick, pickA_bool, Bool.false_eq_true, run_cond, condK_bool, ex_len, lenA_sl, e31, c, run_skip, blockK_normal, run_loop, a99l0c, g, blockK_exit, ex_call, List.map_cons, List.map_nil, pcallA_eq, frzN, List.mapM_cons, frz_sl, List.mapM_nil, Option.pure_def, Option.bind_eq_bind, Option.bind_some, argK_some, q, retK_some, scal, scal1, ex_un, un_not, Bool.not_true, run_ret, bodyK_ret, results_1, res_tmp, retvK_some, pbodyK_some, frz_int]
    · rw [if_neg (fun h => g1 (labOk_iff.1 h)), a99p, a99, pbodyA_eq]
      simp (maxSteps := 30000000) (disch := first | assumption | omega | (simp only [List.length_cons, List.length_nil, List.length_append, List.length_set, List.length_replicate, List.length_map, List.length_range, List.length_take, List.length_drop, List.all_cons, List.all_nil, AV.isCell, Bool.and_self, Bool.and_true, bs_length, is64_length, w64_length, ints_length, lfs_length] <;> omega) | rfl | decide) only [bodyA_eq, List.length_cons, List.length_nil, Nat.zero_add, Nat.reduceAdd, Nat.reduceSub, pads, List.cons_append, List.nil_append, run_seq, run_region, runOps_cons, oper_none, ex_mov, opv, putK_to, List.set_cons_succ, List.set_cons_zero, opsK_some, runOps_nil, regK_some, seqK_normal, run_block, List.getD_cons_succ, List.getD_cons_zero, ex_bin, bin_lss, ltc0, decide_false, valK_some, oper_guard, guardK_bool, ↓reduceIte, bin_gtr, hv3, ex_pick, pickA_bool, Bool.false_eq_true, run_cond, condK_bool, ex_len, lenA_sl, e31, c, run_skip, blockK_normal, run_loop, a99l0c, g, blockK_ret, seqK_ret, bodyK_ret, results_1, res_tmp, retvK_some, pbodyK_some, frzN, frz_int]

end Go.Abs.Det
