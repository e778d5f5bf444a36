/- The loops of TreeautTrims. -/
import Derived.Test.YtijmhicopfphnaaDoorAL36
namespace Go.Abs.Tree
open Go Go.Abs
set_option linter.unusedSimpArgs false
set_option linter.unusedVariables false

theorem rls_a0 {l : List Rl} {i : Nat} (h : i < l.length) : List.take 1 (List.drop (i * 5) (rls l)) = [.int .i64 (l.getD i r0).l] := by
  have := congrArg (List.take 1) (rls_at h)
  rw [List.take_take] at this
  exact this
theorem rls_a1 {l : List Rl} {i : Nat} (h : i < l.length) : List.take 1 (List.drop (i * 5 + 1) (rls l)) = [.int .i64 (l.getD i r0).r] := by
  have := congrArg (fun x => List.take 1 (List.drop 1 x)) (rls_at h)
  simp only [List.drop_take, List.drop_drop, List.take_take] at this
  exact this

def usedB (s : Int) (e : Rl) : Bool := decide (e.l = s) || decide (e.r = s)

section
variable {b0 b1 b3 : Blk} {s13 s14 s15 s16 : AV}
set_option maxRecDepth 20000 in
theorem used_loop {B : Aut} {s : Int} (hl : B.rl.length < 1099511627776) : ∀ d i u, i + d = B.rl.length →
    L.loop a9l0s a9l0 ⟨a9l0F (.ptr 2 0) s13 s14 s15 s16 (.int .i64 s) (.bool u) (.int .i64 (i : Nat)), [b0, b1, .cells false false B.cells, b3]⟩ =
      some (.exit 2, ⟨a9l0F (.ptr 2 0) s13 s14 s15 s16 (.int .i64 s) (.bool (u || (B.rl.drop i).any (usedB s))) (.int .i64 (B.rl.length : Nat)), [b0, b1, .cells false false B.cells, b3]⟩)
  | 0, i, u, h => by
    obtain rfl : i = B.rl.length := by omega
    rw [List.drop_length, List.any_nil, Bool.or_false, a9l0n]
    simp (maxSteps := 30000000) (disch := first | assumption | omega | (simp only [List.length_cons, List.length_nil, List.length_append, List.length_set, List.length_replicate, List.length_map, List.length_range, List.length_take, List.length_drop, List.all_cons, List.all_nil, AV.isCell, Bool.and_self, Bool.and_true, bs_length, is64_length, w64_length, ints_length, rls_length] <;> omega) | rfl | decide) only [a9l0b, run_seq, run_region, runOps_cons, oper_none, ex_mov, opv, List.getD_cons_succ, List.getD_cons_zero, putK_to, List.set_cons_succ, List.set_cons_zero, opsK_some, ex_faddr, faddrA_ptr, Nat.zero_add, valK_some, ex_load, rd_ptr, List.getElem?_cons_succ, List.getElem?_cons_zero, rdK_cells, List.drop_succ_cons, List.drop_zero, List.take_succ_cons, List.take_nil, loadK_1, ex_len, lenA_sl, ex_bin, bin_lss, Int.lt_irrefl, decide_false, runOps_nil, regK_some, seqK_normal, run_cond, condK_bool, Bool.false_eq_true, ↓reduceIte, run_exit, seqK_exit, loopK_exit, a9l0c]
  | d + 1, i, u, h => by
    have hlt : (i : Int) < (B.rl.length : Nat) := by omega
    have hi : i < B.rl.length := by omega
    rw [drop_getR hi, List.any_cons, ← Bool.or_assoc, a9l0n]
    cases u with
    | true =>
      have ih := used_loop (s := s) hl d (i + 1) true (by omega)
      rw [Bool.true_or] at ih ⊢
      simp (maxSteps := 30000000) (disch := first | assumption | omega | (simp only [List.length_cons, List.length_nil, List.length_append, List.length_set, List.length_replicate, List.length_map, List.length_range, List.length_take, List.length_drop, List.all_cons, List.all_nil, AV.isCell, Bool.and_self, Bool.and_true, bs_length, is64_length, w64_length, ints_length, rls_length] <;> omega) | rfl | decide) only [a9l0b, run_seq, run_region, runOps_cons, oper_none, ex_mov, opv, List.getD_cons_succ, List.getD_cons_zero, putK_to, List.set_cons_succ, List.set_cons_zero, opsK_some, ex_faddr, faddrA_ptr, Nat.zero_add, valK_some, ex_load, rd_ptr, List.getElem?_cons_succ, List.getElem?_cons_zero, rdK_cells, List.drop_succ_cons, List.drop_zero, List.take_succ_cons, List.take_nil, loadK_1, ex_len, lenA_sl, ex_bin, bin_lss, hlt, decide_true, runOps_nil, regK_some, seqK_normal, run_cond, condK_bool, ↓reduceIte, run_skip, run_block, oper_guard, guardK_bool, Bool.true_eq_false, putA_to, ex_pick, pickA_bool, blockK_normal, bin_add, cadd1, wr64, loopK_normal, a9l0c, ih, Bool.true_or]
    | false =>
      have ih := used_loop (s := s) hl d (i + 1) (usedB s (B.rl.getD i r0)) (by omega)
      rw [Bool.false_or]
      unfold usedB at ih ⊢
      by_cases c1 : (B.rl.getD i r0).l = s
      · have e1 : ((B.rl.getD i r0).l = s) = True := eq_true c1
        simp only [e1, decide_true, Bool.true_or] at ih ⊢
        simp (maxSteps := 30000000) (disch := first | assumption | omega | (simp only [List.length_cons, List.length_nil, List.length_append, List.length_set, List.length_replicate, List.length_map, List.length_range, List.length_take, List.length_drop, List.all_cons, List.all_nil, AV.isCell, Bool.and_self, Bool.and_true, bs_length, is64_length, w64_length, ints_length, rls_length] <;> omega) | rfl | decide) only [a9l0b, run_seq, run_region, runOps_cons, oper_none, ex_mov, opv, List.getD_cons_succ, List.getD_cons_zero, putK_to, List.set_cons_succ, List.set_cons_zero, opsK_some, ex_faddr, faddrA_ptr, Nat.zero_add, valK_some, ex_load, rd_ptr, List.getElem?_cons_succ, List.getElem?_cons_zero, rdK_cells, List.drop_succ_cons, List.drop_zero, List.take_succ_cons, List.take_nil, loadK_1, ex_len, lenA_sl, ex_bin, bin_lss, hlt, decide_true, runOps_nil, regK_some, seqK_normal, run_cond, condK_bool, ↓reduceIte, run_skip, run_block, oper_guard, guardK_bool, ex_iaddr, iaddrA_sl, Int.toNat_natCast, faddrA_vptr, Nat.add_zero, rd_vptr, rls_a0, bin_eql, e1, ex_pick, pickA_bool, Bool.false_eq_true, Bool.true_eq_false, putA_to, blockK_normal, bin_add, cadd1, wr64, loopK_normal, a9l0c, ih]
      · have e1 : ((B.rl.getD i r0).l = s) = False := eq_false c1
        by_cases c2 : (B.rl.getD i r0).r = s
        · have e2 : ((B.rl.getD i r0).r = s) = True := eq_true c2
          simp only [e1, e2, decide_true, decide_false, Bool.false_or, Bool.true_or] at ih ⊢
          simp (maxSteps := 30000000) (disch := first | assumption | omega | (simp only [List.length_cons, List.length_nil, List.length_append, List.length_set, List.length_replicate, List.length_map, List.length_range, List.length_take, List.length_drop, List.all_cons, List.all_nil, AV.isCell, Bool.and_self, Bool.and_true, bs_length, is64_length, w64_length, ints_length, rls_length] <;> omega) | rfl | decide) only [a9l0b, run_seq, run_region, runOps_cons, oper_none, ex_mov, opv, List.getD_cons_succ, List.getD_cons_zero, putK_to, List.set_cons_succ, List.set_cons_zero, opsK_some, ex_faddr, faddrA_ptr, Nat.zero_add, valK_some, ex_load, rd_ptr, List.getElem?_cons_succ, List.getElem?_cons_zero, rdK_cells, List.drop_succ_cons, List.drop_zero, List.take_succ_cons, List.take_nil, loadK_1, ex_len, lenA_sl, ex_bin, bin_lss, hlt, decide_true, runOps_nil, regK_some, seqK_normal, run_cond, condK_bool, ↓reduceIte, run_skip, run_block, oper_guard, guardK_bool, ex_iaddr, iaddrA_sl, Int.toNat_natCast, faddrA_vptr, Nat.add_zero, rd_vptr, rls_a0, bin_eql, e1, decide_false, ex_pick, pickA_bool, Bool.false_eq_true, rls_a1, e2, blockK_normal, bin_add, cadd1, wr64, loopK_normal, a9l0c, ih]
        · have e2 : ((B.rl.getD i r0).r = s) = False := eq_false c2
          simp only [e1, e2, decide_false, Bool.false_or] at ih ⊢
          simp (maxSteps := 30000000) (disch := first | assumption | omega | (simp only [List.length_cons, List.length_nil, List.length_append, List.length_set, List.length_replicate, List.length_map, List.length_range, List.length_take, List.length_drop, List.all_cons, List.all_nil, AV.isCell, Bool.and_self, Bool.and_true, bs_length, is64_length, w64_length, ints_length, rls_length] <;> omega) | rfl | decide) only [a9l0b, run_seq, run_region, runOps_cons, oper_none, ex_mov, opv, List.getD_cons_succ, List.getD_cons_zero, putK_to, List.set_cons_succ, List.set_cons_zero, opsK_some, ex_faddr, faddrA_ptr, Nat.zero_add, valK_some, ex_load, rd_ptr, List.getElem?_cons_succ, List.getElem?_cons_zero, rdK_cells, List.drop_succ_cons, List.drop_zero, List.take_succ_cons, List.take_nil, loadK_1, ex_len, lenA_sl, ex_bin, bin_lss, hlt, decide_true, runOps_nil, regK_some, seqK_normal, run_cond, condK_bool, ↓reduceIte, run_skip, run_block, oper_guard, guardK_bool, ex_iaddr, iaddrA_sl, Int.toNat_natCast, faddrA_vptr, Nat.add_zero, rd_vptr, rls_a0, bin_eql, e1, decide_false, ex_pick, pickA_bool, Bool.false_eq_true, rls_a1, e2, blockK_normal, bin_add, cadd1, wr64, loopK_normal, a9l0c, ih]

set_option maxRecDepth 20000 in
theorem all_used {B : Aut} {R : Nat} (hs : B.states = (R : Nat)) (hR : R ≤ 64) (hl : B.rl.length < 1099511627776) (hf : B.fi.length < 1099511627776) (hu : ∀ j, j < R → (B.fi.contains (j : Int) || B.rl.any (usedB (j : Int))) = true) : ∀ d i (s4 : AV), i + d = R →
    ∃ s4', L.loop a9l1s a9l1 ⟨a9l1F s4 (.ptr 2 0) s13 s14 s15 s16 (.int .i64 (i : Nat)), [b0, b1, .cells false false B.cells, b3]⟩ =
      some (.exit 0, ⟨a9l1F s4' (.ptr 2 0) s13 s14 s15 s16 (.int .i64 (R : Nat)), [b0, b1, .cells false false B.cells, b3]⟩)
  | 0, i, s4, h => by
    obtain rfl : i = R := by omega
    have hn : ¬ ((i : Int) < (i : Nat)) := by omega
    refine ⟨s4, ?_⟩
    rw [a9l1n]
    simp (maxSteps := 30000000) (disch := first | assumption | omega | (simp only [List.length_cons, List.length_nil, List.length_append, List.length_set, List.length_replicate, List.length_map, List.length_range, List.length_take, List.length_drop, List.all_cons, List.all_nil, AV.isCell, Bool.and_self, Bool.and_true, bs_length, is64_length, w64_length, ints_length, rls_length] <;> omega) | rfl | decide) only [a9l1b, run_seq, run_region, runOps_cons, oper_none, ex_mov, opv, List.getD_cons_succ, List.getD_cons_zero, putK_to, List.set_cons_succ, List.set_cons_zero, opsK_some, ex_faddr, faddrA_ptr, Nat.zero_add, valK_some, ex_load, rd_ptr, List.getElem?_cons_succ, List.getElem?_cons_zero, rdK_cells, List.drop_succ_cons, hs, List.drop_zero, List.take_succ_cons, List.take_zero, loadK_1, ex_bin, bin_lss, Int.lt_irrefl, decide_false, runOps_nil, regK_some, seqK_normal, run_cond, condK_bool, Bool.false_eq_true, ↓reduceIte, run_exit, seqK_exit, loopK_exit, a9l1c]
  | d + 1, i, s4, h => by
    have hlt : (i : Int) < (R : Nat) := by omega
    obtain ⟨s4', ih⟩ := all_used hs hR hl hf hu d (i + 1) .any (by omega)
    refine ⟨s4', ?_⟩
    have h1 := hasInt38 B.z2 B.fi (i : Int) hf
    have h2 := used_loop (b0 := b0) (b1 := b1) (b3 := b3) (s13 := s13) (s14 := s14) (s15 := s15) (s16 := s16) (s := (i : Int)) hl B.rl.length 0 (B.fi.contains (i : Int)) (by omega)
    simp only [Int.natCast_zero, List.drop_zero] at h2
    rw [hu i (by omega)] at h2
    rw [a9l1n]
    simp (maxSteps := 30000000) (disch := first | assumption | omega | (simp only [List.length_cons, List.length_nil, List.length_append, List.length_set, List.length_replicate, List.length_map, List.length_range, List.length_take, List.length_drop, List.all_cons, List.all_nil, AV.isCell, Bool.and_self, Bool.and_true, bs_length, is64_length, w64_length, ints_length, rls_length] <;> omega) | rfl | decide) only [a9l1b, run_seq, run_region, runOps_cons, oper_none, ex_mov, opv, List.getD_cons_succ, List.getD_cons_zero, putK_to, List.set_cons_succ, List.set_cons_zero, opsK_some, ex_faddr, faddrA_ptr, Nat.zero_add, valK_some, ex_load, rd_ptr, List.getElem?_cons_succ, List.getElem?_cons_zero, rdK_cells, List.drop_succ_cons, hs, List.drop_zero, List.take_succ_cons, List.take_zero, loadK_1, ex_bin, bin_lss, hlt, decide_true, runOps_nil, regK_some, seqK_normal, run_cond, condK_bool, ↓reduceIte, run_skip, run_block, ex_call, List.map_cons, List.map_nil, pcallA_eq, frzN, List.mapM_cons, frz_sl, frz_int, List.mapM_nil, Option.pure_def, Option.bind_eq_bind, Option.bind_some, argK_some, h1, retK_some, scal, scal1, run_loop, a9l0c, h2, blockK_exit, ex_un, un_not, Bool.not_true, Bool.false_eq_true, blockK_normal, bin_add, cadd1, wr64, loopK_normal, a9l1c, ih]
end
end Go.Abs.Tree
