/- Reachable. -/
import Derived.Test.YtijmhicopfphnaaDoorAL8
namespace Go.Abs.Tree
open Go Go.Abs
set_option linter.unusedSimpArgs false
set_option linter.unusedVariables false

/-- one pass over the rules -/
def passM (s : Nat) : List Rl → Nat
  | [] => s
  | u :: t => passM (if (s.testBit u.l.toNat && s.testBit u.r.toNat) = true then s ||| 2 ^ u.t.toNat else s) t

theorem passM_lt : ∀ (l : List Rl) (s : Nat), s < 18446744073709551616 → RlOk l → passM s l < 18446744073709551616
  | [], s, h, _ => h
  | u :: t, s, h, hb => by
    have hu := hb u (List.mem_cons_self ..)
    refine passM_lt t _ ?_ (fun e he => hb e (List.mem_cons_of_mem _ he))
    split
    · exact or_lt h (pow64 (by omega))
    · exact h
theorem passM_sub : ∀ (l : List Rl) (s j : Nat), s.testBit j = true → (passM s l).testBit j = true
  | [], s, j, h => h
  | u :: t, s, j, h => passM_sub t _ j (by split <;> simp [h])

theorem and3 {s a b : Nat} : (s >>> a &&& s >>> b) &&& 1 = if (s.testBit a && s.testBit b) = true then 1 else 0 := by
  have h : ((s >>> a &&& s >>> b) &&& 1) = (s >>> a &&& s >>> b) % 2 := Nat.and_one_is_mod _
  have ht : (s >>> a &&& s >>> b).testBit 0 = (s.testBit a && s.testBit b) := by
    rw [Nat.testBit_and, Nat.testBit_shiftRight, Nat.testBit_shiftRight, Nat.add_zero, Nat.add_zero]
  rw [h]
  rw [Nat.testBit_zero] at ht
  rw [← ht]
  by_cases c : (s >>> a &&& s >>> b) % 2 = 1
  · rw [c]; simp
  · have : (s >>> a &&& s >>> b) % 2 = 0 := by omega
    rw [this]; simp

theorem pass_loop {z : Bool} {rl : List Rl} (hl : rl.length < 1099511627776) (hb : RlOk rl) : ∀ d i s G, i + d = rl.length → s < 18446744073709551616 →
    ∃ X, L.loop a87l0s a87l0 ⟨a87l0F (.int .u64 (s : Nat)) (.sl z rl.length (rls rl)) (.int .i64 (rl.length : Nat)) (.int .i64 (i : Nat)), G⟩ =
      some (.exit 0, ⟨a87l0F (.int .u64 (passM s (rl.drop i) : Nat)) (.sl z rl.length (rls rl)) (.int .i64 (rl.length : Nat)) (.int .i64 (rl.length : Nat)), G ++ X⟩)
  | 0, i, s, G, h, hs => by
    obtain rfl : i = rl.length := by omega
    refine ⟨[], ?_⟩
    rw [List.drop_length, passM, a87l0n, List.append_nil]
    simp (maxSteps := 30000000) (disch := first | assumption | omega | (simp only [List.length_cons, List.length_nil, List.length_append, List.length_set, List.length_replicate, List.length_map, List.length_range, List.length_take, List.length_drop, List.all_cons, List.all_nil, AV.isCell, Bool.and_self, Bool.and_true, bs_length, is64_length, w64_length, ints_length, lfs_length, rls_length] <;> omega) | rfl | decide) only [a87l0b, run_seq, run_region, runOps_cons, oper_none, ex_bin, opv, List.getD_cons_succ, List.getD_cons_zero, bin_lss, Int.lt_irrefl, decide_false, valK_some, putK_to, List.set_cons_succ, List.set_cons_zero, opsK_some, runOps_nil, regK_some, seqK_normal, run_cond, condK_bool, Bool.false_eq_true, run_skip, run_exit, if_false, seqK_exit, loopK_exit, a87l0c]
  | d + 1, i, s, G, h, hs => by
    have hlt : (i : Int) < (rl.length : Nat) := by omega
    obtain ⟨⟨l0, l1⟩, ⟨r0', r1⟩, ⟨t0, t1⟩, p1, n1⟩ := hb _ (getR_mem (by omega : i < rl.length))
    have hsl := shrN s (show (rl.getD i r0).l.toNat ≤ IntKind.u64.bits from by show _ ≤ 64; omega)
    have hsr := shrN s (show (rl.getD i r0).r.toNat ≤ IntKind.u64.bits from by show _ ≤ 64; omega)
    have sh : ∀ a, s >>> a < 18446744073709551616 := fun a => Nat.lt_of_le_of_lt (by rw [Nat.shiftRight_eq_div_pow]; exact Nat.div_le_self ..) hs
    have ha1 := and64 (sh (rl.getD i r0).l.toNat) (sh (rl.getD i r0).r.toNat)
    have ha2 := and64 (Nat.lt_of_le_of_lt Nat.and_le_left (sh (rl.getD i r0).l.toNat) : s >>> (rl.getD i r0).l.toNat &&& s >>> (rl.getD i r0).r.toNat < 18446744073709551616) (show 1 < 18446744073709551616 by omega)
    rw [and3, show ((1 : Nat) : Int) = 1 from rfl] at ha2
    have hp := pow64 (show (rl.getD i r0).t.toNat < 64 by omega)
    rw [drop_getR (by omega : i < rl.length), passM]
    by_cases c : (s.testBit (rl.getD i r0).l.toNat && s.testBit (rl.getD i r0).r.toNat) = true
    · rw [if_pos c] at ha2 ⊢
      have hs2 := shl64 (show (rl.getD i r0).t.toNat < 64 by omega)
      have ho := or64 hs hp
      obtain ⟨X, ih⟩ := pass_loop (z := z) hl hb d (i + 1) (s ||| 2 ^ (rl.getD i r0).t.toNat) (G ++ [.cells false false (encR (rl.getD i r0))]) (by omega) (or_lt hs hp)
      refine ⟨.cells false false (encR (rl.getD i r0)) :: X, ?_⟩
      simp only [encR, List.append_assoc, List.cons_append, List.nil_append] at ih ⊢
      simp only [Int.natCast_one] at ha2
      rw [a87l0n]
      simp (maxSteps := 30000000) (disch := first | assumption | omega | (simp only [List.length_cons, List.length_nil, List.length_append, List.length_set, List.length_replicate, List.length_map, List.length_range, List.length_take, List.length_drop, List.all_cons, List.all_nil, AV.isCell, Bool.and_self, Bool.and_true, bs_length, is64_length, w64_length, ints_length, lfs_length, rls_length] <;> omega) | rfl | decide) only [a87l0b, run_seq, run_region, runOps_cons, oper_none, ex_bin, opv, List.getD_cons_succ, List.getD_cons_zero, bin_lss, hlt, decide_true, valK_some, putK_to, List.set_cons_succ, List.set_cons_zero, opsK_some, runOps_nil, regK_some, seqK_normal, run_cond, condK_bool, run_skip, run_exit, if_true, run_block, ex_iaddr, iaddrA_sl, Int.toNat_natCast, ex_load, rd_vptr, rls_at, loadK_n, ex_box, AV.cells, List.all_cons, AV.isCell, List.all_nil, Bool.and_self, ex_store, List.length_cons, List.length_nil, Nat.zero_add, Nat.reduceAdd, wr_ptr, hget0, List.getElem?_cons_zero, wrK_cells, splice, List.take_zero, List.nil_append, List.drop_succ_cons, List.drop_nil, List.append_nil, hset0, storeK_some, putK_no, run_draw, List.take_succ_cons, runFree_cons, foper_none, fe_mov, ex_mov, fstK_some, fputK_to, freeK_some, fe_faddr, ex_faddr, faddrA_ptr, Nat.add_zero, fe_load, rd_ptr, rdK_cells, List.drop_zero, loadK_1, fe_bin, bin_shr, hsl, hsr, bin_and, ha1, ha2, runFree_nil, drawK_some, adopt, adoptVal, bin_shl, hs2, bin_or, ho, blockK_normal, bin_add, cadd1, wr64, loopK_normal, a87l0c, ih]
    · rw [if_neg c] at ha2 ⊢
      have hs2 : IntKind.u64.wrap (0 * 2 ^ min (rl.getD i r0).t.toNat IntKind.u64.bits) = 0 := by rw [Int.zero_mul]; rfl
      have ho := or64 hs (show 0 < 18446744073709551616 by omega)
      rw [Nat.or_zero, Int.natCast_zero] at ho
      obtain ⟨X, ih⟩ := pass_loop (z := z) hl hb d (i + 1) s (G ++ [.cells false false (encR (rl.getD i r0))]) (by omega) hs
      refine ⟨.cells false false (encR (rl.getD i r0)) :: X, ?_⟩
      simp only [encR, List.append_assoc, List.cons_append, List.nil_append] at ih ⊢
      simp only [Int.natCast_zero] at ha2
      rw [a87l0n]
      simp (maxSteps := 30000000) (disch := first | assumption | omega | (simp only [List.length_cons, List.length_nil, List.length_append, List.length_set, List.length_replicate, List.length_map, List.length_range, List.length_take, List.length_drop, List.all_cons, List.all_nil, AV.isCell, Bool.and_self, Bool.and_true, bs_length, is64_length, w64_length, ints_length, lfs_length, rls_length] <;> omega) | rfl | decide) only [a87l0b, run_seq, run_region, runOps_cons, oper_none, ex_bin, opv, List.getD_cons_succ, List.getD_cons_zero, bin_lss, hlt, decide_true, valK_some, putK_to, List.set_cons_succ, List.set_cons_zero, opsK_some, runOps_nil, regK_some, seqK_normal, run_cond, condK_bool, run_skip, run_exit, if_true, run_block, ex_iaddr, iaddrA_sl, Int.toNat_natCast, ex_load, rd_vptr, rls_at, loadK_n, ex_box, AV.cells, List.all_cons, AV.isCell, List.all_nil, Bool.and_self, ex_store, List.length_cons, List.length_nil, Nat.zero_add, Nat.reduceAdd, wr_ptr, hget0, List.getElem?_cons_zero, wrK_cells, splice, List.take_zero, List.nil_append, List.drop_succ_cons, List.drop_nil, List.append_nil, hset0, storeK_some, putK_no, run_draw, List.take_succ_cons, runFree_cons, foper_none, fe_mov, ex_mov, fstK_some, fputK_to, freeK_some, fe_faddr, ex_faddr, faddrA_ptr, Nat.add_zero, fe_load, rd_ptr, rdK_cells, List.drop_zero, loadK_1, fe_bin, bin_shr, hsl, hsr, bin_and, ha1, ha2, runFree_nil, drawK_some, adopt, adoptVal, bin_shl, hs2, bin_or, ho, blockK_normal, bin_add, cadd1, wr64, loopK_normal, a87l0c, ih]
end Go.Abs.Tree
