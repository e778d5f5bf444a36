/- Reachable. -/
import Derived.Test.YtijmhicopfphnaaDoorAL8
namespace Go.Abs.Tree
open Go Go.Abs
set_option linter.unusedSimpArgs false
set_option linter.unusedVariables false

/-- one pass over the rules -/
def passM (s : Nat) : List Rl → Nat
  | [] => s
  | u :: t => passM (if (s.testBit u.l.toNat && s.testBit u.r.toNat) = true then s ||| 2 ^ u.t.toNat else s) t

theorem passM_lt : ∀ (l : List Rl) (s : Nat), s < 18446744073709551616 → RlOk l → passM s l < 18446744073709551616
  | [], s, h, _ => h
  | u :: t, s, h, hb => by
    have hu := hb u (List.mem_cons_self ..)
    refine passM_lt t _ ?_ (fun e he => hb e (List.mem_cons_of_mem _ he))
    split
    · exact or_lt h (pow64 (by omega))
    · exact h
theorem passM_sub : ∀ (l : List Rl) (s j : Nat), s.testBit j = true → (passM s l).testBit j = true
  | [], s, j, h => h
  | u :: t, s, j, h => passM_sub t _ j (by split <;> simp [h])

theorem and3 {s a b : Nat} : (s >>> a &&& s >>> b) &&& 1 = if (s.testBit a && s.testBit b) = true then 1 else 0 := by
  have h : ((s >>> a &&& s >>> b) &&& 1) = (s >>> a &&& s >>> b) % 2 := Nat.and_one_is_mod _
  have ht : (s >>> a &&& s >>> b).testBit 0 = (s.testBit a && s.testBit b) := by
    rw [Nat.testBit_and, Nat.testBit_shiftRight, Nat.testBit_shiftRight, Nat.add_zero, Nat.add_zero]
  rw [h]
  rw [Nat.testBit_zero] at ht
  rw [← ht]
  by_cases c : (s >>> a &&& s >>> b) % 2 = 1
  · rw [c]; simp
  · have : (s >>> a &&& s >>> b) % 2 = 0 := by omega
    rw [this]; simp

theorem pass_loop {z : Bool} {rl : List Rl} (hl : rl.length < 1099511627776) (hb : RlOk rl) : ∀ d i s G, i + d = rl.length → s < 18446744073709551616 →
    ∃ X, L.loop a87l0s a87l0 ⟨a87l0F (.int .u64 (s : Nat)) (.sl z rl.length (rls rl)) (.int .i64 (rl.length : Nat)) (.int .i64 (i : Nat)), G⟩ =
      some (.exit 0, ⟨a87l0F (.int .u64 (passM s (rl.drop i) : Nat)) (.sl z rl.length (rls rl)) (.int .i64 (rl.length : Nat)) (.int .i64 (rl.length : Nat)), G ++ X⟩)
  | 0, i, s, G, h, hs => by
    obtain rfl : i = rl.length := by omega
    refine ⟨[], ?_⟩
    rw [List.drop_length, passM, a87l0n, List.append_nil]
    simp (maxSteps := 30000000) (disch := first | assumption | omega | (simp only [List.length_cons, List.length_nil, List.length_append, List.length_set, List.length_replicate, List.length_map, List.length_range, List.length_take, List.length_drop, List.all_cons, List.all_nil, AV.isCell, Bool.and_self, Bool.and_true, bs_length, is64_length, w64_length, ints_length, lfs_length, rls_length] <;> omega) | rfl | decide) only [a87l0b, run_seq, run_region, runOps_cons, oper_none, ex_bin, opv, List.getD_cons_succ, List.getD_cons_zero, bin_lss, Int.lt_irrefl, decide_false, valK_some, putK_to, List.set_cons_succ, List.set_cons_zero, opsK_some, runOps_nil, regK_some, seqK_normal, run_cond, condK_bool, Bool.false_eq_true, run_skip, run_exit, if_false, seqK_exit, loopK_exit, a87l0c]
  | d + 1, i, s, G, h, hs => by
    have hlt : (i : Int) < (rl.length : Nat) := by omega
    obtain ⟨⟨l0, l1⟩, ⟨r0', r1⟩, ⟨t0, t1⟩, p1, n1⟩ := hb _ (getR_mem (by omega : i < rl.length))
    have hsl := shrN s (show (rl.getD i r0).l.toNat ≤ IntKind.u64.bits from by show _ ≤ 64; omega)
    have hsr := shrN s (show (rl.getD i r0).r.toNat ≤ IntKind.u64.bits from by show _ ≤ 64; omega)
    have sh : ∀ a, s >>> a < 18446744073709551616 := fun a => Nat.lt_of_le_of_lt (by rw [Nat.shiftRight_eq_div_pow]; exact Nat.div_le_self ..) hs
    have ha1 := and64 (sh (rl.getD i r0).l.toNat) (sh (rl.getD i r0).r.toNat)
    have ha2 := and64 (Nat.lt_of_le_of_lt Nat.and_le_left (sh (rl.getD i r0).l.toNat) : s >>> (rl.getD i r0).l.toNat &&& s >>> (rl.getD i r0).r.toNat < 18446744073709551616) (show 1 < 18446744073709551616 by omega)
    rw [and3, show ((1 : Nat) : Int) = 1 from rfl] at ha2
    have hp := pow64 (show (rl.getD i r0).t.toNat < 64 by omega)
    rw [drop_getR (by omega : i < rl.length), passM]
    by_cases c : (s.testBit (rl.getD i r0).l.toNat && s.testBit (rl.getD i r0).r.toNat) = true
    · rw [if_pos c] at ha2 ⊢
      have hs2 := shl64 (show (rl.getD i r0).t.toNat < 64 by omega)
      have ho := or64 hs hp
      obtain ⟨X, ih⟩ := pass_loop (z := z) hl hb d (i + 1) (s ||| 2 ^ (rl.getD i r0).t.toNat) (G ++ [.cells false false (encR (rl.getD i r0))]) (by omega) (or_lt hs hp)
      refine ⟨.cells false false (encR (rl.getD i r0)) :: X, ?_⟩
      simp only [encR, List.append_assoc, List.cons_append, List.nil_append] at ih ⊢
      simp only [Int.natCast_one] at ha2
      rw [a87l0n]
      simp (maxSteps := 30000000) (disch := first | assumption | omega | (simp only [List.length_cons, List.length_nil, List.length_append, List.length_set, List.length_replicate, List.length_map, List.length_range, List.length_take, List.length_drop, List.all_cons, List.all_nil, AV.isCell, Bool.and_self, Bool.and_true, bs_length, is64_length, w64_length, ints_length, lfs_length, rls_length] <;> omega) | rfl | decide) only [a87l0b, run_seq, run_region, runOps_cons, oper_none, ex_bin, opv, List.getD_cons_succ, List.getD_cons_zero, bin_lss, hlt, decide_true, valK_some, putK_to, List.set_cons_succ, List.set_cons_zero, opsK_some, runOps_nil, regK_some, seqK_normal, run_cond, condK_bool, run_skip, run_exit, if_true, run_block, ex_iaddr, iaddrA_sl, Int.toNat_natCast, ex_load, rd_vptr, rls_at, loadK_n, ex_box, AV.cells, List.all_cons, AV.isCell, List.all_nil, Bool.and_self, ex_store, List.length_cons, List.length_nil, Nat.zero_add, Nat.reduceAdd, wr_ptr, hget0, List.getElem?_cons_zero, wrK_cells, splice, List.take_zero, List.nil_append, List.drop_succ_cons, List.drop_nil, List.append_nil, hset0, storeK_some, putK_no, run_draw, List.take_succ_cons, runFree_cons, foper_none, fe_mov, ex_mov, fstK_some, fputK_to, freeK_some, fe_faddr, ex_faddr, faddrA_ptr, Nat.add_zero, fe_load, rd_ptr, rdK_cells, List.drop_zero, loadK_1, fe_bin, bin_shr, hsl, hsr, bin_and, ha1, ha2, runFree_nil, drawK_some, adopt, adoptVal, bin_shl, hs2, bin_or, ho, blockK_normal, bin_add, cadd1, wr64, loopK_normal, a87l0c, ih]
    · rw [if_neg c] at ha2 ⊢
      have hs2 : IntKind.u64.wrap (0 * 2 ^ min (rl.getD i r0).t.toNat IntKind.u64.bits) = 0 := by rw [Int.zero_mul]; rfl
      have ho := or64 hs (show 0 < 18446744073709551616 by omega)
      rw [Nat.or_zero, Int.natCast_zero] at ho
      obtain ⟨X, ih⟩ := pass_loop (z := z) hl hb d (i + 1) s (G ++ [.cells false false (encR (rl.getD i r0))]) (by omega) hs
      refine ⟨.cells false false (encR (rl.getD i r0)) :: X, ?_⟩
      simp only [encR, List.append_assoc, List.cons_append, List.nil_append] at ih ⊢
      simp only [Int.natCast_zero] at ha2
      rw [a87l0n]
      simp (maxSteps := 30000000) (disch := first | assumption | omega | (simp only [List.length_cons, List.length_nil, List.length_append, List.length_set, List.length_replicate, List.length_map, List.length_range, List.length_take, List.length_drop, List.all_cons, List.all_nil, AV.isCell, Bool.and_self, Bool.and_true, bs_length, is64_length, w64_length, ints_length, lfs_length, rls_length] <;> omega) | rfl | decide) only [a87l0b, run_seq, run_region, runOps_cons, oper_none, ex_bin, opv, List.getD_cons_succ, List.getD_cons_zero, bin_lss, hlt, decide_true, valK_some, putK_to, List.set_cons_succ, List.set_cons_zero, opsK_some, runOps_nil, regK_some, seqK_normal, run_cond, condK_bool, run_skip, run_exit, if_true, run_block, ex_iaddr, iaddrA_sl, Int.toNat_natCast, ex_load, rd_vptr, rls_at, loadK_n, ex_box, AV.cells, List.all_cons, AV.isCell, List.all_nil, Bool.and_self, ex_store, List.length_cons, List.length_nil, Nat.zero_add, Nat.reduceAdd, wr_ptr, hget0, List.getElem?_cons_zero, wrK_cells, splice, List.take_zero, List.nil_append, List.drop_succ_cons, List.drop_nil, List.append_nil, hset0, storeK_some, putK_no, run_draw, List.take_succ_cons, runFree_cons, foper_none, fe_mov, ex_mov, fstK_some, fputK_to, freeK_some, fe_faddr, ex_faddr, faddrA_ptr, Nat.add_zero, fe_load, rd_ptr, rdK_cells, List.drop_zero, loadK_1, fe_bin, bin_shr, hsl, hsr, bin_and, ha1, ha2, runFree_nil, drawK_some, adopt, adoptVal, bin_shl, hs2, bin_or, ho, blockK_normal, bin_add, cadd1, wr64, loopK_normal, a87l0c, ih]
end Go.Abs.Tree

/- fixed, Reachable. -/
namespace Go.Abs.Tree
open Go Go.Abs
set_option linter.unusedSimpArgs false
set_option linter.unusedVariables false

/-- closed under the rules -/
def Clo (rl : List Rl) (U : Nat → Bool) : Prop := ∀ u ∈ rl, U u.l.toNat = true → U u.r.toNat = true → U u.t.toNat = true

theorem passM_min : ∀ (l rl : List Rl) (s : Nat) (U : Nat → Bool), (∀ u ∈ l, u ∈ rl) → Clo rl U → (∀ j, s.testBit j = true → U j = true) → ∀ j, (passM s l).testBit j = true → U j = true
  | [], rl, s, U, _, _, h, j, hj => h j hj
  | u :: t, rl, s, U, hm, hU, h, j, hj => by
    refine passM_min t rl _ U (fun v hv => hm v (List.mem_cons_of_mem _ hv)) hU ?_ j hj
    intro j hj
    split at hj
    · rename_i c
      rw [Nat.testBit_or, Nat.testBit_two_pow] at hj
      simp only [Bool.or_eq_true, decide_eq_true_eq] at hj
      rcases hj with hj | rfl
      · exact h j hj
      · simp only [Bool.and_eq_true] at c
        exact hU u (hm u (List.mem_cons_self ..)) (h _ c.1) (h _ c.2)
    · exact h j hj

theorem passM_le (l : List Rl) (s : Nat) : s ≤ passM s l := by
  have : s ||| passM s l = passM s l := by
    apply Nat.eq_of_testBit_eq
    intro j
    rw [Nat.testBit_or]
    cases h : s.testBit j with
    | false => simp
    | true => rw [passM_sub l s j h]; rfl
  rw [← this]
  exact Nat.left_le_or

theorem passM_fix : ∀ (l : List Rl) (s : Nat), passM s l = s → Clo l (fun j => s.testBit j)
  | [], s, _, u, hu, _, _ => by simp at hu
  | v :: t, s, h, u, hu, h1, h2 => by
    rw [passM] at h
    have h3 : (if (s.testBit v.l.toNat && s.testBit v.r.toNat) = true then s ||| 2 ^ v.t.toNat else s) = s := by
      have a := passM_le t (if (s.testBit v.l.toNat && s.testBit v.r.toNat) = true then s ||| 2 ^ v.t.toNat else s)
      rw [h] at a
      by_cases c : (s.testBit v.l.toNat && s.testBit v.r.toNat) = true
      · rw [if_pos c] at a ⊢
        have := @Nat.left_le_or s (2 ^ v.t.toNat)
        omega
      · rw [if_neg c]
    rcases List.mem_cons.1 hu with rfl | hu
    · simp only at h1 h2 ⊢
      rw [if_pos (by rw [h1, h2]; rfl)] at h3
      rw [← h3]
      simp
    · rw [h3] at h
      exact passM_fix t s h u hu h1 h2

theorem step87 {n : Aut} (hl : n.rl.length < 1099511627776) (hb : RlOk n.rl) (s : Nat) (hs : s < 18446744073709551616) {G : Heap} (hG : G[0]? = some (.cells false false n.cells)) :
    ∃ X, L.icall (.func 87 [.ptr 0 0]) [.int .u64 (s : Nat)] G = some (.int .u64 (passM s n.rl : Nat), G ++ X) := by
  obtain ⟨X, h⟩ := pass_loop (z := n.z3) hl hb n.rl.length 0 s G (by omega) hs
  refine ⟨X, ?_⟩
  simp only [Int.natCast_zero, List.drop_zero] at h
  rw [a87i, a87]
  simp (maxSteps := 30000000) (disch := first | assumption | omega | (simp only [List.length_cons, List.length_nil, List.length_append, List.length_set, List.length_replicate, List.length_map, List.length_range, List.length_take, List.length_drop, List.all_cons, List.all_nil, AV.isCell, Bool.and_self, Bool.and_true, bs_length, is64_length, w64_length, ints_length, lfs_length, rls_length] <;> omega) | rfl | decide) only [List.cons_append, List.nil_append, bodyA_eq, List.length_cons, List.length_nil, Nat.zero_add, Nat.reduceAdd, Nat.reduceSub, pads, run_seq, run_region, runOps_cons, oper_none, ex_mov, opv, putK_to, List.set_cons_succ, List.set_cons_zero, opsK_some, runOps_nil, regK_some, seqK_normal, ex_faddr, List.getD_cons_succ, List.getD_cons_zero, faddrA_ptr, valK_some, ex_load, rd_ptr, hG, rdK_cells, List.drop_succ_cons, List.drop_zero, List.take_succ_cons, List.take_nil, loadK_1, ex_len, lenA_sl, run_block, run_loop, a87l0c, h, blockK_exit, if_true, run_ret, bodyK_ret, results_1, res_tmp, retvK_some]

theorem fixed_loop {n : Aut} (hl : n.rl.length < 1099511627776) (hb : RlOk n.rl) : ∀ m s (G : Heap), 18446744073709551616 - s ≤ m → s < 18446744073709551616 → G[0]? = some (.cells false false n.cells) →
    ∃ w X, L.loop a86l0s a86l0 ⟨a86l0F (.int .u64 (s : Nat)) (.func 87 [.ptr 0 0]) (.int .u64 (passM s n.rl : Nat)), G⟩ = some (.exit 0, ⟨a86l0F (.int .u64 (w : Nat)) (.func 87 [.ptr 0 0]) (.int .u64 (w : Nat)), G ++ X⟩) ∧
      w < 18446744073709551616 ∧ passM w n.rl = w ∧ (∀ j, s.testBit j = true → w.testBit j = true) ∧ (∀ U, Clo n.rl U → (∀ j, s.testBit j = true → U j = true) → ∀ j, w.testBit j = true → U j = true)
  | 0, s, G, hm, hs, hG => by omega
  | m + 1, s, G, hm, hs, hG => by
    have hp := passM_lt n.rl s hs hb
    by_cases c : passM s n.rl = s
    · refine ⟨s, [], ?_, hs, c, fun j h => h, fun U _ h => h⟩
      rw [c, List.append_nil, a86l0n]
      simp (maxSteps := 30000000) (disch := first | assumption | omega | (simp only [List.length_cons, List.length_nil, List.length_append, List.length_set, List.length_replicate, List.length_map, List.length_range, List.length_take, List.length_drop, List.all_cons, List.all_nil, AV.isCell, Bool.and_self, Bool.and_true, bs_length, is64_length, w64_length, ints_length, lfs_length, rls_length] <;> omega) | rfl | decide) only [a86l0b, run_seq, run_region, runOps_cons, oper_none, ex_mov, opv, List.getD_cons_succ, List.getD_cons_zero, putK_to, List.set_cons_succ, List.set_cons_zero, opsK_some, ex_bin, bin_neq, decide_true, Bool.not_true, valK_some, runOps_nil, regK_some, seqK_normal, run_cond, condK_bool, Bool.false_eq_true, run_skip, run_exit, if_false, seqK_exit, loopK_exit, a86l0c]
    · have hle := passM_le n.rl s
      have hne : ((((passM s n.rl : Nat) : Int) = ((s : Nat) : Int))) = False := eq_false (by omega)
      obtain ⟨X1, h1⟩ := step87 hl hb (passM s n.rl) hp hG
      obtain ⟨w, X, h2, h3, h4, h5, h6⟩ := fixed_loop hl hb m (passM s n.rl) (G ++ X1) (by omega) hp (by rw [List.getElem?_append_left (List.getElem?_eq_some_iff.1 hG).1, hG])
      refine ⟨w, X1 ++ X, ?_, h3, h4, fun j h => h5 j (passM_sub _ _ _ h), fun U hU h => h6 U hU (passM_min n.rl n.rl s U (fun _ h => h) hU h)⟩
      rw [List.append_assoc] at h2
      rw [a86l0n]
      simp (maxSteps := 30000000) (disch := first | assumption | omega | (simp only [List.length_cons, List.length_nil, List.length_append, List.length_set, List.length_replicate, List.length_map, List.length_range, List.length_take, List.length_drop, List.all_cons, List.all_nil, AV.isCell, Bool.and_self, Bool.and_true, bs_length, is64_length, w64_length, ints_length, lfs_length, rls_length] <;> omega) | rfl | decide) only [a86l0b, run_seq, run_region, runOps_cons, oper_none, ex_mov, opv, List.getD_cons_succ, List.getD_cons_zero, putK_to, List.set_cons_succ, List.set_cons_zero, opsK_some, ex_bin, bin_neq, hne, decide_false, Bool.not_false, valK_some, runOps_nil, regK_some, seqK_normal, run_cond, condK_bool, run_skip, run_exit, if_true, run_block, blockK_normal, ex_icall, List.map_cons, List.map_nil, h1, loopK_normal, a86l0c, h2]

theorem reach_word {n : Aut} (hl : n.rl.length < 1099511627776) (hb : RlOk n.rl) (hn : n.st.length < 1099511627776) (hq : ∀ q ∈ n.st, 0 ≤ q ∧ q < 64) :
    ∃ w, L.pcall 55 [n.av] = some (.int .u64 (w : Nat)) ∧ w < 18446744073709551616 ∧ passM w n.rl = w ∧ (∀ j, (wordM 0 n.st).testBit j = true → w.testBit j = true) ∧ (∀ U, Clo n.rl U → (∀ j, (wordM 0 n.st).testBit j = true → U j = true) → ∀ j, w.testBit j = true → U j = true) := by
  have hw := word_eq n.z1 n.st hn hq
  have hE := wordM_lt n.st 0 (by omega) hq
  generalize wordM 0 n.st = E at *
  obtain ⟨X1, h1⟩ := step87 (G := [.cells false false n.cells]) hl hb E hE rfl
  obtain ⟨w, X, h2, h3, h4, h5, h6⟩ := fixed_loop hl hb 18446744073709551616 E ([.cells false false n.cells] ++ X1) (by omega) hE rfl
  refine ⟨w, ?_, h3, h4, h5, h6⟩
  have h86 : L.icall (.func 86 []) [.int .u64 (E : Nat), .func 87 [.ptr 0 0]] [.cells false false n.cells] = some (.int .u64 (w : Nat), [.cells false false n.cells] ++ X1 ++ X) := by
    rw [a86i, a86]
    simp (maxSteps := 30000000) (disch := first | assumption | omega | (simp only [List.length_cons, List.length_nil, List.length_append, List.length_set, List.length_replicate, List.length_map, List.length_range, List.length_take, List.length_drop, List.all_cons, List.all_nil, AV.isCell, Bool.and_self, Bool.and_true, bs_length, is64_length, w64_length, ints_length, lfs_length, rls_length] <;> omega) | rfl | decide) only [List.append_nil, bodyA_eq, List.length_cons, List.length_nil, Nat.zero_add, Nat.reduceAdd, Nat.reduceSub, pads, List.cons_append, List.nil_append, run_seq, run_region, runOps_cons, oper_none, ex_mov, opv, putK_to, List.set_cons_succ, List.set_cons_zero, opsK_some, runOps_nil, regK_some, seqK_normal, List.getD_cons_succ, List.getD_cons_zero, ex_icall, List.map_cons, List.map_nil, h1, run_block, run_loop, a86l0c]
    simp only [List.cons_append, List.nil_append] at h2 ⊢
    simp (maxSteps := 30000000) (disch := first | assumption | omega | (simp only [List.length_cons, List.length_nil, List.length_append, List.length_set, List.length_replicate, List.length_map, List.length_range, List.length_take, List.length_drop, List.all_cons, List.all_nil, AV.isCell, Bool.and_self, Bool.and_true, bs_length, is64_length, w64_length, ints_length, lfs_length, rls_length] <;> omega) | rfl | decide) only [h2, blockK_exit, if_true, seqK_normal, run_seq, run_region, runOps_cons, oper_none, ex_mov, opv, List.getD_cons_zero, putK_to, List.set_cons_succ, List.set_cons_zero, opsK_some, List.getD_cons_succ, runOps_nil, regK_some, run_ret, bodyK_ret, results_1, res_tmp, retvK_some]
  rw [a55p, a55, pbodyA_eq]
  simp (maxSteps := 30000000) (disch := first | assumption | omega | (simp only [List.length_cons, List.length_nil, List.length_append, List.length_set, List.length_replicate, List.length_map, List.length_range, List.length_take, List.length_drop, List.all_cons, List.all_nil, AV.isCell, Bool.and_self, Bool.and_true, bs_length, is64_length, w64_length, ints_length, lfs_length, rls_length] <;> omega) | rfl | decide) only [bodyA_eq, List.length_cons, List.length_nil, Nat.zero_add, Nat.reduceSub, pads, List.cons_append, List.nil_append, run_seq, run_region, runOps_cons, oper_none, ex_box, AV.cells, opv, List.getD_cons_zero, List.all_cons, AV.isCell, List.all_nil, Bool.and_self, if_true, putK_to, List.set_cons_succ, List.set_cons_zero, opsK_some, ex_mov, runOps_nil, regK_some, seqK_normal, ex_faddr, List.getD_cons_succ, faddrA_ptr, valK_some, ex_load, rd_ptr, List.getElem?_cons_zero, rdK_cells, List.drop_succ_cons, List.drop_zero, List.take_succ_cons, List.take_zero, loadK_1, ex_call, List.map_cons, List.map_nil, pcallA_eq, frzN, List.mapM_cons, frz_sl, List.mapM_nil, Option.pure_def, Option.bind_eq_bind, Option.bind_some, argK_some, hw, retK_some, scal, scal1, fzIds, List.flatMap_cons, bor_sl, List.flatMap_nil, List.append_nil, List.foldl_nil, ite_self, ex_mkfunc, ex_icall, h86, run_ret, bodyK_ret, results_1, res_tmp, retvK_some, pbodyK_some, frz_int]

theorem reach_ex (n : Aut) (hT : TyA n) : ∃ (e : Int) (z : Bool) (l : List Nat), L.pcall 20 [n.av] = some (.tup [sw z l, .int .i64 e]) ∧ (e ≠ 0 → z = true ∧ l = []) ∧ (e = 0 ↔ Valid n) ∧
    (e = 0 → ∃ w : Nat, HasSet (sw z l) (fun j => decide (j < 64) && w.testBit j) ∧ w < 18446744073709551616 ∧ passM w n.rl = w ∧ (∀ j, (wordM 0 n.st).testBit j = true → w.testBit j = true) ∧ (∀ U, Clo n.rl U → (∀ j, (wordM 0 n.st).testBit j = true → U j = true) → ∀ j, w.testBit j = true → U j = true)) := by
  have h1 := check_eq n hT.st hT.fi hT.rl hT.u8
  by_cases c : chkE n = 0
  · have hV := chkE_zero.1 c
    obtain ⟨w, h2, h3, h4, h5, h6⟩ := reach_word hT.rl (hV.ok hT) hT.st hV.sts
    obtain ⟨z, l, h7, h8⟩ := set_has h3
    rw [c] at h1
    refine ⟨0, z, l, ?_, fun h => (h rfl).elim, ⟨fun _ => hV, fun _ => rfl⟩, fun _ => ⟨w, h8, h3, h4, h5, h6⟩⟩
    rw [a20p, a20, pbodyA_eq]
    simp (maxSteps := 30000000) (disch := first | assumption | omega | (simp only [List.length_cons, List.length_nil, List.length_append, List.length_set, List.length_replicate, List.length_map, List.length_range, List.length_take, List.length_drop, List.all_cons, List.all_nil, AV.isCell, Bool.and_self, Bool.and_true, bs_length, is64_length, w64_length, ints_length, lfs_length, rls_length] <;> omega) | rfl | decide) only [bodyA_eq, List.length_cons, List.length_nil, Nat.zero_add, Nat.reduceSub, pads, List.cons_append, List.nil_append, run_seq, run_region, runOps_cons, oper_none, ex_box, AV.cells, opv, List.getD_cons_zero, List.all_cons, AV.isCell, List.all_nil, Bool.and_self, if_true, putK_to, List.set_cons_succ, List.set_cons_zero, opsK_some, ex_mov, runOps_nil, regK_some, seqK_normal, ex_load, List.getD_cons_succ, rd_ptr, List.getElem?_cons_zero, rdK_cells, List.drop_zero, List.take_succ_cons, List.take_nil, loadK_n, valK_some, ex_call, List.map_cons, List.map_nil, pcallA_eq, frzN, List.mapM_cons, frz_agg, frz_int, frz_sl, List.mapM_nil, Option.pure_def, Option.bind_eq_bind, Option.bind_some, Option.map_some, argK_some, h1, retK_some, scal, scal1, fzIds, List.flatMap_cons, bor_agg, bor_int, bor_sl, List.flatMap_nil, List.append_nil, List.foldl_nil, ite_self, ex_bin, bin_neq, decide_true, Bool.not_true, run_cond, condK_bool, Bool.false_eq_true, run_ret, run_skip, if_false, h2, h7, bodyK_ret, results_2, resL_cons, res_tmp, resK_some, resL_nil, retvK_some, pbodyK_some, frz_tup]
  · refine ⟨chkE n, true, [], ?_, fun _ => ⟨rfl, rfl⟩, chkE_zero, fun h => (c h).elim⟩
    rw [a20p, a20, pbodyA_eq]
    simp (maxSteps := 30000000) (disch := first | assumption | omega | (simp only [List.length_cons, List.length_nil, List.length_append, List.length_set, List.length_replicate, List.length_map, List.length_range, List.length_take, List.length_drop, List.all_cons, List.all_nil, AV.isCell, Bool.and_self, Bool.and_true, bs_length, is64_length, w64_length, ints_length, lfs_length, rls_length] <;> omega) | rfl | decide) only [bodyA_eq, List.length_cons, List.length_nil, Nat.zero_add, Nat.reduceSub, pads, List.cons_append, List.nil_append, run_seq, run_region, runOps_cons, oper_none, ex_box, AV.cells, opv, List.getD_cons_zero, List.all_cons, AV.isCell, List.all_nil, Bool.and_self, if_true, putK_to, List.set_cons_succ, List.set_cons_zero, opsK_some, ex_mov, runOps_nil, regK_some, seqK_normal, ex_load, List.getD_cons_succ, rd_ptr, List.getElem?_cons_zero, rdK_cells, List.drop_zero, List.take_succ_cons, List.take_nil, loadK_n, valK_some, ex_call, List.map_cons, List.map_nil, pcallA_eq, frzN, List.mapM_cons, frz_agg, frz_int, frz_sl, List.mapM_nil, Option.pure_def, Option.bind_eq_bind, Option.bind_some, Option.map_some, argK_some, h1, retK_some, scal, scal1, fzIds, List.flatMap_cons, bor_agg, bor_int, bor_sl, List.flatMap_nil, List.append_nil, List.foldl_nil, ite_self, ex_bin, bin_neq, c, decide_false, Bool.not_false, run_cond, condK_bool, run_ret, run_skip, seqK_ret, bodyK_ret, results_2, resL_cons, res_tmp, resK_some, resL_nil, retvK_some, pbodyK_some, frz_tup]
    rfl
end Go.Abs.Tree

/- Every state of a tree is reachable: the plain law. -/
namespace Go.Abs.Tree
open Go Go.Abs

theorem ev_in {E : Nat} {rl : List Rl} {U : Nat → Bool} (h0 : ∀ e ∈ rl, 0 ≤ e.t) (hU : Clo rl U) (hE : ∀ j, E.testBit j = true → U j = true) : ∀ (T : BT) (j : Nat), (ev E rl T).testBit j = true → U j = true
  | .nil, j, hj => hE j hj
  | .node x l r, j, hj => by
    have hl := ev_in (E := E) h0 hU hE l
    have hr := ev_in (E := E) h0 hU hE r
    rw [ev, toM_bit _ _ _ _ _ _ h0, Nat.zero_testBit, Bool.false_or, List.any_eq_true] at hj
    obtain ⟨u, hu, hh⟩ := hj
    unfold hit at hh
    simp only [Bool.and_eq_true, decide_eq_true_eq] at hh
    have e : u.t.toNat = j := by omega
    rw [← e]
    exact hU u hu (hl _ hh.1.1.1) (hr _ hh.1.1.2)
end Go.Abs.Tree
