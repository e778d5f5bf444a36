/- The rules' loop of states, the stack. -/
import Derived.Test.YtijmhicopfphnaaDoorAL3
namespace Go.Abs.Tree
open Go Go.Abs
set_option linter.unusedSimpArgs false
set_option linter.unusedVariables false

theorem app_get {G X : Heap} {b : Nat} {x : Blk} (h : G[b]? = some x) : (G ++ X)[b]? = some x := by
  rw [List.getElem?_append_left (List.getElem?_eq_some_iff.1 h).1, h]

theorem bitA {l : Nat} (hl : l < 18446744073709551616) (u : Nat) : bitsA .and .u64 ((l >>> u : Nat) : Int) 1 = if l.testBit u = true then 1 else 0 := by
  have h1 : l >>> u < 18446744073709551616 := Nat.lt_of_le_of_lt (by rw [Nat.shiftRight_eq_div_pow]; exact Nat.div_le_self ..) hl
  have h := and64 h1 (show 1 < 18446744073709551616 by omega)
  rw [show ((1 : Nat) : Int) = 1 from rfl] at h
  rw [h, Nat.and_one_is_mod]
  have ht : l.testBit u = decide ((l >>> u) % 2 = 1) := by
    rw [Nat.testBit_eq_decide_div_mod_eq, Nat.shiftRight_eq_div_pow]
  rw [ht]
  by_cases c : (l >>> u) % 2 = 1
  · rw [c]; simp
  · have : (l >>> u) % 2 = 0 := by omega
    rw [this]; simp

def hit (l r x : Nat) (u : Rl) : Bool := l.testBit u.l.toNat && r.testBit u.r.toNat && hasB u.p u.n x
/-- the states of a node -/
def toM (l r x : Nat) (a : Nat) : List Rl → Nat
  | [] => a
  | u :: t => toM l r x (if hit l r x u = true then a ||| 2 ^ u.t.toNat else a) t

/-- rules between states -/
def RlOk (l : List Rl) : Prop := ∀ e ∈ l, (0 ≤ e.l ∧ e.l < 64) ∧ (0 ≤ e.r ∧ e.r < 64) ∧ (0 ≤ e.t ∧ e.t < 64) ∧ e.p < 256 ∧ e.n < 256

theorem toM_lt (l r x : Nat) : ∀ (t : List Rl) (a : Nat), a < 18446744073709551616 → RlOk t → toM l r x a t < 18446744073709551616
  | [], a, h, _ => h
  | u :: t, a, h, hb => by
    have hu := hb u (List.mem_cons_self ..)
    refine toM_lt l r x t _ ?_ (fun e he => hb e (List.mem_cons_of_mem _ he))
    split
    · exact or_lt h (pow64 (by omega))
    · exact h

theorem toM_bit (l r x : Nat) : ∀ (t : List Rl) (a j : Nat), (∀ e ∈ t, 0 ≤ e.t) → (toM l r x a t).testBit j = (a.testBit j || t.any (fun u => hit l r x u && decide (u.t = (j : Int))))
  | [], a, j, _ => by simp [toM]
  | u :: t, a, j, hb => by
    have hu := hb u (List.mem_cons_self ..)
    rw [toM, toM_bit l r x t _ j (fun e he => hb e (List.mem_cons_of_mem _ he)), List.any_cons, ← Bool.or_assoc]
    congr 1
    by_cases c : hit l r x u = true
    · have e : decide (u.t.toNat = j) = decide (u.t = (j : Int)) := by
        rw [Bool.eq_iff_iff]; simp only [decide_eq_true_eq]; omega
      rw [if_pos c, c, Nat.testBit_or, Nat.testBit_two_pow, Bool.true_and, e]
    · rw [if_neg c]
      simp [c]

section
variable {s1 s2 s5 s6 s7 s8 : AV}
theorem to_loop {z : Bool} {rl : List Rl} {b l r x : Nat} {xl xr : Int} (hl : rl.length < 1099511627776) (hb : RlOk rl) (hL : l < 18446744073709551616) (hR : r < 18446744073709551616) (hx : x < 256) : ∀ d i a G, i + d = rl.length → a < 18446744073709551616 → G[b]? = some (.cells false false [.int .u8 (x : Nat), .int .i64 xl, .int .i64 xr]) →
    ∃ X, L.loop a49l0s a49l0 ⟨a49l0F s1 s2 s5 s6 s7 s8 (.ptr b 0) (.int .u64 (l : Nat)) (.int .u64 (r : Nat)) (.int .u64 (a : Nat)) (.sl z rl.length (rls rl)) (.int .i64 (rl.length : Nat)) (.int .i64 (i : Nat)), G⟩ =
      some (.exit 2, ⟨a49l0F s1 s2 s5 s6 s7 s8 (.ptr b 0) (.int .u64 (l : Nat)) (.int .u64 (r : Nat)) (.int .u64 (toM l r x a (rl.drop i) : Nat)) (.sl z rl.length (rls rl)) (.int .i64 (rl.length : Nat)) (.int .i64 (rl.length : Nat)), G ++ X⟩)
  | 0, i, a, G, h, ha, hG => by
    obtain rfl : i = rl.length := by omega
    refine ⟨[], ?_⟩
    rw [List.drop_length, toM, a49l0n, List.append_nil]
    simp (maxSteps := 30000000) (disch := first | assumption | omega | (simp only [List.length_cons, List.length_nil, List.length_append, List.length_set, List.length_replicate, List.length_map, List.length_range, List.length_take, List.length_drop, List.all_cons, List.all_nil, AV.isCell, Bool.and_self, Bool.and_true, bs_length, is64_length, w64_length, ints_length, lfs_length, rls_length] <;> omega) | rfl | decide) only [a49l0b, run_seq, run_region, runOps_cons, oper_none, ex_bin, opv, List.getD_cons_succ, List.getD_cons_zero, bin_lss, Int.lt_irrefl, decide_false, valK_some, putK_to, List.set_cons_succ, List.set_cons_zero, opsK_some, runOps_nil, regK_some, seqK_normal, run_cond, condK_bool, Bool.false_eq_true, ↓reduceIte, run_exit, seqK_exit, loopK_exit, a49l0c]
  | d + 1, i, a, G, h, ha, hG => by
    have hlt : (i : Int) < (rl.length : Nat) := by omega
    obtain ⟨⟨l0, l1⟩, ⟨r0', r1⟩, ⟨t0, t1⟩, p1, n1⟩ := hb _ (getR_mem (by omega : i < rl.length))
    have hc := cubeHas (rl.getD i r0).p (rl.getD i r0).n x p1 n1 hx
    have hsl := shrN l (show (rl.getD i r0).l.toNat ≤ IntKind.u64.bits from by show _ ≤ 64; omega)
    have hsr := shrN r (show (rl.getD i r0).r.toNat ≤ IntKind.u64.bits from by show _ ≤ 64; omega)
    have hbl := bitA hL (rl.getD i r0).l.toNat
    have hbr := bitA hR (rl.getD i r0).r.toNat
    have hs := shl64 (show (rl.getD i r0).t.toNat < 64 by omega)
    have hp := pow64 (show (rl.getD i r0).t.toNat < 64 by omega)
    have ho := or64 ha hp
    have g1 := app_get (X := [.cells false false (encR (rl.getD i r0))]) hG
    simp only [encR] at g1
    rw [drop_getR (by omega : i < rl.length), toM]
    by_cases c1 : l.testBit (rl.getD i r0).l.toNat = true
    · rw [if_pos c1] at hbl
      by_cases c2 : r.testBit (rl.getD i r0).r.toNat = true
      · rw [if_pos c2] at hbr
        cases c3 : hasB (rl.getD i r0).p (rl.getD i r0).n x with
        | true =>
          rw [c3] at hc
          rw [if_pos (by unfold hit; rw [c1, c2, c3]; rfl)]
          obtain ⟨X, ih⟩ := to_loop (z := z) hl hb hL hR hx d (i + 1) (a ||| 2 ^ (rl.getD i r0).t.toNat) (G ++ [.cells false false (encR (rl.getD i r0))]) (by omega) (or_lt ha hp) (app_get hG)
          refine ⟨.cells false false (encR (rl.getD i r0)) :: X, ?_⟩
          simp only [encR, List.append_assoc, List.cons_append, List.nil_append] at ih ⊢
          rw [a49l0n]
          simp (maxSteps := 30000000) (disch := first | assumption | omega | (simp only [List.length_cons, List.length_nil, List.length_append, List.length_set, List.length_replicate, List.length_map, List.length_range, List.length_take, List.length_drop, List.all_cons, List.all_nil, AV.isCell, Bool.and_self, Bool.and_true, bs_length, is64_length, w64_length, ints_length, lfs_length, rls_length] <;> omega) | rfl | decide) only [a49l0b, run_seq, run_region, runOps_cons, oper_none, ex_bin, opv, List.getD_cons_succ, List.getD_cons_zero, bin_lss, hlt, decide_true, valK_some, putK_to, List.set_cons_succ, List.set_cons_zero, opsK_some, runOps_nil, regK_some, seqK_normal, run_cond, condK_bool, ↓reduceIte, run_skip, run_block, ex_iaddr, iaddrA_sl, Int.toNat_natCast, ex_load, rd_vptr, rls_at, loadK_n, ex_box, AV.cells, List.all_cons, AV.isCell, List.all_nil, Bool.and_self, ex_store, List.length_cons, List.length_nil, Nat.zero_add, Nat.reduceAdd, wr_ptr, hget0, List.getElem?_cons_zero, wrK_cells, splice, List.take_zero, List.nil_append, List.drop_succ_cons, List.drop_nil, List.append_nil, hset0, storeK_some, putK_no, ex_mov, ex_faddr, faddrA_ptr, Nat.add_zero, rd_ptr, rdK_cells, List.drop_zero, List.take_succ_cons, loadK_1, bin_shr, hsl, bin_and, hbl, bin_neq, Int.reduceEq, decide_false, Bool.not_false, oper_guard, guardK_bool, hsr, hbr, ex_pick, pickA_bool, List.take_nil, ex_build, beq_self_eq_true, List.map_cons, List.map_nil, fillA, Nat.reduceLeDiff, and_self, List.cons_append, Nat.le_refl, Option.map_some, g1, ex_call, pcallA_eq, frzN, List.mapM_cons, frz_agg, frz_int, List.mapM_nil, Option.pure_def, Option.bind_eq_bind, Option.bind_some, argK_some, hc, retK_some, scal, scal1, bin_shl, hs, bin_or, ho, blockK_normal, bin_add, cadd1, wr64, loopK_normal, a49l0c, ih]
        | false =>
          rw [c3] at hc
          rw [if_neg (by unfold hit; rw [c1, c2, c3]; simp)]
          obtain ⟨X, ih⟩ := to_loop (z := z) hl hb hL hR hx d (i + 1) a (G ++ [.cells false false (encR (rl.getD i r0))]) (by omega) ha (app_get hG)
          refine ⟨.cells false false (encR (rl.getD i r0)) :: X, ?_⟩
          simp only [encR, List.append_assoc, List.cons_append, List.nil_append] at ih ⊢
          rw [a49l0n]
          simp (maxSteps := 30000000) (disch := first | assumption | omega | (simp only [List.length_cons, List.length_nil, List.length_append, List.length_set, List.length_replicate, List.length_map, List.length_range, List.length_take, List.length_drop, List.all_cons, List.all_nil, AV.isCell, Bool.and_self, Bool.and_true, bs_length, is64_length, w64_length, ints_length, lfs_length, rls_length] <;> omega) | rfl | decide) only [a49l0b, run_seq, run_region, runOps_cons, oper_none, ex_bin, opv, List.getD_cons_succ, List.getD_cons_zero, bin_lss, hlt, decide_true, valK_some, putK_to, List.set_cons_succ, List.set_cons_zero, opsK_some, runOps_nil, regK_some, seqK_normal, run_cond, condK_bool, ↓reduceIte, run_skip, run_block, ex_iaddr, iaddrA_sl, Int.toNat_natCast, ex_load, rd_vptr, rls_at, loadK_n, ex_box, AV.cells, List.all_cons, AV.isCell, List.all_nil, Bool.and_self, ex_store, List.length_cons, List.length_nil, Nat.zero_add, Nat.reduceAdd, wr_ptr, hget0, List.getElem?_cons_zero, wrK_cells, splice, List.take_zero, List.nil_append, List.drop_succ_cons, List.drop_nil, List.append_nil, hset0, storeK_some, putK_no, ex_mov, ex_faddr, faddrA_ptr, Nat.add_zero, rd_ptr, rdK_cells, List.drop_zero, List.take_succ_cons, loadK_1, bin_shr, hsl, bin_and, hbl, bin_neq, Int.reduceEq, decide_false, Bool.not_false, oper_guard, guardK_bool, hsr, hbr, ex_pick, pickA_bool, List.take_nil, ex_build, beq_self_eq_true, List.map_cons, List.map_nil, fillA, Nat.reduceLeDiff, and_self, List.cons_append, Nat.le_refl, Option.map_some, g1, ex_call, pcallA_eq, frzN, List.mapM_cons, frz_agg, frz_int, List.mapM_nil, Option.pure_def, Option.bind_eq_bind, Option.bind_some, argK_some, hc, retK_some, scal, scal1, Bool.false_eq_true, blockK_normal, bin_add, cadd1, wr64, loopK_normal, a49l0c, ih]
      · rw [if_neg c2] at hbr
        rw [if_neg (by unfold hit; simp only [Bool.and_eq_true]; exact fun q => c2 q.1.2)]
        obtain ⟨X, ih⟩ := to_loop (z := z) hl hb hL hR hx d (i + 1) a (G ++ [.cells false false (encR (rl.getD i r0))]) (by omega) ha (app_get hG)
        refine ⟨.cells false false (encR (rl.getD i r0)) :: X, ?_⟩
        simp only [encR, List.append_assoc, List.cons_append, List.nil_append] at ih ⊢
        rw [a49l0n]
        simp (maxSteps := 30000000) (disch := first | assumption | omega | (simp only [List.length_cons, List.length_nil, List.length_append, List.length_set, List.length_replicate, List.length_map, List.length_range, List.length_take, List.length_drop, List.all_cons, List.all_nil, AV.isCell, Bool.and_self, Bool.and_true, bs_length, is64_length, w64_length, ints_length, lfs_length, rls_length] <;> omega) | rfl | decide) only [a49l0b, run_seq, run_region, runOps_cons, oper_none, ex_bin, opv, List.getD_cons_succ, List.getD_cons_zero, bin_lss, hlt, decide_true, valK_some, putK_to, List.set_cons_succ, List.set_cons_zero, opsK_some, runOps_nil, regK_some, seqK_normal, run_cond, condK_bool, ↓reduceIte, run_skip, run_block, ex_iaddr, iaddrA_sl, Int.toNat_natCast, ex_load, rd_vptr, rls_at, loadK_n, ex_box, AV.cells, List.all_cons, AV.isCell, List.all_nil, Bool.and_self, ex_store, List.length_cons, List.length_nil, Nat.zero_add, Nat.reduceAdd, wr_ptr, hget0, List.getElem?_cons_zero, wrK_cells, splice, List.take_zero, List.nil_append, List.drop_succ_cons, List.drop_nil, List.append_nil, hset0, storeK_some, putK_no, ex_mov, ex_faddr, faddrA_ptr, Nat.add_zero, rd_ptr, rdK_cells, List.drop_zero, List.take_succ_cons, loadK_1, bin_shr, hsl, bin_and, hbl, bin_neq, Int.reduceEq, decide_false, Bool.not_false, oper_guard, guardK_bool, hsr, hbr, Bool.not_true, ex_pick, pickA_bool, Bool.false_eq_true, putA_to, blockK_normal, bin_add, cadd1, wr64, loopK_normal, a49l0c, ih]
    · rw [if_neg c1] at hbl
      rw [if_neg (by unfold hit; simp only [Bool.and_eq_true]; exact fun q => c1 q.1.1)]
      obtain ⟨X, ih⟩ := to_loop (z := z) hl hb hL hR hx d (i + 1) a (G ++ [.cells false false (encR (rl.getD i r0))]) (by omega) ha (app_get hG)
      refine ⟨.cells false false (encR (rl.getD i r0)) :: X, ?_⟩
      simp only [encR, List.append_assoc, List.cons_append, List.nil_append] at ih ⊢
      rw [a49l0n]
      simp (maxSteps := 30000000) (disch := first | assumption | omega | (simp only [List.length_cons, List.length_nil, List.length_append, List.length_set, List.length_replicate, List.length_map, List.length_range, List.length_take, List.length_drop, List.all_cons, List.all_nil, AV.isCell, Bool.and_self, Bool.and_true, bs_length, is64_length, w64_length, ints_length, lfs_length, rls_length] <;> omega) | rfl | decide) only [a49l0b, run_seq, run_region, runOps_cons, oper_none, ex_bin, opv, List.getD_cons_succ, List.getD_cons_zero, bin_lss, hlt, decide_true, valK_some, putK_to, List.set_cons_succ, List.set_cons_zero, opsK_some, runOps_nil, regK_some, seqK_normal, run_cond, condK_bool, ↓reduceIte, run_skip, run_block, ex_iaddr, iaddrA_sl, Int.toNat_natCast, ex_load, rd_vptr, rls_at, loadK_n, ex_box, AV.cells, List.all_cons, AV.isCell, List.all_nil, Bool.and_self, ex_store, List.length_cons, List.length_nil, Nat.zero_add, Nat.reduceAdd, wr_ptr, hget0, List.getElem?_cons_zero, wrK_cells, splice, List.take_zero, List.nil_append, List.drop_succ_cons, List.drop_nil, List.append_nil, hset0, storeK_some, putK_no, ex_mov, ex_faddr, faddrA_ptr, Nat.add_zero, rd_ptr, rdK_cells, List.drop_zero, List.take_succ_cons, loadK_1, bin_shr, hsl, bin_and, hbl, bin_neq, Bool.not_true, oper_guard, guardK_bool, Bool.false_eq_true, putA_to, ex_pick, pickA_bool, blockK_normal, bin_add, cadd1, wr64, loopK_normal, a49l0c, ih]
end

/-- a list that is nil or a block of the heap -/
def OwnG (G : Heap) (v : AV) (l : List Nat) : Prop := (v = .sl true 0 [] ∧ l = []) ∨ ∃ k r, 2 < k ∧ v = .own false k 0 l.length 1 ∧ G[k]? = some (.cells false false (w64 (l ++ r)))
theorem OwnG.app {G : Heap} {v : AV} {l : List Nat} (h : OwnG G v l) (X : Heap) : OwnG (G ++ X) v l := by
  rcases h with h | ⟨k, r, e0, e1, e2⟩
  · exact .inl h
  · exact .inr ⟨k, r, e0, e1, app_get e2⟩

theorem pop_none {G : Heap} {E : Nat} {c : Int} (hc : c < 0) (h1 : G[1]? = some (.cells false false [.int .u64 (E : Nat)])) : L.icall (.func 82 [.ptr 1 0, .ptr 2 0]) [.int .i64 c] G = some (.int .u64 (E : Nat), G) := by
  rw [a82i, a82]
  simp (maxSteps := 30000000) (disch := first | assumption | omega | (simp only [List.length_cons, List.length_nil, List.length_append, List.length_set, List.length_replicate, List.length_map, List.length_range, List.length_take, List.length_drop, List.all_cons, List.all_nil, AV.isCell, Bool.and_self, Bool.and_true, bs_length, is64_length, w64_length, ints_length, lfs_length, rls_length] <;> omega) | rfl | decide) only [List.cons_append, List.nil_append, bodyA_eq, List.length_cons, List.length_nil, Nat.zero_add, Nat.reduceAdd, Nat.reduceSub, pads, run_seq, run_region, runOps_cons, oper_none, ex_mov, opv, putK_to, List.set_cons_succ, List.set_cons_zero, opsK_some, runOps_nil, regK_some, seqK_normal, List.getD_cons_zero, ex_bin, List.getD_cons_succ, bin_lss, hc, decide_true, valK_some, run_cond, condK_bool, ↓reduceIte, ex_load, rd_ptr, h1, rdK_cells, List.drop_zero, List.take_succ_cons, List.take_nil, loadK_1, run_ret, seqK_ret, bodyK_ret, results_1, res_tmp, retvK_some]

theorem pop_some {G : Heap} {st : List Nat} {x : Nat} {v : AV} {c : Int} (hc : ¬ c < 0) (h2 : G[2]? = some (.cells false false [v])) (hO : OwnG G v (st ++ [x])) (hl : st.length < 1099511627776) :
    ∃ v', L.icall (.func 82 [.ptr 1 0, .ptr 2 0]) [.int .i64 c] G = some (.int .u64 (x : Nat), G.set 2 (.cells false false [v'])) ∧ OwnG (G.set 2 (.cells false false [v'])) v' st := by
  rcases hO with ⟨_, h⟩ | ⟨k, r, e0, rfl, e2⟩
  · simp at h
  · refine ⟨.own false k 0 st.length 1, ?_, .inr ⟨k, x :: r, e0, rfl, ?_⟩⟩
    · have hat : (st ++ x :: r).getD st.length 0 = x := by simp [List.getD]
      have e2' : G[k]? = some (.cells false false (w64 (st ++ (x :: r)))) := by rw [e2]; simp
      have hlen : (st ++ [x]).length = st.length + 1 := by simp
      rw [hlen] at h2
      rw [a82i, a82]
      simp (maxSteps := 30000000) (disch := first | assumption | omega | (simp only [List.length_cons, List.length_nil, List.length_append, List.length_set, List.length_replicate, List.length_map, List.length_range, List.length_take, List.length_drop, List.all_cons, List.all_nil, AV.isCell, Bool.and_self, Bool.and_true, bs_length, is64_length, w64_length, ints_length, lfs_length, rls_length] <;> omega) | rfl | decide) only [List.cons_append, List.nil_append, bodyA_eq, List.length_cons, List.length_nil, Nat.zero_add, Nat.reduceAdd, Nat.reduceSub, pads, run_seq, run_region, runOps_cons, oper_none, ex_mov, opv, putK_to, List.set_cons_succ, List.set_cons_zero, opsK_some, runOps_nil, regK_some, seqK_normal, List.getD_cons_zero, ex_bin, List.getD_cons_succ, bin_lss, hc, decide_false, valK_some, run_cond, condK_bool, Bool.false_eq_true, ↓reduceIte, run_skip, ex_load, rd_ptr, h2, rdK_cells, List.drop_zero, List.take_succ_cons, List.take_nil, loadK_1, ex_len, lenA_own, bin_sub, csub1, Nat.add_sub_cancel, wr64, ex_iaddr, iaddrA_own, Int.toNat_natCast, Nat.mul_one, e2', w64_drop, w64_take, w64_at0, drop_getD, Nat.add_zero, hat, ex_slice, Option.map_none, Option.map_some, sliceA_own, bounds_ns, cutK_own, Nat.sub_zero, ex_store, AV.cells, wr_ptr, wrK_cells, splice, List.take_zero, List.drop_succ_cons, List.drop_nil, List.append_nil, storeK_some, putK_no, run_ret, bodyK_ret, results_1, res_tmp, retvK_some]
    · rw [List.getElem?_set_ne (by omega), e2]; simp
end Go.Abs.Tree
