/- useful; the new numbers. -/
import Derived.Test.YtijmhicopfphnaaDoorAL33
import Derived.Test.YtijmhicopfphnaaDoorAL28
namespace Go.Abs.Tree
open Go Go.Abs
set_option linter.unusedSimpArgs false
set_option linter.unusedVariables false

theorem step88 {n : Aut} {seen : Nat} (hl : n.rl.length < 1099511627776) (hb : RlOk n.rl) (hS : seen < 18446744073709551616) (s : Nat) (hs : s < 18446744073709551616) {G : Heap} (hG : G[0]? = some (.cells false false n.cells) ∧ G[1]? = some (.cells false false [.int .u64 (seen : Nat)])) :
    ∃ X, L.icall (.func 88 [.ptr 0 0, .ptr 1 0]) [.int .u64 (s : Nat)] G = some (.int .u64 (backM seen s n.rl : Nat), G ++ X) := by
  obtain ⟨h0, h1⟩ := hG
  obtain ⟨X, h⟩ := back_loop (z := n.z3) hl hb hS n.rl.length 0 s G (by omega) hs h1
  refine ⟨X, ?_⟩
  simp only [Int.natCast_zero, List.drop_zero] at h
  rw [a88i, a88]
  simp (maxSteps := 30000000) (disch := first | assumption | omega | (simp only [List.length_cons, List.length_nil, List.length_append, List.length_set, List.length_replicate, List.length_map, List.length_range, List.length_take, List.length_drop, List.all_cons, List.all_nil, AV.isCell, Bool.and_self, Bool.and_true, bs_length, is64_length, w64_length, ints_length, lfs_length, rls_length] <;> omega) | rfl | decide) only [List.cons_append, List.nil_append, bodyA_eq, List.length_cons, List.length_nil, Nat.zero_add, Nat.reduceAdd, Nat.reduceSub, pads, run_seq, run_region, runOps_cons, oper_none, ex_mov, opv, putK_to, List.set_cons_succ, List.set_cons_zero, opsK_some, runOps_nil, regK_some, seqK_normal, ex_faddr, List.getD_cons_succ, List.getD_cons_zero, faddrA_ptr, valK_some, ex_load, rd_ptr, h0, rdK_cells, List.drop_succ_cons, List.drop_zero, List.take_succ_cons, List.take_nil, loadK_1, ex_len, lenA_sl, run_block, run_loop, a88l0c, h, blockK_exit, ↓reduceIte, run_ret, bodyK_ret, results_1, res_tmp, retvK_some]

/-- what is known of the useful states -/
structure Use (n : Aut) (S w : Nat) : Prop where
  lt : w < 18446744073709551616
  slt : S < 18446744073709551616
  sfix : passM S n.rl = S
  semp : ∀ j, (wordM 0 n.st).testBit j = true → S.testBit j = true
  smin : ∀ U, Clo n.rl U → (∀ j, (wordM 0 n.st).testBit j = true → U j = true) → ∀ j, S.testBit j = true → U j = true
  wfix : CloB n.rl (fun j => S.testBit j) (fun j => w.testBit j)
  wfin : ∀ j, (wordM 0 n.fi).testBit j = true → S.testBit j = true → w.testBit j = true
  wmin : ∀ U, CloB n.rl (fun j => S.testBit j) U → (∀ j, (wordM 0 n.fi).testBit j = true → S.testBit j = true → U j = true) → ∀ j, w.testBit j = true → U j = true

theorem useful57 {n : Aut} (hT : TyA n) (hV : Valid n) : ∃ S w, L.pcall 57 [n.av] = some (.int .u64 (w : Nat)) ∧ Use n S w := by
  obtain ⟨S, s1, s2, s3, s4, s5⟩ := reach_word hT.rl (hV.ok hT) hT.st hV.sts
  have hw := word_eq n.z2 n.fi hT.fi hV.fis
  have hE := wordM_lt n.fi 0 (by omega) hV.fis
  have ha := and64 hE s2
  have hlt : wordM 0 n.fi &&& S < 18446744073709551616 := Nat.lt_of_le_of_lt Nat.and_le_left hE
  obtain ⟨w, X, w1, w2, w3, w4⟩ := fixed_icall (fv := .func 88 [.ptr 0 0, .ptr 1 0]) (M := fun s => backM S s n.rl) (Q := fun G => G[0]? = some (.cells false false n.cells) ∧ G[1]? = some (.cells false false [.int .u64 (S : Nat)])) ⟨_, _, rfl⟩ (fun G X h => show (G ++ X)[0]? = some (.cells false false n.cells) ∧ (G ++ X)[1]? = some (.cells false false [.int .u64 (S : Nat)]) from ⟨app_get h.1, app_get h.2⟩)
    (fun s G hs hG => step88 hT.rl (hV.ok hT) s2 s hs hG) (fun s hs => backM_lt S _ s hs (hV.ok hT)) (fun s => backM_le S _ s) (wordM 0 n.fi &&& S) [.cells false false n.cells, .cells false false [.int .u64 (S : Nat)]] hlt ⟨rfl, rfl⟩
  refine ⟨S, w, ?_, w2, s2, s3, s4, s5, backM_fix S _ _ w3, fun j h1 h2 => ?_, fun U hU hi => ?_⟩
  · rw [a57p, a57, pbodyA_eq]
    simp (maxSteps := 30000000) (disch := first | assumption | omega | (simp only [List.length_cons, List.length_nil, List.length_append, List.length_set, List.length_replicate, List.length_map, List.length_range, List.length_take, List.length_drop, List.all_cons, List.all_nil, AV.isCell, Bool.and_self, Bool.and_true, bs_length, is64_length, w64_length, ints_length, lfs_length, rls_length] <;> omega) | rfl | decide) only [bodyA_eq, List.length_cons, List.length_nil, Nat.zero_add, Nat.reduceSub, pads, List.cons_append, List.nil_append, run_seq, run_region, runOps_cons, oper_none, ex_box, AV.cells, opv, List.getD_cons_zero, List.all_cons, AV.isCell, List.all_nil, Bool.and_self, ↓reduceIte, putK_to, List.set_cons_succ, List.set_cons_zero, opsK_some, ex_mov, runOps_nil, regK_some, seqK_normal, ex_load, List.getD_cons_succ, rd_ptr, List.getElem?_cons_zero, rdK_cells, List.drop_zero, List.take_succ_cons, List.take_nil, loadK_n, valK_some, ex_call, List.map_cons, List.map_nil, pcallA_eq, frzN, List.mapM_cons, frz_agg, frz_int, frz_sl, List.mapM_nil, Option.pure_def, Option.bind_eq_bind, Option.bind_some, Option.map_some, argK_some, s1, retK_some, scal, scal1, ex_store, wr_ptr, List.getElem?_cons_succ, wrK_cells, splice, List.take_zero, List.drop_succ_cons, List.drop_nil, List.append_nil, storeK_some, putK_no, run_draw, runFree_cons, foper_none, fe_faddr, ex_faddr, faddrA_ptr, fstK_some, fputK_to, freeK_some, fe_load, loadK_1, fe_call, hw, quietK_some, quietCall, List.flatMap_cons, bor_sl, List.flatMap_nil, Bool.or_true, fe_bin, ex_bin, bin_and, ha, fe_mkfunc, ex_mkfunc, runFree_nil, drawK_some, adopt, adoptVal, ex_icall, w1, run_ret, bodyK_ret, results_1, res_tmp, retvK_some, pbodyK_some]
  · refine w4 (fun x => x.testBit j = true) (by simp [h1, h2]) (fun x hx => backM_sub _ _ _ _ hx)
  · refine w4 (fun x => ∀ j, x.testBit j = true → U j = true) (fun j hj => ?_) (fun x hx => backM_min S n.rl n.rl x U (fun _ h => h) hU hx)
    rw [Nat.testBit_and, Bool.and_eq_true] at hj
    exact hi j hj.1 hj.2

/-! the new numbers -/
def rnk (K : Nat → Bool) : Nat → Nat
  | 0 => 0
  | s + 1 => rnk K s + (if K s = true then 1 else 0)
def nums (K : Nat → Bool) (n : Nat) : List Int := (List.range n).map fun s => if K s = true then (rnk K s : Int) else -1
theorem nums_len (K : Nat → Bool) (n : Nat) : (nums K n).length = n := by simp [nums]
theorem rnk_le (K : Nat → Bool) : ∀ n, rnk K n ≤ n
  | 0 => Nat.le_refl _
  | n + 1 => by
    have := rnk_le K n
    rw [rnk]
    split <;> omega

theorem num_loop {b0 b1 : Blk} {w n : Nat} (hn : n ≤ 64) (hw : w < 18446744073709551616) : ∀ d i, i + d = n →
    L.loop a22l0s a22l0 ⟨a22l0F (.ptr 0 0) (.ptr 1 0) (.int .u64 (w : Nat)) (.own false 2 0 n 1) (.int .i64 (rnk (fun j => w.testBit j) i : Nat)) (.int .i64 (n : Nat)) (.int .i64 (i : Nat)), [b0, b1, .cells false false (ints (nums (fun j => w.testBit j) i ++ List.replicate d 0))]⟩ =
      some (.exit 0, ⟨a22l0F (.ptr 0 0) (.ptr 1 0) (.int .u64 (w : Nat)) (.own false 2 0 n 1) (.int .i64 (rnk (fun j => w.testBit j) n : Nat)) (.int .i64 (n : Nat)) (.int .i64 (n : Nat)), [b0, b1, .cells false false (ints (nums (fun j => w.testBit j) n))]⟩)
  | 0, i, h => by
    obtain rfl : i = n := by omega
    rw [List.replicate_zero, List.append_nil, a22l0n]
    simp (maxSteps := 30000000) (disch := first | assumption | omega | (simp only [List.length_cons, List.length_nil, List.length_append, List.length_set, List.length_replicate, List.length_map, List.length_range, List.length_take, List.length_drop, List.all_cons, List.all_nil, AV.isCell, Bool.and_self, Bool.and_true, bs_length, is64_length, w64_length, ints_length, lfs_length, rls_length] <;> omega) | rfl | decide) only [a22l0b, Int.reduceNeg, run_seq, run_region, runOps_cons, oper_none, ex_bin, opv, List.getD_cons_succ, List.getD_cons_zero, bin_lss, Int.lt_irrefl, decide_false, valK_some, putK_to, List.set_cons_succ, List.set_cons_zero, opsK_some, runOps_nil, regK_some, seqK_normal, run_cond, condK_bool, Bool.false_eq_true, ↓reduceIte, run_exit, seqK_exit, loopK_exit, a22l0c]
  | d + 1, i, h => by
    have hlt : (i : Int) < (n : Nat) := by omega
    have hl := nums_len (fun j => w.testBit j) i
    have hll : (nums (fun j => w.testBit j) i ++ List.replicate (d + 1) 0).length = n := by simp [hl]; omega
    have ih := num_loop (b0 := b0) (b1 := b1) hn hw d (i + 1) (by omega)
    have hset : ∀ v : Int, (nums (fun j => w.testBit j) i ++ List.replicate (d + 1) 0).set i v = nums (fun j => w.testBit j) i ++ v :: List.replicate d 0 := fun v => by
      rw [List.set_append_right _ _ (by omega), hl, Nat.sub_self, List.replicate_succ, List.set_cons_zero]
    have hset2 : ∀ v v' : Int, (nums (fun j => w.testBit j) i ++ v :: List.replicate d 0).set i v' = nums (fun j => w.testBit j) i ++ v' :: List.replicate d 0 := fun v v' => by
      rw [List.set_append_right _ _ (by omega), hl, Nat.sub_self, List.set_cons_zero]
    have hl2 : ∀ v : Int, (nums (fun j => w.testBit j) i ++ v :: List.replicate d 0).length = n := fun v => by simp [hl]; omega
    have hsh := shrN w (show i ≤ IntKind.u64.bits from by show _ ≤ 64; omega)
    have hb := bitA hw i
    have hr := rnk_le (fun j => w.testBit j) i
    have hnx : nums (fun j => w.testBit j) (i + 1) = nums (fun j => w.testBit j) i ++ [if w.testBit i = true then (rnk (fun j => w.testBit j) i : Int) else -1] := by simp [nums, List.range_succ]
    rw [hnx, rnk, List.append_assoc, List.cons_append, List.nil_append] at ih
    rw [a22l0n]
    by_cases c : w.testBit i = true
    · rw [if_pos c] at hb
      rw [if_pos c, if_pos c] at ih
      simp (maxSteps := 30000000) (disch := first | assumption | omega | (simp only [List.length_cons, List.length_nil, List.length_append, List.length_set, List.length_replicate, List.length_map, List.length_range, List.length_take, List.length_drop, List.all_cons, List.all_nil, AV.isCell, Bool.and_self, Bool.and_true, bs_length, is64_length, w64_length, ints_length, lfs_length, rls_length] <;> omega) | rfl | decide) only [a22l0b, Int.reduceNeg, run_seq, run_region, runOps_cons, oper_none, ex_bin, opv, List.getD_cons_succ, List.getD_cons_zero, bin_lss, hlt, decide_true, valK_some, putK_to, List.set_cons_succ, List.set_cons_zero, opsK_some, runOps_nil, regK_some, seqK_normal, run_cond, condK_bool, ↓reduceIte, run_skip, run_block, ex_mov, ex_iaddr, iaddrA_own, Int.toNat_natCast, Nat.mul_one, Nat.zero_add, ex_store, AV.cells, List.length_cons, List.length_nil, wr_ptr, List.getElem?_cons_succ, List.getElem?_cons_zero, wrK_cells, splice, ints_take, ints_drop, List.append_assoc, List.cons_append, List.nil_append, ints_put1, hset, storeK_some, putK_no, bin_shr, hsh, bin_and, hb, bin_neq, Int.reduceEq, decide_false, Bool.not_false, hset2, bin_add, cadd1, wr64, blockK_normal, loopK_normal, a22l0c, ih]
    · rw [if_neg c] at hb
      rw [if_neg c, if_neg c, Nat.add_zero] at ih
      simp (maxSteps := 30000000) (disch := first | assumption | omega | (simp only [List.length_cons, List.length_nil, List.length_append, List.length_set, List.length_replicate, List.length_map, List.length_range, List.length_take, List.length_drop, List.all_cons, List.all_nil, AV.isCell, Bool.and_self, Bool.and_true, bs_length, is64_length, w64_length, ints_length, lfs_length, rls_length] <;> omega) | rfl | decide) only [a22l0b, Int.reduceNeg, run_seq, run_region, runOps_cons, oper_none, ex_bin, opv, List.getD_cons_succ, List.getD_cons_zero, bin_lss, hlt, decide_true, valK_some, putK_to, List.set_cons_succ, List.set_cons_zero, opsK_some, runOps_nil, regK_some, seqK_normal, run_cond, condK_bool, ↓reduceIte, run_skip, run_block, ex_mov, ex_iaddr, iaddrA_own, Int.toNat_natCast, Nat.mul_one, Nat.zero_add, ex_store, AV.cells, List.length_cons, List.length_nil, wr_ptr, List.getElem?_cons_succ, List.getElem?_cons_zero, wrK_cells, splice, ints_take, ints_drop, List.append_assoc, List.cons_append, List.nil_append, ints_put1, hset, storeK_some, putK_no, bin_shr, hsh, bin_and, hb, bin_neq, Bool.not_true, Bool.false_eq_true, blockK_normal, bin_add, cadd1, wr64, loopK_normal, a22l0c, ih]

/-- the trimmed automaton -/
abbrev trA (n : Aut) (w s : Nat) (z1 z2 z3 : Bool) : Aut := ⟨n.vars, (rnk (fun j => w.testBit j) s : Nat), z1, mapL (nums (fun j => w.testBit j) s) n.st, z2, mapL (nums (fun j => w.testBit j) s) n.fi, z3, mapR (nums (fun j => w.testBit j) s) n.rl⟩

set_option maxRecDepth 20000 in
set_option maxHeartbeats 4000000 in
theorem trim22 {n : Aut} (hT : TyA n) : (chkE n ≠ 0 → L.pcall 22 [n.av] = some (.tup [.agg [.int .i64 0, .int .i64 0, .sl true 0 [], .sl true 0 [], .sl true 0 []], .int .i64 (chkE n)])) ∧
    (chkE n = 0 → ∃ S w z1 z2 z3, Use n S w ∧ L.pcall 22 [n.av] = some (.tup [(trA n w n.states.toNat z1 z2 z3).av, .int .i64 0])) := by
  have h1 := check_eq n hT.st hT.fi hT.rl hT.u8
  constructor
  · intro c
    generalize chkE n = e at *
    rw [a22p, a22, pbodyA_eq]
    simp (maxSteps := 30000000) (disch := first | assumption | omega | (simp only [List.length_cons, List.length_nil, List.length_append, List.length_set, List.length_replicate, List.length_map, List.length_range, List.length_take, List.length_drop, List.all_cons, List.all_nil, AV.isCell, Bool.and_self, Bool.and_true, bs_length, is64_length, w64_length, ints_length, lfs_length, rls_length] <;> omega) | rfl | decide) only [bodyA_eq, List.length_cons, List.length_nil, Nat.zero_add, Nat.reduceSub, pads, List.cons_append, List.nil_append, run_seq, run_region, runOps_cons, oper_none, ex_box, AV.cells, opv, List.getD_cons_zero, List.all_cons, AV.isCell, List.all_nil, Bool.and_self, ↓reduceIte, putK_to, List.set_cons_succ, List.set_cons_zero, opsK_some, ex_mov, runOps_nil, regK_some, seqK_normal, ex_load, List.getD_cons_succ, rd_ptr, List.getElem?_cons_zero, rdK_cells, List.drop_zero, List.take_succ_cons, List.take_nil, loadK_n, valK_some, ex_call, List.map_cons, List.map_nil, pcallA_eq, frzN, List.mapM_cons, frz_agg, frz_int, frz_sl, List.mapM_nil, Option.pure_def, Option.bind_eq_bind, Option.bind_some, Option.map_some, argK_some, h1, retK_some, scal, scal1, ex_bin, bin_neq, c, decide_false, Bool.not_false, run_cond, condK_bool, ex_build, fillA, ex_store, Nat.reduceAdd, wr_ptr, List.getElem?_cons_succ, wrK_cells, splice, List.take_zero, List.drop_succ_cons, List.drop_nil, List.append_nil, storeK_some, putK_no, run_ret, seqK_ret, bodyK_ret, results_2, resL_cons, res_cell, cellK_some, mkv_n, resK_some, res_tmp, resL_nil, retvK_some, pbodyK_some, frz_tup]
  · intro c
    have hV := chkE_zero.1 c
    rw [c] at h1
    obtain ⟨S, w, u1, u2⟩ := useful57 hT hV
    obtain ⟨s, hs⟩ : ∃ s : Nat, n.states = (s : Nat) := ⟨n.states.toNat, by have := hV.s0; omega⟩
    have hs64 : s ≤ 64 := by have := hV.s64; omega
    have hts : n.states.toNat = s := by omega
    have nl := nums_len (fun j => w.testBit j) s
    have hn := num_loop (b0 := .cells false false n.cells) (b1 := .cells false false [.int .i64 0, .int .i64 0, .sl true 0 [], .sl true 0 [], .sl true 0 []]) hs64 u2.lt s 0 (by omega)
    have hn0 : ints (nums (fun j => w.testBit j) 0 ++ List.replicate s 0) = is64 (List.replicate s 0) := by simp [nums, ints, is64]
    rw [hn0, rnk, Int.natCast_zero] at hn
    obtain ⟨z1, z2, z3, hm⟩ := mapped58 n false (nums (fun j => w.testBit j) s) hT.st hT.fi hT.rl (by rw [nl]; intro q hq; have := ascB_mem hV.st q hq; omega) (by rw [nl]; intro q hq; have := ascB_mem hV.fi q hq; omega) (by rw [nl]; intro u hu; have := hV.rule u hu; omega)
    refine ⟨S, w, z1, z2, z3, u2, ?_⟩
    rw [hts]
    unfold iw at hm
    rw [nl] at hm
    have htk : List.take s (nums (fun j => w.testBit j) s) = nums (fun j => w.testBit j) s := List.take_of_length_le (by omega)
    have hrk := rnk_le (fun j => w.testBit j) s
    simp only [mapA, trA, Aut.av, Aut.cells] at hm h1 u1 hn ⊢
    rw [hs] at hm h1 u1 hn ⊢
    generalize mapL (nums (fun j => w.testBit j) s) n.st = l1 at *
    generalize mapL (nums (fun j => w.testBit j) s) n.fi = l2 at *
    generalize mapR (nums (fun j => w.testBit j) s) n.rl = l3 at *
    generalize rnk (fun j => w.testBit j) s = r at *
    rw [a22p, a22, pbodyA_eq]
    simp (maxSteps := 30000000) (disch := first | assumption | omega | (simp only [List.length_cons, List.length_nil, List.length_append, List.length_set, List.length_replicate, List.length_map, List.length_range, List.length_take, List.length_drop, List.all_cons, List.all_nil, AV.isCell, Bool.and_self, Bool.and_true, bs_length, is64_length, w64_length, ints_length, lfs_length, rls_length] <;> omega) | rfl | decide) only [bodyA_eq, List.length_cons, List.length_nil, Nat.zero_add, Nat.reduceSub, pads, List.cons_append, List.nil_append, run_seq, run_region, runOps_cons, oper_none, ex_box, AV.cells, opv, List.getD_cons_zero, List.all_cons, AV.isCell, List.all_nil, Bool.and_self, ↓reduceIte, putK_to, List.set_cons_succ, List.set_cons_zero, opsK_some, ex_mov, runOps_nil, regK_some, seqK_normal, ex_load, List.getD_cons_succ, rd_ptr, List.getElem?_cons_zero, rdK_cells, List.drop_zero, List.take_succ_cons, List.take_nil, loadK_n, valK_some, ex_call, List.map_cons, List.map_nil, pcallA_eq, frzN, List.mapM_cons, frz_agg, frz_int, frz_sl, List.mapM_nil, Option.pure_def, Option.bind_eq_bind, Option.bind_some, Option.map_some, argK_some, h1, retK_some, scal, scal1, ex_bin, bin_neq, decide_true, Bool.not_true, run_cond, condK_bool, Bool.false_eq_true, run_skip, u1, ex_faddr, faddrA_ptr, List.drop_succ_cons, List.take_zero, loadK_1, ex_mkslice, mksK_int, Int.toNat_natCast, repz_is64, newA_own, Nat.reduceAdd, ex_len, lenA_own, run_block, run_loop, a22l0c, hn, blockK_exit, frz_own, List.getElem?_cons_succ, frzK_cells, Nat.mul_one, ints_take, htk, frz_ints, slK_some, hm, Bool.and_true, Bool.and_false, fzIds, List.flatMap_cons, bor_agg, bor_int, bor_sl, List.flatMap_nil, List.append_nil, bor_own, borK_cells, bor_ints, List.foldl_cons, List.modify_cons, Nat.reduceEqDiff, fzBlk, List.foldl_nil, ex_store, wr_ptr, wrK_cells, splice, List.drop_nil, storeK_some, putK_no, run_ret, bodyK_ret, results_2, resL_cons, res_cell, cellK_some, mkv_n, resK_some, res_tmp, resL_nil, retvK_some, pbodyK_some, frz_tup]
end Go.Abs.Tree
