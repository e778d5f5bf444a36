/- after, Run, Accepts. -/
import Derived.Test.YtbfnjdhafgnlnaaDoorAN4
namespace Go.Abs.NfaD
open Go Go.Abs
set_option linter.unusedSimpArgs false
set_option linter.unusedVariables false

/-- after's frame within its range -/
abbrev F56 (s0 s1 s2 s3 s5 s7 s8 s9 s10 s11 s12 s13 s14 s15 s16 s17 s18 s19 s20 : AV) : List AV := [s0, s1, s2, s3, .ptr 1 0, s5, .ptr 2 0, s7, s8, s9, s10, s11, s12, s13, s14, s15, s16, s17, s18, s19, s20]

section
variable (s0 s1 s2 s3 s5 s7 s8 s9 s10 s11 s12 s13 s14 s15 s16 s17 s18 s19 s20 : AV)
abbrev H56 (n : Aut) (x : Nat) (sS out : AV) (T : Heap) : Heap := .cells false false n.cells :: .cells false false [sS] :: .cells false false [out] :: .cells false false n.cells :: .cells false false [.int .u8 (x : Nat)] :: .loop 0 none (F56 s0 s1 s2 s3 s5 s7 s8 s9 s10 s11 s12 s13 s14 s15 s16 s17 s18 s19 s20) [11] a61r0a a61r0 :: T

theorem round56 (n : Aut) (x : Nat) {zs zo : Bool} {ls lo : List Nat} {S So : Nat → Bool} (e : Ed) (T : Heap) (hS : HasSet (sw zs ls) S) (ho : HasSet (sw zo lo) So) (h1 : 0 ≤ e.a ∧ e.a < 4096) (h2 : 0 ≤ e.b ∧ e.b < 4096) :
    ∃ zo' lo', L.icall (.yield 5) [.agg (encE e)] (H56 s0 s1 s2 s3 s5 s7 s8 s9 s10 s11 s12 s13 s14 s15 s16 s17 s18 s19 s20 n x (sw zs ls) (sw zo lo) T) = some (.bool true, H56 s0 s1 s2 s3 s5 s7 s8 s9 s10 s11 s12 s13 s14 s15 s16 s17 s18 s19 s20 n x (sw zs ls) (sw zo' lo') (T ++ [.cells false false (encE e)])) ∧ HasSet (sw zo' lo') (fun j => So j || (S e.a.toNat && decide (j = e.b.toNat))) := by
  have hh := has_hasI hS e.a h1.1 h1.2
  obtain ⟨z', l', hw, hw2⟩ := with_hasI ho e.b h2.1 h2.2
  cases c : S e.a.toNat with
  | false =>
    rw [c] at hh
    refine ⟨zo, lo, ?_, ho.congr (fun j => by simp)⟩
    rw [lim_round_eq, roundA_eq (hH := rfl) (h1 := rfl) (h2 := rfl) (h3 := rfl)]
    simp (maxSteps := 30000000) (disch := first | assumption | omega | (simp only [List.length_cons, List.length_nil, List.length_append, List.length_set, List.length_replicate, List.length_map, List.length_range, List.length_take, List.length_drop, List.all_cons, List.all_nil, AV.isCell, Bool.and_self, Bool.and_true, bs_length, is64_length, w64_length, ints_length, edges_length] <;> omega) | rfl | decide) only [encE, List.zip_cons_cons, List.zip_nil_right, List.foldl_cons, List.set_cons_succ, List.set_cons_zero, List.foldl_nil, a61r0an, a61r0ab, run_region, runOps_cons, oper_none, ex_box, AV.cells, opv, List.all_cons, AV.isCell, List.all_nil, Bool.and_self, List.length_cons, List.cons_append, if_true, putK_to, opsK_some, ex_store, List.getD_cons_succ, List.getD_cons_zero, List.length_nil, Nat.zero_add, Nat.reduceAdd, wr_ptr, List.getElem?_cons_succ, hget0, List.getElem?_cons_zero, wrK_cells, splice, List.take_zero, List.nil_append, List.drop_succ_cons, List.drop_nil, List.append_nil, hset0, storeK_some, putK_no, runOps_nil, regK_some, roundAsg_normal, roundMid_some, a61r0n, a61r0b, run_block, run_seq, ex_load, rd_ptr, rdK_cells, List.drop_zero, List.take_succ_cons, List.take_nil, loadK_1, valK_some, ex_faddr, faddrA_ptr, Nat.add_zero, ex_call, List.map_cons, List.map_nil, pcallA_eq, frzN, List.mapM_cons, frz_sl, frz_int, List.mapM_nil, Option.pure_def, Option.bind_eq_bind, Option.bind_some, argK_some, hh, retK_some, scal, scal1, fzIds, List.flatMap_cons, bor_sl, bor_int, List.flatMap_nil, ite_self, seqK_normal, run_cond, condK_bool, Bool.false_eq_true, run_skip, if_false, blockK_normal, roundBody_some, roundEnd_normal]
  | true =>
    rw [c] at hh
    refine ⟨z', l', ?_, hw2.congr (fun j => by simp)⟩
    rw [lim_round_eq, roundA_eq (hH := rfl) (h1 := rfl) (h2 := rfl) (h3 := rfl)]
    simp (maxSteps := 30000000) (disch := first | assumption | omega | (simp only [List.length_cons, List.length_nil, List.length_append, List.length_set, List.length_replicate, List.length_map, List.length_range, List.length_take, List.length_drop, List.all_cons, List.all_nil, AV.isCell, Bool.and_self, Bool.and_true, bs_length, is64_length, w64_length, ints_length, edges_length] <;> omega) | rfl | decide) only [encE, List.zip_cons_cons, List.zip_nil_right, List.foldl_cons, List.set_cons_succ, List.set_cons_zero, List.foldl_nil, a61r0an, a61r0ab, run_region, runOps_cons, oper_none, ex_box, AV.cells, opv, List.all_cons, AV.isCell, List.all_nil, Bool.and_self, List.length_cons, List.cons_append, if_true, putK_to, opsK_some, ex_store, List.getD_cons_succ, List.getD_cons_zero, List.length_nil, Nat.zero_add, Nat.reduceAdd, wr_ptr, List.getElem?_cons_succ, hget0, List.getElem?_cons_zero, wrK_cells, splice, List.take_zero, List.nil_append, List.drop_succ_cons, List.drop_nil, List.append_nil, hset0, storeK_some, putK_no, runOps_nil, regK_some, roundAsg_normal, roundMid_some, a61r0n, a61r0b, run_block, run_seq, ex_load, rd_ptr, rdK_cells, List.drop_zero, List.take_succ_cons, List.take_nil, loadK_1, valK_some, ex_faddr, faddrA_ptr, Nat.add_zero, ex_call, List.map_cons, List.map_nil, pcallA_eq, frzN, List.mapM_cons, frz_sl, frz_int, List.mapM_nil, Option.pure_def, Option.bind_eq_bind, Option.bind_some, argK_some, hh, retK_some, scal, scal1, fzIds, List.flatMap_cons, bor_sl, bor_int, List.flatMap_nil, ite_self, seqK_normal, run_cond, condK_bool, hw, Bool.false_eq_true, run_skip, blockK_normal, roundBody_some, roundEnd_normal]

def stepE (x : Nat) (S : Nat → Bool) (j : Nat) (e : Ed) : Bool := hasB e.p e.n x && S e.a.toNat && decide (j = e.b.toNat)
def stepS (ed : List Ed) (S : Nat → Bool) (x : Nat) (j : Nat) : Bool := ed.any (stepE x S j)

/-- edges between states -/
def EdOk (l : List Ed) : Prop := ∀ e ∈ l, (0 ≤ e.a ∧ e.a < 4096) ∧ (0 ≤ e.b ∧ e.b < 4096) ∧ e.p < 256 ∧ e.n < 256

theorem loop77 {n : Aut} {x : Nat} {zs : Bool} {ls : List Nat} {S : Nat → Bool} (hx : x < 256) (hS : HasSet (sw zs ls) S) (hl : n.ed.length < 1099511627776) (hb : EdOk n.ed) : ∀ d i zo lo So T, i + d = n.ed.length → HasSet (sw zo lo) So →
    ∃ zo' lo' T', L.loop a86l0s a86l0 ⟨a86l0F (.yield 5) (.ptr 4 0) (.sl n.z3 n.ed.length (edges n.ed)) (.int .i64 (n.ed.length : Nat)) (.int .i64 (i : Nat)), H56 s0 s1 s2 s3 s5 s7 s8 s9 s10 s11 s12 s13 s14 s15 s16 s17 s18 s19 s20 n x (sw zs ls) (sw zo lo) T⟩ =
      some (.exit 0, ⟨a86l0F (.yield 5) (.ptr 4 0) (.sl n.z3 n.ed.length (edges n.ed)) (.int .i64 (n.ed.length : Nat)) (.int .i64 (n.ed.length : Nat)), H56 s0 s1 s2 s3 s5 s7 s8 s9 s10 s11 s12 s13 s14 s15 s16 s17 s18 s19 s20 n x (sw zs ls) (sw zo' lo') T'⟩) ∧ HasSet (sw zo' lo') (fun j => So j || (n.ed.drop i).any (stepE x S j))
  | 0, i, zo, lo, So, T, h, ho => by
    obtain rfl : i = n.ed.length := by omega
    refine ⟨zo, lo, T, ?_, ho.congr (fun j => by simp)⟩
    rw [a86l0n]
    simp (maxSteps := 30000000) (disch := first | assumption | omega | (simp only [List.length_cons, List.length_nil, List.length_append, List.length_set, List.length_replicate, List.length_map, List.length_range, List.length_take, List.length_drop, List.all_cons, List.all_nil, AV.isCell, Bool.and_self, Bool.and_true, bs_length, is64_length, w64_length, ints_length, edges_length] <;> omega) | rfl | decide) only [a86l0b, run_seq, run_region, runOps_cons, oper_none, ex_bin, opv, List.getD_cons_succ, List.getD_cons_zero, bin_lss, Int.lt_irrefl, decide_false, valK_some, putK_to, List.set_cons_succ, List.set_cons_zero, opsK_some, runOps_nil, regK_some, seqK_normal, run_cond, condK_bool, Bool.false_eq_true, run_skip, run_exit, if_false, seqK_exit, loopK_exit, a86l0c]
  | d + 1, i, zo, lo, So, T, h, ho => by
    have hlt : (i : Int) < (n.ed.length : Nat) := by omega
    have hm := hb _ (getE_mem (by omega : i < n.ed.length))
    have hc := cubeHas (n.ed.getD i e0).p (n.ed.getD i e0).n x hm.2.2.1 hm.2.2.2 hx
    rw [drop_getE (by omega : i < n.ed.length)]
    cases c : hasB (n.ed.getD i e0).p (n.ed.getD i e0).n x with
    | false =>
      rw [c] at hc
      obtain ⟨z1, l1, T1, g1, g2⟩ := loop77 hx hS hl hb d (i + 1) zo lo So (T ++ [.cells false false (encE (n.ed.getD i e0))]) (by omega) ho
      refine ⟨z1, l1, T1, ?_, g2.congr (fun j => by rw [List.any_cons, show stepE x S j (n.ed.getD i e0) = false from by unfold stepE; rw [c]; rfl, Bool.false_or])⟩
      simp only [encE] at g1
      rw [a86l0n]
      simp (maxSteps := 30000000) (disch := first | assumption | omega | (simp only [List.length_cons, List.length_nil, List.length_append, List.length_set, List.length_replicate, List.length_map, List.length_range, List.length_take, List.length_drop, List.all_cons, List.all_nil, AV.isCell, Bool.and_self, Bool.and_true, bs_length, is64_length, w64_length, ints_length, edges_length] <;> omega) | rfl | decide) only [a86l0b, run_seq, run_region, runOps_cons, oper_none, ex_bin, opv, List.getD_cons_succ, List.getD_cons_zero, bin_lss, hlt, decide_true, valK_some, putK_to, List.set_cons_succ, List.set_cons_zero, opsK_some, runOps_nil, regK_some, seqK_normal, run_cond, condK_bool, run_skip, run_exit, if_true, run_block, ex_iaddr, iaddrA_sl, Int.toNat_natCast, ex_load, rd_vptr, edges_at, loadK_n, ex_box, AV.cells, List.all_cons, AV.isCell, List.all_nil, Bool.and_self, List.length_cons, List.cons_append, ex_store, List.length_nil, Nat.zero_add, Nat.reduceAdd, wr_ptr, List.getElem?_cons_succ, hget0, List.getElem?_cons_zero, wrK_cells, splice, List.take_zero, List.nil_append, List.drop_succ_cons, List.drop_nil, List.append_nil, hset0, storeK_some, putK_no, ex_faddr, faddrA_ptr, rd_ptr, rdK_cells, List.drop_zero, List.take_succ_cons, loadK_1, List.take_nil, ex_build, beq_self_eq_true, List.map_cons, List.map_nil, fillA, Nat.reduceLeDiff, and_self, Nat.le_refl, Option.map_some, ex_call, pcallA_eq, frzN, List.mapM_cons, frz_agg, frz_int, List.mapM_nil, Option.pure_def, Option.bind_eq_bind, Option.bind_some, argK_some, hc, retK_some, scal, scal1, fzIds, List.flatMap_cons, bor_agg, bor_int, List.flatMap_nil, List.foldl_nil, ite_self, ex_mov, oper_guard, guardK_bool, Bool.false_eq_true, putA_to, if_false, ex_icall, ex_un, ex_pick, pickA_bool, run_ret, blockK_normal, bin_add, cadd1, wr64, loopK_normal, a86l0c, g1]
    | true =>
      rw [c] at hc
      obtain ⟨z1, l1, g1, g2⟩ := round56 s0 s1 s2 s3 s5 s7 s8 s9 s10 s11 s12 s13 s14 s15 s16 s17 s18 s19 s20 n x (n.ed.getD i e0) (T ++ [.cells false false (encE (n.ed.getD i e0))]) hS ho hm.1 hm.2.1
      obtain ⟨z2, l2, T2, g3, g4⟩ := loop77 hx hS hl hb d (i + 1) z1 l1 _ _ (by omega) g2
      refine ⟨z2, l2, T2, ?_, g4.congr (fun j => by rw [List.any_cons, ← Bool.or_assoc, show stepE x S j (n.ed.getD i e0) = (S (n.ed.getD i e0).a.toNat && decide (j = (n.ed.getD i e0).b.toNat)) from by unfold stepE; rw [c, Bool.true_and]])⟩
      simp only [encE] at g1 g3
      rw [a86l0n]
      simp only [List.append_assoc, List.cons_append, List.nil_append] at g1 g3
      simp (maxSteps := 30000000) (disch := first | assumption | omega | (simp only [List.length_cons, List.length_nil, List.length_append, List.length_set, List.length_replicate, List.length_map, List.length_range, List.length_take, List.length_drop, List.all_cons, List.all_nil, AV.isCell, Bool.and_self, Bool.and_true, bs_length, is64_length, w64_length, ints_length, edges_length] <;> omega) | rfl | decide) only [a86l0b, run_seq, run_region, runOps_cons, oper_none, ex_bin, opv, List.getD_cons_succ, List.getD_cons_zero, bin_lss, hlt, decide_true, valK_some, putK_to, List.set_cons_succ, List.set_cons_zero, opsK_some, runOps_nil, regK_some, seqK_normal, run_cond, condK_bool, run_skip, run_exit, if_true, run_block, ex_iaddr, iaddrA_sl, Int.toNat_natCast, ex_load, rd_vptr, edges_at, loadK_n, ex_box, AV.cells, List.all_cons, AV.isCell, List.all_nil, Bool.and_self, List.length_cons, List.cons_append, ex_store, List.length_nil, Nat.zero_add, Nat.reduceAdd, wr_ptr, List.getElem?_cons_succ, hget0, List.getElem?_cons_zero, wrK_cells, splice, List.take_zero, List.nil_append, List.drop_succ_cons, List.drop_nil, List.append_nil, hset0, storeK_some, putK_no, ex_faddr, faddrA_ptr, rd_ptr, rdK_cells, List.drop_zero, List.take_succ_cons, loadK_1, List.take_nil, ex_build, beq_self_eq_true, List.map_cons, List.map_nil, fillA, Nat.reduceLeDiff, and_self, Nat.le_refl, Option.map_some, ex_call, pcallA_eq, frzN, List.mapM_cons, frz_agg, frz_int, List.mapM_nil, Option.pure_def, Option.bind_eq_bind, Option.bind_some, argK_some, hc, retK_some, scal, scal1, fzIds, List.flatMap_cons, bor_agg, bor_int, List.flatMap_nil, List.foldl_nil, ite_self, ex_mov, oper_guard, guardK_bool, putA_to, ex_icall, g1, ex_un, un_not, Bool.not_true, ex_pick, pickA_bool, Bool.false_eq_true, run_ret, if_false, blockK_normal, bin_add, cadd1, wr64, loopK_normal, a86l0c]
      exact g3

theorem range56 {n : Aut} {x : Nat} {zs : Bool} {ls : List Nat} {S : Nat → Bool} (hx : x < 256) (hS : HasSet (sw zs ls) S) (hl : n.ed.length < 1099511627776) (hb : EdOk n.ed) :
    ∃ zo lo T, L.icall (.func 86 [.ptr 3 0, .ptr 4 0]) [.yield 5] (H56 s0 s1 s2 s3 s5 s7 s8 s9 s10 s11 s12 s13 s14 s15 s16 s17 s18 s19 s20 n x (sw zs ls) (.sl true 0 []) []) = some (.tup [], H56 s0 s1 s2 s3 s5 s7 s8 s9 s10 s11 s12 s13 s14 s15 s16 s17 s18 s19 s20 n x (sw zs ls) (sw zo lo) T) ∧ HasSet (sw zo lo) (stepS n.ed S x) := by
  obtain ⟨zo, lo, T, h1, h2⟩ := loop77 s0 s1 s2 s3 s5 s7 s8 s9 s10 s11 s12 s13 s14 s15 s16 s17 s18 s19 s20 hx hS hl hb n.ed.length 0 true [] _ [] (by omega) (empty_has (z := true))
  refine ⟨zo, lo, T, ?_, h2.congr (fun j => by simp [stepS])⟩
  simp only [Int.natCast_zero] at h1
  change L.loop a86l0s a86l0 ⟨_, H56 s0 s1 s2 s3 s5 s7 s8 s9 s10 s11 s12 s13 s14 s15 s16 s17 s18 s19 s20 n x (sw zs ls) (.sl true 0 []) []⟩ = _ at h1
  rw [a86i, a86]
  simp (maxSteps := 30000000) (disch := first | assumption | omega | (simp only [List.length_cons, List.length_nil, List.length_append, List.length_set, List.length_replicate, List.length_map, List.length_range, List.length_take, List.length_drop, List.all_cons, List.all_nil, AV.isCell, Bool.and_self, Bool.and_true, bs_length, is64_length, w64_length, ints_length, edges_length] <;> omega) | rfl | decide) only [List.cons_append, List.nil_append, bodyA_eq, List.length_cons, List.length_nil, Nat.zero_add, Nat.reduceAdd, Nat.reduceSub, pads, run_seq, run_region, runOps_cons, oper_none, ex_faddr, opv, List.getD_cons_succ, List.getD_cons_zero, faddrA_ptr, valK_some, putK_to, List.set_cons_succ, List.set_cons_zero, opsK_some, ex_load, rd_ptr, List.getElem?_cons_succ, List.getElem?_cons_zero, rdK_cells, List.drop_succ_cons, List.drop_zero, List.take_succ_cons, List.take_nil, loadK_1, ex_len, lenA_sl, ex_mov, runOps_nil, regK_some, seqK_normal, run_block, run_loop, a86l0c, h1, blockK_exit, if_true, bodyK_normal, results_0, retvK_some]
end

theorem match69 (n : Aut) (x : Nat) (H : Heap) : L.icall (.func 76 []) [n.av, .int .u8 (x : Nat)] H = some (.func 86 [.ptr H.length 0, .ptr (H.length + 1) 0], H ++ [.cells false false n.cells, .cells false false [.int .u8 (x : Nat)]]) := by
  rw [a76i, a76]
  simp (maxSteps := 30000000) (disch := first | assumption | omega | (simp only [List.length_cons, List.length_nil, List.length_append, List.length_set, List.length_replicate, List.length_map, List.length_range, List.length_take, List.length_drop, List.all_cons, List.all_nil, AV.isCell, Bool.and_self, Bool.and_true, bs_length, is64_length, w64_length, ints_length, edges_length] <;> omega) | rfl | decide) only [List.append_nil, bodyA_eq, List.length_cons, List.length_nil, Nat.zero_add, Nat.reduceAdd, Nat.reduceSub, pads, List.cons_append, List.nil_append, run_seq, run_region, runOps_cons, oper_none, ex_box, AV.cells, opv, List.getD_cons_zero, List.all_cons, AV.isCell, List.all_nil, Bool.and_self, if_true, putK_to, List.set_cons_succ, List.set_cons_zero, opsK_some, List.getD_cons_succ, List.length_append, List.append_assoc, ex_mov, runOps_nil, regK_some, seqK_normal, ex_mkfunc, List.map_cons, List.map_nil, run_ret, bodyK_ret, results_1, res_tmp, retvK_some]

theorem after_has {n : Aut} {x : Nat} {zs : Bool} {ls : List Nat} {S : Nat → Bool} (hx : x < 256) (hS : HasSet (sw zs ls) S) (hl : n.ed.length < 1099511627776) (hb : EdOk n.ed) :
    ∃ z r, L.pcall 61 [n.av, sw zs ls, .int .u8 (x : Nat)] = some (sw z r) ∧ HasSet (sw z r) (stepS n.ed S x) := by
  have hr := fun s0 s1 s2 s3 s5 s7 s8 s9 s10 s11 s12 s13 s14 s15 s16 s17 s18 s19 s20 => range56 s0 s1 s2 s3 s5 s7 s8 s9 s10 s11 s12 s13 s14 s15 s16 s17 s18 s19 s20 hx hS hl hb
  have hm := match69 n x [.cells false false n.cells, .cells false false [sw zs ls], .cells false false [.sl true 0 []]]
  obtain ⟨zo, lo, T, h1, h2⟩ := hr n.av (sw zs ls) (.int .u8 (x : Nat)) (.ptr 0 0) (.tup []) (.tup []) n.av (.int .u8 (x : Nat)) (.func 86 [.ptr 3 0, .ptr 4 0]) (.tup []) (.tup []) (.tup []) (.tup []) (.tup []) (.tup []) (.tup []) (.tup []) (.tup []) (.tup [])
  refine ⟨zo, lo, ?_, h2⟩
  rw [a61p, a61, pbodyA_eq]
  simp (maxSteps := 30000000) (disch := first | assumption | omega | (simp only [List.length_cons, List.length_nil, List.length_append, List.length_set, List.length_replicate, List.length_map, List.length_range, List.length_take, List.length_drop, List.all_cons, List.all_nil, AV.isCell, Bool.and_self, Bool.and_true, bs_length, is64_length, w64_length, ints_length, edges_length] <;> omega) | rfl | decide) only [bodyA_eq, List.length_cons, List.length_nil, Nat.zero_add, Nat.reduceAdd, Nat.reduceSub, pads, List.cons_append, List.nil_append, run_seq, run_region, runOps_cons, oper_none, ex_box, AV.cells, opv, List.getD_cons_zero, List.all_cons, AV.isCell, List.all_nil, Bool.and_self, if_true, putK_to, List.set_cons_succ, List.set_cons_zero, opsK_some, List.getD_cons_succ, runOps_nil, regK_some, seqK_normal, ex_load, rd_ptr, List.getElem?_cons_zero, rdK_cells, List.drop_zero, List.take_succ_cons, List.take_nil, loadK_n, valK_some, ex_mov, ex_icall, List.map_cons, List.map_nil, hm, run_block, run_range, rangeK_func, h1, rangeEnd_some, List.getElem?_cons_succ, rangeOut_0, blockK_normal, loadK_1, ex_store, wr_ptr, wrK_cells, splice, List.take_zero, List.drop_succ_cons, List.drop_nil, List.append_nil, storeK_some, putK_no, run_ret, bodyK_ret, results_1, res_cell, cellK_some, mkv_1, retvK_some, pbodyK_some, frzN, frz_sl]
end Go.Abs.NfaD
