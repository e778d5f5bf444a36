/- closed, Reachable, Productive, Letters, After. -/
import Derived.Test.YtbfnjdhafgnlnaaDoorAN12
namespace Go.Abs.NfaD
open Go Go.Abs
set_option linter.unusedSimpArgs false
set_option linter.unusedVariables false

def Clo (ed : List Ed) (U : Nat → Bool) : Prop := ∀ e ∈ ed, U e.a.toNat = true → U e.b.toNat = true
def Sub (S U : Nat → Bool) : Prop := ∀ j, S j = true → U j = true

/-- how many numbers below n are missing -/
def cnt (S : Nat → Bool) : Nat → Nat
  | 0 => 0
  | n + 1 => cnt S n + (if S n = true then 0 else 1)

theorem cnt_le {S U : Nat → Bool} (h : Sub S U) : ∀ n, cnt U n ≤ cnt S n
  | 0 => Nat.le_refl _
  | n + 1 => by
    have := cnt_le h n
    unfold cnt
    by_cases hs : S n = true
    · rw [if_pos hs, if_pos (h n hs)]; omega
    · rw [if_neg hs]; split <;> omega

theorem cnt_lt {S U : Nat → Bool} (h : Sub S U) {j : Nat} (h1 : U j = true) (h2 : S j = false) : ∀ n, j < n → cnt U n < cnt S n
  | 0, hj => by omega
  | n + 1, hj => by
    unfold cnt
    rcases Nat.lt_or_ge j n with q | q
    · have := cnt_lt h h1 h2 n q
      by_cases hs : S n = true
      · rw [if_pos hs, if_pos (h n hs)]; omega
      · rw [if_neg hs]; split <;> omega
    · obtain rfl : j = n := by omega
      have := cnt_le h j
      rw [if_pos h1, if_neg (by rw [h2]; exact Bool.noConfusion)]
      omega

abbrev Hc (z : Bool) (l : List Ed) (sS : AV) (T : Heap) : Heap := .cells false false [sS] :: .cells false false [.sl z l.length (edges l)] :: T

theorem pass_loop {z : Bool} {l : List Ed} (hl : l.length < 1099511627776) (hb : EdOk l) : ∀ d i zs ls S b T, i + d = l.length → HasSet (sw zs ls) S →
    ∃ zs' ls' S' b' T', L.loop a66l0s a66l0 ⟨a66l0F (.ptr 0 0) (.bool b) (.sl z l.length (edges l)) (.int .i64 (l.length : Nat)) (.int .i64 (i : Nat)), Hc z l (sw zs ls) T⟩ =
      some (.exit 0, ⟨a66l0F (.ptr 0 0) (.bool b') (.sl z l.length (edges l)) (.int .i64 (l.length : Nat)) (.int .i64 (l.length : Nat)), Hc z l (sw zs' ls') T'⟩) ∧
      HasSet (sw zs' ls') S' ∧ Sub S S' ∧ (∀ U, Clo l U → Sub S U → Sub S' U) ∧
      (b' = false → b = false ∧ (∀ j, S' j = S j) ∧ ∀ e ∈ l.drop i, S e.a.toNat = true → S e.b.toNat = true) ∧
      (b' = true → b = true ∨ ∃ j, S' j = true ∧ S j = false)
  | 0, i, zs, ls, S, b, T, h, hS => by
    obtain rfl : i = l.length := by omega
    refine ⟨zs, ls, S, b, T, ?_, hS, fun j hj => hj, fun U _ h => h, fun hb => ⟨hb, fun _ => rfl, fun e he => ?_⟩, fun h => .inl h⟩
    · rw [a66l0n]
      simp (maxSteps := 30000000) (disch := first | assumption | omega | (simp only [List.length_cons, List.length_nil, List.length_append, List.length_set, List.length_replicate, List.length_map, List.length_range, List.length_take, List.length_drop, List.all_cons, List.all_nil, AV.isCell, Bool.and_self, Bool.and_true, bs_length, is64_length, w64_length, ints_length, edges_length] <;> omega) | rfl | decide) only [a66l0b, run_seq, run_region, runOps_cons, oper_none, ex_bin, opv, List.getD_cons_succ, List.getD_cons_zero, bin_lss, Int.lt_irrefl, decide_false, valK_some, putK_to, List.set_cons_succ, List.set_cons_zero, opsK_some, runOps_nil, regK_some, seqK_normal, run_cond, condK_bool, Bool.false_eq_true, run_skip, run_exit, if_false, seqK_exit, loopK_exit, a66l0c]
    · rw [List.drop_length] at he
      simp at he
  | d + 1, i, zs, ls, S, b, T, h, hS => by
    have hlt : (i : Int) < (l.length : Nat) := by omega
    have hmem := getE_mem (by omega : i < l.length)
    have hm := hb _ hmem
    have ha := has_hasI hS (l.getD i e0).a hm.1.1 hm.1.2
    have hbb := has_hasI hS (l.getD i e0).b hm.2.1.1 hm.2.1.2
    cases ca : S (l.getD i e0).a.toNat with
    | false =>
      rw [ca] at ha
      obtain ⟨z1, l1, S1, b1, T1, g1, g2, g3, g4, g5, g6⟩ := pass_loop (z := z) hl hb d (i + 1) zs ls S b (T ++ [.cells false false (encE (l.getD i e0))]) (by omega) hS
      refine ⟨z1, l1, S1, b1, T1, ?_, g2, g3, g4, fun hf => ⟨(g5 hf).1, (g5 hf).2.1, fun e he => ?_⟩, g6⟩
      · simp only [encE] at g1
        rw [a66l0n]
        simp (maxSteps := 30000000) (disch := first | assumption | omega | (simp only [List.length_cons, List.length_nil, List.length_append, List.length_set, List.length_replicate, List.length_map, List.length_range, List.length_take, List.length_drop, List.all_cons, List.all_nil, AV.isCell, Bool.and_self, Bool.and_true, bs_length, is64_length, w64_length, ints_length, edges_length] <;> omega) | rfl | decide) only [a66l0b, run_seq, run_region, runOps_cons, oper_none, ex_bin, opv, List.getD_cons_succ, List.getD_cons_zero, bin_lss, hlt, decide_true, valK_some, putK_to, List.set_cons_succ, List.set_cons_zero, opsK_some, runOps_nil, regK_some, seqK_normal, run_cond, condK_bool, run_skip, run_exit, if_true, run_block, ex_iaddr, iaddrA_sl, Int.toNat_natCast, ex_load, rd_vptr, edges_at, loadK_n, ex_box, AV.cells, List.all_cons, AV.isCell, List.all_nil, Bool.and_self, List.length_cons, List.cons_append, ex_store, List.length_nil, Nat.zero_add, Nat.reduceAdd, wr_ptr, List.getElem?_cons_succ, hget0, List.getElem?_cons_zero, wrK_cells, splice, List.take_zero, List.nil_append, List.drop_succ_cons, List.drop_nil, List.append_nil, hset0, storeK_some, putK_no, rd_ptr, rdK_cells, List.drop_zero, List.take_succ_cons, List.take_nil, loadK_1, ex_faddr, faddrA_ptr, Nat.add_zero, ex_call, List.map_cons, List.map_nil, pcallA_eq, frzN, List.mapM_cons, frz_sl, frz_int, List.mapM_nil, Option.pure_def, Option.bind_eq_bind, Option.bind_some, argK_some, ha, retK_some, scal, scal1, fzIds, List.flatMap_cons, bor_sl, bor_int, List.flatMap_nil, List.foldl_nil, ite_self, ex_mov, oper_guard, guardK_bool, Bool.false_eq_true, putA_to, if_false, frz_tup, Option.map_some, ex_un, ex_pick, pickA_bool, blockK_normal, bin_add, cadd1, wr64, loopK_normal, a66l0c, g1]
      · rw [drop_getE (by omega : i < l.length)] at he
        rcases List.mem_cons.1 he with rfl | he
        · intro hh; rw [ca] at hh; cases hh
        · exact (g5 hf).2.2 e he
    | true =>
      rw [ca] at ha
      cases cb : S (l.getD i e0).b.toNat with
      | true =>
        rw [cb] at hbb
        obtain ⟨z1, l1, S1, b1, T1, g1, g2, g3, g4, g5, g6⟩ := pass_loop (z := z) hl hb d (i + 1) zs ls S b (T ++ [.cells false false (encE (l.getD i e0))]) (by omega) hS
        refine ⟨z1, l1, S1, b1, T1, ?_, g2, g3, g4, fun hf => ⟨(g5 hf).1, (g5 hf).2.1, fun e he => ?_⟩, g6⟩
        · simp only [encE] at g1
          rw [a66l0n]
          simp (maxSteps := 30000000) (disch := first | assumption | omega | (simp only [List.length_cons, List.length_nil, List.length_append, List.length_set, List.length_replicate, List.length_map, List.length_range, List.length_take, List.length_drop, List.all_cons, List.all_nil, AV.isCell, Bool.and_self, Bool.and_true, bs_length, is64_length, w64_length, ints_length, edges_length] <;> omega) | rfl | decide) only [a66l0b, run_seq, run_region, runOps_cons, oper_none, ex_bin, opv, List.getD_cons_succ, List.getD_cons_zero, bin_lss, hlt, decide_true, valK_some, putK_to, List.set_cons_succ, List.set_cons_zero, opsK_some, runOps_nil, regK_some, seqK_normal, run_cond, condK_bool, run_skip, run_exit, if_true, run_block, ex_iaddr, iaddrA_sl, Int.toNat_natCast, ex_load, rd_vptr, edges_at, loadK_n, ex_box, AV.cells, List.all_cons, AV.isCell, List.all_nil, Bool.and_self, List.length_cons, List.cons_append, ex_store, List.length_nil, Nat.zero_add, Nat.reduceAdd, wr_ptr, List.getElem?_cons_succ, hget0, List.getElem?_cons_zero, wrK_cells, splice, List.take_zero, List.nil_append, List.drop_succ_cons, List.drop_nil, List.append_nil, hset0, storeK_some, putK_no, rd_ptr, rdK_cells, List.drop_zero, List.take_succ_cons, List.take_nil, loadK_1, ex_faddr, faddrA_ptr, Nat.add_zero, ex_call, List.map_cons, List.map_nil, pcallA_eq, frzN, List.mapM_cons, frz_sl, frz_int, List.mapM_nil, Option.pure_def, Option.bind_eq_bind, Option.bind_some, argK_some, ha, retK_some, scal, scal1, fzIds, List.flatMap_cons, bor_sl, bor_int, List.flatMap_nil, List.foldl_nil, ite_self, ex_mov, oper_guard, guardK_bool, putA_to, hbb, ex_un, un_not, Bool.not_true, ex_pick, pickA_bool, Bool.false_eq_true, if_false, blockK_normal, bin_add, cadd1, wr64, loopK_normal, a66l0c, g1]
        · rw [drop_getE (by omega : i < l.length)] at he
          rcases List.mem_cons.1 he with rfl | he
          · intro _; exact cb
          · exact (g5 hf).2.2 e he
      | false =>
        rw [cb] at hbb
        obtain ⟨z', l', hw, hw2⟩ := with_hasI hS (l.getD i e0).b hm.2.1.1 hm.2.1.2
        obtain ⟨z1, l1, S1, b1, T1, g1, g2, g3, g4, g5, g6⟩ := pass_loop (z := z) hl hb d (i + 1) z' l' _ true (T ++ [.cells false false (encE (l.getD i e0))]) (by omega) hw2
        have hs1 : Sub S S1 := fun j hj => g3 j (by simp [hj])
        refine ⟨z1, l1, S1, b1, T1, ?_, g2, hs1, fun U hU hSU => g4 U hU (fun j hj => ?_), fun hf => Bool.noConfusion (g5 hf).1, fun _ => .inr ⟨(l.getD i e0).b.toNat, g3 _ (by simp), cb⟩⟩
        · simp only [encE] at g1
          rw [a66l0n]
          simp (maxSteps := 30000000) (disch := first | assumption | omega | (simp only [List.length_cons, List.length_nil, List.length_append, List.length_set, List.length_replicate, List.length_map, List.length_range, List.length_take, List.length_drop, List.all_cons, List.all_nil, AV.isCell, Bool.and_self, Bool.and_true, bs_length, is64_length, w64_length, ints_length, edges_length] <;> omega) | rfl | decide) only [a66l0b, run_seq, run_region, runOps_cons, oper_none, ex_bin, opv, List.getD_cons_succ, List.getD_cons_zero, bin_lss, hlt, decide_true, valK_some, putK_to, List.set_cons_succ, List.set_cons_zero, opsK_some, runOps_nil, regK_some, seqK_normal, run_cond, condK_bool, run_skip, run_exit, if_true, run_block, ex_iaddr, iaddrA_sl, Int.toNat_natCast, ex_load, rd_vptr, edges_at, loadK_n, ex_box, AV.cells, List.all_cons, AV.isCell, List.all_nil, Bool.and_self, List.length_cons, List.cons_append, ex_store, List.length_nil, Nat.zero_add, Nat.reduceAdd, wr_ptr, List.getElem?_cons_succ, hget0, List.getElem?_cons_zero, wrK_cells, splice, List.take_zero, List.nil_append, List.drop_succ_cons, List.drop_nil, List.append_nil, hset0, storeK_some, putK_no, rd_ptr, rdK_cells, List.drop_zero, List.take_succ_cons, List.take_nil, loadK_1, ex_faddr, faddrA_ptr, Nat.add_zero, ex_call, List.map_cons, List.map_nil, pcallA_eq, frzN, List.mapM_cons, frz_sl, frz_int, List.mapM_nil, Option.pure_def, Option.bind_eq_bind, Option.bind_some, argK_some, ha, retK_some, scal, scal1, fzIds, List.flatMap_cons, bor_sl, bor_int, List.flatMap_nil, List.foldl_nil, ite_self, ex_mov, oper_guard, guardK_bool, putA_to, hbb, ex_un, un_not, Bool.not_false, ex_pick, pickA_bool, hw, Bool.false_eq_true, blockK_normal, bin_add, cadd1, wr64, loopK_normal, a66l0c, g1]
        · have hj' : (S j || decide (j = (l.getD i e0).b.toNat)) = true := hj
          rw [Bool.or_eq_true] at hj'
          rcases hj' with q | q
          · exact hSU j q
          · rw [of_decide_eq_true q]
            exact hU _ hmem (hSU _ ca)

theorem grow {z : Bool} {l : List Ed} (hl : l.length < 1099511627776) (hb : EdOk l) (zs : Bool) (ls : List Nat) (S : Nat → Bool) (T : Heap) (hS : HasSet (sw zs ls) S) :
    ∃ zs' ls' S' b' T', L.icall (.func 66 [.ptr 1 0, .ptr 0 0]) [] (Hc z l (sw zs ls) T) = some (.bool b', Hc z l (sw zs' ls') T') ∧
      HasSet (sw zs' ls') S' ∧ Sub S S' ∧ (∀ U, Clo l U → Sub S U → Sub S' U) ∧ (b' = false → (∀ j, S' j = S j) ∧ Clo l S) ∧ (b' = true → ∃ j, S' j = true ∧ S j = false) := by
  obtain ⟨z1, l1, S1, b1, T1, g1, g2, g3, g4, g5, g6⟩ := pass_loop (z := z) hl hb l.length 0 zs ls S false T (by omega) hS
  simp only [Int.natCast_zero] at g1
  refine ⟨z1, l1, S1, b1, T1, ?_, g2, g3, g4, fun h => ⟨(g5 h).2.1, (g5 h).2.2⟩, fun h => (g6 h).resolve_left Bool.noConfusion⟩
  rw [a66i, a66]
  simp (maxSteps := 30000000) (disch := first | assumption | omega | (simp only [List.length_cons, List.length_nil, List.length_append, List.length_set, List.length_replicate, List.length_map, List.length_range, List.length_take, List.length_drop, List.all_cons, List.all_nil, AV.isCell, Bool.and_self, Bool.and_true, bs_length, is64_length, w64_length, ints_length, edges_length] <;> omega) | rfl | decide) only [List.nil_append, bodyA_eq, List.length_cons, List.length_nil, Nat.zero_add, Nat.reduceAdd, Nat.reduceSub, pads, List.cons_append, run_seq, run_region, runOps_cons, oper_none, ex_mov, opv, putK_to, List.set_cons_succ, List.set_cons_zero, opsK_some, runOps_nil, regK_some, seqK_normal, ex_load, List.getD_cons_zero, rd_ptr, List.getElem?_cons_succ, List.getElem?_cons_zero, rdK_cells, List.drop_zero, List.take_succ_cons, List.take_nil, loadK_1, valK_some, ex_len, List.getD_cons_succ, lenA_sl, run_block, run_loop, a66l0c, g1, blockK_exit, if_true, run_ret, bodyK_ret, results_1, res_tmp, retvK_some]

theorem clo_loop {z : Bool} {l : List Ed} (hl : l.length < 1099511627776) (hb : EdOk l) : ∀ m, ∀ zs ls S T, cnt S 4096 < m → HasSet (sw zs ls) S →
    ∃ zs' ls' S' T', L.loop a42l0s a42l0 ⟨a42l0F (.ptr 0 0) (.func 66 [.ptr 1 0, .ptr 0 0]), Hc z l (sw zs ls) T⟩ =
      some (.exit 0, ⟨a42l0F (.ptr 0 0) (.func 66 [.ptr 1 0, .ptr 0 0]), Hc z l (sw zs' ls') T'⟩) ∧ HasSet (sw zs' ls') S' ∧ Sub S S' ∧ Clo l S' ∧ (∀ U, Clo l U → Sub S U → Sub S' U) := by
  intro m
  induction m with
  | zero => intro zs ls S T h; omega
  | succ m ih =>
    intro zs ls S T h hS
    obtain ⟨z1, l1, S1, b1, T1, g1, g2, g3, g4, g5, g6⟩ := grow (z := z) hl hb zs ls S T hS
    cases b1 with
    | false =>
      obtain ⟨k1, k2⟩ := g5 rfl
      refine ⟨z1, l1, S1, T1, ?_, g2, g3, fun e he q => ?_, g4⟩
      · rw [a42l0n]
        simp (maxSteps := 30000000) (disch := first | assumption | omega | (simp only [List.length_cons, List.length_nil, List.length_append, List.length_set, List.length_replicate, List.length_map, List.length_range, List.length_take, List.length_drop, List.all_cons, List.all_nil, AV.isCell, Bool.and_self, Bool.and_true, bs_length, is64_length, w64_length, ints_length, edges_length] <;> omega) | rfl | decide) only [a42l0b, run_seq, run_region, runOps_cons, oper_none, ex_mov, opv, List.getD_cons_succ, List.getD_cons_zero, putK_to, List.set_cons_succ, List.set_cons_zero, opsK_some, ex_icall, List.map_nil, g1, runOps_nil, regK_some, seqK_normal, run_cond, condK_bool, Bool.false_eq_true, run_skip, run_exit, if_false, seqK_exit, loopK_exit, a42l0c]
      · rw [k1] at q ⊢; exact k2 e he q
    | true =>
      obtain ⟨j, k1, k2⟩ := g6 rfl
      have hj : j < 4096 := by
        rcases Nat.lt_or_ge j 4096 with q | q
        · exact q
        · rw [g2.out q] at k1; cases k1
      have := cnt_lt g3 k1 k2 4096 hj
      obtain ⟨z2, l2, S2, T2, q1, q2, q3, q4, q5⟩ := ih z1 l1 S1 T1 (by omega) g2
      refine ⟨z2, l2, S2, T2, ?_, q2, fun j hj => q3 j (g3 j hj), q4, fun U hU hs => q5 U hU (g4 U hU hs)⟩
      rw [a42l0n]
      simp (maxSteps := 30000000) (disch := first | assumption | omega | (simp only [List.length_cons, List.length_nil, List.length_append, List.length_set, List.length_replicate, List.length_map, List.length_range, List.length_take, List.length_drop, List.all_cons, List.all_nil, AV.isCell, Bool.and_self, Bool.and_true, bs_length, is64_length, w64_length, ints_length, edges_length] <;> omega) | rfl | decide) only [a42l0b, run_seq, run_region, runOps_cons, oper_none, ex_mov, opv, List.getD_cons_succ, List.getD_cons_zero, putK_to, List.set_cons_succ, List.set_cons_zero, opsK_some, ex_icall, List.map_nil, g1, runOps_nil, regK_some, seqK_normal, run_cond, condK_bool, run_skip, run_exit, if_true, run_block, blockK_normal, loopK_normal, a42l0c, q1]

theorem closed_has {z zs : Bool} {l : List Ed} {ls : List Nat} {S : Nat → Bool} (hl : l.length < 1099511627776) (hb : EdOk l) (hS : HasSet (sw zs ls) S) :
    ∃ z' r C, L.pcall 42 [sw zs ls, .sl z l.length (edges l)] = some (sw z' r) ∧ HasSet (sw z' r) C ∧ Sub S C ∧ Clo l C ∧ (∀ U, Clo l U → Sub S U → Sub C U) := by
  obtain ⟨z2, l2, S2, T2, q1, q2⟩ := clo_loop (z := z) hl hb (cnt S 4096 + 1) zs ls S [] (by omega) hS
  refine ⟨z2, l2, S2, ?_, q2⟩
  rw [a42p, a42, pbodyA_eq]
  simp (maxSteps := 30000000) (disch := first | assumption | omega | (simp only [List.length_cons, List.length_nil, List.length_append, List.length_set, List.length_replicate, List.length_map, List.length_range, List.length_take, List.length_drop, List.all_cons, List.all_nil, AV.isCell, Bool.and_self, Bool.and_true, bs_length, is64_length, w64_length, ints_length, edges_length] <;> omega) | rfl | decide) only [bodyA_eq, List.length_cons, List.length_nil, Nat.zero_add, Nat.reduceAdd, Nat.reduceSub, pads, List.cons_append, List.nil_append, run_seq, run_region, runOps_cons, oper_none, ex_box, AV.cells, opv, List.getD_cons_zero, List.all_cons, AV.isCell, List.all_nil, Bool.and_self, if_true, putK_to, List.set_cons_succ, List.set_cons_zero, opsK_some, List.getD_cons_succ, ex_mov, runOps_nil, regK_some, seqK_normal, ex_mkfunc, List.map_cons, List.map_nil, run_block, run_loop, a42l0c, q1, blockK_exit, ex_load, rd_ptr, List.getElem?_cons_zero, rdK_cells, List.drop_zero, List.take_succ_cons, List.take_nil, loadK_1, valK_some, run_ret, bodyK_ret, results_1, res_tmp, retvK_some, pbodyK_some, frzN, frz_sl]

/-- the reachable states -/
def Rea (n : Aut) (C : Nat → Bool) : Prop := Sub (inS n.st) C ∧ Clo n.ed C ∧ ∀ U, Clo n.ed U → Sub (inS n.st) U → Sub C U

theorem reach_bad (n : Aut) {e : Int} (h1 : L.pcall 26 [n.av] = some (.int .i64 e)) (he : e ≠ 0) : L.pcall 15 [n.av] = some (.tup [.sl true 0 [], .int .i64 e]) := by
  rw [a15p, a15, pbodyA_eq]
  simp (maxSteps := 30000000) (disch := first | assumption | omega | (simp only [List.length_cons, List.length_nil, List.length_append, List.length_set, List.length_replicate, List.length_map, List.length_range, List.length_take, List.length_drop, List.all_cons, List.all_nil, AV.isCell, Bool.and_self, Bool.and_true, bs_length, is64_length, w64_length, ints_length, edges_length] <;> omega) | rfl | decide) only [bodyA_eq, List.length_cons, List.length_nil, Nat.zero_add, Nat.reduceSub, pads, List.cons_append, List.nil_append, run_seq, run_region, runOps_cons, oper_none, ex_box, AV.cells, opv, List.getD_cons_zero, List.all_cons, AV.isCell, List.all_nil, Bool.and_self, if_true, putK_to, List.set_cons_succ, List.set_cons_zero, opsK_some, ex_mov, runOps_nil, regK_some, seqK_normal, ex_load, List.getD_cons_succ, rd_ptr, List.getElem?_cons_zero, rdK_cells, List.drop_zero, List.take_succ_cons, List.take_nil, loadK_n, valK_some, ex_call, List.map_cons, List.map_nil, pcallA_eq, frzN, List.mapM_cons, frz_agg, frz_int, frz_sl, List.mapM_nil, Option.pure_def, Option.bind_eq_bind, Option.bind_some, Option.map_some, argK_some, h1, retK_some, scal, scal1, fzIds, List.flatMap_cons, bor_agg, bor_int, bor_sl, List.flatMap_nil, List.append_nil, List.foldl_nil, ite_self, ex_bin, bin_neq, he, decide_false, Bool.not_false, run_cond, condK_bool, run_ret, run_skip, seqK_ret, bodyK_ret, results_2, resL_cons, res_tmp, resK_some, resL_nil, retvK_some, pbodyK_some, frz_tup]

theorem reach_has (n : Aut) (hf : Fits n) (h1 : L.pcall 26 [n.av] = some (.int .i64 0)) (hv : Valid n) : ∃ z r C, L.pcall 15 [n.av] = some (.tup [sw z r, .int .i64 0]) ∧ HasSet (sw z r) C ∧ Rea n C := by
  obtain ⟨z1, r1, h3, h4⟩ := of_has (z := n.z1) hf.l1 hv.stOk
  obtain ⟨z2, r2, C, h5, h6, h7⟩ := closed_has (z := n.z3) hf.l3 (hv.edOk hf) h4
  refine ⟨z2, r2, C, ?_, h6, h7⟩
  rw [a15p, a15, pbodyA_eq]
  simp (maxSteps := 30000000) (disch := first | assumption | omega | (simp only [List.length_cons, List.length_nil, List.length_append, List.length_set, List.length_replicate, List.length_map, List.length_range, List.length_take, List.length_drop, List.all_cons, List.all_nil, AV.isCell, Bool.and_self, Bool.and_true, bs_length, is64_length, w64_length, ints_length, edges_length] <;> omega) | rfl | decide) only [bodyA_eq, List.length_cons, List.length_nil, Nat.zero_add, Nat.reduceSub, pads, List.cons_append, List.nil_append, run_seq, run_region, runOps_cons, oper_none, ex_box, AV.cells, opv, List.getD_cons_zero, List.all_cons, AV.isCell, List.all_nil, Bool.and_self, if_true, putK_to, List.set_cons_succ, List.set_cons_zero, opsK_some, ex_mov, runOps_nil, regK_some, seqK_normal, ex_load, List.getD_cons_succ, rd_ptr, List.getElem?_cons_zero, rdK_cells, List.drop_zero, List.take_succ_cons, List.take_nil, loadK_n, valK_some, ex_call, List.map_cons, List.map_nil, pcallA_eq, frzN, List.mapM_cons, frz_agg, frz_int, frz_sl, List.mapM_nil, Option.pure_def, Option.bind_eq_bind, Option.bind_some, Option.map_some, argK_some, h1, retK_some, scal, scal1, fzIds, List.flatMap_cons, bor_agg, bor_int, bor_sl, List.flatMap_nil, List.append_nil, List.foldl_nil, ite_self, ex_bin, bin_neq, decide_true, Bool.not_true, run_cond, condK_bool, Bool.false_eq_true, run_ret, run_skip, if_false, run_draw, List.take_zero, runFree_cons, foper_none, fe_faddr, ex_faddr, faddrA_ptr, fstK_some, fputK_to, freeK_some, fe_load, List.drop_succ_cons, loadK_1, fe_call, h3, quietK_some, quietCall, List.isEmpty_nil, Bool.or_true, runFree_nil, drawK_some, adopt, adoptVal, h5, bodyK_ret, results_2, resL_cons, res_tmp, resK_some, resL_nil, retvK_some, pbodyK_some, frz_tup]

theorem prod_has (n m : Aut) {z : Bool} {r : List Nat} (h1 : L.pcall 18 [n.av] = some (.tup [m.av, .int .i64 0])) (h2 : L.pcall 15 [m.av] = some (.tup [sw z r, .int .i64 0])) : L.pcall 16 [n.av] = some (.tup [sw z r, .int .i64 0]) := by
  rw [a16p, a16, pbodyA_eq]
  simp (maxSteps := 30000000) (disch := first | assumption | omega | (simp only [List.length_cons, List.length_nil, List.length_append, List.length_set, List.length_replicate, List.length_map, List.length_range, List.length_take, List.length_drop, List.all_cons, List.all_nil, AV.isCell, Bool.and_self, Bool.and_true, bs_length, is64_length, w64_length, ints_length, edges_length] <;> omega) | rfl | decide) only [bodyA_eq, List.length_cons, List.length_nil, Nat.zero_add, Nat.reduceSub, pads, List.cons_append, List.nil_append, run_seq, run_region, runOps_cons, oper_none, ex_box, AV.cells, opv, List.getD_cons_zero, List.all_cons, AV.isCell, List.all_nil, Bool.and_self, if_true, putK_to, List.set_cons_succ, List.set_cons_zero, opsK_some, ex_mov, runOps_nil, regK_some, seqK_normal, ex_load, List.getD_cons_succ, rd_ptr, List.getElem?_cons_zero, rdK_cells, List.drop_zero, List.take_succ_cons, List.take_nil, loadK_n, valK_some, ex_call, List.map_cons, List.map_nil, pcallA_eq, frzN, List.mapM_cons, frz_agg, frz_int, frz_sl, List.mapM_nil, Option.pure_def, Option.bind_eq_bind, Option.bind_some, Option.map_some, argK_some, h1, retK_some, scal, scal1, Bool.and_true, Bool.false_eq_true, fzIds, List.flatMap_cons, bor_agg, bor_int, bor_sl, List.flatMap_nil, List.append_nil, List.foldl_nil, ite_self, ex_ext, extA_tup, List.getElem?_cons_succ, ex_store, Nat.reduceAdd, wr_ptr, wrK_cells, splice, List.take_zero, List.drop_succ_cons, List.drop_nil, storeK_some, putK_no, ex_bin, bin_neq, decide_true, Bool.not_true, run_cond, condK_bool, run_ret, run_skip, if_false, h2, bodyK_ret, results_2, resL_cons, res_tmp, resK_some, resL_nil, retvK_some, pbodyK_some, frz_tup]

end Go.Abs.NfaD
