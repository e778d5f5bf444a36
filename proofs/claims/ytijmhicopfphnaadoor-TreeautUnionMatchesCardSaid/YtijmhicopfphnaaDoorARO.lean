/- Overwriting. -/
import Derived.Test.YtijmhicopfphnaaDoorALC
namespace Go.Abs.Tree
open Go Go.Abs
set_option linter.unusedSimpArgs false
set_option linter.unusedVariables false

theorem over62_loop {z : Bool} {k : Nat} : ∀ d i G l, i + d = l.length → l.length < 1099511627776 → G[k]? = some (.cells false z (ints l)) →
    ∃ l', L.loop a62l0s a62l0 ⟨a62l0F (.own z k 0 l.length 1) (.int .i64 (i : Nat)), G⟩ = some (.exit 0, ⟨a62l0F (.own z k 0 l.length 1) (.int .i64 (l.length : Nat)), G.set k (.cells false z (ints l'))⟩) ∧ l'.length = l.length := by
  intro d
  induction d with
  | zero =>
    intro i G l h hl hk
    obtain rfl : i = l.length := by omega
    refine ⟨l, ?_, rfl⟩
    have e : G.set k (.cells false z (ints l)) = G := by
      obtain ⟨h1, h2⟩ := List.getElem?_eq_some_iff.1 hk
      rw [← h2, List.set_getElem_self]
    rw [e, a62l0n]
    simp (maxSteps := 30000000) (disch := first | assumption | omega | (simp only [List.length_cons, List.length_nil, List.length_append, List.length_set, List.length_replicate, List.length_map, List.length_range, List.length_take, List.length_drop, List.all_cons, List.all_nil, AV.isCell, Bool.and_self, Bool.and_true, bs_length, is64_length, w64_length, ints_length, rls_length] <;> omega) | rfl | decide) only [a62l0b, Int.reduceNeg, run_seq, run_region, runOps_cons, oper_none, ex_mov, opv, List.getD_cons_succ, List.getD_cons_zero, putK_to, List.set_cons_succ, List.set_cons_zero, opsK_some, ex_len, lenA_own, valK_some, ex_bin, bin_lss, Int.lt_irrefl, decide_false, runOps_nil, regK_some, seqK_normal, run_cond, condK_bool, Bool.false_eq_true, ↓reduceIte, run_exit, seqK_exit, loopK_exit, a62l0c]
  | succ d IH =>
    intro i G l h hl hk
    have hlt : (i : Int) < (l.length : Nat) := by omega
    have hk1 := (List.getElem?_eq_some_iff.1 hk).1
    obtain ⟨l', e1, e2⟩ := IH (i + 1) (G.set k (.cells false z (ints (l.set i (-77))))) (l.set i (-77)) (by simp; omega) (by simpa using hl) (by rw [List.getElem?_set_self hk1])
    rw [List.length_set] at e1 e2
    rw [List.set_set] at e1
    refine ⟨l', ?_, e2⟩
    rw [a62l0n]
    simp (maxSteps := 30000000) (disch := first | assumption | omega | (simp only [List.length_cons, List.length_nil, List.length_append, List.length_set, List.length_replicate, List.length_map, List.length_range, List.length_take, List.length_drop, List.all_cons, List.all_nil, AV.isCell, Bool.and_self, Bool.and_true, bs_length, is64_length, w64_length, ints_length, rls_length] <;> omega) | rfl | decide) only [a62l0b, Int.reduceNeg, run_seq, run_region, runOps_cons, oper_none, ex_mov, opv, List.getD_cons_succ, List.getD_cons_zero, putK_to, List.set_cons_succ, List.set_cons_zero, opsK_some, ex_len, lenA_own, valK_some, ex_bin, bin_lss, hlt, decide_true, runOps_nil, regK_some, seqK_normal, run_cond, condK_bool, ↓reduceIte, run_skip, run_block, ex_iaddr, iaddrA_own, Int.toNat_natCast, Nat.mul_one, Nat.zero_add, ex_store, AV.cells, List.length_cons, List.length_nil, wr_ptr, hk, wrK_cells, splice, ints_take, ints_drop, List.append_assoc, List.cons_append, List.nil_append, ints_put1, storeK_some, putK_no, blockK_normal, bin_add, cadd1, wr64, loopK_normal, a62l0c, e1]

theorem over62 {z : Bool} {k : Nat} {G : Heap} {l : List Int} (hl : l.length < 1099511627776) (hk : G[k]? = some (.cells false z (ints l))) :
    ∃ l' : List Int, L.icall (.func 62 []) [.own z k 0 l.length 1] G = some (.tup [], G.set k (.cells false z (ints l'))) ∧ l'.length = l.length := by
  obtain ⟨l', e1, e2⟩ := over62_loop l.length 0 G l (by omega) hl hk
  refine ⟨l', ?_, e2⟩
  simp only [Int.natCast_zero] at e1
  rw [a62i, a62]
  simp (maxSteps := 30000000) (disch := first | assumption | omega | (simp only [List.length_cons, List.length_nil, List.length_append, List.length_set, List.length_replicate, List.length_map, List.length_range, List.length_take, List.length_drop, List.all_cons, List.all_nil, AV.isCell, Bool.and_self, Bool.and_true, bs_length, is64_length, w64_length, ints_length, rls_length] <;> omega) | rfl | decide) only [List.append_nil, bodyA_eq, List.length_cons, List.length_nil, Nat.zero_add, Nat.reduceSub, pads, List.cons_append, List.nil_append, run_seq, run_region, runOps_cons, oper_none, ex_mov, opv, putK_to, List.set_cons_succ, List.set_cons_zero, opsK_some, runOps_nil, regK_some, seqK_normal, run_block, run_loop, a62l0c, e1, blockK_exit, ↓reduceIte, bodyK_normal, results_0, retvK_some]

theorem rls_put {l : List Rl} {i : Nat} {e : Rl} (h : i < l.length) : List.take (i * 5) (rls l) ++ (.int .i64 e.l :: .int .i64 e.r :: .int .i64 e.t :: .int .u8 (e.p : Nat) :: .int .u8 (e.n : Nat) :: List.drop (i * 5 + 5) (rls l)) = rls (l.set i e) := by
  have hd : List.drop (i * 5 + 5) (rls l) = rls (l.drop (i + 1)) := by
    unfold rls
    rw [show i * 5 + 5 = (i + 1) * 5 by omega, rows_drop (enc := encR) (k := 5) (fun _ => rfl)]
  have ht : List.take (i * 5) (rls l) = rls (l.take i) := by
    unfold rls
    rw [rows_take (enc := encR) (k := 5) (fun _ => rfl)]
  rw [hd, ht, List.set_eq_take_append_cons_drop, if_pos h]
  exact rows_app encR (l.take i) (e :: l.drop (i + 1))

theorem over63_loop {z : Bool} {k : Nat} : ∀ d i G l, i + d = l.length → l.length < 1099511627776 → G[k]? = some (.cells false z (rls l)) →
    ∃ l', L.loop a63l0s a63l0 ⟨a63l0F (.own z k 0 l.length 5) (.int .i64 (i : Nat)), G⟩ = some (.exit 0, ⟨a63l0F (.own z k 0 l.length 5) (.int .i64 (l.length : Nat)), G.set k (.cells false z (rls l'))⟩) ∧ l'.length = l.length := by
  intro d
  induction d with
  | zero =>
    intro i G l h hl hk
    obtain rfl : i = l.length := by omega
    refine ⟨l, ?_, rfl⟩
    have e : G.set k (.cells false z (rls l)) = G := by
      obtain ⟨h1, h2⟩ := List.getElem?_eq_some_iff.1 hk
      rw [← h2, List.set_getElem_self]
    rw [e, a63l0n]
    simp (maxSteps := 30000000) (disch := first | assumption | omega | (simp only [List.length_cons, List.length_nil, List.length_append, List.length_set, List.length_replicate, List.length_map, List.length_range, List.length_take, List.length_drop, List.all_cons, List.all_nil, AV.isCell, Bool.and_self, Bool.and_true, bs_length, is64_length, w64_length, ints_length, rls_length] <;> omega) | rfl | decide) only [a63l0b, Int.reduceNeg, run_seq, run_region, runOps_cons, oper_none, ex_mov, opv, List.getD_cons_succ, List.getD_cons_zero, putK_to, List.set_cons_succ, List.set_cons_zero, opsK_some, ex_len, lenA_own, valK_some, ex_bin, bin_lss, Int.lt_irrefl, decide_false, runOps_nil, regK_some, seqK_normal, run_cond, condK_bool, Bool.false_eq_true, ↓reduceIte, run_exit, seqK_exit, loopK_exit, a63l0c]
  | succ d IH =>
    intro i G l h hl hk
    have hlt : (i : Int) < (l.length : Nat) := by omega
    have hi : i < l.length := by omega
    have hk1 := (List.getElem?_eq_some_iff.1 hk).1
    have hput := rls_put (e := ⟨0, 0, -7, 0, 0⟩) hi
    obtain ⟨l', e1, e2⟩ := IH (i + 1) (G.set k (.cells false z (rls (l.set i ⟨0, 0, -7, 0, 0⟩)))) (l.set i ⟨0, 0, -7, 0, 0⟩) (by simp; omega) (by simpa using hl) (by rw [List.getElem?_set_self hk1])
    rw [List.length_set] at e1 e2
    rw [List.set_set] at e1
    refine ⟨l', ?_, e2⟩
    simp only [Int.natCast_zero] at hput
    rw [a63l0n]
    simp (maxSteps := 30000000) (disch := first | assumption | omega | (simp only [List.length_cons, List.length_nil, List.length_append, List.length_set, List.length_replicate, List.length_map, List.length_range, List.length_take, List.length_drop, List.all_cons, List.all_nil, AV.isCell, Bool.and_self, Bool.and_true, bs_length, is64_length, w64_length, ints_length, rls_length] <;> omega) | rfl | decide) only [a63l0b, Int.reduceNeg, run_seq, run_region, runOps_cons, oper_none, ex_mov, opv, List.getD_cons_succ, List.getD_cons_zero, putK_to, List.set_cons_succ, List.set_cons_zero, opsK_some, ex_len, lenA_own, valK_some, ex_bin, bin_lss, hlt, decide_true, runOps_nil, regK_some, seqK_normal, run_cond, condK_bool, ↓reduceIte, run_skip, run_block, ex_build, AV.cells, List.all_cons, List.length_cons, List.length_nil, Nat.zero_add, beq_self_eq_true, List.all_nil, Bool.and_self, List.map_cons, List.map_nil, fillA, Nat.reduceAdd, Nat.reduceLeDiff, AV.isCell, and_self, splice, List.take_succ_cons, List.take_zero, List.cons_append, List.nil_append, List.drop_succ_cons, List.drop_zero, Option.map_some, ex_iaddr, iaddrA_own, Int.toNat_natCast, ex_store, wr_ptr, hk, wrK_cells, List.append_assoc, hput, storeK_some, putK_no, blockK_normal, bin_add, cadd1, wr64, loopK_normal, a63l0c, e1]

theorem over63 {z : Bool} {k : Nat} {G : Heap} {l : List Rl} (hl : l.length < 1099511627776) (hk : G[k]? = some (.cells false z (rls l))) :
    ∃ l' : List Rl, L.icall (.func 63 []) [.own z k 0 l.length 5] G = some (.tup [], G.set k (.cells false z (rls l'))) ∧ l'.length = l.length := by
  obtain ⟨l', e1, e2⟩ := over63_loop l.length 0 G l (by omega) hl hk
  refine ⟨l', ?_, e2⟩
  simp only [Int.natCast_zero] at e1
  rw [a63i, a63]
  simp (maxSteps := 30000000) (disch := first | assumption | omega | (simp only [List.length_cons, List.length_nil, List.length_append, List.length_set, List.length_replicate, List.length_map, List.length_range, List.length_take, List.length_drop, List.all_cons, List.all_nil, AV.isCell, Bool.and_self, Bool.and_true, bs_length, is64_length, w64_length, ints_length, rls_length] <;> omega) | rfl | decide) only [List.append_nil, bodyA_eq, List.length_cons, List.length_nil, Nat.zero_add, Nat.reduceSub, pads, List.cons_append, List.nil_append, run_seq, run_region, runOps_cons, oper_none, ex_mov, opv, putK_to, List.set_cons_succ, List.set_cons_zero, opsK_some, runOps_nil, regK_some, seqK_normal, run_block, run_loop, a63l0c, e1, blockK_exit, ↓reduceIte, bodyK_normal, results_0, retvK_some]
end Go.Abs.Tree

/- OverTreeNFA. -/
namespace Go.Abs.Tree
open Go Go.Abs
set_option linter.unusedSimpArgs false
set_option linter.unusedVariables false

theorem over62n (G : Heap) : L.icall (.func 62 []) [.sl true 0 []] G = some (.tup [], G) := by
  have e : L.loop a62l0s a62l0 ⟨a62l0F (.sl true 0 []) (.int .i64 0), G⟩ = some (.exit 0, ⟨a62l0F (.sl true 0 []) (.int .i64 0), G⟩) := by
    rw [a62l0n]
    simp (maxSteps := 30000000) (disch := first | assumption | omega | (simp only [List.length_cons, List.length_nil, List.length_append, List.length_set, List.length_replicate, List.length_map, List.length_range, List.length_take, List.length_drop, List.all_cons, List.all_nil, AV.isCell, Bool.and_self, Bool.and_true, bs_length, is64_length, w64_length, ints_length, rls_length] <;> omega) | rfl | decide) only [a62l0b, Int.reduceNeg, run_seq, run_region, runOps_cons, oper_none, ex_mov, opv, List.getD_cons_succ, List.getD_cons_zero, putK_to, List.set_cons_succ, List.set_cons_zero, opsK_some, ex_len, lenA_sl, castLit, valK_some, ex_bin, bin_lss, Int.lt_irrefl, decide_false, runOps_nil, regK_some, seqK_normal, run_cond, condK_bool, Bool.false_eq_true, ↓reduceIte, run_exit, seqK_exit, loopK_exit, a62l0c]
  rw [a62i, a62]
  simp (maxSteps := 30000000) (disch := first | assumption | omega | (simp only [List.length_cons, List.length_nil, List.length_append, List.length_set, List.length_replicate, List.length_map, List.length_range, List.length_take, List.length_drop, List.all_cons, List.all_nil, AV.isCell, Bool.and_self, Bool.and_true, bs_length, is64_length, w64_length, ints_length, rls_length] <;> omega) | rfl | decide) only [List.append_nil, bodyA_eq, List.length_cons, List.length_nil, Nat.zero_add, Nat.reduceSub, pads, List.cons_append, List.nil_append, run_seq, run_region, runOps_cons, oper_none, ex_mov, opv, putK_to, List.set_cons_succ, List.set_cons_zero, opsK_some, runOps_nil, regK_some, seqK_normal, run_block, run_loop, a62l0c, e, blockK_exit, ↓reduceIte, bodyK_normal, results_0, retvK_some]
theorem over63n (G : Heap) : L.icall (.func 63 []) [.sl true 0 []] G = some (.tup [], G) := by
  have e : L.loop a63l0s a63l0 ⟨a63l0F (.sl true 0 []) (.int .i64 0), G⟩ = some (.exit 0, ⟨a63l0F (.sl true 0 []) (.int .i64 0), G⟩) := by
    rw [a63l0n]
    simp (maxSteps := 30000000) (disch := first | assumption | omega | (simp only [List.length_cons, List.length_nil, List.length_append, List.length_set, List.length_replicate, List.length_map, List.length_range, List.length_take, List.length_drop, List.all_cons, List.all_nil, AV.isCell, Bool.and_self, Bool.and_true, bs_length, is64_length, w64_length, ints_length, rls_length] <;> omega) | rfl | decide) only [a63l0b, Int.reduceNeg, run_seq, run_region, runOps_cons, oper_none, ex_mov, opv, List.getD_cons_succ, List.getD_cons_zero, putK_to, List.set_cons_succ, List.set_cons_zero, opsK_some, ex_len, lenA_sl, castLit, valK_some, ex_bin, bin_lss, Int.lt_irrefl, decide_false, runOps_nil, regK_some, seqK_normal, run_cond, condK_bool, Bool.false_eq_true, ↓reduceIte, run_exit, seqK_exit, loopK_exit, a63l0c]
  rw [a63i, a63]
  simp (maxSteps := 30000000) (disch := first | assumption | omega | (simp only [List.length_cons, List.length_nil, List.length_append, List.length_set, List.length_replicate, List.length_map, List.length_range, List.length_take, List.length_drop, List.all_cons, List.all_nil, AV.isCell, Bool.and_self, Bool.and_true, bs_length, is64_length, w64_length, ints_length, rls_length] <;> omega) | rfl | decide) only [List.append_nil, bodyA_eq, List.length_cons, List.length_nil, Nat.zero_add, Nat.reduceSub, pads, List.cons_append, List.nil_append, run_seq, run_region, runOps_cons, oper_none, ex_mov, opv, putK_to, List.set_cons_succ, List.set_cons_zero, opsK_some, runOps_nil, regK_some, seqK_normal, run_block, run_loop, a63l0c, e, blockK_exit, ↓reduceIte, bodyK_normal, results_0, retvK_some]

theorem over28n (G : Heap) : ∃ X, L.icall (.func 28 []) [.agg [.int .i64 0, .int .i64 0, .sl true 0 [], .sl true 0 [], .sl true 0 []]] G = some (.tup [], G ++ X) := by
  have h1 := fun G => over62n G
  have h2 := fun G => over63n G
  refine ⟨[.cells false false [.int .i64 0, .int .i64 0, .sl true 0 [], .sl true 0 [], .sl true 0 []]], ?_⟩
  rw [a28i, a28]
  simp (maxSteps := 30000000) (disch := first | assumption | omega | (simp only [List.length_cons, List.length_nil, List.length_append, List.length_set, List.length_replicate, List.length_map, List.length_range, List.length_take, List.length_drop, List.all_cons, List.all_nil, AV.isCell, Bool.and_self, Bool.and_true, bs_length, is64_length, w64_length, ints_length, rls_length] <;> omega) | rfl | decide) only [List.append_nil, bodyA_eq, List.length_cons, List.length_nil, Nat.zero_add, Nat.reduceSub, pads, List.cons_append, List.nil_append, run_seq, run_region, runOps_cons, oper_none, ex_box, AV.cells, opv, List.getD_cons_zero, List.all_cons, AV.isCell, List.all_nil, Bool.and_self, ↓reduceIte, putK_to, List.set_cons_succ, List.set_cons_zero, opsK_some, runOps_nil, regK_some, seqK_normal, ex_faddr, List.getD_cons_succ, faddrA_ptr, valK_some, ex_load, rd_ptr, hget0, List.getElem?_cons_zero, rdK_cells, List.drop_succ_cons, List.drop_zero, List.take_succ_cons, List.take_zero, loadK_1, ex_icall, List.map_cons, List.map_nil, h1, List.take_nil, h2, bodyK_normal, results_0, retvK_some]

theorem over28 {vi si : Int} {z1 z2 z3 : Bool} {b1 b2 b3 : Nat} {G : Heap} {l1 l2 : List Int} {l3 : List Rl} (h1 : l1.length < 1099511627776) (h2 : l2.length < 1099511627776) (h3 : l3.length < 1099511627776) (k1 : G[b1]? = some (.cells false z1 (ints l1))) (k2 : G[b2]? = some (.cells false z2 (ints l2))) (k3 : G[b3]? = some (.cells false z3 (rls l3))) (n12 : b1 ≠ b2) (n13 : b1 ≠ b3) (n23 : b2 ≠ b3) :
    ∃ G', L.icall (.func 28 []) [.agg [.int .i64 vi, .int .i64 si, .own z1 b1 0 l1.length 1, .own z2 b2 0 l2.length 1, .own z3 b3 0 l3.length 5]] G = some (.tup [], G') ∧ G.length ≤ G'.length ∧ ∀ b, b < G.length → b ≠ b1 → b ≠ b2 → b ≠ b3 → G'[b]? = G[b]? := by
  have t1 := (List.getElem?_eq_some_iff.1 k1).1
  have t2 := (List.getElem?_eq_some_iff.1 k2).1
  have t3 := (List.getElem?_eq_some_iff.1 k3).1
  obtain ⟨l1', e1, f1⟩ := over62 (G := G ++ [Blk.cells false false [.int .i64 vi, .int .i64 si, .own z1 b1 0 l1.length 1, .own z2 b2 0 l2.length 1, .own z3 b3 0 l3.length 5]]) h1 (app_get k1)
  obtain ⟨l2', e2, f2⟩ := over62 (G := (G ++ [Blk.cells false false [.int .i64 vi, .int .i64 si, .own z1 b1 0 l1.length 1, .own z2 b2 0 l2.length 1, .own z3 b3 0 l3.length 5]]).set b1 (Blk.cells false z1 (ints l1'))) h2 (by rw [List.getElem?_set_ne n12]; exact app_get k2)
  obtain ⟨l3', e3, f3⟩ := over63 (G := ((G ++ [Blk.cells false false [.int .i64 vi, .int .i64 si, .own z1 b1 0 l1.length 1, .own z2 b2 0 l2.length 1, .own z3 b3 0 l3.length 5]]).set b1 (Blk.cells false z1 (ints l1'))).set b2 (Blk.cells false z2 (ints l2'))) h3 (by rw [List.getElem?_set_ne n23, List.getElem?_set_ne n13]; exact app_get k3)
  have g1 : ∀ B : Blk, ((G ++ [Blk.cells false false [.int .i64 vi, .int .i64 si, .own z1 b1 0 l1.length 1, .own z2 b2 0 l2.length 1, .own z3 b3 0 l3.length 5]]).set b1 B)[G.length]? = some (.cells false false [.int .i64 vi, .int .i64 si, .own z1 b1 0 l1.length 1, .own z2 b2 0 l2.length 1, .own z3 b3 0 l3.length 5]) := fun B => by rw [List.getElem?_set_ne (by omega)]; simp
  have g2 : ∀ B B' : Blk, (((G ++ [Blk.cells false false [.int .i64 vi, .int .i64 si, .own z1 b1 0 l1.length 1, .own z2 b2 0 l2.length 1, .own z3 b3 0 l3.length 5]]).set b1 B).set b2 B')[G.length]? = some (.cells false false [.int .i64 vi, .int .i64 si, .own z1 b1 0 l1.length 1, .own z2 b2 0 l2.length 1, .own z3 b3 0 l3.length 5]) := fun B B' => by rw [List.getElem?_set_ne (by omega)]; exact g1 B
  refine ⟨(((G ++ [Blk.cells false false [.int .i64 vi, .int .i64 si, .own z1 b1 0 l1.length 1, .own z2 b2 0 l2.length 1, .own z3 b3 0 l3.length 5]]).set b1 (Blk.cells false z1 (ints l1'))).set b2 (Blk.cells false z2 (ints l2'))).set b3 (Blk.cells false z3 (rls l3')), ?_, ?_, ?_⟩
  rotate_left
  · rw [List.length_set, List.length_set, List.length_set, List.length_append]; omega
  · intro b hb n1 n2 n3
    rw [List.getElem?_set_ne (fun h => n3 h.symm), List.getElem?_set_ne (fun h => n2 h.symm), List.getElem?_set_ne (fun h => n1 h.symm), List.getElem?_append_left hb]
  · rw [a28i, a28]
    simp (maxSteps := 30000000) (disch := first | assumption | omega | (simp only [List.length_cons, List.length_nil, List.length_append, List.length_set, List.length_replicate, List.length_map, List.length_range, List.length_take, List.length_drop, List.all_cons, List.all_nil, AV.isCell, Bool.and_self, Bool.and_true, bs_length, is64_length, w64_length, ints_length, rls_length] <;> omega) | rfl | decide) only [List.append_nil, bodyA_eq, List.length_cons, List.length_nil, Nat.zero_add, Nat.reduceSub, pads, List.cons_append, List.nil_append, run_seq, run_region, runOps_cons, oper_none, ex_box, AV.cells, opv, List.getD_cons_zero, List.all_cons, AV.isCell, List.all_nil, Bool.and_self, ↓reduceIte, putK_to, List.set_cons_succ, List.set_cons_zero, opsK_some, runOps_nil, regK_some, seqK_normal, ex_faddr, List.getD_cons_succ, faddrA_ptr, valK_some, ex_load, rd_ptr, hget0, List.getElem?_cons_zero, rdK_cells, List.drop_succ_cons, List.drop_zero, List.take_succ_cons, List.take_zero, loadK_1, ex_icall, List.map_cons, List.map_nil, e1, g1, e2, g2, List.take_nil, e3, bodyK_normal, results_0, retvK_some]
end Go.Abs.Tree
