/- classes: a round; what numbering gives. -/
import Derived.Test.YtdkbhidfiplncaaAE4
namespace Go.Abs.Det
open Go Go.Abs
set_option linter.unusedSimpArgs false
set_option linter.unusedVariables false

noncomputable def numR (D : Da) (cls : List Int) : List Nat × List (List Nat) := numK (keyR D cls) 0 D.next.length []

/-- the class box and its list -/
structure ClsB (D : Da) (cls : List Int) (G : Heap) : Prop where
  b0 : G[0]? = some (.cells false false D.cells)
  b1 : ∃ cb, G[1]? = some (.cells false false [.own false cb 0 cls.length 1]) ∧ G[cb]? = some (.cells false false (ints cls))

theorem ClsB.base {D : Da} {cls : List Int} {G : Heap} (h : ClsB D cls G) (T : Heap) (hT : 2 ≤ G.length + T.length) : Base D cls (G ++ T) (G.length + T.length) := by
  obtain ⟨cb, c1, c2⟩ := h.b1
  have := (List.getElem?_eq_some_iff.1 c2).1
  exact ⟨app_get h.b0, ⟨cb, app_get c1, app_get c2, by omega⟩, by omega, by simp⟩

theorem round_cls {D : Da} {cls : List Int} {many : Int} {G : Heap} (hV : Va D) (hC : ClsOk D cls) (hB : ClsB D cls G) :
    ∃ G' : Heap, G'[0]? = some (.cells false false D.cells) ∧ G'[1]? = G[1]? ∧ G.length + 2 ≤ G'.length ∧ G'[G.length + 1]? = some (.cells false false (ints (nums (numR D cls).1))) ∧
      L.loop a60l3s a60l3 ⟨a60l3F (.ptr 0 0) (.ptr 1 0) (.int .i64 many), G⟩ =
        if (((numR D cls).2.length : Nat) : Int) = many then some (.ret, ⟨a60l3F (.ptr 0 0) (.ptr 1 0) (.int .i64 many), G'.set 1 (.cells false false [.own false (G.length + 1) 0 D.next.length 1])⟩)
        else L.loop a60l3s a60l3 ⟨a60l3F (.ptr 0 0) (.ptr 1 0) (.int .i64 ((numR D cls).2.length : Nat)), G'.set 1 (.cells false false [.own false (G.length + 1) 0 D.next.length 1])⟩ := by
  obtain ⟨cb, c1, c2⟩ := hB.b1
  have n64 := hV.n64
  have hcl := (List.getElem?_eq_some_iff.1 c2).1
  have h1l := (List.getElem?_eq_some_iff.1 c1).1
  have hB2 := hB.base [.mp [], .cells false false (ints (List.replicate D.next.length 0))] (by simp)
  obtain ⟨G', f1, f2, f3, f4, f5, f6⟩ := num_loop (s3 := .int .i64 many) (m := G.length) (nb := G.length + 1) (B := G.length + 2) hV hC (by omega) (by omega) (by omega) D.next.length 0
    (G ++ [.mp [], .cells false false (ints (List.replicate D.next.length 0))]) [] [] (by omega) hB2 rfl (fun cb' h => by
      have e := (app_get c1).symm.trans h
      have : cb = cb' := by simpa using e
      omega) (by omega) (by omega) (fun k hk => by cases hk) (hget0 _ _) (hget _ _ 1)
  have hlen := hC.len
  refine ⟨G', f2, by rw [f3]; exact List.getElem?_append_left h1l, by simp at f4; omega, f6, ?_⟩
  simp only [Int.natCast_zero] at f1
  have y1 : G'[1]? = some (.cells false false [.own false cb 0 D.next.length 1]) := by rw [f3, List.getElem?_append_left h1l, c1, hlen]
  rw [hlen] at c1
  have c1' := fun T => app_get (X := T) c1
  have hel := ents_len (numR D cls).2 0
  have f5' : G'[G.length]? = some (.mp (ents (numR D cls).2 0)) := f5
  clear f5 f6
  generalize (numR D cls).2 = ks at *
  have hG1 : 1 < G'.length := by simp at f4; omega
  rw [a60l3n]
  by_cases c : ((ks.length : Nat) : Int) = many
  · rw [if_pos c]
    simp (maxSteps := 30000000) (disch := first | assumption | omega | (simp only [List.length_cons, List.length_nil, List.length_append, List.length_set, List.length_replicate, List.length_map, List.length_range, List.length_take, List.length_drop, List.all_cons, List.all_nil, AV.isCell, Bool.and_self, Bool.and_true, bs_length, is64_length, w64_length, ints_length, ints_length, bools_len, List.length_map] <;> omega) | rfl | decide) only [a60l3b, run_block, run_seq, run_region, runOps_cons, oper_none, ex_mkmap, putK_to, List.set_cons_succ, List.set_cons_zero, opsK_some, ex_mov, opv, List.getD_cons_succ, List.getD_cons_zero, runOps_nil, regK_some, seqK_normal, ex_load, rd_ptr, c1', rdK_cells, List.drop_zero, List.take_succ_cons, List.take_nil, loadK_1, valK_some, ex_len, lenA_own, ex_mkslice, mksK_int, Int.toNat_natCast, List.length_cons, List.length_nil, Nat.zero_add, repz_ints, newA_own, List.length_append, List.append_assoc, List.cons_append, List.nil_append, run_loop, a60l2c, f1, blockK_exit, ↓reduceIte, ex_mlen, entA_mp, f5', entK_some, lenK_some, hel, c, ex_bin, bin_eql, decide_true, run_cond, condK_bool, ex_store, AV.cells, wr_ptr, y1, wrK_cells, splice, List.take_zero, List.drop_succ_cons, List.drop_nil, List.append_nil, storeK_some, putK_no, run_ret, seqK_ret, blockK_ret, loopK_ret, a60l3c]
  · rw [if_neg c]
    simp (maxSteps := 30000000) (disch := first | assumption | omega | (simp only [List.length_cons, List.length_nil, List.length_append, List.length_set, List.length_replicate, List.length_map, List.length_range, List.length_take, List.length_drop, List.all_cons, List.all_nil, AV.isCell, Bool.and_self, Bool.and_true, bs_length, is64_length, w64_length, ints_length, ints_length, bools_len, List.length_map] <;> omega) | rfl | decide) only [a60l3b, run_block, run_seq, run_region, runOps_cons, oper_none, ex_mkmap, putK_to, List.set_cons_succ, List.set_cons_zero, opsK_some, ex_mov, opv, List.getD_cons_succ, List.getD_cons_zero, runOps_nil, regK_some, seqK_normal, ex_load, rd_ptr, c1', rdK_cells, List.drop_zero, List.take_succ_cons, List.take_nil, loadK_1, valK_some, ex_len, lenA_own, ex_mkslice, mksK_int, Int.toNat_natCast, List.length_cons, List.length_nil, Nat.zero_add, repz_ints, newA_own, List.length_append, List.append_assoc, List.cons_append, List.nil_append, run_loop, a60l2c, f1, blockK_exit, ↓reduceIte, ex_mlen, entA_mp, f5', entK_some, lenK_some, hel, ex_bin, bin_eql, c, decide_false, run_cond, condK_bool, Bool.false_eq_true, run_skip, ex_store, AV.cells, wr_ptr, y1, wrK_cells, splice, List.take_zero, List.drop_succ_cons, List.drop_nil, List.append_nil, storeK_some, putK_no, blockK_normal, loopK_normal, a60l3c]
end Go.Abs.Det
