/- The law LassoExamples. -/
import Derived.Test.YthbgkdjnakeagaaAE3
namespace Go.Abs.Lasso
set_option linter.unusedVariables false
set_option linter.unusedSimpArgs false
open Go Go.Abs

theorem fl0 (cs : List AV) : fillA cs [] = some cs := rfl
theorem fl1 (a b : AV) (z : Bool) (n : Nat) (c : List AV) : fillA [a, b] [(0, [.sl z n c])] = some [.sl z n c, b] := rfl
theorem fl2 (a b : AV) (z : Bool) (n : Nat) (c : List AV) : fillA [a, b] [(1, [.sl z n c])] = some [a, .sl z n c] := rfl
theorem fl3 (a b : AV) (z z' : Bool) (n n' : Nat) (c c' : List AV) : fillA [a, b] [(0, [.sl z n c]), (1, [.sl z' n' c'])] = some [.sl z n c, .sl z' n' c'] := rfl
theorem fl4 (a b c d : AV) (z z' : Bool) (n n' : Nat) (cs cs' : List AV) (k k' : IntKind) (v e : Int) : fillA [a, b, c, d] [(0, [.sl z n cs, .sl z' n' cs']), (2, [.int k v]), (3, [.int k' e])] = some [.sl z n cs, .sl z' n' cs', .int k v, .int k' e] := rfl
theorem loop_eq (z : Bool) (n : Nat) (w : List AV) : L.pcall 31 [.sl z n w] = some (.agg [.sl true 0 [], .sl z n w]) := by
  rw [a31p, a31, pbodyA_eq]
  simp (maxSteps := 30000000) (disch := first | assumption | omega | (simp only [List.length_cons, List.length_nil, List.length_append, List.length_set, List.length_replicate, List.length_map, List.length_range, List.length_take, List.length_drop, List.all_cons, List.all_nil, AV.isCell, Bool.and_self, Bool.and_true, bs_length, is64_length] <;> omega) | rfl | decide) only [bodyA_eq, List.length_cons, List.length_nil, Nat.zero_add, Nat.reduceSub, pads, List.cons_append, List.nil_append, run_seq, run_region, runOps_cons, oper_none, ex_box, AV.cells, opv, List.all_cons, AV.isCell, List.all_nil, Bool.and_self, if_true, putK_to, List.set_cons_succ, List.set_cons_zero, opsK_some, runOps_nil, regK_some, seqK_normal, ex_mov, List.getD_cons_zero, ex_build, List.getD_cons_succ, beq_self_eq_true, List.map_cons, List.map_nil, fl2, Option.map_some, valK_some, ex_store, Nat.reduceAdd, wr_ptr, List.getElem?_cons_zero, wrK_cells, splice, List.take_zero, List.drop_succ_cons, List.drop_nil, List.append_nil, storeK_some, putK_no, run_ret, bodyK_ret, results_1, res_cell, rd_ptr, rdK_cells, List.drop_zero, List.take_succ_cons, List.take_nil, cellK_some, mkv_n, retvK_some, pbodyK_some, frzN, frz_agg, List.mapM_cons, frz_sl, List.mapM_nil, Option.pure_def, Option.bind_eq_bind, Option.bind_some]

theorem ex_step {s0 : AV} {cs : List AV} {n i : Nat} {z1 z2 : Bool} {p q : List Nat} {v e : Int} {H : Heap} (hlen : cs.length = n * 4) (hi : i < n) (hn : n < 1000) (h0 : List.take 4 (List.drop (i * 4) cs) = [word z1 p, word z2 q, .int .i64 v, .int .i64 e])
    (hp : p.length < 1099511627776) (hq : q.length < 1099511627776) (hpw : ∀ x ∈ p, x < 256) (hqw : ∀ x ∈ q, x < 256) (hc : checkM p q v = e) :
    L.loop a5l0s a5l0 ⟨a5l0F s0 (.sl false n cs) (.int .i64 (n : Nat)) (.int .i64 (i : Nat)), H⟩ = L.loop a5l0s a5l0 ⟨a5l0F s0 (.sl false n cs) (.int .i64 (n : Nat)) (.int .i64 ((i + 1 : Nat))), H ++ [.cells false false [word z1 p, word z2 q, .int .i64 v, .int .i64 e]]⟩ := by
  have hlt : (i : Int) < (n : Nat) := by omega
  have hck := check_eq z1 z2 p q v hp hq hpw hqw
  rw [hc] at hck
  rw [a5l0n]
  simp (maxSteps := 30000000) (disch := first | assumption | omega | (simp only [List.length_cons, List.length_nil, List.length_append, List.length_set, List.length_replicate, List.length_map, List.length_range, List.length_take, List.length_drop, List.all_cons, List.all_nil, AV.isCell, Bool.and_self, Bool.and_true, bs_length, is64_length] <;> omega) | rfl | decide) only [a5l0b, run_seq, run_region, runOps_cons, oper_none, ex_bin, opv, List.getD_cons_succ, List.getD_cons_zero, bin_lss, hlt, decide_true, valK_some, putK_to, List.set_cons_succ, List.set_cons_zero, opsK_some, runOps_nil, regK_some, seqK_normal, run_cond, condK_bool, run_skip, run_exit, if_true, run_block, ex_iaddr, iaddrA_sl, Int.toNat_natCast, ex_load, rd_vptr, h0, loadK_n, ex_box, AV.cells, List.all_cons, AV.isCell, List.all_nil, Bool.and_self, ex_store, List.length_cons, List.length_nil, Nat.zero_add, Nat.reduceAdd, wr_ptr, hget0, List.getElem?_cons_zero, wrK_cells, splice, List.take_zero, List.nil_append, List.drop_succ_cons, List.drop_nil, List.append_nil, hset0, storeK_some, putK_no, run_draw, List.take_succ_cons, runFree_cons, foper_none, fe_faddr, ex_faddr, faddrA_ptr, Nat.add_zero, fstK_some, fputK_to, freeK_some, fe_load, rd_ptr, rdK_cells, List.drop_zero, loadK_1, fe_call, List.map_cons, List.map_nil, pcallA_eq, frzN, List.mapM_cons, frz_agg, frz_sl, List.mapM_nil, Option.pure_def, Option.bind_eq_bind, Option.bind_some, Option.map_some, frz_int, argK_some, hck, retK_some, scal, scal1, fzIds, List.flatMap_cons, bor_agg, bor_sl, List.flatMap_nil, bor_int, List.foldl_nil, ite_self, quietK_some, quietCall, List.isEmpty_nil, Bool.or_true, List.take_nil, runFree_nil, drawK_some, adopt, adoptVal, bin_neq, Bool.not_true, Bool.false_eq_true, ex_mov, run_ret, if_false, blockK_normal, bin_add, cadd1, wr64, loopK_normal, a5l0c]

theorem ex_end {s0 : AV} {cs : List AV} {n : Nat} {H : Heap} : L.loop a5l0s a5l0 ⟨a5l0F s0 (.sl false n cs) (.int .i64 (n : Nat)) (.int .i64 (n : Nat)), H⟩ = some (.exit 0, ⟨a5l0F s0 (.sl false n cs) (.int .i64 (n : Nat)) (.int .i64 (n : Nat)), H⟩) := by
  rw [a5l0n]
  simp (maxSteps := 30000000) (disch := first | assumption | omega | (simp only [List.length_cons, List.length_nil, List.length_append, List.length_set, List.length_replicate, List.length_map, List.length_range, List.length_take, List.length_drop, List.all_cons, List.all_nil, AV.isCell, Bool.and_self, Bool.and_true, bs_length, is64_length] <;> omega) | rfl | decide) only [a5l0b, run_seq, run_region, runOps_cons, oper_none, ex_bin, opv, List.getD_cons_succ, List.getD_cons_zero, bin_lss, Int.lt_irrefl, decide_false, valK_some, putK_to, List.set_cons_succ, List.set_cons_zero, opsK_some, runOps_nil, regK_some, seqK_normal, run_cond, condK_bool, Bool.false_eq_true, run_skip, run_exit, if_false, seqK_exit, loopK_exit, a5l0c]

/-- the table of the examples -/
def exT : List AV := [.sl true 0 [], .sl true 0 [], .int .i64 (-1), .int .i64 7,
  .sl true 0 [], .sl false 1 [.int .u8 9], .int .i64 7, .int .i64 7,
  .sl false 65 (bs (List.replicate 65 0)), .sl true 0 [], .int .i64 1, .int .i64 3,
  .sl false 65 (bs (List.replicate 65 0)), .sl false 1 [.int .u8 9], .int .i64 1, .int .i64 4,
  .sl true 0 [], .sl false 65 (bs (List.replicate 65 0)), .int .i64 0, .int .i64 4,
  .sl true 0 [], .sl false 64 (bs (List.replicate 64 0)), .int .i64 0, .int .i64 0,
  .sl true 0 [], .sl false 1 [.int .u8 1], .int .i64 0, .int .i64 1,
  .sl false 1 [.int .u8 4], .sl false 1 [.int .u8 0], .int .i64 2, .int .i64 1,
  .sl true 0 [], .sl false 1 [.int .u8 63], .int .i64 6, .int .i64 0,
  .sl true 0 [], .sl false 1 [.int .u8 64], .int .i64 6, .int .i64 1]

/-- what the table's rounds leave behind -/
def exH : Heap := [.cells false false [word true [], word true [], .int .i64 (-1), .int .i64 7], .cells false false [word true [], word false [9], .int .i64 7, .int .i64 7],
  .cells false false [word false (List.replicate 65 0), word true [], .int .i64 1, .int .i64 3], .cells false false [word false (List.replicate 65 0), word false [9], .int .i64 1, .int .i64 4],
  .cells false false [word true [], word false (List.replicate 65 0), .int .i64 0, .int .i64 4], .cells false false [word true [], word false (List.replicate 64 0), .int .i64 0, .int .i64 0],
  .cells false false [word true [], word false [1], .int .i64 0, .int .i64 1], .cells false false [word false [4], word false [0], .int .i64 2, .int .i64 1],
  .cells false false [word true [], word false [63], .int .i64 6, .int .i64 0], .cells false false [word true [], word false [64], .int .i64 6, .int .i64 1]]

theorem ex_loop (s0 : AV) (H : Heap) : L.loop a5l0s a5l0 ⟨a5l0F s0 (.sl false 10 exT) (.int .i64 10) (.int .i64 0), H⟩ = some (.exit 0, ⟨a5l0F s0 (.sl false 10 exT) (.int .i64 10) (.int .i64 10), H ++ exH⟩) := by
  have hz : ∀ n, ∀ x ∈ List.replicate n 0, x < 256 := fun n x hx => by rw [List.eq_of_mem_replicate hx]; omega
  change L.loop a5l0s a5l0 ⟨a5l0F s0 (.sl false 10 exT) (.int .i64 (10 : Nat)) (.int .i64 (0 : Nat)), H⟩ = _
  rw [ex_step (i := 0) (z1 := true) (z2 := true) (p := []) (q := []) (v := -1) (e := 7) rfl (by omega) (by omega) rfl (by simp) (by simp) (by simp) (by simp) rfl]
  rw [ex_step (i := 0 + 1) (z1 := true) (z2 := false) (p := []) (q := [9]) (v := 7) (e := 7) rfl (by omega) (by omega) rfl (by simp) (by simp) (by simp) (by simp) rfl]
  rw [ex_step (i := 0 + 1 + 1) (z1 := false) (z2 := true) (p := List.replicate 65 0) (q := []) (v := 1) (e := 3) rfl (by omega) (by omega) rfl (by simp) (by simp) (hz _) (by simp) rfl]
  rw [ex_step (i := 0 + 1 + 1 + 1) (z1 := false) (z2 := false) (p := List.replicate 65 0) (q := [9]) (v := 1) (e := 4) rfl (by omega) (by omega) rfl (by simp) (by simp) (hz _) (by simp) (by decide)]
  rw [ex_step (i := 0 + 1 + 1 + 1 + 1) (z1 := true) (z2 := false) (p := []) (q := List.replicate 65 0) (v := 0) (e := 4) rfl (by omega) (by omega) rfl (by simp) (by simp) (by simp) (hz _) (by decide)]
  rw [ex_step (i := 0 + 1 + 1 + 1 + 1 + 1) (z1 := true) (z2 := false) (p := []) (q := List.replicate 64 0) (v := 0) (e := 0) rfl (by omega) (by omega) rfl (by simp) (by simp) (by simp) (hz _) (by decide)]
  rw [ex_step (i := 0 + 1 + 1 + 1 + 1 + 1 + 1) (z1 := true) (z2 := false) (p := []) (q := [1]) (v := 0) (e := 1) rfl (by omega) (by omega) rfl (by simp) (by simp) (by simp) (by simp) (by decide)]
  rw [ex_step (i := 0 + 1 + 1 + 1 + 1 + 1 + 1 + 1) (z1 := false) (z2 := false) (p := [4]) (q := [0]) (v := 2) (e := 1) rfl (by omega) (by omega) rfl (by simp) (by simp) (by simp) (by simp) (by decide)]
  rw [ex_step (i := 0 + 1 + 1 + 1 + 1 + 1 + 1 + 1 + 1) (z1 := true) (z2 := false) (p := []) (q := [63]) (v := 6) (e := 0) rfl (by omega) (by omega) rfl (by simp) (by simp) (by simp) (by simp) (by decide)]
  rw [ex_step (i := 0 + 1 + 1 + 1 + 1 + 1 + 1 + 1 + 1 + 1) (z1 := true) (z2 := false) (p := []) (q := [64]) (v := 6) (e := 1) rfl (by omega) (by omega) rfl (by simp) (by simp) (by simp) (by simp) (by decide)]
  simp only [Nat.zero_add, Nat.reduceAdd, List.append_assoc]
  exact ex_end (n := 10)

theorem fl5 (a : AV) (k : IntKind) (v : Int) : fillA [a] [(0, [.int k v])] = some [.int k v] := rfl
theorem fl6 (a b c : AV) (k k' k'' : IntKind) (v v' v'' : Int) : fillA [a, b, c] [(0, [.int k v]), (1, [.int k' v']), (2, [.int k'' v''])] = some [.int k v, .int k' v', .int k'' v''] := rfl
theorem fill_app (A z B g : List AV) (rest : List (Nat × List AV)) (off : Nat) (h0 : off = A.length) (h1 : z.length = g.length) (h2 : g.all AV.isCell = true) : fillA (A ++ (z ++ B)) ((off, g) :: rest) = fillA ((A ++ g) ++ B) rest := by
  subst h0
  have hc : A.length + g.length ≤ (A ++ (z ++ B)).length := by simp only [List.length_append]; omega
  simp only [fillA, if_pos (And.intro hc h2)]
  congr 1
  unfold splice
  rw [List.take_left, ← h1, ← List.append_assoc A z B, show A.length + z.length = (A ++ z).length from List.length_append.symm, List.drop_left]

def flat1 : AV → Bool
  | .sl .. | .int .. | .bool .. => true
  | _ => false

theorem newA_flat {z : Bool} {n es : Nat} {cs : List AV} {H : Heap} (h : cs.all flat1 = true) : newA true z n es cs H = some (.sl z n cs, H) := by
  have h1 : ∀ cs : List AV, cs.all flat1 = true → cs.flatMap (bor frzN H) = [] ∧ cs.mapM (frz frzN H) = some cs := by
    intro cs
    induction cs with
    | nil => intro _; exact ⟨rfl, rfl⟩
    | cons c cs ih =>
      intro h
      simp only [List.all_cons, Bool.and_eq_true] at h
      obtain ⟨i1, i2⟩ := ih h.2
      have hc : bor frzN H c = [] ∧ frz frzN H c = some c := by
        have := h.1
        cases c <;> first | exact ⟨rfl, rfl⟩ | cases this
      refine ⟨by rw [List.flatMap_cons, hc.1, i1]; rfl, ?_⟩
      rw [List.mapM_cons, hc.2, i2]
      rfl
  obtain ⟨i1, i2⟩ := h1 cs h
  rw [newA_data, i1, i2]
  rfl

theorem fl7 (x0 y0 : Bool) (m0 n0 : Nat) (c0 d0 : List AV) (v0 e0 : Int) (x1 y1 : Bool) (m1 n1 : Nat) (c1 d1 : List AV) (v1 e1 : Int) (x2 y2 : Bool) (m2 n2 : Nat) (c2 d2 : List AV) (v2 e2 : Int) (x3 y3 : Bool) (m3 n3 : Nat) (c3 d3 : List AV) (v3 e3 : Int) (x4 y4 : Bool) (m4 n4 : Nat) (c4 d4 : List AV) (v4 e4 : Int) (x5 y5 : Bool) (m5 n5 : Nat) (c5 d5 : List AV) (v5 e5 : Int) (x6 y6 : Bool) (m6 n6 : Nat) (c6 d6 : List AV) (v6 e6 : Int) (x7 y7 : Bool) (m7 n7 : Nat) (c7 d7 : List AV) (v7 e7 : Int) (x8 y8 : Bool) (m8 n8 : Nat) (c8 d8 : List AV) (v8 e8 : Int) (x9 y9 : Bool) (m9 n9 : Nat) (c9 d9 : List AV) (v9 e9 : Int) (H : Heap) : newK true false 10 4 H (fillA (repz [.sl true 0 [], .sl true 0 [], .int .i64 0, .int .i64 0] 10) [(0, [.sl x0 m0 c0, .sl y0 n0 d0, .int .i64 v0, .int .i64 e0]), (4, [.sl x1 m1 c1, .sl y1 n1 d1, .int .i64 v1, .int .i64 e1]), (8, [.sl x2 m2 c2, .sl y2 n2 d2, .int .i64 v2, .int .i64 e2]), (12, [.sl x3 m3 c3, .sl y3 n3 d3, .int .i64 v3, .int .i64 e3]), (16, [.sl x4 m4 c4, .sl y4 n4 d4, .int .i64 v4, .int .i64 e4]), (20, [.sl x5 m5 c5, .sl y5 n5 d5, .int .i64 v5, .int .i64 e5]), (24, [.sl x6 m6 c6, .sl y6 n6 d6, .int .i64 v6, .int .i64 e6]), (28, [.sl x7 m7 c7, .sl y7 n7 d7, .int .i64 v7, .int .i64 e7]), (32, [.sl x8 m8 c8, .sl y8 n8 d8, .int .i64 v8, .int .i64 e8]), (36, [.sl x9 m9 c9, .sl y9 n9 d9, .int .i64 v9, .int .i64 e9])]) = some (.sl false 10 [.sl x0 m0 c0, .sl y0 n0 d0, .int .i64 v0, .int .i64 e0, .sl x1 m1 c1, .sl y1 n1 d1, .int .i64 v1, .int .i64 e1, .sl x2 m2 c2, .sl y2 n2 d2, .int .i64 v2, .int .i64 e2, .sl x3 m3 c3, .sl y3 n3 d3, .int .i64 v3, .int .i64 e3, .sl x4 m4 c4, .sl y4 n4 d4, .int .i64 v4, .int .i64 e4, .sl x5 m5 c5, .sl y5 n5 d5, .int .i64 v5, .int .i64 e5, .sl x6 m6 c6, .sl y6 n6 d6, .int .i64 v6, .int .i64 e6, .sl x7 m7 c7, .sl y7 n7 d7, .int .i64 v7, .int .i64 e7, .sl x8 m8 c8, .sl y8 n8 d8, .int .i64 v8, .int .i64 e8, .sl x9 m9 c9, .sl y9 n9 d9, .int .i64 v9, .int .i64 e9], H) := by
  have key : ∀ Z g0 g1 g2 g3 g4 g5 g6 g7 g8 g9 : List AV, Z.length = 4 → (∀ g ∈ [g0, g1, g2, g3, g4, g5, g6, g7, g8, g9], g.length = 4 ∧ g.all AV.isCell = true) →
      fillA (repz Z 10) [(0, g0), (4, g1), (8, g2), (12, g3), (16, g4), (20, g5), (24, g6), (28, g7), (32, g8), (36, g9)] = some (g0 ++ (g1 ++ (g2 ++ (g3 ++ (g4 ++ (g5 ++ (g6 ++ (g7 ++ (g8 ++ g9))))))))) := by
    intro Z g0 g1 g2 g3 g4 g5 g6 g7 g8 g9 hZ hg
    have f0 := hg g0 (by simp)
    have f1 := hg g1 (by simp)
    have f2 := hg g2 (by simp)
    have f3 := hg g3 (by simp)
    have f4 := hg g4 (by simp)
    have f5 := hg g5 (by simp)
    have f6 := hg g6 (by simp)
    have f7 := hg g7 (by simp)
    have f8 := hg g8 (by simp)
    have f9 := hg g9 (by simp)
    have e : repz Z 10 = [] ++ (Z ++ (Z ++ (Z ++ (Z ++ (Z ++ (Z ++ (Z ++ (Z ++ (Z ++ (Z ++ [])))))))))) := rfl
    rw [e]
    have L : ∀ (A B : List AV) (g : List AV) (k : Nat), A.length = k → g.length = 4 → (A ++ g).length = k + 4 := by intro A B g k h1 h2; rw [List.length_append, h1, h2]
    have l1 := L [] [] g0 0 rfl f0.1
    have l2 := L _ [] g1 _ l1 f1.1
    have l3 := L _ [] g2 _ l2 f2.1
    have l4 := L _ [] g3 _ l3 f3.1
    have l5 := L _ [] g4 _ l4 f4.1
    have l6 := L _ [] g5 _ l5 f5.1
    have l7 := L _ [] g6 _ l6 f6.1
    have l8 := L _ [] g7 _ l7 f7.1
    have l9 := L _ [] g8 _ l8 f8.1
    rw [fill_app [] Z _ g0 _ 0 rfl (hZ.trans f0.1.symm) f0.2, fill_app _ Z _ g1 _ 4 l1.symm (hZ.trans f1.1.symm) f1.2, fill_app _ Z _ g2 _ 8 l2.symm (hZ.trans f2.1.symm) f2.2, fill_app _ Z _ g3 _ 12 l3.symm (hZ.trans f3.1.symm) f3.2, fill_app _ Z _ g4 _ 16 l4.symm (hZ.trans f4.1.symm) f4.2, fill_app _ Z _ g5 _ 20 l5.symm (hZ.trans f5.1.symm) f5.2, fill_app _ Z _ g6 _ 24 l6.symm (hZ.trans f6.1.symm) f6.2, fill_app _ Z _ g7 _ 28 l7.symm (hZ.trans f7.1.symm) f7.2, fill_app _ Z _ g8 _ 32 l8.symm (hZ.trans f8.1.symm) f8.2, fill_app _ Z _ g9 _ 36 l9.symm (hZ.trans f9.1.symm) f9.2]
    simp only [fillA, List.append_nil, List.nil_append, List.append_assoc]
  rw [key]
  · rw [newK_some]
    exact newA_flat rfl
  · rfl
  · intro g hg
    simp only [List.mem_cons, List.not_mem_nil, or_false] at hg
    rcases hg with rfl | rfl | rfl | rfl | rfl | rfl | rfl | rfl | rfl | rfl <;> exact ⟨rfl, rfl⟩

theorem ex_take1 : ∃ t w, (w : List Nat).length = 4096 ∧ L.pcall 22 [.agg [.sl true 0 [], .sl false 1 [.int .u8 1]], .int .i64 1099511627776] = some (.sl t 4096 (bs w)) := by
  have hm : (min (1099511627776 : Int) 4096).toNat = 4096 := by decide +kernel
  obtain ⟨t, h⟩ := take_eq true false [] [1] 1099511627776 (by simp) (by simp)
  rw [hm] at h
  have hl := takeM_length (seqM [] [1]) 4096
  refine ⟨t, _, hl, ?_⟩
  unfold word at h
  rw [hl] at h
  exact h

theorem ex_take2 : ∃ t w, (w : List Nat).length = 0 ∧ L.pcall 22 [.agg [.sl true 0 [], .sl false 1 [.int .u8 1]], .int .i64 (-1)] = some (.sl t 0 (bs w)) := by
  have hm : (min (-1 : Int) 4096).toNat = 0 := by decide +kernel
  obtain ⟨t, h⟩ := take_eq true false [] [1] (-1) (by simp) (by simp)
  rw [hm] at h
  exact ⟨t, _, takeM_length (seqM [] [1]) 0, h⟩

theorem ex_at1 : L.pcall 25 [.agg [.sl true 0 [], .sl false 1 [.int .u8 5]], .int .i64 (-1)] = some (.int .u8 0) := by
  have hm : atM [] [5] (-1) = 0 := by decide +kernel
  have h := at_eq true false [] [5] (-1) (by simp) (by simp) (by omega) (by omega)
  rw [hm] at h
  exact h

theorem ex_at2 : L.pcall 25 [.agg [.sl true 0 [], .sl false 3 [.int .u8 1, .int .u8 2, .int .u8 3]], .int .i64 4611686018427387904] = some (.int .u8 2) := by
  have hm : atM [] [1, 2, 3] 4611686018427387904 = 2 := by decide +kernel
  have h := at_eq true false [] [1, 2, 3] 4611686018427387904 (by simp) (by simp) (by omega) (by omega)
  rw [hm] at h
  exact h

theorem ex_idx : L.pcall 27 [.agg [.sl false 1 [.int .u8 1], .sl true 0 []], .int .i64 9] = some (.int .i64 1) := by
  have hm : indexM 1 0 9 = 1 := by decide +kernel
  have h := index_eq false true [1] [] 9 (by simp) (by simp) (by omega) (by omega)
  simp only [List.length_cons, List.length_nil, Nat.zero_add] at h
  rw [hm] at h
  exact h

set_option maxRecDepth 100000 in
set_option maxHeartbeats 8000000 in
theorem law5 (avs : List AV) (h : FitTs [] avs) : L.pcall 5 avs = some (.bool true) := by
  obtain rfl := fitTs_nil h
  obtain ⟨T, hl⟩ : ∃ T : Heap, ∀ s0 H, L.loop a5l0s a5l0 ⟨a5l0F s0 (.sl false 10 exT) (.int .i64 10) (.int .i64 0), H⟩ = some (.exit 0, ⟨a5l0F s0 (.sl false 10 exT) (.int .i64 10) (.int .i64 10), H ++ T⟩) := ⟨exH, ex_loop⟩
  unfold exT at hl
  have htk : List.take 64 (List.replicate 65 0) = List.replicate 64 0 := rfl
  have d63 : List.drop 1 (List.replicate 64 0) = List.replicate 63 0 := rfl
  have d62 : List.drop 1 (List.replicate 63 0) = List.replicate 62 0 := rfl
  have d64 : List.drop 1 (List.replicate 65 0) = List.replicate 64 0 := rfl
  have t63 : List.take 63 (List.replicate 63 0) = List.replicate 63 0 := rfl
  have t62 : List.take 62 (List.replicate 62 0) = List.replicate 62 0 := rfl
  have t64 : List.take 64 (List.replicate 64 0) = List.replicate 64 0 := rfl
  obtain ⟨m1, e1, e2⟩ := merge_64_63 false false
  have e3 := merge_64_65 false false
  have e2' : L.pcall 32 [.agg [.sl true 0 [], .sl false 64 (.int .u8 1 :: bs (List.replicate 63 0))], .agg [.sl true 0 [], .sl false 63 (.int .u8 1 :: bs (List.replicate 62 0))]] = some (.tup [las false false [] m1, .int .i64 0]) := e2
  have e3' : L.pcall 32 [.agg [.sl true 0 [], .sl false 64 (.int .u8 1 :: bs (List.replicate 63 0))], .agg [.sl true 0 [], .sl false 65 (.int .u8 1 :: bs (List.replicate 64 0))]] = some (.tup [las true true [] [], .int .i64 4]) := e3
  obtain ⟨t1, w1, l1, f1⟩ := ex_take1
  obtain ⟨t2, w2, l2, f2⟩ := ex_take2
  rw [a5p, a5, pbodyA_eq]
  simp (maxSteps := 30000000) (disch := first | assumption | omega | (simp only [List.length_cons, List.length_nil, List.length_append, List.length_set, List.length_replicate, List.length_map, List.length_range, List.length_take, List.length_drop, List.all_cons, List.all_nil, AV.isCell, Bool.and_self, Bool.and_true, bs_length, is64_length] <;> omega) | rfl | decide) only [Int.reduceNeg, bodyA_eq, List.length_nil, Nat.sub_zero, pads, List.nil_append, run_seq, run_region, runOps_cons, oper_none, ex_mov, opv, putK_to, List.set_cons_zero, opsK_some, runOps_nil, regK_some, seqK_normal, ex_call, List.map_nil, pcallA_eq, frzN, List.mapM_nil, Option.pure_def, argK_some, awake_eq, retK_some, scal, scal1, fzIds, List.flatMap_nil, List.foldl_nil, ite_self, List.set_cons_succ, ex_un, List.getD_cons_succ, List.getD_cons_zero, un_not, Bool.not_true, valK_some, ex_pick, pickA_bool, Bool.false_eq_true, if_false, run_cond, condK_bool, run_ret, run_skip, ex_mkslice, mksK_int, Int.reduceToNat, List.length_cons, Nat.zero_add, repz_bs, newA_data, bor_bs, List.isEmpty_nil, frz_bs, slK_some, if_true, run_draw, List.take_succ_cons, List.take_nil, runFree_cons, foper_none, fe_build, ex_build, AV.cells, List.all_nil, fl0, Option.map_some, fstK_some, fputK_to, freeK_some, List.all_cons, Nat.reduceAdd, beq_self_eq_true, Bool.and_self, List.map_cons, fl4, fe_bslice, ex_bslice, repz_1, List.append_nil, Nat.mul_one, fl5, newK_some, List.flatMap_cons, bor_int, List.mapM_cons, frz_int, Option.bind_eq_bind, Option.bind_some, fe_call, frz_sl, loop_eq, Bool.and_true, bor_sl, quietK_some, quietCall, Bool.or_true, fe_mov, fl1, fl3, fl2, fe_slice, ex_slice, Option.map_none, sliceA_sl, bounds_ns, cutK_sl, List.drop_zero, bs_take, htk, Nat.reduceMul, fl7, fe_len, ex_len, lenA_sl, castLit, runFree_nil, drawK_some, List.drop_succ_cons, List.drop_nil, adopt, adoptVal, run_block, run_loop, a5l0c, hl, blockK_exit, run_drawp, List.take_zero, runPriv_cons, isPriv_mksf, privA_eq, AOp.args, dataV, data1, newA_own, privK_some, relV, rel2, rel1, allData_cons, dat_bs, allData_nil, and_self, priv1K_some, isPriv_mov, and_true, free1K_some, runPriv_nil, consK_some, drawpK_some, adoptS_cons, adoptL, liftV, lift2, lift1, Nat.add_zero, List.length_append, List.append_assoc, List.cons_append, alK_mk, aliasL_cons, aliasL_nil, apartK_some, ex_iaddr, iaddrA_own, Int.toNat_zero, ex_store, wr_ptr, hget0, List.getElem?_cons_zero, wrK_cells, splice, bs_drop, d63, hset0, storeK_some, putK_no, hget, List.getElem?_cons_succ, d62, hset, frz_own, frzK_cells, t63, bor_own, borK_cells, List.foldl_cons, hmod0, List.modify_cons, fzBlk, Nat.reduceSub, t62, hmod, Nat.reduceEqDiff, frz_agg, e2', bor_agg, ex_ext, extA_tup, ex_box, AV.isCell, d64, t64, e3', ex_bin, bin_eql, decide_true, oper_guard, guardK_bool, ex_faddr, faddrA_ptr, putA_to, ex_load, rd_ptr, rdK_cells, loadK_1, e1, f1, f2, ex_at1, ex_idx, repz_3, fl6, ex_at2, bodyK_ret, results_1, res_tmp, retvK_some, pbodyK_some, frz_bool]
end Go.Abs.Lasso
