/- Of, Equal; automata as values; cubes; words. -/
import Derived.Test.YtbfnjdhafgnlnaaDoorAN2
namespace Go.Abs.NfaD
open Go Go.Abs
set_option linter.unusedSimpArgs false
set_option linter.unusedVariables false

abbrev iw (z : Bool) (l : List Int) : AV := .sl z l.length (ints l)

theorem has_hasI {v : AV} {S : Nat → Bool} (hv : HasSet v S) (k : Int) (h0 : 0 ≤ k) (hk : k < 4096) : L.pcall 67 [v, .int .i64 k] = some (.bool (S k.toNat)) := by
  have := has_has hv k.toNat (by omega)
  rwa [Int.toNat_of_nonneg h0] at this
theorem with_hasI {v : AV} {S : Nat → Bool} (hv : HasSet v S) (k : Int) (h0 : 0 ≤ k) (hk : k < 4096) : ∃ z l, L.pcall 68 [v, .int .i64 k] = some (sw z l) ∧ HasSet (sw z l) (fun j => S j || decide (j = k.toNat)) := by
  have := with_has hv k.toNat (by omega)
  rwa [Int.toNat_of_nonneg h0] at this

theorem drop_getI {l : List Int} {i : Nat} (h : i < l.length) : l.drop i = l.getD i 0 :: l.drop (i + 1) := by
  rw [List.drop_eq_getElem_cons h]
  simp [List.getD, List.getElem?_eq_getElem h]

theorem of_loop {l : List Int} {z : Bool} {H : Heap} (hl : l.length < 1099511627776) (hq : ∀ q ∈ l, 0 ≤ q ∧ q < 4096) : ∀ d i zv r S, i + d = l.length → HasSet (sw zv r) S →
    ∃ z' r', L.loop a43l0s a43l0 ⟨a43l0F (sw zv r) (iw z l) (.int .i64 (l.length : Nat)) (.int .i64 (i : Nat)), H⟩ = some (.exit 0, ⟨a43l0F (sw z' r') (iw z l) (.int .i64 (l.length : Nat)) (.int .i64 (l.length : Nat)), H⟩) ∧ HasSet (sw z' r') (fun j => S j || (l.drop i).contains (j : Int))
  | 0, i, zv, r, S, h, hS => by
    obtain rfl : i = l.length := by omega
    refine ⟨zv, r, ?_, hS.congr (fun j => by simp)⟩
    rw [a43l0n]
    simp (maxSteps := 30000000) (disch := first | assumption | omega | (simp only [List.length_cons, List.length_nil, List.length_append, List.length_set, List.length_replicate, List.length_map, List.length_range, List.length_take, List.length_drop, List.all_cons, List.all_nil, AV.isCell, Bool.and_self, Bool.and_true, bs_length, is64_length, w64_length, ints_length] <;> omega) | rfl | decide) only [a43l0b, run_seq, run_region, runOps_cons, oper_none, ex_bin, opv, List.getD_cons_succ, List.getD_cons_zero, bin_lss, Int.lt_irrefl, decide_false, valK_some, putK_to, List.set_cons_succ, List.set_cons_zero, opsK_some, runOps_nil, regK_some, seqK_normal, run_cond, condK_bool, Bool.false_eq_true, run_skip, run_exit, if_false, seqK_exit, loopK_exit, a43l0c]
  | d + 1, i, zv, r, S, h, hS => by
    have hlt : (i : Int) < (l.length : Nat) := by omega
    have hm : l.getD i 0 ∈ l := by
      rw [List.getD_eq_getElem?_getD, List.getElem?_eq_getElem (by omega)]
      exact List.getElem_mem _
    obtain ⟨z1, r1, h1, h2⟩ := with_hasI hS (l.getD i 0) (hq _ hm).1 (hq _ hm).2
    obtain ⟨z2, r2, h3, h4⟩ := of_loop (z := z) (H := H) hl hq d (i + 1) z1 r1 _ (by omega) h2
    refine ⟨z2, r2, ?_, h4.congr (fun j => ?_)⟩
    · rw [a43l0n]
      simp (maxSteps := 30000000) (disch := first | assumption | omega | (simp only [List.length_cons, List.length_nil, List.length_append, List.length_set, List.length_replicate, List.length_map, List.length_range, List.length_take, List.length_drop, List.all_cons, List.all_nil, AV.isCell, Bool.and_self, Bool.and_true, bs_length, is64_length, w64_length, ints_length] <;> omega) | rfl | decide) only [a43l0b, run_seq, run_region, runOps_cons, oper_none, ex_bin, opv, List.getD_cons_succ, List.getD_cons_zero, bin_lss, hlt, decide_true, valK_some, putK_to, List.set_cons_succ, List.set_cons_zero, opsK_some, runOps_nil, regK_some, seqK_normal, run_cond, condK_bool, run_skip, run_exit, if_true, run_block, ex_iaddr, iaddrA_sl, Int.toNat_natCast, Nat.mul_one, ex_load, rd_vptr, ints_drop, ints_take, ints_at0, getD_dropI, Nat.add_zero, loadK_1, ex_mov, ex_call, List.map_cons, List.map_nil, pcallA_eq, frzN, List.mapM_cons, frz_sl, frz_int, List.mapM_nil, Option.pure_def, Option.bind_eq_bind, Option.bind_some, argK_some, h1, retK_some, scal, scal1, Bool.false_eq_true, fzIds, List.flatMap_cons, bor_sl, bor_int, List.flatMap_nil, List.append_nil, List.foldl_nil, ite_self, blockK_normal, bin_add, cadd1, wr64, loopK_normal, a43l0c, h3]
    · rw [drop_getI (by omega : i < l.length), List.contains_cons]
      have hn := (hq _ hm).1
      have : (decide (j = (l.getD i 0).toNat)) = ((j : Int) == l.getD i 0) := by
        rw [Bool.eq_iff_iff]
        simp only [decide_eq_true_eq, beq_iff_eq]
        omega
      rw [this, Bool.or_assoc]

theorem of_has {l : List Int} {z : Bool} (hl : l.length < 1099511627776) (hq : ∀ q ∈ l, 0 ≤ q ∧ q < 4096) : ∃ z' r, L.pcall 43 [iw z l] = some (sw z' r) ∧ HasSet (sw z' r) (fun j => l.contains (j : Int)) := by
  obtain ⟨z', r, h1, h2⟩ := of_loop (z := z) (H := []) hl hq l.length 0 true [] _ (by omega) (empty_has (z := true))
  refine ⟨z', r, ?_, h2.congr (fun j => by simp)⟩
  simp only [Int.natCast_zero] at h1
  change L.loop a43l0s a43l0 ⟨a43l0F (.sl true 0 []) _ _ _, _⟩ = _ at h1
  rw [a43p, a43, pbodyA_eq]
  simp (maxSteps := 30000000) (disch := first | assumption | omega | (simp only [List.length_cons, List.length_nil, List.length_append, List.length_set, List.length_replicate, List.length_map, List.length_range, List.length_take, List.length_drop, List.all_cons, List.all_nil, AV.isCell, Bool.and_self, Bool.and_true, bs_length, is64_length, w64_length, ints_length] <;> omega) | rfl | decide) only [bodyA_eq, List.length_cons, List.length_nil, Nat.zero_add, Nat.reduceSub, pads, List.cons_append, List.nil_append, run_seq, run_region, runOps_cons, oper_none, ex_mov, opv, putK_to, List.set_cons_succ, List.set_cons_zero, opsK_some, runOps_nil, regK_some, seqK_normal, List.getD_cons_zero, ex_len, List.getD_cons_succ, lenA_sl, valK_some, run_block, run_loop, a43l0c, h1, blockK_exit, if_true, run_ret, bodyK_ret, results_1, res_tmp, retvK_some, pbodyK_some, frzN, frz_sl]

/-! equality -/
theorem drop_getN {l : List Nat} {i : Nat} (h : i < l.length) : l.drop i = l.getD i 0 :: l.drop (i + 1) := by
  rw [List.drop_eq_getElem_cons h]
  simp [List.getD, List.getElem?_eq_getElem h]

/-! automata -/
structure Ed where
  a : Int
  b : Int
  p : Nat
  n : Nat
def e0 : Ed := ⟨0, 0, 0, 0⟩
def encE (e : Ed) : List AV := [.int .i64 e.a, .int .i64 e.b, .int .u8 (e.p : Nat), .int .u8 (e.n : Nat)]
def edges (l : List Ed) : List AV := rows encE l
theorem edges_length (l : List Ed) : (edges l).length = l.length * 4 := rows_length (enc := encE) (k := 4) (fun _ => rfl) l
theorem edges_at {l : List Ed} {i : Nat} (h : i < l.length) : List.take 4 (List.drop (i * 4) (edges l)) = [.int .i64 (l.getD i e0).a, .int .i64 (l.getD i e0).b, .int .u8 ((l.getD i e0).p : Nat), .int .u8 ((l.getD i e0).n : Nat)] := by
  unfold edges
  rw [rows_drop (enc := encE) (k := 4) (fun _ => rfl), List.drop_eq_getElem_cons h]
  have : l.getD i e0 = l[i] := by simp [List.getD, List.getElem?_eq_getElem h]
  rw [this]
  rfl
theorem drop_getE {l : List Ed} {i : Nat} (h : i < l.length) : l.drop i = l.getD i e0 :: l.drop (i + 1) := by
  rw [List.drop_eq_getElem_cons h]
  simp [List.getD, List.getElem?_eq_getElem h]

structure Aut where
  vars : Int
  states : Int
  z1 : Bool
  st : List Int
  z2 : Bool
  fi : List Int
  z3 : Bool
  ed : List Ed

abbrev Aut.cells (n : Aut) : List AV := [.int .i64 n.vars, .int .i64 n.states, iw n.z1 n.st, iw n.z2 n.fi, .sl n.z3 n.ed.length (edges n.ed)]
abbrev Aut.av (n : Aut) : AV := .agg n.cells

/-! cubes and words -/
def hasB (p n x : Nat) : Bool := decide (x &&& p = p) && decide (x &&& n = 0)

theorem cubeHas (p n x : Nat) (hp : p < 256) (hn : n < 256) (hx : x < 256) : L.pcall 87 [.agg [.int .u8 (p : Nat), .int .u8 (n : Nat)], .int .u8 (x : Nat)] = some (.bool (hasB p n x)) := by
  have h1 := and8 hx hp
  have h2 := and8 hx hn
  have e1 : (((x &&& p : Nat) : Int) = ((p : Nat) : Int)) = (x &&& p = p) := propext ⟨fun h => by omega, fun h => by omega⟩
  have e2 : (((x &&& n : Nat) : Int) = 0) = (x &&& n = 0) := propext ⟨fun h => by omega, fun h => by omega⟩
  unfold hasB
  rw [a87p, a87, pbodyA_eq]
  by_cases c1 : x &&& p = p <;> by_cases c2 : x &&& n = 0 <;> simp (maxSteps := 30000000) (disch := first | assumption | omega | (simp only [List.length_cons, List.length_nil, List.length_append, List.length_set, List.length_replicate, List.length_map, List.length_range, List.length_take, List.length_drop, List.all_cons, List.all_nil, AV.isCell, Bool.and_self, Bool.and_true, bs_length, is64_length, w64_length, ints_length] <;> omega) | rfl | decide) only [bodyA_eq, List.length_cons, List.length_nil, Nat.zero_add, Nat.reduceAdd, Nat.reduceSub, pads, List.cons_append, List.nil_append, run_seq, run_region, runOps_cons, oper_none, ex_box, AV.cells, opv, List.getD_cons_zero, List.all_cons, AV.isCell, List.all_nil, Bool.and_self, if_true, putK_to, List.set_cons_succ, List.set_cons_zero, opsK_some, ex_mov, runOps_nil, regK_some, seqK_normal, List.getD_cons_succ, ex_faddr, faddrA_ptr, Nat.add_zero, valK_some, ex_load, rd_ptr, List.getElem?_cons_zero, rdK_cells, List.drop_zero, List.take_succ_cons, List.take_zero, loadK_1, ex_bin, bin_and, h1, c1, bin_eql, decide_true, oper_guard, guardK_bool, putA_to, List.drop_succ_cons, List.take_nil, h2, c2, castLit, ex_pick, pickA_bool, run_ret, bodyK_ret, results_1, res_tmp, retvK_some, pbodyK_some, frzN, frz_bool, e2, decide_false, ite_self, Bool.and_false, e1, Bool.false_eq_true, if_false, Bool.and_true]

def cubeErr (v p n : Nat) : Int := if 2 ^ v ≤ p ||| n then 7 else if p &&& n = 0 then 0 else 2

theorem shl1 {v : Nat} (hv : v ≤ 6) : IntKind.i64.wrap (1 * 2 ^ min v IntKind.i64.bits) = ((2 ^ v : Nat) : Int) := by
  have : v = 0 ∨ v = 1 ∨ v = 2 ∨ v = 3 ∨ v = 4 ∨ v = 5 ∨ v = 6 := by omega
  rcases this with rfl | rfl | rfl | rfl | rfl | rfl | rfl <;> rfl

theorem cubeCheck (v p n : Nat) (hv : v ≤ 6) (hp : p < 256) (hn : n < 256) : L.pcall 59 [.agg [.int .u8 (p : Nat), .int .u8 (n : Nat)], .int .i64 (v : Nat)] = some (.int .i64 (cubeErr v p n)) := by
  have h1 := or8 hp hn
  have h2 := and8 hp hn
  have h3 : ¬ ((6 : Int) < (v : Nat)) := by omega
  have hor : p ||| n < 256 := by
    have := Nat.or_lt_two_pow (x := p) (y := n) (n := 8) (by omega) (by omega)
    omega
  have e1 : (((2 ^ v : Nat) : Int) ≤ ((p ||| n : Nat) : Int)) = (2 ^ v ≤ p ||| n) := propext ⟨fun h => by omega, fun h => by omega⟩
  have e2 : (((p &&& n : Nat) : Int) = 0) = (p &&& n = 0) := propext ⟨fun h => by omega, fun h => by omega⟩
  have hsh := shl1 hv
  unfold cubeErr
  rw [a59p, a59, pbodyA_eq]
  by_cases c1 : 2 ^ v ≤ p ||| n
  · simp (maxSteps := 30000000) (disch := first | assumption | omega | (simp only [List.length_cons, List.length_nil, List.length_append, List.length_set, List.length_replicate, List.length_map, List.length_range, List.length_take, List.length_drop, List.all_cons, List.all_nil, AV.isCell, Bool.and_self, Bool.and_true, bs_length, is64_length, w64_length, ints_length] <;> omega) | rfl | decide) only [bodyA_eq, List.length_cons, List.length_nil, Nat.zero_add, Nat.reduceAdd, Nat.reduceSub, pads, List.cons_append, List.nil_append, run_seq, run_region, runOps_cons, oper_none, ex_box, AV.cells, opv, List.getD_cons_zero, List.all_cons, AV.isCell, List.all_nil, Bool.and_self, if_true, putK_to, List.set_cons_succ, List.set_cons_zero, opsK_some, ex_mov, runOps_nil, regK_some, seqK_normal, run_block, List.getD_cons_succ, ex_bin, bin_lss, ltc0, decide_false, valK_some, oper_guard, guardK_bool, putA_to, bin_gtr, h3, ex_pick, pickA_bool, Bool.false_eq_true, if_false, run_cond, condK_bool, run_skip, run_draw, List.take_succ_cons, List.take_zero, runFree_cons, foper_none, fe_faddr, ex_faddr, faddrA_ptr, Nat.add_zero, fstK_some, fputK_to, freeK_some, fe_load, ex_load, rd_ptr, List.getElem?_cons_zero, rdK_cells, List.drop_zero, loadK_1, List.drop_succ_cons, List.take_nil, fe_bin, bin_or, h1, fe_conv, ex_conv, convA_int, wr64, runFree_nil, drawK_some, adopt, adoptVal, bin_shl, Int.toNat_natCast, hsh, bin_geq, e1, c1, decide_true, run_ret, bin_and, h2, bin_neq, e2, Bool.not_eq_eq_eq_not, Bool.not_true, decide_eq_false_iff_not, blockK_ret, seqK_ret, bodyK_ret, results_1, res_tmp, retvK_some, pbodyK_some, frzN, frz_int]
  · by_cases c2 : p &&& n = 0 <;> simp (maxSteps := 30000000) (disch := first | assumption | omega | (simp only [List.length_cons, List.length_nil, List.length_append, List.length_set, List.length_replicate, List.length_map, List.length_range, List.length_take, List.length_drop, List.all_cons, List.all_nil, AV.isCell, Bool.and_self, Bool.and_true, bs_length, is64_length, w64_length, ints_length] <;> omega) | rfl | decide) only [bodyA_eq, List.length_cons, List.length_nil, Nat.zero_add, Nat.reduceAdd, Nat.reduceSub, pads, List.cons_append, List.nil_append, run_seq, run_region, runOps_cons, oper_none, ex_box, AV.cells, opv, List.getD_cons_zero, List.all_cons, AV.isCell, List.all_nil, Bool.and_self, if_true, putK_to, List.set_cons_succ, List.set_cons_zero, opsK_some, ex_mov, runOps_nil, regK_some, seqK_normal, run_block, List.getD_cons_succ, ex_bin, bin_lss, ltc0, decide_false, valK_some, oper_guard, guardK_bool, putA_to, bin_gtr, h3, ex_pick, pickA_bool, Bool.false_eq_true, if_false, run_cond, condK_bool, run_skip, run_draw, List.take_succ_cons, List.take_zero, runFree_cons, foper_none, fe_faddr, ex_faddr, faddrA_ptr, Nat.add_zero, fstK_some, fputK_to, freeK_some, fe_load, ex_load, rd_ptr, List.getElem?_cons_zero, rdK_cells, List.drop_zero, loadK_1, List.drop_succ_cons, List.take_nil, fe_bin, bin_or, h1, fe_conv, ex_conv, convA_int, wr64, runFree_nil, drawK_some, adopt, adoptVal, bin_shl, Int.toNat_natCast, hsh, bin_geq, e1, c1, run_ret, bin_and, h2, c2, castLit, bin_neq, decide_true, Bool.not_true, blockK_normal, bodyK_ret, results_1, res_tmp, retvK_some, pbodyK_some, frzN, frz_int, e2, Bool.not_false, blockK_ret, seqK_ret]

def wordErr (v : Nat) (w : List Nat) : Int := if 64 < w.length then 4 else if w.any (fun x => decide (2 ^ v ≤ x)) = true then 1 else 0

theorem bad68 (n : Aut) (v b x : Nat) (H : Heap) {fz z : Bool} (hv : v ≤ 6) (hnv : n.vars = (v : Nat)) (hx : x < 256) (hH : H[b]? = some (.cells fz z n.cells)) : L.icall (.func 75 [.ptr b 0]) [.int .u8 (x : Nat)] H = some (.bool (decide (2 ^ v ≤ x)), H) := by
  have hsh := shl1 hv
  have e1 : (((2 ^ v : Nat) : Int) ≤ ((x : Nat) : Int)) = (2 ^ v ≤ x) := propext ⟨fun h => by omega, fun h => by omega⟩
  rw [a75i, a75]
  simp (maxSteps := 30000000) (disch := first | assumption | omega | (simp only [List.length_cons, List.length_nil, List.length_append, List.length_set, List.length_replicate, List.length_map, List.length_range, List.length_take, List.length_drop, List.all_cons, List.all_nil, AV.isCell, Bool.and_self, Bool.and_true, bs_length, is64_length, w64_length, ints_length] <;> omega) | rfl | decide) only [List.cons_append, List.nil_append, bodyA_eq, List.length_cons, List.length_nil, Nat.zero_add, Nat.reduceAdd, Nat.reduceSub, pads, run_seq, run_region, runOps_cons, oper_none, ex_mov, opv, putK_to, List.set_cons_succ, List.set_cons_zero, opsK_some, runOps_nil, regK_some, seqK_normal, List.getD_cons_zero, ex_conv, List.getD_cons_succ, convA_int, wr64, valK_some, ex_faddr, faddrA_ptr, Nat.add_zero, ex_load, rd_ptr, hH, rdK_cells, List.drop_zero, List.take_succ_cons, hnv, List.take_zero, loadK_1, ex_bin, bin_shl, Int.toNat_natCast, hsh, bin_geq, e1, run_ret, bodyK_ret, results_1, res_tmp, retvK_some]

theorem index_loop {n : Aut} {v b : Nat} {H : Heap} {fz z zw : Bool} {w : List Nat} {s4 : AV} (hv : v ≤ 6) (hnv : n.vars = (v : Nat)) (hH : H[b]? = some (.cells fz z n.cells)) (hw : ∀ x ∈ w, x < 256) (hl : w.length < 1099511627776) : ∀ d i, i + d = w.length →
    ∃ i' : Nat, L.loop a85l0s a85l0 ⟨a85l0F (word zw w) (.func 75 [.ptr b 0]) s4 (.int .i64 (w.length : Nat)) (.int .i64 (i : Nat)), H⟩ =
      some (if (w.drop i).any (fun x => decide (2 ^ v ≤ x)) = true then (.ret, ⟨a85l0F (word zw w) (.func 75 [.ptr b 0]) (.int .i64 (i' : Nat)) (.int .i64 (w.length : Nat)) (.int .i64 (i' : Nat)), H⟩) else (.exit 0, ⟨a85l0F (word zw w) (.func 75 [.ptr b 0]) s4 (.int .i64 (w.length : Nat)) (.int .i64 (w.length : Nat)), H⟩))
  | 0, i, h => by
    obtain rfl : i = w.length := by omega
    refine ⟨0, ?_⟩
    rw [if_neg (by simp), a85l0n]
    simp (maxSteps := 30000000) (disch := first | assumption | omega | (simp only [List.length_cons, List.length_nil, List.length_append, List.length_set, List.length_replicate, List.length_map, List.length_range, List.length_take, List.length_drop, List.all_cons, List.all_nil, AV.isCell, Bool.and_self, Bool.and_true, bs_length, is64_length, w64_length, ints_length] <;> omega) | rfl | decide) only [a85l0b, run_seq, run_region, runOps_cons, oper_none, ex_bin, opv, List.getD_cons_succ, List.getD_cons_zero, bin_lss, Int.lt_irrefl, decide_false, valK_some, putK_to, List.set_cons_succ, List.set_cons_zero, opsK_some, runOps_nil, regK_some, seqK_normal, run_cond, condK_bool, Bool.false_eq_true, run_skip, run_exit, if_false, seqK_exit, loopK_exit, a85l0c]
  | d + 1, i, h => by
    have hlt : (i : Int) < (w.length : Nat) := by omega
    have hx : w.getD i 0 < 256 := by
      rw [List.getD_eq_getElem?_getD, List.getElem?_eq_getElem (by omega)]
      exact hw _ (List.getElem_mem _)
    have hb := bad68 n v b (w.getD i 0) H hv hnv hx hH
    rw [drop_getN (by omega : i < w.length), List.any_cons]
    by_cases e : 2 ^ v ≤ w.getD i 0
    · refine ⟨i, ?_⟩
      rw [if_pos (by rw [decide_eq_true e, Bool.true_or]), a85l0n]
      simp (maxSteps := 30000000) (disch := first | assumption | omega | (simp only [List.length_cons, List.length_nil, List.length_append, List.length_set, List.length_replicate, List.length_map, List.length_range, List.length_take, List.length_drop, List.all_cons, List.all_nil, AV.isCell, Bool.and_self, Bool.and_true, bs_length, is64_length, w64_length, ints_length] <;> omega) | rfl | decide) only [a85l0b, run_seq, run_region, runOps_cons, oper_none, ex_bin, opv, List.getD_cons_succ, List.getD_cons_zero, bin_lss, hlt, decide_true, valK_some, putK_to, List.set_cons_succ, List.set_cons_zero, opsK_some, runOps_nil, regK_some, seqK_normal, run_cond, condK_bool, run_skip, run_exit, if_true, run_block, ex_mov, ex_iaddr, iaddrA_sl, Int.toNat_natCast, Nat.mul_one, ex_load, rd_vptr, bs_drop, bs_take, bs_at0, drop_getD, Nat.add_zero, loadK_1, ex_icall, List.map_cons, List.map_nil, hb, e, run_ret, blockK_ret, seqK_ret, loopK_ret, a85l0c]
    · obtain ⟨i', ih⟩ := index_loop (zw := zw) (s4 := s4) hv hnv hH hw hl d (i + 1) (by omega)
      refine ⟨i', ?_⟩
      have e2 : (decide (2 ^ v ≤ w.getD i 0) || (w.drop (i + 1)).any fun x => decide (2 ^ v ≤ x)) = (w.drop (i + 1)).any fun x => decide (2 ^ v ≤ x) := by rw [decide_eq_false e, Bool.false_or]
      rw [e2, a85l0n]
      by_cases e3 : (w.drop (i + 1)).any (fun x => decide (2 ^ v ≤ x)) = true
      · rw [if_pos e3] at ih ⊢
        simp (maxSteps := 30000000) (disch := first | assumption | omega | (simp only [List.length_cons, List.length_nil, List.length_append, List.length_set, List.length_replicate, List.length_map, List.length_range, List.length_take, List.length_drop, List.all_cons, List.all_nil, AV.isCell, Bool.and_self, Bool.and_true, bs_length, is64_length, w64_length, ints_length] <;> omega) | rfl | decide) only [a85l0b, run_seq, run_region, runOps_cons, oper_none, ex_bin, opv, List.getD_cons_succ, List.getD_cons_zero, bin_lss, hlt, decide_true, valK_some, putK_to, List.set_cons_succ, List.set_cons_zero, opsK_some, runOps_nil, regK_some, seqK_normal, run_cond, condK_bool, run_skip, run_exit, if_true, run_block, ex_mov, ex_iaddr, iaddrA_sl, Int.toNat_natCast, Nat.mul_one, ex_load, rd_vptr, bs_drop, bs_take, bs_at0, drop_getD, Nat.add_zero, loadK_1, ex_icall, List.map_cons, List.map_nil, hb, e, decide_false, Bool.false_eq_true, run_ret, if_false, blockK_normal, bin_add, cadd1, wr64, loopK_normal, a85l0c, ih]
      · rw [if_neg e3] at ih ⊢
        simp (maxSteps := 30000000) (disch := first | assumption | omega | (simp only [List.length_cons, List.length_nil, List.length_append, List.length_set, List.length_replicate, List.length_map, List.length_range, List.length_take, List.length_drop, List.all_cons, List.all_nil, AV.isCell, Bool.and_self, Bool.and_true, bs_length, is64_length, w64_length, ints_length] <;> omega) | rfl | decide) only [a85l0b, run_seq, run_region, runOps_cons, oper_none, ex_bin, opv, List.getD_cons_succ, List.getD_cons_zero, bin_lss, hlt, decide_true, valK_some, putK_to, List.set_cons_succ, List.set_cons_zero, opsK_some, runOps_nil, regK_some, seqK_normal, run_cond, condK_bool, run_skip, run_exit, if_true, run_block, ex_mov, ex_iaddr, iaddrA_sl, Int.toNat_natCast, Nat.mul_one, ex_load, rd_vptr, bs_drop, bs_take, bs_at0, drop_getD, Nat.add_zero, loadK_1, ex_icall, List.map_cons, List.map_nil, hb, e, decide_false, Bool.false_eq_true, run_ret, if_false, blockK_normal, bin_add, cadd1, wr64, loopK_normal, a85l0c, ih]

theorem wordCheck (n : Aut) (v : Nat) (zw : Bool) (w : List Nat) (hv : v ≤ 6) (hnv : n.vars = (v : Nat)) (hw : ∀ x ∈ w, x < 256) (hl : w.length < 1099511627776) : L.pcall 60 [n.av, word zw w] = some (.int .i64 (wordErr v w)) := by
  obtain ⟨i', hi⟩ := index_loop (n := n) (v := v) (b := 0) (H := [.cells false false n.cells]) (zw := zw) (w := w) (s4 := .int .i64 0) hv hnv rfl hw hl w.length 0 (by omega)
  simp only [Int.natCast_zero, List.drop_zero] at hi
  have h76 : ∃ r : Int, L.icall (.func 85 []) [word zw w, .func 75 [.ptr 0 0]] [.cells false false n.cells] = some (.int .i64 r, [.cells false false n.cells]) ∧ (0 ≤ r ↔ w.any (fun x => decide (2 ^ v ≤ x)) = true) := by
    by_cases e : w.any (fun x => decide (2 ^ v ≤ x)) = true
    · rw [if_pos e] at hi
      refine ⟨(i' : Nat), ?_, ⟨fun _ => e, fun _ => by omega⟩⟩
      rw [a85i, a85]
      simp (maxSteps := 30000000) (disch := first | assumption | omega | (simp only [List.length_cons, List.length_nil, List.length_append, List.length_set, List.length_replicate, List.length_map, List.length_range, List.length_take, List.length_drop, List.all_cons, List.all_nil, AV.isCell, Bool.and_self, Bool.and_true, bs_length, is64_length, w64_length, ints_length] <;> omega) | rfl | decide) only [Int.reduceNeg, List.append_nil, bodyA_eq, List.length_cons, List.length_nil, Nat.zero_add, Nat.reduceAdd, Nat.reduceSub, pads, List.cons_append, List.nil_append, run_seq, run_region, runOps_cons, oper_none, ex_mov, opv, putK_to, List.set_cons_succ, List.set_cons_zero, opsK_some, runOps_nil, regK_some, seqK_normal, List.getD_cons_zero, ex_len, List.getD_cons_succ, lenA_sl, valK_some, run_block, run_loop, a85l0c, hi, blockK_ret, seqK_ret, bodyK_ret, results_1, res_tmp, retvK_some]
    · rw [if_neg e] at hi
      refine ⟨-1, ?_, ⟨fun h => by omega, fun h => (e h).elim⟩⟩
      rw [a85i, a85]
      simp (maxSteps := 30000000) (disch := first | assumption | omega | (simp only [List.length_cons, List.length_nil, List.length_append, List.length_set, List.length_replicate, List.length_map, List.length_range, List.length_take, List.length_drop, List.all_cons, List.all_nil, AV.isCell, Bool.and_self, Bool.and_true, bs_length, is64_length, w64_length, ints_length] <;> omega) | rfl | decide) only [Int.reduceNeg, List.append_nil, bodyA_eq, List.length_cons, List.length_nil, Nat.zero_add, Nat.reduceAdd, Nat.reduceSub, pads, List.cons_append, List.nil_append, run_seq, run_region, runOps_cons, oper_none, ex_mov, opv, putK_to, List.set_cons_succ, List.set_cons_zero, opsK_some, runOps_nil, regK_some, seqK_normal, List.getD_cons_zero, ex_len, List.getD_cons_succ, lenA_sl, valK_some, run_block, run_loop, a85l0c, hi, blockK_exit, if_true, run_ret, bodyK_ret, results_1, res_tmp, retvK_some]
  obtain ⟨r, h1, h2⟩ := h76
  have e1 : ((64 : Int) < (w.length : Nat)) = (64 < w.length) := propext ⟨fun h => by omega, fun h => by omega⟩
  unfold wordErr
  rw [a60p, a60, pbodyA_eq]
  by_cases c1 : 64 < w.length
  · simp (maxSteps := 30000000) (disch := first | assumption | omega | (simp only [List.length_cons, List.length_nil, List.length_append, List.length_set, List.length_replicate, List.length_map, List.length_range, List.length_take, List.length_drop, List.all_cons, List.all_nil, AV.isCell, Bool.and_self, Bool.and_true, bs_length, is64_length, w64_length, ints_length] <;> omega) | rfl | decide) only [bodyA_eq, List.length_cons, List.length_nil, Nat.zero_add, Nat.reduceAdd, Nat.reduceSub, pads, List.cons_append, List.nil_append, run_seq, run_region, runOps_cons, oper_none, ex_box, AV.cells, opv, List.getD_cons_zero, List.all_cons, AV.isCell, List.all_nil, Bool.and_self, if_true, putK_to, List.set_cons_succ, List.set_cons_zero, opsK_some, ex_mov, runOps_nil, regK_some, seqK_normal, run_block, List.getD_cons_succ, ex_len, lenA_sl, valK_some, ex_bin, bin_gtr, e1, c1, decide_true, run_cond, condK_bool, run_ret, ex_mkfunc, List.map_cons, List.map_nil, ex_icall, blockK_ret, seqK_ret, bodyK_ret, results_1, res_tmp, retvK_some, pbodyK_some, frzN, frz_int]
  · by_cases c2 : w.any (fun x => decide (2 ^ v ≤ x)) = true
    · have h3 := h2.2 c2
      rw [if_pos c2]
      simp (maxSteps := 30000000) (disch := first | assumption | omega | (simp only [List.length_cons, List.length_nil, List.length_append, List.length_set, List.length_replicate, List.length_map, List.length_range, List.length_take, List.length_drop, List.all_cons, List.all_nil, AV.isCell, Bool.and_self, Bool.and_true, bs_length, is64_length, w64_length, ints_length] <;> omega) | rfl | decide) only [bodyA_eq, List.length_cons, List.length_nil, Nat.zero_add, Nat.reduceAdd, Nat.reduceSub, pads, List.cons_append, List.nil_append, run_seq, run_region, runOps_cons, oper_none, ex_box, AV.cells, opv, List.getD_cons_zero, List.all_cons, AV.isCell, List.all_nil, Bool.and_self, if_true, putK_to, List.set_cons_succ, List.set_cons_zero, opsK_some, ex_mov, runOps_nil, regK_some, seqK_normal, run_block, List.getD_cons_succ, ex_len, lenA_sl, valK_some, ex_bin, bin_gtr, e1, c1, decide_false, run_cond, condK_bool, Bool.false_eq_true, run_ret, ex_mkfunc, List.map_cons, List.map_nil, ex_icall, a74i, a74, List.append_nil, h1, bin_geq, h3, decide_true, bodyK_ret, results_1, res_tmp, retvK_some, run_skip, if_false, blockK_ret, seqK_ret, pbodyK_some, frzN, frz_int]
    · have h3 : ¬ 0 ≤ r := fun h => c2 (h2.1 h)
      rw [if_neg c2]
      simp (maxSteps := 30000000) (disch := first | assumption | omega | (simp only [List.length_cons, List.length_nil, List.length_append, List.length_set, List.length_replicate, List.length_map, List.length_range, List.length_take, List.length_drop, List.all_cons, List.all_nil, AV.isCell, Bool.and_self, Bool.and_true, bs_length, is64_length, w64_length, ints_length] <;> omega) | rfl | decide) only [bodyA_eq, List.length_cons, List.length_nil, Nat.zero_add, Nat.reduceAdd, Nat.reduceSub, pads, List.cons_append, List.nil_append, run_seq, run_region, runOps_cons, oper_none, ex_box, AV.cells, opv, List.getD_cons_zero, List.all_cons, AV.isCell, List.all_nil, Bool.and_self, if_true, putK_to, List.set_cons_succ, List.set_cons_zero, opsK_some, ex_mov, runOps_nil, regK_some, seqK_normal, run_block, List.getD_cons_succ, ex_len, lenA_sl, valK_some, ex_bin, bin_gtr, e1, c1, decide_false, run_cond, condK_bool, Bool.false_eq_true, run_ret, ex_mkfunc, List.map_cons, List.map_nil, ex_icall, a74i, a74, List.append_nil, h1, bin_geq, h3, bodyK_ret, results_1, res_tmp, retvK_some, run_skip, if_false, blockK_normal, pbodyK_some, frzN, frz_int]
end Go.Abs.NfaD
