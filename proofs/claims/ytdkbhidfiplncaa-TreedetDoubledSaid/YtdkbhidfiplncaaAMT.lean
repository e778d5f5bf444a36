/- doubled: a row, the rows of a state. -/
import Derived.Test.YtdkbhidfiplncaaAGL
import Derived.Test.YtdkbhidfiplncaaAMS
import Derived.Test.YtdkbhidfiplncaaAMD
namespace Go.Abs.Det
open Go Go.Abs
set_option linter.unusedSimpArgs false
set_option linter.unusedVariables false

/-- the copy that is chosen -/
def bitC (ch : Int) (k : Nat) : Int := bitsA .and .i64 (ch.fdiv (2 ^ (min k IntKind.i64.bits))) 1
theorem bitC_bd (ch : Int) (k : Nat) : bitC ch k = 0 ∨ bitC ch k = 1 := by
  have key : bitC ch k = IntKind.i64.wrap ((BitVec.ofInt 64 (ch.fdiv (2 ^ (min k IntKind.i64.bits))) &&& 1#64).toNat : Int) := rfl
  rw [key]
  generalize BitVec.ofInt 64 (ch.fdiv (2 ^ (min k IntKind.i64.bits))) = a
  have e : (a &&& 1#64).toNat = a.toNat % 2 := by rw [BitVec.toNat_and]; exact Nat.and_one_is_mod _
  have : (a &&& 1#64).toNat = 0 ∨ (a &&& 1#64).toNat = 1 := by omega
  rcases this with q | q
  · left; rw [q]; decide
  · right; rw [q]; decide
/-- a cell of the doubled automaton -/
def cellD (D : Da) (ch : Int) (l r x : Nat) : Int :=
  nx D (l % D.next.length : Nat) (r % D.next.length : Nat) x + D.next.length * bitC ch ((l + 3 * r + 5 * x) % 16)
theorem mod_t (a b : Nat) : ((a : Int)).tmod (b : Int) = ((a % b : Nat) : Int) := by
  rw [Int.tmod_eq_emod_of_nonneg (by omega)]; omega

section
variable {D : Da} {ch : Int} {l r B : Nat} {s4 s6 s8 : AV}
set_option maxHeartbeats 1000000 in
theorem dbl_x (hV : Va D) (h5 : D.next.length ≤ 5) (hl : l < 2 * D.next.length) (hr : r < 2 * D.next.length) (h0B : 0 < B) : ∀ e x G v, x + e = two D.vars → G[0]? = some (.cells false false D.cells) → B ≤ G.length → Lst B G v (ints ((List.range x).map (cellD D ch l r))) →
    ∃ v' G', L.loop a43l0s a43l0 ⟨a43l0F (.int .i64 ch) (.ptr 0 0) s4 (.int .i64 (D.next.length : Nat)) s6 (.int .i64 (l : Nat)) s8 (.int .i64 (r : Nat)) v (.int .i64 (x : Nat)), G⟩ =
      some (.exit 4, ⟨a43l0F (.int .i64 ch) (.ptr 0 0) s4 (.int .i64 (D.next.length : Nat)) s6 (.int .i64 (l : Nat)) s8 (.int .i64 (r : Nat)) v' (.int .i64 (two D.vars : Nat)), G'⟩) ∧ Lst B G' v' (ints ((List.range (two D.vars)).map (cellD D ch l r))) ∧ Kp B G G' := by
  have h8 := (two_bd hV.v3).1
  have n0 := hV.n0
  have htw : IntKind.i64.wrap (1 * 2 ^ min D.vars.toNat IntKind.i64.bits) = (two D.vars : Nat) := two_shl hV.v0 hV.v3
  have hv0 := hV.v0
  have lm := Nat.mod_lt l n0
  have rm := Nat.mod_lt r n0
  have el := mod_t l D.next.length
  have er := mod_t r D.next.length
  have m1 := getD_in (a := ([] : List (List Int))) lm
  have m2 := hV.rl _ m1
  have m3 := getD_in (a := ([] : List Int)) (show r % D.next.length < (D.next.getD (l % D.next.length) []).length by omega)
  have m4 := hV.cl _ m1 _ m3
  have hnn : ((D.next.length : Nat) : Int) ≠ 0 := by omega
  intro e
  induction e with
  | zero =>
    intro x G v h h0 hG hv
    obtain rfl : x = two D.vars := by omega
    refine ⟨v, G, ?_, hv, Kp.refl _ _⟩
    unfold Da.cells at h0
    rw [a43l0n]
    simp (maxSteps := 30000000) (disch := first | assumption | omega | (simp only [List.length_cons, List.length_nil, List.length_append, List.length_set, List.length_replicate, List.length_map, List.length_range, List.length_take, List.length_drop, List.all_cons, List.all_nil, AV.isCell, Bool.and_self, Bool.and_true, bs_length, is64_length, w64_length, ints_length, ints_length, bools_len, List.length_map] <;> omega) | rfl | decide) only [a43l0b, run_seq, run_region, runOps_cons, oper_none, ex_mov, opv, List.getD_cons_succ, List.getD_cons_zero, putK_to, List.set_cons_succ, List.set_cons_zero, opsK_some, ex_faddr, faddrA_ptr, Nat.add_zero, valK_some, ex_load, rd_ptr, h0, rdK_cells, List.drop_zero, List.take_succ_cons, List.take_zero, loadK_1, ex_bin, bin_shl, htw, bin_lss, Int.lt_irrefl, decide_false, runOps_nil, regK_some, seqK_normal, run_cond, condK_bool, Bool.false_eq_true, ↓reduceIte, run_exit, seqK_exit, loopK_exit, a43l0c]
  | succ e ih =>
    intro x G v h h0 hG hv
    have hlt : (x : Int) < (two D.vars : Nat) := by omega
    have hb := nx_bd hV (a := (l % D.next.length : Nat)) (b := (r % D.next.length : Nat)) (x := x) (by omega) (by omega) (by omega)
    obtain ⟨v1, G1, p1, p2, p3⟩ := hv.push (.int .i64 (cellD D ch l r x)) (bytes := 8) (by rw [ints_length, List.length_map, List.length_range]; omega) (by rw [ints_length, List.length_map, List.length_range]; omega) hG
    have e2 : ints ((List.range x).map (cellD D ch l r)) ++ [.int .i64 (cellD D ch l r x)] = ints ((List.range (x + 1)).map (cellD D ch l r)) := by
      rw [List.range_succ, List.map_append]; simp [ints]
    rw [e2] at p2
    obtain ⟨v', G', r1, r2, r3⟩ := ih (x + 1) G1 v1 (by omega) (p3.get h0B h0) (by have := p3.1; omega) p2
    refine ⟨v', G', ?_, r2, p3.trans r3⟩
    have gx : List.take 1 (List.drop x (ints ((D.next.getD (l % D.next.length) []).getD (r % D.next.length) []))) = [.int .i64 (((D.next.getD (l % D.next.length) []).getD (r % D.next.length) []).getD x 0)] := map_at1 _ _ (by omega)
    have hnx : nx D (l % D.next.length : Nat) (r % D.next.length : Nat) x = ((D.next.getD (l % D.next.length) []).getD (r % D.next.length) []).getD x 0 := rfl
    have e16 : ((l : Int) + 3 * (r : Int) + 5 * (x : Int)).tmod 16 = (((l + 3 * r + 5 * x) % 16 : Nat) : Int) := by
      have := mod_t (l + 3 * r + 5 * x) 16
      rw [← this]; congr 1
    have eb : bitsA .and .i64 (ch.fdiv (2 ^ (min ((l + 3 * r + 5 * x) % 16) IntKind.i64.bits))) 1 = bitC ch ((l + 3 * r + 5 * x) % 16) := rfl
    have hbb := bitC_bd ch ((l + 3 * r + 5 * x) % 16)
    unfold cellD at p1
    rw [hnx] at p1 hb
    generalize bitC ch ((l + 3 * r + 5 * x) % 16) = bt at *
    have hbm : 0 ≤ (D.next.length : Int) * bt ∧ (D.next.length : Int) * bt ≤ 5 := by rcases hbb with rfl | rfl <;> omega
    unfold Da.cells at h0
    rw [a43l0n]
    simp (maxSteps := 30000000) (disch := first | assumption | omega | (simp only [List.length_cons, List.length_nil, List.length_append, List.length_set, List.length_replicate, List.length_map, List.length_range, List.length_take, List.length_drop, List.all_cons, List.all_nil, AV.isCell, Bool.and_self, Bool.and_true, bs_length, is64_length, w64_length, ints_length, ints_length, bools_len, List.length_map] <;> omega) | rfl | decide) only [a43l0b, run_seq, run_region, runOps_cons, oper_none, ex_mov, opv, List.getD_cons_succ, List.getD_cons_zero, putK_to, List.set_cons_succ, List.set_cons_zero, opsK_some, ex_faddr, faddrA_ptr, Nat.add_zero, valK_some, ex_load, rd_ptr, h0, rdK_cells, List.drop_zero, List.take_succ_cons, List.take_zero, loadK_1, ex_bin, bin_shl, htw, bin_lss, hlt, decide_true, runOps_nil, regK_some, seqK_normal, run_cond, condK_bool, ↓reduceIte, run_skip, run_block, run_draw, runFree_cons, foper_none, fe_mov, fstK_some, fputK_to, freeK_some, fe_faddr, Nat.zero_add, fe_load, List.drop_succ_cons, fe_bin, bin_rem, el, fe_iaddr, ex_iaddr, iaddrA_sl, Int.toNat_natCast, Nat.mul_one, rd_vptr, rows_at, rowsD, m2, er, row_at, rowT, m4, ints_drop, ints_take, ints_at0, getD_dropI, bin_mul, wr64, bin_add, runFree_nil, drawK_some, adopt, adoptVal, e16, bin_shr, bin_and, eb, ex_bslice, AV.cells, List.all_cons, List.length_cons, List.length_nil, beq_self_eq_true, List.all_nil, Bool.and_self, repz_1, List.append_nil, List.map_cons, List.map_nil, fillA, Nat.le_refl, AV.isCell, and_self, splice, List.nil_append, List.drop_nil, newK_some, newA_data, frzN, List.flatMap_cons, bor_int, List.flatMap_nil, List.isEmpty_nil, List.mapM_cons, frz_int, List.mapM_nil, Option.pure_def, Option.bind_eq_bind, Option.bind_some, slK_some, ex_append, src_sl, p1, blockK_normal, cadd1, loopK_normal, a43l0c, r1]
end
end Go.Abs.Det

/- doubled: the rows of a state. -/
namespace Go.Abs.Det
open Go Go.Abs
set_option linter.unusedSimpArgs false
set_option linter.unusedVariables false

def rowD (D : Da) (ch : Int) (l r : Nat) : List Int := (List.range (two D.vars)).map (cellD D ch l r)
theorem rowD_len (D : Da) (ch : Int) (l r : Nat) : (rowD D ch l r).length = two D.vars := by simp [rowD]
def rowsOf (D : Da) (ch : Int) (l k : Nat) : List (List Int) := (List.range k).map (rowD D ch l)
theorem rowsOf_len (D : Da) (ch : Int) (l k : Nat) : (rowsOf D ch l k).length = k := by simp [rowsOf]
theorem rowsOf_succ (D : Da) (ch : Int) (l k : Nat) : rowsOf D ch l (k + 1) = rowsOf D ch l k ++ [rowD D ch l k] := by
  unfold rowsOf; rw [List.range_succ, List.map_append]; rfl
theorem ints_dat (l : List Int) : (ints l).all data1 = true := by
  induction l with
  | nil => rfl
  | cons a l ih => simp [ints, data1]
theorem rowTs_dat (l : List (List Int)) : (l.map rowT).all data1 = true := by simp [rowT, data1]
theorem rowsDs_dat (l : List (List (List Int))) : (l.map rowsD).all data1 = true := by simp [rowsD, data1]

section
variable {D : Da} {ch : Int} {l B : Nat} {s4 s6 : AV}
set_option maxHeartbeats 1000000 in
theorem dbl_r (hV : Va D) (h5 : D.next.length ≤ 5) (hl : l < 2 * D.next.length) (h0B : 0 < B) : ∀ e r G v, r + e = 2 * D.next.length → G[0]? = some (.cells false false D.cells) → B ≤ G.length → Lst B G v ((rowsOf D ch l r).map rowT) →
    ∃ v' G', L.loop a43l1s a43l1 ⟨a43l1F (.int .i64 ch) (.ptr 0 0) s4 (.int .i64 (D.next.length : Nat)) s6 (.int .i64 (l : Nat)) v (.int .i64 (r : Nat)), G⟩ =
      some (.exit 2, ⟨a43l1F (.int .i64 ch) (.ptr 0 0) s4 (.int .i64 (D.next.length : Nat)) s6 (.int .i64 (l : Nat)) v' (.int .i64 (2 * D.next.length : Nat)), G'⟩) ∧ Lst B G' v' ((rowsOf D ch l (2 * D.next.length)).map rowT) ∧ Kp B G G' := by
  have h8 := two_bd hV.v3
  intro e
  induction e with
  | zero =>
    intro r G v h h0 hG hv
    obtain rfl : r = 2 * D.next.length := by omega
    refine ⟨v, G, ?_, hv, Kp.refl _ _⟩
    have e2 : (2 : Int) * (D.next.length : Nat) = ((2 * D.next.length : Nat) : Int) := by omega
    rw [a43l1n]
    simp (maxSteps := 30000000) (disch := first | assumption | omega | (simp only [List.length_cons, List.length_nil, List.length_append, List.length_set, List.length_replicate, List.length_map, List.length_range, List.length_take, List.length_drop, List.all_cons, List.all_nil, AV.isCell, Bool.and_self, Bool.and_true, bs_length, is64_length, w64_length, ints_length, ints_length, bools_len, List.length_map] <;> omega) | rfl | decide) only [a43l1b, run_seq, run_region, runOps_cons, oper_none, ex_mov, opv, List.getD_cons_succ, List.getD_cons_zero, putK_to, List.set_cons_succ, List.set_cons_zero, opsK_some, ex_bin, bin_mul, e2, wr64, valK_some, bin_lss, Int.lt_irrefl, decide_false, runOps_nil, regK_some, seqK_normal, run_cond, condK_bool, Bool.false_eq_true, ↓reduceIte, run_exit, seqK_exit, loopK_exit, a43l1c]
  | succ e ih =>
    intro r G v h h0 hG hv
    have hlt : (r : Int) < 2 * (D.next.length : Nat) := by omega
    obtain ⟨v1, G1, q1, q2, q3⟩ := dbl_x (s4 := s4) (s6 := s6) (s8 := v) (B := G.length) (ch := ch) hV h5 hl (r := r) (by omega) (by omega) (two D.vars) 0 G (.sl true 0 []) (by omega) h0 (Nat.le_refl _) (Lst.nil _ _)
    obtain ⟨f1, G2, f2, f3⟩ := q2.data (ints_dat _)
    have hz : ((ints ((List.range (two D.vars)).map (cellD D ch l r))).length == 0) = false := by rw [ints_length, List.length_map, List.length_range, beq_eq_false_iff_ne]; omega
    have hlen : (ints ((List.range (two D.vars)).map (cellD D ch l r))).length = two D.vars := by rw [ints_length, List.length_map, List.length_range]
    rw [hz, hlen] at f1
    have k2 : Kp G.length G G2 := q3.trans f3
    obtain ⟨v2, G3, p1, p2, p3⟩ := (hv.keep k2 (Nat.le_refl _)).push (rowT (rowD D ch l r)) (bytes := 24) (by rw [List.length_map, rowsOf_len]; omega) (by rw [List.length_map, rowsOf_len]; omega) (by have := k2.1; omega)
    have e2 : (rowsOf D ch l r).map rowT ++ [rowT (rowD D ch l r)] = (rowsOf D ch l (r + 1)).map rowT := by rw [rowsOf_succ, List.map_append]; rfl
    rw [e2] at p2
    have k3 := (k2.low hG).trans p3
    obtain ⟨v', G', r1, r2, r3⟩ := ih (r + 1) G3 v2 (by omega) (k3.get h0B h0) (by have := k3.1; omega) p2
    refine ⟨v', G', ?_, r2, k3.trans r3⟩
    unfold rowT at p1
    rw [rowD_len] at p1
    unfold rowD at p1
    simp only [Int.natCast_zero] at q1
    rw [a43l1n]
    simp (maxSteps := 30000000) (disch := first | assumption | omega | (simp only [List.length_cons, List.length_nil, List.length_append, List.length_set, List.length_replicate, List.length_map, List.length_range, List.length_take, List.length_drop, List.all_cons, List.all_nil, AV.isCell, Bool.and_self, Bool.and_true, bs_length, is64_length, w64_length, ints_length, ints_length, bools_len, List.length_map] <;> omega) | rfl | decide) only [a43l1b, run_seq, run_region, runOps_cons, oper_none, ex_mov, opv, List.getD_cons_succ, List.getD_cons_zero, putK_to, List.set_cons_succ, List.set_cons_zero, opsK_some, ex_bin, bin_mul, wr64, valK_some, bin_lss, hlt, decide_true, runOps_nil, regK_some, seqK_normal, run_cond, condK_bool, ↓reduceIte, run_skip, run_block, run_loop, a43l0c, q1, blockK_exit, run_fzs, frzN, f1, fzsK_some, fzIds, f2, ex_bslice, AV.cells, List.all_cons, List.length_cons, List.length_nil, Nat.zero_add, beq_self_eq_true, List.all_nil, Bool.and_self, repz_1, List.append_nil, Nat.mul_one, List.map_cons, List.map_nil, fillA, Nat.le_refl, AV.isCell, and_self, splice, List.take_zero, List.nil_append, List.drop_succ_cons, List.drop_nil, newK_some, newA_data, List.flatMap_cons, bor_sl, List.flatMap_nil, List.isEmpty_nil, List.mapM_cons, frz_sl, List.mapM_nil, Option.pure_def, Option.bind_eq_bind, Option.bind_some, slK_some, ex_append, src_sl, p1, blockK_normal, bin_add, cadd1, loopK_normal, a43l1c, r1]
end
end Go.Abs.Det

/- doubled: the states. -/
namespace Go.Abs.Det
open Go Go.Abs
set_option linter.unusedSimpArgs false
set_option linter.unusedVariables false

def nextC (D : Da) (ch : Int) (l : Nat) : List (List (List Int)) := (List.range l).map fun l => rowsOf D ch l (2 * D.next.length)
def finC (D : Da) (l : Nat) : List Bool := (List.range l).map fun l => D.fin.getD (l % D.next.length) false
theorem nextC_len (D : Da) (ch : Int) (l : Nat) : (nextC D ch l).length = l := by simp [nextC]
theorem finC_len (D : Da) (l : Nat) : (finC D l).length = l := by simp [finC]
theorem nextC_succ (D : Da) (ch : Int) (l : Nat) : nextC D ch (l + 1) = nextC D ch l ++ [rowsOf D ch l (2 * D.next.length)] := by
  unfold nextC; rw [List.range_succ, List.map_append]; rfl
theorem finC_succ (D : Da) (l : Nat) : finC D (l + 1) = finC D l ++ [D.fin.getD (l % D.next.length) false] := by
  unfold finC; rw [List.range_succ, List.map_append]; rfl
theorem bools_dat (l : List Bool) : (bools l).all data1 = true := by simp [bools, data1]

/-- the box of the doubled automaton under way -/
def Dbl (D : Da) (ch em : Int) (l : Nat) (G : Heap) : Prop := ∃ vN vF, G[2]? = some (.cells false false [.int .i64 D.vars, .int .i64 em, vN, vF]) ∧ Lst 3 G vN ((nextC D ch l).map rowsD) ∧ Lst 3 G vF (bools (finC D l)) ∧ ∀ b, At vN b → ¬ At vF b

section
variable {D : Da} {ch em : Int} {s4 : AV}
set_option maxHeartbeats 2000000 in
theorem dbl_l (hV : Va D) (h5 : D.next.length ≤ 5) : ∀ e l G, l + e = 2 * D.next.length → G[0]? = some (.cells false false D.cells) → 3 ≤ G.length → Dbl D ch em l G →
    ∃ G', L.loop a43l2s a43l2 ⟨a43l2F (.int .i64 ch) (.ptr 0 0) s4 (.int .i64 (D.next.length : Nat)) (.ptr 2 0) (.int .i64 (l : Nat)), G⟩ =
      some (.exit 0, ⟨a43l2F (.int .i64 ch) (.ptr 0 0) s4 (.int .i64 (D.next.length : Nat)) (.ptr 2 0) (.int .i64 (2 * D.next.length : Nat)), G'⟩) ∧ Dbl D ch em (2 * D.next.length) G' ∧ Kp 2 G G' := by
  have h8 := two_bd hV.v3
  have hfl := hV.fl
  have n0 := hV.n0
  intro e
  induction e with
  | zero =>
    intro l G h h0 hG hv
    obtain rfl : l = 2 * D.next.length := by omega
    refine ⟨G, ?_, hv, Kp.refl _ _⟩
    have e2 : (2 : Int) * (D.next.length : Nat) = ((2 * D.next.length : Nat) : Int) := by omega
    rw [a43l2n]
    simp (maxSteps := 30000000) (disch := first | assumption | omega | (simp only [List.length_cons, List.length_nil, List.length_append, List.length_set, List.length_replicate, List.length_map, List.length_range, List.length_take, List.length_drop, List.all_cons, List.all_nil, AV.isCell, Bool.and_self, Bool.and_true, bs_length, is64_length, w64_length, ints_length, ints_length, bools_len, List.length_map] <;> omega) | rfl | decide) only [a43l2b, run_seq, run_region, runOps_cons, oper_none, ex_mov, opv, List.getD_cons_succ, List.getD_cons_zero, putK_to, List.set_cons_succ, List.set_cons_zero, opsK_some, ex_bin, bin_mul, e2, wr64, valK_some, bin_lss, Int.lt_irrefl, decide_false, runOps_nil, regK_some, seqK_normal, run_cond, condK_bool, Bool.false_eq_true, ↓reduceIte, run_exit, seqK_exit, loopK_exit, a43l2c]
  | succ e ih =>
    intro l G h h0 hG hv
    have hlt : (l : Int) < 2 * (D.next.length : Nat) := by omega
    obtain ⟨vN, vF, hb, hN, hF, hNF⟩ := hv
    obtain ⟨v1, G1, q1, q2, q3⟩ := dbl_r (s4 := s4) (s6 := .ptr 2 0) (B := G.length) (ch := ch) (l := l) hV h5 (by omega) (by omega) (2 * D.next.length) 0 G (.sl true 0 []) (by omega) h0 (Nat.le_refl _) (Lst.nil _ _)
    obtain ⟨f1, G2, f2, f3⟩ := q2.data (rowTs_dat _)
    have hz : (((rowsOf D ch l (2 * D.next.length)).map rowT).length == 0) = false := by rw [List.length_map, rowsOf_len, beq_eq_false_iff_ne]; omega
    have hlen : ((rowsOf D ch l (2 * D.next.length)).map rowT).length = 2 * D.next.length := by rw [List.length_map, rowsOf_len]
    rw [hz, hlen] at f1
    have k2 : Kp G.length G G2 := q3.trans f3
    have hl2 := k2.1
    have hN2 := hN.keep k2 (Nat.le_refl _)
    have hF2 := hF.keep k2 (Nat.le_refl _)
    obtain ⟨_, G3, p1, p2, p3, p4, p5, i2, m2, rfl⟩ := hN2.push2 (rowsD (rowsOf D ch l (2 * D.next.length))) (bytes := 24) (by rw [List.length_map, nextC_len]; omega) (by rw [List.length_map, nextC_len]; omega) (by omega)
    have e2 : (nextC D ch l).map rowsD ++ [rowsD (rowsOf D ch l (2 * D.next.length))] = (nextC D ch (l + 1)).map rowsD := by rw [nextC_succ, List.map_append]; rfl
    rw [e2] at p2
    have hl3 := p3.1
    have hF3 : Lst 3 G3 vF (bools (finC D l)) := hF2.other fun b hb' => p4 b (hF2.inb hb').1 fun q => hNF b q hb'
    -- the box is written
    obtain ⟨X, hX⟩ : ∃ X, X = Blk.cells false false [.int .i64 D.vars, .int .i64 em, (.own false i2 0 m2 1), vF] := ⟨_, rfl⟩
    have b3 : G3[2]? = some (.cells false false [.int .i64 D.vars, .int .i64 em, vN, vF]) := (p3.2 2 (by omega)).trans ((k2.2 2 (by omega)).trans hb)
    have b4 : (G3.set 2 X)[2]? = some X := List.getElem?_set_self (by omega)
    have hF4 : Lst 3 (G3.set 2 X) vF (bools (finC D l)) := hF3.other fun b hb' => List.getElem?_set_ne (by have := (hF3.inb hb').2; omega)
    have hN4 : Lst 3 (G3.set 2 X) (.own false i2 0 m2 1) ((nextC D ch (l + 1)).map rowsD) := p2.other fun b hb' => List.getElem?_set_ne (by have := (p2.inb hb').2; omega)
    obtain ⟨_, G5, r1, r2, r3, r4, r5, i3, m3, rfl⟩ := hF4.push2 (.bool (D.fin.getD (l % D.next.length) false)) (bytes := 1) (by rw [bools_len, finC_len]; omega) (by rw [bools_len, finC_len]; omega) (by rw [List.length_set]; omega)
    have e3 : bools (finC D l) ++ [.bool (D.fin.getD (l % D.next.length) false)] = bools (finC D (l + 1)) := by rw [finC_succ]; simp [bools]
    rw [e3] at r2
    have hl5 := r3.1
    rw [List.length_set] at hl5
    have b5 : G5[2]? = some X := (r3.2 2 (by omega)).trans b4
    have hN5 : Lst 3 G5 (.own false i2 0 m2 1) ((nextC D ch (l + 1)).map rowsD) := hN4.other fun b hb' => r4 b (hN4.inb hb').1 fun q => by
      have h1 := (hF3.inb q).1
      have h2 := p5 b hb'
      have h3 := (hF2.inb q).1
      omega
    obtain ⟨Y, hY⟩ : ∃ Y, Y = Blk.cells false false [.int .i64 D.vars, .int .i64 em, (.own false i2 0 m2 1), (.own false i3 0 m3 1)] := ⟨_, rfl⟩
    have b6 : (G5.set 2 Y)[2]? = some Y := List.getElem?_set_self (by omega)
    have hN6 : Lst 3 (G5.set 2 Y) (.own false i2 0 m2 1) ((nextC D ch (l + 1)).map rowsD) := hN5.other fun b hb' => List.getElem?_set_ne (by have := (hN5.inb hb').2; omega)
    have hF6 : Lst 3 (G5.set 2 Y) (.own false i3 0 m3 1) (bools (finC D (l + 1))) := r2.other fun b hb' => List.getElem?_set_ne (by have := (r2.inb hb').2; omega)
    have kk : Kp 2 G (G5.set 2 Y) := ⟨by rw [List.length_set]; omega, fun b hb' => by
      rw [List.getElem?_set_ne (by omega), r3.2 b (by omega), List.getElem?_set_ne (by omega), p3.2 b (by omega), k2.2 b (by omega)]⟩
    obtain ⟨G', j1, j2, j3⟩ := ih (l + 1) (G5.set 2 Y) (by omega) (kk.get (by omega) h0) (by rw [List.length_set]; omega) ⟨_, _, by rw [b6, hY], hN6, hF6, fun b hb' q => by
      have h2 := p5 b hb'
      have h3 := r5 b q
      rw [List.length_set] at h3
      have := (p2.inb hb').1
      omega⟩
    refine ⟨G', ?_, j2, kk.trans j3⟩
    have g0 : ∀ X : Blk, (G3.set 2 X)[0]? = some (.cells false false D.cells) := fun X => by rw [List.getElem?_set_ne (by omega), p3.2 0 (by omega), k2.2 0 (by omega), h0]
    have el := mod_t l D.next.length
    have lm := Nat.mod_lt l n0
    have gf : List.take 1 (List.drop (l % D.next.length) (bools D.fin)) = [.bool (D.fin.getD (l % D.next.length) false)] := bool_at (by omega)
    have hnn : ((D.next.length : Nat) : Int) ≠ 0 := by omega
    have b2 : G2[2]? = some (.cells false false [.int .i64 D.vars, .int .i64 em, vN, vF]) := (k2.2 2 (by omega)).trans hb
    unfold rowsD at p1
    rw [rowsOf_len] at p1
    unfold Da.cells at g0
    rw [hX] at b4 r1 b5
    rw [hY] at j1
    simp only [Int.natCast_zero] at q1
    rw [a43l2n]
    simp (maxSteps := 30000000) (disch := first | assumption | omega | (simp only [List.length_cons, List.length_nil, List.length_append, List.length_set, List.length_replicate, List.length_map, List.length_range, List.length_take, List.length_drop, List.all_cons, List.all_nil, AV.isCell, Bool.and_self, Bool.and_true, bs_length, is64_length, w64_length, ints_length, ints_length, bools_len, List.length_map] <;> omega) | rfl | decide) only [a43l2b, run_seq, run_region, runOps_cons, oper_none, ex_mov, opv, List.getD_cons_succ, List.getD_cons_zero, putK_to, List.set_cons_succ, List.set_cons_zero, opsK_some, ex_bin, bin_mul, wr64, valK_some, bin_lss, hlt, decide_true, runOps_nil, regK_some, seqK_normal, run_cond, condK_bool, ↓reduceIte, run_skip, run_block, run_loop, a43l1c, q1, blockK_exit, run_fzs, frzN, f1, fzsK_some, fzIds, f2, ex_faddr, faddrA_ptr, Nat.zero_add, ex_load, rd_ptr, b2, rdK_cells, List.drop_succ_cons, List.drop_zero, List.take_succ_cons, List.take_zero, loadK_1, ex_bslice, AV.cells, List.all_cons, List.length_cons, List.length_nil, beq_self_eq_true, List.all_nil, Bool.and_self, repz_1, List.append_nil, Nat.mul_one, List.map_cons, List.map_nil, fillA, Nat.le_refl, AV.isCell, and_self, splice, List.nil_append, List.drop_nil, newK_some, newA_data, List.flatMap_cons, bor_sl, List.flatMap_nil, List.isEmpty_nil, List.mapM_cons, frz_sl, List.mapM_nil, Option.pure_def, Option.bind_eq_bind, Option.bind_some, slK_some, ex_append, src_sl, p1, ex_store, wr_ptr, b3, wrK_cells, List.cons_append, Nat.reduceAdd, storeK_some, putK_no, run_draw, runFree_cons, foper_none, fe_faddr, fstK_some, fputK_to, freeK_some, fe_load, b4, List.take_nil, g0, hfl, fe_mov, runFree_nil, drawK_some, adopt, adoptVal, bin_rem, el, ex_iaddr, iaddrA_sl, Int.toNat_natCast, rd_vptr, gf, bor_bool, frz_bool, r1, b5, blockK_normal, bin_add, cadd1, loopK_normal, a43l2c, j1]
end
end Go.Abs.Det

/- doubled; its states of trees. -/
namespace Go.Abs.Det
open Go Go.Abs
set_option linter.unusedSimpArgs false
set_option linter.unusedVariables false

theorem bit_one (a : Int) : bitsA .and .i64 a 1 = 0 ∨ bitsA .and .i64 a 1 = 1 := by
  have key : bitsA .and .i64 a 1 = IntKind.i64.wrap ((BitVec.ofInt 64 a &&& 1#64).toNat : Int) := rfl
  rw [key]
  generalize BitVec.ofInt 64 a = a
  have e : (a &&& 1#64).toNat = a.toNat % 2 := by rw [BitVec.toNat_and]; exact Nat.and_one_is_mod _
  have : (a &&& 1#64).toNat = 0 ∨ (a &&& 1#64).toNat = 1 := by omega
  rcases this with q | q
  · left; rw [q]; decide
  · right; rw [q]; decide
/-- the doubled automaton -/
def dblD (D : Da) (ch : Int) : Da := ⟨D.vars, D.empty + D.next.length * bitsA .and .i64 ch 1, nextC D ch (2 * D.next.length), finC D (2 * D.next.length)⟩

set_option maxHeartbeats 2000000 in
theorem doubled43 {D : Da} (hV : Va D) (h5 : D.next.length ≤ 5) (ch : Int) : L.pcall 43 [D.av, .int .i64 ch] = some (dblD D ch).av := by
  have hb := bit_one ch
  have e0 := hV.e0
  have en := hV.en
  have n0 := hV.n0
  have hlast : (dblD D ch).av = .agg [.int .i64 D.vars, .int .i64 (D.empty + D.next.length * bitsA .and .i64 ch 1), .sl false (2 * D.next.length) ((nextC D ch (2 * D.next.length)).map rowsD), .sl false (2 * D.next.length) (bools (finC D (2 * D.next.length)))] := by
    unfold dblD Da.av Da.cells
    simp only [nextC_len, finC_len]
  rw [hlast]
  generalize hbt : bitsA .and .i64 ch 1 = bt at *
  have hbm : 0 ≤ (D.next.length : Int) * bt ∧ (D.next.length : Int) * bt ≤ 5 := by rcases hb with rfl | rfl <;> omega
  obtain ⟨G', q1, q2, q3⟩ := dbl_l (ch := ch) (em := D.empty + D.next.length * bt) (s4 := .ptr 1 0) hV h5 (2 * D.next.length) 0
    [.cells false false D.cells, .cells false false [.int .i64 0, .int .i64 0, .sl true 0 [], .sl true 0 []], .cells false false [.int .i64 D.vars, .int .i64 (D.empty + D.next.length * bt), .sl true 0 [], .sl true 0 []]] (by omega) rfl (by simp)
    ⟨_, _, rfl, Lst.nil _ _, Lst.nil _ _, fun b hb => by obtain ⟨z, o, n, es, e⟩ := hb; cases e⟩
  obtain ⟨vN, vF, g2, hN, hF, _⟩ := q2
  have hlN : ((nextC D ch (2 * D.next.length)).map rowsD).length = 2 * D.next.length := by rw [List.length_map, nextC_len]
  have hlF : (bools (finC D (2 * D.next.length))).length = 2 * D.next.length := by rw [bools_len, finC_len]
  obtain ⟨i1, m1, rfl⟩ := hN.own (fun q => by rw [q] at hlN; simp at hlN; omega)
  obtain ⟨i2, m2, rfl⟩ := hF.own (fun q => by rw [q] at hlF; simp at hlF; omega)
  have hl3 : 3 ≤ G'.length := q3.1
  obtain ⟨X, hX⟩ : ∃ X, X = Blk.cells false false [.int .i64 D.vars, .int .i64 (D.empty + D.next.length * bt), .own false i1 0 m1 1, .own false i2 0 m2 1] := ⟨_, rfl⟩
  have g1 : G'[1]? = some (.cells false false [.int .i64 0, .int .i64 0, .sl true 0 [], .sl true 0 []]) := q3.2 1 (by omega)
  have s1 : (G'.set 1 X)[1]? = some X := List.getElem?_set_self (by omega)
  have hz : (2 * D.next.length == 0) = false := by rw [beq_eq_false_iff_ne]; omega
  have fN := (hN.other (H' := G'.set 1 X) fun b hb' => List.getElem?_set_ne (by have := (hN.inb hb').2; omega)).dat (rowsDs_dat _) 4
  have fF := (hF.other (H' := G'.set 1 X) fun b hb' => List.getElem?_set_ne (by have := (hF.inb hb').2; omega)).dat (bools_dat _) 4
  rw [hlN, hz] at fN
  rw [hlF, hz] at fF
  have hbod : bodyA L a43 [D.av, .int .i64 ch] [] = some (.agg [.int .i64 D.vars, .int .i64 (D.empty + D.next.length * bt), .own false i1 0 m1 1, .own false i2 0 m2 1], G'.set 1 X) := by
    rw [hX] at s1 ⊢
    unfold Da.av
    unfold Da.cells at q1 ⊢
    simp only [Int.natCast_zero] at q1
    rw [a43]
    simp (maxSteps := 30000000) (disch := first | assumption | omega | (simp only [List.length_cons, List.length_nil, List.length_append, List.length_set, List.length_replicate, List.length_map, List.length_range, List.length_take, List.length_drop, List.all_cons, List.all_nil, AV.isCell, Bool.and_self, Bool.and_true, bs_length, is64_length, w64_length, ints_length, ints_length, bools_len, List.length_map] <;> omega) | rfl | decide) only [bodyA_eq, List.length_cons, List.length_nil, Nat.zero_add, Nat.reduceAdd, Nat.reduceSub, pads, List.cons_append, List.nil_append, run_seq, run_region, runOps_cons, oper_none, ex_box, AV.cells, opv, List.getD_cons_zero, List.all_cons, AV.isCell, List.all_nil, Bool.and_self, ↓reduceIte, putK_to, List.set_cons_succ, List.set_cons_zero, opsK_some, runOps_nil, regK_some, seqK_normal, ex_faddr, List.getD_cons_succ, faddrA_ptr, valK_some, ex_load, rd_ptr, List.getElem?_cons_zero, rdK_cells, List.drop_succ_cons, List.drop_zero, List.take_succ_cons, List.take_zero, loadK_1, ex_len, lenA_sl, ex_mov, Nat.add_zero, ex_bin, bin_and, hbt, bin_mul, wr64, bin_add, ex_build, beq_self_eq_true, List.map_cons, List.map_nil, fillA, Nat.reduceLeDiff, and_self, splice, Option.map_some, ex_store, wr_ptr, List.getElem?_cons_succ, wrK_cells, List.drop_nil, List.append_nil, storeK_some, putK_no, run_block, run_loop, a43l2c, q1, blockK_exit, g2, List.take_nil, loadK_n, g1, run_ret, bodyK_ret, results_1, res_cell, s1, cellK_some, mkv_n, retvK_some]
  rw [a43p]
  refine pbody_of hbod ?_
  show ((([AV.int .i64 D.vars, .int .i64 (D.empty + D.next.length * bt), AV.own false i1 0 m1 1, .own false i2 0 m2 1]).mapM (frz 5 _)).map AV.agg) = _
  simp only [List.mapM_cons, List.mapM_nil, frz_int, fN, fF, Option.pure_def, Option.bind_eq_bind, Option.bind_some, Option.map_some]
end Go.Abs.Det

/- Plain law: the doubled automaton accepts what the automaton accepts; copies are of one class. -/
namespace Go.Abs.Det
open Go Go.Abs
set_option linter.unusedSimpArgs false
set_option linter.unusedVariables false

section
variable {D : Da} {ch : Int}
theorem dbl_len : (dblD D ch).next.length = 2 * D.next.length := nextC_len ..
theorem dbl_nx {l r x : Nat} (hl : l < 2 * D.next.length) (hr : r < 2 * D.next.length) (hx : x < two D.vars) : nx (dblD D ch) (l : Nat) (r : Nat) x = cellD D ch l r x := by
  show (((nextC D ch (2 * D.next.length)).getD l []).getD r []).getD x 0 = _
  unfold nextC
  rw [map_getD hl]
  unfold rowsOf
  rw [map_getD hr]
  unfold rowD
  rw [map_getD hx]
theorem cell_bd (hV : Va D) {l r x : Nat} (hx : x < two D.vars) : ∃ k : Nat, cellD D ch l r x = k ∧ k < 2 * D.next.length ∧ ((k % D.next.length : Nat) : Int) = nx D (l % D.next.length : Nat) (r % D.next.length : Nat) x := by
  have n0 := hV.n0
  have lm := Nat.mod_lt l n0
  have rm := Nat.mod_lt r n0
  have hb := nx_bd hV (a := (l % D.next.length : Nat)) (b := (r % D.next.length : Nat)) (x := x) (by omega) (by omega) hx
  unfold cellD
  obtain ⟨a, ha⟩ : ∃ a : Nat, nx D (l % D.next.length : Nat) (r % D.next.length : Nat) x = a := ⟨_, (Int.toNat_of_nonneg hb.1).symm⟩
  rw [ha] at hb ⊢
  have ha' : a < D.next.length := by omega
  rcases bitC_bd ch ((l + 3 * r + 5 * x) % 16) with q | q
  · rw [q]
    exact ⟨a, by omega, by omega, by rw [Nat.mod_eq_of_lt ha']⟩
  · rw [q]
    exact ⟨a + D.next.length, by omega, by omega, by rw [Nat.add_mod_right, Nat.mod_eq_of_lt ha']⟩
theorem dbl_valid (hV : Va D) (h5 : D.next.length ≤ 5) : Va (dblD D ch) := by
  have n0 := hV.n0
  have e0 := hV.e0
  have en := hV.en
  have hb : 0 ≤ D.empty + D.next.length * bitsA .and .i64 ch 1 ∧ D.empty + D.next.length * bitsA .and .i64 ch 1 < (2 * D.next.length : Nat) := by
    rcases bit_one ch with q | q <;> rw [q] <;> omega
  refine ⟨hV.v0, hV.v3, by rw [dbl_len]; omega, by rw [dbl_len]; omega, by rw [dbl_len]; exact finC_len .., hb.1, by rw [dbl_len]; exact hb.2, fun rows hr => ?_, fun rows hr row hw => ?_, fun rows hr row hw s hs => ?_⟩
  · obtain ⟨l, _, rfl⟩ := List.mem_map.1 hr
    rw [dbl_len]; exact rowsOf_len ..
  · obtain ⟨l, _, rfl⟩ := List.mem_map.1 hr
    obtain ⟨r, _, rfl⟩ := List.mem_map.1 hw
    exact rowD_len ..
  · obtain ⟨l, _, rfl⟩ := List.mem_map.1 hr
    obtain ⟨r, _, rfl⟩ := List.mem_map.1 hw
    obtain ⟨x, hx, rfl⟩ := List.mem_map.1 hs
    obtain ⟨k, k1, k2, _⟩ := cell_bd (ch := ch) (l := l) (r := r) hV (List.mem_range.1 hx)
    rw [k1, dbl_len]; omega
theorem dbl_st (hV : Va D) (h5 : D.next.length ≤ 5) : ∀ T : BT, T.labs (· < two D.vars) → ∃ k : Nat, stB (dblD D ch) T = k ∧ k < 2 * D.next.length ∧ ((k % D.next.length : Nat) : Int) = stB D T
  | .nil, _ => by
    have e0 := hV.e0
    have en := hV.en
    obtain ⟨a, ha⟩ : ∃ a : Nat, D.empty = a := ⟨_, (Int.toNat_of_nonneg e0).symm⟩
    have ha' : a < D.next.length := by omega
    show ∃ k : Nat, D.empty + D.next.length * bitsA .and .i64 ch 1 = k ∧ k < 2 * D.next.length ∧ ((k % D.next.length : Nat) : Int) = D.empty
    rw [ha]
    rcases bit_one ch with q | q
    · rw [q]; exact ⟨a, by omega, by omega, by rw [Nat.mod_eq_of_lt ha']⟩
    · rw [q]; exact ⟨a + D.next.length, by omega, by omega, by rw [Nat.add_mod_right, Nat.mod_eq_of_lt ha']⟩
  | .node x l r, h => by
    obtain ⟨a, a1, a2, a3⟩ := dbl_st hV h5 l h.2.1
    obtain ⟨b, b1, b2, b3⟩ := dbl_st hV h5 r h.2.2
    show ∃ k : Nat, nx (dblD D ch) (stB (dblD D ch) l) (stB (dblD D ch) r) x = k ∧ k < 2 * D.next.length ∧ ((k % D.next.length : Nat) : Int) = nx D (stB D l) (stB D r) x
    rw [a1, b1, dbl_nx a2 b2 h.1, ← a3, ← b3]
    exact cell_bd hV h.1
theorem dbl_fin {k : Nat} (hk : k < 2 * D.next.length) : (dblD D ch).fin.getD k false = D.fin.getD (k % D.next.length) false := by
  show (finC D (2 * D.next.length)).getD k false = _
  unfold finC
  rw [map_getD hk]
theorem dbl_acc (hV : Va D) (h5 : D.next.length ≤ 5) {T : BT} (h : T.labs (· < two D.vars)) : accB (dblD D ch) T = accB D T := by
  obtain ⟨k, k1, k2, k3⟩ := dbl_st (ch := ch) hV h5 T h
  unfold accB
  rw [k1, ← k3]
  exact dbl_fin k2
/-- the copies are of one class -/
theorem dbl_class (hV : Va D) (h5 : D.next.length ≤ 5) {c : List Int} {m : Nat} (hS : Stab (dblD D ch) c m) {s : Nat} (hs : s < D.next.length) : c.getD s 0 = c.getD (s + D.next.length) 0 := by
  have n0 := hV.n0
  have e2 : two (dblD D ch).vars = two D.vars := rfl
  have key : ∀ l r x, l < 2 * D.next.length → r < 2 * D.next.length → x < two D.vars → ∃ k : Nat, nt (dblD D ch) l r x = k ∧ ((k % D.next.length : Nat) : Int) = nx D (l % D.next.length : Nat) (r % D.next.length : Nat) x := fun l r x hl hr hx => by
    obtain ⟨k, k1, _, k3⟩ := cell_bd (ch := ch) (l := l) (r := r) hV hx
    exact ⟨k, by unfold nt; rw [dbl_nx hl hr hx, k1]; rfl, k3⟩
  refine hS.big (fun s t => s % D.next.length = t % D.next.length) ⟨fun s t hs ht e => ?_, fun s t q x hs ht hq hx e => ?_, fun s t q x hs ht hq hx e => ?_⟩ s (s + D.next.length) (by rw [dbl_len]; omega) (by rw [dbl_len]; omega) (by rw [Nat.add_mod_right])
  · rw [dbl_len] at hs ht
    rw [dbl_fin hs, dbl_fin ht, e]
  · rw [dbl_len] at hs ht hq
    obtain ⟨k, k1, k2⟩ := key s q x hs hq hx
    obtain ⟨k', k1', k2'⟩ := key t q x ht hq hx
    rw [k1, k1']
    rw [e, ← k2'] at k2
    omega
  · rw [dbl_len] at hs ht hq
    obtain ⟨k, k1, k2⟩ := key q s x hq hs hx
    obtain ⟨k', k1', k2'⟩ := key q t x hq ht hx
    rw [k1, k1']
    rw [e, ← k2'] at k2
    omega
end
end Go.Abs.Det

/- sub with another bound. -/
namespace Go.Abs.Det
open Go Go.Abs
set_option linter.unusedSimpArgs false
set_option linter.unusedVariables false

/-- the part with at most k states -/
def subTk (d : Dfa) (k : Nat) : AV :=
  if d.next.length = 0 then .agg [.int .i64 (nrm d.vars 3), .int .i64 0, .sl true 0 [], .sl true 0 []] else
    .agg [.int .i64 (nrm d.vars 3), .int .i64 (nrm d.empty (min k d.next.length : Nat)), .sl false (min k d.next.length) (stT d (min k d.next.length) (two (nrm d.vars 3)) (min k d.next.length)), .sl false (min k d.next.length) (bools (fiS d (min k d.next.length)))]

set_option maxHeartbeats 1000000 in
theorem sub42k (d : Dfa) {k : Nat} (hk0 : 0 < k) (hk8 : k ≤ 8) : L.pcall 42 [d.av, .int .i64 (k : Nat)] = some (subTk d k) := by
  have b3 := nrm_bd d.vars (n := 3) (by omega)
  have t3 := tmod_bd d.vars (n := 3) (by omega)
  have e8 : min ((k : Nat) : Int) (d.next.length : Nat) = ((min k d.next.length : Nat) : Int) := by omega
  unfold subTk
  have hnr : nrm d.vars 3 = (d.vars.tmod 3 + 3).tmod 3 := rfl
  generalize hv2 : nrm d.vars 3 = v2 at *
  generalize hq : d.vars.tmod 3 = q at *
  have hq2 : (q + 3).tmod 3 = v2 := hnr.symm
  by_cases h0 : d.next.length = 0
  · rw [if_pos h0]
    have e80 : min ((k : Nat) : Int) (d.next.length : Nat) = 0 := by omega
    unfold Dfa.av Dfa.cells
    rw [a42p, a42, pbodyA_eq]
    simp (maxSteps := 30000000) (disch := first | assumption | omega | (simp only [List.length_cons, List.length_nil, List.length_append, List.length_set, List.length_replicate, List.length_map, List.length_range, List.length_take, List.length_drop, List.all_cons, List.all_nil, AV.isCell, Bool.and_self, Bool.and_true, bs_length, is64_length, w64_length, ints_length, ints_length, bools_len] <;> omega) | rfl | decide) only [bodyA_eq, List.length_cons, List.length_nil, Nat.zero_add, Nat.reduceAdd, Nat.reduceSub, pads, List.cons_append, List.nil_append, run_seq, run_region, runOps_cons, oper_none, ex_box, AV.cells, opv, List.getD_cons_zero, List.all_cons, AV.isCell, List.all_nil, Bool.and_self, ↓reduceIte, putK_to, List.set_cons_succ, List.set_cons_zero, opsK_some, runOps_nil, regK_some, seqK_normal, ex_mov, List.getD_cons_succ, ex_faddr, faddrA_ptr, valK_some, ex_load, rd_ptr, List.getElem?_cons_zero, rdK_cells, List.drop_succ_cons, List.drop_zero, List.take_succ_cons, List.take_zero, loadK_1, ex_len, lenA_sl, ex_mini, minA_int, e80, Nat.add_zero, ex_bin, bin_rem, hq, bin_add, wr64, hq2, ex_build, beq_self_eq_true, List.map_cons, List.map_nil, fillA, Nat.reduceLeDiff, and_self, splice, Option.map_some, ex_store, wr_ptr, List.getElem?_cons_succ, wrK_cells, List.drop_nil, List.append_nil, storeK_some, putK_no, bin_eql, decide_true, run_cond, condK_bool, List.take_nil, loadK_n, run_ret, seqK_ret, bodyK_ret, results_1, res_cell, cellK_some, mkv_n, retvK_some, pbodyK_some, frzN, frz_agg, List.mapM_cons, frz_int, frz_sl, List.mapM_nil, Option.pure_def, Option.bind_eq_bind, Option.bind_some]
  · rw [if_neg h0]
    have hn0 : 0 < min k d.next.length := by omega
    have hn8 : min k d.next.length ≤ 8 := by omega
    have hnl : min k d.next.length ≤ d.next.length := by omega
    generalize min k d.next.length = n at *
    have te := tmod_bd d.empty (n := (n : Int)) (by omega)
    have hne : nrm d.empty (n : Int) = (d.empty.tmod (n : Int) + (n : Int)).tmod (n : Int) := rfl
    generalize nrm d.empty (n : Int) = em at *
    generalize hqe : d.empty.tmod (n : Int) = qe at *
    have hqe2 : (qe + (n : Int)).tmod (n : Int) = em := hne.symm
    have hm : two v2 ≤ 8 ∧ IntKind.i64.wrap (1 * 2 ^ min v2.toNat IntKind.i64.bits) = (two v2 : Nat) := by
      have : v2 = 0 ∨ v2 = 1 ∨ v2 = 2 := by omega
      rcases this with rfl | rfl | rfl
      · exact ⟨by decide, by decide⟩
      · exact ⟨by decide, by decide⟩
      · exact ⟨by decide, by decide⟩
    obtain ⟨G', e1, e2, e3⟩ := sub_states (d := d) (n := n) (m := two v2) (v2 := v2) (em := em) (x1 := .cells false false [.int .i64 0, .int .i64 0, .sl true 0 [], .sl true 0 []]) hn0 hn8 hm.1 hnl hm.2 (by omega) n 0
      [.cells false false d.cells, .cells false false [.int .i64 0, .int .i64 0, .sl true 0 [], .sl true 0 []], .cells false false [.int .i64 v2, .int .i64 em, .sl true 0 [], .sl true 0 []]] (by omega) rfl rfl (.zero rfl rfl)
    obtain ⟨i1, i2, g2, f1, f2⟩ := under_fz e3 (by omega)
    have hnn : ((n : Nat) : Int) ≠ 0 := by omega
    have hlen : 3 ≤ G'.length := (List.getElem?_eq_some_iff.1 g2).1
    unfold Dfa.av
    unfold Dfa.cells at e1 ⊢
    simp only [Int.natCast_zero] at e1
    have hb : bodyA L a42 [.agg [.int .i64 d.vars, .int .i64 d.empty, .sl d.z d.next.length (d.next.map rwsV), .sl d.zf d.fin.length (bools d.fin)], .int .i64 (k : Nat)] [] =
        some (.agg [.int .i64 v2, .int .i64 em, AV.own false i1 0 n 1, .own false i2 0 n 1], G'.set 1 (.cells false false [.int .i64 v2, .int .i64 em, AV.own false i1 0 n 1, .own false i2 0 n 1])) := by
      have s1 : ∀ X : Blk, (G'.set 1 X)[1]? = some X := fun X => List.getElem?_set_self (by omega)
      rw [a42]
      simp (maxSteps := 30000000) (disch := first | assumption | omega | (simp only [List.length_cons, List.length_nil, List.length_append, List.length_set, List.length_replicate, List.length_map, List.length_range, List.length_take, List.length_drop, List.all_cons, List.all_nil, AV.isCell, Bool.and_self, Bool.and_true, bs_length, is64_length, w64_length, ints_length, ints_length, bools_len] <;> omega) | rfl | decide) only [bodyA_eq, List.length_cons, List.length_nil, Nat.zero_add, Nat.reduceAdd, Nat.reduceSub, pads, List.cons_append, List.nil_append, run_seq, run_region, runOps_cons, oper_none, ex_box, AV.cells, opv, List.getD_cons_zero, List.all_cons, AV.isCell, List.all_nil, Bool.and_self, ↓reduceIte, putK_to, List.set_cons_succ, List.set_cons_zero, opsK_some, runOps_nil, regK_some, seqK_normal, ex_mov, List.getD_cons_succ, ex_faddr, faddrA_ptr, valK_some, ex_load, rd_ptr, List.getElem?_cons_zero, rdK_cells, List.drop_succ_cons, List.drop_zero, List.take_succ_cons, List.take_zero, loadK_1, ex_len, lenA_sl, ex_mini, minA_int, e8, Nat.add_zero, ex_bin, bin_rem, hq, bin_add, wr64, hq2, ex_build, beq_self_eq_true, List.map_cons, List.map_nil, fillA, Nat.reduceLeDiff, and_self, splice, Option.map_some, ex_store, wr_ptr, List.getElem?_cons_succ, wrK_cells, List.drop_nil, List.append_nil, storeK_some, putK_no, bin_eql, hnn, decide_false, run_cond, condK_bool, Bool.false_eq_true, run_skip, hqe, hqe2, run_block, run_loop, a42l2c, e1, blockK_exit, g2, List.take_nil, loadK_n, e2, run_ret, bodyK_ret, results_1, res_cell, s1, cellK_some, mkv_n, retvK_some]
    rw [a42p]
    refine pbody_of hb ?_
    have z1 := f1.frame (G' := G'.set 1 (.cells false false [.int .i64 v2, .int .i64 em, AV.own false i1 0 n 1, .own false i2 0 n 1])) (by simp) (fun q hq b hb => by
      have := (f1 q hq).2 b hb
      rw [List.getElem?_set_ne (by omega)])
    have z2 := f2.frame (G' := G'.set 1 (.cells false false [.int .i64 v2, .int .i64 em, AV.own false i1 0 n 1, .own false i2 0 n 1])) (by simp) (fun q hq b hb => by
      have := (f2 q hq).2 b hb
      rw [List.getElem?_set_ne (by omega)])
    show ((([AV.int .i64 v2, .int .i64 em, AV.own false i1 0 n 1, .own false i2 0 n 1]).mapM (frz 5 _)).map AV.agg) = _
    simp only [List.mapM_cons, List.mapM_nil, frz_int, (z1 5 (by omega)).1, (z2 5 (by omega)).1, Option.pure_def, Option.bind_eq_bind, Option.bind_some, Option.map_some]


def subDk (d : Dfa) (k : Nat) : Da := ⟨nrm d.vars 3, nrm d.empty (min k d.next.length : Nat), (List.range (min k d.next.length)).map fun l => (List.range (min k d.next.length)).map fun r => rowS d (min k d.next.length) (two (nrm d.vars 3)) l r, fiS d (min k d.next.length)⟩
theorem subTk_some {d : Dfa} {k : Nat} (h : d.next.length ≠ 0) : subTk d k = (subDk d k).av := by
  unfold subTk
  rw [if_neg h]
  unfold Da.av Da.cells subDk stT rowsT
  simp only [List.length_map, List.length_range, List.map_map, fiS_len]
  congr 5
  apply List.map_congr_left
  intro q _
  simp only [Function.comp, rowsD, List.length_map, List.length_range, List.map_map]
  rfl
theorem subDk_valid {d : Dfa} {k : Nat} (hk0 : 0 < k) (hk8 : k ≤ 8) (h : d.next.length ≠ 0) : Va (subDk d k) := by
  have h1 := nrm_bd d.vars (n := 3) (by omega)
  have h2 := nrm_bd d.empty (n := ((min k d.next.length : Nat) : Int)) (by omega)
  have hlen : (subDk d k).next.length = min k d.next.length := by simp [subDk]
  refine ⟨h1.1, by show nrm d.vars 3 ≤ 3; omega, by rw [hlen]; omega, by rw [hlen]; omega, by rw [hlen]; exact fiS_len d _, h2.1, by rw [hlen]; exact h2.2, fun rows hr => ?_, fun rows hr row hw => ?_, fun rows hr row hw s hs => ?_⟩
  · obtain ⟨l, _, rfl⟩ := List.mem_map.1 hr
    rw [hlen]; simp
  · obtain ⟨l, _, rfl⟩ := List.mem_map.1 hr
    obtain ⟨r, _, rfl⟩ := List.mem_map.1 hw
    exact rowS_len ..
  · obtain ⟨l, _, rfl⟩ := List.mem_map.1 hr
    obtain ⟨r, _, rfl⟩ := List.mem_map.1 hw
    obtain ⟨x, _, rfl⟩ := List.mem_map.1 hs
    rw [hlen]
    exact cellS_bd (by omega)
theorem subDk_len {d : Dfa} {k : Nat} : (subDk d k).next.length = min k d.next.length := by simp [subDk]
end Go.Abs.Det
