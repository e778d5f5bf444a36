/- Classes; what its numbers are. -/
import Derived.Test.YtdkbhidfiplncaaAE7
namespace Go.Abs.Det
open Go Go.Abs
set_option linter.unusedSimpArgs false
set_option linter.unusedVariables false

theorem classes25 {D : Da} (hV : Va D) : ∃ c m, Stab D c m ∧ L.pcall 25 [D.av] = some (.tup [.sl false D.next.length (ints c), .int .i64 0]) := by
  obtain ⟨c, m, h1, h2⟩ := classes60 hV
  refine ⟨c, m, h1, ?_⟩
  have h := check_ok D hV
  unfold Da.av at h h2 ⊢
  unfold Da.cells at h h2 ⊢
  rw [a25p, a25, pbodyA_eq]
  simp (maxSteps := 30000000) (disch := first | assumption | omega | (simp only [List.length_cons, List.length_nil, List.length_append, List.length_set, List.length_replicate, List.length_map, List.length_range, List.length_take, List.length_drop, List.all_cons, List.all_nil, AV.isCell, Bool.and_self, Bool.and_true, bs_length, is64_length, w64_length, ints_length, ints_length, bools_len, List.length_map] <;> omega) | rfl | decide) only [bodyA_eq, List.length_cons, List.length_nil, Nat.zero_add, Nat.reduceSub, pads, List.cons_append, List.nil_append, run_seq, run_region, runOps_cons, oper_none, ex_box, AV.cells, opv, List.getD_cons_zero, List.all_cons, AV.isCell, List.all_nil, Bool.and_self, ↓reduceIte, putK_to, List.set_cons_succ, List.set_cons_zero, opsK_some, ex_mov, runOps_nil, regK_some, seqK_normal, ex_load, List.getD_cons_succ, rd_ptr, List.getElem?_cons_zero, rdK_cells, List.drop_zero, List.take_succ_cons, List.take_nil, loadK_n, valK_some, ex_call, List.map_cons, List.map_nil, pcallA_eq, frzN, List.mapM_cons, frz_agg, frz_int, frz_sl, List.mapM_nil, Option.pure_def, Option.bind_eq_bind, Option.bind_some, Option.map_some, argK_some, h, retK_some, scal, scal1, ex_bin, bin_neq, decide_true, Bool.not_true, run_cond, condK_bool, Bool.false_eq_true, run_skip, h2, Bool.and_true, fzIds, List.flatMap_cons, bor_agg, bor_int, bor_sl, List.flatMap_nil, List.append_nil, List.foldl_nil, ex_ext, extA_tup, List.getElem?_cons_succ, run_ret, bodyK_ret, results_2, resL_cons, res_tmp, resK_some, resL_nil, retvK_some, pbodyK_some, frz_tup]
theorem classes25_none (v e : Int) (z1 z2 : Bool) (v0 : 0 ≤ v) (v3 : v ≤ 3) : L.pcall 25 [.agg [.int .i64 v, .int .i64 e, .sl z1 0 [], .sl z2 0 []]] = some (.tup [.sl true 0 [], .int .i64 3]) := by
  have h := check_none v e z1 z2 0 [] v0 v3
  rw [a25p, a25, pbodyA_eq]
  simp (maxSteps := 30000000) (disch := first | assumption | omega | (simp only [List.length_cons, List.length_nil, List.length_append, List.length_set, List.length_replicate, List.length_map, List.length_range, List.length_take, List.length_drop, List.all_cons, List.all_nil, AV.isCell, Bool.and_self, Bool.and_true, bs_length, is64_length, w64_length, ints_length, ints_length, bools_len, List.length_map] <;> omega) | rfl | decide) only [bodyA_eq, List.length_cons, List.length_nil, Nat.zero_add, Nat.reduceSub, pads, List.cons_append, List.nil_append, run_seq, run_region, runOps_cons, oper_none, ex_box, AV.cells, opv, List.getD_cons_zero, List.all_cons, AV.isCell, List.all_nil, Bool.and_self, ↓reduceIte, putK_to, List.set_cons_succ, List.set_cons_zero, opsK_some, ex_mov, runOps_nil, regK_some, seqK_normal, ex_load, List.getD_cons_succ, rd_ptr, List.getElem?_cons_zero, rdK_cells, List.drop_zero, List.take_succ_cons, List.take_nil, loadK_n, valK_some, ex_call, List.map_cons, List.map_nil, pcallA_eq, frzN, List.mapM_cons, frz_agg, frz_int, frz_sl, List.mapM_nil, Option.pure_def, Option.bind_eq_bind, Option.bind_some, Option.map_some, argK_some, h, retK_some, scal, scal1, ex_bin, bin_neq, Int.reduceEq, decide_false, Bool.not_false, run_cond, condK_bool, run_ret, seqK_ret, bodyK_ret, results_2, resL_cons, res_tmp, resK_some, resL_nil, retvK_some, pbodyK_some, frz_tup]

/-- the first places do not change -/
theorem num_pre (key : Nat → List Nat) {s : Nat} : ∀ d, (numK key 0 (s + 1 + d) []).1.getD s 0 = (numK key 0 (s + 1) []).1.getD s 0
  | 0 => rfl
  | d + 1 => by
    rw [show s + 1 + (d + 1) = s + 1 + d + 1 by omega, numK_snoc key (s + 1 + d)]
    have hl := (numK_ok key (s + 1 + d)).len
    rw [← num_pre key d]
    unfold snocK
    split <;> exact getD_app1 (by omega)
def mxK (key : Nat → List Nat) (s : Nat) : Nat := (numK key 0 s []).2.length
theorem num_step (key : Nat → List Nat) {n s : Nat} (h : s < n) : (numK key 0 n []).1.getD s 0 ≤ mxK key s ∧ ((numK key 0 n []).1.getD s 0 = mxK key s → mxK key (s + 1) = mxK key s + 1) ∧ ((numK key 0 n []).1.getD s 0 ≠ mxK key s → mxK key (s + 1) = mxK key s) := by
  have e1 := num_pre key (s := s) (n - (s + 1))
  rw [show s + 1 + (n - (s + 1)) = n by omega] at e1
  rw [e1]
  unfold mxK
  have hl := (numK_ok key s).len
  rw [numK_snoc key s]
  unfold snocK
  cases hi : idxK (key (0 + s)) (numK key 0 s []).2 0 with
  | some j =>
    obtain ⟨_, q⟩ := idxK_some hi
    have q1 := (List.getElem?_eq_some_iff.1 q).1
    have e2 : ((numK key 0 s []).1 ++ [j]).getD s 0 = j := by
      have := getD_app2 (l := (numK key 0 s []).1) (a := j)
      rwa [hl] at this
    simp only []
    rw [e2]
    exact ⟨by omega, fun h => by omega, fun _ => trivial⟩
  | none =>
    have e2 : ((numK key 0 s []).1 ++ [(numK key 0 s []).2.length]).getD s 0 = (numK key 0 s []).2.length := by
      have := getD_app2 (l := (numK key 0 s []).1) (a := (numK key 0 s []).2.length)
      rwa [hl] at this
    simp only []
    rw [e2]
    exact ⟨Nat.le_refl _, fun _ => by simp, fun h => absurd rfl h⟩

section
variable {D : Da} {c : List Int} {H : Heap} {s6 : AV}

set_option maxRecDepth 10000 in
set_option maxHeartbeats 1000000 in
theorem con_x (hV : Va D) (hlen : c.length = D.next.length) (hC : Cong D (fun s t => c.getD s 0 = c.getD t 0)) (h0 : H[1]? = some (.cells false false D.cells)) {s t q : Nat} (hs : s < D.next.length) (ht : t < D.next.length) (hq : q < D.next.length) (hst : c.getD s 0 = c.getD t 0) : ∀ e x, x + e = two D.vars →
    L.loop a7l0s a7l0 ⟨a7l0F (.bool false) (.ptr 1 0) (.sl false D.next.length (ints c)) s6 (.int .i64 (s : Nat)) (.int .i64 (t : Nat)) (.int .i64 (q : Nat)) (.int .i64 (x : Nat)), H⟩ =
      some (.exit 6, ⟨a7l0F (.bool false) (.ptr 1 0) (.sl false D.next.length (ints c)) s6 (.int .i64 (s : Nat)) (.int .i64 (t : Nat)) (.int .i64 (q : Nat)) (.int .i64 (two D.vars : Nat)), H⟩) := by
  have n64 := hV.n64
  have h8 := (two_bd hV.v3).1
  have v0 := hV.v0
  have hsh := two_shl hV.v0 hV.v3
  have hv : ¬ D.vars < 0 := by omega
  unfold Da.cells at h0
  intro e
  induction e with
  | zero =>
    intro x h
    obtain rfl : x = two D.vars := by omega
    rw [a7l0n]
    simp (maxSteps := 30000000) (disch := first | assumption | omega | (simp only [List.length_cons, List.length_nil, List.length_append, List.length_set, List.length_replicate, List.length_map, List.length_range, List.length_take, List.length_drop, List.all_cons, List.all_nil, AV.isCell, Bool.and_self, Bool.and_true, bs_length, is64_length, w64_length, ints_length, ints_length, bools_len, List.length_map] <;> omega) | rfl | decide) only [a7l0b, run_seq, run_region, runOps_cons, oper_none, ex_mov, opv, List.getD_cons_succ, List.getD_cons_zero, putK_to, List.set_cons_succ, List.set_cons_zero, opsK_some, ex_faddr, faddrA_ptr, Nat.add_zero, valK_some, ex_load, rd_ptr, h0, rdK_cells, List.drop_zero, List.take_succ_cons, List.take_zero, loadK_1, ex_bin, bin_shl, hsh, bin_lss, Int.lt_irrefl, decide_false, runOps_nil, regK_some, seqK_normal, run_cond, condK_bool, Bool.false_eq_true, ↓reduceIte, run_exit, seqK_exit, loopK_exit, a7l0c]
  | succ e ih =>
    intro x h
    have hlt : (x : Int) < (two D.vars : Nat) := by omega
    have ih' := ih (x + 1) (by omega)
    have hx : x < two D.vars := by omega
    have L2 := fun a (ha : a < D.next.length) => hV.rl _ (getD_in (a := ([] : List (List Int))) ha)
    have L3 := fun a b (ha : a < D.next.length) (hb : b < D.next.length) => hV.cl _ (getD_in (a := ([] : List (List Int))) ha) _ (getD_in (a := ([] : List Int)) (show b < (D.next.getD a []).length by rw [L2 a ha]; exact hb))
    have G := fun a b (ha : a < D.next.length) (hb : b < D.next.length) => (show List.take 1 (List.drop x (ints ((D.next.getD a []).getD b []))) = [.int .i64 (((D.next.getD a []).getD b []).getD x 0)] from map_at1 _ _ (by rw [L3 a b ha hb]; exact hx))
    have B := fun a b (ha : a < D.next.length) (hb : b < D.next.length) => (show 0 ≤ ((D.next.getD a []).getD b []).getD x 0 ∧ ((D.next.getD a []).getD b []).getD x 0 < D.next.length from nx_bd hV (a := (a : Int)) (b := (b : Int)) (x := x) (by omega) (by omega) hx)
    have C := fun a b (ha : a < D.next.length) (hb : b < D.next.length) => (show List.take 1 (List.drop (((D.next.getD a []).getD b []).getD x 0).toNat (ints c)) = [.int .i64 (c.getD (((D.next.getD a []).getD b []).getD x 0).toNat 0)] from map_at1 _ _ (by have := B a b ha hb; omega))
    have r1 := L2 s hs
    have r2 := L2 t ht
    have r3 := L2 q hq
    have m1 := L3 s q hs hq
    have m2 := L3 t q ht hq
    have m3 := L3 q s hq hs
    have m4 := L3 q t hq ht
    have g1 := G s q hs hq
    have g2 := G t q ht hq
    have g3 := G q s hq hs
    have g4 := G q t hq ht
    have b1 := B s q hs hq
    have b2 := B t q ht hq
    have b3 := B q s hq hs
    have b4 := B q t hq ht
    have c1 := C s q hs hq
    have c2 := C t q ht hq
    have c3 := C q s hq hs
    have c4 := C q t hq ht
    have q1 : c.getD (((D.next.getD s []).getD q []).getD x 0).toNat 0 = c.getD (((D.next.getD t []).getD q []).getD x 0).toNat 0 := hC.l s t q x hs ht hq hx hst
    have q2 : c.getD (((D.next.getD q []).getD s []).getD x 0).toNat 0 = c.getD (((D.next.getD q []).getD t []).getD x 0).toNat 0 := hC.r s t q x hs ht hq hx hst
    clear G B C L2 L3
    rw [a7l0n]
    simp (maxSteps := 30000000) (disch := first | assumption | omega | (simp only [List.length_cons, List.length_nil, List.length_append, List.length_set, List.length_replicate, List.length_map, List.length_range, List.length_take, List.length_drop, List.all_cons, List.all_nil, AV.isCell, Bool.and_self, Bool.and_true, bs_length, is64_length, w64_length, ints_length, ints_length, bools_len, List.length_map] <;> omega) | rfl | decide) only [a7l0b, run_seq, run_region, runOps_cons, oper_none, ex_mov, opv, List.getD_cons_succ, List.getD_cons_zero, putK_to, List.set_cons_succ, List.set_cons_zero, opsK_some, ex_faddr, faddrA_ptr, Nat.add_zero, valK_some, ex_load, rd_ptr, h0, rdK_cells, List.drop_zero, List.take_succ_cons, List.take_zero, loadK_1, ex_bin, bin_shl, hsh, bin_lss, hlt, decide_true, runOps_nil, regK_some, seqK_normal, run_cond, condK_bool, ↓reduceIte, run_skip, run_block, run_draw, runFree_cons, foper_none, fe_mov, fstK_some, fputK_to, freeK_some, fe_faddr, Nat.zero_add, fe_load, List.drop_succ_cons, fe_iaddr, ex_iaddr, iaddrA_sl, Int.toNat_natCast, Nat.mul_one, rd_vptr, rows_at, rowsD, r1, row_at, rowT, m1, ints_drop, ints_take, ints_at0, getD_dropI, q1, r2, m2, fe_bin, bin_neq, Bool.not_true, foper_guard, fguardK_bool, r3, m3, q2, m4, runFree_nil, drawK_some, adopt, adoptVal, oper_guard, guardK_bool, ex_pick, pickA_bool, Bool.false_eq_true, blockK_normal, bin_add, cadd1, wr64, loopK_normal, a7l0c, ih']
end
end Go.Abs.Det
