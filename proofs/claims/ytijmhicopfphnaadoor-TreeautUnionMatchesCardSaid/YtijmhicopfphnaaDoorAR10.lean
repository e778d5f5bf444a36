/- The law TreeautUnionMatches: a round. -/
import Derived.Test.YtijmhicopfphnaaDoorARF
import Derived.Test.YtijmhicopfphnaaDoorARU
import Derived.Test.YtijmhicopfphnaaDoorARO
import Derived.Test.YtijmhicopfphnaaDoorAL36
namespace Go.Abs.Tree
open Go Go.Abs
set_option linter.unusedSimpArgs false
set_option linter.unusedVariables false

/-- the four boxes of the law stand -/
structure Four (n k x y : Aut) (H : Heap) : Prop where
  g0 : H[0]? = some (.cells false false n.cells)
  g1 : H[1]? = some (.cells false false k.cells)
  g2 : H[2]? = some (.cells false false x.cells)
  g3 : H[3]? = some (.cells false false y.cells)

noncomputable abbrev RL (i : Int) (H : Heap) := L.loop a4l0s a4l0 ⟨a4l0F (.ptr 0 0) (.ptr 1 0) (.bool false) (.ptr 2 0) (.ptr 3 0) (.int .i64 i), H⟩

theorem Four.len {n k x y : Aut} {H : Heap} (h : Four n k x y H) : 4 ≤ H.length := by
  have := (List.getElem?_eq_some_iff.1 h.g3).1
  omega

theorem Four.app {n k x y : Aut} {H : Heap} (h : Four n k x y H) (T : Heap) : Four n k x y (H ++ T) :=
  ⟨app_get h.g0, app_get h.g1, app_get h.g2, app_get h.g3⟩

set_option maxRecDepth 20000 in
set_option maxHeartbeats 2000000 in
theorem round_bad {n k x y : Aut} {H : Heap} {i : Int} (hi : i < 2) (hi0 : 0 ≤ i) (h : Four n k x y H) (f1 : L.pcall 12 [n.av] = some x.av) (f2 : L.pcall 12 [k.av] = some y.av) (b1 : L.pcall 25 [x.av, x.av] = some (.bool true)) (b2 : L.pcall 25 [y.av, y.av] = some (.bool true))
    {e : Int} (u1 : ocallA L 30 [x.av, y.av] = some (.tup [zA.av, .int .i64 e], [])) (u2 : L.pcall 31 [x.av, y.av] = some (.tup [zA.av, .int .i64 e])) :
    ∃ H', Four n k x y H' ∧ RL i H = RL (i + 1) H' := by
  have hz := aut_same zA (by simp) (by simp) (by simp) true true true
  have g0 := fun T => (h.app T).g0
  have g1 := fun T => (h.app T).g1
  have g2 := fun T => (h.app T).g2
  have g3 := fun T => (h.app T).g3
  have k0 := h.g0
  have k1 := h.g1
  have k2 := h.g2
  have k3 := h.g3
  obtain ⟨X, hX⟩ := over28n (H ++ [.cells false false [.int .i64 0, .int .i64 0, .sl true 0 [], .sl true 0 [], .sl true 0 []], .cells false false [.int .i64 0, .int .i64 0, .sl true 0 [], .sl true 0 [], .sl true 0 []]])
  refine ⟨_, (h.app [.cells false false [.int .i64 0, .int .i64 0, .sl true 0 [], .sl true 0 [], .sl true 0 []], .cells false false [.int .i64 0, .int .i64 0, .sl true 0 [], .sl true 0 [], .sl true 0 []]]).app X, ?_⟩
  unfold RL
  change _ = some (AV.tup [.agg [.int .i64 0, .int .i64 0, .sl true 0 [], .sl true 0 [], .sl true 0 []], _], []) at u1
  change _ = some (AV.tup [.agg [.int .i64 0, .int .i64 0, .sl true 0 [], .sl true 0 [], .sl true 0 []], _]) at u2
  change L.pcall 25 [.agg [.int .i64 0, .int .i64 0, .sl true 0 [], .sl true 0 [], .sl true 0 []], .agg [.int .i64 0, .int .i64 0, .sl true 0 [], .sl true 0 [], .sl true 0 []]] = _ at hz
  dsimp only [Aut.av, Aut.cells, iw] at f1 f2 b1 b2 u1 u2 g0 g1 g2 g3 k0 k1 k2 k3
  rw [a4l0n]
  simp (maxSteps := 30000000) (disch := first | assumption | omega | (simp only [List.length_cons, List.length_nil, List.length_append, List.length_set, List.length_replicate, List.length_map, List.length_range, List.length_take, List.length_drop, List.all_cons, List.all_nil, AV.isCell, Bool.and_self, Bool.and_true, bs_length, is64_length, w64_length, ints_length, lfs_length, rls_length] <;> omega) | rfl | decide) only [a4l0b, run_seq, run_region, runOps_cons, oper_none, ex_mov, opv, List.getD_cons_succ, List.getD_cons_zero, putK_to, List.set_cons_succ, List.set_cons_zero, opsK_some, ex_bin, bin_lss, hi, decide_true, valK_some, runOps_nil, regK_some, seqK_normal, run_cond, condK_bool, ↓reduceIte, run_skip, run_block, ex_load, rd_ptr, k2, rdK_cells, List.drop_zero, List.take_succ_cons, List.take_nil, loadK_n, k3, ex_ocall, frzN, List.map_cons, List.map_nil, List.flatMap_cons, bor_agg, bor_int, bor_sl, List.flatMap_nil, List.append_nil, List.mapM_cons, frz_agg, frz_int, frz_sl, List.mapM_nil, Option.pure_def, Option.bind_eq_bind, Option.bind_some, Option.map_some, ocArgK_some, u1, ocK_some, liftV, lift2, lift1, fzIds, List.foldl_nil, ex_ext, extA_tup, List.getElem?_cons_zero, List.getElem?_cons_succ, ex_box, AV.cells, List.all_cons, AV.isCell, List.all_nil, Bool.and_self, ex_store, List.length_cons, List.length_nil, Nat.zero_add, Nat.reduceAdd, wr_ptr, hget0, wrK_cells, splice, List.take_zero, List.nil_append, List.drop_succ_cons, List.drop_nil, hset0, storeK_some, putK_no, g2, g3, ex_call, pcallA_eq, argK_some, u2, retK_some, scal, scal1, Bool.and_true, Bool.false_eq_true, List.length_append, List.append_assoc, List.cons_append, hget, hset, run_draw, runFree_cons, foper_none, fe_load, fstK_some, fputK_to, freeK_some, fe_call, hz, quietK_some, quietCall, Bool.or_true, fe_un, ex_un, un_not, Bool.not_true, fe_mov, foper_guard, fguardK_bool, fe_bin, bin_neq, fe_pick, ex_pick, pickA_bool, g0, f1, Bool.and_false, b1, g1, f2, runFree_nil, drawK_some, adopt, adoptVal, oper_guard, guardK_bool, b2, ex_icall, hX, blockK_normal, bin_add, wr64, loopK_normal, a4l0c]

set_option maxRecDepth 20000 in
set_option maxHeartbeats 2000000 in
theorem round_ok {n k x y : Aut} {H : Heap} {i : Int} (hi : i < 2) (hi0 : 0 ≤ i) (h : Four n k x y H) (f1 : L.pcall 12 [n.av] = some x.av) (f2 : L.pcall 12 [k.av] = some y.av) (b1 : L.pcall 25 [x.av, x.av] = some (.bool true)) (b2 : L.pcall 25 [y.av, y.av] = some (.bool true))
    {v s : Int} {S F : List Int} {R : List Rl} {z1 z2 z3 : Bool} (l1 : S.length < 1099511627776) (l2 : F.length < 1099511627776) (l3 : R.length < 1099511627776)
    (u1 : ocallA L 30 [x.av, y.av] = some (.tup [.agg [.int .i64 v, .int .i64 s, .own (S.length == 0) 0 0 S.length 1, .own (F.length == 0) 1 0 F.length 1, .own (R.length == 0) 2 0 R.length 5], .int .i64 0], [.cells false (S.length == 0) (ints S), .cells false (F.length == 0) (ints F), .cells false (R.length == 0) (rls R)]))
    (u2 : L.pcall 31 [x.av, y.av] = some (.tup [(Aut.mk v s z1 S z2 F z3 R).av, .int .i64 0])) :
    ∃ H', Four n k x y H' ∧ RL i H = RL (i + 1) H' := by
  have hz := aut_same ⟨v, s, S.length == 0, S, F.length == 0, F, R.length == 0, R⟩ l1 l2 l3 z1 z2 z3
  have g0 := fun T => (h.app T).g0
  have g1 := fun T => (h.app T).g1
  have g2 := fun T => (h.app T).g2
  have g3 := fun T => (h.app T).g3
  have k0 := h.g0
  have k1 := h.g1
  have k2 := h.g2
  have k3 := h.g3
  have hl := h.len
  have e1 : List.take S.length S = S := List.take_length
  have e2 : List.take F.length F = F := List.take_length
  have e3 : List.take (R.length * 5) (rls R) = rls R := List.take_of_length_le (by rw [rls_length]; omega)
  generalize (S.length == 0) = y1 at *
  generalize (F.length == 0) = y2 at *
  generalize (R.length == 0) = y3 at *
  let G : Heap := H ++ [.cells false y1 (ints S), .cells false y2 (ints F), .cells false y3 (rls R), .cells false false [.int .i64 v, .int .i64 s, .own y1 H.length 0 S.length 1, .own y2 (H.length + 1) 0 F.length 1, .own y3 (H.length + 2) 0 R.length 5], .cells false false [.int .i64 v, .int .i64 s, iw z1 S, iw z2 F, .sl z3 R.length (rls R)]]
  obtain ⟨G', hX, hgl, hgk⟩ := over28 (vi := v) (si := s) (z1 := y1) (z2 := y2) (z3 := y3) (b1 := H.length) (b2 := H.length + 1) (b3 := H.length + 2) (G := G) l1 l2 l3 (hget0 ..) (hget _ _ 1) (hget _ _ 2) (by omega) (by omega) (by omega)
  have hGl : G.length = H.length + 5 := by simp [G]
  have hF : ∀ b, b < 4 → G'[b]? = H[b]? := fun b hb => by
    rw [hgk b (by omega) (by omega) (by omega) (by omega)]
    exact List.getElem?_append_left (by omega)
  refine ⟨G', ⟨(hF 0 (by omega)).trans k0, (hF 1 (by omega)).trans k1, (hF 2 (by omega)).trans k2, (hF 3 (by omega)).trans k3⟩, ?_⟩
  unfold RL
  dsimp only [G] at hX
  dsimp only [Aut.av, Aut.cells, iw] at f1 f2 b1 b2 u1 u2 g0 g1 g2 g3 k0 k1 k2 k3 hz hX
  clear hgk hF hGl hgl
  clear_value G
  rw [a4l0n]
  simp (maxSteps := 30000000) (disch := first | assumption | omega | (simp only [List.length_cons, List.length_nil, List.length_append, List.length_set, List.length_replicate, List.length_map, List.length_range, List.length_take, List.length_drop, List.all_cons, List.all_nil, AV.isCell, Bool.and_self, Bool.and_true, bs_length, is64_length, w64_length, ints_length, lfs_length, rls_length] <;> omega) | rfl | decide) only [a4l0b, run_seq, run_region, runOps_cons, oper_none, ex_mov, opv, List.getD_cons_succ, List.getD_cons_zero, putK_to, List.set_cons_succ, List.set_cons_zero, opsK_some, ex_bin, bin_lss, hi, decide_true, valK_some, runOps_nil, regK_some, seqK_normal, run_cond, condK_bool, ↓reduceIte, run_skip, run_block, ex_load, rd_ptr, k2, rdK_cells, List.drop_zero, List.take_succ_cons, List.take_nil, loadK_n, k3, ex_ocall, frzN, List.map_cons, List.map_nil, List.flatMap_cons, bor_agg, bor_int, bor_sl, List.flatMap_nil, List.append_nil, List.mapM_cons, frz_agg, frz_int, frz_sl, List.mapM_nil, Option.pure_def, Option.bind_eq_bind, Option.bind_some, Option.map_some, ocArgK_some, u1, ocK_some, liftV, lift2, lift1, Nat.add_zero, fzIds, List.foldl_nil, ex_ext, extA_tup, List.getElem?_cons_zero, List.getElem?_cons_succ, ex_box, AV.cells, List.all_cons, AV.isCell, List.all_nil, Bool.and_self, List.length_append, List.length_cons, List.length_nil, Nat.zero_add, Nat.reduceAdd, List.append_assoc, List.cons_append, List.nil_append, ex_store, wr_ptr, hget, wrK_cells, splice, List.take_zero, List.drop_succ_cons, List.drop_nil, hset, storeK_some, putK_no, g2, g3, ex_call, pcallA_eq, argK_some, u2, retK_some, scal, scal1, Bool.and_true, Bool.false_eq_true, run_draw, runFree_cons, foper_none, fe_load, fstK_some, fputK_to, freeK_some, fe_call, frz_own, hget0, frzK_cells, Nat.mul_one, ints_take, e1, frz_ints, slK_some, e2, e3, frz_rls, hz, quietK_some, quietCall, bor_own, borK_cells, bor_ints, bor_rls, frozenB_eq, Bool.true_or, fe_un, ex_un, un_not, Bool.not_true, fe_mov, foper_guard, fguardK_bool, fe_bin, bin_neq, fe_pick, ex_pick, pickA_bool, g0, f1, Bool.and_false, Bool.or_true, b1, g1, f2, runFree_nil, drawK_some, adopt, adoptVal, oper_guard, guardK_bool, b2, ex_icall, hX, blockK_normal, bin_add, wr64, loopK_normal, a4l0c]
end Go.Abs.Tree
