/- The law TreeautUnionMatches, on the interpreter's values and on what fits. -/
import Derived.Test.YtijmhicopfphnaaDoorAR10
import Derived.Test.YtijmhicopfphnaaDoorAK1
import Derived.Test.YtijmhicopfphnaaDoorALF
namespace Go.Abs.Tree
open Go Go.Abs
set_option linter.unusedSimpArgs false
set_option linter.unusedVariables false

theorem round_any {n k : Aut} (hb : ∀ e ∈ n.rl, e.p < 256 ∧ e.n < 256) (hbk : ∀ e ∈ k.rl, e.p < 256 ∧ e.n < 256) {H : Heap} {i : Int} (hi : i < 2) (hi0 : 0 ≤ i) (h : Four n k (cpA (fwA n)) (cpA (fwA k)) H) :
    ∃ H', Four n k (cpA (fwA n)) (cpA (fwA k)) H' ∧ RL i H = RL (i + 1) H' := by
  have f1 := few12 n
  have f2 := few12 k
  have hI : TyA (cpA (fwA n)) := ⟨by simp; omega, by simp; omega, by simp; omega, fun e he => hb e (List.mem_of_mem_take he)⟩
  have hJ : TyA (cpA (fwA k)) := ⟨by simp; omega, by simp; omega, by simp; omega, fun e he => hbk e (List.mem_of_mem_take he)⟩
  have r1 : (cpA (fwA n)).st.length ≤ 70 ∧ (cpA (fwA n)).fi.length ≤ 70 ∧ (cpA (fwA n)).rl.length ≤ 520 := ⟨by simp; omega, by simp; omega, by simp; omega⟩
  have r2 : (cpA (fwA k)).st.length ≤ 70 ∧ (cpA (fwA k)).fi.length ≤ 70 ∧ (cpA (fwA k)).rl.length ≤ 520 := ⟨by simp; omega, by simp; omega, by simp; omega⟩
  generalize cpA (fwA n) = x at *
  generalize cpA (fwA k) = y at *
  have b1 := aut_same x hI.st hI.fi hI.rl x.z1 x.z2 x.z3
  have b2 := aut_same y hJ.st hJ.fi hJ.rl y.z1 y.z2 y.z3
  by_cases hE : uniE x y = 0
  · obtain ⟨z1, z2, z3, u2⟩ := runion_ok x y hI hJ hE
    exact round_ok hi hi0 h f1 f2 b1 b2 (by rw [List.length_append, List.length_map]; omega) (by rw [List.length_append, List.length_map]; omega) (by rw [List.length_append, List.length_map]; omega) (union_own x y hI hJ hE) u2
  · have u2 := runion_err x y hI hJ hE
    refine round_bad hi hi0 h f1 f2 b1 b2 ?_ u2
    by_cases k1 : chkE x = 0
    · by_cases k2 : chkE y = 0
      · exact union_bado x y hI hJ k1 k2 hE
      · exact union_erro x y hI hJ (.inr k2)
    · exact union_erro x y hI hJ (.inl k1)

theorem round_end (H : Heap) : RL 2 H = some (.exit 0, ⟨a4l0F (.ptr 0 0) (.ptr 1 0) (.bool false) (.ptr 2 0) (.ptr 3 0) (.int .i64 2), H⟩) := by
  unfold RL
  rw [a4l0n]
  simp (maxSteps := 30000000) (disch := first | assumption | omega | (simp only [List.length_cons, List.length_nil, List.length_append, List.length_set, List.length_replicate, List.length_map, List.length_range, List.length_take, List.length_drop, List.all_cons, List.all_nil, AV.isCell, Bool.and_self, Bool.and_true, bs_length, is64_length, w64_length, ints_length, lfs_length, rls_length] <;> omega) | rfl | decide) only [a4l0b, run_seq, run_region, runOps_cons, oper_none, ex_mov, opv, List.getD_cons_succ, List.getD_cons_zero, putK_to, List.set_cons_succ, List.set_cons_zero, opsK_some, ex_bin, bin_lss, Int.lt_irrefl, decide_false, valK_some, runOps_nil, regK_some, seqK_normal, run_cond, condK_bool, Bool.false_eq_true, ↓reduceIte, run_exit, seqK_exit, loopK_exit, a4l0c]

set_option maxRecDepth 20000 in
set_option maxHeartbeats 4000000 in
theorem law4 (n k : Aut) (hb : ∀ e ∈ n.rl, e.p < 256 ∧ e.n < 256) (hbk : ∀ e ∈ k.rl, e.p < 256 ∧ e.n < 256) : L.pcall 4 [n.av, k.av] = some (.bool true) := by
  have f1 := few12 n
  have f2 := few12 k
  obtain ⟨H1, h1, e1⟩ := round_any (H := [.cells false false n.cells, .cells false false k.cells, .cells false false (cpA (fwA n)).cells, .cells false false (cpA (fwA k)).cells]) hb hbk (i := 0) (by omega) (by omega) ⟨rfl, rfl, rfl, rfl⟩
  obtain ⟨H2, h2, e2⟩ := round_any hb hbk (i := 1) (by omega) (by omega) h1
  have hL := e1.trans (e2.trans (round_end H2))
  have hkk := k16
  generalize cpA (fwA n) = x at *
  generalize cpA (fwA k) = y at *
  unfold RL at hL
  clear e1 e2 h1 h2
  dsimp only [Aut.av, Aut.cells, iw] at f1 f2 hL ⊢
  rw [a4p, a4, pbodyA_eq]
  simp (maxSteps := 30000000) (disch := first | assumption | omega | (simp only [List.length_cons, List.length_nil, List.length_append, List.length_set, List.length_replicate, List.length_map, List.length_range, List.length_take, List.length_drop, List.all_cons, List.all_nil, AV.isCell, Bool.and_self, Bool.and_true, bs_length, is64_length, w64_length, ints_length, lfs_length, rls_length] <;> omega) | rfl | decide) only [bodyA_eq, List.length_cons, List.length_nil, Nat.zero_add, Nat.reduceAdd, Nat.reduceSub, pads, List.cons_append, List.nil_append, run_seq, run_region, runOps_cons, oper_none, ex_box, AV.cells, opv, List.getD_cons_zero, List.all_cons, AV.isCell, List.all_nil, Bool.and_self, ↓reduceIte, putK_to, List.set_cons_succ, List.set_cons_zero, opsK_some, List.getD_cons_succ, ex_mov, runOps_nil, regK_some, seqK_normal, run_draw, List.take_succ_cons, List.take_zero, runFree_cons, foper_none, fe_load, ex_load, rd_ptr, List.getElem?_cons_zero, rdK_cells, List.drop_zero, List.take_nil, loadK_n, valK_some, fstK_some, fputK_to, freeK_some, fe_call, List.map_cons, List.map_nil, pcallA_eq, frzN, List.mapM_cons, frz_agg, frz_int, frz_sl, List.mapM_nil, Option.pure_def, Option.bind_eq_bind, Option.bind_some, Option.map_some, argK_some, f1, retK_some, scal, scal1, Bool.and_true, Bool.and_false, Bool.false_eq_true, fzIds, List.flatMap_cons, bor_agg, bor_int, bor_sl, List.flatMap_nil, List.append_nil, List.foldl_nil, quietK_some, quietCall, Bool.or_true, List.getElem?_cons_succ, f2, fe_box, runFree_nil, drawK_some, List.drop_succ_cons, adopt, adoptVal, putA_to, ex_store, wr_ptr, wrK_cells, splice, List.drop_nil, storeK_some, putK_no, run_block, run_loop, a4l0c, hL, blockK_exit, ex_call, hkk, run_ret, bodyK_ret, results_1, res_tmp, retvK_some, pbodyK_some, frz_bool]

theorem law4t (avs : List AV) (h : FitTs [TAut, TAut] avs) : L.pcall 4 avs = some (.bool true) := by
  obtain ⟨_, r, rfl, h0, h⟩ := fitTs_cons h
  obtain ⟨_, r, rfl, h1, h⟩ := fitTs_cons h
  obtain rfl := fitTs_nil h
  obtain ⟨n, rfl, hb⟩ := fit_aut h0
  obtain ⟨k, rfl, hk⟩ := fit_aut h1
  exact law4 n k hb hk
end Go.Abs.Tree
