/- states, set. -/
import Derived.Test.YtijmhicopfphnaaDoorAL5
namespace Go.Abs.Tree
open Go Go.Abs
set_option linter.unusedSimpArgs false
set_option linter.unusedVariables false

theorem Pop.len {E : Nat} {c : Int} {st st' : List Nat} {v : Nat} (h : Pop E c st v st') : st'.length ≤ st.length := by
  rcases h with ⟨_, _, h⟩ | ⟨_, h⟩
  · rw [h]; omega
  · rw [h]; simp

theorem run_sub {z : Bool} {t : List Lf} {n : Aut} {E : Nat} (ht : t.length < 1099511627776) (hx : ∀ e ∈ t, e.x < 256) (hl : n.rl.length < 1099511627776) (hb : RlOk n.rl) (hE : E < 18446744073709551616) {c : Int} {m k : Nat} {T : BT} (h : Sub t c m T k) :
    ∀ G st, Inv n E G st → st.length + k ≤ t.length → ∃ G' st', LN z t k G = LN z t m G' ∧ Inv n E G' st' ∧ st'.length + m ≤ t.length ∧ Pop E c st' (ev E n.rl T) st := by
  induction h with
  | none m => exact fun G st hI hs => ⟨G, st, rfl, hI, hs, .inl ⟨by omega, rfl, rfl⟩⟩
  | @some m k q l r hm hL hR ihl ihr =>
    intro G st hI hs
    obtain ⟨G1, st1, e1, i1, s1, p1⟩ := ihr G st hI hs
    obtain ⟨G2, st2, e2, i2, s2, p2⟩ := ihl G1 st1 i1 s1
    obtain ⟨G', e3, i3⟩ := node_round (z := z) ht hx hl hb hm i2 (by omega) (ev_lt hE hb l) (ev_lt hE hb r) p2 p1
    have a1 := p1.len
    have a2 := p2.len
    exact ⟨G', _, e1.trans (e2.trans e3), i3, by simp; omega, .inr ⟨by omega, rfl⟩⟩

theorem states_eq {z : Bool} {t : List Lf} {n : Aut} (ht : t.length < 1099511627776) (hx : ∀ e ∈ t, e.x < 256) (hl : n.rl.length < 1099511627776) (hb : RlOk n.rl) (hn : n.st.length < 1099511627776) (hq : ∀ q ∈ n.st, 0 ≤ q ∧ q < 64) {T : BT} (hF : Formed t T) :
    L.pcall 49 [n.av, tw z t] = some (.int .u64 (ev (wordM 0 n.st) n.rl T : Nat)) := by
  have hw := word_eq n.z1 n.st hn hq
  have hE := wordM_lt n.st 0 (by omega) hq
  generalize wordM 0 n.st = E at *
  have hI : Inv n E [.cells false false n.cells, .cells false false [.int .u64 (E : Nat)], .cells false false [.sl true 0 []]] [] := ⟨rfl, rfl, _, rfl, .inl ⟨rfl, rfl⟩⟩
  rcases hF with ⟨rfl, rfl⟩ | ⟨h31, hS⟩
  · have h := nodes0 z [] [.cells false false n.cells, .cells false false [.int .u64 (E : Nat)], .cells false false [.sl true 0 []]]
    unfold LN at h
    simp only [Int.natCast_zero, List.length_nil] at h
    rw [a49p, a49, pbodyA_eq]
    simp (maxSteps := 30000000) (disch := first | assumption | omega | (simp only [List.length_cons, List.length_nil, List.length_append, List.length_set, List.length_replicate, List.length_map, List.length_range, List.length_take, List.length_drop, List.all_cons, List.all_nil, AV.isCell, Bool.and_self, Bool.and_true, bs_length, is64_length, w64_length, ints_length, lfs_length, rls_length] <;> omega) | rfl | decide) only [bodyA_eq, List.length_cons, List.length_nil, Nat.zero_add, Nat.reduceAdd, Nat.reduceSub, pads, List.cons_append, List.nil_append, run_seq, run_region, runOps_cons, oper_none, ex_box, AV.cells, opv, List.getD_cons_zero, List.all_cons, AV.isCell, List.all_nil, Bool.and_self, ↓reduceIte, putK_to, List.set_cons_succ, List.set_cons_zero, opsK_some, ex_mov, runOps_nil, regK_some, seqK_normal, run_scope, ex_faddr, List.getD_cons_succ, faddrA_ptr, valK_some, ex_load, rd_ptr, List.getElem?_cons_zero, rdK_cells, List.drop_succ_cons, List.drop_zero, List.take_succ_cons, List.take_zero, loadK_1, ex_call, List.map_cons, List.map_nil, pcallA_eq, frzN, List.mapM_cons, frz_sl, List.mapM_nil, Option.pure_def, Option.bind_eq_bind, Option.bind_some, argK_some, hw, retK_some, scal, scal1, ex_store, wr_ptr, List.getElem?_cons_succ, wrK_cells, splice, List.drop_nil, List.append_nil, storeK_some, putK_no, ex_len, lenA_sl, castLit, ex_mkfunc, run_label, run_block, run_loop, a49l1c, h, blockK_exit, ex_bin, bin_eql, decide_true, run_cond, condK_bool, List.take_nil, run_ret, seqK_ret, bodyK_ret, results_1, res_tmp, retvK_some, pbodyK_some, frz_int]
    rfl
  · obtain ⟨G', st', e1, i1, s1, p1⟩ := run_sub (z := z) ht hx hl hb hE hS _ [] hI (by simp)
    rw [nodes0] at e1
    unfold LN at e1
    rcases p1 with ⟨h, _⟩ | ⟨_, rfl⟩
    · omega
    · have hpos : ¬ t.length = 0 := by
        intro h0
        cases hS with
        | some hm _ _ => omega
      have hpos' : (((t.length : Nat) : Int) = 0) = False := eq_false (by omega)
      obtain ⟨v, d2, dO⟩ := i1.own
      rcases dO with ⟨_, h⟩ | ⟨k, r', k2, rfl, hk⟩
      · simp at h
      · simp only [List.nil_append, List.cons_append, List.length_cons, List.length_nil, Nat.zero_add] at d2 hk
        rw [a49p, a49, pbodyA_eq]
        simp (maxSteps := 30000000) (disch := first | assumption | omega | (simp only [List.length_cons, List.length_nil, List.length_append, List.length_set, List.length_replicate, List.length_map, List.length_range, List.length_take, List.length_drop, List.all_cons, List.all_nil, AV.isCell, Bool.and_self, Bool.and_true, bs_length, is64_length, w64_length, ints_length, lfs_length, rls_length] <;> omega) | rfl | decide) only [bodyA_eq, List.length_cons, List.length_nil, Nat.zero_add, Nat.reduceAdd, Nat.reduceSub, pads, List.cons_append, List.nil_append, run_seq, run_region, runOps_cons, oper_none, ex_box, AV.cells, opv, List.getD_cons_zero, List.all_cons, AV.isCell, List.all_nil, Bool.and_self, ↓reduceIte, putK_to, List.set_cons_succ, List.set_cons_zero, opsK_some, ex_mov, runOps_nil, regK_some, seqK_normal, run_scope, ex_faddr, List.getD_cons_succ, faddrA_ptr, valK_some, ex_load, rd_ptr, List.getElem?_cons_zero, rdK_cells, List.drop_succ_cons, List.drop_zero, List.take_succ_cons, List.take_zero, loadK_1, ex_call, List.map_cons, List.map_nil, pcallA_eq, frzN, List.mapM_cons, frz_sl, List.mapM_nil, Option.pure_def, Option.bind_eq_bind, Option.bind_some, argK_some, hw, retK_some, scal, scal1, ex_store, wr_ptr, List.getElem?_cons_succ, wrK_cells, splice, List.drop_nil, List.append_nil, storeK_some, putK_no, ex_len, lenA_sl, ex_mkfunc, run_label, run_block, run_loop, a49l1c, e1, blockK_exit, ex_bin, bin_eql, hpos', decide_false, run_cond, condK_bool, Bool.false_eq_true, run_skip, d2, List.take_nil, ex_iaddr, iaddrA_own, Int.toNat_zero, Nat.mul_one, Nat.add_zero, hk, w64_take, w64_one, run_ret, bodyK_ret, results_1, res_tmp, retvK_some, pbodyK_some, frz_int]

/-- the bits of a word as a set -/
theorem set_has {w : Nat} (hw : w < 18446744073709551616) : ∃ z l, L.pcall 48 [.int .u64 (w : Nat)] = some (sw z l) ∧ HasSet (sw z l) (fun j => decide (j < 64) && w.testBit j) := by
  have h1 : HasSet (sw false [w]) (fun j => decide (j < 64) && w.testBit j) := by
    refine ⟨false, [w], rfl, ?_, by simp, fun j => ?_⟩
    · intro x hx
      simp only [List.mem_singleton] at hx
      rw [hx]; exact hw
    · unfold mem
      by_cases c : j < 64
      · rw [show j / 64 = 0 by omega, show j % 64 = j by omega]
        simp [c, show j < 4096 by omega]
      · have : ([w] : List Nat).getD (j / 64) 0 = 0 := getD_out (by simp; omega)
        rw [this]; simp [c]
  obtain ⟨z, l, h2, h3⟩ := union_has h1 (empty_has (z := true))
  have h4 : L.pcall 73 [.sl false 1 [.int .u64 (w : Nat)]] = some (sw z l) := by
    have h2' : L.pcall 95 [.sl false 1 [.int .u64 (w : Nat)], .sl true 0 []] = some (sw z l) := h2
    rw [a73p, a73, pbodyA_eq]
    simp (maxSteps := 30000000) (disch := first | assumption | omega | (simp only [List.length_cons, List.length_nil, List.length_append, List.length_set, List.length_replicate, List.length_map, List.length_range, List.length_take, List.length_drop, List.all_cons, List.all_nil, AV.isCell, Bool.and_self, Bool.and_true, bs_length, is64_length, w64_length, ints_length, lfs_length, rls_length] <;> omega) | rfl | decide) only [bodyA_eq, List.length_cons, List.length_nil, Nat.zero_add, Nat.reduceSub, pads, List.cons_append, List.nil_append, run_seq, run_region, runOps_cons, oper_none, ex_mov, opv, putK_to, List.set_cons_succ, List.set_cons_zero, opsK_some, runOps_nil, regK_some, seqK_normal, List.getD_cons_zero, ex_call, List.map_cons, List.getD_cons_succ, List.map_nil, pcallA_eq, frzN, List.mapM_cons, frz_sl, List.mapM_nil, Option.pure_def, Option.bind_eq_bind, Option.bind_some, argK_some, h2', retK_some, scal, scal1, Bool.false_eq_true, ↓reduceIte, fzIds, List.flatMap_cons, bor_sl, List.flatMap_nil, List.append_nil, List.foldl_nil, run_ret, bodyK_ret, results_1, res_tmp, retvK_some, pbodyK_some]
  refine ⟨z, l, ?_, h3.congr (fun j => by simp)⟩
  rw [a48p, a48, pbodyA_eq]
  simp (maxSteps := 30000000) (disch := first | assumption | omega | (simp only [List.length_cons, List.length_nil, List.length_append, List.length_set, List.length_replicate, List.length_map, List.length_range, List.length_take, List.length_drop, List.all_cons, List.all_nil, AV.isCell, Bool.and_self, Bool.and_true, bs_length, is64_length, w64_length, ints_length, lfs_length, rls_length] <;> omega) | rfl | decide) only [bodyA_eq, List.length_cons, List.length_nil, Nat.zero_add, Nat.reduceSub, pads, List.cons_append, List.nil_append, run_seq, run_region, runOps_cons, oper_none, ex_mov, opv, putK_to, List.set_cons_succ, List.set_cons_zero, opsK_some, runOps_nil, regK_some, seqK_normal, List.getD_cons_zero, ex_bslice, AV.cells, List.all_cons, List.getD_cons_succ, beq_self_eq_true, List.all_nil, Bool.and_self, ↓reduceIte, repz_1, List.append_nil, Nat.mul_one, List.map_cons, List.map_nil, fillA, Nat.le_refl, AV.isCell, and_self, splice, List.take_zero, List.drop_succ_cons, List.drop_nil, newK_some, newA_data, frzN, List.flatMap_cons, bor_int, List.flatMap_nil, List.isEmpty_nil, List.mapM_cons, frz_int, List.mapM_nil, Option.pure_def, Option.bind_eq_bind, Option.bind_some, slK_some, valK_some, ex_call, pcallA_eq, frz_sl, argK_some, h4, retK_some, scal, scal1, Bool.false_eq_true, fzIds, bor_sl, List.foldl_nil, run_ret, bodyK_ret, results_1, res_tmp, retvK_some, pbodyK_some]
end Go.Abs.Tree
