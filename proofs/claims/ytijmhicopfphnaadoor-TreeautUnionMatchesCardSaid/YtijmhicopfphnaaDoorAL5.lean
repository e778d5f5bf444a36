/- states: the nodes' loop. -/
import Derived.Test.YtijmhicopfphnaaDoorAL4
namespace Go.Abs.Tree
open Go Go.Abs
set_option linter.unusedSimpArgs false
set_option linter.unusedVariables false

/-- the states of a tree -/
def ev (E : Nat) (rl : List Rl) : BT → Nat
  | .nil => E
  | .node x l r => toM (ev E rl l) (ev E rl r) x 0 rl
theorem ev_lt {E : Nat} {rl : List Rl} (hE : E < 18446744073709551616) (hb : RlOk rl) : ∀ T, ev E rl T < 18446744073709551616
  | .nil => hE
  | .node x l r => toM_lt _ _ _ _ _ (by omega) hb

def Pop (E : Nat) (c : Int) (st : List Nat) (v : Nat) (st' : List Nat) : Prop := c < 0 ∧ v = E ∧ st = st' ∨ ¬ c < 0 ∧ st = st' ++ [v]

structure Inv (n : Aut) (E : Nat) (G : Heap) (st : List Nat) : Prop where
  g0 : G[0]? = some (.cells false false n.cells)
  g1 : G[1]? = some (.cells false false [.int .u64 (E : Nat)])
  own : ∃ v, G[2]? = some (.cells false false [v]) ∧ OwnG G v st
theorem Inv.app {n : Aut} {E : Nat} {G : Heap} {st : List Nat} (h : Inv n E G st) (X : Heap) : Inv n E (G ++ X) st := by
  obtain ⟨v, h2, h3⟩ := h.own
  exact ⟨app_get h.g0, app_get h.g1, v, app_get h2, h3.app X⟩

theorem pop_any {n : Aut} {E : Nat} {G : Heap} {st st' : List Nat} {v : Nat} {c : Int} (hI : Inv n E G st) (hp : Pop E c st v st') (hl : st.length < 1099511627776) :
    ∃ G', L.icall (.func 82 [.ptr 1 0, .ptr 2 0]) [.int .i64 c] G = some (.int .u64 (v : Nat), G') ∧ Inv n E G' st' ∧ ∀ b, 2 < b → G'[b]? = G[b]? := by
  rcases hp with ⟨hc, rfl, rfl⟩ | ⟨hc, rfl⟩
  · exact ⟨G, pop_none hc hI.g1, hI, fun _ _ => rfl⟩
  · obtain ⟨w, h2, hO⟩ := hI.own
    obtain ⟨w', h3, h4⟩ := pop_some hc h2 hO (by simp at hl; omega)
    refine ⟨_, h3, ⟨?_, ?_, w', ?_, h4⟩, fun b hb => ?_⟩
    · rw [List.getElem?_set_ne (by omega)]; exact hI.g0
    · rw [List.getElem?_set_ne (by omega)]; exact hI.g1
    · rw [List.getElem?_set_self (List.getElem?_eq_some_iff.1 h2).1]
    · rw [List.getElem?_set_ne (by omega)]

noncomputable abbrev LN (z : Bool) (t : List Lf) (i : Nat) (G : Heap) := L.loop a49l1s a49l1 ⟨a49l1F (tw z t) (.ptr 0 0) (.ptr 1 0) (.ptr 2 0) (.int .i64 (i : Nat)) (.func 82 [.ptr 1 0, .ptr 2 0]), G⟩

theorem nodes0 (z : Bool) (t : List Lf) (G : Heap) : LN z t 0 G = some (.exit 0, ⟨a49l1F (tw z t) (.ptr 0 0) (.ptr 1 0) (.ptr 2 0) (.int .i64 0) (.func 82 [.ptr 1 0, .ptr 2 0]), G⟩) := by
  unfold LN
  rw [a49l1n]
  simp (maxSteps := 30000000) (disch := first | assumption | omega | (simp only [List.length_cons, List.length_nil, List.length_append, List.length_set, List.length_replicate, List.length_map, List.length_range, List.length_take, List.length_drop, List.all_cons, List.all_nil, AV.isCell, Bool.and_self, Bool.and_true, bs_length, is64_length, w64_length, ints_length, lfs_length, rls_length] <;> omega) | rfl | decide) only [a49l1b, castLit, run_seq, run_region, runOps_cons, oper_none, ex_mov, opv, List.getD_cons_succ, List.getD_cons_zero, putK_to, List.set_cons_succ, List.set_cons_zero, opsK_some, ex_bin, bin_gtr, Int.lt_irrefl, decide_false, valK_some, runOps_nil, regK_some, seqK_normal, run_cond, condK_bool, Bool.false_eq_true, ↓reduceIte, run_exit, seqK_exit, loopK_exit, a49l1c]

set_option maxHeartbeats 4000000 in
theorem node_round {z : Bool} {t : List Lf} {n : Aut} {E : Nat} (ht : t.length < 1099511627776) (hx : ∀ e ∈ t, e.x < 256) (hl : n.rl.length < 1099511627776) (hb : RlOk n.rl) {i : Nat} (hi : i < t.length) {G : Heap} {st st1 st2 : List Nat} {l r : Nat} (hI : Inv n E G st)
    (hs : st.length + i < t.length) (hL : l < 18446744073709551616) (hR : r < 18446744073709551616) (p1 : Pop E (t.getD i f0).l st l st1) (p2 : Pop E (t.getD i f0).r st1 r st2) :
    ∃ G', LN z t (i + 1) G = LN z t i G' ∧ Inv n E G' (st2 ++ [toM l r (t.getD i f0).x 0 n.rl]) := by
  have hm := hx _ (getF_mem hi)
  have l1 : st1.length ≤ st.length := by
    rcases p1 with ⟨_, _, h⟩ | ⟨_, h⟩
    · rw [h]; omega
    · rw [h]; simp
  have l2 : st2.length ≤ st1.length := by
    rcases p2 with ⟨_, _, h⟩ | ⟨_, h⟩
    · rw [h]; omega
    · rw [h]; simp
  obtain ⟨Ga, a1, a2, a3⟩ := pop_any (hI.app [.cells false false (encF (t.getD i f0))]) p1 (by omega)
  obtain ⟨Gb, b1, b2, b3⟩ := pop_any a2 p2 (by omega)
  have lenG : 2 < G.length := by
    obtain ⟨v, h, _⟩ := hI.own
    exact (List.getElem?_eq_some_iff.1 h).1
  have lf0 : (G ++ [.cells false false (encF (t.getD i f0))])[G.length]? = some (Blk.cells false false (encF (t.getD i f0))) := by simp
  have lfa : Ga[G.length]? = some (Blk.cells false false (encF (t.getD i f0))) := by rw [a3 _ lenG]; exact lf0
  have lfb : Gb[G.length]? = some (Blk.cells false false (encF (t.getD i f0))) := by rw [b3 _ lenG]; exact lfa
  obtain ⟨X, hloop⟩ := to_loop (s1 := tw z t) (s2 := .ptr 0 0) (s5 := .ptr 1 0) (s6 := .ptr 2 0) (s7 := .int .i64 (i : Nat)) (s8 := .func 82 [.ptr 1 0, .ptr 2 0]) (z := n.z3) hl hb hL hR hm n.rl.length 0 0 Gb (by omega) (by omega) lfb
  have hd := b2.app X
  have hg0 := b2.g0
  simp only [Int.natCast_zero, List.drop_zero] at hloop
  generalize Gb ++ X = Gd at *
  generalize hv : toM l r (t.getD i f0).x 0 n.rl = to at *
  obtain ⟨v, d2, dO⟩ := hd.own
  have len2 := (List.getElem?_eq_some_iff.1 d2).1
  -- after the append
  have fin : ∃ G', (∀ H0, H0 = Gd → True) ∧ Inv n E G' (st2 ++ [to]) ∧ ((v = .sl true 0 [] ∧ G' = (Gd ++ [Blk.cells false false [.int .u64 (to : Nat)]]).set 2 (.cells false false [.own false Gd.length 0 1 1])) ∨
      ∃ k r', 2 < k ∧ v = .own false k 0 st2.length 1 ∧ Gd[k]? = some (.cells false false (w64 (st2 ++ r'))) ∧ G' = (Gd.set k Blk.dead ++ [Blk.cells false false (w64 (st2 ++ [to]))]).set 2 (.cells false false [.own false Gd.length 0 (st2.length + 1) 1])) := by
    rcases dO with ⟨rfl, rfl⟩ | ⟨k, r', k2, rfl, hk⟩
    · refine ⟨_, fun _ _ => trivial, ⟨?_, ?_, .own false Gd.length 0 1 1, ?_, .inr ⟨Gd.length, [], len2, rfl, ?_⟩⟩, .inl ⟨rfl, rfl⟩⟩
      · rw [List.getElem?_set_ne (by omega)]; exact app_get hd.g0
      · rw [List.getElem?_set_ne (by omega)]; exact app_get hd.g1
      · rw [List.getElem?_set_self (by simp; omega)]
      · rw [List.getElem?_set_ne (by omega)]; simp [w64]
    · refine ⟨_, fun _ _ => trivial, ⟨?_, ?_, .own false Gd.length 0 (st2.length + 1) 1, ?_, .inr ⟨Gd.length, [], len2, by simp, ?_⟩⟩, .inr ⟨k, r', k2, rfl, hk, rfl⟩⟩
      · rw [List.getElem?_set_ne (by omega)]; exact app_get (by rw [List.getElem?_set_ne (by omega)]; exact hd.g0)
      · rw [List.getElem?_set_ne (by omega)]; exact app_get (by rw [List.getElem?_set_ne (by omega)]; exact hd.g1)
      · rw [List.getElem?_set_self (by simp; omega)]
      · rw [List.getElem?_set_ne (by omega)]; simp
  obtain ⟨G', -, hI', hcase⟩ := fin
  refine ⟨G', ?_, hI'⟩
  have hlt : (0 : Int) < ((i + 1 : Nat) : Int) := by omega
  have hi1 : ((i + 1 : Nat) : Int) - 1 = (i : Nat) := by omega
  have hn0 : i = 0 → LN z t i G' = some (.exit 0, ⟨a49l1F (tw z t) (.ptr 0 0) (.ptr 1 0) (.ptr 2 0) (.int .i64 (i : Nat)) (.func 82 [.ptr 1 0, .ptr 2 0]), G'⟩) := by
    rintro rfl
    exact nodes0 z t G'
  simp only [encF] at a1 lf0 lfa lfb
  unfold LN
  rw [a49l1n]
  rcases hcase with ⟨rfl, e⟩ | ⟨k, r', k2, rfl, hk, e⟩
  · have d3 := app_get (X := [Blk.cells false false [.int .u64 (to : Nat)]]) d2
    by_cases c : i = 0
    · have c' : (((i : Nat) : Int) = 0) = True := eq_true (by omega)
      have hn0 := hn0 c
      unfold LN at hn0
      rw [e] at hn0 ⊢
      simp (maxSteps := 30000000) (disch := first | assumption | omega | (simp only [List.length_cons, List.length_nil, List.length_append, List.length_set, List.length_replicate, List.length_map, List.length_range, List.length_take, List.length_drop, List.all_cons, List.all_nil, AV.isCell, Bool.and_self, Bool.and_true, bs_length, is64_length, w64_length, ints_length, lfs_length, rls_length] <;> omega) | rfl | decide) only [a49l1b, run_seq, run_region, runOps_cons, oper_none, ex_mov, opv, List.getD_cons_succ, List.getD_cons_zero, putK_to, List.set_cons_succ, List.set_cons_zero, opsK_some, ex_bin, bin_gtr, hlt, decide_true, valK_some, runOps_nil, regK_some, seqK_normal, run_cond, condK_bool, ↓reduceIte, run_skip, run_block, bin_sub, hi1, wr64, ex_iaddr, iaddrA_sl, Int.toNat_natCast, ex_load, rd_vptr, lfs_at, loadK_n, ex_box, AV.cells, List.all_cons, AV.isCell, List.all_nil, Bool.and_self, ex_store, List.length_cons, List.length_nil, Nat.zero_add, Nat.reduceAdd, wr_ptr, hget0, List.getElem?_cons_zero, wrK_cells, splice, List.take_zero, List.nil_append, List.drop_succ_cons, List.drop_nil, List.append_nil, hset0, storeK_some, putK_no, ex_faddr, faddrA_ptr, rd_ptr, lf0, rdK_cells, List.drop_zero, List.take_succ_cons, loadK_1, ex_icall, List.map_cons, List.map_nil, a1, lfa, List.take_nil, b1, hg0, ex_len, lenA_sl, run_loop, a49l0c, hloop, blockK_exit, d2, ex_bslice, beq_self_eq_true, repz_1, Nat.mul_one, fillA, Nat.le_refl, and_self, newK_some, newA_data, frzN, List.flatMap_cons, bor_int, List.flatMap_nil, List.isEmpty_nil, List.mapM_cons, frz_int, List.mapM_nil, Option.pure_def, Option.bind_eq_bind, Option.bind_some, slK_some, ex_append, src_sl, appK_nil, Nat.reduceBEq, newA_own, d3, bin_eql, c', run_exit, Nat.reduceEqDiff, loopK_exit, a49l1c, hn0]
    · have c' : (((i : Nat) : Int) = 0) = False := eq_false (by omega)
      rw [e]
      simp (maxSteps := 30000000) (disch := first | assumption | omega | (simp only [List.length_cons, List.length_nil, List.length_append, List.length_set, List.length_replicate, List.length_map, List.length_range, List.length_take, List.length_drop, List.all_cons, List.all_nil, AV.isCell, Bool.and_self, Bool.and_true, bs_length, is64_length, w64_length, ints_length, lfs_length, rls_length] <;> omega) | rfl | decide) only [a49l1b, run_seq, run_region, runOps_cons, oper_none, ex_mov, opv, List.getD_cons_succ, List.getD_cons_zero, putK_to, List.set_cons_succ, List.set_cons_zero, opsK_some, ex_bin, bin_gtr, hlt, decide_true, valK_some, runOps_nil, regK_some, seqK_normal, run_cond, condK_bool, ↓reduceIte, run_skip, run_block, bin_sub, hi1, wr64, ex_iaddr, iaddrA_sl, Int.toNat_natCast, ex_load, rd_vptr, lfs_at, loadK_n, ex_box, AV.cells, List.all_cons, AV.isCell, List.all_nil, Bool.and_self, ex_store, List.length_cons, List.length_nil, Nat.zero_add, Nat.reduceAdd, wr_ptr, hget0, List.getElem?_cons_zero, wrK_cells, splice, List.take_zero, List.nil_append, List.drop_succ_cons, List.drop_nil, List.append_nil, hset0, storeK_some, putK_no, ex_faddr, faddrA_ptr, rd_ptr, lf0, rdK_cells, List.drop_zero, List.take_succ_cons, loadK_1, ex_icall, List.map_cons, List.map_nil, a1, lfa, List.take_nil, b1, hg0, ex_len, lenA_sl, run_loop, a49l0c, hloop, blockK_exit, d2, ex_bslice, beq_self_eq_true, repz_1, Nat.mul_one, fillA, Nat.le_refl, and_self, newK_some, newA_data, frzN, List.flatMap_cons, bor_int, List.flatMap_nil, List.isEmpty_nil, List.mapM_cons, frz_int, List.mapM_nil, Option.pure_def, Option.bind_eq_bind, Option.bind_some, slK_some, ex_append, src_sl, appK_nil, Nat.reduceBEq, newA_own, d3, bin_eql, c', decide_false, Bool.false_eq_true, blockK_normal, loopK_normal, a49l1c]
  · have htk : List.take st2.length (st2 ++ r') = st2 := by simp
    have hsn : w64 st2 ++ [AV.int .u64 (to : Nat)] = w64 (st2 ++ [to]) := w64_snoc ..
    have d3 := app_get (X := [Blk.cells false false (w64 (st2 ++ [to]))]) (show (Gd.set k Blk.dead)[2]? = _ from by rw [List.getElem?_set_ne (by omega)]; exact d2)
    by_cases c : i = 0
    · have c' : (((i : Nat) : Int) = 0) = True := eq_true (by omega)
      have hn0 := hn0 c
      unfold LN at hn0
      rw [e] at hn0 ⊢
      simp (maxSteps := 30000000) (disch := first | assumption | omega | (simp only [List.length_cons, List.length_nil, List.length_append, List.length_set, List.length_replicate, List.length_map, List.length_range, List.length_take, List.length_drop, List.all_cons, List.all_nil, AV.isCell, Bool.and_self, Bool.and_true, bs_length, is64_length, w64_length, ints_length, lfs_length, rls_length] <;> omega) | rfl | decide) only [a49l1b, run_seq, run_region, runOps_cons, oper_none, ex_mov, opv, List.getD_cons_succ, List.getD_cons_zero, putK_to, List.set_cons_succ, List.set_cons_zero, opsK_some, ex_bin, bin_gtr, hlt, decide_true, valK_some, runOps_nil, regK_some, seqK_normal, run_cond, condK_bool, ↓reduceIte, run_skip, run_block, bin_sub, hi1, wr64, ex_iaddr, iaddrA_sl, Int.toNat_natCast, ex_load, rd_vptr, lfs_at, loadK_n, ex_box, AV.cells, List.all_cons, AV.isCell, List.all_nil, Bool.and_self, ex_store, List.length_cons, List.length_nil, Nat.zero_add, Nat.reduceAdd, wr_ptr, hget0, List.getElem?_cons_zero, wrK_cells, splice, List.take_zero, List.nil_append, List.drop_succ_cons, List.drop_nil, List.append_nil, hset0, storeK_some, putK_no, ex_faddr, faddrA_ptr, rd_ptr, lf0, rdK_cells, List.drop_zero, List.take_succ_cons, loadK_1, ex_icall, List.map_cons, List.map_nil, a1, lfa, List.take_nil, b1, hg0, ex_len, lenA_sl, run_loop, a49l0c, hloop, blockK_exit, d2, ex_bslice, beq_self_eq_true, repz_1, Nat.mul_one, fillA, Nat.le_refl, and_self, newK_some, newA_data, frzN, List.flatMap_cons, bor_int, List.flatMap_nil, List.isEmpty_nil, List.mapM_cons, frz_int, List.mapM_nil, Option.pure_def, Option.bind_eq_bind, Option.bind_some, slK_some, ex_append, src_sl, appK_own, hk, appOK_cells, Nat.reduceBEq, w64_take, htk, hsn, d3, bin_eql, c', run_exit, Nat.reduceEqDiff, loopK_exit, a49l1c, hn0]
    · have c' : (((i : Nat) : Int) = 0) = False := eq_false (by omega)
      rw [e]
      simp (maxSteps := 30000000) (disch := first | assumption | omega | (simp only [List.length_cons, List.length_nil, List.length_append, List.length_set, List.length_replicate, List.length_map, List.length_range, List.length_take, List.length_drop, List.all_cons, List.all_nil, AV.isCell, Bool.and_self, Bool.and_true, bs_length, is64_length, w64_length, ints_length, lfs_length, rls_length] <;> omega) | rfl | decide) only [a49l1b, run_seq, run_region, runOps_cons, oper_none, ex_mov, opv, List.getD_cons_succ, List.getD_cons_zero, putK_to, List.set_cons_succ, List.set_cons_zero, opsK_some, ex_bin, bin_gtr, hlt, decide_true, valK_some, runOps_nil, regK_some, seqK_normal, run_cond, condK_bool, ↓reduceIte, run_skip, run_block, bin_sub, hi1, wr64, ex_iaddr, iaddrA_sl, Int.toNat_natCast, ex_load, rd_vptr, lfs_at, loadK_n, ex_box, AV.cells, List.all_cons, AV.isCell, List.all_nil, Bool.and_self, ex_store, List.length_cons, List.length_nil, Nat.zero_add, Nat.reduceAdd, wr_ptr, hget0, List.getElem?_cons_zero, wrK_cells, splice, List.take_zero, List.nil_append, List.drop_succ_cons, List.drop_nil, List.append_nil, hset0, storeK_some, putK_no, ex_faddr, faddrA_ptr, rd_ptr, lf0, rdK_cells, List.drop_zero, List.take_succ_cons, loadK_1, ex_icall, List.map_cons, List.map_nil, a1, lfa, List.take_nil, b1, hg0, ex_len, lenA_sl, run_loop, a49l0c, hloop, blockK_exit, d2, ex_bslice, beq_self_eq_true, repz_1, Nat.mul_one, fillA, Nat.le_refl, and_self, newK_some, newA_data, frzN, List.flatMap_cons, bor_int, List.flatMap_nil, List.isEmpty_nil, List.mapM_cons, frz_int, List.mapM_nil, Option.pure_def, Option.bind_eq_bind, Option.bind_some, slK_some, ex_append, src_sl, appK_own, hk, appOK_cells, Nat.reduceBEq, w64_take, htk, hsn, d3, bin_eql, c', decide_false, Bool.false_eq_true, blockK_normal, loopK_normal, a49l1c]
end Go.Abs.Tree
