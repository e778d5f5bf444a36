/- sub. -/
import Derived.Test.YtdkbhidfiplncaaAD7
namespace Go.Abs.Det
open Go Go.Abs
set_option linter.unusedSimpArgs false
set_option linter.unusedVariables false

theorem bools_data (l : List Bool) : (bools l).all data1 = true := by
  induction l with
  | nil => rfl
  | cons a l ih => simp [bools, data1]

/-- the values stand for data -/
theorem under_fz {d : Dfa} {n m l : Nat} {v2 em : Int} {G : Heap} (h : Under d n m l v2 em G) (hl : l ≠ 0) :
    ∃ i f : Nat, G[2]? = some (Blk.cells false false [.int .i64 v2, .int .i64 em, .own false i 0 l 1, .own false f 0 l 1]) ∧ Fz 3 G 3 (.own false i 0 l 1) (.sl false l (stT d n m l)) ∧ Fz 1 G 3 (.own false f 0 l 1) (.sl false l (bools (fiS d l))) := by
  cases h with
  | zero h0 => exact absurd h0 hl
  | some id f cs h h2 hi hf i3 f3 hne hcl he =>
    refine ⟨_, _, h2, ?_, ?_⟩
    · have hg : Grow 2 G 3 (.own false id 0 l 1) (stT d n m l) := .inr ⟨id, cs, by rw [stT_len], hi, i3, by rw [stT_len]; exact hcl, fun i c t hc ht => ⟨(he i c t hc ht).1, fun q hq => ((he i c t hc ht).2 q hq).1⟩⟩
      have := hg.fz
      rw [stT_len] at this
      have hz : (l == 0) = false := by rw [beq_eq_false_iff_ne]; exact hl
      rw [hz] at this
      rcases this with q | q
      · exact q
      · have := stT_len d n m l; rw [q] at this; exact absurd this.symm hl
    · have := Fz.row (B := 3) (es := 1) (n := l) hf (bools_data _) (by rw [bools_len, fiS_len, Nat.mul_one]) f3
      exact this

def two (v : Int) : Nat := 2 ^ v.toNat
/-- the part with at most 8 states -/
def subT (d : Dfa) : AV :=
  if d.next.length = 0 then .agg [.int .i64 (nrm d.vars 3), .int .i64 0, .sl true 0 [], .sl true 0 []] else
    .agg [.int .i64 (nrm d.vars 3), .int .i64 (nrm d.empty (min 8 d.next.length : Nat)), .sl false (min 8 d.next.length) (stT d (min 8 d.next.length) (two (nrm d.vars 3)) (min 8 d.next.length)), .sl false (min 8 d.next.length) (bools (fiS d (min 8 d.next.length)))]

theorem pbody_of {fn : AFunc} {args : List AV} {r v : AV} {H : Heap} (h : bodyA L fn args [] = some (r, H)) (hf : frz frzN H r = some v) : pbodyA L fn args = some v := by
  unfold pbodyA; rw [h]; exact hf

set_option maxHeartbeats 1000000 in
theorem sub42 (d : Dfa) : L.pcall 42 [d.av, .int .i64 8] = some (subT d) := by
  have b3 := nrm_bd d.vars (n := 3) (by omega)
  have t3 := tmod_bd d.vars (n := 3) (by omega)
  have e8 : min (8 : Int) (d.next.length : Nat) = ((min 8 d.next.length : Nat) : Int) := by omega
  unfold subT
  have hnr : nrm d.vars 3 = (d.vars.tmod 3 + 3).tmod 3 := rfl
  generalize hv2 : nrm d.vars 3 = v2 at *
  generalize hq : d.vars.tmod 3 = q at *
  have hq2 : (q + 3).tmod 3 = v2 := hnr.symm
  by_cases h0 : d.next.length = 0
  · rw [if_pos h0]
    have e80 : min (8 : Int) (d.next.length : Nat) = 0 := by omega
    unfold Dfa.av Dfa.cells
    rw [a42p, a42, pbodyA_eq]
    simp (maxSteps := 30000000) (disch := first | assumption | omega | (simp only [List.length_cons, List.length_nil, List.length_append, List.length_set, List.length_replicate, List.length_map, List.length_range, List.length_take, List.length_drop, List.all_cons, List.all_nil, AV.isCell, Bool.and_self, Bool.and_true, bs_length, is64_length, w64_length, ints_length, ints_length, bools_len] <;> omega) | rfl | decide) only [bodyA_eq, List.length_cons, List.length_nil, Nat.zero_add, Nat.reduceAdd, Nat.reduceSub, pads, List.cons_append, List.nil_append, run_seq, run_region, runOps_cons, oper_none, ex_box, AV.cells, opv, List.getD_cons_zero, List.all_cons, AV.isCell, List.all_nil, Bool.and_self, ↓reduceIte, putK_to, List.set_cons_succ, List.set_cons_zero, opsK_some, runOps_nil, regK_some, seqK_normal, ex_mov, List.getD_cons_succ, ex_faddr, faddrA_ptr, valK_some, ex_load, rd_ptr, List.getElem?_cons_zero, rdK_cells, List.drop_succ_cons, List.drop_zero, List.take_succ_cons, List.take_zero, loadK_1, ex_len, lenA_sl, ex_mini, minA_int, e80, Nat.add_zero, ex_bin, bin_rem, hq, bin_add, wr64, hq2, ex_build, beq_self_eq_true, List.map_cons, List.map_nil, fillA, Nat.reduceLeDiff, and_self, splice, Option.map_some, ex_store, wr_ptr, List.getElem?_cons_succ, wrK_cells, List.drop_nil, List.append_nil, storeK_some, putK_no, bin_eql, decide_true, run_cond, condK_bool, List.take_nil, loadK_n, run_ret, seqK_ret, bodyK_ret, results_1, res_cell, cellK_some, mkv_n, retvK_some, pbodyK_some, frzN, frz_agg, List.mapM_cons, frz_int, frz_sl, List.mapM_nil, Option.pure_def, Option.bind_eq_bind, Option.bind_some]
  · rw [if_neg h0]
    have hn0 : 0 < min 8 d.next.length := by omega
    have hn8 : min 8 d.next.length ≤ 8 := by omega
    have hnl : min 8 d.next.length ≤ d.next.length := by omega
    generalize min 8 d.next.length = n at *
    have te := tmod_bd d.empty (n := (n : Int)) (by omega)
    have hne : nrm d.empty (n : Int) = (d.empty.tmod (n : Int) + (n : Int)).tmod (n : Int) := rfl
    generalize nrm d.empty (n : Int) = em at *
    generalize hqe : d.empty.tmod (n : Int) = qe at *
    have hqe2 : (qe + (n : Int)).tmod (n : Int) = em := hne.symm
    have hm : two v2 ≤ 8 ∧ IntKind.i64.wrap (1 * 2 ^ min v2.toNat IntKind.i64.bits) = (two v2 : Nat) := by
      have : v2 = 0 ∨ v2 = 1 ∨ v2 = 2 := by omega
      rcases this with rfl | rfl | rfl
      · exact ⟨by decide, by decide⟩
      · exact ⟨by decide, by decide⟩
      · exact ⟨by decide, by decide⟩
    obtain ⟨G', e1, e2, e3⟩ := sub_states (d := d) (n := n) (m := two v2) (v2 := v2) (em := em) (x1 := .cells false false [.int .i64 0, .int .i64 0, .sl true 0 [], .sl true 0 []]) hn0 hn8 hm.1 hnl hm.2 (by omega) n 0
      [.cells false false d.cells, .cells false false [.int .i64 0, .int .i64 0, .sl true 0 [], .sl true 0 []], .cells false false [.int .i64 v2, .int .i64 em, .sl true 0 [], .sl true 0 []]] (by omega) rfl rfl (.zero rfl rfl)
    obtain ⟨i1, i2, g2, f1, f2⟩ := under_fz e3 (by omega)
    have hnn : ((n : Nat) : Int) ≠ 0 := by omega
    have hlen : 3 ≤ G'.length := (List.getElem?_eq_some_iff.1 g2).1
    unfold Dfa.av
    unfold Dfa.cells at e1 ⊢
    simp only [Int.natCast_zero] at e1
    have hb : bodyA L a42 [.agg [.int .i64 d.vars, .int .i64 d.empty, .sl d.z d.next.length (d.next.map rwsV), .sl d.zf d.fin.length (bools d.fin)], .int .i64 8] [] =
        some (.agg [.int .i64 v2, .int .i64 em, AV.own false i1 0 n 1, .own false i2 0 n 1], G'.set 1 (.cells false false [.int .i64 v2, .int .i64 em, AV.own false i1 0 n 1, .own false i2 0 n 1])) := by
      have s1 : ∀ X : Blk, (G'.set 1 X)[1]? = some X := fun X => List.getElem?_set_self (by omega)
      rw [a42]
      simp (maxSteps := 30000000) (disch := first | assumption | omega | (simp only [List.length_cons, List.length_nil, List.length_append, List.length_set, List.length_replicate, List.length_map, List.length_range, List.length_take, List.length_drop, List.all_cons, List.all_nil, AV.isCell, Bool.and_self, Bool.and_true, bs_length, is64_length, w64_length, ints_length, ints_length, bools_len] <;> omega) | rfl | decide) only [bodyA_eq, List.length_cons, List.length_nil, Nat.zero_add, Nat.reduceAdd, Nat.reduceSub, pads, List.cons_append, List.nil_append, run_seq, run_region, runOps_cons, oper_none, ex_box, AV.cells, opv, List.getD_cons_zero, List.all_cons, AV.isCell, List.all_nil, Bool.and_self, ↓reduceIte, putK_to, List.set_cons_succ, List.set_cons_zero, opsK_some, runOps_nil, regK_some, seqK_normal, ex_mov, List.getD_cons_succ, ex_faddr, faddrA_ptr, valK_some, ex_load, rd_ptr, List.getElem?_cons_zero, rdK_cells, List.drop_succ_cons, List.drop_zero, List.take_succ_cons, List.take_zero, loadK_1, ex_len, lenA_sl, ex_mini, minA_int, e8, Nat.add_zero, ex_bin, bin_rem, hq, bin_add, wr64, hq2, ex_build, beq_self_eq_true, List.map_cons, List.map_nil, fillA, Nat.reduceLeDiff, and_self, splice, Option.map_some, ex_store, wr_ptr, List.getElem?_cons_succ, wrK_cells, List.drop_nil, List.append_nil, storeK_some, putK_no, bin_eql, hnn, decide_false, run_cond, condK_bool, Bool.false_eq_true, run_skip, hqe, hqe2, run_block, run_loop, a42l2c, e1, blockK_exit, g2, List.take_nil, loadK_n, e2, run_ret, bodyK_ret, results_1, res_cell, s1, cellK_some, mkv_n, retvK_some]
    rw [a42p]
    refine pbody_of hb ?_
    have z1 := f1.frame (G' := G'.set 1 (.cells false false [.int .i64 v2, .int .i64 em, AV.own false i1 0 n 1, .own false i2 0 n 1])) (by simp) (fun q hq b hb => by
      have := (f1 q hq).2 b hb
      rw [List.getElem?_set_ne (by omega)])
    have z2 := f2.frame (G' := G'.set 1 (.cells false false [.int .i64 v2, .int .i64 em, AV.own false i1 0 n 1, .own false i2 0 n 1])) (by simp) (fun q hq b hb => by
      have := (f2 q hq).2 b hb
      rw [List.getElem?_set_ne (by omega)])
    show ((([AV.int .i64 v2, .int .i64 em, AV.own false i1 0 n 1, .own false i2 0 n 1]).mapM (frz 5 _)).map AV.agg) = _
    simp only [List.mapM_cons, List.mapM_nil, frz_int, (z1 5 (by omega)).1, (z2 5 (by omega)).1, Option.pure_def, Option.bind_eq_bind, Option.bind_some, Option.map_some]
end Go.Abs.Det
