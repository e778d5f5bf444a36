/- Sizes, what comes in, the reversed automaton: the part of N8 that NfaReaches wants. -/
import Derived.Test.YtbfnjdhafgnlnaaDoorAN7
import Derived.Test.YtbfnjdhafgnlnaaDoorAwake
import Derived.Test.YtbfnjdhafgnlnaaDoorAbsIn
namespace Go.Abs.NfaD
open Go Go.Abs
set_option linter.unusedSimpArgs false
set_option linter.unusedVariables false

/-! sizes -/
theorem long1 (n : Aut) : L.pcall 6 [.sl false 1 n.cells] = some (.bool (decide (100 < n.st.length) || decide (100 < n.fi.length) || decide (520 < n.ed.length))) := by
  have e1 : ((100 : Int) < (n.st.length : Nat)) = (100 < n.st.length) := propext ⟨fun h => by omega, fun h => by omega⟩
  have e2 : ((100 : Int) < (n.fi.length : Nat)) = (100 < n.fi.length) := propext ⟨fun h => by omega, fun h => by omega⟩
  have e3 : ((520 : Int) < (n.ed.length : Nat)) = (520 < n.ed.length) := propext ⟨fun h => by omega, fun h => by omega⟩
  rw [a6p, a6, pbodyA_eq]
  by_cases c1 : 100 < n.st.length
  · simp (maxSteps := 30000000) (disch := first | assumption | omega | (simp only [List.length_cons, List.length_nil, List.length_append, List.length_set, List.length_replicate, List.length_map, List.length_range, List.length_take, List.length_drop, List.all_cons, List.all_nil, AV.isCell, Bool.and_self, Bool.and_true, bs_length, is64_length, w64_length, ints_length, edges_length] <;> omega) | rfl | decide) only [bodyA_eq, List.length_cons, List.length_nil, Nat.zero_add, Nat.reduceSub, pads, List.cons_append, List.nil_append, run_seq, run_region, runOps_cons, oper_none, ex_mov, opv, putK_to, List.set_cons_succ, List.set_cons_zero, opsK_some, runOps_nil, regK_some, seqK_normal, run_block, run_loop, a6l0c, a6l0n, a6l0b, List.getD_cons_succ, List.getD_cons_zero, ex_len, lenA_sl, castLit, valK_some, ex_bin, bin_lss, Int.reduceLT, decide_true, run_cond, condK_bool, run_skip, run_exit, if_true, ex_iaddr, iaddrA_sl, Int.toNat_zero, Nat.reduceMul, ex_faddr, faddrA_vptr, ex_load, rd_vptr, List.drop_succ_cons, List.drop_zero, List.take_succ_cons, List.take_zero, loadK_1, bin_gtr, e1, c1, oper_guard, guardK_bool, Bool.true_eq_false, putA_to, if_false, ex_pick, pickA_bool, run_ret, blockK_ret, seqK_ret, loopK_ret, bodyK_ret, results_1, res_tmp, retvK_some, pbodyK_some, frzN, frz_bool, Bool.true_or]
  · by_cases c2 : 100 < n.fi.length
    · simp (maxSteps := 30000000) (disch := first | assumption | omega | (simp only [List.length_cons, List.length_nil, List.length_append, List.length_set, List.length_replicate, List.length_map, List.length_range, List.length_take, List.length_drop, List.all_cons, List.all_nil, AV.isCell, Bool.and_self, Bool.and_true, bs_length, is64_length, w64_length, ints_length, edges_length] <;> omega) | rfl | decide) only [bodyA_eq, List.length_cons, List.length_nil, Nat.zero_add, Nat.reduceSub, pads, List.cons_append, List.nil_append, run_seq, run_region, runOps_cons, oper_none, ex_mov, opv, putK_to, List.set_cons_succ, List.set_cons_zero, opsK_some, runOps_nil, regK_some, seqK_normal, run_block, run_loop, a6l0c, a6l0n, a6l0b, List.getD_cons_succ, List.getD_cons_zero, ex_len, lenA_sl, castLit, valK_some, ex_bin, bin_lss, Int.reduceLT, decide_true, run_cond, condK_bool, run_skip, run_exit, if_true, ex_iaddr, iaddrA_sl, Int.toNat_zero, Nat.reduceMul, ex_faddr, faddrA_vptr, ex_load, rd_vptr, List.drop_succ_cons, List.drop_zero, List.take_succ_cons, List.take_zero, loadK_1, bin_gtr, e1, c1, decide_false, oper_guard, guardK_bool, putA_to, e2, c2, ex_pick, pickA_bool, Bool.false_eq_true, ite_self, Bool.true_eq_false, if_false, run_ret, blockK_ret, seqK_ret, loopK_ret, bodyK_ret, results_1, res_tmp, retvK_some, pbodyK_some, frzN, frz_bool, Bool.or_true, Bool.true_or]
    · by_cases c3 : 520 < n.ed.length
      · simp (maxSteps := 30000000) (disch := first | assumption | omega | (simp only [List.length_cons, List.length_nil, List.length_append, List.length_set, List.length_replicate, List.length_map, List.length_range, List.length_take, List.length_drop, List.all_cons, List.all_nil, AV.isCell, Bool.and_self, Bool.and_true, bs_length, is64_length, w64_length, ints_length, edges_length] <;> omega) | rfl | decide) only [bodyA_eq, List.length_cons, List.length_nil, Nat.zero_add, Nat.reduceSub, pads, List.cons_append, List.nil_append, run_seq, run_region, runOps_cons, oper_none, ex_mov, opv, putK_to, List.set_cons_succ, List.set_cons_zero, opsK_some, runOps_nil, regK_some, seqK_normal, run_block, run_loop, a6l0c, a6l0n, a6l0b, List.getD_cons_succ, List.getD_cons_zero, ex_len, lenA_sl, castLit, valK_some, ex_bin, bin_lss, Int.reduceLT, decide_true, run_cond, condK_bool, run_skip, run_exit, if_true, ex_iaddr, iaddrA_sl, Int.toNat_zero, Nat.reduceMul, ex_faddr, faddrA_vptr, ex_load, rd_vptr, List.drop_succ_cons, List.drop_zero, List.take_succ_cons, List.take_zero, loadK_1, bin_gtr, e1, c1, decide_false, oper_guard, guardK_bool, putA_to, e2, c2, ex_pick, pickA_bool, Bool.false_eq_true, if_false, List.take_nil, e3, c3, ite_self, run_ret, blockK_ret, seqK_ret, loopK_ret, bodyK_ret, results_1, res_tmp, retvK_some, pbodyK_some, frzN, frz_bool, Bool.or_false, Bool.or_true]
      · simp (maxSteps := 30000000) (disch := first | assumption | omega | (simp only [List.length_cons, List.length_nil, List.length_append, List.length_set, List.length_replicate, List.length_map, List.length_range, List.length_take, List.length_drop, List.all_cons, List.all_nil, AV.isCell, Bool.and_self, Bool.and_true, bs_length, is64_length, w64_length, ints_length, edges_length] <;> omega) | rfl | decide) only [bodyA_eq, List.length_cons, List.length_nil, Nat.zero_add, Nat.reduceSub, pads, List.cons_append, List.nil_append, run_seq, run_region, runOps_cons, oper_none, ex_mov, opv, putK_to, List.set_cons_succ, List.set_cons_zero, opsK_some, runOps_nil, regK_some, seqK_normal, run_block, run_loop, a6l0c, a6l0n, a6l0b, List.getD_cons_succ, List.getD_cons_zero, ex_len, lenA_sl, castLit, valK_some, ex_bin, bin_lss, Int.reduceLT, decide_true, run_cond, condK_bool, run_skip, run_exit, if_true, ex_iaddr, iaddrA_sl, Int.toNat_zero, Nat.reduceMul, ex_faddr, faddrA_vptr, ex_load, rd_vptr, List.drop_succ_cons, List.drop_zero, List.take_succ_cons, List.take_zero, loadK_1, bin_gtr, e1, c1, decide_false, oper_guard, guardK_bool, putA_to, e2, c2, ex_pick, pickA_bool, Bool.false_eq_true, if_false, List.take_nil, e3, c3, run_ret, blockK_normal, bin_add, Int.zero_add, wr64, loopK_normal, Int.lt_irrefl, seqK_exit, loopK_exit, blockK_exit, bodyK_ret, results_1, res_tmp, retvK_some, pbodyK_some, frzN, frz_bool, Bool.or_false]

/-! what comes in -/
abbrev TNfa : TS := ⟨true, [.int .i64, .int .i64, .sl [.int .i64], .sl [.int .i64], .sl [.int .i64, .int .i64, .int .u8, .int .u8]]⟩
abbrev TWord : TS := ⟨false, [.sl [.int .u8]]⟩
abbrev TU8 : TS := ⟨false, [.int .u8]⟩
abbrev TSet : TS := ⟨false, [.sl [.int .u64]]⟩

theorem i64s_ints : ∀ (cs : List AV), (∀ x ∈ cs, Fit (.int .i64) x) → ∃ l : List Int, cs = ints l
  | [], _ => ⟨[], rfl⟩
  | a :: cs, h => by
    obtain ⟨n, rfl, _⟩ := fit_i64 (h a (by simp))
    obtain ⟨l, rfl⟩ := i64s_ints cs (fun x hx => h x (by simp [hx]))
    exact ⟨n :: l, rfl⟩

theorem fit_iw {a : AV} (h : Fit (.sl [.int .i64]) a) : ∃ z l, a = iw z l ∧ (z = true → l = []) := by
  obtain ⟨z, cs, rfl, hz, hl, hf⟩ := fit_sl1 h
  obtain ⟨l, rfl⟩ := i64s_ints cs hf
  exact ⟨z, l, by rw [ints_length], fun e => List.map_eq_nil_iff.1 (hz e)⟩

theorem rows_eds : ∀ (rs : List (List AV)), (∀ r ∈ rs, r.length = 4) → (∀ r ∈ rs, ∀ (i : Nat) (c : CS) (a : AV), ([.int .i64, .int .i64, .int .u8, .int .u8] : List CS)[i]? = some c → r[i]? = some a → Fit c a) →
    ∃ l : List Ed, rs.flatten = edges l ∧ l.length = rs.length ∧ ∀ e ∈ l, e.p < 256 ∧ e.n < 256
  | [], _, _ => ⟨[], rfl, rfl, by simp⟩
  | r :: rs, hl, hf => by
    obtain ⟨l, h1, h2, h3⟩ := rows_eds rs (fun r hr => hl r (by simp [hr])) (fun r hr => hf r (by simp [hr]))
    have hr := hl r (by simp)
    match r, hr with
    | [x0, x1, x2, x3], _ =>
      have hfr := hf [x0, x1, x2, x3] (by simp)
      obtain ⟨a, rfl, _⟩ := fit_i64 (hfr 0 _ _ rfl rfl)
      obtain ⟨b, rfl, _⟩ := fit_i64 (hfr 1 _ _ rfl rfl)
      obtain ⟨p, rfl, hp⟩ := fit_u8 (hfr 2 _ _ rfl rfl)
      obtain ⟨n, rfl, hn⟩ := fit_u8 (hfr 3 _ _ rfl rfl)
      refine ⟨⟨a, b, p, n⟩ :: l, ?_, by simp [h2], ?_⟩
      · rw [List.flatten_cons, h1]; rfl
      · intro e he
        rcases List.mem_cons.1 he with rfl | he
        · exact ⟨hp, hn⟩
        · exact h3 e he

theorem fit_eds {a : AV} (h : Fit (.sl [.int .i64, .int .i64, .int .u8, .int .u8]) a) : ∃ z l, a = .sl z l.length (edges l) ∧ (z = true → l = []) ∧ ∀ e ∈ l, e.p < 256 ∧ e.n < 256 := by
  cases h with
  | nil => exact ⟨true, [], rfl, fun _ => rfl, by simp⟩
  | @sl _ rs hn hl hr =>
    obtain ⟨l, h1, h2, h3⟩ := rows_eds rs hl hr
    exact ⟨false, l, by rw [h1, h2], by simp, h3⟩

theorem fit_nfa3 {a : AV} (h : FitT TNfa a) : ∃ n : Aut, a = n.av ∧ (n.z1 = true → n.st = []) ∧ (n.z2 = true → n.fi = []) ∧ (n.z3 = true → n.ed = []) ∧ ∀ e ∈ n.ed, e.p < 256 ∧ e.n < 256 := by
  obtain ⟨cs, rfl, h'⟩ := fitT_many h
  obtain ⟨a1, cs, rfl, h1, h'⟩ := fitAll_cons h'
  obtain ⟨a2, cs, rfl, h2, h'⟩ := fitAll_cons h'
  obtain ⟨a9993, cs, rfl, h3, h'⟩ := fitAll_cons h'
  obtain ⟨a9994, cs, rfl, h4, h'⟩ := fitAll_cons h'
  obtain ⟨a9995, cs, rfl, h5, h'⟩ := fitAll_cons h'
  obtain rfl := fitAll_nil h'
  obtain ⟨v, rfl, _⟩ := fit_i64 h1
  obtain ⟨s, rfl, _⟩ := fit_i64 h2
  obtain ⟨z1, st, rfl, hz1⟩ := fit_iw h3
  obtain ⟨z2, fi, rfl, hz2⟩ := fit_iw h4
  obtain ⟨z3, ed, rfl, hz3, hb⟩ := fit_eds h5
  exact ⟨⟨v, s, z1, st, z2, fi, z3, ed⟩, rfl, hz1, hz2, hz3, hb⟩

theorem fit_nfa {a : AV} (h : FitT TNfa a) : ∃ n : Aut, a = n.av ∧ (n.z1 = true → n.st = []) ∧ (n.z2 = true → n.fi = []) ∧ ∀ e ∈ n.ed, e.p < 256 ∧ e.n < 256 := by
  obtain ⟨n, h1, h2, h3, _, h4⟩ := fit_nfa3 h
  exact ⟨n, h1, h2, h3, h4⟩

theorem valid_rev {n : Aut} (h : Valid n) (z : Bool) : Valid (revA n z) := by
  refine ⟨h.v0, h.v6, h.s0, h.s64, by simpa [revA] using h.el, h.fi, h.st, ?_⟩
  have : ∀ (l : List Ed), edsErr n.states n.vars.toNat (l.map swapE) = edsErr n.states n.vars.toNat l := by
    intro l
    induction l with
    | nil => rfl
    | cons e l ih =>
      have : edErr n.states n.vars.toNat (swapE e) = edErr n.states n.vars.toNat e := by
        unfold edErr swapE
        simp only [Int.min_comm e.b, Int.max_comm e.b]
      show (if edErr n.states n.vars.toNat (swapE e) = 0 then _ else _) = (if edErr n.states n.vars.toNat e = 0 then _ else _)
      rw [this, ih]
  show edsErr n.states n.vars.toNat (n.ed.map swapE) = 0
  rw [this]
  exact h.ed

theorem fits_rev {n : Aut} (h : Fits n) (z : Bool) : Fits (revA n z) := by
  refine ⟨h.l2, h.l1, by simpa [revA] using h.l3, fun e he => ?_⟩
  simp only [revA, List.mem_map] at he
  obtain ⟨e', he', rfl⟩ := he
  exact h.by_ e' he'

end Go.Abs.NfaD
