/- The reference: Canonical. -/
import Derived.Test.YthbgkdjnakeagaaAF9
namespace Go.Abs.Lasso
set_option linter.unusedVariables false
set_option linter.unusedSimpArgs false
open Go Go.Abs

/-- S has the period d from a on -/
def PerAt (S : Nat → Nat) (a d : Nat) : Prop := ∀ i, a ≤ i → S (i + d) = S i

theorem PerAt.back {p q : List Nat} {a d : Nat} (hq : 0 < q.length) (h : PerAt (seqM p q) a d) : PerAt (seqM p q) p.length d := by
  intro i hi
  have e1 : ∀ t, (fun t => seqM p q (p.length + t)) (t + q.length) = (fun t => seqM p q (p.length + t)) t := fun t => by
    simp only
    rw [← Nat.add_assoc]; exact seqM_per hq (by omega)
  have m1 := per_mulF (h := fun t => seqM p q (p.length + t)) e1 a (i - p.length + d)
  have m2 := per_mulF (h := fun t => seqM p q (p.length + t)) e1 a (i - p.length)
  have hbn : a ≤ a * q.length := Nat.le_mul_of_pos_right _ hq
  have := h (p.length + (i - p.length + a * q.length)) (by omega)
  rw [show i + d = p.length + (i - p.length + d) by omega, ← m1, show p.length + (i - p.length + d + a * q.length) = p.length + (i - p.length + a * q.length) + d by omega, this, m2]
  congr 1; omega

theorem PerAt.mod {S : Nat → Nat} {a d : Nat} (hd : 0 < d) (h : PerAt S a d) (t : Nat) : S (a + t % d) = S (a + t) := by
  induction t using Nat.strongRecOn with
  | _ t ih =>
    by_cases hlt : t < d
    · rw [Nat.mod_eq_of_lt hlt]
    · have h1 := h (a + (t - d)) (by omega)
      rw [show a + (t - d) + d = a + t by omega] at h1
      rw [h1, ← ih (t - d) (by omega), Nat.mod_eq_sub_mod (by omega)]

theorem canon_of_least {p q : List Nat} {b d : Nat} (hq : 0 < q.length) (hd : 0 < d) (h1 : PerAt (seqM p q) b d) (h2 : ∀ c, c < b → ¬ PerAt (seqM p q) c d) (h3 : ∀ e, 0 < e → e < d → ¬ PerAt (seqM p q) p.length e) :
    Canon (seqM p q) (takeM (seqM p q) b) (takeM (fun i => seqM p q (b + i)) d) := by
  have l1 := takeM_length (seqM p q) b
  have l2 := takeM_length (fun i => seqM p q (b + i)) d
  refine ⟨by omega, fun i => ?_, fun e a he ha => ?_, fun a ha => ?_⟩
  · by_cases hi : i < b
    · rw [seqM_pre (by omega)]
      simp [takeM, hi]
    · rw [seqM_loop (by omega), fullM_of (by omega), l1, l2]
      have hm := Nat.mod_lt (i - b) hd
      have : (takeM (fun i => seqM p q (b + i)) d).getD ((i - b) % d) 0 = seqM p q (b + (i - b) % d) := by simp [takeM, hm]
      rw [this, h1.mod hd]
      congr 1; omega
  · rw [l2]
    rcases Nat.lt_or_ge e d with hlt | hge
    · exact absurd (PerAt.back hq (a := a) ha) (h3 e he hlt)
    · exact hge
  · rw [l1]
    rw [l2] at ha
    rcases Nat.lt_or_ge a b with hlt | hge
    · exact absurd ha (h2 a hlt)
    · exact hge

theorem rc_in {z1 z : Bool} {p q : List Nat} {d : Nat} {c1 : AV} {c2 : AV} (hq0 : 0 < q.length) (hp : p.length < 1099511627776) (hq : q.length < 1099511627776) (hd0 : 0 < d) (hd : d < 1099511627776) (hper : PerAt (seqM p q) p.length d) : ∀ t a, a + t = p.length →
    ∃ b, a ≤ b ∧ b ≤ p.length ∧ PerAt (seqM p q) b d ∧ (∀ c, a ≤ c → c < b → ¬ PerAt (seqM p q) c d) ∧
      L.loop a17l0s a17l0 ⟨a17l0F (.ptr 0 0) (.ptr 1 0) (.int .i64 (d : Nat)) (.int .i64 (a : Nat)), [.cells false false [word z1 p, word z q], .cells false false [c1, c2]]⟩ =
        some (.ret, ⟨a17l0F (.ptr 0 0) (.ptr 1 0) (.int .i64 (d : Nat)) (.int .i64 (b : Nat)), [.cells false false [word z1 p, word z q], .cells false false [word (b == 0) (takeM (seqM p q) b), word false (takeM (fun i => seqM p q (b + i)) d)]]⟩)
  | t, a, h => by
    obtain ⟨r, h1, h2⟩ := repeats_eq z1 z p q a d hq0 hp hq (by omega) hd
    have hle : ((a : Nat) : Int) ≤ ((p.length : Nat) : Int) := by omega
    cases r with
    | true =>
      have hcut := rcut_eq z1 z p q a d hp hq (by omega) hd0 hd
      refine ⟨a, Nat.le_refl _, by omega, h2.1 rfl, fun c h3 h4 => by omega, ?_⟩
      rw [a17l0n]
      simp (maxSteps := 30000000) (disch := first | assumption | omega | (simp only [List.length_cons, List.length_nil, List.length_append, List.length_set, List.length_replicate, List.length_map, List.length_range, List.length_take, List.length_drop, List.all_cons, List.all_nil, AV.isCell, Bool.and_self, Bool.and_true, bs_length, is64_length] <;> omega) | rfl | decide) only [a17l0b, run_seq, run_region, runOps_cons, oper_none, ex_mov, opv, List.getD_cons_succ, List.getD_cons_zero, putK_to, List.set_cons_succ, List.set_cons_zero, opsK_some, ex_faddr, faddrA_ptr, Nat.add_zero, valK_some, ex_load, rd_ptr, List.getElem?_cons_zero, rdK_cells, List.drop_zero, List.take_succ_cons, List.take_zero, loadK_1, ex_len, lenA_sl, ex_bin, bin_leq, hle, decide_true, runOps_nil, regK_some, seqK_normal, run_cond, condK_bool, run_skip, run_exit, if_true, run_block, List.take_nil, loadK_n, ex_call, List.map_cons, List.map_nil, pcallA_eq, frzN, List.mapM_cons, frz_agg, frz_sl, List.mapM_nil, Option.pure_def, Option.bind_eq_bind, Option.bind_some, Option.map_some, frz_int, argK_some, h1, retK_some, scal, scal1, fzIds, List.flatMap_cons, bor_agg, bor_sl, List.flatMap_nil, List.append_nil, bor_int, List.foldl_nil, ite_self, hcut, List.all_cons, List.all_nil, Bool.and_true, Bool.and_self, Bool.false_eq_true, ex_store, AV.cells, List.length_cons, List.length_nil, Nat.zero_add, Nat.reduceAdd, wr_ptr, List.getElem?_cons_succ, wrK_cells, splice, List.nil_append, List.drop_succ_cons, List.drop_nil, storeK_some, putK_no, run_ret, blockK_ret, seqK_ret, loopK_ret, a17l0c]
    | false =>
      cases t with
      | zero =>
        obtain rfl : a = p.length := by omega
        exact absurd (h2.2 hper) (by simp)
      | succ t =>
        obtain ⟨b, g1, g2, g3, g4, g5⟩ := rc_in (z1 := z1) (z := z) (c1 := c1) (c2 := c2) hq0 hp hq hd0 hd hper t (a + 1) (by omega)
        refine ⟨b, by omega, g2, g3, fun c h3 h4 hc => ?_, ?_⟩
        · by_cases hca : c = a
          · subst hca; exact absurd (h2.2 hc) (by simp)
          · exact g4 c (by omega) h4 hc
        · rw [a17l0n]
          simp (maxSteps := 30000000) (disch := first | assumption | omega | (simp only [List.length_cons, List.length_nil, List.length_append, List.length_set, List.length_replicate, List.length_map, List.length_range, List.length_take, List.length_drop, List.all_cons, List.all_nil, AV.isCell, Bool.and_self, Bool.and_true, bs_length, is64_length] <;> omega) | rfl | decide) only [a17l0b, run_seq, run_region, runOps_cons, oper_none, ex_mov, opv, List.getD_cons_succ, List.getD_cons_zero, putK_to, List.set_cons_succ, List.set_cons_zero, opsK_some, ex_faddr, faddrA_ptr, Nat.add_zero, valK_some, ex_load, rd_ptr, List.getElem?_cons_zero, rdK_cells, List.drop_zero, List.take_succ_cons, List.take_zero, loadK_1, ex_len, lenA_sl, ex_bin, bin_leq, hle, decide_true, runOps_nil, regK_some, seqK_normal, run_cond, condK_bool, run_skip, run_exit, if_true, run_block, List.take_nil, loadK_n, ex_call, List.map_cons, List.map_nil, pcallA_eq, frzN, List.mapM_cons, frz_agg, frz_sl, List.mapM_nil, Option.pure_def, Option.bind_eq_bind, Option.bind_some, Option.map_some, frz_int, argK_some, h1, retK_some, scal, scal1, fzIds, List.flatMap_cons, bor_agg, bor_sl, List.flatMap_nil, List.append_nil, bor_int, List.foldl_nil, ite_self, Bool.false_eq_true, if_false, blockK_normal, bin_add, cadd1, wr64, loopK_normal, a17l0c, g5]

theorem rc_out {z1 z : Bool} {p q : List Nat} {c1 : AV} {c2 : AV} (hq0 : 0 < q.length) (hp : p.length < 1099511627776) (hq : q.length < 1099511627776) : ∀ t d, 0 < d → d + t = q.length →
    ∃ e b, d ≤ e ∧ e ≤ q.length ∧ b ≤ p.length ∧ PerAt (seqM p q) b e ∧ (∀ c, c < b → ¬ PerAt (seqM p q) c e) ∧ (∀ c, d ≤ c → c < e → ¬ PerAt (seqM p q) p.length c) ∧
      L.loop a17l1s a17l1 ⟨a17l1F (.ptr 0 0) (.ptr 1 0) (.int .i64 (d : Nat)), [.cells false false [word z1 p, word z q], .cells false false [c1, c2]]⟩ =
        some (.ret, ⟨a17l1F (.ptr 0 0) (.ptr 1 0) (.int .i64 (e : Nat)), [.cells false false [word z1 p, word z q], .cells false false [word (b == 0) (takeM (seqM p q) b), word false (takeM (fun i => seqM p q (b + i)) e)]]⟩)
  | t, d, hd0, h => by
    obtain ⟨r, h1, h2⟩ := repeats_eq z1 z p q p.length d hq0 hp hq (by omega) (by omega)
    have hle : ((d : Nat) : Int) ≤ ((q.length : Nat) : Int) := by omega
    cases r with
    | true =>
      obtain ⟨b, g1, g2, g3, g4, g5⟩ := rc_in (z1 := z1) (z := z) (c1 := c1) (c2 := c2) hq0 hp hq hd0 (by omega) (h2.1 rfl) p.length 0 (by omega)
      simp only [Int.natCast_zero] at g5
      refine ⟨d, b, Nat.le_refl _, by omega, g2, g3, fun c hc => g4 c (by omega) hc, fun c h3 h4 => by omega, ?_⟩
      rw [a17l1n]
      simp (maxSteps := 30000000) (disch := first | assumption | omega | (simp only [List.length_cons, List.length_nil, List.length_append, List.length_set, List.length_replicate, List.length_map, List.length_range, List.length_take, List.length_drop, List.all_cons, List.all_nil, AV.isCell, Bool.and_self, Bool.and_true, bs_length, is64_length] <;> omega) | rfl | decide) only [a17l1b, run_seq, run_region, runOps_cons, oper_none, ex_mov, opv, List.getD_cons_succ, List.getD_cons_zero, putK_to, List.set_cons_succ, List.set_cons_zero, opsK_some, ex_faddr, faddrA_ptr, Nat.zero_add, valK_some, ex_load, rd_ptr, List.getElem?_cons_zero, rdK_cells, List.drop_succ_cons, List.drop_zero, List.take_succ_cons, List.take_nil, loadK_1, ex_len, lenA_sl, ex_bin, bin_leq, hle, decide_true, runOps_nil, regK_some, seqK_normal, run_cond, condK_bool, run_skip, run_exit, if_true, run_block, loadK_n, Nat.add_zero, List.take_zero, ex_call, List.map_cons, List.map_nil, pcallA_eq, frzN, List.mapM_cons, frz_agg, frz_sl, List.mapM_nil, Option.pure_def, Option.bind_eq_bind, Option.bind_some, Option.map_some, frz_int, argK_some, h1, retK_some, scal, scal1, fzIds, List.flatMap_cons, bor_agg, bor_sl, List.flatMap_nil, List.append_nil, bor_int, List.foldl_nil, ite_self, ex_un, un_not, Bool.not_true, Bool.false_eq_true, if_false, run_loop, a17l0c, g5, blockK_ret, seqK_ret, loopK_ret, a17l1c]
    | false =>
      cases t with
      | zero =>
        obtain rfl : d = q.length := by omega
        exact absurd (h2.2 (fun i hi => seqM_per hq0 hi)) (by simp)
      | succ t =>
        obtain ⟨e, b, k1, k2, k3, k4, k5, k6, k7⟩ := rc_out (z1 := z1) (z := z) (c1 := c1) (c2 := c2) hq0 hp hq t (d + 1) (by omega) (by omega)
        refine ⟨e, b, by omega, k2, k3, k4, k5, fun c h3 h4 hc => ?_, ?_⟩
        · by_cases hca : c = d
          · subst hca; exact absurd (h2.2 hc) (by simp)
          · exact k6 c (by omega) h4 hc
        · rw [a17l1n]
          simp (maxSteps := 30000000) (disch := first | assumption | omega | (simp only [List.length_cons, List.length_nil, List.length_append, List.length_set, List.length_replicate, List.length_map, List.length_range, List.length_take, List.length_drop, List.all_cons, List.all_nil, AV.isCell, Bool.and_self, Bool.and_true, bs_length, is64_length] <;> omega) | rfl | decide) only [a17l1b, run_seq, run_region, runOps_cons, oper_none, ex_mov, opv, List.getD_cons_succ, List.getD_cons_zero, putK_to, List.set_cons_succ, List.set_cons_zero, opsK_some, ex_faddr, faddrA_ptr, Nat.zero_add, valK_some, ex_load, rd_ptr, List.getElem?_cons_zero, rdK_cells, List.drop_succ_cons, List.drop_zero, List.take_succ_cons, List.take_nil, loadK_1, ex_len, lenA_sl, ex_bin, bin_leq, hle, decide_true, runOps_nil, regK_some, seqK_normal, run_cond, condK_bool, run_skip, run_exit, if_true, run_block, loadK_n, Nat.add_zero, List.take_zero, ex_call, List.map_cons, List.map_nil, pcallA_eq, frzN, List.mapM_cons, frz_agg, frz_sl, List.mapM_nil, Option.pure_def, Option.bind_eq_bind, Option.bind_some, Option.map_some, frz_int, argK_some, h1, retK_some, scal, scal1, fzIds, List.flatMap_cons, bor_agg, bor_sl, List.flatMap_nil, List.append_nil, bor_int, List.foldl_nil, ite_self, ex_un, un_not, Bool.not_false, seqK_exit, blockK_exit, bin_add, cadd1, wr64, loopK_normal, a17l1c, k7]

theorem rcanon_eq (z1 z2 : Bool) (p q : List Nat) (hp : p.length < 1099511627776) (hq : q.length < 1099511627776) :
    ∃ z p' q', Canon (seqM p q) p' q' ∧ L.pcall 17 [las z1 z2 p q] = some (las z false p' q') := by
  obtain ⟨z, hfull⟩ := rfull_eq z1 z2 p q
  have hfl := fullM_len q
  have hfp := fullM_pos q
  obtain ⟨e, b, k1, k2, k3, k4, k5, k6, k7⟩ := rc_out (z1 := z1) (z := z) (p := p) (c1 := .sl true 0 []) (c2 := .sl true 0 []) hfp hp (by omega) ((fullM q).length - 1) 1 (by omega) (by omega)
  have hC := canon_of_least hfp (by omega) k4 k5 (fun c h1 h2 => k6 c (by omega) h2)
  have hS : seqM p (fullM q) = seqM p q := funext (seqM_full p q)
  refine ⟨b == 0, _, _, hS ▸ hC, ?_⟩
  simp only [Int.natCast_one] at k7
  rw [a17p, a17, pbodyA_eq]
  simp (maxSteps := 30000000) (disch := first | assumption | omega | (simp only [List.length_cons, List.length_nil, List.length_append, List.length_set, List.length_replicate, List.length_map, List.length_range, List.length_take, List.length_drop, List.all_cons, List.all_nil, AV.isCell, Bool.and_self, Bool.and_true, bs_length, is64_length] <;> omega) | rfl | decide) only [bodyA_eq, List.length_cons, List.length_nil, Nat.zero_add, Nat.reduceSub, pads, List.cons_append, List.nil_append, run_seq, run_region, runOps_cons, oper_none, ex_box, AV.cells, opv, List.getD_cons_zero, List.all_cons, AV.isCell, List.all_nil, Bool.and_self, if_true, putK_to, List.set_cons_succ, List.set_cons_zero, opsK_some, runOps_nil, regK_some, seqK_normal, ex_load, List.getD_cons_succ, rd_ptr, List.getElem?_cons_zero, rdK_cells, List.drop_zero, List.take_succ_cons, List.take_nil, loadK_n, valK_some, ex_call, List.map_cons, List.map_nil, pcallA_eq, frzN, List.mapM_cons, frz_agg, frz_sl, List.mapM_nil, Option.pure_def, Option.bind_eq_bind, Option.bind_some, Option.map_some, argK_some, hfull, retK_some, scal, scal1, Bool.and_true, Bool.false_eq_true, fzIds, List.flatMap_cons, bor_agg, bor_sl, List.flatMap_nil, List.append_nil, List.foldl_nil, ite_self, ex_store, Nat.reduceAdd, wr_ptr, wrK_cells, splice, List.take_zero, List.drop_succ_cons, List.drop_nil, storeK_some, putK_no, ex_mov, run_block, run_loop, a17l1c, k7, blockK_ret, seqK_ret, bodyK_ret, results_1, res_cell, List.getElem?_cons_succ, cellK_some, mkv_n, retvK_some, pbodyK_some]
  try rw [hS]
end Go.Abs.Lasso
