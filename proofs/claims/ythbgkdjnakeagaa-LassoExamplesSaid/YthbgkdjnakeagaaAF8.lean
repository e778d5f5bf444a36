/- Canonical: the shortest form, by what the lasso denotes. -/
import Derived.Test.YthbgkdjnakeagaaAF7
namespace Go.Abs.Lasso
set_option linter.unusedVariables false
set_option linter.unusedSimpArgs false
open Go Go.Abs

/-- Canonical's loop -/
def short (p r : List Nat) : Nat → Nat → Nat × Nat
  | 0, at_ => (0, at_)
  | n + 1, at_ => if p.getD n 0 = r.getD (at_ - 1) 0 then short p r n (if at_ - 1 = 0 then r.length else at_ - 1) else (n + 1, at_)

theorem canon_loop (z : Bool) (zz : Bool) (p r : List Nat) (q1 : AV) (b1 : Blk) (hr : 0 < r.length) (hr2 : r.length < 1099511627776) (hp : p.length < 1099511627776) : ∀ n a, n ≤ p.length → 0 < a → a ≤ r.length →
    L.loop a12l0s a12l0 ⟨a12l0F (.ptr 0 0) (.ptr 1 0) (word z r) (.int .i64 (n : Nat)) (.int .i64 (a : Nat)), [.cells false false [word zz p, q1], b1]⟩ =
      some (.exit 0, ⟨a12l0F (.ptr 0 0) (.ptr 1 0) (word z r) (.int .i64 ((short p r n a).1 : Nat)) (.int .i64 ((short p r n a).2 : Nat)), [.cells false false [word zz p, q1], b1]⟩)
  | 0, a, hn, ha, har => by
    rw [a12l0n]
    simp (maxSteps := 30000000) (disch := first | assumption | omega | (simp only [List.length_cons, List.length_nil, List.length_append, List.length_set, List.length_replicate, List.length_map, List.length_range, List.length_take, List.length_drop, List.all_cons, List.all_nil, AV.isCell, Bool.and_self, Bool.and_true, bs_length, is64_length] <;> omega) | rfl | decide) only [a12l0b, castLit, run_seq, run_region, runOps_cons, oper_none, ex_mov, opv, List.getD_cons_succ, List.getD_cons_zero, putK_to, List.set_cons_succ, List.set_cons_zero, opsK_some, ex_bin, bin_gtr, Int.lt_irrefl, decide_false, valK_some, runOps_nil, regK_some, seqK_normal, run_cond, condK_bool, Bool.false_eq_true, run_skip, run_exit, if_false, seqK_exit, loopK_exit, a12l0c, short]
  | n + 1, a, hn, ha, har => by
    have h0 : (0 : Int) < ((n + 1 : Nat) : Int) := by omega
    have hm : (a - 1) % r.length = a - 1 := Nat.mod_eq_of_lt (by omega)
    rw [a12l0n]
    unfold short
    by_cases he : p.getD n 0 = r.getD (a - 1) 0
    · have heq : (((p.getD n 0 : Nat) : Int) = ((r.getD (a - 1) 0 : Nat) : Int)) = True := eq_true (by omega)
      by_cases h1 : a - 1 = 0
      · have ih := canon_loop z zz p r q1 b1 hr hr2 hp n r.length (by omega) hr (Nat.le_refl _)
        have h1' : ((a - 1 : Nat) : Int) = 0 := by omega
        simp (maxSteps := 30000000) (disch := first | assumption | omega | (simp only [List.length_cons, List.length_nil, List.length_append, List.length_set, List.length_replicate, List.length_map, List.length_range, List.length_take, List.length_drop, List.all_cons, List.all_nil, AV.isCell, Bool.and_self, Bool.and_true, bs_length, is64_length] <;> omega) | rfl | decide) only [a12l0b, run_seq, run_region, runOps_cons, oper_none, ex_mov, opv, List.getD_cons_succ, List.getD_cons_zero, putK_to, List.set_cons_succ, List.set_cons_zero, opsK_some, ex_bin, bin_gtr, h0, decide_true, valK_some, runOps_nil, regK_some, seqK_normal, run_cond, condK_bool, run_skip, run_exit, if_true, run_block, run_draw, List.take_succ_cons, List.take_zero, runFree_cons, foper_none, fe_faddr, ex_faddr, faddrA_ptr, Nat.add_zero, fstK_some, fputK_to, freeK_some, fe_load, ex_load, rd_ptr, List.getElem?_cons_zero, rdK_cells, List.drop_zero, loadK_1, fe_mov, fe_bin, bin_sub, csub1, Nat.add_sub_cancel, wr64, fe_iaddr, ex_iaddr, iaddrA_sl, Int.toNat_natCast, Nat.mul_one, rd_vptr, bs_drop, bs_take, bs_at0, drop_getD, he, h1, castLit, fe_len, ex_len, lenA_sl, bin_rem, Int.zero_tmod, Int.toNat_zero, runFree_nil, drawK_some, List.drop_succ_cons, adopt, adoptVal, bin_neq, Bool.not_true, Bool.false_eq_true, if_false, bin_eql, blockK_normal, loopK_normal, a12l0c, ih]
      · have ih := canon_loop z zz p r q1 b1 hr hr2 hp n (a - 1) (by omega) (by omega) (by omega)
        have h1' : ¬ ((a - 1 : Nat) : Int) = 0 := by omega
        simp (maxSteps := 30000000) (disch := first | assumption | omega | (simp only [List.length_cons, List.length_nil, List.length_append, List.length_set, List.length_replicate, List.length_map, List.length_range, List.length_take, List.length_drop, List.all_cons, List.all_nil, AV.isCell, Bool.and_self, Bool.and_true, bs_length, is64_length] <;> omega) | rfl | decide) only [a12l0b, run_seq, run_region, runOps_cons, oper_none, ex_mov, opv, List.getD_cons_succ, List.getD_cons_zero, putK_to, List.set_cons_succ, List.set_cons_zero, opsK_some, ex_bin, bin_gtr, h0, decide_true, valK_some, runOps_nil, regK_some, seqK_normal, run_cond, condK_bool, run_skip, run_exit, if_true, run_block, run_draw, List.take_succ_cons, List.take_zero, runFree_cons, foper_none, fe_faddr, ex_faddr, faddrA_ptr, Nat.add_zero, fstK_some, fputK_to, freeK_some, fe_load, ex_load, rd_ptr, List.getElem?_cons_zero, rdK_cells, List.drop_zero, loadK_1, fe_mov, fe_bin, bin_sub, csub1, Nat.add_sub_cancel, wr64, fe_iaddr, ex_iaddr, iaddrA_sl, Int.toNat_natCast, Nat.mul_one, rd_vptr, bs_drop, bs_take, bs_at0, drop_getD, he, fe_len, ex_len, lenA_sl, bin_rem, ctmod, hm, runFree_nil, drawK_some, List.drop_succ_cons, adopt, adoptVal, bin_neq, Bool.not_true, Bool.false_eq_true, if_false, bin_eql, h1', decide_false, blockK_normal, loopK_normal, a12l0c, ih, h1]
    · have hne : ¬ (((p.getD n 0 : Nat) : Int) = ((r.getD (a - 1) 0 : Nat) : Int)) := by omega
      simp (maxSteps := 30000000) (disch := first | assumption | omega | (simp only [List.length_cons, List.length_nil, List.length_append, List.length_set, List.length_replicate, List.length_map, List.length_range, List.length_take, List.length_drop, List.all_cons, List.all_nil, AV.isCell, Bool.and_self, Bool.and_true, bs_length, is64_length] <;> omega) | rfl | decide) only [a12l0b, run_seq, run_region, runOps_cons, oper_none, ex_mov, opv, List.getD_cons_succ, List.getD_cons_zero, putK_to, List.set_cons_succ, List.set_cons_zero, opsK_some, ex_bin, bin_gtr, h0, decide_true, valK_some, runOps_nil, regK_some, seqK_normal, run_cond, condK_bool, run_skip, run_exit, if_true, run_block, run_draw, List.take_succ_cons, List.take_zero, runFree_cons, foper_none, fe_faddr, ex_faddr, faddrA_ptr, Nat.add_zero, fstK_some, fputK_to, freeK_some, fe_load, ex_load, rd_ptr, List.getElem?_cons_zero, rdK_cells, List.drop_zero, loadK_1, fe_mov, fe_bin, bin_sub, csub1, Nat.add_sub_cancel, wr64, fe_iaddr, ex_iaddr, iaddrA_sl, Int.toNat_natCast, Nat.mul_one, rd_vptr, bs_drop, bs_take, bs_at0, drop_getD, fe_len, ex_len, lenA_sl, bin_rem, ctmod, hm, runFree_nil, drawK_some, List.drop_succ_cons, adopt, adoptVal, bin_neq, hne, decide_false, Bool.not_false, seqK_exit, blockK_exit, Nat.reduceEqDiff, if_false, loopK_exit, a12l0c, he]

theorem short_spec (p r : List Nat) (S : Nat → Nat) (hr : 0 < r.length) : ∀ n a, n ≤ p.length → 0 < a → a ≤ r.length → (∀ i, i < n → S i = p.getD i 0) → (∀ j, n ≤ j → S j = r.getD ((a + (j - n)) % r.length) 0) →
    (short p r n a).1 ≤ n ∧ 0 < (short p r n a).2 ∧ (short p r n a).2 ≤ r.length ∧ (∀ i, i < (short p r n a).1 → S i = p.getD i 0) ∧ (∀ j, (short p r n a).1 ≤ j → S j = r.getD (((short p r n a).2 + (j - (short p r n a).1)) % r.length) 0)
  | 0, a, hn, h0, ha, h1, h2 => ⟨Nat.le_refl _, h0, ha, h1, h2⟩
  | n + 1, a, hn, h0, ha, h1, h2 => by
    unfold short
    by_cases he : p.getD n 0 = r.getD (a - 1) 0
    · rw [if_pos he]
      have hS : ∀ b, (b = a - 1 ∨ b = a - 1 + r.length) → ∀ j, n ≤ j → S j = r.getD ((b + (j - n)) % r.length) 0 := by
        intro b hb j hj
        by_cases hjn : j = n
        · subst hjn
          rw [h1 j (by omega), he, Nat.sub_self, Nat.add_zero]
          rcases hb with rfl | rfl
          · rw [Nat.mod_eq_of_lt (by omega)]
          · rw [Nat.add_mod_right, Nat.mod_eq_of_lt (by omega)]
        · rw [h2 j (by omega)]
          rcases hb with rfl | rfl
          · rw [show a - 1 + (j - n) = a + (j - (n + 1)) by omega]
          · rw [show a - 1 + r.length + (j - n) = a + (j - (n + 1)) + r.length by omega, Nat.add_mod_right]
      have ih := short_spec p r S hr n (if a - 1 = 0 then r.length else a - 1) (by omega) (by split <;> omega) (by split <;> omega) (fun i hi => h1 i (by omega)) (hS _ (by split <;> omega))
      exact ⟨by omega, ih.2⟩
    · rw [if_neg he]
      exact ⟨Nat.le_refl _, h0, ha, h1, h2⟩


theorem short_stop (p r : List Nat) : ∀ n a, (short p r n a).1 = 0 ∨ p.getD ((short p r n a).1 - 1) 0 ≠ r.getD ((short p r n a).2 - 1) 0
  | 0, a => .inl rfl
  | n + 1, a => by
    unfold short
    by_cases he : p.getD n 0 = r.getD (a - 1) 0
    · rw [if_pos he]; exact short_stop p r n _
    · rw [if_neg he]; exact .inr (by simpa using he)

theorem seqM_pre {p q : List Nat} {i : Nat} (h : i < p.length) : seqM p q i = p.getD i 0 := if_pos h
theorem seqM_loop {p q : List Nat} {i : Nat} (h : p.length ≤ i) : seqM p q i = (fullM q).getD ((i - p.length) % (fullM q).length) 0 := if_neg (by omega)
theorem fullM_of {q : List Nat} (h : 0 < q.length) : fullM q = q := if_neg (by intro e; subst e; simp at h)
theorem seqM_full (p q : List Nat) (i : Nat) : seqM p (fullM q) i = seqM p q i := by
  unfold seqM
  rw [fullM_of (fullM_pos q)]

theorem seqM_per {p q : List Nat} (hq : 0 < q.length) {i : Nat} (hi : p.length ≤ i) : seqM p q (i + q.length) = seqM p q i := by
  rw [seqM_loop (by omega), seqM_loop hi, fullM_of hq, show i + q.length - p.length = i - p.length + q.length by omega, Nat.add_mod_right]

/-- the shortest lasso of a sequence: the loop before all, then the prefix -/
def Canon (S : Nat → Nat) (p q : List Nat) : Prop := 0 < q.length ∧ (∀ i, seqM p q i = S i) ∧ (∀ d a, 0 < d → (∀ i, a ≤ i → S (i + d) = S i) → q.length ≤ d) ∧ ∀ a, (∀ i, a ≤ i → S (i + q.length) = S i) → p.length ≤ a

theorem ext_getD {a b : List Nat} (h : a.length = b.length) (k : ∀ i, i < a.length → a.getD i 0 = b.getD i 0) : a = b := by
  apply List.ext_getElem h
  intro i h1 h2
  have := k i h1
  rwa [List.getD_eq_getElem?_getD, List.getD_eq_getElem?_getD, List.getElem?_eq_getElem h1, List.getElem?_eq_getElem h2, Option.getD_some, Option.getD_some] at this

theorem Canon.uniq {S : Nat → Nat} {p q p' q' : List Nat} (h : Canon S p q) (k : Canon S p' q') : p = p' ∧ q = q' := by
  obtain ⟨h1, h2, h3, h4⟩ := h
  obtain ⟨k1, k2, k3, k4⟩ := k
  have e1 := h3 q'.length p'.length k1 (fun i hi => by rw [← k2, ← k2, seqM_per k1 hi])
  have e2 := k3 q.length p.length h1 (fun i hi => by rw [← h2, ← h2, seqM_per h1 hi])
  have e : q.length = q'.length := by omega
  have f1 := h4 p'.length (fun i hi => by rw [← k2, ← k2, e, seqM_per k1 hi])
  have f2 := k4 p.length (fun i hi => by rw [← h2, ← h2, ← e, seqM_per h1 hi])
  have f : p.length = p'.length := by omega
  refine ⟨ext_getD f fun i hi => ?_, ext_getD e fun i hi => ?_⟩
  · have := (h2 i).trans (k2 i).symm
    rwa [seqM_pre hi, seqM_pre (by omega)] at this
  · have := (h2 (p.length + i)).trans (k2 (p.length + i)).symm
    rwa [seqM_loop (by omega), seqM_loop (by omega), fullM_of h1, fullM_of k1, ← f, Nat.add_sub_cancel_left, Nat.mod_eq_of_lt hi, ← e, Nat.mod_eq_of_lt hi] at this

theorem canon_of_root {p q : List Nat} {per : Nat} (hR : RootP (fullM q) per) : ∀ n a, (n, a) = short p ((fullM q).take per) p.length per → n ≤ p.length ∧ 0 < a ∧ a ≤ per ∧
    Canon (seqM p q) (p.take n) (((fullM q).take per).drop (a % per) ++ ((fullM q).take per).take (a % per)) := by
  intro n a hsh
  obtain ⟨h1, h2, h3, h4, h5⟩ := hR
  have hfp := fullM_pos q
  have hrl : ((fullM q).take per).length = per := by rw [List.length_take]; omega
  have hS := short_spec p ((fullM q).take per) (seqM p q) (by omega) p.length ((fullM q).take per).length (Nat.le_refl _) (by omega) (Nat.le_refl _) (fun i hi => by simp [seqM, hi]) (fun j hj => by
    unfold seqM
    rw [if_neg (by omega), periodic (r := []) h1 h2 h4 _ (Nat.mod_lt _ hfp), Nat.mod_mod_of_dvd _ (Nat.dvd_of_mod_eq_zero h3), hrl, Nat.add_mod_left, getD_take (Nat.mod_lt _ h1)])
  have hst := short_stop p ((fullM q).take per) p.length ((fullM q).take per).length
  rw [hrl, ← hsh] at hS hst
  generalize hr : (fullM q).take per = r at *
  obtain ⟨s1, s2, s3, s4, s5⟩ := hS
  simp only at s1 s2 s3 s4 s5 hst
  have hmod : a % per < per := Nat.mod_lt _ (by omega)
  have hlen : (r.drop (a % per) ++ r.take (a % per)).length = per := by rw [List.length_append, List.length_drop, List.length_take]; omega
  have hne : fullM (r.drop (a % per) ++ r.take (a % per)) = r.drop (a % per) ++ r.take (a % per) := fullM_of (by omega)
  have hn : (p.take n).length = n := by rw [List.length_take]; omega
  refine ⟨s1, s2, s3, by omega, fun i => ?_, fun d b hd hb => ?_, fun b hb => ?_⟩
  · unfold seqM
    rw [hne, hlen, hn]
    by_cases hi : i < n
    · rw [if_pos hi, getD_take hi, ← s4 i hi]
      simp [seqM, show i < p.length by omega]
    · rw [if_neg hi, ← hrl, rot_at _ _ (Nat.mod_lt _ (by omega)) _ (Nat.mod_lt _ (by omega)), Nat.add_mod, Nat.mod_mod, Nat.mod_mod, ← Nat.add_mod]
      rw [← hrl] at s5
      exact (s5 i (by omega)).symm
  · -- the loop's letters have the period d, so its length's divisor
    rw [hlen]
    have hT : ∀ t, seqM p q (p.length + t) = (fullM q).getD (t % (fullM q).length) 0 := fun t => by rw [seqM_loop (by omega), Nat.add_sub_cancel_left]
    have e1 : ∀ t, (fun t => seqM p q (p.length + t)) (t + (fullM q).length) = (fun t => seqM p q (p.length + t)) t := fun t => by simp only [hT, Nat.add_mod_right]
    have e2 : ∀ t, (fun t => seqM p q (p.length + t)) (t + d) = (fun t => seqM p q (p.length + t)) t := fun t => by
      have m1 := per_mulF (h := fun t => seqM p q (p.length + t)) e1 b (t + d)
      have m2 := per_mulF (h := fun t => seqM p q (p.length + t)) e1 b t
      simp only at m1 m2 ⊢
      have hbn : b ≤ b * (fullM q).length := Nat.le_mul_of_pos_right _ hfp
      have := hb (p.length + (t + b * (fullM q).length)) (by omega)
      rw [← m1, ← m2, ← this]
      congr 1; omega
    have e3 := per_gcd (h := fun t => seqM p q (p.length + t)) _ _ e2 e1
    have hg0 : 0 < Nat.gcd d (fullM q).length := Nat.gcd_pos_of_pos_left _ hd
    have hgd : Nat.gcd d (fullM q).length ≤ d := Nat.le_of_dvd hd (Nat.gcd_dvd_left ..)
    have := h5 (Nat.gcd d (fullM q).length) hg0 (Nat.le_of_dvd hfp (Nat.gcd_dvd_right ..)) (Nat.mod_eq_zero_of_dvd (Nat.gcd_dvd_right ..)) (fun t ht => by
      have := e3 t
      simp only [hT] at this
      rw [Nat.mod_eq_of_lt ht, Nat.mod_eq_of_lt (by omega)] at this
      exact this.symm)
    omega
  · rw [hn]
    rw [hlen] at hb
    rcases hst with h0 | hne'
    · omega
    · rcases Nat.lt_or_ge b n with hlt | hge
      · exfalso
        have k1 := hb (n - 1) (by omega)
        rw [s4 (n - 1) (by omega), s5 (n - 1 + per) (by omega), show a + (n - 1 + per - n) = a - 1 + per by omega, Nat.add_mod_right, Nat.mod_eq_of_lt (by omega)] at k1
        exact hne' k1.symm
      · exact hge

theorem fullM_lt (q : List Nat) (hq : q.length < 1099511627776) : (fullM q).length < 1099511627776 := by rw [fullM_len]; omega

set_option maxHeartbeats 4000000 in
theorem canon_own (z2 : Bool) (p q : List Nat) (hp : p.length < 1099511627776) (hq : q.length < 1099511627776) :
    ∃ p' q', Canon (seqM p q) p' q' ∧ p'.length ≤ p.length ∧ q'.length ≤ (fullM q).length ∧
      L.pcall 12 [las false z2 p q] = some (las false false p' q') ∧
      ocallA L 12 [las false z2 p q] = some (.agg [.own false 0 0 p'.length 1, .own false 1 0 q'.length 1], [.cells false false (bs p'), .cells false false (bs q')]) := by
  obtain ⟨z, hfull⟩ := full_eq false z2 p q
  have hfl := fullM_len q
  have hfp := fullM_pos q
  have hfq := fullM_lt q hq
  obtain ⟨per, hR, h5⟩ := root_eq z (fullM q) hfp (by omega)
  have hC := canon_of_root (p := p) hR
  obtain ⟨h1, h2, h3, h4, -⟩ := hR
  have hrl : ((fullM q).take per).length = per := by rw [List.length_take]; omega
  generalize hr : (fullM q).take per = r at *
  have hl := canon_loop z false p r (word z (fullM q)) (.cells false false [.sl true 0 [], .sl true 0 []]) (by omega) (by omega) hp p.length r.length (Nat.le_refl _) (by omega) (Nat.le_refl _)
  rw [hrl] at hl
  generalize hsh : short p r p.length per = s at *
  obtain ⟨n, a⟩ := s
  obtain ⟨c1, c2, c3, c4⟩ := hC n a rfl
  simp only at hl
  have hmod : a % per < per := Nat.mod_lt _ (by omega)
  have hlen : (r.drop (a % per) ++ r.take (a % per)).length = per := by rw [List.length_append, List.length_drop, List.length_take]; omega
  have hn : (p.take n).length = n := by rw [List.length_take]; omega
  have hc := (clone_own (p.take n) (by omega)).1
  have hcc := concat_own z z (r.drop (a % per)) (r.take (a % per)) (by rw [List.length_drop]; omega) (by rw [List.length_take]; omega) (by rw [← List.length_append]; omega)
  rw [← List.length_append, hlen] at hcc
  have hc' : ocallA L 37 [.sl false n (bs (p.take n))] = some (.own false 0 0 n 1, [.cells false false (bs (p.take n))]) := by
    unfold word at hc
    rwa [hn] at hc
  have hcc' : ocallA L 38 [.sl false 2 [.sl z (per - a % per) (bs (r.drop (a % per))), .sl z (a % per) (bs (r.take (a % per)))]] = some (.own false 0 0 per 1, [.cells false false (bs (r.drop (a % per) ++ r.take (a % per)))]) := by
    rw [sl_word (by rw [List.length_drop]; omega), sl_word (by rw [List.length_take]; omega)]; exact hcc
  have htk : List.take (per - a % per) (List.drop (a % per) r) = List.drop (a % per) r := List.take_of_length_le (by rw [List.length_drop]; omega)
  refine ⟨p.take n, r.drop (a % per) ++ r.take (a % per), c4, by omega, by omega, ?_, ?_⟩
  · rw [a12p, a12, pbodyA_eq]
    simp (maxSteps := 30000000) (disch := first | assumption | omega | (simp only [List.length_cons, List.length_nil, List.length_append, List.length_set, List.length_replicate, List.length_map, List.length_range, List.length_take, List.length_drop, List.all_cons, List.all_nil, AV.isCell, Bool.and_self, Bool.and_true, bs_length, is64_length] <;> omega) | rfl | decide) only [bodyA_eq, List.length_cons, List.length_nil, Nat.zero_add, Nat.reduceSub, pads, List.cons_append, List.nil_append, run_seq, run_region, runOps_cons, oper_none, ex_box, AV.cells, opv, List.getD_cons_zero, List.all_cons, AV.isCell, List.all_nil, Bool.and_self, if_true, putK_to, List.set_cons_succ, List.set_cons_zero, opsK_some, runOps_nil, regK_some, seqK_normal, run_scope, ex_load, List.getD_cons_succ, rd_ptr, List.getElem?_cons_zero, rdK_cells, List.drop_zero, List.take_succ_cons, List.take_nil, loadK_n, valK_some, ex_call, List.map_cons, List.map_nil, pcallA_eq, frzN, List.mapM_cons, frz_agg, frz_sl, List.mapM_nil, Option.pure_def, Option.bind_eq_bind, Option.bind_some, Option.map_some, argK_some, hfull, retK_some, scal, scal1, Bool.and_true, Bool.false_eq_true, fzIds, List.flatMap_cons, bor_agg, bor_sl, List.flatMap_nil, List.append_nil, List.foldl_nil, ite_self, ex_store, Nat.reduceAdd, wr_ptr, wrK_cells, splice, List.take_zero, List.drop_succ_cons, List.drop_nil, storeK_some, putK_no, run_draw, runFree_cons, foper_none, fe_faddr, ex_faddr, faddrA_ptr, fstK_some, fputK_to, freeK_some, fe_load, loadK_1, fe_call, h5, quietK_some, quietCall, List.isEmpty_nil, Bool.or_true, Nat.add_zero, fe_len, ex_len, lenA_sl, runFree_nil, drawK_some, adopt, adoptVal, ex_mov, hrl, run_label, run_block, run_loop, a12l0c, hl, blockK_exit, ex_bin, bin_rem, ctmod, run_drawp, runPriv_cons, isPriv_faddr, privA_eq, AOp.args, dataV, data1, privK_some, relV, rel2, rel1, allData_nil, and_self, if_false, free1K_some, isPriv_load, isPriv_mov, priv1K_some, isPriv_slice, List.append_assoc, Bool.true_and, ex_slice, Option.map_none, sliceA_sl, fe_slice, fe_mov, bounds_ns, Int.toNat_natCast, cutK_sl, Nat.sub_zero, Nat.mul_one, bs_take, isPriv_ocall, ex_ocall, ocArgK_some, hc', ocK_some, liftV, lift2, lift1, allData_cons, dat_bs, Bool.false_and, bounds_sn, bs_drop, htk, isPriv_bslt, ex_bslice, beq_self_eq_true, repz_2, fillA, Nat.reduceLeDiff, Nat.le_refl, newK_some, newA_data, slK_some, runPriv_nil, consK_some, fe_bslice, drawpK_some, adoptS_nil, adoptL, hcc', ex_build, List.getElem?_cons_succ, apartK_some, run_ret, bodyK_ret, results_1, res_cell, cellK_some, mkv_n, retvK_some, pbodyK_some, frz_own, frzK_cells, frz_bs]
    rw [List.take_of_length_le (by omega : (p.take n).length ≤ n), List.take_of_length_le (by omega : (r.drop (a % per) ++ r.take (a % per)).length ≤ per), sl_word hn, sl_word hlen]
  · rw [ocallA_eq, a12i, a12, bodyA_eq]
    simp (maxSteps := 30000000) (disch := first | assumption | omega | (simp only [List.length_cons, List.length_nil, List.length_append, List.length_set, List.length_replicate, List.length_map, List.length_range, List.length_take, List.length_drop, List.all_cons, List.all_nil, AV.isCell, Bool.and_self, Bool.and_true, bs_length, is64_length] <;> omega) | rfl | decide) only [List.append_nil, List.length_cons, List.length_nil, Nat.zero_add, Nat.reduceSub, pads, List.cons_append, List.nil_append, run_seq, run_region, runOps_cons, oper_none, ex_box, AV.cells, opv, List.getD_cons_zero, List.all_cons, AV.isCell, List.all_nil, Bool.and_self, if_true, putK_to, List.set_cons_succ, List.set_cons_zero, opsK_some, runOps_nil, regK_some, seqK_normal, run_scope, ex_load, List.getD_cons_succ, rd_ptr, List.getElem?_cons_zero, rdK_cells, List.drop_zero, List.take_succ_cons, List.take_nil, loadK_n, valK_some, ex_call, List.map_cons, List.map_nil, pcallA_eq, frzN, List.mapM_cons, frz_agg, frz_sl, List.mapM_nil, Option.pure_def, Option.bind_eq_bind, Option.bind_some, Option.map_some, argK_some, hfull, retK_some, scal, scal1, Bool.and_true, Bool.false_eq_true, fzIds, List.flatMap_cons, bor_agg, bor_sl, List.flatMap_nil, List.foldl_nil, ite_self, ex_store, Nat.reduceAdd, wr_ptr, wrK_cells, splice, List.take_zero, List.drop_succ_cons, List.drop_nil, storeK_some, putK_no, run_draw, runFree_cons, foper_none, fe_faddr, ex_faddr, faddrA_ptr, fstK_some, fputK_to, freeK_some, fe_load, loadK_1, fe_call, h5, quietK_some, quietCall, List.isEmpty_nil, Bool.or_true, Nat.add_zero, fe_len, ex_len, lenA_sl, runFree_nil, drawK_some, adopt, adoptVal, ex_mov, hrl, run_label, run_block, run_loop, a12l0c, hl, blockK_exit, ex_bin, bin_rem, ctmod, run_drawp, runPriv_cons, isPriv_faddr, privA_eq, AOp.args, dataV, data1, privK_some, relV, rel2, rel1, allData_nil, and_self, if_false, free1K_some, isPriv_load, isPriv_mov, priv1K_some, isPriv_slice, List.append_assoc, Bool.true_and, ex_slice, Option.map_none, sliceA_sl, fe_slice, fe_mov, bounds_ns, Int.toNat_natCast, cutK_sl, Nat.sub_zero, Nat.mul_one, bs_take, isPriv_ocall, ex_ocall, ocArgK_some, hc', ocK_some, liftV, lift2, lift1, allData_cons, dat_bs, Bool.false_and, bounds_sn, bs_drop, htk, isPriv_bslt, ex_bslice, beq_self_eq_true, repz_2, fillA, Nat.reduceLeDiff, Nat.le_refl, newK_some, newA_data, slK_some, runPriv_nil, consK_some, fe_bslice, drawpK_some, adoptS_nil, adoptL, hcc', ex_build, List.getElem?_cons_succ, apartK_some, run_ret, bodyK_ret, results_1, res_cell, cellK_some, mkv_n, retvK_some, ocallK_some, compact_agg, take2_agg, takeL_cons, take1_own, findI_nil, t1I_new, tkL_some, findI_cons, Nat.reduceBEq, takeL_nil, List.length_append]
    rw [hn, ← List.length_append, hlen]

set_option maxHeartbeats 4000000 in
theorem canon_own0 (z2 : Bool) (q : List Nat) (hq : q.length < 1099511627776) :
    ∃ q', Canon (seqM [] q) [] q' ∧ q'.length ≤ (fullM q).length ∧
      L.pcall 12 [las true z2 [] q] = some (las true false [] q') ∧
      ocallA L 12 [las true z2 [] q] = some (.agg [.sl true 0 [], .own false 0 0 q'.length 1], [.cells false false (bs q')]) := by
  obtain ⟨z, hfull⟩ := full_eq true z2 [] q
  have hfl := fullM_len q
  have hfp := fullM_pos q
  have hfq := fullM_lt q hq
  obtain ⟨per, hR, h5⟩ := root_eq z (fullM q) hfp (by omega)
  have hC := canon_of_root (p := []) hR
  obtain ⟨h1, h2, h3, h4, -⟩ := hR
  have hrl : ((fullM q).take per).length = per := by rw [List.length_take]; omega
  generalize hr : (fullM q).take per = r at *
  have hl := canon_loop z true [] r (word z (fullM q)) (.cells false false [.sl true 0 [], .sl true 0 []]) (by omega) (by omega) (by simp) 0 r.length (by simp) (by omega) (Nat.le_refl _)
  rw [hrl] at hl
  obtain ⟨c1, c2, c3, c4⟩ := hC 0 per rfl
  simp only [short, Int.natCast_zero, word, List.length_nil] at hl
  simp only [las, word, List.length_nil] at hfull
  have hm0 : per % per = 0 := Nat.mod_self per
  rw [hm0] at c4
  simp only [List.take_nil, List.drop_zero, List.take_zero, List.append_nil] at c4
  have hc := (clone_own [] (by simp)).2
  have hcc := concat_own z z r [] (by omega) (by simp) (by rw [List.length_nil]; omega)
  simp only [List.append_nil, List.length_nil, Nat.add_zero, hrl] at hcc
  have hcc' : ocallA L 38 [.sl false 2 [.sl z per (bs r), .sl z 0 []]] = some (.own false 0 0 per 1, [.cells false false (bs r)]) := by
    rw [sl_word hrl]; exact hcc
  have htk : List.take per r = r := List.take_of_length_le (by omega)
  refine ⟨r, c4, by omega, ?_, ?_⟩
  · rw [a12p, a12, pbodyA_eq]
    simp (maxSteps := 30000000) (disch := first | assumption | omega | (simp only [List.length_cons, List.length_nil, List.length_append, List.length_set, List.length_replicate, List.length_map, List.length_range, List.length_take, List.length_drop, List.all_cons, List.all_nil, AV.isCell, Bool.and_self, Bool.and_true, bs_length, is64_length] <;> omega) | rfl | decide) only [bodyA_eq, List.length_cons, List.length_nil, Nat.zero_add, Nat.reduceSub, pads, List.cons_append, List.nil_append, run_seq, run_region, runOps_cons, oper_none, ex_box, AV.cells, opv, List.getD_cons_zero, List.all_cons, AV.isCell, List.all_nil, Bool.and_self, if_true, putK_to, List.set_cons_succ, List.set_cons_zero, opsK_some, runOps_nil, regK_some, seqK_normal, run_scope, ex_load, List.getD_cons_succ, rd_ptr, List.getElem?_cons_zero, rdK_cells, List.drop_zero, List.take_succ_cons, List.take_nil, loadK_n, valK_some, ex_call, List.map_cons, List.map_nil, pcallA_eq, frzN, List.mapM_cons, frz_agg, frz_sl, List.mapM_nil, Option.pure_def, Option.bind_eq_bind, Option.bind_some, Option.map_some, argK_some, hfull, retK_some, scal, scal1, Bool.and_true, Bool.false_eq_true, fzIds, List.flatMap_cons, bor_agg, bor_sl, List.flatMap_nil, List.append_nil, List.foldl_nil, ite_self, ex_store, Nat.reduceAdd, wr_ptr, wrK_cells, splice, List.take_zero, List.drop_succ_cons, List.drop_nil, storeK_some, putK_no, run_draw, runFree_cons, foper_none, fe_faddr, ex_faddr, faddrA_ptr, fstK_some, fputK_to, freeK_some, fe_load, loadK_1, fe_call, h5, quietK_some, quietCall, List.isEmpty_nil, Bool.or_true, Nat.add_zero, fe_len, ex_len, lenA_sl, castLit, runFree_nil, drawK_some, adopt, adoptVal, ex_mov, hrl, run_label, run_block, run_loop, a12l0c, hl, blockK_exit, ex_bin, bin_rem, ctmod, hm0, run_drawp, runPriv_cons, isPriv_faddr, privA_eq, AOp.args, dataV, data1, privK_some, relV, rel2, rel1, allData_nil, and_self, if_false, free1K_some, isPriv_load, isPriv_mov, priv1K_some, isPriv_slice, List.append_assoc, Bool.true_and, ex_slice, Option.map_none, sliceA_sl, fe_slice, fe_mov, bounds_ns, Int.toNat_zero, cutK_sl, Nat.sub_zero, Nat.mul_one, isPriv_ocall, ex_ocall, ocArgK_some, hc, ocK_some, liftV, lift2, lift1, Bool.false_and, bounds_sn, bs_take, htk, isPriv_bslt, ex_bslice, beq_self_eq_true, repz_2, fillA, Nat.reduceLeDiff, Nat.le_refl, newK_some, newA_data, slK_some, runPriv_nil, consK_some, fe_bslice, drawpK_some, adoptS_nil, adoptL, hcc', ex_build, List.getElem?_cons_succ, apartK_some, run_ret, bodyK_ret, results_1, res_cell, cellK_some, mkv_n, retvK_some, pbodyK_some, frz_own, frzK_cells, frz_bs]
    rw [sl_word hrl]
    rfl
  · rw [ocallA_eq, a12i, a12, bodyA_eq]
    simp (maxSteps := 30000000) (disch := first | assumption | omega | (simp only [List.length_cons, List.length_nil, List.length_append, List.length_set, List.length_replicate, List.length_map, List.length_range, List.length_take, List.length_drop, List.all_cons, List.all_nil, AV.isCell, Bool.and_self, Bool.and_true, bs_length, is64_length] <;> omega) | rfl | decide) only [List.append_nil, List.length_cons, List.length_nil, Nat.zero_add, Nat.reduceSub, pads, List.cons_append, List.nil_append, run_seq, run_region, runOps_cons, oper_none, ex_box, AV.cells, opv, List.getD_cons_zero, List.all_cons, AV.isCell, List.all_nil, Bool.and_self, if_true, putK_to, List.set_cons_succ, List.set_cons_zero, opsK_some, runOps_nil, regK_some, seqK_normal, run_scope, ex_load, List.getD_cons_succ, rd_ptr, List.getElem?_cons_zero, rdK_cells, List.drop_zero, List.take_succ_cons, List.take_nil, loadK_n, valK_some, ex_call, List.map_cons, List.map_nil, pcallA_eq, frzN, List.mapM_cons, frz_agg, frz_sl, List.mapM_nil, Option.pure_def, Option.bind_eq_bind, Option.bind_some, Option.map_some, argK_some, hfull, retK_some, scal, scal1, Bool.and_true, Bool.false_eq_true, fzIds, List.flatMap_cons, bor_agg, bor_sl, List.flatMap_nil, List.foldl_nil, ite_self, ex_store, Nat.reduceAdd, wr_ptr, wrK_cells, splice, List.take_zero, List.drop_succ_cons, List.drop_nil, storeK_some, putK_no, run_draw, runFree_cons, foper_none, fe_faddr, ex_faddr, faddrA_ptr, fstK_some, fputK_to, freeK_some, fe_load, loadK_1, fe_call, h5, quietK_some, quietCall, List.isEmpty_nil, Bool.or_true, Nat.add_zero, fe_len, ex_len, lenA_sl, castLit, runFree_nil, drawK_some, adopt, adoptVal, ex_mov, hrl, run_label, run_block, run_loop, a12l0c, hl, blockK_exit, ex_bin, bin_rem, ctmod, hm0, run_drawp, runPriv_cons, isPriv_faddr, privA_eq, AOp.args, dataV, data1, privK_some, relV, rel2, rel1, allData_nil, and_self, if_false, free1K_some, isPriv_load, isPriv_mov, priv1K_some, isPriv_slice, List.append_assoc, Bool.true_and, ex_slice, Option.map_none, sliceA_sl, fe_slice, fe_mov, bounds_ns, Int.toNat_zero, cutK_sl, Nat.sub_zero, Nat.mul_one, isPriv_ocall, ex_ocall, ocArgK_some, hc, ocK_some, liftV, lift2, lift1, Bool.false_and, bounds_sn, bs_take, htk, isPriv_bslt, ex_bslice, beq_self_eq_true, repz_2, fillA, Nat.reduceLeDiff, Nat.le_refl, newK_some, newA_data, slK_some, runPriv_nil, consK_some, fe_bslice, drawpK_some, adoptS_nil, adoptL, hcc', ex_build, List.getElem?_cons_succ, apartK_some, run_ret, bodyK_ret, results_1, res_cell, cellK_some, mkv_n, retvK_some, ocallK_some, compact_agg, take2_agg, takeL_cons, take1_sl, tkL_some, take1_own, findI_nil, t1I_new, dat_bs, takeL_nil]
end Go.Abs.Lasso
