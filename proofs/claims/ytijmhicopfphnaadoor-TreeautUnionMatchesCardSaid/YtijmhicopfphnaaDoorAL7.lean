/- both, States, Accepts. -/
import Derived.Test.YtijmhicopfphnaaDoorAL6
namespace Go.Abs.Tree
open Go Go.Abs
set_option linter.unusedSimpArgs false
set_option linter.unusedVariables false

/-- what every value of the type has -/
structure TyA (n : Aut) : Prop where
  st : n.st.length < 1099511627776
  fi : n.fi.length < 1099511627776
  rl : n.rl.length < 1099511627776
  u8 : ∀ e ∈ n.rl, e.p < 256 ∧ e.n < 256

structure Valid (n : Aut) : Prop where
  v0 : 0 ≤ n.vars
  v3 : n.vars ≤ 3
  s0 : 0 ≤ n.states
  s64 : n.states ≤ 64
  rl : n.rl.length ≤ 512
  st : ascB n.states (-1) n.st = true
  fi : ascB n.states (-1) n.fi = true
  ru : rlsErr n.states n.vars.toNat n.rl = 0

theorem chkE_zero {n : Aut} : chkE n = 0 ↔ Valid n := by
  have g : ∀ l, ascErr n.states l = 0 ↔ ascB n.states (-1) l = true := fun l => by unfold ascErr; split <;> simp_all
  unfold chkE
  constructor
  · intro h
    split at h
    · omega
    · split at h
      · omega
      · split at h
        · omega
        · split at h
          · rename_i c1 c2 c3 c4
            exact ⟨by omega, by omega, by omega, by omega, by omega, (g _).1 c4.1, (g _).1 c4.2, h⟩
          · omega
  · rintro ⟨v0, v3, s0, s64, rl, st, fi, ru⟩
    rw [if_neg (by omega), if_neg (by omega), if_neg (by omega), if_pos ⟨(g _).2 st, (g _).2 fi⟩, ru]

theorem ascB_mem {s : Int} : ∀ {l : List Int} {last : Int}, ascB s last l = true → ∀ q ∈ l, last < q ∧ q < s
  | [], _, _, q, h => by simp at h
  | a :: t, last, h, q, hq => by
    unfold ascB at h
    split at h
    · cases h
    · rcases List.mem_cons.1 hq with rfl | hq
      · omega
      · have := ascB_mem h q hq
        omega

theorem rlsErr_mem {s : Int} {v : Nat} : ∀ {l : List Rl}, rlsErr s v l = 0 → ∀ e ∈ l, rlErr s v e = 0
  | [], _, e, h => by simp at h
  | a :: t, h, e, he => by
    unfold rlsErr at h
    split at h
    · rcases List.mem_cons.1 he with rfl | he
      · assumption
      · exact rlsErr_mem h e he
    · contradiction

theorem Valid.sts {n : Aut} (h : Valid n) : ∀ q ∈ n.st, 0 ≤ q ∧ q < 64 := fun q hq => by
  have := ascB_mem h.st q hq
  have := h.s64
  omega
theorem Valid.fis {n : Aut} (h : Valid n) : ∀ q ∈ n.fi, 0 ≤ q ∧ q < 64 := fun q hq => by
  have := ascB_mem h.fi q hq
  have := h.s64
  omega
theorem Valid.rule {n : Aut} (h : Valid n) : ∀ e ∈ n.rl, (0 ≤ e.l ∧ e.l < n.states) ∧ (0 ≤ e.r ∧ e.r < n.states) ∧ (0 ≤ e.t ∧ e.t < n.states) := fun e he => by
  have h1 := rlsErr_mem h.ru e he
  unfold rlErr at h1
  split at h1
  · omega
  · omega
theorem Valid.ok {n : Aut} (h : Valid n) (hT : TyA n) : RlOk n.rl := fun e he => by
  have h1 := h.rule e he
  have h2 := h.s64
  have h3 := hT.u8 e he
  omega

theorem both_ex (n : Aut) (z : Bool) (t : List Lf) (hT : TyA n) (ht : t.length < 1099511627776) (hx : ∀ e ∈ t, e.x < 256) :
    ∃ e : Int, L.pcall 47 [n.av, tw z t] = some (.int .i64 e) ∧ (e = 0 → Valid n ∧ (∀ e ∈ t, e.x >>> n.vars.toNat = 0) ∧ ∃ T, Formed t T) := by
  have h1 := check_eq n hT.st hT.fi hT.rl hT.u8
  by_cases c : chkE n = 0
  · have hV := chkE_zero.1 c
    obtain ⟨v, hv⟩ : ∃ v : Nat, n.vars = (v : Nat) := ⟨n.vars.toNat, by have := hV.v0; omega⟩
    have htv : n.vars.toNat = v := by omega
    obtain ⟨e, h2, h3⟩ := tcheck_ex z t v (by have := hV.v3; omega) ht hx
    rw [c] at h1
    refine ⟨e, ?_, fun h => ⟨hV, by rw [htv]; exact (h3 h).1, (h3 h).2⟩⟩
    rw [a47p, a47, pbodyA_eq]
    rw [← hv] at h2
    simp (maxSteps := 30000000) (disch := first | assumption | omega | (simp only [List.length_cons, List.length_nil, List.length_append, List.length_set, List.length_replicate, List.length_map, List.length_range, List.length_take, List.length_drop, List.all_cons, List.all_nil, AV.isCell, Bool.and_self, Bool.and_true, bs_length, is64_length, w64_length, ints_length, lfs_length, rls_length] <;> omega) | rfl | decide) only [bodyA_eq, List.length_cons, List.length_nil, Nat.zero_add, Nat.reduceAdd, Nat.reduceSub, pads, List.cons_append, List.nil_append, run_seq, run_region, runOps_cons, oper_none, ex_box, AV.cells, opv, List.getD_cons_zero, List.all_cons, AV.isCell, List.all_nil, Bool.and_self, ↓reduceIte, putK_to, List.set_cons_succ, List.set_cons_zero, opsK_some, ex_mov, runOps_nil, regK_some, seqK_normal, ex_load, List.getD_cons_succ, rd_ptr, List.getElem?_cons_zero, rdK_cells, List.drop_zero, List.take_succ_cons, List.take_nil, loadK_n, valK_some, ex_call, List.map_cons, List.map_nil, pcallA_eq, frzN, List.mapM_cons, frz_agg, frz_int, frz_sl, List.mapM_nil, Option.pure_def, Option.bind_eq_bind, Option.bind_some, Option.map_some, argK_some, h1, retK_some, scal, scal1, ex_bin, bin_neq, decide_true, Bool.not_true, run_cond, condK_bool, Bool.false_eq_true, run_skip, ex_faddr, faddrA_ptr, Nat.add_zero, List.take_zero, loadK_1, h2, run_ret, bodyK_ret, results_1, res_tmp, retvK_some, pbodyK_some]
  · refine ⟨chkE n, ?_, fun h => (c h).elim⟩
    rw [a47p, a47, pbodyA_eq]
    simp (maxSteps := 30000000) (disch := first | assumption | omega | (simp only [List.length_cons, List.length_nil, List.length_append, List.length_set, List.length_replicate, List.length_map, List.length_range, List.length_take, List.length_drop, List.all_cons, List.all_nil, AV.isCell, Bool.and_self, Bool.and_true, bs_length, is64_length, w64_length, ints_length, lfs_length, rls_length] <;> omega) | rfl | decide) only [bodyA_eq, List.length_cons, List.length_nil, Nat.zero_add, Nat.reduceAdd, Nat.reduceSub, pads, List.cons_append, List.nil_append, run_seq, run_region, runOps_cons, oper_none, ex_box, AV.cells, opv, List.getD_cons_zero, List.all_cons, AV.isCell, List.all_nil, Bool.and_self, ↓reduceIte, putK_to, List.set_cons_succ, List.set_cons_zero, opsK_some, ex_mov, runOps_nil, regK_some, seqK_normal, ex_load, List.getD_cons_succ, rd_ptr, List.getElem?_cons_zero, rdK_cells, List.drop_zero, List.take_succ_cons, List.take_nil, loadK_n, valK_some, ex_call, List.map_cons, List.map_nil, pcallA_eq, frzN, List.mapM_cons, frz_agg, frz_int, frz_sl, List.mapM_nil, Option.pure_def, Option.bind_eq_bind, Option.bind_some, Option.map_some, argK_some, h1, retK_some, scal, scal1, ex_bin, bin_neq, c, decide_false, Bool.not_false, run_cond, condK_bool, run_ret, seqK_ret, bodyK_ret, results_1, res_tmp, retvK_some, pbodyK_some]

/-- the states of the tree, as a word -/
def evA (n : Aut) (T : BT) : Nat := ev (wordM 0 n.st) n.rl T

theorem and_ne {a b : Nat} : a &&& b ≠ 0 ↔ ∃ j, a.testBit j = true ∧ b.testBit j = true := by
  constructor
  · intro h
    obtain ⟨j, hj⟩ := Nat.exists_testBit_ne_of_ne h
    rw [Nat.zero_testBit, Nat.testBit_and] at hj
    exact ⟨j, by simpa using hj⟩
  · rintro ⟨j, h1, h2⟩ h
    have : (a &&& b).testBit j = true := by rw [Nat.testBit_and, h1, h2]; rfl
    rw [h, Nat.zero_testBit] at this
    cases this

theorem run_ex (n : Aut) (z : Bool) (t : List Lf) (hT : TyA n) (ht : t.length < 1099511627776) (hx : ∀ e ∈ t, e.x < 256) :
    ∃ (e : Int) (zz : Bool) (l : List Nat) (b : Bool), L.pcall 16 [n.av, tw z t] = some (.tup [sw zz l, .int .i64 e]) ∧ L.pcall 18 [n.av, tw z t] = some (.tup [.bool b, .int .i64 e]) ∧
      (e ≠ 0 → zz = true ∧ l = [] ∧ b = false) ∧
      (e = 0 → Valid n ∧ (∃ T, Formed t T) ∧ ∀ T, Formed t T → HasSet (sw zz l) (fun j => decide (j < 64) && (evA n T).testBit j) ∧ (b = true ↔ ∃ j, (evA n T).testBit j = true ∧ n.fi.contains (j : Int) = true)) := by
  obtain ⟨e, h1, h2⟩ := both_ex n z t hT ht hx
  by_cases c : e = 0
  · subst c
    obtain ⟨hV, -, T, hF⟩ := h2 rfl
    have hs : ∀ T, Formed t T → L.pcall 49 [n.av, tw z t] = some (.int .u64 (evA n T : Nat)) := fun T hF => states_eq ht hx hT.rl (hV.ok hT) hT.st hV.sts hF
    have hlt : ∀ T, evA n T < 18446744073709551616 := fun T => ev_lt (wordM_lt _ _ (by omega) hV.sts) (hV.ok hT) T
    have h49 := hs T hF
    have same : ∀ T', Formed t T' → evA n T' = evA n T := fun T' hF' => by
      have h := (hs T' hF').symm.trans h49
      injection h with h
      injection h with _ h
      omega
    have hw := word_eq n.z2 n.fi hT.fi hV.fis
    have hwl := wordM_lt n.fi 0 (by omega) hV.fis
    have hand := and64 (hlt T) hwl
    obtain ⟨zz, l, h5, h6⟩ := set_has (hlt T)
    have hb : ((((evA n T &&& wordM 0 n.fi : Nat) : Int) = 0)) = (evA n T &&& wordM 0 n.fi = 0) := propext ⟨fun h => by omega, fun h => by omega⟩
    refine ⟨0, zz, l, !decide (evA n T &&& wordM 0 n.fi = 0), ?_, ?_, fun h => (h rfl).elim, fun _ => ⟨hV, ⟨T, hF⟩, fun T' hF' => ?_⟩⟩
    · rw [a16p, a16, pbodyA_eq]
      simp (maxSteps := 30000000) (disch := first | assumption | omega | (simp only [List.length_cons, List.length_nil, List.length_append, List.length_set, List.length_replicate, List.length_map, List.length_range, List.length_take, List.length_drop, List.all_cons, List.all_nil, AV.isCell, Bool.and_self, Bool.and_true, bs_length, is64_length, w64_length, ints_length, lfs_length, rls_length] <;> omega) | rfl | decide) only [bodyA_eq, List.length_cons, List.length_nil, Nat.zero_add, Nat.reduceAdd, Nat.reduceSub, pads, List.cons_append, List.nil_append, run_seq, run_region, runOps_cons, oper_none, ex_box, AV.cells, opv, List.getD_cons_zero, List.all_cons, AV.isCell, List.all_nil, Bool.and_self, ↓reduceIte, putK_to, List.set_cons_succ, List.set_cons_zero, opsK_some, ex_mov, runOps_nil, regK_some, seqK_normal, ex_load, List.getD_cons_succ, rd_ptr, List.getElem?_cons_zero, rdK_cells, List.drop_zero, List.take_succ_cons, List.take_nil, loadK_n, valK_some, ex_call, List.map_cons, List.map_nil, pcallA_eq, frzN, List.mapM_cons, frz_agg, frz_int, frz_sl, List.mapM_nil, Option.pure_def, Option.bind_eq_bind, Option.bind_some, Option.map_some, argK_some, h1, retK_some, scal, scal1, ex_bin, bin_neq, decide_true, Bool.not_true, run_cond, condK_bool, Bool.false_eq_true, run_skip, h49, h5, fzIds, List.flatMap_cons, bor_int, List.flatMap_nil, List.append_nil, List.foldl_nil, run_ret, bodyK_ret, results_2, resL_cons, res_tmp, resK_some, resL_nil, retvK_some, pbodyK_some, frz_tup]
    · rw [a18p, a18, pbodyA_eq]
      simp (maxSteps := 30000000) (disch := first | assumption | omega | (simp only [List.length_cons, List.length_nil, List.length_append, List.length_set, List.length_replicate, List.length_map, List.length_range, List.length_take, List.length_drop, List.all_cons, List.all_nil, AV.isCell, Bool.and_self, Bool.and_true, bs_length, is64_length, w64_length, ints_length, lfs_length, rls_length] <;> omega) | rfl | decide) only [bodyA_eq, List.length_cons, List.length_nil, Nat.zero_add, Nat.reduceAdd, Nat.reduceSub, pads, List.cons_append, List.nil_append, run_seq, run_region, runOps_cons, oper_none, ex_box, AV.cells, opv, List.getD_cons_zero, List.all_cons, AV.isCell, List.all_nil, Bool.and_self, ↓reduceIte, putK_to, List.set_cons_succ, List.set_cons_zero, opsK_some, ex_mov, runOps_nil, regK_some, seqK_normal, ex_load, List.getD_cons_succ, rd_ptr, List.getElem?_cons_zero, rdK_cells, List.drop_zero, List.take_succ_cons, List.take_nil, loadK_n, valK_some, ex_call, List.map_cons, List.map_nil, pcallA_eq, frzN, List.mapM_cons, frz_agg, frz_int, frz_sl, List.mapM_nil, Option.pure_def, Option.bind_eq_bind, Option.bind_some, Option.map_some, argK_some, h1, retK_some, scal, scal1, ex_bin, bin_neq, decide_true, Bool.not_true, run_cond, condK_bool, Bool.false_eq_true, run_skip, run_draw, List.take_zero, runFree_cons, foper_none, fe_load, fstK_some, fputK_to, freeK_some, fe_mov, fe_call, h49, quietK_some, quietCall, List.flatMap_cons, bor_agg, bor_int, bor_sl, List.flatMap_nil, List.append_nil, Bool.or_true, fe_faddr, ex_faddr, faddrA_ptr, List.drop_succ_cons, loadK_1, runFree_nil, drawK_some, adopt, adoptVal, hw, bin_and, hand, hb, run_ret, bodyK_ret, results_2, resL_cons, res_tmp, resK_some, resL_nil, retvK_some, pbodyK_some, frz_tup, frz_bool]
    · rw [same T' hF']
      refine ⟨h6, ?_⟩
      have h0 : ∀ q ∈ n.fi, 0 ≤ q := fun q hq => (hV.fis q hq).1
      rw [show ((!decide (evA n T &&& wordM 0 n.fi = 0)) = true ↔ evA n T &&& wordM 0 n.fi ≠ 0) from by simp, and_ne]
      constructor
      · rintro ⟨j, a, b⟩
        rw [wordM_bit _ _ _ h0, Nat.zero_testBit, Bool.false_or] at b
        exact ⟨j, a, b⟩
      · rintro ⟨j, a, b⟩
        exact ⟨j, a, by rw [wordM_bit _ _ _ h0, Nat.zero_testBit, Bool.false_or]; exact b⟩
  · refine ⟨e, true, [], false, ?_, ?_, fun _ => ⟨rfl, rfl, rfl⟩, fun h => (c h).elim⟩
    · rw [a16p, a16, pbodyA_eq]
      simp (maxSteps := 30000000) (disch := first | assumption | omega | (simp only [List.length_cons, List.length_nil, List.length_append, List.length_set, List.length_replicate, List.length_map, List.length_range, List.length_take, List.length_drop, List.all_cons, List.all_nil, AV.isCell, Bool.and_self, Bool.and_true, bs_length, is64_length, w64_length, ints_length, lfs_length, rls_length] <;> omega) | rfl | decide) only [bodyA_eq, List.length_cons, List.length_nil, Nat.zero_add, Nat.reduceAdd, Nat.reduceSub, pads, List.cons_append, List.nil_append, run_seq, run_region, runOps_cons, oper_none, ex_box, AV.cells, opv, List.getD_cons_zero, List.all_cons, AV.isCell, List.all_nil, Bool.and_self, ↓reduceIte, putK_to, List.set_cons_succ, List.set_cons_zero, opsK_some, ex_mov, runOps_nil, regK_some, seqK_normal, ex_load, List.getD_cons_succ, rd_ptr, List.getElem?_cons_zero, rdK_cells, List.drop_zero, List.take_succ_cons, List.take_nil, loadK_n, valK_some, ex_call, List.map_cons, List.map_nil, pcallA_eq, frzN, List.mapM_cons, frz_agg, frz_int, frz_sl, List.mapM_nil, Option.pure_def, Option.bind_eq_bind, Option.bind_some, Option.map_some, argK_some, h1, retK_some, scal, scal1, ex_bin, bin_neq, c, decide_false, Bool.not_false, run_cond, condK_bool, run_ret, seqK_ret, bodyK_ret, results_2, resL_cons, res_tmp, resK_some, resL_nil, retvK_some, pbodyK_some, frz_tup]
      rfl
    · rw [a18p, a18, pbodyA_eq]
      simp (maxSteps := 30000000) (disch := first | assumption | omega | (simp only [List.length_cons, List.length_nil, List.length_append, List.length_set, List.length_replicate, List.length_map, List.length_range, List.length_take, List.length_drop, List.all_cons, List.all_nil, AV.isCell, Bool.and_self, Bool.and_true, bs_length, is64_length, w64_length, ints_length, lfs_length, rls_length] <;> omega) | rfl | decide) only [bodyA_eq, List.length_cons, List.length_nil, Nat.zero_add, Nat.reduceAdd, Nat.reduceSub, pads, List.cons_append, List.nil_append, run_seq, run_region, runOps_cons, oper_none, ex_box, AV.cells, opv, List.getD_cons_zero, List.all_cons, AV.isCell, List.all_nil, Bool.and_self, ↓reduceIte, putK_to, List.set_cons_succ, List.set_cons_zero, opsK_some, ex_mov, runOps_nil, regK_some, seqK_normal, ex_load, List.getD_cons_succ, rd_ptr, List.getElem?_cons_zero, rdK_cells, List.drop_zero, List.take_succ_cons, List.take_nil, loadK_n, valK_some, ex_call, List.map_cons, List.map_nil, pcallA_eq, frzN, List.mapM_cons, frz_agg, frz_int, frz_sl, List.mapM_nil, Option.pure_def, Option.bind_eq_bind, Option.bind_some, Option.map_some, argK_some, h1, retK_some, scal, scal1, ex_bin, bin_neq, c, decide_false, Bool.not_false, run_cond, condK_bool, run_ret, seqK_ret, bodyK_ret, results_2, resL_cons, res_tmp, resK_some, resL_nil, retvK_some, pbodyK_some, frz_tup, frz_bool]
end Go.Abs.Tree
