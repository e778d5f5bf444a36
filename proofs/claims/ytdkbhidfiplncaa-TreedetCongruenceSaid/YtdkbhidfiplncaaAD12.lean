/- run; both; Run. -/
import Derived.Test.YtdkbhidfiplncaaAD11
namespace Go.Abs.Det
open Go Go.Abs
set_option linter.unusedSimpArgs false
set_option linter.unusedVariables false

theorem drun_loop {D : Da} (hV : Va D) {z : Bool} {t : List Lf} {S : List Int} (ht : t.length ≤ 31) (hS : S.length = t.length + 1) (hx : ∀ e ∈ t, e.x < two D.vars)
    (hend : S.getD t.length 0 = D.empty) (hbd : ∀ s ∈ S, 0 ≤ s ∧ s < D.next.length)
    (hrec : ∀ k, k < t.length → S.getD k 0 = nx D (if (t.getD k f0).l < 0 then D.empty else S.getD (t.getD k f0).l.toNat 0) (if (t.getD k f0).r < 0 then D.empty else S.getD (t.getD k f0).r.toNat 0) (t.getD k f0).x ∧
      ((t.getD k f0).l = -1 ∨ ((k : Int) < (t.getD k f0).l ∧ (t.getD k f0).l < (t.length : Nat))) ∧ ((t.getD k f0).r = -1 ∨ ((k : Int) < (t.getD k f0).r ∧ (t.getD k f0).r < (t.length : Nat)))) :
    ∀ i, i ≤ t.length → L.loop a54l0s a54l0 ⟨a54l0F (tw z t) (.ptr 0 0) (.ptr 3 0) (.func 100 [.ptr 1 0, .ptr 3 0]) (.int .i64 ((i : Nat) - 1)), [.cells false false D.cells, .cells false false [.int .i64 (t.length : Nat)], .cells false false (ints (List.replicate i 0 ++ S.drop i)), .cells false false [.own false 2 0 (t.length + 1) 1]]⟩ =
      some (.exit 0, ⟨a54l0F (tw z t) (.ptr 0 0) (.ptr 3 0) (.func 100 [.ptr 1 0, .ptr 3 0]) (.int .i64 (-1)), [.cells false false D.cells, .cells false false [.int .i64 (t.length : Nat)], .cells false false (ints S), .cells false false [.own false 2 0 (t.length + 1) 1]]⟩) := by
  intro i
  induction i with
  | zero =>
    intro _
    rw [List.replicate_zero, List.nil_append, List.drop_zero]
    have e1 : (((0 : Nat) : Int) - 1) = -1 := by omega
    rw [e1, a54l0n]
    simp (maxSteps := 30000000) (disch := first | assumption | omega | (simp only [List.length_cons, List.length_nil, List.length_append, List.length_set, List.length_replicate, List.length_map, List.length_range, List.length_take, List.length_drop, List.all_cons, List.all_nil, AV.isCell, Bool.and_self, Bool.and_true, bs_length, is64_length, w64_length, ints_length, ints_length, bools_len, List.length_map, lfs_length] <;> omega) | rfl | decide) only [a54l0b, Int.reduceNeg, run_seq, run_region, runOps_cons, oper_none, ex_mov, opv, List.getD_cons_succ, List.getD_cons_zero, putK_to, List.set_cons_succ, List.set_cons_zero, opsK_some, ex_bin, bin_geq, Int.reduceLE, decide_false, valK_some, runOps_nil, regK_some, seqK_normal, run_cond, condK_bool, Bool.false_eq_true, ↓reduceIte, run_exit, seqK_exit, loopK_exit, a54l0c]
  | succ i ih =>
    intro hi
    have ih' := ih (by omega)
    obtain ⟨q1, q2, q3⟩ := hrec i (by omega)
    have e1 : (((i + 1 : Nat) : Int) - 1) = (i : Nat) := by omega
    have hlen : (List.replicate (i + 1) 0 ++ S.drop (i + 1)).length = t.length + 1 := by simp; omega
    have hc0 : ∀ k, i < k → k ≤ t.length → (List.replicate (i + 1) 0 ++ S.drop (i + 1)).getD k 0 = S.getD k 0 := fun k h1 h2 => by
      simp only [List.getD_eq_getElem?_getD]
      rw [List.getElem?_append_right (by simp; omega), List.getElem?_drop]
      congr 2; simp; omega
    have hset : ∀ y : Int, y = S.getD i 0 → (List.replicate (i + 1) 0 ++ S.drop (i + 1)).set i y = List.replicate i 0 ++ S.drop i := fun y hy => by
      subst hy
      apply List.ext_getElem?
      intro k
      rw [List.getElem?_set]
      by_cases c : i = k
      · subst c
        rw [if_pos rfl, if_pos (by rw [hlen]; omega), List.getElem?_append_right (by simp), List.getElem?_drop]
        have : i + (i - (List.replicate i (0 : Int)).length) = i := by simp
        rw [this, List.getD_eq_getElem?_getD, List.getElem?_eq_getElem (by omega)]
        rfl
      · rw [if_neg c]
        rcases Nat.lt_or_ge k i with h | h
        · rw [List.getElem?_append_left (by simp; omega), List.getElem?_append_left (by simp; omega), List.getElem?_replicate, List.getElem?_replicate, if_pos (by omega), if_pos h]
        · rw [List.getElem?_append_right (by simp; omega), List.getElem?_append_right (by simp; omega), List.getElem?_drop, List.getElem?_drop]
          congr 1; simp; omega
    generalize hcur : List.replicate (i + 1) 0 ++ S.drop (i + 1) = cur at *
    have hxi := hx _ (getF_mem (show i < t.length by omega))
    generalize hL : (if (t.getD i f0).l < 0 then D.empty else S.getD (t.getD i f0).l.toNat 0) = sl at *
    generalize hR : (if (t.getD i f0).r < 0 then D.empty else S.getD (t.getD i f0).r.toNat 0) = sr at *
    have hin : ∀ k, k ≤ t.length → 0 ≤ S.getD k 0 ∧ S.getD k 0 < D.next.length := fun k hk => hbd _ (getD_in (by omega))
    have hl1 : L.pcall 100 [.int .i64 (t.getD i f0).l, .vptr [.int .i64 (t.length : Nat)] 0, .vptr [.sl false (t.length + 1) (ints cur)] 0] = some (.int .i64 sl) ∧ 0 ≤ sl ∧ sl < D.next.length := by
      have h := at100 (c := (t.getD i f0).l) hlen (by omega) (by omega)
      rw [h, ← hL]
      by_cases c : (t.getD i f0).l < 0
      · rw [if_pos c, if_pos c, hc0 _ (by omega) (Nat.le_refl _), hend]
        exact ⟨rfl, hV.e0, hV.en⟩
      · rw [if_neg c, if_neg c, hc0 _ (by omega) (by omega)]
        exact ⟨rfl, hin _ (by omega)⟩
    have hr1 : L.pcall 100 [.int .i64 (t.getD i f0).r, .vptr [.int .i64 (t.length : Nat)] 0, .vptr [.sl false (t.length + 1) (ints cur)] 0] = some (.int .i64 sr) ∧ 0 ≤ sr ∧ sr < D.next.length := by
      have h := at100 (c := (t.getD i f0).r) hlen (by omega) (by omega)
      rw [h, ← hR]
      by_cases c : (t.getD i f0).r < 0
      · rw [if_pos c, if_pos c, hc0 _ (by omega) (Nat.le_refl _), hend]
        exact ⟨rfl, hV.e0, hV.en⟩
      · rw [if_neg c, if_neg c, hc0 _ (by omega) (by omega)]
        exact ⟨rfl, hin _ (by omega)⟩
    obtain ⟨hl1, hl2⟩ := hl1
    obtain ⟨hr1, hr2⟩ := hr1
    have k1 := getD_in (a := ([] : List (List Int))) (show sl.toNat < D.next.length by omega)
    have l1 := hV.rl _ k1
    have k2 := getD_in (a := ([] : List Int)) (show sr.toNat < (D.next.getD sl.toNat []).length by omega)
    have l2 := hV.cl _ k1 _ k2
    have hst := hset _ q1.symm
    unfold nx at hst
    have n64 := hV.n64
    have htk : List.take (t.length + 1) cur = cur := List.take_of_length_le (by omega)
    have hgc : List.take 1 (List.drop (t.getD i f0).x (ints ((D.next.getD sl.toNat []).getD sr.toNat []))) = [.int .i64 (((D.next.getD sl.toNat []).getD sr.toNat []).getD (t.getD i f0).x 0)] := map_at1 _ _ (by omega)
    have hge : (0 : Int) ≤ (i : Nat) := by omega
    have hx8 : two D.vars ≤ 8 := (two_bd hV.v3).1
    clear hrec hset hc0 hin hbd hx
    unfold Da.cells at ih' ⊢
    rw [e1, a54l0n]
    simp (maxSteps := 30000000) (disch := first | assumption | omega | (simp only [List.length_cons, List.length_nil, List.length_append, List.length_set, List.length_replicate, List.length_map, List.length_range, List.length_take, List.length_drop, List.all_cons, List.all_nil, AV.isCell, Bool.and_self, Bool.and_true, bs_length, is64_length, w64_length, ints_length, ints_length, bools_len, List.length_map, lfs_length] <;> omega) | rfl | decide) only [a54l0b, run_seq, run_region, runOps_cons, oper_none, ex_mov, opv, List.getD_cons_succ, List.getD_cons_zero, putK_to, List.set_cons_succ, List.set_cons_zero, opsK_some, ex_bin, bin_geq, hge, decide_true, valK_some, runOps_nil, regK_some, seqK_normal, run_cond, condK_bool, ↓reduceIte, run_skip, run_block, run_draw, List.take_succ_cons, List.take_zero, runFree_cons, foper_none, fe_load, ex_load, rd_ptr, List.getElem?_cons_succ, List.getElem?_cons_zero, rdK_cells, List.drop_zero, List.take_nil, loadK_1, fstK_some, fputK_to, freeK_some, fe_mov, fe_faddr, ex_faddr, faddrA_ptr, Nat.zero_add, List.drop_succ_cons, fe_iaddr, ex_iaddr, iaddrA_sl, Int.toNat_natCast, faddrA_vptr, rd_vptr, lfs_at1, fe_fcall, List.map_cons, List.map_nil, fquietK_func, List.cons_append, List.nil_append, pcallA_eq, frzN, List.mapM_cons, frz_int, frz_ptr, ptrK_cells, List.mapM_nil, Option.pure_def, Option.bind_eq_bind, Option.bind_some, Option.map_some, frz_own, frzK_cells, Nat.mul_one, ints_take, htk, frz_ints, slK_some, argK_some, hl1, retK_some, scal, scal1, quietK_some, quietCall, List.flatMap_cons, bor_int, bor_ptr, borPK_cells, List.flatMap_nil, List.append_nil, bor_own, borK_cells, bor_ints, List.all_cons, frozenB_eq, List.all_nil, Bool.and_true, Bool.true_or, rows_at, rowsD, l1, lfs_at2, hr1, row_at, rowT, l2, Nat.add_zero, lfs_at0, runFree_nil, drawK_some, adopt, adoptVal, ints_drop, ints_at0, getD_dropI, iaddrA_own, ex_store, AV.cells, List.length_cons, List.length_nil, wr_ptr, wrK_cells, splice, List.append_assoc, ints_put1, hst, storeK_some, putK_no, blockK_normal, bin_sub, wr64, loopK_normal, a54l0c, ih', Int.reduceNeg]

theorem run54 {D : Da} (hV : Va D) (z : Bool) {T : BT} (ht : T.size ≤ 31) (hx : T.labs (· < two D.vars)) : L.pcall 54 [D.av, tw z (encT 0 T)] = some (.sl false (T.size + 1) (ints (stL D T ++ [D.empty]))) := by
  have hl := encT_length T 0
  have hsl := stL_len D T
  have hS : ∀ k, k < T.size → (stL D T ++ [D.empty]).getD k 0 = (stL D T).getD k 0 := fun k hk => by
    simp only [List.getD_eq_getElem?_getD]
    rw [List.getElem?_append_left (by omega)]
  have hE : (stL D T ++ [D.empty]).getD (encT 0 T).length 0 = D.empty := by
    simp only [List.getD_eq_getElem?_getD]
    rw [List.getElem?_append_right (by omega), hl, hsl, Nat.sub_self]; rfl
  have hbd : ∀ s ∈ stL D T ++ [D.empty], 0 ≤ s ∧ s < D.next.length := by
    have key : ∀ T : BT, T.labs (· < two D.vars) → ∀ s ∈ stL D T, 0 ≤ s ∧ s < D.next.length := by
      intro T
      induction T with
      | nil => intro _ s hs; cases hs
      | node x l r ihl ihr =>
        intro h s hs
        rw [stL, List.mem_cons, List.mem_append] at hs
        rcases hs with rfl | hs | hs
        · exact stB_bd hV h
        · exact ihl h.2.1 s hs
        · exact ihr h.2.2 s hs
    intro s hs
    rcases List.mem_append.1 hs with q | q
    · exact key T hx s q
    · rw [List.mem_singleton.1 q]; exact ⟨hV.e0, hV.en⟩
  have hrec := fun k (hk : k < (encT 0 T).length) => by
    have := rec_at D T 0 (fun k => (stL D T ++ [D.empty]).getD k 0) (fun k hk => by rw [Nat.zero_add]; exact hS k hk) k (by omega)
    simp only [Nat.zero_add] at this
    rw [← hl] at this
    exact this
  have h := drun_loop hV (z := z) (t := encT 0 T) (S := stL D T ++ [D.empty]) (by omega) (by simp; omega) (fun e he => (enc_labs T 0).2 hx e he) hE hbd hrec (encT 0 T).length (Nat.le_refl _)
  have hcur : List.replicate (encT 0 T).length 0 ++ (stL D T ++ [D.empty]).drop (encT 0 T).length = (List.replicate (T.size + 1) (0 : Int)).set T.size D.empty := by
    rw [List.drop_append_of_le_length (by omega), List.drop_of_length_le (by omega), hl, List.replicate_succ', List.set_append_right _ _ (by simp)]
    simp
  rw [hcur] at h
  have hfl : (stL D T ++ [D.empty]).length = T.size + 1 := by simp [hsl]
  generalize stL D T ++ [D.empty] = S at *
  have htk : List.take (T.size + 1) S = S := List.take_of_length_le (by omega)
  clear hrec hbd hE hS hcur
  unfold tw at h ⊢
  simp only [hl] at h ⊢
  generalize lfs (encT 0 T) = tl at *
  generalize T.size = n at *
  unfold Da.av
  unfold Da.cells at h ⊢
  rw [a54p, a54, pbodyA_eq]
  simp (maxSteps := 30000000) (disch := first | assumption | omega | (simp only [List.length_cons, List.length_nil, List.length_append, List.length_set, List.length_replicate, List.length_map, List.length_range, List.length_take, List.length_drop, List.all_cons, List.all_nil, AV.isCell, Bool.and_self, Bool.and_true, bs_length, is64_length, w64_length, ints_length, ints_length, bools_len, List.length_map, lfs_length] <;> omega) | rfl | decide) only [bodyA_eq, List.length_cons, List.length_nil, Nat.zero_add, Nat.reduceAdd, Nat.reduceSub, pads, List.cons_append, List.nil_append, run_seq, run_region, runOps_cons, oper_none, ex_box, AV.cells, opv, List.getD_cons_zero, List.all_cons, AV.isCell, List.all_nil, Bool.and_self, ↓reduceIte, putK_to, List.set_cons_succ, List.set_cons_zero, opsK_some, ex_mov, runOps_nil, regK_some, seqK_normal, List.getD_cons_succ, ex_len, lenA_sl, valK_some, ex_store, wr_ptr, List.getElem?_cons_succ, List.getElem?_cons_zero, wrK_cells, splice, List.take_zero, List.drop_succ_cons, List.drop_nil, List.append_nil, storeK_some, putK_no, ex_load, rd_ptr, rdK_cells, List.drop_zero, List.take_succ_cons, List.take_nil, loadK_1, ex_bin, bin_add, cadd1, wr64, ex_mkslice, mksK_int, Int.toNat_natCast, repz_ints, newA_own, ex_faddr, faddrA_ptr, ex_iaddr, iaddrA_own, Nat.mul_one, ints_take, ints_drop, List.append_assoc, ints_put1, ex_mkfunc, List.map_cons, List.map_nil, bin_sub, run_block, run_loop, a54l0c, h, Int.reduceNeg, blockK_exit, run_ret, bodyK_ret, results_1, res_tmp, retvK_some, pbodyK_some, frzN, frz_own, frzK_cells, htk, frz_ints, slK_some]

theorem both53 (D : Da) (z : Bool) (t : List Lf) (e1 e2 : Int) (h1 : L.pcall 14 [D.av] = some (.int .i64 e1)) (h2 : e1 = 0 → L.pcall 99 [tw z t, .int .i64 D.vars] = some (.int .i64 e2)) : L.pcall 53 [D.av, tw z t] = some (.int .i64 (if e1 = 0 then e2 else e1)) := by
  unfold Da.av Da.cells at h1 ⊢
  by_cases c : e1 = 0
  · have h2' := h2 c
    subst c
    rw [if_pos rfl, a53p, a53, pbodyA_eq]
    simp (maxSteps := 30000000) (disch := first | assumption | omega | (simp only [List.length_cons, List.length_nil, List.length_append, List.length_set, List.length_replicate, List.length_map, List.length_range, List.length_take, List.length_drop, List.all_cons, List.all_nil, AV.isCell, Bool.and_self, Bool.and_true, bs_length, is64_length, w64_length, ints_length, ints_length, bools_len, List.length_map, lfs_length] <;> omega) | rfl | decide) only [bodyA_eq, List.length_cons, List.length_nil, Nat.zero_add, Nat.reduceAdd, Nat.reduceSub, pads, List.cons_append, List.nil_append, run_seq, run_region, runOps_cons, oper_none, ex_box, AV.cells, opv, List.getD_cons_zero, List.all_cons, AV.isCell, List.all_nil, Bool.and_self, ↓reduceIte, putK_to, List.set_cons_succ, List.set_cons_zero, opsK_some, ex_mov, runOps_nil, regK_some, seqK_normal, ex_load, List.getD_cons_succ, rd_ptr, List.getElem?_cons_zero, rdK_cells, List.drop_zero, List.take_succ_cons, List.take_nil, loadK_n, valK_some, ex_call, List.map_cons, List.map_nil, pcallA_eq, frzN, List.mapM_cons, frz_agg, frz_int, frz_sl, List.mapM_nil, Option.pure_def, Option.bind_eq_bind, Option.bind_some, Option.map_some, argK_some, h1, retK_some, scal, scal1, ex_bin, bin_neq, decide_true, Bool.not_true, run_cond, condK_bool, Bool.false_eq_true, run_skip, ex_faddr, faddrA_ptr, Nat.add_zero, List.take_zero, loadK_1, h2', run_ret, bodyK_ret, results_1, res_tmp, retvK_some, pbodyK_some]
  · rw [if_neg c, a53p, a53, pbodyA_eq]
    simp (maxSteps := 30000000) (disch := first | assumption | omega | (simp only [List.length_cons, List.length_nil, List.length_append, List.length_set, List.length_replicate, List.length_map, List.length_range, List.length_take, List.length_drop, List.all_cons, List.all_nil, AV.isCell, Bool.and_self, Bool.and_true, bs_length, is64_length, w64_length, ints_length, ints_length, bools_len, List.length_map, lfs_length] <;> omega) | rfl | decide) only [bodyA_eq, List.length_cons, List.length_nil, Nat.zero_add, Nat.reduceAdd, Nat.reduceSub, pads, List.cons_append, List.nil_append, run_seq, run_region, runOps_cons, oper_none, ex_box, AV.cells, opv, List.getD_cons_zero, List.all_cons, AV.isCell, List.all_nil, Bool.and_self, ↓reduceIte, putK_to, List.set_cons_succ, List.set_cons_zero, opsK_some, ex_mov, runOps_nil, regK_some, seqK_normal, ex_load, List.getD_cons_succ, rd_ptr, List.getElem?_cons_zero, rdK_cells, List.drop_zero, List.take_succ_cons, List.take_nil, loadK_n, valK_some, ex_call, List.map_cons, List.map_nil, pcallA_eq, frzN, List.mapM_cons, frz_agg, frz_int, frz_sl, List.mapM_nil, Option.pure_def, Option.bind_eq_bind, Option.bind_some, Option.map_some, argK_some, h1, retK_some, scal, scal1, ex_bin, bin_neq, c, decide_false, Bool.not_false, run_cond, condK_bool, run_ret, seqK_ret, bodyK_ret, results_1, res_tmp, retvK_some, pbodyK_some]
end Go.Abs.Det
