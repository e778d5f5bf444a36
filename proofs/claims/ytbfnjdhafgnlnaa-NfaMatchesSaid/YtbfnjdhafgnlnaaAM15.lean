/- The law NfaMatches: joined. -/
import Derived.Test.YtbfnjdhafgnlnaaAM14
namespace Go.Abs.Nfa
open Go Go.Abs
set_option linter.unusedSimpArgs false
set_option linter.unusedVariables false

/-- a list as data, and what 'set' gives of it -/
def LstA (LA : AV) (e : Int) (r : List Nat) : Prop := (∀ d H, frz (d + 1) H LA = some LA) ∧ (∀ d H, bor (d + 1) H LA = []) ∧ ∃ z, L.pcall 27 [LA, .int .i64 e] = some (sw z r)

theorem lst_nil {e : Int} {r : List Nat} (he : e ≠ 0) (hr : r = []) : LstA (.sl true 0 []) e r := by
  subst hr
  exact ⟨fun _ _ => rfl, fun _ _ => rfl, true, set_err _ (fun _ _ => rfl) e he⟩

theorem lst_ok {z : Bool} {l : List Int} {r : List Nat} {S : Nat → Bool} (hl : l.length < 1099511627776) (hq : ∀ q ∈ l, 0 ≤ q ∧ q < 4096) (hc : CanS r S) (hS : ∀ j, inS l j = S j) : LstA (iw z l) 0 r := by
  obtain ⟨z', r', h1, h2⟩ := set_ok z l hl hq
  have := (h2.congr hS).uniq hc
  subst this
  exact ⟨fun _ _ => rfl, fun _ _ => rfl, z', h1⟩

theorem rounds4 {n : Aut} {zs zw zi : Bool} {ls w : List Nat} {x : Nat} {e le wo : Int} {LA LB u1 u2 : AV} {B1 B2 : List Blk} {r1 r2 : List Nat} {t : Bool}
    (h24 : ocallA L 24 [(cpA n).av, sw zs ls, .int .u8 (x : Nat)] = some (.tup [u1, .int .i64 le], B1)) (o1 : OwnS u1 B1 r1) (l1 : r1.length ≤ 64)
    (h25 : ocallA L 25 [(cpA n).av, word zi w] = some (.tup [u2, .int .i64 wo], B2)) (o2 : OwnS u2 B2 r2) (l2 : r2.length ≤ 64)
    (h12 : L.pcall 12 [(cpA n).av, word zi w] = some (.tup [.bool t, .int .i64 wo])) (h11 : L.pcall 11 [(cpA n).av] = some (.int .i64 e))
    (hA : LstA LA le r1) (hB : LstA LB wo r2)
    (h14 : L.pcall 14 [(cpA n).av, n.av] = some (.bool true)) (h28 : L.pcall 28 [word zi w, word zw w] = some (.bool true)) :
    ∃ T', L.loop a4l0s a4l0 ⟨a4l0F (sw zs ls) (.int .u8 (x : Nat)) (word zw w) (.ptr 0 0) (.bool false) (.ptr 1 0) (word zi w) (.int .i64 e) (.int .i64 le) (.int .i64 wo) LA LB (.bool t) (.int .i64 0), [.cells false false n.cells, .cells false false (cpA n).cells]⟩ =
      some (.exit 0, ⟨a4l0F (sw zs ls) (.int .u8 (x : Nat)) (word zw w) (.ptr 0 0) (.bool false) (.ptr 1 0) (word zi w) (.int .i64 e) (.int .i64 le) (.int .i64 wo) LA LB (.bool t) (.int .i64 2), .cells false false n.cells :: .cells false false (cpA n).cells :: T'⟩) := by
  obtain ⟨fA, gA, z1, hA⟩ := hA
  obtain ⟨fB, gB, z2, hB⟩ := hB
  obtain ⟨T1, g1⟩ := round4 h24 o1 l1 h25 o2 l2 h12 h11 fA fB gA gB hA hB h14 h28 0 (by omega) []
  obtain ⟨T2, g2⟩ := round4 h24 o1 l1 h25 o2 l2 h12 h11 fA fB gA gB hA hB h14 h28 1 (by omega) T1
  refine ⟨T2, ?_⟩
  change L.loop a4l0s a4l0 ⟨a4l0F _ _ _ _ _ _ _ _ _ _ _ _ _ (.int .i64 ((0 : Nat))), _⟩ = _
  rw [g1]
  change L.loop a4l0s a4l0 ⟨a4l0F _ _ _ _ _ _ _ _ _ _ _ _ _ (.int .i64 ((1 : Nat))), _⟩ = _
  rw [g2, a4l0n]
  simp (maxSteps := 30000000) (disch := first | assumption | omega | (simp only [List.length_cons, List.length_nil, List.length_append, List.length_set, List.length_replicate, List.length_map, List.length_range, List.length_take, List.length_drop, List.all_cons, List.all_nil, AV.isCell, Bool.and_self, Bool.and_true, bs_length, is64_length, w64_length, ints_length, edges_length] <;> omega) | rfl | decide) only [a4l0b, Nat.reduceAdd, castLit, run_seq, run_region, runOps_cons, oper_none, ex_mov, opv, List.getD_cons_succ, List.getD_cons_zero, putK_to, List.set_cons_succ, List.set_cons_zero, opsK_some, ex_bin, bin_lss, Int.lt_irrefl, decide_false, valK_some, runOps_nil, regK_some, seqK_normal, run_cond, condK_bool, Bool.false_eq_true, run_skip, run_exit, if_false, seqK_exit, loopK_exit, a4l0c]

theorem long_has {z : Bool} {l : List Nat} (hw : W l) (h : l.length < 1000) : HasSet (sw z l) (mem l) := ⟨z, l, rfl, hw, by omega, fun _ => rfl⟩

theorem stepS_congr {ed : List Ed} {S T : Nat → Bool} (h : ∀ j, S j = T j) (x j : Nat) : stepS ed S x j = stepS ed T x j := by
  have : S = T := funext h
  rw [this]

theorem ownR_len {u : AV} {B : List Blk} {r : List Nat} {e : Int} {S : Nat → Bool} (h : OwnR u B r e S) : r.length ≤ 64 := by
  by_cases he : e = 0
  · exact (h.2.1 he).2.1
  · rw [h.2.2 he]; simp

set_option maxRecDepth 10000 in
set_option maxHeartbeats 8000000 in
theorem law4 (avs : List AV) (h : FitTs [TNfa, TSet, TU8, TWord] avs) : L.pcall 4 avs = some (.bool true) := by
  obtain ⟨_, r, rfl, h0, h⟩ := fitTs_cons h
  obtain ⟨_, r, rfl, h1, h⟩ := fitTs_cons h
  obtain ⟨_, r, rfl, h2, h⟩ := fitTs_cons h
  obtain ⟨_, r, rfl, h3, h⟩ := fitTs_cons h
  obtain rfl := fitTs_nil h
  obtain ⟨n, rfl, hz1, hz2, hby⟩ := fit_nfa h0
  obtain ⟨zs, ls, rfl, hW⟩ := fit_set (fitT_one h1)
  obtain ⟨x, rfl, hx⟩ := fit_u8 (fitT_one h2)
  obtain ⟨zw, w, rfl, hzw, hwl, hw⟩ := fit_word (fitT_one h3)
  clear h h0 h1 h2 h3
  have hlong := long1 n
  have hlongS := longS1 zs ls
  have ew : ((100 : Int) < (w.length : Nat)) = (100 < w.length) := propext ⟨fun h => by omega, fun h => by omega⟩
  rw [a4p, a4, pbodyA_eq]
  by_cases d1 : (decide (100 < n.st.length) || decide (100 < n.fi.length) || decide (520 < n.ed.length)) = true
  · simp (maxSteps := 30000000) (disch := first | assumption | omega | (simp only [List.length_cons, List.length_nil, List.length_append, List.length_set, List.length_replicate, List.length_map, List.length_range, List.length_take, List.length_drop, List.all_cons, List.all_nil, AV.isCell, Bool.and_self, Bool.and_true, bs_length, is64_length, w64_length, ints_length, edges_length] <;> omega) | rfl | decide) only [bodyA_eq, List.length_cons, List.length_nil, Nat.zero_add, Nat.reduceAdd, Nat.reduceSub, pads, List.cons_append, List.nil_append, run_seq, run_region, runOps_cons, oper_none, ex_box, AV.cells, opv, List.getD_cons_zero, List.all_cons, AV.isCell, List.all_nil, Bool.and_self, if_true, putK_to, List.set_cons_succ, List.set_cons_zero, opsK_some, ex_mov, runOps_nil, regK_some, seqK_normal, ex_load, List.getD_cons_succ, rd_ptr, List.getElem?_cons_zero, rdK_cells, List.drop_zero, List.take_succ_cons, List.take_nil, loadK_n, valK_some, ex_bslice, beq_self_eq_true, repz_1, List.append_nil, List.map_cons, Nat.reduceMul, List.map_nil, fillA, Nat.le_refl, and_self, splice, List.take_zero, List.drop_succ_cons, List.drop_nil, newK_some, newA_data, frzN, List.flatMap_cons, bor_int, bor_sl, List.flatMap_nil, List.isEmpty_nil, List.mapM_cons, frz_int, frz_sl, List.mapM_nil, Option.pure_def, Option.bind_eq_bind, Option.bind_some, slK_some, ex_call, pcallA_eq, argK_some, hlong, d1, retK_some, scal, scal1, fzIds, List.foldl_nil, ite_self, oper_guard, guardK_bool, Bool.true_eq_false, putA_to, if_false, Nat.mul_one, Bool.and_true, Bool.false_eq_true, true_and, frz_tup, Option.map_some, ex_pick, pickA_bool, ex_len, ex_bin, run_cond, condK_bool, awake_eq, run_ret, run_skip, seqK_ret, bodyK_ret, results_1, res_tmp, retvK_some, pbodyK_some, frz_bool]
  by_cases d2 : 80 < ls.length
  · simp (maxSteps := 30000000) (disch := first | assumption | omega | (simp only [List.length_cons, List.length_nil, List.length_append, List.length_set, List.length_replicate, List.length_map, List.length_range, List.length_take, List.length_drop, List.all_cons, List.all_nil, AV.isCell, Bool.and_self, Bool.and_true, bs_length, is64_length, w64_length, ints_length, edges_length] <;> omega) | rfl | decide) only [bodyA_eq, List.length_cons, List.length_nil, Nat.zero_add, Nat.reduceAdd, Nat.reduceSub, pads, List.cons_append, List.nil_append, run_seq, run_region, runOps_cons, oper_none, ex_box, AV.cells, opv, List.getD_cons_zero, List.all_cons, AV.isCell, List.all_nil, Bool.and_self, if_true, putK_to, List.set_cons_succ, List.set_cons_zero, opsK_some, ex_mov, runOps_nil, regK_some, seqK_normal, ex_load, List.getD_cons_succ, rd_ptr, List.getElem?_cons_zero, rdK_cells, List.drop_zero, List.take_succ_cons, List.take_nil, loadK_n, valK_some, ex_bslice, beq_self_eq_true, repz_1, List.append_nil, List.map_cons, Nat.reduceMul, List.map_nil, fillA, Nat.le_refl, and_self, splice, List.take_zero, List.drop_succ_cons, List.drop_nil, newK_some, newA_data, frzN, List.flatMap_cons, bor_int, bor_sl, List.flatMap_nil, List.isEmpty_nil, List.mapM_cons, frz_int, frz_sl, List.mapM_nil, Option.pure_def, Option.bind_eq_bind, Option.bind_some, slK_some, ex_call, pcallA_eq, argK_some, hlong, d1, retK_some, scal, scal1, fzIds, List.foldl_nil, ite_self, oper_guard, guardK_bool, putA_to, Nat.mul_one, hlongS, d2, decide_true, ex_pick, pickA_bool, Bool.false_eq_true, Bool.true_eq_false, if_false, ex_len, ex_bin, run_cond, condK_bool, awake_eq, run_ret, run_skip, seqK_ret, bodyK_ret, results_1, res_tmp, retvK_some, pbodyK_some, frz_bool]
  by_cases d3 : 100 < w.length
  · simp (maxSteps := 30000000) (disch := first | assumption | omega | (simp only [List.length_cons, List.length_nil, List.length_append, List.length_set, List.length_replicate, List.length_map, List.length_range, List.length_take, List.length_drop, List.all_cons, List.all_nil, AV.isCell, Bool.and_self, Bool.and_true, bs_length, is64_length, w64_length, ints_length, edges_length] <;> omega) | rfl | decide) only [bodyA_eq, List.length_cons, List.length_nil, Nat.zero_add, Nat.reduceAdd, Nat.reduceSub, pads, List.cons_append, List.nil_append, run_seq, run_region, runOps_cons, oper_none, ex_box, AV.cells, opv, List.getD_cons_zero, List.all_cons, AV.isCell, List.all_nil, Bool.and_self, if_true, putK_to, List.set_cons_succ, List.set_cons_zero, opsK_some, ex_mov, runOps_nil, regK_some, seqK_normal, ex_load, List.getD_cons_succ, rd_ptr, List.getElem?_cons_zero, rdK_cells, List.drop_zero, List.take_succ_cons, List.take_nil, loadK_n, valK_some, ex_bslice, beq_self_eq_true, repz_1, List.append_nil, List.map_cons, Nat.reduceMul, List.map_nil, fillA, Nat.le_refl, and_self, splice, List.take_zero, List.drop_succ_cons, List.drop_nil, newK_some, newA_data, frzN, List.flatMap_cons, bor_int, bor_sl, List.flatMap_nil, List.isEmpty_nil, List.mapM_cons, frz_int, frz_sl, List.mapM_nil, Option.pure_def, Option.bind_eq_bind, Option.bind_some, slK_some, ex_call, pcallA_eq, argK_some, hlong, d1, retK_some, scal, scal1, fzIds, List.foldl_nil, ite_self, oper_guard, guardK_bool, putA_to, Nat.mul_one, hlongS, d2, decide_false, ex_pick, pickA_bool, Bool.false_eq_true, if_false, ex_len, lenA_sl, ex_bin, bin_gtr, ew, d3, decide_true, run_cond, condK_bool, awake_eq, run_ret, run_skip, seqK_ret, bodyK_ret, results_1, res_tmp, retvK_some, pbodyK_some, frz_bool]
  have d1' : (¬ 100 < n.st.length ∧ ¬ 100 < n.fi.length) ∧ ¬ 520 < n.ed.length := by simpa using d1
  have hf : Fits n := ⟨by omega, by omega, by omega, hby⟩
  have hcp : Fits (cpA n) := ⟨hf.l1, hf.l2, hf.l3, hf.by_⟩
  have hwl2 : w.length < 1099511627776 := by omega
  obtain ⟨u1, B1, r1, p24, oR1⟩ := after_own (cpA n) hcp (long_has (z := zs) hW (by omega)) x hx
  obtain ⟨u2, B2, r2, p25, oR2, -⟩ := run_own (cpA n) hcp (w.length == 0) w hw hwl2
  obtain ⟨t, p12, ht⟩ := acc_eq (cpA n) hcp (w.length == 0) w hw hwl2
  obtain ⟨t', p23, ht'⟩ := racc_eq n hf zw w hw hwl2
  obtain rfl : t = t' := by
    rw [Bool.eq_iff_iff, ht, ht']
    rfl
  have p11 := (check_exact (cpA n) hcp).1
  obtain ⟨-, hval⟩ := check_exact n hf
  have p18 := rcheck_eq n hf
  have p16 := copy16 n hf
  have p17 := copy17 zw w hwl2
  have p14 := nfa_same n hf (n.st.length == 0) (n.fi.length == 0) (n.ed.length == 0)
  have p28 := bytes_same (w.length == 0) zw w hwl2
  have k1 := ownR_len oR1
  have k2 := ownR_len oR2
  change ocallA L 24 _ = some (.tup [u1, .int .i64 (runErr n [x])], B1) at p24
  change ocallA L 25 _ = some (.tup [u2, .int .i64 (runErr n w)], B2) at p25
  change L.pcall 12 _ = some (.tup [.bool t, .int .i64 (runErr n w)]) at p12
  change L.pcall 11 _ = some (.int .i64 (chkM n)) at p11
  change OwnR u1 B1 r1 (runErr n [x]) (stepS n.ed (mem ls) x) at oR1
  change OwnR u2 B2 r2 (runErr n w) (runS n.ed (inS n.st) w) at oR2
  obtain ⟨o1, oc1, on1⟩ := oR1
  obtain ⟨o2, oc2, on2⟩ := oR2
  by_cases he : chkM n = 0
  · have hv := hval.1 he
    have q1 : runErr n [x] = wordErr n.vars.toNat [x] := if_pos he
    have q2 : runErr n w = wordErr n.vars.toNat w := if_pos he
    rw [q1] at p24 oc1 on1
    rw [q2] at p25 p12 p23 oc2 on2
    rw [he] at p11 p18
    obtain ⟨v, hnv⟩ : ∃ v : Nat, n.vars = (v : Nat) := ⟨n.vars.toNat, by have := hv.v0; omega⟩
    have hvt : n.vars.toNat = v := by omega
    have w1 : L.pcall 19 [.sl false 1 [.int .u8 (x : Nat)], .int .i64 (v : Nat)] = some (.int .i64 (wordErr v [x])) := rword v false [x] (by have := hv.v6; omega) (by simpa using hx) (by simp)
    have w2 := rword v zw w (by have := hv.v6; omega) hw hwl2
    rw [← hnv] at w1 w2
    rw [hvt] at p24 p25 p12 p23 oc1 on1 oc2 on2
    obtain ⟨zl, p21⟩ := list_eq zs ls (by omega) hW
    have hbl := bitL_len ls (64 * min ls.length 64)
    obtain ⟨za, p20⟩ := rafter_eq (n := n) (x := x) (z := zl) (sl := bitL ls (64 * min ls.length 64)) hv hx (by omega) hf.l3 (hv.edOk hf)
    have hll := lisL_len (stepS n.ed (inS (bitL ls (64 * min ls.length 64))) x) n.states.toNat
    have h64 := hv.s64
    obtain ⟨zb, rb, p22, hin, hrl, hrq⟩ := rrun_eq n hf hv zw w hw hwl2
    have hLA : wordErr v [x] = 0 → LstA (iw za (lisL (stepS n.ed (inS (bitL ls (64 * min ls.length 64))) x) n.states.toNat)) (wordErr v [x]) r1 := fun hz => by
      have := oc1 hz
      rw [hz]
      exact lst_ok (by omega) (fun q hq => by have := lisL_range q hq; omega) this (fun j => by rw [inS_lisL hv.edB, stepS_congr (inS_list ls)])
    have hLB : wordErr v w = 0 → LstA (iw zb rb) (wordErr v w) r2 := fun hz => by
      have := oc2 hz
      rw [hz]
      exact lst_ok hrl hrq this hin
    generalize wordErr v [x] = le at *
    generalize wordErr v w = wo at *
    by_cases hle : le = 0
    · by_cases hwo : wo = 0
      · obtain ⟨T', g⟩ := rounds4 p24 o1 k1 p25 o2 k2 p12 p11 (hLA hle) (hLB hwo) p14 p28
        subst hle; subst hwo
        simp (maxSteps := 30000000) (disch := first | assumption | omega | (simp only [List.length_cons, List.length_nil, List.length_append, List.length_set, List.length_replicate, List.length_map, List.length_range, List.length_take, List.length_drop, List.all_cons, List.all_nil, AV.isCell, Bool.and_self, Bool.and_true, bs_length, is64_length, w64_length, ints_length, edges_length] <;> omega) | rfl | decide) only [bodyA_eq, List.length_cons, List.length_nil, Nat.zero_add, Nat.reduceAdd, Nat.reduceSub, pads, List.cons_append, List.nil_append, run_seq, run_region, runOps_cons, oper_none, ex_box, AV.cells, opv, List.getD_cons_zero, List.all_cons, AV.isCell, List.all_nil, Bool.and_self, if_true, putK_to, List.set_cons_succ, List.set_cons_zero, opsK_some, ex_mov, runOps_nil, regK_some, seqK_normal, ex_load, List.getD_cons_succ, rd_ptr, List.getElem?_cons_zero, rdK_cells, List.drop_zero, List.take_succ_cons, List.take_nil, loadK_n, valK_some, ex_bslice, beq_self_eq_true, repz_1, List.append_nil, List.map_cons, Nat.reduceMul, List.map_nil, fillA, Nat.le_refl, and_self, splice, List.take_zero, List.drop_succ_cons, List.drop_nil, newK_some, newA_data, frzN, List.flatMap_cons, bor_int, bor_sl, List.flatMap_nil, List.isEmpty_nil, List.mapM_cons, frz_int, frz_sl, List.mapM_nil, Option.pure_def, Option.bind_eq_bind, Option.bind_some, slK_some, ex_call, pcallA_eq, argK_some, hlong, d1, retK_some, scal, scal1, fzIds, List.foldl_nil, ite_self, oper_guard, guardK_bool, putA_to, Nat.mul_one, hlongS, d2, decide_false, ex_pick, pickA_bool, Bool.false_eq_true, if_false, ex_len, lenA_sl, ex_bin, bin_gtr, ew, d3, run_cond, condK_bool, awake_eq, run_ret, run_skip, frz_agg, Option.map_some, p16, Bool.and_true, Bool.and_false, bor_agg, p17, ex_store, wr_ptr, List.getElem?_cons_succ, wrK_cells, storeK_some, putK_no, p18, bin_eql, decide_true, run_draw, runFree_cons, foper_none, fe_mov, fstK_some, fputK_to, freeK_some, fe_bslice, fe_faddr, ex_faddr, faddrA_ptr, Nat.add_zero, fe_load, loadK_1, fe_call, w1, quietK_some, quietCall, Bool.or_true, runFree_nil, drawK_some, adopt, adoptVal, w2, p21, p20, p22, p23, ex_ext, extA_tup, run_block, run_loop, a4l0c, g, blockK_exit, bodyK_ret, results_1, res_tmp, retvK_some, pbodyK_some, frz_bool]
      · obtain ⟨T', g⟩ := rounds4 p24 o1 k1 p25 o2 k2 p12 p11 (hLA hle) (lst_nil hwo (on2 hwo)) p14 p28
        subst hle
        simp (maxSteps := 30000000) (disch := first | assumption | omega | (simp only [List.length_cons, List.length_nil, List.length_append, List.length_set, List.length_replicate, List.length_map, List.length_range, List.length_take, List.length_drop, List.all_cons, List.all_nil, AV.isCell, Bool.and_self, Bool.and_true, bs_length, is64_length, w64_length, ints_length, edges_length] <;> omega) | rfl | decide) only [bodyA_eq, List.length_cons, List.length_nil, Nat.zero_add, Nat.reduceAdd, Nat.reduceSub, pads, List.cons_append, List.nil_append, run_seq, run_region, runOps_cons, oper_none, ex_box, AV.cells, opv, List.getD_cons_zero, List.all_cons, AV.isCell, List.all_nil, Bool.and_self, if_true, putK_to, List.set_cons_succ, List.set_cons_zero, opsK_some, ex_mov, runOps_nil, regK_some, seqK_normal, ex_load, List.getD_cons_succ, rd_ptr, List.getElem?_cons_zero, rdK_cells, List.drop_zero, List.take_succ_cons, List.take_nil, loadK_n, valK_some, ex_bslice, beq_self_eq_true, repz_1, List.append_nil, List.map_cons, Nat.reduceMul, List.map_nil, fillA, Nat.le_refl, and_self, splice, List.take_zero, List.drop_succ_cons, List.drop_nil, newK_some, newA_data, frzN, List.flatMap_cons, bor_int, bor_sl, List.flatMap_nil, List.isEmpty_nil, List.mapM_cons, frz_int, frz_sl, List.mapM_nil, Option.pure_def, Option.bind_eq_bind, Option.bind_some, slK_some, ex_call, pcallA_eq, argK_some, hlong, d1, retK_some, scal, scal1, fzIds, List.foldl_nil, ite_self, oper_guard, guardK_bool, putA_to, Nat.mul_one, hlongS, d2, decide_false, ex_pick, pickA_bool, Bool.false_eq_true, if_false, ex_len, lenA_sl, ex_bin, bin_gtr, ew, d3, run_cond, condK_bool, awake_eq, run_ret, run_skip, frz_agg, Option.map_some, p16, Bool.and_true, Bool.and_false, bor_agg, p17, ex_store, wr_ptr, List.getElem?_cons_succ, wrK_cells, storeK_some, putK_no, p18, bin_eql, decide_true, run_draw, runFree_cons, foper_none, fe_mov, fstK_some, fputK_to, freeK_some, fe_bslice, fe_faddr, ex_faddr, faddrA_ptr, Nat.add_zero, fe_load, loadK_1, fe_call, w1, quietK_some, quietCall, Bool.or_true, runFree_nil, drawK_some, adopt, adoptVal, w2, p21, p20, hwo, p22, p23, ex_ext, extA_tup, run_block, run_loop, a4l0c, g, blockK_exit, bodyK_ret, results_1, res_tmp, retvK_some, pbodyK_some, frz_bool]
    · by_cases hwo : wo = 0
      · obtain ⟨T', g⟩ := rounds4 p24 o1 k1 p25 o2 k2 p12 p11 (lst_nil hle (on1 hle)) (hLB hwo) p14 p28
        subst hwo
        simp (maxSteps := 30000000) (disch := first | assumption | omega | (simp only [List.length_cons, List.length_nil, List.length_append, List.length_set, List.length_replicate, List.length_map, List.length_range, List.length_take, List.length_drop, List.all_cons, List.all_nil, AV.isCell, Bool.and_self, Bool.and_true, bs_length, is64_length, w64_length, ints_length, edges_length] <;> omega) | rfl | decide) only [bodyA_eq, List.length_cons, List.length_nil, Nat.zero_add, Nat.reduceAdd, Nat.reduceSub, pads, List.cons_append, List.nil_append, run_seq, run_region, runOps_cons, oper_none, ex_box, AV.cells, opv, List.getD_cons_zero, List.all_cons, AV.isCell, List.all_nil, Bool.and_self, if_true, putK_to, List.set_cons_succ, List.set_cons_zero, opsK_some, ex_mov, runOps_nil, regK_some, seqK_normal, ex_load, List.getD_cons_succ, rd_ptr, List.getElem?_cons_zero, rdK_cells, List.drop_zero, List.take_succ_cons, List.take_nil, loadK_n, valK_some, ex_bslice, beq_self_eq_true, repz_1, List.append_nil, List.map_cons, Nat.reduceMul, List.map_nil, fillA, Nat.le_refl, and_self, splice, List.take_zero, List.drop_succ_cons, List.drop_nil, newK_some, newA_data, frzN, List.flatMap_cons, bor_int, bor_sl, List.flatMap_nil, List.isEmpty_nil, List.mapM_cons, frz_int, frz_sl, List.mapM_nil, Option.pure_def, Option.bind_eq_bind, Option.bind_some, slK_some, ex_call, pcallA_eq, argK_some, hlong, d1, retK_some, scal, scal1, fzIds, List.foldl_nil, ite_self, oper_guard, guardK_bool, putA_to, Nat.mul_one, hlongS, d2, decide_false, ex_pick, pickA_bool, Bool.false_eq_true, if_false, ex_len, lenA_sl, ex_bin, bin_gtr, ew, d3, run_cond, condK_bool, awake_eq, run_ret, run_skip, frz_agg, Option.map_some, p16, Bool.and_true, Bool.and_false, bor_agg, p17, ex_store, wr_ptr, List.getElem?_cons_succ, wrK_cells, storeK_some, putK_no, p18, bin_eql, decide_true, run_draw, runFree_cons, foper_none, fe_mov, fstK_some, fputK_to, freeK_some, fe_bslice, fe_faddr, ex_faddr, faddrA_ptr, Nat.add_zero, fe_load, loadK_1, fe_call, w1, quietK_some, quietCall, Bool.or_true, runFree_nil, drawK_some, adopt, adoptVal, w2, hle, p21, p20, p22, p23, ex_ext, extA_tup, run_block, run_loop, a4l0c, g, blockK_exit, bodyK_ret, results_1, res_tmp, retvK_some, pbodyK_some, frz_bool]
      · obtain ⟨T', g⟩ := rounds4 p24 o1 k1 p25 o2 k2 p12 p11 (lst_nil hle (on1 hle)) (lst_nil hwo (on2 hwo)) p14 p28
        simp (maxSteps := 30000000) (disch := first | assumption | omega | (simp only [List.length_cons, List.length_nil, List.length_append, List.length_set, List.length_replicate, List.length_map, List.length_range, List.length_take, List.length_drop, List.all_cons, List.all_nil, AV.isCell, Bool.and_self, Bool.and_true, bs_length, is64_length, w64_length, ints_length, edges_length] <;> omega) | rfl | decide) only [bodyA_eq, List.length_cons, List.length_nil, Nat.zero_add, Nat.reduceAdd, Nat.reduceSub, pads, List.cons_append, List.nil_append, run_seq, run_region, runOps_cons, oper_none, ex_box, AV.cells, opv, List.getD_cons_zero, List.all_cons, AV.isCell, List.all_nil, Bool.and_self, if_true, putK_to, List.set_cons_succ, List.set_cons_zero, opsK_some, ex_mov, runOps_nil, regK_some, seqK_normal, ex_load, List.getD_cons_succ, rd_ptr, List.getElem?_cons_zero, rdK_cells, List.drop_zero, List.take_succ_cons, List.take_nil, loadK_n, valK_some, ex_bslice, beq_self_eq_true, repz_1, List.append_nil, List.map_cons, Nat.reduceMul, List.map_nil, fillA, Nat.le_refl, and_self, splice, List.take_zero, List.drop_succ_cons, List.drop_nil, newK_some, newA_data, frzN, List.flatMap_cons, bor_int, bor_sl, List.flatMap_nil, List.isEmpty_nil, List.mapM_cons, frz_int, frz_sl, List.mapM_nil, Option.pure_def, Option.bind_eq_bind, Option.bind_some, slK_some, ex_call, pcallA_eq, argK_some, hlong, d1, retK_some, scal, scal1, fzIds, List.foldl_nil, ite_self, oper_guard, guardK_bool, putA_to, Nat.mul_one, hlongS, d2, decide_false, ex_pick, pickA_bool, Bool.false_eq_true, if_false, ex_len, lenA_sl, ex_bin, bin_gtr, ew, d3, run_cond, condK_bool, awake_eq, run_ret, run_skip, frz_agg, Option.map_some, p16, Bool.and_true, Bool.and_false, bor_agg, p17, ex_store, wr_ptr, List.getElem?_cons_succ, wrK_cells, storeK_some, putK_no, p18, bin_eql, decide_true, run_draw, runFree_cons, foper_none, fe_mov, fstK_some, fputK_to, freeK_some, fe_bslice, fe_faddr, ex_faddr, faddrA_ptr, Nat.add_zero, fe_load, loadK_1, fe_call, w1, quietK_some, quietCall, Bool.or_true, runFree_nil, drawK_some, adopt, adoptVal, w2, hle, p21, p20, hwo, p22, p23, ex_ext, extA_tup, run_block, run_loop, a4l0c, g, blockK_exit, bodyK_ret, results_1, res_tmp, retvK_some, pbodyK_some, frz_bool]
  · have q1 : runErr n [x] = chkM n := if_neg he
    have q2 : runErr n w = chkM n := if_neg he
    rw [q1] at p24 on1
    rw [q2] at p25 p12 p23 on2
    obtain ⟨T', g⟩ := rounds4 p24 o1 k1 p25 o2 k2 p12 p11 (lst_nil he (on1 he)) (lst_nil he (on2 he)) p14 p28
    generalize chkM n = e at *
    simp (maxSteps := 30000000) (disch := first | assumption | omega | (simp only [List.length_cons, List.length_nil, List.length_append, List.length_set, List.length_replicate, List.length_map, List.length_range, List.length_take, List.length_drop, List.all_cons, List.all_nil, AV.isCell, Bool.and_self, Bool.and_true, bs_length, is64_length, w64_length, ints_length, edges_length] <;> omega) | rfl | decide) only [bodyA_eq, List.length_cons, List.length_nil, Nat.zero_add, Nat.reduceAdd, Nat.reduceSub, pads, List.cons_append, List.nil_append, run_seq, run_region, runOps_cons, oper_none, ex_box, AV.cells, opv, List.getD_cons_zero, List.all_cons, AV.isCell, List.all_nil, Bool.and_self, if_true, putK_to, List.set_cons_succ, List.set_cons_zero, opsK_some, ex_mov, runOps_nil, regK_some, seqK_normal, ex_load, List.getD_cons_succ, rd_ptr, List.getElem?_cons_zero, rdK_cells, List.drop_zero, List.take_succ_cons, List.take_nil, loadK_n, valK_some, ex_bslice, beq_self_eq_true, repz_1, List.append_nil, List.map_cons, Nat.reduceMul, List.map_nil, fillA, Nat.le_refl, and_self, splice, List.take_zero, List.drop_succ_cons, List.drop_nil, newK_some, newA_data, frzN, List.flatMap_cons, bor_int, bor_sl, List.flatMap_nil, List.isEmpty_nil, List.mapM_cons, frz_int, frz_sl, List.mapM_nil, Option.pure_def, Option.bind_eq_bind, Option.bind_some, slK_some, ex_call, pcallA_eq, argK_some, hlong, d1, retK_some, scal, scal1, fzIds, List.foldl_nil, ite_self, oper_guard, guardK_bool, putA_to, Nat.mul_one, hlongS, d2, decide_false, ex_pick, pickA_bool, Bool.false_eq_true, if_false, ex_len, lenA_sl, ex_bin, bin_gtr, ew, d3, run_cond, condK_bool, awake_eq, run_ret, run_skip, frz_agg, Option.map_some, p16, Bool.and_true, Bool.and_false, bor_agg, p17, ex_store, wr_ptr, List.getElem?_cons_succ, wrK_cells, storeK_some, putK_no, p18, bin_eql, he, run_draw, runFree_cons, foper_none, fe_mov, fstK_some, fputK_to, freeK_some, fe_bslice, fe_faddr, ex_faddr, faddrA_ptr, Nat.add_zero, fe_load, loadK_1, fe_call, p23, ex_ext, extA_tup, run_block, run_loop, a4l0c, g, blockK_exit, bodyK_ret, results_1, res_tmp, retvK_some, pbodyK_some, frz_bool]
end Go.Abs.Nfa
