/- block, mirror, Mirror. -/
import Derived.Test.YtijmhicopfphnaaDoorAL18
namespace Go.Abs.Tree
open Go Go.Abs
set_option linter.unusedSimpArgs false
set_option linter.unusedVariables false

def BT.isNil : BT → Bool
  | .nil => true
  | .node _ _ _ => false

theorem block100 {t : List Lf} {c : Int} {k n : Nat} {C : BT} (h : Sub t c k C n) (ht : t.length < 1099511627776) (hn : n ≤ t.length) :
    L.pcall 100 [tw false t, .int .i64 c] = some (tw C.isNil (encT 0 C)) := by
  cases C with
  | nil =>
    rcases sub_cases h with ⟨rfl, -, -⟩ | ⟨h1, h2⟩
    · change _ = some (AV.sl true 0 [])
      rw [a100p, a100, pbodyA_eq]
      simp (maxSteps := 30000000) (disch := first | assumption | omega | (simp only [List.length_cons, List.length_nil, List.length_append, List.length_set, List.length_replicate, List.length_map, List.length_range, List.length_take, List.length_drop, List.all_cons, List.all_nil, AV.isCell, Bool.and_self, Bool.and_true, bs_length, is64_length, w64_length, ints_length, lfs_length, rls_length] <;> omega) | rfl | decide) only [Int.reduceNeg, bodyA_eq, List.length_cons, List.length_nil, Nat.zero_add, Nat.reduceAdd, Nat.reduceSub, pads, List.cons_append, List.nil_append, run_seq, run_region, runOps_cons, oper_none, ex_mov, opv, putK_to, List.set_cons_succ, List.set_cons_zero, opsK_some, runOps_nil, regK_some, seqK_normal, List.getD_cons_succ, List.getD_cons_zero, ex_bin, bin_eql, decide_true, valK_some, run_cond, condK_bool, run_ret, run_skip, if_true, seqK_ret, bodyK_ret, results_1, res_tmp, retvK_some, pbodyK_some, frzN, frz_sl]
    · cases h; omega
  | node x l r =>
    obtain ⟨e1, e2, e3⟩ := sub_enc h
    simp only [rootI] at e1
    subst e1
    have q := end_of (z := false) ht h (by omega)
    subst e2
    have hs : 0 < (BT.node x l r).size := by simp only [BT.size]; omega
    have sm := fun e he => enc_small (.node x l r) k e he
    have hmv := mv_enc (d := -(k : Int)) (.node x l r) k 0 (by omega)
    have hln := encT_length (.node x l r) k
    have hln0 := encT_length (.node x l r) 0
    have hc : List.take ((BT.node x l r).size * 3) (List.drop (k * 3) (lfs t)) = lfs (encT k (.node x l r)) := by
      rw [← e3]
      unfold lfs
      rw [rows_drop (enc := encF) (k := 3) (fun _ => rfl), rows_take (enc := encF) (k := 3) (fun _ => rfl)]
    simp only [BT.isNil]
    generalize BT.node x l r = C at *
    have hsh := shift_eq false (d := -(k : Int)) (t := encT k C) (by simp) (by omega) (fun e he => by have := sm e he; omega)
    rw [hmv] at hsh
    unfold tw at hsh ⊢
    rw [hln, hln0] at hsh
    rw [hln0]
    have e0 : ((k : Int) = -1) = False := eq_false (by omega)
    rw [← Int.zero_sub] at hsh
    have sub : k + C.size - k = C.size := by omega
    rw [a100p, a100, pbodyA_eq]
    unfold tw at q
    simp (maxSteps := 30000000) (disch := first | assumption | omega | (simp only [List.length_cons, List.length_nil, List.length_append, List.length_set, List.length_replicate, List.length_map, List.length_range, List.length_take, List.length_drop, List.all_cons, List.all_nil, AV.isCell, Bool.and_self, Bool.and_true, bs_length, is64_length, w64_length, ints_length, lfs_length, rls_length] <;> omega) | rfl | decide) only [Int.reduceNeg, bodyA_eq, List.length_cons, List.length_nil, Nat.zero_add, Nat.reduceAdd, Nat.reduceSub, pads, List.cons_append, List.nil_append, run_seq, run_region, runOps_cons, oper_none, ex_mov, opv, putK_to, List.set_cons_succ, List.set_cons_zero, opsK_some, runOps_nil, regK_some, seqK_normal, List.getD_cons_succ, List.getD_cons_zero, ex_bin, bin_eql, e0, decide_false, valK_some, run_cond, condK_bool, Bool.false_eq_true, run_ret, run_skip, if_false, ex_call, List.map_cons, List.map_nil, pcallA_eq, frzN, List.mapM_cons, frz_sl, frz_int, List.mapM_nil, Option.pure_def, Option.bind_eq_bind, Option.bind_some, argK_some, q, retK_some, scal, scal1, fzIds, List.flatMap_cons, bor_sl, bor_int, List.flatMap_nil, List.append_nil, List.foldl_nil, ite_self, ex_slice, Option.map_some, Option.map_none, sliceA_sl, bounds_ss, Int.toNat_natCast, cutK_sl, sub, hc, ex_un, un_neg, wr64, hsh, bodyK_ret, results_1, res_tmp, retvK_some, pbodyK_some]

theorem mirror80 : ∀ (T : BT), T.size ≤ 31 → L.pcall 80 [tw T.isNil (encT 0 T)] = some (tw T.isNil (encT 0 T.mir))
  | .nil, _ => by
    change L.pcall 80 [.sl true 0 []] = some (.sl true 0 [])
    rw [a80p, a80, pbodyA_eq]
    simp (maxSteps := 30000000) (disch := first | assumption | omega | (simp only [List.length_cons, List.length_nil, List.length_append, List.length_set, List.length_replicate, List.length_map, List.length_range, List.length_take, List.length_drop, List.all_cons, List.all_nil, AV.isCell, Bool.and_self, Bool.and_true, bs_length, is64_length, w64_length, ints_length, lfs_length, rls_length] <;> omega) | rfl | decide) only [bodyA_eq, List.length_cons, List.length_nil, Nat.zero_add, Nat.reduceSub, pads, List.cons_append, List.nil_append, run_seq, run_region, runOps_cons, oper_none, ex_mov, opv, putK_to, List.set_cons_succ, List.set_cons_zero, opsK_some, runOps_nil, regK_some, seqK_normal, List.getD_cons_zero, ex_len, List.getD_cons_succ, lenA_sl, castLit, valK_some, ex_bin, bin_eql, decide_true, run_cond, condK_bool, run_ret, run_skip, if_true, seqK_ret, bodyK_ret, results_1, res_tmp, retvK_some, pbodyK_some, frzN, frz_sl]
  | .node x l r, h => by
    simp only [BT.size] at h
    have il := mirror80 l (by omega)
    have ir := mirror80 r (by omega)
    have sz : (encT 0 (.node x l r)).length = 1 + (l.size + r.size) := by rw [encT_length]; rfl
    have hF := enc_sub (.node x l r) [] []
    simp only [List.append_nil, List.nil_append, List.length_nil, Nat.zero_add, rootI] at hF
    have hp : Sub (encT 0 (.node x l r)) (rootI 1 l) 1 l (1 + l.size) ∧ Sub (encT 0 (.node x l r)) (rootI (1 + l.size) r) (1 + l.size) r (1 + l.size + r.size) := by
      have h1 := enc_sub l [⟨x, rootI 1 l, rootI (1 + l.size) r⟩] (encT (1 + l.size) r)
      have h2 := enc_sub r (⟨x, rootI 1 l, rootI (1 + l.size) r⟩ :: encT 1 l) []
      have e1 : ((⟨x, rootI 1 l, rootI (1 + l.size) r⟩ : Lf) :: encT 1 l).length = 1 + l.size := by rw [List.length_cons, encT_length]; omega
      rw [e1, List.append_nil] at h2
      have e2 : encT 0 (.node x l r) = ⟨x, rootI 1 l, rootI (1 + l.size) r⟩ :: (encT 1 l ++ encT (1 + l.size) r) := by simp only [encT, Nat.zero_add]
      rw [e2]
      exact ⟨by simpa using h1, by simpa using h2⟩
    have b1 := block100 hp.1 (by omega) (by omega)
    have b2 := block100 hp.2 (by omega) (by omega)
    have hj := join76 x r.isNil l.isNil r.mir l.mir (by cases r <;> simp [BT.isNil, BT.mir, encT]) (by cases l <;> simp [BT.isNil, BT.mir, encT]) (by rw [BT.mir_size]; omega) (by rw [BT.mir_size]; omega)
    have hcons : lfs (encT 0 (.node x l r)) = .int .u8 (x : Nat) :: .int .i64 (rootI 1 l) :: .int .i64 (rootI (1 + l.size) r) :: lfs (encT 1 l ++ encT (1 + l.size) r) := by
      simp only [encT, Nat.zero_add]; rfl
    simp only [BT.isNil, BT.mir]
    unfold tw at b1 b2 ⊢
    rw [hcons, sz] at b1 b2 ⊢
    have c0 : (((1 + (l.size + r.size) : Nat) : Int) = 0) = False := eq_false (by omega)
    have c1 : (0 : Int) < ((1 + (l.size + r.size) : Nat) : Int) := by omega
    generalize rootI 1 l = rl at *
    generalize rootI (1 + l.size) r = rr at *
    generalize lfs (encT 1 l ++ encT (1 + l.size) r) = R at *
    rw [a80p, a80, pbodyA_eq]
    simp (maxSteps := 30000000) (disch := first | assumption | omega | (simp only [List.length_cons, List.length_nil, List.length_append, List.length_set, List.length_replicate, List.length_map, List.length_range, List.length_take, List.length_drop, List.all_cons, List.all_nil, AV.isCell, Bool.and_self, Bool.and_true, bs_length, is64_length, w64_length, ints_length, lfs_length, rls_length] <;> omega) | rfl | decide) only [bodyA_eq, List.length_cons, List.length_nil, Nat.zero_add, Nat.reduceSub, pads, List.cons_append, List.nil_append, run_seq, run_region, runOps_cons, oper_none, ex_mov, opv, putK_to, List.set_cons_succ, List.set_cons_zero, opsK_some, runOps_nil, regK_some, seqK_normal, List.getD_cons_zero, ex_len, List.getD_cons_succ, lenA_sl, valK_some, ex_bin, bin_eql, c0, decide_false, run_cond, condK_bool, Bool.false_eq_true, run_ret, run_skip, if_false, run_draw, List.take_succ_cons, List.take_zero, runFree_cons, foper_none, fe_mov, fstK_some, fputK_to, freeK_some, fe_iaddr, ex_iaddr, iaddrA_sl, Int.toNat_zero, Nat.reduceMul, fe_faddr, ex_faddr, faddrA_vptr, Nat.add_zero, fe_load, ex_load, rd_vptr, List.drop_zero, loadK_1, List.drop_succ_cons, fe_call, List.map_cons, List.map_nil, pcallA_eq, frzN, List.mapM_cons, frz_sl, frz_int, List.mapM_nil, Option.pure_def, Option.bind_eq_bind, Option.bind_some, argK_some, b2, retK_some, scal, scal1, fzIds, List.flatMap_cons, bor_sl, bor_int, List.flatMap_nil, List.append_nil, List.foldl_nil, ite_self, quietK_some, quietCall, List.all_nil, Bool.or_true, if_true, ir, b1, il, runFree_nil, drawK_some, adopt, adoptVal, ex_call, hj, bodyK_ret, results_1, res_tmp, retvK_some, pbodyK_some]

theorem Mirror43 (z : Bool) (t : List Lf) (hz : z = (t.length == 0)) (ht : t.length < 1099511627776) : (formedB t = false ∧ L.pcall 43 [tw z t] = some (.tup [.sl true 0 [], .int .i64 2])) ∨
    ∃ T, Formed t T ∧ formedB t = true ∧ L.pcall 43 [tw z t] = some (.tup [tw T.isNil (encT 0 T.mir), .int .i64 0]) := by
  have f1 := formed_eq z t ht
  cases c1 : formedB t with
  | false =>
    left
    rw [c1] at f1
    refine ⟨rfl, ?_⟩
    rw [a43p, a43, pbodyA_eq]
    simp (maxSteps := 30000000) (disch := first | assumption | omega | (simp only [List.length_cons, List.length_nil, List.length_append, List.length_set, List.length_replicate, List.length_map, List.length_range, List.length_take, List.length_drop, List.all_cons, List.all_nil, AV.isCell, Bool.and_self, Bool.and_true, bs_length, is64_length, w64_length, ints_length, lfs_length, rls_length] <;> omega) | rfl | decide) only [bodyA_eq, List.length_cons, List.length_nil, Nat.zero_add, Nat.reduceSub, pads, List.cons_append, List.nil_append, run_seq, run_region, runOps_cons, oper_none, ex_mov, opv, putK_to, List.set_cons_succ, List.set_cons_zero, opsK_some, runOps_nil, regK_some, seqK_normal, List.getD_cons_zero, ex_call, List.map_cons, List.getD_cons_succ, List.map_nil, pcallA_eq, frzN, List.mapM_cons, frz_sl, List.mapM_nil, Option.pure_def, Option.bind_eq_bind, Option.bind_some, argK_some, f1, retK_some, scal, scal1, fzIds, List.flatMap_cons, bor_sl, List.flatMap_nil, List.append_nil, List.foldl_nil, ite_self, ex_un, un_not, Bool.not_false, valK_some, run_cond, condK_bool, run_ret, run_skip, if_true, seqK_ret, bodyK_ret, results_2, resL_cons, res_tmp, resK_some, resL_nil, Option.map_some, retvK_some, pbodyK_some, frz_tup, frz_int]
  | true =>
    right
    rw [c1] at f1
    obtain ⟨T, hT⟩ := formedB_iff.1 c1
    obtain ⟨q1, p1⟩ := formed_enc hT
    have hm := mirror80 T p1
    have hz' : z = T.isNil := by
      rw [hz, q1, encT_length]
      cases T with
      | nil => rfl
      | node x l r => simp only [BT.isNil, BT.size]; rw [beq_eq_false_iff_ne]; omega
    refine ⟨T, hT, rfl, ?_⟩
    rw [← q1, ← hz'] at hm
    rw [hz'] at hm ⊢
    rw [hz'] at f1
    rw [a43p, a43, pbodyA_eq]
    simp (maxSteps := 30000000) (disch := first | assumption | omega | (simp only [List.length_cons, List.length_nil, List.length_append, List.length_set, List.length_replicate, List.length_map, List.length_range, List.length_take, List.length_drop, List.all_cons, List.all_nil, AV.isCell, Bool.and_self, Bool.and_true, bs_length, is64_length, w64_length, ints_length, lfs_length, rls_length] <;> omega) | rfl | decide) only [bodyA_eq, List.length_cons, List.length_nil, Nat.zero_add, Nat.reduceSub, pads, List.cons_append, List.nil_append, run_seq, run_region, runOps_cons, oper_none, ex_mov, opv, putK_to, List.set_cons_succ, List.set_cons_zero, opsK_some, runOps_nil, regK_some, seqK_normal, List.getD_cons_zero, ex_call, List.map_cons, List.getD_cons_succ, List.map_nil, pcallA_eq, frzN, List.mapM_cons, frz_sl, List.mapM_nil, Option.pure_def, Option.bind_eq_bind, Option.bind_some, argK_some, f1, retK_some, scal, scal1, fzIds, List.flatMap_cons, bor_sl, List.flatMap_nil, List.append_nil, List.foldl_nil, ite_self, ex_un, un_not, Bool.not_true, valK_some, run_cond, condK_bool, Bool.false_eq_true, run_ret, run_skip, if_false, hm, bodyK_ret, results_2, resL_cons, res_tmp, resK_some, resL_nil, Option.map_some, retvK_some, pbodyK_some, frz_tup, frz_int]
end Go.Abs.Tree
