/- Merge, its results as data. -/
import Derived.Test.YthbgkdjnakeagaaAE2
namespace Go.Abs.Lasso
set_option linter.unusedVariables false
set_option linter.unusedSimpArgs false
open Go Go.Abs

theorem let47 (z1 z2 z3 z4 : Bool) (p q p' q' : List Nat) (H : Heap) (a b i : Nat) {f1 f2 g1 g2 : Bool} (ha : H[a]? = some (.cells f1 f2 [word z1 p, word z2 q])) (hb : H[b]? = some (.cells g1 g2 [word z3 p', word z4 q'])) (hp : p.length < 1099511627776) (hq : q.length < 1099511627776) (hp' : p'.length < 1099511627776) (hq' : q'.length < 1099511627776) (hi : i < 1099511627776) :
    L.icall (.func 47 [.ptr a 0, .ptr b 0]) [.int .i64 (i : Nat)] H = some (.int .u8 (bitsA .or .u8 (seqM p q i : Nat) (seqM p' q' i : Nat)), H) := by
  have hat := atn_eq z1 z2 p q i hp hq (by omega)
  have hat' := atn_eq z3 z4 p' q' i hp' hq' (by omega)
  rw [a47i, a47]
  simp (maxSteps := 30000000) (disch := first | assumption | omega | (simp only [List.length_cons, List.length_nil, List.length_append, List.length_set, List.length_replicate, List.length_map, List.length_range, List.length_take, List.length_drop, List.all_cons, List.all_nil, AV.isCell, Bool.and_self, Bool.and_true, bs_length, is64_length] <;> omega) | rfl | decide) only [List.cons_append, List.nil_append, bodyA_eq, List.length_cons, List.length_nil, Nat.zero_add, Nat.reduceAdd, Nat.reduceSub, pads, run_seq, run_region, runOps_cons, oper_none, ex_mov, opv, putK_to, List.set_cons_succ, List.set_cons_zero, opsK_some, runOps_nil, regK_some, seqK_normal, run_draw, List.take_succ_cons, List.take_zero, runFree_cons, foper_none, fe_load, ex_load, List.getD_cons_succ, List.getD_cons_zero, rd_ptr, ha, rdK_cells, List.drop_zero, List.take_nil, loadK_n, valK_some, fstK_some, fputK_to, freeK_some, fe_mov, fe_call, List.map_cons, List.map_nil, pcallA_eq, frzN, List.mapM_cons, frz_agg, frz_sl, List.mapM_nil, Option.pure_def, Option.bind_eq_bind, Option.bind_some, Option.map_some, frz_int, argK_some, hat, retK_some, scal, scal1, fzIds, List.flatMap_cons, bor_agg, bor_sl, List.flatMap_nil, List.append_nil, bor_int, List.foldl_nil, ite_self, quietK_some, quietCall, List.isEmpty_nil, Bool.or_true, if_true, hb, runFree_nil, drawK_some, List.drop_succ_cons, adopt, adoptVal, ex_call, hat', ex_bin, bin_or, run_ret, bodyK_ret, results_1, res_tmp, retvK_some]
theorem gcd_loop {s2 s3 s4 : AV} {H : Heap} : ∀ y x, x < 1099511627776 → y < 1099511627776 →
    L.loop a32l0s a32l0 ⟨a32l0F s2 s3 s4 (.int .i64 (x : Nat)) (.int .i64 (y : Nat)), H⟩ = some (.exit 0, ⟨a32l0F s2 s3 s4 (.int .i64 (Nat.gcd x y : Nat)) (.int .i64 0), H⟩) := by
  intro y
  induction y using Nat.strongRecOn with
  | _ y ih =>
    intro x hx hy
    by_cases h0 : y = 0
    · subst h0
      rw [a32l0n]
      simp (maxSteps := 30000000) (disch := first | assumption | omega | (simp only [List.length_cons, List.length_nil, List.length_append, List.length_set, List.length_replicate, List.length_map, List.length_range, List.length_take, List.length_drop, List.all_cons, List.all_nil, AV.isCell, Bool.and_self, Bool.and_true, bs_length, is64_length] <;> omega) | rfl | decide) only [a32l0b, castLit, run_seq, run_region, runOps_cons, oper_none, ex_mov, opv, List.getD_cons_succ, List.getD_cons_zero, putK_to, List.set_cons_succ, List.set_cons_zero, opsK_some, ex_bin, bin_gtr, Int.lt_irrefl, decide_false, valK_some, runOps_nil, regK_some, seqK_normal, run_cond, condK_bool, Bool.false_eq_true, run_skip, run_exit, if_false, seqK_exit, loopK_exit, a32l0c, Nat.gcd_zero_right]
    · have hp : (0 : Int) < (y : Nat) := by omega
      have hlt : x % y < y := Nat.mod_lt _ (by omega)
      have := ih (x % y) hlt y hy (by omega)
      rw [a32l0n]
      simp (maxSteps := 30000000) (disch := first | assumption | omega | (simp only [List.length_cons, List.length_nil, List.length_append, List.length_set, List.length_replicate, List.length_map, List.length_range, List.length_take, List.length_drop, List.all_cons, List.all_nil, AV.isCell, Bool.and_self, Bool.and_true, bs_length, is64_length] <;> omega) | rfl | decide) only [a32l0b, run_seq, run_region, runOps_cons, oper_none, ex_mov, opv, List.getD_cons_succ, List.getD_cons_zero, putK_to, List.set_cons_succ, List.set_cons_zero, opsK_some, ex_bin, bin_gtr, hp, decide_true, valK_some, runOps_nil, regK_some, seqK_normal, run_cond, condK_bool, run_skip, run_exit, if_true, run_block, run_draw, List.take_succ_cons, List.take_zero, runFree_cons, foper_none, fe_mov, fstK_some, fputK_to, freeK_some, fe_bin, bin_rem, ctmod, runFree_nil, drawK_some, List.drop_succ_cons, List.drop_zero, adopt, adoptVal, blockK_normal, loopK_normal, a32l0c, this]
      rw [show Nat.gcd x y = Nat.gcd y (x % y) from by rw [Nat.gcd_comm, Nat.gcd_rec, Nat.gcd_comm]]


theorem merge_own {z1 z2 z3 z4 y1 y2 y3 y4 : Bool} {pa qa pb qb pa' qa' pb' qb' : List Nat} {f g : Nat → Nat} {B : Nat} (hB : B < 67108864) (hf : ∀ i, f i < 256) (hg : ∀ i, g i < 256)
    (ha : L.pcall 12 [las z1 z2 pa qa] = some (las y1 y2 pa' qa')) (hb : L.pcall 12 [las z3 z4 pb qb] = some (las y3 y4 pb' qb')) (h1 : pa'.length ≤ B) (h2 : qa'.length ≤ B) (h3 : pb'.length ≤ B) (h4 : qb'.length ≤ B) (hqa : 0 < qa'.length) (hqb : 0 < qb'.length)
    (hfa : ∀ i, seqM pa' qa' i = f i) (hgb : ∀ i, seqM pb' qb' i = g i) {n P : Nat} (hn : n = max pa'.length pb'.length) (hP : P = qa'.length / Nat.gcd qa'.length qb'.length * qb'.length) :
    (P ≤ 4096 → ∃ p' q', Canon (seqM (takeM (fun i => f i ||| g i) n) (takeM (fun i => f (n + i) ||| g (n + i)) P)) p' q' ∧ p'.length ≤ n ∧ L.pcall 32 [las z1 z2 pa qa, las z3 z4 pb qb] = some (.tup [las false false p' q', .int .i64 0])) ∧
    (4096 < P → L.pcall 32 [las z1 z2 pa qa, las z3 z4 pb qb] = some (.tup [las true true [] [], .int .i64 4])) := by
  have hgcd : 0 < Nat.gcd qa'.length qb'.length := Nat.gcd_pos_of_pos_left _ hqa
  have hl := gcd_loop (s2 := .ptr 0 0) (s3 := .ptr 1 0) (s4 := .ptr 2 0) (H := [.cells false false [word y1 pa', word y2 qa'], .cells false false [word y3 pb', word y4 qb'], .cells false false [.sl true 0 [], .sl true 0 []]]) qb'.length qa'.length (by omega) (by omega)
  generalize hgg : Nat.gcd qa'.length qb'.length = e at *
  have hd : qa'.length / e ≤ B := Nat.le_trans (Nat.div_le_self ..) h2
  have hm : qa'.length / e * qb'.length ≤ 67108864 * 67108864 := Nat.mul_le_mul (by omega) (by omega)
  generalize hdd : qa'.length / e = D at *
  refine ⟨fun hP4 => ?_, fun hP4 => ?_⟩
  · have hH : ∀ (T : Heap) (i : Nat), i < n + P → L.icall (.func 47 [.ptr 0 0, .ptr 1 0]) [.int .i64 (i : Nat)] ([.cells false false [word y1 pa', word y2 qa'], .cells false false [word y3 pb', word y4 qb'], .cells false false [.sl true 0 [], .sl true 0 []]] ++ T) = some (.int .u8 ((f i ||| g i : Nat) : Int), [.cells false false [word y1 pa', word y2 qa'], .cells false false [word y3 pb', word y4 qb'], .cells false false [.sl true 0 [], .sl true 0 []]] ++ T) := by
      intro T i hi
      rw [let47 y1 y2 y3 y4 pa' qa' pb' qb' _ 0 1 i rfl rfl (by omega) (by omega) (by omega) (by omega) (by omega), hfa, hgb, or8 (hf i) (hg i)]
    have l1 := takeM_length (fun i => f i ||| g i) n
    have l2 := takeM_length (fun i => f (n + i) ||| g (n + i)) P
    obtain ⟨p', q', c1, c2, c3, c4, c5⟩ := canon_own false (takeM (fun i => f i ||| g i) n) (takeM (fun i => f (n + i) ||| g (n + i)) P) (by omega) (by omega)
    obtain ⟨c0, c1', hb2⟩ := build_own (n := n) (p := P) (by omega) (by omega) hH c5
    have hmx : max (pa'.length : Int) (pb'.length : Int) = ((n : Nat) : Int) := by omega
    have hng : ¬ ((4096 : Int) < (P : Nat)) := by omega
    refine ⟨p', q', c1, by omega, ?_⟩
    rw [a32p, a32, pbodyA_eq]
    simp (maxSteps := 30000000) (disch := first | assumption | omega | (simp only [List.length_cons, List.length_nil, List.length_append, List.length_set, List.length_replicate, List.length_map, List.length_range, List.length_take, List.length_drop, List.all_cons, List.all_nil, AV.isCell, Bool.and_self, Bool.and_true, bs_length, is64_length] <;> omega) | rfl | decide) only [bodyA_eq, List.length_cons, List.length_nil, Nat.zero_add, Nat.reduceAdd, Nat.reduceSub, pads, List.cons_append, List.nil_append, run_seq, run_region, runOps_cons, oper_none, ex_box, AV.cells, opv, List.getD_cons_zero, List.all_cons, AV.isCell, List.all_nil, Bool.and_self, if_true, putK_to, List.set_cons_succ, List.set_cons_zero, opsK_some, List.getD_cons_succ, ex_mov, runOps_nil, regK_some, seqK_normal, run_draw, List.take_succ_cons, List.take_zero, runFree_cons, foper_none, fe_load, ex_load, rd_ptr, List.getElem?_cons_zero, rdK_cells, List.drop_zero, List.take_nil, loadK_n, valK_some, fstK_some, fputK_to, freeK_some, fe_call, List.map_cons, List.map_nil, pcallA_eq, frzN, List.mapM_cons, frz_agg, frz_sl, List.mapM_nil, Option.pure_def, Option.bind_eq_bind, Option.bind_some, Option.map_some, argK_some, ha, retK_some, scal, scal1, Bool.and_true, Bool.false_eq_true, fzIds, List.flatMap_cons, bor_agg, bor_sl, List.flatMap_nil, List.append_nil, List.foldl_nil, ite_self, quietK_some, quietCall, List.isEmpty_nil, Bool.or_true, List.getElem?_cons_succ, runFree_nil, drawK_some, List.drop_succ_cons, adopt, adoptVal, ex_call, hb, ex_store, wr_ptr, wrK_cells, splice, List.drop_nil, storeK_some, putK_no, fe_faddr, ex_faddr, faddrA_ptr, loadK_1, fe_len, ex_len, lenA_sl, run_block, run_loop, a32l0c, hl, blockK_exit, fe_mov, fe_bin, ex_bin, bin_quo, ctdiv, hdd, wr64, bin_mul, cmul, ← hP, bin_gtr, hng, decide_false, run_cond, condK_bool, ex_build, fillA, run_ret, run_skip, if_false, Nat.add_zero, ex_maxi, maxA_int, hmx, ex_mkfunc, ex_icall, hb2, bodyK_ret, results_2, resL_cons, res_cell, cellK_some, mkv_n, resK_some, res_tmp, resL_nil, retvK_some, pbodyK_some, frz_tup, frz_own, frzK_cells, Nat.mul_one, bs_take, List.take_length, frz_bs, slK_some, frz_int]
  · have hgt : ((4096 : Int) < (P : Nat)) := by omega
    rw [a32p, a32, pbodyA_eq]
    simp (maxSteps := 30000000) (disch := first | assumption | omega | (simp only [List.length_cons, List.length_nil, List.length_append, List.length_set, List.length_replicate, List.length_map, List.length_range, List.length_take, List.length_drop, List.all_cons, List.all_nil, AV.isCell, Bool.and_self, Bool.and_true, bs_length, is64_length] <;> omega) | rfl | decide) only [bodyA_eq, List.length_cons, List.length_nil, Nat.zero_add, Nat.reduceAdd, Nat.reduceSub, pads, List.cons_append, List.nil_append, run_seq, run_region, runOps_cons, oper_none, ex_box, AV.cells, opv, List.getD_cons_zero, List.all_cons, AV.isCell, List.all_nil, Bool.and_self, if_true, putK_to, List.set_cons_succ, List.set_cons_zero, opsK_some, List.getD_cons_succ, ex_mov, runOps_nil, regK_some, seqK_normal, run_draw, List.take_succ_cons, List.take_zero, runFree_cons, foper_none, fe_load, ex_load, rd_ptr, List.getElem?_cons_zero, rdK_cells, List.drop_zero, List.take_nil, loadK_n, valK_some, fstK_some, fputK_to, freeK_some, fe_call, List.map_cons, List.map_nil, pcallA_eq, frzN, List.mapM_cons, frz_agg, frz_sl, List.mapM_nil, Option.pure_def, Option.bind_eq_bind, Option.bind_some, Option.map_some, argK_some, ha, retK_some, scal, scal1, Bool.and_true, Bool.false_eq_true, fzIds, List.flatMap_cons, bor_agg, bor_sl, List.flatMap_nil, List.append_nil, List.foldl_nil, ite_self, quietK_some, quietCall, List.isEmpty_nil, Bool.or_true, List.getElem?_cons_succ, runFree_nil, drawK_some, List.drop_succ_cons, adopt, adoptVal, ex_call, hb, ex_store, wr_ptr, wrK_cells, splice, List.drop_nil, storeK_some, putK_no, fe_faddr, ex_faddr, faddrA_ptr, loadK_1, fe_len, ex_len, lenA_sl, run_block, run_loop, a32l0c, hl, blockK_exit, fe_mov, fe_bin, ex_bin, bin_quo, ctdiv, hdd, wr64, bin_mul, cmul, ← hP, bin_gtr, hgt, decide_true, run_cond, condK_bool, ex_build, fillA, run_ret, run_skip, seqK_ret, bodyK_ret, results_2, resL_cons, res_cell, cellK_some, mkv_n, resK_some, res_tmp, resL_nil, retvK_some, pbodyK_some, frz_tup, frz_int]
    rfl

/-! one letter, then none -/
def oneL (n : Nat) : List Nat := 1 :: List.replicate n 0
theorem oneL_at (n i : Nat) : seqM [] (oneL n) i = if i % (n + 1) = 0 then 1 else 0 := by
  have hne : fullM (oneL n) = oneL n := fullM_of (by simp [oneL])
  rw [seqM_loop (by simp), hne]
  have hl : (oneL n).length = n + 1 := by simp [oneL]
  rw [hl]
  simp only [List.length_nil, Nat.sub_zero]
  generalize i % (n + 1) = j
  cases j with
  | zero => rfl
  | succ j =>
    rw [if_neg (by omega)]
    show (List.replicate n 0).getD j 0 = 0
    rw [List.getD_eq_getElem?_getD, List.getElem?_replicate]
    split <;> rfl

theorem one_canon {n : Nat} (z : Bool) (hn : n < 1000000) : ∃ q', q'.length = n + 1 ∧ (∀ i, seqM [] q' i = if i % (n + 1) = 0 then 1 else 0) ∧ L.pcall 12 [las true z [] (oneL n)] = some (las true false [] q') := by
  have hl : (oneL n).length = n + 1 := by simp [oneL]
  obtain ⟨q', ⟨h0, h1, h2, h3⟩, h4, h5, -⟩ := canon_own0 z (oneL n) (by omega)
  have hfl := fullM_len (oneL n)
  refine ⟨q', ?_, fun i => by rw [h1, oneL_at], h5⟩
  have := seqM_per (p := []) h0 (i := 0) (by simp)
  rw [h1, h1, oneL_at, oneL_at, Nat.zero_mod, if_pos rfl] at this
  by_cases hm : (0 + q'.length) % (n + 1) = 0
  · have := Nat.le_of_dvd (by omega) (Nat.dvd_of_mod_eq_zero hm)
    omega
  · rw [if_neg hm] at this; omega

theorem merge_64_63 (z1 z2 : Bool) : ∃ q', q'.length = 4032 ∧ L.pcall 32 [las true z1 [] (oneL 63), las true z2 [] (oneL 62)] = some (.tup [las false false [] q', .int .i64 0]) := by
  obtain ⟨qa, a1, a2, a3⟩ := one_canon (n := 63) z1 (by omega)
  obtain ⟨qb, b1, b2, b3⟩ := one_canon (n := 62) z2 (by omega)
  have hm := (merge_own (B := 100) (n := 0) (P := 4032) (by omega) (f := fun i => if i % (63 + 1) = 0 then 1 else 0) (g := fun i => if i % (62 + 1) = 0 then 1 else 0) (fun i => by split <;> omega) (fun i => by split <;> omega) a3 b3 (by simp) (by omega) (by simp) (by omega) (by omega) (by omega) a2 b2 rfl (by rw [a1, b1]; decide)).1 (by omega)
  obtain ⟨p', q', ⟨c0, c1, c2, c3⟩, hp, he⟩ := hm
  obtain rfl : p' = [] := List.length_eq_zero_iff.1 (by omega)
  refine ⟨q', ?_, he⟩
  -- the letters of the join
  have hS : ∀ i, seqM (takeM (fun i => (if i % (63 + 1) = 0 then 1 else 0) ||| (if i % (62 + 1) = 0 then 1 else 0)) 0) (takeM (fun i => (if (0 + i) % (63 + 1) = 0 then 1 else 0) ||| (if (0 + i) % (62 + 1) = 0 then 1 else 0)) 4032) i = if i % 64 = 0 ∨ i % 63 = 0 then 1 else 0 := by
    intro i
    have l2 := takeM_length (fun i => (if (0 + i) % (63 + 1) = 0 then 1 else 0) ||| (if (0 + i) % (62 + 1) = 0 then 1 else 0)) 4032
    rw [seqM_loop (by simp [takeM]), fullM_of (by omega), l2]
    have e0 : (takeM (fun i => (if i % (63 + 1) = 0 then 1 else 0) ||| (if i % (62 + 1) = 0 then 1 else 0)) 0).length = 0 := rfl
    rw [e0, Nat.sub_zero]
    have hm := Nat.mod_lt i (show 0 < 4032 by omega)
    have h64 : i % 4032 % 64 = i % 64 := Nat.mod_mod_of_dvd i ⟨63, rfl⟩
    have h63 : i % 4032 % 63 = i % 63 := Nat.mod_mod_of_dvd i ⟨64, rfl⟩
    rw [List.getD_eq_getElem?_getD]
    simp only [takeM, List.getElem?_map, List.getElem?_range hm, Option.map_some, Option.getD_some, Nat.zero_add, Nat.reduceAdd, h64, h63]
    by_cases x : i % 64 = 0 <;> by_cases y : i % 63 = 0 <;> simp [x, y]
  have hper : ∀ i, seqM [] q' (i + q'.length) = seqM [] q' i := fun i => seqM_per (p := []) c0 (by simp)
  simp only [c1, hS] at hper
  have hle : q'.length ≤ 4032 := c2 4032 0 (by omega) (fun i _ => by
    rw [hS, hS, show (i + 4032) % 64 = i % 64 by omega, show (i + 4032) % 63 = i % 63 by omega])
  have k0 := hper 0
  have k1 := hper 63
  have k2 := hper 64
  generalize q'.length = P at *
  have e0 : (if (0 : Nat) % 64 = 0 ∨ 0 % 63 = 0 then (1 : Nat) else 0) = 1 := rfl
  have e1 : (if (63 : Nat) % 64 = 0 ∨ 63 % 63 = 0 then (1 : Nat) else 0) = 1 := rfl
  have e2 : (if (64 : Nat) % 64 = 0 ∨ 64 % 63 = 0 then (1 : Nat) else 0) = 1 := rfl
  rw [e0] at k0; rw [e1] at k1; rw [e2] at k2
  have g : ∀ {c : Prop} [Decidable c], (if c then 1 else 0) = 1 → c := fun {c} _ h => by
    by_cases hc : c
    · exact hc
    · rw [if_neg hc] at h; omega
  have k0 := g k0
  have k1 := g k1
  have k2 := g k2
  omega

theorem merge_64_65 (z1 z2 : Bool) : L.pcall 32 [las true z1 [] (oneL 63), las true z2 [] (oneL 64)] = some (.tup [las true true [] [], .int .i64 4]) := by
  obtain ⟨qa, a1, a2, a3⟩ := one_canon (n := 63) z1 (by omega)
  obtain ⟨qb, b1, b2, b3⟩ := one_canon (n := 64) z2 (by omega)
  exact (merge_own (B := 100) (n := 0) (P := 4160) (by omega) (f := fun i => if i % (63 + 1) = 0 then 1 else 0) (g := fun i => if i % (64 + 1) = 0 then 1 else 0) (fun i => by split <;> omega) (fun i => by split <;> omega) a3 b3 (by simp) (by omega) (by simp) (by omega) (by omega) (by omega) a2 b2 rfl (by rw [a1, b1]; decide)).2 (by omega)
end Go.Abs.Lasso
