/- fixed in general; the useful states. -/
import Derived.Test.YtijmhicopfphnaaDoorAMR
namespace Go.Abs.Tree
open Go Go.Abs
set_option linter.unusedSimpArgs false
set_option linter.unusedVariables false

theorem fixed_gen {fv : AV} {M : Nat → Nat} {Q : Heap → Prop} (hf : ∃ f cs, fv = .func f cs) (hQ : ∀ G X, Q G → Q (G ++ X)) (hstep : ∀ s G, s < 18446744073709551616 → Q G → ∃ X, L.icall fv [.int .u64 (s : Nat)] G = some (.int .u64 (M s : Nat), G ++ X))
    (hlt : ∀ s, s < 18446744073709551616 → M s < 18446744073709551616) (hle : ∀ s, s ≤ M s) : ∀ m s (G : Heap), 18446744073709551616 - s ≤ m → s < 18446744073709551616 → Q G →
    ∃ w X, L.loop a86l0s a86l0 ⟨a86l0F (.int .u64 (s : Nat)) fv (.int .u64 (M s : Nat)), G⟩ = some (.exit 0, ⟨a86l0F (.int .u64 (w : Nat)) fv (.int .u64 (w : Nat)), G ++ X⟩) ∧
      w < 18446744073709551616 ∧ M w = w ∧ ∀ P : Nat → Prop, P s → (∀ x, P x → P (M x)) → P w
  | 0, s, G, hm, hs, hG => by omega
  | m + 1, s, G, hm, hs, hG => by
    have hp := hlt s hs
    have hl := hle s
    by_cases c : M s = s
    · refine ⟨s, [], ?_, hs, c, fun P h _ => h⟩
      obtain ⟨f, cs, rfl⟩ := hf
      rw [c, List.append_nil, a86l0n]
      simp (maxSteps := 30000000) (disch := first | assumption | omega | (simp only [List.length_cons, List.length_nil, List.length_append, List.length_set, List.length_replicate, List.length_map, List.length_range, List.length_take, List.length_drop, List.all_cons, List.all_nil, AV.isCell, Bool.and_self, Bool.and_true, bs_length, is64_length, w64_length, ints_length, lfs_length, rls_length] <;> omega) | rfl | decide) only [a86l0b, run_seq, run_region, runOps_cons, oper_none, ex_mov, opv, List.getD_cons_succ, List.getD_cons_zero, putK_to, List.set_cons_succ, List.set_cons_zero, opsK_some, ex_bin, bin_neq, decide_true, Bool.not_true, valK_some, runOps_nil, regK_some, seqK_normal, run_cond, condK_bool, Bool.false_eq_true, ↓reduceIte, run_exit, seqK_exit, loopK_exit, a86l0c]
    · have hne : ((((M s : Nat) : Int) = ((s : Nat) : Int))) = False := eq_false (by omega)
      obtain ⟨X1, h1⟩ := hstep (M s) G hp hG
      obtain ⟨w, X, h2, h3, h4, h5⟩ := fixed_gen hf hQ hstep hlt hle m (M s) (G ++ X1) (by omega) hp (hQ _ _ hG)
      refine ⟨w, X1 ++ X, ?_, h3, h4, fun P p0 pn => h5 P (pn _ p0) pn⟩
      rw [List.append_assoc] at h2
      obtain ⟨f, cs, rfl⟩ := hf
      rw [a86l0n]
      simp (maxSteps := 30000000) (disch := first | assumption | omega | (simp only [List.length_cons, List.length_nil, List.length_append, List.length_set, List.length_replicate, List.length_map, List.length_range, List.length_take, List.length_drop, List.all_cons, List.all_nil, AV.isCell, Bool.and_self, Bool.and_true, bs_length, is64_length, w64_length, ints_length, lfs_length, rls_length] <;> omega) | rfl | decide) only [a86l0b, run_seq, run_region, runOps_cons, oper_none, ex_mov, opv, List.getD_cons_succ, List.getD_cons_zero, putK_to, List.set_cons_succ, List.set_cons_zero, opsK_some, ex_bin, bin_neq, hne, decide_false, Bool.not_false, valK_some, runOps_nil, regK_some, seqK_normal, run_cond, condK_bool, ↓reduceIte, run_skip, run_block, blockK_normal, ex_icall, List.map_cons, List.map_nil, h1, loopK_normal, a86l0c, h2]

theorem fixed_icall {fv : AV} {M : Nat → Nat} {Q : Heap → Prop} (hf : ∃ f cs, fv = .func f cs) (hQ : ∀ G X, Q G → Q (G ++ X)) (hstep : ∀ s G, s < 18446744073709551616 → Q G → ∃ X, L.icall fv [.int .u64 (s : Nat)] G = some (.int .u64 (M s : Nat), G ++ X))
    (hlt : ∀ s, s < 18446744073709551616 → M s < 18446744073709551616) (hle : ∀ s, s ≤ M s) (s : Nat) (G : Heap) (hs : s < 18446744073709551616) (hG : Q G) :
    ∃ w X, L.icall (.func 86 []) [.int .u64 (s : Nat), fv] G = some (.int .u64 (w : Nat), G ++ X) ∧ w < 18446744073709551616 ∧ M w = w ∧ ∀ P : Nat → Prop, P s → (∀ x, P x → P (M x)) → P w := by
  obtain ⟨X1, h1⟩ := hstep s G hs hG
  obtain ⟨w, X, h2, h3, h4, h5⟩ := fixed_gen hf hQ hstep hlt hle 18446744073709551616 s (G ++ X1) (by omega) hs (hQ _ _ hG)
  refine ⟨w, X1 ++ X, ?_, h3, h4, h5⟩
  rw [List.append_assoc] at h2
  obtain ⟨f, cs, rfl⟩ := hf
  rw [a86i, a86]
  simp (maxSteps := 30000000) (disch := first | assumption | omega | (simp only [List.length_cons, List.length_nil, List.length_append, List.length_set, List.length_replicate, List.length_map, List.length_range, List.length_take, List.length_drop, List.all_cons, List.all_nil, AV.isCell, Bool.and_self, Bool.and_true, bs_length, is64_length, w64_length, ints_length, lfs_length, rls_length] <;> omega) | rfl | decide) only [List.append_nil, bodyA_eq, List.length_cons, List.length_nil, Nat.zero_add, Nat.reduceAdd, Nat.reduceSub, pads, List.cons_append, List.nil_append, run_seq, run_region, runOps_cons, oper_none, ex_mov, opv, putK_to, List.set_cons_succ, List.set_cons_zero, opsK_some, runOps_nil, regK_some, seqK_normal, List.getD_cons_succ, List.getD_cons_zero, ex_icall, List.map_cons, List.map_nil, h1, run_block, run_loop, a86l0c, h2, blockK_exit, ↓reduceIte, run_ret, bodyK_ret, results_1, res_tmp, retvK_some]

/-- one pass back over the rules -/
def backM (seen s : Nat) : List Rl → Nat
  | [] => s
  | u :: t => backM seen (if (s.testBit u.t.toNat && (seen.testBit u.l.toNat && seen.testBit u.r.toNat)) = true then s ||| (2 ^ u.l.toNat ||| 2 ^ u.r.toNat) else s) t

theorem backM_lt (seen : Nat) : ∀ (l : List Rl) (s : Nat), s < 18446744073709551616 → RlOk l → backM seen s l < 18446744073709551616
  | [], s, h, _ => h
  | u :: t, s, h, hb => by
    have hu := hb u (List.mem_cons_self ..)
    refine backM_lt seen t _ ?_ (fun e he => hb e (List.mem_cons_of_mem _ he))
    split
    · exact or_lt h (or_lt (pow64 (by omega)) (pow64 (by omega)))
    · exact h
theorem backM_sub (seen : Nat) : ∀ (l : List Rl) (s j : Nat), s.testBit j = true → (backM seen s l).testBit j = true
  | [], s, j, h => h
  | u :: t, s, j, h => backM_sub seen t _ j (by split <;> simp [h])
theorem sub_le {s w : Nat} (h : ∀ j, s.testBit j = true → w.testBit j = true) : s ≤ w := by
  have : s ||| w = w := by
    apply Nat.eq_of_testBit_eq
    intro j
    rw [Nat.testBit_or]
    cases e : s.testBit j with
    | false => simp
    | true => rw [h j e]; rfl
  rw [← this]
  exact Nat.left_le_or
theorem backM_le (seen : Nat) (l : List Rl) (s : Nat) : s ≤ backM seen s l := sub_le (backM_sub seen l s)

/-- closed back under the rules -/
def CloB (rl : List Rl) (S U : Nat → Bool) : Prop := ∀ u ∈ rl, U u.t.toNat = true → S u.l.toNat = true → S u.r.toNat = true → U u.l.toNat = true ∧ U u.r.toNat = true

theorem backM_fix (seen : Nat) : ∀ (l : List Rl) (s : Nat), backM seen s l = s → CloB l (fun j => seen.testBit j) (fun j => s.testBit j)
  | [], s, _, u, hu, _, _, _ => by simp at hu
  | v :: t, s, h, u, hu, h1, h2, h3 => by
    rw [backM] at h
    have h4 : (if (s.testBit v.t.toNat && (seen.testBit v.l.toNat && seen.testBit v.r.toNat)) = true then s ||| (2 ^ v.l.toNat ||| 2 ^ v.r.toNat) else s) = s := by
      have a := backM_le seen t (if (s.testBit v.t.toNat && (seen.testBit v.l.toNat && seen.testBit v.r.toNat)) = true then s ||| (2 ^ v.l.toNat ||| 2 ^ v.r.toNat) else s)
      rw [h] at a
      by_cases c : (s.testBit v.t.toNat && (seen.testBit v.l.toNat && seen.testBit v.r.toNat)) = true
      · rw [if_pos c] at a ⊢
        have := @Nat.left_le_or s (2 ^ v.l.toNat ||| 2 ^ v.r.toNat)
        omega
      · rw [if_neg c]
    rcases List.mem_cons.1 hu with rfl | hu
    · simp only at h1 h2 h3 ⊢
      rw [if_pos (by rw [h1, h2, h3]; rfl)] at h4
      constructor
      · rw [← h4]; simp
      · rw [← h4]; simp
    · rw [h4] at h
      exact backM_fix seen t s h u hu h1 h2 h3

theorem backM_min (seen : Nat) : ∀ (l rl : List Rl) (s : Nat) (U : Nat → Bool), (∀ u ∈ l, u ∈ rl) → CloB rl (fun j => seen.testBit j) U → (∀ j, s.testBit j = true → U j = true) → ∀ j, (backM seen s l).testBit j = true → U j = true
  | [], rl, s, U, _, _, h, j, hj => h j hj
  | u :: t, rl, s, U, hm, hU, h, j, hj => by
    refine backM_min seen t rl _ U (fun v hv => hm v (List.mem_cons_of_mem _ hv)) hU ?_ j hj
    intro j hj
    split at hj
    · rename_i c
      rw [Nat.testBit_or, Nat.testBit_or, Nat.testBit_two_pow, Nat.testBit_two_pow] at hj
      simp only [Bool.or_eq_true, decide_eq_true_eq] at hj
      simp only [Bool.and_eq_true] at c
      have := hU u (hm u (List.mem_cons_self ..)) (h _ c.1) c.2.1 c.2.2
      rcases hj with hj | rfl | rfl
      · exact h j hj
      · exact this.1
      · exact this.2
    · exact h j hj

theorem back_loop {z : Bool} {rl : List Rl} {seen : Nat} (hl : rl.length < 1099511627776) (hb : RlOk rl) (hS : seen < 18446744073709551616) : ∀ d i s G, i + d = rl.length → s < 18446744073709551616 → G[1]? = some (.cells false false [.int .u64 (seen : Nat)]) →
    ∃ X, L.loop a88l0s a88l0 ⟨a88l0F (.int .u64 (s : Nat)) (.ptr 1 0) (.sl z rl.length (rls rl)) (.int .i64 (rl.length : Nat)) (.int .i64 (i : Nat)), G⟩ =
      some (.exit 0, ⟨a88l0F (.int .u64 (backM seen s (rl.drop i) : Nat)) (.ptr 1 0) (.sl z rl.length (rls rl)) (.int .i64 (rl.length : Nat)) (.int .i64 (rl.length : Nat)), G ++ X⟩)
  | 0, i, s, G, h, hs, hG => by
    obtain rfl : i = rl.length := by omega
    refine ⟨[], ?_⟩
    rw [List.drop_length, backM, a88l0n, List.append_nil]
    simp (maxSteps := 30000000) (disch := first | assumption | omega | (simp only [List.length_cons, List.length_nil, List.length_append, List.length_set, List.length_replicate, List.length_map, List.length_range, List.length_take, List.length_drop, List.all_cons, List.all_nil, AV.isCell, Bool.and_self, Bool.and_true, bs_length, is64_length, w64_length, ints_length, lfs_length, rls_length] <;> omega) | rfl | decide) only [a88l0b, run_seq, run_region, runOps_cons, oper_none, ex_bin, opv, List.getD_cons_succ, List.getD_cons_zero, bin_lss, Int.lt_irrefl, decide_false, valK_some, putK_to, List.set_cons_succ, List.set_cons_zero, opsK_some, runOps_nil, regK_some, seqK_normal, run_cond, condK_bool, Bool.false_eq_true, ↓reduceIte, run_exit, seqK_exit, loopK_exit, a88l0c]
  | d + 1, i, s, G, h, hs, hG => by
    have hlt : (i : Int) < (rl.length : Nat) := by omega
    obtain ⟨⟨l0, l1⟩, ⟨r0', r1⟩, ⟨t0, t1⟩, p1, n1⟩ := hb _ (getR_mem (by omega : i < rl.length))
    have hst := shrN s (show (rl.getD i r0).t.toNat ≤ IntKind.u64.bits from by show _ ≤ 64; omega)
    have hbt := bitA hs (rl.getD i r0).t.toNat
    have hsl := shrN seen (show (rl.getD i r0).l.toNat ≤ IntKind.u64.bits from by show _ ≤ 64; omega)
    have hsr := shrN seen (show (rl.getD i r0).r.toNat ≤ IntKind.u64.bits from by show _ ≤ 64; omega)
    have sh : ∀ a, seen >>> a < 18446744073709551616 := fun a => Nat.lt_of_le_of_lt (by rw [Nat.shiftRight_eq_div_pow]; exact Nat.div_le_self ..) hS
    have ha1 := and64 (sh (rl.getD i r0).l.toNat) (sh (rl.getD i r0).r.toNat)
    have ha2 := and64 (Nat.lt_of_le_of_lt Nat.and_le_left (sh (rl.getD i r0).l.toNat) : seen >>> (rl.getD i r0).l.toNat &&& seen >>> (rl.getD i r0).r.toNat < 18446744073709551616) (show 1 < 18446744073709551616 by omega)
    rw [and3, show ((1 : Nat) : Int) = 1 from rfl] at ha2
    have hpl := pow64 (show (rl.getD i r0).l.toNat < 64 by omega)
    have hpr := pow64 (show (rl.getD i r0).r.toNat < 64 by omega)
    have hs1 := shl64 (show (rl.getD i r0).l.toNat < 64 by omega)
    have hs2 := shl64 (show (rl.getD i r0).r.toNat < 64 by omega)
    have ho1 := or64 hpl hpr
    have ho2 := or64 hs (or_lt hpl hpr)
    have hg : ∀ X : Heap, (G ++ X)[1]? = some (.cells false false [.int .u64 (seen : Nat)]) := fun X => app_get hG
    rw [drop_getR (by omega : i < rl.length), backM]
    by_cases c1 : s.testBit (rl.getD i r0).t.toNat = true
    · rw [if_pos c1] at hbt
      by_cases c2 : (seen.testBit (rl.getD i r0).l.toNat && seen.testBit (rl.getD i r0).r.toNat) = true
      · rw [if_pos c2] at ha2
        rw [if_pos (by rw [c1, c2]; rfl)]
        obtain ⟨X, ih⟩ := back_loop (z := z) hl hb hS d (i + 1) (s ||| (2 ^ (rl.getD i r0).l.toNat ||| 2 ^ (rl.getD i r0).r.toNat)) (G ++ [.cells false false (encR (rl.getD i r0))]) (by omega) (or_lt hs (or_lt hpl hpr)) (hg _)
        refine ⟨.cells false false (encR (rl.getD i r0)) :: X, ?_⟩
        simp only [encR, List.append_assoc, List.cons_append, List.nil_append] at ih ⊢
        simp only [Int.natCast_one] at ha2
        rw [a88l0n]
        simp (maxSteps := 30000000) (disch := first | assumption | omega | (simp only [List.length_cons, List.length_nil, List.length_append, List.length_set, List.length_replicate, List.length_map, List.length_range, List.length_take, List.length_drop, List.all_cons, List.all_nil, AV.isCell, Bool.and_self, Bool.and_true, bs_length, is64_length, w64_length, ints_length, lfs_length, rls_length] <;> omega) | rfl | decide) only [a88l0b, run_seq, run_region, runOps_cons, oper_none, ex_bin, opv, List.getD_cons_succ, List.getD_cons_zero, bin_lss, hlt, decide_true, valK_some, putK_to, List.set_cons_succ, List.set_cons_zero, opsK_some, runOps_nil, regK_some, seqK_normal, run_cond, condK_bool, ↓reduceIte, run_skip, run_block, ex_iaddr, iaddrA_sl, Int.toNat_natCast, ex_load, rd_vptr, rls_at, loadK_n, ex_box, AV.cells, List.all_cons, AV.isCell, List.all_nil, Bool.and_self, ex_store, List.length_cons, List.length_nil, Nat.zero_add, Nat.reduceAdd, wr_ptr, hget0, List.getElem?_cons_zero, wrK_cells, splice, List.take_zero, List.nil_append, List.drop_succ_cons, List.drop_nil, List.append_nil, hset0, storeK_some, putK_no, run_draw, List.take_succ_cons, runFree_cons, foper_none, fe_mov, ex_mov, fstK_some, fputK_to, freeK_some, fe_faddr, ex_faddr, faddrA_ptr, fe_load, rd_ptr, rdK_cells, List.drop_zero, loadK_1, fe_bin, bin_shr, hst, bin_and, hbt, bin_neq, Int.reduceEq, decide_false, Bool.not_false, foper_guard, fguardK_bool, hg, List.take_nil, Nat.add_zero, hsl, hsr, runFree_nil, drawK_some, adopt, adoptVal, oper_guard, guardK_bool, ha1, ha2, ex_pick, pickA_bool, bin_shl, hs1, hs2, bin_or, ho1, ho2, blockK_normal, bin_add, cadd1, wr64, loopK_normal, a88l0c, ih]
      · rw [if_neg c2] at ha2
        rw [if_neg (by rw [c1, Bool.true_and]; exact c2)]
        obtain ⟨X, ih⟩ := back_loop (z := z) hl hb hS d (i + 1) s (G ++ [.cells false false (encR (rl.getD i r0))]) (by omega) hs (hg _)
        refine ⟨.cells false false (encR (rl.getD i r0)) :: X, ?_⟩
        simp only [encR, List.append_assoc, List.cons_append, List.nil_append] at ih ⊢
        simp only [Int.natCast_zero] at ha2
        rw [a88l0n]
        simp (maxSteps := 30000000) (disch := first | assumption | omega | (simp only [List.length_cons, List.length_nil, List.length_append, List.length_set, List.length_replicate, List.length_map, List.length_range, List.length_take, List.length_drop, List.all_cons, List.all_nil, AV.isCell, Bool.and_self, Bool.and_true, bs_length, is64_length, w64_length, ints_length, lfs_length, rls_length] <;> omega) | rfl | decide) only [a88l0b, run_seq, run_region, runOps_cons, oper_none, ex_bin, opv, List.getD_cons_succ, List.getD_cons_zero, bin_lss, hlt, decide_true, valK_some, putK_to, List.set_cons_succ, List.set_cons_zero, opsK_some, runOps_nil, regK_some, seqK_normal, run_cond, condK_bool, ↓reduceIte, run_skip, run_block, ex_iaddr, iaddrA_sl, Int.toNat_natCast, ex_load, rd_vptr, rls_at, loadK_n, ex_box, AV.cells, List.all_cons, AV.isCell, List.all_nil, Bool.and_self, ex_store, List.length_cons, List.length_nil, Nat.zero_add, Nat.reduceAdd, wr_ptr, hget0, List.getElem?_cons_zero, wrK_cells, splice, List.take_zero, List.nil_append, List.drop_succ_cons, List.drop_nil, List.append_nil, hset0, storeK_some, putK_no, run_draw, List.take_succ_cons, runFree_cons, foper_none, fe_mov, ex_mov, fstK_some, fputK_to, freeK_some, fe_faddr, ex_faddr, faddrA_ptr, fe_load, rd_ptr, rdK_cells, List.drop_zero, loadK_1, fe_bin, bin_shr, hst, bin_and, hbt, bin_neq, Int.reduceEq, decide_false, Bool.not_false, foper_guard, fguardK_bool, hg, List.take_nil, Nat.add_zero, hsl, hsr, runFree_nil, drawK_some, adopt, adoptVal, oper_guard, guardK_bool, ha1, ha2, Bool.not_true, ex_pick, pickA_bool, Bool.false_eq_true, blockK_normal, bin_add, cadd1, wr64, loopK_normal, a88l0c, ih]
    · rw [if_neg c1] at hbt
      rw [if_neg (by simp only [Bool.not_eq_true] at c1; rw [c1]; simp)]
      obtain ⟨X, ih⟩ := back_loop (z := z) hl hb hS d (i + 1) s (G ++ [.cells false false (encR (rl.getD i r0))]) (by omega) hs (hg _)
      refine ⟨.cells false false (encR (rl.getD i r0)) :: X, ?_⟩
      simp only [encR, List.append_assoc, List.cons_append, List.nil_append] at ih ⊢
      rw [a88l0n]
      simp (maxSteps := 30000000) (disch := first | assumption | omega | (simp only [List.length_cons, List.length_nil, List.length_append, List.length_set, List.length_replicate, List.length_map, List.length_range, List.length_take, List.length_drop, List.all_cons, List.all_nil, AV.isCell, Bool.and_self, Bool.and_true, bs_length, is64_length, w64_length, ints_length, lfs_length, rls_length] <;> omega) | rfl | decide) only [a88l0b, run_seq, run_region, runOps_cons, oper_none, ex_bin, opv, List.getD_cons_succ, List.getD_cons_zero, bin_lss, hlt, decide_true, valK_some, putK_to, List.set_cons_succ, List.set_cons_zero, opsK_some, runOps_nil, regK_some, seqK_normal, run_cond, condK_bool, ↓reduceIte, run_skip, run_block, ex_iaddr, iaddrA_sl, Int.toNat_natCast, ex_load, rd_vptr, rls_at, loadK_n, ex_box, AV.cells, List.all_cons, AV.isCell, List.all_nil, Bool.and_self, ex_store, List.length_cons, List.length_nil, Nat.zero_add, Nat.reduceAdd, wr_ptr, hget0, List.getElem?_cons_zero, wrK_cells, splice, List.take_zero, List.nil_append, List.drop_succ_cons, List.drop_nil, List.append_nil, hset0, storeK_some, putK_no, run_draw, List.take_succ_cons, runFree_cons, foper_none, fe_mov, ex_mov, fstK_some, fputK_to, freeK_some, fe_faddr, ex_faddr, faddrA_ptr, fe_load, rd_ptr, rdK_cells, List.drop_zero, loadK_1, fe_bin, bin_shr, hst, bin_and, hbt, bin_neq, Bool.not_true, foper_guard, fguardK_bool, Bool.false_eq_true, putA_to, runFree_nil, drawK_some, adopt, adoptVal, oper_guard, guardK_bool, ex_pick, pickA_bool, blockK_normal, bin_add, cadd1, wr64, loopK_normal, a88l0c, ih]
end Go.Abs.Tree
