/- sub: all states. -/
import Derived.Test.YtdkbhidfiplncaaAD6
namespace Go.Abs.Det
open Go Go.Abs
set_option linter.unusedSimpArgs false
set_option linter.unusedVariables false

def stT (d : Dfa) (n m l : Nat) : List AV := (List.range l).map fun k => .sl false n (rowsT d n m k n)
def fiS (d : Dfa) (l : Nat) : List Bool := (List.range l).map fun k => d.fin.getD k false
theorem stT_len (d : Dfa) (n m l : Nat) : (stT d n m l).length = l := by simp [stT]
theorem stT_succ (d : Dfa) (n m k : Nat) : stT d n m (k + 1) = stT d n m k ++ [.sl false n (rowsT d n m k n)] := by
  unfold stT; rw [List.range_succ, List.map_append]; rfl
theorem fiS_len (d : Dfa) (l : Nat) : (fiS d l).length = l := by simp [fiS]
theorem fiS_succ (d : Dfa) (k : Nat) : fiS d (k + 1) = fiS d k ++ [d.fin.getD k false] := by
  unfold fiS; rw [List.range_succ, List.map_append]; rfl
theorem set_gapp {A T : Heap} {i : Nat} {X : Blk} (h : i < A.length) : (A.set i X ++ T)[i]? = some X := by
  rw [List.getElem?_append_left (by simpa using h), List.getElem?_set_self h]
theorem bool_at0 {l : List Bool} (h : 0 < l.length) : List.take 1 (bools l) = [AV.bool (l.getD 0 false)] := bool_at (i := 0) h
theorem bools_app (a b : List Bool) : bools a ++ bools b = bools (a ++ b) := by simp [bools]

/-- the part under way: the values of the two fields -/
inductive Under (d : Dfa) (n m l : Nat) (v2 em : Int) (G : Heap) : Prop
  | zero (h : l = 0) (h2 : G[2]? = some (.cells false false [.int .i64 v2, .int .i64 em, .sl true 0 [], .sl true 0 []]))
  | some (id f : Nat) (cs : List AV) (h : l ≠ 0) (h2 : G[2]? = some (.cells false false [.int .i64 v2, .int .i64 em, .own false id 0 l 1, .own false f 0 l 1]))
      (hi : G[id]? = some (.cells false false cs)) (hf : G[f]? = some (.cells false false (bools (fiS d l)))) (i3 : 3 ≤ id) (f3 : 3 ≤ f) (hne : id ≠ f) (hl : cs.length = l)
      (he : ∀ (i : Nat) (c t : AV), cs[i]? = some c → (stT d n m l)[i]? = some t → Fz 2 G 3 c t ∧ ∀ q, 2 ≤ q → id ∉ bor q G c ∧ f ∉ bor q G c)

set_option maxHeartbeats 1000000 in
theorem sub_states {d : Dfa} {n m : Nat} {v2 em : Int} {x1 : Blk} (hn : 0 < n) (hn8 : n ≤ 8) (hm : m ≤ 8) (hnl : n ≤ d.next.length) (hv : IntKind.i64.wrap (1 * 2 ^ min v2.toNat IntKind.i64.bits) = (m : Nat)) (hv0 : 0 ≤ v2) : ∀ e l G, l + e = n → G[0]? = some (.cells false false d.cells) → G[1]? = some x1 → Under d n m l v2 em G →
    ∃ G', L.loop a42l2s a42l2 ⟨a42l2F (.int .i64 n) (.ptr 0 0) (.ptr 1 0) (.ptr 2 0) (.int .i64 (l : Nat)), G⟩ =
      some (.exit 0, ⟨a42l2F (.int .i64 n) (.ptr 0 0) (.ptr 1 0) (.ptr 2 0) (.int .i64 (n : Nat)), G'⟩) ∧ G'[1]? = some x1 ∧ Under d n m n v2 em G' := by
  intro e
  induction e with
  | zero =>
    intro l G h h0 h1 hU
    obtain rfl : l = n := by omega
    refine ⟨G, ?_, h1, hU⟩
    rw [a42l2n]
    simp (maxSteps := 30000000) (disch := first | assumption | omega | (simp only [List.length_cons, List.length_nil, List.length_append, List.length_set, List.length_replicate, List.length_map, List.length_range, List.length_take, List.length_drop, List.all_cons, List.all_nil, AV.isCell, Bool.and_self, Bool.and_true, bs_length, is64_length, w64_length, ints_length, ints_length, bools_len] <;> omega) | rfl | decide) only [a42l2b, run_seq, run_region, runOps_cons, oper_none, ex_mov, opv, List.getD_cons_succ, List.getD_cons_zero, putK_to, List.set_cons_succ, List.set_cons_zero, opsK_some, ex_bin, bin_lss, Int.lt_irrefl, decide_false, valK_some, runOps_nil, regK_some, seqK_normal, run_cond, condK_bool, Bool.false_eq_true, ↓reduceIte, run_exit, seqK_exit, loopK_exit, a42l2c]
  | succ e ih =>
    intro l G h h0 h1 hU
    have hlt : (l : Int) < (n : Nat) := by omega
    have g3 : 3 ≤ G.length := by
      cases hU with
      | zero _ h2 => exact (List.getElem?_eq_some_iff.1 h2).1
      | some id f cs _ h2 => exact (List.getElem?_eq_some_iff.1 h2).1
    obtain ⟨w1, w2, h2⟩ : ∃ w1 w2, G[2]? = some (.cells false false [.int .i64 v2, .int .i64 em, w1, w2]) := by
      cases hU with
      | zero _ h2 => exact ⟨_, _, h2⟩
      | some id f cs _ h2 => exact ⟨_, _, h2⟩
    obtain ⟨G2, v', r1, r2, r3, r4⟩ := sub_rows (d := d) (n := n) (m := m) (l := l) (B := G.length) (v2 := v2) hn hn8 hm (by omega) (by omega) hv hv0 n 0 G (.sl true 0 []) (by omega) h0 h2 (Nat.le_refl _) (.inl ⟨rfl, rfl⟩)
    have fz := r2.fz
    rw [rowsT_len] at fz
    have hz : (n == 0) = false := by rw [beq_eq_false_iff_ne]; omega
    rw [hz] at fz
    have fz' : Fz 2 G2 G.length v' (.sl false n (rowsT d n m l n)) := by
      rcases fz with q | q
      · exact q
      · have := rowsT_len d n m l n; rw [q] at this; simp at this; omega
    obtain ⟨nid, rfl, hnid⟩ : ∃ nid, v' = .own false nid 0 n 1 ∧ nid < G2.length := by
      rcases r2 with ⟨q, _⟩ | ⟨nid, cs, q, q2, _⟩
      · have := rowsT_len d n m l n; rw [q] at this; simp at this; omega
      · rw [rowsT_len] at q
        exact ⟨nid, q, (List.getElem?_eq_some_iff.1 q2).1⟩
    clear fz r2
    simp only [Int.natCast_zero] at r1
    have hz0 : G2[0]? = some (.cells false false d.cells) := (r4 0 (by omega)).trans h0
    have hz1 : G2[1]? = some x1 := (r4 1 (by omega)).trans h1
    have hgd : ∀ b : Bool, d.fin.getD l false = b → True := fun _ _ => trivial
    cases hU with
    | zero hl0 h2' =>
      subst hl0
      have hz2 : G2[2]? = some (.cells false false [.int .i64 v2, .int .i64 em, .sl true 0 [], .sl true 0 []]) := (r4 2 (by omega)).trans h2'
      obtain ⟨H', hH⟩ : ∃ H' : Heap, H' = (((G2 ++ [Blk.cells false false [.own false nid 0 n 1], Blk.cells false false [.own false nid 0 n 1]]).set 2 (.cells false false [.int .i64 v2, .int .i64 em, .own false (G2.length + 1) 0 1 1, .sl true 0 []])) ++ [Blk.cells false false [.bool (d.fin.getD 0 false)]]).set 2 (.cells false false [.int .i64 v2, .int .i64 em, .own false (G2.length + 1) 0 1 1, .own false (G2.length + 2) 0 1 1]) := ⟨_, rfl⟩
      have same : ∀ b, b ≠ 2 → b < G2.length → H'[b]? = G2[b]? := fun b hb hb2 => by
        rw [hH, List.getElem?_set_ne (Ne.symm hb), List.getElem?_append_left (by simp; omega), List.getElem?_set_ne (Ne.symm hb), List.getElem?_append_left hb2]
      have hlen : H'.length = G2.length + 3 := by simp [hH]
      have hs2 : H'[2]? = some (.cells false false [.int .i64 v2, .int .i64 em, .own false (G2.length + 1) 0 1 1, .own false (G2.length + 2) 0 1 1]) := by rw [hH]; exact List.getElem?_set_self (by simp)
      have hs3 : H'[G2.length + 1]? = some (.cells false false [.own false nid 0 n 1]) := by
        rw [hH, List.getElem?_set_ne (by omega), List.getElem?_append_left (by simp), List.getElem?_set_ne (by omega)]
        exact hget _ _ 1
      have hs4 : H'[G2.length + 2]? = some (.cells false false [.bool (d.fin.getD 0 false)]) := by
        rw [hH, List.getElem?_set_ne (by omega), List.getElem?_append_right (by simp)]
        simp
      have fzH : Fz 2 H' G.length (.own false nid 0 n 1) (.sl false n (rowsT d n m 0 n)) := fz'.frame (by omega) fun q hq b hb => by
        have := (fz' q hq).2 b hb
        exact same b (by omega) this.2
      have hU' : Under d n m 1 v2 em H' := .some (G2.length + 1) (G2.length + 2) [.own false nid 0 n 1] (by omega) hs2 hs3 (by rw [hs4]; rfl) (by omega) (by omega) (by omega) rfl (fun i c t hc ht => by
        have e0 : i = 0 := by
          cases i with
          | zero => rfl
          | succ i => simp at hc
        subst e0
        simp at hc
        subst hc
        have : t = .sl false n (rowsT d n m 0 n) := by simpa [stT] using ht.symm
        subst this
        refine ⟨fzH.low (by omega), fun q hq => ?_⟩
        have hb2 := (frz_frame q _ (fun b hb => by have := (fz' q hq).2 b hb; exact same b (by omega) this.2)).2
        rw [hb2]
        exact ⟨fun hm' => by have := (fz' q hq).2 _ hm'; omega, fun hm' => by have := (fz' q hq).2 _ hm'; omega⟩)
      obtain ⟨G', e1, e2, e3⟩ := ih 1 H' (by omega) (by rw [same 0 (by omega) (by omega)]; exact hz0) (by rw [same 1 (by omega) (by omega)]; exact hz1) hU'
      refine ⟨G', ?_, e2, e3⟩
      have hz2' := fun T => app_get (X := T) hz2
      have hz0' := fun T => app_get (X := T) hz0
      have s2 : ∀ (A : Heap) (x y : Blk), 2 < A.length → (A.set 2 x)[2]? = some x := fun A x y h => List.getElem?_set_self h
      unfold Dfa.cells at hz0 hz0'
      rw [hH] at e1
      simp only [Int.natCast_zero, Int.natCast_one] at hlt e1 r1 ⊢
      rw [a42l2n]
      by_cases c : 0 < d.fin.length
      · have c' : (0 : Int) < (d.fin.length : Nat) := by omega
        simp (maxSteps := 30000000) (disch := first | assumption | omega | (simp only [List.length_cons, List.length_nil, List.length_append, List.length_set, List.length_replicate, List.length_map, List.length_range, List.length_take, List.length_drop, List.all_cons, List.all_nil, AV.isCell, Bool.and_self, Bool.and_true, bs_length, is64_length, w64_length, ints_length, ints_length, bools_len] <;> omega) | rfl | decide) only [a42l2b, run_seq, run_region, runOps_cons, oper_none, ex_mov, opv, List.getD_cons_succ, List.getD_cons_zero, putK_to, List.set_cons_succ, List.set_cons_zero, opsK_some, ex_bin, bin_lss, hlt, decide_true, valK_some, runOps_nil, regK_some, seqK_normal, run_cond, condK_bool, ↓reduceIte, run_skip, run_block, run_loop, a42l1c, r1, blockK_exit, ex_faddr, faddrA_ptr, Nat.zero_add, ex_load, rd_ptr, hz2, rdK_cells, List.drop_succ_cons, List.drop_zero, List.take_succ_cons, List.take_zero, loadK_1, ex_bslice, AV.cells, List.all_cons, List.length_cons, List.length_nil, beq_self_eq_true, List.all_nil, Bool.and_self, repz_1, List.append_nil, Nat.mul_one, List.map_cons, List.map_nil, fillA, Nat.le_refl, AV.isCell, and_self, splice, List.nil_append, List.drop_nil, newK_some, newA_own, ex_append, src_own, hget0, List.getElem?_cons_zero, srcK_cells, List.take_nil, appK_nil, Nat.reduceBEq, List.length_append, List.append_assoc, List.cons_append, ex_store, wr_ptr, hz2', wrK_cells, Nat.reduceAdd, storeK_some, putK_no, run_draw, runFree_cons, foper_none, fe_faddr, fstK_some, fputK_to, freeK_some, fe_load, List.getElem?_set_self, fe_mov, List.getElem?_set_ne, hz0', fe_len, ex_len, lenA_sl, fe_bin, c', foper_guard, fguardK_bool, runFree_nil, drawK_some, adopt, adoptVal, oper_guard, guardK_bool, ex_iaddr, iaddrA_sl, Int.toNat_zero, rd_vptr, bool_at0, ex_pick, pickA_bool, newA_data, frzN, List.flatMap_cons, bor_bool, List.flatMap_nil, List.isEmpty_nil, List.mapM_cons, frz_bool, List.mapM_nil, Option.pure_def, Option.bind_eq_bind, Option.bind_some, slK_some, src_sl, List.length_set, set_gapp, blockK_normal, bin_add, Int.zero_add, wr64, loopK_normal, a42l2c, e1]
      · have c' : ¬ (0 : Int) < (d.fin.length : Nat) := by omega
        have hgd : d.fin.getD 0 false = false := by
          rw [List.getD_eq_getElem?_getD, List.getElem?_eq_none (by omega)]; rfl
        rw [hgd] at e1
        simp (maxSteps := 30000000) (disch := first | assumption | omega | (simp only [List.length_cons, List.length_nil, List.length_append, List.length_set, List.length_replicate, List.length_map, List.length_range, List.length_take, List.length_drop, List.all_cons, List.all_nil, AV.isCell, Bool.and_self, Bool.and_true, bs_length, is64_length, w64_length, ints_length, ints_length, bools_len] <;> omega) | rfl | decide) only [a42l2b, run_seq, run_region, runOps_cons, oper_none, ex_mov, opv, List.getD_cons_succ, List.getD_cons_zero, putK_to, List.set_cons_succ, List.set_cons_zero, opsK_some, ex_bin, bin_lss, hlt, decide_true, valK_some, runOps_nil, regK_some, seqK_normal, run_cond, condK_bool, ↓reduceIte, run_skip, run_block, run_loop, a42l1c, r1, blockK_exit, ex_faddr, faddrA_ptr, Nat.zero_add, ex_load, rd_ptr, hz2, rdK_cells, List.drop_succ_cons, List.drop_zero, List.take_succ_cons, List.take_zero, loadK_1, ex_bslice, AV.cells, List.all_cons, List.length_cons, List.length_nil, beq_self_eq_true, List.all_nil, Bool.and_self, repz_1, List.append_nil, Nat.mul_one, List.map_cons, List.map_nil, fillA, Nat.le_refl, AV.isCell, and_self, splice, List.nil_append, List.drop_nil, newK_some, newA_own, ex_append, src_own, hget0, List.getElem?_cons_zero, srcK_cells, List.take_nil, appK_nil, Nat.reduceBEq, List.length_append, List.append_assoc, List.cons_append, ex_store, wr_ptr, hz2', wrK_cells, Nat.reduceAdd, storeK_some, putK_no, run_draw, runFree_cons, foper_none, fe_faddr, fstK_some, fputK_to, freeK_some, fe_load, List.getElem?_set_self, fe_mov, List.getElem?_set_ne, hz0', fe_len, ex_len, lenA_sl, fe_bin, c', decide_false, foper_guard, fguardK_bool, Bool.false_eq_true, putA_to, runFree_nil, drawK_some, adopt, adoptVal, oper_guard, guardK_bool, ex_pick, pickA_bool, newA_data, frzN, List.flatMap_cons, bor_bool, List.flatMap_nil, List.isEmpty_nil, List.mapM_cons, frz_bool, List.mapM_nil, Option.pure_def, Option.bind_eq_bind, Option.bind_some, slK_some, src_sl, List.length_set, set_gapp, blockK_normal, bin_add, Int.zero_add, wr64, loopK_normal, a42l2c, e1]
    | some id f cs hl0 h2' hi hf i3 f3 hne hl he =>
      have hidl := (List.getElem?_eq_some_iff.1 hi).1
      have hfl := (List.getElem?_eq_some_iff.1 hf).1
      have hz2 : G2[2]? = some (.cells false false [.int .i64 v2, .int .i64 em, .own false id 0 l 1, .own false f 0 l 1]) := (r4 2 (by omega)).trans h2'
      have hzi : G2[id]? = some (.cells false false cs) := (r4 id hidl).trans hi
      have hzf : G2[f]? = some (.cells false false (bools (fiS d l))) := (r4 f hfl).trans hf
      obtain ⟨X, hX⟩ : ∃ X, X = Blk.cells false false [.int .i64 v2, .int .i64 em, .own false (G2.length + 1) 0 (l + 1) 1, .own false f 0 l 1] := ⟨_, rfl⟩
      obtain ⟨Y, hY⟩ : ∃ Y, Y = Blk.cells false false [.int .i64 v2, .int .i64 em, .own false (G2.length + 1) 0 (l + 1) 1, .own false (G2.length + 2) 0 (l + 1) 1] := ⟨_, rfl⟩
      obtain ⟨H', hH⟩ : ∃ H' : Heap, H' = (((((G2 ++ [Blk.cells false false [.own false nid 0 n 1]]).set id .dead) ++ [Blk.cells false false (cs ++ [.own false nid 0 n 1])]).set 2 X).set f .dead ++ [Blk.cells false false (bools (fiS d l ++ [d.fin.getD l false]))]).set 2 Y := ⟨_, rfl⟩
      have same : ∀ b, b ≠ 2 → b ≠ id → b ≠ f → b < G2.length → H'[b]? = G2[b]? := fun b hb hbi hbf hb2 => by
        rw [hH, List.getElem?_set_ne (Ne.symm hb), List.getElem?_append_left (by simp; omega), List.getElem?_set_ne (Ne.symm hbf), List.getElem?_set_ne (Ne.symm hb), List.getElem?_append_left (by simp; omega), List.getElem?_set_ne (Ne.symm hbi), List.getElem?_append_left hb2]
      have hlen : H'.length = G2.length + 3 := by simp [hH]
      have hs2 : H'[2]? = some Y := by rw [hH]; exact List.getElem?_set_self (by simp)
      have hs3 : H'[G2.length + 1]? = some (.cells false false (cs ++ [.own false nid 0 n 1])) := by
        rw [hH, List.getElem?_set_ne (by omega), List.getElem?_append_left (by simp), List.getElem?_set_ne (by omega), List.getElem?_set_ne (by omega), List.getElem?_append_right (by simp)]
        simp
      have hs4 : H'[G2.length + 2]? = some (.cells false false (bools (fiS d (l + 1)))) := by
        rw [hH, List.getElem?_set_ne (by omega), List.getElem?_append_right (by simp), fiS_succ]
        simp
      have fzH : Fz 2 H' G.length (.own false nid 0 n 1) (.sl false n (rowsT d n m l n)) := fz'.frame (by omega) fun q hq b hb => by
        have := (fz' q hq).2 b hb
        exact same b (by omega) (by omega) (by omega) this.2
      have hU' : Under d n m (l + 1) v2 em H' := .some (G2.length + 1) (G2.length + 2) (cs ++ [.own false nid 0 n 1]) (by omega) (by rw [hs2, hY]) hs3 hs4 (by omega) (by omega) (by omega) (by simp [hl]) (fun i c t hc ht => by
        rw [stT_succ] at ht
        by_cases hil : i < cs.length
        · rw [List.getElem?_append_left hil] at hc
          rw [List.getElem?_append_left (by rw [stT_len]; omega)] at ht
          obtain ⟨k1, k2⟩ := he i c t hc ht
          have hG2 : ∀ q, 2 ≤ q → ∀ b ∈ bor q G c, H'[b]? = G[b]? := fun q hq b hb => by
            have hb' := (k1 q hq).2 b hb
            have hk := k2 q hq
            rw [same b (by omega) (fun e => hk.1 (e ▸ hb)) (fun e => hk.2 (e ▸ hb)) (by omega)]
            exact r4 b hb'.2
          refine ⟨k1.frame (by omega) hG2, fun q hq => ?_⟩
          rw [(frz_frame q c (hG2 q hq)).2]
          exact ⟨fun hm' => by have := (k1 q hq).2 _ hm'; omega, fun hm' => by have := (k1 q hq).2 _ hm'; omega⟩
        · rw [List.getElem?_append_right (by omega)] at hc
          rw [List.getElem?_append_right (by rw [stT_len]; omega), stT_len, ← hl] at ht
          have e0 : i - cs.length = 0 := by
            cases e : i - cs.length with
            | zero => rfl
            | succ j => rw [e] at hc; simp at hc
          rw [e0] at hc ht
          simp at hc ht
          subst hc; subst ht
          refine ⟨by rw [hl]; exact fzH.low (by omega), fun q hq => ?_⟩
          have hb2 := (frz_frame q _ (fun b hb => by have := (fz' q hq).2 b hb; exact same b (by omega) (by omega) (by omega) this.2)).2
          rw [hb2]
          exact ⟨fun hm' => by have := (fz' q hq).2 _ hm'; omega, fun hm' => by have := (fz' q hq).2 _ hm'; omega⟩)
      obtain ⟨G', e1, e2, e3⟩ := ih (l + 1) H' (by omega) (by rw [same 0 (by omega) (by omega) (by omega) (by omega)]; exact hz0) (by rw [same 1 (by omega) (by omega) (by omega) (by omega)]; exact hz1) hU'
      refine ⟨G', ?_, e2, e3⟩
      have hz2' := fun T => app_get (X := T) hz2
      have hz0' := fun T => app_get (X := T) hz0
      have hzi' := fun T => app_get (X := T) hzi
      have q1 : ∀ T T' : Heap, ((G2 ++ T).set id .dead ++ T')[2]? = some (.cells false false [.int .i64 v2, .int .i64 em, .own false id 0 l 1, .own false f 0 l 1]) := fun T T' => app_get (by rw [List.getElem?_set_ne (by omega)]; exact app_get hz2)
      have q0 : ∀ (T T' : Heap) (Z : Blk), (((G2 ++ T).set id .dead ++ T').set 2 Z)[0]? = some (.cells false false d.cells) := fun T T' Z => by
        rw [List.getElem?_set_ne (by omega)]
        exact app_get (by rw [List.getElem?_set_ne (by omega)]; exact app_get hz0)
      have q2 : ∀ (T T' : Heap) (Z : Blk), (((G2 ++ T).set id .dead ++ T').set 2 Z)[f]? = some (.cells false false (bools (fiS d l))) := fun T T' Z => by
        rw [List.getElem?_set_ne (by omega)]
        exact app_get (by rw [List.getElem?_set_ne (by omega)]; exact app_get hzf)
      have q4 : ∀ (T T' : Heap) (Z : Blk), (((G2 ++ T).set id .dead ++ T').set 2 Z)[2]? = some Z := fun T T' Z => List.getElem?_set_self (by simp; omega)
      have q3 : ∀ (T T' T2 : Heap) (Z : Blk), ((((G2 ++ T).set id .dead ++ T').set 2 Z).set f .dead ++ T2)[2]? = some Z := fun T T' T2 Z => app_get (by rw [List.getElem?_set_ne (by omega)]; exact q4 T T' Z)
      have htk : List.take l cs = cs := List.take_of_length_le (by omega)
      have htf : List.take l (bools (fiS d l)) = bools (fiS d l) := List.take_of_length_le (by rw [bools_len, fiS_len]; exact Nat.le_refl _)
      have hbl : (bools (fiS d l)).length = l := by rw [bools_len, fiS_len]
      have hsn : ∀ b : Bool, bools (fiS d l) ++ [AV.bool b] = bools (fiS d l ++ [b]) := fun b => by rw [← bools_app]; rfl
      unfold Dfa.cells at hz0 hz0' q0
      rw [hH, hX, hY] at e1
      rw [a42l2n]
      by_cases c : l < d.fin.length
      · have c' : ((l : Nat) : Int) < (d.fin.length : Nat) := by omega
        simp (maxSteps := 30000000) (disch := first | assumption | omega | (simp only [List.length_cons, List.length_nil, List.length_append, List.length_set, List.length_replicate, List.length_map, List.length_range, List.length_take, List.length_drop, List.all_cons, List.all_nil, AV.isCell, Bool.and_self, Bool.and_true, bs_length, is64_length, w64_length, ints_length, ints_length, bools_len] <;> omega) | rfl | decide) only [a42l2b, run_seq, run_region, runOps_cons, oper_none, ex_mov, opv, List.getD_cons_succ, List.getD_cons_zero, putK_to, List.set_cons_succ, List.set_cons_zero, opsK_some, ex_bin, bin_lss, hlt, decide_true, valK_some, runOps_nil, regK_some, seqK_normal, run_cond, condK_bool, ↓reduceIte, run_skip, run_block, run_loop, a42l1c, r1, blockK_exit, ex_faddr, faddrA_ptr, Nat.zero_add, ex_load, rd_ptr, hz2, rdK_cells, List.drop_succ_cons, List.drop_zero, List.take_succ_cons, List.take_zero, loadK_1, ex_bslice, AV.cells, List.all_cons, List.length_cons, List.length_nil, beq_self_eq_true, List.all_nil, Bool.and_self, repz_1, List.append_nil, Nat.mul_one, List.map_cons, List.map_nil, fillA, Nat.le_refl, AV.isCell, and_self, splice, List.nil_append, List.drop_nil, newK_some, newA_own, ex_append, src_own, hget0, List.getElem?_cons_zero, srcK_cells, List.take_nil, appK_own, hzi', appOK_cells, Nat.reduceBEq, List.length_append, htk, ex_store, wr_ptr, q1, wrK_cells, List.cons_append, Nat.reduceAdd, storeK_some, putK_no, run_draw, runFree_cons, foper_none, fe_faddr, fstK_some, fputK_to, freeK_some, fe_load, q4, fe_mov, q0, fe_len, ex_len, lenA_sl, fe_bin, c', foper_guard, fguardK_bool, runFree_nil, drawK_some, adopt, adoptVal, oper_guard, guardK_bool, ex_iaddr, iaddrA_sl, Int.toNat_natCast, rd_vptr, bool_at, ex_pick, pickA_bool, newA_data, frzN, List.flatMap_cons, bor_bool, List.flatMap_nil, List.isEmpty_nil, List.mapM_cons, frz_bool, List.mapM_nil, Option.pure_def, Option.bind_eq_bind, Option.bind_some, slK_some, src_sl, q2, List.length_set, htf, hsn, q3, blockK_normal, bin_add, cadd1, wr64, loopK_normal, a42l2c, e1]
      · have c' : ¬ ((l : Nat) : Int) < (d.fin.length : Nat) := by omega
        have hgd : d.fin.getD l false = false := by
          rw [List.getD_eq_getElem?_getD, List.getElem?_eq_none (by omega)]; rfl
        rw [hgd] at e1
        simp (maxSteps := 30000000) (disch := first | assumption | omega | (simp only [List.length_cons, List.length_nil, List.length_append, List.length_set, List.length_replicate, List.length_map, List.length_range, List.length_take, List.length_drop, List.all_cons, List.all_nil, AV.isCell, Bool.and_self, Bool.and_true, bs_length, is64_length, w64_length, ints_length, ints_length, bools_len] <;> omega) | rfl | decide) only [a42l2b, run_seq, run_region, runOps_cons, oper_none, ex_mov, opv, List.getD_cons_succ, List.getD_cons_zero, putK_to, List.set_cons_succ, List.set_cons_zero, opsK_some, ex_bin, bin_lss, hlt, decide_true, valK_some, runOps_nil, regK_some, seqK_normal, run_cond, condK_bool, ↓reduceIte, run_skip, run_block, run_loop, a42l1c, r1, blockK_exit, ex_faddr, faddrA_ptr, Nat.zero_add, ex_load, rd_ptr, hz2, rdK_cells, List.drop_succ_cons, List.drop_zero, List.take_succ_cons, List.take_zero, loadK_1, ex_bslice, AV.cells, List.all_cons, List.length_cons, List.length_nil, beq_self_eq_true, List.all_nil, Bool.and_self, repz_1, List.append_nil, Nat.mul_one, List.map_cons, List.map_nil, fillA, Nat.le_refl, AV.isCell, and_self, splice, List.nil_append, List.drop_nil, newK_some, newA_own, ex_append, src_own, hget0, List.getElem?_cons_zero, srcK_cells, List.take_nil, appK_own, hzi', appOK_cells, Nat.reduceBEq, List.length_append, htk, ex_store, wr_ptr, q1, wrK_cells, List.cons_append, Nat.reduceAdd, storeK_some, putK_no, run_draw, runFree_cons, foper_none, fe_faddr, fstK_some, fputK_to, freeK_some, fe_load, q4, fe_mov, q0, fe_len, ex_len, lenA_sl, fe_bin, c', decide_false, foper_guard, fguardK_bool, Bool.false_eq_true, putA_to, runFree_nil, drawK_some, adopt, adoptVal, oper_guard, guardK_bool, ex_pick, pickA_bool, newA_data, frzN, List.flatMap_cons, bor_bool, List.flatMap_nil, List.isEmpty_nil, List.mapM_cons, frz_bool, List.mapM_nil, Option.pure_def, Option.bind_eq_bind, Option.bind_some, slK_some, src_sl, q2, List.length_set, htf, hsn, q3, blockK_normal, bin_add, cadd1, wr64, loopK_normal, a42l2c, e1]
end Go.Abs.Det
