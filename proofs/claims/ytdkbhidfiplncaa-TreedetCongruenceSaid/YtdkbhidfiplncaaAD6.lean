/- sub: the rows of a state; all states; sub. -/
import Derived.Test.YtdkbhidfiplncaaAD5
namespace Go.Abs.Det
open Go Go.Abs
set_option linter.unusedSimpArgs false
set_option linter.unusedVariables false

def rowT (l : List Int) : AV := .sl false l.length (ints l)
def rowS (d : Dfa) (n m l r : Nat) : List Int := (List.range m).map fun x => cellS d n l r x
theorem rowS_len (d : Dfa) (n m l r : Nat) : (rowS d n m l r).length = m := by simp [rowS]
def rowsT (d : Dfa) (n m l k : Nat) : List AV := (List.range k).map fun r => rowT (rowS d n m l r)
theorem rowsT_len (d : Dfa) (n m l k : Nat) : (rowsT d n m l k).length = k := by simp [rowsT]
theorem rowsT_succ (d : Dfa) (n m l k : Nat) : rowsT d n m l (k + 1) = rowsT d n m l k ++ [rowT (rowS d n m l k)] := by
  unfold rowsT; rw [List.range_succ, List.map_append]; rfl

theorem ints_data (l : List Int) : (ints l).all data1 = true := by
  induction l with
  | nil => rfl
  | cons a l ih => simp [ints, data1]

section
variable {d : Dfa} {n m l B : Nat} {v2 : Int} {c1 c2 c3 : AV}
theorem sub_rows (hn : 0 < n) (hn8 : n ≤ 8) (hm : m ≤ 8) (hl : l < d.next.length) (hB : 2 < B) (hv : IntKind.i64.wrap (1 * 2 ^ min v2.toNat IntKind.i64.bits) = (m : Nat)) (hv0 : 0 ≤ v2) : ∀ e r G v, r + e = n → G[0]? = some (.cells false false d.cells) →
    G[2]? = some (.cells false false [.int .i64 v2, c1, c2, c3]) → B ≤ G.length → Grow 1 G B v (rowsT d n m l r) →
    ∃ G' v', L.loop a42l1s a42l1 ⟨a42l1F (.int .i64 n) (.ptr 0 0) (.ptr 1 0) (.ptr 2 0) (.int .i64 l) v (.int .i64 (r : Nat)), G⟩ =
      some (.exit 2, ⟨a42l1F (.int .i64 n) (.ptr 0 0) (.ptr 1 0) (.ptr 2 0) (.int .i64 l) v' (.int .i64 (n : Nat)), G'⟩) ∧ Grow 1 G' B v' (rowsT d n m l n) ∧ G.length ≤ G'.length ∧ ∀ b, b < B → G'[b]? = G[b]? := by
  intro e
  induction e with
  | zero =>
    intro r G v h h0 h2 hBG hv'
    obtain rfl : r = n := by omega
    refine ⟨G, v, ?_, hv', Nat.le_refl _, fun _ _ => rfl⟩
    rw [a42l1n]
    simp (maxSteps := 30000000) (disch := first | assumption | omega | (simp only [List.length_cons, List.length_nil, List.length_append, List.length_set, List.length_replicate, List.length_map, List.length_range, List.length_take, List.length_drop, List.all_cons, List.all_nil, AV.isCell, Bool.and_self, Bool.and_true, bs_length, is64_length, w64_length, ints_length, ints_length] <;> omega) | rfl | decide) only [a42l1b, run_seq, run_region, runOps_cons, oper_none, ex_mov, opv, List.getD_cons_succ, List.getD_cons_zero, putK_to, List.set_cons_succ, List.set_cons_zero, opsK_some, ex_bin, bin_lss, Int.lt_irrefl, decide_false, valK_some, runOps_nil, regK_some, seqK_normal, run_cond, condK_bool, Bool.false_eq_true, ↓reduceIte, run_exit, seqK_exit, loopK_exit, a42l1c]
  | succ e ih =>
    intro r G v h h0 h2 hBG hG
    have hlt : (r : Int) < (n : Nat) := by omega
    have hnn : ¬ v2 < 0 := by omega
    have hrow := sub_row (d := d) (n := n) (m := m) (l := l) (r := r) (k := G.length) (s4 := .ptr 1 0) (s5 := .ptr 2 0) (s7 := v) hn hn8 hm hl (by omega) m 0 (G ++ [.cells false false (ints (List.replicate m 0))]) (by omega) (app_get h0) (hget0 _ _)
    rw [hset0] at hrow
    have hrl := rowS_len d n m l r
    have hrowE : (List.range m).map (fun x => cellS d n l r x) = rowS d n m l r := rfl
    rw [hrowE] at hrow
    simp only [List.set_cons_zero, Int.natCast_zero] at hrow
    -- the row stands for its numbers
    have fr : Fz 1 (G ++ [.cells false false (ints (rowS d n m l r)), .cells false false [.own false G.length 0 m 1]]) G.length (.own false G.length 0 m 1) (rowT (rowS d n m l r)) := by
      have := Fz.row (G := G ++ [.cells false false (ints (rowS d n m l r)), .cells false false [.own false G.length 0 m 1]]) (B := G.length) (id := G.length) (es := 1) (n := m) (hget0 _ _) (ints_data _) (by rw [ints_length, hrl, Nat.mul_one]) (Nat.le_refl _)
      unfold rowT
      rw [hrl]
      exact this
    rcases hG with ⟨hts, rfl⟩ | ⟨id, cs, rfl, g2, g3, g4, g5⟩
    · have hr0 : r = 0 := by have := congrArg List.length hts; rw [rowsT_len] at this; simpa using this
      have hg' := Grow.first (B := B) (fr.low hBG) (by simp; omega)
      rw [List.append_assoc] at hg'
      obtain ⟨G', v', e1, e2, e3, e4⟩ := ih (r + 1) (G ++ ([.cells false false (ints (rowS d n m l r)), .cells false false [.own false G.length 0 m 1]] ++ [.cells false false [.own false G.length 0 m 1]])) (.own false (G.length + 2) 0 1 1) (by omega) (app_get h0) (app_get h2) (by simp; omega)
        (by rw [rowsT_succ, hts, List.nil_append]; simpa using hg')
      refine ⟨G', v', ?_, e2, by simp at e3; omega, fun b hb => (e4 b hb).trans (List.getElem?_append_left (by omega))⟩
      have h0' := fun T => app_get (X := T) h0
      have h2' := fun T => app_get (X := T) h2
      simp only [List.cons_append, List.nil_append] at e1
      rw [a42l1n]
      simp (maxSteps := 30000000) (disch := first | assumption | omega | (simp only [List.length_cons, List.length_nil, List.length_append, List.length_set, List.length_replicate, List.length_map, List.length_range, List.length_take, List.length_drop, List.all_cons, List.all_nil, AV.isCell, Bool.and_self, Bool.and_true, bs_length, is64_length, w64_length, ints_length, ints_length] <;> omega) | rfl | decide) only [a42l1b, run_seq, run_region, runOps_cons, oper_none, ex_mov, opv, List.getD_cons_succ, List.getD_cons_zero, putK_to, List.set_cons_succ, List.set_cons_zero, opsK_some, ex_bin, bin_lss, hlt, decide_true, valK_some, runOps_nil, regK_some, seqK_normal, run_cond, condK_bool, ↓reduceIte, run_skip, run_block, ex_faddr, faddrA_ptr, Nat.add_zero, ex_load, rd_ptr, h2, rdK_cells, List.drop_zero, List.take_succ_cons, List.take_zero, loadK_1, bin_shl, hv, ex_mkslice, mksK_int, Int.toNat_natCast, List.length_cons, List.length_nil, Nat.zero_add, repz_ints, newA_own, run_loop, a42l0c, hrow, blockK_exit, ex_bslice, AV.cells, List.all_cons, beq_self_eq_true, List.all_nil, Bool.and_self, repz_1, List.append_nil, Nat.mul_one, List.map_cons, List.map_nil, fillA, Nat.le_refl, AV.isCell, and_self, splice, List.nil_append, List.drop_succ_cons, List.drop_nil, newK_some, List.length_append, List.append_assoc, List.cons_append, ex_append, src_own, hget, List.getElem?_cons_succ, List.getElem?_cons_zero, srcK_cells, List.take_nil, appK_nil, Nat.reduceBEq, Nat.reduceAdd, blockK_normal, bin_add, cadd1, wr64, loopK_normal, a42l1c, e1]
    · have hidl := (List.getElem?_eq_some_iff.1 g2).1
      have g6 := rowsT_len d n m l r
      rw [g6] at g4
      have hg1 : Grow 1 (G ++ [.cells false false (ints (rowS d n m l r)), .cells false false [.own false G.length 0 m 1]]) B (.own false id 0 (rowsT d n m l r).length 1) (rowsT d n m l r) :=
        Grow.grow (.inr ⟨id, cs, rfl, g2, g3, by rw [g4, g6], g5⟩) (by simp) (fun b _ hb => List.getElem?_append_left hb)
      rcases hg1 with ⟨hts, hx⟩ | ⟨id', cs', k1, k2, k3, k4, k5⟩
      · cases hx
      have hid : id' = id := by cases k1; rfl
      subst hid
      have hcs : cs' = cs := by rw [app_get g2] at k2; cases k2; rfl
      subst hcs
      have hne : ∀ d', 1 ≤ d' → id' ∉ bor d' (G ++ [Blk.cells false false (ints (rowS d n m l r)), Blk.cells false false [.own false G.length 0 m 1]]) (.own false G.length 0 m 1) := fun d' hd' hm' => by
        have := ((fr d' hd').2 _ hm').1
        omega
      have hg' := Grow.push k2 k3 k4 k5 (fr.low hBG) hne
      obtain ⟨G', v', e1, e2, e3, e4⟩ := ih (r + 1) ((G ++ [Blk.cells false false (ints (rowS d n m l r)), Blk.cells false false [.own false G.length 0 m 1]]).set id' .dead ++ [.cells false false (cs' ++ [.own false G.length 0 m 1])]) (.own false (G.length + 2) 0 (r + 1) 1) (by omega)
        (app_get (by rw [List.getElem?_set_ne (by omega)]; exact app_get h0)) (app_get (by rw [List.getElem?_set_ne (by omega)]; exact app_get h2)) (by simp; omega)
        (by rw [rowsT_succ]; simpa [g6] using hg')
      refine ⟨G', v', ?_, e2, by simp at e3; omega, fun b hb => ?_⟩
      · have h0' := fun T => app_get (X := T) h0
        have h2' := fun T => app_get (X := T) h2
        have g2' := fun T => app_get (X := T) g2
        have htk : List.take r cs' = cs' := List.take_of_length_le (by omega)
        simp only [g6] at hrow ⊢
        rw [a42l1n]
        simp (maxSteps := 30000000) (disch := first | assumption | omega | (simp only [List.length_cons, List.length_nil, List.length_append, List.length_set, List.length_replicate, List.length_map, List.length_range, List.length_take, List.length_drop, List.all_cons, List.all_nil, AV.isCell, Bool.and_self, Bool.and_true, bs_length, is64_length, w64_length, ints_length, ints_length] <;> omega) | rfl | decide) only [a42l1b, run_seq, run_region, runOps_cons, oper_none, ex_mov, opv, List.getD_cons_succ, List.getD_cons_zero, putK_to, List.set_cons_succ, List.set_cons_zero, opsK_some, ex_bin, bin_lss, hlt, decide_true, valK_some, runOps_nil, regK_some, seqK_normal, run_cond, condK_bool, ↓reduceIte, run_skip, run_block, ex_faddr, faddrA_ptr, Nat.add_zero, ex_load, rd_ptr, h2, rdK_cells, List.drop_zero, List.take_succ_cons, List.take_zero, loadK_1, bin_shl, hv, ex_mkslice, mksK_int, Int.toNat_natCast, List.length_cons, List.length_nil, Nat.zero_add, repz_ints, newA_own, run_loop, a42l0c, hrow, blockK_exit, ex_bslice, AV.cells, List.all_cons, beq_self_eq_true, List.all_nil, Bool.and_self, repz_1, List.append_nil, Nat.mul_one, List.map_cons, List.map_nil, fillA, Nat.le_refl, AV.isCell, and_self, splice, List.nil_append, List.drop_succ_cons, List.drop_nil, newK_some, List.length_append, List.append_assoc, List.cons_append, ex_append, src_own, hget, List.getElem?_cons_succ, List.getElem?_cons_zero, srcK_cells, List.take_nil, appK_own, g2', appOK_cells, Nat.reduceBEq, Nat.reduceAdd, htk, blockK_normal, bin_add, cadd1, wr64, loopK_normal, a42l1c, e1]
      · rw [e4 b hb, List.getElem?_append_left (by simp; omega), List.getElem?_set_ne (by omega), List.getElem?_append_left (by omega)]
end
end Go.Abs.Det
