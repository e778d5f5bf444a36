/- States of trees; run. -/
import Derived.Test.YtdkbhidfiplncaaAD10
import Derived.Test.YtdkbhidfiplncaaAD2
namespace Go.Abs.Det
open Go Go.Abs
set_option linter.unusedSimpArgs false
set_option linter.unusedVariables false

def nx (D : Da) (a b : Int) (x : Nat) : Int := ((D.next.getD a.toNat []).getD b.toNat []).getD x 0
/-- the state of a tree -/
def stB (D : Da) : BT → Int
  | .nil => D.empty
  | .node x l r => nx D (stB D l) (stB D r) x
/-- the states of the nodes -/
def stL (D : Da) : BT → List Int
  | .nil => []
  | .node x l r => stB D (.node x l r) :: (stL D l ++ stL D r)
theorem stL_len (D : Da) : ∀ T : BT, (stL D T).length = T.size
  | .nil => rfl
  | .node x l r => by rw [stL, List.length_cons, List.length_append, stL_len D l, stL_len D r, BT.size]; omega

theorem nx_bd {D : Da} (hV : Va D) {a b : Int} {x : Nat} (ha : 0 ≤ a ∧ a < D.next.length) (hb : 0 ≤ b ∧ b < D.next.length) (hx : x < two D.vars) : 0 ≤ nx D a b x ∧ nx D a b x < D.next.length := by
  have h1 := getD_in (a := ([] : List (List Int))) (show a.toNat < D.next.length by omega)
  have h2 := getD_in (a := ([] : List Int)) (show b.toNat < (D.next.getD a.toNat []).length by rw [hV.rl _ h1]; omega)
  have h3 := getD_in (a := (0 : Int)) (show x < ((D.next.getD a.toNat []).getD b.toNat []).length by rw [hV.cl _ h1 _ h2]; omega)
  exact hV.ce _ h1 _ h2 _ h3
theorem stB_bd {D : Da} (hV : Va D) : ∀ {T : BT}, T.labs (· < two D.vars) → 0 ≤ stB D T ∧ stB D T < D.next.length
  | .nil, _ => ⟨hV.e0, hV.en⟩
  | .node x l r, h => nx_bd hV (stB_bd hV h.2.1) (stB_bd hV h.2.2) h.1

theorem stB_root (D : Da) {T : BT} (h : 0 < T.size) : (stL D T).getD 0 0 = stB D T := by
  cases T with
  | nil => simp [BT.size] at h
  | node x l r => rfl

/-- a node's state, out of those of its children -/
theorem rec_at (D : Da) : ∀ (T : BT) (m : Nat) (S : Nat → Int), (∀ k, k < T.size → S (m + k) = (stL D T).getD k 0) → ∀ k, k < T.size →
    S (m + k) = nx D (if ((encT m T).getD k f0).l < 0 then D.empty else S ((encT m T).getD k f0).l.toNat) (if ((encT m T).getD k f0).r < 0 then D.empty else S ((encT m T).getD k f0).r.toNat) ((encT m T).getD k f0).x ∧
    (((encT m T).getD k f0).l = -1 ∨ (((m + k : Nat) : Int) < ((encT m T).getD k f0).l ∧ ((encT m T).getD k f0).l < ((m + T.size : Nat) : Int))) ∧
    (((encT m T).getD k f0).r = -1 ∨ (((m + k : Nat) : Int) < ((encT m T).getD k f0).r ∧ ((encT m T).getD k f0).r < ((m + T.size : Nat) : Int)))
  | .nil, m, S, hS, k, hk => by simp [BT.size] at hk
  | .node x l r, m, S, hS, k, hk => by
    have hsz : (BT.node x l r).size = 1 + (l.size + r.size) := rfl
    have hl1 := stL_len D l
    have hr1 := stL_len D r
    have el := encT_length l (m + 1)
    have er := encT_length r (m + 1 + l.size)
    have Sl : ∀ j, j < l.size → S (m + 1 + j) = (stL D l).getD j 0 := fun j hj => by
      rw [show m + 1 + j = m + (j + 1) by omega, hS (j + 1) (by omega), stL, List.getD_cons_succ]
      simp only [List.getD_eq_getElem?_getD]
      rw [List.getElem?_append_left (by omega)]
    have Sr : ∀ j, j < r.size → S (m + 1 + l.size + j) = (stL D r).getD j 0 := fun j hj => by
      rw [show m + 1 + l.size + j = m + (l.size + j + 1) by omega, hS (l.size + j + 1) (by omega), stL, List.getD_cons_succ]
      simp only [List.getD_eq_getElem?_getD]
      rw [List.getElem?_append_right (by omega), hl1]
      congr 2; omega
    cases k with
    | zero =>
      have e0 : (encT m (.node x l r)).getD 0 f0 = ⟨x, rootI (m + 1) l, rootI (m + 1 + l.size) r⟩ := rfl
      rw [e0, hS 0 (by omega)]
      have q : ∀ (T : BT) (j : Nat), (∀ i, i < T.size → S (j + i) = (stL D T).getD i 0) → (if rootI j T < 0 then D.empty else S (rootI j T).toNat) = stB D T := fun T j hj => by
        cases T with
        | nil => rfl
        | node y a b =>
          have : ¬ ((j : Nat) : Int) < 0 := by omega
          have hr : rootI j (.node y a b) = (j : Nat) := rfl
          rw [hr, if_neg this, Int.toNat_natCast]
          have := hj 0 (by simp [BT.size]; omega)
          rw [Nat.add_zero] at this
          rw [this]; rfl
      refine ⟨?_, ?_, ?_⟩
      · show (stL D (.node x l r)).getD 0 0 = nx D (if rootI (m + 1) l < 0 then _ else _) (if rootI (m + 1 + l.size) r < 0 then _ else _) x
        rw [q l (m + 1) Sl, q r (m + 1 + l.size) Sr]
        rfl
      · cases l with
        | nil => exact .inl rfl
        | node y a b => exact .inr ⟨by simp only [rootI]; omega, by simp only [rootI, BT.size]; omega⟩
      · cases r with
        | nil => exact .inl rfl
        | node y a b => exact .inr ⟨by simp only [rootI]; omega, by simp only [rootI, BT.size]; omega⟩
    | succ k =>
      by_cases hkl : k < l.size
      · have e0 : (encT m (.node x l r)).getD (k + 1) f0 = (encT (m + 1) l).getD k f0 := by
          rw [encT, List.getD_cons_succ]
          simp only [List.getD_eq_getElem?_getD]
          rw [List.getElem?_append_left (by omega)]
        obtain ⟨i1, i2, i3⟩ := rec_at D l (m + 1) S Sl k hkl
        rw [e0, show m + (k + 1) = m + 1 + k by omega]
        refine ⟨i1, ?_, ?_⟩
        · rcases i2 with q | q
          · exact .inl q
          · exact .inr ⟨q.1, by rw [hsz]; omega⟩
        · rcases i3 with q | q
          · exact .inl q
          · exact .inr ⟨q.1, by rw [hsz]; omega⟩
      · have e0 : (encT m (.node x l r)).getD (k + 1) f0 = (encT (m + 1 + l.size) r).getD (k - l.size) f0 := by
          rw [encT, List.getD_cons_succ]
          simp only [List.getD_eq_getElem?_getD]
          rw [List.getElem?_append_right (by omega), el]
        obtain ⟨i1, i2, i3⟩ := rec_at D r (m + 1 + l.size) S Sr (k - l.size) (by omega)
        have e1 : m + 1 + l.size + (k - l.size) = m + (k + 1) := by omega
        rw [e1] at i1 i2 i3
        rw [e0]
        refine ⟨i1, ?_, ?_⟩
        · rcases i2 with q | q
          · exact .inl q
          · exact .inr ⟨q.1, by rw [hsz]; omega⟩
        · rcases i3 with q | q
          · exact .inl q
          · exact .inr ⟨q.1, by rw [hsz]; omega⟩

theorem lfs_at0 {l : List Lf} {i : Nat} (h : i < l.length) : List.take 1 (List.drop (i * 3) (lfs l)) = [.int .u8 ((l.getD i f0).x : Nat)] := by
  rw [lfs_drop h]; rfl

theorem at100 {c : Int} {n : Nat} {cur : List Int} (hn : cur.length = n + 1) (hn2 : n < 1099511627776) (hc : c < 0 ∨ c < (n : Nat)) :
    L.pcall 100 [.int .i64 c, .vptr [.int .i64 (n : Nat)] 0, .vptr [.sl false (n + 1) (ints cur)] 0] = some (.int .i64 (if c < 0 then cur.getD n 0 else cur.getD c.toNat 0)) := by
  by_cases h : c < 0
  · rw [if_pos h, a100p, a100, pbodyA_eq]
    have hg : List.take 1 (List.drop n (ints cur)) = [.int .i64 (cur.getD n 0)] := map_at1 _ _ (by omega)
    simp (maxSteps := 30000000) (disch := first | assumption | omega | (simp only [List.length_cons, List.length_nil, List.length_append, List.length_set, List.length_replicate, List.length_map, List.length_range, List.length_take, List.length_drop, List.all_cons, List.all_nil, AV.isCell, Bool.and_self, Bool.and_true, bs_length, is64_length, w64_length, ints_length, ints_length, bools_len, List.length_map, lfs_length] <;> omega) | rfl | decide) only [bodyA_eq, List.length_cons, List.length_nil, Nat.zero_add, Nat.reduceAdd, Nat.reduceSub, pads, List.cons_append, List.nil_append, run_seq, run_region, runOps_cons, oper_none, ex_mov, opv, putK_to, List.set_cons_succ, List.set_cons_zero, opsK_some, runOps_nil, regK_some, seqK_normal, List.getD_cons_zero, ex_bin, List.getD_cons_succ, bin_lss, h, decide_true, valK_some, run_cond, condK_bool, ↓reduceIte, ex_load, rd_vptr, List.drop_zero, List.take_succ_cons, List.take_nil, loadK_1, ex_iaddr, iaddrA_sl, Int.toNat_natCast, Nat.mul_one, ints_drop, ints_take, ints_at0, getD_dropI, Nat.add_zero, run_ret, bodyK_ret, results_1, res_tmp, retvK_some, pbodyK_some, frzN, frz_int]
  · rw [if_neg h, a100p, a100, pbodyA_eq]
    have h0 : 0 ≤ c := by omega
    have hg : List.take 1 (List.drop c.toNat (ints cur)) = [.int .i64 (cur.getD c.toNat 0)] := map_at1 _ _ (by omega)
    simp (maxSteps := 30000000) (disch := first | assumption | omega | (simp only [List.length_cons, List.length_nil, List.length_append, List.length_set, List.length_replicate, List.length_map, List.length_range, List.length_take, List.length_drop, List.all_cons, List.all_nil, AV.isCell, Bool.and_self, Bool.and_true, bs_length, is64_length, w64_length, ints_length, ints_length, bools_len, List.length_map, lfs_length] <;> omega) | rfl | decide) only [bodyA_eq, List.length_cons, List.length_nil, Nat.zero_add, Nat.reduceAdd, Nat.reduceSub, pads, List.cons_append, List.nil_append, run_seq, run_region, runOps_cons, oper_none, ex_mov, opv, putK_to, List.set_cons_succ, List.set_cons_zero, opsK_some, runOps_nil, regK_some, seqK_normal, List.getD_cons_zero, ex_bin, List.getD_cons_succ, bin_lss, h, decide_false, valK_some, run_cond, condK_bool, Bool.false_eq_true, ↓reduceIte, run_skip, ex_load, rd_vptr, List.drop_zero, List.take_succ_cons, List.take_nil, loadK_1, ex_iaddr, iaddrA_sl, Nat.mul_one, ints_drop, ints_take, ints_at0, getD_dropI, Nat.add_zero, run_ret, bodyK_ret, results_1, res_tmp, retvK_some, pbodyK_some, frzN, frz_int]
end Go.Abs.Det
