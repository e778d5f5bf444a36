/- sub: a row. -/
import Derived.Test.YtdkbhidfiplncaaAD1
import Derived.Test.YtdkbhidfiplncaaAG1
namespace Go.Abs.Det
open Go Go.Abs
set_option linter.unusedSimpArgs false
set_option linter.unusedVariables false

/-- rows that come in -/
structure Rw where
  z : Bool
  l : List Int
structure Rws where
  z : Bool
  l : List Rw
structure Dfa where
  vars : Int
  empty : Int
  z : Bool
  next : List Rws
  zf : Bool
  fin : List Bool
def r0 : Rw := ⟨true, []⟩
def rr0 : Rws := ⟨true, []⟩
def rwV (r : Rw) : AV := .sl r.z r.l.length (ints r.l)
def rwsV (r : Rws) : AV := .sl r.z r.l.length (r.l.map rwV)
def bools (l : List Bool) : List AV := l.map AV.bool
def Dfa.cells (d : Dfa) : List AV := [.int .i64 d.vars, .int .i64 d.empty, .sl d.z d.next.length (d.next.map rwsV), .sl d.zf d.fin.length (bools d.fin)]
def Dfa.av (d : Dfa) : AV := .agg d.cells

theorem map_at1 {α : Type} (f : α → AV) (a : α) {l : List α} {i : Nat} (h : i < l.length) : List.take 1 (List.drop i (l.map f)) = [f (l.getD i a)] := by
  rw [List.drop_eq_getElem_cons (by simpa using h)]
  simp [List.getD, List.getElem?_eq_getElem h]
theorem rw_at {l : List Rw} {i : Nat} (h : i < l.length) : List.take 1 (List.drop i (l.map rwV)) = [rwV (l.getD i r0)] := map_at1 _ _ h
theorem rws_at {l : List Rws} {i : Nat} (h : i < l.length) : List.take 1 (List.drop i (l.map rwsV)) = [rwsV (l.getD i rr0)] := map_at1 _ _ h
theorem bool_at {l : List Bool} {i : Nat} (h : i < l.length) : List.take 1 (List.drop i (bools l)) = [AV.bool (l.getD i false)] := map_at1 _ _ h
theorem bools_len (l : List Bool) : (bools l).length = l.length := List.length_map ..
theorem repz_ints (n : Nat) : repz [AV.int .i64 0] n = ints (List.replicate n 0) := by
  induction n with
  | zero => rfl
  | succ n ih => simp [repz, ih, ints, List.replicate_succ]

def nrm (x n : Int) : Int := (x.tmod n + n).tmod n
theorem tmod_bd (x : Int) {n : Int} (h : 0 < n) : -n < x.tmod n ∧ x.tmod n < n := by
  have h1 := Int.tmod_lt_of_pos x h
  have h2 : -n < x.tmod n := by
    have := Int.lt_tmod_of_pos x h
    exact this
  exact ⟨h2, h1⟩
theorem nrm_bd (x : Int) {n : Int} (h : 0 < n) : 0 ≤ nrm x n ∧ nrm x n < n := by
  have := tmod_bd x h
  exact ⟨Int.tmod_nonneg _ (by omega), (tmod_bd _ h).2⟩

/-- a cell of the part -/
def cellS (d : Dfa) (n l r x : Nat) : Int :=
  if r < (d.next.getD l rr0).l.length ∧ x < ((d.next.getD l rr0).l.getD r r0).l.length then nrm (((d.next.getD l rr0).l.getD r r0).l.getD x 0) n else 0

section
variable {d : Dfa} {n m l r k : Nat} {s4 s5 s7 : AV}
theorem sub_row (hn : 0 < n) (hn8 : n ≤ 8) (hm : m ≤ 8) (hl : l < d.next.length) (hk : 2 < k) : ∀ e x G, x + e = m → G[0]? = some (.cells false false d.cells) →
    G[k]? = some (.cells false false (ints ((List.range x).map (fun x => cellS d n l r x) ++ List.replicate e 0))) →
    L.loop a42l0s a42l0 ⟨a42l0F (.int .i64 n) (.ptr 0 0) s4 s5 (.int .i64 l) s7 (.int .i64 r) (.own false k 0 m 1) (.int .i64 (x : Nat)), G⟩ =
      some (.exit 4, ⟨a42l0F (.int .i64 n) (.ptr 0 0) s4 s5 (.int .i64 l) s7 (.int .i64 r) (.own false k 0 m 1) (.int .i64 (m : Nat)), G.set k (.cells false false (ints ((List.range m).map fun x => cellS d n l r x)))⟩) := by
  intro e
  induction e with
  | zero =>
    intro x G h h0 hG
    obtain rfl : x = m := by omega
    rw [List.replicate_zero, List.append_nil] at hG
    have e : G.set k (.cells false false (ints ((List.range x).map fun x => cellS d n l r x))) = G := by
      obtain ⟨h1, h2⟩ := List.getElem?_eq_some_iff.1 hG
      rw [← h2, List.set_getElem_self]
    rw [e, a42l0n]
    simp (maxSteps := 30000000) (disch := first | assumption | omega | (simp only [List.length_cons, List.length_nil, List.length_append, List.length_set, List.length_replicate, List.length_map, List.length_range, List.length_take, List.length_drop, List.all_cons, List.all_nil, AV.isCell, Bool.and_self, Bool.and_true, bs_length, is64_length, w64_length, ints_length, ints_length] <;> omega) | rfl | decide) only [a42l0b, run_seq, run_region, runOps_cons, oper_none, ex_mov, opv, List.getD_cons_succ, List.getD_cons_zero, putK_to, List.set_cons_succ, List.set_cons_zero, opsK_some, ex_len, lenA_own, valK_some, ex_bin, bin_lss, Int.lt_irrefl, decide_false, runOps_nil, regK_some, seqK_normal, run_cond, condK_bool, Bool.false_eq_true, ↓reduceIte, run_exit, seqK_exit, loopK_exit, a42l0c]
  | succ e ih =>
    intro x G h h0 hG
    have hkl := (List.getElem?_eq_some_iff.1 hG).1
    have hlt : (x : Int) < (m : Nat) := by omega
    have hn0 : ((n : Nat) : Int) ≠ 0 := by omega
    have hcs : (List.range (x + 1)).map (fun x => cellS d n l r x) = (List.range x).map (fun x => cellS d n l r x) ++ [cellS d n l r x] := by
      rw [List.range_succ, List.map_append]; rfl
    have hlen : ((List.range x).map (fun x => cellS d n l r x) ++ List.replicate (e + 1) 0).length = m := by simp; omega
    have hset : ∀ y : Int, ((List.range x).map (fun x => cellS d n l r x) ++ List.replicate (e + 1) 0).set x y = (List.range x).map (fun x => cellS d n l r x) ++ y :: List.replicate e 0 := fun y => by
      rw [List.set_append_right _ _ (by simp)]
      simp [List.replicate_succ]
    by_cases c : r < (d.next.getD l rr0).l.length ∧ x < ((d.next.getD l rr0).l.getD r r0).l.length
    · have ih' := ih (x + 1) (G.set k (.cells false false (ints ((List.range (x + 1)).map (fun x => cellS d n l r x) ++ List.replicate e 0)))) (by omega)
        (by rw [List.getElem?_set_ne (by omega)]; exact h0) (List.getElem?_set_self hkl)
      rw [List.set_set, hcs, List.append_assoc, List.cons_append, List.nil_append] at ih'
      have hc : cellS d n l r x = nrm (((d.next.getD l rr0).l.getD r r0).l.getD x 0) n := if_pos c
      have c1 : (r : Int) < ((d.next.getD l rr0).l.length : Nat) := by omega
      have c2 : (x : Int) < (((d.next.getD l rr0).l.getD r r0).l.length : Nat) := by omega
      have c3 := c.1
      have c4 := c.2
      have hb := tmod_bd (((d.next.getD l rr0).l.getD r r0).l.getD x 0) (n := (n : Int)) (by omega)
      rw [hc] at ih'
      unfold nrm at ih'
      generalize hq : (((d.next.getD l rr0).l.getD r r0).l.getD x 0).tmod (n : Int) = q at ih' hb
      have hs := hset ((q + n).tmod n)
      generalize (List.range x).map (fun x => cellS d n l r x) ++ List.replicate (e + 1) 0 = cur at *
      unfold Dfa.cells at h0
      rw [a42l0n]
      simp (maxSteps := 30000000) (disch := first | assumption | omega | (simp only [List.length_cons, List.length_nil, List.length_append, List.length_set, List.length_replicate, List.length_map, List.length_range, List.length_take, List.length_drop, List.all_cons, List.all_nil, AV.isCell, Bool.and_self, Bool.and_true, bs_length, is64_length, w64_length, ints_length, ints_length] <;> omega) | rfl | decide) only [a42l0b, run_seq, run_region, runOps_cons, oper_none, ex_mov, opv, List.getD_cons_succ, List.getD_cons_zero, putK_to, List.set_cons_succ, List.set_cons_zero, opsK_some, ex_len, lenA_own, valK_some, ex_bin, bin_lss, hlt, decide_true, runOps_nil, regK_some, seqK_normal, run_cond, condK_bool, ↓reduceIte, run_skip, run_block, ex_faddr, faddrA_ptr, Nat.zero_add, ex_load, rd_ptr, h0, rdK_cells, List.drop_succ_cons, List.drop_zero, List.take_succ_cons, List.take_zero, loadK_1, ex_iaddr, iaddrA_sl, Int.toNat_natCast, Nat.mul_one, rd_vptr, rws_at, rwsV, lenA_sl, c1, oper_guard, guardK_bool, rw_at, rwV, c2, ex_pick, pickA_bool, ints_drop, ints_take, ints_at0, getD_dropI, Nat.add_zero, bin_rem, hq, bin_add, wr64, iaddrA_own, ex_store, AV.cells, List.length_cons, List.length_nil, wr_ptr, hG, wrK_cells, splice, List.append_assoc, List.cons_append, List.nil_append, ints_put1, hset, storeK_some, putK_no, blockK_normal, cadd1, loopK_normal, a42l0c, ih']
    · have hc : cellS d n l r x = 0 := if_neg c
      have ih' := ih (x + 1) G (by omega) h0 (by rw [hcs, hc, List.append_assoc]; exact hG)
      unfold Dfa.cells at h0
      by_cases c3 : r < (d.next.getD l rr0).l.length
      · have c1 : (r : Int) < ((d.next.getD l rr0).l.length : Nat) := by omega
        have c2 : ¬ (x : Int) < (((d.next.getD l rr0).l.getD r r0).l.length : Nat) := by omega
        rw [a42l0n]
        simp (maxSteps := 30000000) (disch := first | assumption | omega | (simp only [List.length_cons, List.length_nil, List.length_append, List.length_set, List.length_replicate, List.length_map, List.length_range, List.length_take, List.length_drop, List.all_cons, List.all_nil, AV.isCell, Bool.and_self, Bool.and_true, bs_length, is64_length, w64_length, ints_length, ints_length] <;> omega) | rfl | decide) only [a42l0b, run_seq, run_region, runOps_cons, oper_none, ex_mov, opv, List.getD_cons_succ, List.getD_cons_zero, putK_to, List.set_cons_succ, List.set_cons_zero, opsK_some, ex_len, lenA_own, valK_some, ex_bin, bin_lss, hlt, decide_true, runOps_nil, regK_some, seqK_normal, run_cond, condK_bool, ↓reduceIte, run_skip, run_block, ex_faddr, faddrA_ptr, Nat.zero_add, ex_load, rd_ptr, h0, rdK_cells, List.drop_succ_cons, List.drop_zero, List.take_succ_cons, List.take_zero, loadK_1, ex_iaddr, iaddrA_sl, Int.toNat_natCast, Nat.mul_one, rd_vptr, rws_at, rwsV, lenA_sl, c1, oper_guard, guardK_bool, rw_at, rwV, c2, decide_false, ex_pick, pickA_bool, Bool.false_eq_true, blockK_normal, bin_add, cadd1, wr64, loopK_normal, a42l0c, ih']
      · have c1 : ¬ (r : Int) < ((d.next.getD l rr0).l.length : Nat) := by omega
        rw [a42l0n]
        simp (maxSteps := 30000000) (disch := first | assumption | omega | (simp only [List.length_cons, List.length_nil, List.length_append, List.length_set, List.length_replicate, List.length_map, List.length_range, List.length_take, List.length_drop, List.all_cons, List.all_nil, AV.isCell, Bool.and_self, Bool.and_true, bs_length, is64_length, w64_length, ints_length, ints_length] <;> omega) | rfl | decide) only [a42l0b, run_seq, run_region, runOps_cons, oper_none, ex_mov, opv, List.getD_cons_succ, List.getD_cons_zero, putK_to, List.set_cons_succ, List.set_cons_zero, opsK_some, ex_len, lenA_own, valK_some, ex_bin, bin_lss, hlt, decide_true, runOps_nil, regK_some, seqK_normal, run_cond, condK_bool, ↓reduceIte, run_skip, run_block, ex_faddr, faddrA_ptr, Nat.zero_add, ex_load, rd_ptr, h0, rdK_cells, List.drop_succ_cons, List.drop_zero, List.take_succ_cons, List.take_zero, loadK_1, ex_iaddr, iaddrA_sl, Int.toNat_natCast, Nat.mul_one, rd_vptr, rws_at, rwsV, lenA_sl, c1, decide_false, oper_guard, guardK_bool, Bool.false_eq_true, putA_to, ex_pick, pickA_bool, blockK_normal, bin_add, cadd1, wr64, loopK_normal, a42l0c, ih']
end
end Go.Abs.Det
