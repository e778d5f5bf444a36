/- classes: the notes of a state. -/
import Derived.Test.YtdkbhidfiplncaaAE1
import Derived.Test.YtdkbhidfiplncaaAD11
namespace Go.Abs.Det
open Go Go.Abs
set_option linter.unusedSimpArgs false
set_option linter.unusedVariables false

/-- a row of bytes under way: its box p, its block -/
def RowB (G : Heap) (B p : Nat) (row : List Nat) : Prop := ∃ rb, G[p]? = some (.cells false false [.own false rb 0 row.length 1]) ∧ G[rb]? = some (.cells false false (bs row)) ∧ B ≤ rb ∧ p ≠ rb
/-- what stands below -/
structure Base (D : Da) (cls : List Int) (G : Heap) (B : Nat) : Prop where
  b0 : G[0]? = some (.cells false false D.cells)
  b1 : ∃ cb, G[1]? = some (.cells false false [.own false cb 0 cls.length 1]) ∧ G[cb]? = some (.cells false false (ints cls)) ∧ cb < B
  two : 1 < B
  le : B ≤ G.length
structure ClsOk (D : Da) (cls : List Int) : Prop where
  len : cls.length = D.next.length
  bd : ∀ c ∈ cls, 0 ≤ c ∧ c < 64

theorem Base.step {D : Da} {cls : List Int} {G G' : Heap} {B : Nat} (h : Base D cls G B) (he : ∀ b, b < B → G'[b]? = G[b]?) (hl : G.length ≤ G'.length) : Base D cls G' B := by
  have := h.two
  obtain ⟨cb, c1, c2, c3⟩ := h.b1
  exact ⟨by rw [he 0 (by omega)]; exact h.b0, ⟨cb, by rw [he 1 (by omega)]; exact c1, by rw [he cb c3]; exact c2, c3⟩, h.two, by have := h.le; omega⟩

theorem noteR {D : Da} {cls : List Int} {G : Heap} {B p : Nat} {row : List Nat} {t : Int} (hC : ClsOk D cls) (h64 : D.next.length ≤ 64) (hB : Base D cls G B) (hR : RowB G B p row) (hp : B ≤ p) (ht : 0 ≤ t ∧ t < D.next.length) (hl : row.length < 1073741824) :
    ∃ G', L.icall (.func 106 [.ptr p 0, .ptr 1 0]) [.int .i64 t] G = some (.tup [], G') ∧ RowB G' B p (row ++ noteB cls t) ∧ (∀ b, b < B → G'[b]? = G[b]?) ∧ G.length ≤ G'.length := by
  obtain ⟨rb, r1, r2, r3, r4⟩ := hR
  obtain ⟨cb, c1, c2, c3⟩ := hB.b1
  have hpl := (List.getElem?_eq_some_iff.1 r1).1
  have hrl := (List.getElem?_eq_some_iff.1 r2).1
  have hlen := hC.len
  obtain ⟨G', e1, e2⟩ := note106 (t := t) r1 r2 c1 c2 (by omega) (by omega) hC.bd hl r4 hpl
  have hle := hB.le
  refine ⟨G', e1, ⟨G.length, ?_, ?_, by omega, by omega⟩, fun b hb => ?_, by rw [e2]; simp⟩
  · rw [e2]; exact List.getElem?_set_self (by rw [List.length_append, List.length_set]; omega)
  · rw [e2, List.getElem?_set_ne (by omega), List.getElem?_append_right (by simp)]; simp
  · rw [e2, List.getElem?_set_ne (by omega), List.getElem?_append_left (by simp; omega), List.getElem?_set_ne (by omega)]

def ntX (D : Da) (cls : List Int) (s q x : Nat) : List Nat := noteB cls (nx D s q x) ++ noteB cls (nx D q s x)
def ntQ (D : Da) (cls : List Int) (s q i e : Nat) : List Nat := (List.range' i e).flatMap (ntX D cls s q)
theorem ntX_len (D : Da) (cls : List Int) (s q x : Nat) : (ntX D cls s q x).length = 4 := rfl
theorem ntQ_len (D : Da) (cls : List Int) (s q : Nat) : ∀ e i, (ntQ D cls s q i e).length = 4 * e
  | 0, _ => rfl
  | e + 1, i => by
    unfold ntQ
    rw [List.range'_succ, List.flatMap_cons, List.length_append, ntX_len]
    have := ntQ_len D cls s q e (i + 1)
    unfold ntQ at this
    omega

section
variable {D : Da} {cls : List Int} {p B s q : Nat} {s3 s4 s5 s22 s23 s38 s39 : AV}

theorem notes_x (hV : Va D) (hC : ClsOk D cls) (hs : s < D.next.length) (hq : q < D.next.length) (hp : B ≤ p) : ∀ e i G row, i + e = two D.vars → Base D cls G B → RowB G B p row → row.length + 4 * e < 1073741824 →
    ∃ G', L.loop a60l0s a60l0 ⟨a60l0F (.ptr 0 0) (.ptr 1 0) s3 s4 s5 (.int .i64 (s : Nat)) (.ptr p 0) (.func 106 [.ptr p 0, .ptr 1 0]) (.int .i64 (q : Nat)) s22 s23 s38 s39 (.int .i64 (two D.vars : Nat)) (.int .i64 (i : Nat)), G⟩ =
      some (.exit 6, ⟨a60l0F (.ptr 0 0) (.ptr 1 0) s3 s4 s5 (.int .i64 (s : Nat)) (.ptr p 0) (.func 106 [.ptr p 0, .ptr 1 0]) (.int .i64 (q : Nat)) s22 s23 s38 s39 (.int .i64 (two D.vars : Nat)) (.int .i64 (two D.vars : Nat)), G'⟩) ∧
      RowB G' B p (row ++ ntQ D cls s q i e) ∧ (∀ b, b < B → G'[b]? = G[b]?) ∧ G.length ≤ G'.length := by
  intro e
  induction e with
  | zero =>
    intro i G row h hB hR _
    obtain rfl : i = two D.vars := by omega
    refine ⟨G, ?_, by simpa [ntQ] using hR, fun _ _ => rfl, Nat.le_refl _⟩
    rw [a60l0n]
    simp (maxSteps := 30000000) (disch := first | assumption | omega | (simp only [List.length_cons, List.length_nil, List.length_append, List.length_set, List.length_replicate, List.length_map, List.length_range, List.length_take, List.length_drop, List.all_cons, List.all_nil, AV.isCell, Bool.and_self, Bool.and_true, bs_length, is64_length, w64_length, ints_length, ints_length, bools_len, List.length_map] <;> omega) | rfl | decide) only [a60l0b, run_seq, run_region, runOps_cons, oper_none, ex_bin, opv, List.getD_cons_succ, List.getD_cons_zero, bin_lss, Int.lt_irrefl, decide_false, valK_some, putK_to, List.set_cons_succ, List.set_cons_zero, opsK_some, runOps_nil, regK_some, seqK_normal, run_cond, condK_bool, Bool.false_eq_true, ↓reduceIte, run_exit, seqK_exit, loopK_exit, a60l0c]
  | succ e ih =>
    intro i G row h hB hR hl
    have h8 := (two_bd hV.v3).1
    have hlt : (i : Int) < (two D.vars : Nat) := by omega
    have n64 := hV.n64
    have g1 := getD_in (a := ([] : List (List Int))) hs
    have g2 := hV.rl _ g1
    have g3 := getD_in (a := ([] : List Int)) (show q < (D.next.getD s []).length by omega)
    have g4 := hV.cl _ g1 _ g3
    have k1 := getD_in (a := ([] : List (List Int))) hq
    have k2 := hV.rl _ k1
    have k3 := getD_in (a := ([] : List Int)) (show s < (D.next.getD q []).length by omega)
    have k4 := hV.cl _ k1 _ k3
    have b1 : 0 ≤ nx D s q i ∧ nx D s q i < D.next.length := nx_bd hV (by omega) (by omega) (by omega)
    have b2 : 0 ≤ nx D q s i ∧ nx D q s i < D.next.length := nx_bd hV (by omega) (by omega) (by omega)
    have e1 : nx D s q i = ((D.next.getD s []).getD q []).getD i 0 := rfl
    have e2 : nx D q s i = ((D.next.getD q []).getD s []).getD i 0 := rfl
    obtain ⟨G1, n1, n2, n3, n4⟩ := noteR hC n64 hB hR hp b1 (by omega)
    have hB1 := hB.step n3 n4
    obtain ⟨G2, m1, m2, m3, m4⟩ := noteR hC n64 hB1 n2 hp b2 (by simp [noteB]; omega)
    have hB2 := hB1.step m3 m4
    rw [List.append_assoc] at m2
    obtain ⟨G', f1, f2, f3, f4⟩ := ih (i + 1) G2 (row ++ ntX D cls s q i) (by omega) hB2 m2 (by rw [List.length_append, ntX_len]; omega)
    refine ⟨G', ?_, ?_, fun b hb => by rw [f3 b hb, m3 b hb, n3 b hb], by omega⟩
    · have hg1 : List.take 1 (List.drop i (ints ((D.next.getD s []).getD q []))) = [.int .i64 (((D.next.getD s []).getD q []).getD i 0)] := map_at1 _ _ (by omega)
      have hg2 : List.take 1 (List.drop i (ints ((D.next.getD q []).getD s []))) = [.int .i64 (((D.next.getD q []).getD s []).getD i 0)] := map_at1 _ _ (by omega)
      rw [e1] at n1
      rw [e2] at m1
      have h0 := hB.b0
      have h01 := hB1.b0
      unfold Da.cells at h0 h01
      rw [a60l0n]
      simp (maxSteps := 30000000) (disch := first | assumption | omega | (simp only [List.length_cons, List.length_nil, List.length_append, List.length_set, List.length_replicate, List.length_map, List.length_range, List.length_take, List.length_drop, List.all_cons, List.all_nil, AV.isCell, Bool.and_self, Bool.and_true, bs_length, is64_length, w64_length, ints_length, ints_length, bools_len, List.length_map] <;> omega) | rfl | decide) only [a60l0b, run_seq, run_region, runOps_cons, oper_none, ex_bin, opv, List.getD_cons_succ, List.getD_cons_zero, bin_lss, hlt, decide_true, valK_some, putK_to, List.set_cons_succ, List.set_cons_zero, opsK_some, runOps_nil, regK_some, seqK_normal, run_cond, condK_bool, ↓reduceIte, run_skip, run_block, ex_mov, ex_faddr, faddrA_ptr, Nat.zero_add, ex_load, rd_ptr, h0, rdK_cells, List.drop_succ_cons, List.drop_zero, List.take_succ_cons, List.take_zero, loadK_1, ex_iaddr, iaddrA_sl, Int.toNat_natCast, Nat.mul_one, rd_vptr, rows_at, rowsD, g2, row_at, rowT, g4, ints_drop, ints_take, ints_at0, getD_dropI, Nat.add_zero, ex_icall, List.map_cons, List.map_nil, n1, h01, k2, k4, m1, blockK_normal, bin_add, cadd1, wr64, loopK_normal, a60l0c, f1]
    · rw [List.append_assoc] at f2
      have : ntQ D cls s q i (e + 1) = ntX D cls s q i ++ ntQ D cls s q (i + 1) e := by
        unfold ntQ; rw [List.range'_succ, List.flatMap_cons]
      rw [this]; exact f2
end
end Go.Abs.Det
