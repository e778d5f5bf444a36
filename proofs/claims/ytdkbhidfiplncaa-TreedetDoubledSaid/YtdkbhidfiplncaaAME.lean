/- classes: the row of a state, as bytes. -/
import Derived.Test.YtdkbhidfiplncaaAMD
import Derived.Test.YtdkbhidfiplncaaAbsWalk2
namespace Go.Abs.Det
open Go Go.Abs
set_option linter.unusedSimpArgs false
set_option linter.unusedVariables false

theorem u8sOf_bs : ∀ l : List Nat, u8sOf (bs l) = some (l.map UInt8.ofNat)
  | [] => rfl
  | n :: l => by
    show (u8sOf (bs l)).map (UInt8.ofNat ((n : Nat) : Int).toNat :: ·) = _
    rw [u8sOf_bs l]; rfl

/-- a row of bytes as a key -/
def strK (l : List Nat) : AV := .str ⟨⟨l.map UInt8.ofNat⟩⟩
theorem strK_eq {a b : List Nat} (ha : ∀ x ∈ a, x < 256) (hb : ∀ x ∈ b, x < 256) : eqKey (strK a) (strK b) = some (decide (a = b)) := by
  have inj : ∀ {a b : List Nat}, (∀ x ∈ a, x < 256) → (∀ x ∈ b, x < 256) → a.map UInt8.ofNat = b.map UInt8.ofNat → a = b := by
    intro a
    induction a with
    | nil => intro b _ _ h; cases b with | nil => rfl | cons => simp at h
    | cons x a ih =>
      intro b ha hb h
      cases b with
      | nil => simp at h
      | cons y b =>
        simp only [List.map_cons, List.cons.injEq] at h
        have h1 : x = y := by
          have := congrArg UInt8.toNat h.1
          have hx := ha x (by simp)
          have hy := hb y (by simp)
          simp only [UInt8.toNat_ofNat'] at this
          omega
        rw [h1, ih (fun z hz => ha z (by simp [hz])) (fun z hz => hb z (by simp [hz])) h.2]
  show some ((a.map UInt8.ofNat) == (b.map UInt8.ofNat)) = _
  congr 1
  rw [Bool.eq_iff_iff, beq_iff_eq, decide_eq_true_eq]
  exact ⟨inj ha hb, fun e => by rw [e]⟩

/-- the numbers' bytes -/
def noteB (cls : List Int) (t : Int) : List Nat := [32, (cls.getD t.toNat 0).toNat]

theorem note106 {G : Heap} {p q rb cb : Nat} {row : List Nat} {cls : List Int} {t : Int} (hp : G[p]? = some (.cells false false [.own false rb 0 row.length 1])) (hr : G[rb]? = some (.cells false false (bs row)))
    (hq : G[q]? = some (.cells false false [.own false cb 0 cls.length 1])) (hc : G[cb]? = some (.cells false false (ints cls))) (ht : 0 ≤ t ∧ t < cls.length) (hcl : cls.length ≤ 64) (hb : ∀ c ∈ cls, 0 ≤ c ∧ c < 64) (hl : row.length < 1073741824) (hpr : p ≠ rb) (hpl : p < G.length) :
    ∃ G', L.icall (.func 106 [.ptr p 0, .ptr q 0]) [.int .i64 t] G = some (.tup [], G') ∧ G' = (G.set rb .dead ++ [Blk.cells false false (bs (row ++ noteB cls t))]).set p (.cells false false [.own false G.length 0 (row ++ noteB cls t).length 1]) := by
  refine ⟨_, ?_, rfl⟩
  have hm := hb _ (getD_in (a := (0 : Int)) (show t.toNat < cls.length by omega))
  have hw : IntKind.u8.wrap (cls.getD t.toNat 0) = ((cls.getD t.toNat 0).toNat : Nat) := by
    have e : IntKind.u8.wrap (cls.getD t.toNat 0) = cls.getD t.toNat 0 := by
      unfold IntKind.wrap
      show (if _ then _ else _) = _
      have h1 : (cls.getD t.toNat 0) % (2 ^ IntKind.u8.bits : Int) = cls.getD t.toNat 0 := Int.emod_eq_of_lt hm.1 (by show _ < (2 : Int) ^ 8; omega)
      rw [h1]; rfl
    rw [e, Int.toNat_of_nonneg hm.1]
  have hg : List.take 1 (List.drop t.toNat (ints cls)) = [.int .i64 (cls.getD t.toNat 0)] := map_at1 _ _ (by omega)
  have htk : List.take row.length (bs row) = bs row := List.take_of_length_le (by rw [bs_length]; exact Nat.le_refl _)
  have hn : bs row ++ [AV.int .u8 32, AV.int .u8 ((cls.getD t.toNat 0).toNat : Nat)] = bs (row ++ noteB cls t) := by
    unfold noteB; simp [bs]
  have hln : (row ++ noteB cls t).length = row.length + 2 := by simp [noteB]
  have hp2 : ∀ T : Heap, (G.set rb .dead ++ T)[p]? = some (.cells false false [.own false rb 0 row.length 1]) := fun T => app_get (by rw [List.getElem?_set_ne (Ne.symm hpr)]; exact hp)
  rw [hln, a106i, a106]
  simp (maxSteps := 30000000) (disch := first | assumption | omega | (simp only [List.length_cons, List.length_nil, List.length_append, List.length_set, List.length_replicate, List.length_map, List.length_range, List.length_take, List.length_drop, List.all_cons, List.all_nil, AV.isCell, Bool.and_self, Bool.and_true, bs_length, is64_length, w64_length, ints_length, ints_length, bools_len, List.length_map] <;> omega) | rfl | decide) only [List.cons_append, List.nil_append, bodyA_eq, List.length_cons, List.length_nil, Nat.zero_add, Nat.reduceAdd, Nat.reduceSub, pads, run_draw, List.take_succ_cons, List.take_zero, runFree_cons, foper_none, fe_load, ex_load, opv, List.getD_cons_succ, List.getD_cons_zero, rd_ptr, hp, rdK_cells, List.drop_zero, List.take_nil, loadK_1, valK_some, fstK_some, fputK_to, List.set_cons_succ, List.set_cons_zero, freeK_some, hq, runFree_nil, drawK_some, List.drop_succ_cons, adopt, adoptVal, runOps_cons, oper_none, ex_mov, putK_to, opsK_some, ex_iaddr, iaddrA_own, Nat.mul_one, hc, ints_drop, ints_take, ints_at0, getD_dropI, Nat.add_zero, ex_conv, convA_int, hw, ex_bslice, AV.cells, List.all_cons, beq_self_eq_true, List.all_nil, Bool.and_self, ↓reduceIte, repz_2, List.append_nil, List.map_cons, List.map_nil, fillA, Nat.reduceLeDiff, AV.isCell, and_self, splice, Nat.le_refl, List.drop_nil, newK_some, newA_data, frzN, List.flatMap_cons, bor_int, List.flatMap_nil, List.isEmpty_nil, List.mapM_cons, frz_int, List.mapM_nil, Option.pure_def, Option.bind_eq_bind, Option.bind_some, slK_some, ex_append, src_sl, appK_own, hr, appOK_cells, Nat.reduceBEq, htk, hn, ex_store, wr_ptr, hp2, wrK_cells, storeK_some, putK_no, runOps_nil, regK_some, bodyK_normal, results_0, retvK_some]
end Go.Abs.Det

/- classes: the notes of a state. -/
namespace Go.Abs.Det
open Go Go.Abs
set_option linter.unusedSimpArgs false
set_option linter.unusedVariables false

/-- a row of bytes under way: its box p, its block -/
def RowB (G : Heap) (B p : Nat) (row : List Nat) : Prop := ∃ rb, G[p]? = some (.cells false false [.own false rb 0 row.length 1]) ∧ G[rb]? = some (.cells false false (bs row)) ∧ B ≤ rb ∧ p ≠ rb
/-- what stands below -/
structure Base (D : Da) (cls : List Int) (G : Heap) (B : Nat) : Prop where
  b0 : G[0]? = some (.cells false false D.cells)
  b1 : ∃ cb, G[1]? = some (.cells false false [.own false cb 0 cls.length 1]) ∧ G[cb]? = some (.cells false false (ints cls)) ∧ cb < B
  two : 1 < B
  le : B ≤ G.length
structure ClsOk (D : Da) (cls : List Int) : Prop where
  len : cls.length = D.next.length
  bd : ∀ c ∈ cls, 0 ≤ c ∧ c < 64

theorem Base.step {D : Da} {cls : List Int} {G G' : Heap} {B : Nat} (h : Base D cls G B) (he : ∀ b, b < B → G'[b]? = G[b]?) (hl : G.length ≤ G'.length) : Base D cls G' B := by
  have := h.two
  obtain ⟨cb, c1, c2, c3⟩ := h.b1
  exact ⟨by rw [he 0 (by omega)]; exact h.b0, ⟨cb, by rw [he 1 (by omega)]; exact c1, by rw [he cb c3]; exact c2, c3⟩, h.two, by have := h.le; omega⟩

theorem noteR {D : Da} {cls : List Int} {G : Heap} {B p : Nat} {row : List Nat} {t : Int} (hC : ClsOk D cls) (h64 : D.next.length ≤ 64) (hB : Base D cls G B) (hR : RowB G B p row) (hp : B ≤ p) (ht : 0 ≤ t ∧ t < D.next.length) (hl : row.length < 1073741824) :
    ∃ G', L.icall (.func 106 [.ptr p 0, .ptr 1 0]) [.int .i64 t] G = some (.tup [], G') ∧ RowB G' B p (row ++ noteB cls t) ∧ (∀ b, b < B → G'[b]? = G[b]?) ∧ G.length ≤ G'.length := by
  obtain ⟨rb, r1, r2, r3, r4⟩ := hR
  obtain ⟨cb, c1, c2, c3⟩ := hB.b1
  have hpl := (List.getElem?_eq_some_iff.1 r1).1
  have hrl := (List.getElem?_eq_some_iff.1 r2).1
  have hlen := hC.len
  obtain ⟨G', e1, e2⟩ := note106 (t := t) r1 r2 c1 c2 (by omega) (by omega) hC.bd hl r4 hpl
  have hle := hB.le
  refine ⟨G', e1, ⟨G.length, ?_, ?_, by omega, by omega⟩, fun b hb => ?_, by rw [e2]; simp⟩
  · rw [e2]; exact List.getElem?_set_self (by rw [List.length_append, List.length_set]; omega)
  · rw [e2, List.getElem?_set_ne (by omega), List.getElem?_append_right (by simp)]; simp
  · rw [e2, List.getElem?_set_ne (by omega), List.getElem?_append_left (by simp; omega), List.getElem?_set_ne (by omega)]

def ntX (D : Da) (cls : List Int) (s q x : Nat) : List Nat := noteB cls (nx D s q x) ++ noteB cls (nx D q s x)
def ntQ (D : Da) (cls : List Int) (s q i e : Nat) : List Nat := (List.range' i e).flatMap (ntX D cls s q)
theorem ntX_len (D : Da) (cls : List Int) (s q x : Nat) : (ntX D cls s q x).length = 4 := rfl
theorem ntQ_len (D : Da) (cls : List Int) (s q : Nat) : ∀ e i, (ntQ D cls s q i e).length = 4 * e
  | 0, _ => rfl
  | e + 1, i => by
    unfold ntQ
    rw [List.range'_succ, List.flatMap_cons, List.length_append, ntX_len]
    have := ntQ_len D cls s q e (i + 1)
    unfold ntQ at this
    omega

section
variable {D : Da} {cls : List Int} {p B s q : Nat} {s3 s4 s5 s22 s23 s38 s39 : AV}

theorem notes_x (hV : Va D) (hC : ClsOk D cls) (hs : s < D.next.length) (hq : q < D.next.length) (hp : B ≤ p) : ∀ e i G row, i + e = two D.vars → Base D cls G B → RowB G B p row → row.length + 4 * e < 1073741824 →
    ∃ G', L.loop a60l0s a60l0 ⟨a60l0F (.ptr 0 0) (.ptr 1 0) s3 s4 s5 (.int .i64 (s : Nat)) (.ptr p 0) (.func 106 [.ptr p 0, .ptr 1 0]) (.int .i64 (q : Nat)) s22 s23 s38 s39 (.int .i64 (two D.vars : Nat)) (.int .i64 (i : Nat)), G⟩ =
      some (.exit 6, ⟨a60l0F (.ptr 0 0) (.ptr 1 0) s3 s4 s5 (.int .i64 (s : Nat)) (.ptr p 0) (.func 106 [.ptr p 0, .ptr 1 0]) (.int .i64 (q : Nat)) s22 s23 s38 s39 (.int .i64 (two D.vars : Nat)) (.int .i64 (two D.vars : Nat)), G'⟩) ∧
      RowB G' B p (row ++ ntQ D cls s q i e) ∧ (∀ b, b < B → G'[b]? = G[b]?) ∧ G.length ≤ G'.length := by
  intro e
  induction e with
  | zero =>
    intro i G row h hB hR _
    obtain rfl : i = two D.vars := by omega
    refine ⟨G, ?_, by simpa [ntQ] using hR, fun _ _ => rfl, Nat.le_refl _⟩
    rw [a60l0n]
    simp (maxSteps := 30000000) (disch := first | assumption | omega | (simp only [List.length_cons, List.length_nil, List.length_append, List.length_set, List.length_replicate, List.length_map, List.length_range, List.length_take, List.length_drop, List.all_cons, List.all_nil, AV.isCell, Bool.and_self, Bool.and_true, bs_length, is64_length, w64_length, ints_length, ints_length, bools_len, List.length_map] <;> omega) | rfl | decide) only [a60l0b, run_seq, run_region, runOps_cons, oper_none, ex_bin, opv, List.getD_cons_succ, List.getD_cons_zero, bin_lss, Int.lt_irrefl, decide_false, valK_some, putK_to, List.set_cons_succ, List.set_cons_zero, opsK_some, runOps_nil, regK_some, seqK_normal, run_cond, condK_bool, Bool.false_eq_true, ↓reduceIte, run_exit, seqK_exit, loopK_exit, a60l0c]
  | succ e ih =>
    intro i G row h hB hR hl
    have h8 := (two_bd hV.v3).1
    have hlt : (i : Int) < (two D.vars : Nat) := by omega
    have n64 := hV.n64
    have g1 := getD_in (a := ([] : List (List Int))) hs
    have g2 := hV.rl _ g1
    have g3 := getD_in (a := ([] : List Int)) (show q < (D.next.getD s []).length by omega)
    have g4 := hV.cl _ g1 _ g3
    have k1 := getD_in (a := ([] : List (List Int))) hq
    have k2 := hV.rl _ k1
    have k3 := getD_in (a := ([] : List Int)) (show s < (D.next.getD q []).length by omega)
    have k4 := hV.cl _ k1 _ k3
    have b1 : 0 ≤ nx D s q i ∧ nx D s q i < D.next.length := nx_bd hV (by omega) (by omega) (by omega)
    have b2 : 0 ≤ nx D q s i ∧ nx D q s i < D.next.length := nx_bd hV (by omega) (by omega) (by omega)
    have e1 : nx D s q i = ((D.next.getD s []).getD q []).getD i 0 := rfl
    have e2 : nx D q s i = ((D.next.getD q []).getD s []).getD i 0 := rfl
    obtain ⟨G1, n1, n2, n3, n4⟩ := noteR hC n64 hB hR hp b1 (by omega)
    have hB1 := hB.step n3 n4
    obtain ⟨G2, m1, m2, m3, m4⟩ := noteR hC n64 hB1 n2 hp b2 (by simp [noteB]; omega)
    have hB2 := hB1.step m3 m4
    rw [List.append_assoc] at m2
    obtain ⟨G', f1, f2, f3, f4⟩ := ih (i + 1) G2 (row ++ ntX D cls s q i) (by omega) hB2 m2 (by rw [List.length_append, ntX_len]; omega)
    refine ⟨G', ?_, ?_, fun b hb => by rw [f3 b hb, m3 b hb, n3 b hb], by omega⟩
    · have hg1 : List.take 1 (List.drop i (ints ((D.next.getD s []).getD q []))) = [.int .i64 (((D.next.getD s []).getD q []).getD i 0)] := map_at1 _ _ (by omega)
      have hg2 : List.take 1 (List.drop i (ints ((D.next.getD q []).getD s []))) = [.int .i64 (((D.next.getD q []).getD s []).getD i 0)] := map_at1 _ _ (by omega)
      rw [e1] at n1
      rw [e2] at m1
      have h0 := hB.b0
      have h01 := hB1.b0
      unfold Da.cells at h0 h01
      rw [a60l0n]
      simp (maxSteps := 30000000) (disch := first | assumption | omega | (simp only [List.length_cons, List.length_nil, List.length_append, List.length_set, List.length_replicate, List.length_map, List.length_range, List.length_take, List.length_drop, List.all_cons, List.all_nil, AV.isCell, Bool.and_self, Bool.and_true, bs_length, is64_length, w64_length, ints_length, ints_length, bools_len, List.length_map] <;> omega) | rfl | decide) only [a60l0b, run_seq, run_region, runOps_cons, oper_none, ex_bin, opv, List.getD_cons_succ, List.getD_cons_zero, bin_lss, hlt, decide_true, valK_some, putK_to, List.set_cons_succ, List.set_cons_zero, opsK_some, runOps_nil, regK_some, seqK_normal, run_cond, condK_bool, ↓reduceIte, run_skip, run_block, ex_mov, ex_faddr, faddrA_ptr, Nat.zero_add, ex_load, rd_ptr, h0, rdK_cells, List.drop_succ_cons, List.drop_zero, List.take_succ_cons, List.take_zero, loadK_1, ex_iaddr, iaddrA_sl, Int.toNat_natCast, Nat.mul_one, rd_vptr, rows_at, rowsD, g2, row_at, rowT, g4, ints_drop, ints_take, ints_at0, getD_dropI, Nat.add_zero, ex_icall, List.map_cons, List.map_nil, n1, h01, k2, k4, m1, blockK_normal, bin_add, cadd1, wr64, loopK_normal, a60l0c, f1]
    · rw [List.append_assoc] at f2
      have : ntQ D cls s q i (e + 1) = ntX D cls s q i ++ ntQ D cls s q (i + 1) e := by
        unfold ntQ; rw [List.range'_succ, List.flatMap_cons]
      rw [this]; exact f2
end
end Go.Abs.Det

/- classes: the whole row of a state. -/
namespace Go.Abs.Det
open Go Go.Abs
set_option linter.unusedSimpArgs false
set_option linter.unusedVariables false

def ntA (D : Da) (cls : List Int) (s i e : Nat) : List Nat := (List.range' i e).flatMap fun q => ntQ D cls s q 0 (two D.vars)
theorem ntA_len (D : Da) (cls : List Int) (s : Nat) : ∀ e i, (ntA D cls s i e).length = 4 * two D.vars * e
  | 0, _ => rfl
  | e + 1, i => by
    unfold ntA
    rw [List.range'_succ, List.flatMap_cons, List.length_append, ntQ_len]
    have := ntA_len D cls s e (i + 1)
    unfold ntA at this
    rw [this, Nat.mul_add]; omega

section
variable {D : Da} {cls : List Int} {p B s : Nat} {s3 s4 s5 s22 s23 : AV}

theorem notes_q (hV : Va D) (hC : ClsOk D cls) (hs : s < D.next.length) (hp : B ≤ p) : ∀ e i G row, i + e = D.next.length → Base D cls G B → RowB G B p row → row.length + 4 * two D.vars * e < 1073741824 →
    ∃ G', L.loop a60l1s a60l1 ⟨a60l1F (.ptr 0 0) (.ptr 1 0) s3 s4 s5 (.int .i64 (s : Nat)) (.ptr p 0) (.func 106 [.ptr p 0, .ptr 1 0]) s22 s23 (.int .i64 (D.next.length : Nat)) (.int .i64 (i : Nat)), G⟩ =
      some (.exit 4, ⟨a60l1F (.ptr 0 0) (.ptr 1 0) s3 s4 s5 (.int .i64 (s : Nat)) (.ptr p 0) (.func 106 [.ptr p 0, .ptr 1 0]) s22 s23 (.int .i64 (D.next.length : Nat)) (.int .i64 (D.next.length : Nat)), G'⟩) ∧
      RowB G' B p (row ++ ntA D cls s i e) ∧ (∀ b, b < B → G'[b]? = G[b]?) ∧ G.length ≤ G'.length := by
  intro e
  induction e with
  | zero =>
    intro i G row h hB hR _
    obtain rfl : i = D.next.length := by omega
    have n64 := hV.n64
    refine ⟨G, ?_, by simpa [ntA] using hR, fun _ _ => rfl, Nat.le_refl _⟩
    rw [a60l1n]
    simp (maxSteps := 30000000) (disch := first | assumption | omega | (simp only [List.length_cons, List.length_nil, List.length_append, List.length_set, List.length_replicate, List.length_map, List.length_range, List.length_take, List.length_drop, List.all_cons, List.all_nil, AV.isCell, Bool.and_self, Bool.and_true, bs_length, is64_length, w64_length, ints_length, ints_length, bools_len, List.length_map] <;> omega) | rfl | decide) only [a60l1b, run_seq, run_region, runOps_cons, oper_none, ex_bin, opv, List.getD_cons_succ, List.getD_cons_zero, bin_lss, Int.lt_irrefl, decide_false, valK_some, putK_to, List.set_cons_succ, List.set_cons_zero, opsK_some, runOps_nil, regK_some, seqK_normal, run_cond, condK_bool, Bool.false_eq_true, ↓reduceIte, run_exit, seqK_exit, loopK_exit, a60l1c]
  | succ e ih =>
    intro i G row h hB hR hl
    have n64 := hV.n64
    have h8 := (two_bd hV.v3).1
    have hlt : (i : Int) < (D.next.length : Nat) := by omega
    have g1 := getD_in (a := ([] : List (List Int))) hs
    have g2 := hV.rl _ g1
    have g3 := getD_in (a := ([] : List Int)) (show i < (D.next.getD s []).length by omega)
    have g4 := hV.cl _ g1 _ g3
    have hmul : 4 * two D.vars * (e + 1) = 4 * two D.vars * e + 4 * two D.vars := by rw [Nat.mul_add, Nat.mul_one]
    obtain ⟨G1, n1, n2, n3, n4⟩ := notes_x (s3 := s3) (s4 := s4) (s5 := s5) (s22 := s22) (s23 := s23) (s38 := .int .i64 (D.next.length : Nat)) (s39 := .int .i64 (i : Nat)) hV hC hs (q := i) (by omega) hp (two D.vars) 0 G row (by omega) hB hR (by omega)
    have hB1 := hB.step n3 n4
    obtain ⟨G', f1, f2, f3, f4⟩ := ih (i + 1) G1 (row ++ ntQ D cls s i 0 (two D.vars)) (by omega) hB1 n2 (by rw [List.length_append, ntQ_len]; omega)
    refine ⟨G', ?_, ?_, fun b hb => by rw [f3 b hb, n3 b hb], by omega⟩
    · have h0 := hB.b0
      unfold Da.cells at h0
      simp only [Int.natCast_zero] at n1
      rw [a60l1n]
      simp (maxSteps := 30000000) (disch := first | assumption | omega | (simp only [List.length_cons, List.length_nil, List.length_append, List.length_set, List.length_replicate, List.length_map, List.length_range, List.length_take, List.length_drop, List.all_cons, List.all_nil, AV.isCell, Bool.and_self, Bool.and_true, bs_length, is64_length, w64_length, ints_length, ints_length, bools_len, List.length_map] <;> omega) | rfl | decide) only [a60l1b, run_seq, run_region, runOps_cons, oper_none, ex_bin, opv, List.getD_cons_succ, List.getD_cons_zero, bin_lss, hlt, decide_true, valK_some, putK_to, List.set_cons_succ, List.set_cons_zero, opsK_some, runOps_nil, regK_some, seqK_normal, run_cond, condK_bool, ↓reduceIte, run_skip, run_block, ex_mov, ex_faddr, faddrA_ptr, Nat.zero_add, ex_load, rd_ptr, h0, rdK_cells, List.drop_succ_cons, List.drop_zero, List.take_succ_cons, List.take_zero, loadK_1, ex_iaddr, iaddrA_sl, Int.toNat_natCast, Nat.mul_one, rd_vptr, rows_at, rowsD, g2, row_at, rowT, g4, ex_len, lenA_sl, run_loop, a60l0c, n1, blockK_exit, blockK_normal, bin_add, cadd1, wr64, loopK_normal, a60l1c, f1]
    · rw [List.append_assoc] at f2
      have : ntA D cls s i (e + 1) = ntQ D cls s i 0 (two D.vars) ++ ntA D cls s (i + 1) e := by
        unfold ntA; rw [List.range'_succ, List.flatMap_cons]
      rw [this]; exact f2
end

def fbB (b : Bool) : List Nat := if b then [116, 114, 117, 101] else [102, 97, 108, 115, 101]
def fbS (b : Bool) : ByteArray := if b then ⟨#[116, 114, 117, 101]⟩ else ⟨#[102, 97, 108, 115, 101]⟩
theorem fb121 (b : Bool) : L.pcall 121 [.bool b] = some (.str (fbS b)) := by
  cases b <;> rw [a121p, a121, pbodyA_eq]
  · simp (maxSteps := 30000000) (disch := first | assumption | omega | (simp only [List.length_cons, List.length_nil, List.length_append, List.length_set, List.length_replicate, List.length_map, List.length_range, List.length_take, List.length_drop, List.all_cons, List.all_nil, AV.isCell, Bool.and_self, Bool.and_true, bs_length, is64_length, w64_length, ints_length, ints_length, bools_len, List.length_map] <;> omega) | rfl | decide) only [bodyA_eq, List.length_cons, List.length_nil, Nat.zero_add, Nat.reduceSub, pads, List.cons_append, List.nil_append, run_seq, run_region, runOps_cons, oper_none, ex_mov, opv, putK_to, List.set_cons_succ, List.set_cons_zero, opsK_some, runOps_nil, regK_some, seqK_normal, List.getD_cons_zero, run_cond, List.getD_cons_succ, condK_bool, Bool.false_eq_true, ↓reduceIte, run_skip, run_ret, bodyK_ret, results_1, res_tmp, retvK_some, pbodyK_some, frzN, frz_str]
    rfl
  · simp (maxSteps := 30000000) (disch := first | assumption | omega | (simp only [List.length_cons, List.length_nil, List.length_append, List.length_set, List.length_replicate, List.length_map, List.length_range, List.length_take, List.length_drop, List.all_cons, List.all_nil, AV.isCell, Bool.and_self, Bool.and_true, bs_length, is64_length, w64_length, ints_length, ints_length, bools_len, List.length_map] <;> omega) | rfl | decide) only [bodyA_eq, List.length_cons, List.length_nil, Nat.zero_add, Nat.reduceSub, pads, List.cons_append, List.nil_append, run_seq, run_region, runOps_cons, oper_none, ex_mov, opv, putK_to, List.set_cons_succ, List.set_cons_zero, opsK_some, runOps_nil, regK_some, seqK_normal, List.getD_cons_zero, run_cond, List.getD_cons_succ, condK_bool, ↓reduceIte, run_ret, seqK_ret, bodyK_ret, results_1, res_tmp, retvK_some, pbodyK_some, frzN, frz_str]
    rfl
theorem fb105 (b : Bool) : L.pcall 105 [.bool b] = some (.str (fbS b)) := by
  have h := fb121 b
  rw [a105p, a105, pbodyA_eq]
  simp (maxSteps := 30000000) (disch := first | assumption | omega | (simp only [List.length_cons, List.length_nil, List.length_append, List.length_set, List.length_replicate, List.length_map, List.length_range, List.length_take, List.length_drop, List.all_cons, List.all_nil, AV.isCell, Bool.and_self, Bool.and_true, bs_length, is64_length, w64_length, ints_length, ints_length, bools_len, List.length_map] <;> omega) | rfl | decide) only [bodyA_eq, List.length_cons, List.length_nil, Nat.zero_add, Nat.reduceSub, pads, List.cons_append, List.nil_append, run_seq, run_region, runOps_cons, oper_none, ex_mov, opv, putK_to, List.set_cons_succ, List.set_cons_zero, opsK_some, runOps_nil, regK_some, seqK_normal, List.getD_cons_zero, ex_call, List.map_cons, List.getD_cons_succ, List.map_nil, pcallA_eq, frzN, List.mapM_cons, frz_bool, List.mapM_nil, Option.pure_def, Option.bind_eq_bind, Option.bind_some, argK_some, h, retK_some, scal, scal1, ↓reduceIte, run_ret, bodyK_ret, results_1, res_tmp, retvK_some, pbodyK_some, frz_str]
theorem fb_cells (b : Bool) : cellsOfStr (fbS b) = bs (fbB b) ∧ (fbS b).size = (fbB b).length := by cases b <;> exact ⟨rfl, rfl⟩

/-- what tells a state from others -/
def keyR (D : Da) (cls : List Int) (s : Nat) : List Nat := fbB (D.fin.getD s false) ++ noteB cls s ++ ntA D cls s 0 D.next.length
end Go.Abs.Det

/- classes: numbering the rows. -/
namespace Go.Abs.Det
open Go Go.Abs
set_option linter.unusedSimpArgs false
set_option linter.unusedVariables false

def idxK (k : List Nat) : List (List Nat) → Nat → Option Nat
  | [], _ => none
  | k' :: ks, i => if k = k' then some i else idxK k ks (i + 1)
def ents : List (List Nat) → Nat → List (AV × AV)
  | [], _ => []
  | k :: ks, i => (strK k, .int .i64 (i : Nat)) :: ents ks (i + 1)
theorem ents_len : ∀ (ks : List (List Nat)) (i : Nat), (ents ks i).length = ks.length
  | [], _ => rfl
  | k :: ks, i => by rw [ents, List.length_cons, List.length_cons, ents_len ks]
theorem ents_snoc (k : List Nat) : ∀ (ks : List (List Nat)) (i : Nat), ents (ks ++ [k]) i = ents ks i ++ [(strK k, .int .i64 ((i + ks.length : Nat) : Int))]
  | [], i => rfl
  | k' :: ks, i => by
    rw [List.cons_append, ents, ents, ents_snoc k ks (i + 1), List.length_cons, List.cons_append]
    congr 4
    rw [show i + 1 + ks.length = i + (ks.length + 1) by omega]
def Byt (k : List Nat) : Prop := ∀ x ∈ k, x < 256
theorem find_ents {k : List Nat} (hk : Byt k) : ∀ (ks : List (List Nat)) (i : Nat), (∀ k' ∈ ks, Byt k') → findA (strK k) (ents ks i) = some ((idxK k ks i).map fun (j : Nat) => AV.int .i64 (j : Nat))
  | [], i, _ => rfl
  | k' :: ks, i, h => by
    simp only [ents, findA, strK_eq hk (h k' (by simp)), idxK]
    by_cases c : k = k'
    · simp [c]
    · simp only [c, decide_false]
      rw [find_ents hk ks (i + 1) (fun q hq => h q (by simp [hq]))]
      simp
theorem upd_ents {k : List Nat} {v : AV} (hk : Byt k) : ∀ (ks : List (List Nat)) (i : Nat), (∀ k' ∈ ks, Byt k') → idxK k ks i = none → updA (strK k) v (ents ks i) = some (ents ks i ++ [(strK k, v)])
  | [], i, _, _ => rfl
  | k' :: ks, i, h, hn => by
    unfold idxK at hn
    split at hn
    · cases hn
    rename_i c
    simp only [ents, updA, strK_eq hk (h k' (by simp)), c, decide_false]
    rw [upd_ents hk ks (i + 1) (fun q hq => h q (by simp [hq])) hn]
    rfl

/-- numbers in the order of the first occurrence -/
def numK (key : Nat → List Nat) : Nat → Nat → List (List Nat) → List Nat × List (List Nat)
  | _, 0, seen => ([], seen)
  | s, e + 1, seen => match idxK (key s) seen 0 with
    | some j => (j :: (numK key (s + 1) e seen).1, (numK key (s + 1) e seen).2)
    | none => (seen.length :: (numK key (s + 1) e (seen ++ [key s])).1, (numK key (s + 1) e (seen ++ [key s])).2)

theorem byt_app {a b : List Nat} (ha : Byt a) (hb : Byt b) : Byt (a ++ b) := fun x hx => (List.mem_append.1 hx).elim (ha x) (hb x)
theorem byt_note {D : Da} {cls : List Int} (hC : ClsOk D cls) (t : Int) : Byt (noteB cls t) := by
  intro x hx
  simp only [noteB, List.mem_cons, List.not_mem_nil, or_false] at hx
  rcases hx with rfl | rfl
  · omega
  · by_cases h : t.toNat < cls.length
    · have := hC.bd _ (getD_in (a := (0 : Int)) h); omega
    · rw [List.getD_eq_getElem?_getD, List.getElem?_eq_none (by omega)]; decide
theorem byt_flat {α : Type} {f : α → List Nat} {l : List α} (h : ∀ a ∈ l, Byt (f a)) : Byt (l.flatMap f) := fun x hx => by
  obtain ⟨a, ha, hx⟩ := List.mem_flatMap.1 hx
  exact h a ha x hx
theorem byt_key {D : Da} {cls : List Int} (hC : ClsOk D cls) (s : Nat) : Byt (keyR D cls s) := by
  refine byt_app (byt_app ?_ (byt_note hC _)) (byt_flat fun q _ => byt_flat fun x _ => byt_app (byt_note hC _) (byt_note hC _))
  intro x hx
  unfold fbB at hx
  split at hx <;> simp at hx <;> omega
theorem key_len (D : Da) (cls : List Int) (s : Nat) : (keyR D cls s).length = (fbB (D.fin.getD s false)).length + 2 + 4 * two D.vars * D.next.length := by
  unfold keyR
  rw [List.length_append, List.length_append, ntA_len]; rfl
theorem fb_len (b : Bool) : (fbB b).length ≤ 5 := by cases b <;> decide

theorem put_mid {l r : List Nat} {k n : Nat} (h : n = l.length) : (ints (l.map fun (j : Nat) => (j : Int)) ++ ints (List.replicate (r.length + 1) 0)) = ints ((l.map fun (j : Nat) => (j : Int)) ++ List.replicate (r.length + 1) 0) := by rw [ints_app]

def nums (l : List Nat) : List Int := l.map fun (j : Nat) => (j : Int)

set_option maxHeartbeats 1000000 in
theorem num_loop {D : Da} {cls : List Int} {s3 : AV} {m nb B : Nat} (hV : Va D) (hC : ClsOk D cls) (hm : m < B) (hn : nb < B) (hmn : m ≠ nb) : ∀ e s G done seen, s + e = D.next.length → Base D cls G B → done.length = s →
    (∀ cb, G[1]? = some (.cells false false [.own false cb 0 cls.length 1]) → cb ≠ m ∧ cb ≠ nb) → 1 < m → 1 < nb → (∀ k ∈ seen, Byt k) →
    G[m]? = some (.mp (ents seen 0)) → G[nb]? = some (.cells false false (ints (nums done ++ List.replicate e 0))) →
    ∃ G', L.loop a60l2s a60l2 ⟨a60l2F (.ptr 0 0) (.ptr 1 0) s3 (.mp m) (.own false nb 0 D.next.length 1) (.int .i64 (D.next.length : Nat)) (.int .i64 (s : Nat)), G⟩ =
      some (.exit 2, ⟨a60l2F (.ptr 0 0) (.ptr 1 0) s3 (.mp m) (.own false nb 0 D.next.length 1) (.int .i64 (D.next.length : Nat)) (.int .i64 (D.next.length : Nat)), G'⟩) ∧
      G'[0]? = some (.cells false false D.cells) ∧ G'[1]? = G[1]? ∧ G.length ≤ G'.length ∧
      G'[m]? = some (.mp (ents (numK (keyR D cls) s e seen).2 0)) ∧ G'[nb]? = some (.cells false false (ints (nums (done ++ (numK (keyR D cls) s e seen).1)))) := by
  intro e
  induction e with
  | zero =>
    intro s G done seen h hB hd hcb' m1 n1 hse hGm hGn
    obtain rfl : s = D.next.length := by omega
    have n64 := hV.n64
    refine ⟨G, ?_, hB.b0, rfl, Nat.le_refl _, hGm, by simpa [numK] using hGn⟩
    rw [a60l2n]
    simp (maxSteps := 30000000) (disch := first | assumption | omega | (simp only [List.length_cons, List.length_nil, List.length_append, List.length_set, List.length_replicate, List.length_map, List.length_range, List.length_take, List.length_drop, List.all_cons, List.all_nil, AV.isCell, Bool.and_self, Bool.and_true, bs_length, is64_length, w64_length, ints_length, ints_length, bools_len, List.length_map] <;> omega) | rfl | decide) only [a60l2b, run_seq, run_region, runOps_cons, oper_none, ex_bin, opv, List.getD_cons_succ, List.getD_cons_zero, bin_lss, Int.lt_irrefl, decide_false, valK_some, putK_to, List.set_cons_succ, List.set_cons_zero, opsK_some, runOps_nil, regK_some, seqK_normal, run_cond, condK_bool, Bool.false_eq_true, ↓reduceIte, run_exit, seqK_exit, loopK_exit, a60l2c]
  | succ e ih =>
    intro s G done seen h hB hd hcb' m1 n1 hse hGm hGn
    have n64 := hV.n64
    have h8 := (two_bd hV.v3).1
    have hlt : (s : Int) < (D.next.length : Nat) := by omega
    have hfl := hV.fl
    have hle := hB.le
    have htw := hB.two
    obtain ⟨cb, cb1, cb2, cb3⟩ := hB.b1
    obtain ⟨cm, cn⟩ := hcb' cb cb1
    have hfb := fb105 (D.fin.getD s false)
    obtain ⟨fc1, fc2⟩ := fb_cells (D.fin.getD s false)
    have hfl5 := fb_len (D.fin.getD s false)
    have hkl := key_len D cls s
    have hmul : two D.vars * D.next.length ≤ 8 * 64 := Nat.mul_le_mul h8 n64
    have hmul2 : 4 * two D.vars * D.next.length = 4 * (two D.vars * D.next.length) := Nat.mul_assoc ..
    have hbyt := byt_key hC s
    generalize hfbv : fbB (D.fin.getD s false) = fb at *
    have hB1 : Base D cls (G ++ [.cells false false (bs fb), .cells false false [.own false G.length 0 fb.length 1]]) G.length :=
      ⟨app_get hB.b0, ⟨cb, app_get cb1, app_get cb2, by omega⟩, by omega, by simp⟩
    have hR1 : RowB (G ++ [.cells false false (bs fb), .cells false false [.own false G.length 0 fb.length 1]]) G.length (G.length + 1) fb := ⟨G.length, hget _ _ 1, hget0 _ _, Nat.le_refl _, by omega⟩
    obtain ⟨G1, n1', n2', n3', n4'⟩ := noteR (t := (s : Int)) hC n64 hB1 hR1 (by omega) (by omega) (by omega)
    have hB2 := hB1.step n3' n4'
    obtain ⟨G2, q1, q2, q3, q4⟩ := notes_q (s3 := s3) (s4 := .mp m) (s5 := .own false nb 0 D.next.length 1) (s22 := .int .i64 (D.next.length : Nat)) (s23 := .int .i64 (s : Nat)) hV hC (s := s) (by omega) (by omega) D.next.length 0 G1 _ (by omega) hB2 n2' (by simp [noteB]; omega)
    have hkey : fb ++ noteB cls (s : Int) ++ ntA D cls s 0 D.next.length = keyR D cls s := by unfold keyR; rw [hfbv]
    rw [hkey] at q2
    have old : ∀ b, b < G.length → G2[b]? = G[b]? := fun b hb => by
      rw [q3 b hb, n3' b hb, List.getElem?_append_left hb]
    obtain ⟨rb, r1, r2, r3, r4⟩ := q2
    have y1 : G1[1]? = some (.cells false false [.own false cb 0 D.next.length 1]) := by
      rw [n3' 1 (by omega), List.getElem?_append_left (by omega), cb1, hC.len]
    have z0 := (old 0 (by omega)).trans hB.b0
    have z1 := old 1 (by omega)
    have zm := (old m (by omega)).trans hGm
    have zn := (old nb (by omega)).trans hGn
    have zc := (old cb (by omega)).trans cb2
    have hL2 : G.length ≤ G2.length := by simp at n4'; omega
    have hsetj : ∀ j : Nat, (nums done ++ List.replicate (e + 1) 0).set s (j : Int) = nums (done ++ [j]) ++ List.replicate e 0 := fun j => by
      have hdl : (nums done).length = s := by simp [nums, hd]
      rw [List.set_append_right _ _ (by omega), hdl, Nat.sub_self]
      simp [nums, List.replicate_succ]
    have hcl : (nums done ++ List.replicate (e + 1) (0 : Int)).length = D.next.length := by simp [nums, hd]; omega
    have hfind := find_ents hbyt seen 0 hse
    have htk : List.take (keyR D cls s).length (bs (keyR D cls s)) = bs (keyR D cls s) := List.take_of_length_le (by rw [bs_length]; exact Nat.le_refl _)
    simp only [Int.natCast_zero] at q1
    have hcell0 := hB.b0
    unfold Da.cells at hcell0
    unfold strK at hfind
    have cont : ∀ (j : Nat) (seen' : List (List Nat)) (G3 : Heap), (∀ k ∈ seen', Byt k) → G3[m]? = some (.mp (ents seen' 0)) → G3 = G2.set m (.mp (ents seen' 0)) →
        ∃ G', L.loop a60l2s a60l2 ⟨a60l2F (.ptr 0 0) (.ptr 1 0) s3 (.mp m) (.own false nb 0 D.next.length 1) (.int .i64 (D.next.length : Nat)) (.int .i64 ((s + 1 : Nat) : Int)), G3.set nb (.cells false false (ints (nums (done ++ [j]) ++ List.replicate e 0)))⟩ =
          some (.exit 2, ⟨a60l2F (.ptr 0 0) (.ptr 1 0) s3 (.mp m) (.own false nb 0 D.next.length 1) (.int .i64 (D.next.length : Nat)) (.int .i64 (D.next.length : Nat)), G'⟩) ∧
          G'[0]? = some (.cells false false D.cells) ∧ G'[1]? = G[1]? ∧ G.length ≤ G'.length ∧
          G'[m]? = some (.mp (ents (numK (keyR D cls) (s + 1) e seen').2 0)) ∧ G'[nb]? = some (.cells false false (ints (nums (done ++ j :: (numK (keyR D cls) (s + 1) e seen').1)))) := by
      intro j seen' G3 hse' hG3 hG3e
      have g3l : G3.length = G2.length := by rw [hG3e]; simp
      have g3o : ∀ b, b ≠ m → b ≠ nb → (G3.set nb (.cells false false (ints (nums (done ++ [j]) ++ List.replicate e 0))))[b]? = G2[b]? := fun b h1 h2 => by
        rw [List.getElem?_set_ne (Ne.symm h2), hG3e, List.getElem?_set_ne (Ne.symm h1)]
      have hBn : Base D cls (G3.set nb (.cells false false (ints (nums (done ++ [j]) ++ List.replicate e 0)))) B := by
        refine ⟨by rw [g3o 0 (by omega) (by omega)]; exact z0, ⟨cb, by rw [g3o 1 (by omega) (by omega), z1]; exact cb1, by rw [g3o cb cm cn]; exact zc, cb3⟩, htw, by simp; omega⟩
      obtain ⟨G', f1, f2, f3, f4, f5, f6⟩ := ih (s + 1) _ (done ++ [j]) seen' (by omega) hBn (by simp [hd]) (fun cb' hcb2 => by
        rw [g3o 1 (by omega) (by omega), z1] at hcb2
        exact hcb' cb' hcb2) m1 n1 hse' (by rw [List.getElem?_set_ne (Ne.symm hmn)]; exact hG3) (List.getElem?_set_self (by omega))
      refine ⟨G', f1, f2, by rw [f3, g3o 1 (by omega) (by omega), z1], by simp at f4; omega, f5, ?_⟩
      rw [f6, List.append_assoc]; rfl
    cases hidx : idxK (keyR D cls s) seen 0 with
    | some j =>
      rw [hidx] at hfind
      have hG2e : G2 = G2.set m (.mp (ents seen 0)) := by
        obtain ⟨h1, h2⟩ := List.getElem?_eq_some_iff.1 zm
        rw [← h2, List.set_getElem_self]
      obtain ⟨G', f1, f2, f3, f4, f5, f6⟩ := cont j seen G2 hse zm hG2e
      refine ⟨G', ?_, f2, f3, f4, by simpa [numK, hidx] using f5, by simpa [numK, hidx] using f6⟩
      clear hGn
      generalize nums done ++ List.replicate (e + 1) (0 : Int) = cur at *
      rw [a60l2n]
      simp (maxSteps := 30000000) (disch := first | assumption | omega | (simp only [List.length_cons, List.length_nil, List.length_append, List.length_set, List.length_replicate, List.length_map, List.length_range, List.length_take, List.length_drop, List.all_cons, List.all_nil, AV.isCell, Bool.and_self, Bool.and_true, bs_length, is64_length, w64_length, ints_length, ints_length, bools_len, List.length_map] <;> omega) | rfl | decide) only [a60l2b, run_seq, run_region, runOps_cons, oper_none, ex_bin, opv, List.getD_cons_succ, List.getD_cons_zero, bin_lss, hlt, decide_true, valK_some, putK_to, List.set_cons_succ, List.set_cons_zero, opsK_some, runOps_nil, regK_some, seqK_normal, run_cond, condK_bool, ↓reduceIte, run_skip, run_block, ex_mov, ex_faddr, faddrA_ptr, Nat.zero_add, ex_load, rd_ptr, hcell0, hfl, rdK_cells, List.drop_succ_cons, List.drop_zero, List.take_succ_cons, List.take_nil, loadK_1, ex_iaddr, iaddrA_sl, Int.toNat_natCast, Nat.mul_one, rd_vptr, bool_at, ex_call, List.map_cons, List.map_nil, pcallA_eq, frzN, List.mapM_cons, frz_bool, List.mapM_nil, Option.pure_def, Option.bind_eq_bind, Option.bind_some, argK_some, hfb, retK_some, scal, scal1, ex_sbytes, bytesK_str, fc2, fc1, newA_own, ex_box, AV.cells, List.all_cons, AV.isCell, List.all_nil, Bool.and_self, List.length_append, List.length_cons, List.length_nil, List.append_assoc, List.cons_append, List.nil_append, ex_store, wr_ptr, hget, List.getElem?_cons_succ, List.getElem?_cons_zero, wrK_cells, splice, List.take_zero, List.drop_nil, List.append_nil, hset, storeK_some, putK_no, ex_mkfunc, ex_icall, n1', y1, ex_len, lenA_own, run_loop, a60l1c, q1, blockK_exit, r1, ex_bstr, src_own, r2, srcK_cells, htk, strK0_some, u8sOf_bs, strK1_some, ex_mlook, keyFit_str, entA_mp, zm, entK_some, lookE_some, hfind, Option.map_some, lookK_yes, ex_ext, extA_tup, ex_un, un_not, Bool.not_true, Bool.false_eq_true, iaddrA_own, zn, ints_take, ints_drop, ints_put1, hsetj, blockK_normal, bin_add, cadd1, wr64, loopK_normal, a60l2c, f1]
    | none =>
      rw [hidx] at hfind
      have hupd := upd_ents (v := .int .i64 (seen.length : Nat)) hbyt seen 0 hse hidx
      have hsn := ents_snoc (keyR D cls s) seen 0
      rw [Nat.zero_add] at hsn
      rw [← hsn] at hupd
      unfold strK at hupd
      have hel := ents_len seen 0
      obtain ⟨G', f1, f2, f3, f4, f5, f6⟩ := cont seen.length (seen ++ [keyR D cls s]) (G2.set m (.mp (ents (seen ++ [keyR D cls s]) 0))) (fun k hk => by
        rcases List.mem_append.1 hk with q | q
        · exact hse k q
        · rw [List.mem_singleton.1 q]; exact hbyt) (List.getElem?_set_self (by omega)) rfl
      have zn3 : ∀ X : Blk, (G2.set m X)[nb]? = some (.cells false false (ints (nums done ++ List.replicate (e + 1) 0))) := fun X => by rw [List.getElem?_set_ne hmn]; exact zn
      refine ⟨G', ?_, f2, f3, f4, by simpa [numK, hidx] using f5, by simpa [numK, hidx] using f6⟩
      clear hGn
      generalize nums done ++ List.replicate (e + 1) (0 : Int) = cur at *
      rw [a60l2n]
      simp (maxSteps := 30000000) (disch := first | assumption | omega | (simp only [List.length_cons, List.length_nil, List.length_append, List.length_set, List.length_replicate, List.length_map, List.length_range, List.length_take, List.length_drop, List.all_cons, List.all_nil, AV.isCell, Bool.and_self, Bool.and_true, bs_length, is64_length, w64_length, ints_length, ints_length, bools_len, List.length_map] <;> omega) | rfl | decide) only [a60l2b, run_seq, run_region, runOps_cons, oper_none, ex_bin, opv, List.getD_cons_succ, List.getD_cons_zero, bin_lss, hlt, decide_true, valK_some, putK_to, List.set_cons_succ, List.set_cons_zero, opsK_some, runOps_nil, regK_some, seqK_normal, run_cond, condK_bool, ↓reduceIte, run_skip, run_block, ex_mov, ex_faddr, faddrA_ptr, Nat.zero_add, ex_load, rd_ptr, hcell0, hfl, rdK_cells, List.drop_succ_cons, List.drop_zero, List.take_succ_cons, List.take_nil, loadK_1, ex_iaddr, iaddrA_sl, Int.toNat_natCast, Nat.mul_one, rd_vptr, bool_at, ex_call, List.map_cons, List.map_nil, pcallA_eq, frzN, List.mapM_cons, frz_bool, List.mapM_nil, Option.pure_def, Option.bind_eq_bind, Option.bind_some, argK_some, hfb, retK_some, scal, scal1, ex_sbytes, bytesK_str, fc2, fc1, newA_own, ex_box, AV.cells, List.all_cons, AV.isCell, List.all_nil, Bool.and_self, List.length_append, List.length_cons, List.length_nil, List.append_assoc, List.cons_append, List.nil_append, ex_store, wr_ptr, hget, List.getElem?_cons_succ, List.getElem?_cons_zero, wrK_cells, splice, List.take_zero, List.drop_nil, List.append_nil, hset, storeK_some, putK_no, ex_mkfunc, ex_icall, n1', y1, ex_len, lenA_own, run_loop, a60l1c, q1, blockK_exit, r1, ex_bstr, src_own, r2, srcK_cells, htk, strK0_some, u8sOf_bs, strK1_some, ex_mlook, keyFit_str, entA_mp, zm, entK_some, lookE_some, hfind, Option.map_none, lookK_no, ex_ext, extA_tup, ex_un, un_not, Bool.not_false, ex_mlen, lenK_some, hel, ex_mupd, updM_mp, updE_some, hupd, updK_some, iaddrA_own, zn3, ints_take, ints_drop, ints_put1, hsetj, blockK_normal, bin_add, cadd1, wr64, loopK_normal, a60l2c, f1]
end Go.Abs.Det

/- classes: a round; what numbering gives. -/
namespace Go.Abs.Det
open Go Go.Abs
set_option linter.unusedSimpArgs false
set_option linter.unusedVariables false

noncomputable def numR (D : Da) (cls : List Int) : List Nat × List (List Nat) := numK (keyR D cls) 0 D.next.length []

/-- the class box and its list -/
structure ClsB (D : Da) (cls : List Int) (G : Heap) : Prop where
  b0 : G[0]? = some (.cells false false D.cells)
  b1 : ∃ cb, G[1]? = some (.cells false false [.own false cb 0 cls.length 1]) ∧ G[cb]? = some (.cells false false (ints cls))

theorem ClsB.base {D : Da} {cls : List Int} {G : Heap} (h : ClsB D cls G) (T : Heap) (hT : 2 ≤ G.length + T.length) : Base D cls (G ++ T) (G.length + T.length) := by
  obtain ⟨cb, c1, c2⟩ := h.b1
  have := (List.getElem?_eq_some_iff.1 c2).1
  exact ⟨app_get h.b0, ⟨cb, app_get c1, app_get c2, by omega⟩, by omega, by simp⟩

theorem round_cls {D : Da} {cls : List Int} {many : Int} {G : Heap} (hV : Va D) (hC : ClsOk D cls) (hB : ClsB D cls G) :
    ∃ G' : Heap, G'[0]? = some (.cells false false D.cells) ∧ G'[1]? = G[1]? ∧ G.length + 2 ≤ G'.length ∧ G'[G.length + 1]? = some (.cells false false (ints (nums (numR D cls).1))) ∧
      L.loop a60l3s a60l3 ⟨a60l3F (.ptr 0 0) (.ptr 1 0) (.int .i64 many), G⟩ =
        if (((numR D cls).2.length : Nat) : Int) = many then some (.ret, ⟨a60l3F (.ptr 0 0) (.ptr 1 0) (.int .i64 many), G'.set 1 (.cells false false [.own false (G.length + 1) 0 D.next.length 1])⟩)
        else L.loop a60l3s a60l3 ⟨a60l3F (.ptr 0 0) (.ptr 1 0) (.int .i64 ((numR D cls).2.length : Nat)), G'.set 1 (.cells false false [.own false (G.length + 1) 0 D.next.length 1])⟩ := by
  obtain ⟨cb, c1, c2⟩ := hB.b1
  have n64 := hV.n64
  have hcl := (List.getElem?_eq_some_iff.1 c2).1
  have h1l := (List.getElem?_eq_some_iff.1 c1).1
  have hB2 := hB.base [.mp [], .cells false false (ints (List.replicate D.next.length 0))] (by simp)
  obtain ⟨G', f1, f2, f3, f4, f5, f6⟩ := num_loop (s3 := .int .i64 many) (m := G.length) (nb := G.length + 1) (B := G.length + 2) hV hC (by omega) (by omega) (by omega) D.next.length 0
    (G ++ [.mp [], .cells false false (ints (List.replicate D.next.length 0))]) [] [] (by omega) hB2 rfl (fun cb' h => by
      have e := (app_get c1).symm.trans h
      have : cb = cb' := by simpa using e
      omega) (by omega) (by omega) (fun k hk => by cases hk) (hget0 _ _) (hget _ _ 1)
  have hlen := hC.len
  refine ⟨G', f2, by rw [f3]; exact List.getElem?_append_left h1l, by simp at f4; omega, f6, ?_⟩
  simp only [Int.natCast_zero] at f1
  have y1 : G'[1]? = some (.cells false false [.own false cb 0 D.next.length 1]) := by rw [f3, List.getElem?_append_left h1l, c1, hlen]
  rw [hlen] at c1
  have c1' := fun T => app_get (X := T) c1
  have hel := ents_len (numR D cls).2 0
  have f5' : G'[G.length]? = some (.mp (ents (numR D cls).2 0)) := f5
  clear f5 f6
  generalize (numR D cls).2 = ks at *
  have hG1 : 1 < G'.length := by simp at f4; omega
  rw [a60l3n]
  by_cases c : ((ks.length : Nat) : Int) = many
  · rw [if_pos c]
    simp (maxSteps := 30000000) (disch := first | assumption | omega | (simp only [List.length_cons, List.length_nil, List.length_append, List.length_set, List.length_replicate, List.length_map, List.length_range, List.length_take, List.length_drop, List.all_cons, List.all_nil, AV.isCell, Bool.and_self, Bool.and_true, bs_length, is64_length, w64_length, ints_length, ints_length, bools_len, List.length_map] <;> omega) | rfl | decide) only [a60l3b, run_block, run_seq, run_region, runOps_cons, oper_none, ex_mkmap, putK_to, List.set_cons_succ, List.set_cons_zero, opsK_some, ex_mov, opv, List.getD_cons_succ, List.getD_cons_zero, runOps_nil, regK_some, seqK_normal, ex_load, rd_ptr, c1', rdK_cells, List.drop_zero, List.take_succ_cons, List.take_nil, loadK_1, valK_some, ex_len, lenA_own, ex_mkslice, mksK_int, Int.toNat_natCast, List.length_cons, List.length_nil, Nat.zero_add, repz_ints, newA_own, List.length_append, List.append_assoc, List.cons_append, List.nil_append, run_loop, a60l2c, f1, blockK_exit, ↓reduceIte, ex_mlen, entA_mp, f5', entK_some, lenK_some, hel, c, ex_bin, bin_eql, decide_true, run_cond, condK_bool, ex_store, AV.cells, wr_ptr, y1, wrK_cells, splice, List.take_zero, List.drop_succ_cons, List.drop_nil, List.append_nil, storeK_some, putK_no, run_ret, seqK_ret, blockK_ret, loopK_ret, a60l3c]
  · rw [if_neg c]
    simp (maxSteps := 30000000) (disch := first | assumption | omega | (simp only [List.length_cons, List.length_nil, List.length_append, List.length_set, List.length_replicate, List.length_map, List.length_range, List.length_take, List.length_drop, List.all_cons, List.all_nil, AV.isCell, Bool.and_self, Bool.and_true, bs_length, is64_length, w64_length, ints_length, ints_length, bools_len, List.length_map] <;> omega) | rfl | decide) only [a60l3b, run_block, run_seq, run_region, runOps_cons, oper_none, ex_mkmap, putK_to, List.set_cons_succ, List.set_cons_zero, opsK_some, ex_mov, opv, List.getD_cons_succ, List.getD_cons_zero, runOps_nil, regK_some, seqK_normal, ex_load, rd_ptr, c1', rdK_cells, List.drop_zero, List.take_succ_cons, List.take_nil, loadK_1, valK_some, ex_len, lenA_own, ex_mkslice, mksK_int, Int.toNat_natCast, List.length_cons, List.length_nil, Nat.zero_add, repz_ints, newA_own, List.length_append, List.append_assoc, List.cons_append, List.nil_append, run_loop, a60l2c, f1, blockK_exit, ↓reduceIte, ex_mlen, entA_mp, f5', entK_some, lenK_some, hel, ex_bin, bin_eql, c, decide_false, run_cond, condK_bool, Bool.false_eq_true, run_skip, ex_store, AV.cells, wr_ptr, y1, wrK_cells, splice, List.take_zero, List.drop_succ_cons, List.drop_nil, List.append_nil, storeK_some, putK_no, blockK_normal, loopK_normal, a60l3c]
end Go.Abs.Det

/- What numbering gives: plain facts. -/
namespace Go.Abs.Det
open Go Go.Abs
set_option linter.unusedSimpArgs false
set_option linter.unusedVariables false

theorem idxK_some {k : List Nat} : ∀ {ks : List (List Nat)} {i j : Nat}, idxK k ks i = some j → i ≤ j ∧ ks[j - i]? = some k
  | [], i, j, h => by cases h
  | k' :: ks, i, j, h => by
    unfold idxK at h
    split at h
    · rename_i c
      cases h
      exact ⟨Nat.le_refl _, by rw [Nat.sub_self, c]; rfl⟩
    · obtain ⟨h1, h2⟩ := idxK_some h
      refine ⟨by omega, ?_⟩
      rw [show j - i = (j - (i + 1)) + 1 by omega]
      exact h2
theorem idxK_none {k : List Nat} : ∀ {ks : List (List Nat)} {i : Nat}, idxK k ks i = none → k ∉ ks
  | [], i, _ => by simp
  | k' :: ks, i, h => by
    unfold idxK at h
    split at h
    · cases h
    · rename_i c
      have := idxK_none h
      simp only [List.mem_cons, not_or]
      exact ⟨c, this⟩

/-- the last one's number -/
def snocK (key : Nat → List Nat) (e : Nat) (r : List Nat × List (List Nat)) : List Nat × List (List Nat) := match idxK (key e) r.2 0 with
  | some j => (r.1 ++ [j], r.2)
  | none => (r.1 ++ [r.2.length], r.2 ++ [key e])
theorem numK_snoc (key : Nat → List Nat) : ∀ e s seen, numK key s (e + 1) seen = snocK key (s + e) (numK key s e seen)
  | 0, s, seen => by
    unfold snocK
    show numK key s 1 seen = match idxK (key s) seen 0 with | some j => ([] ++ [j], seen) | none => ([] ++ [seen.length], seen ++ [key s])
    unfold numK
    cases idxK (key s) seen 0 <;> rfl
  | e + 1, s, seen => by
    have h : ∀ e, numK key s (e + 1) seen = match idxK (key s) seen 0 with
      | some j => (j :: (numK key (s + 1) e seen).1, (numK key (s + 1) e seen).2)
      | none => (seen.length :: (numK key (s + 1) e (seen ++ [key s])).1, (numK key (s + 1) e (seen ++ [key s])).2) := fun e => rfl
    rw [h (e + 1), h e]
    have e1 : s + (e + 1) = s + 1 + e := by omega
    rw [e1]
    cases idxK (key s) seen 0 with
    | some j =>
      simp only []
      rw [numK_snoc key e (s + 1) seen]
      unfold snocK
      cases idxK (key (s + 1 + e)) (numK key (s + 1) e seen).2 0 <;> rfl
    | none =>
      simp only []
      rw [numK_snoc key e (s + 1) (seen ++ [key s])]
      unfold snocK
      cases idxK (key (s + 1 + e)) (numK key (s + 1) e (seen ++ [key s])).2 0 <;> rfl

structure NumOk (key : Nat → List Nat) (e : Nat) (r : List Nat × List (List Nat)) : Prop where
  len : r.1.length = e
  nd : ∀ (i j : Nat) (k : List Nat), r.2[i]? = some k → r.2[j]? = some k → i = j
  at1 : ∀ i, i < e → r.2[r.1.getD i 0]? = some (key i)
  hit : ∀ j, j < r.2.length → ∃ i, i < e ∧ r.1.getD i 0 = j
  le : r.2.length ≤ e

theorem getD_app1 {l : List Nat} {a : Nat} {i : Nat} (h : i < l.length) : (l ++ [a]).getD i 0 = l.getD i 0 := by
  simp only [List.getD_eq_getElem?_getD]; rw [List.getElem?_append_left h]
theorem getD_app2 {l : List Nat} {a : Nat} : (l ++ [a]).getD l.length 0 = a := by
  simp [List.getD]

theorem numK_ok (key : Nat → List Nat) : ∀ e, NumOk key e (numK key 0 e [])
  | 0 => ⟨rfl, fun i j k h => by simp [numK] at h, fun i h => by omega, fun j h => by simp [numK] at h, by simp [numK]⟩
  | e + 1 => by
    have ih := numK_ok key e
    rw [numK_snoc, Nat.zero_add]
    generalize numK key 0 e [] = r at *
    obtain ⟨l, ks⟩ := r
    obtain ⟨h1, h2, h3, h4, h5⟩ := ih
    simp only at h1 h2 h3 h4 h5
    unfold snocK
    cases hi : idxK (key e) ks 0 with
    | some j =>
      obtain ⟨_, q⟩ := idxK_some hi
      rw [Nat.sub_zero] at q
      refine ⟨by simp [h1], h2, fun i hi' => ?_, fun j' hj => ?_, by show ks.length ≤ e + 1; omega⟩
      · by_cases c : i < e
        · show ks[(l ++ [j]).getD i 0]? = _
          rw [getD_app1 (by omega)]; exact h3 i c
        · have : i = l.length := by omega
          subst this
          show ks[(l ++ [j]).getD l.length 0]? = _
          rw [getD_app2, h1]; exact q
      · obtain ⟨i, i1, i2⟩ := h4 j' hj
        exact ⟨i, by omega, by show (l ++ [j]).getD i 0 = j'; rw [getD_app1 (by omega)]; exact i2⟩
    | none =>
      have q := idxK_none hi
      refine ⟨by simp [h1], fun i j k hi' hj' => ?_, fun i hi' => ?_, fun j' hj => ?_, by simp; omega⟩
      · show i = j
        have key' : ∀ i, (ks ++ [key e])[i]? = some k → (i < ks.length ∧ ks[i]? = some k) ∨ (i = ks.length ∧ k = key e) := fun i h => by
          by_cases c : i < ks.length
          · rw [List.getElem?_append_left c] at h; exact .inl ⟨c, h⟩
          · have hl := (List.getElem?_eq_some_iff.1 h).1
            simp at hl
            have e1 : i = ks.length := by omega
            subst e1
            simp at h
            exact .inr ⟨rfl, h.symm⟩
        rcases key' i hi' with ⟨a1, a2⟩ | ⟨a1, a2⟩ <;> rcases key' j hj' with ⟨b1, b2⟩ | ⟨b1, b2⟩
        · exact h2 i j k a2 b2
        · subst b2; exact absurd (List.mem_of_getElem? a2) q
        · subst a2; exact absurd (List.mem_of_getElem? b2) q
        · omega
      · by_cases c : i < e
        · show (ks ++ [key e])[(l ++ [ks.length]).getD i 0]? = _
          rw [getD_app1 (by omega)]
          have := h3 i c
          rw [List.getElem?_append_left (List.getElem?_eq_some_iff.1 this).1]; exact this
        · have : i = l.length := by omega
          subst this
          show (ks ++ [key e])[(l ++ [ks.length]).getD l.length 0]? = _
          rw [getD_app2, h1]; simp
      · simp only [List.length_append, List.length_singleton] at hj
        by_cases c : j' < ks.length
        · obtain ⟨i, i1, i2⟩ := h4 j' c
          exact ⟨i, by omega, by show (l ++ [ks.length]).getD i 0 = j'; rw [getD_app1 (by omega)]; exact i2⟩
        · exact ⟨l.length, by omega, by show (l ++ [ks.length]).getD l.length 0 = j'; rw [getD_app2]; omega⟩

theorem NumOk.lt {key : Nat → List Nat} {e : Nat} {r : List Nat × List (List Nat)} (h : NumOk key e r) {i : Nat} (hi : i < e) : r.1.getD i 0 < r.2.length :=
  (List.getElem?_eq_some_iff.1 (h.at1 i hi)).1
theorem NumOk.same {key : Nat → List Nat} {e : Nat} {r : List Nat × List (List Nat)} (h : NumOk key e r) {i j : Nat} (hi : i < e) (hj : j < e) : r.1.getD i 0 = r.1.getD j 0 ↔ key i = key j := by
  have a := h.at1 i hi
  have b := h.at1 j hj
  constructor
  · intro q
    rw [q, b] at a
    exact (Option.some.inj a).symm
  · intro q
    rw [q] at a
    exact h.nd _ _ _ a b

/-! counting -/
theorem inj_le : ∀ (b a : Nat) (f : Nat → Nat), (∀ i, i < a → f i < b) → (∀ i j, i < a → j < a → f i = f j → i = j) → a ≤ b
  | 0, a, f, h, _ => by
    rcases Nat.eq_zero_or_pos a with q | q
    · omega
    · have := h 0 q; omega
  | b + 1, a, f, h, hi => by
    by_cases c : ∃ i0, i0 < a ∧ f i0 = b
    · obtain ⟨i0, h0, h1⟩ := c
      have := inj_le b (a - 1) (fun i => if i = i0 then f (a - 1) else f i) (fun i hlt => by
        show (if i = i0 then f (a - 1) else f i) < b
        split
        · rename_i e
          have h2 := h (a - 1) (by omega)
          have : f (a - 1) ≠ b := fun q => by have := hi (a - 1) i0 (by omega) h0 (q.trans h1.symm); omega
          omega
        · rename_i e
          have h2 := h i (by omega)
          have : f i ≠ b := fun q => e (hi i i0 (by omega) h0 (q.trans h1.symm))
          omega) (fun i j h2 h3 => by
        show (if i = i0 then f (a - 1) else f i) = (if j = i0 then f (a - 1) else f j) → i = j
        split <;> split
        · intros; omega
        · intro q; have := hi (a - 1) j (by omega) (by omega) q; omega
        · intro q; have := hi i (a - 1) (by omega) (by omega) q; omega
        · intro q; exact hi i j (by omega) (by omega) q)
      omega
    · have := inj_le b a f (fun i hlt => by
        have h2 := h i hlt
        have : f i ≠ b := fun q => c ⟨i, hlt, q⟩
        omega) hi
      omega
theorem inj_onto {a : Nat} {f : Nat → Nat} (h : ∀ i, i < a → f i < a) (hi : ∀ i j, i < a → j < a → f i = f j → i = j) : ∀ j, j < a → ∃ i, i < a ∧ f i = j := by
  intro j hj
  refine Classical.byContradiction fun hn => ?_
  have hne : ∀ i, i < a → f i ≠ j := fun i hlt q => hn ⟨i, hlt, q⟩
  have := inj_le (a - 1) a (fun i => if j < f i then f i - 1 else f i) (fun i hlt => by
    have h1 := h i hlt
    have h2 := hne i hlt
    show (if j < f i then f i - 1 else f i) < a - 1
    split <;> omega) (fun i k h1 h2 => by
    have q1 := hne i h1
    have q2 := hne k h2
    show (if j < f i then f i - 1 else f i) = (if j < f k then f k - 1 else f k) → i = k
    intro q
    refine hi i k h1 h2 ?_
    split at q <;> split at q <;> omega)
  omega

/-- a finer numbering has as many numbers at least; with as many, it is the same -/
theorem finer {k0 k1 : Nat → List Nat} {n : Nat} {r0 r1 : List Nat × List (List Nat)} (h0 : NumOk k0 n r0) (h1 : NumOk k1 n r1) (hf : ∀ s t, s < n → t < n → k1 s = k1 t → r0.1.getD s 0 = r0.1.getD t 0) :
    r0.2.length ≤ r1.2.length ∧ (r0.2.length = r1.2.length → ∀ s t, s < n → t < n → r0.1.getD s 0 = r0.1.getD t 0 → r1.1.getD s 0 = r1.1.getD t 0) := by
  have hc : ∀ j, ∃ s, j < r0.2.length → s < n ∧ r0.1.getD s 0 = j := fun j => by
    by_cases q : j < r0.2.length
    · obtain ⟨s, s1, s2⟩ := h0.hit j q
      exact ⟨s, fun _ => ⟨s1, s2⟩⟩
    · exact ⟨0, fun h => absurd h q⟩
  obtain ⟨w, hw⟩ := Classical.axiomOfChoice hc
  have f1 : ∀ i, i < r0.2.length → r1.1.getD (w i) 0 < r1.2.length := fun i hi => h1.lt (hw i hi).1
  have f2 : ∀ i j, i < r0.2.length → j < r0.2.length → r1.1.getD (w i) 0 = r1.1.getD (w j) 0 → i = j := fun i j hi hj q => by
    obtain ⟨a1, a2⟩ := hw i hi
    obtain ⟨b1, b2⟩ := hw j hj
    rw [← a2, ← b2]
    exact hf _ _ a1 b1 ((h1.same a1 b1).1 q)
  refine ⟨inj_le _ _ _ f1 f2, fun heq s t hs ht hst => ?_⟩
  have onto := inj_onto (a := r0.2.length) (f := fun i => r1.1.getD (w i) 0) (fun i hi => by have := f1 i hi; omega) f2
  have rep : ∀ s, s < n → r1.1.getD s 0 = r1.1.getD (w (r0.1.getD s 0)) 0 := fun s hs => by
    obtain ⟨j, j1, j2⟩ := onto (r1.1.getD s 0) (by have := h1.lt hs; omega)
    obtain ⟨w1, w2⟩ := hw j j1
    have := hf _ _ w1 hs ((h1.same w1 hs).1 j2)
    rw [w2] at this
    rw [← this]; exact j2.symm
  rw [rep s hs, rep t ht, hst]
end Go.Abs.Det

/- classes: when two rows are one; the loop ends. -/
namespace Go.Abs.Det
open Go Go.Abs
set_option linter.unusedSimpArgs false
set_option linter.unusedVariables false

/-- the successor as a place -/
def nt (D : Da) (s q x : Nat) : Nat := (nx D s q x).toNat
theorem nt_bd {D : Da} (hV : Va D) {s q x : Nat} (hs : s < D.next.length) (hq : q < D.next.length) (hx : x < two D.vars) : nt D s q x < D.next.length := by
  have := nx_bd hV (a := s) (b := q) (x := x) (by omega) (by omega) hx
  unfold nt; omega

theorem flat_inj {f g : Nat → List Nat} (hl : ∀ i, (f i).length = (g i).length) : ∀ e i, (List.range' i e).flatMap f = (List.range' i e).flatMap g → ∀ j, i ≤ j → j < i + e → f j = g j
  | 0, i, _, j, h1, h2 => by omega
  | e + 1, i, h, j, h1, h2 => by
    rw [List.range'_succ, List.flatMap_cons, List.flatMap_cons] at h
    obtain ⟨a, b⟩ := List.append_inj h (hl i)
    rcases Nat.eq_or_lt_of_le h1 with q | q
    · rw [← q]; exact a
    · exact flat_inj hl e (i + 1) b j q (by omega)
theorem flat_cong {f g : Nat → List Nat} : ∀ e i, (∀ j, i ≤ j → j < i + e → f j = g j) → (List.range' i e).flatMap f = (List.range' i e).flatMap g
  | 0, i, _ => rfl
  | e + 1, i, h => by
    rw [List.range'_succ, List.flatMap_cons, List.flatMap_cons, h i (by omega) (by omega), flat_cong e (i + 1) (fun j h1 h2 => h j (by omega) (by omega))]

theorem note_iff {D : Da} {cls : List Int} (hC : ClsOk D cls) {a b : Int} : noteB cls a = noteB cls b ↔ cls.getD a.toNat 0 = cls.getD b.toNat 0 := by
  have nn : ∀ i : Nat, 0 ≤ cls.getD i 0 := fun i => by
    by_cases h : i < cls.length
    · exact (hC.bd _ (getD_in (a := (0 : Int)) h)).1
    · rw [List.getD_eq_getElem?_getD, List.getElem?_eq_none (by omega)]; decide
  constructor
  · intro h
    have h1 : (cls.getD a.toNat 0).toNat = (cls.getD b.toNat 0).toNat := by
      have := congrArg (fun l : List Nat => l.getD 1 0) h
      simpa [noteB] using this
    have h2 := nn a.toNat
    have h3 := nn b.toNat
    omega
  · intro h; unfold noteB; rw [h]

theorem key_iff {D : Da} {cls : List Int} (hC : ClsOk D cls) {s t : Nat} : keyR D cls s = keyR D cls t ↔ D.fin.getD s false = D.fin.getD t false ∧ cls.getD s 0 = cls.getD t 0 ∧
    ∀ q, q < D.next.length → ∀ x, x < two D.vars → cls.getD (nt D s q x) 0 = cls.getD (nt D t q x) 0 ∧ cls.getD (nt D q s x) 0 = cls.getD (nt D q t x) 0 := by
  constructor
  · intro h
    have hl := congrArg List.length h
    rw [key_len, key_len] at hl
    have hf : D.fin.getD s false = D.fin.getD t false := by
      revert hl
      cases D.fin.getD s false <;> cases D.fin.getD t false <;> simp [fbB] <;> omega
    unfold keyR at h
    obtain ⟨h1, h2⟩ := List.append_inj h (by rw [List.length_append, List.length_append, hf]; rfl)
    obtain ⟨h3, h4⟩ := List.append_inj h1 (by rw [hf])
    have h5 := (note_iff hC).1 h4
    refine ⟨hf, by simpa using h5, fun q hq x hx => ?_⟩
    unfold ntA at h2
    have h6 := flat_inj (fun i => by rw [ntQ_len, ntQ_len]) _ _ h2 q (by omega) (by omega)
    unfold ntQ at h6
    have h7 := flat_inj (fun i => by rw [ntX_len, ntX_len]) _ _ h6 x (by omega) (by omega)
    unfold ntX at h7
    obtain ⟨h8, h9⟩ := List.append_inj h7 rfl
    exact ⟨(note_iff hC).1 h8, (note_iff hC).1 h9⟩
  · rintro ⟨h1, h2, h3⟩
    unfold keyR
    have e1 : noteB cls (s : Int) = noteB cls (t : Int) := (note_iff hC).2 (by simpa using h2)
    rw [h1, e1]
    congr 1
    unfold ntA
    refine flat_cong _ _ fun q _ hq => ?_
    unfold ntQ
    refine flat_cong _ _ fun x _ hx => ?_
    unfold ntX
    obtain ⟨h4, h5⟩ := h3 q (by omega) x (by omega)
    rw [(note_iff hC).2 h4, (note_iff hC).2 h5]

/-- a congruence -/
structure Cong (D : Da) (E : Nat → Nat → Prop) : Prop where
  fin : ∀ s t, s < D.next.length → t < D.next.length → E s t → D.fin.getD s false = D.fin.getD t false
  l : ∀ s t q x, s < D.next.length → t < D.next.length → q < D.next.length → x < two D.vars → E s t → E (nt D s q x) (nt D t q x)
  r : ∀ s t q x, s < D.next.length → t < D.next.length → q < D.next.length → x < two D.vars → E s t → E (nt D q s x) (nt D q t x)

/-- what classes returns -/
structure Stab (D : Da) (c : List Int) (m : Nat) : Prop where
  num : ∃ key, c = nums (numK key 0 D.next.length []).1 ∧ m = (numK key 0 D.next.length []).2.length
  cong : Cong D (fun s t => c.getD s 0 = c.getD t 0)
  big : ∀ E, Cong D E → ∀ s t, s < D.next.length → t < D.next.length → E s t → c.getD s 0 = c.getD t 0

theorem nums_get {l : List Nat} {i : Nat} : (nums l).getD i 0 = ((l.getD i 0 : Nat) : Int) := by
  unfold nums
  simp only [List.getD_eq_getElem?_getD, List.getElem?_map]
  cases l[i]? <;> rfl

structure Inv (D : Da) (cls : List Int) (m : Nat) : Prop where
  ok : ClsOk D cls
  big : ∀ E, Cong D E → ∀ s t, s < D.next.length → t < D.next.length → E s t → cls.getD s 0 = cls.getD t 0
  le : m ≤ D.next.length
  num : m = 0 ∨ ∃ key, cls = nums (numK key 0 D.next.length []).1 ∧ m = (numK key 0 D.next.length []).2.length

theorem inv_step {D : Da} {cls : List Int} {m : Nat} (hV : Va D) (h : Inv D cls m) :
    Inv D (nums (numR D cls).1) (numR D cls).2.length ∧ m ≤ (numR D cls).2.length ∧ ((numR D cls).2.length = m → Stab D (nums (numR D cls).1) m) := by
  have n64 := hV.n64
  have n0 := hV.n0
  have ok : NumOk (keyR D cls) D.next.length (numR D cls) := numK_ok (keyR D cls) D.next.length
  have hbig : ∀ E, Cong D E → ∀ s t, s < D.next.length → t < D.next.length → E s t → (nums (numR D cls).1).getD s 0 = (nums (numR D cls).1).getD t 0 := fun E hE s t hs ht hst => by
    rw [nums_get, nums_get, (ok.same hs ht).2 ((key_iff h.ok).2 ⟨hE.fin s t hs ht hst, h.big E hE s t hs ht hst, fun q hq x hx =>
      ⟨h.big E hE _ _ (nt_bd hV hs hq hx) (nt_bd hV ht hq hx) (hE.l s t q x hs ht hq hx hst), h.big E hE _ _ (nt_bd hV hq hs hx) (nt_bd hV hq ht hx) (hE.r s t q x hs ht hq hx hst)⟩⟩)]
  have hle := ok.le
  refine ⟨⟨⟨by unfold nums; rw [List.length_map]; exact ok.len, fun c hc => ?_⟩, hbig, hle, .inr ⟨_, rfl, rfl⟩⟩, ?_⟩
  · obtain ⟨i, hi, rfl⟩ := List.getElem_of_mem hc
    have hi' : i < D.next.length := by unfold nums at hi; rw [List.length_map, ok.len] at hi; exact hi
    have h1 := ok.lt hi'
    have h2 : (nums (numR D cls).1)[i] = (((numR D cls).1.getD i 0 : Nat) : Int) := by
      rw [← nums_get, List.getD_eq_getElem?_getD, List.getElem?_eq_getElem hi]; rfl
    rw [h2]; omega
  · rcases h.num with q | ⟨key, q1, q2⟩
    · have h1 := ok.lt n0
      exact ⟨by omega, fun e => by omega⟩
    · have ok0 := numK_ok key D.next.length
      have hf : ∀ s t, s < D.next.length → t < D.next.length → keyR D cls s = keyR D cls t → (numK key 0 D.next.length []).1.getD s 0 = (numK key 0 D.next.length []).1.getD t 0 := fun s t hs ht e => by
        have := ((key_iff h.ok).1 e).2.1
        rw [q1, nums_get, nums_get] at this
        omega
      obtain ⟨f1, f2⟩ := finer ok0 ok hf
      refine ⟨by omega, fun e => ⟨⟨_, rfl, e.symm⟩, ?_, hbig⟩⟩
      have f3 := f2 (by omega)
      have up : ∀ s t, s < D.next.length → t < D.next.length → cls.getD s 0 = cls.getD t 0 → (nums (numR D cls).1).getD s 0 = (nums (numR D cls).1).getD t 0 := fun s t hs ht e => by
        rw [q1, nums_get, nums_get] at e
        rw [nums_get, nums_get, f3 s t hs ht (by omega)]
      have dn : ∀ s t, s < D.next.length → t < D.next.length → (nums (numR D cls).1).getD s 0 = (nums (numR D cls).1).getD t 0 → keyR D cls s = keyR D cls t := fun s t hs ht e => by
        rw [nums_get, nums_get] at e
        exact (ok.same hs ht).1 (by omega)
      exact ⟨fun s t hs ht e => ((key_iff h.ok).1 (dn s t hs ht e)).1,
        fun s t q x hs ht hq hx e => up _ _ (nt_bd hV hs hq hx) (nt_bd hV ht hq hx) (((key_iff h.ok).1 (dn s t hs ht e)).2.2 q hq x hx).1,
        fun s t q x hs ht hq hx e => up _ _ (nt_bd hV hq hs hx) (nt_bd hV hq ht hx) (((key_iff h.ok).1 (dn s t hs ht e)).2.2 q hq x hx).2⟩

theorem cls_loop {D : Da} (hV : Va D) : ∀ k cls (m : Nat) G, D.next.length - m ≤ k → Inv D cls m → ClsB D cls G →
    ∃ c m' b, ∃ G' : Heap, L.loop a60l3s a60l3 ⟨a60l3F (.ptr 0 0) (.ptr 1 0) (.int .i64 (m : Nat)), G⟩ = some (.ret, ⟨a60l3F (.ptr 0 0) (.ptr 1 0) (.int .i64 (m' : Nat)), G'⟩) ∧ Stab D c m' ∧
      G'[1]? = some (.cells false false [.own false b 0 D.next.length 1]) ∧ G'[b]? = some (.cells false false (ints c)) ∧ 1 < b := by
  intro k
  induction k with
  | zero =>
    intro cls m G hk hI hB
    obtain ⟨i1, i2, i3⟩ := inv_step hV hI
    have hle := i1.le
    have hle2 := hI.le
    have hlen := hB.base [.dead, .dead] (by simp)
    obtain ⟨G', r1, r2, r3, r4, r5⟩ := round_cls (many := (m : Int)) hV hI.ok hB
    have hc : (((numR D cls).2.length : Nat) : Int) = (m : Int) := by omega
    rw [if_pos hc] at r5
    have hG1 := (List.getElem?_eq_some_iff.1 hB.b1.choose_spec.1).1
    exact ⟨_, m, _, _, r5, i3 (by omega), List.getElem?_set_self (by omega), by rw [List.getElem?_set_ne (by omega)]; exact r4, by omega⟩
  | succ k ih =>
    intro cls m G hk hI hB
    obtain ⟨i1, i2, i3⟩ := inv_step hV hI
    have hle := i1.le
    have hle2 := hI.le
    obtain ⟨G', r1, r2, r3, r4, r5⟩ := round_cls (many := (m : Int)) hV hI.ok hB
    have hG1 := (List.getElem?_eq_some_iff.1 hB.b1.choose_spec.1).1
    have s1 : ∀ X : Blk, (G'.set 1 X)[1]? = some X := fun X => List.getElem?_set_self (by omega)
    have s2 : ∀ X : Blk, (G'.set 1 X)[G.length + 1]? = some (.cells false false (ints (nums (numR D cls).1))) := fun X => by rw [List.getElem?_set_ne (by omega)]; exact r4
    by_cases hc : (((numR D cls).2.length : Nat) : Int) = (m : Int)
    · rw [if_pos hc] at r5
      exact ⟨_, m, _, _, r5, i3 (by omega), s1 _, s2 _, by omega⟩
    · rw [if_neg hc] at r5
      rw [r5]
      refine ih _ _ _ (by omega) i1 ⟨by rw [List.getElem?_set_ne (by omega)]; exact r1, G.length + 1, ?_, s2 _⟩
      rw [i1.ok.len]; exact s1 _

theorem inv_zero {D : Da} : Inv D (List.replicate D.next.length 0) 0 := by
  have g : ∀ i, (List.replicate D.next.length (0 : Int)).getD i 0 = 0 := fun i => by
    by_cases h : i < D.next.length
    · rw [List.getD_eq_getElem?_getD, List.getElem?_eq_getElem (by simpa using h)]; simp
    · rw [List.getD_eq_getElem?_getD, List.getElem?_eq_none (by simp; omega)]; rfl
  exact ⟨⟨by simp, fun c hc => by rw [(List.mem_replicate.1 hc).2]; omega⟩, fun E hE s t hs ht hst => by rw [g, g], Nat.zero_le _, .inl rfl⟩

theorem classes60 {D : Da} (hV : Va D) : ∃ c m, Stab D c m ∧ L.pcall 60 [D.av] = some (.tup [.sl false D.next.length (ints c), .int .i64 (m : Nat)]) := by
  have n64 := hV.n64
  have hB : ClsB D (List.replicate D.next.length 0) [.cells false false D.cells, .cells false false [.own false 2 0 D.next.length 1], .cells false false (ints (List.replicate D.next.length 0))] :=
    ⟨rfl, 2, by rw [List.length_replicate]; rfl, rfl⟩
  obtain ⟨c, m, b, G', h1, h2, h3, h4, h5⟩ := cls_loop hV _ _ 0 _ (Nat.le_refl _) inv_zero hB
  refine ⟨c, m, h2, ?_⟩
  have hcl : c.length = D.next.length := by
    obtain ⟨key, e, _⟩ := h2.num
    rw [e]; unfold nums; rw [List.length_map]; exact (numK_ok key _).len
  have htk : List.take D.next.length c = c := List.take_of_length_le (by omega)
  simp only [Int.natCast_zero] at h1
  unfold Da.cells at h1
  unfold Da.av Da.cells
  rw [a60p, a60, pbodyA_eq]
  simp (maxSteps := 30000000) (disch := first | assumption | omega | (simp only [List.length_cons, List.length_nil, List.length_append, List.length_set, List.length_replicate, List.length_map, List.length_range, List.length_take, List.length_drop, List.all_cons, List.all_nil, AV.isCell, Bool.and_self, Bool.and_true, bs_length, is64_length, w64_length, ints_length, ints_length, bools_len, List.length_map] <;> omega) | rfl | decide) only [bodyA_eq, List.length_cons, List.length_nil, Nat.zero_add, Nat.reduceSub, pads, List.cons_append, List.nil_append, run_seq, run_region, runOps_cons, oper_none, ex_box, AV.cells, opv, List.getD_cons_zero, List.all_cons, AV.isCell, List.all_nil, Bool.and_self, ↓reduceIte, putK_to, List.set_cons_succ, List.set_cons_zero, opsK_some, ex_mov, runOps_nil, regK_some, seqK_normal, ex_faddr, List.getD_cons_succ, faddrA_ptr, valK_some, ex_load, rd_ptr, List.getElem?_cons_zero, rdK_cells, List.drop_succ_cons, List.drop_zero, List.take_succ_cons, List.take_zero, loadK_1, ex_len, lenA_sl, ex_mkslice, mksK_int, Int.toNat_natCast, repz_ints, newA_own, Nat.reduceAdd, ex_store, wr_ptr, List.getElem?_cons_succ, wrK_cells, splice, List.drop_nil, List.append_nil, storeK_some, putK_no, run_block, run_loop, a60l3c, h1, blockK_ret, bodyK_ret, results_2, resL_cons, res_cell, h3, List.take_nil, cellK_some, mkv_1, resK_some, res_tmp, resL_nil, Option.map_some, retvK_some, pbodyK_some, frzN, frz_tup, List.mapM_cons, frz_own, h4, frzK_cells, Nat.mul_one, ints_take, htk, frz_ints, slK_some, frz_int, List.mapM_nil, Option.pure_def, Option.bind_eq_bind, Option.bind_some]
end Go.Abs.Det
