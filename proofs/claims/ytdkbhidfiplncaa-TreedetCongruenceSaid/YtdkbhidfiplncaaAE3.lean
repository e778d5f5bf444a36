/- classes: the whole row of a state. -/
import Derived.Test.YtdkbhidfiplncaaAE2
import Derived.Test.YtdkbhidfiplncaaAbsWalk2
namespace Go.Abs.Det
open Go Go.Abs
set_option linter.unusedSimpArgs false
set_option linter.unusedVariables false

def ntA (D : Da) (cls : List Int) (s i e : Nat) : List Nat := (List.range' i e).flatMap fun q => ntQ D cls s q 0 (two D.vars)
theorem ntA_len (D : Da) (cls : List Int) (s : Nat) : ∀ e i, (ntA D cls s i e).length = 4 * two D.vars * e
  | 0, _ => rfl
  | e + 1, i => by
    unfold ntA
    rw [List.range'_succ, List.flatMap_cons, List.length_append, ntQ_len]
    have := ntA_len D cls s e (i + 1)
    unfold ntA at this
    rw [this, Nat.mul_add]; omega

section
variable {D : Da} {cls : List Int} {p B s : Nat} {s3 s4 s5 s22 s23 : AV}

theorem notes_q (hV : Va D) (hC : ClsOk D cls) (hs : s < D.next.length) (hp : B ≤ p) : ∀ e i G row, i + e = D.next.length → Base D cls G B → RowB G B p row → row.length + 4 * two D.vars * e < 1073741824 →
    ∃ G', L.loop a60l1s a60l1 ⟨a60l1F (.ptr 0 0) (.ptr 1 0) s3 s4 s5 (.int .i64 (s : Nat)) (.ptr p 0) (.func 106 [.ptr p 0, .ptr 1 0]) s22 s23 (.int .i64 (D.next.length : Nat)) (.int .i64 (i : Nat)), G⟩ =
      some (.exit 4, ⟨a60l1F (.ptr 0 0) (.ptr 1 0) s3 s4 s5 (.int .i64 (s : Nat)) (.ptr p 0) (.func 106 [.ptr p 0, .ptr 1 0]) s22 s23 (.int .i64 (D.next.length : Nat)) (.int .i64 (D.next.length : Nat)), G'⟩) ∧
      RowB G' B p (row ++ ntA D cls s i e) ∧ (∀ b, b < B → G'[b]? = G[b]?) ∧ G.length ≤ G'.length := by
  intro e
  induction e with
  | zero =>
    intro i G row h hB hR _
    obtain rfl : i = D.next.length := by omega
    have n64 := hV.n64
    refine ⟨G, ?_, by simpa [ntA] using hR, fun _ _ => rfl, Nat.le_refl _⟩
    rw [a60l1n]
    simp (maxSteps := 30000000) (disch := first | assumption | omega | (simp only [List.length_cons, List.length_nil, List.length_append, List.length_set, List.length_replicate, List.length_map, List.length_range, List.length_take, List.length_drop, List.all_cons, List.all_nil, AV.isCell, Bool.and_self, Bool.and_true, bs_length, is64_length, w64_length, ints_length, ints_length, bools_len, List.length_map] <;> omega) | rfl | decide) only [a60l1b, run_seq, run_region, runOps_cons, oper_none, ex_bin, opv, List.getD_cons_succ, List.getD_cons_zero, bin_lss, Int.lt_irrefl, decide_false, valK_some, putK_to, List.set_cons_succ, List.set_cons_zero, opsK_some, runOps_nil, regK_some, seqK_normal, run_cond, condK_bool, Bool.false_eq_true, ↓reduceIte, run_exit, seqK_exit, loopK_exit, a60l1c]
  | succ e ih =>
    intro i G row h hB hR hl
    have n64 := hV.n64
    have h8 := (two_bd hV.v3).1
    have hlt : (i : Int) < (D.next.length : Nat) := by omega
    have g1 := getD_in (a := ([] : List (List Int))) hs
    have g2 := hV.rl _ g1
    have g3 := getD_in (a := ([] : List Int)) (show i < (D.next.getD s []).length by omega)
    have g4 := hV.cl _ g1 _ g3
    have hmul : 4 * two D.vars * (e + 1) = 4 * two D.vars * e + 4 * two D.vars := by rw [Nat.mul_add, Nat.mul_one]
    obtain ⟨G1, n1, n2, n3, n4⟩ := notes_x (s3 := s3) (s4 := s4) (s5 := s5) (s22 := s22) (s23 := s23) (s38 := .int .i64 (D.next.length : Nat)) (s39 := .int .i64 (i : Nat)) hV hC hs (q := i) (by omega) hp (two D.vars) 0 G row (by omega) hB hR (by omega)
    have hB1 := hB.step n3 n4
    obtain ⟨G', f1, f2, f3, f4⟩ := ih (i + 1) G1 (row ++ ntQ D cls s i 0 (two D.vars)) (by omega) hB1 n2 (by rw [List.length_append, ntQ_len]; omega)
    refine ⟨G', ?_, ?_, fun b hb => by rw [f3 b hb, n3 b hb], by omega⟩
    · have h0 := hB.b0
      unfold Da.cells at h0
      simp only [Int.natCast_zero] at n1
      rw [a60l1n]
      simp (maxSteps := 30000000) (disch := first | assumption | omega | (simp only [List.length_cons, List.length_nil, List.length_append, List.length_set, List.length_replicate, List.length_map, List.length_range, List.length_take, List.length_drop, List.all_cons, List.all_nil, AV.isCell, Bool.and_self, Bool.and_true, bs_length, is64_length, w64_length, ints_length, ints_length, bools_len, List.length_map] <;> omega) | rfl | decide) only [a60l1b, run_seq, run_region, runOps_cons, oper_none, ex_bin, opv, List.getD_cons_succ, List.getD_cons_zero, bin_lss, hlt, decide_true, valK_some, putK_to, List.set_cons_succ, List.set_cons_zero, opsK_some, runOps_nil, regK_some, seqK_normal, run_cond, condK_bool, ↓reduceIte, run_skip, run_block, ex_mov, ex_faddr, faddrA_ptr, Nat.zero_add, ex_load, rd_ptr, h0, rdK_cells, List.drop_succ_cons, List.drop_zero, List.take_succ_cons, List.take_zero, loadK_1, ex_iaddr, iaddrA_sl, Int.toNat_natCast, Nat.mul_one, rd_vptr, rows_at, rowsD, g2, row_at, rowT, g4, ex_len, lenA_sl, run_loop, a60l0c, n1, blockK_exit, blockK_normal, bin_add, cadd1, wr64, loopK_normal, a60l1c, f1]
    · rw [List.append_assoc] at f2
      have : ntA D cls s i (e + 1) = ntQ D cls s i 0 (two D.vars) ++ ntA D cls s (i + 1) e := by
        unfold ntA; rw [List.range'_succ, List.flatMap_cons]
      rw [this]; exact f2
end

def fbB (b : Bool) : List Nat := if b then [116, 114, 117, 101] else [102, 97, 108, 115, 101]
def fbS (b : Bool) : ByteArray := if b then ⟨#[116, 114, 117, 101]⟩ else ⟨#[102, 97, 108, 115, 101]⟩
theorem fb121 (b : Bool) : L.pcall 121 [.bool b] = some (.str (fbS b)) := by
  cases b <;> rw [a121p, a121, pbodyA_eq]
  · simp (maxSteps := 30000000) (disch := first | assumption | omega | (simp only [List.length_cons, List.length_nil, List.length_append, List.length_set, List.length_replicate, List.length_map, List.length_range, List.length_take, List.length_drop, List.all_cons, List.all_nil, AV.isCell, Bool.and_self, Bool.and_true, bs_length, is64_length, w64_length, ints_length, ints_length, bools_len, List.length_map] <;> omega) | rfl | decide) only [bodyA_eq, List.length_cons, List.length_nil, Nat.zero_add, Nat.reduceSub, pads, List.cons_append, List.nil_append, run_seq, run_region, runOps_cons, oper_none, ex_mov, opv, putK_to, List.set_cons_succ, List.set_cons_zero, opsK_some, runOps_nil, regK_some, seqK_normal, List.getD_cons_zero, run_cond, List.getD_cons_succ, condK_bool, Bool.false_eq_true, ↓reduceIte, run_skip, run_ret, bodyK_ret, results_1, res_tmp, retvK_some, pbodyK_some, frzN, frz_str]
    rfl
  · simp (maxSteps := 30000000) (disch := first | assumption | omega | (simp only [List.length_cons, List.length_nil, List.length_append, List.length_set, List.length_replicate, List.length_map, List.length_range, List.length_take, List.length_drop, List.all_cons, List.all_nil, AV.isCell, Bool.and_self, Bool.and_true, bs_length, is64_length, w64_length, ints_length, ints_length, bools_len, List.length_map] <;> omega) | rfl | decide) only [bodyA_eq, List.length_cons, List.length_nil, Nat.zero_add, Nat.reduceSub, pads, List.cons_append, List.nil_append, run_seq, run_region, runOps_cons, oper_none, ex_mov, opv, putK_to, List.set_cons_succ, List.set_cons_zero, opsK_some, runOps_nil, regK_some, seqK_normal, List.getD_cons_zero, run_cond, List.getD_cons_succ, condK_bool, ↓reduceIte, run_ret, seqK_ret, bodyK_ret, results_1, res_tmp, retvK_some, pbodyK_some, frzN, frz_str]
    rfl
theorem fb105 (b : Bool) : L.pcall 105 [.bool b] = some (.str (fbS b)) := by
  have h := fb121 b
  rw [a105p, a105, pbodyA_eq]
  simp (maxSteps := 30000000) (disch := first | assumption | omega | (simp only [List.length_cons, List.length_nil, List.length_append, List.length_set, List.length_replicate, List.length_map, List.length_range, List.length_take, List.length_drop, List.all_cons, List.all_nil, AV.isCell, Bool.and_self, Bool.and_true, bs_length, is64_length, w64_length, ints_length, ints_length, bools_len, List.length_map] <;> omega) | rfl | decide) only [bodyA_eq, List.length_cons, List.length_nil, Nat.zero_add, Nat.reduceSub, pads, List.cons_append, List.nil_append, run_seq, run_region, runOps_cons, oper_none, ex_mov, opv, putK_to, List.set_cons_succ, List.set_cons_zero, opsK_some, runOps_nil, regK_some, seqK_normal, List.getD_cons_zero, ex_call, List.map_cons, List.getD_cons_succ, List.map_nil, pcallA_eq, frzN, List.mapM_cons, frz_bool, List.mapM_nil, Option.pure_def, Option.bind_eq_bind, Option.bind_some, argK_some, h, retK_some, scal, scal1, ↓reduceIte, run_ret, bodyK_ret, results_1, res_tmp, retvK_some, pbodyK_some, frz_str]
theorem fb_cells (b : Bool) : cellsOfStr (fbS b) = bs (fbB b) ∧ (fbS b).size = (fbB b).length := by cases b <;> exact ⟨rfl, rfl⟩

/-- what tells a state from others -/
def keyR (D : Da) (cls : List Int) (s : Nat) : List Nat := fbB (D.fin.getD s false) ++ noteB cls s ++ ntA D cls s 0 D.next.length
end Go.Abs.Det
