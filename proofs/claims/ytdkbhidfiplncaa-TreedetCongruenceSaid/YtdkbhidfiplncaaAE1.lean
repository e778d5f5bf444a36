/- classes: the row of a state, as bytes. -/
import Derived.Test.YtdkbhidfiplncaaAD13
namespace Go.Abs.Det
open Go Go.Abs
set_option linter.unusedSimpArgs false
set_option linter.unusedVariables false

theorem u8sOf_bs : ∀ l : List Nat, u8sOf (bs l) = some (l.map UInt8.ofNat)
  | [] => rfl
  | n :: l => by
    show (u8sOf (bs l)).map (UInt8.ofNat ((n : Nat) : Int).toNat :: ·) = _
    rw [u8sOf_bs l]; rfl

/-- a row of bytes as a key -/
def strK (l : List Nat) : AV := .str ⟨⟨l.map UInt8.ofNat⟩⟩
theorem strK_eq {a b : List Nat} (ha : ∀ x ∈ a, x < 256) (hb : ∀ x ∈ b, x < 256) : eqKey (strK a) (strK b) = some (decide (a = b)) := by
  have inj : ∀ {a b : List Nat}, (∀ x ∈ a, x < 256) → (∀ x ∈ b, x < 256) → a.map UInt8.ofNat = b.map UInt8.ofNat → a = b := by
    intro a
    induction a with
    | nil => intro b _ _ h; cases b with | nil => rfl | cons => simp at h
    | cons x a ih =>
      intro b ha hb h
      cases b with
      | nil => simp at h
      | cons y b =>
        simp only [List.map_cons, List.cons.injEq] at h
        have h1 : x = y := by
          have := congrArg UInt8.toNat h.1
          have hx := ha x (by simp)
          have hy := hb y (by simp)
          simp only [UInt8.toNat_ofNat'] at this
          omega
        rw [h1, ih (fun z hz => ha z (by simp [hz])) (fun z hz => hb z (by simp [hz])) h.2]
  show some ((a.map UInt8.ofNat) == (b.map UInt8.ofNat)) = _
  congr 1
  rw [Bool.eq_iff_iff, beq_iff_eq, decide_eq_true_eq]
  exact ⟨inj ha hb, fun e => by rw [e]⟩

/-- the numbers' bytes -/
def noteB (cls : List Int) (t : Int) : List Nat := [32, (cls.getD t.toNat 0).toNat]

theorem note106 {G : Heap} {p q rb cb : Nat} {row : List Nat} {cls : List Int} {t : Int} (hp : G[p]? = some (.cells false false [.own false rb 0 row.length 1])) (hr : G[rb]? = some (.cells false false (bs row)))
    (hq : G[q]? = some (.cells false false [.own false cb 0 cls.length 1])) (hc : G[cb]? = some (.cells false false (ints cls))) (ht : 0 ≤ t ∧ t < cls.length) (hcl : cls.length ≤ 64) (hb : ∀ c ∈ cls, 0 ≤ c ∧ c < 64) (hl : row.length < 1073741824) (hpr : p ≠ rb) (hpl : p < G.length) :
    ∃ G', L.icall (.func 106 [.ptr p 0, .ptr q 0]) [.int .i64 t] G = some (.tup [], G') ∧ G' = (G.set rb .dead ++ [Blk.cells false false (bs (row ++ noteB cls t))]).set p (.cells false false [.own false G.length 0 (row ++ noteB cls t).length 1]) := by
  refine ⟨_, ?_, rfl⟩
  have hm := hb _ (getD_in (a := (0 : Int)) (show t.toNat < cls.length by omega))
  have hw : IntKind.u8.wrap (cls.getD t.toNat 0) = ((cls.getD t.toNat 0).toNat : Nat) := by
    have e : IntKind.u8.wrap (cls.getD t.toNat 0) = cls.getD t.toNat 0 := by
      unfold IntKind.wrap
      show (if _ then _ else _) = _
      have h1 : (cls.getD t.toNat 0) % (2 ^ IntKind.u8.bits : Int) = cls.getD t.toNat 0 := Int.emod_eq_of_lt hm.1 (by show _ < (2 : Int) ^ 8; omega)
      rw [h1]; rfl
    rw [e, Int.toNat_of_nonneg hm.1]
  have hg : List.take 1 (List.drop t.toNat (ints cls)) = [.int .i64 (cls.getD t.toNat 0)] := map_at1 _ _ (by omega)
  have htk : List.take row.length (bs row) = bs row := List.take_of_length_le (by rw [bs_length]; exact Nat.le_refl _)
  have hn : bs row ++ [AV.int .u8 32, AV.int .u8 ((cls.getD t.toNat 0).toNat : Nat)] = bs (row ++ noteB cls t) := by
    unfold noteB; simp [bs]
  have hln : (row ++ noteB cls t).length = row.length + 2 := by simp [noteB]
  have hp2 : ∀ T : Heap, (G.set rb .dead ++ T)[p]? = some (.cells false false [.own false rb 0 row.length 1]) := fun T => app_get (by rw [List.getElem?_set_ne (Ne.symm hpr)]; exact hp)
  rw [hln, a106i, a106]
  simp (maxSteps := 30000000) (disch := first | assumption | omega | (simp only [List.length_cons, List.length_nil, List.length_append, List.length_set, List.length_replicate, List.length_map, List.length_range, List.length_take, List.length_drop, List.all_cons, List.all_nil, AV.isCell, Bool.and_self, Bool.and_true, bs_length, is64_length, w64_length, ints_length, ints_length, bools_len, List.length_map] <;> omega) | rfl | decide) only [List.cons_append, List.nil_append, bodyA_eq, List.length_cons, List.length_nil, Nat.zero_add, Nat.reduceAdd, Nat.reduceSub, pads, run_draw, List.take_succ_cons, List.take_zero, runFree_cons, foper_none, fe_load, ex_load, opv, List.getD_cons_succ, List.getD_cons_zero, rd_ptr, hp, rdK_cells, List.drop_zero, List.take_nil, loadK_1, valK_some, fstK_some, fputK_to, List.set_cons_succ, List.set_cons_zero, freeK_some, hq, runFree_nil, drawK_some, List.drop_succ_cons, adopt, adoptVal, runOps_cons, oper_none, ex_mov, putK_to, opsK_some, ex_iaddr, iaddrA_own, Nat.mul_one, hc, ints_drop, ints_take, ints_at0, getD_dropI, Nat.add_zero, ex_conv, convA_int, hw, ex_bslice, AV.cells, List.all_cons, beq_self_eq_true, List.all_nil, Bool.and_self, ↓reduceIte, repz_2, List.append_nil, List.map_cons, List.map_nil, fillA, Nat.reduceLeDiff, AV.isCell, and_self, splice, Nat.le_refl, List.drop_nil, newK_some, newA_data, frzN, List.flatMap_cons, bor_int, List.flatMap_nil, List.isEmpty_nil, List.mapM_cons, frz_int, List.mapM_nil, Option.pure_def, Option.bind_eq_bind, Option.bind_some, slK_some, ex_append, src_sl, appK_own, hr, appOK_cells, Nat.reduceBEq, htk, hn, ex_store, wr_ptr, hp2, wrK_cells, storeK_some, putK_no, runOps_nil, regK_some, bodyK_normal, results_0, retvK_some]
end Go.Abs.Det
