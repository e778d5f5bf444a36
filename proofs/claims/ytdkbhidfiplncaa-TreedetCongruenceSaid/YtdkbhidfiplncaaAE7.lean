/- classes: when two rows are one; the loop ends. -/
import Derived.Test.YtdkbhidfiplncaaAE6
namespace Go.Abs.Det
open Go Go.Abs
set_option linter.unusedSimpArgs false
set_option linter.unusedVariables false

/-- the successor as a place -/
def nt (D : Da) (s q x : Nat) : Nat := (nx D s q x).toNat
theorem nt_bd {D : Da} (hV : Va D) {s q x : Nat} (hs : s < D.next.length) (hq : q < D.next.length) (hx : x < two D.vars) : nt D s q x < D.next.length := by
  have := nx_bd hV (a := s) (b := q) (x := x) (by omega) (by omega) hx
  unfold nt; omega

theorem flat_inj {f g : Nat → List Nat} (hl : ∀ i, (f i).length = (g i).length) : ∀ e i, (List.range' i e).flatMap f = (List.range' i e).flatMap g → ∀ j, i ≤ j → j < i + e → f j = g j
  | 0, i, _, j, h1, h2 => by omega
  | e + 1, i, h, j, h1, h2 => by
    rw [List.range'_succ, List.flatMap_cons, List.flatMap_cons] at h
    obtain ⟨a, b⟩ := List.append_inj h (hl i)
    rcases Nat.eq_or_lt_of_le h1 with q | q
    · rw [← q]; exact a
    · exact flat_inj hl e (i + 1) b j q (by omega)
theorem flat_cong {f g : Nat → List Nat} : ∀ e i, (∀ j, i ≤ j → j < i + e → f j = g j) → (List.range' i e).flatMap f = (List.range' i e).flatMap g
  | 0, i, _ => rfl
  | e + 1, i, h => by
    rw [List.range'_succ, List.flatMap_cons, List.flatMap_cons, h i (by omega) (by omega), flat_cong e (i + 1) (fun j h1 h2 => h j (by omega) (by omega))]

theorem note_iff {D : Da} {cls : List Int} (hC : ClsOk D cls) {a b : Int} : noteB cls a = noteB cls b ↔ cls.getD a.toNat 0 = cls.getD b.toNat 0 := by
  have nn : ∀ i : Nat, 0 ≤ cls.getD i 0 := fun i => by
    by_cases h : i < cls.length
    · exact (hC.bd _ (getD_in (a := (0 : Int)) h)).1
    · rw [List.getD_eq_getElem?_getD, List.getElem?_eq_none (by omega)]; decide
  constructor
  · intro h
    have h1 : (cls.getD a.toNat 0).toNat = (cls.getD b.toNat 0).toNat := by
      have := congrArg (fun l : List Nat => l.getD 1 0) h
      simpa [noteB] using this
    have h2 := nn a.toNat
    have h3 := nn b.toNat
    omega
  · intro h; unfold noteB; rw [h]

theorem key_iff {D : Da} {cls : List Int} (hC : ClsOk D cls) {s t : Nat} : keyR D cls s = keyR D cls t ↔ D.fin.getD s false = D.fin.getD t false ∧ cls.getD s 0 = cls.getD t 0 ∧
    ∀ q, q < D.next.length → ∀ x, x < two D.vars → cls.getD (nt D s q x) 0 = cls.getD (nt D t q x) 0 ∧ cls.getD (nt D q s x) 0 = cls.getD (nt D q t x) 0 := by
  constructor
  · intro h
    have hl := congrArg List.length h
    rw [key_len, key_len] at hl
    have hf : D.fin.getD s false = D.fin.getD t false := by
      revert hl
      cases D.fin.getD s false <;> cases D.fin.getD t false <;> simp [fbB] <;> omega
    unfold keyR at h
    obtain ⟨h1, h2⟩ := List.append_inj h (by rw [List.length_append, List.length_append, hf]; rfl)
    obtain ⟨h3, h4⟩ := List.append_inj h1 (by rw [hf])
    have h5 := (note_iff hC).1 h4
    refine ⟨hf, by simpa using h5, fun q hq x hx => ?_⟩
    unfold ntA at h2
    have h6 := flat_inj (fun i => by rw [ntQ_len, ntQ_len]) _ _ h2 q (by omega) (by omega)
    unfold ntQ at h6
    have h7 := flat_inj (fun i => by rw [ntX_len, ntX_len]) _ _ h6 x (by omega) (by omega)
    unfold ntX at h7
    obtain ⟨h8, h9⟩ := List.append_inj h7 rfl
    exact ⟨(note_iff hC).1 h8, (note_iff hC).1 h9⟩
  · rintro ⟨h1, h2, h3⟩
    unfold keyR
    have e1 : noteB cls (s : Int) = noteB cls (t : Int) := (note_iff hC).2 (by simpa using h2)
    rw [h1, e1]
    congr 1
    unfold ntA
    refine flat_cong _ _ fun q _ hq => ?_
    unfold ntQ
    refine flat_cong _ _ fun x _ hx => ?_
    unfold ntX
    obtain ⟨h4, h5⟩ := h3 q (by omega) x (by omega)
    rw [(note_iff hC).2 h4, (note_iff hC).2 h5]

/-- a congruence -/
structure Cong (D : Da) (E : Nat → Nat → Prop) : Prop where
  fin : ∀ s t, s < D.next.length → t < D.next.length → E s t → D.fin.getD s false = D.fin.getD t false
  l : ∀ s t q x, s < D.next.length → t < D.next.length → q < D.next.length → x < two D.vars → E s t → E (nt D s q x) (nt D t q x)
  r : ∀ s t q x, s < D.next.length → t < D.next.length → q < D.next.length → x < two D.vars → E s t → E (nt D q s x) (nt D q t x)

/-- what classes returns -/
structure Stab (D : Da) (c : List Int) (m : Nat) : Prop where
  num : ∃ key, c = nums (numK key 0 D.next.length []).1 ∧ m = (numK key 0 D.next.length []).2.length
  cong : Cong D (fun s t => c.getD s 0 = c.getD t 0)
  big : ∀ E, Cong D E → ∀ s t, s < D.next.length → t < D.next.length → E s t → c.getD s 0 = c.getD t 0

theorem nums_get {l : List Nat} {i : Nat} : (nums l).getD i 0 = ((l.getD i 0 : Nat) : Int) := by
  unfold nums
  simp only [List.getD_eq_getElem?_getD, List.getElem?_map]
  cases l[i]? <;> rfl

structure Inv (D : Da) (cls : List Int) (m : Nat) : Prop where
  ok : ClsOk D cls
  big : ∀ E, Cong D E → ∀ s t, s < D.next.length → t < D.next.length → E s t → cls.getD s 0 = cls.getD t 0
  le : m ≤ D.next.length
  num : m = 0 ∨ ∃ key, cls = nums (numK key 0 D.next.length []).1 ∧ m = (numK key 0 D.next.length []).2.length

theorem inv_step {D : Da} {cls : List Int} {m : Nat} (hV : Va D) (h : Inv D cls m) :
    Inv D (nums (numR D cls).1) (numR D cls).2.length ∧ m ≤ (numR D cls).2.length ∧ ((numR D cls).2.length = m → Stab D (nums (numR D cls).1) m) := by
  have n64 := hV.n64
  have n0 := hV.n0
  have ok : NumOk (keyR D cls) D.next.length (numR D cls) := numK_ok (keyR D cls) D.next.length
  have hbig : ∀ E, Cong D E → ∀ s t, s < D.next.length → t < D.next.length → E s t → (nums (numR D cls).1).getD s 0 = (nums (numR D cls).1).getD t 0 := fun E hE s t hs ht hst => by
    rw [nums_get, nums_get, (ok.same hs ht).2 ((key_iff h.ok).2 ⟨hE.fin s t hs ht hst, h.big E hE s t hs ht hst, fun q hq x hx =>
      ⟨h.big E hE _ _ (nt_bd hV hs hq hx) (nt_bd hV ht hq hx) (hE.l s t q x hs ht hq hx hst), h.big E hE _ _ (nt_bd hV hq hs hx) (nt_bd hV hq ht hx) (hE.r s t q x hs ht hq hx hst)⟩⟩)]
  have hle := ok.le
  refine ⟨⟨⟨by unfold nums; rw [List.length_map]; exact ok.len, fun c hc => ?_⟩, hbig, hle, .inr ⟨_, rfl, rfl⟩⟩, ?_⟩
  · obtain ⟨i, hi, rfl⟩ := List.getElem_of_mem hc
    have hi' : i < D.next.length := by unfold nums at hi; rw [List.length_map, ok.len] at hi; exact hi
    have h1 := ok.lt hi'
    have h2 : (nums (numR D cls).1)[i] = (((numR D cls).1.getD i 0 : Nat) : Int) := by
      rw [← nums_get, List.getD_eq_getElem?_getD, List.getElem?_eq_getElem hi]; rfl
    rw [h2]; omega
  · rcases h.num with q | ⟨key, q1, q2⟩
    · have h1 := ok.lt n0
      exact ⟨by omega, fun e => by omega⟩
    · have ok0 := numK_ok key D.next.length
      have hf : ∀ s t, s < D.next.length → t < D.next.length → keyR D cls s = keyR D cls t → (numK key 0 D.next.length []).1.getD s 0 = (numK key 0 D.next.length []).1.getD t 0 := fun s t hs ht e => by
        have := ((key_iff h.ok).1 e).2.1
        rw [q1, nums_get, nums_get] at this
        omega
      obtain ⟨f1, f2⟩ := finer ok0 ok hf
      refine ⟨by omega, fun e => ⟨⟨_, rfl, e.symm⟩, ?_, hbig⟩⟩
      have f3 := f2 (by omega)
      have up : ∀ s t, s < D.next.length → t < D.next.length → cls.getD s 0 = cls.getD t 0 → (nums (numR D cls).1).getD s 0 = (nums (numR D cls).1).getD t 0 := fun s t hs ht e => by
        rw [q1, nums_get, nums_get] at e
        rw [nums_get, nums_get, f3 s t hs ht (by omega)]
      have dn : ∀ s t, s < D.next.length → t < D.next.length → (nums (numR D cls).1).getD s 0 = (nums (numR D cls).1).getD t 0 → keyR D cls s = keyR D cls t := fun s t hs ht e => by
        rw [nums_get, nums_get] at e
        exact (ok.same hs ht).1 (by omega)
      exact ⟨fun s t hs ht e => ((key_iff h.ok).1 (dn s t hs ht e)).1,
        fun s t q x hs ht hq hx e => up _ _ (nt_bd hV hs hq hx) (nt_bd hV ht hq hx) (((key_iff h.ok).1 (dn s t hs ht e)).2.2 q hq x hx).1,
        fun s t q x hs ht hq hx e => up _ _ (nt_bd hV hq hs hx) (nt_bd hV hq ht hx) (((key_iff h.ok).1 (dn s t hs ht e)).2.2 q hq x hx).2⟩

theorem cls_loop {D : Da} (hV : Va D) : ∀ k cls (m : Nat) G, D.next.length - m ≤ k → Inv D cls m → ClsB D cls G →
    ∃ c m' b, ∃ G' : Heap, L.loop a60l3s a60l3 ⟨a60l3F (.ptr 0 0) (.ptr 1 0) (.int .i64 (m : Nat)), G⟩ = some (.ret, ⟨a60l3F (.ptr 0 0) (.ptr 1 0) (.int .i64 (m' : Nat)), G'⟩) ∧ Stab D c m' ∧
      G'[1]? = some (.cells false false [.own false b 0 D.next.length 1]) ∧ G'[b]? = some (.cells false false (ints c)) ∧ 1 < b := by
  intro k
  induction k with
  | zero =>
    intro cls m G hk hI hB
    obtain ⟨i1, i2, i3⟩ := inv_step hV hI
    have hle := i1.le
    have hle2 := hI.le
    have hlen := hB.base [.dead, .dead] (by simp)
    obtain ⟨G', r1, r2, r3, r4, r5⟩ := round_cls (many := (m : Int)) hV hI.ok hB
    have hc : (((numR D cls).2.length : Nat) : Int) = (m : Int) := by omega
    rw [if_pos hc] at r5
    have hG1 := (List.getElem?_eq_some_iff.1 hB.b1.choose_spec.1).1
    exact ⟨_, m, _, _, r5, i3 (by omega), List.getElem?_set_self (by omega), by rw [List.getElem?_set_ne (by omega)]; exact r4, by omega⟩
  | succ k ih =>
    intro cls m G hk hI hB
    obtain ⟨i1, i2, i3⟩ := inv_step hV hI
    have hle := i1.le
    have hle2 := hI.le
    obtain ⟨G', r1, r2, r3, r4, r5⟩ := round_cls (many := (m : Int)) hV hI.ok hB
    have hG1 := (List.getElem?_eq_some_iff.1 hB.b1.choose_spec.1).1
    have s1 : ∀ X : Blk, (G'.set 1 X)[1]? = some X := fun X => List.getElem?_set_self (by omega)
    have s2 : ∀ X : Blk, (G'.set 1 X)[G.length + 1]? = some (.cells false false (ints (nums (numR D cls).1))) := fun X => by rw [List.getElem?_set_ne (by omega)]; exact r4
    by_cases hc : (((numR D cls).2.length : Nat) : Int) = (m : Int)
    · rw [if_pos hc] at r5
      exact ⟨_, m, _, _, r5, i3 (by omega), s1 _, s2 _, by omega⟩
    · rw [if_neg hc] at r5
      rw [r5]
      refine ih _ _ _ (by omega) i1 ⟨by rw [List.getElem?_set_ne (by omega)]; exact r1, G.length + 1, ?_, s2 _⟩
      rw [i1.ok.len]; exact s1 _

theorem inv_zero {D : Da} : Inv D (List.replicate D.next.length 0) 0 := by
  have g : ∀ i, (List.replicate D.next.length (0 : Int)).getD i 0 = 0 := fun i => by
    by_cases h : i < D.next.length
    · rw [List.getD_eq_getElem?_getD, List.getElem?_eq_getElem (by simpa using h)]; simp
    · rw [List.getD_eq_getElem?_getD, List.getElem?_eq_none (by simp; omega)]; rfl
  exact ⟨⟨by simp, fun c hc => by rw [(List.mem_replicate.1 hc).2]; omega⟩, fun E hE s t hs ht hst => by rw [g, g], Nat.zero_le _, .inl rfl⟩

theorem classes60 {D : Da} (hV : Va D) : ∃ c m, Stab D c m ∧ L.pcall 60 [D.av] = some (.tup [.sl false D.next.length (ints c), .int .i64 (m : Nat)]) := by
  have n64 := hV.n64
  have hB : ClsB D (List.replicate D.next.length 0) [.cells false false D.cells, .cells false false [.own false 2 0 D.next.length 1], .cells false false (ints (List.replicate D.next.length 0))] :=
    ⟨rfl, 2, by rw [List.length_replicate]; rfl, rfl⟩
  obtain ⟨c, m, b, G', h1, h2, h3, h4, h5⟩ := cls_loop hV _ _ 0 _ (Nat.le_refl _) inv_zero hB
  refine ⟨c, m, h2, ?_⟩
  have hcl : c.length = D.next.length := by
    obtain ⟨key, e, _⟩ := h2.num
    rw [e]; unfold nums; rw [List.length_map]; exact (numK_ok key _).len
  have htk : List.take D.next.length c = c := List.take_of_length_le (by omega)
  simp only [Int.natCast_zero] at h1
  unfold Da.cells at h1
  unfold Da.av Da.cells
  rw [a60p, a60, pbodyA_eq]
  simp (maxSteps := 30000000) (disch := first | assumption | omega | (simp only [List.length_cons, List.length_nil, List.length_append, List.length_set, List.length_replicate, List.length_map, List.length_range, List.length_take, List.length_drop, List.all_cons, List.all_nil, AV.isCell, Bool.and_self, Bool.and_true, bs_length, is64_length, w64_length, ints_length, ints_length, bools_len, List.length_map] <;> omega) | rfl | decide) only [bodyA_eq, List.length_cons, List.length_nil, Nat.zero_add, Nat.reduceSub, pads, List.cons_append, List.nil_append, run_seq, run_region, runOps_cons, oper_none, ex_box, AV.cells, opv, List.getD_cons_zero, List.all_cons, AV.isCell, List.all_nil, Bool.and_self, ↓reduceIte, putK_to, List.set_cons_succ, List.set_cons_zero, opsK_some, ex_mov, runOps_nil, regK_some, seqK_normal, ex_faddr, List.getD_cons_succ, faddrA_ptr, valK_some, ex_load, rd_ptr, List.getElem?_cons_zero, rdK_cells, List.drop_succ_cons, List.drop_zero, List.take_succ_cons, List.take_zero, loadK_1, ex_len, lenA_sl, ex_mkslice, mksK_int, Int.toNat_natCast, repz_ints, newA_own, Nat.reduceAdd, ex_store, wr_ptr, List.getElem?_cons_succ, wrK_cells, splice, List.drop_nil, List.append_nil, storeK_some, putK_no, run_block, run_loop, a60l3c, h1, blockK_ret, bodyK_ret, results_2, resL_cons, res_cell, h3, List.take_nil, cellK_some, mkv_1, resK_some, res_tmp, resL_nil, Option.map_some, retvK_some, pbodyK_some, frzN, frz_tup, List.mapM_cons, frz_own, h4, frzK_cells, Nat.mul_one, ints_take, htk, frz_ints, slK_some, frz_int, List.mapM_nil, Option.pure_def, Option.bind_eq_bind, Option.bind_some]
end Go.Abs.Det
