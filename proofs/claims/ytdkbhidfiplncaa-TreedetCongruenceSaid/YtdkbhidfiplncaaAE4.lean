/- classes: numbering the rows. -/
import Derived.Test.YtdkbhidfiplncaaAE3
namespace Go.Abs.Det
open Go Go.Abs
set_option linter.unusedSimpArgs false
set_option linter.unusedVariables false

def idxK (k : List Nat) : List (List Nat) → Nat → Option Nat
  | [], _ => none
  | k' :: ks, i => if k = k' then some i else idxK k ks (i + 1)
def ents : List (List Nat) → Nat → List (AV × AV)
  | [], _ => []
  | k :: ks, i => (strK k, .int .i64 (i : Nat)) :: ents ks (i + 1)
theorem ents_len : ∀ (ks : List (List Nat)) (i : Nat), (ents ks i).length = ks.length
  | [], _ => rfl
  | k :: ks, i => by rw [ents, List.length_cons, List.length_cons, ents_len ks]
theorem ents_snoc (k : List Nat) : ∀ (ks : List (List Nat)) (i : Nat), ents (ks ++ [k]) i = ents ks i ++ [(strK k, .int .i64 ((i + ks.length : Nat) : Int))]
  | [], i => rfl
  | k' :: ks, i => by
    rw [List.cons_append, ents, ents, ents_snoc k ks (i + 1), List.length_cons, List.cons_append]
    congr 4
    rw [show i + 1 + ks.length = i + (ks.length + 1) by omega]
def Byt (k : List Nat) : Prop := ∀ x ∈ k, x < 256
theorem find_ents {k : List Nat} (hk : Byt k) : ∀ (ks : List (List Nat)) (i : Nat), (∀ k' ∈ ks, Byt k') → findA (strK k) (ents ks i) = some ((idxK k ks i).map fun (j : Nat) => AV.int .i64 (j : Nat))
  | [], i, _ => rfl
  | k' :: ks, i, h => by
    simp only [ents, findA, strK_eq hk (h k' (by simp)), idxK]
    by_cases c : k = k'
    · simp [c]
    · simp only [c, decide_false]
      rw [find_ents hk ks (i + 1) (fun q hq => h q (by simp [hq]))]
      simp
theorem upd_ents {k : List Nat} {v : AV} (hk : Byt k) : ∀ (ks : List (List Nat)) (i : Nat), (∀ k' ∈ ks, Byt k') → idxK k ks i = none → updA (strK k) v (ents ks i) = some (ents ks i ++ [(strK k, v)])
  | [], i, _, _ => rfl
  | k' :: ks, i, h, hn => by
    unfold idxK at hn
    split at hn
    · cases hn
    rename_i c
    simp only [ents, updA, strK_eq hk (h k' (by simp)), c, decide_false]
    rw [upd_ents hk ks (i + 1) (fun q hq => h q (by simp [hq])) hn]
    rfl

/-- numbers in the order of the first occurrence -/
def numK (key : Nat → List Nat) : Nat → Nat → List (List Nat) → List Nat × List (List Nat)
  | _, 0, seen => ([], seen)
  | s, e + 1, seen => match idxK (key s) seen 0 with
    | some j => (j :: (numK key (s + 1) e seen).1, (numK key (s + 1) e seen).2)
    | none => (seen.length :: (numK key (s + 1) e (seen ++ [key s])).1, (numK key (s + 1) e (seen ++ [key s])).2)

theorem byt_app {a b : List Nat} (ha : Byt a) (hb : Byt b) : Byt (a ++ b) := fun x hx => (List.mem_append.1 hx).elim (ha x) (hb x)
theorem byt_note {D : Da} {cls : List Int} (hC : ClsOk D cls) (t : Int) : Byt (noteB cls t) := by
  intro x hx
  simp only [noteB, List.mem_cons, List.not_mem_nil, or_false] at hx
  rcases hx with rfl | rfl
  · omega
  · by_cases h : t.toNat < cls.length
    · have := hC.bd _ (getD_in (a := (0 : Int)) h); omega
    · rw [List.getD_eq_getElem?_getD, List.getElem?_eq_none (by omega)]; decide
theorem byt_flat {α : Type} {f : α → List Nat} {l : List α} (h : ∀ a ∈ l, Byt (f a)) : Byt (l.flatMap f) := fun x hx => by
  obtain ⟨a, ha, hx⟩ := List.mem_flatMap.1 hx
  exact h a ha x hx
theorem byt_key {D : Da} {cls : List Int} (hC : ClsOk D cls) (s : Nat) : Byt (keyR D cls s) := by
  refine byt_app (byt_app ?_ (byt_note hC _)) (byt_flat fun q _ => byt_flat fun x _ => byt_app (byt_note hC _) (byt_note hC _))
  intro x hx
  unfold fbB at hx
  split at hx <;> simp at hx <;> omega
theorem key_len (D : Da) (cls : List Int) (s : Nat) : (keyR D cls s).length = (fbB (D.fin.getD s false)).length + 2 + 4 * two D.vars * D.next.length := by
  unfold keyR
  rw [List.length_append, List.length_append, ntA_len]; rfl
theorem fb_len (b : Bool) : (fbB b).length ≤ 5 := by cases b <;> decide

theorem put_mid {l r : List Nat} {k n : Nat} (h : n = l.length) : (ints (l.map fun (j : Nat) => (j : Int)) ++ ints (List.replicate (r.length + 1) 0)) = ints ((l.map fun (j : Nat) => (j : Int)) ++ List.replicate (r.length + 1) 0) := by rw [ints_app]

def nums (l : List Nat) : List Int := l.map fun (j : Nat) => (j : Int)

set_option maxHeartbeats 1000000 in
theorem num_loop {D : Da} {cls : List Int} {s3 : AV} {m nb B : Nat} (hV : Va D) (hC : ClsOk D cls) (hm : m < B) (hn : nb < B) (hmn : m ≠ nb) : ∀ e s G done seen, s + e = D.next.length → Base D cls G B → done.length = s →
    (∀ cb, G[1]? = some (.cells false false [.own false cb 0 cls.length 1]) → cb ≠ m ∧ cb ≠ nb) → 1 < m → 1 < nb → (∀ k ∈ seen, Byt k) →
    G[m]? = some (.mp (ents seen 0)) → G[nb]? = some (.cells false false (ints (nums done ++ List.replicate e 0))) →
    ∃ G', L.loop a60l2s a60l2 ⟨a60l2F (.ptr 0 0) (.ptr 1 0) s3 (.mp m) (.own false nb 0 D.next.length 1) (.int .i64 (D.next.length : Nat)) (.int .i64 (s : Nat)), G⟩ =
      some (.exit 2, ⟨a60l2F (.ptr 0 0) (.ptr 1 0) s3 (.mp m) (.own false nb 0 D.next.length 1) (.int .i64 (D.next.length : Nat)) (.int .i64 (D.next.length : Nat)), G'⟩) ∧
      G'[0]? = some (.cells false false D.cells) ∧ G'[1]? = G[1]? ∧ G.length ≤ G'.length ∧
      G'[m]? = some (.mp (ents (numK (keyR D cls) s e seen).2 0)) ∧ G'[nb]? = some (.cells false false (ints (nums (done ++ (numK (keyR D cls) s e seen).1)))) := by
  intro e
  induction e with
  | zero =>
    intro s G done seen h hB hd hcb' m1 n1 hse hGm hGn
    obtain rfl : s = D.next.length := by omega
    have n64 := hV.n64
    refine ⟨G, ?_, hB.b0, rfl, Nat.le_refl _, hGm, by simpa [numK] using hGn⟩
    rw [a60l2n]
    simp (maxSteps := 30000000) (disch := first | assumption | omega | (simp only [List.length_cons, List.length_nil, List.length_append, List.length_set, List.length_replicate, List.length_map, List.length_range, List.length_take, List.length_drop, List.all_cons, List.all_nil, AV.isCell, Bool.and_self, Bool.and_true, bs_length, is64_length, w64_length, ints_length, ints_length, bools_len, List.length_map] <;> omega) | rfl | decide) only [a60l2b, run_seq, run_region, runOps_cons, oper_none, ex_bin, opv, List.getD_cons_succ, List.getD_cons_zero, bin_lss, Int.lt_irrefl, decide_false, valK_some, putK_to, List.set_cons_succ, List.set_cons_zero, opsK_some, runOps_nil, regK_some, seqK_normal, run_cond, condK_bool, Bool.false_eq_true, ↓reduceIte, run_exit, seqK_exit, loopK_exit, a60l2c]
  | succ e ih =>
    intro s G done seen h hB hd hcb' m1 n1 hse hGm hGn
    have n64 := hV.n64
    have h8 := (two_bd hV.v3).1
    have hlt : (s : Int) < (D.next.length : Nat) := by omega
    have hfl := hV.fl
    have hle := hB.le
    have htw := hB.two
    obtain ⟨cb, cb1, cb2, cb3⟩ := hB.b1
    obtain ⟨cm, cn⟩ := hcb' cb cb1
    have hfb := fb105 (D.fin.getD s false)
    obtain ⟨fc1, fc2⟩ := fb_cells (D.fin.getD s false)
    have hfl5 := fb_len (D.fin.getD s false)
    have hkl := key_len D cls s
    have hmul : two D.vars * D.next.length ≤ 8 * 64 := Nat.mul_le_mul h8 n64
    have hmul2 : 4 * two D.vars * D.next.length = 4 * (two D.vars * D.next.length) := Nat.mul_assoc ..
    have hbyt := byt_key hC s
    generalize hfbv : fbB (D.fin.getD s false) = fb at *
    have hB1 : Base D cls (G ++ [.cells false false (bs fb), .cells false false [.own false G.length 0 fb.length 1]]) G.length :=
      ⟨app_get hB.b0, ⟨cb, app_get cb1, app_get cb2, by omega⟩, by omega, by simp⟩
    have hR1 : RowB (G ++ [.cells false false (bs fb), .cells false false [.own false G.length 0 fb.length 1]]) G.length (G.length + 1) fb := ⟨G.length, hget _ _ 1, hget0 _ _, Nat.le_refl _, by omega⟩
    obtain ⟨G1, n1', n2', n3', n4'⟩ := noteR (t := (s : Int)) hC n64 hB1 hR1 (by omega) (by omega) (by omega)
    have hB2 := hB1.step n3' n4'
    obtain ⟨G2, q1, q2, q3, q4⟩ := notes_q (s3 := s3) (s4 := .mp m) (s5 := .own false nb 0 D.next.length 1) (s22 := .int .i64 (D.next.length : Nat)) (s23 := .int .i64 (s : Nat)) hV hC (s := s) (by omega) (by omega) D.next.length 0 G1 _ (by omega) hB2 n2' (by simp [noteB]; omega)
    have hkey : fb ++ noteB cls (s : Int) ++ ntA D cls s 0 D.next.length = keyR D cls s := by unfold keyR; rw [hfbv]
    rw [hkey] at q2
    have old : ∀ b, b < G.length → G2[b]? = G[b]? := fun b hb => by
      rw [q3 b hb, n3' b hb, List.getElem?_append_left hb]
    obtain ⟨rb, r1, r2, r3, r4⟩ := q2
    have y1 : G1[1]? = some (.cells false false [.own false cb 0 D.next.length 1]) := by
      rw [n3' 1 (by omega), List.getElem?_append_left (by omega), cb1, hC.len]
    have z0 := (old 0 (by omega)).trans hB.b0
    have z1 := old 1 (by omega)
    have zm := (old m (by omega)).trans hGm
    have zn := (old nb (by omega)).trans hGn
    have zc := (old cb (by omega)).trans cb2
    have hL2 : G.length ≤ G2.length := by simp at n4'; omega
    have hsetj : ∀ j : Nat, (nums done ++ List.replicate (e + 1) 0).set s (j : Int) = nums (done ++ [j]) ++ List.replicate e 0 := fun j => by
      have hdl : (nums done).length = s := by simp [nums, hd]
      rw [List.set_append_right _ _ (by omega), hdl, Nat.sub_self]
      simp [nums, List.replicate_succ]
    have hcl : (nums done ++ List.replicate (e + 1) (0 : Int)).length = D.next.length := by simp [nums, hd]; omega
    have hfind := find_ents hbyt seen 0 hse
    have htk : List.take (keyR D cls s).length (bs (keyR D cls s)) = bs (keyR D cls s) := List.take_of_length_le (by rw [bs_length]; exact Nat.le_refl _)
    simp only [Int.natCast_zero] at q1
    have hcell0 := hB.b0
    unfold Da.cells at hcell0
    unfold strK at hfind
    have cont : ∀ (j : Nat) (seen' : List (List Nat)) (G3 : Heap), (∀ k ∈ seen', Byt k) → G3[m]? = some (.mp (ents seen' 0)) → G3 = G2.set m (.mp (ents seen' 0)) →
        ∃ G', L.loop a60l2s a60l2 ⟨a60l2F (.ptr 0 0) (.ptr 1 0) s3 (.mp m) (.own false nb 0 D.next.length 1) (.int .i64 (D.next.length : Nat)) (.int .i64 ((s + 1 : Nat) : Int)), G3.set nb (.cells false false (ints (nums (done ++ [j]) ++ List.replicate e 0)))⟩ =
          some (.exit 2, ⟨a60l2F (.ptr 0 0) (.ptr 1 0) s3 (.mp m) (.own false nb 0 D.next.length 1) (.int .i64 (D.next.length : Nat)) (.int .i64 (D.next.length : Nat)), G'⟩) ∧
          G'[0]? = some (.cells false false D.cells) ∧ G'[1]? = G[1]? ∧ G.length ≤ G'.length ∧
          G'[m]? = some (.mp (ents (numK (keyR D cls) (s + 1) e seen').2 0)) ∧ G'[nb]? = some (.cells false false (ints (nums (done ++ j :: (numK (keyR D cls) (s + 1) e seen').1)))) := by
      intro j seen' G3 hse' hG3 hG3e
      have g3l : G3.length = G2.length := by rw [hG3e]; simp
      have g3o : ∀ b, b ≠ m → b ≠ nb → (G3.set nb (.cells false false (ints (nums (done ++ [j]) ++ List.replicate e 0))))[b]? = G2[b]? := fun b h1 h2 => by
        rw [List.getElem?_set_ne (Ne.symm h2), hG3e, List.getElem?_set_ne (Ne.symm h1)]
      have hBn : Base D cls (G3.set nb (.cells false false (ints (nums (done ++ [j]) ++ List.replicate e 0)))) B := by
        refine ⟨by rw [g3o 0 (by omega) (by omega)]; exact z0, ⟨cb, by rw [g3o 1 (by omega) (by omega), z1]; exact cb1, by rw [g3o cb cm cn]; exact zc, cb3⟩, htw, by simp; omega⟩
      obtain ⟨G', f1, f2, f3, f4, f5, f6⟩ := ih (s + 1) _ (done ++ [j]) seen' (by omega) hBn (by simp [hd]) (fun cb' hcb2 => by
        rw [g3o 1 (by omega) (by omega), z1] at hcb2
        exact hcb' cb' hcb2) m1 n1 hse' (by rw [List.getElem?_set_ne (Ne.symm hmn)]; exact hG3) (List.getElem?_set_self (by omega))
      refine ⟨G', f1, f2, by rw [f3, g3o 1 (by omega) (by omega), z1], by simp at f4; omega, f5, ?_⟩
      rw [f6, List.append_assoc]; rfl
    cases hidx : idxK (keyR D cls s) seen 0 with
    | some j =>
      rw [hidx] at hfind
      have hG2e : G2 = G2.set m (.mp (ents seen 0)) := by
        obtain ⟨h1, h2⟩ := List.getElem?_eq_some_iff.1 zm
        rw [← h2, List.set_getElem_self]
      obtain ⟨G', f1, f2, f3, f4, f5, f6⟩ := cont j seen G2 hse zm hG2e
      refine ⟨G', ?_, f2, f3, f4, by simpa [numK, hidx] using f5, by simpa [numK, hidx] using f6⟩
      clear hGn
      generalize nums done ++ List.replicate (e + 1) (0 : Int) = cur at *
      rw [a60l2n]
      simp (maxSteps := 30000000) (disch := first | assumption | omega | (simp only [List.length_cons, List.length_nil, List.length_append, List.length_set, List.length_replicate, List.length_map, List.length_range, List.length_take, List.length_drop, List.all_cons, List.all_nil, AV.isCell, Bool.and_self, Bool.and_true, bs_length, is64_length, w64_length, ints_length, ints_length, bools_len, List.length_map] <;> omega) | rfl | decide) only [a60l2b, run_seq, run_region, runOps_cons, oper_none, ex_bin, opv, List.getD_cons_succ, List.getD_cons_zero, bin_lss, hlt, decide_true, valK_some, putK_to, List.set_cons_succ, List.set_cons_zero, opsK_some, runOps_nil, regK_some, seqK_normal, run_cond, condK_bool, ↓reduceIte, run_skip, run_block, ex_mov, ex_faddr, faddrA_ptr, Nat.zero_add, ex_load, rd_ptr, hcell0, hfl, rdK_cells, List.drop_succ_cons, List.drop_zero, List.take_succ_cons, List.take_nil, loadK_1, ex_iaddr, iaddrA_sl, Int.toNat_natCast, Nat.mul_one, rd_vptr, bool_at, ex_call, List.map_cons, List.map_nil, pcallA_eq, frzN, List.mapM_cons, frz_bool, List.mapM_nil, Option.pure_def, Option.bind_eq_bind, Option.bind_some, argK_some, hfb, retK_some, scal, scal1, ex_sbytes, bytesK_str, fc2, fc1, newA_own, ex_box, AV.cells, List.all_cons, AV.isCell, List.all_nil, Bool.and_self, List.length_append, List.length_cons, List.length_nil, List.append_assoc, List.cons_append, List.nil_append, ex_store, wr_ptr, hget, List.getElem?_cons_succ, List.getElem?_cons_zero, wrK_cells, splice, List.take_zero, List.drop_nil, List.append_nil, hset, storeK_some, putK_no, ex_mkfunc, ex_icall, n1', y1, ex_len, lenA_own, run_loop, a60l1c, q1, blockK_exit, r1, ex_bstr, src_own, r2, srcK_cells, htk, strK0_some, u8sOf_bs, strK1_some, ex_mlook, keyFit_str, entA_mp, zm, entK_some, lookE_some, hfind, Option.map_some, lookK_yes, ex_ext, extA_tup, ex_un, un_not, Bool.not_true, Bool.false_eq_true, iaddrA_own, zn, ints_take, ints_drop, ints_put1, hsetj, blockK_normal, bin_add, cadd1, wr64, loopK_normal, a60l2c, f1]
    | none =>
      rw [hidx] at hfind
      have hupd := upd_ents (v := .int .i64 (seen.length : Nat)) hbyt seen 0 hse hidx
      have hsn := ents_snoc (keyR D cls s) seen 0
      rw [Nat.zero_add] at hsn
      rw [← hsn] at hupd
      unfold strK at hupd
      have hel := ents_len seen 0
      obtain ⟨G', f1, f2, f3, f4, f5, f6⟩ := cont seen.length (seen ++ [keyR D cls s]) (G2.set m (.mp (ents (seen ++ [keyR D cls s]) 0))) (fun k hk => by
        rcases List.mem_append.1 hk with q | q
        · exact hse k q
        · rw [List.mem_singleton.1 q]; exact hbyt) (List.getElem?_set_self (by omega)) rfl
      have zn3 : ∀ X : Blk, (G2.set m X)[nb]? = some (.cells false false (ints (nums done ++ List.replicate (e + 1) 0))) := fun X => by rw [List.getElem?_set_ne hmn]; exact zn
      refine ⟨G', ?_, f2, f3, f4, by simpa [numK, hidx] using f5, by simpa [numK, hidx] using f6⟩
      clear hGn
      generalize nums done ++ List.replicate (e + 1) (0 : Int) = cur at *
      rw [a60l2n]
      simp (maxSteps := 30000000) (disch := first | assumption | omega | (simp only [List.length_cons, List.length_nil, List.length_append, List.length_set, List.length_replicate, List.length_map, List.length_range, List.length_take, List.length_drop, List.all_cons, List.all_nil, AV.isCell, Bool.and_self, Bool.and_true, bs_length, is64_length, w64_length, ints_length, ints_length, bools_len, List.length_map] <;> omega) | rfl | decide) only [a60l2b, run_seq, run_region, runOps_cons, oper_none, ex_bin, opv, List.getD_cons_succ, List.getD_cons_zero, bin_lss, hlt, decide_true, valK_some, putK_to, List.set_cons_succ, List.set_cons_zero, opsK_some, runOps_nil, regK_some, seqK_normal, run_cond, condK_bool, ↓reduceIte, run_skip, run_block, ex_mov, ex_faddr, faddrA_ptr, Nat.zero_add, ex_load, rd_ptr, hcell0, hfl, rdK_cells, List.drop_succ_cons, List.drop_zero, List.take_succ_cons, List.take_nil, loadK_1, ex_iaddr, iaddrA_sl, Int.toNat_natCast, Nat.mul_one, rd_vptr, bool_at, ex_call, List.map_cons, List.map_nil, pcallA_eq, frzN, List.mapM_cons, frz_bool, List.mapM_nil, Option.pure_def, Option.bind_eq_bind, Option.bind_some, argK_some, hfb, retK_some, scal, scal1, ex_sbytes, bytesK_str, fc2, fc1, newA_own, ex_box, AV.cells, List.all_cons, AV.isCell, List.all_nil, Bool.and_self, List.length_append, List.length_cons, List.length_nil, List.append_assoc, List.cons_append, List.nil_append, ex_store, wr_ptr, hget, List.getElem?_cons_succ, List.getElem?_cons_zero, wrK_cells, splice, List.take_zero, List.drop_nil, List.append_nil, hset, storeK_some, putK_no, ex_mkfunc, ex_icall, n1', y1, ex_len, lenA_own, run_loop, a60l1c, q1, blockK_exit, r1, ex_bstr, src_own, r2, srcK_cells, htk, strK0_some, u8sOf_bs, strK1_some, ex_mlook, keyFit_str, entA_mp, zm, entK_some, lookE_some, hfind, Option.map_none, lookK_no, ex_ext, extA_tup, ex_un, un_not, Bool.not_false, ex_mlen, lenK_some, hel, ex_mupd, updM_mp, updE_some, hupd, updK_some, iaddrA_own, zn3, ints_take, ints_drop, ints_put1, hsetj, blockK_normal, bin_add, cadd1, wr64, loopK_normal, a60l2c, f1]
end Go.Abs.Det
