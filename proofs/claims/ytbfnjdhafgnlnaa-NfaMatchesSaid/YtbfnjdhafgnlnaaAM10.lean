/- The reference's After. -/
import Derived.Test.YtbfnjdhafgnlnaaAM9
namespace Go.Abs.Nfa
open Go Go.Abs
set_option linter.unusedSimpArgs false
set_option linter.unusedVariables false

/-- the numbers below N of S, ascending -/
def lisL (S : Nat → Bool) (N : Nat) : List Int := List.map Int.ofNat (List.filter S (List.range N))
theorem lisL_succ (S : Nat → Bool) (N : Nat) : lisL S (N + 1) = lisL S N ++ if S N = true then [(N : Int)] else [] := by
  unfold lisL
  rw [List.range_succ, List.filter_append, List.map_append]
  congr 1
  by_cases h : S N = true
  · simp [h]
  · simp [h]
theorem lisL_len (S : Nat → Bool) (N : Nat) : (lisL S N).length ≤ N := by
  unfold lisL
  rw [List.length_map]
  exact Nat.le_trans (List.length_filter_le _ _) (by simp)
theorem mem_lisL {S : Nat → Bool} {N : Nat} {q : Int} : q ∈ lisL S N ↔ ∃ j, j < N ∧ S j = true ∧ q = (j : Int) := by
  unfold lisL
  simp only [List.mem_map, List.mem_filter, List.mem_range]
  constructor
  · rintro ⟨j, ⟨h1, h2⟩, rfl⟩
    exact ⟨j, h1, h2, rfl⟩
  · rintro ⟨j, h1, h2, rfl⟩
    exact ⟨j, ⟨h1, h2⟩, rfl⟩

/-- the list when i edges are looked at for q -/
def curL (ed : List Ed) (S : Nat → Bool) (x q i : Nat) : List Int := lisL (stepS ed S x) q ++ if (ed.take i).any (stepE x S q) = true then [(q : Int)] else []

theorem curL_has (ed : List Ed) (S : Nat → Bool) (x q i : Nat) : (curL ed S x q i).contains (q : Int) = (ed.take i).any (stepE x S q) := by
  unfold curL
  rw [Bool.eq_iff_iff, List.contains_iff_mem, List.mem_append, mem_lisL]
  constructor
  · rintro (⟨j, h1, h2, h3⟩ | h)
    · omega
    · split at h
      · rename_i h2; exact h2
      · simp at h
  · intro h
    rw [if_pos h]
    exact .inr (by simp)

theorem OwnI.keep {b : Nat} {T : Heap} {v : AV} {l : List Int} (h : OwnI b T v l) (x : Blk) : OwnI b (T ++ [x]) v l := by
  rcases h with h | ⟨k, e1, e2⟩
  · exact .inl h
  · exact .inr ⟨k, e1, by rw [List.getElem?_append_left (List.getElem?_eq_some_iff.1 e2).1, e2]⟩

theorem aft_in {n : Aut} {x q : Nat} {z : Bool} {sl : List Int} (hx : x < 256) (hsl : sl.length < 1099511627776) (hl : n.ed.length < 1099511627776) (hb : EdOk n.ed) (hq : q < 4096) : ∀ d i T v, i + d = n.ed.length → OwnI 1 T v (curL n.ed (inS sl) x q i) →
    ∃ T' v', L.loop a20l0s a20l0 ⟨a20l0F (iw z sl) (.int .u8 (x : Nat)) (.ptr 0 0) v (.int .i64 (q : Nat)) (.int .i64 (i : Nat)), .cells false false n.cells :: T⟩ =
      some (.exit 2, ⟨a20l0F (iw z sl) (.int .u8 (x : Nat)) (.ptr 0 0) v' (.int .i64 (q : Nat)) (.int .i64 (n.ed.length : Nat)), .cells false false n.cells :: T'⟩) ∧ OwnI 1 T' v' (curL n.ed (inS sl) x q n.ed.length)
  | 0, i, T, v, h, hO => by
    obtain rfl : i = n.ed.length := by omega
    refine ⟨T, v, ?_, hO⟩
    rw [a20l0n]
    simp (maxSteps := 30000000) (disch := first | assumption | omega | (simp only [List.length_cons, List.length_nil, List.length_append, List.length_set, List.length_replicate, List.length_map, List.length_range, List.length_take, List.length_drop, List.all_cons, List.all_nil, AV.isCell, Bool.and_self, Bool.and_true, bs_length, is64_length, w64_length, ints_length, edges_length] <;> omega) | rfl | decide) only [a20l0b, run_seq, run_region, runOps_cons, oper_none, ex_mov, opv, List.getD_cons_succ, List.getD_cons_zero, putK_to, List.set_cons_succ, List.set_cons_zero, opsK_some, ex_faddr, faddrA_ptr, Nat.zero_add, valK_some, ex_load, rd_ptr, List.getElem?_cons_zero, rdK_cells, List.drop_succ_cons, List.drop_zero, List.take_succ_cons, List.take_nil, loadK_1, ex_len, lenA_sl, ex_bin, bin_lss, Int.lt_irrefl, decide_false, runOps_nil, regK_some, seqK_normal, run_cond, condK_bool, Bool.false_eq_true, run_skip, run_exit, if_false, seqK_exit, loopK_exit, a20l0c]
  | d + 1, i, T, v, h, hO => by
    have hi : i < n.ed.length := by omega
    have hlt : (i : Int) < (n.ed.length : Nat) := by omega
    have hm := hb _ (getE_mem hi)
    have htk : (n.ed.take (i + 1)).any (stepE x (inS sl) q) = ((n.ed.take i).any (stepE x (inS sl) q) || stepE x (inS sl) q (n.ed.getD i e0)) := by
      have : n.ed.take (i + 1) = n.ed.take i ++ [n.ed.getD i e0] := by
        rw [List.getD_eq_getElem?_getD, List.getElem?_eq_getElem hi, Option.getD_some, List.take_append_getElem]
      rw [this, List.any_append]
      simp
    have hh := hasint z sl (n.ed.getD i e0).a hsl
    have ha : sl.contains (n.ed.getD i e0).a = inS sl (n.ed.getD i e0).a.toNat := by
      unfold inS; rw [Int.toNat_of_nonneg hm.1.1]
    rw [ha] at hh
    have hlet := letter54 x (n.ed.getD i e0).p (n.ed.getD i e0).n hx hm.2.2.1 hm.2.2.2
    have hlen : (curL n.ed (inS sl) x q i).length ≤ 4097 := by
      unfold curL
      have := lisL_len (stepS n.ed (inS sl) x) q
      rw [List.length_append]
      split <;> simp <;> omega
    have hhas := fun z' => hasint z' (curL n.ed (inS sl) x q i) (q : Int) (by omega)
    rw [curL_has] at hhas
    -- nothing new for q
    have skip : stepE x (inS sl) q (n.ed.getD i e0) = false ∨ (n.ed.take i).any (stepE x (inS sl) q) = true → curL n.ed (inS sl) x q (i + 1) = curL n.ed (inS sl) x q i := by
      intro h
      unfold curL
      rw [htk]
      rcases h with h | h
      · rw [h, Bool.or_false]
      · rw [h, Bool.true_or]
    have next := aft_in (n := n) (z := z) hx hsl hl hb hq d (i + 1) 
    by_cases b1 : (n.ed.getD i e0).b = (q : Int)
    · cases b2 : inS sl (n.ed.getD i e0).a.toNat with
      | false =>
        rw [b2] at hh
        have hs := skip (.inl (by unfold stepE; rw [b2, Bool.and_false, Bool.false_and]))
        obtain ⟨T', v', g1, g2⟩ := next (T ++ [.cells false false (encE (n.ed.getD i e0))]) v (by omega) (by rw [hs]; exact hO.keep _)
        refine ⟨T', v', ?_, g2⟩
        simp only [encE, b1] at g1
        rw [a20l0n]
        simp (maxSteps := 30000000) (disch := first | assumption | omega | (simp only [List.length_cons, List.length_nil, List.length_append, List.length_set, List.length_replicate, List.length_map, List.length_range, List.length_take, List.length_drop, List.all_cons, List.all_nil, AV.isCell, Bool.and_self, Bool.and_true, bs_length, is64_length, w64_length, ints_length, edges_length] <;> omega) | rfl | decide) only [a20l0b, run_seq, run_region, runOps_cons, oper_none, ex_mov, opv, List.getD_cons_succ, List.getD_cons_zero, putK_to, List.set_cons_succ, List.set_cons_zero, opsK_some, ex_faddr, faddrA_ptr, Nat.zero_add, valK_some, ex_load, rd_ptr, List.getElem?_cons_zero, rdK_cells, List.drop_succ_cons, List.drop_zero, List.take_succ_cons, List.take_nil, loadK_1, ex_len, lenA_sl, ex_bin, bin_lss, hlt, decide_true, runOps_nil, regK_some, seqK_normal, run_cond, condK_bool, run_skip, run_exit, if_true, run_block, ex_iaddr, iaddrA_sl, Int.toNat_natCast, rd_vptr, edges_at, b1, loadK_n, ex_box, AV.cells, List.all_cons, AV.isCell, List.all_nil, Bool.and_self, List.length_cons, List.cons_append, ex_store, List.length_nil, Nat.reduceAdd, wr_ptr, List.getElem?_cons_succ, hget0, wrK_cells, splice, List.take_zero, List.nil_append, List.drop_nil, List.append_nil, hset0, storeK_some, putK_no, bin_eql, oper_guard, guardK_bool, putA_to, Nat.add_zero, ex_call, List.map_cons, List.map_nil, pcallA_eq, frzN, List.mapM_cons, frz_sl, frz_int, List.mapM_nil, Option.pure_def, Option.bind_eq_bind, Option.bind_some, argK_some, hh, retK_some, scal, scal1, fzIds, List.flatMap_cons, bor_sl, bor_int, List.flatMap_nil, List.foldl_nil, ite_self, ex_pick, pickA_bool, Bool.false_eq_true, if_false, frz_tup, Option.map_some, ex_un, ex_bslice, beq_self_eq_true, repz_1, Nat.mul_one, fillA, Nat.le_refl, and_self, newK_some, newA_data, List.isEmpty_nil, slK_some, ex_append, src_sl, blockK_normal, bin_add, cadd1, wr64, loopK_normal, a20l0c, g1]
      | true =>
        rw [b2] at hh
        cases b3 : hasB (n.ed.getD i e0).p (n.ed.getD i e0).n x with
        | false =>
          rw [b3] at hlet
          have hs := skip (.inl (by unfold stepE; rw [b3, Bool.false_and, Bool.false_and]))
          obtain ⟨T', v', g1, g2⟩ := next (T ++ [.cells false false (encE (n.ed.getD i e0))]) v (by omega) (by rw [hs]; exact hO.keep _)
          refine ⟨T', v', ?_, g2⟩
          simp only [encE, b1] at g1
          rw [a20l0n]
          simp (maxSteps := 30000000) (disch := first | assumption | omega | (simp only [List.length_cons, List.length_nil, List.length_append, List.length_set, List.length_replicate, List.length_map, List.length_range, List.length_take, List.length_drop, List.all_cons, List.all_nil, AV.isCell, Bool.and_self, Bool.and_true, bs_length, is64_length, w64_length, ints_length, edges_length] <;> omega) | rfl | decide) only [a20l0b, run_seq, run_region, runOps_cons, oper_none, ex_mov, opv, List.getD_cons_succ, List.getD_cons_zero, putK_to, List.set_cons_succ, List.set_cons_zero, opsK_some, ex_faddr, faddrA_ptr, Nat.zero_add, valK_some, ex_load, rd_ptr, List.getElem?_cons_zero, rdK_cells, List.drop_succ_cons, List.drop_zero, List.take_succ_cons, List.take_nil, loadK_1, ex_len, lenA_sl, ex_bin, bin_lss, hlt, decide_true, runOps_nil, regK_some, seqK_normal, run_cond, condK_bool, run_skip, run_exit, if_true, run_block, ex_iaddr, iaddrA_sl, Int.toNat_natCast, rd_vptr, edges_at, b1, loadK_n, ex_box, AV.cells, List.all_cons, AV.isCell, List.all_nil, Bool.and_self, List.length_cons, List.cons_append, ex_store, List.length_nil, Nat.reduceAdd, wr_ptr, List.getElem?_cons_succ, hget0, wrK_cells, splice, List.take_zero, List.nil_append, List.drop_nil, List.append_nil, hset0, storeK_some, putK_no, bin_eql, oper_guard, guardK_bool, putA_to, Nat.add_zero, ex_call, List.map_cons, List.map_nil, pcallA_eq, frzN, List.mapM_cons, frz_sl, frz_int, List.mapM_nil, Option.pure_def, Option.bind_eq_bind, Option.bind_some, argK_some, hh, retK_some, scal, scal1, fzIds, List.flatMap_cons, bor_sl, bor_int, List.flatMap_nil, List.foldl_nil, ite_self, ex_pick, pickA_bool, hlet, Bool.false_eq_true, if_false, frz_tup, Option.map_some, ex_un, ex_bslice, beq_self_eq_true, repz_1, Nat.mul_one, fillA, Nat.le_refl, and_self, newK_some, newA_data, List.isEmpty_nil, slK_some, ex_append, src_sl, blockK_normal, bin_add, cadd1, wr64, loopK_normal, a20l0c, g1]
        | true =>
          rw [b3] at hlet
          have hst : stepE x (inS sl) q (n.ed.getD i e0) = true := by
            unfold stepE
            rw [b3, b2, b1]; simp
          cases b4 : (n.ed.take i).any (stepE x (inS sl) q) with
          | true =>
            rw [b4] at hhas
            have hs := skip (.inr b4)
            obtain ⟨T', v', g1, g2⟩ := next (T ++ [.cells false false (encE (n.ed.getD i e0))]) v (by omega) (by rw [hs]; exact hO.keep _)
            refine ⟨T', v', ?_, g2⟩
            simp only [encE, b1] at g1
            rw [a20l0n]
            rcases hO with ⟨rfl, h0⟩ | ⟨m, rfl, hm⟩
            · have := hhas true
              rw [h0] at this
              have h2 : L.pcall 53 [.sl true 0 [], .int .i64 (q : Nat)] = some (.bool true) := this
              simp (maxSteps := 30000000) (disch := first | assumption | omega | (simp only [List.length_cons, List.length_nil, List.length_append, List.length_set, List.length_replicate, List.length_map, List.length_range, List.length_take, List.length_drop, List.all_cons, List.all_nil, AV.isCell, Bool.and_self, Bool.and_true, bs_length, is64_length, w64_length, ints_length, edges_length] <;> omega) | rfl | decide) only [a20l0b, run_seq, run_region, runOps_cons, oper_none, ex_mov, opv, List.getD_cons_succ, List.getD_cons_zero, putK_to, List.set_cons_succ, List.set_cons_zero, opsK_some, ex_faddr, faddrA_ptr, Nat.zero_add, valK_some, ex_load, rd_ptr, List.getElem?_cons_zero, rdK_cells, List.drop_succ_cons, List.drop_zero, List.take_succ_cons, List.take_nil, loadK_1, ex_len, lenA_sl, ex_bin, bin_lss, hlt, decide_true, runOps_nil, regK_some, seqK_normal, run_cond, condK_bool, run_skip, run_exit, if_true, run_block, ex_iaddr, iaddrA_sl, Int.toNat_natCast, rd_vptr, edges_at, b1, loadK_n, ex_box, AV.cells, List.all_cons, AV.isCell, List.all_nil, Bool.and_self, List.length_cons, List.cons_append, ex_store, List.length_nil, Nat.reduceAdd, wr_ptr, List.getElem?_cons_succ, hget0, wrK_cells, splice, List.take_zero, List.nil_append, List.drop_nil, List.append_nil, hset0, storeK_some, putK_no, bin_eql, oper_guard, guardK_bool, putA_to, Nat.add_zero, ex_call, List.map_cons, List.map_nil, pcallA_eq, frzN, List.mapM_cons, frz_sl, frz_int, List.mapM_nil, Option.pure_def, Option.bind_eq_bind, Option.bind_some, argK_some, hh, retK_some, scal, scal1, fzIds, List.flatMap_cons, bor_sl, bor_int, List.flatMap_nil, List.foldl_nil, ite_self, ex_pick, pickA_bool, hlet, h2, ex_un, un_not, Bool.not_true, Bool.false_eq_true, ex_bslice, beq_self_eq_true, repz_1, Nat.mul_one, fillA, Nat.le_refl, and_self, newK_some, newA_data, List.isEmpty_nil, slK_some, ex_append, src_sl, appK_nil, Nat.reduceBEq, newA_own, List.length_append, List.append_assoc, if_false, blockK_normal, bin_add, cadd1, wr64, loopK_normal, a20l0c, g1]
            · have hm2 : ∀ b, (T ++ [b])[m]? = some (.cells false false (ints (curL n.ed (inS sl) x q i))) := fun b => by rw [List.getElem?_append_left (List.getElem?_eq_some_iff.1 hm).1, hm]
              have h2 := hhas false
              simp (maxSteps := 30000000) (disch := first | assumption | omega | (simp only [List.length_cons, List.length_nil, List.length_append, List.length_set, List.length_replicate, List.length_map, List.length_range, List.length_take, List.length_drop, List.all_cons, List.all_nil, AV.isCell, Bool.and_self, Bool.and_true, bs_length, is64_length, w64_length, ints_length, edges_length] <;> omega) | rfl | decide) only [a20l0b, run_seq, run_region, runOps_cons, oper_none, ex_mov, opv, List.getD_cons_succ, List.getD_cons_zero, putK_to, List.set_cons_succ, List.set_cons_zero, opsK_some, ex_faddr, faddrA_ptr, Nat.zero_add, valK_some, ex_load, rd_ptr, List.getElem?_cons_zero, rdK_cells, List.drop_succ_cons, List.drop_zero, List.take_succ_cons, List.take_nil, loadK_1, ex_len, lenA_sl, ex_bin, bin_lss, hlt, decide_true, runOps_nil, regK_some, seqK_normal, run_cond, condK_bool, run_skip, run_exit, if_true, run_block, ex_iaddr, iaddrA_sl, Int.toNat_natCast, rd_vptr, edges_at, b1, loadK_n, ex_box, AV.cells, List.all_cons, AV.isCell, List.all_nil, Bool.and_self, List.length_cons, List.cons_append, ex_store, List.length_nil, Nat.reduceAdd, wr_ptr, List.getElem?_cons_succ, hget0, wrK_cells, splice, List.take_zero, List.nil_append, List.drop_nil, List.append_nil, hset0, storeK_some, putK_no, bin_eql, oper_guard, guardK_bool, putA_to, Nat.add_zero, ex_call, List.map_cons, List.map_nil, pcallA_eq, frzN, List.mapM_cons, frz_sl, frz_int, List.mapM_nil, Option.pure_def, Option.bind_eq_bind, Option.bind_some, argK_some, hh, retK_some, scal, scal1, fzIds, List.flatMap_cons, bor_sl, bor_int, List.flatMap_nil, List.foldl_nil, ite_self, ex_pick, pickA_bool, hlet, frz_own, hm2, frzK_cells, Nat.mul_one, ints_take, List.take_length, frz_ints, slK_some, h2, bor_own, borK_cells, bor_ints, List.foldl_cons, List.modify_cons, Nat.reduceEqDiff, fzBlk, if_false, ex_un, un_not, Bool.not_true, Bool.false_eq_true, ex_bslice, beq_self_eq_true, repz_1, fillA, Nat.le_refl, and_self, newK_some, newA_data, List.isEmpty_nil, ex_append, src_sl, appK_own, appOK_cells, Nat.reduceBEq, List.length_append, blockK_normal, bin_add, cadd1, wr64, loopK_normal, a20l0c, g1]
          | false =>
            rw [b4] at hhas
            have hnew : curL n.ed (inS sl) x q (i + 1) = curL n.ed (inS sl) x q i ++ [(q : Int)] := by
              unfold curL
              rw [htk, b4, hst]
              simp
            have hnl : (curL n.ed (inS sl) x q (i + 1)).length = (curL n.ed (inS sl) x q i).length + 1 := by rw [hnew]; simp
            have hni : ints (curL n.ed (inS sl) x q (i + 1)) = ints (curL n.ed (inS sl) x q i) ++ [AV.int .i64 (q : Nat)] := by rw [hnew, ← ints_app]; rfl
            rcases hO with ⟨rfl, h0⟩ | ⟨m, rfl, hm⟩
            · rw [h0] at hnl hni
              have := hhas true
              rw [h0] at this
              have h2 : L.pcall 53 [.sl true 0 [], .int .i64 (q : Nat)] = some (.bool false) := this
              obtain ⟨T', v', g1, g2⟩ := next (T ++ [.cells false false (encE (n.ed.getD i e0)), .cells false false (ints (curL n.ed (inS sl) x q (i + 1)))]) (.own false (T.length + 1 + 1) 0 1 1) (by omega) (.inr ⟨T.length + 1, by rw [hnl]; rfl, by simp⟩)
              refine ⟨T', v', ?_, g2⟩
              rw [hni] at g1
              simp only [encE, b1, ints_nil, List.nil_append] at g1
              rw [a20l0n]
              simp (maxSteps := 30000000) (disch := first | assumption | omega | (simp only [List.length_cons, List.length_nil, List.length_append, List.length_set, List.length_replicate, List.length_map, List.length_range, List.length_take, List.length_drop, List.all_cons, List.all_nil, AV.isCell, Bool.and_self, Bool.and_true, bs_length, is64_length, w64_length, ints_length, edges_length] <;> omega) | rfl | decide) only [a20l0b, run_seq, run_region, runOps_cons, oper_none, ex_mov, opv, List.getD_cons_succ, List.getD_cons_zero, putK_to, List.set_cons_succ, List.set_cons_zero, opsK_some, ex_faddr, faddrA_ptr, Nat.zero_add, valK_some, ex_load, rd_ptr, List.getElem?_cons_zero, rdK_cells, List.drop_succ_cons, List.drop_zero, List.take_succ_cons, List.take_nil, loadK_1, ex_len, lenA_sl, ex_bin, bin_lss, hlt, decide_true, runOps_nil, regK_some, seqK_normal, run_cond, condK_bool, run_skip, run_exit, if_true, run_block, ex_iaddr, iaddrA_sl, Int.toNat_natCast, rd_vptr, edges_at, b1, loadK_n, ex_box, AV.cells, List.all_cons, AV.isCell, List.all_nil, Bool.and_self, List.length_cons, List.cons_append, ex_store, List.length_nil, Nat.reduceAdd, wr_ptr, List.getElem?_cons_succ, hget0, wrK_cells, splice, List.take_zero, List.nil_append, List.drop_nil, List.append_nil, hset0, storeK_some, putK_no, bin_eql, oper_guard, guardK_bool, putA_to, Nat.add_zero, ex_call, List.map_cons, List.map_nil, pcallA_eq, frzN, List.mapM_cons, frz_sl, frz_int, List.mapM_nil, Option.pure_def, Option.bind_eq_bind, Option.bind_some, argK_some, hh, retK_some, scal, scal1, fzIds, List.flatMap_cons, bor_sl, bor_int, List.flatMap_nil, List.foldl_nil, ite_self, ex_pick, pickA_bool, hlet, h2, ex_un, un_not, Bool.not_false, ex_bslice, beq_self_eq_true, repz_1, Nat.mul_one, fillA, Nat.le_refl, and_self, newK_some, newA_data, List.isEmpty_nil, slK_some, ex_append, src_sl, appK_nil, Nat.reduceBEq, newA_own, List.length_append, List.append_assoc, blockK_normal, bin_add, cadd1, wr64, loopK_normal, a20l0c, g1]
            · have hml := (List.getElem?_eq_some_iff.1 hm).1
              have hm2 : ∀ b, (T ++ [b])[m]? = some (.cells false false (ints (curL n.ed (inS sl) x q i))) := fun b => by rw [List.getElem?_append_left hml, hm]
              have h2 := hhas false
              obtain ⟨T', v', g1, g2⟩ := next ((T ++ [Blk.cells false false (encE (n.ed.getD i e0))]).set m .dead ++ [.cells false false (ints (curL n.ed (inS sl) x q (i + 1)))]) (.own false (T.length + 1 + 1) 0 ((curL n.ed (inS sl) x q i).length + 1) 1) (by omega) (.inr ⟨T.length + 1, by rw [hnl], by simp⟩)
              refine ⟨T', v', ?_, g2⟩
              rw [hni] at g1
              simp only [encE, b1] at g1
              rw [a20l0n]
              simp (maxSteps := 30000000) (disch := first | assumption | omega | (simp only [List.length_cons, List.length_nil, List.length_append, List.length_set, List.length_replicate, List.length_map, List.length_range, List.length_take, List.length_drop, List.all_cons, List.all_nil, AV.isCell, Bool.and_self, Bool.and_true, bs_length, is64_length, w64_length, ints_length, edges_length] <;> omega) | rfl | decide) only [a20l0b, run_seq, run_region, runOps_cons, oper_none, ex_mov, opv, List.getD_cons_succ, List.getD_cons_zero, putK_to, List.set_cons_succ, List.set_cons_zero, opsK_some, ex_faddr, faddrA_ptr, Nat.zero_add, valK_some, ex_load, rd_ptr, List.getElem?_cons_zero, rdK_cells, List.drop_succ_cons, List.drop_zero, List.take_succ_cons, List.take_nil, loadK_1, ex_len, lenA_sl, ex_bin, bin_lss, hlt, decide_true, runOps_nil, regK_some, seqK_normal, run_cond, condK_bool, run_skip, run_exit, if_true, run_block, ex_iaddr, iaddrA_sl, Int.toNat_natCast, rd_vptr, edges_at, b1, loadK_n, ex_box, AV.cells, List.all_cons, AV.isCell, List.all_nil, Bool.and_self, List.length_cons, List.cons_append, ex_store, List.length_nil, Nat.reduceAdd, wr_ptr, List.getElem?_cons_succ, hget0, wrK_cells, splice, List.take_zero, List.nil_append, List.drop_nil, List.append_nil, hset0, storeK_some, putK_no, bin_eql, oper_guard, guardK_bool, putA_to, Nat.add_zero, ex_call, List.map_cons, List.map_nil, pcallA_eq, frzN, List.mapM_cons, frz_sl, frz_int, List.mapM_nil, Option.pure_def, Option.bind_eq_bind, Option.bind_some, argK_some, hh, retK_some, scal, scal1, fzIds, List.flatMap_cons, bor_sl, bor_int, List.flatMap_nil, List.foldl_nil, ite_self, ex_pick, pickA_bool, hlet, frz_own, hm2, frzK_cells, Nat.mul_one, ints_take, List.take_length, frz_ints, slK_some, h2, bor_own, borK_cells, bor_ints, List.foldl_cons, List.modify_cons, Nat.reduceEqDiff, fzBlk, if_false, ex_un, un_not, Bool.not_false, ex_bslice, beq_self_eq_true, repz_1, fillA, Nat.le_refl, and_self, newK_some, newA_data, List.isEmpty_nil, ex_append, src_sl, appK_own, appOK_cells, Nat.reduceBEq, List.length_append, blockK_normal, bin_add, cadd1, wr64, loopK_normal, a20l0c, g1]
    · have hs := skip (.inl (by
        unfold stepE
        have : decide (q = (n.ed.getD i e0).b.toNat) = false := by
          rw [decide_eq_false_iff_not]; have := hm.2.1.1; omega
        rw [this, Bool.and_false]))
      obtain ⟨T', v', g1, g2⟩ := next (T ++ [.cells false false (encE (n.ed.getD i e0))]) v (by omega) (by rw [hs]; exact hO.keep _)
      refine ⟨T', v', ?_, g2⟩
      simp only [encE] at g1
      rw [a20l0n]
      simp (maxSteps := 30000000) (disch := first | assumption | omega | (simp only [List.length_cons, List.length_nil, List.length_append, List.length_set, List.length_replicate, List.length_map, List.length_range, List.length_take, List.length_drop, List.all_cons, List.all_nil, AV.isCell, Bool.and_self, Bool.and_true, bs_length, is64_length, w64_length, ints_length, edges_length] <;> omega) | rfl | decide) only [a20l0b, run_seq, run_region, runOps_cons, oper_none, ex_mov, opv, List.getD_cons_succ, List.getD_cons_zero, putK_to, List.set_cons_succ, List.set_cons_zero, opsK_some, ex_faddr, faddrA_ptr, Nat.zero_add, valK_some, ex_load, rd_ptr, List.getElem?_cons_zero, rdK_cells, List.drop_succ_cons, List.drop_zero, List.take_succ_cons, List.take_nil, loadK_1, ex_len, lenA_sl, ex_bin, bin_lss, hlt, decide_true, runOps_nil, regK_some, seqK_normal, run_cond, condK_bool, run_skip, run_exit, if_true, run_block, ex_iaddr, iaddrA_sl, Int.toNat_natCast, rd_vptr, edges_at, loadK_n, ex_box, AV.cells, List.all_cons, AV.isCell, List.all_nil, Bool.and_self, List.length_cons, List.cons_append, ex_store, List.length_nil, Nat.reduceAdd, wr_ptr, List.getElem?_cons_succ, hget0, wrK_cells, splice, List.take_zero, List.nil_append, List.drop_nil, List.append_nil, hset0, storeK_some, putK_no, bin_eql, b1, decide_false, oper_guard, guardK_bool, Bool.false_eq_true, putA_to, if_false, Nat.add_zero, ex_call, List.map_cons, List.map_nil, pcallA_eq, frzN, List.mapM_cons, frz_tup, List.mapM_nil, Option.pure_def, Option.map_some, Option.bind_eq_bind, Option.bind_some, argK_some, ex_pick, pickA_bool, ex_un, ex_bslice, beq_self_eq_true, repz_1, Nat.mul_one, fillA, Nat.le_refl, and_self, newK_some, newA_data, List.flatMap_cons, bor_int, List.flatMap_nil, List.isEmpty_nil, frz_int, slK_some, ex_append, src_sl, blockK_normal, bin_add, cadd1, wr64, loopK_normal, a20l0c, g1]

theorem aft_out {n : Aut} {x N : Nat} {z : Bool} {sl : List Int} (hN : n.states = (N : Nat)) (hN2 : N ≤ 64) (hx : x < 256) (hsl : sl.length < 1099511627776) (hl : n.ed.length < 1099511627776) (hb : EdOk n.ed) : ∀ d q T v, q + d = N → OwnI 1 T v (lisL (stepS n.ed (inS sl) x) q) →
    ∃ T' v', L.loop a20l1s a20l1 ⟨a20l1F (iw z sl) (.int .u8 (x : Nat)) (.ptr 0 0) v (.int .i64 (q : Nat)), .cells false false n.cells :: T⟩ =
      some (.exit 0, ⟨a20l1F (iw z sl) (.int .u8 (x : Nat)) (.ptr 0 0) v' (.int .i64 (N : Nat)), .cells false false n.cells :: T'⟩) ∧ OwnI 1 T' v' (lisL (stepS n.ed (inS sl) x) N)
  | 0, q, T, v, h, hO => by
    obtain rfl : q = N := by omega
    refine ⟨T, v, ?_, hO⟩
    rw [a20l1n]
    simp (maxSteps := 30000000) (disch := first | assumption | omega | (simp only [List.length_cons, List.length_nil, List.length_append, List.length_set, List.length_replicate, List.length_map, List.length_range, List.length_take, List.length_drop, List.all_cons, List.all_nil, AV.isCell, Bool.and_self, Bool.and_true, bs_length, is64_length, w64_length, ints_length, edges_length] <;> omega) | rfl | decide) only [a20l1b, run_seq, run_region, runOps_cons, oper_none, ex_mov, opv, List.getD_cons_succ, List.getD_cons_zero, putK_to, List.set_cons_succ, List.set_cons_zero, opsK_some, ex_faddr, faddrA_ptr, Nat.zero_add, valK_some, ex_load, rd_ptr, List.getElem?_cons_zero, rdK_cells, List.drop_succ_cons, hN, List.drop_zero, List.take_succ_cons, List.take_zero, loadK_1, ex_bin, bin_lss, Int.lt_irrefl, decide_false, runOps_nil, regK_some, seqK_normal, run_cond, condK_bool, Bool.false_eq_true, run_skip, run_exit, if_false, seqK_exit, loopK_exit, a20l1c]
  | d + 1, q, T, v, h, hO => by
    have hlt : ((q : Nat) : Int) < ((N : Nat) : Int) := by omega
    have e0 : curL n.ed (inS sl) x q 0 = lisL (stepS n.ed (inS sl) x) q := by unfold curL; simp
    have e1 : curL n.ed (inS sl) x q n.ed.length = lisL (stepS n.ed (inS sl) x) (q + 1) := by
      unfold curL
      rw [lisL_succ, List.take_length]
      rfl
    obtain ⟨T1, v1, g1, g2⟩ := aft_in (n := n) (z := z) (q := q) hx hsl hl hb (by omega) n.ed.length 0 T v (by omega) (by rw [e0]; exact hO)
    rw [e1] at g2
    obtain ⟨T', v', g3, g4⟩ := aft_out (z := z) hN hN2 hx hsl hl hb d (q + 1) T1 v1 (by omega) g2
    refine ⟨T', v', ?_, g4⟩
    simp only [Int.natCast_zero] at g1
    rw [a20l1n]
    simp (maxSteps := 30000000) (disch := first | assumption | omega | (simp only [List.length_cons, List.length_nil, List.length_append, List.length_set, List.length_replicate, List.length_map, List.length_range, List.length_take, List.length_drop, List.all_cons, List.all_nil, AV.isCell, Bool.and_self, Bool.and_true, bs_length, is64_length, w64_length, ints_length, edges_length] <;> omega) | rfl | decide) only [a20l1b, run_seq, run_region, runOps_cons, oper_none, ex_mov, opv, List.getD_cons_succ, List.getD_cons_zero, putK_to, List.set_cons_succ, List.set_cons_zero, opsK_some, ex_faddr, faddrA_ptr, Nat.zero_add, valK_some, ex_load, rd_ptr, List.getElem?_cons_zero, rdK_cells, List.drop_succ_cons, hN, List.drop_zero, List.take_succ_cons, List.take_zero, loadK_1, ex_bin, bin_lss, hlt, decide_true, runOps_nil, regK_some, seqK_normal, run_cond, condK_bool, run_skip, run_exit, if_true, run_block, run_loop, a20l0c, g1, blockK_exit, blockK_normal, bin_add, cadd1, wr64, loopK_normal, a20l1c, g3]

theorem rafter_eq {n : Aut} {x : Nat} {z : Bool} {sl : List Int} (hv : Valid n) (hx : x < 256) (hsl : sl.length < 1099511627776) (hl : n.ed.length < 1099511627776) (hb : EdOk n.ed) :
    ∃ z', L.pcall 20 [n.av, iw z sl, .int .u8 (x : Nat)] = some (iw z' (lisL (stepS n.ed (inS sl) x) n.states.toNat)) := by
  have h0 := hv.s0
  have h64 := hv.s64
  obtain ⟨T', v', g1, g2⟩ := aft_out (n := n) (x := x) (N := n.states.toNat) (z := z) (by omega) (by omega) hx hsl hl hb n.states.toNat 0 [] (.sl true 0 []) (by omega) (.inl ⟨rfl, rfl⟩)
  simp only [Int.natCast_zero] at g1
  rcases g2 with ⟨rfl, e⟩ | ⟨k, rfl, hk⟩
  · refine ⟨true, ?_⟩
    rw [e, a20p, a20, pbodyA_eq]
    simp (maxSteps := 30000000) (disch := first | assumption | omega | (simp only [List.length_cons, List.length_nil, List.length_append, List.length_set, List.length_replicate, List.length_map, List.length_range, List.length_take, List.length_drop, List.all_cons, List.all_nil, AV.isCell, Bool.and_self, Bool.and_true, bs_length, is64_length, w64_length, ints_length, edges_length] <;> omega) | rfl | decide) only [bodyA_eq, List.length_cons, List.length_nil, Nat.zero_add, Nat.reduceAdd, Nat.reduceSub, pads, List.cons_append, List.nil_append, run_seq, run_region, runOps_cons, oper_none, ex_box, AV.cells, opv, List.getD_cons_zero, List.all_cons, AV.isCell, List.all_nil, Bool.and_self, if_true, putK_to, List.set_cons_succ, List.set_cons_zero, opsK_some, ex_mov, runOps_nil, regK_some, seqK_normal, run_block, run_loop, a20l1c, g1, blockK_exit, List.getD_cons_succ, run_ret, bodyK_ret, results_1, res_tmp, retvK_some, pbodyK_some, frzN, frz_sl]
    try rfl
  · refine ⟨false, ?_⟩
    rw [a20p, a20, pbodyA_eq]
    simp (maxSteps := 30000000) (disch := first | assumption | omega | (simp only [List.length_cons, List.length_nil, List.length_append, List.length_set, List.length_replicate, List.length_map, List.length_range, List.length_take, List.length_drop, List.all_cons, List.all_nil, AV.isCell, Bool.and_self, Bool.and_true, bs_length, is64_length, w64_length, ints_length, edges_length] <;> omega) | rfl | decide) only [bodyA_eq, List.length_cons, List.length_nil, Nat.zero_add, Nat.reduceAdd, Nat.reduceSub, pads, List.cons_append, List.nil_append, run_seq, run_region, runOps_cons, oper_none, ex_box, AV.cells, opv, List.getD_cons_zero, List.all_cons, AV.isCell, List.all_nil, Bool.and_self, if_true, putK_to, List.set_cons_succ, List.set_cons_zero, opsK_some, ex_mov, runOps_nil, regK_some, seqK_normal, run_block, run_loop, a20l1c, g1, blockK_exit, List.getD_cons_succ, run_ret, bodyK_ret, results_1, res_tmp, retvK_some, pbodyK_some, frzN, frz_own, List.getElem?_cons_succ, hk, frzK_cells, Nat.mul_one, List.drop_zero, ints_take, List.take_length, frz_ints, slK_some]

/-- the members of the list that After gives -/
theorem inS_lisL {ed : List Ed} {S : Nat → Bool} {x N : Nat} (h : ∀ e ∈ ed, 0 ≤ e.b ∧ e.b < (N : Int)) (j : Nat) : inS (lisL (stepS ed S x) N) j = stepS ed S x j := by
  unfold inS
  rw [Bool.eq_iff_iff, List.contains_iff_mem, mem_lisL]
  constructor
  · rintro ⟨i, h1, h2, h3⟩
    have : i = j := by omega
    rw [← this]; exact h2
  · intro hs
    refine ⟨j, ?_, hs, rfl⟩
    unfold stepS at hs
    obtain ⟨e, he, h2⟩ := List.any_eq_true.1 hs
    unfold stepE at h2
    simp only [Bool.and_eq_true, decide_eq_true_eq] at h2
    have := h e he
    omega

theorem lisL_range {S : Nat → Bool} {N : Nat} : ∀ q ∈ lisL S N, 0 ≤ q ∧ q < (N : Int) := by
  intro q hq
  obtain ⟨j, h1, h2, rfl⟩ := mem_lisL.1 hq
  omega

theorem Valid.edB {n : Aut} (h : Valid n) : ∀ e ∈ n.ed, 0 ≤ e.b ∧ e.b < ((n.states.toNat : Nat) : Int) := fun e he => by
  have := ed_ok (eds_ok h.ed e he)
  have := h.s0
  omega
end Go.Abs.Nfa
