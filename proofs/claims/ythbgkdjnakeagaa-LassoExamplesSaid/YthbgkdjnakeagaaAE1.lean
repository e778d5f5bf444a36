/- Take, as data. -/
import Derived.Test.YthbgkdjnakeagaaAF15
namespace Go.Abs.Lasso
set_option linter.unusedVariables false
set_option linter.unusedSimpArgs false
open Go Go.Abs

/-- the rounds of a range over 'letters' -/
inductive Rds (l : Nat) (f : Nat → AV) (N : Nat) (Inv : Heap → Prop) : Nat → Heap → Heap → Prop
  | done {i : Nat} {H : Heap} (h : N ≤ i) : Rds l f N Inv i H H
  | stop {i : Nat} {H H' : Heap} (h : i < N) (hr : L.icall (.yield l) [.int .i64 (i : Nat), f i] H = some (.bool false, H')) : Rds l f N Inv i H H'
  | next {i : Nat} {H H1 H' : Heap} (h : i < N) (hr : L.icall (.yield l) [.int .i64 (i : Nat), f i] H = some (.bool true, H1)) (hi : Inv H1) (k : Rds l f N Inv (i + 1) H1 H') : Rds l f N Inv i H H'

def PQ (z1 z2 : Bool) (p q : List Nat) (cb : Nat) (H : Heap) : Prop := ∃ fz z, H[cb]? = some (.cells fz z [word z1 p, word z2 q])

theorem loop50 {l cb N : Nat} {z1 z2 : Bool} {p q : List Nat} (hp : p.length < 1099511627776) (hq : q.length < 1099511627776) (hN : N < 1099511627776) {i : Nat} {H H' : Heap}
    (h : Rds l (fun i => .int .u8 (seqM p q i : Nat)) N (PQ z1 z2 p q cb) i H H') :
    PQ z1 z2 p q cb H → ∃ e i', (e = .exit 0 ∨ e = .ret) ∧ L.loop a50l0s a50l0 ⟨a50l0F (.yield l) (.ptr cb 0) (.int .i64 (N : Nat)) (.int .i64 (i : Nat)), H⟩ = some (e, ⟨a50l0F (.yield l) (.ptr cb 0) (.int .i64 (N : Nat)) (.int .i64 (i' : Nat)), H'⟩) := by
  induction h with
  | @done i H h =>
    rintro ⟨fz, z, hH⟩
    have hlt : ¬ ((i : Int) < (N : Nat)) := by omega
    refine ⟨.exit 0, i, .inl rfl, ?_⟩
    rw [a50l0n]
    simp (maxSteps := 30000000) (disch := first | assumption | omega | (simp only [List.length_cons, List.length_nil, List.length_append, List.length_set, List.length_replicate, List.length_map, List.length_range, List.length_take, List.length_drop, List.all_cons, List.all_nil, AV.isCell, Bool.and_self, Bool.and_true, bs_length, is64_length] <;> omega) | rfl | decide) only [a50l0b, run_seq, run_region, runOps_cons, oper_none, ex_bin, opv, List.getD_cons_succ, List.getD_cons_zero, bin_lss, hlt, decide_false, valK_some, putK_to, List.set_cons_succ, List.set_cons_zero, opsK_some, runOps_nil, regK_some, seqK_normal, run_cond, condK_bool, Bool.false_eq_true, run_skip, run_exit, if_false, seqK_exit, loopK_exit, a50l0c]
  | @stop i H H' h hr =>
    rintro ⟨fz, z, hH⟩
    have hlt : ((i : Int) < (N : Nat)) := by omega
    have hat := atn_eq z1 z2 p q i hp hq (by omega)
    refine ⟨.ret, i, .inr rfl, ?_⟩
    rw [a50l0n]
    simp (maxSteps := 30000000) (disch := first | assumption | omega | (simp only [List.length_cons, List.length_nil, List.length_append, List.length_set, List.length_replicate, List.length_map, List.length_range, List.length_take, List.length_drop, List.all_cons, List.all_nil, AV.isCell, Bool.and_self, Bool.and_true, bs_length, is64_length] <;> omega) | rfl | decide) only [a50l0b, run_seq, run_region, runOps_cons, oper_none, ex_bin, opv, List.getD_cons_succ, List.getD_cons_zero, bin_lss, hlt, decide_true, valK_some, putK_to, List.set_cons_succ, List.set_cons_zero, opsK_some, runOps_nil, regK_some, seqK_normal, run_cond, condK_bool, run_skip, run_exit, if_true, run_block, ex_mov, ex_load, rd_ptr, hH, rdK_cells, List.drop_zero, List.take_succ_cons, List.take_nil, loadK_n, ex_call, List.map_cons, List.map_nil, pcallA_eq, frzN, List.mapM_cons, frz_agg, frz_sl, List.mapM_nil, Option.pure_def, Option.bind_eq_bind, Option.bind_some, Option.map_some, frz_int, argK_some, hat, retK_some, scal, scal1, fzIds, List.flatMap_cons, bor_agg, bor_sl, List.flatMap_nil, List.append_nil, bor_int, List.foldl_nil, ite_self, ex_icall, hr, ex_un, un_not, Bool.not_false, run_ret, blockK_ret, seqK_ret, loopK_ret, a50l0c]
  | @next i H H1 H' h hr hi k ih =>
    rintro ⟨fz, z, hH⟩
    have hlt : ((i : Int) < (N : Nat)) := by omega
    have hat := atn_eq z1 z2 p q i hp hq (by omega)
    obtain ⟨e, i', he, hl⟩ := ih hi
    refine ⟨e, i', he, ?_⟩
    rw [a50l0n]
    simp (maxSteps := 30000000) (disch := first | assumption | omega | (simp only [List.length_cons, List.length_nil, List.length_append, List.length_set, List.length_replicate, List.length_map, List.length_range, List.length_take, List.length_drop, List.all_cons, List.all_nil, AV.isCell, Bool.and_self, Bool.and_true, bs_length, is64_length] <;> omega) | rfl | decide) only [a50l0b, run_seq, run_region, runOps_cons, oper_none, ex_bin, opv, List.getD_cons_succ, List.getD_cons_zero, bin_lss, hlt, decide_true, valK_some, putK_to, List.set_cons_succ, List.set_cons_zero, opsK_some, runOps_nil, regK_some, seqK_normal, run_cond, condK_bool, run_skip, run_exit, if_true, run_block, ex_mov, ex_load, rd_ptr, hH, rdK_cells, List.drop_zero, List.take_succ_cons, List.take_nil, loadK_n, ex_call, List.map_cons, List.map_nil, pcallA_eq, frzN, List.mapM_cons, frz_agg, frz_sl, List.mapM_nil, Option.pure_def, Option.bind_eq_bind, Option.bind_some, Option.map_some, frz_int, argK_some, hat, retK_some, scal, scal1, fzIds, List.flatMap_cons, bor_agg, bor_sl, List.flatMap_nil, List.append_nil, bor_int, List.foldl_nil, ite_self, ex_icall, hr, ex_un, un_not, Bool.not_true, Bool.false_eq_true, run_ret, if_false, blockK_normal, bin_add, cadd1, wr64, loopK_normal, a50l0c, hl]

theorem letters1_eq {l nb cb : Nat} {n : Int} {z1 z2 : Bool} {p q : List Nat} (hp : p.length < 1099511627776) (hq : q.length < 1099511627776) (hN : n.toNat < 1099511627776) {H H' : Heap} {fz z : Bool}
    (hn : H[nb]? = some (.cells fz z [.int .i64 n])) (hI : PQ z1 z2 p q cb H)
    (h : Rds l (fun i => .int .u8 (seqM p q i : Nat)) n.toNat (PQ z1 z2 p q cb) 0 H H') :
    L.icall (.func 50 [.ptr nb 0, .ptr cb 0]) [.yield l] H = some (.tup [], H') := by
  have hm : max n 0 = ((n.toNat : Nat) : Int) := by omega
  obtain ⟨e, i', he, hl⟩ := loop50 hp hq hN h hI
  change L.loop a50l0s a50l0 ⟨a50l0F (.yield l) (.ptr cb 0) (.int .i64 (n.toNat : Nat)) (.int .i64 0), H⟩ = _ at hl
  rw [a50i, a50]
  rcases he with rfl | rfl
  · simp (maxSteps := 30000000) (disch := first | assumption | omega | (simp only [List.length_cons, List.length_nil, List.length_append, List.length_set, List.length_replicate, List.length_map, List.length_range, List.length_take, List.length_drop, List.all_cons, List.all_nil, AV.isCell, Bool.and_self, Bool.and_true, bs_length, is64_length] <;> omega) | rfl | decide) only [List.cons_append, List.nil_append, bodyA_eq, List.length_cons, List.length_nil, Nat.zero_add, Nat.reduceAdd, Nat.reduceSub, pads, run_seq, run_region, runOps_cons, oper_none, ex_load, opv, List.getD_cons_succ, List.getD_cons_zero, rd_ptr, hn, rdK_cells, List.drop_zero, List.take_succ_cons, List.take_nil, loadK_1, valK_some, putK_to, List.set_cons_succ, List.set_cons_zero, opsK_some, ex_maxi, maxA_int, hm, ex_mov, runOps_nil, regK_some, seqK_normal, run_block, run_loop, a50l0c, hl, blockK_exit, if_true, bodyK_normal, results_0, retvK_some]
  · simp (maxSteps := 30000000) (disch := first | assumption | omega | (simp only [List.length_cons, List.length_nil, List.length_append, List.length_set, List.length_replicate, List.length_map, List.length_range, List.length_take, List.length_drop, List.all_cons, List.all_nil, AV.isCell, Bool.and_self, Bool.and_true, bs_length, is64_length] <;> omega) | rfl | decide) only [List.cons_append, List.nil_append, bodyA_eq, List.length_cons, List.length_nil, Nat.zero_add, Nat.reduceAdd, Nat.reduceSub, pads, run_seq, run_region, runOps_cons, oper_none, ex_load, opv, List.getD_cons_succ, List.getD_cons_zero, rd_ptr, hn, rdK_cells, List.drop_zero, List.take_succ_cons, List.take_nil, loadK_1, valK_some, putK_to, List.set_cons_succ, List.set_cons_zero, opsK_some, ex_maxi, maxA_int, hm, ex_mov, runOps_nil, regK_some, seqK_normal, run_block, run_loop, a50l0c, hl, blockK_ret, bodyK_ret, results_0, retvK_some]

theorem letters_eq (z1 z2 : Bool) (p q : List Nat) (n : Int) (H : Heap) : L.icall (.func 44 []) [las z1 z2 p q, .int .i64 n] H =
    some (.func 50 [.ptr (H.length + 1) 0, .ptr H.length 0], H ++ [.cells false false [word z1 p, word z2 q], .cells false false [.int .i64 n]]) := by
  rw [a44i, a44]
  simp (maxSteps := 30000000) (disch := first | assumption | omega | (simp only [List.length_cons, List.length_nil, List.length_append, List.length_set, List.length_replicate, List.length_map, List.length_range, List.length_take, List.length_drop, List.all_cons, List.all_nil, AV.isCell, Bool.and_self, Bool.and_true, bs_length, is64_length] <;> omega) | rfl | decide) only [List.append_nil, bodyA_eq, List.length_cons, List.length_nil, Nat.zero_add, Nat.reduceAdd, Nat.reduceSub, pads, List.cons_append, List.nil_append, run_seq, run_region, runOps_cons, oper_none, ex_box, AV.cells, opv, List.getD_cons_zero, List.all_cons, AV.isCell, List.all_nil, Bool.and_self, if_true, putK_to, List.set_cons_succ, List.set_cons_zero, opsK_some, List.getD_cons_succ, List.length_append, List.append_assoc, ex_mov, runOps_nil, regK_some, seqK_normal, ex_mkfunc, List.map_cons, List.map_nil, run_ret, bodyK_ret, results_1, res_tmp, retvK_some]

/-- Take's frame within its range -/
abbrev F22 (s0 s1 s2 s3 s5 s6 s7 s8 s9 s10 s11 s12 s13 s14 s15 s16 s17 : AV) : List AV := [s0, s1, s2, s3, .ptr 1 0, s5, s6, s7, s8, s9, s10, s11, s12, s13, s14, s15, s16, s17]

section
variable (s0 s1 s2 s3 s5 s6 s7 s8 s9 s10 s11 s12 s13 s14 s15 s16 s17 : AV)
/-- the heap of Take behind i rounds -/
def takeH (b0 b2 b3 : Blk) (f : Nat → Nat) (i : Nat) : Heap :=
  match i with
  | 0 => [b0, .cells false false [.sl true 0 []], b2, b3, .loop 0 none (F22 s0 s1 s2 s3 s5 s6 s7 s8 s9 s10 s11 s12 s13 s14 s15 s16 s17) [11, 12] a22r0a a22r0]
  | k + 1 => b0 :: .cells false false [.own false (k + 5) 0 (k + 1) 1] :: b2 :: b3 :: .loop 0 none (F22 s0 s1 s2 s3 s5 s6 s7 s8 s9 s10 s11 s12 s13 s14 s15 s16 s17) [11, 12] a22r0a a22r0 :: (List.replicate k .dead ++ [.cells false false (bs (takeM f (k + 1)))])

theorem dead_get (k : Nat) (l : Heap) : (List.replicate k Blk.dead ++ l)[k]? = l[0]? := by
  have := hget0 (List.replicate k Blk.dead) l
  rwa [List.length_replicate] at this
theorem dead_set (k : Nat) (l : Heap) (b : Blk) : (List.replicate k Blk.dead ++ l).set k b = List.replicate k Blk.dead ++ l.set 0 b := by
  have := hset0 (List.replicate k Blk.dead) l b
  rwa [List.length_replicate] at this

theorem take_round (b0 b2 b3 : Blk) (f : Nat → Nat) (i : Nat) (hi : i < 1099511627776) :
    L.icall (.yield 4) [.int .i64 (i : Nat), .int .u8 (f i : Nat)] (takeH s0 s1 s2 s3 s5 s6 s7 s8 s9 s10 s11 s12 s13 s14 s15 s16 s17 b0 b2 b3 f i) = some (.bool true, takeH s0 s1 s2 s3 s5 s6 s7 s8 s9 s10 s11 s12 s13 s14 s15 s16 s17 b0 b2 b3 f (i + 1)) := by
  cases i with
  | zero =>
    rw [lim_round_eq]
    unfold takeH
    rw [roundA_eq (hH := rfl) (h1 := rfl) (h2 := rfl) (h3 := rfl)]
    have hx : bs (takeM f (0 + 1)) = [.int .u8 (f 0 : Nat)] := rfl
    simp (maxSteps := 30000000) (disch := first | assumption | omega | (simp only [List.length_cons, List.length_nil, List.length_append, List.length_set, List.length_replicate, List.length_map, List.length_range, List.length_take, List.length_drop, List.all_cons, List.all_nil, AV.isCell, Bool.and_self, Bool.and_true, bs_length, is64_length] <;> omega) | rfl | decide) only [castLit, List.zip_cons_cons, List.zip_nil_right, List.foldl_cons, List.set_cons_succ, List.set_cons_zero, List.foldl_nil, a22r0an, a22r0ab, run_region, runOps_cons, oper_none, ex_mov, opv, List.getD_cons_succ, List.getD_cons_zero, putK_to, opsK_some, runOps_nil, regK_some, roundAsg_normal, List.getElem?_cons_succ, List.getElem?_cons_zero, roundMid_some, a22r0n, a22r0b, run_block, ex_load, rd_ptr, rdK_cells, List.drop_zero, List.take_succ_cons, List.take_nil, loadK_1, valK_some, ex_bslice, AV.cells, List.all_cons, List.length_cons, List.length_nil, Nat.zero_add, beq_self_eq_true, List.all_nil, Bool.and_self, repz_1, List.append_nil, Nat.mul_one, List.map_cons, List.map_nil, fillA, Nat.le_refl, AV.isCell, and_self, splice, List.take_zero, List.nil_append, List.drop_succ_cons, List.drop_nil, if_true, newK_some, newA_data, frzN, List.flatMap_cons, bor_int, List.flatMap_nil, List.isEmpty_nil, List.mapM_cons, frz_int, List.mapM_nil, Option.pure_def, Option.bind_eq_bind, Option.bind_some, slK_some, ex_append, src_sl, appK_nil, Nat.reduceBEq, newA_own, Nat.reduceAdd, List.cons_append, ex_store, wr_ptr, wrK_cells, storeK_some, putK_no, blockK_normal, roundBody_some, roundEnd_normal, hx]
    rfl
  | succ k =>
    rw [lim_round_eq]
    unfold takeH
    rw [roundA_eq (hH := rfl) (h1 := rfl) (h2 := rfl) (h3 := rfl)]
    have hx : bs (takeM f (k + 1 + 1)) = bs (takeM f (k + 1)) ++ [.int .u8 (f (k + 1) : Nat)] := by rw [← takeM_succ, ← bs_app]; rfl
    have hlen := takeM_length f (k + 1)
    simp (maxSteps := 30000000) (disch := first | assumption | omega | (simp only [List.length_cons, List.length_nil, List.length_append, List.length_set, List.length_replicate, List.length_map, List.length_range, List.length_take, List.length_drop, List.all_cons, List.all_nil, AV.isCell, Bool.and_self, Bool.and_true, bs_length, is64_length] <;> omega) | rfl | decide) only [List.zip_cons_cons, List.zip_nil_right, List.foldl_cons, List.set_cons_succ, List.set_cons_zero, List.foldl_nil, a22r0an, a22r0ab, run_region, runOps_cons, oper_none, ex_mov, opv, List.getD_cons_succ, List.getD_cons_zero, putK_to, opsK_some, runOps_nil, regK_some, roundAsg_normal, List.getElem?_cons_succ, List.getElem?_cons_zero, roundMid_some, a22r0n, a22r0b, run_block, ex_load, rd_ptr, rdK_cells, List.drop_zero, List.take_succ_cons, List.take_nil, loadK_1, valK_some, ex_bslice, AV.cells, List.all_cons, List.length_cons, List.length_nil, Nat.zero_add, beq_self_eq_true, List.all_nil, Bool.and_self, repz_1, List.append_nil, Nat.mul_one, List.map_cons, List.map_nil, fillA, Nat.le_refl, AV.isCell, and_self, splice, List.take_zero, List.nil_append, List.drop_succ_cons, List.drop_nil, if_true, newK_some, newA_data, frzN, List.flatMap_cons, bor_int, List.flatMap_nil, List.isEmpty_nil, List.mapM_cons, frz_int, List.mapM_nil, Option.pure_def, Option.bind_eq_bind, Option.bind_some, slK_some, ex_append, src_sl, appK_own, dead_get, appOK_cells, Nat.reduceBEq, List.length_append, List.length_replicate, dead_set, bs_take, List.cons_append, List.append_assoc, ex_store, wr_ptr, wrK_cells, storeK_some, putK_no, blockK_normal, roundBody_some, roundEnd_normal]
    rw [hx, List.take_of_length_le (by omega), List.replicate_succ']
    simp

theorem takeH_2 (b0 b2 b3 : Blk) (f : Nat → Nat) (i : Nat) : (takeH s0 s1 s2 s3 s5 s6 s7 s8 s9 s10 s11 s12 s13 s14 s15 s16 s17 b0 b2 b3 f i)[2]? = some b2 := by cases i <;> rfl
theorem takeH_3 (b0 b2 b3 : Blk) (f : Nat → Nat) (i : Nat) : (takeH s0 s1 s2 s3 s5 s6 s7 s8 s9 s10 s11 s12 s13 s14 s15 s16 s17 b0 b2 b3 f i)[3]? = some b3 := by cases i <;> rfl

theorem take_rounds (b0 b3 : Blk) (z1 z2 : Bool) (p q : List Nat) (N : Nat) (hN : N < 1099511627776) : ∀ (d i : Nat), i + d = N →
    Rds 4 (fun i => .int .u8 (seqM p q i : Nat)) N (PQ z1 z2 p q 2) i (takeH s0 s1 s2 s3 s5 s6 s7 s8 s9 s10 s11 s12 s13 s14 s15 s16 s17 b0 (.cells false false [word z1 p, word z2 q]) b3 (seqM p q) i) (takeH s0 s1 s2 s3 s5 s6 s7 s8 s9 s10 s11 s12 s13 s14 s15 s16 s17 b0 (.cells false false [word z1 p, word z2 q]) b3 (seqM p q) N)
  | 0, i, h => by
    obtain rfl : i = N := by omega
    exact .done (Nat.le_refl _)
  | d + 1, i, h => .next (by omega) (take_round s0 s1 s2 s3 s5 s6 s7 s8 s9 s10 s11 s12 s13 s14 s15 s16 s17 b0 _ b3 (seqM p q) i (by omega)) ⟨false, false, takeH_2 ..⟩ (take_rounds b0 b3 z1 z2 p q N hN d (i + 1) (by omega))

theorem take_range (b0 : Blk) (z1 z2 : Bool) (p q : List Nat) (n : Int) (hp : p.length < 1099511627776) (hq : q.length < 1099511627776) (hN : n.toNat < 1099511627776) :
    L.icall (.func 50 [.ptr 3 0, .ptr 2 0]) [.yield 4] [b0, .cells false false [.sl true 0 []], .cells false false [word z1 p, word z2 q], .cells false false [.int .i64 n], .loop 0 none (F22 s0 s1 s2 s3 s5 s6 s7 s8 s9 s10 s11 s12 s13 s14 s15 s16 s17) [11, 12] a22r0a a22r0] =
      some (.tup [], takeH s0 s1 s2 s3 s5 s6 s7 s8 s9 s10 s11 s12 s13 s14 s15 s16 s17 b0 (.cells false false [word z1 p, word z2 q]) (.cells false false [.int .i64 n]) (seqM p q) n.toNat) :=
  letters1_eq (n := n) hp hq hN rfl ⟨false, false, rfl⟩ (take_rounds s0 s1 s2 s3 s5 s6 s7 s8 s9 s10 s11 s12 s13 s14 s15 s16 s17 b0 _ z1 z2 p q n.toNat hN n.toNat 0 (by omega))
end

theorem take_eq (z1 z2 : Bool) (p q : List Nat) (n : Int) (hp : p.length < 1099511627776) (hq : q.length < 1099511627776) : ∃ z, L.pcall 22 [las z1 z2 p q, .int .i64 n] = some (word z (takeM (seqM p q) (min n 4096).toNat)) := by
  have hr := fun s0 s1 s2 s3 s5 s6 s7 s8 s9 s10 s11 s12 s13 s14 s15 s16 s17 b0 => take_range s0 s1 s2 s3 s5 s6 s7 s8 s9 s10 s11 s12 s13 s14 s15 s16 s17 b0 z1 z2 p q (min n 4096) hp hq (by omega)
  generalize hM : (min n 4096).toNat = N at *
  cases N with
  | zero =>
    refine ⟨true, ?_⟩
    simp only [takeH] at hr
    rw [a22p, a22, pbodyA_eq]
    simp (maxSteps := 30000000) (disch := first | assumption | omega | (simp only [List.length_cons, List.length_nil, List.length_append, List.length_set, List.length_replicate, List.length_map, List.length_range, List.length_take, List.length_drop, List.all_cons, List.all_nil, AV.isCell, Bool.and_self, Bool.and_true, bs_length, is64_length] <;> omega) | rfl | decide) only [bodyA_eq, List.length_cons, List.length_nil, Nat.zero_add, Nat.reduceAdd, Nat.reduceSub, pads, List.cons_append, List.nil_append, run_seq, run_region, runOps_cons, oper_none, ex_box, AV.cells, opv, List.getD_cons_zero, List.all_cons, AV.isCell, List.all_nil, Bool.and_self, if_true, putK_to, List.set_cons_succ, List.set_cons_zero, opsK_some, runOps_nil, regK_some, seqK_normal, ex_load, List.getD_cons_succ, rd_ptr, List.getElem?_cons_zero, rdK_cells, List.drop_zero, List.take_succ_cons, List.take_nil, loadK_n, valK_some, ex_mov, ex_mini, minA_int, ex_icall, List.map_cons, List.map_nil, letters_eq, run_block, run_range, rangeK_func, hr, rangeEnd_some, List.getElem?_cons_succ, rangeOut_0, blockK_normal, loadK_1, ex_store, wr_ptr, wrK_cells, splice, List.take_zero, List.drop_succ_cons, List.drop_nil, List.append_nil, storeK_some, putK_no, run_ret, bodyK_ret, results_1, res_cell, cellK_some, mkv_1, retvK_some, pbodyK_some, frzN, frz_sl]
    rfl
  | succ k =>
    refine ⟨false, ?_⟩
    simp only [takeH] at hr
    have hlen := takeM_length (seqM p q) (k + 1)
    rw [a22p, a22, pbodyA_eq]
    simp (maxSteps := 30000000) (disch := first | assumption | omega | (simp only [List.length_cons, List.length_nil, List.length_append, List.length_set, List.length_replicate, List.length_map, List.length_range, List.length_take, List.length_drop, List.all_cons, List.all_nil, AV.isCell, Bool.and_self, Bool.and_true, bs_length, is64_length] <;> omega) | rfl | decide) only [bodyA_eq, List.length_cons, List.length_nil, Nat.zero_add, Nat.reduceAdd, Nat.reduceSub, pads, List.cons_append, List.nil_append, run_seq, run_region, runOps_cons, oper_none, ex_box, AV.cells, opv, List.getD_cons_zero, List.all_cons, AV.isCell, List.all_nil, Bool.and_self, if_true, putK_to, List.set_cons_succ, List.set_cons_zero, opsK_some, runOps_nil, regK_some, seqK_normal, ex_load, List.getD_cons_succ, rd_ptr, List.getElem?_cons_zero, rdK_cells, List.drop_zero, List.take_succ_cons, List.take_nil, loadK_n, valK_some, ex_mov, ex_mini, minA_int, ex_icall, List.map_cons, List.map_nil, letters_eq, run_block, run_range, rangeK_func, hr, rangeEnd_some, List.getElem?_cons_succ, rangeOut_0, blockK_normal, loadK_1, ex_store, wr_ptr, wrK_cells, splice, List.take_zero, List.drop_succ_cons, List.drop_nil, List.append_nil, storeK_some, putK_no, run_ret, bodyK_ret, results_1, res_cell, cellK_some, mkv_1, retvK_some, pbodyK_some, frzN, frz_own, dead_get, frzK_cells, Nat.mul_one, bs_take, frz_bs, slK_some]
    rw [List.take_of_length_le (by omega), sl_word hlen]

end Go.Abs.Lasso
