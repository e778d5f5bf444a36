/- OnesCount64's walk; Len; the list of a set is what its words hold, in ascending order. -/
import Derived.Test.YtbfnjdhafgnlnaaDoorAT4
namespace Go.Abs.NfaD
open Go Go.Abs
set_option linter.unusedSimpArgs false
set_option linter.unusedVariables false

theorem shrN (a n : Nat) (hn : n ≤ 64) : (a : Int).fdiv (2 ^ (min n IntKind.u64.bits)) = ((a / 2 ^ n : Nat) : Int) := by
  have e1 : min n IntKind.u64.bits = n := Nat.min_eq_left (by show n ≤ 64; omega)
  rw [e1, show (2 : Int) ^ n = ((2 ^ n : Nat) : Int) from by rw [Int.natCast_pow]; rfl, Int.fdiv_eq_ediv_of_nonneg _ (Int.natCast_nonneg _)]
  rfl

theorem ones_walk {x p1 p2 p3 p4 p5 p6 p7 p9 y2 y3 y4 p10 p11 y5 r : Nat} (e1 : (x : Int).fdiv (2 ^ (min 1 IntKind.u64.bits)) = (p1 : Int)) (e2 : bitsA .and .u64 (p1 : Int) 6148914691236517205 = (p2 : Int)) (e3 : bitsA .and .u64 (x : Int) 6148914691236517205 = (p3 : Int))
    (e4 : ((p2 + p3 : Nat) : Int).fdiv (2 ^ (min 2 IntKind.u64.bits)) = (p4 : Int)) (e5 : bitsA .and .u64 (p4 : Int) 3689348814741910323 = (p5 : Int)) (e6 : bitsA .and .u64 ((p2 + p3 : Nat) : Int) 3689348814741910323 = (p6 : Int)) (e60 : p5 + p6 = y2)
    (e7 : (y2 : Int).fdiv (2 ^ (min 4 IntKind.u64.bits)) = (p7 : Int)) (e8 : bitsA .and .u64 ((p7 + y2 : Nat) : Int) 1085102592571150095 = (y3 : Int))
    (e9 : (y3 : Int).fdiv (2 ^ (min 8 IntKind.u64.bits)) = (p9 : Int)) (e90 : y3 + p9 = y4) (e10 : (y4 : Int).fdiv (2 ^ (min 16 IntKind.u64.bits)) = (p10 : Int)) (e100 : y4 + p10 = y5) (e11 : (y5 : Int).fdiv (2 ^ (min 32 IntKind.u64.bits)) = (p11 : Int))
    (e12 : bitsA .and .i64 ((y5 + p11 : Nat) : Int) 127 = (r : Int)) (b1 : p2 + p3 < 18446744073709551616) (b2 : y2 < 18446744073709551616) (b3 : p7 + y2 < 18446744073709551616) (b4 : y4 < 18446744073709551616) (b5 : y5 < 18446744073709551616) (b6 : y5 + p11 < 9223372036854775808) :
    L.pcall 63 [.int .u64 (x : Nat)] = some (.int .i64 (r : Nat)) := by
  rw [a63p, a63, pbodyA_eq]
  simp (maxSteps := 30000000) (disch := first | assumption | omega | (simp only [List.length_cons, List.length_nil, List.length_append, List.length_set, List.length_replicate, List.length_map, List.length_range, List.length_take, List.length_drop, List.all_cons, List.all_nil, AV.isCell, Bool.and_self, Bool.and_true, bs_length, is64_length, w64_length, ints_length] <;> omega) | rfl | decide) only [bodyA_eq, List.length_cons, List.length_nil, Nat.zero_add, Nat.reduceSub, pads, List.cons_append, List.nil_append, run_seq, run_region, runOps_cons, oper_none, ex_mov, opv, putK_to, List.set_cons_succ, List.set_cons_zero, opsK_some, runOps_nil, regK_some, seqK_normal, List.getD_cons_zero, ex_bin, List.getD_cons_succ, bin_shr, Int.toNat_one, e1, valK_some, bin_and, e2, e3, bin_add, cadd, wrU64, Int.reduceToNat, e4, e5, e6, e60, e7, e8, e9, e90, e10, e100, e11, ex_conv, convA_int, wr64, e12, run_ret, bodyK_ret, results_1, res_tmp, retvK_some, pbodyK_some, frzN, frz_int]

theorem toN_le {l : List Nat} {c : Nat} (h : ∀ b ∈ l, b ≤ c) : toN l ≤ c * mk 1 l.length := by
  induction l with
  | nil => simp [toN, mk]
  | cons b l ih =>
    have h1 := h b (by simp)
    have h2 := ih (fun x hx => h x (by simp [hx]))
    simp only [toN, List.length_cons, mk]
    rw [Nat.mul_add, Nat.mul_one, Nat.mul_left_comm]
    omega

theorem ones63 {x : Nat} (hx : x < 18446744073709551616) : L.pcall 63 [.int .u64 (x : Nat)] = some (.int .i64 (popN x 64 : Nat)) := by
  have hb := bytes_byt 8 x
  have hlen := bytes_len 8 x
  have hxe := toN_bytes 8 x (by omega)
  generalize bytes x 8 = l at *
  have s1 := st1 l hb
  have hb1 : Byt (l.map t1) := by
    intro c hc
    obtain ⟨b, hb', rfl⟩ := List.mem_map.1 hc
    exact (d4 ⟨b, hb b hb'⟩).1
  have s2 := st2 (l.map t1) hb1
  have hb2 : Nib ((l.map t1).map t2) := by
    intro c hc
    obtain ⟨b1, hb1', rfl⟩ := List.mem_map.1 hc
    obtain ⟨b, hb', rfl⟩ := List.mem_map.1 hb1'
    have := d4 ⟨b, hb b hb'⟩
    exact ⟨this.2.1, this.2.2.1⟩
  have s3 := st3 ((l.map t1).map t2) hb2
  have hp := pop_bytes l hb
  have hb3 : ∀ c ∈ ((l.map t1).map t2).map t3, c ≤ 8 := by
    intro c hc
    obtain ⟨b2, hb2', rfl⟩ := List.mem_map.1 hc
    obtain ⟨b1, hb1', rfl⟩ := List.mem_map.1 hb2'
    obtain ⟨b, hb', rfl⟩ := List.mem_map.1 hb1'
    exact (d4 ⟨b, hb b hb'⟩).2.2.2.1
  have n1 := toN_le (c := 255) (fun b hb' => by have := hb1 b hb'; omega)
  have n2 := toN_le (c := 68) (fun b hb' => by have := (hb2 b hb').1; omega)
  have l1 : (l.map t1).length = 8 := by rw [List.length_map, hlen]
  have l2 : ((l.map t1).map t2).length = 8 := by rw [List.length_map, l1]
  have l3 : (((l.map t1).map t2).map t3).length = 8 := by rw [List.length_map, l2]
  rw [hlen, hxe] at s1
  rw [l1] at s2 n1
  rw [l2] at s3 n2
  rw [hlen, hxe] at hp
  rw [show mk 85 8 = 6148914691236517205 by decide] at s1
  rw [show mk 51 8 = 3689348814741910323 by decide] at s2
  rw [show mk 15 8 = 1085102592571150095 by decide] at s3
  rw [show mk 1 8 = 72340172838076673 by decide] at n1 n2
  rw [← s1] at s2
  rw [← s2] at s3
  rw [← s1] at n1
  rw [← s2] at n2
  rw [show 8 * 8 = 64 from rfl] at hp
  generalize ((l.map t1).map t2).map t3 = cs at *
  match cs, l3 with
  | [c0, c1, c2, c3, c4, c5, c6, c7], _ =>
    obtain ⟨g1, g2⟩ := sum8 (hb3 c0 (by simp)) (hb3 c1 (by simp)) (hb3 c2 (by simp)) (hb3 c3 (by simp)) (hb3 c4 (by simp)) (hb3 c5 (by simp)) (hb3 c6 (by simp)) (hb3 c7 (by simp)) rfl rfl rfl rfl
    simp only [sumB] at hp
    rw [hp] at g2
    have hc0 : toN [c0, c1, c2, c3, c4, c5, c6, c7] = c0 + 256 * (c1 + 256 * (c2 + 256 * (c3 + 256 * (c4 + 256 * (c5 + 256 * (c6 + 256 * (c7 + 256 * 0))))))) := rfl
    rw [← hc0, ← s3] at g1 g2
    have q2 := Nat.and_le_left (n := x / 2) (m := 6148914691236517205)
    have q3 := Nat.and_le_left (n := x) (m := 6148914691236517205)
    generalize ha : x / 2 &&& 6148914691236517205 = p2 at *
    generalize hbb : x &&& 6148914691236517205 = p3 at *
    have q5 := Nat.and_le_left (n := (p2 + p3) / 4) (m := 3689348814741910323)
    generalize hc : (p2 + p3) / 4 &&& 3689348814741910323 = p5 at *
    generalize hd : (p2 + p3) &&& 3689348814741910323 = p6 at *
    generalize hy2 : p5 + p6 = y2 at *
    have q7 := Nat.and_le_left (n := y2 / 16 + y2) (m := 1085102592571150095)
    generalize hy3 : (y2 / 16 + y2) &&& 1085102592571150095 = y3 at *
    refine ones_walk (x := x) (p1 := x / 2) (p2 := p2) (p3 := p3) (p4 := (p2 + p3) / 4) (p5 := p5) (p6 := p6) (p7 := y2 / 16) (p9 := y3 / 256) (y2 := y2) (y3 := y3) (y4 := y3 + y3 / 256) (p10 := (y3 + y3 / 256) / 65536) (y5 := y3 + y3 / 256 + (y3 + y3 / 256) / 65536) (p11 := (y3 + y3 / 256 + (y3 + y3 / 256) / 65536) / 4294967296)
      (shrN x 1 (by omega)) ?_ ?_ (shrN _ 2 (by omega)) ?_ ?_ hy2 (shrN _ 4 (by omega)) ?_ (shrN _ 8 (by omega)) rfl (shrN _ 16 (by omega)) rfl (shrN _ 32 (by omega)) ?_ (by omega) (by omega) (by omega) (by omega) (by omega) g1
    · have := and64 (a := x / 2) (b := 6148914691236517205) (by omega) (by omega)
      rw [ha] at this; exact this
    · have := and64 (a := x) (b := 6148914691236517205) (by omega) (by omega)
      rw [hbb] at this; exact this
    · have := and64 (a := (p2 + p3) / 4) (b := 3689348814741910323) (by omega) (by omega)
      rw [hc] at this; exact this
    · have := and64 (a := p2 + p3) (b := 3689348814741910323) (by omega) (by omega)
      rw [hd] at this; exact this
    · have := and64 (a := y2 / 16 + y2) (b := 1085102592571150095) (by omega) (by omega)
      rw [hy3] at this; exact this
    · generalize y3 + y3 / 256 + (y3 + y3 / 256) / 65536 + (y3 + y3 / 256 + (y3 + y3 / 256) / 65536) / 4294967296 = t at *
      rw [← g2]
      have h1 : (BitVec.ofInt 64 (t : Int)).toNat = t := by simp; omega
      change IntKind.i64.wrap (((BitVec.ofInt 64 (t : Int) &&& BitVec.ofInt 64 ((127 : Nat) : Int)).toNat : Nat) : Int) = _
      rw [BitVec.toNat_and, h1, bitN64 (by omega), show (127 : Nat) = 2 ^ 7 - 1 from rfl, Nat.and_two_pow_sub_one_eq_mod]
      exact wr64 (by omega) (by omega)
end Go.Abs.NfaD
