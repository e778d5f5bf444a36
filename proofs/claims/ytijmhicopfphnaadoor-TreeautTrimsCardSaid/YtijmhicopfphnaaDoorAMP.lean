/- OnesCount64: the number of bits of a word. -/
import Derived.Test.YtijmhicopfphnaaDoorAMN
namespace Go.Abs.Tree
open Go Go.Abs
set_option linter.unusedSimpArgs false
set_option linter.unusedVariables false

/-- bytes, the low one first -/
def toN : List Nat → Nat
  | [] => 0
  | b :: l => b + 256 * toN l
def mk (p : Nat) : Nat → Nat
  | 0 => 0
  | n + 1 => p + 256 * mk p n

theorem and_split {a c : Nat} (X M : Nat) (ha : a < 256) (hc : c < 256) : (a + 256 * X) &&& (c + 256 * M) = (a &&& c) + 256 * (X &&& M) := by
  have hac : a &&& c < 2 ^ 8 := Nat.lt_of_le_of_lt Nat.and_le_left ha
  apply Nat.eq_of_testBit_eq
  intro i
  rw [show a + 256 * X = 2 ^ 8 * X + a by omega, show c + 256 * M = 2 ^ 8 * M + c by omega, show (a &&& c) + 256 * (X &&& M) = 2 ^ 8 * (X &&& M) + (a &&& c) by omega, Nat.testBit_and,
    Nat.testBit_two_pow_mul_add _ (by omega : a < 2 ^ 8), Nat.testBit_two_pow_mul_add _ (by omega : c < 2 ^ 8), Nat.testBit_two_pow_mul_add _ hac]
  split <;> rw [Nat.testBit_and]

def t1 (b : Nat) : Nat := (b / 2 &&& 85) + (b &&& 85)
def t2 (b : Nat) : Nat := (b / 4 &&& 51) + (b &&& 51)
def t3 (b : Nat) : Nat := b / 16 + b % 16
def Byt (l : List Nat) : Prop := ∀ b ∈ l, b < 256

theorem d1 : ∀ (b : Fin 256) (r : Fin 2), (b.val / 2 + 128 * r.val) &&& 85 = b.val / 2 &&& 85 := by decide +kernel
theorem d2 : ∀ (b : Fin 256) (r : Fin 4), (b.val / 4 + 64 * r.val) &&& 51 = b.val / 4 &&& 51 := by decide +kernel
theorem d3 : ∀ (b : Fin 69) (r : Fin 5), b.val % 16 ≤ 4 → (b.val / 16 + 16 * r.val + b.val) &&& 15 = b.val / 16 + b.val % 16 := by decide +kernel
theorem d4 : ∀ b : Fin 256, t1 b.val < 256 ∧ t2 (t1 b.val) < 69 ∧ t2 (t1 b.val) % 16 ≤ 4 ∧ t3 (t2 (t1 b.val)) ≤ 8 ∧ t3 (t2 (t1 b.val)) = ((List.range 8).filter fun i => b.val.testBit i).length := by decide +kernel

theorem st1 : ∀ l : List Nat, Byt l → (toN l / 2 &&& mk 85 l.length) + (toN l &&& mk 85 l.length) = toN (l.map t1)
  | [], _ => rfl
  | b :: l, h => by
    have hb := h b (by simp)
    have ih := st1 l (fun c hc => h c (by simp [hc]))
    have e := d1 ⟨b, hb⟩ ⟨toN l % 2, by omega⟩
    simp only at e
    simp only [toN, List.map_cons, List.length_cons, mk, t1]
    rw [show (b + 256 * toN l) / 2 = (b / 2 + 128 * (toN l % 2)) + 256 * (toN l / 2) by omega, and_split _ _ (by omega) (by omega), and_split _ _ hb (by omega), e, ← ih]
    omega

theorem st2 : ∀ l : List Nat, Byt l → (toN l / 4 &&& mk 51 l.length) + (toN l &&& mk 51 l.length) = toN (l.map t2)
  | [], _ => rfl
  | b :: l, h => by
    have hb := h b (by simp)
    have ih := st2 l (fun c hc => h c (by simp [hc]))
    have e := d2 ⟨b, hb⟩ ⟨toN l % 4, by omega⟩
    simp only at e
    simp only [toN, List.map_cons, List.length_cons, mk, t2]
    rw [show (b + 256 * toN l) / 4 = (b / 4 + 64 * (toN l % 4)) + 256 * (toN l / 4) by omega, and_split _ _ (by omega) (by omega), and_split _ _ hb (by omega), e, ← ih]
    omega

def Nib (l : List Nat) : Prop := ∀ b ∈ l, b < 69 ∧ b % 16 ≤ 4
theorem nib_mod {l : List Nat} (h : Nib l) : toN l % 16 ≤ 4 := by
  cases l with
  | nil => simp [toN]
  | cons b l => have := (h b (by simp)).2; simp only [toN]; omega

theorem st3 : ∀ l : List Nat, Nib l → (toN l / 16 + toN l) &&& mk 15 l.length = toN (l.map t3)
  | [], _ => rfl
  | b :: l, h => by
    have hb := h b (by simp)
    have hl : Nib l := fun c hc => h c (by simp [hc])
    have ih := st3 l hl
    have hm := nib_mod hl
    have e := d3 ⟨b, hb.1⟩ ⟨toN l % 16, by omega⟩ hb.2
    simp only at e
    simp only [toN, List.map_cons, List.length_cons, mk, t3]
    rw [show (b + 256 * toN l) / 16 + (b + 256 * toN l) = (b / 16 + 16 * (toN l % 16) + b) + 256 * (toN l / 16 + toN l) by omega, and_split _ _ (by omega) (by omega), e, ← ih]

/-- the bytes of a word -/
def bytes : Nat → Nat → List Nat
  | _, 0 => []
  | x, n + 1 => x % 256 :: bytes (x / 256) n
theorem bytes_len : ∀ n x, (bytes x n).length = n
  | 0, x => rfl
  | n + 1, x => by simp [bytes, bytes_len n]
theorem bytes_byt : ∀ n x, Byt (bytes x n)
  | 0, x => by intro b hb; simp [bytes] at hb
  | n + 1, x => by
    intro b hb
    rcases List.mem_cons.1 hb with rfl | hb
    · exact Nat.mod_lt _ (by omega)
    · exact bytes_byt n _ b hb
theorem toN_bytes : ∀ n x, x < 256 ^ n → toN (bytes x n) = x
  | 0, x, h => by simp at h; subst h; rfl
  | n + 1, x, h => by
    rw [bytes, toN, toN_bytes n (x / 256) (by rw [Nat.pow_succ] at h; exact Nat.div_lt_of_lt_mul (by rw [Nat.mul_comm]; exact h))]
    omega

def sumB : List Nat → Nat
  | [] => 0
  | b :: l => b + sumB l

/-- how many of the first n bits are set -/
def popN (x n : Nat) : Nat := ((List.range n).filter fun i => x.testBit i).length
theorem popN_split (b X n : Nat) (hb : b < 256) : popN (b + 256 * X) (8 + n) = popN b 8 + popN X n := by
  unfold popN
  rw [List.range_add, List.filter_append, List.length_append, List.filter_map, List.length_map]
  have ht : ∀ i, (b + 256 * X).testBit i = if i < 8 then b.testBit i else X.testBit (i - 8) := fun i => by
    rw [show b + 256 * X = 2 ^ 8 * X + b by omega, Nat.testBit_two_pow_mul_add _ (by omega : b < 2 ^ 8)]
  congr 2
  · apply List.filter_congr
    intro i hi
    rw [ht, if_pos (List.mem_range.1 hi)]
  · apply List.filter_congr
    intro i hi
    show (b + 256 * X).testBit (8 + i) = _
    rw [ht, if_neg (by omega), show 8 + i - 8 = i by omega]

theorem pop_bytes : ∀ l : List Nat, Byt l → sumB (((l.map t1).map t2).map t3) = popN (toN l) (8 * l.length)
  | [], _ => rfl
  | b :: l, h => by
    have hb := h b (by simp)
    have := (d4 ⟨b, hb⟩).2.2.2.2
    simp only at this
    simp only [List.map_cons, sumB, toN, List.length_cons]
    rw [Nat.mul_add, Nat.mul_one, Nat.add_comm (8 * l.length) 8, popN_split b _ _ hb, pop_bytes l (fun c hc => h c (by simp [hc])), this]
    rfl

theorem sum8 {c0 c1 c2 c3 c4 c5 c6 c7 w w1 w2 w3 : Nat} (h0 : c0 ≤ 8) (h1 : c1 ≤ 8) (h2 : c2 ≤ 8) (h3 : c3 ≤ 8) (h4 : c4 ≤ 8) (h5 : c5 ≤ 8) (h6 : c6 ≤ 8) (h7 : c7 ≤ 8)
    (e : w = c0 + 256 * (c1 + 256 * (c2 + 256 * (c3 + 256 * (c4 + 256 * (c5 + 256 * (c6 + 256 * (c7 + 256 * 0)))))))) (e1 : w1 = w + w / 256) (e2 : w2 = w1 + w1 / 65536) (e3 : w3 = w2 + w2 / 4294967296) :
    w3 < 9223372036854775808 ∧ w3 % 128 = c0 + (c1 + (c2 + (c3 + (c4 + (c5 + (c6 + (c7 + 0))))))) := by
  have q1 : w / 256 = c1 + 256 * (c2 + 256 * (c3 + 256 * (c4 + 256 * (c5 + 256 * (c6 + 256 * c7))))) := by clear e1 e2 e3; omega
  have f1 : w1 = (c0 + c1) + 256 * ((c1 + c2) + 256 * ((c2 + c3) + 256 * ((c3 + c4) + 256 * ((c4 + c5) + 256 * ((c5 + c6) + 256 * ((c6 + c7) + 256 * c7)))))) := by rw [e1, q1, e]; clear q1 e e1 e2 e3; omega
  clear q1 e e1
  have q2 : w1 / 65536 = (c2 + c3) + 256 * ((c3 + c4) + 256 * ((c4 + c5) + 256 * ((c5 + c6) + 256 * ((c6 + c7) + 256 * c7)))) := by clear e2 e3; omega
  have f2 : w2 = (c0 + c1 + c2 + c3) + 256 * ((c1 + c2 + c3 + c4) + 256 * ((c2 + c3 + c4 + c5) + 256 * ((c3 + c4 + c5 + c6) + 256 * ((c4 + c5 + c6 + c7) + 256 * ((c5 + c6 + c7) + 256 * ((c6 + c7) + 256 * c7)))))) := by rw [e2, q2, f1]; clear q2 f1 e2 e3; omega
  clear q2 f1 e2
  have q3 : w2 / 4294967296 = (c4 + c5 + c6 + c7) + 256 * ((c5 + c6 + c7) + 256 * ((c6 + c7) + 256 * c7)) := by clear e3; omega
  rw [e3, q3, f2]
  clear q3 f2 e3
  omega
end Go.Abs.Tree

/- OnesCount64's walk; Len; the list of a set is what its words hold, in ascending order. -/
namespace Go.Abs.Tree
open Go Go.Abs
set_option linter.unusedSimpArgs false
set_option linter.unusedVariables false

theorem shrP (a n : Nat) (hn : n ≤ 64) : (a : Int).fdiv (2 ^ (min n IntKind.u64.bits)) = ((a / 2 ^ n : Nat) : Int) := by
  have e1 : min n IntKind.u64.bits = n := Nat.min_eq_left (by show n ≤ 64; omega)
  rw [e1, show (2 : Int) ^ n = ((2 ^ n : Nat) : Int) from by rw [Int.natCast_pow]; rfl, Int.fdiv_eq_ediv_of_nonneg _ (Int.natCast_nonneg _)]
  rfl

theorem ones_walk {x p1 p2 p3 p4 p5 p6 p7 p9 y2 y3 y4 p10 p11 y5 r : Nat} (e1 : (x : Int).fdiv (2 ^ (min 1 IntKind.u64.bits)) = (p1 : Int)) (e2 : bitsA .and .u64 (p1 : Int) 6148914691236517205 = (p2 : Int)) (e3 : bitsA .and .u64 (x : Int) 6148914691236517205 = (p3 : Int))
    (e4 : ((p2 + p3 : Nat) : Int).fdiv (2 ^ (min 2 IntKind.u64.bits)) = (p4 : Int)) (e5 : bitsA .and .u64 (p4 : Int) 3689348814741910323 = (p5 : Int)) (e6 : bitsA .and .u64 ((p2 + p3 : Nat) : Int) 3689348814741910323 = (p6 : Int)) (e60 : p5 + p6 = y2)
    (e7 : (y2 : Int).fdiv (2 ^ (min 4 IntKind.u64.bits)) = (p7 : Int)) (e8 : bitsA .and .u64 ((p7 + y2 : Nat) : Int) 1085102592571150095 = (y3 : Int))
    (e9 : (y3 : Int).fdiv (2 ^ (min 8 IntKind.u64.bits)) = (p9 : Int)) (e90 : y3 + p9 = y4) (e10 : (y4 : Int).fdiv (2 ^ (min 16 IntKind.u64.bits)) = (p10 : Int)) (e100 : y4 + p10 = y5) (e11 : (y5 : Int).fdiv (2 ^ (min 32 IntKind.u64.bits)) = (p11 : Int))
    (e12 : bitsA .and .i64 ((y5 + p11 : Nat) : Int) 127 = (r : Int)) (b1 : p2 + p3 < 18446744073709551616) (b2 : y2 < 18446744073709551616) (b3 : p7 + y2 < 18446744073709551616) (b4 : y4 < 18446744073709551616) (b5 : y5 < 18446744073709551616) (b6 : y5 + p11 < 9223372036854775808) :
    L.pcall 74 [.int .u64 (x : Nat)] = some (.int .i64 (r : Nat)) := by
  rw [a74p, a74, pbodyA_eq]
  simp (maxSteps := 30000000) (disch := first | assumption | omega | (simp only [List.length_cons, List.length_nil, List.length_append, List.length_set, List.length_replicate, List.length_map, List.length_range, List.length_take, List.length_drop, List.all_cons, List.all_nil, AV.isCell, Bool.and_self, Bool.and_true, bs_length, is64_length, w64_length, ints_length] <;> omega) | rfl | decide) only [bodyA_eq, List.length_cons, List.length_nil, Nat.zero_add, Nat.reduceSub, pads, List.cons_append, List.nil_append, run_seq, run_region, runOps_cons, oper_none, ex_mov, opv, putK_to, List.set_cons_succ, List.set_cons_zero, opsK_some, runOps_nil, regK_some, seqK_normal, List.getD_cons_zero, ex_bin, List.getD_cons_succ, bin_shr, Int.toNat_one, e1, valK_some, bin_and, e2, e3, bin_add, cadd, wrU64, Int.reduceToNat, e4, e5, e6, e60, e7, e8, e9, e90, e10, e100, e11, ex_conv, convA_int, wr64, e12, run_ret, bodyK_ret, results_1, res_tmp, retvK_some, pbodyK_some, frzN, frz_int]

theorem toN_le {l : List Nat} {c : Nat} (h : ∀ b ∈ l, b ≤ c) : toN l ≤ c * mk 1 l.length := by
  induction l with
  | nil => simp [toN, mk]
  | cons b l ih =>
    have h1 := h b (by simp)
    have h2 := ih (fun x hx => h x (by simp [hx]))
    simp only [toN, List.length_cons, mk]
    rw [Nat.mul_add, Nat.mul_one, Nat.mul_left_comm]
    omega

theorem ones74 {x : Nat} (hx : x < 18446744073709551616) : L.pcall 74 [.int .u64 (x : Nat)] = some (.int .i64 (popN x 64 : Nat)) := by
  have hb := bytes_byt 8 x
  have hlen := bytes_len 8 x
  have hxe := toN_bytes 8 x (by omega)
  generalize bytes x 8 = l at *
  have s1 := st1 l hb
  have hb1 : Byt (l.map t1) := by
    intro c hc
    obtain ⟨b, hb', rfl⟩ := List.mem_map.1 hc
    exact (d4 ⟨b, hb b hb'⟩).1
  have s2 := st2 (l.map t1) hb1
  have hb2 : Nib ((l.map t1).map t2) := by
    intro c hc
    obtain ⟨b1, hb1', rfl⟩ := List.mem_map.1 hc
    obtain ⟨b, hb', rfl⟩ := List.mem_map.1 hb1'
    have := d4 ⟨b, hb b hb'⟩
    exact ⟨this.2.1, this.2.2.1⟩
  have s3 := st3 ((l.map t1).map t2) hb2
  have hp := pop_bytes l hb
  have hb3 : ∀ c ∈ ((l.map t1).map t2).map t3, c ≤ 8 := by
    intro c hc
    obtain ⟨b2, hb2', rfl⟩ := List.mem_map.1 hc
    obtain ⟨b1, hb1', rfl⟩ := List.mem_map.1 hb2'
    obtain ⟨b, hb', rfl⟩ := List.mem_map.1 hb1'
    exact (d4 ⟨b, hb b hb'⟩).2.2.2.1
  have n1 := toN_le (c := 255) (fun b hb' => by have := hb1 b hb'; omega)
  have n2 := toN_le (c := 68) (fun b hb' => by have := (hb2 b hb').1; omega)
  have l1 : (l.map t1).length = 8 := by rw [List.length_map, hlen]
  have l2 : ((l.map t1).map t2).length = 8 := by rw [List.length_map, l1]
  have l3 : (((l.map t1).map t2).map t3).length = 8 := by rw [List.length_map, l2]
  rw [hlen, hxe] at s1
  rw [l1] at s2 n1
  rw [l2] at s3 n2
  rw [hlen, hxe] at hp
  rw [show mk 85 8 = 6148914691236517205 by decide] at s1
  rw [show mk 51 8 = 3689348814741910323 by decide] at s2
  rw [show mk 15 8 = 1085102592571150095 by decide] at s3
  rw [show mk 1 8 = 72340172838076673 by decide] at n1 n2
  rw [← s1] at s2
  rw [← s2] at s3
  rw [← s1] at n1
  rw [← s2] at n2
  rw [show 8 * 8 = 64 from rfl] at hp
  generalize ((l.map t1).map t2).map t3 = cs at *
  match cs, l3 with
  | [c0, c1, c2, c3, c4, c5, c6, c7], _ =>
    obtain ⟨g1, g2⟩ := sum8 (hb3 c0 (by simp)) (hb3 c1 (by simp)) (hb3 c2 (by simp)) (hb3 c3 (by simp)) (hb3 c4 (by simp)) (hb3 c5 (by simp)) (hb3 c6 (by simp)) (hb3 c7 (by simp)) rfl rfl rfl rfl
    simp only [sumB] at hp
    rw [hp] at g2
    have hc0 : toN [c0, c1, c2, c3, c4, c5, c6, c7] = c0 + 256 * (c1 + 256 * (c2 + 256 * (c3 + 256 * (c4 + 256 * (c5 + 256 * (c6 + 256 * (c7 + 256 * 0))))))) := rfl
    rw [← hc0, ← s3] at g1 g2
    have q2 := Nat.and_le_left (n := x / 2) (m := 6148914691236517205)
    have q3 := Nat.and_le_left (n := x) (m := 6148914691236517205)
    generalize ha : x / 2 &&& 6148914691236517205 = p2 at *
    generalize hbb : x &&& 6148914691236517205 = p3 at *
    have q5 := Nat.and_le_left (n := (p2 + p3) / 4) (m := 3689348814741910323)
    generalize hc : (p2 + p3) / 4 &&& 3689348814741910323 = p5 at *
    generalize hd : (p2 + p3) &&& 3689348814741910323 = p6 at *
    generalize hy2 : p5 + p6 = y2 at *
    have q7 := Nat.and_le_left (n := y2 / 16 + y2) (m := 1085102592571150095)
    generalize hy3 : (y2 / 16 + y2) &&& 1085102592571150095 = y3 at *
    refine ones_walk (x := x) (p1 := x / 2) (p2 := p2) (p3 := p3) (p4 := (p2 + p3) / 4) (p5 := p5) (p6 := p6) (p7 := y2 / 16) (p9 := y3 / 256) (y2 := y2) (y3 := y3) (y4 := y3 + y3 / 256) (p10 := (y3 + y3 / 256) / 65536) (y5 := y3 + y3 / 256 + (y3 + y3 / 256) / 65536) (p11 := (y3 + y3 / 256 + (y3 + y3 / 256) / 65536) / 4294967296)
      (shrP x 1 (by omega)) ?_ ?_ (shrP _ 2 (by omega)) ?_ ?_ hy2 (shrP _ 4 (by omega)) ?_ (shrP _ 8 (by omega)) rfl (shrP _ 16 (by omega)) rfl (shrP _ 32 (by omega)) ?_ (by omega) (by omega) (by omega) (by omega) (by omega) g1
    · have := and64 (a := x / 2) (b := 6148914691236517205) (by omega) (by omega)
      rw [ha] at this; exact this
    · have := and64 (a := x) (b := 6148914691236517205) (by omega) (by omega)
      rw [hbb] at this; exact this
    · have := and64 (a := (p2 + p3) / 4) (b := 3689348814741910323) (by omega) (by omega)
      rw [hc] at this; exact this
    · have := and64 (a := p2 + p3) (b := 3689348814741910323) (by omega) (by omega)
      rw [hd] at this; exact this
    · have := and64 (a := y2 / 16 + y2) (b := 1085102592571150095) (by omega) (by omega)
      rw [hy3] at this; exact this
    · generalize y3 + y3 / 256 + (y3 + y3 / 256) / 65536 + (y3 + y3 / 256 + (y3 + y3 / 256) / 65536) / 4294967296 = t at *
      rw [← g2]
      have h1 : (BitVec.ofInt 64 (t : Int)).toNat = t := by simp; omega
      change IntKind.i64.wrap (((BitVec.ofInt 64 (t : Int) &&& BitVec.ofInt 64 ((127 : Nat) : Int)).toNat : Nat) : Int) = _
      rw [BitVec.toNat_and, h1, bitN64 (by omega), show (127 : Nat) = 2 ^ 7 - 1 from rfl, Nat.and_two_pow_sub_one_eq_mod]
      exact wr64 (by omega) (by omega)
end Go.Abs.Tree

/- Len. -/
namespace Go.Abs.Tree
open Go Go.Abs
set_option linter.unusedSimpArgs false
set_option linter.unusedVariables false

/-- the sum of the words' numbers of bits -/
def popSum (a : List Nat) : Nat → Nat
  | 0 => 0
  | n + 1 => popSum a n + popN (a.getD n 0) 64

theorem popN_le (x n : Nat) : popN x n ≤ n := by
  unfold popN
  exact Nat.le_trans (List.length_filter_le _ _) (by simp)
theorem popSum_le (a : List Nat) : ∀ n, popSum a n ≤ 64 * n
  | 0 => by simp [popSum]
  | n + 1 => by have := popSum_le a n; have := popN_le (a.getD n 0) 64; simp only [popSum]; omega

theorem popSum_elems (a : List Nat) : ∀ n, n ≤ 64 → popSum a n = ((List.range (64 * n)).filter (mem a)).length
  | 0, _ => by simp [popSum]
  | n + 1, h => by
    rw [popSum, popSum_elems a n (by omega), Nat.mul_add, Nat.mul_one, List.range_add, List.filter_append, List.length_append, List.filter_map, List.length_map]
    congr 1
    unfold popN
    congr 1
    apply List.filter_congr
    intro b hb
    have hb' := List.mem_range.1 hb
    show _ = mem a (64 * n + b)
    unfold mem
    rw [show (64 * n + b) / 64 = n by omega, show (64 * n + b) % 64 = b by omega]
    simp [show 64 * n + b < 4096 by omega]

theorem len_loop {z : Bool} {a : List Nat} (wa : W a) (hl : a.length ≤ 64) : ∀ d i, i + d = a.length →
    L.loop a37l0s a37l0 ⟨a37l0F (.int .i64 (popSum a i : Nat)) (sw z a) (.int .i64 (a.length : Nat)) (.int .i64 (i : Nat)), []⟩ =
      some (.exit 0, ⟨a37l0F (.int .i64 (popSum a a.length : Nat)) (sw z a) (.int .i64 (a.length : Nat)) (.int .i64 (a.length : Nat)), []⟩)
  | 0, i, h => by
    obtain rfl : i = a.length := by omega
    rw [a37l0n]
    simp (maxSteps := 30000000) (disch := first | assumption | omega | (simp only [List.length_cons, List.length_nil, List.length_append, List.length_set, List.length_replicate, List.length_map, List.length_range, List.length_take, List.length_drop, List.all_cons, List.all_nil, AV.isCell, Bool.and_self, Bool.and_true, bs_length, is64_length, w64_length, ints_length] <;> omega) | rfl | decide) only [a37l0b, run_seq, run_region, runOps_cons, oper_none, ex_bin, opv, List.getD_cons_succ, List.getD_cons_zero, bin_lss, Int.lt_irrefl, decide_false, valK_some, putK_to, List.set_cons_succ, List.set_cons_zero, opsK_some, runOps_nil, regK_some, seqK_normal, run_cond, condK_bool, Bool.false_eq_true, ↓reduceIte, run_exit, seqK_exit, loopK_exit, a37l0c]
  | d + 1, i, h => by
    have hlt : (i : Int) < (a.length : Nat) := by omega
    have ih := len_loop (z := z) wa hl d (i + 1) (by omega)
    have hp := ones74 (wa.get i)
    have h1 := popSum_le a i
    have h2 := popN_le (a.getD i 0) 64
    simp only [popSum] at ih
    rw [a37l0n]
    generalize popN (a.getD i 0) 64 = p at *
    generalize popSum a i = q at *
    simp (maxSteps := 30000000) (disch := first | assumption | omega | (simp only [List.length_cons, List.length_nil, List.length_append, List.length_set, List.length_replicate, List.length_map, List.length_range, List.length_take, List.length_drop, List.all_cons, List.all_nil, AV.isCell, Bool.and_self, Bool.and_true, bs_length, is64_length, w64_length, ints_length] <;> omega) | rfl | decide) only [a37l0b, run_seq, run_region, runOps_cons, oper_none, ex_bin, opv, List.getD_cons_succ, List.getD_cons_zero, bin_lss, hlt, decide_true, valK_some, putK_to, List.set_cons_succ, List.set_cons_zero, opsK_some, runOps_nil, regK_some, seqK_normal, run_cond, condK_bool, ↓reduceIte, run_skip, run_block, ex_iaddr, iaddrA_sl, Int.toNat_natCast, Nat.mul_one, ex_load, rd_vptr, w64_drop, w64_take, w64_at0, drop_getD, Nat.add_zero, loadK_1, ex_mov, ex_call, List.map_cons, List.map_nil, pcallA_eq, frzN, List.mapM_cons, frz_int, List.mapM_nil, Option.pure_def, Option.bind_eq_bind, Option.bind_some, argK_some, hp, retK_some, scal, scal1, bin_add, cadd, wr64, blockK_normal, cadd1, loopK_normal, a37l0c, ih]

/-- the numbers of S below 4096 -/
def cntS (S : Nat → Bool) : Nat := ((List.range 4096).filter S).length
theorem popSum_cnt (b : List Nat) (hl : b.length ≤ 64) : popSum b b.length = cntS (mem b) := by
  rw [popSum_elems b _ hl]
  unfold cntS
  have e : List.range 4096 = List.range (64 * b.length) ++ (List.range (4096 - 64 * b.length)).map (64 * b.length + ·) := by
    rw [← List.range_add, show 64 * b.length + (4096 - 64 * b.length) = 4096 by omega]
  have h2 : ((List.range (4096 - 64 * b.length)).map (64 * b.length + ·)).filter (mem b) = [] := by
    rw [List.filter_eq_nil_iff]
    intro j hj
    obtain ⟨i, _, rfl⟩ := List.mem_map.1 hj
    have : b.length ≤ (64 * b.length + i) / 64 := by omega
    unfold mem
    rw [getD_out this]
    simp
  rw [e, List.filter_append, h2, List.append_nil]
theorem cnt_below {R : Nat} (hR : R ≤ 4096) : cntS (fun j => decide (j < R)) = R := by
  have g : ∀ n, ((List.range n).filter (fun j => decide (j < R))).length = min n R := fun n => by
    induction n with
    | zero => simp
    | succ n ih =>
      rw [List.range_succ, List.filter_append, List.length_append, ih]
      by_cases c : n < R
      · simp [c]; omega
      · simp [c]; omega
  unfold cntS
  rw [g]; omega

theorem len_has {v : AV} {S : Nat → Bool} (hv : HasSet v S) : L.pcall 37 [v] = some (.int .i64 (cntS S : Nat)) := by
  obtain ⟨za, a, rfl, wa, la, ha⟩ := id hv
  obtain ⟨z, h⟩ := union_raw (za := za) (zb := true) (b := []) wa (fun x hx => by simp at hx) la (by simp)
  have hcan : L.pcall 73 [sw za a] = some (sw z (combM (· ||| ·) a [])) := by
    rw [a73p, a73, pbodyA_eq]
    have h' : L.pcall 95 [sw za a, .sl true 0 []] = _ := h
    simp (maxSteps := 30000000) (disch := first | assumption | omega | (simp only [List.length_cons, List.length_nil, List.length_append, List.length_set, List.length_replicate, List.length_map, List.length_range, List.length_take, List.length_drop, List.all_cons, List.all_nil, AV.isCell, Bool.and_self, Bool.and_true, bs_length, is64_length, w64_length, ints_length] <;> omega) | rfl | decide) only [bodyA_eq, List.length_cons, List.length_nil, Nat.zero_add, Nat.reduceSub, pads, List.cons_append, List.nil_append, run_seq, run_region, runOps_cons, oper_none, ex_mov, opv, putK_to, List.set_cons_succ, List.set_cons_zero, opsK_some, runOps_nil, regK_some, seqK_normal, List.getD_cons_zero, ex_call, List.map_cons, List.getD_cons_succ, List.map_nil, pcallA_eq, frzN, List.mapM_cons, frz_sl, List.mapM_nil, Option.pure_def, Option.bind_eq_bind, Option.bind_some, argK_some, h', retK_some, scal, scal1, Bool.false_eq_true, ↓reduceIte, fzIds, List.flatMap_cons, bor_sl, List.flatMap_nil, List.append_nil, List.foldl_nil, run_ret, bodyK_ret, results_1, res_tmp, retvK_some, pbodyK_some]
  have hW : W (combM (· ||| ·) a []) := combM_W (fun x y hx hy => or_lt hx hy) wa (fun x hx => by simp at hx)
  have hlen := combM_len (· ||| ·) a []
  have hS : ∀ j, mem (combM (· ||| ·) a []) j = S j := fun j => by
    by_cases hj : j < 4096
    · rw [mem_comb (f := (· || ·)) a [] (by simp) (fun x y i => by simp) j hj, ha]
      simp [mem]
    · rw [hv.out (j := j) (by omega)]
      simp [mem, hj]
  generalize combM (· ||| ·) a [] = b at *
  have hc : cntS S = popSum b b.length := by
    rw [popSum_cnt b hlen]
    congr 1
    funext j
    exact (hS j).symm
  have hloop := len_loop (z := z) hW hlen b.length 0 (by omega)
  rw [hc]
  simp only [popSum, Int.natCast_zero] at hloop
  rw [a37p, a37, pbodyA_eq]
  simp (maxSteps := 30000000) (disch := first | assumption | omega | (simp only [List.length_cons, List.length_nil, List.length_append, List.length_set, List.length_replicate, List.length_map, List.length_range, List.length_take, List.length_drop, List.all_cons, List.all_nil, AV.isCell, Bool.and_self, Bool.and_true, bs_length, is64_length, w64_length, ints_length] <;> omega) | rfl | decide) only [bodyA_eq, List.length_cons, List.length_nil, Nat.zero_add, Nat.reduceSub, pads, List.cons_append, List.nil_append, run_seq, run_region, runOps_cons, oper_none, ex_mov, opv, putK_to, List.set_cons_succ, List.set_cons_zero, opsK_some, runOps_nil, regK_some, seqK_normal, List.getD_cons_zero, ex_call, List.map_cons, List.getD_cons_succ, List.map_nil, pcallA_eq, frzN, List.mapM_cons, frz_sl, List.mapM_nil, Option.pure_def, Option.bind_eq_bind, Option.bind_some, argK_some, hcan, retK_some, scal, scal1, Bool.false_eq_true, ↓reduceIte, fzIds, List.flatMap_cons, bor_sl, List.flatMap_nil, List.append_nil, List.foldl_nil, ex_len, lenA_sl, valK_some, run_block, run_loop, a37l0c, hloop, blockK_exit, run_ret, bodyK_ret, results_1, res_tmp, retvK_some, pbodyK_some, frz_int]
end Go.Abs.Tree
