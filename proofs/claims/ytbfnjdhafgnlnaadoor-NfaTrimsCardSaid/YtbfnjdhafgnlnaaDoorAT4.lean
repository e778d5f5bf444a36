/- OnesCount64: the number of bits of a word. -/
import Derived.Test.YtbfnjdhafgnlnaaDoorAT3
namespace Go.Abs.NfaD
open Go Go.Abs
set_option linter.unusedSimpArgs false
set_option linter.unusedVariables false

/-- bytes, the low one first -/
def toN : List Nat → Nat
  | [] => 0
  | b :: l => b + 256 * toN l
def mk (p : Nat) : Nat → Nat
  | 0 => 0
  | n + 1 => p + 256 * mk p n

theorem and_split {a c : Nat} (X M : Nat) (ha : a < 256) (hc : c < 256) : (a + 256 * X) &&& (c + 256 * M) = (a &&& c) + 256 * (X &&& M) := by
  have hac : a &&& c < 2 ^ 8 := Nat.lt_of_le_of_lt Nat.and_le_left ha
  apply Nat.eq_of_testBit_eq
  intro i
  rw [show a + 256 * X = 2 ^ 8 * X + a by omega, show c + 256 * M = 2 ^ 8 * M + c by omega, show (a &&& c) + 256 * (X &&& M) = 2 ^ 8 * (X &&& M) + (a &&& c) by omega, Nat.testBit_and,
    Nat.testBit_two_pow_mul_add _ (by omega : a < 2 ^ 8), Nat.testBit_two_pow_mul_add _ (by omega : c < 2 ^ 8), Nat.testBit_two_pow_mul_add _ hac]
  split <;> rw [Nat.testBit_and]

def t1 (b : Nat) : Nat := (b / 2 &&& 85) + (b &&& 85)
def t2 (b : Nat) : Nat := (b / 4 &&& 51) + (b &&& 51)
def t3 (b : Nat) : Nat := b / 16 + b % 16
def Byt (l : List Nat) : Prop := ∀ b ∈ l, b < 256

theorem d1 : ∀ (b : Fin 256) (r : Fin 2), (b.val / 2 + 128 * r.val) &&& 85 = b.val / 2 &&& 85 := by decide +kernel
theorem d2 : ∀ (b : Fin 256) (r : Fin 4), (b.val / 4 + 64 * r.val) &&& 51 = b.val / 4 &&& 51 := by decide +kernel
theorem d3 : ∀ (b : Fin 69) (r : Fin 5), b.val % 16 ≤ 4 → (b.val / 16 + 16 * r.val + b.val) &&& 15 = b.val / 16 + b.val % 16 := by decide +kernel
theorem d4 : ∀ b : Fin 256, t1 b.val < 256 ∧ t2 (t1 b.val) < 69 ∧ t2 (t1 b.val) % 16 ≤ 4 ∧ t3 (t2 (t1 b.val)) ≤ 8 ∧ t3 (t2 (t1 b.val)) = ((List.range 8).filter fun i => b.val.testBit i).length := by decide +kernel

theorem st1 : ∀ l : List Nat, Byt l → (toN l / 2 &&& mk 85 l.length) + (toN l &&& mk 85 l.length) = toN (l.map t1)
  | [], _ => rfl
  | b :: l, h => by
    have hb := h b (by simp)
    have ih := st1 l (fun c hc => h c (by simp [hc]))
    have e := d1 ⟨b, hb⟩ ⟨toN l % 2, by omega⟩
    simp only at e
    simp only [toN, List.map_cons, List.length_cons, mk, t1]
    rw [show (b + 256 * toN l) / 2 = (b / 2 + 128 * (toN l % 2)) + 256 * (toN l / 2) by omega, and_split _ _ (by omega) (by omega), and_split _ _ hb (by omega), e, ← ih]
    omega

theorem st2 : ∀ l : List Nat, Byt l → (toN l / 4 &&& mk 51 l.length) + (toN l &&& mk 51 l.length) = toN (l.map t2)
  | [], _ => rfl
  | b :: l, h => by
    have hb := h b (by simp)
    have ih := st2 l (fun c hc => h c (by simp [hc]))
    have e := d2 ⟨b, hb⟩ ⟨toN l % 4, by omega⟩
    simp only at e
    simp only [toN, List.map_cons, List.length_cons, mk, t2]
    rw [show (b + 256 * toN l) / 4 = (b / 4 + 64 * (toN l % 4)) + 256 * (toN l / 4) by omega, and_split _ _ (by omega) (by omega), and_split _ _ hb (by omega), e, ← ih]
    omega

def Nib (l : List Nat) : Prop := ∀ b ∈ l, b < 69 ∧ b % 16 ≤ 4
theorem nib_mod {l : List Nat} (h : Nib l) : toN l % 16 ≤ 4 := by
  cases l with
  | nil => simp [toN]
  | cons b l => have := (h b (by simp)).2; simp only [toN]; omega

theorem st3 : ∀ l : List Nat, Nib l → (toN l / 16 + toN l) &&& mk 15 l.length = toN (l.map t3)
  | [], _ => rfl
  | b :: l, h => by
    have hb := h b (by simp)
    have hl : Nib l := fun c hc => h c (by simp [hc])
    have ih := st3 l hl
    have hm := nib_mod hl
    have e := d3 ⟨b, hb.1⟩ ⟨toN l % 16, by omega⟩ hb.2
    simp only at e
    simp only [toN, List.map_cons, List.length_cons, mk, t3]
    rw [show (b + 256 * toN l) / 16 + (b + 256 * toN l) = (b / 16 + 16 * (toN l % 16) + b) + 256 * (toN l / 16 + toN l) by omega, and_split _ _ (by omega) (by omega), e, ← ih]

/-- the bytes of a word -/
def bytes : Nat → Nat → List Nat
  | _, 0 => []
  | x, n + 1 => x % 256 :: bytes (x / 256) n
theorem bytes_len : ∀ n x, (bytes x n).length = n
  | 0, x => rfl
  | n + 1, x => by simp [bytes, bytes_len n]
theorem bytes_byt : ∀ n x, Byt (bytes x n)
  | 0, x => by intro b hb; simp [bytes] at hb
  | n + 1, x => by
    intro b hb
    rcases List.mem_cons.1 hb with rfl | hb
    · exact Nat.mod_lt _ (by omega)
    · exact bytes_byt n _ b hb
theorem toN_bytes : ∀ n x, x < 256 ^ n → toN (bytes x n) = x
  | 0, x, h => by simp at h; subst h; rfl
  | n + 1, x, h => by
    rw [bytes, toN, toN_bytes n (x / 256) (by rw [Nat.pow_succ] at h; exact Nat.div_lt_of_lt_mul (by rw [Nat.mul_comm]; exact h))]
    omega

def sumB : List Nat → Nat
  | [] => 0
  | b :: l => b + sumB l

/-- how many of the first n bits are set -/
def popN (x n : Nat) : Nat := ((List.range n).filter fun i => x.testBit i).length
theorem popN_split (b X n : Nat) (hb : b < 256) : popN (b + 256 * X) (8 + n) = popN b 8 + popN X n := by
  unfold popN
  rw [List.range_add, List.filter_append, List.length_append, List.filter_map, List.length_map]
  have ht : ∀ i, (b + 256 * X).testBit i = if i < 8 then b.testBit i else X.testBit (i - 8) := fun i => by
    rw [show b + 256 * X = 2 ^ 8 * X + b by omega, Nat.testBit_two_pow_mul_add _ (by omega : b < 2 ^ 8)]
  congr 2
  · apply List.filter_congr
    intro i hi
    rw [ht, if_pos (List.mem_range.1 hi)]
  · apply List.filter_congr
    intro i hi
    show (b + 256 * X).testBit (8 + i) = _
    rw [ht, if_neg (by omega), show 8 + i - 8 = i by omega]

theorem pop_bytes : ∀ l : List Nat, Byt l → sumB (((l.map t1).map t2).map t3) = popN (toN l) (8 * l.length)
  | [], _ => rfl
  | b :: l, h => by
    have hb := h b (by simp)
    have := (d4 ⟨b, hb⟩).2.2.2.2
    simp only at this
    simp only [List.map_cons, sumB, toN, List.length_cons]
    rw [Nat.mul_add, Nat.mul_one, Nat.add_comm (8 * l.length) 8, popN_split b _ _ hb, pop_bytes l (fun c hc => h c (by simp [hc])), this]
    rfl

theorem sum8 {c0 c1 c2 c3 c4 c5 c6 c7 w w1 w2 w3 : Nat} (h0 : c0 ≤ 8) (h1 : c1 ≤ 8) (h2 : c2 ≤ 8) (h3 : c3 ≤ 8) (h4 : c4 ≤ 8) (h5 : c5 ≤ 8) (h6 : c6 ≤ 8) (h7 : c7 ≤ 8)
    (e : w = c0 + 256 * (c1 + 256 * (c2 + 256 * (c3 + 256 * (c4 + 256 * (c5 + 256 * (c6 + 256 * (c7 + 256 * 0)))))))) (e1 : w1 = w + w / 256) (e2 : w2 = w1 + w1 / 65536) (e3 : w3 = w2 + w2 / 4294967296) :
    w3 < 9223372036854775808 ∧ w3 % 128 = c0 + (c1 + (c2 + (c3 + (c4 + (c5 + (c6 + (c7 + 0))))))) := by
  have q1 : w / 256 = c1 + 256 * (c2 + 256 * (c3 + 256 * (c4 + 256 * (c5 + 256 * (c6 + 256 * c7))))) := by clear e1 e2 e3; omega
  have f1 : w1 = (c0 + c1) + 256 * ((c1 + c2) + 256 * ((c2 + c3) + 256 * ((c3 + c4) + 256 * ((c4 + c5) + 256 * ((c5 + c6) + 256 * ((c6 + c7) + 256 * c7)))))) := by rw [e1, q1, e]; clear q1 e e1 e2 e3; omega
  clear q1 e e1
  have q2 : w1 / 65536 = (c2 + c3) + 256 * ((c3 + c4) + 256 * ((c4 + c5) + 256 * ((c5 + c6) + 256 * ((c6 + c7) + 256 * c7)))) := by clear e2 e3; omega
  have f2 : w2 = (c0 + c1 + c2 + c3) + 256 * ((c1 + c2 + c3 + c4) + 256 * ((c2 + c3 + c4 + c5) + 256 * ((c3 + c4 + c5 + c6) + 256 * ((c4 + c5 + c6 + c7) + 256 * ((c5 + c6 + c7) + 256 * ((c6 + c7) + 256 * c7)))))) := by rw [e2, q2, f1]; clear q2 f1 e2 e3; omega
  clear q2 f1 e2
  have q3 : w2 / 4294967296 = (c4 + c5 + c6 + c7) + 256 * ((c5 + c6 + c7) + 256 * ((c6 + c7) + 256 * c7)) := by clear e3; omega
  rw [e3, q3, f2]
  clear q3 f2 e3
  omega
end Go.Abs.NfaD
