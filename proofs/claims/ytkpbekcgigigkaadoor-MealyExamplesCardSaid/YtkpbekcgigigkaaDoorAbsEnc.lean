/- Lists of numbers as cells; facts on numbers and heaps that the walk uses. -/
import Derived.Test.YtkpbekcgigigkaaDoorAbsWalk
import Derived.Laws.BitsLemmas
namespace Go.Abs
set_option linter.unusedVariables false
set_option linter.unusedSimpArgs false

/-- bytes as cells -/
def bs (l : List Nat) : List AV := l.map fun (n : Nat) => AV.int .u8 n

abbrev word (z : Bool) (l : List Nat) : AV := .sl z l.length (bs l)

theorem bs_length (l : List Nat) : (bs l).length = l.length := by simp [bs]
theorem bs_at {l : List Nat} {k : Nat} (h : k < l.length) : List.take 1 (List.drop k (bs l)) = [.int .u8 (l.getD k 0 : Nat)] := by
  rw [List.drop_eq_getElem_cons (by simpa [bs] using h)]
  simp [bs, List.getD, List.getElem?_eq_getElem h]

theorem wr64 {n : Int} (h1 : -9223372036854775808 ≤ n) (h2 : n < 9223372036854775808) : IntKind.i64.wrap n = n := by
  rw [IntKind.wrap_i64]; omega
theorem wrN8 {n : Nat} (h2 : n < 256) : IntKind.u8.wrap (n : Int) = n := by
  rw [IntKind.wrap_u8]; omega

theorem castLit (n : Nat) : ((no_index (OfNat.ofNat n) : Nat) : Int) = OfNat.ofNat n := rfl
theorem ltc0 (n : Nat) : ((n : Int) < 0) = False := eq_false (by omega)
theorem cadd (a b : Nat) : (a : Int) + (b : Int) = ((a + b : Nat) : Int) := by omega
theorem cadd1 (a : Nat) : (a : Int) + 1 = ((a + 1 : Nat) : Int) := by omega
theorem csub {a b : Nat} (h : b ≤ a) : (a : Int) - (b : Int) = ((a - b : Nat) : Int) := by omega
theorem csub1 {a : Nat} (h : 1 ≤ a) : (a : Int) - 1 = ((a - 1 : Nat) : Int) := by omega
theorem ctdiv (a b : Nat) : (a : Int).tdiv (b : Int) = ((a / b : Nat) : Int) := by simp [Int.tdiv_eq_ediv_of_nonneg]
theorem cmul (a b : Nat) : (a : Int) * (b : Int) = ((a * b : Nat) : Int) := by simp
theorem and8 {a b : Nat} (ha : a < 256) (hb : b < 256) : bitsA .and .u8 (a : Int) (b : Int) = ((a &&& b : Nat) : Int) := by
  have h1 : (BitVec.ofInt 8 (a : Int)).toNat = a := by simp; omega
  have h2 : (BitVec.ofInt 8 (b : Int)).toNat = b := by simp; omega
  have h3 : a &&& b ≤ a := Nat.and_le_left
  change IntKind.u8.wrap (((BitVec.ofInt 8 (a : Int) &&& BitVec.ofInt 8 (b : Int)).toNat : Nat) : Int) = _
  rw [BitVec.toNat_and, h1, h2]
  exact wrN8 (by omega)
theorem or8 {a b : Nat} (ha : a < 256) (hb : b < 256) : bitsA .or .u8 (a : Int) (b : Int) = ((a ||| b : Nat) : Int) := by
  have h1 : (BitVec.ofInt 8 (a : Int)).toNat = a := by simp; omega
  have h2 : (BitVec.ofInt 8 (b : Int)).toNat = b := by simp; omega
  have h3 : a ||| b < 2 ^ 8 := Nat.or_lt_two_pow (by omega) (by omega)
  change IntKind.u8.wrap (((BitVec.ofInt 8 (a : Int) ||| BitVec.ofInt 8 (b : Int)).toNat : Nat) : Int) = _
  rw [BitVec.toNat_or, h1, h2]
  exact wrN8 (by omega)
theorem xor8 {a b : Nat} (ha : a < 256) (hb : b < 256) : bitsA .xor .u8 (a : Int) (b : Int) = ((a ^^^ b : Nat) : Int) := by
  have h1 : (BitVec.ofInt 8 (a : Int)).toNat = a := by simp; omega
  have h2 : (BitVec.ofInt 8 (b : Int)).toNat = b := by simp; omega
  have h3 : a ^^^ b < 2 ^ 8 := Nat.xor_lt_two_pow (by omega) (by omega)
  change IntKind.u8.wrap (((BitVec.ofInt 8 (a : Int) ^^^ BitVec.ofInt 8 (b : Int)).toNat : Nat) : Int) = _
  rw [BitVec.toNat_xor, h1, h2]
  exact wrN8 (by omega)
theorem ctmod (a b : Nat) : (a : Int).tmod (b : Int) = ((a % b : Nat) : Int) := by simp [Int.tmod_eq_emod_of_nonneg]

def is64 (l : List Nat) : List AV := l.map fun (n : Nat) => AV.int .i64 n
theorem is64_length (l : List Nat) : (is64 l).length = l.length := by simp [is64]
theorem is64_at {l : List Nat} {k : Nat} (h : k < l.length) : List.take 1 (List.drop k (is64 l)) = [.int .i64 (l.getD k 0 : Nat)] := by
  rw [List.drop_eq_getElem_cons (by simpa [is64] using h)]
  simp [is64, List.getD, List.getElem?_eq_getElem h]
theorem set_split {α : Type} (l : List α) (k : Nat) (x : α) (h : k < l.length) : List.take k l ++ (x :: List.drop (k + 1) l) = l.set k x := (List.set_eq_take_append_cons_drop).trans (if_pos h) |>.symm
theorem is64_put {l : List Nat} {k : Nat} {n : Nat} (h : k < l.length) : List.take k (is64 l) ++ (AV.int .i64 n :: List.drop (k + 1) (is64 l)) = is64 (l.set k n) := by
  rw [set_split _ _ _ (by rw [is64_length]; exact h)]; simp [is64, List.map_set]
theorem bs_put {l : List Nat} {k : Nat} {n : Nat} (h : k < l.length) : List.take k (bs l) ++ (AV.int .u8 n :: List.drop (k + 1) (bs l)) = bs (l.set k n) := by
  rw [set_split _ _ _ (by rw [bs_length]; exact h)]; simp [bs, List.map_set]
theorem repz_is64 (n : Nat) : repz [AV.int .i64 0] n = is64 (List.replicate n 0) := by
  induction n with
  | zero => rfl
  | succ n ih => simp [repz, ih, is64, List.replicate_succ]
theorem repz_bs (n : Nat) : repz [AV.int .u8 0] n = bs (List.replicate n 0) := by
  induction n with
  | zero => rfl
  | succ n ih => simp [repz, ih, bs, List.replicate_succ]
theorem bs_append (a b : List Nat) : bs (a ++ b) = bs a ++ bs b := by simp [bs]
theorem bs_app (a b : List Nat) : bs a ++ bs b = bs (a ++ b) := by simp [bs]
theorem bs_take (k : Nat) (l : List Nat) : List.take k (bs l) = bs (l.take k) := by simp [bs, List.map_take]
theorem bs_drop (k : Nat) (l : List Nat) : List.drop k (bs l) = bs (l.drop k) := by simp [bs, List.map_drop]
theorem bs_at1 {l : List Nat} {k : Nat} (h : k < l.length) : bs (List.take 1 (List.drop k l)) = [.int .u8 (l.getD k 0 : Nat)] := by
  rw [← bs_take, ← bs_drop, bs_at h]
theorem bs_at0 {l : List Nat} (h : 0 < l.length) : bs (List.take 1 l) = [.int .u8 (l.getD 0 0 : Nat)] := by
  have := bs_at1 h
  rwa [List.drop_zero] at this
theorem bs_put1 {l : List Nat} {k : Nat} {n : Nat} (h : k < l.length) : bs (List.take k l) ++ (AV.int .u8 n :: bs (List.drop (k + 1) l)) = bs (l.set k n) := by
  rw [← bs_take, ← bs_drop, bs_put h]
theorem is64_take (k : Nat) (l : List Nat) : List.take k (is64 l) = is64 (l.take k) := by simp [is64, List.map_take]
theorem is64_drop (k : Nat) (l : List Nat) : List.drop k (is64 l) = is64 (l.drop k) := by simp [is64, List.map_drop]
theorem is64_app (a b : List Nat) : is64 a ++ is64 b = is64 (a ++ b) := by simp [is64]
theorem is64_at1 {l : List Nat} {k : Nat} (h : k < l.length) : is64 (List.take 1 (List.drop k l)) = [.int .i64 (l.getD k 0 : Nat)] := by
  rw [← is64_take, ← is64_drop, is64_at h]
theorem is64_at0 {l : List Nat} (h : 0 < l.length) : is64 (List.take 1 l) = [.int .i64 (l.getD 0 0 : Nat)] := by
  have := is64_at1 h
  rwa [List.drop_zero] at this
theorem is64_put1 {l : List Nat} {k : Nat} {n : Nat} (h : k < l.length) : is64 (List.take k l) ++ (AV.int .i64 n :: is64 (List.drop (k + 1) l)) = is64 (l.set k n) := by
  rw [← is64_take, ← is64_drop, is64_put h]
theorem frz_is64 (d : Nat) (H : Heap) : ∀ l : List Nat, (is64 l).mapM (frz d H) = some (is64 l)
  | [] => rfl
  | n :: l => by
    have h := frz_is64 d H l
    have : is64 (n :: l) = .int .i64 (n : Nat) :: is64 l := rfl
    rw [this, List.mapM_cons, frz_int]
    simp [h]
theorem bor_bs (d : Nat) (H : Heap) (l : List Nat) : (bs l).flatMap (bor d H) = [] := by
  induction l with
  | nil => rfl
  | cons n l ih =>
    have : bs (n :: l) = .int .u8 (n : Nat) :: bs l := rfl
    rw [this, List.flatMap_cons, ih, bor_int]; rfl
theorem bor_is64 (d : Nat) (H : Heap) (l : List Nat) : (is64 l).flatMap (bor d H) = [] := by
  induction l with
  | nil => rfl
  | cons n l ih =>
    have : is64 (n :: l) = .int .i64 (n : Nat) :: is64 l := rfl
    rw [this, List.flatMap_cons, ih, bor_int]; rfl
theorem drop_getD (l : List Nat) (n t : Nat) : (l.drop n).getD t 0 = l.getD (n + t) 0 := by simp [List.getD, List.getElem?_drop]
theorem take_rest {α : Type} (l : List α) (k : Nat) : List.take (l.length - k) (List.drop k l) = List.drop k l := by
  rw [List.take_of_length_le]; simp
theorem frz_bs (d : Nat) (H : Heap) : ∀ l : List Nat, (bs l).mapM (frz d H) = some (bs l)
  | [] => rfl
  | n :: l => by
    have h := frz_bs d H l
    have e : frz d H (.int .u8 (n : Nat)) = some (.int .u8 (n : Nat)) := by cases d <;> rfl
    have : bs (n :: l) = .int .u8 (n : Nat) :: bs l := rfl
    rw [this, List.mapM_cons, e]
    simp [h]


theorem sl_word {z : Bool} {n : Nat} {l : List Nat} (h : l.length = n) : AV.sl z n (bs l) = word z l := by subst h; rfl

/-- at the end of a heap -/
theorem hget (H l : Heap) (k : Nat) : (H ++ l)[H.length + k]? = l[k]? := by
  rw [List.getElem?_append_right (by omega)]; congr 1; omega
theorem hget0 (H l : Heap) : (H ++ l)[H.length]? = l[0]? := hget H l 0
theorem hset (H l : Heap) (k : Nat) (b : Blk) : (H ++ l).set (H.length + k) b = H ++ l.set k b := by
  rw [List.set_append_right _ _ (by omega)]; congr 2; omega
theorem hmod (H l : Heap) (k : Nat) (f : Blk → Blk) : (H ++ l).modify (H.length + k) f = H ++ l.modify k f := by
  apply List.ext_getElem?
  intro i
  rw [List.getElem?_modify]
  by_cases h : i < H.length
  · have h1 : ∀ a : Blk, (if H.length + k = i then f a else a) = a := fun a => if_neg (by omega)
    rw [List.getElem?_append_left h, List.getElem?_append_left h]
    simp only [h1]
    cases H[i]? <;> rfl
  · rw [List.getElem?_append_right (by omega), List.getElem?_append_right (by omega), List.getElem?_modify]
    have h1 : (H.length + k = i) = (k = i - H.length) := propext ⟨fun h => by omega, fun h => by omega⟩
    simp only [h1]
theorem hmod0 (H l : Heap) (f : Blk → Blk) : (H ++ l).modify H.length f = H ++ l.modify 0 f := hmod H l 0 f
theorem hset0 (H l : Heap) (b : Blk) : (H ++ l).set H.length b = H ++ l.set 0 b := hset H l 0 b


theorem dat_bs (l : List Nat) : (bs l).all data1 = true := dat_map (fun _ => rfl) l
theorem dat_is64 (l : List Nat) : (is64 l).all data1 = true := dat_map (fun _ => rfl) l
end Go.Abs
