/- Lists of numbers as cells; facts on numbers and heaps that the walk uses. -/
import Derived.Test.YtbfnjdhafgnlnaaAbsWalk
import Derived.Laws.BitsLemmas
namespace Go.Abs
set_option linter.unusedVariables false
set_option linter.unusedSimpArgs false

def bs (l : List Nat) : List AV := l.map fun (n : Nat) => AV.int .u8 n

abbrev word (z : Bool) (l : List Nat) : AV := .sl z l.length (bs l)

theorem xAe (l : List Nat) : (bs l).length = l.length := by simp [bs]
theorem xT6 {l : List Nat} {k : Nat} (h : k < l.length) : List.take 1 (List.drop k (bs l)) = [.int .u8 (l.getD k 0 : Nat)] := by
  rw [List.drop_eq_getElem_cons (by simpa [bs] using h)]
  simp [bs, List.getD, List.getElem?_eq_getElem h]

theorem xGH {n : Int} (h1 : -9223372036854775808 ≤ n) (h2 : n < 9223372036854775808) : IntKind.i64.wrap n = n := by
  rw [IntKind.wrap_i64]; omega
theorem xG0 {n : Nat} (h2 : n < 256) : IntKind.u8.wrap (n : Int) = n := by
  rw [IntKind.wrap_u8]; omega

theorem xDT (n : Nat) : ((no_index (OfNat.ofNat n) : Nat) : Int) = OfNat.ofNat n := rfl
theorem xG3 (n : Nat) : ((n : Int) < 0) = False := eq_false (by omega)
theorem xG4 (a b : Nat) : (a : Int) + (b : Int) = ((a + b : Nat) : Int) := by omega
theorem xFO (a : Nat) : (a : Int) + 1 = ((a + 1 : Nat) : Int) := by omega
theorem xG5 {a b : Nat} (h : b ≤ a) : (a : Int) - (b : Int) = ((a - b : Nat) : Int) := by omega
theorem xFP {a : Nat} (h : 1 ≤ a) : (a : Int) - 1 = ((a - 1 : Nat) : Int) := by omega
theorem xFJ (a b : Nat) : (a : Int).tdiv (b : Int) = ((a / b : Nat) : Int) := by simp [Int.tdiv_eq_ediv_of_nonneg]
theorem xG6 (a b : Nat) : (a : Int) * (b : Int) = ((a * b : Nat) : Int) := by simp
theorem xT7 {a b : Nat} (ha : a < 256) (hb : b < 256) : xJE .and .u8 (a : Int) (b : Int) = ((a &&& b : Nat) : Int) := by
  have h1 : (BitVec.ofInt 8 (a : Int)).toNat = a := by simp; omega
  have h2 : (BitVec.ofInt 8 (b : Int)).toNat = b := by simp; omega
  have h3 : a &&& b ≤ a := Nat.and_le_left
  change IntKind.u8.wrap (((BitVec.ofInt 8 (a : Int) &&& BitVec.ofInt 8 (b : Int)).toNat : Nat) : Int) = _
  rw [BitVec.toNat_and, h1, h2]
  exact xG0 (by omega)
theorem or8 {a b : Nat} (ha : a < 256) (hb : b < 256) : xJE .or .u8 (a : Int) (b : Int) = ((a ||| b : Nat) : Int) := by
  have h1 : (BitVec.ofInt 8 (a : Int)).toNat = a := by simp; omega
  have h2 : (BitVec.ofInt 8 (b : Int)).toNat = b := by simp; omega
  have h3 : a ||| b < 2 ^ 8 := Nat.or_lt_two_pow (by omega) (by omega)
  change IntKind.u8.wrap (((BitVec.ofInt 8 (a : Int) ||| BitVec.ofInt 8 (b : Int)).toNat : Nat) : Int) = _
  rw [BitVec.toNat_or, h1, h2]
  exact xG0 (by omega)
theorem xXB {a b : Nat} (ha : a < 256) (hb : b < 256) : xJE .xor .u8 (a : Int) (b : Int) = ((a ^^^ b : Nat) : Int) := by
  have h1 : (BitVec.ofInt 8 (a : Int)).toNat = a := by simp; omega
  have h2 : (BitVec.ofInt 8 (b : Int)).toNat = b := by simp; omega
  have h3 : a ^^^ b < 2 ^ 8 := Nat.xor_lt_two_pow (by omega) (by omega)
  change IntKind.u8.wrap (((BitVec.ofInt 8 (a : Int) ^^^ BitVec.ofInt 8 (b : Int)).toNat : Nat) : Int) = _
  rw [BitVec.toNat_xor, h1, h2]
  exact xG0 (by omega)
theorem xFK (a b : Nat) : (a : Int).tmod (b : Int) = ((a % b : Nat) : Int) := by simp [Int.tmod_eq_emod_of_nonneg]

def xJj (l : List Nat) : List AV := l.map fun (n : Nat) => AV.int .i64 n
theorem xAb (l : List Nat) : (xJj l).length = l.length := by simp [xJj]
theorem xSP {l : List Nat} {k : Nat} (h : k < l.length) : List.take 1 (List.drop k (xJj l)) = [.int .i64 (l.getD k 0 : Nat)] := by
  rw [List.drop_eq_getElem_cons (by simpa [xJj] using h)]
  simp [xJj, List.getD, List.getElem?_eq_getElem h]
theorem xJK {α : Type} (l : List α) (k : Nat) (x : α) (h : k < l.length) : List.take k l ++ (x :: List.drop (k + 1) l) = l.set k x := (List.set_eq_take_append_cons_drop).trans (if_pos h) |>.symm
theorem xRd {l : List Nat} {k : Nat} {n : Nat} (h : k < l.length) : List.take k (xJj l) ++ (AV.int .i64 n :: List.drop (k + 1) (xJj l)) = xJj (l.set k n) := by
  rw [xJK _ _ _ (by rw [xAb]; exact h)]; simp [xJj, List.map_set]
theorem xTx {l : List Nat} {k : Nat} {n : Nat} (h : k < l.length) : List.take k (bs l) ++ (AV.int .u8 n :: List.drop (k + 1) (bs l)) = bs (l.set k n) := by
  rw [xJK _ _ _ (by rw [xAe]; exact h)]; simp [bs, List.map_set]
theorem xBC (n : Nat) : xIV [AV.int .i64 0] n = xJj (List.replicate n 0) := by
  induction n with
  | zero => rfl
  | succ n ih => simp [xIV, ih, xJj, List.replicate_succ]
theorem xDU (n : Nat) : xIV [AV.int .u8 0] n = bs (List.replicate n 0) := by
  induction n with
  | zero => rfl
  | succ n ih => simp [xIV, ih, bs, List.replicate_succ]
theorem xTy (a b : List Nat) : bs (a ++ b) = bs a ++ bs b := by simp [bs]
theorem xEV (a b : List Nat) : bs a ++ bs b = bs (a ++ b) := by simp [bs]
theorem xDP (k : Nat) (l : List Nat) : List.take k (bs l) = bs (l.take k) := by simp [bs, List.map_take]
theorem xDQ (k : Nat) (l : List Nat) : List.drop k (bs l) = bs (l.drop k) := by simp [bs, List.map_drop]
theorem xTz {l : List Nat} {k : Nat} (h : k < l.length) : bs (List.take 1 (List.drop k l)) = [.int .u8 (l.getD k 0 : Nat)] := by
  rw [← xDP, ← xDQ, xT6 h]
theorem xEW {l : List Nat} (h : 0 < l.length) : bs (List.take 1 l) = [.int .u8 (l.getD 0 0 : Nat)] := by
  have := xTz h
  rwa [List.drop_zero] at this
theorem xDV {l : List Nat} {k : Nat} {n : Nat} (h : k < l.length) : bs (List.take k l) ++ (AV.int .u8 n :: bs (List.drop (k + 1) l)) = bs (l.set k n) := by
  rw [← xDP, ← xDQ, xTx h]
theorem xBx (k : Nat) (l : List Nat) : List.take k (xJj l) = xJj (l.take k) := by simp [xJj, List.map_take]
theorem xBy (k : Nat) (l : List Nat) : List.drop k (xJj l) = xJj (l.drop k) := by simp [xJj, List.map_drop]
theorem xCJ (a b : List Nat) : xJj a ++ xJj b = xJj (a ++ b) := by simp [xJj]
theorem xRe {l : List Nat} {k : Nat} (h : k < l.length) : xJj (List.take 1 (List.drop k l)) = [.int .i64 (l.getD k 0 : Nat)] := by
  rw [← xBx, ← xBy, xSP h]
theorem xCK {l : List Nat} (h : 0 < l.length) : xJj (List.take 1 l) = [.int .i64 (l.getD 0 0 : Nat)] := by
  have := xRe h
  rwa [List.drop_zero] at this
theorem xBD {l : List Nat} {k : Nat} {n : Nat} (h : k < l.length) : xJj (List.take k l) ++ (AV.int .i64 n :: xJj (List.drop (k + 1) l)) = xJj (l.set k n) := by
  rw [← xBx, ← xBy, xRd h]
theorem xCG (d : Nat) (H : Heap) : ∀ l : List Nat, (xJj l).mapM (frz d H) = some (xJj l)
  | [] => rfl
  | n :: l => by
    have h := xCG d H l
    have : xJj (n :: l) = .int .i64 (n : Nat) :: xJj l := rfl
    rw [this, List.mapM_cons, xDO]
    simp [h]
theorem xEX (d : Nat) (H : Heap) (l : List Nat) : (bs l).flatMap (bor d H) = [] := by
  induction l with
  | nil => rfl
  | cons n l ih =>
    have : bs (n :: l) = .int .u8 (n : Nat) :: bs l := rfl
    rw [this, List.flatMap_cons, ih, xDN]; rfl
theorem xCL (d : Nat) (H : Heap) (l : List Nat) : (xJj l).flatMap (bor d H) = [] := by
  induction l with
  | nil => rfl
  | cons n l ih =>
    have : xJj (n :: l) = .int .i64 (n : Nat) :: xJj l := rfl
    rw [this, List.flatMap_cons, ih, xDN]; rfl
theorem xBE (l : List Nat) (n t : Nat) : (l.drop n).getD t 0 = l.getD (n + t) 0 := by simp [List.getD, List.getElem?_drop]
theorem xBF {α : Type} (l : List α) (k : Nat) : List.take (l.length - k) (List.drop k l) = List.drop k l := by
  rw [List.take_of_length_le]; simp
theorem xEU (d : Nat) (H : Heap) : ∀ l : List Nat, (bs l).mapM (frz d H) = some (bs l)
  | [] => rfl
  | n :: l => by
    have h := xEU d H l
    have e : frz d H (.int .u8 (n : Nat)) = some (.int .u8 (n : Nat)) := by cases d <;> rfl
    have : bs (n :: l) = .int .u8 (n : Nat) :: bs l := rfl
    rw [this, List.mapM_cons, e]
    simp [h]


theorem xT8 {z : Bool} {n : Nat} {l : List Nat} (h : l.length = n) : AV.sl z n (bs l) = word z l := by subst h; rfl

theorem xGE (H l : Heap) (k : Nat) : (H ++ l)[H.length + k]? = l[k]? := by
  rw [List.getElem?_append_right (by omega)]; congr 1; omega
theorem xFL (H l : Heap) : (H ++ l)[H.length]? = l[0]? := xGE H l 0
theorem xGd (H l : Heap) (k : Nat) (b : Blk) : (H ++ l).set (H.length + k) b = H ++ l.set k b := by
  rw [List.set_append_right _ _ (by omega)]; congr 2; omega
theorem xG2 (H l : Heap) (k : Nat) (f : Blk → Blk) : (H ++ l).modify (H.length + k) f = H ++ l.modify k f := by
  apply List.ext_getElem?
  intro i
  rw [List.getElem?_modify]
  by_cases h : i < H.length
  · have h1 : ∀ a : Blk, (if H.length + k = i then f a else a) = a := fun a => if_neg (by omega)
    rw [List.getElem?_append_left h, List.getElem?_append_left h]
    simp only [h1]
    cases H[i]? <;> rfl
  · rw [List.getElem?_append_right (by omega), List.getElem?_append_right (by omega), List.getElem?_modify]
    have h1 : (H.length + k = i) = (k = i - H.length) := propext ⟨fun h => by omega, fun h => by omega⟩
    simp only [h1]
theorem xFM (H l : Heap) (f : Blk → Blk) : (H ++ l).modify H.length f = H ++ l.modify 0 f := xG2 H l 0 f
theorem xFN (H l : Heap) (b : Blk) : (H ++ l).set H.length b = H ++ l.set 0 b := xGd H l 0 b


theorem xHX (l : List Nat) : (bs l).all xHz = true := xL4 (fun _ => rfl) l
theorem xHq (l : List Nat) : (xJj l).all xHz = true := xL4 (fun _ => rfl) l
end Go.Abs
