/- More lists as cells: words, xHV, rows. -/
import Derived.Test.YtbfnjdhafgnlnaaAbsEnc
namespace Go.Abs
set_option linter.unusedVariables false
set_option linter.unusedSimpArgs false

def w64 (l : List Nat) : List AV := l.map fun (n : Nat) => AV.int .u64 (n : Nat)
theorem xAc (l : List Nat) : (w64 l).length = l.length := by simp [w64]
theorem xCH (k : Nat) (l : List Nat) : List.take k (w64 l) = w64 (l.take k) := by simp [w64, List.map_take]
theorem xCI (k : Nat) (l : List Nat) : List.drop k (w64 l) = w64 (l.drop k) := by simp [w64, List.map_drop]
theorem xEO (a b : List Nat) : w64 a ++ w64 b = w64 (a ++ b) := by simp [w64]
theorem xEP {l : List Nat} (h : 0 < l.length) : w64 (List.take 1 l) = [(fun (n : Nat) => AV.int .u64 (n : Nat)) (l.getD 0 0)] := by
  cases l with
  | nil => simp at h
  | cons a l => simp [w64]
theorem xDE {l : List Nat} {k : Nat} {n : Nat} (h : k < l.length) : w64 (List.take k l) ++ (AV.int .u64 (n : Nat) :: w64 (List.drop (k + 1) l)) = w64 (l.set k n) := by
  rw [← xCH, ← xCI, xJK _ _ _ (by rw [xAc]; exact h)]; simp [w64, List.map_set]
theorem xRL (l : List Nat) (n : Nat) : w64 l ++ [AV.int .u64 (n : Nat)] = w64 (l ++ [n]) := by simp [w64]
theorem xEQ (n : Nat) : w64 [n] = [AV.int .u64 (n : Nat)] := rfl
theorem xDR : w64 [] = [] := rfl
theorem xDS (d : Nat) (H : Heap) : ∀ l : List Nat, (w64 l).mapM (frz d H) = some (w64 l)
  | [] => rfl
  | n :: l => by
    have h := xDS d H l
    have : w64 (n :: l) = AV.int .u64 (n : Nat) :: w64 l := rfl
    rw [this, List.mapM_cons, xDO]
    simp [h]
theorem xER (d : Nat) (H : Heap) (l : List Nat) : (w64 l).flatMap (bor d H) = [] := by
  induction l with
  | nil => rfl
  | cons n l ih =>
    have : w64 (n :: l) = AV.int .u64 (n : Nat) :: w64 l := rfl
    rw [this, List.flatMap_cons, ih, xDN]; rfl
theorem xSn {z : Bool} {n : Nat} {l : List Nat} (h : l.length = n) : AV.sl z n (w64 l) = .sl z l.length (w64 l) := by subst h; rfl

def xHV (l : List Int) : List AV := l.map fun (n : Int) => AV.int .i64 n
theorem xAa (l : List Int) : (xHV l).length = l.length := by simp [xHV]
theorem xBA (k : Nat) (l : List Int) : List.take k (xHV l) = xHV (l.take k) := by simp [xHV, List.map_take]
theorem xBB (k : Nat) (l : List Int) : List.drop k (xHV l) = xHV (l.drop k) := by simp [xHV, List.map_drop]
theorem xDF (a b : List Int) : xHV a ++ xHV b = xHV (a ++ b) := by simp [xHV]
theorem xDG {l : List Int} (h : 0 < l.length) : xHV (List.take 1 l) = [(fun (n : Int) => AV.int .i64 n) (l.getD 0 0)] := by
  cases l with
  | nil => simp at h
  | cons a l => simp [xHV]
theorem xCz {l : List Int} {k : Nat} {n : Int} (h : k < l.length) : xHV (List.take k l) ++ (AV.int .i64 n :: xHV (List.drop (k + 1) l)) = xHV (l.set k n) := by
  rw [← xBA, ← xBB, xJK _ _ _ (by rw [xAa]; exact h)]; simp [xHV, List.map_set]
theorem xTS (l : List Int) (n : Int) : xHV l ++ [AV.int .i64 n] = xHV (l ++ [n]) := by simp [xHV]
theorem xCF (n : Int) : xHV [n] = [AV.int .i64 n] := rfl
theorem xDH : xHV [] = [] := rfl
theorem xCE (d : Nat) (H : Heap) : ∀ l : List Int, (xHV l).mapM (frz d H) = some (xHV l)
  | [] => rfl
  | n :: l => by
    have h := xCE d H l
    have : xHV (n :: l) = AV.int .i64 n :: xHV l := rfl
    rw [this, List.mapM_cons, xDO]
    simp [h]
theorem xDI (d : Nat) (H : Heap) (l : List Int) : (xHV l).flatMap (bor d H) = [] := by
  induction l with
  | nil => rfl
  | cons n l ih =>
    have : xHV (n :: l) = AV.int .i64 n :: xHV l := rfl
    rw [this, List.flatMap_cons, ih, xDN]; rfl
theorem xUr {z : Bool} {n : Nat} {l : List Int} (h : l.length = n) : AV.sl z n (xHV l) = .sl z l.length (xHV l) := by subst h; rfl

def rows {α : Type} (enc : α → List AV) (l : List α) : List AV := (l.map enc).flatten
section
variable {α : Type} {enc : α → List AV} {k : Nat} (hk : ∀ a, (enc a).length = k)
include hk
theorem xNR (l : List α) : (rows enc l).length = l.length * k := by
  induction l with
  | nil => simp [rows]
  | cons a l ih =>
    have : rows enc (a :: l) = enc a ++ rows enc l := rfl
    rw [this, List.length_append, ih, hk, List.length_cons, Nat.succ_mul]; omega
theorem xNq : ∀ (i : Nat) (l : List α), List.drop (i * k) (rows enc l) = rows enc (l.drop i)
  | 0, l => by simp
  | i + 1, [] => by simp [rows]
  | i + 1, a :: l => by
    have : rows enc (a :: l) = enc a ++ rows enc l := rfl
    rw [this, List.drop_succ_cons, ← xNq i l, Nat.succ_mul, Nat.add_comm, ← List.drop_drop, ← hk a, List.drop_left]
theorem xQ1 : ∀ (i : Nat) (l : List α), List.take (i * k) (rows enc l) = rows enc (l.take i)
  | 0, l => by simp [rows]
  | i + 1, [] => by simp [rows]
  | i + 1, a :: l => by
    have e : rows enc (a :: l) = enc a ++ rows enc l := rfl
    have e2 : rows enc (List.take (i + 1) (a :: l)) = enc a ++ rows enc (l.take i) := rfl
    rw [e, e2, ← xQ1 i l, Nat.succ_mul, Nat.add_comm, ← hk a, List.take_length_add_append]
end
theorem xRM {α : Type} (enc : α → List AV) (a b : List α) : rows enc a ++ rows enc b = rows enc (a ++ b) := by simp [rows]

theorem xBt (l : List Int) (n t : Nat) : (l.drop n).getD t 0 = l.getD (n + t) 0 := by simp [List.getD, List.getElem?_drop]

theorem xON {a : Nat} (h : a < 18446744073709551616) : (BitVec.ofInt 64 (a : Int)).toNat = a := by simp; omega
theorem xFI {n : Nat} (h : n < 18446744073709551616) : IntKind.u64.wrap (n : Int) = n := by
  simp [IntKind.wrap, IntKind.bits, IntKind.signed]; omega
theorem xUs {a b : Nat} (ha : a < 18446744073709551616) (hb : b < 18446744073709551616) : xJE .and .u64 (a : Int) (b : Int) = ((a &&& b : Nat) : Int) := by
  have h3 : a &&& b ≤ a := Nat.and_le_left
  change IntKind.u64.wrap (((BitVec.ofInt 64 (a : Int) &&& BitVec.ofInt 64 (b : Int)).toNat : Nat) : Int) = _
  rw [BitVec.toNat_and, xON ha, xON hb]
  exact xFI (by omega)
theorem xVW {a b : Nat} (ha : a < 18446744073709551616) (hb : b < 18446744073709551616) : xJE .or .u64 (a : Int) (b : Int) = ((a ||| b : Nat) : Int) := by
  have h3 : a ||| b < 2 ^ 64 := Nat.or_lt_two_pow (by omega) (by omega)
  change IntKind.u64.wrap (((BitVec.ofInt 64 (a : Int) ||| BitVec.ofInt 64 (b : Int)).toNat : Nat) : Int) = _
  rw [BitVec.toNat_or, xON ha, xON hb]
  exact xFI (by omega)
theorem xBu {n : Nat} {k k' : IntKind} {h m : Int} (h0 : 0 ≤ h) (h1 : h ≤ m) (h2 : m ≤ n) : xHR n none (some (.int k h)) (some (.int k' m)) = some (0, h.toNat) := by
  have h3 : 0 ≤ m := by omega
  simp only [xHR, xJe, if_pos h0, if_pos h3]
  rw [if_pos ⟨by omega, by omega⟩, if_pos ⟨by omega, by omega⟩]

theorem xDJ (k : Nat) (l : Heap) : (List.replicate k Blk.dead ++ l)[k]? = l[0]? := by
  have := xFL (List.replicate k Blk.dead) l
  rwa [List.length_replicate] at this
theorem xDK (k : Nat) (l : Heap) (b : Blk) : (List.replicate k Blk.dead ++ l).set k b = List.replicate k Blk.dead ++ l.set 0 b := by
  have := xFN (List.replicate k Blk.dead) l b
  rwa [List.length_replicate] at this
theorem xDL (k : Nat) (l : Heap) (f : Blk → Blk) : (List.replicate k Blk.dead ++ l).modify k f = List.replicate k Blk.dead ++ l.modify 0 f := by
  have := xFM (List.replicate k Blk.dead) l f
  rwa [List.length_replicate] at this
theorem xHL (l : List Nat) : (w64 l).all xHz = true := xL4 (fun _ => rfl) l
theorem xHx (l : List Int) : (xHV l).all xHz = true := xL4 (fun _ => rfl) l
end Go.Abs
