/- More lists as cells: words, xCh, rows. -/
import Derived.Test.YtdkbhidfiplncaaAbsEnc
namespace Go.Abs
set_option linter.unusedVariables false
set_option linter.unusedSimpArgs false

def w64 (l : List Nat) : List AV := l.map fun (n : Nat) => AV.int .u64 (n : Nat)
theorem xAe (l : List Nat) : (w64 l).length = l.length := by simp [w64]
theorem xGS (k : Nat) (l : List Nat) : List.take k (w64 l) = w64 (l.take k) := by simp [w64, List.map_take]
theorem xPh (k : Nat) (l : List Nat) : List.drop k (w64 l) = w64 (l.drop k) := by simp [w64, List.map_drop]
theorem yDb (a b : List Nat) : w64 a ++ w64 b = w64 (a ++ b) := by simp [w64]
theorem xXy {l : List Nat} (h : 0 < l.length) : w64 (List.take 1 l) = [(fun (n : Nat) => AV.int .u64 (n : Nat)) (l.getD 0 0)] := by
  cases l with
  | nil => simp at h
  | cons a l => simp [w64]
theorem yB2 {l : List Nat} {k : Nat} {n : Nat} (h : k < l.length) : w64 (List.take k l) ++ (AV.int .u64 (n : Nat) :: w64 (List.drop (k + 1) l)) = w64 (l.set k n) := by
  rw [← xGS, ← xPh, xGw _ _ _ (by rw [xAe]; exact h)]; simp [w64, List.map_set]
theorem xUm (l : List Nat) (n : Nat) : w64 l ++ [AV.int .u64 (n : Nat)] = w64 (l ++ [n]) := by simp [w64]
theorem xXz (n : Nat) : w64 [n] = [AV.int .u64 (n : Nat)] := rfl
theorem yDc : w64 [] = [] := rfl
theorem xSb (d : Nat) (H : xAu) : ∀ l : List Nat, (w64 l).mapM (frz d H) = some (w64 l)
  | [] => rfl
  | n :: l => by
    have h := xSb d H l
    have : w64 (n :: l) = AV.int .u64 (n : Nat) :: w64 l := rfl
    rw [this, List.mapM_cons, xA0]
    simp [h]
theorem xXA (d : Nat) (H : xAu) (l : List Nat) : (w64 l).flatMap (bor d H) = [] := by
  induction l with
  | nil => rfl
  | cons n l ih =>
    have : w64 (n :: l) = AV.int .u64 (n : Nat) :: w64 l := rfl
    rw [this, List.flatMap_cons, ih, xCn]; rfl
theorem yEq {z : Bool} {n : Nat} {l : List Nat} (h : l.length = n) : AV.sl z n (w64 l) = .sl z l.length (w64 l) := by subst h; rfl

def xCh (l : List Int) : List AV := l.map fun (n : Int) => AV.int .i64 n
theorem xAa (l : List Int) : (xCh l).length = l.length := by simp [xCh]
theorem xBW (k : Nat) (l : List Int) : List.take k (xCh l) = xCh (l.take k) := by simp [xCh, List.map_take]
theorem xB1 (k : Nat) (l : List Int) : List.drop k (xCh l) = xCh (l.drop k) := by simp [xCh, List.map_drop]
theorem yB3 (a b : List Int) : xCh a ++ xCh b = xCh (a ++ b) := by simp [xCh]
theorem xCr {l : List Int} (h : 0 < l.length) : xCh (List.take 1 l) = [(fun (n : Int) => AV.int .i64 n) (l.getD 0 0)] := by
  cases l with
  | nil => simp at h
  | cons a l => simp [xCh]
theorem xJb {l : List Int} {k : Nat} {n : Int} (h : k < l.length) : xCh (List.take k l) ++ (AV.int .i64 n :: xCh (List.drop (k + 1) l)) = xCh (l.set k n) := by
  rw [← xBW, ← xB1, xGw _ _ _ (by rw [xAa]; exact h)]; simp [xCh, List.map_set]
theorem yAw (l : List Int) (n : Int) : xCh l ++ [AV.int .i64 n] = xCh (l ++ [n]) := by simp [xCh]
theorem yB4 (n : Int) : xCh [n] = [AV.int .i64 n] := rfl
theorem yB5 : xCh [] = [] := rfl
theorem xKT (d : Nat) (H : xAu) : ∀ l : List Int, (xCh l).mapM (frz d H) = some (xCh l)
  | [] => rfl
  | n :: l => by
    have h := xKT d H l
    have : xCh (n :: l) = AV.int .i64 n :: xCh l := rfl
    rw [this, List.mapM_cons, xA0]
    simp [h]
theorem xUn (d : Nat) (H : xAu) (l : List Int) : (xCh l).flatMap (bor d H) = [] := by
  induction l with
  | nil => rfl
  | cons n l ih =>
    have : xCh (n :: l) = AV.int .i64 n :: xCh l := rfl
    rw [this, List.flatMap_cons, ih, xCn]; rfl
theorem yDd {z : Bool} {n : Nat} {l : List Int} (h : l.length = n) : AV.sl z n (xCh l) = .sl z l.length (xCh l) := by subst h; rfl

def rows {α : Type} (enc : α → List AV) (l : List α) : List AV := (l.map enc).flatten
section
variable {α : Type} {enc : α → List AV} {k : Nat} (hk : ∀ a, (enc a).length = k)
include hk
theorem xJc (l : List α) : (rows enc l).length = l.length * k := by
  induction l with
  | nil => simp [rows]
  | cons a l ih =>
    have : rows enc (a :: l) = enc a ++ rows enc l := rfl
    rw [this, List.length_append, ih, hk, List.length_cons, Nat.succ_mul]; omega
theorem xJd : ∀ (i : Nat) (l : List α), List.drop (i * k) (rows enc l) = rows enc (l.drop i)
  | 0, l => by simp
  | i + 1, [] => by simp [rows]
  | i + 1, a :: l => by
    have : rows enc (a :: l) = enc a ++ rows enc l := rfl
    rw [this, List.drop_succ_cons, ← xJd i l, Nat.succ_mul, Nat.add_comm, ← List.drop_drop, ← hk a, List.drop_left]
theorem xMZ : ∀ (i : Nat) (l : List α), List.take (i * k) (rows enc l) = rows enc (l.take i)
  | 0, l => by simp [rows]
  | i + 1, [] => by simp [rows]
  | i + 1, a :: l => by
    have e : rows enc (a :: l) = enc a ++ rows enc l := rfl
    have e2 : rows enc (List.take (i + 1) (a :: l)) = enc a ++ rows enc (l.take i) := rfl
    rw [e, e2, ← xMZ i l, Nat.succ_mul, Nat.add_comm, ← hk a, List.take_length_add_append]
end
theorem yB6 {α : Type} (enc : α → List AV) (a b : List α) : rows enc a ++ rows enc b = rows enc (a ++ b) := by simp [rows]

theorem xBV (l : List Int) (n t : Nat) : (l.drop n).getD t 0 = l.getD (n + t) 0 := by simp [List.getD, List.getElem?_drop]

theorem xPi {a : Nat} (h : a < 18446744073709551616) : (BitVec.ofInt 64 (a : Int)).toNat = a := by simp; omega
theorem xXB {n : Nat} (h : n < 18446744073709551616) : IntKind.u64.wrap (n : Int) = n := by
  simp [IntKind.wrap, IntKind.bits, IntKind.signed]; omega
theorem xUo {a b : Nat} (ha : a < 18446744073709551616) (hb : b < 18446744073709551616) : xFE .and .u64 (a : Int) (b : Int) = ((a &&& b : Nat) : Int) := by
  have h3 : a &&& b ≤ a := Nat.and_le_left
  change IntKind.u64.wrap (((BitVec.ofInt 64 (a : Int) &&& BitVec.ofInt 64 (b : Int)).toNat : Nat) : Int) = _
  rw [BitVec.toNat_and, xPi ha, xPi hb]
  exact xXB (by omega)
theorem yAx {a b : Nat} (ha : a < 18446744073709551616) (hb : b < 18446744073709551616) : xFE .or .u64 (a : Int) (b : Int) = ((a ||| b : Nat) : Int) := by
  have h3 : a ||| b < 2 ^ 64 := Nat.or_lt_two_pow (by omega) (by omega)
  change IntKind.u64.wrap (((BitVec.ofInt 64 (a : Int) ||| BitVec.ofInt 64 (b : Int)).toNat : Nat) : Int) = _
  rw [BitVec.toNat_or, xPi ha, xPi hb]
  exact xXB (by omega)
theorem xY8 {n : Nat} {k k' : IntKind} {h m : Int} (h0 : 0 ≤ h) (h1 : h ≤ m) (h2 : m ≤ n) : xCP n none (some (.int k h)) (some (.int k' m)) = some (0, h.toNat) := by
  have h3 : 0 ≤ m := by omega
  simp only [xCP, xCJ, if_pos h0, if_pos h3]
  rw [if_pos ⟨by omega, by omega⟩, if_pos ⟨by omega, by omega⟩]

theorem yB7 (k : Nat) (l : xAu) : (List.replicate k Blk.dead ++ l)[k]? = l[0]? := by
  have := xCM (List.replicate k Blk.dead) l
  rwa [List.length_replicate] at this
theorem yB8 (k : Nat) (l : xAu) (b : Blk) : (List.replicate k Blk.dead ++ l).set k b = List.replicate k Blk.dead ++ l.set 0 b := by
  have := xDq (List.replicate k Blk.dead) l b
  rwa [List.length_replicate] at this
theorem yB9 (k : Nat) (l : xAu) (f : Blk → Blk) : (List.replicate k Blk.dead ++ l).modify k f = List.replicate k Blk.dead ++ l.modify 0 f := by
  have := yCu (List.replicate k Blk.dead) l f
  rwa [List.length_replicate] at this
theorem yDe (l : List Nat) : (w64 l).all xCB = true := xKs (fun _ => rfl) l
theorem yCa (l : List Int) : (xCh l).all xCB = true := xKs (fun _ => rfl) l
end Go.Abs
