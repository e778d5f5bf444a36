/- More lists as cells: words, xCK, rows. -/
import Derived.Test.YtdkbhidfiplncaaAbsEnc
namespace Go.Abs
set_option linter.unusedVariables false
set_option linter.unusedSimpArgs false

def w64 (l : List Nat) : List AV := l.map fun (n : Nat) => AV.int .u64 (n : Nat)
theorem xAe (l : List Nat) : (w64 l).length = l.length := by simp [w64]
theorem xCT (k : Nat) (l : List Nat) : List.take k (w64 l) = w64 (l.take k) := by simp [w64, List.map_take]
theorem xD2 (k : Nat) (l : List Nat) : List.drop k (w64 l) = w64 (l.drop k) := by simp [w64, List.map_drop]
theorem yB8 (a b : List Nat) : w64 a ++ w64 b = w64 (a ++ b) := by simp [w64]
theorem xGw {l : List Nat} (h : 0 < l.length) : w64 (List.take 1 l) = [(fun (n : Nat) => AV.int .u64 (n : Nat)) (l.getD 0 0)] := by
  cases l with
  | nil => simp at h
  | cons a l => simp [w64]
theorem xTK {l : List Nat} {k : Nat} {n : Nat} (h : k < l.length) : w64 (List.take k l) ++ (AV.int .u64 (n : Nat) :: w64 (List.drop (k + 1) l)) = w64 (l.set k n) := by
  rw [← xCT, ← xD2, xGB _ _ _ (by rw [xAe]; exact h)]; simp [w64, List.map_set]
theorem xOw (l : List Nat) (n : Nat) : w64 l ++ [AV.int .u64 (n : Nat)] = w64 (l ++ [n]) := by simp [w64]
theorem xW6 (n : Nat) : w64 [n] = [AV.int .u64 (n : Nat)] := rfl
theorem xW7 : w64 [] = [] := rfl
theorem xKO (d : Nat) (H : xAA) : ∀ l : List Nat, (w64 l).mapM (frz d H) = some (w64 l)
  | [] => rfl
  | n :: l => by
    have h := xKO d H l
    have : w64 (n :: l) = AV.int .u64 (n : Nat) :: w64 l := rfl
    rw [this, List.mapM_cons, xAW]
    simp [h]
theorem xRJ (d : Nat) (H : xAA) (l : List Nat) : (w64 l).flatMap (bor d H) = [] := by
  induction l with
  | nil => rfl
  | cons n l ih =>
    have : w64 (n :: l) = AV.int .u64 (n : Nat) :: w64 l := rfl
    rw [this, List.flatMap_cons, ih, xBR]; rfl
theorem xU6 {z : Bool} {n : Nat} {l : List Nat} (h : l.length = n) : AV.sl z n (w64 l) = .sl z l.length (w64 l) := by subst h; rfl

def xCK (l : List Int) : List AV := l.map fun (n : Int) => AV.int .i64 n
theorem xAa (l : List Int) : (xCK l).length = l.length := by simp [xCK]
theorem xB7 (k : Nat) (l : List Int) : List.take k (xCK l) = xCK (l.take k) := by simp [xCK, List.map_take]
theorem xCq (k : Nat) (l : List Int) : List.drop k (xCK l) = xCK (l.drop k) := by simp [xCK, List.map_drop]
theorem yAX (a b : List Int) : xCK a ++ xCK b = xCK (a ++ b) := by simp [xCK]
theorem xDa {l : List Int} (h : 0 < l.length) : xCK (List.take 1 l) = [(fun (n : Int) => AV.int .i64 n) (l.getD 0 0)] := by
  cases l with
  | nil => simp at h
  | cons a l => simp [xCK]
theorem xMu {l : List Int} {k : Nat} {n : Int} (h : k < l.length) : xCK (List.take k l) ++ (AV.int .i64 n :: xCK (List.drop (k + 1) l)) = xCK (l.set k n) := by
  rw [← xB7, ← xCq, xGB _ _ _ (by rw [xAa]; exact h)]; simp [xCK, List.map_set]
theorem xZJ (l : List Int) (n : Int) : xCK l ++ [AV.int .i64 n] = xCK (l ++ [n]) := by simp [xCK]
theorem yAY (n : Int) : xCK [n] = [AV.int .i64 n] := rfl
theorem yAZ : xCK [] = [] := rfl
theorem xH1 (d : Nat) (H : xAA) : ∀ l : List Int, (xCK l).mapM (frz d H) = some (xCK l)
  | [] => rfl
  | n :: l => by
    have h := xH1 d H l
    have : xCK (n :: l) = AV.int .i64 n :: xCK l := rfl
    rw [this, List.mapM_cons, xAW]
    simp [h]
theorem xTL (d : Nat) (H : xAA) (l : List Int) : (xCK l).flatMap (bor d H) = [] := by
  induction l with
  | nil => rfl
  | cons n l ih =>
    have : xCK (n :: l) = AV.int .i64 n :: xCK l := rfl
    rw [this, List.flatMap_cons, ih, xBR]; rfl
theorem yB9 {z : Bool} {n : Nat} {l : List Int} (h : l.length = n) : AV.sl z n (xCK l) = .sl z l.length (xCK l) := by subst h; rfl

def rows {α : Type} (enc : α → List AV) (l : List α) : List AV := (l.map enc).flatten
section
variable {α : Type} {enc : α → List AV} {k : Nat} (hk : ∀ a, (enc a).length = k)
include hk
theorem xJb (l : List α) : (rows enc l).length = l.length * k := by
  induction l with
  | nil => simp [rows]
  | cons a l ih =>
    have : rows enc (a :: l) = enc a ++ rows enc l := rfl
    rw [this, List.length_append, ih, hk, List.length_cons, Nat.succ_mul]; omega
theorem xJc : ∀ (i : Nat) (l : List α), List.drop (i * k) (rows enc l) = rows enc (l.drop i)
  | 0, l => by simp
  | i + 1, [] => by simp [rows]
  | i + 1, a :: l => by
    have : rows enc (a :: l) = enc a ++ rows enc l := rfl
    rw [this, List.drop_succ_cons, ← xJc i l, Nat.succ_mul, Nat.add_comm, ← List.drop_drop, ← hk a, List.drop_left]
theorem xJd : ∀ (i : Nat) (l : List α), List.take (i * k) (rows enc l) = rows enc (l.take i)
  | 0, l => by simp [rows]
  | i + 1, [] => by simp [rows]
  | i + 1, a :: l => by
    have e : rows enc (a :: l) = enc a ++ rows enc l := rfl
    have e2 : rows enc (List.take (i + 1) (a :: l)) = enc a ++ rows enc (l.take i) := rfl
    rw [e, e2, ← xJd i l, Nat.succ_mul, Nat.add_comm, ← hk a, List.take_length_add_append]
end
theorem yA0 {α : Type} (enc : α → List AV) (a b : List α) : rows enc a ++ rows enc b = rows enc (a ++ b) := by simp [rows]

theorem xCm (l : List Int) (n t : Nat) : (l.drop n).getD t 0 = l.getD (n + t) 0 := by simp [List.getD, List.getElem?_drop]

theorem xOx {a : Nat} (h : a < 18446744073709551616) : (BitVec.ofInt 64 (a : Int)).toNat = a := by simp; omega
theorem xTM {n : Nat} (h : n < 18446744073709551616) : IntKind.u64.wrap (n : Int) = n := by
  simp [IntKind.wrap, IntKind.bits, IntKind.signed]; omega
theorem xTN {a b : Nat} (ha : a < 18446744073709551616) (hb : b < 18446744073709551616) : xFC .and .u64 (a : Int) (b : Int) = ((a &&& b : Nat) : Int) := by
  have h3 : a &&& b ≤ a := Nat.and_le_left
  change IntKind.u64.wrap (((BitVec.ofInt 64 (a : Int) &&& BitVec.ofInt 64 (b : Int)).toNat : Nat) : Int) = _
  rw [BitVec.toNat_and, xOx ha, xOx hb]
  exact xTM (by omega)
theorem xX6 {a b : Nat} (ha : a < 18446744073709551616) (hb : b < 18446744073709551616) : xFC .or .u64 (a : Int) (b : Int) = ((a ||| b : Nat) : Int) := by
  have h3 : a ||| b < 2 ^ 64 := Nat.or_lt_two_pow (by omega) (by omega)
  change IntKind.u64.wrap (((BitVec.ofInt 64 (a : Int) ||| BitVec.ofInt 64 (b : Int)).toNat : Nat) : Int) = _
  rw [BitVec.toNat_or, xOx ha, xOx hb]
  exact xTM (by omega)
theorem xKc {n : Nat} {k k' : IntKind} {h m : Int} (h0 : 0 ≤ h) (h1 : h ≤ m) (h2 : m ≤ n) : xCM n none (some (.int k h)) (some (.int k' m)) = some (0, h.toNat) := by
  have h3 : 0 ≤ m := by omega
  simp only [xCM, xCx, if_pos h0, if_pos h3]
  rw [if_pos ⟨by omega, by omega⟩, if_pos ⟨by omega, by omega⟩]

theorem xH2 (k : Nat) (l : xAA) : (List.replicate k Blk.dead ++ l)[k]? = l[0]? := by
  have := xCY (List.replicate k Blk.dead) l
  rwa [List.length_replicate] at this
theorem xTO (k : Nat) (l : xAA) (b : Blk) : (List.replicate k Blk.dead ++ l).set k b = List.replicate k Blk.dead ++ l.set 0 b := by
  have := xDr (List.replicate k Blk.dead) l b
  rwa [List.length_replicate] at this
theorem xTP (k : Nat) (l : xAA) (f : Blk → Blk) : (List.replicate k Blk.dead ++ l).modify k f = List.replicate k Blk.dead ++ l.modify 0 f := by
  have := yBn (List.replicate k Blk.dead) l f
  rwa [List.length_replicate] at this
theorem yCa (l : List Nat) : (w64 l).all xCA = true := xKk (fun _ => rfl) l
theorem xTQ (l : List Int) : (xCK l).all xCA = true := xKk (fun _ => rfl) l
end Go.Abs
