/- More lists as cells: words,xAJ,rows. -/
import Derived.Test.YtdheandekcpieaaDoorAbsEnc
namespace Go.Abs
set_option linter.unusedVariables false
set_option linter.unusedSimpArgs false
def w64 (l : List Nat) : List AV := l.map fun (n : Nat) => AV.int .u64 (n : Nat)
theorem xAW (l : List Nat) : (w64 l).length = l.length := by simp [w64]
theorem xAM (k : Nat) (l : List Nat) : List.take k (w64 l) = w64 (l.take k) := by simp [w64,List.map_take]
theorem xDG (k : Nat) (l : List Nat) : List.drop k (w64 l) = w64 (l.drop k) := by simp [w64,List.map_drop]
theorem xF7 {l : List Nat} (h : 0 < l.length) : w64 (List.take 1 l) = [(fun (n : Nat) => AV.int .u64 (n : Nat)) (l.getD 0 0)] := by
 cases l with
 | nil => simp at h
 | cons a l => simp [w64]
theorem xPk {l : List Nat} {k : Nat} {n : Nat} (h : k < l.length) : w64 (List.take k l) ++ (AV.int .u64 (n : Nat) :: w64 (List.drop (k + 1) l)) = w64 (l.set k n) := by
 rw [← xAM,← xDG,xHT _ _ _ (by rw [xAW]; exact h)]; simp [w64,List.map_set]
theorem xHR (d : Nat) (H : Heap) : ∀ l : List Nat,(w64 l).mapM (frz d H) = some (w64 l)
 | [] => rfl
 | n :: l => by
  have h := xHR d H l
  have : w64 (n :: l) = AV.int .u64 (n : Nat) :: w64 l := rfl
  rw [this,List.mapM_cons,xDI]
  simp [h]
theorem xSo (d : Nat) (H : Heap) (l : List Nat) : (w64 l).flatMap (bor d H) = [] := by
 induction l with
 | nil => rfl
 | cons n l ih =>
  have : w64 (n :: l) = AV.int .u64 (n : Nat) :: w64 l := rfl
  rw [this,List.flatMap_cons,ih,xOr]; rfl
def xAJ (l : List Int) : List AV := l.map fun (n : Int) => AV.int .i64 n
theorem xDH (l : List Int) : (xAJ l).length = l.length := by simp [xAJ]
theorem xMl (k : Nat) (l : List Int) : List.take k (xAJ l) = xAJ (l.take k) := by simp [xAJ,List.map_take]
theorem xMm (k : Nat) (l : List Int) : List.drop k (xAJ l) = xAJ (l.drop k) := by simp [xAJ,List.map_drop]
theorem xPl {l : List Int} (h : 0 < l.length) : xAJ (List.take 1 l) = [(fun (n : Int) => AV.int .i64 n) (l.getD 0 0)] := by
 cases l with
 | nil => simp at h
 | cons a l => simp [xAJ]
theorem xHc (d : Nat) (H : Heap) : ∀ l : List Int,(xAJ l).mapM (frz d H) = some (xAJ l)
 | [] => rfl
 | n :: l => by
  have h := xHc d H l
  have : xAJ (n :: l) = AV.int .i64 n :: xAJ l := rfl
  rw [this,List.mapM_cons,xDI]
  simp [h]
def rows {α : Type} (enc : α → List AV) (l : List α) : List AV := (l.map enc).flatten
section
variable {α : Type} {enc : α → List AV} {k : Nat} (hk : ∀ a,(enc a).length = k)
include hk
theorem xE1 (l : List α) : (rows enc l).length = l.length * k := by
 induction l with
 | nil => simp [rows]
 | cons a l ih =>
  have : rows enc (a :: l) = enc a ++ rows enc l := rfl
  rw [this,List.length_append,ih,hk,List.length_cons,Nat.succ_mul]; omega
theorem xFv : ∀ (i : Nat) (l : List α),List.drop (i * k) (rows enc l) = rows enc (l.drop i)
 | 0,l => by simp
 | i + 1,[] => by simp [rows]
 | i + 1,a :: l => by
  have : rows enc (a :: l) = enc a ++ rows enc l := rfl
  rw [this,List.drop_succ_cons,← xFv i l,Nat.succ_mul,Nat.add_comm,← List.drop_drop,← hk a,List.drop_left]
end
theorem xJl (l : List Int) (n t : Nat) : (l.drop n).getD t 0 = l.getD (n + t) 0 := by simp [List.getD,List.getElem?_drop]
theorem xJm {a : Nat} (h : a < 18446744073709551616) : (BitVec.ofInt 64 (a : Int)).toNat = a := by simp; omega
theorem xRh {n : Nat} (h : n < 18446744073709551616) : IntKind.u64.wrap (n : Int) = n := by
 simp [IntKind.wrap,IntKind.bits,IntKind.signed]; omega
theorem xXY {a b : Nat} (ha : a < 18446744073709551616) (hb : b < 18446744073709551616) : xDD .and .u64 (a : Int) (b : Int) = ((a &&& b : Nat) : Int) := by
 have h3 : a &&& b ≤ a := Nat.and_le_left
 change IntKind.u64.wrap (((BitVec.ofInt 64 (a : Int) &&& BitVec.ofInt 64 (b : Int)).toNat : Nat) : Int) = _
 rw [BitVec.toNat_and,xJm ha,xJm hb]
 exact xRh (by omega)
theorem xZP {a b : Nat} (ha : a < 18446744073709551616) (hb : b < 18446744073709551616) : xDD .or .u64 (a : Int) (b : Int) = ((a ||| b : Nat) : Int) := by
 have h3 : a ||| b < 2 ^ 64 := Nat.or_lt_two_pow (by omega) (by omega)
 change IntKind.u64.wrap (((BitVec.ofInt 64 (a : Int) ||| BitVec.ofInt 64 (b : Int)).toNat : Nat) : Int) = _
 rw [BitVec.toNat_or,xJm ha,xJm hb]
 exact xRh (by omega)
end Go.Abs
