/- More lists as cells: words,xAB,rows. -/
import Derived.Test.YtdheandekcpieaaGreatDoorAbsEnc
namespace Go.Abs
set_option linter.unusedVariables false
set_option linter.unusedSimpArgs false
def w64 (l : List Nat) : List AV := l.map fun (n : Nat) => AV.int .u64 (n : Nat)
theorem xAV (l : List Nat) : (w64 l).length = l.length := by simp [w64]
theorem xAJ (k : Nat) (l : List Nat) : List.take k (w64 l) = w64 (l.take k) := by simp [w64,List.map_take]
theorem xDg (k : Nat) (l : List Nat) : List.drop k (w64 l) = w64 (l.drop k) := by simp [w64,List.map_drop]
theorem xF6 {l : List Nat} (h : 0 < l.length) : w64 (List.take 1 l) = [(fun (n : Nat) => AV.int .u64 (n : Nat)) (l.getD 0 0)] := by
 cases l with
 | nil => simp at h
 | cons a l => simp [w64]
theorem xQl {l : List Nat} {k : Nat} {n : Nat} (h : k < l.length) : w64 (List.take k l) ++ (AV.int .u64 (n : Nat) :: w64 (List.drop (k + 1) l)) = w64 (l.set k n) := by
 rw [← xAJ,← xDg,xH0 _ _ _ (by rw [xAV]; exact h)]; simp [w64,List.map_set]
theorem xH9 (d : Nat) (H : Heap) : ∀ l : List Nat,(w64 l).mapM (frz d H) = some (w64 l)
 | [] => rfl
 | n :: l => by
  have h := xH9 d H l
  have : w64 (n :: l) = AV.int .u64 (n : Nat) :: w64 l := rfl
  rw [this,List.mapM_cons,xDO]
  simp [h]
theorem xUY (d : Nat) (H : Heap) (l : List Nat) : (w64 l).flatMap (bor d H) = [] := by
 induction l with
 | nil => rfl
 | cons n l ih =>
  have : w64 (n :: l) = AV.int .u64 (n : Nat) :: w64 l := rfl
  rw [this,List.flatMap_cons,ih,xN5]; rfl
def xAB (l : List Int) : List AV := l.map fun (n : Int) => AV.int .i64 n
theorem xDh (l : List Int) : (xAB l).length = l.length := by simp [xAB]
theorem xNk (k : Nat) (l : List Int) : List.take k (xAB l) = xAB (l.take k) := by simp [xAB,List.map_take]
theorem xNl (k : Nat) (l : List Int) : List.drop k (xAB l) = xAB (l.drop k) := by simp [xAB,List.map_drop]
theorem xQm {l : List Int} (h : 0 < l.length) : xAB (List.take 1 l) = [(fun (n : Int) => AV.int .i64 n) (l.getD 0 0)] := by
 cases l with
 | nil => simp at h
 | cons a l => simp [xAB]
theorem xK6 (d : Nat) (H : Heap) : ∀ l : List Int,(xAB l).mapM (frz d H) = some (xAB l)
 | [] => rfl
 | n :: l => by
  have h := xK6 d H l
  have : xAB (n :: l) = AV.int .i64 n :: xAB l := rfl
  rw [this,List.mapM_cons,xDO]
  simp [h]
def rows {α : Type} (enc : α → List AV) (l : List α) : List AV := (l.map enc).flatten
section
variable {α : Type} {enc : α → List AV} {k : Nat} (hk : ∀ a,(enc a).length = k)
include hk
theorem xEK (l : List α) : (rows enc l).length = l.length * k := by
 induction l with
 | nil => simp [rows]
 | cons a l ih =>
  have : rows enc (a :: l) = enc a ++ rows enc l := rfl
  rw [this,List.length_append,ih,hk,List.length_cons,Nat.succ_mul]; omega
theorem xFp : ∀ (i : Nat) (l : List α),List.drop (i * k) (rows enc l) = rows enc (l.drop i)
 | 0,l => by simp
 | i + 1,[] => by simp [rows]
 | i + 1,a :: l => by
  have : rows enc (a :: l) = enc a ++ rows enc l := rfl
  rw [this,List.drop_succ_cons,← xFp i l,Nat.succ_mul,Nat.add_comm,← List.drop_drop,← hk a,List.drop_left]
end
theorem xJ8 (l : List Int) (n t : Nat) : (l.drop n).getD t 0 = l.getD (n + t) 0 := by simp [List.getD,List.getElem?_drop]
theorem xJ9 {a : Nat} (h : a < 18446744073709551616) : (BitVec.ofInt 64 (a : Int)).toNat = a := by simp; omega
theorem xRe {n : Nat} (h : n < 18446744073709551616) : IntKind.u64.wrap (n : Int) = n := by
 simp [IntKind.wrap,IntKind.bits,IntKind.signed]; omega
theorem yAw {a b : Nat} (ha : a < 18446744073709551616) (hb : b < 18446744073709551616) : xDq .and .u64 (a : Int) (b : Int) = ((a &&& b : Nat) : Int) := by
 have h3 : a &&& b ≤ a := Nat.and_le_left
 change IntKind.u64.wrap (((BitVec.ofInt 64 (a : Int) &&& BitVec.ofInt 64 (b : Int)).toNat : Nat) : Int) = _
 rw [BitVec.toNat_and,xJ9 ha,xJ9 hb]
 exact xRe (by omega)
theorem yDm {a b : Nat} (ha : a < 18446744073709551616) (hb : b < 18446744073709551616) : xDq .or .u64 (a : Int) (b : Int) = ((a ||| b : Nat) : Int) := by
 have h3 : a ||| b < 2 ^ 64 := Nat.or_lt_two_pow (by omega) (by omega)
 change IntKind.u64.wrap (((BitVec.ofInt 64 (a : Int) ||| BitVec.ofInt 64 (b : Int)).toNat : Nat) : Int) = _
 rw [BitVec.toNat_or,xJ9 ha,xJ9 hb]
 exact xRe (by omega)
end Go.Abs
