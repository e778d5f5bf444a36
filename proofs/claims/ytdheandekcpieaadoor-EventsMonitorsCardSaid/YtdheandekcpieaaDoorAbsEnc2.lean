/- More lists as cells: words,xAv,rows. -/
import Derived.Test.YtdheandekcpieaaDoorAbsEnc
namespace Go.Abs
set_option linter.unusedVariables false
set_option linter.unusedSimpArgs false
def w64 (l : List Nat) : List AV := l.map fun (n : Nat) => AV.int .u64 (n : Nat)
theorem xAY (l : List Nat) : (w64 l).length = l.length := by simp [w64]
theorem xAM (k : Nat) (l : List Nat) : List.take k (w64 l) = w64 (l.take k) := by simp [w64,List.map_take]
theorem xDJ (k : Nat) (l : List Nat) : List.drop k (w64 l) = w64 (l.drop k) := by simp [w64,List.map_drop]
theorem xGE {l : List Nat} (h : 0 < l.length) : w64 (List.take 1 l) = [(fun (n : Nat) => AV.int .u64 (n : Nat)) (l.getD 0 0)] := by
 cases l with
 | nil => simp at h
 | cons a l => simp [w64]
theorem xRA {l : List Nat} {k : Nat} {n : Nat} (h : k < l.length) : w64 (List.take k l) ++ (AV.int .u64 (n : Nat) :: w64 (List.drop (k + 1) l)) = w64 (l.set k n) := by
 rw [← xAM,← xDJ,xFN _ _ _ (by rw [xAY]; exact h)]; simp [w64,List.map_set]
theorem xJb (d : Nat) (H : Heap) : ∀ l : List Nat,(w64 l).mapM (frz d H) = some (w64 l)
 | [] => rfl
 | n :: l => by
  have h := xJb d H l
  have : w64 (n :: l) = AV.int .u64 (n : Nat) :: w64 l := rfl
  rw [this,List.mapM_cons,xCM]
  simp [h]
theorem xWe (d : Nat) (H : Heap) (l : List Nat) : (w64 l).flatMap (bor d H) = [] := by
 induction l with
 | nil => rfl
 | cons n l ih =>
  have : w64 (n :: l) = AV.int .u64 (n : Nat) :: w64 l := rfl
  rw [this,List.flatMap_cons,ih,xGe]; rfl
def xAv (l : List Int) : List AV := l.map fun (n : Int) => AV.int .i64 n
theorem xBj (l : List Int) : (xAv l).length = l.length := by simp [xAv]
theorem xJc (k : Nat) (l : List Int) : List.take k (xAv l) = xAv (l.take k) := by simp [xAv,List.map_take]
theorem xJd (k : Nat) (l : List Int) : List.drop k (xAv l) = xAv (l.drop k) := by simp [xAv,List.map_drop]
theorem xRB {l : List Int} (h : 0 < l.length) : xAv (List.take 1 l) = [(fun (n : Int) => AV.int .i64 n) (l.getD 0 0)] := by
 cases l with
 | nil => simp at h
 | cons a l => simp [xAv]
theorem xWf {l : List Int} {k : Nat} {n : Int} (h : k < l.length) : xAv (List.take k l) ++ (AV.int .i64 n :: xAv (List.drop (k + 1) l)) = xAv (l.set k n) := by
 rw [← xJc,← xJd,xFN _ _ _ (by rw [xBj]; exact h)]; simp [xAv,List.map_set]
theorem xFX (d : Nat) (H : Heap) : ∀ l : List Int,(xAv l).mapM (frz d H) = some (xAv l)
 | [] => rfl
 | n :: l => by
  have h := xFX d H l
  have : xAv (n :: l) = AV.int .i64 n :: xAv l := rfl
  rw [this,List.mapM_cons,xCM]
  simp [h]
theorem xXX (d : Nat) (H : Heap) (l : List Int) : (xAv l).flatMap (bor d H) = [] := by
 induction l with
 | nil => rfl
 | cons n l ih =>
  have : xAv (n :: l) = AV.int .i64 n :: xAv l := rfl
  rw [this,List.flatMap_cons,ih,xGe]; rfl
def rows {α : Type} (enc : α → List AV) (l : List α) : List AV := (l.map enc).flatten
section
variable {α : Type} {enc : α → List AV} {k : Nat} (hk : ∀ a,(enc a).length = k)
include hk
theorem xCQ (l : List α) : (rows enc l).length = l.length * k := by
 induction l with
 | nil => simp [rows]
 | cons a l ih =>
  have : rows enc (a :: l) = enc a ++ rows enc l := rfl
  rw [this,List.length_append,ih,hk,List.length_cons,Nat.succ_mul]; omega
theorem xDk : ∀ (i : Nat) (l : List α),List.drop (i * k) (rows enc l) = rows enc (l.drop i)
 | 0,l => by simp
 | i + 1,[] => by simp [rows]
 | i + 1,a :: l => by
  have : rows enc (a :: l) = enc a ++ rows enc l := rfl
  rw [this,List.drop_succ_cons,← xDk i l,Nat.succ_mul,Nat.add_comm,← List.drop_drop,← hk a,List.drop_left]
end
theorem xMj {α : Type} (enc : α → List AV) (a b : List α) : rows enc a ++ rows enc b = rows enc (a ++ b) := by simp [rows]
theorem xLe (l : List Int) (n t : Nat) : (l.drop n).getD t 0 = l.getD (n + t) 0 := by simp [List.getD,List.getElem?_drop]
theorem xLf {a : Nat} (h : a < 18446744073709551616) : (BitVec.ofInt 64 (a : Int)).toNat = a := by simp; omega
theorem xSx {n : Nat} (h : n < 18446744073709551616) : IntKind.u64.wrap (n : Int) = n := by
 simp [IntKind.wrap,IntKind.bits,IntKind.signed]; omega
theorem yBh {a b : Nat} (ha : a < 18446744073709551616) (hb : b < 18446744073709551616) : xDR .and .u64 (a : Int) (b : Int) = ((a &&& b : Nat) : Int) := by
 have h3 : a &&& b ≤ a := Nat.and_le_left
 change IntKind.u64.wrap (((BitVec.ofInt 64 (a : Int) &&& BitVec.ofInt 64 (b : Int)).toNat : Nat) : Int) = _
 rw [BitVec.toNat_and,xLf ha,xLf hb]
 exact xSx (by omega)
theorem yDX {a b : Nat} (ha : a < 18446744073709551616) (hb : b < 18446744073709551616) : xDR .or .u64 (a : Int) (b : Int) = ((a ||| b : Nat) : Int) := by
 have h3 : a ||| b < 2 ^ 64 := Nat.or_lt_two_pow (by omega) (by omega)
 change IntKind.u64.wrap (((BitVec.ofInt 64 (a : Int) ||| BitVec.ofInt 64 (b : Int)).toNat : Nat) : Int) = _
 rw [BitVec.toNat_or,xLf ha,xLf hb]
 exact xSx (by omega)
theorem xRC (l : List Int) : (xAv l).all xBN = true := yAa (fun _ => rfl) l
end Go.Abs
