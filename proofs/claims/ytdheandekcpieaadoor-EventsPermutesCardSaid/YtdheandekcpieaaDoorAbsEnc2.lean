/- More lists as cells: words,xAJ,rows. -/
import Derived.Test.YtdheandekcpieaaDoorAbsEnc
namespace Go.Abs
set_option linter.unusedVariables false
set_option linter.unusedSimpArgs false
def w64 (l : List Nat) : List AV := l.map fun (n : Nat) => AV.int .u64 (n : Nat)
theorem xAL (l : List Nat) : (w64 l).length = l.length := by simp [w64]
theorem xAB (k : Nat) (l : List Nat) : List.take k (w64 l) = w64 (l.take k) := by simp [w64,List.map_take]
theorem xDc (k : Nat) (l : List Nat) : List.drop k (w64 l) = w64 (l.drop k) := by simp [w64,List.map_drop]
theorem xFP {l : List Nat} (h : 0 < l.length) : w64 (List.take 1 l) = [(fun (n : Nat) => AV.int .u64 (n : Nat)) (l.getD 0 0)] := by
 cases l with
 | nil => simp at h
 | cons a l => simp [w64]
theorem xPq {l : List Nat} {k : Nat} {n : Nat} (h : k < l.length) : w64 (List.take k l) ++ (AV.int .u64 (n : Nat) :: w64 (List.drop (k + 1) l)) = w64 (l.set k n) := by
 rw [← xAB,← xDc,xE3 _ _ _ (by rw [xAL]; exact h)]; simp [w64,List.map_set]
theorem xHV (d : Nat) (H : Heap) : ∀ l : List Nat,(w64 l).mapM (frz d H) = some (w64 l)
 | [] => rfl
 | n :: l => by
  have h := xHV d H l
  have : w64 (n :: l) = AV.int .u64 (n : Nat) :: w64 l := rfl
  rw [this,List.mapM_cons,xCF]
  simp [h]
theorem xTO (d : Nat) (H : Heap) (l : List Nat) : (w64 l).flatMap (bor d H) = [] := by
 induction l with
 | nil => rfl
 | cons n l ih =>
  have : w64 (n :: l) = AV.int .u64 (n : Nat) :: w64 l := rfl
  rw [this,List.flatMap_cons,ih,xJZ]; rfl
def xAJ (l : List Int) : List AV := l.map fun (n : Int) => AV.int .i64 n
theorem xBy (l : List Int) : (xAJ l).length = l.length := by simp [xAJ]
theorem xHW (k : Nat) (l : List Int) : List.take k (xAJ l) = xAJ (l.take k) := by simp [xAJ,List.map_take]
theorem xHX (k : Nat) (l : List Int) : List.drop k (xAJ l) = xAJ (l.drop k) := by simp [xAJ,List.map_drop]
theorem xPr {l : List Int} (h : 0 < l.length) : xAJ (List.take 1 l) = [(fun (n : Int) => AV.int .i64 n) (l.getD 0 0)] := by
 cases l with
 | nil => simp at h
 | cons a l => simp [xAJ]
theorem xMu {l : List Int} {k : Nat} {n : Int} (h : k < l.length) : xAJ (List.take k l) ++ (AV.int .i64 n :: xAJ (List.drop (k + 1) l)) = xAJ (l.set k n) := by
 rw [← xHW,← xHX,xE3 _ _ _ (by rw [xBy]; exact h)]; simp [xAJ,List.map_set]
theorem xGx (d : Nat) (H : Heap) : ∀ l : List Int,(xAJ l).mapM (frz d H) = some (xAJ l)
 | [] => rfl
 | n :: l => by
  have h := xGx d H l
  have : xAJ (n :: l) = AV.int .i64 n :: xAJ l := rfl
  rw [this,List.mapM_cons,xCF]
  simp [h]
def rows {α : Type} (enc : α → List AV) (l : List α) : List AV := (l.map enc).flatten
section
variable {α : Type} {enc : α → List AV} {k : Nat} (hk : ∀ a,(enc a).length = k)
include hk
theorem xDd (l : List α) : (rows enc l).length = l.length * k := by
 induction l with
 | nil => simp [rows]
 | cons a l ih =>
  have : rows enc (a :: l) = enc a ++ rows enc l := rfl
  rw [this,List.length_append,ih,hk,List.length_cons,Nat.succ_mul]; omega
theorem xDR : ∀ (i : Nat) (l : List α),List.drop (i * k) (rows enc l) = rows enc (l.drop i)
 | 0,l => by simp
 | i + 1,[] => by simp [rows]
 | i + 1,a :: l => by
  have : rows enc (a :: l) = enc a ++ rows enc l := rfl
  rw [this,List.drop_succ_cons,← xDR i l,Nat.succ_mul,Nat.add_comm,← List.drop_drop,← hk a,List.drop_left]
end
theorem xVp {α : Type} (enc : α → List AV) (a b : List α) : rows enc a ++ rows enc b = rows enc (a ++ b) := by simp [rows]
theorem xJw (l : List Int) (n t : Nat) : (l.drop n).getD t 0 = l.getD (n + t) 0 := by simp [List.getD,List.getElem?_drop]
theorem xJx {a : Nat} (h : a < 18446744073709551616) : (BitVec.ofInt 64 (a : Int)).toNat = a := by simp; omega
theorem xQl {n : Nat} (h : n < 18446744073709551616) : IntKind.u64.wrap (n : Int) = n := by
 simp [IntKind.wrap,IntKind.bits,IntKind.signed]; omega
theorem xYr {a b : Nat} (ha : a < 18446744073709551616) (hb : b < 18446744073709551616) : xDj .and .u64 (a : Int) (b : Int) = ((a &&& b : Nat) : Int) := by
 have h3 : a &&& b ≤ a := Nat.and_le_left
 change IntKind.u64.wrap (((BitVec.ofInt 64 (a : Int) &&& BitVec.ofInt 64 (b : Int)).toNat : Nat) : Int) = _
 rw [BitVec.toNat_and,xJx ha,xJx hb]
 exact xQl (by omega)
theorem yAT {a b : Nat} (ha : a < 18446744073709551616) (hb : b < 18446744073709551616) : xDj .or .u64 (a : Int) (b : Int) = ((a ||| b : Nat) : Int) := by
 have h3 : a ||| b < 2 ^ 64 := Nat.or_lt_two_pow (by omega) (by omega)
 change IntKind.u64.wrap (((BitVec.ofInt 64 (a : Int) ||| BitVec.ofInt 64 (b : Int)).toNat : Nat) : Int) = _
 rw [BitVec.toNat_or,xJx ha,xJx hb]
 exact xQl (by omega)
theorem xPs (l : List Int) : (xAJ l).all xBx = true := xXq (fun _ => rfl) l
end Go.Abs
