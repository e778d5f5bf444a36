/- More lists as cells: words,xD8,rows. -/
import Derived.Test.YtijmhicopfphnaaDoorAbsEnc
namespace Go.Abs
set_option linter.unusedVariables false
set_option linter.unusedSimpArgs false
def w64 (l : List Nat) : List AV := l.map fun (n : Nat) => AV.int .u64 (n : Nat)
theorem xAh (l : List Nat) : (w64 l).length = l.length := by simp [w64]
theorem xDy (k : Nat) (l : List Nat) : List.take k (w64 l) = w64 (l.take k) := by simp [w64,List.map_take]
theorem xEW (k : Nat) (l : List Nat) : List.drop k (w64 l) = w64 (l.drop k) := by simp [w64,List.map_drop]
theorem xGH (a b : List Nat) : w64 a ++ w64 b = w64 (a ++ b) := by simp [w64]
theorem xGk {l : List Nat} (h : 0 < l.length) : w64 (List.take 1 l) = [(fun (n : Nat) => AV.int .u64 (n : Nat)) (l.getD 0 0)] := by
 cases l with
 | nil => simp at h
 | cons a l => simp [w64]
theorem xF5 {l : List Nat} {k : Nat} {n : Nat} (h : k < l.length) : w64 (List.take k l) ++ (AV.int .u64 (n : Nat) :: w64 (List.drop (k + 1) l)) = w64 (l.set k n) := by
 rw [← xDy,← xEW,xMm _ _ _ (by rw [xAh]; exact h)]; simp [w64,List.map_set]
theorem xUQ (l : List Nat) (n : Nat) : w64 l ++ [AV.int .u64 (n : Nat)] = w64 (l ++ [n]) := by simp [w64]
theorem xHp (n : Nat) : w64 [n] = [AV.int .u64 (n : Nat)] := rfl
theorem xHq : w64 [] = [] := rfl
theorem xGA (d : Nat) (H : Heap) : ∀ l : List Nat,(w64 l).mapM (frz d H) = some (w64 l)
 | [] => rfl
 | n :: l => by
  have h := xGA d H l
  have : w64 (n :: l) = AV.int .u64 (n : Nat) :: w64 l := rfl
  rw [this,List.mapM_cons,xBQ]
  simp [h]
theorem xHr (d : Nat) (H : Heap) (l : List Nat) : (w64 l).flatMap (bor d H) = [] := by
 induction l with
 | nil => rfl
 | cons n l ih =>
  have : w64 (n :: l) = AV.int .u64 (n : Nat) :: w64 l := rfl
  rw [this,List.flatMap_cons,ih,xCK]; rfl
def xD8 (l : List Int) : List AV := l.map fun (n : Int) => AV.int .i64 n
theorem xAf (l : List Int) : (xD8 l).length = l.length := by simp [xD8]
theorem xDL (k : Nat) (l : List Int) : List.take k (xD8 l) = xD8 (l.take k) := by simp [xD8,List.map_take]
theorem xD1 (k : Nat) (l : List Int) : List.drop k (xD8 l) = xD8 (l.drop k) := by simp [xD8,List.map_drop]
theorem xF6 (a b : List Int) : xD8 a ++ xD8 b = xD8 (a ++ b) := by simp [xD8]
theorem xF7 {l : List Int} (h : 0 < l.length) : xD8 (List.take 1 l) = [(fun (n : Int) => AV.int .i64 n) (l.getD 0 0)] := by
 cases l with
 | nil => simp at h
 | cons a l => simp [xD8]
theorem xEX {l : List Int} {k : Nat} {n : Int} (h : k < l.length) : xD8 (List.take k l) ++ (AV.int .i64 n :: xD8 (List.drop (k + 1) l)) = xD8 (l.set k n) := by
 rw [← xDL,← xD1,xMm _ _ _ (by rw [xAf]; exact h)]; simp [xD8,List.map_set]
theorem xOr (l : List Int) (n : Int) : xD8 l ++ [AV.int .i64 n] = xD8 (l ++ [n]) := by simp [xD8]
theorem xE4 (n : Int) : xD8 [n] = [AV.int .i64 n] := rfl
theorem xF8 : xD8 [] = [] := rfl
theorem xDz (d : Nat) (H : Heap) : ∀ l : List Int,(xD8 l).mapM (frz d H) = some (xD8 l)
 | [] => rfl
 | n :: l => by
  have h := xDz d H l
  have : xD8 (n :: l) = AV.int .i64 n :: xD8 l := rfl
  rw [this,List.mapM_cons,xBQ]
  simp [h]
theorem xFp (d : Nat) (H : Heap) (l : List Int) : (xD8 l).flatMap (bor d H) = [] := by
 induction l with
 | nil => rfl
 | cons n l ih =>
  have : xD8 (n :: l) = AV.int .i64 n :: xD8 l := rfl
  rw [this,List.flatMap_cons,ih,xCK]; rfl
def rows {α : Type} (enc : α → List AV) (l : List α) : List AV := (l.map enc).flatten
section
variable {α : Type} {enc : α → List AV} {k : Nat} (hk : ∀ a,(enc a).length = k)
include hk
theorem xLW (l : List α) : (rows enc l).length = l.length * k := by
 induction l with
 | nil => simp [rows]
 | cons a l ih =>
  have : rows enc (a :: l) = enc a ++ rows enc l := rfl
  rw [this,List.length_append,ih,hk,List.length_cons,Nat.succ_mul]; omega
theorem xLi : ∀ (i : Nat) (l : List α),List.drop (i * k) (rows enc l) = rows enc (l.drop i)
 | 0,l => by simp
 | i + 1,[] => by simp [rows]
 | i + 1,a :: l => by
  have : rows enc (a :: l) = enc a ++ rows enc l := rfl
  rw [this,List.drop_succ_cons,← xLi i l,Nat.succ_mul,Nat.add_comm,← List.drop_drop,← hk a,List.drop_left]
theorem xMt : ∀ (i : Nat) (l : List α),List.take (i * k) (rows enc l) = rows enc (l.take i)
 | 0,l => by simp [rows]
 | i + 1,[] => by simp [rows]
 | i + 1,a :: l => by
  have e : rows enc (a :: l) = enc a ++ rows enc l := rfl
  have e2 : rows enc (List.take (i + 1) (a :: l)) = enc a ++ rows enc (l.take i) := rfl
  rw [e,e2,← xMt i l,Nat.succ_mul,Nat.add_comm,← hk a,List.take_length_add_append]
end
theorem xKA {α : Type} (enc : α → List AV) (a b : List α) : rows enc a ++ rows enc b = rows enc (a ++ b) := by simp [rows]
theorem xDA (l : List Int) (n t : Nat) : (l.drop n).getD t 0 = l.getD (n + t) 0 := by simp [List.getD,List.getElem?_drop]
theorem xUR {a : Nat} (h : a < 18446744073709551616) : (BitVec.ofInt 64 (a : Int)).toNat = a := by simp; omega
theorem xJJ {n : Nat} (h : n < 18446744073709551616) : IntKind.u64.wrap (n : Int) = n := by
 simp [IntKind.wrap,IntKind.bits,IntKind.signed]; omega
theorem xTG {a b : Nat} (ha : a < 18446744073709551616) (hb : b < 18446744073709551616) : xK8 .and .u64 (a : Int) (b : Int) = ((a &&& b : Nat) : Int) := by
 have h3 : a &&& b ≤ a := Nat.and_le_left
 change IntKind.u64.wrap (((BitVec.ofInt 64 (a : Int) &&& BitVec.ofInt 64 (b : Int)).toNat : Nat) : Int) = _
 rw [BitVec.toNat_and,xUR ha,xUR hb]
 exact xJJ (by omega)
theorem yDA {a b : Nat} (ha : a < 18446744073709551616) (hb : b < 18446744073709551616) : xK8 .or .u64 (a : Int) (b : Int) = ((a ||| b : Nat) : Int) := by
 have h3 : a ||| b < 2 ^ 64 := Nat.or_lt_two_pow (by omega) (by omega)
 change IntKind.u64.wrap (((BitVec.ofInt 64 (a : Int) ||| BitVec.ofInt 64 (b : Int)).toNat : Nat) : Int) = _
 rw [BitVec.toNat_or,xUR ha,xUR hb]
 exact xJJ (by omega)
theorem xDB {n : Nat} {k k' : IntKind} {h m : Int} (h0 : 0 ≤ h) (h1 : h ≤ m) (h2 : m ≤ n) : xGJ n none (some (.int k h)) (some (.int k' m)) = some (0,h.toNat) := by
 have h3 : 0 ≤ m := by omega
 simp only [xGJ,xGn,if_pos h0,if_pos h3]
 rw [if_pos ⟨by omega,by omega⟩,if_pos ⟨by omega,by omega⟩]
theorem xF9 (k : Nat) (l : Heap) : (List.replicate k Blk.dead ++ l)[k]? = l[0]? := by
 have := xIO (List.replicate k Blk.dead) l
 rwa [List.length_replicate] at this
theorem xGa (k : Nat) (l : Heap) (b : Blk) : (List.replicate k Blk.dead ++ l).set k b = List.replicate k Blk.dead ++ l.set 0 b := by
 have := xJg (List.replicate k Blk.dead) l b
 rwa [List.length_replicate] at this
theorem xGb (k : Nat) (l : Heap) (f : Blk → Blk) : (List.replicate k Blk.dead ++ l).modify k f = List.replicate k Blk.dead ++ l.modify 0 f := by
 have := xKg (List.replicate k Blk.dead) l f
 rwa [List.length_replicate] at this
theorem xHs (l : List Nat) : (w64 l).all xEb = true := xQc (fun _ => rfl) l
theorem xFq (l : List Int) : (xD8 l).all xEb = true := xQc (fun _ => rfl) l
end Go.Abs
