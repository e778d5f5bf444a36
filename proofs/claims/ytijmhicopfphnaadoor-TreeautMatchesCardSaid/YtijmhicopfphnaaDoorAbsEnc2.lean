/- More lists as cells: words,xBW,rows. -/
import Derived.Test.YtijmhicopfphnaaDoorAbsEnc
namespace Go.Abs
set_option linter.unusedVariables false
set_option linter.unusedSimpArgs false
def w64 (l : List Nat) : List AV := l.map fun (n : Nat) => AV.int .u64 (n : Nat)
theorem xCX (l : List Nat) : (w64 l).length = l.length := by simp [w64]
theorem xAe (k : Nat) (l : List Nat) : List.take k (w64 l) = w64 (l.take k) := by simp [w64,List.map_take]
theorem xAf (k : Nat) (l : List Nat) : List.drop k (w64 l) = w64 (l.drop k) := by simp [w64,List.map_drop]
theorem xQN (a b : List Nat) : w64 a ++ w64 b = w64 (a ++ b) := by simp [w64]
theorem xAh {l : List Nat} (h : 0 < l.length) : w64 (List.take 1 l) = [(fun (n : Nat) => AV.int .u64 (n : Nat)) (l.getD 0 0)] := by
 cases l with
 | nil => simp at h
 | cons a l => simp [w64]
theorem xSY {l : List Nat} {k : Nat} {n : Nat} (h : k < l.length) : w64 (List.take k l) ++ (AV.int .u64 (n : Nat) :: w64 (List.drop (k + 1) l)) = w64 (l.set k n) := by
 rw [← xAe,← xAf,xGa _ _ _ (by rw [xCX]; exact h)]; simp [w64,List.map_set]
theorem xSZ (l : List Nat) (n : Nat) : w64 l ++ [AV.int .u64 (n : Nat)] = w64 (l ++ [n]) := by simp [w64]
theorem xXt (n : Nat) : w64 [n] = [AV.int .u64 (n : Nat)] := rfl
theorem xXu : w64 [] = [] := rfl
theorem xMu (d : Nat) (H : Heap) : ∀ l : List Nat,(w64 l).mapM (frz d H) = some (w64 l)
 | [] => rfl
 | n :: l => by
  have h := xMu d H l
  have : w64 (n :: l) = AV.int .u64 (n : Nat) :: w64 l := rfl
  rw [this,List.mapM_cons,xFK]
  simp [h]
theorem xXv (d : Nat) (H : Heap) (l : List Nat) : (w64 l).flatMap (bor d H) = [] := by
 induction l with
 | nil => rfl
 | cons n l ih =>
  have : w64 (n :: l) = AV.int .u64 (n : Nat) :: w64 l := rfl
  rw [this,List.flatMap_cons,ih,xE1]; rfl
def xBW (l : List Int) : List AV := l.map fun (n : Int) => AV.int .i64 n
theorem xBE (l : List Int) : (xBW l).length = l.length := by simp [xBW]
theorem xJA (k : Nat) (l : List Int) : List.take k (xBW l) = xBW (l.take k) := by simp [xBW,List.map_take]
theorem xJB (k : Nat) (l : List Int) : List.drop k (xBW l) = xBW (l.drop k) := by simp [xBW,List.map_drop]
theorem xS0 (a b : List Int) : xBW a ++ xBW b = xBW (a ++ b) := by simp [xBW]
theorem xS1 {l : List Int} (h : 0 < l.length) : xBW (List.take 1 l) = [(fun (n : Int) => AV.int .i64 n) (l.getD 0 0)] := by
 cases l with
 | nil => simp at h
 | cons a l => simp [xBW]
theorem xPU {l : List Int} {k : Nat} {n : Int} (h : k < l.length) : xBW (List.take k l) ++ (AV.int .i64 n :: xBW (List.drop (k + 1) l)) = xBW (l.set k n) := by
 rw [← xJA,← xJB,xGa _ _ _ (by rw [xBE]; exact h)]; simp [xBW,List.map_set]
theorem xXw (l : List Int) (n : Int) : xBW l ++ [AV.int .i64 n] = xBW (l ++ [n]) := by simp [xBW]
theorem xGs (n : Int) : xBW [n] = [AV.int .i64 n] := rfl
theorem xS2 : xBW [] = [] := rfl
theorem xEm (d : Nat) (H : Heap) : ∀ l : List Int,(xBW l).mapM (frz d H) = some (xBW l)
 | [] => rfl
 | n :: l => by
  have h := xEm d H l
  have : xBW (n :: l) = AV.int .i64 n :: xBW l := rfl
  rw [this,List.mapM_cons,xFK]
  simp [h]
theorem xS3 (d : Nat) (H : Heap) (l : List Int) : (xBW l).flatMap (bor d H) = [] := by
 induction l with
 | nil => rfl
 | cons n l ih =>
  have : xBW (n :: l) = AV.int .i64 n :: xBW l := rfl
  rw [this,List.flatMap_cons,ih,xE1]; rfl
def rows {α : Type} (enc : α → List AV) (l : List α) : List AV := (l.map enc).flatten
section
variable {α : Type} {enc : α → List AV} {k : Nat} (hk : ∀ a,(enc a).length = k)
include hk
theorem xJC (l : List α) : (rows enc l).length = l.length * k := by
 induction l with
 | nil => simp [rows]
 | cons a l ih =>
  have : rows enc (a :: l) = enc a ++ rows enc l := rfl
  rw [this,List.length_append,ih,hk,List.length_cons,Nat.succ_mul]; omega
theorem xJD : ∀ (i : Nat) (l : List α),List.drop (i * k) (rows enc l) = rows enc (l.drop i)
 | 0,l => by simp
 | i + 1,[] => by simp [rows]
 | i + 1,a :: l => by
  have : rows enc (a :: l) = enc a ++ rows enc l := rfl
  rw [this,List.drop_succ_cons,← xJD i l,Nat.succ_mul,Nat.add_comm,← List.drop_drop,← hk a,List.drop_left]
theorem xJE : ∀ (i : Nat) (l : List α),List.take (i * k) (rows enc l) = rows enc (l.take i)
 | 0,l => by simp [rows]
 | i + 1,[] => by simp [rows]
 | i + 1,a :: l => by
  have e : rows enc (a :: l) = enc a ++ rows enc l := rfl
  have e2 : rows enc (List.take (i + 1) (a :: l)) = enc a ++ rows enc (l.take i) := rfl
  rw [e,e2,← xJE i l,Nat.succ_mul,Nat.add_comm,← hk a,List.take_length_add_append]
end
theorem xS4 {α : Type} (enc : α → List AV) (a b : List α) : rows enc a ++ rows enc b = rows enc (a ++ b) := by simp [rows]
theorem xLP (l : List Int) (n t : Nat) : (l.drop n).getD t 0 = l.getD (n + t) 0 := by simp [List.getD,List.getElem?_drop]
theorem xS5 {a : Nat} (h : a < 18446744073709551616) : (BitVec.ofInt 64 (a : Int)).toNat = a := by simp; omega
theorem xXx {n : Nat} (h : n < 18446744073709551616) : IntKind.u64.wrap (n : Int) = n := by
 simp [IntKind.wrap,IntKind.bits,IntKind.signed]; omega
theorem xQO {a b : Nat} (ha : a < 18446744073709551616) (hb : b < 18446744073709551616) : xFo .and .u64 (a : Int) (b : Int) = ((a &&& b : Nat) : Int) := by
 have h3 : a &&& b ≤ a := Nat.and_le_left
 change IntKind.u64.wrap (((BitVec.ofInt 64 (a : Int) &&& BitVec.ofInt 64 (b : Int)).toNat : Nat) : Int) = _
 rw [BitVec.toNat_and,xS5 ha,xS5 hb]
 exact xXx (by omega)
theorem yCY {a b : Nat} (ha : a < 18446744073709551616) (hb : b < 18446744073709551616) : xFo .or .u64 (a : Int) (b : Int) = ((a ||| b : Nat) : Int) := by
 have h3 : a ||| b < 2 ^ 64 := Nat.or_lt_two_pow (by omega) (by omega)
 change IntKind.u64.wrap (((BitVec.ofInt 64 (a : Int) ||| BitVec.ofInt 64 (b : Int)).toNat : Nat) : Int) = _
 rw [BitVec.toNat_or,xS5 ha,xS5 hb]
 exact xXx (by omega)
theorem xLQ {n : Nat} {k k' : IntKind} {h m : Int} (h0 : 0 ≤ h) (h1 : h ≤ m) (h2 : m ≤ n) : xB2 n none (some (.int k h)) (some (.int k' m)) = some (0,h.toNat) := by
 have h3 : 0 ≤ m := by omega
 simp only [xB2,xBR,if_pos h0,if_pos h3]
 rw [if_pos ⟨by omega,by omega⟩,if_pos ⟨by omega,by omega⟩]
theorem xS6 (k : Nat) (l : Heap) : (List.replicate k Blk.dead ++ l)[k]? = l[0]? := by
 have := yCa (List.replicate k Blk.dead) l
 rwa [List.length_replicate] at this
theorem xS7 (k : Nat) (l : Heap) (b : Blk) : (List.replicate k Blk.dead ++ l).set k b = List.replicate k Blk.dead ++ l.set 0 b := by
 have := yCc (List.replicate k Blk.dead) l b
 rwa [List.length_replicate] at this
theorem xS8 (k : Nat) (l : Heap) (f : Blk → Blk) : (List.replicate k Blk.dead ++ l).modify k f = List.replicate k Blk.dead ++ l.modify 0 f := by
 have := yCb (List.replicate k Blk.dead) l f
 rwa [List.length_replicate] at this
theorem xXy (l : List Nat) : (w64 l).all xAM = true := xMn (fun _ => rfl) l
theorem xBA (l : List Int) : (xBW l).all xAM = true := xMn (fun _ => rfl) l
end Go.Abs
