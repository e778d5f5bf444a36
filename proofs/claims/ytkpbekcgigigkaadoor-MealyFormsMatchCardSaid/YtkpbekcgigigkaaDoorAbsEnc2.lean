/- More lists as cells: words,xB3,rows. -/
import Derived.Test.YtkpbekcgigigkaaDoorAbsEnc
namespace Go.Abs
set_option linter.unusedVariables false
set_option linter.unusedSimpArgs false
def w64 (l : List Nat) : List AV := l.map fun (n : Nat) => AV.int .u64 (n : Nat)
theorem xDu (l : List Nat) : (w64 l).length = l.length := by simp [w64]
theorem xAG (k : Nat) (l : List Nat) : List.take k (w64 l) = w64 (l.take k) := by simp [w64,List.map_take]
theorem xAH (k : Nat) (l : List Nat) : List.drop k (w64 l) = w64 (l.drop k) := by simp [w64,List.map_drop]
theorem xXS (a b : List Nat) : w64 a ++ w64 b = w64 (a ++ b) := by simp [w64]
theorem xA8 {l : List Nat} (h : 0 < l.length) : w64 (List.take 1 l) = [(fun (n : Nat) => AV.int .u64 (n : Nat)) (l.getD 0 0)] := by
 cases l with
 | nil => simp at h
 | cons a l => simp [w64]
theorem xTd {l : List Nat} {k : Nat} {n : Nat} (h : k < l.length) : w64 (List.take k l) ++ (AV.int .u64 (n : Nat) :: w64 (List.drop (k + 1) l)) = w64 (l.set k n) := by
 rw [← xAG,← xAH,xDs _ _ _ (by rw [xDu]; exact h)]; simp [w64,List.map_set]
theorem xXT (n : Nat) : w64 [n] = [AV.int .u64 (n : Nat)] := rfl
theorem xXU : w64 [] = [] := rfl
theorem xQ0 (d : Nat) (H : Heap) : ∀ l : List Nat,(w64 l).mapM (frz d H) = some (w64 l)
 | [] => rfl
 | n :: l => by
  have h := xQ0 d H l
  have : w64 (n :: l) = AV.int .u64 (n : Nat) :: w64 l := rfl
  rw [this,List.mapM_cons,xIv]
  simp [h]
theorem xXV (d : Nat) (H : Heap) (l : List Nat) : (w64 l).flatMap (bor d H) = [] := by
 induction l with
 | nil => rfl
 | cons n l ih =>
  have : w64 (n :: l) = AV.int .u64 (n : Nat) :: w64 l := rfl
  rw [this,List.flatMap_cons,ih,xGp]; rfl
def xB3 (l : List Int) : List AV := l.map fun (n : Int) => AV.int .i64 n
theorem xCS (l : List Int) : (xB3 l).length = l.length := by simp [xB3]
theorem xJf (k : Nat) (l : List Int) : List.take k (xB3 l) = xB3 (l.take k) := by simp [xB3,List.map_take]
theorem xJg (k : Nat) (l : List Int) : List.drop k (xB3 l) = xB3 (l.drop k) := by simp [xB3,List.map_drop]
theorem xTe (a b : List Int) : xB3 a ++ xB3 b = xB3 (a ++ b) := by simp [xB3]
theorem xTf {l : List Int} (h : 0 < l.length) : xB3 (List.take 1 l) = [(fun (n : Int) => AV.int .i64 n) (l.getD 0 0)] := by
 cases l with
 | nil => simp at h
 | cons a l => simp [xB3]
theorem xPY {l : List Int} {k : Nat} {n : Int} (h : k < l.length) : xB3 (List.take k l) ++ (AV.int .i64 n :: xB3 (List.drop (k + 1) l)) = xB3 (l.set k n) := by
 rw [← xJf,← xJg,xDs _ _ _ (by rw [xCS]; exact h)]; simp [xB3,List.map_set]
theorem xTg (n : Int) : xB3 [n] = [AV.int .i64 n] := rfl
theorem xTh : xB3 [] = [] := rfl
theorem xMX (d : Nat) (H : Heap) : ∀ l : List Int,(xB3 l).mapM (frz d H) = some (xB3 l)
 | [] => rfl
 | n :: l => by
  have h := xMX d H l
  have : xB3 (n :: l) = AV.int .i64 n :: xB3 l := rfl
  rw [this,List.mapM_cons,xIv]
  simp [h]
theorem xTi (d : Nat) (H : Heap) (l : List Int) : (xB3 l).flatMap (bor d H) = [] := by
 induction l with
 | nil => rfl
 | cons n l ih =>
  have : xB3 (n :: l) = AV.int .i64 n :: xB3 l := rfl
  rw [this,List.flatMap_cons,ih,xGp]; rfl
def rows {α : Type} (enc : α → List AV) (l : List α) : List AV := (l.map enc).flatten
section
variable {α : Type} {enc : α → List AV} {k : Nat} (hk : ∀ a,(enc a).length = k)
include hk
theorem xFb (l : List α) : (rows enc l).length = l.length * k := by
 induction l with
 | nil => simp [rows]
 | cons a l ih =>
  have : rows enc (a :: l) = enc a ++ rows enc l := rfl
  rw [this,List.length_append,ih,hk,List.length_cons,Nat.succ_mul]; omega
theorem xJh : ∀ (i : Nat) (l : List α),List.drop (i * k) (rows enc l) = rows enc (l.drop i)
 | 0,l => by simp
 | i + 1,[] => by simp [rows]
 | i + 1,a :: l => by
  have : rows enc (a :: l) = enc a ++ rows enc l := rfl
  rw [this,List.drop_succ_cons,← xJh i l,Nat.succ_mul,Nat.add_comm,← List.drop_drop,← hk a,List.drop_left]
end
theorem xTj {α : Type} (enc : α → List AV) (a b : List α) : rows enc a ++ rows enc b = rows enc (a ++ b) := by simp [rows]
theorem xLT (l : List Int) (n t : Nat) : (l.drop n).getD t 0 = l.getD (n + t) 0 := by simp [List.getD,List.getElem?_drop]
theorem yFr {n : Nat} (h : n < 18446744073709551616) : IntKind.u64.wrap (n : Int) = n := by
 simp [IntKind.wrap,IntKind.bits,IntKind.signed]; omega
theorem xLU {n : Nat} {k k' : IntKind} {h m : Int} (h0 : 0 ≤ h) (h1 : h ≤ m) (h2 : m ≤ n) : xBm n none (some (.int k h)) (some (.int k' m)) = some (0,h.toNat) := by
 have h3 : 0 ≤ m := by omega
 simp only [xBm,xBf,if_pos h0,if_pos h3]
 rw [if_pos ⟨by omega,by omega⟩,if_pos ⟨by omega,by omega⟩]
theorem xTk (k : Nat) (l : Heap) : (List.replicate k Blk.dead ++ l)[k]? = l[0]? := by
 have := xZY (List.replicate k Blk.dead) l
 rwa [List.length_replicate] at this
theorem xTl (k : Nat) (l : Heap) (b : Blk) : (List.replicate k Blk.dead ++ l).set k b = List.replicate k Blk.dead ++ l.set 0 b := by
 have := xZZ (List.replicate k Blk.dead) l b
 rwa [List.length_replicate] at this
theorem xTm (k : Nat) (l : Heap) (f : Blk → Blk) : (List.replicate k Blk.dead ++ l).modify k f = List.replicate k Blk.dead ++ l.modify 0 f := by
 have := yCS (List.replicate k Blk.dead) l f
 rwa [List.length_replicate] at this
theorem xQ1 (l : List Nat) : (w64 l).all xAM = true := xMO (fun _ => rfl) l
theorem xMY (l : List Int) : (xB3 l).all xAM = true := xMO (fun _ => rfl) l
end Go.Abs
