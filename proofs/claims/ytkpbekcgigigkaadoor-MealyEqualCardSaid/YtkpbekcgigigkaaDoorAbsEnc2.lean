/- More lists as cells: words,xCI,rows. -/
import Derived.Test.YtkpbekcgigigkaaDoorAbsEnc
namespace Go.Abs
set_option linter.unusedVariables false
set_option linter.unusedSimpArgs false
def w64 (l : List Nat) : List AV := l.map fun (n : Nat) => AV.int .u64 (n : Nat)
theorem xCS (l : List Nat) : (w64 l).length = l.length := by simp [w64]
theorem xAd (k : Nat) (l : List Nat) : List.take k (w64 l) = w64 (l.take k) := by simp [w64,List.map_take]
theorem xAe (k : Nat) (l : List Nat) : List.drop k (w64 l) = w64 (l.drop k) := by simp [w64,List.map_drop]
theorem xTA (a b : List Nat) : w64 a ++ w64 b = w64 (a ++ b) := by simp [w64]
theorem xAi {l : List Nat} (h : 0 < l.length) : w64 (List.take 1 l) = [(fun (n : Nat) => AV.int .u64 (n : Nat)) (l.getD 0 0)] := by
  cases l with
  | nil => simp at h
  | cons a l => simp [w64]
theorem xPR {l : List Nat} {k : Nat} {n : Nat} (h : k < l.length) : w64 (List.take k l) ++ (AV.int .u64 (n : Nat) :: w64 (List.drop (k + 1) l)) = w64 (l.set k n) := by
  rw [← xAd,← xAe,xEM _ _ _ (by rw [xCS]; exact h)]; simp [w64,List.map_set]
theorem xTB (n : Nat) : w64 [n] = [AV.int .u64 (n : Nat)] := rfl
theorem xTC : w64 [] = [] := rfl
theorem xN3 (d : Nat) (H : Heap) : ∀ l : List Nat,(w64 l).mapM (frz d H) = some (w64 l)
  | [] => rfl
  | n :: l => by
    have h := xN3 d H l
    have : w64 (n :: l) = AV.int .u64 (n : Nat) :: w64 l := rfl
    rw [this,List.mapM_cons,xHo]
    simp [h]
theorem xTD (d : Nat) (H : Heap) (l : List Nat) : (w64 l).flatMap (bor d H) = [] := by
  induction l with
  | nil => rfl
  | cons n l ih =>
    have : w64 (n :: l) = AV.int .u64 (n : Nat) :: w64 l := rfl
    rw [this,List.flatMap_cons,ih,xFq]; rfl
def xCI (l : List Int) : List AV := l.map fun (n : Int) => AV.int .i64 n
theorem xCl (l : List Int) : (xCI l).length = l.length := by simp [xCI]
theorem xH6 (k : Nat) (l : List Int) : List.take k (xCI l) = xCI (l.take k) := by simp [xCI,List.map_take]
theorem xH7 (k : Nat) (l : List Int) : List.drop k (xCI l) = xCI (l.drop k) := by simp [xCI,List.map_drop]
theorem xPS (a b : List Int) : xCI a ++ xCI b = xCI (a ++ b) := by simp [xCI]
theorem xPT {l : List Int} (h : 0 < l.length) : xCI (List.take 1 l) = [(fun (n : Int) => AV.int .i64 n) (l.getD 0 0)] := by
  cases l with
  | nil => simp at h
  | cons a l => simp [xCI]
theorem xNo {l : List Int} {k : Nat} {n : Int} (h : k < l.length) : xCI (List.take k l) ++ (AV.int .i64 n :: xCI (List.drop (k + 1) l)) = xCI (l.set k n) := by
  rw [← xH6,← xH7,xEM _ _ _ (by rw [xCl]; exact h)]; simp [xCI,List.map_set]
theorem xPU (n : Int) : xCI [n] = [AV.int .i64 n] := rfl
theorem xPV : xCI [] = [] := rfl
theorem xK3 (d : Nat) (H : Heap) : ∀ l : List Int,(xCI l).mapM (frz d H) = some (xCI l)
  | [] => rfl
  | n :: l => by
    have h := xK3 d H l
    have : xCI (n :: l) = AV.int .i64 n :: xCI l := rfl
    rw [this,List.mapM_cons,xHo]
    simp [h]
theorem xPW (d : Nat) (H : Heap) (l : List Int) : (xCI l).flatMap (bor d H) = [] := by
  induction l with
  | nil => rfl
  | cons n l ih =>
    have : xCI (n :: l) = AV.int .i64 n :: xCI l := rfl
    rw [this,List.flatMap_cons,ih,xFq]; rfl
def rows {α : Type} (enc : α → List AV) (l : List α) : List AV := (l.map enc).flatten
section
variable {α : Type} {enc : α → List AV} {k : Nat} (hk : ∀ a,(enc a).length = k)
include hk
theorem xH8 (l : List α) : (rows enc l).length = l.length * k := by
  induction l with
  | nil => simp [rows]
  | cons a l ih =>
    have : rows enc (a :: l) = enc a ++ rows enc l := rfl
    rw [this,List.length_append,ih,hk,List.length_cons,Nat.succ_mul]; omega
theorem xH9 : ∀ (i : Nat) (l : List α),List.drop (i * k) (rows enc l) = rows enc (l.drop i)
  | 0,l => by simp
  | i + 1,[] => by simp [rows]
  | i + 1,a :: l => by
    have : rows enc (a :: l) = enc a ++ rows enc l := rfl
    rw [this,List.drop_succ_cons,← xH9 i l,Nat.succ_mul,Nat.add_comm,← List.drop_drop,← hk a,List.drop_left]
end
theorem xU6 {α : Type} (enc : α → List AV) (a b : List α) : rows enc a ++ rows enc b = rows enc (a ++ b) := by simp [rows]
theorem xJ9 (l : List Int) (n t : Nat) : (l.drop n).getD t 0 = l.getD (n + t) 0 := by simp [List.getD,List.getElem?_drop]
theorem xZd {n : Nat} (h : n < 18446744073709551616) : IntKind.u64.wrap (n : Int) = n := by
  simp [IntKind.wrap,IntKind.bits,IntKind.signed]; omega
theorem xKa {n : Nat} {k k' : IntKind} {h m : Int} (h0 : 0 ≤ h) (h1 : h ≤ m) (h2 : m ≤ n) : xA6 n none (some (.int k h)) (some (.int k' m)) = some (0,h.toNat) := by
  have h3 : 0 ≤ m := by omega
  simp only [xA6,xA1,if_pos h0,if_pos h3]
  rw [if_pos ⟨by omega,by omega⟩,if_pos ⟨by omega,by omega⟩]
theorem xPX (k : Nat) (l : Heap) : (List.replicate k Blk.dead ++ l)[k]? = l[0]? := by
  have := xUx (List.replicate k Blk.dead) l
  rwa [List.length_replicate] at this
theorem xPY (k : Nat) (l : Heap) (b : Blk) : (List.replicate k Blk.dead ++ l).set k b = List.replicate k Blk.dead ++ l.set 0 b := by
  have := xUy (List.replicate k Blk.dead) l b
  rwa [List.length_replicate] at this
theorem xPZ (k : Nat) (l : Heap) (f : Blk → Blk) : (List.replicate k Blk.dead ++ l).modify k f = List.replicate k Blk.dead ++ l.modify 0 f := by
  have := xWP (List.replicate k Blk.dead) l f
  rwa [List.length_replicate] at this
theorem xN2 (l : List Nat) : (w64 l).all xAs = true := xKN (fun _ => rfl) l
theorem xKY (l : List Int) : (xCI l).all xAs = true := xKN (fun _ => rfl) l
end Go.Abs
