/- More lists as cells: words,xCe,rows. -/
import Derived.Test.YtkpbekcgigigkaaDoorAbsEnc
namespace Go.Abs
set_option linter.unusedVariables false
set_option linter.unusedSimpArgs false
def w64 (l : List Nat) : List AV := l.map fun (n : Nat) => AV.int .u64 (n : Nat)
theorem xDw (l : List Nat) : (w64 l).length = l.length := by simp [w64]
theorem xAf (k : Nat) (l : List Nat) : List.take k (w64 l) = w64 (l.take k) := by simp [w64,List.map_take]
theorem xAg (k : Nat) (l : List Nat) : List.drop k (w64 l) = w64 (l.drop k) := by simp [w64,List.map_drop]
theorem xWj (a b : List Nat) : w64 a ++ w64 b = w64 (a ++ b) := by simp [w64]
theorem xAh {l : List Nat} (h : 0 < l.length) : w64 (List.take 1 l) = [(fun (n : Nat) => AV.int .u64 (n : Nat)) (l.getD 0 0)] := by
  cases l with
  | nil => simp at h
  | cons a l => simp [w64]
theorem xRT {l : List Nat} {k : Nat} {n : Nat} (h : k < l.length) : w64 (List.take k l) ++ (AV.int .u64 (n : Nat) :: w64 (List.drop (k + 1) l)) = w64 (l.set k n) := by
  rw [← xAf,← xAg,xDt _ _ _ (by rw [xDw]; exact h)]; simp [w64,List.map_set]
theorem xWk (n : Nat) : w64 [n] = [AV.int .u64 (n : Nat)] := rfl
theorem xWl : w64 [] = [] := rfl
theorem xPP (d : Nat) (H : Heap) : ∀ l : List Nat,(w64 l).mapM (frz d H) = some (w64 l)
  | [] => rfl
  | n :: l => by
    have h := xPP d H l
    have : w64 (n :: l) = AV.int .u64 (n : Nat) :: w64 l := rfl
    rw [this,List.mapM_cons,xIa]
    simp [h]
theorem xWm (d : Nat) (H : Heap) (l : List Nat) : (w64 l).flatMap (bor d H) = [] := by
  induction l with
  | nil => rfl
  | cons n l ih =>
    have : w64 (n :: l) = AV.int .u64 (n : Nat) :: w64 l := rfl
    rw [this,List.flatMap_cons,ih,xF1]; rfl
def xCe (l : List Int) : List AV := l.map fun (n : Int) => AV.int .i64 n
theorem xCZ (l : List Int) : (xCe l).length = l.length := by simp [xCe]
theorem xIS (k : Nat) (l : List Int) : List.take k (xCe l) = xCe (l.take k) := by simp [xCe,List.map_take]
theorem xIT (k : Nat) (l : List Int) : List.drop k (xCe l) = xCe (l.drop k) := by simp [xCe,List.map_drop]
theorem xRU (a b : List Int) : xCe a ++ xCe b = xCe (a ++ b) := by simp [xCe]
theorem xRV {l : List Int} (h : 0 < l.length) : xCe (List.take 1 l) = [(fun (n : Int) => AV.int .i64 n) (l.getD 0 0)] := by
  cases l with
  | nil => simp at h
  | cons a l => simp [xCe]
theorem xO0 {l : List Int} {k : Nat} {n : Int} (h : k < l.length) : xCe (List.take k l) ++ (AV.int .i64 n :: xCe (List.drop (k + 1) l)) = xCe (l.set k n) := by
  rw [← xIS,← xIT,xDt _ _ _ (by rw [xCZ]; exact h)]; simp [xCe,List.map_set]
theorem xRW (n : Int) : xCe [n] = [AV.int .i64 n] := rfl
theorem xRX : xCe [] = [] := rfl
theorem xLZ (d : Nat) (H : Heap) : ∀ l : List Int,(xCe l).mapM (frz d H) = some (xCe l)
  | [] => rfl
  | n :: l => by
    have h := xLZ d H l
    have : xCe (n :: l) = AV.int .i64 n :: xCe l := rfl
    rw [this,List.mapM_cons,xIa]
    simp [h]
theorem xRY (d : Nat) (H : Heap) (l : List Int) : (xCe l).flatMap (bor d H) = [] := by
  induction l with
  | nil => rfl
  | cons n l ih =>
    have : xCe (n :: l) = AV.int .i64 n :: xCe l := rfl
    rw [this,List.flatMap_cons,ih,xF1]; rfl
def rows {α : Type} (enc : α → List AV) (l : List α) : List AV := (l.map enc).flatten
section
variable {α : Type} {enc : α → List AV} {k : Nat} (hk : ∀ a,(enc a).length = k)
include hk
theorem xPQ (l : List α) : (rows enc l).length = l.length * k := by
  induction l with
  | nil => simp [rows]
  | cons a l ih =>
    have : rows enc (a :: l) = enc a ++ rows enc l := rfl
    rw [this,List.length_append,ih,hk,List.length_cons,Nat.succ_mul]; omega
theorem xO1 : ∀ (i : Nat) (l : List α),List.drop (i * k) (rows enc l) = rows enc (l.drop i)
  | 0,l => by simp
  | i + 1,[] => by simp [rows]
  | i + 1,a :: l => by
    have : rows enc (a :: l) = enc a ++ rows enc l := rfl
    rw [this,List.drop_succ_cons,← xO1 i l,Nat.succ_mul,Nat.add_comm,← List.drop_drop,← hk a,List.drop_left]
end
theorem xK9 (l : List Int) (n t : Nat) : (l.drop n).getD t 0 = l.getD (n + t) 0 := by simp [List.getD,List.getElem?_drop]
theorem yCT {n : Nat} (h : n < 18446744073709551616) : IntKind.u64.wrap (n : Int) = n := by
  simp [IntKind.wrap,IntKind.bits,IntKind.signed]; omega
theorem xLa {n : Nat} {k k' : IntKind} {h m : Int} (h0 : 0 ≤ h) (h1 : h ≤ m) (h2 : m ≤ n) : xBE n none (some (.int k h)) (some (.int k' m)) = some (0,h.toNat) := by
  have h3 : 0 ≤ m := by omega
  simp only [xBE,xCv,if_pos h0,if_pos h3]
  rw [if_pos ⟨by omega,by omega⟩,if_pos ⟨by omega,by omega⟩]
theorem xRZ (k : Nat) (l : Heap) : (List.replicate k Blk.dead ++ l)[k]? = l[0]? := by
  have := xXG (List.replicate k Blk.dead) l
  rwa [List.length_replicate] at this
theorem xR0 (k : Nat) (l : Heap) (b : Blk) : (List.replicate k Blk.dead ++ l).set k b = List.replicate k Blk.dead ++ l.set 0 b := by
  have := xXH (List.replicate k Blk.dead) l b
  rwa [List.length_replicate] at this
theorem xR1 (k : Nat) (l : Heap) (f : Blk → Blk) : (List.replicate k Blk.dead ++ l).modify k f = List.replicate k Blk.dead ++ l.modify 0 f := by
  have := xZ1 (List.replicate k Blk.dead) l f
  rwa [List.length_replicate] at this
theorem xPN (l : List Nat) : (w64 l).all xAC = true := xLL (fun _ => rfl) l
theorem xLV (l : List Int) : (xCe l).all xAC = true := xLL (fun _ => rfl) l
end Go.Abs
