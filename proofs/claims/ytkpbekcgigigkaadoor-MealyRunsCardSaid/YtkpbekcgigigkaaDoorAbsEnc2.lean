/- More lists as cells: words,xCq,rows. -/
import Derived.Test.YtkpbekcgigigkaaDoorAbsEnc
namespace Go.Abs
set_option linter.unusedVariables false
set_option linter.unusedSimpArgs false
def w64 (l : List Nat) : List AV := l.map fun (n : Nat) => AV.int .u64 (n : Nat)
theorem xCX (l : List Nat) : (w64 l).length = l.length := by simp [w64]
theorem xAf (k : Nat) (l : List Nat) : List.take k (w64 l) = w64 (l.take k) := by simp [w64,List.map_take]
theorem xAg (k : Nat) (l : List Nat) : List.drop k (w64 l) = w64 (l.drop k) := by simp [w64,List.map_drop]
theorem xUm (a b : List Nat) : w64 a ++ w64 b = w64 (a ++ b) := by simp [w64]
theorem xAh {l : List Nat} (h : 0 < l.length) : w64 (List.take 1 l) = [(fun (n : Nat) => AV.int .u64 (n : Nat)) (l.getD 0 0)] := by
  cases l with
  | nil => simp at h
  | cons a l => simp [w64]
theorem xQl {l : List Nat} {k : Nat} {n : Nat} (h : k < l.length) : w64 (List.take k l) ++ (AV.int .u64 (n : Nat) :: w64 (List.drop (k + 1) l)) = w64 (l.set k n) := by
  rw [← xAf,← xAg,xEJ _ _ _ (by rw [xCX]; exact h)]; simp [w64,List.map_set]
theorem xUn (n : Nat) : w64 [n] = [AV.int .u64 (n : Nat)] := rfl
theorem xUo : w64 [] = [] := rfl
theorem xOx (d : Nat) (H : Heap) : ∀ l : List Nat,(w64 l).mapM (frz d H) = some (w64 l)
  | [] => rfl
  | n :: l => by
    have h := xOx d H l
    have : w64 (n :: l) = AV.int .u64 (n : Nat) :: w64 l := rfl
    rw [this,List.mapM_cons,xHp]
    simp [h]
theorem xUp (d : Nat) (H : Heap) (l : List Nat) : (w64 l).flatMap (bor d H) = [] := by
  induction l with
  | nil => rfl
  | cons n l ih =>
    have : w64 (n :: l) = AV.int .u64 (n : Nat) :: w64 l := rfl
    rw [this,List.flatMap_cons,ih,xFm]; rfl
def xCq (l : List Int) : List AV := l.map fun (n : Int) => AV.int .i64 n
theorem xCr (l : List Int) : (xCq l).length = l.length := by simp [xCq]
theorem xH7 (k : Nat) (l : List Int) : List.take k (xCq l) = xCq (l.take k) := by simp [xCq,List.map_take]
theorem xH8 (k : Nat) (l : List Int) : List.drop k (xCq l) = xCq (l.drop k) := by simp [xCq,List.map_drop]
theorem xQm (a b : List Int) : xCq a ++ xCq b = xCq (a ++ b) := by simp [xCq]
theorem xQn {l : List Int} (h : 0 < l.length) : xCq (List.take 1 l) = [(fun (n : Int) => AV.int .i64 n) (l.getD 0 0)] := by
  cases l with
  | nil => simp at h
  | cons a l => simp [xCq]
theorem xNI {l : List Int} {k : Nat} {n : Int} (h : k < l.length) : xCq (List.take k l) ++ (AV.int .i64 n :: xCq (List.drop (k + 1) l)) = xCq (l.set k n) := by
  rw [← xH7,← xH8,xEJ _ _ _ (by rw [xCr]; exact h)]; simp [xCq,List.map_set]
theorem xQo (n : Int) : xCq [n] = [AV.int .i64 n] := rfl
theorem xQp : xCq [] = [] := rfl
theorem xK2 (d : Nat) (H : Heap) : ∀ l : List Int,(xCq l).mapM (frz d H) = some (xCq l)
  | [] => rfl
  | n :: l => by
    have h := xK2 d H l
    have : xCq (n :: l) = AV.int .i64 n :: xCq l := rfl
    rw [this,List.mapM_cons,xHp]
    simp [h]
theorem xQq (d : Nat) (H : Heap) (l : List Int) : (xCq l).flatMap (bor d H) = [] := by
  induction l with
  | nil => rfl
  | cons n l ih =>
    have : xCq (n :: l) = AV.int .i64 n :: xCq l := rfl
    rw [this,List.flatMap_cons,ih,xFm]; rfl
def rows {α : Type} (enc : α → List AV) (l : List α) : List AV := (l.map enc).flatten
section
variable {α : Type} {enc : α → List AV} {k : Nat} (hk : ∀ a,(enc a).length = k)
include hk
theorem xOy (l : List α) : (rows enc l).length = l.length * k := by
  induction l with
  | nil => simp [rows]
  | cons a l ih =>
    have : rows enc (a :: l) = enc a ++ rows enc l := rfl
    rw [this,List.length_append,ih,hk,List.length_cons,Nat.succ_mul]; omega
theorem xNJ : ∀ (i : Nat) (l : List α),List.drop (i * k) (rows enc l) = rows enc (l.drop i)
  | 0,l => by simp
  | i + 1,[] => by simp [rows]
  | i + 1,a :: l => by
    have : rows enc (a :: l) = enc a ++ rows enc l := rfl
    rw [this,List.drop_succ_cons,← xNJ i l,Nat.succ_mul,Nat.add_comm,← List.drop_drop,← hk a,List.drop_left]
end
theorem xKe (l : List Int) (n t : Nat) : (l.drop n).getD t 0 = l.getD (n + t) 0 := by simp [List.getD,List.getElem?_drop]
theorem yAq {n : Nat} (h : n < 18446744073709551616) : IntKind.u64.wrap (n : Int) = n := by
  simp [IntKind.wrap,IntKind.bits,IntKind.signed]; omega
theorem xKf {n : Nat} {k k' : IntKind} {h m : Int} (h0 : 0 ≤ h) (h1 : h ≤ m) (h2 : m ≤ n) : xBi n none (some (.int k h)) (some (.int k' m)) = some (0,h.toNat) := by
  have h3 : 0 ≤ m := by omega
  simp only [xBi,xBZ,if_pos h0,if_pos h3]
  rw [if_pos ⟨by omega,by omega⟩,if_pos ⟨by omega,by omega⟩]
theorem xE1 (k : Nat) (l : Heap) : (List.replicate k Blk.dead ++ l)[k]? = l[0]? := by
  have := xSE (List.replicate k Blk.dead) l
  rwa [List.length_replicate] at this
theorem xE2 (k : Nat) (l : Heap) (b : Blk) : (List.replicate k Blk.dead ++ l).set k b = List.replicate k Blk.dead ++ l.set 0 b := by
  have := xSF (List.replicate k Blk.dead) l b
  rwa [List.length_replicate] at this
theorem xQr (k : Nat) (l : Heap) (f : Blk → Blk) : (List.replicate k Blk.dead ++ l).modify k f = List.replicate k Blk.dead ++ l.modify 0 f := by
  have := xXW (List.replicate k Blk.dead) l f
  rwa [List.length_replicate] at this
theorem xOs (l : List Nat) : (w64 l).all xAt = true := xKR (fun _ => rfl) l
theorem xKX (l : List Int) : (xCq l).all xAt = true := xKR (fun _ => rfl) l
end Go.Abs
