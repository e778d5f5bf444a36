/- More lists as cells: words,xCj,rows. -/
import Derived.Test.YtkpbekcgigigkaaDoorAbsEnc
namespace Go.Abs
set_option linter.unusedVariables false
set_option linter.unusedSimpArgs false
def w64 (l : List Nat) : List AV := l.map fun (n : Nat) => AV.int .u64 (n : Nat)
theorem xDb (l : List Nat) : (w64 l).length = l.length := by simp [w64]
theorem xAd (k : Nat) (l : List Nat) : List.take k (w64 l) = w64 (l.take k) := by simp [w64,List.map_take]
theorem xAe (k : Nat) (l : List Nat) : List.drop k (w64 l) = w64 (l.drop k) := by simp [w64,List.map_drop]
theorem xVF (a b : List Nat) : w64 a ++ w64 b = w64 (a ++ b) := by simp [w64]
theorem xAh {l : List Nat} (h : 0 < l.length) : w64 (List.take 1 l) = [(fun (n : Nat) => AV.int .u64 (n : Nat)) (l.getD 0 0)] := by
  cases l with
  | nil => simp at h
  | cons a l => simp [w64]
theorem xRl {l : List Nat} {k : Nat} {n : Nat} (h : k < l.length) : w64 (List.take k l) ++ (AV.int .u64 (n : Nat) :: w64 (List.drop (k + 1) l)) = w64 (l.set k n) := by
  rw [← xAd,← xAe,xE7 _ _ _ (by rw [xDb]; exact h)]; simp [w64,List.map_set]
theorem xVG (n : Nat) : w64 [n] = [AV.int .u64 (n : Nat)] := rfl
theorem xVH : w64 [] = [] := rfl
theorem xPe (d : Nat) (H : Heap) : ∀ l : List Nat,(w64 l).mapM (frz d H) = some (w64 l)
  | [] => rfl
  | n :: l => by
    have h := xPe d H l
    have : w64 (n :: l) = AV.int .u64 (n : Nat) :: w64 l := rfl
    rw [this,List.mapM_cons,xHN]
    simp [h]
theorem xVI (d : Nat) (H : Heap) (l : List Nat) : (w64 l).flatMap (bor d H) = [] := by
  induction l with
  | nil => rfl
  | cons n l ih =>
    have : w64 (n :: l) = AV.int .u64 (n : Nat) :: w64 l := rfl
    rw [this,List.flatMap_cons,ih,xFJ]; rfl
def xCj (l : List Int) : List AV := l.map fun (n : Int) => AV.int .i64 n
theorem xCG (l : List Int) : (xCj l).length = l.length := by simp [xCj]
theorem xIv (k : Nat) (l : List Int) : List.take k (xCj l) = xCj (l.take k) := by simp [xCj,List.map_take]
theorem xIw (k : Nat) (l : List Int) : List.drop k (xCj l) = xCj (l.drop k) := by simp [xCj,List.map_drop]
theorem xRm (a b : List Int) : xCj a ++ xCj b = xCj (a ++ b) := by simp [xCj]
theorem xRn {l : List Int} (h : 0 < l.length) : xCj (List.take 1 l) = [(fun (n : Int) => AV.int .i64 n) (l.getD 0 0)] := by
  cases l with
  | nil => simp at h
  | cons a l => simp [xCj]
theorem xOn {l : List Int} {k : Nat} {n : Int} (h : k < l.length) : xCj (List.take k l) ++ (AV.int .i64 n :: xCj (List.drop (k + 1) l)) = xCj (l.set k n) := by
  rw [← xIv,← xIw,xE7 _ _ _ (by rw [xCG]; exact h)]; simp [xCj,List.map_set]
theorem xRo (n : Int) : xCj [n] = [AV.int .i64 n] := rfl
theorem xRp : xCj [] = [] := rfl
theorem xLL (d : Nat) (H : Heap) : ∀ l : List Int,(xCj l).mapM (frz d H) = some (xCj l)
  | [] => rfl
  | n :: l => by
    have h := xLL d H l
    have : xCj (n :: l) = AV.int .i64 n :: xCj l := rfl
    rw [this,List.mapM_cons,xHN]
    simp [h]
theorem xRq (d : Nat) (H : Heap) (l : List Int) : (xCj l).flatMap (bor d H) = [] := by
  induction l with
  | nil => rfl
  | cons n l ih =>
    have : xCj (n :: l) = AV.int .i64 n :: xCj l := rfl
    rw [this,List.flatMap_cons,ih,xFJ]; rfl
def rows {α : Type} (enc : α → List AV) (l : List α) : List AV := (l.map enc).flatten
section
variable {α : Type} {enc : α → List AV} {k : Nat} (hk : ∀ a,(enc a).length = k)
include hk
theorem xED (l : List α) : (rows enc l).length = l.length * k := by
  induction l with
  | nil => simp [rows]
  | cons a l ih =>
    have : rows enc (a :: l) = enc a ++ rows enc l := rfl
    rw [this,List.length_append,ih,hk,List.length_cons,Nat.succ_mul]; omega
theorem xIx : ∀ (i : Nat) (l : List α),List.drop (i * k) (rows enc l) = rows enc (l.drop i)
  | 0,l => by simp
  | i + 1,[] => by simp [rows]
  | i + 1,a :: l => by
    have : rows enc (a :: l) = enc a ++ rows enc l := rfl
    rw [this,List.drop_succ_cons,← xIx i l,Nat.succ_mul,Nat.add_comm,← List.drop_drop,← hk a,List.drop_left]
end
theorem xRr {α : Type} (enc : α → List AV) (a b : List α) : rows enc a ++ rows enc b = rows enc (a ++ b) := by simp [rows]
theorem xKT (l : List Int) (n t : Nat) : (l.drop n).getD t 0 = l.getD (n + t) 0 := by simp [List.getD,List.getElem?_drop]
theorem yBQ {n : Nat} (h : n < 18446744073709551616) : IntKind.u64.wrap (n : Int) = n := by
  simp [IntKind.wrap,IntKind.bits,IntKind.signed]; omega
theorem xKU {n : Nat} {k k' : IntKind} {h m : Int} (h0 : 0 ≤ h) (h1 : h ≤ m) (h2 : m ≤ n) : xBo n none (some (.int k h)) (some (.int k' m)) = some (0,h.toNat) := by
  have h3 : 0 ≤ m := by omega
  simp only [xBo,xBh,if_pos h0,if_pos h3]
  rw [if_pos ⟨by omega,by omega⟩,if_pos ⟨by omega,by omega⟩]
theorem xRs (k : Nat) (l : Heap) : (List.replicate k Blk.dead ++ l)[k]? = l[0]? := by
  have := xWY (List.replicate k Blk.dead) l
  rwa [List.length_replicate] at this
theorem xRt (k : Nat) (l : Heap) (b : Blk) : (List.replicate k Blk.dead ++ l).set k b = List.replicate k Blk.dead ++ l.set 0 b := by
  have := xWZ (List.replicate k Blk.dead) l b
  rwa [List.length_replicate] at this
theorem xRu (k : Nat) (l : Heap) (f : Blk → Blk) : (List.replicate k Blk.dead ++ l).modify k f = List.replicate k Blk.dead ++ l.modify 0 f := by
  have := xZz (List.replicate k Blk.dead) l f
  rwa [List.length_replicate] at this
theorem xPa (l : List Nat) : (w64 l).all xAm = true := xLA (fun _ => rfl) l
theorem xLJ (l : List Int) : (xCj l).all xAm = true := xLA (fun _ => rfl) l
end Go.Abs
