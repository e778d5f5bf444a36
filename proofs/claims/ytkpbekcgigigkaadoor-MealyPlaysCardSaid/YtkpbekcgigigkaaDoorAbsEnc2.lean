/- More lists as cells: words,xB4,rows. -/
import Derived.Test.YtkpbekcgigigkaaDoorAbsEnc
namespace Go.Abs
set_option linter.unusedVariables false
set_option linter.unusedSimpArgs false
def w64 (l : List Nat) : List AV := l.map fun (n : Nat) => AV.int .u64 (n : Nat)
theorem xCU (l : List Nat) : (w64 l).length = l.length := by simp [w64]
theorem xAf (k : Nat) (l : List Nat) : List.take k (w64 l) = w64 (l.take k) := by simp [w64,List.map_take]
theorem xAg (k : Nat) (l : List Nat) : List.drop k (w64 l) = w64 (l.drop k) := by simp [w64,List.map_drop]
theorem xUK (a b : List Nat) : w64 a ++ w64 b = w64 (a ++ b) := by simp [w64]
theorem xAh {l : List Nat} (h : 0 < l.length) : w64 (List.take 1 l) = [(fun (n : Nat) => AV.int .u64 (n : Nat)) (l.getD 0 0)] := by
  cases l with
  | nil => simp at h
  | cons a l => simp [w64]
theorem xQA {l : List Nat} {k : Nat} {n : Nat} (h : k < l.length) : w64 (List.take k l) ++ (AV.int .u64 (n : Nat) :: w64 (List.drop (k + 1) l)) = w64 (l.set k n) := by
  rw [← xAf,← xAg,xEP _ _ _ (by rw [xCU]; exact h)]; simp [w64,List.map_set]
theorem xUL (n : Nat) : w64 [n] = [AV.int .u64 (n : Nat)] := rfl
theorem xUM : w64 [] = [] := rfl
theorem xOL (d : Nat) (H : Heap) : ∀ l : List Nat,(w64 l).mapM (frz d H) = some (w64 l)
  | [] => rfl
  | n :: l => by
    have h := xOL d H l
    have : w64 (n :: l) = AV.int .u64 (n : Nat) :: w64 l := rfl
    rw [this,List.mapM_cons,xHA]
    simp [h]
theorem xUN (d : Nat) (H : Heap) (l : List Nat) : (w64 l).flatMap (bor d H) = [] := by
  induction l with
  | nil => rfl
  | cons n l ih =>
    have : w64 (n :: l) = AV.int .u64 (n : Nat) :: w64 l := rfl
    rw [this,List.flatMap_cons,ih,xFt]; rfl
def xB4 (l : List Int) : List AV := l.map fun (n : Int) => AV.int .i64 n
theorem xCo (l : List Int) : (xB4 l).length = l.length := by simp [xB4]
theorem xIi (k : Nat) (l : List Int) : List.take k (xB4 l) = xB4 (l.take k) := by simp [xB4,List.map_take]
theorem xIj (k : Nat) (l : List Int) : List.drop k (xB4 l) = xB4 (l.drop k) := by simp [xB4,List.map_drop]
theorem xQB (a b : List Int) : xB4 a ++ xB4 b = xB4 (a ++ b) := by simp [xB4]
theorem xQC {l : List Int} (h : 0 < l.length) : xB4 (List.take 1 l) = [(fun (n : Int) => AV.int .i64 n) (l.getD 0 0)] := by
  cases l with
  | nil => simp at h
  | cons a l => simp [xB4]
theorem xNT {l : List Int} {k : Nat} {n : Int} (h : k < l.length) : xB4 (List.take k l) ++ (AV.int .i64 n :: xB4 (List.drop (k + 1) l)) = xB4 (l.set k n) := by
  rw [← xIi,← xIj,xEP _ _ _ (by rw [xCo]; exact h)]; simp [xB4,List.map_set]
theorem xQD (n : Int) : xB4 [n] = [AV.int .i64 n] := rfl
theorem xQE : xB4 [] = [] := rfl
theorem xLj (d : Nat) (H : Heap) : ∀ l : List Int,(xB4 l).mapM (frz d H) = some (xB4 l)
  | [] => rfl
  | n :: l => by
    have h := xLj d H l
    have : xB4 (n :: l) = AV.int .i64 n :: xB4 l := rfl
    rw [this,List.mapM_cons,xHA]
    simp [h]
theorem xQF (d : Nat) (H : Heap) (l : List Int) : (xB4 l).flatMap (bor d H) = [] := by
  induction l with
  | nil => rfl
  | cons n l ih =>
    have : xB4 (n :: l) = AV.int .i64 n :: xB4 l := rfl
    rw [this,List.flatMap_cons,ih,xFt]; rfl
def rows {α : Type} (enc : α → List AV) (l : List α) : List AV := (l.map enc).flatten
section
variable {α : Type} {enc : α → List AV} {k : Nat} (hk : ∀ a,(enc a).length = k)
include hk
theorem xOM (l : List α) : (rows enc l).length = l.length * k := by
  induction l with
  | nil => simp [rows]
  | cons a l ih =>
    have : rows enc (a :: l) = enc a ++ rows enc l := rfl
    rw [this,List.length_append,ih,hk,List.length_cons,Nat.succ_mul]; omega
theorem xNU : ∀ (i : Nat) (l : List α),List.drop (i * k) (rows enc l) = rows enc (l.drop i)
  | 0,l => by simp
  | i + 1,[] => by simp [rows]
  | i + 1,a :: l => by
    have : rows enc (a :: l) = enc a ++ rows enc l := rfl
    rw [this,List.drop_succ_cons,← xNU i l,Nat.succ_mul,Nat.add_comm,← List.drop_drop,← hk a,List.drop_left]
end
theorem xKs (l : List Int) (n t : Nat) : (l.drop n).getD t 0 = l.getD (n + t) 0 := by simp [List.getD,List.getElem?_drop]
theorem yAP {n : Nat} (h : n < 18446744073709551616) : IntKind.u64.wrap (n : Int) = n := by
  simp [IntKind.wrap,IntKind.bits,IntKind.signed]; omega
theorem xKt {n : Nat} {k k' : IntKind} {h m : Int} (h0 : 0 ≤ h) (h1 : h ≤ m) (h2 : m ≤ n) : xBf n none (some (.int k h)) (some (.int k' m)) = some (0,h.toNat) := by
  have h3 : 0 ≤ m := by omega
  simp only [xBf,xBV,if_pos h0,if_pos h3]
  rw [if_pos ⟨by omega,by omega⟩,if_pos ⟨by omega,by omega⟩]
theorem xGv (k : Nat) (l : Heap) : (List.replicate k Blk.dead ++ l)[k]? = l[0]? := by
  have := xS0 (List.replicate k Blk.dead) l
  rwa [List.length_replicate] at this
theorem xGw (k : Nat) (l : Heap) (b : Blk) : (List.replicate k Blk.dead ++ l).set k b = List.replicate k Blk.dead ++ l.set 0 b := by
  have := xS1 (List.replicate k Blk.dead) l b
  rwa [List.length_replicate] at this
theorem xQG (k : Nat) (l : Heap) (f : Blk → Blk) : (List.replicate k Blk.dead ++ l).modify k f = List.replicate k Blk.dead ++ l.modify 0 f := by
  have := xYm (List.replicate k Blk.dead) l f
  rwa [List.length_replicate] at this
theorem xOD (l : List Nat) : (w64 l).all xAA = true := xK7 (fun _ => rfl) l
theorem xLd (l : List Int) : (xB4 l).all xAA = true := xK7 (fun _ => rfl) l
end Go.Abs
