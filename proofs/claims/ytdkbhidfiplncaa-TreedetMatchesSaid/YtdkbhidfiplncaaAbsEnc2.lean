/- More lists as cells: words,ints,rows. -/
import Derived.Test.YtdkbhidfiplncaaAbsEnc
namespace Go.Abs
set_option linter.unusedVariables false
set_option linter.unusedSimpArgs false
def w64 (l : List Nat) : List AV := l.map fun (n : Nat) => AV.int .u64 (n : Nat)
theorem xCZ (l : List Nat) : (w64 l).length = l.length := by simp [w64]
theorem yBs (k : Nat) (l : List Nat) : List.take k (w64 l) = w64 (l.take k) := by simp [w64,List.map_take]
theorem yBt (k : Nat) (l : List Nat) : List.drop k (w64 l) = w64 (l.drop k) := by simp [w64,List.map_drop]
theorem xYN (a b : List Nat) : w64 a ++ w64 b = w64 (a ++ b) := by simp [w64]
theorem xT7 {l : List Nat} {k : Nat} {n : Nat} (h : k < l.length) : w64 (List.take k l) ++ (AV.int .u64 (n : Nat) :: w64 (List.drop (k + 1) l)) = w64 (l.set k n) := by
 rw [← yBs,← yBt,xEN _ _ _ (by rw [xCZ]; exact h)]; simp [w64,List.map_set]
theorem xYO (n : Nat) : w64 [n] = [AV.int .u64 (n : Nat)] := rfl
theorem xYP : w64 [] = [] := rfl
theorem xRj (d : Nat) (H : xAc) : ∀ l : List Nat,(w64 l).mapM (frz d H) = some (w64 l)
 | [] => rfl
 | n :: l => by
  have h := xRj d H l
  have : w64 (n :: l) = AV.int .u64 (n : Nat) :: w64 l := rfl
  rw [this,List.mapM_cons,xCy]
  simp [h]
theorem xYQ (d : Nat) (H : xAc) (l : List Nat) : (w64 l).flatMap (bor d H) = [] := by
 induction l with
 | nil => rfl
 | cons n l ih =>
  have : w64 (n :: l) = AV.int .u64 (n : Nat) :: w64 l := rfl
  rw [this,List.flatMap_cons,ih,xFA]; rfl
def ints (l : List Int) : List AV := l.map fun (n : Int) => AV.int .i64 n
theorem xAk (l : List Int) : (ints l).length = l.length := by simp [ints]
theorem xFj (k : Nat) (l : List Int) : List.take k (ints l) = ints (l.take k) := by simp [ints,List.map_take]
theorem xI1 (k : Nat) (l : List Int) : List.drop k (ints l) = ints (l.drop k) := by simp [ints,List.map_drop]
theorem xT8 (a b : List Int) : ints a ++ ints b = ints (a ++ b) := by simp [ints]
theorem xT9 {l : List Int} (h : 0 < l.length) : ints (List.take 1 l) = [(fun (n : Int) => AV.int .i64 n) (l.getD 0 0)] := by
 cases l with
 | nil => simp at h
 | cons a l => simp [ints]
theorem xQl {l : List Int} {k : Nat} {n : Int} (h : k < l.length) : ints (List.take k l) ++ (AV.int .i64 n :: ints (List.drop (k + 1) l)) = ints (l.set k n) := by
 rw [← xFj,← xI1,xEN _ _ _ (by rw [xAk]; exact h)]; simp [ints,List.map_set]
theorem xUa (n : Int) : ints [n] = [AV.int .i64 n] := rfl
theorem xUb : ints [] = [] := rfl
theorem xGK (d : Nat) (H : xAc) : ∀ l : List Int,(ints l).mapM (frz d H) = some (ints l)
 | [] => rfl
 | n :: l => by
  have h := xGK d H l
  have : ints (n :: l) = AV.int .i64 n :: ints l := rfl
  rw [this,List.mapM_cons,xCy]
  simp [h]
theorem xUc (d : Nat) (H : xAc) (l : List Int) : (ints l).flatMap (bor d H) = [] := by
 induction l with
 | nil => rfl
 | cons n l ih =>
  have : ints (n :: l) = AV.int .i64 n :: ints l := rfl
  rw [this,List.flatMap_cons,ih,xFA]; rfl
def rows {α : Type} (enc : α → List AV) (l : List α) : List AV := (l.map enc).flatten
section
variable {α : Type} {enc : α → List AV} {k : Nat} (hk : ∀ a,(enc a).length = k)
include hk
theorem xI2 (l : List α) : (rows enc l).length = l.length * k := by
 induction l with
 | nil => simp [rows]
 | cons a l ih =>
  have : rows enc (a :: l) = enc a ++ rows enc l := rfl
  rw [this,List.length_append,ih,hk,List.length_cons,Nat.succ_mul]; omega
theorem xFk : ∀ (i : Nat) (l : List α),List.drop (i * k) (rows enc l) = rows enc (l.drop i)
 | 0,l => by simp
 | i + 1,[] => by simp [rows]
 | i + 1,a :: l => by
  have : rows enc (a :: l) = enc a ++ rows enc l := rfl
  rw [this,List.drop_succ_cons,← xFk i l,Nat.succ_mul,Nat.add_comm,← List.drop_drop,← hk a,List.drop_left]
theorem xI3 : ∀ (i : Nat) (l : List α),List.take (i * k) (rows enc l) = rows enc (l.take i)
 | 0,l => by simp [rows]
 | i + 1,[] => by simp [rows]
 | i + 1,a :: l => by
  have e : rows enc (a :: l) = enc a ++ rows enc l := rfl
  have e2 : rows enc (List.take (i + 1) (a :: l)) = enc a ++ rows enc (l.take i) := rfl
  rw [e,e2,← xI3 i l,Nat.succ_mul,Nat.add_comm,← hk a,List.take_length_add_append]
end
theorem yBu {α : Type} (enc : α → List AV) (a b : List α) : rows enc a ++ rows enc b = rows enc (a ++ b) := by simp [rows]
theorem xLx (l : List Int) (n t : Nat) : (l.drop n).getD t 0 = l.getD (n + t) 0 := by simp [List.getD,List.getElem?_drop]
theorem yGG {n : Nat} (h : n < 18446744073709551616) : IntKind.u64.wrap (n : Int) = n := by
 simp [IntKind.wrap,IntKind.bits,IntKind.signed]; omega
theorem xLy {n : Nat} {k k' : IntKind} {h m : Int} (h0 : 0 ≤ h) (h1 : h ≤ m) (h2 : m ≤ n) : xBd n none (some (.int k h)) (some (.int k' m)) = some (0,h.toNat) := by
 have h3 : 0 ≤ m := by omega
 simp only [xBd,xA9,if_pos h0,if_pos h3]
 rw [if_pos ⟨by omega,by omega⟩,if_pos ⟨by omega,by omega⟩]
theorem xUd (k : Nat) (l : xAc) : (List.replicate k Blk.dead ++ l)[k]? = l[0]? := by
 have := xJo (List.replicate k Blk.dead) l
 rwa [List.length_replicate] at this
theorem xUe (k : Nat) (l : xAc) (b : Blk) : (List.replicate k Blk.dead ++ l).set k b = List.replicate k Blk.dead ++ l.set 0 b := by
 have := yDL (List.replicate k Blk.dead) l b
 rwa [List.length_replicate] at this
theorem xUf (k : Nat) (l : xAc) (f : Blk → Blk) : (List.replicate k Blk.dead ++ l).modify k f = List.replicate k Blk.dead ++ l.modify 0 f := by
 have := yDK (List.replicate k Blk.dead) l f
 rwa [List.length_replicate] at this
theorem xYR (l : List Nat) : (w64 l).all xAX = true := xL0 (fun _ => rfl) l
theorem xUg (l : List Int) : (ints l).all xAX = true := xL0 (fun _ => rfl) l
end Go.Abs
