/- More lists as cells: words,xBZ,rows. -/
import Derived.Test.YtkpbekcgigigkaaDoorAbsEnc
namespace Go.Abs
set_option linter.unusedVariables false
set_option linter.unusedSimpArgs false
def w64 (l : List Nat) : List AV := l.map fun (n : Nat) => AV.int .u64 (n : Nat)
theorem xCQ (l : List Nat) : (w64 l).length = l.length := by simp [w64]
theorem xAf (k : Nat) (l : List Nat) : List.take k (w64 l) = w64 (l.take k) := by simp [w64,List.map_take]
theorem xAg (k : Nat) (l : List Nat) : List.drop k (w64 l) = w64 (l.drop k) := by simp [w64,List.map_drop]
theorem xUi (a b : List Nat) : w64 a ++ w64 b = w64 (a ++ b) := by simp [w64]
theorem xAh {l : List Nat} (h : 0 < l.length) : w64 (List.take 1 l) = [(fun (n : Nat) => AV.int .u64 (n : Nat)) (l.getD 0 0)] := by
  cases l with
  | nil => simp at h
  | cons a l => simp [w64]
theorem xQh {l : List Nat} {k : Nat} {n : Nat} (h : k < l.length) : w64 (List.take k l) ++ (AV.int .u64 (n : Nat) :: w64 (List.drop (k + 1) l)) = w64 (l.set k n) := by
  rw [← xAf,← xAg,xEO _ _ _ (by rw [xCQ]; exact h)]; simp [w64,List.map_set]
theorem xUj (n : Nat) : w64 [n] = [AV.int .u64 (n : Nat)] := rfl
theorem xUk : w64 [] = [] := rfl
theorem xOs (d : Nat) (H : xAj) : ∀ l : List Nat,(w64 l).mapM (frz d H) = some (w64 l)
  | [] => rfl
  | n :: l => by
    have h := xOs d H l
    have : w64 (n :: l) = AV.int .u64 (n : Nat) :: w64 l := rfl
    rw [this,List.mapM_cons,xEg]
    simp [h]
theorem xUl (d : Nat) (H : xAj) (l : List Nat) : (w64 l).flatMap (bor d H) = [] := by
  induction l with
  | nil => rfl
  | cons n l ih =>
    have : w64 (n :: l) = AV.int .u64 (n : Nat) :: w64 l := rfl
    rw [this,List.flatMap_cons,ih,xDE]; rfl
def xBZ (l : List Int) : List AV := l.map fun (n : Int) => AV.int .i64 n
theorem xCk (l : List Int) : (xBZ l).length = l.length := by simp [xBZ]
theorem xH5 (k : Nat) (l : List Int) : List.take k (xBZ l) = xBZ (l.take k) := by simp [xBZ,List.map_take]
theorem xH6 (k : Nat) (l : List Int) : List.drop k (xBZ l) = xBZ (l.drop k) := by simp [xBZ,List.map_drop]
theorem xQi (a b : List Int) : xBZ a ++ xBZ b = xBZ (a ++ b) := by simp [xBZ]
theorem xQj {l : List Int} (h : 0 < l.length) : xBZ (List.take 1 l) = [(fun (n : Int) => AV.int .i64 n) (l.getD 0 0)] := by
  cases l with
  | nil => simp at h
  | cons a l => simp [xBZ]
theorem xNI {l : List Int} {k : Nat} {n : Int} (h : k < l.length) : xBZ (List.take k l) ++ (AV.int .i64 n :: xBZ (List.drop (k + 1) l)) = xBZ (l.set k n) := by
  rw [← xH5,← xH6,xEO _ _ _ (by rw [xCk]; exact h)]; simp [xBZ,List.map_set]
theorem xQk (n : Int) : xBZ [n] = [AV.int .i64 n] := rfl
theorem xQl : xBZ [] = [] := rfl
theorem xK5 (d : Nat) (H : xAj) : ∀ l : List Int,(xBZ l).mapM (frz d H) = some (xBZ l)
  | [] => rfl
  | n :: l => by
    have h := xK5 d H l
    have : xBZ (n :: l) = AV.int .i64 n :: xBZ l := rfl
    rw [this,List.mapM_cons,xEg]
    simp [h]
theorem xQm (d : Nat) (H : xAj) (l : List Int) : (xBZ l).flatMap (bor d H) = [] := by
  induction l with
  | nil => rfl
  | cons n l ih =>
    have : xBZ (n :: l) = AV.int .i64 n :: xBZ l := rfl
    rw [this,List.flatMap_cons,ih,xDE]; rfl
def rows {α : Type} (enc : α → List AV) (l : List α) : List AV := (l.map enc).flatten
section
variable {α : Type} {enc : α → List AV} {k : Nat} (hk : ∀ a,(enc a).length = k)
include hk
theorem xH7 (l : List α) : (rows enc l).length = l.length * k := by
  induction l with
  | nil => simp [rows]
  | cons a l ih =>
    have : rows enc (a :: l) = enc a ++ rows enc l := rfl
    rw [this,List.length_append,ih,hk,List.length_cons,Nat.succ_mul]; omega
theorem xH8 : ∀ (i : Nat) (l : List α),List.drop (i * k) (rows enc l) = rows enc (l.drop i)
  | 0,l => by simp
  | i + 1,[] => by simp [rows]
  | i + 1,a :: l => by
    have : rows enc (a :: l) = enc a ++ rows enc l := rfl
    rw [this,List.drop_succ_cons,← xH8 i l,Nat.succ_mul,Nat.add_comm,← List.drop_drop,← hk a,List.drop_left]
end
theorem xV4 {α : Type} (enc : α → List AV) (a b : List α) : rows enc a ++ rows enc b = rows enc (a ++ b) := by simp [rows]
theorem xKf (l : List Int) (n t : Nat) : (l.drop n).getD t 0 = l.getD (n + t) 0 := by simp [List.getD,List.getElem?_drop]
theorem xZ7 {n : Nat} (h : n < 18446744073709551616) : IntKind.u64.wrap (n : Int) = n := by
  simp [IntKind.wrap,IntKind.bits,IntKind.signed]; omega
theorem xKg {n : Nat} {k k' : IntKind} {h m : Int} (h0 : 0 ≤ h) (h1 : h ≤ m) (h2 : m ≤ n) : xBb n none (some (.int k h)) (some (.int k' m)) = some (0,h.toNat) := by
  have h3 : 0 ≤ m := by omega
  simp only [xBb,xBS,if_pos h0,if_pos h3]
  rw [if_pos ⟨by omega,by omega⟩,if_pos ⟨by omega,by omega⟩]
theorem xQn (k : Nat) (l : xAj) : (List.replicate k Blk.dead ++ l)[k]? = l[0]? := by
  have := xVA (List.replicate k Blk.dead) l
  rwa [List.length_replicate] at this
theorem xQo (k : Nat) (l : xAj) (b : Blk) : (List.replicate k Blk.dead ++ l).set k b = List.replicate k Blk.dead ++ l.set 0 b := by
  have := xVB (List.replicate k Blk.dead) l b
  rwa [List.length_replicate] at this
theorem xQp (k : Nat) (l : xAj) (f : Blk → Blk) : (List.replicate k Blk.dead ++ l).modify k f = List.replicate k Blk.dead ++ l.modify 0 f := by
  have := xXP (List.replicate k Blk.dead) l f
  rwa [List.length_replicate] at this
theorem xOp (l : List Nat) : (w64 l).all xAy = true := xKQ (fun _ => rfl) l
theorem xKU (l : List Int) : (xBZ l).all xAy = true := xKQ (fun _ => rfl) l
end Go.Abs
