/- More lists as cells: words,xBE,rows. -/
import Derived.Test.YtdheandekcpieaaDoorAbsEnc
namespace Go.Abs
set_option linter.unusedVariables false
set_option linter.unusedSimpArgs false
def w64 (l : List Nat) : List AV := l.map fun (n : Nat) => AV.int .u64 (n : Nat)
theorem xBA (l : List Nat) : (w64 l).length = l.length := by simp [w64]
theorem xAd (k : Nat) (l : List Nat) : List.take k (w64 l) = w64 (l.take k) := by simp [w64,List.map_take]
theorem xAe (k : Nat) (l : List Nat) : List.drop k (w64 l) = w64 (l.drop k) := by simp [w64,List.map_drop]
theorem xV4 (a b : List Nat) : w64 a ++ w64 b = w64 (a ++ b) := by simp [w64]
theorem xAi {l : List Nat} (h : 0 < l.length) : w64 (List.take 1 l) = [(fun (n : Nat) => AV.int .u64 (n : Nat)) (l.getD 0 0)] := by
  cases l with
  | nil => simp at h
  | cons a l => simp [w64]
theorem xR1 {l : List Nat} {k : Nat} {n : Nat} (h : k < l.length) : w64 (List.take k l) ++ (AV.int .u64 (n : Nat) :: w64 (List.drop (k + 1) l)) = w64 (l.set k n) := by
  rw [← xAd,← xAe,xFQ _ _ _ (by rw [xBA]; exact h)]; simp [w64,List.map_set]
theorem xV5 (n : Nat) : w64 [n] = [AV.int .u64 (n : Nat)] := rfl
theorem xV6 : w64 [] = [] := rfl
theorem xJz (d : Nat) (H : Heap) : ∀ l : List Nat,(w64 l).mapM (frz d H) = some (w64 l)
  | [] => rfl
  | n :: l => by
    have h := xJz d H l
    have : w64 (n :: l) = AV.int .u64 (n : Nat) :: w64 l := rfl
    rw [this,List.mapM_cons,xEu]
    simp [h]
theorem xV7 (d : Nat) (H : Heap) (l : List Nat) : (w64 l).flatMap (bor d H) = [] := by
  induction l with
  | nil => rfl
  | cons n l ih =>
    have : w64 (n :: l) = AV.int .u64 (n : Nat) :: w64 l := rfl
    rw [this,List.flatMap_cons,ih,xE8]; rfl
def xBE (l : List Int) : List AV := l.map fun (n : Int) => AV.int .i64 n
theorem xCl (l : List Int) : (xBE l).length = l.length := by simp [xBE]
theorem xJA (k : Nat) (l : List Int) : List.take k (xBE l) = xBE (l.take k) := by simp [xBE,List.map_take]
theorem xJB (k : Nat) (l : List Int) : List.drop k (xBE l) = xBE (l.drop k) := by simp [xBE,List.map_drop]
theorem xR2 (a b : List Int) : xBE a ++ xBE b = xBE (a ++ b) := by simp [xBE]
theorem xR3 {l : List Int} (h : 0 < l.length) : xBE (List.take 1 l) = [(fun (n : Int) => AV.int .i64 n) (l.getD 0 0)] := by
  cases l with
  | nil => simp at h
  | cons a l => simp [xBE]
theorem xOY {l : List Int} {k : Nat} {n : Int} (h : k < l.length) : xBE (List.take k l) ++ (AV.int .i64 n :: xBE (List.drop (k + 1) l)) = xBE (l.set k n) := by
  rw [← xJA,← xJB,xFQ _ _ _ (by rw [xCl]; exact h)]; simp [xBE,List.map_set]
theorem xR4 (n : Int) : xBE [n] = [AV.int .i64 n] := rfl
theorem xR5 : xBE [] = [] := rfl
theorem xMw (d : Nat) (H : Heap) : ∀ l : List Int,(xBE l).mapM (frz d H) = some (xBE l)
  | [] => rfl
  | n :: l => by
    have h := xMw d H l
    have : xBE (n :: l) = AV.int .i64 n :: xBE l := rfl
    rw [this,List.mapM_cons,xEu]
    simp [h]
theorem xR6 (d : Nat) (H : Heap) (l : List Int) : (xBE l).flatMap (bor d H) = [] := by
  induction l with
  | nil => rfl
  | cons n l ih =>
    have : xBE (n :: l) = AV.int .i64 n :: xBE l := rfl
    rw [this,List.flatMap_cons,ih,xE8]; rfl
def rows {α : Type} (enc : α → List AV) (l : List α) : List AV := (l.map enc).flatten
section
variable {α : Type} {enc : α → List AV} {k : Nat} (hk : ∀ a,(enc a).length = k)
include hk
theorem xFb (l : List α) : (rows enc l).length = l.length * k := by
  induction l with
  | nil => simp [rows]
  | cons a l ih =>
    have : rows enc (a :: l) = enc a ++ rows enc l := rfl
    rw [this,List.length_append,ih,hk,List.length_cons,Nat.succ_mul]; omega
theorem xFV : ∀ (i : Nat) (l : List α),List.drop (i * k) (rows enc l) = rows enc (l.drop i)
  | 0,l => by simp
  | i + 1,[] => by simp [rows]
  | i + 1,a :: l => by
    have : rows enc (a :: l) = enc a ++ rows enc l := rfl
    rw [this,List.drop_succ_cons,← xFV i l,Nat.succ_mul,Nat.add_comm,← List.drop_drop,← hk a,List.drop_left]
end
theorem xLI (l : List Int) (n t : Nat) : (l.drop n).getD t 0 = l.getD (n + t) 0 := by simp [List.getD,List.getElem?_drop]
theorem xLJ {a : Nat} (h : a < 18446744073709551616) : (BitVec.ofInt 64 (a : Int)).toNat = a := by simp; omega
theorem xOZ {n : Nat} (h : n < 18446744073709551616) : IntKind.u64.wrap (n : Int) = n := by
  simp [IntKind.wrap,IntKind.bits,IntKind.signed]; omega
theorem yAl {a b : Nat} (ha : a < 18446744073709551616) (hb : b < 18446744073709551616) : xDz .and .u64 (a : Int) (b : Int) = ((a &&& b : Nat) : Int) := by
  have h3 : a &&& b ≤ a := Nat.and_le_left
  change IntKind.u64.wrap (((BitVec.ofInt 64 (a : Int) &&& BitVec.ofInt 64 (b : Int)).toNat : Nat) : Int) = _
  rw [BitVec.toNat_and,xLJ ha,xLJ hb]
  exact xOZ (by omega)
theorem yC3 {a b : Nat} (ha : a < 18446744073709551616) (hb : b < 18446744073709551616) : xDz .or .u64 (a : Int) (b : Int) = ((a ||| b : Nat) : Int) := by
  have h3 : a ||| b < 2 ^ 64 := Nat.or_lt_two_pow (by omega) (by omega)
  change IntKind.u64.wrap (((BitVec.ofInt 64 (a : Int) ||| BitVec.ofInt 64 (b : Int)).toNat : Nat) : Int) = _
  rw [BitVec.toNat_or,xLJ ha,xLJ hb]
  exact xOZ (by omega)
theorem xLK {n : Nat} {k k' : IntKind} {h m : Int} (h0 : 0 ≤ h) (h1 : h ≤ m) (h2 : m ≤ n) : xBI n none (some (.int k h)) (some (.int k' m)) = some (0,h.toNat) := by
  have h3 : 0 ≤ m := by omega
  simp only [xBI,xBL,if_pos h0,if_pos h3]
  rw [if_pos ⟨by omega,by omega⟩,if_pos ⟨by omega,by omega⟩]
theorem xR7 (k : Nat) (l : Heap) : (List.replicate k Blk.dead ++ l)[k]? = l[0]? := by
  have := xXH (List.replicate k Blk.dead) l
  rwa [List.length_replicate] at this
theorem xR8 (k : Nat) (l : Heap) (b : Blk) : (List.replicate k Blk.dead ++ l).set k b = List.replicate k Blk.dead ++ l.set 0 b := by
  have := xXI (List.replicate k Blk.dead) l b
  rwa [List.length_replicate] at this
theorem xR9 (k : Nat) (l : Heap) (f : Blk → Blk) : (List.replicate k Blk.dead ++ l).modify k f = List.replicate k Blk.dead ++ l.modify 0 f := by
  have := yAd (List.replicate k Blk.dead) l f
  rwa [List.length_replicate] at this
theorem xV8 (l : List Nat) : (w64 l).all xA2 = true := xMg (fun _ => rfl) l
theorem xSa (l : List Int) : (xBE l).all xA2 = true := xMg (fun _ => rfl) l
end Go.Abs
