/- More lists as cells: words,xBd,rows. -/
import Derived.Test.YtbfnjdhafgnlnaaDoorAbsEnc
namespace Go.Abs
set_option linter.unusedVariables false
set_option linter.unusedSimpArgs false
def w64 (l : List Nat) : List AV := l.map fun (n : Nat) => AV.int .u64 (n : Nat)
theorem xBq (l : List Nat) : (w64 l).length = l.length := by simp [w64]
theorem xAd (k : Nat) (l : List Nat) : List.take k (w64 l) = w64 (l.take k) := by simp [w64,List.map_take]
theorem xAe (k : Nat) (l : List Nat) : List.drop k (w64 l) = w64 (l.drop k) := by simp [w64,List.map_drop]
theorem xIg (a b : List Nat) : w64 a ++ w64 b = w64 (a ++ b) := by simp [w64]
theorem xAi {l : List Nat} (h : 0 < l.length) : w64 (List.take 1 l) = [(fun (n : Nat) => AV.int .u64 (n : Nat)) (l.getD 0 0)] := by
 cases l with
 | nil => simp at h
 | cons a l => simp [w64]
theorem xJv {l : List Nat} {k : Nat} {n : Nat} (h : k < l.length) : w64 (List.take k l) ++ (AV.int .u64 (n : Nat) :: w64 (List.drop (k + 1) l)) = w64 (l.set k n) := by
 rw [← xAd,← xAe,xKk _ _ _ (by rw [xBq]; exact h)]; simp [w64,List.map_set]
theorem yAd (l : List Nat) (n : Nat) : w64 l ++ [AV.int .u64 (n : Nat)] = w64 (l ++ [n]) := by simp [w64]
theorem xLP (n : Nat) : w64 [n] = [AV.int .u64 (n : Nat)] := rfl
theorem xJX : w64 [] = [] := rfl
theorem xIh (d : Nat) (H : Heap) : ∀ l : List Nat,(w64 l).mapM (frz d H) = some (w64 l)
 | [] => rfl
 | n :: l => by
  have h := xIh d H l
  have : w64 (n :: l) = AV.int .u64 (n : Nat) :: w64 l := rfl
  rw [this,List.mapM_cons,xHn]
  simp [h]
theorem xLQ (d : Nat) (H : Heap) (l : List Nat) : (w64 l).flatMap (bor d H) = [] := by
 induction l with
 | nil => rfl
 | cons n l ih =>
  have : w64 (n :: l) = AV.int .u64 (n : Nat) :: w64 l := rfl
  rw [this,List.flatMap_cons,ih,xFJ]; rfl
theorem yCV {z : Bool} {n : Nat} {l : List Nat} (h : l.length = n) : AV.sl z n (w64 l) = .sl z l.length (w64 l) := by subst h; rfl
def xBd (l : List Int) : List AV := l.map fun (n : Int) => AV.int .i64 n
theorem xAT (l : List Int) : (xBd l).length = l.length := by simp [xBd]
theorem xD2 (k : Nat) (l : List Int) : List.take k (xBd l) = xBd (l.take k) := by simp [xBd,List.map_take]
theorem xFx (k : Nat) (l : List Int) : List.drop k (xBd l) = xBd (l.drop k) := by simp [xBd,List.map_drop]
theorem xHs (a b : List Int) : xBd a ++ xBd b = xBd (a ++ b) := by simp [xBd]
theorem xJw {l : List Int} (h : 0 < l.length) : xBd (List.take 1 l) = [(fun (n : Int) => AV.int .i64 n) (l.getD 0 0)] := by
 cases l with
 | nil => simp at h
 | cons a l => simp [xBd]
theorem xHb {l : List Int} {k : Nat} {n : Int} (h : k < l.length) : xBd (List.take k l) ++ (AV.int .i64 n :: xBd (List.drop (k + 1) l)) = xBd (l.set k n) := by
 rw [← xD2,← xFx,xKk _ _ _ (by rw [xAT]; exact h)]; simp [xBd,List.map_set]
theorem xCh (n : Int) : xBd [n] = [AV.int .i64 n] := rfl
theorem xJx : xBd [] = [] := rfl
theorem xBA (d : Nat) (H : Heap) : ∀ l : List Int,(xBd l).mapM (frz d H) = some (xBd l)
 | [] => rfl
 | n :: l => by
  have h := xBA d H l
  have : xBd (n :: l) = AV.int .i64 n :: xBd l := rfl
  rw [this,List.mapM_cons,xHn]
  simp [h]
theorem xJy (d : Nat) (H : Heap) (l : List Int) : (xBd l).flatMap (bor d H) = [] := by
 induction l with
 | nil => rfl
 | cons n l ih =>
  have : xBd (n :: l) = AV.int .i64 n :: xBd l := rfl
  rw [this,List.flatMap_cons,ih,xFJ]; rfl
def rows {α : Type} (enc : α → List AV) (l : List α) : List AV := (l.map enc).flatten
section
variable {α : Type} {enc : α → List AV} {k : Nat} (hk : ∀ a,(enc a).length = k)
include hk
theorem xTU (l : List α) : (rows enc l).length = l.length * k := by
 induction l with
 | nil => simp [rows]
 | cons a l ih =>
  have : rows enc (a :: l) = enc a ++ rows enc l := rfl
  rw [this,List.length_append,ih,hk,List.length_cons,Nat.succ_mul]; omega
theorem xKw : ∀ (i : Nat) (l : List α),List.drop (i * k) (rows enc l) = rows enc (l.drop i)
 | 0,l => by simp
 | i + 1,[] => by simp [rows]
 | i + 1,a :: l => by
  have : rows enc (a :: l) = enc a ++ rows enc l := rfl
  rw [this,List.drop_succ_cons,← xKw i l,Nat.succ_mul,Nat.add_comm,← List.drop_drop,← hk a,List.drop_left]
end
theorem xVh {α : Type} (enc : α → List AV) (a b : List α) : rows enc a ++ rows enc b = rows enc (a ++ b) := by simp [rows]
theorem xFj (l : List Int) (n t : Nat) : (l.drop n).getD t 0 = l.getD (n + t) 0 := by simp [List.getD,List.getElem?_drop]
theorem xVi {a : Nat} (h : a < 18446744073709551616) : (BitVec.ofInt 64 (a : Int)).toNat = a := by simp; omega
theorem xNZ {n : Nat} (h : n < 18446744073709551616) : IntKind.u64.wrap (n : Int) = n := by
 simp [IntKind.wrap,IntKind.bits,IntKind.signed]; omega
theorem yBX {a b : Nat} (ha : a < 18446744073709551616) (hb : b < 18446744073709551616) : xJC .and .u64 (a : Int) (b : Int) = ((a &&& b : Nat) : Int) := by
 have h3 : a &&& b ≤ a := Nat.and_le_left
 change IntKind.u64.wrap (((BitVec.ofInt 64 (a : Int) &&& BitVec.ofInt 64 (b : Int)).toNat : Nat) : Int) = _
 rw [BitVec.toNat_and,xVi ha,xVi hb]
 exact xNZ (by omega)
theorem yEg {a b : Nat} (ha : a < 18446744073709551616) (hb : b < 18446744073709551616) : xJC .or .u64 (a : Int) (b : Int) = ((a ||| b : Nat) : Int) := by
 have h3 : a ||| b < 2 ^ 64 := Nat.or_lt_two_pow (by omega) (by omega)
 change IntKind.u64.wrap (((BitVec.ofInt 64 (a : Int) ||| BitVec.ofInt 64 (b : Int)).toNat : Nat) : Int) = _
 rw [BitVec.toNat_or,xVi ha,xVi hb]
 exact xNZ (by omega)
theorem xFk {n : Nat} {k k' : IntKind} {h m : Int} (h0 : 0 ≤ h) (h1 : h ≤ m) (h2 : m ≤ n) : xB4 n none (some (.int k h)) (some (.int k' m)) = some (0,h.toNat) := by
 have h3 : 0 ≤ m := by omega
 simp only [xB4,xBU,if_pos h0,if_pos h3]
 rw [if_pos ⟨by omega,by omega⟩,if_pos ⟨by omega,by omega⟩]
theorem xJz (k : Nat) (l : Heap) : (List.replicate k Blk.dead ++ l)[k]? = l[0]? := by
 have := xTz (List.replicate k Blk.dead) l
 rwa [List.length_replicate] at this
theorem xJA (k : Nat) (l : Heap) (b : Blk) : (List.replicate k Blk.dead ++ l).set k b = List.replicate k Blk.dead ++ l.set 0 b := by
 have := xTB (List.replicate k Blk.dead) l b
 rwa [List.length_replicate] at this
theorem xJB (k : Nat) (l : Heap) (f : Blk → Blk) : (List.replicate k Blk.dead ++ l).modify k f = List.replicate k Blk.dead ++ l.modify 0 f := by
 have := xTA (List.replicate k Blk.dead) l f
 rwa [List.length_replicate] at this
theorem xLR (l : List Nat) : (w64 l).all xAF = true := xQt (fun _ => rfl) l
theorem xFC (l : List Int) : (xBd l).all xAF = true := xQt (fun _ => rfl) l
end Go.Abs
