/- More lists as cells: words,ints,rows. -/
import Derived.Test.YtdkbhidfiplncaaAbsEnc
namespace Go.Abs
set_option linter.unusedVariables false
set_option linter.unusedSimpArgs false

def w64 (l : List Nat) : List AV := l.map fun (n : Nat) => AV.int .u64 (n : Nat)
theorem xAe (l : List Nat) : (w64 l).length = l.length := by simp [w64]
theorem xUB (k : Nat) (l : List Nat) : List.take k (w64 l) = w64 (l.take k) := by simp [w64,List.map_take]
theorem xUC (k : Nat) (l : List Nat) : List.drop k (w64 l) = w64 (l.drop k) := by simp [w64,List.map_drop]
theorem yCD (a b : List Nat) : w64 a ++ w64 b = w64 (a ++ b) := by simp [w64]
theorem yCE {l : List Nat} (h : 0 < l.length) : w64 (List.take 1 l) = [(fun (n : Nat) => AV.int .u64 (n : Nat)) (l.getD 0 0)] := by
  cases l with
  | nil => simp at h
  | cons a l => simp [w64]
theorem yBl {l : List Nat} {k : Nat} {n : Nat} (h : k < l.length) : w64 (List.take k l) ++ (AV.int .u64 (n : Nat) :: w64 (List.drop (k + 1) l)) = w64 (l.set k n) := by
  rw [← xUB,← xUC,xGG _ _ _ (by rw [xAe]; exact h)]; simp [w64,List.map_set]
theorem yBm (l : List Nat) (n : Nat) : w64 l ++ [AV.int .u64 (n : Nat)] = w64 (l ++ [n]) := by simp [w64]
theorem yCF (n : Nat) : w64 [n] = [AV.int .u64 (n : Nat)] := rfl
theorem yCG : w64 [] = [] := rfl
theorem xSD (d : Nat) (H : xAv) : ∀ l : List Nat,(w64 l).mapM (frz d H) = some (w64 l)
  | [] => rfl
  | n :: l => by
    have h := xSD d H l
    have : w64 (n :: l) = AV.int .u64 (n : Nat) :: w64 l := rfl
    rw [this,List.mapM_cons,xBa]
    simp [h]
theorem xXN (d : Nat) (H : xAv) (l : List Nat) : (w64 l).flatMap (bor d H) = [] := by
  induction l with
  | nil => rfl
  | cons n l ih =>
    have : w64 (n :: l) = AV.int .u64 (n : Nat) :: w64 l := rfl
    rw [this,List.flatMap_cons,ih,xCp]; rfl
theorem yEc {z : Bool} {n : Nat} {l : List Nat} (h : l.length = n) : AV.sl z n (w64 l) = .sl z l.length (w64 l) := by subst h; rfl

def ints (l : List Int) : List AV := l.map fun (n : Int) => AV.int .i64 n
theorem xAa (l : List Int) : (ints l).length = l.length := by simp [ints]
theorem xBR (k : Nat) (l : List Int) : List.take k (ints l) = ints (l.take k) := by simp [ints,List.map_take]
theorem xB1 (k : Nat) (l : List Int) : List.drop k (ints l) = ints (l.drop k) := by simp [ints,List.map_drop]
theorem yBn (a b : List Int) : ints a ++ ints b = ints (a ++ b) := by simp [ints]
theorem xCu {l : List Int} (h : 0 < l.length) : ints (List.take 1 l) = [(fun (n : Int) => AV.int .i64 n) (l.getD 0 0)] := by
  cases l with
  | nil => simp at h
  | cons a l => simp [ints]
theorem xSE {l : List Int} {k : Nat} {n : Int} (h : k < l.length) : ints (List.take k l) ++ (AV.int .i64 n :: ints (List.drop (k + 1) l)) = ints (l.set k n) := by
  rw [← xBR,← xB1,xGG _ _ _ (by rw [xAa]; exact h)]; simp [ints,List.map_set]
theorem yAb (l : List Int) (n : Int) : ints l ++ [AV.int .i64 n] = ints (l ++ [n]) := by simp [ints]
theorem yBo (n : Int) : ints [n] = [AV.int .i64 n] := rfl
theorem yBp : ints [] = [] := rfl
theorem xPb (d : Nat) (H : xAv) : ∀ l : List Int,(ints l).mapM (frz d H) = some (ints l)
  | [] => rfl
  | n :: l => by
    have h := xPb d H l
    have : ints (n :: l) = AV.int .i64 n :: ints l := rfl
    rw [this,List.mapM_cons,xBa]
    simp [h]
theorem yBq (d : Nat) (H : xAv) (l : List Int) : (ints l).flatMap (bor d H) = [] := by
  induction l with
  | nil => rfl
  | cons n l ih =>
    have : ints (n :: l) = AV.int .i64 n :: ints l := rfl
    rw [this,List.flatMap_cons,ih,xCp]; rfl
theorem yCH {z : Bool} {n : Nat} {l : List Int} (h : l.length = n) : AV.sl z n (ints l) = .sl z l.length (ints l) := by subst h; rfl

def rows {α : Type} (enc : α → List AV) (l : List α) : List AV := (l.map enc).flatten
section
variable {α : Type} {enc : α → List AV} {k : Nat} (hk : ∀ a,(enc a).length = k)
include hk
theorem xJk (l : List α) : (rows enc l).length = l.length * k := by
  induction l with
  | nil => simp [rows]
  | cons a l ih =>
    have : rows enc (a :: l) = enc a ++ rows enc l := rfl
    rw [this,List.length_append,ih,hk,List.length_cons,Nat.succ_mul]; omega
theorem xM9 : ∀ (i : Nat) (l : List α),List.drop (i * k) (rows enc l) = rows enc (l.drop i)
  | 0,l => by simp
  | i + 1,[] => by simp [rows]
  | i + 1,a :: l => by
    have : rows enc (a :: l) = enc a ++ rows enc l := rfl
    rw [this,List.drop_succ_cons,← xM9 i l,Nat.succ_mul,Nat.add_comm,← List.drop_drop,← hk a,List.drop_left]
theorem xNa : ∀ (i : Nat) (l : List α),List.take (i * k) (rows enc l) = rows enc (l.take i)
  | 0,l => by simp [rows]
  | i + 1,[] => by simp [rows]
  | i + 1,a :: l => by
    have e : rows enc (a :: l) = enc a ++ rows enc l := rfl
    have e2 : rows enc (List.take (i + 1) (a :: l)) = enc a ++ rows enc (l.take i) := rfl
    rw [e,e2,← xNa i l,Nat.succ_mul,Nat.add_comm,← hk a,List.take_length_add_append]
end
theorem yBr {α : Type} (enc : α → List AV) (a b : List α) : rows enc a ++ rows enc b = rows enc (a ++ b) := by simp [rows]

theorem xBW (l : List Int) (n t : Nat) : (l.drop n).getD t 0 = l.getD (n + t) 0 := by simp [List.getD,List.getElem?_drop]

theorem xPc {a : Nat} (h : a < 18446744073709551616) : (BitVec.ofInt 64 (a : Int)).toNat = a := by simp; omega
theorem xXO {n : Nat} (h : n < 18446744073709551616) : IntKind.u64.wrap (n : Int) = n := by
  simp [IntKind.wrap,IntKind.bits,IntKind.signed]; omega
theorem xXP {a b : Nat} (ha : a < 18446744073709551616) (hb : b < 18446744073709551616) : xFh .and .u64 (a : Int) (b : Int) = ((a &&& b : Nat) : Int) := by
  have h3 : a &&& b ≤ a := Nat.and_le_left
  change IntKind.u64.wrap (((BitVec.ofInt 64 (a : Int) &&& BitVec.ofInt 64 (b : Int)).toNat : Nat) : Int) = _
  rw [BitVec.toNat_and,xPc ha,xPc hb]
  exact xXO (by omega)
theorem yCI {a b : Nat} (ha : a < 18446744073709551616) (hb : b < 18446744073709551616) : xFh .or .u64 (a : Int) (b : Int) = ((a ||| b : Nat) : Int) := by
  have h3 : a ||| b < 2 ^ 64 := Nat.or_lt_two_pow (by omega) (by omega)
  change IntKind.u64.wrap (((BitVec.ofInt 64 (a : Int) ||| BitVec.ofInt 64 (b : Int)).toNat : Nat) : Int) = _
  rw [BitVec.toNat_or,xPc ha,xPc hb]
  exact xXO (by omega)
theorem xYP {n : Nat} {k k' : IntKind} {h m : Int} (h0 : 0 ≤ h) (h1 : h ≤ m) (h2 : m ≤ n) : xCO n none (some (.int k h)) (some (.int k' m)) = some (0,h.toNat) := by
  have h3 : 0 ≤ m := by omega
  simp only [xCO,xCI,if_pos h0,if_pos h3]
  rw [if_pos ⟨by omega,by omega⟩,if_pos ⟨by omega,by omega⟩]

theorem yBs (k : Nat) (l : xAv) : (List.replicate k Blk.dead ++ l)[k]? = l[0]? := by
  have := xCy (List.replicate k Blk.dead) l
  rwa [List.length_replicate] at this
theorem yBt (k : Nat) (l : xAv) (b : Blk) : (List.replicate k Blk.dead ++ l).set k b = List.replicate k Blk.dead ++ l.set 0 b := by
  have := xC1 (List.replicate k Blk.dead) l b
  rwa [List.length_replicate] at this
theorem yBu (k : Nat) (l : xAv) (f : Blk → Blk) : (List.replicate k Blk.dead ++ l).modify k f = List.replicate k Blk.dead ++ l.modify 0 f := by
  have := yBQ (List.replicate k Blk.dead) l f
  rwa [List.length_replicate] at this
theorem yCJ (l : List Nat) : (w64 l).all xCA = true := xKv (fun _ => rfl) l
theorem xUD (l : List Int) : (ints l).all xCA = true := xKv (fun _ => rfl) l
end Go.Abs
