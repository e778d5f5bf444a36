/- More lists as cells: words,xCT,rows. -/
import Derived.Test.YtbfnjdhafgnlnaaDoorAbsEnc
namespace Go.Abs
set_option linter.unusedVariables false
set_option linter.unusedSimpArgs false
def w64 (l : List Nat) : List AV := l.map fun (n : Nat) => AV.int .u64 (n : Nat)
theorem xAg (l : List Nat) : (w64 l).length = l.length := by simp [w64]
theorem xBx (k : Nat) (l : List Nat) : List.take k (w64 l) = w64 (l.take k) := by simp [w64,List.map_take]
theorem xBM (k : Nat) (l : List Nat) : List.drop k (w64 l) = w64 (l.drop k) := by simp [w64,List.map_drop]
theorem xT7 (a b : List Nat) : w64 a ++ w64 b = w64 (a ++ b) := by simp [w64]
theorem xCm {l : List Nat} (h : 0 < l.length) : w64 (List.take 1 l) = [(fun (n : Nat) => AV.int .u64 (n : Nat)) (l.getD 0 0)] := by
  cases l with
  | nil => simp at h
  | cons a l => simp [w64]
theorem xMk {l : List Nat} {k : Nat} {n : Nat} (h : k < l.length) : w64 (List.take k l) ++ (AV.int .u64 (n : Nat) :: w64 (List.drop (k + 1) l)) = w64 (l.set k n) := by
  rw [← xBx,← xBM,xGK _ _ _ (by rw [xAg]; exact h)]; simp [w64,List.map_set]
theorem xVs (l : List Nat) (n : Nat) : w64 l ++ [AV.int .u64 (n : Nat)] = w64 (l ++ [n]) := by simp [w64]
theorem xT8 (n : Nat) : w64 [n] = [AV.int .u64 (n : Nat)] := rfl
theorem xPf : w64 [] = [] := rfl
theorem xJ9 (d : Nat) (H : Heap) : ∀ l : List Nat,(w64 l).mapM (frz d H) = some (w64 l)
  | [] => rfl
  | n :: l => by
    have h := xJ9 d H l
    have : w64 (n :: l) = AV.int .u64 (n : Nat) :: w64 l := rfl
    rw [this,List.mapM_cons,xAO]
    simp [h]
theorem xPg (d : Nat) (H : Heap) (l : List Nat) : (w64 l).flatMap (bor d H) = [] := by
  induction l with
  | nil => rfl
  | cons n l ih =>
    have : w64 (n :: l) = AV.int .u64 (n : Nat) :: w64 l := rfl
    rw [this,List.flatMap_cons,ih,xA4]; rfl
theorem xWm {z : Bool} {n : Nat} {l : List Nat} (h : l.length = n) : AV.sl z n (w64 l) = .sl z l.length (w64 l) := by subst h; rfl
def xCT (l : List Int) : List AV := l.map fun (n : Int) => AV.int .i64 n
theorem xAb (l : List Int) : (xCT l).length = l.length := by simp [xCT]
theorem xB7 (k : Nat) (l : List Int) : List.take k (xCT l) = xCT (l.take k) := by simp [xCT,List.map_take]
theorem xCh (k : Nat) (l : List Int) : List.drop k (xCT l) = xCT (l.drop k) := by simp [xCT,List.map_drop]
theorem xQI (a b : List Int) : xCT a ++ xCT b = xCT (a ++ b) := by simp [xCT]
theorem xC1 {l : List Int} (h : 0 < l.length) : xCT (List.take 1 l) = [(fun (n : Int) => AV.int .i64 n) (l.getD 0 0)] := by
  cases l with
  | nil => simp at h
  | cons a l => simp [xCT]
theorem xOx {l : List Int} {k : Nat} {n : Int} (h : k < l.length) : xCT (List.take k l) ++ (AV.int .i64 n :: xCT (List.drop (k + 1) l)) = xCT (l.set k n) := by
  rw [← xB7,← xCh,xGK _ _ _ (by rw [xAb]; exact h)]; simp [xCT,List.map_set]
theorem xF1 (n : Int) : xCT [n] = [AV.int .i64 n] := rfl
theorem xQJ : xCT [] = [] := rfl
theorem xEv (d : Nat) (H : Heap) : ∀ l : List Int,(xCT l).mapM (frz d H) = some (xCT l)
  | [] => rfl
  | n :: l => by
    have h := xEv d H l
    have : xCT (n :: l) = AV.int .i64 n :: xCT l := rfl
    rw [this,List.mapM_cons,xAO]
    simp [h]
theorem xQK (d : Nat) (H : Heap) (l : List Int) : (xCT l).flatMap (bor d H) = [] := by
  induction l with
  | nil => rfl
  | cons n l ih =>
    have : xCT (n :: l) = AV.int .i64 n :: xCT l := rfl
    rw [this,List.flatMap_cons,ih,xA4]; rfl
def rows {α : Type} (enc : α → List AV) (l : List α) : List AV := (l.map enc).flatten
section
variable {α : Type} {enc : α → List AV} {k : Nat} (hk : ∀ a,(enc a).length = k)
include hk
theorem xPh (l : List α) : (rows enc l).length = l.length * k := by
  induction l with
  | nil => simp [rows]
  | cons a l ih =>
    have : rows enc (a :: l) = enc a ++ rows enc l := rfl
    rw [this,List.length_append,ih,hk,List.length_cons,Nat.succ_mul]; omega
theorem xOy : ∀ (i : Nat) (l : List α),List.drop (i * k) (rows enc l) = rows enc (l.drop i)
  | 0,l => by simp
  | i + 1,[] => by simp [rows]
  | i + 1,a :: l => by
    have : rows enc (a :: l) = enc a ++ rows enc l := rfl
    rw [this,List.drop_succ_cons,← xOy i l,Nat.succ_mul,Nat.add_comm,← List.drop_drop,← hk a,List.drop_left]
end
theorem xVt {α : Type} (enc : α → List AV) (a b : List α) : rows enc a ++ rows enc b = rows enc (a ++ b) := by simp [rows]
theorem xB6 (l : List Int) (n t : Nat) : (l.drop n).getD t 0 = l.getD (n + t) 0 := by simp [List.getD,List.getElem?_drop]
theorem xQL {a : Nat} (h : a < 18446744073709551616) : (BitVec.ofInt 64 (a : Int)).toNat = a := by simp; omega
theorem xOz {n : Nat} (h : n < 18446744073709551616) : IntKind.u64.wrap (n : Int) = n := by
  simp [IntKind.wrap,IntKind.bits,IntKind.signed]; omega
theorem xXI {a b : Nat} (ha : a < 18446744073709551616) (hb : b < 18446744073709551616) : xF2 .and .u64 (a : Int) (b : Int) = ((a &&& b : Nat) : Int) := by
  have h3 : a &&& b ≤ a := Nat.and_le_left
  change IntKind.u64.wrap (((BitVec.ofInt 64 (a : Int) &&& BitVec.ofInt 64 (b : Int)).toNat : Nat) : Int) = _
  rw [BitVec.toNat_and,xQL ha,xQL hb]
  exact xOz (by omega)
theorem yAE {a b : Nat} (ha : a < 18446744073709551616) (hb : b < 18446744073709551616) : xF2 .or .u64 (a : Int) (b : Int) = ((a ||| b : Nat) : Int) := by
  have h3 : a ||| b < 2 ^ 64 := Nat.or_lt_two_pow (by omega) (by omega)
  change IntKind.u64.wrap (((BitVec.ofInt 64 (a : Int) ||| BitVec.ofInt 64 (b : Int)).toNat : Nat) : Int) = _
  rw [BitVec.toNat_or,xQL ha,xQL hb]
  exact xOz (by omega)
theorem xHv {n : Nat} {k k' : IntKind} {h m : Int} (h0 : 0 ≤ h) (h1 : h ≤ m) (h2 : m ≤ n) : xCB n none (some (.int k h)) (some (.int k' m)) = some (0,h.toNat) := by
  have h3 : 0 ≤ m := by omega
  simp only [xCB,xC7,if_pos h0,if_pos h3]
  rw [if_pos ⟨by omega,by omega⟩,if_pos ⟨by omega,by omega⟩]
theorem xEw (k : Nat) (l : Heap) : (List.replicate k Blk.dead ++ l)[k]? = l[0]? := by
  have := xEE (List.replicate k Blk.dead) l
  rwa [List.length_replicate] at this
theorem xIk (k : Nat) (l : Heap) (b : Blk) : (List.replicate k Blk.dead ++ l).set k b = List.replicate k Blk.dead ++ l.set 0 b := by
  have := xEP (List.replicate k Blk.dead) l b
  rwa [List.length_replicate] at this
theorem xMl (k : Nat) (l : Heap) (f : Blk → Blk) : (List.replicate k Blk.dead ++ l).modify k f = List.replicate k Blk.dead ++ l.modify 0 f := by
  have := xWO (List.replicate k Blk.dead) l f
  rwa [List.length_replicate] at this
theorem xT9 (l : List Nat) : (w64 l).all xB3 = true := xL8 (fun _ => rfl) l
theorem xQM (l : List Int) : (xCT l).all xB3 = true := xL8 (fun _ => rfl) l
end Go.Abs
