/- Lists of numbers as cells; facts on numbers and heaps that the walk uses. -/
import Derived.Test.YtbfnjdhafgnlnaaDoorAbsWalk
import Derived.Laws.BitsLemmas
namespace Go.Abs
set_option linter.unusedVariables false
set_option linter.unusedSimpArgs false
def bs (l : List Nat) : List AV := l.map fun (n : Nat) => AV.int .u8 n
abbrev word (z : Bool) (l : List Nat) : AV := .sl z l.length (bs l)
theorem xBK (l : List Nat) : (bs l).length = l.length := by simp [bs]
theorem yDh {l : List Nat} {k : Nat} (h : k < l.length) : List.take 1 (List.drop k (bs l)) = [.int .u8 (l.getD k 0 : Nat)] := by
 rw [List.drop_eq_getElem_cons (by simpa [bs] using h)]
 simp [bs,List.getD,List.getElem?_eq_getElem h]
theorem xNP {n : Int} (h1 : -9223372036854775808 ≤ n) (h2 : n < 9223372036854775808) : IntKind.i64.wrap n = n := by
 rw [IntKind.wrap_i64]; omega
theorem yAD {n : Nat} (h2 : n < 256) : IntKind.u8.wrap (n : Int) = n := by
 rw [IntKind.wrap_u8]; omega
theorem xKO (n : Nat) : ((no_index (OfNat.ofNat n) : Nat) : Int) = OfNat.ofNat n := rfl
theorem yB3 (n : Nat) : ((n : Int) < 0) = False := eq_false (by omega)
theorem yB4 (a b : Nat) : (a : Int) + (b : Int) = ((a + b : Nat) : Int) := by omega
theorem xVU (a : Nat) : (a : Int) + 1 = ((a + 1 : Nat) : Int) := by omega
theorem yB5 {a b : Nat} (h : b ≤ a) : (a : Int) - (b : Int) = ((a - b : Nat) : Int) := by omega
theorem xVV {a : Nat} (h : 1 ≤ a) : (a : Int) - 1 = ((a - 1 : Nat) : Int) := by omega
theorem xNX (a b : Nat) : (a : Int).tdiv (b : Int) = ((a / b : Nat) : Int) := by simp [Int.tdiv_eq_ediv_of_nonneg]
theorem yB6 (a b : Nat) : (a : Int) * (b : Int) = ((a * b : Nat) : Int) := by simp
theorem yEa {a b : Nat} (ha : a < 256) (hb : b < 256) : xJC .and .u8 (a : Int) (b : Int) = ((a &&& b : Nat) : Int) := by
 have h1 : (BitVec.ofInt 8 (a : Int)).toNat = a := by simp; omega
 have h2 : (BitVec.ofInt 8 (b : Int)).toNat = b := by simp; omega
 have h3 : a &&& b ≤ a := Nat.and_le_left
 change IntKind.u8.wrap (((BitVec.ofInt 8 (a : Int) &&& BitVec.ofInt 8 (b : Int)).toNat : Nat) : Int) = _
 rw [BitVec.toNat_and,h1,h2]
 exact yAD (by omega)
theorem or8 {a b : Nat} (ha : a < 256) (hb : b < 256) : xJC .or .u8 (a : Int) (b : Int) = ((a ||| b : Nat) : Int) := by
 have h1 : (BitVec.ofInt 8 (a : Int)).toNat = a := by simp; omega
 have h2 : (BitVec.ofInt 8 (b : Int)).toNat = b := by simp; omega
 have h3 : a ||| b < 2 ^ 8 := Nat.or_lt_two_pow (by omega) (by omega)
 change IntKind.u8.wrap (((BitVec.ofInt 8 (a : Int) ||| BitVec.ofInt 8 (b : Int)).toNat : Nat) : Int) = _
 rw [BitVec.toNat_or,h1,h2]
 exact yAD (by omega)
theorem xSw (a b : Nat) : (a : Int).tmod (b : Int) = ((a % b : Nat) : Int) := by simp [Int.tmod_eq_emod_of_nonneg]
def xEl (l : List Nat) : List AV := l.map fun (n : Nat) => AV.int .i64 n
theorem xBu (l : List Nat) : (xEl l).length = l.length := by simp [xEl]
theorem yBo {l : List Nat} {k : Nat} (h : k < l.length) : List.take 1 (List.drop k (xEl l)) = [.int .i64 (l.getD k 0 : Nat)] := by
 rw [List.drop_eq_getElem_cons (by simpa [xEl] using h)]
 simp [xEl,List.getD,List.getElem?_eq_getElem h]
theorem xKk {α : Type} (l : List α) (k : Nat) (x : α) (h : k < l.length) : List.take k l ++ (x :: List.drop (k + 1) l) = l.set k x := (List.set_eq_take_append_cons_drop).trans (if_pos h) |>.symm
theorem xZM {l : List Nat} {k : Nat} {n : Nat} (h : k < l.length) : List.take k (xEl l) ++ (AV.int .i64 n :: List.drop (k + 1) (xEl l)) = xEl (l.set k n) := by
 rw [xKk _ _ _ (by rw [xBu]; exact h)]; simp [xEl,List.map_set]
theorem yCw {l : List Nat} {k : Nat} {n : Nat} (h : k < l.length) : List.take k (bs l) ++ (AV.int .u8 n :: List.drop (k + 1) (bs l)) = bs (l.set k n) := by
 rw [xKk _ _ _ (by rw [xBK]; exact h)]; simp [bs,List.map_set]
theorem xAb (n : Nat) : xEj [AV.int .i64 0] n = xEl (List.replicate n 0) := by
 induction n with
 | zero => rfl
 | succ n ih => simp [xEj,ih,xEl,List.replicate_succ]
theorem xKP (n : Nat) : xEj [AV.int .u8 0] n = bs (List.replicate n 0) := by
 induction n with
 | zero => rfl
 | succ n ih => simp [xEj,ih,bs,List.replicate_succ]
theorem xOS (a b : List Nat) : bs a ++ bs b = bs (a ++ b) := by simp [bs]
theorem xH7 (k : Nat) (l : List Nat) : List.take k (bs l) = bs (l.take k) := by simp [bs,List.map_take]
theorem xH8 (k : Nat) (l : List Nat) : List.drop k (bs l) = bs (l.drop k) := by simp [bs,List.map_drop]
theorem yCx {l : List Nat} {k : Nat} (h : k < l.length) : bs (List.take 1 (List.drop k l)) = [.int .u8 (l.getD k 0 : Nat)] := by
 rw [← xH7,← xH8,yDh h]
theorem xOT {l : List Nat} (h : 0 < l.length) : bs (List.take 1 l) = [.int .u8 (l.getD 0 0 : Nat)] := by
 have := yCx h
 rwa [List.drop_zero] at this
theorem xKQ {l : List Nat} {k : Nat} {n : Nat} (h : k < l.length) : bs (List.take k l) ++ (AV.int .u8 n :: bs (List.drop (k + 1) l)) = bs (l.set k n) := by
 rw [← xH7,← xH8,yCw h]
theorem xD0 (k : Nat) (l : List Nat) : List.take k (xEl l) = xEl (l.take k) := by simp [xEl,List.map_take]
theorem xD1 (k : Nat) (l : List Nat) : List.drop k (xEl l) = xEl (l.drop k) := by simp [xEl,List.map_drop]
theorem xIq (a b : List Nat) : xEl a ++ xEl b = xEl (a ++ b) := by simp [xEl]
theorem xZN {l : List Nat} {k : Nat} (h : k < l.length) : xEl (List.take 1 (List.drop k l)) = [.int .i64 (l.getD k 0 : Nat)] := by
 rw [← xD0,← xD1,yBo h]
theorem xIr {l : List Nat} (h : 0 < l.length) : xEl (List.take 1 l) = [.int .i64 (l.getD 0 0 : Nat)] := by
 have := xZN h
 rwa [List.drop_zero] at this
theorem xFY {l : List Nat} {k : Nat} {n : Nat} (h : k < l.length) : xEl (List.take k l) ++ (AV.int .i64 n :: xEl (List.drop (k + 1) l)) = xEl (l.set k n) := by
 rw [← xD0,← xD1,xZM h]
theorem xHm (d : Nat) (H : Heap) : ∀ l : List Nat,(xEl l).mapM (frz d H) = some (xEl l)
 | [] => rfl
 | n :: l => by
  have h := xHm d H l
  have : xEl (n :: l) = .int .i64 (n : Nat) :: xEl l := rfl
  rw [this,List.mapM_cons,xHn]
  simp [h]
theorem xOU (d : Nat) (H : Heap) (l : List Nat) : (bs l).flatMap (bor d H) = [] := by
 induction l with
 | nil => rfl
 | cons n l ih =>
  have : bs (n :: l) = .int .u8 (n : Nat) :: bs l := rfl
  rw [this,List.flatMap_cons,ih,xFJ]; rfl
theorem xIs (d : Nat) (H : Heap) (l : List Nat) : (xEl l).flatMap (bor d H) = [] := by
 induction l with
 | nil => rfl
 | cons n l ih =>
  have : xEl (n :: l) = .int .i64 (n : Nat) :: xEl l := rfl
  rw [this,List.flatMap_cons,ih,xFJ]; rfl
theorem xFZ (l : List Nat) (n t : Nat) : (l.drop n).getD t 0 = l.getD (n + t) 0 := by simp [List.getD,List.getElem?_drop]
theorem xF0 {α : Type} (l : List α) (k : Nat) : List.take (l.length - k) (List.drop k l) = List.drop k l := by
 rw [List.take_of_length_le]; simp
theorem xNt (d : Nat) (H : Heap) : ∀ l : List Nat,(bs l).mapM (frz d H) = some (bs l)
 | [] => rfl
 | n :: l => by
  have h := xNt d H l
  have e : frz d H (.int .u8 (n : Nat)) = some (.int .u8 (n : Nat)) := by cases d <;> rfl
  have : bs (n :: l) = .int .u8 (n : Nat) :: bs l := rfl
  rw [this,List.mapM_cons,e]
  simp [h]
theorem xTy (H l : Heap) (k : Nat) : (H ++ l)[H.length + k]? = l[k]? := by
 rw [List.getElem?_append_right (by omega)]; congr 1; omega
theorem xTz (H l : Heap) : (H ++ l)[H.length]? = l[0]? := xTy H l 0
theorem xCm (H l : Heap) (k : Nat) (b : Blk) : (H ++ l).set (H.length + k) b = H ++ l.set k b := by
 rw [List.set_append_right _ _ (by omega)]; congr 2; omega
theorem yBp (H l : Heap) (k : Nat) (f : Blk → Blk) : (H ++ l).modify (H.length + k) f = H ++ l.modify k f := by
 apply List.ext_getElem?
 intro i
 rw [List.getElem?_modify]
 by_cases h : i < H.length
 ·have h1 : ∀ a : Blk,(if H.length + k = i then f a else a) = a := fun a => if_neg (by omega)
  rw [List.getElem?_append_left h,List.getElem?_append_left h]
  simp only [h1]
  cases H[i]? <;> rfl
 ·rw [List.getElem?_append_right (by omega),List.getElem?_append_right (by omega),List.getElem?_modify]
  have h1 : (H.length + k = i) = (k = i - H.length) := propext ⟨fun h => by omega,fun h => by omega⟩
  simp only [h1]
theorem xTA (H l : Heap) (f : Blk → Blk) : (H ++ l).modify H.length f = H ++ l.modify 0 f := yBp H l 0 f
theorem xTB (H l : Heap) (b : Blk) : (H ++ l).set H.length b = H ++ l.set 0 b := xCm H l 0 b
theorem xOV (l : List Nat) : (bs l).all xAF = true := xQt (fun _ => rfl) l
theorem xIt (l : List Nat) : (xEl l).all xAF = true := xQt (fun _ => rfl) l
end Go.Abs
