/- Lists of numbers as cells; facts on numbers and heaps that the walk uses. -/
import Derived.Test.YtkpbekcgigigkaaDoorAbsWalk
import Derived.Laws.BitsLemmas
namespace Go.Abs
set_option linter.unusedVariables false
set_option linter.unusedSimpArgs false
def bs (l : List Nat) : List AV := l.map fun (n : Nat) => AV.int .u8 n
abbrev xQT (z : Bool) (l : List Nat) : AV := .sl z l.length (bs l)
theorem xAJ (l : List Nat) : (bs l).length = l.length := by simp [bs]
theorem yGu {l : List Nat} {k : Nat} (h : k < l.length) : List.take 1 (List.drop k (bs l)) = [.int .u8 (l.getD k 0 : Nat)] := by
 rw [List.drop_eq_getElem_cons (by simpa [bs] using h)]
 simp [bs,List.getD,List.getElem?_eq_getElem h]
theorem yHw {n : Int} (h1 : -9223372036854775808 ≤ n) (h2 : n < 9223372036854775808) : IntKind.i64.wrap n = n := by
 rw [IntKind.wrap_i64]; omega
theorem yHx {n : Nat} (h2 : n < 256) : IntKind.u8.wrap (n : Int) = n := by
 rw [IntKind.wrap_u8]; omega
theorem xWf (n : Nat) : ((no_index (OfNat.ofNat n) : Nat) : Int) = OfNat.ofNat n := rfl
theorem yHy (n : Nat) : ((n : Int) < 0) = False := eq_false (by omega)
theorem yHz (a b : Nat) : (a : Int) + (b : Int) = ((a + b : Nat) : Int) := by omega
theorem yEO (a : Nat) : (a : Int) + 1 = ((a + 1 : Nat) : Int) := by omega
theorem yHA {a b : Nat} (h : b ≤ a) : (a : Int) - (b : Int) = ((a - b : Nat) : Int) := by omega
theorem yEP {a : Nat} (h : 1 ≤ a) : (a : Int) - 1 = ((a - 1 : Nat) : Int) := by omega
theorem yEQ (a b : Nat) : (a : Int).tdiv (b : Int) = ((a / b : Nat) : Int) := by simp [Int.tdiv_eq_ediv_of_nonneg]
theorem yHB (a b : Nat) : (a : Int) * (b : Int) = ((a * b : Nat) : Int) := by simp
theorem yER (a b : Nat) : (a : Int).tmod (b : Int) = ((a % b : Nat) : Int) := by simp [Int.tmod_eq_emod_of_nonneg]
def xAA (l : List Nat) : List AV := l.map fun (n : Nat) => AV.int .i64 n
theorem xAy (l : List Nat) : (xAA l).length = l.length := by simp [xAA]
theorem yCR {l : List Nat} {k : Nat} (h : k < l.length) : List.take 1 (List.drop k (xAA l)) = [.int .i64 (l.getD k 0 : Nat)] := by
 rw [List.drop_eq_getElem_cons (by simpa [xAA] using h)]
 simp [xAA,List.getD,List.getElem?_eq_getElem h]
theorem xDs {α : Type} (l : List α) (k : Nat) (x : α) (h : k < l.length) : List.take k l ++ (x :: List.drop (k + 1) l) = l.set k x := (List.set_eq_take_append_cons_drop).trans (if_pos h) |>.symm
theorem xZW {l : List Nat} {k : Nat} {n : Nat} (h : k < l.length) : List.take k (xAA l) ++ (AV.int .i64 n :: List.drop (k + 1) (xAA l)) = xAA (l.set k n) := by
 rw [xDs _ _ _ (by rw [xAy]; exact h)]; simp [xAA,List.map_set]
theorem yES {l : List Nat} {k : Nat} {n : Nat} (h : k < l.length) : List.take k (bs l) ++ (AV.int .u8 n :: List.drop (k + 1) (bs l)) = bs (l.set k n) := by
 rw [xDs _ _ _ (by rw [xAJ]; exact h)]; simp [bs,List.map_set]
theorem xAl (n : Nat) : xCB [AV.int .i64 0] n = xAA (List.replicate n 0) := by
 induction n with
 | zero => rfl
 | succ n ih => simp [xCB,ih,xAA,List.replicate_succ]
theorem xWg (n : Nat) : xCB [AV.int .u8 0] n = bs (List.replicate n 0) := by
 induction n with
 | zero => rfl
 | succ n ih => simp [xCB,ih,bs,List.replicate_succ]
theorem yBj (a b : List Nat) : bs a ++ bs b = bs (a ++ b) := by simp [bs]
theorem xMG (k : Nat) (l : List Nat) : List.take k (bs l) = bs (l.take k) := by simp [bs,List.map_take]
theorem xMH (k : Nat) (l : List Nat) : List.drop k (bs l) = bs (l.drop k) := by simp [bs,List.map_drop]
theorem yET {l : List Nat} {k : Nat} (h : k < l.length) : bs (List.take 1 (List.drop k l)) = [.int .u8 (l.getD k 0 : Nat)] := by
 rw [← xMG,← xMH,yGu h]
theorem yBk {l : List Nat} (h : 0 < l.length) : bs (List.take 1 l) = [.int .u8 (l.getD 0 0 : Nat)] := by
 have := yET h
 rwa [List.drop_zero] at this
theorem xWh {l : List Nat} {k : Nat} {n : Nat} (h : k < l.length) : bs (List.take k l) ++ (AV.int .u8 n :: bs (List.drop (k + 1) l)) = bs (l.set k n) := by
 rw [← xMG,← xMH,yES h]
theorem xEt (k : Nat) (l : List Nat) : List.take k (xAA l) = xAA (l.take k) := by simp [xAA,List.map_take]
theorem xFM (k : Nat) (l : List Nat) : List.drop k (xAA l) = xAA (l.drop k) := by simp [xAA,List.map_drop]
theorem xR0 (a b : List Nat) : xAA a ++ xAA b = xAA (a ++ b) := by simp [xAA]
theorem xZX {l : List Nat} {k : Nat} (h : k < l.length) : xAA (List.take 1 (List.drop k l)) = [.int .i64 (l.getD k 0 : Nat)] := by
 rw [← xEt,← xFM,yCR h]
theorem xR1 {l : List Nat} (h : 0 < l.length) : xAA (List.take 1 l) = [.int .i64 (l.getD 0 0 : Nat)] := by
 have := xZX h
 rwa [List.drop_zero] at this
theorem xOE {l : List Nat} {k : Nat} {n : Nat} (h : k < l.length) : xAA (List.take k l) ++ (AV.int .i64 n :: xAA (List.drop (k + 1) l)) = xAA (l.set k n) := by
 rw [← xEt,← xFM,xZW h]
theorem xHk (d : Nat) (H : Heap) : ∀ l : List Nat,(xAA l).mapM (frz d H) = some (xAA l)
 | [] => rfl
 | n :: l => by
  have h := xHk d H l
  have : xAA (n :: l) = .int .i64 (n : Nat) :: xAA l := rfl
  rw [this,List.mapM_cons,xIv]
  simp [h]
theorem yBl (d : Nat) (H : Heap) (l : List Nat) : (bs l).flatMap (bor d H) = [] := by
 induction l with
 | nil => rfl
 | cons n l ih =>
  have : bs (n :: l) = .int .u8 (n : Nat) :: bs l := rfl
  rw [this,List.flatMap_cons,ih,xGp]; rfl
theorem xR2 (d : Nat) (H : Heap) (l : List Nat) : (xAA l).flatMap (bor d H) = [] := by
 induction l with
 | nil => rfl
 | cons n l ih =>
  have : xAA (n :: l) = .int .i64 (n : Nat) :: xAA l := rfl
  rw [this,List.flatMap_cons,ih,xGp]; rfl
theorem xOF (l : List Nat) (n t : Nat) : (l.drop n).getD t 0 = l.getD (n + t) 0 := by simp [List.getD,List.getElem?_drop]
theorem xOG {α : Type} (l : List α) (k : Nat) : List.take (l.length - k) (List.drop k l) = List.drop k l := by
 rw [List.take_of_length_le]; simp
theorem xOH (d : Nat) (H : Heap) : ∀ l : List Nat,(bs l).mapM (frz d H) = some (bs l)
 | [] => rfl
 | n :: l => by
  have h := xOH d H l
  have e : frz d H (.int .u8 (n : Nat)) = some (.int .u8 (n : Nat)) := by cases d <;> rfl
  have : bs (n :: l) = .int .u8 (n : Nat) :: bs l := rfl
  rw [this,List.mapM_cons,e]
  simp [h]
theorem xUN (H l : Heap) (k : Nat) : (H ++ l)[H.length + k]? = l[k]? := by
 rw [List.getElem?_append_right (by omega)]; congr 1; omega
theorem xZY (H l : Heap) : (H ++ l)[H.length]? = l[0]? := xUN H l 0
theorem xCO (H l : Heap) (k : Nat) (b : Blk) : (H ++ l).set (H.length + k) b = H ++ l.set k b := by
 rw [List.set_append_right _ _ (by omega)]; congr 2; omega
theorem yGv (H l : Heap) (k : Nat) (f : Blk → Blk) : (H ++ l).modify (H.length + k) f = H ++ l.modify k f := by
 apply List.ext_getElem?
 intro i
 rw [List.getElem?_modify]
 by_cases h : i < H.length
 ·have h1 : ∀ a : Blk,(if H.length + k = i then f a else a) = a := fun a => if_neg (by omega)
  rw [List.getElem?_append_left h,List.getElem?_append_left h]
  simp only [h1]
  cases H[i]? <;> rfl
 ·rw [List.getElem?_append_right (by omega),List.getElem?_append_right (by omega),List.getElem?_modify]
  have h1 : (H.length + k = i) = (k = i - H.length) := propext ⟨fun h => by omega,fun h => by omega⟩
  simp only [h1]
theorem yCS (H l : Heap) (f : Blk → Blk) : (H ++ l).modify H.length f = H ++ l.modify 0 f := yGv H l 0 f
theorem xZZ (H l : Heap) (b : Blk) : (H ++ l).set H.length b = H ++ l.set 0 b := xCO H l 0 b
theorem xWi (l : List Nat) : (bs l).all xAM = true := xMO (fun _ => rfl) l
theorem xMI (l : List Nat) : (xAA l).all xAM = true := xMO (fun _ => rfl) l
end Go.Abs
