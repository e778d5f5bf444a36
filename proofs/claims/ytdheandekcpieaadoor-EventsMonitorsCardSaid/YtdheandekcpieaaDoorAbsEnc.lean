/- Lists of numbers as cells; facts on numbers and heaps that the walk uses. -/
import Derived.Test.YtdheandekcpieaaDoorAbsWalk
import Derived.Laws.BitsLemmas
namespace Go.Abs
set_option linter.unusedVariables false
set_option linter.unusedSimpArgs false
def bs (l : List Nat) : List AV := l.map fun (n : Nat) => AV.int .u8 n
theorem xBf (l : List Nat) : (bs l).length = l.length := by simp [bs]
theorem yET {l : List Nat} {k : Nat} (h : k < l.length) : List.take 1 (List.drop k (bs l)) = [.int .u8 (l.getD k 0 : Nat)] := by
 rw [List.drop_eq_getElem_cons (by simpa [bs] using h)]
 simp [bs,List.getD,List.getElem?_eq_getElem h]
theorem yAe {n : Int} (h1 : -9223372036854775808 ≤ n) (h2 : n < 9223372036854775808) : IntKind.i64.wrap n = n := by
 rw [IntKind.wrap_i64]; omega
theorem yFH {n : Nat} (h2 : n < 256) : IntKind.u8.wrap (n : Int) = n := by
 rw [IntKind.wrap_u8]; omega
theorem xIW (n : Nat) : ((no_index (OfNat.ofNat n) : Nat) : Int) = OfNat.ofNat n := rfl
theorem yFI (a b : Nat) : (a : Int) + (b : Int) = ((a + b : Nat) : Int) := by omega
theorem yCs (a : Nat) : (a : Int) + 1 = ((a + 1 : Nat) : Int) := by omega
theorem yCt (a b : Nat) : (a : Int).tdiv (b : Int) = ((a / b : Nat) : Int) := by simp [Int.tdiv_eq_ediv_of_nonneg]
theorem yCu (a b : Nat) : (a : Int).tmod (b : Int) = ((a % b : Nat) : Int) := by simp [Int.tmod_eq_emod_of_nonneg]
def xAX (l : List Nat) : List AV := l.map fun (n : Nat) => AV.int .i64 n
theorem xBS (l : List Nat) : (xAX l).length = l.length := by simp [xAX]
theorem yAf {l : List Nat} {k : Nat} (h : k < l.length) : List.take 1 (List.drop k (xAX l)) = [.int .i64 (l.getD k 0 : Nat)] := by
 rw [List.drop_eq_getElem_cons (by simpa [xAX] using h)]
 simp [xAX,List.getD,List.getElem?_eq_getElem h]
theorem xFN {α : Type} (l : List α) (k : Nat) (x : α) (h : k < l.length) : List.take k l ++ (x :: List.drop (k + 1) l) = l.set k x := (List.set_eq_take_append_cons_drop).trans (if_pos h) |>.symm
theorem xXr {l : List Nat} {k : Nat} {n : Nat} (h : k < l.length) : List.take k (xAX l) ++ (AV.int .i64 n :: List.drop (k + 1) (xAX l)) = xAX (l.set k n) := by
 rw [xFN _ _ _ (by rw [xBS]; exact h)]; simp [xAX,List.map_set]
theorem yCv {l : List Nat} {k : Nat} {n : Nat} (h : k < l.length) : List.take k (bs l) ++ (AV.int .u8 n :: List.drop (k + 1) (bs l)) = bs (l.set k n) := by
 rw [xFN _ _ _ (by rw [xBf]; exact h)]; simp [bs,List.map_set]
theorem xVm (n : Nat) : xCp [AV.int .i64 0] n = xAX (List.replicate n 0) := by
 induction n with
 | zero => rfl
 | succ n ih => simp [xCp,ih,xAX,List.replicate_succ]
theorem xPt (n : Nat) : xCp [AV.int .u8 0] n = bs (List.replicate n 0) := by
 induction n with
 | zero => rfl
 | succ n ih => simp [xCp,ih,bs,List.replicate_succ]
theorem xLZ (k : Nat) (l : List Nat) : List.take k (bs l) = bs (l.take k) := by simp [bs,List.map_take]
theorem xL0 (k : Nat) (l : List Nat) : List.drop k (bs l) = bs (l.drop k) := by simp [bs,List.map_drop]
theorem yCw {l : List Nat} {k : Nat} (h : k < l.length) : bs (List.take 1 (List.drop k l)) = [.int .u8 (l.getD k 0 : Nat)] := by
 rw [← xLZ,← xL0,yET h]
theorem xY0 {l : List Nat} (h : 0 < l.length) : bs (List.take 1 l) = [.int .u8 (l.getD 0 0 : Nat)] := by
 have := yCw h
 rwa [List.drop_zero] at this
theorem xPu {l : List Nat} {k : Nat} {n : Nat} (h : k < l.length) : bs (List.take k l) ++ (AV.int .u8 n :: bs (List.drop (k + 1) l)) = bs (l.set k n) := by
 rw [← xLZ,← xL0,yCv h]
theorem xFO (k : Nat) (l : List Nat) : List.take k (xAX l) = xAX (l.take k) := by simp [xAX,List.map_take]
theorem xFP (k : Nat) (l : List Nat) : List.drop k (xAX l) = xAX (l.drop k) := by simp [xAX,List.map_drop]
theorem xXs {l : List Nat} {k : Nat} (h : k < l.length) : xAX (List.take 1 (List.drop k l)) = [.int .i64 (l.getD k 0 : Nat)] := by
 rw [← xFO,← xFP,yAf h]
theorem xRd {l : List Nat} (h : 0 < l.length) : xAX (List.take 1 l) = [.int .i64 (l.getD 0 0 : Nat)] := by
 have := xXs h
 rwa [List.drop_zero] at this
theorem xOl {l : List Nat} {k : Nat} {n : Nat} (h : k < l.length) : xAX (List.take k l) ++ (AV.int .i64 n :: xAX (List.drop (k + 1) l)) = xAX (l.set k n) := by
 rw [← xFO,← xFP,xXr h]
theorem xHk (d : Nat) (H : Heap) : ∀ l : List Nat,(xAX l).mapM (frz d H) = some (xAX l)
 | [] => rfl
 | n :: l => by
  have h := xHk d H l
  have : xAX (n :: l) = .int .i64 (n : Nat) :: xAX l := rfl
  rw [this,List.mapM_cons,xCM]
  simp [h]
theorem xOm (l : List Nat) (n t : Nat) : (l.drop n).getD t 0 = l.getD (n + t) 0 := by simp [List.getD,List.getElem?_drop]
theorem xRe (d : Nat) (H : Heap) : ∀ l : List Nat,(bs l).mapM (frz d H) = some (bs l)
 | [] => rfl
 | n :: l => by
  have h := xRe d H l
  have e : frz d H (.int .u8 (n : Nat)) = some (.int .u8 (n : Nat)) := by cases d <;> rfl
  have : bs (n :: l) = .int .u8 (n : Nat) :: bs l := rfl
  rw [this,List.mapM_cons,e]
  simp [h]
theorem xOD (H l : Heap) (k : Nat) : (H ++ l)[H.length + k]? = l[k]? := by
 rw [List.getElem?_append_right (by omega)]; congr 1; omega
theorem yEU (H l : Heap) : (H ++ l)[H.length]? = l[0]? := xOD H l 0
theorem hset (H l : Heap) (k : Nat) (b : Blk) : (H ++ l).set (H.length + k) b = H ++ l.set k b := by
 rw [List.set_append_right _ _ (by omega)]; congr 2; omega
theorem yEV (H l : Heap) (k : Nat) (f : Blk → Blk) : (H ++ l).modify (H.length + k) f = H ++ l.modify k f := by
 apply List.ext_getElem?
 intro i
 rw [List.getElem?_modify]
 by_cases h : i < H.length
 ·have h1 : ∀ a : Blk,(if H.length + k = i then f a else a) = a := fun a => if_neg (by omega)
  rw [List.getElem?_append_left h,List.getElem?_append_left h]
  simp only [h1]
  cases H[i]? <;> rfl
 ·rw [List.getElem?_append_right (by omega),List.getElem?_append_right (by omega),List.getElem?_modify]
  have h1 : (H.length + k = i) = (k = i - H.length) := propext ⟨fun h => by omega,fun h => by omega⟩
  simp only [h1]
theorem yCx (H l : Heap) (f : Blk → Blk) : (H ++ l).modify H.length f = H ++ l.modify 0 f := yEV H l 0 f
theorem yEW (H l : Heap) (b : Blk) : (H ++ l).set H.length b = H ++ l.set 0 b := hset H l 0 b
end Go.Abs
