/- Lists of numbers as cells; facts on numbers and heaps that the walk uses. -/
import Derived.Test.YtdheandekcpieaaDoorAbsWalk
import Derived.Laws.BitsLemmas
namespace Go.Abs
set_option linter.unusedVariables false
set_option linter.unusedSimpArgs false
def bs (l : List Nat) : List AV := l.map fun (n : Nat) => AV.int .u8 n
abbrev word (z : Bool) (l : List Nat) : AV := .sl z l.length (bs l)
theorem xAz (l : List Nat) : (bs l).length = l.length := by simp [bs]
theorem yCU {l : List Nat} {k : Nat} (h : k < l.length) : List.take 1 (List.drop k (bs l)) = [.int .u8 (l.getD k 0 : Nat)] := by
 rw [List.drop_eq_getElem_cons (by simpa [bs] using h)]
 simp [bs,List.getD,List.getElem?_eq_getElem h]
theorem xYE {n : Int} (h1 : -9223372036854775808 ≤ n) (h2 : n < 9223372036854775808) : IntKind.i64.wrap n = n := by
 rw [IntKind.wrap_i64]; omega
theorem yDH {n : Nat} (h2 : n < 256) : IntKind.u8.wrap (n : Int) = n := by
 rw [IntKind.wrap_u8]; omega
theorem xIb (n : Nat) : ((no_index (OfNat.ofNat n) : Nat) : Int) = OfNat.ofNat n := rfl
theorem yDI (a b : Nat) : (a : Int) + (b : Int) = ((a + b : Nat) : Int) := by omega
theorem yAE (a : Nat) : (a : Int) + 1 = ((a + 1 : Nat) : Int) := by omega
theorem yAF (a b : Nat) : (a : Int).tdiv (b : Int) = ((a / b : Nat) : Int) := by simp [Int.tdiv_eq_ediv_of_nonneg]
theorem yAG (a b : Nat) : (a : Int).tmod (b : Int) = ((a % b : Nat) : Int) := by simp [Int.tmod_eq_emod_of_nonneg]
def xAU (l : List Nat) : List AV := l.map fun (n : Nat) => AV.int .i64 n
theorem xBH (l : List Nat) : (xAU l).length = l.length := by simp [xAU]
theorem xYF {l : List Nat} {k : Nat} (h : k < l.length) : List.take 1 (List.drop k (xAU l)) = [.int .i64 (l.getD k 0 : Nat)] := by
 rw [List.drop_eq_getElem_cons (by simpa [xAU] using h)]
 simp [xAU,List.getD,List.getElem?_eq_getElem h]
theorem xIc {α : Type} (l : List α) (k : Nat) (x : α) (h : k < l.length) : List.take k l ++ (x :: List.drop (k + 1) l) = l.set k x := (List.set_eq_take_append_cons_drop).trans (if_pos h) |>.symm
theorem xV7 {l : List Nat} {k : Nat} {n : Nat} (h : k < l.length) : List.take k (xAU l) ++ (AV.int .i64 n :: List.drop (k + 1) (xAU l)) = xAU (l.set k n) := by
 rw [xIc _ _ _ (by rw [xBH]; exact h)]; simp [xAU,List.map_set]
theorem yAH {l : List Nat} {k : Nat} {n : Nat} (h : k < l.length) : List.take k (bs l) ++ (AV.int .u8 n :: List.drop (k + 1) (bs l)) = bs (l.set k n) := by
 rw [xIc _ _ _ (by rw [xAz]; exact h)]; simp [bs,List.map_set]
theorem xUn (n : Nat) : xCo [AV.int .i64 0] n = xAU (List.replicate n 0) := by
 induction n with
 | zero => rfl
 | succ n ih => simp [xCo,ih,xAU,List.replicate_succ]
theorem xUo (n : Nat) : xCo [AV.int .u8 0] n = bs (List.replicate n 0) := by
 induction n with
 | zero => rfl
 | succ n ih => simp [xCo,ih,bs,List.replicate_succ]
theorem xKX (k : Nat) (l : List Nat) : List.take k (bs l) = bs (l.take k) := by simp [bs,List.map_take]
theorem xKY (k : Nat) (l : List Nat) : List.drop k (bs l) = bs (l.drop k) := by simp [bs,List.map_drop]
theorem yAI {l : List Nat} {k : Nat} (h : k < l.length) : bs (List.take 1 (List.drop k l)) = [.int .u8 (l.getD k 0 : Nat)] := by
 rw [← xKX,← xKY,yCU h]
theorem xXq {l : List Nat} (h : 0 < l.length) : bs (List.take 1 l) = [.int .u8 (l.getD 0 0 : Nat)] := by
 have := yAI h
 rwa [List.drop_zero] at this
theorem xOm {l : List Nat} {k : Nat} {n : Nat} (h : k < l.length) : bs (List.take k l) ++ (AV.int .u8 n :: bs (List.drop (k + 1) l)) = bs (l.set k n) := by
 rw [← xKX,← xKY,yAH h]
theorem xE9 (k : Nat) (l : List Nat) : List.take k (xAU l) = xAU (l.take k) := by simp [xAU,List.map_take]
theorem xFa (k : Nat) (l : List Nat) : List.drop k (xAU l) = xAU (l.drop k) := by simp [xAU,List.map_drop]
theorem xV8 {l : List Nat} {k : Nat} (h : k < l.length) : xAU (List.take 1 (List.drop k l)) = [.int .i64 (l.getD k 0 : Nat)] := by
 rw [← xE9,← xFa,xYF h]
theorem xP9 {l : List Nat} (h : 0 < l.length) : xAU (List.take 1 l) = [.int .i64 (l.getD 0 0 : Nat)] := by
 have := xV8 h
 rwa [List.drop_zero] at this
theorem xNh {l : List Nat} {k : Nat} {n : Nat} (h : k < l.length) : xAU (List.take k l) ++ (AV.int .i64 n :: xAU (List.drop (k + 1) l)) = xAU (l.set k n) := by
 rw [← xE9,← xFa,xV7 h]
theorem xGE (d : Nat) (H : Heap) : ∀ l : List Nat,(xAU l).mapM (frz d H) = some (xAU l)
 | [] => rfl
 | n :: l => by
  have h := xGE d H l
  have : xAU (n :: l) = .int .i64 (n : Nat) :: xAU l := rfl
  rw [this,List.mapM_cons,xEy]
  simp [h]
theorem yAJ (d : Nat) (H : Heap) (l : List Nat) : (bs l).flatMap (bor d H) = [] := by
 induction l with
 | nil => rfl
 | cons n l ih =>
  have : bs (n :: l) = .int .u8 (n : Nat) :: bs l := rfl
  rw [this,List.flatMap_cons,ih,xKK]; rfl
theorem xNi (l : List Nat) (n t : Nat) : (l.drop n).getD t 0 = l.getD (n + t) 0 := by simp [List.getD,List.getElem?_drop]
theorem xNj (d : Nat) (H : Heap) : ∀ l : List Nat,(bs l).mapM (frz d H) = some (bs l)
 | [] => rfl
 | n :: l => by
  have h := xNj d H l
  have e : frz d H (.int .u8 (n : Nat)) = some (.int .u8 (n : Nat)) := by cases d <;> rfl
  have : bs (n :: l) = .int .u8 (n : Nat) :: bs l := rfl
  rw [this,List.mapM_cons,e]
  simp [h]
theorem xNy (H l : Heap) (k : Nat) : (H ++ l)[H.length + k]? = l[k]? := by
 rw [List.getElem?_append_right (by omega)]; congr 1; omega
theorem yCV (H l : Heap) : (H ++ l)[H.length]? = l[0]? := xNy H l 0
theorem hset (H l : Heap) (k : Nat) (b : Blk) : (H ++ l).set (H.length + k) b = H ++ l.set k b := by
 rw [List.set_append_right _ _ (by omega)]; congr 2; omega
theorem yDJ (H l : Heap) (k : Nat) (f : Blk → Blk) : (H ++ l).modify (H.length + k) f = H ++ l.modify k f := by
 apply List.ext_getElem?
 intro i
 rw [List.getElem?_modify]
 by_cases h : i < H.length
 ·have h1 : ∀ a : Blk,(if H.length + k = i then f a else a) = a := fun a => if_neg (by omega)
  rw [List.getElem?_append_left h,List.getElem?_append_left h]
  simp only [h1]
  cases H[i]? <;> rfl
 ·rw [List.getElem?_append_right (by omega),List.getElem?_append_right (by omega),List.getElem?_modify]
  have h1 : (H.length + k = i) = (k = i - H.length) := propext ⟨fun h => by omega,fun h => by omega⟩
  simp only [h1]
theorem yCW (H l : Heap) (b : Blk) : (H ++ l).set H.length b = H ++ l.set 0 b := hset H l 0 b
end Go.Abs
