/- Lists of numbers as cells; facts on numbers and heaps that the walk uses. -/
import Derived.Test.YtdheandekcpieaaGreatDoorAbsWalk
import Derived.Laws.BitsLemmas
namespace Go.Abs
set_option linter.unusedVariables false
set_option linter.unusedSimpArgs false
def bs (l : List Nat) : List AV := l.map fun (n : Nat) => AV.int .u8 n
theorem xBE (l : List Nat) : (bs l).length = l.length := by simp [bs]
theorem yEh {l : List Nat} {k : Nat} (h : k < l.length) : List.take 1 (List.drop k (bs l)) = [.int .u8 (l.getD k 0 : Nat)] := by
 rw [List.drop_eq_getElem_cons (by simpa [bs] using h)]
 simp [bs,List.getD,List.getElem?_eq_getElem h]
theorem xZo {n : Int} (h1 : -9223372036854775808 ≤ n) (h2 : n < 9223372036854775808) : IntKind.i64.wrap n = n := by
 rw [IntKind.wrap_i64]; omega
theorem yFb {n : Nat} (h2 : n < 256) : IntKind.u8.wrap (n : Int) = n := by
 rw [IntKind.wrap_u8]; omega
theorem xHZ (n : Nat) : ((no_index (OfNat.ofNat n) : Nat) : Int) = OfNat.ofNat n := rfl
theorem yFc (a b : Nat) : (a : Int) + (b : Int) = ((a + b : Nat) : Int) := by omega
theorem yBM (a : Nat) : (a : Int) + 1 = ((a + 1 : Nat) : Int) := by omega
theorem yBN {a : Nat} (h : 1 ≤ a) : (a : Int) - 1 = ((a - 1 : Nat) : Int) := by omega
theorem yBO (a b : Nat) : (a : Int).tdiv (b : Int) = ((a / b : Nat) : Int) := by simp [Int.tdiv_eq_ediv_of_nonneg]
theorem yBP (a b : Nat) : (a : Int).tmod (b : Int) = ((a % b : Nat) : Int) := by simp [Int.tmod_eq_emod_of_nonneg]
def xAU (l : List Nat) : List AV := l.map fun (n : Nat) => AV.int .i64 n
theorem xBK (l : List Nat) : (xAU l).length = l.length := by simp [xAU]
theorem xZp {l : List Nat} {k : Nat} (h : k < l.length) : List.take 1 (List.drop k (xAU l)) = [.int .i64 (l.getD k 0 : Nat)] := by
 rw [List.drop_eq_getElem_cons (by simpa [xAU] using h)]
 simp [xAU,List.getD,List.getElem?_eq_getElem h]
theorem xH0 {α : Type} (l : List α) (k : Nat) (x : α) (h : k < l.length) : List.take k l ++ (x :: List.drop (k + 1) l) = l.set k x := (List.set_eq_take_append_cons_drop).trans (if_pos h) |>.symm
theorem xWq {l : List Nat} {k : Nat} {n : Nat} (h : k < l.length) : List.take k (xAU l) ++ (AV.int .i64 n :: List.drop (k + 1) (xAU l)) = xAU (l.set k n) := by
 rw [xH0 _ _ _ (by rw [xBK]; exact h)]; simp [xAU,List.map_set]
theorem yBQ {l : List Nat} {k : Nat} {n : Nat} (h : k < l.length) : List.take k (bs l) ++ (AV.int .u8 n :: List.drop (k + 1) (bs l)) = bs (l.set k n) := by
 rw [xH0 _ _ _ (by rw [xBE]; exact h)]; simp [bs,List.map_set]
theorem xUg (n : Nat) : xCu [AV.int .i64 0] n = xAU (List.replicate n 0) := by
 induction n with
 | zero => rfl
 | succ n ih => simp [xCu,ih,xAU,List.replicate_succ]
theorem xZq (n : Nat) : xCu [AV.int .u8 0] n = bs (List.replicate n 0) := by
 induction n with
 | zero => rfl
 | succ n ih => simp [xCu,ih,bs,List.replicate_succ]
theorem xKO (k : Nat) (l : List Nat) : List.take k (bs l) = bs (l.take k) := by simp [bs,List.map_take]
theorem xKP (k : Nat) (l : List Nat) : List.drop k (bs l) = bs (l.drop k) := by simp [bs,List.map_drop]
theorem yBR {l : List Nat} {k : Nat} (h : k < l.length) : bs (List.take 1 (List.drop k l)) = [.int .u8 (l.getD k 0 : Nat)] := by
 rw [← xKO,← xKP,yEh h]
theorem xX1 {l : List Nat} (h : 0 < l.length) : bs (List.take 1 l) = [.int .u8 (l.getD 0 0 : Nat)] := by
 have := yBR h
 rwa [List.drop_zero] at this
theorem xUh {l : List Nat} {k : Nat} {n : Nat} (h : k < l.length) : bs (List.take k l) ++ (AV.int .u8 n :: bs (List.drop (k + 1) l)) = bs (l.set k n) := by
 rw [← xKO,← xKP,yBQ h]
theorem xFi (k : Nat) (l : List Nat) : List.take k (xAU l) = xAU (l.take k) := by simp [xAU,List.map_take]
theorem xFj (k : Nat) (l : List Nat) : List.drop k (xAU l) = xAU (l.drop k) := by simp [xAU,List.map_drop]
theorem xWr {l : List Nat} {k : Nat} (h : k < l.length) : xAU (List.take 1 (List.drop k l)) = [.int .i64 (l.getD k 0 : Nat)] := by
 rw [← xFi,← xFj,xZp h]
theorem xP2 {l : List Nat} (h : 0 < l.length) : xAU (List.take 1 l) = [.int .i64 (l.getD 0 0 : Nat)] := by
 have := xWr h
 rwa [List.drop_zero] at this
theorem xNe {l : List Nat} {k : Nat} {n : Nat} (h : k < l.length) : xAU (List.take k l) ++ (AV.int .i64 n :: xAU (List.drop (k + 1) l)) = xAU (l.set k n) := by
 rw [← xFi,← xFj,xWq h]
theorem xGG (d : Nat) (H : Heap) : ∀ l : List Nat,(xAU l).mapM (frz d H) = some (xAU l)
 | [] => rfl
 | n :: l => by
  have h := xGG d H l
  have : xAU (n :: l) = .int .i64 (n : Nat) :: xAU l := rfl
  rw [this,List.mapM_cons,xDO]
  simp [h]
theorem xNf (l : List Nat) (n t : Nat) : (l.drop n).getD t 0 = l.getD (n + t) 0 := by simp [List.getD,List.getElem?_drop]
theorem xUi (d : Nat) (H : Heap) : ∀ l : List Nat,(bs l).mapM (frz d H) = some (bs l)
 | [] => rfl
 | n :: l => by
  have h := xUi d H l
  have e : frz d H (.int .u8 (n : Nat)) = some (.int .u8 (n : Nat)) := by cases d <;> rfl
  have : bs (n :: l) = .int .u8 (n : Nat) :: bs l := rfl
  rw [this,List.mapM_cons,e]
  simp [h]
theorem xNt (H l : Heap) (k : Nat) : (H ++ l)[H.length + k]? = l[k]? := by
 rw [List.getElem?_append_right (by omega)]; congr 1; omega
theorem yEi (H l : Heap) : (H ++ l)[H.length]? = l[0]? := xNt H l 0
theorem hset (H l : Heap) (k : Nat) (b : Blk) : (H ++ l).set (H.length + k) b = H ++ l.set k b := by
 rw [List.set_append_right _ _ (by omega)]; congr 2; omega
theorem yFS (H l : Heap) (k : Nat) (f : Blk → Blk) : (H ++ l).modify (H.length + k) f = H ++ l.modify k f := by
 apply List.ext_getElem?
 intro i
 rw [List.getElem?_modify]
 by_cases h : i < H.length
 ·have h1 : ∀ a : Blk,(if H.length + k = i then f a else a) = a := fun a => if_neg (by omega)
  rw [List.getElem?_append_left h,List.getElem?_append_left h]
  simp only [h1]
  cases H[i]? <;> rfl
 ·rw [List.getElem?_append_right (by omega),List.getElem?_append_right (by omega),List.getElem?_modify]
  have h1 : (H.length + k = i) = (k = i - H.length) := propext ⟨fun h => by omega,fun h => by omega⟩
  simp only [h1]
theorem yBS (H l : Heap) (f : Blk → Blk) : (H ++ l).modify H.length f = H ++ l.modify 0 f := yFS H l 0 f
theorem yEj (H l : Heap) (b : Blk) : (H ++ l).set H.length b = H ++ l.set 0 b := hset H l 0 b
end Go.Abs
