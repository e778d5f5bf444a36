/- Lists of numbers as cells; facts on numbers and heaps that the walk uses. -/
import Derived.Test.YtdheandekcpieaaDoorAbsWalk
import Derived.Laws.BitsLemmas
namespace Go.Abs
set_option linter.unusedVariables false
set_option linter.unusedSimpArgs false
def bs (l : List Nat) : List AV := l.map fun (n : Nat) => AV.int .u8 n
theorem xBu (l : List Nat) : (bs l).length = l.length := by simp [bs]
theorem yBK {l : List Nat} {k : Nat} (h : k < l.length) : List.take 1 (List.drop k (bs l)) = [.int .u8 (l.getD k 0 : Nat)] := by
 rw [List.drop_eq_getElem_cons (by simpa [bs] using h)]
 simp [bs,List.getD,List.getElem?_eq_getElem h]
theorem yCy {n : Int} (h1 : -9223372036854775808 ≤ n) (h2 : n < 9223372036854775808) : IntKind.i64.wrap n = n := by
 rw [IntKind.wrap_i64]; omega
theorem yCz {n : Nat} (h2 : n < 256) : IntKind.u8.wrap (n : Int) = n := by
 rw [IntKind.wrap_u8]; omega
theorem xHO (n : Nat) : ((no_index (OfNat.ofNat n) : Nat) : Int) = OfNat.ofNat n := rfl
theorem yCA (a b : Nat) : (a : Int) + (b : Int) = ((a + b : Nat) : Int) := by omega
theorem xZB (a : Nat) : (a : Int) + 1 = ((a + 1 : Nat) : Int) := by omega
theorem xZC (a b : Nat) : (a : Int).tdiv (b : Int) = ((a / b : Nat) : Int) := by simp [Int.tdiv_eq_ediv_of_nonneg]
theorem xZD (a b : Nat) : (a : Int).tmod (b : Int) = ((a % b : Nat) : Int) := by simp [Int.tmod_eq_emod_of_nonneg]
def xCH (l : List Nat) : List AV := l.map fun (n : Nat) => AV.int .i64 n
theorem xCp (l : List Nat) : (xCH l).length = l.length := by simp [xCH]
theorem xXu {l : List Nat} {k : Nat} (h : k < l.length) : List.take 1 (List.drop k (xCH l)) = [.int .i64 (l.getD k 0 : Nat)] := by
 rw [List.drop_eq_getElem_cons (by simpa [xCH] using h)]
 simp [xCH,List.getD,List.getElem?_eq_getElem h]
theorem xE3 {α : Type} (l : List α) (k : Nat) (x : α) (h : k < l.length) : List.take k l ++ (x :: List.drop (k + 1) l) = l.set k x := (List.set_eq_take_append_cons_drop).trans (if_pos h) |>.symm
theorem xUX {l : List Nat} {k : Nat} {n : Nat} (h : k < l.length) : List.take k (xCH l) ++ (AV.int .i64 n :: List.drop (k + 1) (xCH l)) = xCH (l.set k n) := by
 rw [xE3 _ _ _ (by rw [xCp]; exact h)]; simp [xCH,List.map_set]
theorem xZE {l : List Nat} {k : Nat} {n : Nat} (h : k < l.length) : List.take k (bs l) ++ (AV.int .u8 n :: List.drop (k + 1) (bs l)) = bs (l.set k n) := by
 rw [xE3 _ _ _ (by rw [xBu]; exact h)]; simp [bs,List.map_set]
theorem xSX (n : Nat) : xCD [AV.int .i64 0] n = xCH (List.replicate n 0) := by
 induction n with
 | zero => rfl
 | succ n ih => simp [xCD,ih,xCH,List.replicate_succ]
theorem xXv (n : Nat) : xCD [AV.int .u8 0] n = bs (List.replicate n 0) := by
 induction n with
 | zero => rfl
 | succ n ih => simp [xCD,ih,bs,List.replicate_succ]
theorem xKa (k : Nat) (l : List Nat) : List.take k (bs l) = bs (l.take k) := by simp [bs,List.map_take]
theorem xKb (k : Nat) (l : List Nat) : List.drop k (bs l) = bs (l.drop k) := by simp [bs,List.map_drop]
theorem xZF {l : List Nat} {k : Nat} (h : k < l.length) : bs (List.take 1 (List.drop k l)) = [.int .u8 (l.getD k 0 : Nat)] := by
 rw [← xKa,← xKb,yBK h]
theorem xV8 {l : List Nat} (h : 0 < l.length) : bs (List.take 1 l) = [.int .u8 (l.getD 0 0 : Nat)] := by
 have := xZF h
 rwa [List.drop_zero] at this
theorem xSY {l : List Nat} {k : Nat} {n : Nat} (h : k < l.length) : bs (List.take k l) ++ (AV.int .u8 n :: bs (List.drop (k + 1) l)) = bs (l.set k n) := by
 rw [← xKa,← xKb,xZE h]
theorem xE4 (k : Nat) (l : List Nat) : List.take k (xCH l) = xCH (l.take k) := by simp [xCH,List.map_take]
theorem xE5 (k : Nat) (l : List Nat) : List.drop k (xCH l) = xCH (l.drop k) := by simp [xCH,List.map_drop]
theorem xUY {l : List Nat} {k : Nat} (h : k < l.length) : xCH (List.take 1 (List.drop k l)) = [.int .i64 (l.getD k 0 : Nat)] := by
 rw [← xE4,← xE5,xXu h]
theorem xO1 {l : List Nat} (h : 0 < l.length) : xCH (List.take 1 l) = [.int .i64 (l.getD 0 0 : Nat)] := by
 have := xUY h
 rwa [List.drop_zero] at this
theorem xMj {l : List Nat} {k : Nat} {n : Nat} (h : k < l.length) : xCH (List.take k l) ++ (AV.int .i64 n :: xCH (List.drop (k + 1) l)) = xCH (l.set k n) := by
 rw [← xE4,← xE5,xUX h]
theorem xKc (d : Nat) (H : Heap) : ∀ l : List Nat,(xCH l).mapM (frz d H) = some (xCH l)
 | [] => rfl
 | n :: l => by
  have h := xKc d H l
  have : xCH (n :: l) = .int .i64 (n : Nat) :: xCH l := rfl
  rw [this,List.mapM_cons,xCF]
  simp [h]
theorem xMk (l : List Nat) (n t : Nat) : (l.drop n).getD t 0 = l.getD (n + t) 0 := by simp [List.getD,List.getElem?_drop]
theorem xSZ (d : Nat) (H : Heap) : ∀ l : List Nat,(bs l).mapM (frz d H) = some (bs l)
 | [] => rfl
 | n :: l => by
  have h := xSZ d H l
  have e : frz d H (.int .u8 (n : Nat)) = some (.int .u8 (n : Nat)) := by cases d <;> rfl
  have : bs (n :: l) = .int .u8 (n : Nat) :: bs l := rfl
  rw [this,List.mapM_cons,e]
  simp [h]
theorem xMz (H l : Heap) (k : Nat) : (H ++ l)[H.length + k]? = l[k]? := by
 rw [List.getElem?_append_right (by omega)]; congr 1; omega
theorem yBL (H l : Heap) : (H ++ l)[H.length]? = l[0]? := xMz H l 0
theorem xBN (H l : Heap) (k : Nat) (b : Blk) : (H ++ l).set (H.length + k) b = H ++ l.set k b := by
 rw [List.set_append_right _ _ (by omega)]; congr 2; omega
theorem yBM (H l : Heap) (b : Blk) : (H ++ l).set H.length b = H ++ l.set 0 b := xBN H l 0 b
end Go.Abs
