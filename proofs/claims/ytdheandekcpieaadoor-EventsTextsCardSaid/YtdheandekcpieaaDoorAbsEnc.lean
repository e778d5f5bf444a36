/- Lists of numbers as cells; facts on numbers and heaps that the walk uses. -/
import Derived.Test.YtdheandekcpieaaDoorAbsWalk
import Derived.Laws.BitsLemmas
namespace Go.Abs
set_option linter.unusedVariables false
set_option linter.unusedSimpArgs false
def bs (l : List Nat) : List AV := l.map fun (n : Nat) => AV.int .u8 n
abbrev word (z : Bool) (l : List Nat) : AV := .sl z l.length (bs l)
theorem xBE (l : List Nat) : (bs l).length = l.length := by simp [bs]
theorem yBD {l : List Nat} {k : Nat} (h : k < l.length) : List.take 1 (List.drop k (bs l)) = [.int .u8 (l.getD k 0 : Nat)] := by
 rw [List.drop_eq_getElem_cons (by simpa [bs] using h)]
 simp [bs,List.getD,List.getElem?_eq_getElem h]
theorem xRH {n : Int} (h1 : -9223372036854775808 ≤ n) (h2 : n < 9223372036854775808) : IntKind.i64.wrap n = n := by
 rw [IntKind.wrap_i64]; omega
theorem yDj {n : Nat} (h2 : n < 256) : IntKind.u8.wrap (n : Int) = n := by
 rw [IntKind.wrap_u8]; omega
theorem xHe (n : Nat) : ((no_index (OfNat.ofNat n) : Nat) : Int) = OfNat.ofNat n := rfl
theorem yDk (a b : Nat) : (a : Int) + (b : Int) = ((a + b : Nat) : Int) := by omega
theorem xZE (a : Nat) : (a : Int) + 1 = ((a + 1 : Nat) : Int) := by omega
theorem xZF (a b : Nat) : (a : Int).tdiv (b : Int) = ((a / b : Nat) : Int) := by simp [Int.tdiv_eq_ediv_of_nonneg]
theorem xZG (a b : Nat) : (a : Int).tmod (b : Int) = ((a % b : Nat) : Int) := by simp [Int.tmod_eq_emod_of_nonneg]
def xCW (l : List Nat) : List AV := l.map fun (n : Nat) => AV.int .i64 n
theorem xCC (l : List Nat) : (xCW l).length = l.length := by simp [xCW]
theorem xXy {l : List Nat} {k : Nat} (h : k < l.length) : List.take 1 (List.drop k (xCW l)) = [.int .i64 (l.getD k 0 : Nat)] := by
 rw [List.drop_eq_getElem_cons (by simpa [xCW] using h)]
 simp [xCW,List.getD,List.getElem?_eq_getElem h]
theorem xHf {α : Type} (l : List α) (k : Nat) (x : α) (h : k < l.length) : List.take k l ++ (x :: List.drop (k + 1) l) = l.set k x := (List.set_eq_take_append_cons_drop).trans (if_pos h) |>.symm
theorem xU4 {l : List Nat} {k : Nat} {n : Nat} (h : k < l.length) : List.take k (xCW l) ++ (AV.int .i64 n :: List.drop (k + 1) (xCW l)) = xCW (l.set k n) := by
 rw [xHf _ _ _ (by rw [xCC]; exact h)]; simp [xCW,List.map_set]
theorem xZH {l : List Nat} {k : Nat} {n : Nat} (h : k < l.length) : List.take k (bs l) ++ (AV.int .u8 n :: List.drop (k + 1) (bs l)) = bs (l.set k n) := by
 rw [xHf _ _ _ (by rw [xBE]; exact h)]; simp [bs,List.map_set]
theorem xRI (n : Nat) : xDl [AV.int .i64 0] n = xCW (List.replicate n 0) := by
 induction n with
 | zero => rfl
 | succ n ih => simp [xDl,ih,xCW,List.replicate_succ]
theorem xXz (n : Nat) : xDl [AV.int .u8 0] n = bs (List.replicate n 0) := by
 induction n with
 | zero => rfl
 | succ n ih => simp [xDl,ih,bs,List.replicate_succ]
theorem xKu (k : Nat) (l : List Nat) : List.take k (bs l) = bs (l.take k) := by simp [bs,List.map_take]
theorem xKv (k : Nat) (l : List Nat) : List.drop k (bs l) = bs (l.drop k) := by simp [bs,List.map_drop]
theorem xZI {l : List Nat} {k : Nat} (h : k < l.length) : bs (List.take 1 (List.drop k l)) = [.int .u8 (l.getD k 0 : Nat)] := by
 rw [← xKu,← xKv,yBD h]
theorem xWg {l : List Nat} (h : 0 < l.length) : bs (List.take 1 l) = [.int .u8 (l.getD 0 0 : Nat)] := by
 have := xZI h
 rwa [List.drop_zero] at this
theorem xRJ {l : List Nat} {k : Nat} {n : Nat} (h : k < l.length) : bs (List.take k l) ++ (AV.int .u8 n :: bs (List.drop (k + 1) l)) = bs (l.set k n) := by
 rw [← xKu,← xKv,xZH h]
theorem xFd (k : Nat) (l : List Nat) : List.take k (xCW l) = xCW (l.take k) := by simp [xCW,List.map_take]
theorem xFe (k : Nat) (l : List Nat) : List.drop k (xCW l) = xCW (l.drop k) := by simp [xCW,List.map_drop]
theorem xU5 {l : List Nat} {k : Nat} (h : k < l.length) : xCW (List.take 1 (List.drop k l)) = [.int .i64 (l.getD k 0 : Nat)] := by
 rw [← xFd,← xFe,xXy h]
theorem xOG {l : List Nat} (h : 0 < l.length) : xCW (List.take 1 l) = [.int .i64 (l.getD 0 0 : Nat)] := by
 have := xU5 h
 rwa [List.drop_zero] at this
theorem xLP {l : List Nat} {k : Nat} {n : Nat} (h : k < l.length) : xCW (List.take k l) ++ (AV.int .i64 n :: xCW (List.drop (k + 1) l)) = xCW (l.set k n) := by
 rw [← xFd,← xFe,xU4 h]
theorem xKw (d : Nat) (H : Heap) : ∀ l : List Nat,(xCW l).mapM (frz d H) = some (xCW l)
 | [] => rfl
 | n :: l => by
  have h := xKw d H l
  have : xCW (n :: l) = .int .i64 (n : Nat) :: xCW l := rfl
  rw [this,List.mapM_cons,xCV]
  simp [h]
theorem xLQ (l : List Nat) (n t : Nat) : (l.drop n).getD t 0 = l.getD (n + t) 0 := by simp [List.getD,List.getElem?_drop]
theorem xRK (d : Nat) (H : Heap) : ∀ l : List Nat,(bs l).mapM (frz d H) = some (bs l)
 | [] => rfl
 | n :: l => by
  have h := xRK d H l
  have e : frz d H (.int .u8 (n : Nat)) = some (.int .u8 (n : Nat)) := by cases d <;> rfl
  have : bs (n :: l) = .int .u8 (n : Nat) :: bs l := rfl
  rw [this,List.mapM_cons,e]
  simp [h]
theorem xNh (H l : Heap) (k : Nat) : (H ++ l)[H.length + k]? = l[k]? := by
 rw [List.getElem?_append_right (by omega)]; congr 1; omega
theorem yBE (H l : Heap) : (H ++ l)[H.length]? = l[0]? := xNh H l 0
theorem hset (H l : Heap) (k : Nat) (b : Blk) : (H ++ l).set (H.length + k) b = H ++ l.set k b := by
 rw [List.set_append_right _ _ (by omega)]; congr 2; omega
theorem yBF (H l : Heap) (b : Blk) : (H ++ l).set H.length b = H ++ l.set 0 b := hset H l 0 b
end Go.Abs
