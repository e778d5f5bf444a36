/- Lists of numbers as cells; facts on numbers and heaps that the walk uses. -/
import Derived.Test.YtdheandekcpieaaDoorAbsWalk
import Derived.Laws.BitsLemmas
namespace Go.Abs
set_option linter.unusedVariables false
set_option linter.unusedSimpArgs false
def bs (l : List Nat) : List AV := l.map fun (n : Nat) => AV.int .u8 n
abbrev word (z : Bool) (l : List Nat) : AV := .sl z l.length (bs l)
theorem xBL (l : List Nat) : (bs l).length = l.length := by simp [bs]
theorem yBp {l : List Nat} {k : Nat} (h : k < l.length) : List.take 1 (List.drop k (bs l)) = [.int .u8 (l.getD k 0 : Nat)] := by
 rw [List.drop_eq_getElem_cons (by simpa [bs] using h)]
 simp [bs,List.getD,List.getElem?_eq_getElem h]
theorem yBq {n : Int} (h1 : -9223372036854775808 ≤ n) (h2 : n < 9223372036854775808) : IntKind.i64.wrap n = n := by
 rw [IntKind.wrap_i64]; omega
theorem yCU {n : Nat} (h2 : n < 256) : IntKind.u8.wrap (n : Int) = n := by
 rw [IntKind.wrap_u8]; omega
theorem xHS (n : Nat) : ((no_index (OfNat.ofNat n) : Nat) : Int) = OfNat.ofNat n := rfl
theorem yCV (a b : Nat) : (a : Int) + (b : Int) = ((a + b : Nat) : Int) := by omega
theorem xZQ (a : Nat) : (a : Int) + 1 = ((a + 1 : Nat) : Int) := by omega
theorem xZR (a b : Nat) : (a : Int).tdiv (b : Int) = ((a / b : Nat) : Int) := by simp [Int.tdiv_eq_ediv_of_nonneg]
theorem xZS (a b : Nat) : (a : Int).tmod (b : Int) = ((a % b : Nat) : Int) := by simp [Int.tmod_eq_emod_of_nonneg]
def xDb (l : List Nat) : List AV := l.map fun (n : Nat) => AV.int .i64 n
theorem xCQ (l : List Nat) : (xDb l).length = l.length := by simp [xDb]
theorem xXZ {l : List Nat} {k : Nat} (h : k < l.length) : List.take 1 (List.drop k (xDb l)) = [.int .i64 (l.getD k 0 : Nat)] := by
 rw [List.drop_eq_getElem_cons (by simpa [xDb] using h)]
 simp [xDb,List.getD,List.getElem?_eq_getElem h]
theorem xHT {α : Type} (l : List α) (k : Nat) (x : α) (h : k < l.length) : List.take k l ++ (x :: List.drop (k + 1) l) = l.set k x := (List.set_eq_take_append_cons_drop).trans (if_pos h) |>.symm
theorem xVy {l : List Nat} {k : Nat} {n : Nat} (h : k < l.length) : List.take k (xDb l) ++ (AV.int .i64 n :: List.drop (k + 1) (xDb l)) = xDb (l.set k n) := by
 rw [xHT _ _ _ (by rw [xCQ]; exact h)]; simp [xDb,List.map_set]
theorem xZT {l : List Nat} {k : Nat} {n : Nat} (h : k < l.length) : List.take k (bs l) ++ (AV.int .u8 n :: List.drop (k + 1) (bs l)) = bs (l.set k n) := by
 rw [xHT _ _ _ (by rw [xBL]; exact h)]; simp [bs,List.map_set]
theorem xSp (n : Nat) : xDP [AV.int .i64 0] n = xDb (List.replicate n 0) := by
 induction n with
 | zero => rfl
 | succ n ih => simp [xDP,ih,xDb,List.replicate_succ]
theorem xX0 (n : Nat) : xDP [AV.int .u8 0] n = bs (List.replicate n 0) := by
 induction n with
 | zero => rfl
 | succ n ih => simp [xDP,ih,bs,List.replicate_succ]
theorem xKY (k : Nat) (l : List Nat) : List.take k (bs l) = bs (l.take k) := by simp [bs,List.map_take]
theorem xKZ (k : Nat) (l : List Nat) : List.drop k (bs l) = bs (l.drop k) := by simp [bs,List.map_drop]
theorem xZU {l : List Nat} {k : Nat} (h : k < l.length) : bs (List.take 1 (List.drop k l)) = [.int .u8 (l.getD k 0 : Nat)] := by
 rw [← xKY,← xKZ,yBp h]
theorem xWE {l : List Nat} (h : 0 < l.length) : bs (List.take 1 l) = [.int .u8 (l.getD 0 0 : Nat)] := by
 have := xZU h
 rwa [List.drop_zero] at this
theorem xSq {l : List Nat} {k : Nat} {n : Nat} (h : k < l.length) : bs (List.take k l) ++ (AV.int .u8 n :: bs (List.drop (k + 1) l)) = bs (l.set k n) := by
 rw [← xKY,← xKZ,xZT h]
theorem xFw (k : Nat) (l : List Nat) : List.take k (xDb l) = xDb (l.take k) := by simp [xDb,List.map_take]
theorem xFx (k : Nat) (l : List Nat) : List.drop k (xDb l) = xDb (l.drop k) := by simp [xDb,List.map_drop]
theorem xVz {l : List Nat} {k : Nat} (h : k < l.length) : xDb (List.take 1 (List.drop k l)) = [.int .i64 (l.getD k 0 : Nat)] := by
 rw [← xFw,← xFx,xXZ h]
theorem xPm {l : List Nat} (h : 0 < l.length) : xDb (List.take 1 l) = [.int .i64 (l.getD 0 0 : Nat)] := by
 have := xVz h
 rwa [List.drop_zero] at this
theorem xMn {l : List Nat} {k : Nat} {n : Nat} (h : k < l.length) : xDb (List.take k l) ++ (AV.int .i64 n :: xDb (List.drop (k + 1) l)) = xDb (l.set k n) := by
 rw [← xFw,← xFx,xVy h]
theorem xK0 (d : Nat) (H : Heap) : ∀ l : List Nat,(xDb l).mapM (frz d H) = some (xDb l)
 | [] => rfl
 | n :: l => by
  have h := xK0 d H l
  have : xDb (n :: l) = .int .i64 (n : Nat) :: xDb l := rfl
  rw [this,List.mapM_cons,xDI]
  simp [h]
theorem xMo (l : List Nat) (n t : Nat) : (l.drop n).getD t 0 = l.getD (n + t) 0 := by simp [List.getD,List.getElem?_drop]
theorem xSr (d : Nat) (H : Heap) : ∀ l : List Nat,(bs l).mapM (frz d H) = some (bs l)
 | [] => rfl
 | n :: l => by
  have h := xSr d H l
  have e : frz d H (.int .u8 (n : Nat)) = some (.int .u8 (n : Nat)) := by cases d <;> rfl
  have : bs (n :: l) = .int .u8 (n : Nat) :: bs l := rfl
  rw [this,List.mapM_cons,e]
  simp [h]
theorem xNO (H l : Heap) (k : Nat) : (H ++ l)[H.length + k]? = l[k]? := by
 rw [List.getElem?_append_right (by omega)]; congr 1; omega
theorem yBr (H l : Heap) : (H ++ l)[H.length]? = l[0]? := xNO H l 0
theorem xCm (H l : Heap) (k : Nat) (b : Blk) : (H ++ l).set (H.length + k) b = H ++ l.set k b := by
 rw [List.set_append_right _ _ (by omega)]; congr 2; omega
theorem yBs (H l : Heap) (b : Blk) : (H ++ l).set H.length b = H ++ l.set 0 b := xCm H l 0 b
end Go.Abs
