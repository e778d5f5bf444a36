/- Lists of numbers as cells; facts on numbers and heaps that the walk uses. -/
import Derived.Test.YtdheandekcpieaaDoorAbsWalk
import Derived.Laws.BitsLemmas
namespace Go.Abs
set_option linter.unusedVariables false
set_option linter.unusedSimpArgs false
def bs (l : List Nat) : List AV := l.map fun (n : Nat) => AV.int .u8 n
abbrev word (z : Bool) (l : List Nat) : AV := .sl z l.length (bs l)
theorem xBJ (l : List Nat) : (bs l).length = l.length := by simp [bs]
theorem yEx {l : List Nat} {k : Nat} (h : k < l.length) : List.take 1 (List.drop k (bs l)) = [.int .u8 (l.getD k 0 : Nat)] := by
 rw [List.drop_eq_getElem_cons (by simpa [bs] using h)]
 simp [bs,List.getD,List.getElem?_eq_getElem h]
theorem yEy {n : Int} (h1 : -9223372036854775808 ≤ n) (h2 : n < 9223372036854775808) : IntKind.i64.wrap n = n := by
 rw [IntKind.wrap_i64]; omega
theorem yFA {n : Nat} (h2 : n < 256) : IntKind.u8.wrap (n : Int) = n := by
 rw [IntKind.wrap_u8]; omega
theorem xIP (n : Nat) : ((no_index (OfNat.ofNat n) : Nat) : Int) = OfNat.ofNat n := rfl
theorem yFB (a b : Nat) : (a : Int) + (b : Int) = ((a + b : Nat) : Int) := by omega
theorem yB6 (a : Nat) : (a : Int) + 1 = ((a + 1 : Nat) : Int) := by omega
theorem yB7 (a b : Nat) : (a : Int).tdiv (b : Int) = ((a / b : Nat) : Int) := by simp [Int.tdiv_eq_ediv_of_nonneg]
theorem yB8 (a b : Nat) : (a : Int).tmod (b : Int) = ((a % b : Nat) : Int) := by simp [Int.tmod_eq_emod_of_nonneg]
def xC6 (l : List Nat) : List AV := l.map fun (n : Nat) => AV.int .i64 n
theorem xCJ (l : List Nat) : (xC6 l).length = l.length := by simp [xC6]
theorem xZJ {l : List Nat} {k : Nat} (h : k < l.length) : List.take 1 (List.drop k (xC6 l)) = [.int .i64 (l.getD k 0 : Nat)] := by
 rw [List.drop_eq_getElem_cons (by simpa [xC6] using h)]
 simp [xC6,List.getD,List.getElem?_eq_getElem h]
theorem xIQ {α : Type} (l : List α) (k : Nat) (x : α) (h : k < l.length) : List.take k l ++ (x :: List.drop (k + 1) l) = l.set k x := (List.set_eq_take_append_cons_drop).trans (if_pos h) |>.symm
theorem xWK {l : List Nat} {k : Nat} {n : Nat} (h : k < l.length) : List.take k (xC6 l) ++ (AV.int .i64 n :: List.drop (k + 1) (xC6 l)) = xC6 (l.set k n) := by
 rw [xIQ _ _ _ (by rw [xCJ]; exact h)]; simp [xC6,List.map_set]
theorem yB9 {l : List Nat} {k : Nat} {n : Nat} (h : k < l.length) : List.take k (bs l) ++ (AV.int .u8 n :: List.drop (k + 1) (bs l)) = bs (l.set k n) := by
 rw [xIQ _ _ _ (by rw [xBJ]; exact h)]; simp [bs,List.map_set]
theorem xUy (n : Nat) : xC1 [AV.int .i64 0] n = xC6 (List.replicate n 0) := by
 induction n with
 | zero => rfl
 | succ n ih => simp [xC1,ih,xC6,List.replicate_succ]
theorem xZK (n : Nat) : xC1 [AV.int .u8 0] n = bs (List.replicate n 0) := by
 induction n with
 | zero => rfl
 | succ n ih => simp [xC1,ih,bs,List.replicate_succ]
theorem xLp (k : Nat) (l : List Nat) : List.take k (bs l) = bs (l.take k) := by simp [bs,List.map_take]
theorem xLq (k : Nat) (l : List Nat) : List.drop k (bs l) = bs (l.drop k) := by simp [bs,List.map_drop]
theorem yCa {l : List Nat} {k : Nat} (h : k < l.length) : bs (List.take 1 (List.drop k l)) = [.int .u8 (l.getD k 0 : Nat)] := by
 rw [← xLp,← xLq,yEx h]
theorem xYd {l : List Nat} (h : 0 < l.length) : bs (List.take 1 l) = [.int .u8 (l.getD 0 0 : Nat)] := by
 have := yCa h
 rwa [List.drop_zero] at this
theorem xUz {l : List Nat} {k : Nat} {n : Nat} (h : k < l.length) : bs (List.take k l) ++ (AV.int .u8 n :: bs (List.drop (k + 1) l)) = bs (l.set k n) := by
 rw [← xLp,← xLq,yB9 h]
theorem xFG (k : Nat) (l : List Nat) : List.take k (xC6 l) = xC6 (l.take k) := by simp [xC6,List.map_take]
theorem xFH (k : Nat) (l : List Nat) : List.drop k (xC6 l) = xC6 (l.drop k) := by simp [xC6,List.map_drop]
theorem xWL {l : List Nat} {k : Nat} (h : k < l.length) : xC6 (List.take 1 (List.drop k l)) = [.int .i64 (l.getD k 0 : Nat)] := by
 rw [← xFG,← xFH,xZJ h]
theorem xQp {l : List Nat} (h : 0 < l.length) : xC6 (List.take 1 l) = [.int .i64 (l.getD 0 0 : Nat)] := by
 have := xWL h
 rwa [List.drop_zero] at this
theorem xND {l : List Nat} {k : Nat} {n : Nat} (h : k < l.length) : xC6 (List.take k l) ++ (AV.int .i64 n :: xC6 (List.drop (k + 1) l)) = xC6 (l.set k n) := by
 rw [← xFG,← xFH,xWK h]
theorem xLr (d : Nat) (H : Heap) : ∀ l : List Nat,(xC6 l).mapM (frz d H) = some (xC6 l)
 | [] => rfl
 | n :: l => by
  have h := xLr d H l
  have : xC6 (n :: l) = .int .i64 (n : Nat) :: xC6 l := rfl
  rw [this,List.mapM_cons,xC4]
  simp [h]
theorem xNE (l : List Nat) (n t : Nat) : (l.drop n).getD t 0 = l.getD (n + t) 0 := by simp [List.getD,List.getElem?_drop]
theorem xUA (d : Nat) (H : Heap) : ∀ l : List Nat,(bs l).mapM (frz d H) = some (bs l)
 | [] => rfl
 | n :: l => by
  have h := xUA d H l
  have e : frz d H (.int .u8 (n : Nat)) = some (.int .u8 (n : Nat)) := by cases d <;> rfl
  have : bs (n :: l) = .int .u8 (n : Nat) :: bs l := rfl
  rw [this,List.mapM_cons,e]
  simp [h]
theorem xNU (H l : Heap) (k : Nat) : (H ++ l)[H.length + k]? = l[k]? := by
 rw [List.getElem?_append_right (by omega)]; congr 1; omega
theorem yEz (H l : Heap) : (H ++ l)[H.length]? = l[0]? := xNU H l 0
theorem xCb (H l : Heap) (k : Nat) (b : Blk) : (H ++ l).set (H.length + k) b = H ++ l.set k b := by
 rw [List.set_append_right _ _ (by omega)]; congr 2; omega
theorem yEA (H l : Heap) (b : Blk) : (H ++ l).set H.length b = H ++ l.set 0 b := xCb H l 0 b
end Go.Abs
