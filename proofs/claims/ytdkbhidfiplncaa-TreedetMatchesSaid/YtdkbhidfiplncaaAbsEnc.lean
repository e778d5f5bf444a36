/- Lists of numbers as cells; facts on numbers and heaps that the walk uses. -/
import Derived.Test.YtdkbhidfiplncaaAbsWalk
import Derived.Laws.BitsLemmas
namespace Go.Abs
set_option linter.unusedVariables false
set_option linter.unusedSimpArgs false
def bs (l : List Nat) : List AV := l.map fun (n : Nat) => AV.int .u8 n
abbrev word (z : Bool) (l : List Nat) : AV := .sl z l.length (bs l)
theorem xCk (l : List Nat) : (bs l).length = l.length := by simp [bs]
theorem yHV {l : List Nat} {k : Nat} (h : k < l.length) : List.take 1 (List.drop k (bs l)) = [.int .u8 (l.getD k 0 : Nat)] := by
 rw [List.drop_eq_getElem_cons (by simpa [bs] using h)]
 simp [bs,List.getD,List.getElem?_eq_getElem h]
theorem yIT {n : Int} (h1 : -9223372036854775808 ≤ n) (h2 : n < 9223372036854775808) : IntKind.i64.wrap n = n := by
 rw [IntKind.wrap_i64]; omega
theorem yIU {n : Nat} (h2 : n < 256) : IntKind.u8.wrap (n : Int) = n := by
 rw [IntKind.wrap_u8]; omega
theorem xWr (n : Nat) : ((no_index (OfNat.ofNat n) : Nat) : Int) = OfNat.ofNat n := rfl
theorem yIV (n : Nat) : ((n : Int) < 0) = False := eq_false (by omega)
theorem yIW (a b : Nat) : (a : Int) + (b : Int) = ((a + b : Nat) : Int) := by omega
theorem yFQ (a : Nat) : (a : Int) + 1 = ((a + 1 : Nat) : Int) := by omega
theorem yIX {a b : Nat} (h : b ≤ a) : (a : Int) - (b : Int) = ((a - b : Nat) : Int) := by omega
theorem yFR {a : Nat} (h : 1 ≤ a) : (a : Int) - 1 = ((a - 1 : Nat) : Int) := by omega
theorem yFS (a b : Nat) : (a : Int).tdiv (b : Int) = ((a / b : Nat) : Int) := by simp [Int.tdiv_eq_ediv_of_nonneg]
theorem yIY (a b : Nat) : (a : Int) * (b : Int) = ((a * b : Nat) : Int) := by simp
theorem yFT (a b : Nat) : (a : Int).tmod (b : Int) = ((a % b : Nat) : Int) := by simp [Int.tmod_eq_emod_of_nonneg]
def xEe (l : List Nat) : List AV := l.map fun (n : Nat) => AV.int .i64 n
theorem xCl (l : List Nat) : (xEe l).length = l.length := by simp [xEe]
theorem yDJ {l : List Nat} {k : Nat} (h : k < l.length) : List.take 1 (List.drop k (xEe l)) = [.int .i64 (l.getD k 0 : Nat)] := by
 rw [List.drop_eq_getElem_cons (by simpa [xEe] using h)]
 simp [xEe,List.getD,List.getElem?_eq_getElem h]
theorem xEN {α : Type} (l : List α) (k : Nat) (x : α) (h : k < l.length) : List.take k l ++ (x :: List.drop (k + 1) l) = l.set k x := (List.set_eq_take_append_cons_drop).trans (if_pos h) |>.symm
theorem yAy {l : List Nat} {k : Nat} {n : Nat} (h : k < l.length) : List.take k (xEe l) ++ (AV.int .i64 n :: List.drop (k + 1) (xEe l)) = xEe (l.set k n) := by
 rw [xEN _ _ _ (by rw [xCl]; exact h)]; simp [xEe,List.map_set]
theorem yFU {l : List Nat} {k : Nat} {n : Nat} (h : k < l.length) : List.take k (bs l) ++ (AV.int .u8 n :: List.drop (k + 1) (bs l)) = bs (l.set k n) := by
 rw [xEN _ _ _ (by rw [xCk]; exact h)]; simp [bs,List.map_set]
theorem xWs (n : Nat) : xCD [AV.int .u8 0] n = bs (List.replicate n 0) := by
 induction n with
 | zero => rfl
 | succ n ih => simp [xCD,ih,bs,List.replicate_succ]
theorem yCv (a b : List Nat) : bs a ++ bs b = bs (a ++ b) := by simp [bs]
theorem xLT (k : Nat) (l : List Nat) : List.take k (bs l) = bs (l.take k) := by simp [bs,List.map_take]
theorem xLU (k : Nat) (l : List Nat) : List.drop k (bs l) = bs (l.drop k) := by simp [bs,List.map_drop]
theorem yFV {l : List Nat} {k : Nat} (h : k < l.length) : bs (List.take 1 (List.drop k l)) = [.int .u8 (l.getD k 0 : Nat)] := by
 rw [← xLT,← xLU,yHV h]
theorem yCw {l : List Nat} (h : 0 < l.length) : bs (List.take 1 l) = [.int .u8 (l.getD 0 0 : Nat)] := by
 have := yFV h
 rwa [List.drop_zero] at this
theorem xWt {l : List Nat} {k : Nat} {n : Nat} (h : k < l.length) : bs (List.take k l) ++ (AV.int .u8 n :: bs (List.drop (k + 1) l)) = bs (l.set k n) := by
 rw [← xLT,← xLU,yFU h]
theorem xEO (k : Nat) (l : List Nat) : List.take k (xEe l) = xEe (l.take k) := by simp [xEe,List.map_take]
theorem xEP (k : Nat) (l : List Nat) : List.drop k (xEe l) = xEe (l.drop k) := by simp [xEe,List.map_drop]
theorem xSx (a b : List Nat) : xEe a ++ xEe b = xEe (a ++ b) := by simp [xEe]
theorem yAz {l : List Nat} {k : Nat} (h : k < l.length) : xEe (List.take 1 (List.drop k l)) = [.int .i64 (l.getD k 0 : Nat)] := by
 rw [← xEO,← xEP,yDJ h]
theorem xSy {l : List Nat} (h : 0 < l.length) : xEe (List.take 1 l) = [.int .i64 (l.getD 0 0 : Nat)] := by
 have := yAz h
 rwa [List.drop_zero] at this
theorem xOq {l : List Nat} {k : Nat} {n : Nat} (h : k < l.length) : xEe (List.take k l) ++ (AV.int .i64 n :: xEe (List.drop (k + 1) l)) = xEe (l.set k n) := by
 rw [← xEO,← xEP,yAy h]
theorem xLV (d : Nat) (H : xAc) : ∀ l : List Nat,(xEe l).mapM (frz d H) = some (xEe l)
 | [] => rfl
 | n :: l => by
  have h := xLV d H l
  have : xEe (n :: l) = .int .i64 (n : Nat) :: xEe l := rfl
  rw [this,List.mapM_cons,xCy]
  simp [h]
theorem yCx (d : Nat) (H : xAc) (l : List Nat) : (bs l).flatMap (bor d H) = [] := by
 induction l with
 | nil => rfl
 | cons n l ih =>
  have : bs (n :: l) = .int .u8 (n : Nat) :: bs l := rfl
  rw [this,List.flatMap_cons,ih,xFA]; rfl
theorem xSz (d : Nat) (H : xAc) (l : List Nat) : (xEe l).flatMap (bor d H) = [] := by
 induction l with
 | nil => rfl
 | cons n l ih =>
  have : xEe (n :: l) = .int .i64 (n : Nat) :: xEe l := rfl
  rw [this,List.flatMap_cons,ih,xFA]; rfl
theorem xOr (l : List Nat) (n t : Nat) : (l.drop n).getD t 0 = l.getD (n + t) 0 := by simp [List.getD,List.getElem?_drop]
theorem xOs {α : Type} (l : List α) (k : Nat) : List.take (l.length - k) (List.drop k l) = List.drop k l := by
 rw [List.take_of_length_le]; simp
theorem xWu (d : Nat) (H : xAc) : ∀ l : List Nat,(bs l).mapM (frz d H) = some (bs l)
 | [] => rfl
 | n :: l => by
  have h := xWu d H l
  have e : frz d H (.int .u8 (n : Nat)) = some (.int .u8 (n : Nat)) := by cases d <;> rfl
  have : bs (n :: l) = .int .u8 (n : Nat) :: bs l := rfl
  rw [this,List.mapM_cons,e]
  simp [h]
theorem xLW (H l : xAc) (k : Nat) : (H ++ l)[H.length + k]? = l[k]? := by
 rw [List.getElem?_append_right (by omega)]; congr 1; omega
theorem xJo (H l : xAc) : (H ++ l)[H.length]? = l[0]? := xLW H l 0
theorem xB8 (H l : xAc) (k : Nat) (b : Blk) : (H ++ l).set (H.length + k) b = H ++ l.set k b := by
 rw [List.set_append_right _ _ (by omega)]; congr 2; omega
theorem yHW (H l : xAc) (k : Nat) (f : Blk → Blk) : (H ++ l).modify (H.length + k) f = H ++ l.modify k f := by
 apply List.ext_getElem?
 intro i
 rw [List.getElem?_modify]
 by_cases h : i < H.length
 ·have h1 : ∀ a : Blk,(if H.length + k = i then f a else a) = a := fun a => if_neg (by omega)
  rw [List.getElem?_append_left h,List.getElem?_append_left h]
  simp only [h1]
  cases H[i]? <;> rfl
 ·rw [List.getElem?_append_right (by omega),List.getElem?_append_right (by omega),List.getElem?_modify]
  have h1 : (H.length + k = i) = (k = i - H.length) := propext ⟨fun h => by omega,fun h => by omega⟩
  simp only [h1]
theorem yDK (H l : xAc) (f : Blk → Blk) : (H ++ l).modify H.length f = H ++ l.modify 0 f := yHW H l 0 f
theorem yDL (H l : xAc) (b : Blk) : (H ++ l).set H.length b = H ++ l.set 0 b := xB8 H l 0 b
theorem yCy (l : List Nat) : (bs l).all xAX = true := xL0 (fun _ => rfl) l
theorem xSA (l : List Nat) : (xEe l).all xAX = true := xL0 (fun _ => rfl) l
end Go.Abs
