/- Lists of numbers as cells; facts on numbers and heaps that the walk uses. -/
import Derived.Test.YtkpbekcgigigkaaDoorAbsWalk
import Derived.Laws.BitsLemmas
namespace Go.Abs
set_option linter.unusedVariables false
set_option linter.unusedSimpArgs false
def bs (l : List Nat) : List AV := l.map fun (n : Nat) => AV.int .u8 n
abbrev xCD (z : Bool) (l : List Nat) : AV := .sl z l.length (bs l)
theorem xDF (l : List Nat) : (bs l).length = l.length := by simp [bs]
theorem xZP {l : List Nat} {k : Nat} (h : k < l.length) : List.take 1 (List.drop k (bs l)) = [.int .u8 (l.getD k 0 : Nat)] := by
  rw [List.drop_eq_getElem_cons (by simpa [bs] using h)]
  simp [bs,List.getD,List.getElem?_eq_getElem h]
theorem yAA {n : Int} (h1 : -9223372036854775808 ≤ n) (h2 : n < 9223372036854775808) : IntKind.i64.wrap n = n := by
  rw [IntKind.wrap_i64]; omega
theorem yAB {n : Nat} (h2 : n < 256) : IntKind.u8.wrap (n : Int) = n := by
  rw [IntKind.wrap_u8]; omega
theorem xRN (n : Nat) : ((no_index (OfNat.ofNat n) : Nat) : Int) = OfNat.ofNat n := rfl
theorem yAC (n : Nat) : ((n : Int) < 0) = False := eq_false (by omega)
theorem yAD (a b : Nat) : (a : Int) + (b : Int) = ((a + b : Nat) : Int) := by omega
theorem xYw (a : Nat) : (a : Int) + 1 = ((a + 1 : Nat) : Int) := by omega
theorem yAE {a b : Nat} (h : b ≤ a) : (a : Int) - (b : Int) = ((a - b : Nat) : Int) := by omega
theorem xYx {a : Nat} (h : 1 ≤ a) : (a : Int) - 1 = ((a - 1 : Nat) : Int) := by omega
theorem xYy (a b : Nat) : (a : Int).tdiv (b : Int) = ((a / b : Nat) : Int) := by simp [Int.tdiv_eq_ediv_of_nonneg]
theorem yAF (a b : Nat) : (a : Int) * (b : Int) = ((a * b : Nat) : Int) := by simp
theorem xYz (a b : Nat) : (a : Int).tmod (b : Int) = ((a % b : Nat) : Int) := by simp [Int.tmod_eq_emod_of_nonneg]
def xBY (l : List Nat) : List AV := l.map fun (n : Nat) => AV.int .i64 n
theorem xCg (l : List Nat) : (xBY l).length = l.length := by simp [xBY]
theorem xWO {l : List Nat} {k : Nat} (h : k < l.length) : List.take 1 (List.drop k (xBY l)) = [.int .i64 (l.getD k 0 : Nat)] := by
  rw [List.drop_eq_getElem_cons (by simpa [xBY] using h)]
  simp [xBY,List.getD,List.getElem?_eq_getElem h]
theorem xEM {α : Type} (l : List α) (k : Nat) (x : α) (h : k < l.length) : List.take k l ++ (x :: List.drop (k + 1) l) = l.set k x := (List.set_eq_take_append_cons_drop).trans (if_pos h) |>.symm
theorem xUv {l : List Nat} {k : Nat} {n : Nat} (h : k < l.length) : List.take k (xBY l) ++ (AV.int .i64 n :: List.drop (k + 1) (xBY l)) = xBY (l.set k n) := by
  rw [xEM _ _ _ (by rw [xCg]; exact h)]; simp [xBY,List.map_set]
theorem xYA {l : List Nat} {k : Nat} {n : Nat} (h : k < l.length) : List.take k (bs l) ++ (AV.int .u8 n :: List.drop (k + 1) (bs l)) = bs (l.set k n) := by
  rw [xEM _ _ _ (by rw [xDF]; exact h)]; simp [bs,List.map_set]
theorem xAb (n : Nat) : xCF [AV.int .i64 0] n = xBY (List.replicate n 0) := by
  induction n with
  | zero => rfl
  | succ n ih => simp [xCF,ih,xBY,List.replicate_succ]
theorem xRO (n : Nat) : xCF [AV.int .u8 0] n = bs (List.replicate n 0) := by
  induction n with
  | zero => rfl
  | succ n ih => simp [xCF,ih,bs,List.replicate_succ]
theorem xVt (a b : List Nat) : bs a ++ bs b = bs (a ++ b) := by simp [bs]
theorem xKI (k : Nat) (l : List Nat) : List.take k (bs l) = bs (l.take k) := by simp [bs,List.map_take]
theorem xKJ (k : Nat) (l : List Nat) : List.drop k (bs l) = bs (l.drop k) := by simp [bs,List.map_drop]
theorem xYB {l : List Nat} {k : Nat} (h : k < l.length) : bs (List.take 1 (List.drop k l)) = [.int .u8 (l.getD k 0 : Nat)] := by
  rw [← xKI,← xKJ,xZP h]
theorem xVu {l : List Nat} (h : 0 < l.length) : bs (List.take 1 l) = [.int .u8 (l.getD 0 0 : Nat)] := by
  have := xYB h
  rwa [List.drop_zero] at this
theorem xRP {l : List Nat} {k : Nat} {n : Nat} (h : k < l.length) : bs (List.take k l) ++ (AV.int .u8 n :: bs (List.drop (k + 1) l)) = bs (l.set k n) := by
  rw [← xKI,← xKJ,xYA h]
theorem xEN (k : Nat) (l : List Nat) : List.take k (xBY l) = xBY (l.take k) := by simp [xBY,List.map_take]
theorem xEO (k : Nat) (l : List Nat) : List.drop k (xBY l) = xBY (l.drop k) := by simp [xBY,List.map_drop]
theorem xOy (a b : List Nat) : xBY a ++ xBY b = xBY (a ++ b) := by simp [xBY]
theorem xUw {l : List Nat} {k : Nat} (h : k < l.length) : xBY (List.take 1 (List.drop k l)) = [.int .i64 (l.getD k 0 : Nat)] := by
  rw [← xEN,← xEO,xWO h]
theorem xOz {l : List Nat} (h : 0 < l.length) : xBY (List.take 1 l) = [.int .i64 (l.getD 0 0 : Nat)] := by
  have := xUw h
  rwa [List.drop_zero] at this
theorem xL3 {l : List Nat} {k : Nat} {n : Nat} (h : k < l.length) : xBY (List.take k l) ++ (AV.int .i64 n :: xBY (List.drop (k + 1) l)) = xBY (l.set k n) := by
  rw [← xEN,← xEO,xUv h]
theorem xKK (d : Nat) (H : Heap) : ∀ l : List Nat,(xBY l).mapM (frz d H) = some (xBY l)
  | [] => rfl
  | n :: l => by
    have h := xKK d H l
    have : xBY (n :: l) = .int .i64 (n : Nat) :: xBY l := rfl
    rw [this,List.mapM_cons,xHo]
    simp [h]
theorem xVv (d : Nat) (H : Heap) (l : List Nat) : (bs l).flatMap (bor d H) = [] := by
  induction l with
  | nil => rfl
  | cons n l ih =>
    have : bs (n :: l) = .int .u8 (n : Nat) :: bs l := rfl
    rw [this,List.flatMap_cons,ih,xFq]; rfl
theorem xOA (d : Nat) (H : Heap) (l : List Nat) : (xBY l).flatMap (bor d H) = [] := by
  induction l with
  | nil => rfl
  | cons n l ih =>
    have : xBY (n :: l) = .int .i64 (n : Nat) :: xBY l := rfl
    rw [this,List.flatMap_cons,ih,xFq]; rfl
theorem xL4 (l : List Nat) (n t : Nat) : (l.drop n).getD t 0 = l.getD (n + t) 0 := by simp [List.getD,List.getElem?_drop]
theorem xL5 {α : Type} (l : List α) (k : Nat) : List.take (l.length - k) (List.drop k l) = List.drop k l := by
  rw [List.take_of_length_le]; simp
theorem xRQ (d : Nat) (H : Heap) : ∀ l : List Nat,(bs l).mapM (frz d H) = some (bs l)
  | [] => rfl
  | n :: l => by
    have h := xRQ d H l
    have e : frz d H (.int .u8 (n : Nat)) = some (.int .u8 (n : Nat)) := by cases d <;> rfl
    have : bs (n :: l) = .int .u8 (n : Nat) :: bs l := rfl
    rw [this,List.mapM_cons,e]
    simp [h]
theorem xQN (H l : Heap) (k : Nat) : (H ++ l)[H.length + k]? = l[k]? := by
  rw [List.getElem?_append_right (by omega)]; congr 1; omega
theorem xUx (H l : Heap) : (H ++ l)[H.length]? = l[0]? := xQN H l 0
theorem xCG (H l : Heap) (k : Nat) (b : Blk) : (H ++ l).set (H.length + k) b = H ++ l.set k b := by
  rw [List.set_append_right _ _ (by omega)]; congr 2; omega
theorem xZQ (H l : Heap) (k : Nat) (f : Blk → Blk) : (H ++ l).modify (H.length + k) f = H ++ l.modify k f := by
  apply List.ext_getElem?
  intro i
  rw [List.getElem?_modify]
  by_cases h : i < H.length
  · have h1 : ∀ a : Blk,(if H.length + k = i then f a else a) = a := fun a => if_neg (by omega)
    rw [List.getElem?_append_left h,List.getElem?_append_left h]
    simp only [h1]
    cases H[i]? <;> rfl
  · rw [List.getElem?_append_right (by omega),List.getElem?_append_right (by omega),List.getElem?_modify]
    have h1 : (H.length + k = i) = (k = i - H.length) := propext ⟨fun h => by omega,fun h => by omega⟩
    simp only [h1]
theorem xWP (H l : Heap) (f : Blk → Blk) : (H ++ l).modify H.length f = H ++ l.modify 0 f := xZQ H l 0 f
theorem xUy (H l : Heap) (b : Blk) : (H ++ l).set H.length b = H ++ l.set 0 b := xCG H l 0 b
theorem xVw (l : List Nat) : (bs l).all xAs = true := xKN (fun _ => rfl) l
theorem xOB (l : List Nat) : (xBY l).all xAs = true := xKN (fun _ => rfl) l
end Go.Abs
