/- Lists of numbers as cells; facts on numbers and heaps that the walk uses. -/
import Derived.Test.YtijmhicopfphnaaDoorAbsWalk
import Derived.Laws.BitsLemmas
namespace Go.Abs
set_option linter.unusedVariables false
set_option linter.unusedSimpArgs false
def bs (l : List Nat) : List AV := l.map fun (n : Nat) => AV.int .u8 n
abbrev word (z : Bool) (l : List Nat) : AV := .sl z l.length (bs l)
theorem xEZ (l : List Nat) : (bs l).length = l.length := by simp [bs]
theorem yFm {l : List Nat} {k : Nat} (h : k < l.length) : List.take 1 (List.drop k (bs l)) = [.int .u8 (l.getD k 0 : Nat)] := by
 rw [List.drop_eq_getElem_cons (by simpa [bs] using h)]
 simp [bs,List.getD,List.getElem?_eq_getElem h]
theorem yFn {n : Int} (h1 : -9223372036854775808 ≤ n) (h2 : n < 9223372036854775808) : IntKind.i64.wrap n = n := by
 rw [IntKind.wrap_i64]; omega
theorem yEY {n : Nat} (h2 : n < 256) : IntKind.u8.wrap (n : Int) = n := by
 rw [IntKind.wrap_u8]; omega
theorem xVz (n : Nat) : ((no_index (OfNat.ofNat n) : Nat) : Int) = OfNat.ofNat n := rfl
theorem yGb (n : Nat) : ((n : Int) < 0) = False := eq_false (by omega)
theorem yGc (a b : Nat) : (a : Int) + (b : Int) = ((a + b : Nat) : Int) := by omega
theorem yDW (a : Nat) : (a : Int) + 1 = ((a + 1 : Nat) : Int) := by omega
theorem yGd {a b : Nat} (h : b ≤ a) : (a : Int) - (b : Int) = ((a - b : Nat) : Int) := by omega
theorem yDX {a : Nat} (h : 1 ≤ a) : (a : Int) - 1 = ((a - 1 : Nat) : Int) := by omega
theorem yDY (a b : Nat) : (a : Int).tdiv (b : Int) = ((a / b : Nat) : Int) := by simp [Int.tdiv_eq_ediv_of_nonneg]
theorem yGe (a b : Nat) : (a : Int) * (b : Int) = ((a * b : Nat) : Int) := by simp
theorem yDg {a b : Nat} (ha : a < 256) (hb : b < 256) : xFo .and .u8 (a : Int) (b : Int) = ((a &&& b : Nat) : Int) := by
 have h1 : (BitVec.ofInt 8 (a : Int)).toNat = a := by simp; omega
 have h2 : (BitVec.ofInt 8 (b : Int)).toNat = b := by simp; omega
 have h3 : a &&& b ≤ a := Nat.and_le_left
 change IntKind.u8.wrap (((BitVec.ofInt 8 (a : Int) &&& BitVec.ofInt 8 (b : Int)).toNat : Nat) : Int) = _
 rw [BitVec.toNat_and,h1,h2]
 exact yEY (by omega)
theorem or8 {a b : Nat} (ha : a < 256) (hb : b < 256) : xFo .or .u8 (a : Int) (b : Int) = ((a ||| b : Nat) : Int) := by
 have h1 : (BitVec.ofInt 8 (a : Int)).toNat = a := by simp; omega
 have h2 : (BitVec.ofInt 8 (b : Int)).toNat = b := by simp; omega
 have h3 : a ||| b < 2 ^ 8 := Nat.or_lt_two_pow (by omega) (by omega)
 change IntKind.u8.wrap (((BitVec.ofInt 8 (a : Int) ||| BitVec.ofInt 8 (b : Int)).toNat : Nat) : Int) = _
 rw [BitVec.toNat_or,h1,h2]
 exact yEY (by omega)
theorem yDZ (a b : Nat) : (a : Int).tmod (b : Int) = ((a % b : Nat) : Int) := by simp [Int.tmod_eq_emod_of_nonneg]
def xEa (l : List Nat) : List AV := l.map fun (n : Nat) => AV.int .i64 n
theorem xDx (l : List Nat) : (xEa l).length = l.length := by simp [xEa]
theorem yB9 {l : List Nat} {k : Nat} (h : k < l.length) : List.take 1 (List.drop k (xEa l)) = [.int .i64 (l.getD k 0 : Nat)] := by
 rw [List.drop_eq_getElem_cons (by simpa [xEa] using h)]
 simp [xEa,List.getD,List.getElem?_eq_getElem h]
theorem xGa {α : Type} (l : List α) (k : Nat) (x : α) (h : k < l.length) : List.take k l ++ (x :: List.drop (k + 1) l) = l.set k x := (List.set_eq_take_append_cons_drop).trans (if_pos h) |>.symm
theorem xZd {l : List Nat} {k : Nat} {n : Nat} (h : k < l.length) : List.take k (xEa l) ++ (AV.int .i64 n :: List.drop (k + 1) (xEa l)) = xEa (l.set k n) := by
 rw [xGa _ _ _ (by rw [xDx]; exact h)]; simp [xEa,List.map_set]
theorem yD0 {l : List Nat} {k : Nat} {n : Nat} (h : k < l.length) : List.take k (bs l) ++ (AV.int .u8 n :: List.drop (k + 1) (bs l)) = bs (l.set k n) := by
 rw [xGa _ _ _ (by rw [xEZ]; exact h)]; simp [bs,List.map_set]
theorem xAc (n : Nat) : xC8 [AV.int .i64 0] n = xEa (List.replicate n 0) := by
 induction n with
 | zero => rfl
 | succ n ih => simp [xC8,ih,xEa,List.replicate_succ]
theorem xVA (n : Nat) : xC8 [AV.int .u8 0] n = bs (List.replicate n 0) := by
 induction n with
 | zero => rfl
 | succ n ih => simp [xC8,ih,bs,List.replicate_succ]
theorem yAl (a b : List Nat) : bs a ++ bs b = bs (a ++ b) := by simp [bs]
theorem xMi (k : Nat) (l : List Nat) : List.take k (bs l) = bs (l.take k) := by simp [bs,List.map_take]
theorem xMj (k : Nat) (l : List Nat) : List.drop k (bs l) = bs (l.drop k) := by simp [bs,List.map_drop]
theorem yD1 {l : List Nat} {k : Nat} (h : k < l.length) : bs (List.take 1 (List.drop k l)) = [.int .u8 (l.getD k 0 : Nat)] := by
 rw [← xMi,← xMj,yFm h]
theorem yAm {l : List Nat} (h : 0 < l.length) : bs (List.take 1 l) = [.int .u8 (l.getD 0 0 : Nat)] := by
 have := yD1 h
 rwa [List.drop_zero] at this
theorem xVB {l : List Nat} {k : Nat} {n : Nat} (h : k < l.length) : bs (List.take k l) ++ (AV.int .u8 n :: bs (List.drop (k + 1) l)) = bs (l.set k n) := by
 rw [← xMi,← xMj,yD0 h]
theorem xGb (k : Nat) (l : List Nat) : List.take k (xEa l) = xEa (l.take k) := by simp [xEa,List.map_take]
theorem xGc (k : Nat) (l : List Nat) : List.drop k (xEa l) = xEa (l.drop k) := by simp [xEa,List.map_drop]
theorem xRF (a b : List Nat) : xEa a ++ xEa b = xEa (a ++ b) := by simp [xEa]
theorem xZe {l : List Nat} {k : Nat} (h : k < l.length) : xEa (List.take 1 (List.drop k l)) = [.int .i64 (l.getD k 0 : Nat)] := by
 rw [← xGb,← xGc,yB9 h]
theorem xRG {l : List Nat} (h : 0 < l.length) : xEa (List.take 1 l) = [.int .i64 (l.getD 0 0 : Nat)] := by
 have := xZe h
 rwa [List.drop_zero] at this
theorem xOv {l : List Nat} {k : Nat} {n : Nat} (h : k < l.length) : xEa (List.take k l) ++ (AV.int .i64 n :: xEa (List.drop (k + 1) l)) = xEa (l.set k n) := by
 rw [← xGb,← xGc,xZd h]
theorem xMk (d : Nat) (H : Heap) : ∀ l : List Nat,(xEa l).mapM (frz d H) = some (xEa l)
 | [] => rfl
 | n :: l => by
  have h := xMk d H l
  have : xEa (n :: l) = .int .i64 (n : Nat) :: xEa l := rfl
  rw [this,List.mapM_cons,xFK]
  simp [h]
theorem yAn (d : Nat) (H : Heap) (l : List Nat) : (bs l).flatMap (bor d H) = [] := by
 induction l with
 | nil => rfl
 | cons n l ih =>
  have : bs (n :: l) = .int .u8 (n : Nat) :: bs l := rfl
  rw [this,List.flatMap_cons,ih,xE1]; rfl
theorem xRH (d : Nat) (H : Heap) (l : List Nat) : (xEa l).flatMap (bor d H) = [] := by
 induction l with
 | nil => rfl
 | cons n l ih =>
  have : xEa (n :: l) = .int .i64 (n : Nat) :: xEa l := rfl
  rw [this,List.flatMap_cons,ih,xE1]; rfl
theorem xOw (l : List Nat) (n t : Nat) : (l.drop n).getD t 0 = l.getD (n + t) 0 := by simp [List.getD,List.getElem?_drop]
theorem xOx {α : Type} (l : List α) (k : Nat) : List.take (l.length - k) (List.drop k l) = List.drop k l := by
 rw [List.take_of_length_le]; simp
theorem xVC (d : Nat) (H : Heap) : ∀ l : List Nat,(bs l).mapM (frz d H) = some (bs l)
 | [] => rfl
 | n :: l => by
  have h := xVC d H l
  have e : frz d H (.int .u8 (n : Nat)) = some (.int .u8 (n : Nat)) := by cases d <;> rfl
  have : bs (n :: l) = .int .u8 (n : Nat) :: bs l := rfl
  rw [this,List.mapM_cons,e]
  simp [h]
theorem xVD (H l : Heap) (k : Nat) : (H ++ l)[H.length + k]? = l[k]? := by
 rw [List.getElem?_append_right (by omega)]; congr 1; omega
theorem yCa (H l : Heap) : (H ++ l)[H.length]? = l[0]? := xVD H l 0
theorem xC9 (H l : Heap) (k : Nat) (b : Blk) : (H ++ l).set (H.length + k) b = H ++ l.set k b := by
 rw [List.set_append_right _ _ (by omega)]; congr 2; omega
theorem yFo (H l : Heap) (k : Nat) (f : Blk → Blk) : (H ++ l).modify (H.length + k) f = H ++ l.modify k f := by
 apply List.ext_getElem?
 intro i
 rw [List.getElem?_modify]
 by_cases h : i < H.length
 ·have h1 : ∀ a : Blk,(if H.length + k = i then f a else a) = a := fun a => if_neg (by omega)
  rw [List.getElem?_append_left h,List.getElem?_append_left h]
  simp only [h1]
  cases H[i]? <;> rfl
 ·rw [List.getElem?_append_right (by omega),List.getElem?_append_right (by omega),List.getElem?_modify]
  have h1 : (H.length + k = i) = (k = i - H.length) := propext ⟨fun h => by omega,fun h => by omega⟩
  simp only [h1]
theorem yCb (H l : Heap) (f : Blk → Blk) : (H ++ l).modify H.length f = H ++ l.modify 0 f := yFo H l 0 f
theorem yCc (H l : Heap) (b : Blk) : (H ++ l).set H.length b = H ++ l.set 0 b := xC9 H l 0 b
theorem yAo (l : List Nat) : (bs l).all xAM = true := xMn (fun _ => rfl) l
theorem xRI (l : List Nat) : (xEa l).all xAM = true := xMn (fun _ => rfl) l
end Go.Abs
