/- Lists of numbers as cells; facts on numbers and heaps that the walk uses. -/
import Derived.Test.YtbfnjdhafgnlnaaDoorAbsWalk
import Derived.Laws.BitsLemmas
namespace Go.Abs
set_option linter.unusedVariables false
set_option linter.unusedSimpArgs false
def bs (l : List Nat) : List AV := l.map fun (n : Nat) => AV.int .u8 n
abbrev word (z : Bool) (l : List Nat) : AV := .sl z l.length (bs l)
theorem xAj (l : List Nat) : (bs l).length = l.length := by simp [bs]
theorem xY2 {l : List Nat} {k : Nat} (h : k < l.length) : List.take 1 (List.drop k (bs l)) = [.int .u8 (l.getD k 0 : Nat)] := by
  rw [List.drop_eq_getElem_cons (by simpa [bs] using h)]
  simp [bs,List.getD,List.getElem?_eq_getElem h]
theorem xDM {n : Int} (h1 : -9223372036854775808 ≤ n) (h2 : n < 9223372036854775808) : IntKind.i64.wrap n = n := by
  rw [IntKind.wrap_i64]; omega
theorem xYJ {n : Nat} (h2 : n < 256) : IntKind.u8.wrap (n : Int) = n := by
  rw [IntKind.wrap_u8]; omega
theorem xC8 (n : Nat) : ((no_index (OfNat.ofNat n) : Nat) : Int) = OfNat.ofNat n := rfl
theorem xX6 (n : Nat) : ((n : Int) < 0) = False := eq_false (by omega)
theorem xYK (a b : Nat) : (a : Int) + (b : Int) = ((a + b : Nat) : Int) := by omega
theorem xC9 (a : Nat) : (a : Int) + 1 = ((a + 1 : Nat) : Int) := by omega
theorem xZJ {a b : Nat} (h : b ≤ a) : (a : Int) - (b : Int) = ((a - b : Nat) : Int) := by omega
theorem xSL {a : Nat} (h : 1 ≤ a) : (a : Int) - 1 = ((a - 1 : Nat) : Int) := by omega
theorem xWL (a b : Nat) : (a : Int).tdiv (b : Int) = ((a / b : Nat) : Int) := by simp [Int.tdiv_eq_ediv_of_nonneg]
theorem xZK (a b : Nat) : (a : Int) * (b : Int) = ((a * b : Nat) : Int) := by simp
theorem xY3 {a b : Nat} (ha : a < 256) (hb : b < 256) : xF2 .and .u8 (a : Int) (b : Int) = ((a &&& b : Nat) : Int) := by
  have h1 : (BitVec.ofInt 8 (a : Int)).toNat = a := by simp; omega
  have h2 : (BitVec.ofInt 8 (b : Int)).toNat = b := by simp; omega
  have h3 : a &&& b ≤ a := Nat.and_le_left
  change IntKind.u8.wrap (((BitVec.ofInt 8 (a : Int) &&& BitVec.ofInt 8 (b : Int)).toNat : Nat) : Int) = _
  rw [BitVec.toNat_and,h1,h2]
  exact xYJ (by omega)
theorem or8 {a b : Nat} (ha : a < 256) (hb : b < 256) : xF2 .or .u8 (a : Int) (b : Int) = ((a ||| b : Nat) : Int) := by
  have h1 : (BitVec.ofInt 8 (a : Int)).toNat = a := by simp; omega
  have h2 : (BitVec.ofInt 8 (b : Int)).toNat = b := by simp; omega
  have h3 : a ||| b < 2 ^ 8 := Nat.or_lt_two_pow (by omega) (by omega)
  change IntKind.u8.wrap (((BitVec.ofInt 8 (a : Int) ||| BitVec.ofInt 8 (b : Int)).toNat : Nat) : Int) = _
  rw [BitVec.toNat_or,h1,h2]
  exact xYJ (by omega)
theorem xWM (a b : Nat) : (a : Int).tmod (b : Int) = ((a % b : Nat) : Int) := by simp [Int.tmod_eq_emod_of_nonneg]
def xD4 (l : List Nat) : List AV := l.map fun (n : Nat) => AV.int .i64 n
theorem xAc (l : List Nat) : (xD4 l).length = l.length := by simp [xD4]
theorem xWN {l : List Nat} {k : Nat} (h : k < l.length) : List.take 1 (List.drop k (xD4 l)) = [.int .i64 (l.getD k 0 : Nat)] := by
  rw [List.drop_eq_getElem_cons (by simpa [xD4] using h)]
  simp [xD4,List.getD,List.getElem?_eq_getElem h]
theorem xGK {α : Type} (l : List α) (k : Nat) (x : α) (h : k < l.length) : List.take k l ++ (x :: List.drop (k + 1) l) = l.set k x := (List.set_eq_take_append_cons_drop).trans (if_pos h) |>.symm
theorem xUS {l : List Nat} {k : Nat} {n : Nat} (h : k < l.length) : List.take k (xD4 l) ++ (AV.int .i64 n :: List.drop (k + 1) (xD4 l)) = xD4 (l.set k n) := by
  rw [xGK _ _ _ (by rw [xAc]; exact h)]; simp [xD4,List.map_set]
theorem xX7 {l : List Nat} {k : Nat} {n : Nat} (h : k < l.length) : List.take k (bs l) ++ (AV.int .u8 n :: List.drop (k + 1) (bs l)) = bs (l.set k n) := by
  rw [xGK _ _ _ (by rw [xAj]; exact h)]; simp [bs,List.map_set]
theorem xB0 (n : Nat) : xEo [AV.int .i64 0] n = xD4 (List.replicate n 0) := by
  induction n with
  | zero => rfl
  | succ n ih => simp [xEo,ih,xD4,List.replicate_succ]
theorem xSM (n : Nat) : xEo [AV.int .u8 0] n = bs (List.replicate n 0) := by
  induction n with
  | zero => rfl
  | succ n ih => simp [xEo,ih,bs,List.replicate_succ]
theorem xVK (a b : List Nat) : bs a ++ bs b = bs (a ++ b) := by simp [bs]
theorem xFD (k : Nat) (l : List Nat) : List.take k (bs l) = bs (l.take k) := by simp [bs,List.map_take]
theorem xFE (k : Nat) (l : List Nat) : List.drop k (bs l) = bs (l.drop k) := by simp [bs,List.map_drop]
theorem xX8 {l : List Nat} {k : Nat} (h : k < l.length) : bs (List.take 1 (List.drop k l)) = [.int .u8 (l.getD k 0 : Nat)] := by
  rw [← xFD,← xFE,xY2 h]
theorem xKU {l : List Nat} (h : 0 < l.length) : bs (List.take 1 l) = [.int .u8 (l.getD 0 0 : Nat)] := by
  have := xX8 h
  rwa [List.drop_zero] at this
theorem xSN {l : List Nat} {k : Nat} {n : Nat} (h : k < l.length) : bs (List.take k l) ++ (AV.int .u8 n :: bs (List.drop (k + 1) l)) = bs (l.set k n) := by
  rw [← xFD,← xFE,xX7 h]
theorem xC5 (k : Nat) (l : List Nat) : List.take k (xD4 l) = xD4 (l.take k) := by simp [xD4,List.map_take]
theorem xDN (k : Nat) (l : List Nat) : List.drop k (xD4 l) = xD4 (l.drop k) := by simp [xD4,List.map_drop]
theorem xPU (a b : List Nat) : xD4 a ++ xD4 b = xD4 (a ++ b) := by simp [xD4]
theorem xUT {l : List Nat} {k : Nat} (h : k < l.length) : xD4 (List.take 1 (List.drop k l)) = [.int .i64 (l.getD k 0 : Nat)] := by
  rw [← xC5,← xDN,xWN h]
theorem xFW {l : List Nat} (h : 0 < l.length) : xD4 (List.take 1 l) = [.int .i64 (l.getD 0 0 : Nat)] := by
  have := xUT h
  rwa [List.drop_zero] at this
theorem xNy {l : List Nat} {k : Nat} {n : Nat} (h : k < l.length) : xD4 (List.take k l) ++ (AV.int .i64 n :: xD4 (List.drop (k + 1) l)) = xD4 (l.set k n) := by
  rw [← xC5,← xDN,xUS h]
theorem xIc (d : Nat) (H : Heap) : ∀ l : List Nat,(xD4 l).mapM (frz d H) = some (xD4 l)
  | [] => rfl
  | n :: l => by
    have h := xIc d H l
    have : xD4 (n :: l) = .int .i64 (n : Nat) :: xD4 l := rfl
    rw [this,List.mapM_cons,xAO]
    simp [h]
theorem xVL (d : Nat) (H : Heap) (l : List Nat) : (bs l).flatMap (bor d H) = [] := by
  induction l with
  | nil => rfl
  | cons n l ih =>
    have : bs (n :: l) = .int .u8 (n : Nat) :: bs l := rfl
    rw [this,List.flatMap_cons,ih,xA4]; rfl
theorem xPV (d : Nat) (H : Heap) (l : List Nat) : (xD4 l).flatMap (bor d H) = [] := by
  induction l with
  | nil => rfl
  | cons n l ih =>
    have : xD4 (n :: l) = .int .i64 (n : Nat) :: xD4 l := rfl
    rw [this,List.flatMap_cons,ih,xA4]; rfl
theorem xCf (l : List Nat) (n t : Nat) : (l.drop n).getD t 0 = l.getD (n + t) 0 := by simp [List.getD,List.getElem?_drop]
theorem xNz {α : Type} (l : List α) (k : Nat) : List.take (l.length - k) (List.drop k l) = List.drop k l := by
  rw [List.take_of_length_le]; simp
theorem xSO (d : Nat) (H : Heap) : ∀ l : List Nat,(bs l).mapM (frz d H) = some (bs l)
  | [] => rfl
  | n :: l => by
    have h := xSO d H l
    have e : frz d H (.int .u8 (n : Nat)) = some (.int .u8 (n : Nat)) := by cases d <;> rfl
    have : bs (n :: l) = .int .u8 (n : Nat) :: bs l := rfl
    rw [this,List.mapM_cons,e]
    simp [h]
theorem xRC (H l : Heap) (k : Nat) : (H ++ l)[H.length + k]? = l[k]? := by
  rw [List.getElem?_append_right (by omega)]; congr 1; omega
theorem xEE (H l : Heap) : (H ++ l)[H.length]? = l[0]? := xRC H l 0
theorem xEF (H l : Heap) (k : Nat) (b : Blk) : (H ++ l).set (H.length + k) b = H ++ l.set k b := by
  rw [List.set_append_right _ _ (by omega)]; congr 2; omega
theorem xY4 (H l : Heap) (k : Nat) (f : Blk → Blk) : (H ++ l).modify (H.length + k) f = H ++ l.modify k f := by
  apply List.ext_getElem?
  intro i
  rw [List.getElem?_modify]
  by_cases h : i < H.length
  · have h1 : ∀ a : Blk,(if H.length + k = i then f a else a) = a := fun a => if_neg (by omega)
    rw [List.getElem?_append_left h,List.getElem?_append_left h]
    simp only [h1]
    cases H[i]? <;> rfl
  · rw [List.getElem?_append_right (by omega),List.getElem?_append_right (by omega),List.getElem?_modify]
    have h1 : (H.length + k = i) = (k = i - H.length) := propext ⟨fun h => by omega,fun h => by omega⟩
    simp only [h1]
theorem xWO (H l : Heap) (f : Blk → Blk) : (H ++ l).modify H.length f = H ++ l.modify 0 f := xY4 H l 0 f
theorem xEP (H l : Heap) (b : Blk) : (H ++ l).set H.length b = H ++ l.set 0 b := xEF H l 0 b
theorem xVM (l : List Nat) : (bs l).all xB3 = true := xL8 (fun _ => rfl) l
theorem xPW (l : List Nat) : (xD4 l).all xB3 = true := xL8 (fun _ => rfl) l
end Go.Abs
