/- Lists of numbers as cells; facts on numbers and heaps that the walk uses. -/
import Derived.Test.YtkpbekcgigigkaaDoorAbsWalk
import Derived.Laws.BitsLemmas
namespace Go.Abs
set_option linter.unusedVariables false
set_option linter.unusedSimpArgs false
def bs (l : List Nat) : List AV := l.map fun (n : Nat) => AV.int .u8 n
abbrev xBf (z : Bool) (l : List Nat) : AV := .sl z l.length (bs l)
theorem xBC (l : List Nat) : (bs l).length = l.length := by simp [bs]
theorem yDr {l : List Nat} {k : Nat} (h : k < l.length) : List.take 1 (List.drop k (bs l)) = [.int .u8 (l.getD k 0 : Nat)] := by
  rw [List.drop_eq_getElem_cons (by simpa [bs] using h)]
  simp [bs,List.getD,List.getElem?_eq_getElem h]
theorem yDs {n : Int} (h1 : -9223372036854775808 ≤ n) (h2 : n < 9223372036854775808) : IntKind.i64.wrap n = n := by
  rw [IntKind.wrap_i64]; omega
theorem yBj {n : Nat} (h2 : n < 256) : IntKind.u8.wrap (n : Int) = n := by
  rw [IntKind.wrap_u8]; omega
theorem xUt (n : Nat) : ((no_index (OfNat.ofNat n) : Nat) : Int) = OfNat.ofNat n := rfl
theorem yEq (n : Nat) : ((n : Int) < 0) = False := eq_false (by omega)
theorem yB3 (a b : Nat) : (a : Int) + (b : Int) = ((a + b : Nat) : Int) := by omega
theorem yB4 (a : Nat) : (a : Int) + 1 = ((a + 1 : Nat) : Int) := by omega
theorem yEr {a b : Nat} (h : b ≤ a) : (a : Int) - (b : Int) = ((a - b : Nat) : Int) := by omega
theorem yB5 {a : Nat} (h : 1 ≤ a) : (a : Int) - 1 = ((a - 1 : Nat) : Int) := by omega
theorem yB6 (a b : Nat) : (a : Int).tdiv (b : Int) = ((a / b : Nat) : Int) := by simp [Int.tdiv_eq_ediv_of_nonneg]
theorem yDt (a b : Nat) : (a : Int) * (b : Int) = ((a * b : Nat) : Int) := by simp
theorem or8 {a b : Nat} (ha : a < 256) (hb : b < 256) : xGT .or .u8 (a : Int) (b : Int) = ((a ||| b : Nat) : Int) := by
  have h1 : (BitVec.ofInt 8 (a : Int)).toNat = a := by simp; omega
  have h2 : (BitVec.ofInt 8 (b : Int)).toNat = b := by simp; omega
  have h3 : a ||| b < 2 ^ 8 := Nat.or_lt_two_pow (by omega) (by omega)
  change IntKind.u8.wrap (((BitVec.ofInt 8 (a : Int) ||| BitVec.ofInt 8 (b : Int)).toNat : Nat) : Int) = _
  rw [BitVec.toNat_or,h1,h2]
  exact yBj (by omega)
theorem yB7 (a b : Nat) : (a : Int).tmod (b : Int) = ((a % b : Nat) : Int) := by simp [Int.tmod_eq_emod_of_nonneg]
def xBp (l : List Nat) : List AV := l.map fun (n : Nat) => AV.int .i64 n
theorem xBl (l : List Nat) : (xBp l).length = l.length := by simp [xBp]
theorem xZ0 {l : List Nat} {k : Nat} (h : k < l.length) : List.take 1 (List.drop k (xBp l)) = [.int .i64 (l.getD k 0 : Nat)] := by
  rw [List.drop_eq_getElem_cons (by simpa [xBp] using h)]
  simp [xBp,List.getD,List.getElem?_eq_getElem h]
theorem xDt {α : Type} (l : List α) (k : Nat) (x : α) (h : k < l.length) : List.take k l ++ (x :: List.drop (k + 1) l) = l.set k x := (List.set_eq_take_append_cons_drop).trans (if_pos h) |>.symm
theorem xXE {l : List Nat} {k : Nat} {n : Nat} (h : k < l.length) : List.take k (xBp l) ++ (AV.int .i64 n :: List.drop (k + 1) (xBp l)) = xBp (l.set k n) := by
  rw [xDt _ _ _ (by rw [xBl]; exact h)]; simp [xBp,List.map_set]
theorem yB8 {l : List Nat} {k : Nat} {n : Nat} (h : k < l.length) : List.take k (bs l) ++ (AV.int .u8 n :: List.drop (k + 1) (bs l)) = bs (l.set k n) := by
  rw [xDt _ _ _ (by rw [xBC]; exact h)]; simp [bs,List.map_set]
theorem xAa (n : Nat) : xC6 [AV.int .i64 0] n = xBp (List.replicate n 0) := by
  induction n with
  | zero => rfl
  | succ n ih => simp [xC6,ih,xBp,List.replicate_succ]
theorem xUu (n : Nat) : xC6 [AV.int .u8 0] n = bs (List.replicate n 0) := by
  induction n with
  | zero => rfl
  | succ n ih => simp [xC6,ih,bs,List.replicate_succ]
theorem xUv (a b : List Nat) : bs (a ++ b) = bs a ++ bs b := by simp [bs]
theorem xYE (a b : List Nat) : bs a ++ bs b = bs (a ++ b) := by simp [bs]
theorem xLE (k : Nat) (l : List Nat) : List.take k (bs l) = bs (l.take k) := by simp [bs,List.map_take]
theorem xLF (k : Nat) (l : List Nat) : List.drop k (bs l) = bs (l.drop k) := by simp [bs,List.map_drop]
theorem yB9 {l : List Nat} {k : Nat} (h : k < l.length) : bs (List.take 1 (List.drop k l)) = [.int .u8 (l.getD k 0 : Nat)] := by
  rw [← xLE,← xLF,yDr h]
theorem xYF {l : List Nat} (h : 0 < l.length) : bs (List.take 1 l) = [.int .u8 (l.getD 0 0 : Nat)] := by
  have := yB9 h
  rwa [List.drop_zero] at this
theorem xUw {l : List Nat} {k : Nat} {n : Nat} (h : k < l.length) : bs (List.take k l) ++ (AV.int .u8 n :: bs (List.drop (k + 1) l)) = bs (l.set k n) := by
  rw [← xLE,← xLF,yB8 h]
theorem xFo (k : Nat) (l : List Nat) : List.take k (xBp l) = xBp (l.take k) := by simp [xBp,List.map_take]
theorem xFp (k : Nat) (l : List Nat) : List.drop k (xBp l) = xBp (l.drop k) := by simp [xBp,List.map_drop]
theorem xQz (a b : List Nat) : xBp a ++ xBp b = xBp (a ++ b) := by simp [xBp]
theorem xXF {l : List Nat} {k : Nat} (h : k < l.length) : xBp (List.take 1 (List.drop k l)) = [.int .i64 (l.getD k 0 : Nat)] := by
  rw [← xFo,← xFp,xZ0 h]
theorem xQA {l : List Nat} (h : 0 < l.length) : xBp (List.take 1 l) = [.int .i64 (l.getD 0 0 : Nat)] := by
  have := xXF h
  rwa [List.drop_zero] at this
theorem xNz {l : List Nat} {k : Nat} {n : Nat} (h : k < l.length) : xBp (List.take k l) ++ (AV.int .i64 n :: xBp (List.drop (k + 1) l)) = xBp (l.set k n) := by
  rw [← xFo,← xFp,xXE h]
theorem xLG (d : Nat) (H : Heap) : ∀ l : List Nat,(xBp l).mapM (frz d H) = some (xBp l)
  | [] => rfl
  | n :: l => by
    have h := xLG d H l
    have : xBp (n :: l) = .int .i64 (n : Nat) :: xBp l := rfl
    rw [this,List.mapM_cons,xIa]
    simp [h]
theorem xYG (d : Nat) (H : Heap) (l : List Nat) : (bs l).flatMap (bor d H) = [] := by
  induction l with
  | nil => rfl
  | cons n l ih =>
    have : bs (n :: l) = .int .u8 (n : Nat) :: bs l := rfl
    rw [this,List.flatMap_cons,ih,xF1]; rfl
theorem xQB (d : Nat) (H : Heap) (l : List Nat) : (xBp l).flatMap (bor d H) = [] := by
  induction l with
  | nil => rfl
  | cons n l ih =>
    have : xBp (n :: l) = .int .i64 (n : Nat) :: xBp l := rfl
    rw [this,List.flatMap_cons,ih,xF1]; rfl
theorem xNA (l : List Nat) (n t : Nat) : (l.drop n).getD t 0 = l.getD (n + t) 0 := by simp [List.getD,List.getElem?_drop]
theorem xNB {α : Type} (l : List α) (k : Nat) : List.take (l.length - k) (List.drop k l) = List.drop k l := by
  rw [List.take_of_length_le]; simp
theorem xUx (d : Nat) (H : Heap) : ∀ l : List Nat,(bs l).mapM (frz d H) = some (bs l)
  | [] => rfl
  | n :: l => by
    have h := xUx d H l
    have e : frz d H (.int .u8 (n : Nat)) = some (.int .u8 (n : Nat)) := by cases d <;> rfl
    have : bs (n :: l) = .int .u8 (n : Nat) :: bs l := rfl
    rw [this,List.mapM_cons,e]
    simp [h]
theorem xEN {z : Bool} {n : Nat} {l : List Nat} (h : l.length = n) : AV.sl z n (bs l) = xBf z l := by subst h; rfl
theorem xS8 (H l : Heap) (k : Nat) : (H ++ l)[H.length + k]? = l[k]? := by
  rw [List.getElem?_append_right (by omega)]; congr 1; omega
theorem xXG (H l : Heap) : (H ++ l)[H.length]? = l[0]? := xS8 H l 0
theorem xDh (H l : Heap) (k : Nat) (b : Blk) : (H ++ l).set (H.length + k) b = H ++ l.set k b := by
  rw [List.set_append_right _ _ (by omega)]; congr 2; omega
theorem yCa (H l : Heap) (k : Nat) (f : Blk → Blk) : (H ++ l).modify (H.length + k) f = H ++ l.modify k f := by
  apply List.ext_getElem?
  intro i
  rw [List.getElem?_modify]
  by_cases h : i < H.length
  · have h1 : ∀ a : Blk,(if H.length + k = i then f a else a) = a := fun a => if_neg (by omega)
    rw [List.getElem?_append_left h,List.getElem?_append_left h]
    simp only [h1]
    cases H[i]? <;> rfl
  · rw [List.getElem?_append_right (by omega),List.getElem?_append_right (by omega),List.getElem?_modify]
    have h1 : (H.length + k = i) = (k = i - H.length) := propext ⟨fun h => by omega,fun h => by omega⟩
    simp only [h1]
theorem xZ1 (H l : Heap) (f : Blk → Blk) : (H ++ l).modify H.length f = H ++ l.modify 0 f := yCa H l 0 f
theorem xXH (H l : Heap) (b : Blk) : (H ++ l).set H.length b = H ++ l.set 0 b := xDh H l 0 b
theorem xYH (l : List Nat) : (bs l).all xAC = true := xLL (fun _ => rfl) l
theorem xQC (l : List Nat) : (xBp l).all xAC = true := xLL (fun _ => rfl) l
end Go.Abs
