/- Lists of numbers as cells; facts on numbers and heaps that the walk uses. -/
import Derived.Test.YtijmhicopfphnaaDoorAbsWalk
import Derived.Laws.BitsLemmas
namespace Go.Abs
set_option linter.unusedVariables false
set_option linter.unusedSimpArgs false
def bs (l : List Nat) : List AV := l.map fun (n : Nat) => AV.int .u8 n
abbrev word (z : Bool) (l : List Nat) : AV := .sl z l.length (bs l)
theorem xAn (l : List Nat) : (bs l).length = l.length := by simp [bs]
theorem yGh {l : List Nat} {k : Nat} (h : k < l.length) : List.take 1 (List.drop k (bs l)) = [.int .u8 (l.getD k 0 : Nat)] := by
 rw [List.drop_eq_getElem_cons (by simpa [bs] using h)]
 simp [bs,List.getD,List.getElem?_eq_getElem h]
theorem xLs {n : Int} (h1 : -9223372036854775808 ≤ n) (h2 : n < 9223372036854775808) : IntKind.i64.wrap n = n := by
 rw [IntKind.wrap_i64]; omega
theorem xOH {n : Nat} (h2 : n < 256) : IntKind.u8.wrap (n : Int) = n := by
 rw [IntKind.wrap_u8]; omega
theorem xGs (n : Nat) : ((no_index (OfNat.ofNat n) : Nat) : Int) = OfNat.ofNat n := rfl
theorem xP7 (n : Nat) : ((n : Int) < 0) = False := eq_false (by omega)
theorem xOI (a b : Nat) : (a : Int) + (b : Int) = ((a + b : Nat) : Int) := by omega
theorem xJF (a : Nat) : (a : Int) + 1 = ((a + 1 : Nat) : Int) := by omega
theorem xP8 {a b : Nat} (h : b ≤ a) : (a : Int) - (b : Int) = ((a - b : Nat) : Int) := by omega
theorem xKu {a : Nat} (h : 1 ≤ a) : (a : Int) - 1 = ((a - 1 : Nat) : Int) := by omega
theorem xKv (a b : Nat) : (a : Int).tdiv (b : Int) = ((a / b : Nat) : Int) := by simp [Int.tdiv_eq_ediv_of_nonneg]
theorem xP9 (a b : Nat) : (a : Int) * (b : Int) = ((a * b : Nat) : Int) := by simp
theorem yEl {a b : Nat} (ha : a < 256) (hb : b < 256) : xK8 .and .u8 (a : Int) (b : Int) = ((a &&& b : Nat) : Int) := by
 have h1 : (BitVec.ofInt 8 (a : Int)).toNat = a := by simp; omega
 have h2 : (BitVec.ofInt 8 (b : Int)).toNat = b := by simp; omega
 have h3 : a &&& b ≤ a := Nat.and_le_left
 change IntKind.u8.wrap (((BitVec.ofInt 8 (a : Int) &&& BitVec.ofInt 8 (b : Int)).toNat : Nat) : Int) = _
 rw [BitVec.toNat_and,h1,h2]
 exact xOH (by omega)
theorem or8 {a b : Nat} (ha : a < 256) (hb : b < 256) : xK8 .or .u8 (a : Int) (b : Int) = ((a ||| b : Nat) : Int) := by
 have h1 : (BitVec.ofInt 8 (a : Int)).toNat = a := by simp; omega
 have h2 : (BitVec.ofInt 8 (b : Int)).toNat = b := by simp; omega
 have h3 : a ||| b < 2 ^ 8 := Nat.or_lt_two_pow (by omega) (by omega)
 change IntKind.u8.wrap (((BitVec.ofInt 8 (a : Int) ||| BitVec.ofInt 8 (b : Int)).toNat : Nat) : Int) = _
 rw [BitVec.toNat_or,h1,h2]
 exact xOH (by omega)
theorem xKw (a b : Nat) : (a : Int).tmod (b : Int) = ((a % b : Nat) : Int) := by simp [Int.tmod_eq_emod_of_nonneg]
def xJG (l : List Nat) : List AV := l.map fun (n : Nat) => AV.int .i64 n
theorem xAg (l : List Nat) : (xJG l).length = l.length := by simp [xJG]
theorem yDf {l : List Nat} {k : Nat} (h : k < l.length) : List.take 1 (List.drop k (xJG l)) = [.int .i64 (l.getD k 0 : Nat)] := by
 rw [List.drop_eq_getElem_cons (by simpa [xJG] using h)]
 simp [xJG,List.getD,List.getElem?_eq_getElem h]
theorem xMm {α : Type} (l : List α) (k : Nat) (x : α) (h : k < l.length) : List.take k l ++ (x :: List.drop (k + 1) l) = l.set k x := (List.set_eq_take_append_cons_drop).trans (if_pos h) |>.symm
theorem yAw {l : List Nat} {k : Nat} {n : Nat} (h : k < l.length) : List.take k (xJG l) ++ (AV.int .i64 n :: List.drop (k + 1) (xJG l)) = xJG (l.set k n) := by
 rw [xMm _ _ _ (by rw [xAg]; exact h)]; simp [xJG,List.map_set]
theorem yES {l : List Nat} {k : Nat} {n : Nat} (h : k < l.length) : List.take k (bs l) ++ (AV.int .u8 n :: List.drop (k + 1) (bs l)) = bs (l.set k n) := by
 rw [xMm _ _ _ (by rw [xAn]; exact h)]; simp [bs,List.map_set]
theorem xDG (n : Nat) : xJf [AV.int .i64 0] n = xJG (List.replicate n 0) := by
 induction n with
 | zero => rfl
 | succ n ih => simp [xJf,ih,xJG,List.replicate_succ]
theorem xGP (n : Nat) : xJf [AV.int .u8 0] n = bs (List.replicate n 0) := by
 induction n with
 | zero => rfl
 | succ n ih => simp [xJf,ih,bs,List.replicate_succ]
theorem xIo (a b : List Nat) : bs a ++ bs b = bs (a ++ b) := by simp [bs]
theorem xGt (k : Nat) (l : List Nat) : List.take k (bs l) = bs (l.take k) := by simp [bs,List.map_take]
theorem xGu (k : Nat) (l : List Nat) : List.drop k (bs l) = bs (l.drop k) := by simp [bs,List.map_drop]
theorem yET {l : List Nat} {k : Nat} (h : k < l.length) : bs (List.take 1 (List.drop k l)) = [.int .u8 (l.getD k 0 : Nat)] := by
 rw [← xGt,← xGu,yGh h]
theorem xIp {l : List Nat} (h : 0 < l.length) : bs (List.take 1 l) = [.int .u8 (l.getD 0 0 : Nat)] := by
 have := yET h
 rwa [List.drop_zero] at this
theorem xGQ {l : List Nat} {k : Nat} {n : Nat} (h : k < l.length) : bs (List.take k l) ++ (AV.int .u8 n :: bs (List.drop (k + 1) l)) = bs (l.set k n) := by
 rw [← xGt,← xGu,yES h]
theorem xDC (k : Nat) (l : List Nat) : List.take k (xJG l) = xJG (l.take k) := by simp [xJG,List.map_take]
theorem xDH (k : Nat) (l : List Nat) : List.drop k (xJG l) = xJG (l.drop k) := by simp [xJG,List.map_drop]
theorem xFw (a b : List Nat) : xJG a ++ xJG b = xJG (a ++ b) := by simp [xJG]
theorem yAx {l : List Nat} {k : Nat} (h : k < l.length) : xJG (List.take 1 (List.drop k l)) = [.int .i64 (l.getD k 0 : Nat)] := by
 rw [← xDC,← xDH,yDf h]
theorem xFx {l : List Nat} (h : 0 < l.length) : xJG (List.take 1 l) = [.int .i64 (l.getD 0 0 : Nat)] := by
 have := yAx h
 rwa [List.drop_zero] at this
theorem xEd {l : List Nat} {k : Nat} {n : Nat} (h : k < l.length) : xJG (List.take k l) ++ (AV.int .i64 n :: xJG (List.drop (k + 1) l)) = xJG (l.set k n) := by
 rw [← xDC,← xDH,yAw h]
theorem xE8 (d : Nat) (H : Heap) : ∀ l : List Nat,(xJG l).mapM (frz d H) = some (xJG l)
 | [] => rfl
 | n :: l => by
  have h := xE8 d H l
  have : xJG (n :: l) = .int .i64 (n : Nat) :: xJG l := rfl
  rw [this,List.mapM_cons,xBQ]
  simp [h]
theorem xIq (d : Nat) (H : Heap) (l : List Nat) : (bs l).flatMap (bor d H) = [] := by
 induction l with
 | nil => rfl
 | cons n l ih =>
  have : bs (n :: l) = .int .u8 (n : Nat) :: bs l := rfl
  rw [this,List.flatMap_cons,ih,xCK]; rfl
theorem xFg (d : Nat) (H : Heap) (l : List Nat) : (xJG l).flatMap (bor d H) = [] := by
 induction l with
 | nil => rfl
 | cons n l ih =>
  have : xJG (n :: l) = .int .i64 (n : Nat) :: xJG l := rfl
  rw [this,List.flatMap_cons,ih,xCK]; rfl
theorem xEe (l : List Nat) (n t : Nat) : (l.drop n).getD t 0 = l.getD (n + t) 0 := by simp [List.getD,List.getElem?_drop]
theorem xEf {α : Type} (l : List α) (k : Nat) : List.take (l.length - k) (List.drop k l) = List.drop k l := by
 rw [List.take_of_length_le]; simp
theorem xIe (d : Nat) (H : Heap) : ∀ l : List Nat,(bs l).mapM (frz d H) = some (bs l)
 | [] => rfl
 | n :: l => by
  have h := xIe d H l
  have e : frz d H (.int .u8 (n : Nat)) = some (.int .u8 (n : Nat)) := by cases d <;> rfl
  have : bs (n :: l) = .int .u8 (n : Nat) :: bs l := rfl
  rw [this,List.mapM_cons,e]
  simp [h]
theorem xLD (H l : Heap) (k : Nat) : (H ++ l)[H.length + k]? = l[k]? := by
 rw [List.getElem?_append_right (by omega)]; congr 1; omega
theorem xIO (H l : Heap) : (H ++ l)[H.length]? = l[0]? := xLD H l 0
theorem xGC (H l : Heap) (k : Nat) (b : Blk) : (H ++ l).set (H.length + k) b = H ++ l.set k b := by
 rw [List.set_append_right _ _ (by omega)]; congr 2; omega
theorem xPw (H l : Heap) (k : Nat) (f : Blk → Blk) : (H ++ l).modify (H.length + k) f = H ++ l.modify k f := by
 apply List.ext_getElem?
 intro i
 rw [List.getElem?_modify]
 by_cases h : i < H.length
 ·have h1 : ∀ a : Blk,(if H.length + k = i then f a else a) = a := fun a => if_neg (by omega)
  rw [List.getElem?_append_left h,List.getElem?_append_left h]
  simp only [h1]
  cases H[i]? <;> rfl
 ·rw [List.getElem?_append_right (by omega),List.getElem?_append_right (by omega),List.getElem?_modify]
  have h1 : (H.length + k = i) = (k = i - H.length) := propext ⟨fun h => by omega,fun h => by omega⟩
  simp only [h1]
theorem xKg (H l : Heap) (f : Blk → Blk) : (H ++ l).modify H.length f = H ++ l.modify 0 f := xPw H l 0 f
theorem xJg (H l : Heap) (b : Blk) : (H ++ l).set H.length b = H ++ l.set 0 b := xGC H l 0 b
theorem xIr (l : List Nat) : (bs l).all xEb = true := xQc (fun _ => rfl) l
theorem xFy (l : List Nat) : (xJG l).all xEb = true := xQc (fun _ => rfl) l
end Go.Abs
