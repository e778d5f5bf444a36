/- Lists of numbers as cells; facts on numbers and heaps that the walk uses. -/
import Derived.Test.YtdkbhidfiplncaaAbsWalk
import Derived.Laws.BitsLemmas
namespace Go.Abs
set_option linter.unusedVariables false
set_option linter.unusedSimpArgs false

def bs (l : List Nat) : List AV := l.map fun (n : Nat) => AV.int .u8 n

abbrev word (z : Bool) (l : List Nat) : AV := .sl z l.length (bs l)

theorem xAh (l : List Nat) : (bs l).length = l.length := by simp [bs]
theorem yBM {l : List Nat} {k : Nat} (h : k < l.length) : List.take 1 (List.drop k (bs l)) = [.int .u8 (l.getD k 0 : Nat)] := by
  rw [List.drop_eq_getElem_cons (by simpa [bs] using h)]
  simp [bs,List.getD,List.getElem?_eq_getElem h]

theorem xCQ {n : Int} (h1 : -9223372036854775808 ≤ n) (h2 : n < 9223372036854775808) : IntKind.i64.wrap n = n := by
  rw [IntKind.wrap_i64]; omega
theorem xTB {n : Nat} (h2 : n < 256) : IntKind.u8.wrap (n : Int) = n := by
  rw [IntKind.wrap_u8]; omega

theorem xC0 (n : Nat) : ((no_index (OfNat.ofNat n) : Nat) : Int) = OfNat.ofNat n := rfl
theorem yDx (n : Nat) : ((n : Int) < 0) = False := eq_false (by omega)
theorem yGr (a b : Nat) : (a : Int) + (b : Int) = ((a + b : Nat) : Int) := by omega
theorem xB6 (a : Nat) : (a : Int) + 1 = ((a + 1 : Nat) : Int) := by omega
theorem yGs {a b : Nat} (h : b ≤ a) : (a : Int) - (b : Int) = ((a - b : Nat) : Int) := by omega
theorem xWg {a : Nat} (h : 1 ≤ a) : (a : Int) - 1 = ((a - 1 : Nat) : Int) := by omega
theorem yEY (a b : Nat) : (a : Int).tdiv (b : Int) = ((a / b : Nat) : Int) := by simp [Int.tdiv_eq_ediv_of_nonneg]
theorem yGt (a b : Nat) : (a : Int) * (b : Int) = ((a * b : Nat) : Int) := by simp
theorem xVj {a b : Nat} (ha : a < 256) (hb : b < 256) : xFh .and .u8 (a : Int) (b : Int) = ((a &&& b : Nat) : Int) := by
  have h1 : (BitVec.ofInt 8 (a : Int)).toNat = a := by simp; omega
  have h2 : (BitVec.ofInt 8 (b : Int)).toNat = b := by simp; omega
  have h3 : a &&& b ≤ a := Nat.and_le_left
  change IntKind.u8.wrap (((BitVec.ofInt 8 (a : Int) &&& BitVec.ofInt 8 (b : Int)).toNat : Nat) : Int) = _
  rw [BitVec.toNat_and,h1,h2]
  exact xTB (by omega)
theorem or8 {a b : Nat} (ha : a < 256) (hb : b < 256) : xFh .or .u8 (a : Int) (b : Int) = ((a ||| b : Nat) : Int) := by
  have h1 : (BitVec.ofInt 8 (a : Int)).toNat = a := by simp; omega
  have h2 : (BitVec.ofInt 8 (b : Int)).toNat = b := by simp; omega
  have h3 : a ||| b < 2 ^ 8 := Nat.or_lt_two_pow (by omega) (by omega)
  change IntKind.u8.wrap (((BitVec.ofInt 8 (a : Int) ||| BitVec.ofInt 8 (b : Int)).toNat : Nat) : Int) = _
  rw [BitVec.toNat_or,h1,h2]
  exact xTB (by omega)
theorem yGu {a b : Nat} (ha : a < 256) (hb : b < 256) : xFh .xor .u8 (a : Int) (b : Int) = ((a ^^^ b : Nat) : Int) := by
  have h1 : (BitVec.ofInt 8 (a : Int)).toNat = a := by simp; omega
  have h2 : (BitVec.ofInt 8 (b : Int)).toNat = b := by simp; omega
  have h3 : a ^^^ b < 2 ^ 8 := Nat.xor_lt_two_pow (by omega) (by omega)
  change IntKind.u8.wrap (((BitVec.ofInt 8 (a : Int) ^^^ BitVec.ofInt 8 (b : Int)).toNat : Nat) : Int) = _
  rw [BitVec.toNat_xor,h1,h2]
  exact xTB (by omega)
theorem yEZ (a b : Nat) : (a : Int).tmod (b : Int) = ((a % b : Nat) : Int) := by simp [Int.tmod_eq_emod_of_nonneg]

def xFL (l : List Nat) : List AV := l.map fun (n : Nat) => AV.int .i64 n
theorem xAb (l : List Nat) : (xFL l).length = l.length := by simp [xFL]
theorem xWh {l : List Nat} {k : Nat} (h : k < l.length) : List.take 1 (List.drop k (xFL l)) = [.int .i64 (l.getD k 0 : Nat)] := by
  rw [List.drop_eq_getElem_cons (by simpa [xFL] using h)]
  simp [xFL,List.getD,List.getElem?_eq_getElem h]
theorem xGG {α : Type} (l : List α) (k : Nat) (x : α) (h : k < l.length) : List.take k l ++ (x :: List.drop (k + 1) l) = l.set k x := (List.set_eq_take_append_cons_drop).trans (if_pos h) |>.symm
theorem xTC {l : List Nat} {k : Nat} {n : Nat} (h : k < l.length) : List.take k (xFL l) ++ (AV.int .i64 n :: List.drop (k + 1) (xFL l)) = xFL (l.set k n) := by
  rw [xGG _ _ _ (by rw [xAb]; exact h)]; simp [xFL,List.map_set]
theorem xYW {l : List Nat} {k : Nat} {n : Nat} (h : k < l.length) : List.take k (bs l) ++ (AV.int .u8 n :: List.drop (k + 1) (bs l)) = bs (l.set k n) := by
  rw [xGG _ _ _ (by rw [xAh]; exact h)]; simp [bs,List.map_set]
theorem xYX (n : Nat) : xEE [AV.int .i64 0] n = xFL (List.replicate n 0) := by
  induction n with
  | zero => rfl
  | succ n ih => simp [xEE,ih,xFL,List.replicate_succ]
theorem yBN (n : Nat) : xEE [AV.int .u8 0] n = bs (List.replicate n 0) := by
  induction n with
  | zero => rfl
  | succ n ih => simp [xEE,ih,bs,List.replicate_succ]
theorem xYY (a b : List Nat) : bs (a ++ b) = bs a ++ bs b := by simp [bs]
theorem yDy (a b : List Nat) : bs a ++ bs b = bs (a ++ b) := by simp [bs]
theorem xRb (k : Nat) (l : List Nat) : List.take k (bs l) = bs (l.take k) := by simp [bs,List.map_take]
theorem xRc (k : Nat) (l : List Nat) : List.drop k (bs l) = bs (l.drop k) := by simp [bs,List.map_drop]
theorem xYZ {l : List Nat} {k : Nat} (h : k < l.length) : bs (List.take 1 (List.drop k l)) = [.int .u8 (l.getD k 0 : Nat)] := by
  rw [← xRb,← xRc,yBM h]
theorem yDz {l : List Nat} (h : 0 < l.length) : bs (List.take 1 l) = [.int .u8 (l.getD 0 0 : Nat)] := by
  have := xYZ h
  rwa [List.drop_zero] at this
theorem yBO {l : List Nat} {k : Nat} {n : Nat} (h : k < l.length) : bs (List.take k l) ++ (AV.int .u8 n :: bs (List.drop (k + 1) l)) = bs (l.set k n) := by
  rw [← xRb,← xRc,xYW h]
theorem xMf (k : Nat) (l : List Nat) : List.take k (xFL l) = xFL (l.take k) := by simp [xFL,List.map_take]
theorem xMg (k : Nat) (l : List Nat) : List.drop k (xFL l) = xFL (l.drop k) := by simp [xFL,List.map_drop]
theorem yAA (a b : List Nat) : xFL a ++ xFL b = xFL (a ++ b) := by simp [xFL]
theorem xTD {l : List Nat} {k : Nat} (h : k < l.length) : xFL (List.take 1 (List.drop k l)) = [.int .i64 (l.getD k 0 : Nat)] := by
  rw [← xMf,← xMg,xWh h]
theorem yAB {l : List Nat} (h : 0 < l.length) : xFL (List.take 1 l) = [.int .i64 (l.getD 0 0 : Nat)] := by
  have := xTD h
  rwa [List.drop_zero] at this
theorem xY0 {l : List Nat} {k : Nat} {n : Nat} (h : k < l.length) : xFL (List.take k l) ++ (AV.int .i64 n :: xFL (List.drop (k + 1) l)) = xFL (l.set k n) := by
  rw [← xMf,← xMg,xTC h]
theorem xTE (d : Nat) (H : xAv) : ∀ l : List Nat,(xFL l).mapM (frz d H) = some (xFL l)
  | [] => rfl
  | n :: l => by
    have h := xTE d H l
    have : xFL (n :: l) = .int .i64 (n : Nat) :: xFL l := rfl
    rw [this,List.mapM_cons,xBa]
    simp [h]
theorem yDA (d : Nat) (H : xAv) (l : List Nat) : (bs l).flatMap (bor d H) = [] := by
  induction l with
  | nil => rfl
  | cons n l ih =>
    have : bs (n :: l) = .int .u8 (n : Nat) :: bs l := rfl
    rw [this,List.flatMap_cons,ih,xCp]; rfl
theorem yAC (d : Nat) (H : xAv) (l : List Nat) : (xFL l).flatMap (bor d H) = [] := by
  induction l with
  | nil => rfl
  | cons n l ih =>
    have : xFL (n :: l) = .int .i64 (n : Nat) :: xFL l := rfl
    rw [this,List.flatMap_cons,ih,xCp]; rfl
theorem xY1 (l : List Nat) (n t : Nat) : (l.drop n).getD t 0 = l.getD (n + t) 0 := by simp [List.getD,List.getElem?_drop]
theorem xY2 {α : Type} (l : List α) (k : Nat) : List.take (l.length - k) (List.drop k l) = List.drop k l := by
  rw [List.take_of_length_le]; simp
theorem xY3 (d : Nat) (H : xAv) : ∀ l : List Nat,(bs l).mapM (frz d H) = some (bs l)
  | [] => rfl
  | n :: l => by
    have h := xY3 d H l
    have e : frz d H (.int .u8 (n : Nat)) = some (.int .u8 (n : Nat)) := by cases d <;> rfl
    have : bs (n :: l) = .int .u8 (n : Nat) :: bs l := rfl
    rw [this,List.mapM_cons,e]
    simp [h]


theorem yBP {z : Bool} {n : Nat} {l : List Nat} (h : l.length = n) : AV.sl z n (bs l) = word z l := by subst h; rfl

theorem xNr (H l : xAv) (k : Nat) : (H ++ l)[H.length + k]? = l[k]? := by
  rw [List.getElem?_append_right (by omega)]; congr 1; omega
theorem xCy (H l : xAv) : (H ++ l)[H.length]? = l[0]? := xNr H l 0
theorem xD1 (H l : xAv) (k : Nat) (b : Blk) : (H ++ l).set (H.length + k) b = H ++ l.set k b := by
  rw [List.set_append_right _ _ (by omega)]; congr 2; omega
theorem yE0 (H l : xAv) (k : Nat) (f : Blk → Blk) : (H ++ l).modify (H.length + k) f = H ++ l.modify k f := by
  apply List.ext_getElem?
  intro i
  rw [List.getElem?_modify]
  by_cases h : i < H.length
  · have h1 : ∀ a : Blk,(if H.length + k = i then f a else a) = a := fun a => if_neg (by omega)
    rw [List.getElem?_append_left h,List.getElem?_append_left h]
    simp only [h1]
    cases H[i]? <;> rfl
  · rw [List.getElem?_append_right (by omega),List.getElem?_append_right (by omega),List.getElem?_modify]
    have h1 : (H.length + k = i) = (k = i - H.length) := propext ⟨fun h => by omega,fun h => by omega⟩
    simp only [h1]
theorem yBQ (H l : xAv) (f : Blk → Blk) : (H ++ l).modify H.length f = H ++ l.modify 0 f := yE0 H l 0 f
theorem xC1 (H l : xAv) (b : Blk) : (H ++ l).set H.length b = H ++ l.set 0 b := xD1 H l 0 b


theorem yDB (l : List Nat) : (bs l).all xCA = true := xKv (fun _ => rfl) l
theorem yAD (l : List Nat) : (xFL l).all xCA = true := xKv (fun _ => rfl) l
end Go.Abs
