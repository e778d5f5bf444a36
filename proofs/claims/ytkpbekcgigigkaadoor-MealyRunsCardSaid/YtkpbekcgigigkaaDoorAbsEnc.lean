/- Lists of numbers as cells; facts on numbers and heaps that the walk uses. -/
import Derived.Test.YtkpbekcgigigkaaDoorAbsWalk
import Derived.Laws.BitsLemmas
namespace Go.Abs
set_option linter.unusedVariables false
set_option linter.unusedSimpArgs false
def bs (l : List Nat) : List AV := l.map fun (n : Nat) => AV.int .u8 n
abbrev xA2 (z : Bool) (l : List Nat) : AV := .sl z l.length (bs l)
theorem xDE (l : List Nat) : (bs l).length = l.length := by simp [bs]
theorem yA9 {l : List Nat} {k : Nat} (h : k < l.length) : List.take 1 (List.drop k (bs l)) = [.int .u8 (l.getD k 0 : Nat)] := by
  rw [List.drop_eq_getElem_cons (by simpa [bs] using h)]
  simp [bs,List.getD,List.getElem?_eq_getElem h]
theorem yB1 {n : Int} (h1 : -9223372036854775808 ≤ n) (h2 : n < 9223372036854775808) : IntKind.i64.wrap n = n := by
  rw [IntKind.wrap_i64]; omega
theorem xYZ {n : Nat} (h2 : n < 256) : IntKind.u8.wrap (n : Int) = n := by
  rw [IntKind.wrap_u8]; omega
theorem xSy (n : Nat) : ((no_index (OfNat.ofNat n) : Nat) : Int) = OfNat.ofNat n := rfl
theorem yB2 (n : Nat) : ((n : Int) < 0) = False := eq_false (by omega)
theorem yBa (a b : Nat) : (a : Int) + (b : Int) = ((a + b : Nat) : Int) := by omega
theorem xZO (a : Nat) : (a : Int) + 1 = ((a + 1 : Nat) : Int) := by omega
theorem yB3 {a b : Nat} (h : b ≤ a) : (a : Int) - (b : Int) = ((a - b : Nat) : Int) := by omega
theorem xZP {a : Nat} (h : 1 ≤ a) : (a : Int) - 1 = ((a - 1 : Nat) : Int) := by omega
theorem xXU (a b : Nat) : (a : Int).tdiv (b : Int) = ((a / b : Nat) : Int) := by simp [Int.tdiv_eq_ediv_of_nonneg]
theorem yB4 (a b : Nat) : (a : Int) * (b : Int) = ((a * b : Nat) : Int) := by simp
theorem yCC {a b : Nat} (ha : a < 256) (hb : b < 256) : xEx .and .u8 (a : Int) (b : Int) = ((a &&& b : Nat) : Int) := by
  have h1 : (BitVec.ofInt 8 (a : Int)).toNat = a := by simp; omega
  have h2 : (BitVec.ofInt 8 (b : Int)).toNat = b := by simp; omega
  have h3 : a &&& b ≤ a := Nat.and_le_left
  change IntKind.u8.wrap (((BitVec.ofInt 8 (a : Int) &&& BitVec.ofInt 8 (b : Int)).toNat : Nat) : Int) = _
  rw [BitVec.toNat_and,h1,h2]
  exact xYZ (by omega)
theorem or8 {a b : Nat} (ha : a < 256) (hb : b < 256) : xEx .or .u8 (a : Int) (b : Int) = ((a ||| b : Nat) : Int) := by
  have h1 : (BitVec.ofInt 8 (a : Int)).toNat = a := by simp; omega
  have h2 : (BitVec.ofInt 8 (b : Int)).toNat = b := by simp; omega
  have h3 : a ||| b < 2 ^ 8 := Nat.or_lt_two_pow (by omega) (by omega)
  change IntKind.u8.wrap (((BitVec.ofInt 8 (a : Int) ||| BitVec.ofInt 8 (b : Int)).toNat : Nat) : Int) = _
  rw [BitVec.toNat_or,h1,h2]
  exact xYZ (by omega)
theorem xVz (a b : Nat) : (a : Int).tmod (b : Int) = ((a % b : Nat) : Int) := by simp [Int.tmod_eq_emod_of_nonneg]
def xBV (l : List Nat) : List AV := l.map fun (n : Nat) => AV.int .i64 n
theorem xCo (l : List Nat) : (xBV l).length = l.length := by simp [xBV]
theorem xXV {l : List Nat} {k : Nat} (h : k < l.length) : List.take 1 (List.drop k (xBV l)) = [.int .i64 (l.getD k 0 : Nat)] := by
  rw [List.drop_eq_getElem_cons (by simpa [xBV] using h)]
  simp [xBV,List.getD,List.getElem?_eq_getElem h]
theorem xEJ {α : Type} (l : List α) (k : Nat) (x : α) (h : k < l.length) : List.take k l ++ (x :: List.drop (k + 1) l) = l.set k x := (List.set_eq_take_append_cons_drop).trans (if_pos h) |>.symm
theorem xVA {l : List Nat} {k : Nat} {n : Nat} (h : k < l.length) : List.take k (xBV l) ++ (AV.int .i64 n :: List.drop (k + 1) (xBV l)) = xBV (l.set k n) := by
  rw [xEJ _ _ _ (by rw [xCo]; exact h)]; simp [xBV,List.map_set]
theorem xZQ {l : List Nat} {k : Nat} {n : Nat} (h : k < l.length) : List.take k (bs l) ++ (AV.int .u8 n :: List.drop (k + 1) (bs l)) = bs (l.set k n) := by
  rw [xEJ _ _ _ (by rw [xDE]; exact h)]; simp [bs,List.map_set]
theorem xAb (n : Nat) : xCE [AV.int .i64 0] n = xBV (List.replicate n 0) := by
  induction n with
  | zero => rfl
  | succ n ih => simp [xCE,ih,xBV,List.replicate_succ]
theorem xSz (n : Nat) : xCE [AV.int .u8 0] n = bs (List.replicate n 0) := by
  induction n with
  | zero => rfl
  | succ n ih => simp [xCE,ih,bs,List.replicate_succ]
theorem xSA (a b : List Nat) : bs (a ++ b) = bs a ++ bs b := by simp [bs]
theorem xSB (a b : List Nat) : bs a ++ bs b = bs (a ++ b) := by simp [bs]
theorem xKM (k : Nat) (l : List Nat) : List.take k (bs l) = bs (l.take k) := by simp [bs,List.map_take]
theorem xKN (k : Nat) (l : List Nat) : List.drop k (bs l) = bs (l.drop k) := by simp [bs,List.map_drop]
theorem xZR {l : List Nat} {k : Nat} (h : k < l.length) : bs (List.take 1 (List.drop k l)) = [.int .u8 (l.getD k 0 : Nat)] := by
  rw [← xKM,← xKN,yA9 h]
theorem xWz {l : List Nat} (h : 0 < l.length) : bs (List.take 1 l) = [.int .u8 (l.getD 0 0 : Nat)] := by
  have := xZR h
  rwa [List.drop_zero] at this
theorem xSC {l : List Nat} {k : Nat} {n : Nat} (h : k < l.length) : bs (List.take k l) ++ (AV.int .u8 n :: bs (List.drop (k + 1) l)) = bs (l.set k n) := by
  rw [← xKM,← xKN,xZQ h]
theorem xEK (k : Nat) (l : List Nat) : List.take k (xBV l) = xBV (l.take k) := by simp [xBV,List.map_take]
theorem xEL (k : Nat) (l : List Nat) : List.drop k (xBV l) = xBV (l.drop k) := by simp [xBV,List.map_drop]
theorem xO4 (a b : List Nat) : xBV a ++ xBV b = xBV (a ++ b) := by simp [xBV]
theorem xVB {l : List Nat} {k : Nat} (h : k < l.length) : xBV (List.take 1 (List.drop k l)) = [.int .i64 (l.getD k 0 : Nat)] := by
  rw [← xEK,← xEL,xXV h]
theorem xO5 {l : List Nat} (h : 0 < l.length) : xBV (List.take 1 l) = [.int .i64 (l.getD 0 0 : Nat)] := by
  have := xVB h
  rwa [List.drop_zero] at this
theorem xMo {l : List Nat} {k : Nat} {n : Nat} (h : k < l.length) : xBV (List.take k l) ++ (AV.int .i64 n :: xBV (List.drop (k + 1) l)) = xBV (l.set k n) := by
  rw [← xEK,← xEL,xVA h]
theorem xKO (d : Nat) (H : Heap) : ∀ l : List Nat,(xBV l).mapM (frz d H) = some (xBV l)
  | [] => rfl
  | n :: l => by
    have h := xKO d H l
    have : xBV (n :: l) = .int .i64 (n : Nat) :: xBV l := rfl
    rw [this,List.mapM_cons,xHp]
    simp [h]
theorem xWA (d : Nat) (H : Heap) (l : List Nat) : (bs l).flatMap (bor d H) = [] := by
  induction l with
  | nil => rfl
  | cons n l ih =>
    have : bs (n :: l) = .int .u8 (n : Nat) :: bs l := rfl
    rw [this,List.flatMap_cons,ih,xFm]; rfl
theorem xO6 (d : Nat) (H : Heap) (l : List Nat) : (xBV l).flatMap (bor d H) = [] := by
  induction l with
  | nil => rfl
  | cons n l ih =>
    have : xBV (n :: l) = .int .i64 (n : Nat) :: xBV l := rfl
    rw [this,List.flatMap_cons,ih,xFm]; rfl
theorem xMp (l : List Nat) (n t : Nat) : (l.drop n).getD t 0 = l.getD (n + t) 0 := by simp [List.getD,List.getElem?_drop]
theorem xMq {α : Type} (l : List α) (k : Nat) : List.take (l.length - k) (List.drop k l) = List.drop k l := by
  rw [List.take_of_length_le]; simp
theorem xSD (d : Nat) (H : Heap) : ∀ l : List Nat,(bs l).mapM (frz d H) = some (bs l)
  | [] => rfl
  | n :: l => by
    have h := xSD d H l
    have e : frz d H (.int .u8 (n : Nat)) = some (.int .u8 (n : Nat)) := by cases d <;> rfl
    have : bs (n :: l) = .int .u8 (n : Nat) :: bs l := rfl
    rw [this,List.mapM_cons,e]
    simp [h]
theorem xCH {z : Bool} {n : Nat} {l : List Nat} (h : l.length = n) : AV.sl z n (bs l) = xA2 z l := by subst h; rfl
theorem xRm (H l : Heap) (k : Nat) : (H ++ l)[H.length + k]? = l[k]? := by
  rw [List.getElem?_append_right (by omega)]; congr 1; omega
theorem xSE (H l : Heap) : (H ++ l)[H.length]? = l[0]? := xRm H l 0
theorem xCL (H l : Heap) (k : Nat) (b : Blk) : (H ++ l).set (H.length + k) b = H ++ l.set k b := by
  rw [List.set_append_right _ _ (by omega)]; congr 2; omega
theorem xZS (H l : Heap) (k : Nat) (f : Blk → Blk) : (H ++ l).modify (H.length + k) f = H ++ l.modify k f := by
  apply List.ext_getElem?
  intro i
  rw [List.getElem?_modify]
  by_cases h : i < H.length
  · have h1 : ∀ a : Blk,(if H.length + k = i then f a else a) = a := fun a => if_neg (by omega)
    rw [List.getElem?_append_left h,List.getElem?_append_left h]
    simp only [h1]
    cases H[i]? <;> rfl
  · rw [List.getElem?_append_right (by omega),List.getElem?_append_right (by omega),List.getElem?_modify]
    have h1 : (H.length + k = i) = (k = i - H.length) := propext ⟨fun h => by omega,fun h => by omega⟩
    simp only [h1]
theorem xXW (H l : Heap) (f : Blk → Blk) : (H ++ l).modify H.length f = H ++ l.modify 0 f := xZS H l 0 f
theorem xSF (H l : Heap) (b : Blk) : (H ++ l).set H.length b = H ++ l.set 0 b := xCL H l 0 b
theorem xWB (l : List Nat) : (bs l).all xAt = true := xKR (fun _ => rfl) l
theorem xO7 (l : List Nat) : (xBV l).all xAt = true := xKR (fun _ => rfl) l
end Go.Abs
