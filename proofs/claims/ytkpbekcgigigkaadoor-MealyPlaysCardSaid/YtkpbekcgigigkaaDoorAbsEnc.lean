/- Lists of numbers as cells; facts on numbers and heaps that the walk uses. -/
import Derived.Test.YtkpbekcgigigkaaDoorAbsWalk
import Derived.Laws.BitsLemmas
namespace Go.Abs
set_option linter.unusedVariables false
set_option linter.unusedSimpArgs false
def bs (l : List Nat) : List AV := l.map fun (n : Nat) => AV.int .u8 n
abbrev xBc (z : Bool) (l : List Nat) : AV := .sl z l.length (bs l)
theorem xDG (l : List Nat) : (bs l).length = l.length := by simp [bs]
theorem yBy {l : List Nat} {k : Nat} (h : k < l.length) : List.take 1 (List.drop k (bs l)) = [.int .u8 (l.getD k 0 : Nat)] := by
  rw [List.drop_eq_getElem_cons (by simpa [bs] using h)]
  simp [bs,List.getD,List.getElem?_eq_getElem h]
theorem yCm {n : Int} (h1 : -9223372036854775808 ≤ n) (h2 : n < 9223372036854775808) : IntKind.i64.wrap n = n := by
  rw [IntKind.wrap_i64]; omega
theorem yAb {n : Nat} (h2 : n < 256) : IntKind.u8.wrap (n : Int) = n := by
  rw [IntKind.wrap_u8]; omega
theorem xSV (n : Nat) : ((no_index (OfNat.ofNat n) : Nat) : Int) = OfNat.ofNat n := rfl
theorem yCn (n : Nat) : ((n : Int) < 0) = False := eq_false (by omega)
theorem yCo (a b : Nat) : (a : Int) + (b : Int) = ((a + b : Nat) : Int) := by omega
theorem yAc (a : Nat) : (a : Int) + 1 = ((a + 1 : Nat) : Int) := by omega
theorem yCp {a b : Nat} (h : b ≤ a) : (a : Int) - (b : Int) = ((a - b : Nat) : Int) := by omega
theorem yAd {a : Nat} (h : 1 ≤ a) : (a : Int) - 1 = ((a - 1 : Nat) : Int) := by omega
theorem yAe (a b : Nat) : (a : Int).tdiv (b : Int) = ((a / b : Nat) : Int) := by simp [Int.tdiv_eq_ediv_of_nonneg]
theorem yCq (a b : Nat) : (a : Int) * (b : Int) = ((a * b : Nat) : Int) := by simp
theorem yCr {a b : Nat} (ha : a < 256) (hb : b < 256) : xEi .and .u8 (a : Int) (b : Int) = ((a &&& b : Nat) : Int) := by
  have h1 : (BitVec.ofInt 8 (a : Int)).toNat = a := by simp; omega
  have h2 : (BitVec.ofInt 8 (b : Int)).toNat = b := by simp; omega
  have h3 : a &&& b ≤ a := Nat.and_le_left
  change IntKind.u8.wrap (((BitVec.ofInt 8 (a : Int) &&& BitVec.ofInt 8 (b : Int)).toNat : Nat) : Int) = _
  rw [BitVec.toNat_and,h1,h2]
  exact yAb (by omega)
theorem or8 {a b : Nat} (ha : a < 256) (hb : b < 256) : xEi .or .u8 (a : Int) (b : Int) = ((a ||| b : Nat) : Int) := by
  have h1 : (BitVec.ofInt 8 (a : Int)).toNat = a := by simp; omega
  have h2 : (BitVec.ofInt 8 (b : Int)).toNat = b := by simp; omega
  have h3 : a ||| b < 2 ^ 8 := Nat.or_lt_two_pow (by omega) (by omega)
  change IntKind.u8.wrap (((BitVec.ofInt 8 (a : Int) ||| BitVec.ofInt 8 (b : Int)).toNat : Nat) : Int) = _
  rw [BitVec.toNat_or,h1,h2]
  exact yAb (by omega)
theorem yAf (a b : Nat) : (a : Int).tmod (b : Int) = ((a % b : Nat) : Int) := by simp [Int.tmod_eq_emod_of_nonneg]
def xCQ (l : List Nat) : List AV := l.map fun (n : Nat) => AV.int .i64 n
theorem xCl (l : List Nat) : (xCQ l).length = l.length := by simp [xCQ]
theorem xYl {l : List Nat} {k : Nat} (h : k < l.length) : List.take 1 (List.drop k (xCQ l)) = [.int .i64 (l.getD k 0 : Nat)] := by
  rw [List.drop_eq_getElem_cons (by simpa [xCQ] using h)]
  simp [xCQ,List.getD,List.getElem?_eq_getElem h]
theorem xEP {α : Type} (l : List α) (k : Nat) (x : α) (h : k < l.length) : List.take k l ++ (x :: List.drop (k + 1) l) = l.set k x := (List.set_eq_take_append_cons_drop).trans (if_pos h) |>.symm
theorem xVZ {l : List Nat} {k : Nat} {n : Nat} (h : k < l.length) : List.take k (xCQ l) ++ (AV.int .i64 n :: List.drop (k + 1) (xCQ l)) = xCQ (l.set k n) := by
  rw [xEP _ _ _ (by rw [xCl]; exact h)]; simp [xCQ,List.map_set]
theorem yAg {l : List Nat} {k : Nat} {n : Nat} (h : k < l.length) : List.take k (bs l) ++ (AV.int .u8 n :: List.drop (k + 1) (bs l)) = bs (l.set k n) := by
  rw [xEP _ _ _ (by rw [xDG]; exact h)]; simp [bs,List.map_set]
theorem xAa (n : Nat) : xCD [AV.int .i64 0] n = xCQ (List.replicate n 0) := by
  induction n with
  | zero => rfl
  | succ n ih => simp [xCD,ih,xCQ,List.replicate_succ]
theorem xSW (n : Nat) : xCD [AV.int .u8 0] n = bs (List.replicate n 0) := by
  induction n with
  | zero => rfl
  | succ n ih => simp [xCD,ih,bs,List.replicate_succ]
theorem xMu (a b : List Nat) : bs (a ++ b) = bs a ++ bs b := by simp [bs]
theorem xSX (a b : List Nat) : bs a ++ bs b = bs (a ++ b) := by simp [bs]
theorem xK2 (k : Nat) (l : List Nat) : List.take k (bs l) = bs (l.take k) := by simp [bs,List.map_take]
theorem xK3 (k : Nat) (l : List Nat) : List.drop k (bs l) = bs (l.drop k) := by simp [bs,List.map_drop]
theorem yAh {l : List Nat} {k : Nat} (h : k < l.length) : bs (List.take 1 (List.drop k l)) = [.int .u8 (l.getD k 0 : Nat)] := by
  rw [← xK2,← xK3,yBy h]
theorem xWY {l : List Nat} (h : 0 < l.length) : bs (List.take 1 l) = [.int .u8 (l.getD 0 0 : Nat)] := by
  have := yAh h
  rwa [List.drop_zero] at this
theorem xSY {l : List Nat} {k : Nat} {n : Nat} (h : k < l.length) : bs (List.take k l) ++ (AV.int .u8 n :: bs (List.drop (k + 1) l)) = bs (l.set k n) := by
  rw [← xK2,← xK3,yAg h]
theorem xEQ (k : Nat) (l : List Nat) : List.take k (xCQ l) = xCQ (l.take k) := by simp [xCQ,List.map_take]
theorem xER (k : Nat) (l : List Nat) : List.drop k (xCQ l) = xCQ (l.drop k) := by simp [xCQ,List.map_drop]
theorem xPj (a b : List Nat) : xCQ a ++ xCQ b = xCQ (a ++ b) := by simp [xCQ]
theorem xV0 {l : List Nat} {k : Nat} (h : k < l.length) : xCQ (List.take 1 (List.drop k l)) = [.int .i64 (l.getD k 0 : Nat)] := by
  rw [← xEQ,← xER,xYl h]
theorem xPk {l : List Nat} (h : 0 < l.length) : xCQ (List.take 1 l) = [.int .i64 (l.getD 0 0 : Nat)] := by
  have := xV0 h
  rwa [List.drop_zero] at this
theorem xMv {l : List Nat} {k : Nat} {n : Nat} (h : k < l.length) : xCQ (List.take k l) ++ (AV.int .i64 n :: xCQ (List.drop (k + 1) l)) = xCQ (l.set k n) := by
  rw [← xEQ,← xER,xVZ h]
theorem xK4 (d : Nat) (H : Heap) : ∀ l : List Nat,(xCQ l).mapM (frz d H) = some (xCQ l)
  | [] => rfl
  | n :: l => by
    have h := xK4 d H l
    have : xCQ (n :: l) = .int .i64 (n : Nat) :: xCQ l := rfl
    rw [this,List.mapM_cons,xHA]
    simp [h]
theorem xWZ (d : Nat) (H : Heap) (l : List Nat) : (bs l).flatMap (bor d H) = [] := by
  induction l with
  | nil => rfl
  | cons n l ih =>
    have : bs (n :: l) = .int .u8 (n : Nat) :: bs l := rfl
    rw [this,List.flatMap_cons,ih,xFt]; rfl
theorem xPl (d : Nat) (H : Heap) (l : List Nat) : (xCQ l).flatMap (bor d H) = [] := by
  induction l with
  | nil => rfl
  | cons n l ih =>
    have : xCQ (n :: l) = .int .i64 (n : Nat) :: xCQ l := rfl
    rw [this,List.flatMap_cons,ih,xFt]; rfl
theorem xMw (l : List Nat) (n t : Nat) : (l.drop n).getD t 0 = l.getD (n + t) 0 := by simp [List.getD,List.getElem?_drop]
theorem xMx {α : Type} (l : List α) (k : Nat) : List.take (l.length - k) (List.drop k l) = List.drop k l := by
  rw [List.take_of_length_le]; simp
theorem xSZ (d : Nat) (H : Heap) : ∀ l : List Nat,(bs l).mapM (frz d H) = some (bs l)
  | [] => rfl
  | n :: l => by
    have h := xSZ d H l
    have e : frz d H (.int .u8 (n : Nat)) = some (.int .u8 (n : Nat)) := by cases d <;> rfl
    have : bs (n :: l) = .int .u8 (n : Nat) :: bs l := rfl
    rw [this,List.mapM_cons,e]
    simp [h]
theorem xC7 {z : Bool} {n : Nat} {l : List Nat} (h : l.length = n) : AV.sl z n (bs l) = xBc z l := by subst h; rfl
theorem xRL (H l : Heap) (k : Nat) : (H ++ l)[H.length + k]? = l[k]? := by
  rw [List.getElem?_append_right (by omega)]; congr 1; omega
theorem xS0 (H l : Heap) : (H ++ l)[H.length]? = l[0]? := xRL H l 0
theorem xCG (H l : Heap) (k : Nat) (b : Blk) : (H ++ l).set (H.length + k) b = H ++ l.set k b := by
  rw [List.set_append_right _ _ (by omega)]; congr 2; omega
theorem yAi (H l : Heap) (k : Nat) (f : Blk → Blk) : (H ++ l).modify (H.length + k) f = H ++ l.modify k f := by
  apply List.ext_getElem?
  intro i
  rw [List.getElem?_modify]
  by_cases h : i < H.length
  · have h1 : ∀ a : Blk,(if H.length + k = i then f a else a) = a := fun a => if_neg (by omega)
    rw [List.getElem?_append_left h,List.getElem?_append_left h]
    simp only [h1]
    cases H[i]? <;> rfl
  · rw [List.getElem?_append_right (by omega),List.getElem?_append_right (by omega),List.getElem?_modify]
    have h1 : (H.length + k = i) = (k = i - H.length) := propext ⟨fun h => by omega,fun h => by omega⟩
    simp only [h1]
theorem xYm (H l : Heap) (f : Blk → Blk) : (H ++ l).modify H.length f = H ++ l.modify 0 f := yAi H l 0 f
theorem xS1 (H l : Heap) (b : Blk) : (H ++ l).set H.length b = H ++ l.set 0 b := xCG H l 0 b
theorem xW0 (l : List Nat) : (bs l).all xAA = true := xK7 (fun _ => rfl) l
theorem xPm (l : List Nat) : (xCQ l).all xAA = true := xK7 (fun _ => rfl) l
end Go.Abs
