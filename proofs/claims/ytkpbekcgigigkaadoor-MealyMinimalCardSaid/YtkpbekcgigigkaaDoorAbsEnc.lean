/- Lists of numbers as cells; facts on numbers and heaps that the walk uses. -/
import Derived.Test.YtkpbekcgigigkaaDoorAbsWalk
import Derived.Laws.BitsLemmas
namespace Go.Abs
set_option linter.unusedVariables false
set_option linter.unusedSimpArgs false
def bs (l : List Nat) : List AV := l.map fun (n : Nat) => AV.int .u8 n
abbrev xEk (z : Bool) (l : List Nat) : AV := .sl z l.length (bs l)
theorem xDX (l : List Nat) : (bs l).length = l.length := by simp [bs]
theorem yCm {l : List Nat} {k : Nat} (h : k < l.length) : List.take 1 (List.drop k (bs l)) = [.int .u8 (l.getD k 0 : Nat)] := by
  rw [List.drop_eq_getElem_cons (by simpa [bs] using h)]
  simp [bs,List.getD,List.getElem?_eq_getElem h]
theorem yDk {n : Int} (h1 : -9223372036854775808 ≤ n) (h2 : n < 9223372036854775808) : IntKind.i64.wrap n = n := by
  rw [IntKind.wrap_i64]; omega
theorem yDl {n : Nat} (h2 : n < 256) : IntKind.u8.wrap (n : Int) = n := by
  rw [IntKind.wrap_u8]; omega
theorem xTH (n : Nat) : ((no_index (OfNat.ofNat n) : Nat) : Int) = OfNat.ofNat n := rfl
theorem yDm (n : Nat) : ((n : Int) < 0) = False := eq_false (by omega)
theorem yDn (a b : Nat) : (a : Int) + (b : Int) = ((a + b : Nat) : Int) := by omega
theorem yA5 (a : Nat) : (a : Int) + 1 = ((a + 1 : Nat) : Int) := by omega
theorem yDo {a b : Nat} (h : b ≤ a) : (a : Int) - (b : Int) = ((a - b : Nat) : Int) := by omega
theorem yA6 {a : Nat} (h : 1 ≤ a) : (a : Int) - 1 = ((a - 1 : Nat) : Int) := by omega
theorem yA7 (a b : Nat) : (a : Int).tdiv (b : Int) = ((a / b : Nat) : Int) := by simp [Int.tdiv_eq_ediv_of_nonneg]
theorem yDp (a b : Nat) : (a : Int) * (b : Int) = ((a * b : Nat) : Int) := by simp
theorem yA8 (a b : Nat) : (a : Int).tmod (b : Int) = ((a % b : Nat) : Int) := by simp [Int.tmod_eq_emod_of_nonneg]
def xAQ (l : List Nat) : List AV := l.map fun (n : Nat) => AV.int .i64 n
theorem xAU (l : List Nat) : (xAQ l).length = l.length := by simp [xAQ]
theorem xZy {l : List Nat} {k : Nat} (h : k < l.length) : List.take 1 (List.drop k (xAQ l)) = [.int .i64 (l.getD k 0 : Nat)] := by
  rw [List.drop_eq_getElem_cons (by simpa [xAQ] using h)]
  simp [xAQ,List.getD,List.getElem?_eq_getElem h]
theorem xE7 {α : Type} (l : List α) (k : Nat) (x : α) (h : k < l.length) : List.take k l ++ (x :: List.drop (k + 1) l) = l.set k x := (List.set_eq_take_append_cons_drop).trans (if_pos h) |>.symm
theorem xWW {l : List Nat} {k : Nat} {n : Nat} (h : k < l.length) : List.take k (xAQ l) ++ (AV.int .i64 n :: List.drop (k + 1) (xAQ l)) = xAQ (l.set k n) := by
  rw [xE7 _ _ _ (by rw [xAU]; exact h)]; simp [xAQ,List.map_set]
theorem yA9 {l : List Nat} {k : Nat} {n : Nat} (h : k < l.length) : List.take k (bs l) ++ (AV.int .u8 n :: List.drop (k + 1) (bs l)) = bs (l.set k n) := by
  rw [xE7 _ _ _ (by rw [xDX]; exact h)]; simp [bs,List.map_set]
theorem xAb (n : Nat) : xCS [AV.int .i64 0] n = xAQ (List.replicate n 0) := by
  induction n with
  | zero => rfl
  | succ n ih => simp [xCS,ih,xAQ,List.replicate_succ]
theorem xTI (n : Nat) : xCS [AV.int .u8 0] n = bs (List.replicate n 0) := by
  induction n with
  | zero => rfl
  | succ n ih => simp [xCS,ih,bs,List.replicate_succ]
theorem xYa (a b : List Nat) : bs a ++ bs b = bs (a ++ b) := by simp [bs]
theorem xLu (k : Nat) (l : List Nat) : List.take k (bs l) = bs (l.take k) := by simp [bs,List.map_take]
theorem xLv (k : Nat) (l : List Nat) : List.drop k (bs l) = bs (l.drop k) := by simp [bs,List.map_drop]
theorem yBa {l : List Nat} {k : Nat} (h : k < l.length) : bs (List.take 1 (List.drop k l)) = [.int .u8 (l.getD k 0 : Nat)] := by
  rw [← xLu,← xLv,yCm h]
theorem xYb {l : List Nat} (h : 0 < l.length) : bs (List.take 1 l) = [.int .u8 (l.getD 0 0 : Nat)] := by
  have := yBa h
  rwa [List.drop_zero] at this
theorem xTJ {l : List Nat} {k : Nat} {n : Nat} (h : k < l.length) : bs (List.take k l) ++ (AV.int .u8 n :: bs (List.drop (k + 1) l)) = bs (l.set k n) := by
  rw [← xLu,← xLv,yA9 h]
theorem xDa (k : Nat) (l : List Nat) : List.take k (xAQ l) = xAQ (l.take k) := by simp [xAQ,List.map_take]
theorem xE8 (k : Nat) (l : List Nat) : List.drop k (xAQ l) = xAQ (l.drop k) := by simp [xAQ,List.map_drop]
theorem xPV (a b : List Nat) : xAQ a ++ xAQ b = xAQ (a ++ b) := by simp [xAQ]
theorem xWX {l : List Nat} {k : Nat} (h : k < l.length) : xAQ (List.take 1 (List.drop k l)) = [.int .i64 (l.getD k 0 : Nat)] := by
  rw [← xDa,← xE8,xZy h]
theorem xPW {l : List Nat} (h : 0 < l.length) : xAQ (List.take 1 l) = [.int .i64 (l.getD 0 0 : Nat)] := by
  have := xWX h
  rwa [List.drop_zero] at this
theorem xMY {l : List Nat} {k : Nat} {n : Nat} (h : k < l.length) : xAQ (List.take k l) ++ (AV.int .i64 n :: xAQ (List.drop (k + 1) l)) = xAQ (l.set k n) := by
  rw [← xDa,← xE8,xWW h]
theorem xLw (d : Nat) (H : Heap) : ∀ l : List Nat,(xAQ l).mapM (frz d H) = some (xAQ l)
  | [] => rfl
  | n :: l => by
    have h := xLw d H l
    have : xAQ (n :: l) = .int .i64 (n : Nat) :: xAQ l := rfl
    rw [this,List.mapM_cons,xHN]
    simp [h]
theorem xYc (d : Nat) (H : Heap) (l : List Nat) : (bs l).flatMap (bor d H) = [] := by
  induction l with
  | nil => rfl
  | cons n l ih =>
    have : bs (n :: l) = .int .u8 (n : Nat) :: bs l := rfl
    rw [this,List.flatMap_cons,ih,xFJ]; rfl
theorem xPX (d : Nat) (H : Heap) (l : List Nat) : (xAQ l).flatMap (bor d H) = [] := by
  induction l with
  | nil => rfl
  | cons n l ih =>
    have : xAQ (n :: l) = .int .i64 (n : Nat) :: xAQ l := rfl
    rw [this,List.flatMap_cons,ih,xFJ]; rfl
theorem xMZ (l : List Nat) (n t : Nat) : (l.drop n).getD t 0 = l.getD (n + t) 0 := by simp [List.getD,List.getElem?_drop]
theorem xM0 {α : Type} (l : List α) (k : Nat) : List.take (l.length - k) (List.drop k l) = List.drop k l := by
  rw [List.take_of_length_le]; simp
theorem xTK (d : Nat) (H : Heap) : ∀ l : List Nat,(bs l).mapM (frz d H) = some (bs l)
  | [] => rfl
  | n :: l => by
    have h := xTK d H l
    have e : frz d H (.int .u8 (n : Nat)) = some (.int .u8 (n : Nat)) := by cases d <;> rfl
    have : bs (n :: l) = .int .u8 (n : Nat) :: bs l := rfl
    rw [this,List.mapM_cons,e]
    simp [h]
theorem xSz (H l : Heap) (k : Nat) : (H ++ l)[H.length + k]? = l[k]? := by
  rw [List.getElem?_append_right (by omega)]; congr 1; omega
theorem xWY (H l : Heap) : (H ++ l)[H.length]? = l[0]? := xSz H l 0
theorem xCK (H l : Heap) (k : Nat) (b : Blk) : (H ++ l).set (H.length + k) b = H ++ l.set k b := by
  rw [List.set_append_right _ _ (by omega)]; congr 2; omega
theorem yCn (H l : Heap) (k : Nat) (f : Blk → Blk) : (H ++ l).modify (H.length + k) f = H ++ l.modify k f := by
  apply List.ext_getElem?
  intro i
  rw [List.getElem?_modify]
  by_cases h : i < H.length
  · have h1 : ∀ a : Blk,(if H.length + k = i then f a else a) = a := fun a => if_neg (by omega)
    rw [List.getElem?_append_left h,List.getElem?_append_left h]
    simp only [h1]
    cases H[i]? <;> rfl
  · rw [List.getElem?_append_right (by omega),List.getElem?_append_right (by omega),List.getElem?_modify]
    have h1 : (H.length + k = i) = (k = i - H.length) := propext ⟨fun h => by omega,fun h => by omega⟩
    simp only [h1]
theorem xZz (H l : Heap) (f : Blk → Blk) : (H ++ l).modify H.length f = H ++ l.modify 0 f := yCn H l 0 f
theorem xWZ (H l : Heap) (b : Blk) : (H ++ l).set H.length b = H ++ l.set 0 b := xCK H l 0 b
theorem xTL (l : List Nat) : (bs l).all xAm = true := xLA (fun _ => rfl) l
theorem xLx (l : List Nat) : (xAQ l).all xAm = true := xLA (fun _ => rfl) l
end Go.Abs
