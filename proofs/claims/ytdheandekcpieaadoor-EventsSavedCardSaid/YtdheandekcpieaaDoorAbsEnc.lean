/- Lists of numbers as cells; facts on numbers and heaps that the walk uses. -/
import Derived.Test.YtdheandekcpieaaDoorAbsWalk
import Derived.Laws.BitsLemmas
namespace Go.Abs
set_option linter.unusedVariables false
set_option linter.unusedSimpArgs false
def bs (l : List Nat) : List AV := l.map fun (n : Nat) => AV.int .u8 n
theorem xBV (l : List Nat) : (bs l).length = l.length := by simp [bs]
theorem xBw {l : List Nat} {k : Nat} (h : k < l.length) : List.take 1 (List.drop k (bs l)) = [.int .u8 (l.getD k 0 : Nat)] := by
  rw [List.drop_eq_getElem_cons (by simpa [bs] using h)]
  simp [bs,List.getD,List.getElem?_eq_getElem h]
theorem yDX {n : Int} (h1 : -9223372036854775808 ≤ n) (h2 : n < 9223372036854775808) : IntKind.i64.wrap n = n := by
  rw [IntKind.wrap_i64]; omega
theorem yEE {n : Nat} (h2 : n < 256) : IntKind.u8.wrap (n : Int) = n := by
  rw [IntKind.wrap_u8]; omega
theorem xJw (n : Nat) : ((no_index (OfNat.ofNat n) : Nat) : Int) = OfNat.ofNat n := rfl
theorem yEF (n : Nat) : ((n : Int) < 0) = False := eq_false (by omega)
theorem yEG (a b : Nat) : (a : Int) + (b : Int) = ((a + b : Nat) : Int) := by omega
theorem yB6 (a : Nat) : (a : Int) + 1 = ((a + 1 : Nat) : Int) := by omega
theorem yEH {a b : Nat} (h : b ≤ a) : (a : Int) - (b : Int) = ((a - b : Nat) : Int) := by omega
theorem yB7 {a : Nat} (h : 1 ≤ a) : (a : Int) - 1 = ((a - 1 : Nat) : Int) := by omega
theorem xXD (a b : Nat) : (a : Int).tdiv (b : Int) = ((a / b : Nat) : Int) := by simp [Int.tdiv_eq_ediv_of_nonneg]
theorem yEI (a b : Nat) : (a : Int) * (b : Int) = ((a * b : Nat) : Int) := by simp
theorem xXE (a b : Nat) : (a : Int).tmod (b : Int) = ((a % b : Nat) : Int) := by simp [Int.tmod_eq_emod_of_nonneg]
def xCV (l : List Nat) : List AV := l.map fun (n : Nat) => AV.int .i64 n
theorem xDc (l : List Nat) : (xCV l).length = l.length := by simp [xCV]
theorem yAc {l : List Nat} {k : Nat} (h : k < l.length) : List.take 1 (List.drop k (xCV l)) = [.int .i64 (l.getD k 0 : Nat)] := by
  rw [List.drop_eq_getElem_cons (by simpa [xCV] using h)]
  simp [xCV,List.getD,List.getElem?_eq_getElem h]
theorem xFQ {α : Type} (l : List α) (k : Nat) (x : α) (h : k < l.length) : List.take k l ++ (x :: List.drop (k + 1) l) = l.set k x := (List.set_eq_take_append_cons_drop).trans (if_pos h) |>.symm
theorem xXF {l : List Nat} {k : Nat} {n : Nat} (h : k < l.length) : List.take k (xCV l) ++ (AV.int .i64 n :: List.drop (k + 1) (xCV l)) = xCV (l.set k n) := by
  rw [xFQ _ _ _ (by rw [xDc]; exact h)]; simp [xCV,List.map_set]
theorem yB8 {l : List Nat} {k : Nat} {n : Nat} (h : k < l.length) : List.take k (bs l) ++ (AV.int .u8 n :: List.drop (k + 1) (bs l)) = bs (l.set k n) := by
  rw [xFQ _ _ _ (by rw [xBV]; exact h)]; simp [bs,List.map_set]
theorem xAa (n : Nat) : xCR [AV.int .i64 0] n = xCV (List.replicate n 0) := by
  induction n with
  | zero => rfl
  | succ n ih => simp [xCR,ih,xCV,List.replicate_succ]
theorem xPX (n : Nat) : xCR [AV.int .u8 0] n = bs (List.replicate n 0) := by
  induction n with
  | zero => rfl
  | succ n ih => simp [xCR,ih,bs,List.replicate_succ]
theorem xY1 (a b : List Nat) : bs a ++ bs b = bs (a ++ b) := by simp [bs]
theorem xMq (k : Nat) (l : List Nat) : List.take k (bs l) = bs (l.take k) := by simp [bs,List.map_take]
theorem xMr (k : Nat) (l : List Nat) : List.drop k (bs l) = bs (l.drop k) := by simp [bs,List.map_drop]
theorem yB9 {l : List Nat} {k : Nat} (h : k < l.length) : bs (List.take 1 (List.drop k l)) = [.int .u8 (l.getD k 0 : Nat)] := by
  rw [← xMq,← xMr,xBw h]
theorem xY2 {l : List Nat} (h : 0 < l.length) : bs (List.take 1 l) = [.int .u8 (l.getD 0 0 : Nat)] := by
  have := yB9 h
  rwa [List.drop_zero] at this
theorem xVY {l : List Nat} {k : Nat} {n : Nat} (h : k < l.length) : bs (List.take k l) ++ (AV.int .u8 n :: bs (List.drop (k + 1) l)) = bs (l.set k n) := by
  rw [← xMq,← xMr,yB8 h]
theorem xFR (k : Nat) (l : List Nat) : List.take k (xCV l) = xCV (l.take k) := by simp [xCV,List.map_take]
theorem xFS (k : Nat) (l : List Nat) : List.drop k (xCV l) = xCV (l.drop k) := by simp [xCV,List.map_drop]
theorem xRT (a b : List Nat) : xCV a ++ xCV b = xCV (a ++ b) := by simp [xCV]
theorem xXG {l : List Nat} {k : Nat} (h : k < l.length) : xCV (List.take 1 (List.drop k l)) = [.int .i64 (l.getD k 0 : Nat)] := by
  rw [← xFR,← xFS,yAc h]
theorem xRU {l : List Nat} (h : 0 < l.length) : xCV (List.take 1 l) = [.int .i64 (l.getD 0 0 : Nat)] := by
  have := xXG h
  rwa [List.drop_zero] at this
theorem xOU {l : List Nat} {k : Nat} {n : Nat} (h : k < l.length) : xCV (List.take k l) ++ (AV.int .i64 n :: xCV (List.drop (k + 1) l)) = xCV (l.set k n) := by
  rw [← xFR,← xFS,xXF h]
theorem xMs (d : Nat) (H : Heap) : ∀ l : List Nat,(xCV l).mapM (frz d H) = some (xCV l)
  | [] => rfl
  | n :: l => by
    have h := xMs d H l
    have : xCV (n :: l) = .int .i64 (n : Nat) :: xCV l := rfl
    rw [this,List.mapM_cons,xEu]
    simp [h]
theorem xY3 (d : Nat) (H : Heap) (l : List Nat) : (bs l).flatMap (bor d H) = [] := by
  induction l with
  | nil => rfl
  | cons n l ih =>
    have : bs (n :: l) = .int .u8 (n : Nat) :: bs l := rfl
    rw [this,List.flatMap_cons,ih,xE8]; rfl
theorem xRV (d : Nat) (H : Heap) (l : List Nat) : (xCV l).flatMap (bor d H) = [] := by
  induction l with
  | nil => rfl
  | cons n l ih =>
    have : xCV (n :: l) = .int .i64 (n : Nat) :: xCV l := rfl
    rw [this,List.flatMap_cons,ih,xE8]; rfl
theorem xOV (l : List Nat) (n t : Nat) : (l.drop n).getD t 0 = l.getD (n + t) 0 := by simp [List.getD,List.getElem?_drop]
theorem xOW {α : Type} (l : List α) (k : Nat) : List.take (l.length - k) (List.drop k l) = List.drop k l := by
  rw [List.take_of_length_le]; simp
theorem xVZ (d : Nat) (H : Heap) : ∀ l : List Nat,(bs l).mapM (frz d H) = some (bs l)
  | [] => rfl
  | n :: l => by
    have h := xVZ d H l
    have e : frz d H (.int .u8 (n : Nat)) = some (.int .u8 (n : Nat)) := by cases d <;> rfl
    have : bs (n :: l) = .int .u8 (n : Nat) :: bs l := rfl
    rw [this,List.mapM_cons,e]
    simp [h]
theorem xMG (H l : Heap) (k : Nat) : (H ++ l)[H.length + k]? = l[k]? := by
  rw [List.getElem?_append_right (by omega)]; congr 1; omega
theorem xXH (H l : Heap) : (H ++ l)[H.length]? = l[0]? := xMG H l 0
theorem xCI (H l : Heap) (k : Nat) (b : Blk) : (H ++ l).set (H.length + k) b = H ++ l.set k b := by
  rw [List.set_append_right _ _ (by omega)]; congr 2; omega
theorem yCa (H l : Heap) (k : Nat) (f : Blk → Blk) : (H ++ l).modify (H.length + k) f = H ++ l.modify k f := by
  apply List.ext_getElem?
  intro i
  rw [List.getElem?_modify]
  by_cases h : i < H.length
  · have h1 : ∀ a : Blk,(if H.length + k = i then f a else a) = a := fun a => if_neg (by omega)
    rw [List.getElem?_append_left h,List.getElem?_append_left h]
    simp only [h1]
    cases H[i]? <;> rfl
  · rw [List.getElem?_append_right (by omega),List.getElem?_append_right (by omega),List.getElem?_modify]
    have h1 : (H.length + k = i) = (k = i - H.length) := propext ⟨fun h => by omega,fun h => by omega⟩
    simp only [h1]
theorem yAd (H l : Heap) (f : Blk → Blk) : (H ++ l).modify H.length f = H ++ l.modify 0 f := yCa H l 0 f
theorem xXI (H l : Heap) (b : Blk) : (H ++ l).set H.length b = H ++ l.set 0 b := xCI H l 0 b
theorem xY4 (l : List Nat) : (bs l).all xA2 = true := xMg (fun _ => rfl) l
theorem xRW (l : List Nat) : (xCV l).all xA2 = true := xMg (fun _ => rfl) l
end Go.Abs
