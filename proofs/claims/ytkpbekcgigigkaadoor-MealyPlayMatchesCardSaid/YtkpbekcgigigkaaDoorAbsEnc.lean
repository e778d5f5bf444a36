/- Lists of numbers as cells; facts on numbers and heaps that the walk uses. -/
import Derived.Test.YtkpbekcgigigkaaDoorAbsWalk
import Derived.Laws.BitsLemmas
namespace Go.Abs
set_option linter.unusedVariables false
set_option linter.unusedSimpArgs false
def bs (l : List Nat) : List AV := l.map fun (n : Nat) => AV.int .u8 n
abbrev xBF (z : Bool) (l : List Nat) : AV := .sl z l.length (bs l)
theorem xCg (l : List Nat) : (bs l).length = l.length := by simp [bs]
theorem yAN {l : List Nat} {k : Nat} (h : k < l.length) : List.take 1 (List.drop k (bs l)) = [.int .u8 (l.getD k 0 : Nat)] := by
  rw [List.drop_eq_getElem_cons (by simpa [bs] using h)]
  simp [bs,List.getD,List.getElem?_eq_getElem h]
theorem yAO {n : Int} (h1 : -9223372036854775808 ≤ n) (h2 : n < 9223372036854775808) : IntKind.i64.wrap n = n := by
  rw [IntKind.wrap_i64]; omega
theorem xZw {n : Nat} (h2 : n < 256) : IntKind.u8.wrap (n : Int) = n := by
  rw [IntKind.wrap_u8]; omega
theorem xSv (n : Nat) : ((no_index (OfNat.ofNat n) : Nat) : Int) = OfNat.ofNat n := rfl
theorem yBt (n : Nat) : ((n : Int) < 0) = False := eq_false (by omega)
theorem yAP (a b : Nat) : (a : Int) + (b : Int) = ((a + b : Nat) : Int) := by omega
theorem xZx (a : Nat) : (a : Int) + 1 = ((a + 1 : Nat) : Int) := by omega
theorem yBu {a b : Nat} (h : b ≤ a) : (a : Int) - (b : Int) = ((a - b : Nat) : Int) := by omega
theorem xZy {a : Nat} (h : 1 ≤ a) : (a : Int) - 1 = ((a - 1 : Nat) : Int) := by omega
theorem xZz (a b : Nat) : (a : Int).tdiv (b : Int) = ((a / b : Nat) : Int) := by simp [Int.tdiv_eq_ediv_of_nonneg]
theorem yBv (a b : Nat) : (a : Int) * (b : Int) = ((a * b : Nat) : Int) := by simp
theorem or8 {a b : Nat} (ha : a < 256) (hb : b < 256) : xGe .or .u8 (a : Int) (b : Int) = ((a ||| b : Nat) : Int) := by
  have h1 : (BitVec.ofInt 8 (a : Int)).toNat = a := by simp; omega
  have h2 : (BitVec.ofInt 8 (b : Int)).toNat = b := by simp; omega
  have h3 : a ||| b < 2 ^ 8 := Nat.or_lt_two_pow (by omega) (by omega)
  change IntKind.u8.wrap (((BitVec.ofInt 8 (a : Int) ||| BitVec.ofInt 8 (b : Int)).toNat : Nat) : Int) = _
  rw [BitVec.toNat_or,h1,h2]
  exact xZw (by omega)
theorem xZA (a b : Nat) : (a : Int).tmod (b : Int) = ((a % b : Nat) : Int) := by simp [Int.tmod_eq_emod_of_nonneg]
def xCL (l : List Nat) : List AV := l.map fun (n : Nat) => AV.int .i64 n
theorem xCh (l : List Nat) : (xCL l).length = l.length := by simp [xCL]
theorem xXO {l : List Nat} {k : Nat} (h : k < l.length) : List.take 1 (List.drop k (xCL l)) = [.int .i64 (l.getD k 0 : Nat)] := by
  rw [List.drop_eq_getElem_cons (by simpa [xCL] using h)]
  simp [xCL,List.getD,List.getElem?_eq_getElem h]
theorem xEO {α : Type} (l : List α) (k : Nat) (x : α) (h : k < l.length) : List.take k l ++ (x :: List.drop (k + 1) l) = l.set k x := (List.set_eq_take_append_cons_drop).trans (if_pos h) |>.symm
theorem xVy {l : List Nat} {k : Nat} {n : Nat} (h : k < l.length) : List.take k (xCL l) ++ (AV.int .i64 n :: List.drop (k + 1) (xCL l)) = xCL (l.set k n) := by
  rw [xEO _ _ _ (by rw [xCh]; exact h)]; simp [xCL,List.map_set]
theorem xZB {l : List Nat} {k : Nat} {n : Nat} (h : k < l.length) : List.take k (bs l) ++ (AV.int .u8 n :: List.drop (k + 1) (bs l)) = bs (l.set k n) := by
  rw [xEO _ _ _ (by rw [xCg]; exact h)]; simp [bs,List.map_set]
theorem xAb (n : Nat) : xCr [AV.int .i64 0] n = xCL (List.replicate n 0) := by
  induction n with
  | zero => rfl
  | succ n ih => simp [xCr,ih,xCL,List.replicate_succ]
theorem xSw (n : Nat) : xCr [AV.int .u8 0] n = bs (List.replicate n 0) := by
  induction n with
  | zero => rfl
  | succ n ih => simp [xCr,ih,bs,List.replicate_succ]
theorem xMo (a b : List Nat) : bs (a ++ b) = bs a ++ bs b := by simp [bs]
theorem xWs (a b : List Nat) : bs a ++ bs b = bs (a ++ b) := by simp [bs]
theorem xKL (k : Nat) (l : List Nat) : List.take k (bs l) = bs (l.take k) := by simp [bs,List.map_take]
theorem xKM (k : Nat) (l : List Nat) : List.drop k (bs l) = bs (l.drop k) := by simp [bs,List.map_drop]
theorem xZC {l : List Nat} {k : Nat} (h : k < l.length) : bs (List.take 1 (List.drop k l)) = [.int .u8 (l.getD k 0 : Nat)] := by
  rw [← xKL,← xKM,yAN h]
theorem xWt {l : List Nat} (h : 0 < l.length) : bs (List.take 1 l) = [.int .u8 (l.getD 0 0 : Nat)] := by
  have := xZC h
  rwa [List.drop_zero] at this
theorem xSx {l : List Nat} {k : Nat} {n : Nat} (h : k < l.length) : bs (List.take k l) ++ (AV.int .u8 n :: bs (List.drop (k + 1) l)) = bs (l.set k n) := by
  rw [← xKL,← xKM,xZB h]
theorem xEP (k : Nat) (l : List Nat) : List.take k (xCL l) = xCL (l.take k) := by simp [xCL,List.map_take]
theorem xEQ (k : Nat) (l : List Nat) : List.drop k (xCL l) = xCL (l.drop k) := by simp [xCL,List.map_drop]
theorem xO1 (a b : List Nat) : xCL a ++ xCL b = xCL (a ++ b) := by simp [xCL]
theorem xVz {l : List Nat} {k : Nat} (h : k < l.length) : xCL (List.take 1 (List.drop k l)) = [.int .i64 (l.getD k 0 : Nat)] := by
  rw [← xEP,← xEQ,xXO h]
theorem xO2 {l : List Nat} (h : 0 < l.length) : xCL (List.take 1 l) = [.int .i64 (l.getD 0 0 : Nat)] := by
  have := xVz h
  rwa [List.drop_zero] at this
theorem xMp {l : List Nat} {k : Nat} {n : Nat} (h : k < l.length) : xCL (List.take k l) ++ (AV.int .i64 n :: xCL (List.drop (k + 1) l)) = xCL (l.set k n) := by
  rw [← xEP,← xEQ,xVy h]
theorem xKN (d : Nat) (H : xAj) : ∀ l : List Nat,(xCL l).mapM (frz d H) = some (xCL l)
  | [] => rfl
  | n :: l => by
    have h := xKN d H l
    have : xCL (n :: l) = .int .i64 (n : Nat) :: xCL l := rfl
    rw [this,List.mapM_cons,xEg]
    simp [h]
theorem xWu (d : Nat) (H : xAj) (l : List Nat) : (bs l).flatMap (bor d H) = [] := by
  induction l with
  | nil => rfl
  | cons n l ih =>
    have : bs (n :: l) = .int .u8 (n : Nat) :: bs l := rfl
    rw [this,List.flatMap_cons,ih,xDE]; rfl
theorem xO3 (d : Nat) (H : xAj) (l : List Nat) : (xCL l).flatMap (bor d H) = [] := by
  induction l with
  | nil => rfl
  | cons n l ih =>
    have : xCL (n :: l) = .int .i64 (n : Nat) :: xCL l := rfl
    rw [this,List.flatMap_cons,ih,xDE]; rfl
theorem xMq (l : List Nat) (n t : Nat) : (l.drop n).getD t 0 = l.getD (n + t) 0 := by simp [List.getD,List.getElem?_drop]
theorem xMr {α : Type} (l : List α) (k : Nat) : List.take (l.length - k) (List.drop k l) = List.drop k l := by
  rw [List.take_of_length_le]; simp
theorem xSy (d : Nat) (H : xAj) : ∀ l : List Nat,(bs l).mapM (frz d H) = some (bs l)
  | [] => rfl
  | n :: l => by
    have h := xSy d H l
    have e : frz d H (.int .u8 (n : Nat)) = some (.int .u8 (n : Nat)) := by cases d <;> rfl
    have : bs (n :: l) = .int .u8 (n : Nat) :: bs l := rfl
    rw [this,List.mapM_cons,e]
    simp [h]
theorem xEe {z : Bool} {n : Nat} {l : List Nat} (h : l.length = n) : AV.sl z n (bs l) = xBF z l := by subst h; rfl
theorem xRn (H l : xAj) (k : Nat) : (H ++ l)[H.length + k]? = l[k]? := by
  rw [List.getElem?_append_right (by omega)]; congr 1; omega
theorem xVA (H l : xAj) : (H ++ l)[H.length]? = l[0]? := xRn H l 0
theorem xCB (H l : xAj) (k : Nat) (b : Blk) : (H ++ l).set (H.length + k) b = H ++ l.set k b := by
  rw [List.set_append_right _ _ (by omega)]; congr 2; omega
theorem xZD (H l : xAj) (k : Nat) (f : Blk → Blk) : (H ++ l).modify (H.length + k) f = H ++ l.modify k f := by
  apply List.ext_getElem?
  intro i
  rw [List.getElem?_modify]
  by_cases h : i < H.length
  · have h1 : ∀ a : Blk,(if H.length + k = i then f a else a) = a := fun a => if_neg (by omega)
    rw [List.getElem?_append_left h,List.getElem?_append_left h]
    simp only [h1]
    cases H[i]? <;> rfl
  · rw [List.getElem?_append_right (by omega),List.getElem?_append_right (by omega),List.getElem?_modify]
    have h1 : (H.length + k = i) = (k = i - H.length) := propext ⟨fun h => by omega,fun h => by omega⟩
    simp only [h1]
theorem xXP (H l : xAj) (f : Blk → Blk) : (H ++ l).modify H.length f = H ++ l.modify 0 f := xZD H l 0 f
theorem xVB (H l : xAj) (b : Blk) : (H ++ l).set H.length b = H ++ l.set 0 b := xCB H l 0 b
theorem xWv (l : List Nat) : (bs l).all xAy = true := xKQ (fun _ => rfl) l
theorem xO4 (l : List Nat) : (xCL l).all xAy = true := xKQ (fun _ => rfl) l
end Go.Abs
