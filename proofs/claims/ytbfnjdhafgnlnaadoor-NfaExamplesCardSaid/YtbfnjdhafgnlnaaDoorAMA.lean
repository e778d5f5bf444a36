/- Sets of numbers as words: bitset. -/
import Derived.Test.YtbfnjdhafgnlnaaDoorAProg
import Derived.Test.YtbfnjdhafgnlnaaDoorAbsEnc2
namespace Go.Abs.NfaD
open Go Go.Abs
set_option linter.unusedSimpArgs false
set_option linter.unusedVariables false
noncomputable abbrev L : Rec := lim xAV
abbrev sw (z : Bool) (l : List Nat) : AV := .sl z l.length (w64 l)
def W (l : List Nat) : Prop := ∀ x ∈ l,x < 18446744073709551616
theorem W.get {l : List Nat} (h : W l) (i : Nat) : l.getD i 0 < 18446744073709551616 := by
  rw [List.getD_eq_getElem?_getD]
  cases e : l[i]? with
  | none => simp
  | some x => exact h x (List.mem_of_getElem? e)
theorem xG1 {l : List Nat} {i : Nat} (h : l.length ≤ i) : l.getD i 0 = 0 := by
  simp [List.getD,List.getElem?_eq_none h]
theorem xZQ (z : Bool) (a : List Nat) (i : Nat) (H : Heap) : L.icall (.func 82 []) [sw z a,.int .i64 (i : Nat)] H = some (.int .u64 (a.getD i 0 : Nat),H) := by
  by_cases hi : i < a.length
  · have h1 : (i : Int) < (a.length : Nat) := by omega
    rw [xZH,a82]
    simp (maxSteps := 30000000) (disch := first | assumption | omega | (simp only [List.length_cons,List.length_nil,List.length_append,List.length_set,List.length_replicate,List.length_map,List.length_range,List.length_take,List.length_drop,List.all_cons,List.all_nil,AV.isCell,Bool.and_self,Bool.and_true,xAj,xAc,xAg,xAb] <;> omega) | rfl | decide) only [List.append_nil,xAC,List.length_cons,List.length_nil,Nat.zero_add,Nat.reduceAdd,Nat.reduceSub,pads,List.cons_append,List.nil_append,xAr,xAh,xAe,xAm,xAE,opv,xAq,List.set_cons_succ,List.set_cons_zero,xAl,xAi,xAk,xAf,List.getD_cons_succ,List.getD_cons_zero,xBO,xBC,xAn,xAK,xAN,h1,decide_true,xAv,xAo,xAT,xAY,Int.toNat_natCast,Nat.mul_one,xAF,xBl,xBM,xBx,xCm,xCf,Nat.add_zero,xAM,xAH,xAw,if_true,xBI,xAz,xAJ,xAU,xAt]
  · have h1 : ¬ (i : Int) < (a.length : Nat) := by omega
    rw [xG1 (by omega),xZH,a82]
    simp (maxSteps := 30000000) (disch := first | assumption | omega | (simp only [List.length_cons,List.length_nil,List.length_append,List.length_set,List.length_replicate,List.length_map,List.length_range,List.length_take,List.length_drop,List.all_cons,List.all_nil,AV.isCell,Bool.and_self,Bool.and_true,xAj,xAc,xAg,xAb] <;> omega) | rfl | decide) only [List.append_nil,xAC,List.length_cons,List.length_nil,Nat.zero_add,Nat.reduceAdd,Nat.reduceSub,pads,List.cons_append,List.nil_append,xAr,xAh,xAe,xAm,xAE,opv,xAq,List.set_cons_succ,List.set_cons_zero,xAl,xAi,xAk,xAf,List.getD_cons_succ,List.getD_cons_zero,xBO,xBC,xAn,xAK,xAN,h1,decide_false,xAv,xAo,Bool.false_eq_true,xAT,xAw,if_false,xAH,xAz,xAJ,xAU,xAt,xC8]
theorem yAz (x y : Nat) (H : Heap) (hx : x < 18446744073709551616) (hy : y < 18446744073709551616) : L.icall (.func 88 []) [.int .u64 (x : Nat),.int .u64 (y : Nat)] H = some (.int .u64 (x ||| y : Nat),H) := by
  have h := yAE hx hy
  rw [yAq,a88]
  simp (maxSteps := 30000000) (disch := first | assumption | omega | (simp only [List.length_cons,List.length_nil,List.length_append,List.length_set,List.length_replicate,List.length_map,List.length_range,List.length_take,List.length_drop,List.all_cons,List.all_nil,AV.isCell,Bool.and_self,Bool.and_true,xAj,xAc,xAg,xAb] <;> omega) | rfl | decide) only [List.append_nil,xAC,List.length_cons,List.length_nil,Nat.zero_add,Nat.reduceAdd,Nat.reduceSub,pads,List.cons_append,List.nil_append,xAr,xAh,xAe,xAm,xAE,opv,xAq,List.set_cons_succ,List.set_cons_zero,xAl,xAi,xAk,xAf,List.getD_cons_zero,List.getD_cons_succ,xAK,xNP,h,xAn,xAH,xAz,xAJ,xAU,xAt]
theorem xYA (x y : Nat) (H : Heap) (hx : x < 18446744073709551616) (hy : y < 18446744073709551616) : L.icall (.func 71 []) [.int .u64 (x : Nat),.int .u64 (y : Nat)] H = some (.int .u64 (x &&& y : Nat),H) := by
  have h := xXI hx hy
  rw [yAe,a71]
  simp (maxSteps := 30000000) (disch := first | assumption | omega | (simp only [List.length_cons,List.length_nil,List.length_append,List.length_set,List.length_replicate,List.length_map,List.length_range,List.length_take,List.length_drop,List.all_cons,List.all_nil,AV.isCell,Bool.and_self,Bool.and_true,xAj,xAc,xAg,xAb] <;> omega) | rfl | decide) only [List.append_nil,xAC,List.length_cons,List.length_nil,Nat.zero_add,Nat.reduceAdd,Nat.reduceSub,pads,List.cons_append,List.nil_append,xAr,xAh,xAe,xAm,xAE,opv,xAq,List.set_cons_succ,List.set_cons_zero,xAl,xAi,xAk,xAf,List.getD_cons_zero,List.getD_cons_succ,xAK,xFG,h,xAn,xAH,xAz,xAJ,xAU,xAt]
def xFe (op : Nat → Nat → Nat) (a b : List Nat) (n : Nat) : List Nat := (List.range n).map fun i => op (a.getD i 0) (b.getD i 0)
theorem xEh (op : Nat → Nat → Nat) (a b : List Nat) (n : Nat) : (xFe op a b n).length = n := by simp [xFe]
theorem xTU (op : Nat → Nat → Nat) (a b : List Nat) (n : Nat) : xFe op a b n ++ [op (a.getD n 0) (b.getD n 0)] = xFe op a b (n + 1) := by simp [xFe,List.range_succ]
def xRA : Nat → AV
  | 0 => .sl true 0 []
  | k + 1 => .own false k 0 (k + 1) 1
def xLA (op : Nat → Nat → Nat) (a b : List Nat) : Nat → Heap
  | 0 => []
  | k + 1 => List.replicate k .dead ++ [.cells false false (w64 (xFe op a b (k + 1)))]
theorem xOo {g : Nat} {op : Nat → Nat → Nat} {a b : List Nat} {za zb : Bool} {N : Nat} (hN : N ≤ 64)
    (hop : ∀ x y H,x < 18446744073709551616 → y < 18446744073709551616 → L.icall (.func g []) [.int .u64 (x : Nat),.int .u64 (y : Nat)] H = some (.int .u64 (op x y : Nat),H)) (wa : W a) (wb : W b) : ∀ d i,i + d = N →
    L.loop xNo xUO ⟨xNp (sw za a) (sw zb b) (.func g []) (.func 82 []) (xRA i) (.int .i64 (N : Nat)) (.int .i64 (i : Nat)),xLA op a b i⟩ =
      some (.exit 0,⟨xNp (sw za a) (sw zb b) (.func g []) (.func 82 []) (xRA N) (.int .i64 (N : Nat)) (.int .i64 (N : Nat)),xLA op a b N⟩)
  | 0,i,h => by
    obtain rfl : i = N := by omega
    rw [xSE]
    simp (maxSteps := 30000000) (disch := first | assumption | omega | (simp only [List.length_cons,List.length_nil,List.length_append,List.length_set,List.length_replicate,List.length_map,List.length_range,List.length_take,List.length_drop,List.all_cons,List.all_nil,AV.isCell,Bool.and_self,Bool.and_true,xAj,xAc,xAg,xAb] <;> omega) | rfl | decide) only [xNn,xAr,xAh,xAe,xAm,xAK,opv,List.getD_cons_succ,List.getD_cons_zero,xAN,Int.lt_irrefl,decide_false,xAn,xAq,List.set_cons_succ,List.set_cons_zero,xAl,xAi,xAk,xAf,xAv,xAo,Bool.false_eq_true,xAw,xAD,if_false,xBp,xBe,xNq]
  | d + 1,i,h => by
    have hlt : (i : Int) < (N : Nat) := by omega
    have h1 := xZQ za a i
    have h2 := xZQ zb b i
    have h3 := fun H => hop _ _ H (wa.get i) (wb.get i)
    have ih := xOo (za := za) (zb := zb) hN hop wa wb d (i + 1) (by omega)
    cases i with
    | zero =>
      have hv : w64 (xFe op a b (0 + 1)) = [AV.int .u64 (op (a.getD 0 0) (b.getD 0 0) : Nat)] := rfl
      simp only [xRA,xLA,hv,List.replicate,List.nil_append,Nat.zero_add,Int.natCast_zero,Int.natCast_one] at ih h1 h2 h3 hlt ⊢
      rw [xSE]
      simp (maxSteps := 30000000) (disch := first | assumption | omega | (simp only [List.length_cons,List.length_nil,List.length_append,List.length_set,List.length_replicate,List.length_map,List.length_range,List.length_take,List.length_drop,List.all_cons,List.all_nil,AV.isCell,Bool.and_self,Bool.and_true,xAj,xAc,xAg,xAb] <;> omega) | rfl | decide) only [xNn,xAr,xAh,xAe,xAm,xAK,opv,List.getD_cons_succ,List.getD_cons_zero,xAN,hlt,decide_true,xAn,xAq,List.set_cons_succ,List.set_cons_zero,xAl,xAi,xAk,xAf,xAv,xAo,xAw,xAD,if_true,xAu,xAE,xBa,List.map_cons,List.map_nil,h1,h2,h3,xBs,AV.cells,List.all_cons,List.length_cons,List.length_nil,Nat.zero_add,beq_self_eq_true,List.all_nil,Bool.and_self,xDw,List.append_nil,Nat.mul_one,fillA,Nat.le_refl,AV.isCell,and_self,splice,List.take_zero,List.nil_append,List.drop_succ_cons,List.drop_nil,xBr,xBT,frzN,List.flatMap_cons,xA4,List.flatMap_nil,List.isEmpty_nil,List.mapM_cons,xAO,List.mapM_nil,Option.pure_def,Option.bind_eq_bind,Option.bind_some,xBS,xBE,xDr,xEs,Nat.reduceBEq,xCq,xAs,xBm,Int.zero_add,xDM,xAB,xNq,ih]
    | succ k =>
      have hl := xEh op a b (k + 1)
      have htk : List.take (k + 1) (xFe op a b (k + 1)) = xFe op a b (k + 1) := List.take_of_length_le (by omega)
      have hsn : w64 (xFe op a b (k + 1)) ++ [AV.int .u64 (op (a.getD (k + 1) 0) (b.getD (k + 1) 0) : Nat)] = w64 (xFe op a b (k + 1 + 1)) := by rw [xVs,xTU]
      simp only [xRA,xLA,List.replicate_succ',List.append_assoc,List.cons_append,List.nil_append] at ih ⊢
      rw [xSE]
      simp (maxSteps := 30000000) (disch := first | assumption | omega | (simp only [List.length_cons,List.length_nil,List.length_append,List.length_set,List.length_replicate,List.length_map,List.length_range,List.length_take,List.length_drop,List.all_cons,List.all_nil,AV.isCell,Bool.and_self,Bool.and_true,xAj,xAc,xAg,xAb] <;> omega) | rfl | decide) only [xNn,xAr,xAh,xAe,xAm,xAK,opv,List.getD_cons_succ,List.getD_cons_zero,xAN,hlt,decide_true,xAn,xAq,List.set_cons_succ,List.set_cons_zero,xAl,xAi,xAk,xAf,xAv,xAo,xAw,xAD,if_true,xAu,xAE,xBa,List.map_cons,List.map_nil,h1,h2,h3,xBs,AV.cells,List.all_cons,List.length_cons,List.length_nil,Nat.zero_add,beq_self_eq_true,List.all_nil,Bool.and_self,xDw,List.append_nil,Nat.mul_one,fillA,Nat.le_refl,AV.isCell,and_self,splice,List.take_zero,List.nil_append,List.drop_succ_cons,List.drop_nil,xBr,xBT,frzN,List.flatMap_cons,xA4,List.flatMap_nil,List.isEmpty_nil,List.mapM_cons,xAO,List.mapM_nil,Option.pure_def,Option.bind_eq_bind,Option.bind_some,xBS,xBE,xDr,xDW,xEw,List.getElem?_cons_zero,xCF,Nat.reduceBEq,List.length_append,List.length_replicate,xIk,xBx,htk,hsn,List.append_assoc,List.cons_append,xAs,xBm,xC9,xDM,xAB,xNq,ih]
def xCR (l : List Nat) : Nat → Nat
  | 0 => 0
  | n + 1 => if l.getD n 0 = 0 then xCR l n else n + 1
theorem xG2 (l : List Nat) : ∀ n,xCR l n ≤ n
  | 0 => Nat.le_refl _
  | n + 1 => by unfold xCR; split; have := xG2 l n; omega; omega
theorem xJ4 (l : List Nat) : ∀ n i,xCR l n ≤ i → i < n → l.getD i 0 = 0
  | 0,i,h,h2 => by omega
  | n + 1,i,h,h2 => by
    unfold xCR at h
    split at h
    · rename_i e
      by_cases hi : i = n
      · subst hi; exact e
      · exact xJ4 l n i h (by omega)
    · omega
theorem xJ5 (l : List Nat) : ∀ n,0 < xCR l n → l.getD (xCR l n - 1) 0 ≠ 0
  | 0,h => by simp [xCR] at h
  | n + 1,h => by
    unfold xCR at h ⊢
    split
    · rename_i e
      rw [if_pos e] at h
      exact xJ5 l n h
    · rename_i e; simpa using e
theorem xLB {l : List Nat} {k : Nat} : ∀ n,n ≤ l.length → n ≤ 64 →
    L.loop xKO xSF ⟨xI7 (.own false k 0 n 1),List.replicate k .dead ++ [.cells false false (w64 l)]⟩ = some (.exit 2,⟨xI7 (.own false k 0 (xCR l n) 1),List.replicate k .dead ++ [.cells false false (w64 l)]⟩)
  | 0,_,_ => by
    rw [xSG]
    simp (maxSteps := 30000000) (disch := first | assumption | omega | (simp only [List.length_cons,List.length_nil,List.length_append,List.length_set,List.length_replicate,List.length_map,List.length_range,List.length_take,List.length_drop,List.all_cons,List.all_nil,AV.isCell,Bool.and_self,Bool.and_true,xAj,xAc,xAg,xAb] <;> omega) | rfl | decide) only [xKN,xAr,xAh,xAe,xAm,xAE,opv,List.getD_cons_succ,List.getD_cons_zero,xAq,List.set_cons_succ,List.set_cons_zero,xAl,xBO,xDq,xC8,xAn,xAK,xDa,Int.lt_irrefl,decide_false,xAP,xAI,Bool.false_eq_true,xBk,if_false,xAT,xAF,xBq,xAQ,xAi,xAk,xAf,xAv,xAo,xAw,xAD,xBp,xBe,xKP,xCR]
  | n + 1,h,h2 => by
    have h0 : (0 : Int) < ((n + 1 : Nat) : Int) := by omega
    have ih := xLB (l := l) (k := k) n (by omega) (by omega)
    unfold xCR
    rw [xSG]
    by_cases e : l.getD n 0 = 0
    · have e' : (((l.getD n 0 : Nat) : Int) = 0) = True := eq_true (by omega)
      simp (maxSteps := 30000000) (disch := first | assumption | omega | (simp only [List.length_cons,List.length_nil,List.length_append,List.length_set,List.length_replicate,List.length_map,List.length_range,List.length_take,List.length_drop,List.all_cons,List.all_nil,AV.isCell,Bool.and_self,Bool.and_true,xAj,xAc,xAg,xAb] <;> omega) | rfl | decide) only [xKN,xAr,xAh,xAe,xAm,xAE,opv,List.getD_cons_succ,List.getD_cons_zero,xAq,List.set_cons_succ,List.set_cons_zero,xAl,xBO,xDq,xAn,xAK,xDa,h0,decide_true,xAP,xAI,xBk,if_true,xJg,xSL,Nat.add_sub_cancel,xDM,xAT,xCv,Int.toNat_natCast,Nat.mul_one,Nat.zero_add,xAF,xA7,xEw,List.getElem?_cons_zero,xAy,xBM,xBx,xCm,xCf,Nat.add_zero,e,xC8,xAM,xDo,xBq,xAQ,xAi,xAk,xAf,xAv,xAo,xAw,xAD,xAu,xF0,Option.map_none,Option.map_some,xHn,xFJ,xL5,Nat.sub_zero,xAs,xAB,xKP,ih]
    · have e' : (((l.getD n 0 : Nat) : Int) = 0) = False := eq_false (by omega)
      simp (maxSteps := 30000000) (disch := first | assumption | omega | (simp only [List.length_cons,List.length_nil,List.length_append,List.length_set,List.length_replicate,List.length_map,List.length_range,List.length_take,List.length_drop,List.all_cons,List.all_nil,AV.isCell,Bool.and_self,Bool.and_true,xAj,xAc,xAg,xAb] <;> omega) | rfl | decide) only [xKN,xAr,xAh,xAe,xAm,xAE,opv,List.getD_cons_succ,List.getD_cons_zero,xAq,List.set_cons_succ,List.set_cons_zero,xAl,xBO,xDq,xAn,xAK,xDa,h0,decide_true,xAP,xAI,xBk,if_true,xJg,xSL,Nat.add_sub_cancel,xDM,xAT,xCv,Int.toNat_natCast,Nat.mul_one,Nat.zero_add,xAF,xA7,xEw,List.getElem?_cons_zero,xAy,xBM,xBx,xCm,xCf,Nat.add_zero,xAM,xDo,e',decide_false,xBq,xAQ,ite_self,xAi,xAk,xAf,xAv,xAo,Bool.false_eq_true,xAw,xAD,if_false,xBp,xBe,xKP,e]
theorem xWj (z : Bool) (l : List Nat) (n : Nat) (h : l.length = n) (h64 : n ≤ 64) : L.pcall 83 [.sl z n (w64 l)] = some (.sl z n (w64 l)) := by
  have htk : List.take n l = l := List.take_of_length_le (by omega)
  rw [yAm,a83,xAL]
  simp (maxSteps := 30000000) (disch := first | assumption | omega | (simp only [List.length_cons,List.length_nil,List.length_append,List.length_set,List.length_replicate,List.length_map,List.length_range,List.length_take,List.length_drop,List.all_cons,List.all_nil,AV.isCell,Bool.and_self,Bool.and_true,xAj,xAc,xAg,xAb] <;> omega) | rfl | decide) only [xAC,List.length_cons,List.length_nil,Nat.zero_add,Nat.reduceSub,pads,List.cons_append,List.nil_append,xAr,xAh,xAe,xAm,xAE,opv,xAq,List.set_cons_succ,List.set_cons_zero,xAl,xAi,xAk,xAf,List.getD_cons_zero,xBO,List.getD_cons_succ,xBC,xAn,xF0,Option.map_none,Option.map_some,xFI,xHv,Int.toNat_natCast,xJm,Nat.sub_zero,Nat.mul_one,List.drop_zero,xBx,htk,xAH,xAz,xAJ,xAU,xAt,xAx,frzN,xBZ]
def xDE (op : Nat → Nat → Nat) (a b : List Nat) : List Nat :=
  (xFe op a b (min (max a.length b.length) 64)).take (xCR (xFe op a b (min (max a.length b.length) 64)) (min (max a.length b.length) 64))
theorem xPb {g : Nat} {op : Nat → Nat → Nat} {a b : List Nat} {za zb : Bool} (hop : ∀ x y H,x < 18446744073709551616 → y < 18446744073709551616 → L.icall (.func g []) [.int .u64 (x : Nat),.int .u64 (y : Nat)] H = some (.int .u64 (op x y : Nat),H)) (wa : W a) (wb : W b) :
    ∃ z H',L.icall (.func 70 []) [sw za a,sw zb b,.func g []] [] = some (sw z (xDE op a b),H') := by
  unfold xDE
  have hm : min (max (a.length : Int) (b.length : Int)) 64 = ((min (max a.length b.length) 64 : Nat) : Int) := by omega
  have hN : min (max a.length b.length) 64 ≤ 64 := by omega
  have hl := xOo (za := za) (zb := zb) hN hop wa wb (min (max a.length b.length) 64) 0 (by omega)
  generalize min (max a.length b.length) 64 = N at *
  simp only [Int.natCast_zero] at hl
  cases N with
  | zero =>
    refine ⟨true,[],?_⟩
    simp only [xRA,xLA,Int.natCast_zero] at hl hm
    have hs : L.loop xKO xSF ⟨xI7 (.sl true 0 []),[]⟩ = some (.exit 2,⟨xI7 (.sl true 0 []),[]⟩) := by
      rw [xSG]
      simp (maxSteps := 30000000) (disch := first | assumption | omega | (simp only [List.length_cons,List.length_nil,List.length_append,List.length_set,List.length_replicate,List.length_map,List.length_range,List.length_take,List.length_drop,List.all_cons,List.all_nil,AV.isCell,Bool.and_self,Bool.and_true,xAj,xAc,xAg,xAb] <;> omega) | rfl | decide) only [xKN,xAr,xAh,xAe,xAm,xAE,opv,List.getD_cons_succ,List.getD_cons_zero,xAq,List.set_cons_succ,List.set_cons_zero,xAl,xBO,xBC,xC8,xAn,xAK,xDa,Int.lt_irrefl,decide_false,xAP,xAI,Bool.false_eq_true,xBk,if_false,xAT,xAF,xBq,xAQ,xAi,xAk,xAf,xAv,xAo,xAw,xAD,xBp,xBe,xKP]
    have hc := xWj true [] 0 rfl (by omega)
    rw [xPf] at hc
    rw [xZE,a70]
    simp (maxSteps := 30000000) (disch := first | assumption | omega | (simp only [List.length_cons,List.length_nil,List.length_append,List.length_set,List.length_replicate,List.length_map,List.length_range,List.length_take,List.length_drop,List.all_cons,List.all_nil,AV.isCell,Bool.and_self,Bool.and_true,xAj,xAc,xAg,xAb] <;> omega) | rfl | decide) only [List.append_nil,xAC,List.length_cons,List.length_nil,Nat.zero_add,Nat.reduceAdd,Nat.reduceSub,pads,List.cons_append,List.nil_append,xAr,xAh,xAe,xAm,xAE,opv,xAq,List.set_cons_succ,List.set_cons_zero,xAl,xAi,xAk,xAf,List.getD_cons_zero,xBO,List.getD_cons_succ,xBC,xAn,xE7,xEt,xEa,xDs,hm,xAu,xBw,xNq,hl,xBc,if_true,xKP,hs,xBn,List.map_cons,List.map_nil,xA0,frzN,List.mapM_cons,xBZ,List.mapM_nil,Option.pure_def,Option.bind_eq_bind,Option.bind_some,xAZ,hc,xA2,xC6,xBQ,Bool.false_eq_true,fzIds,List.flatMap_cons,xCx,List.flatMap_nil,List.foldl_nil,ite_self,xAH,xAz,xAJ,xAU,xAt]
    rfl
  | succ k =>
    simp only [xRA,xLA] at hl
    have hvl := xEh op a b (k + 1)
    have hs := xLB (l := xFe op a b (k + 1)) (k := k) (k + 1) (by omega) hN
    have hle := xG2 (xFe op a b (k + 1)) (k + 1)
    generalize xCR (xFe op a b (k + 1)) (k + 1) = n at *
    have hlen : ((xFe op a b (k + 1)).take n).length = n := by rw [List.length_take]; omega
    have hc := xWj false ((xFe op a b (k + 1)).take n) n hlen (by omega)
    refine ⟨false,List.replicate k .dead ++ [.cells true false (w64 (xFe op a b (k + 1)))],?_⟩
    rw [xZE,a70]
    simp (maxSteps := 30000000) (disch := first | assumption | omega | (simp only [List.length_cons,List.length_nil,List.length_append,List.length_set,List.length_replicate,List.length_map,List.length_range,List.length_take,List.length_drop,List.all_cons,List.all_nil,AV.isCell,Bool.and_self,Bool.and_true,xAj,xAc,xAg,xAb] <;> omega) | rfl | decide) only [List.append_nil,xAC,List.length_cons,List.length_nil,Nat.zero_add,Nat.reduceAdd,Nat.reduceSub,pads,List.cons_append,List.nil_append,xAr,xAh,xAe,xAm,xAE,opv,xAq,List.set_cons_succ,List.set_cons_zero,xAl,xAi,xAk,xAf,List.getD_cons_zero,xBO,List.getD_cons_succ,xBC,xAn,xE7,xEt,xEa,xDs,hm,xAu,xBw,xNq,hl,xBc,if_true,xKP,hs,xBn,List.map_cons,List.map_nil,xA0,frzN,List.mapM_cons,xCc,xEw,List.getElem?_cons_zero,xDD,Nat.mul_one,List.drop_zero,xBx,xJ9,xBS,List.mapM_nil,Option.pure_def,Option.bind_eq_bind,Option.bind_some,xAZ,hc,xA2,xC6,xBQ,Bool.false_eq_true,fzIds,List.flatMap_cons,xCK,xHo,xPg,List.flatMap_nil,List.foldl_cons,xMl,List.modify_cons,xDi,List.foldl_nil,if_false,xAH,xAz,xAJ,xAU,xAt]
    rw [xWm hlen]
theorem xTV (op : Nat → Nat → Nat) (a b : List Nat) (h0 : op 0 0 = 0) (i : Nat) (hi : i < 64) : (xDE op a b).getD i 0 = op (a.getD i 0) (b.getD i 0) := by
  unfold xDE
  generalize hN : min (max a.length b.length) 64 = N
  have hv : ∀ i,i < N → (xFe op a b N).getD i 0 = op (a.getD i 0) (b.getD i 0) := fun i hi => by simp [xFe,hi]
  have hle := xG2 (xFe op a b N) N
  by_cases h : i < xCR (xFe op a b N) N
  · rw [← hv i (by omega)]
    simp [List.getD,List.getElem?_take,h]
  · rw [xG1 (by rw [List.length_take,xEh]; omega)]
    by_cases h2 : i < N
    · rw [← hv i h2]
      exact (xJ4 _ N i (by omega) h2).symm
    · rw [xG1 (l := a) (by omega),xG1 (l := b) (by omega),h0]
theorem xJ6 (op : Nat → Nat → Nat) (a b : List Nat) : (xDE op a b).length ≤ 64 := by
  unfold xDE
  rw [List.length_take,xEh]; omega
theorem xPc {op : Nat → Nat → Nat} {a b : List Nat} (hop : ∀ x y,x < 18446744073709551616 → y < 18446744073709551616 → op x y < 18446744073709551616) (wa : W a) (wb : W b) : W (xDE op a b) := by
  intro x hx
  have := List.mem_of_mem_take hx
  simp only [xFe,List.mem_map] at this
  obtain ⟨i,_,rfl⟩ := this
  exact hop _ _ (wa.get i) (wb.get i)
theorem xRB (op : Nat → Nat → Nat) (a b : List Nat) (h : xDE op a b ≠ []) : (xDE op a b).getD ((xDE op a b).length - 1) 0 ≠ 0 := by
  unfold xDE at h ⊢
  generalize hN : min (max a.length b.length) 64 = N at *
  have hle := xG2 (xFe op a b N) N
  have hl : ((xFe op a b N).take (xCR (xFe op a b N) N)).length = xCR (xFe op a b N) N := by rw [List.length_take,xEh]; omega
  have hp : 0 < xCR (xFe op a b N) N := by
    rw [← hl]; exact List.length_pos_iff.2 h
  rw [hl]
  have := xJ5 _ N hp
  rw [show ((xFe op a b N).take (xCR (xFe op a b N) N)).getD (xCR (xFe op a b N) N - 1) 0 = (xFe op a b N).getD (xCR (xFe op a b N) N - 1) 0 from by
    simp [List.getD,List.getElem?_take,show xCR (xFe op a b N) N - 1 < xCR (xFe op a b N) N by omega]]
  exact this
def mem (l : List Nat) (j : Nat) : Bool := decide (j < 4096) && (l.getD (j / 64) 0).testBit (j % 64)
theorem xMf {op : Nat → Nat → Nat} {f : Bool → Bool → Bool} (a b : List Nat) (h0 : op 0 0 = 0) (hf : ∀ x y i,(op x y).testBit i = f (x.testBit i) (y.testBit i)) (j : Nat) (hj : j < 4096) : mem (xDE op a b) j = f (mem a j) (mem b j) := by
  unfold mem
  rw [xTV op a b h0 _ (by omega),hf]
  simp [hj]
theorem xTW {x : Nat} (h : x ≠ 0) (hx : x < 18446744073709551616) : ∃ i,i < 64 ∧ x.testBit i = true := by
  obtain ⟨i,hi⟩ := Nat.exists_testBit_ne_of_ne h
  rw [Nat.zero_testBit] at hi
  have h1 : x.testBit i = true := by simpa using hi
  refine ⟨i,?_,h1⟩
  rcases Nat.lt_or_ge i 64 with q | q
  · exact q
  · have : x.testBit i = false := Nat.testBit_lt_two_pow (Nat.lt_of_lt_of_le hx (by
      have : 2 ^ 64 ≤ 2 ^ i := Nat.pow_le_pow_right (by omega) q
      omega))
    rw [this] at h1; cases h1
def HasSet (v : AV) (S : Nat → Bool) : Prop := ∃ z l,v = sw z l ∧ W l ∧ l.length < 1099511627776 ∧ ∀ j,mem l j = S j
theorem HasSet.out {v : AV} {S : Nat → Bool} (h : HasSet v S) {j : Nat} (hj : 4096 ≤ j) : S j = false := by
  obtain ⟨z,l,rfl,_,_,h⟩ := h
  rw [← h j]
  simp [mem,show ¬ j < 4096 by omega]
theorem HasSet.congr {v : AV} {S T : Nat → Bool} (h : HasSet v S) (e : ∀ j,S j = T j) : HasSet v T := by
  obtain ⟨z,l,rfl,w,hl,h⟩ := h
  exact ⟨z,l,rfl,w,hl,fun j => (h j).trans (e j)⟩
theorem xOp {z : Bool} : HasSet (.sl z 0 []) (fun _ => false) := ⟨z,[],rfl,by intro x hx; simp at hx,by simp,fun j => by simp [mem]⟩
theorem xZs {x y : Nat} (hx : x < 18446744073709551616) (hy : y < 18446744073709551616) : x ||| y < 18446744073709551616 := by
  have : x ||| y < 2 ^ 64 := Nat.or_lt_two_pow (by omega) (by omega)
  omega
theorem xTX {za zb : Bool} {a b : List Nat} (wa : W a) (wb : W b) (ha : a.length < 1099511627776) (hb : b.length < 1099511627776) : ∃ z,L.pcall 77 [sw za a,sw zb b] = some (sw z (xDE (· ||| ·) a b)) := by
  obtain ⟨z,H',h⟩ := xPb (za := za) (zb := zb) (g := 88) (op := (· ||| ·)) (fun x y H hx hy => yAz x y H hx hy) wa wb
  refine ⟨z,?_⟩
  rw [yAj,a77,xAL]
  simp (maxSteps := 30000000) (disch := first | assumption | omega | (simp only [List.length_cons,List.length_nil,List.length_append,List.length_set,List.length_replicate,List.length_map,List.length_range,List.length_take,List.length_drop,List.all_cons,List.all_nil,AV.isCell,Bool.and_self,Bool.and_true,xAj,xAc,xAg,xAb] <;> omega) | rfl | decide) only [xAC,List.length_cons,List.length_nil,Nat.zero_add,Nat.reduceAdd,Nat.reduceSub,pads,List.cons_append,List.nil_append,xAr,xAh,xAe,xAm,xAE,opv,xAq,List.set_cons_succ,List.set_cons_zero,xAl,xAi,xAk,xAf,List.getD_cons_zero,List.getD_cons_succ,xBa,List.map_cons,List.map_nil,h,xAH,xAz,xAJ,xAU,xAt,xAx,frzN,xBZ]
theorem xTY {v u : AV} {S T : Nat → Bool} (hv : HasSet v S) (hu : HasSet u T) : ∃ z l,L.pcall 77 [v,u] = some (sw z l) ∧ HasSet (sw z l) (fun j => S j || T j) := by
  obtain ⟨za,a,rfl,wa,la,ha⟩ := id hv
  obtain ⟨zb,b,rfl,wb,lb,hb⟩ := id hu
  obtain ⟨z,h⟩ := xTX (za := za) (zb := zb) wa wb la lb
  refine ⟨z,_,h,z,_,rfl,xPc (fun x y hx hy => xZs hx hy) wa wb,by have := xJ6 (· ||| ·) a b; omega,fun j => ?_⟩
  by_cases hj : j < 4096
  · rw [xMf (f := (· || ·)) a b (by simp) (fun x y i => by simp) j hj,ha,hb]
  · show mem _ j = (S j || T j)
    rw [hv.out (j := j) (by omega),hu.out (j := j) (by omega)]
    simp [mem,hj]
theorem xOq {v u : AV} {S T : Nat → Bool} (hv : HasSet v S) (hu : HasSet u T) : ∃ t,L.pcall 53 [v,u] = some (.bool t) ∧ (t = true ↔ ∃ j,S j = true ∧ T j = true) := by
  obtain ⟨za,a,rfl,wa,la,ha⟩ := id hv
  obtain ⟨zb,b,rfl,wb,lb,hb⟩ := id hu
  obtain ⟨z,H',h⟩ := xPb (za := za) (zb := zb) (g := 71) (op := (· &&& ·)) (fun x y H hx hy => xYA x y H hx hy) wa wb
  have hlen := xJ6 (· &&& ·) a b
  have h62 : L.pcall 45 [sw za a,sw zb b] = some (sw z (xDE (· &&& ·) a b)) := by
    rw [xZA,a45,xAL]
    simp (maxSteps := 30000000) (disch := first | assumption | omega | (simp only [List.length_cons,List.length_nil,List.length_append,List.length_set,List.length_replicate,List.length_map,List.length_range,List.length_take,List.length_drop,List.all_cons,List.all_nil,AV.isCell,Bool.and_self,Bool.and_true,xAj,xAc,xAg,xAb] <;> omega) | rfl | decide) only [xAC,List.length_cons,List.length_nil,Nat.zero_add,Nat.reduceAdd,Nat.reduceSub,pads,List.cons_append,List.nil_append,xAr,xAh,xAe,xAm,xAE,opv,xAq,List.set_cons_succ,List.set_cons_zero,xAl,xAi,xAk,xAf,List.getD_cons_zero,List.getD_cons_succ,xBa,List.map_cons,List.map_nil,h,xAH,xAz,xAJ,xAU,xAt,xAx,frzN,xBZ]
  refine ⟨decide (0 < (xDE (· &&& ·) a b).length),?_,?_⟩
  · have e : ((0 : Int) < ((xDE (· &&& ·) a b).length : Nat)) = (0 < (xDE (· &&& ·) a b).length) := propext ⟨fun h => by omega,fun h => by omega⟩
    rw [xZ2,a53,xAL]
    simp (maxSteps := 30000000) (disch := first | assumption | omega | (simp only [List.length_cons,List.length_nil,List.length_append,List.length_set,List.length_replicate,List.length_map,List.length_range,List.length_take,List.length_drop,List.all_cons,List.all_nil,AV.isCell,Bool.and_self,Bool.and_true,xAj,xAc,xAg,xAb] <;> omega) | rfl | decide) only [xAC,List.length_cons,List.length_nil,Nat.zero_add,Nat.reduceAdd,Nat.reduceSub,pads,List.cons_append,List.nil_append,xAr,xAh,xAe,xAm,xAE,opv,xAq,List.set_cons_succ,List.set_cons_zero,xAl,xAi,xAk,xAf,List.getD_cons_zero,List.getD_cons_succ,xBn,List.map_cons,List.map_nil,xA0,frzN,List.mapM_cons,xBZ,List.mapM_nil,Option.pure_def,Option.bind_eq_bind,Option.bind_some,xAZ,h62,xA2,xC6,xBQ,Bool.false_eq_true,fzIds,List.flatMap_cons,xCx,List.flatMap_nil,List.append_nil,List.foldl_nil,ite_self,xBO,xBC,xAn,xAK,xDa,e,xAH,xAz,xAJ,xAU,xAt,xAx,xCr]
  · rw [decide_eq_true_eq]
    have hmem : ∀ j,j < 4096 → mem (xDE (· &&& ·) a b) j = (S j && T j) := fun j hj => by
      rw [xMf (f := (· && ·)) a b (by simp) (fun x y i => by simp) j hj,ha,hb]
    constructor
    · intro hpos
      have hne : xDE (· &&& ·) a b ≠ [] := List.length_pos_iff.1 hpos
      have hlast := xRB (· &&& ·) a b hne
      obtain ⟨i,hi,hbit⟩ := xTW hlast ((xPc (fun x y hx hy => Nat.lt_of_le_of_lt Nat.and_le_left hx) wa wb).get _)
      have hj : 64 * ((xDE (· &&& ·) a b).length - 1) + i < 4096 := by omega
      have := hmem _ hj
      have hm : mem (xDE (· &&& ·) a b) (64 * ((xDE (· &&& ·) a b).length - 1) + i) = true := by
        unfold mem
        rw [show (64 * ((xDE (· &&& ·) a b).length - 1) + i) / 64 = (xDE (· &&& ·) a b).length - 1 by omega,show (64 * ((xDE (· &&& ·) a b).length - 1) + i) % 64 = i by omega,hbit]
        simp [hj]
      rw [hm] at this
      have h2 := this.symm
      simp only [Bool.and_eq_true] at h2
      exact ⟨_,h2⟩
    · rintro ⟨j,h1,h2⟩
      have hj : j < 4096 := by
        rcases Nat.lt_or_ge j 4096 with q | q
        · exact q
        · rw [hv.out q] at h1; cases h1
      have := hmem j hj
      rw [h1,h2] at this
      rcases Nat.eq_zero_or_pos (xDE (· &&& ·) a b).length with q | q
      · rw [List.length_eq_zero_iff.1 q] at this
        simp [mem] at this
      · exact q
theorem xVn (n : Nat) : xEo [AV.int .u64 0] n = w64 (List.replicate n 0) := by
  induction n with
  | zero => rfl
  | succ n ih => simp [xEo,ih,w64,List.replicate_succ]
def xVo (k : Nat) : List Nat := (List.replicate (k / 64 + 1) 0).set (k / 64) (2 ^ (k % 64))
theorem xTZ (k : Nat) (hk : k < 4096) : L.pcall 79 [.int .i64 (k : Nat)] = some (.sl false (k / 64 + 1) (w64 (xVo k))) := by
  have h1 : ¬ ((4095 : Int) < (k : Nat)) := by omega
  have h64 : ((k : Nat) : Int).tdiv 64 = ((k / 64 : Nat) : Int) := by rw [show (64 : Int) = ((64 : Nat) : Int) from rfl,xWL]
  have hm64 : ((k : Nat) : Int).tmod 64 = ((k % 64 : Nat) : Int) := by rw [show (64 : Int) = ((64 : Nat) : Int) from rfl,xWM]
  have hlt : k % 64 < 64 := Nat.mod_lt _ (by omega)
  have hd : k / 64 < 64 := by omega
  have hsh : IntKind.u64.wrap (1 * 2 ^ min (k % 64) IntKind.u64.bits) = ((2 ^ (k % 64) : Nat) : Int) := by
    have e1 : min (k % 64) IntKind.u64.bits = k % 64 := Nat.min_eq_left (by show k % 64 ≤ 64; omega)
    have e2 : (2 : Nat) ^ (k % 64) < 2 ^ 64 := Nat.pow_lt_pow_right (by omega) hlt
    rw [e1,Int.one_mul,show (2 : Int) ^ (k % 64) = ((2 ^ (k % 64) : Nat) : Int) from by rw [Int.natCast_pow]; rfl]
    exact xOz (by omega)
  unfold xVo
  generalize k / 64 = d at *
  generalize k % 64 = r at *
  have hlen : ((List.replicate (d + 1) 0).set d (2 ^ r)).length = d + 1 := by simp
  have htk : List.take (d + 1) ((List.replicate (d + 1) 0).set d (2 ^ r)) = (List.replicate (d + 1) 0).set d (2 ^ r) := List.take_of_length_le (by omega)
  rw [yAk,a79,xAL]
  simp (maxSteps := 30000000) (disch := first | assumption | omega | (simp only [List.length_cons,List.length_nil,List.length_append,List.length_set,List.length_replicate,List.length_map,List.length_range,List.length_take,List.length_drop,List.all_cons,List.all_nil,AV.isCell,Bool.and_self,Bool.and_true,xAj,xAc,xAg,xAb] <;> omega) | rfl | decide) only [xAC,List.length_cons,List.length_nil,Nat.zero_add,Nat.reduceSub,pads,List.cons_append,List.nil_append,xAr,xAh,xAe,xAm,xAE,opv,xAq,List.set_cons_succ,List.set_cons_zero,xAl,xAi,xAk,xAf,List.getD_cons_zero,xAK,List.getD_cons_succ,xAN,xX6,decide_false,xAn,xAP,xAI,xBk,if_true,xDa,h1,xBq,xAQ,Bool.false_eq_true,if_false,xAv,xAo,xAH,xAw,xO2,h64,xDM,xBm,xC9,xHm,xL4,Int.toNat_natCast,xVn,xCq,xO3,hm64,xHk,hsh,xAT,xCv,Nat.mul_one,xA6,AV.cells,xBK,List.getElem?_cons_zero,xAX,splice,xBx,xBM,List.append_assoc,xMk,xAG,xBj,xAz,xAJ,xAU,xAt,xAx,frzN,xCc,xDD,List.drop_zero,htk,xJ9,xBS]
theorem xYB (k : Nat) : W (xVo k) := by
  intro x hx
  rcases List.mem_or_eq_of_mem_set hx with h | rfl
  · rw [(List.mem_replicate.1 h).2]; omega
  · have : (2 : Nat) ^ (k % 64) < 2 ^ 64 := Nat.pow_lt_pow_right (by omega) (Nat.mod_lt _ (by omega))
    omega
theorem xVp (k : Nat) (hk : k < 4096) (j : Nat) : mem (xVo k) j = decide (j = k) := by
  unfold mem xVo
  rw [List.getD_eq_getElem?_getD,List.getElem?_set]
  by_cases h : k / 64 = j / 64
  · rw [if_pos h,if_pos (by simp <;> omega)]
    simp only [Option.getD_some,Nat.testBit_two_pow]
    by_cases e : j = k
    · subst e; simp [hk]
    · have : ¬ k % 64 = j % 64 := by omega
      simp [e,this]
  · rw [if_neg h]
    have e : ¬ j = k := by rintro rfl; exact h rfl
    simp [e,List.getElem?_replicate]
    split <;> simp
theorem xLC (k : Nat) (hk : k < 4096) : ∃ z l,L.pcall 79 [.int .i64 (k : Nat)] = some (sw z l) ∧ HasSet (sw z l) (fun j => decide (j = k)) := by
  have hlen : (xVo k).length = k / 64 + 1 := by simp [xVo]
  refine ⟨false,xVo k,?_,false,xVo k,rfl,xYB k,by omega,xVp k hk⟩
  rw [xTZ k hk,xWm hlen]
theorem xXy {v : AV} {S : Nat → Bool} (hv : HasSet v S) (k : Nat) (hk : k < 4096) : L.pcall 67 [v,.int .i64 (k : Nat)] = some (.bool (S k)) := by
  obtain ⟨z,l,h1,h2⟩ := xLC k hk
  obtain ⟨t,h3,h4⟩ := xOq hv h2
  obtain ⟨za,a,rfl,wa,la,ha⟩ := id hv
  have e : t = S k := by
    rw [Bool.eq_iff_iff,h4]
    constructor
    · rintro ⟨j,hj,hk⟩
      simp only [decide_eq_true_eq] at hk
      rw [← hk]; exact hj
    · intro h
      exact ⟨k,h,by simp⟩
  rw [e] at h3
  rw [yAc,a67,xAL]
  simp (maxSteps := 30000000) (disch := first | assumption | omega | (simp only [List.length_cons,List.length_nil,List.length_append,List.length_set,List.length_replicate,List.length_map,List.length_range,List.length_take,List.length_drop,List.all_cons,List.all_nil,AV.isCell,Bool.and_self,Bool.and_true,xAj,xAc,xAg,xAb] <;> omega) | rfl | decide) only [xAC,List.length_cons,List.length_nil,Nat.zero_add,Nat.reduceAdd,Nat.reduceSub,pads,List.cons_append,List.nil_append,xAr,xAh,xAe,xAm,xAE,opv,xAq,List.set_cons_succ,List.set_cons_zero,xAl,xAi,xAk,xAf,List.getD_cons_zero,List.getD_cons_succ,xBn,List.map_cons,List.map_nil,xA0,frzN,List.mapM_cons,xAO,List.mapM_nil,Option.pure_def,Option.bind_eq_bind,Option.bind_some,xAZ,h1,xA2,xC6,xBQ,Bool.false_eq_true,fzIds,List.flatMap_cons,xA4,List.flatMap_nil,List.append_nil,List.foldl_nil,ite_self,xBZ,h3,xCx,xAH,xAz,xAJ,xAU,xAt,xAx,xCr]
theorem xVq {v : AV} {S : Nat → Bool} (hv : HasSet v S) (k : Nat) (hk : k < 4096) : ∃ z l,L.pcall 68 [v,.int .i64 (k : Nat)] = some (sw z l) ∧ HasSet (sw z l) (fun j => S j || decide (j = k)) := by
  obtain ⟨z,l,h1,h2⟩ := xLC k hk
  obtain ⟨z',l',h3,h4⟩ := xTY hv h2
  obtain ⟨za,a,rfl,wa,la,ha⟩ := id hv
  refine ⟨z',l',?_,h4⟩
  rw [yAd,a68,xAL]
  simp (maxSteps := 30000000) (disch := first | assumption | omega | (simp only [List.length_cons,List.length_nil,List.length_append,List.length_set,List.length_replicate,List.length_map,List.length_range,List.length_take,List.length_drop,List.all_cons,List.all_nil,AV.isCell,Bool.and_self,Bool.and_true,xAj,xAc,xAg,xAb] <;> omega) | rfl | decide) only [xAC,List.length_cons,List.length_nil,Nat.zero_add,Nat.reduceAdd,Nat.reduceSub,pads,List.cons_append,List.nil_append,xAr,xAh,xAe,xAm,xAE,opv,xAq,List.set_cons_succ,List.set_cons_zero,xAl,xAi,xAk,xAf,List.getD_cons_zero,List.getD_cons_succ,xBn,List.map_cons,List.map_nil,xA0,frzN,List.mapM_cons,xAO,List.mapM_nil,Option.pure_def,Option.bind_eq_bind,Option.bind_some,xAZ,h1,xA2,xC6,xBQ,Bool.false_eq_true,fzIds,List.flatMap_cons,xA4,List.flatMap_nil,List.append_nil,List.foldl_nil,ite_self,xBZ,h3,xCx,xAH,xAz,xAJ,xAU,xAt,xAx]
def Low (x k : Nat) : Prop := x.testBit k = true ∧ ∀ i,i < k → x.testBit i = false
theorem xOr {x k : Nat} (h : Low x k) : ∃ m,x = 2 ^ (k + 1) * m + 2 ^ k := by
  refine ⟨x / 2 ^ (k + 1),?_⟩
  apply Nat.eq_of_testBit_eq
  intro i
  rw [Nat.testBit_two_pow_mul_add _ (Nat.pow_lt_pow_right (by omega) (by omega) : 2 ^ k < 2 ^ (k + 1)),Nat.testBit_two_pow,Nat.testBit_div_two_pow]
  split
  · rename_i hi
    by_cases e : k = i
    · subst e; simp [h.1]
    · rw [h.2 i (by omega)]; simp [e]
  · rename_i hi
    rw [show i - (k + 1) + (k + 1) = i by omega]
theorem xMg {x k : Nat} (h : Low x k) : 0 < x := by
  obtain ⟨m,rfl⟩ := xOr h
  have := Nat.two_pow_pos k
  omega
theorem xQH {x k : Nat} (h : Low x k) (i : Nat) : (x - 1).testBit i = if i < k then true else if i = k then false else x.testBit i := by
  obtain ⟨m,rfl⟩ := xOr h
  have h1 := Nat.two_pow_pos k
  have h2 : 2 ^ k < 2 ^ (k + 1) := Nat.pow_lt_pow_right (by omega) (by omega)
  rw [show 2 ^ (k + 1) * m + 2 ^ k - 1 = 2 ^ (k + 1) * m + (2 ^ k - 1) by omega,Nat.testBit_two_pow_mul_add _ (by omega),Nat.testBit_two_pow_mul_add _ h2,Nat.testBit_two_pow_sub_one,Nat.testBit_two_pow]
  by_cases a : i < k
  · simp [a,show i < k + 1 by omega]
  · by_cases b : i = k
    · subst b; simp
    · simp [a,b,show ¬ i < k + 1 by omega]
theorem xXz {x k : Nat} (h : Low x k) (hx : x < 2 ^ 64) : x &&& (2 ^ 64 - x) = 2 ^ k := by
  have hp := xMg h
  apply Nat.eq_of_testBit_eq
  intro i
  have e : 2 ^ 64 - x = 2 ^ 64 - (x - 1 + 1) := by omega
  have hk : k < 64 := by
    rcases Nat.lt_or_ge k 64 with q | q
    · exact q
    · have : x.testBit k = false := Nat.testBit_lt_two_pow (Nat.lt_of_lt_of_le hx (Nat.pow_le_pow_right (by omega) q))
      rw [h.1] at this; cases this
  rw [Nat.testBit_and,e,Nat.testBit_two_pow_sub_succ (by omega),xQH h,Nat.testBit_two_pow]
  by_cases a : i < k
  · simp [a,h.2 i a,show ¬ k = i by omega]
  · by_cases b : i = k
    · subst b; simp [h.1,hk]
    · by_cases c : x.testBit i = true <;> simp [a,b,c,show ¬ k = i by omega]
theorem xT0 {x k : Nat} (h : Low x k) (i : Nat) : (x &&& (x - 1)).testBit i = (x.testBit i && decide (i ≠ k)) := by
  rw [Nat.testBit_and,xQH h]
  by_cases a : i < k
  · simp [a,h.2 i a]
  · by_cases b : i = k
    · subst b; simp
    · by_cases c : x.testBit i = true <;> simp [a,b,c]
theorem xZt {x : Nat} (h0 : 0 < x) (hx : x < 18446744073709551616) : IntKind.u64.wrap (0 - (x : Int)) = ((18446744073709551616 - x : Nat) : Int) := by
  simp [IntKind.wrap,IntKind.bits,IntKind.signed]; omega
theorem xXA (n : Nat) : IntKind.u64.wrap (n : Int) = ((n % 18446744073709551616 : Nat) : Int) := by
  simp [IntKind.wrap,IntKind.bits,IntKind.signed]
def xOs (k : Nat) : Nat := 2 ^ k * 285870213051353865 % 18446744073709551616 / 288230376151711744
def xYC (k : Nat) : Bool := match xIP 0 with
  | some cs => decide (xOs k < cs.length) && (match cs[xOs k]? with
    | some (AV.int .u8 n) => n == (k : Int)
    | _ => false)
  | none => false
theorem yAA (k : Nat) (hk : k < 64) : ∃ cs,xIP 0 = some cs ∧ xOs k < cs.length ∧ List.take 1 (List.drop (xOs k) cs) = [.int .u8 (k : Nat)] := by
  have h1 : ∀ k : Fin 64,xYC k.val = true := by decide +kernel
  have h := h1 ⟨k,hk⟩
  unfold xYC at h
  split at h
  · rename_i cs hcs
    refine ⟨cs,hcs,?_⟩
    simp only [Bool.and_eq_true,decide_eq_true_eq] at h
    obtain ⟨h2,h3⟩ := h
    refine ⟨h2,?_⟩
    split at h3
    · rename_i n e
      rw [List.drop_eq_getElem_cons h2,List.take_succ_cons,List.take_zero]
      rw [List.getElem?_eq_getElem h2] at e
      rw [Option.some.inj e,eq_of_beq h3]
    · cases h3
  · cases h
theorem tz1 (k : Nat) : IntKind.u64.wrap (((2 ^ k : Nat) : Int) * 285870213051353865) = ((2 ^ k * 285870213051353865 % 18446744073709551616 : Nat) : Int) := by
    rw [show ((2 ^ k : Nat) : Int) * 285870213051353865 = ((2 ^ k * 285870213051353865 : Nat) : Int) from (Int.natCast_mul _ _).symm]
    exact xXA _
theorem tz2 : (2 : Int) ^ (min 58 IntKind.u64.bits) = 288230376151711744 := by
    rw [show min 58 IntKind.u64.bits = 58 from rfl]; rfl
theorem tz3 (k : Nat) : (((2 ^ k * 285870213051353865 % 18446744073709551616 : Nat) : Int)).fdiv 288230376151711744 = ((xOs k : Nat) : Int) := by
    unfold xOs
    generalize 2 ^ k * 285870213051353865 % 18446744073709551616 = c
    rw [Int.fdiv_eq_ediv_of_nonneg _ (by decide)]
    omega
theorem tz4 (k : Nat) : xOs k < 64 := by
    have : 2 ^ k * 285870213051353865 % 18446744073709551616 < 18446744073709551616 := Nat.mod_lt _ (by omega)
    unfold xOs
    omega
theorem tz5 {x k : Nat} (h : Low x k) (hx : x < 18446744073709551616) (e0 : ((x : Int) = 0) = False) (e1 : IntKind.u64.wrap (0 - (x : Int)) = ((18446744073709551616 - x : Nat) : Int)) : xF2 .and .u64 (x : Int) ((18446744073709551616 - x : Nat) : Int) = ((2 ^ k : Nat) : Int) := by
    have hp := xMg h
    rw [xXI hx (by omega)]
    have := xXz h (by omega)
    rw [show (2 : Nat) ^ 64 = 18446744073709551616 by rfl] at this
    rw [this]
theorem tz6 {x k y c j : Nat} {cs : List AV} (hk : k < 64) (e0 : ((x : Int) = 0) = False) (e1 : IntKind.u64.wrap (0 - (x : Int)) = (y : Int)) (e2 : xF2 .and .u64 (x : Int) (y : Int) = (c : Int)) (e3 : IntKind.u64.wrap ((c : Int) * 285870213051353865) = ((c * 285870213051353865 % 18446744073709551616 : Nat) : Int))
  (e4 : (((c * 285870213051353865 % 18446744073709551616 : Nat) : Int)).fdiv (2 ^ (min 58 IntKind.u64.bits)) = (j : Int)) (t1 : xIP 0 = some cs) (t2 : j < cs.length) (t3 : List.take 1 (List.drop j cs) = [.int .u8 (k : Nat)]) (hlt : j < 64) : L.pcall 81 [.int .u64 (x : Nat)] = some (.int .i64 (k : Nat)) := by
  generalize c * 285870213051353865 % 18446744073709551616 = d at *
  rw [yAl,a81,xAL]
  simp (maxSteps := 30000000) (disch := first | assumption | omega | (simp only [List.length_cons,List.length_nil,List.length_append,List.length_set,List.length_replicate,List.length_map,List.length_range,List.length_take,List.length_drop,List.all_cons,List.all_nil,AV.isCell,Bool.and_self,Bool.and_true,xAj,xAc,xAg,xAb] <;> omega) | rfl | decide) only [xAC,List.length_cons,List.length_nil,Nat.zero_add,Nat.reduceSub,pads,List.cons_append,List.nil_append,xAr,xAh,xAe,xAm,xAE,opv,xAq,List.set_cons_succ,List.set_cons_zero,xAl,xAi,xAk,xAf,List.getD_cons_zero,xAK,List.getD_cons_succ,xDo,e0,decide_false,xAn,xAv,xAo,Bool.false_eq_true,xAH,xAw,if_false,xJk,xSV,e1,xFG,e2,xL3,e3,xJh,Int.reduceToNat,e4,xWZ,t1,xRn,Int.toNat_natCast,Nat.mul_one,xAF,xBl,t3,xAM,xFH,xDO,xDM,xAz,xAJ,xAU,xAt,xAx,frzN,xAO]
theorem xYD {x k : Nat} (h : Low x k) (hx : x < 18446744073709551616) : k < 64 := by
  rcases Nat.lt_or_ge k 64 with q | q
  · exact q
  · have : x.testBit k = false := Nat.testBit_lt_two_pow (Nat.lt_of_lt_of_le (by omega : x < 2 ^ 64) (Nat.pow_le_pow_right (by omega) q))
    rw [h.1] at this; cases this
theorem yAB {x k : Nat} (h : Low x k) (hx : x < 18446744073709551616) : L.pcall 81 [.int .u64 (x : Nat)] = some (.int .i64 (k : Nat)) := by
  have hp := xMg h
  have hk := xYD h hx
  have e0 : ((x : Int) = 0) = False := eq_false (by omega)
  have e1 := xZt hp hx
  obtain ⟨cs,t1,t2,t3⟩ := yAA k hk
  exact tz6 hk e0 e1 (tz5 h hx e0 e1) (tz1 k) (by rw [tz2]; exact tz3 k) t1 t2 t3 (tz4 k)
def xCg (x j : Nat) : List Nat := (List.range' j (64 - j)).filter fun i => x.testBit i
theorem xMh {x j : Nat} (hj : j < 64) : xCg x j = if x.testBit j = true then j :: xCg x (j + 1) else xCg x (j + 1) := by
  unfold xCg
  rw [show 64 - j = (64 - (j + 1)) + 1 by omega,List.range'_succ,List.filter_cons]
theorem xOt (x : Nat) {j : Nat} (h : 64 ≤ j) : xCg x j = [] := by
  unfold xCg
  rw [show 64 - j = 0 by omega]; rfl
theorem xWk {x : Nat} : ∀ d j,j + d = 64 → (xCg x j = [] ∧ ∀ i,j ≤ i → i < 64 → x.testBit i = false) ∨ ∃ k,j ≤ k ∧ k < 64 ∧ x.testBit k = true ∧ (∀ i,j ≤ i → i < k → x.testBit i = false) ∧ xCg x j = k :: xCg x (k + 1)
  | 0,j,h => .inl ⟨xOt x (by omega),fun i h1 h2 => by omega⟩
  | d + 1,j,h => by
    rw [xMh (by omega)]
    cases hb : x.testBit j with
    | true => exact .inr ⟨j,Nat.le_refl _,by omega,hb,fun i h1 h2 => by omega,by simp⟩
    | false =>
      rcases xWk (x := x) d (j + 1) (by omega) with ⟨h1,h2⟩ | ⟨k,h1,h2,h3,h4,h5⟩
      · refine .inl ⟨by simpa using h1,fun i hi1 hi2 => ?_⟩
        by_cases e : i = j
        · subst e; exact hb
        · exact h2 i (by omega) hi2
      · refine .inr ⟨k,by omega,h2,h3,fun i hi1 hi2 => ?_,by simpa using h5⟩
        by_cases e : i = j
        · subst e; exact hb
        · exact h4 i (by omega) hi2
abbrev F44 (s0 s1 s3 s4 s5 s6 s7 s8 s9 s10 s11 : AV) : List AV := [s0,s1,.ptr 0 0,s3,s4,s5,s6,s7,s8,s9,s10,s11]
def xXB : List Nat → AV
  | [] => .sl true 0 []
  | a :: l => .own false (l.length + 1 + 1 + 1) 0 (l.length + 1) 1
def xPd : List Nat → Heap
  | [] => []
  | a :: l => List.replicate l.length .dead ++ [.cells false false (xD4 (a :: l))]
theorem xT1 (l : List Nat) (n : Nat) : xD4 l ++ [AV.int .i64 (n : Nat)] = xD4 (l ++ [n]) := by simp [xD4]
section
variable (s0 s1 s3 s4 s5 s6 s7 s8 s9 s10 s11 : AV)
abbrev H44 (sS : AV) (l : List Nat) : Heap := .cells false false [xXB l] :: .cells false false [sS] :: .loop 0 none (F44 s0 s1 s3 s4 s5 s6 s7 s8 s9 s10 s11) [6] xPL xUK :: xPd l
theorem xXC (sS : AV) (l : List Nat) (k : Nat) (hl : l.length < 1000000) :
    L.icall (.yield 2) [.int .i64 (k : Nat)] (H44 s0 s1 s3 s4 s5 s6 s7 s8 s9 s10 s11 sS l) = some (.bool true,H44 s0 s1 s3 s4 s5 s6 s7 s8 s9 s10 s11 sS (l ++ [k])) := by
  cases l with
  | nil =>
    rw [xEq,xGO (hH := rfl) (h1 := rfl) (h2 := rfl) (h3 := rfl)]
    simp only [H44,xXB,xPd]
    simp (maxSteps := 30000000) (disch := first | assumption | omega | (simp only [List.length_cons,List.length_nil,List.length_append,List.length_set,List.length_replicate,List.length_map,List.length_range,List.length_take,List.length_drop,List.all_cons,List.all_nil,AV.isCell,Bool.and_self,Bool.and_true,xAj,xAc,xAg,xAb] <;> omega) | rfl | decide) only [List.zip_cons_cons,List.zip_nil_right,List.foldl_cons,List.set_cons_succ,List.set_cons_zero,List.foldl_nil,xSB,xL0,xAh,xAe,xAm,xAE,opv,List.getD_cons_succ,List.getD_cons_zero,xAq,xAl,xAi,xAk,xCy,List.getElem?_cons_succ,List.getElem?_cons_zero,xC0,xVG,xPK,xAu,xAF,xA7,xAy,List.drop_zero,List.take_succ_cons,List.take_nil,xAM,xAn,xBs,AV.cells,List.all_cons,List.length_cons,List.length_nil,Nat.zero_add,beq_self_eq_true,List.all_nil,Bool.and_self,xDw,List.append_nil,Nat.mul_one,List.map_cons,List.map_nil,fillA,Nat.le_refl,AV.isCell,and_self,splice,List.take_zero,List.nil_append,List.drop_succ_cons,List.drop_nil,if_true,xBr,xBT,frzN,List.flatMap_cons,xA4,List.flatMap_nil,List.isEmpty_nil,List.mapM_cons,xAO,List.mapM_nil,Option.pure_def,Option.bind_eq_bind,Option.bind_some,xBS,xBE,xDr,xEs,Nat.reduceBEq,xCq,Nat.reduceAdd,List.cons_append,xA6,xBK,xAX,xAG,xBj,xAs,xCJ,xCz]
    rfl
  | cons a l =>
    have hl' : l.length + 1 < 1000000 := hl
    have hsn : xD4 (a :: l) ++ [AV.int .i64 (k : Nat)] = xD4 (a :: (l ++ [k])) := xT1 (a :: l) k
    have htk : List.take (l.length + 1) (a :: l) = a :: l := List.take_of_length_le (by simp)
    have hrep : List.replicate l.length Blk.dead ++ [Blk.dead] = List.replicate (l.length + 1) Blk.dead := List.replicate_succ'.symm
    rw [xEq,xGO (hH := rfl) (h1 := rfl) (h2 := rfl) (h3 := rfl)]
    simp only [H44,xXB,xPd]
    simp (maxSteps := 30000000) (disch := first | assumption | omega | (simp only [List.length_cons,List.length_nil,List.length_append,List.length_set,List.length_replicate,List.length_map,List.length_range,List.length_take,List.length_drop,List.all_cons,List.all_nil,AV.isCell,Bool.and_self,Bool.and_true,xAj,xAc,xAg,xAb] <;> omega) | rfl | decide) only [List.zip_cons_cons,List.zip_nil_right,List.foldl_cons,List.set_cons_succ,List.set_cons_zero,List.foldl_nil,xSB,xL0,xAh,xAe,xAm,xAE,opv,List.getD_cons_succ,List.getD_cons_zero,xAq,xAl,xAi,xAk,xCy,List.getElem?_cons_succ,List.getElem?_cons_zero,xC0,xVG,xPK,xAu,xAF,xA7,xAy,List.drop_zero,List.take_succ_cons,List.take_nil,xAM,xAn,xBs,AV.cells,List.all_cons,List.length_cons,List.length_nil,Nat.zero_add,beq_self_eq_true,List.all_nil,Bool.and_self,xDw,List.append_nil,Nat.mul_one,List.map_cons,List.map_nil,fillA,Nat.le_refl,AV.isCell,and_self,splice,List.take_zero,List.nil_append,List.drop_succ_cons,List.drop_nil,if_true,xBr,xBT,frzN,List.flatMap_cons,xA4,List.flatMap_nil,List.isEmpty_nil,List.mapM_cons,xAO,List.mapM_nil,Option.pure_def,Option.bind_eq_bind,Option.bind_some,xBS,xBE,xDr,xDW,xEw,xCF,Nat.reduceBEq,List.length_append,List.length_replicate,xIk,xC5,htk,hsn,List.cons_append,List.append_assoc,xA6,xBK,xAX,xAG,xBj,xAs,xCJ,xCz]
    rw [← hrep,List.append_assoc]
    rfl
theorem xHZ (x j : Nat) : (xCg x j).length ≤ 64 - j := by
  unfold xCg
  exact Nat.le_trans (List.length_filter_le _ _) (by simp)
theorem yAC (sS : AV) {x : Nat} (i : Nat) (hi : i < 64) : ∀ d j w l,j + d = 64 → (∀ b,w.testBit b = (x.testBit b && decide (j ≤ b))) → w < 18446744073709551616 → l.length + d < 900000 →
    ∀ (t9 t10 t11 : AV),L.loop xNr xUP ⟨xNs (.yield 2) (.int .i64 (i : Nat)) (.int .u64 (w : Nat)) t9 t10 t11,H44 s0 s1 s3 s4 s5 s6 s7 s8 s9 s10 s11 sS l⟩ =
      some (.exit 2,⟨xNs (.yield 2) (.int .i64 (i : Nat)) (.int .u64 0) t9 t10 t11,H44 s0 s1 s3 s4 s5 s6 s7 s8 s9 s10 s11 sS (l ++ (xCg x j).map (fun b => 64 * i + b))⟩) := by
  intro d
  induction d using Nat.strongRecOn with
  | _ d ih =>
    intro j w l hjd hw hw64 hl t9 t10 t11
    rcases xWk (x := x) d j hjd with ⟨h1,h2⟩ | ⟨k,h1,h2,h3,h4,h5⟩
    · obtain rfl : w = 0 := by
        apply Nat.eq_of_testBit_eq
        intro b
        rw [hw,Nat.zero_testBit]
        by_cases hb : b < 64
        · by_cases hj : j ≤ b
          · rw [h2 b hj hb]; rfl
          · simp [hj]
        · have : w.testBit b = false := Nat.testBit_lt_two_pow (Nat.lt_of_lt_of_le (by omega : w < 2 ^ 64) (Nat.pow_le_pow_right (by omega) (by omega)))
          rw [← hw b,this]
      rw [h1,List.map_nil,List.append_nil,xVI]
      simp (maxSteps := 30000000) (disch := first | assumption | omega | (simp only [List.length_cons,List.length_nil,List.length_append,List.length_set,List.length_replicate,List.length_map,List.length_range,List.length_take,List.length_drop,List.all_cons,List.all_nil,AV.isCell,Bool.and_self,Bool.and_true,xAj,xAc,xAg,xAb] <;> omega) | rfl | decide) only [xPQ,xC8,xAr,xAh,xAe,xAm,xAE,opv,List.getD_cons_succ,List.getD_cons_zero,xAq,List.set_cons_succ,List.set_cons_zero,xAl,xAK,xCu,decide_true,Bool.not_true,xAn,xAi,xAk,xAf,xAv,xAo,Bool.false_eq_true,xAw,xAD,if_false,xBp,xBe,xSH]
    · have hlow : Low w k := ⟨by rw [hw,h3]; simp [h1],fun b hb => by
        rw [hw]
        by_cases hj : j ≤ b
        · rw [h4 b hj hb]; rfl
        · simp [hj]⟩
      have htz := yAB hlow hw64
      have hp := xMg hlow
      have e0 : ((w : Int) = 0) = False := eq_false (by omega)
      have hand := xXI (a := w) (b := w - 1) hw64 (by omega)
      have hle : w &&& (w - 1) ≤ w := Nat.and_le_left
      have hc : (64 : Int) * (i : Nat) + (k : Nat) = ((64 * i + k : Nat) : Int) := by omega
      have hr := xXC s0 s1 s3 s4 s5 s6 s7 s8 s9 s10 s11 sS l (64 * i + k) (by omega)
      have hrec := ih (64 - (k + 1)) (by omega) (k + 1) (w &&& (w - 1)) (l ++ [64 * i + k]) (by omega) (fun b => by
        rw [xT0 hlow,hw]
        by_cases e : b = k
        · subst e; simp
        · by_cases hb : k + 1 ≤ b
          · simp [e,hb,show j ≤ b by omega]
          · by_cases hj : j ≤ b
            · rw [h4 b hj (by omega)]; rfl
            · simp [hj,hb]) (by omega) (by simp only [List.length_append,List.length_cons,List.length_nil]; omega) t9 t10 t11
      rw [h5,List.map_cons,← List.singleton_append (l := List.map _ _),← List.append_assoc,← hrec,xVI]
      simp only [H44] at hr ⊢
      generalize w &&& (w - 1) = w' at *
      simp (maxSteps := 30000000) (disch := first | assumption | omega | (simp only [List.length_cons,List.length_nil,List.length_append,List.length_set,List.length_replicate,List.length_map,List.length_range,List.length_take,List.length_drop,List.all_cons,List.all_nil,AV.isCell,Bool.and_self,Bool.and_true,xAj,xAc,xAg,xAb] <;> omega) | rfl | decide) only [xPQ,xAr,xAh,xAe,xAm,xAE,opv,List.getD_cons_succ,List.getD_cons_zero,xAq,List.set_cons_succ,List.set_cons_zero,xAl,xAK,xCu,e0,decide_false,Bool.not_false,xAn,xAi,xAk,xAf,xAv,xAo,xAw,xAD,if_true,xAu,xL3,xDM,xBn,List.map_cons,List.map_nil,xA0,frzN,List.mapM_cons,xAO,List.mapM_nil,Option.pure_def,Option.bind_eq_bind,Option.bind_some,xAZ,htz,xA2,xC6,xBQ,fzIds,List.flatMap_cons,xA4,List.flatMap_nil,List.append_nil,List.foldl_nil,ite_self,xBm,hc,xBa,hr,xJk,xJl,Bool.not_true,Bool.false_eq_true,xAH,if_false,xJg,xSL,xOz,xFG,hand,xAs,xAB,xSH]
end
def xCS (a : List Nat) : Nat → Nat → List Nat
  | i,0 => []
  | i,d + 1 => (xCg (a.getD i 0) 0).map (fun b => 64 * i + b) ++ xCS a (i + 1) d
theorem xG3 (a : List Nat) : ∀ d i,(xCS a i d).length ≤ 64 * d
  | 0,i => by simp [xCS]
  | d + 1,i => by
    have h1 := xHZ (a.getD i 0) 0
    have h2 := xG3 a d (i + 1)
    simp only [xCS,List.length_append,List.length_map]
    omega
def xJ7 (a : List Nat) : List Nat := xCS a 0 (min a.length 64)
theorem xT2 (a : List Nat) : (xJ7 a).length ≤ 4096 := by
  have := xG3 a (min a.length 64) 0
  unfold xJ7
  omega
section
variable (s0 s1 s3 s4 s5 s6 s7 s8 s9 s10 s11 : AV)
theorem xYE (sS : AV) {z : Bool} {a : List Nat} (wa : W a) {N : Nat} (hN : N = min a.length 64) : ∀ d i l,i + d = N → l.length ≤ 64 * i →
    L.loop xNt xUQ ⟨xNu (.yield 2) (.sl z N (w64 (a.take N))) (.int .i64 (N : Nat)) (.int .i64 (i : Nat)),H44 s0 s1 s3 s4 s5 s6 s7 s8 s9 s10 s11 sS l⟩ =
      some (.exit 0,⟨xNu (.yield 2) (.sl z N (w64 (a.take N))) (.int .i64 (N : Nat)) (.int .i64 (N : Nat)),H44 s0 s1 s3 s4 s5 s6 s7 s8 s9 s10 s11 sS (l ++ xCS a i d)⟩)
  | 0,i,l,h,hl => by
    obtain rfl : i = N := by omega
    rw [xCS,List.append_nil,xVJ]
    simp (maxSteps := 30000000) (disch := first | assumption | omega | (simp only [List.length_cons,List.length_nil,List.length_append,List.length_set,List.length_replicate,List.length_map,List.length_range,List.length_take,List.length_drop,List.all_cons,List.all_nil,AV.isCell,Bool.and_self,Bool.and_true,xAj,xAc,xAg,xAb] <;> omega) | rfl | decide) only [xPR,xAr,xAh,xAe,xAm,xAK,opv,List.getD_cons_succ,List.getD_cons_zero,xAN,Int.lt_irrefl,decide_false,xAn,xAq,List.set_cons_succ,List.set_cons_zero,xAl,xAi,xAk,xAf,xAv,xAo,Bool.false_eq_true,xAw,xAD,if_false,xBp,xBe,xPS]
  | d + 1,i,l,h,hl => by
    have hlt : (i : Int) < (N : Nat) := by omega
    have hb := xHZ (a.getD i 0) 0
    have ih := xYE sS (z := z) wa hN d (i + 1) (l ++ (xCg (a.getD i 0) 0).map (fun b => 64 * i + b)) (by omega) (by simp only [List.length_append,List.length_map]; omega)
    have hin := yAC s0 s1 s3 s4 s5 s6 s7 s8 s9 s10 s11 sS (x := a.getD i 0) i (by omega) 64 0 (a.getD i 0) l (by omega) (fun b => by simp) (wa.get i) (by omega) (.sl z N (w64 (a.take N))) (.int .i64 (N : Nat)) (.int .i64 (i : Nat))
    have hln : (List.take N a).length = N := by rw [List.length_take]; omega
    have hg : (List.take N a).getD i 0 = a.getD i 0 := by
      simp [List.getD,List.getElem?_take,show i < N by omega]
    rw [xCS,← List.append_assoc,← ih,xVJ]
    simp only [H44] at hin ⊢
    generalize (xCg (a.getD i 0) 0) = B at *
    simp (maxSteps := 30000000) (disch := first | assumption | omega | (simp only [List.length_cons,List.length_nil,List.length_append,List.length_set,List.length_replicate,List.length_map,List.length_range,List.length_take,List.length_drop,List.all_cons,List.all_nil,AV.isCell,Bool.and_self,Bool.and_true,xAj,xAc,xAg,xAb] <;> omega) | rfl | decide) only [xPR,xAr,xAh,xAe,xAm,xAK,opv,List.getD_cons_succ,List.getD_cons_zero,xAN,hlt,decide_true,xAn,xAq,List.set_cons_succ,List.set_cons_zero,xAl,xAi,xAk,xAf,xAv,xAo,xAw,xAD,if_true,xAu,xAE,xAT,xAY,Int.toNat_natCast,Nat.mul_one,xAF,xBl,xBM,xBx,xCm,xCf,Nat.add_zero,hg,xAM,xBw,xSH,hin,xBc,xAs,xBm,xC9,xDM,xAB,xPS]
end
theorem xXD (z : Bool) {a : List Nat} (wa : W a) (hl : a.length < 1099511627776) : L.pcall 44 [sw z a] = some (.sl (decide ((xJ7 a).length = 0)) (xJ7 a).length (xD4 (xJ7 a))) := by
  have hm : min (a.length : Int) 64 = ((min a.length 64 : Nat) : Int) := by omega
  have ho := fun s0 s1 s3 s4 s5 s6 s7 s8 s9 s10 s11 sS => xYE s0 s1 s3 s4 s5 s6 s7 s8 s9 s10 s11 sS (z := z) wa rfl (min a.length 64) 0 [] (by omega) (by simp)
  simp only [List.nil_append,Int.natCast_zero,H44,xXB,xPd] at ho
  have hle : min a.length 64 ≤ a.length := Nat.min_le_left _ _
  have hll := xT2 a
  change ∀ s0 s1 s3 s4 s5 s6 s7 s8 s9 s10 s11 sS,_ = some (_,(⟨_,(Blk.cells false false [xXB (xJ7 a)] :: Blk.cells false false [sS] :: Blk.loop 0 none (F44 s0 s1 s3 s4 s5 s6 s7 s8 s9 s10 s11) [6] xPL xUK :: xPd (xJ7 a) : Heap)⟩ : St)) at ho
  generalize min a.length 64 = N at *
  rw [xZZ,a44,xAL]
  cases e : xJ7 a with
  | nil =>
    rw [e] at ho
    simp only [xXB,xPd] at ho
    simp (maxSteps := 30000000) (disch := first | assumption | omega | (simp only [List.length_cons,List.length_nil,List.length_append,List.length_set,List.length_replicate,List.length_map,List.length_range,List.length_take,List.length_drop,List.all_cons,List.all_nil,AV.isCell,Bool.and_self,Bool.and_true,xAj,xAc,xAg,xAb] <;> omega) | rfl | decide) only [xAC,List.length_cons,List.length_nil,Nat.zero_add,Nat.reduceSub,pads,List.cons_append,List.nil_append,xAr,xAh,xAe,xAm,xBv,AV.cells,opv,List.all_cons,AV.isCell,List.all_nil,Bool.and_self,if_true,xAq,List.set_cons_succ,List.set_cons_zero,xAl,xAi,xAk,xAf,xAE,List.getD_cons_zero,xBa,List.map_cons,List.getD_cons_succ,List.map_nil,xZD,a69,List.append_nil,xB4,xAH,xAz,xAJ,xAU,xAt,xAu,xFM,xEd,Nat.reduceAdd,xZG,a80,xAF,xA7,List.getElem?_cons_succ,List.getElem?_cons_zero,xAy,List.drop_zero,List.take_succ_cons,List.take_nil,xAM,xAn,xBO,xBC,xEa,xDs,hm,xF0,Option.map_none,Option.map_some,xFI,xFJ,Int.toNat_natCast,xJm,Nat.sub_zero,Nat.mul_one,xBx,xBw,xPS,ho,xBc,xDQ,xFL,xDt,xER,xAs,xA6,xBK,xAX,splice,List.take_zero,List.drop_succ_cons,List.drop_nil,xAG,xBj,xDX,xCZ,xSY,xAx,frzN,xBZ,decide_true]
    rfl
  | cons x l =>
    rw [e] at ho hll
    simp only [List.length_cons] at hll
    simp only [xXB,xPd] at ho
    have htk : List.take (l.length + 1) (x :: l) = x :: l := List.take_of_length_le (by simp)
    simp (maxSteps := 30000000) (disch := first | assumption | omega | (simp only [List.length_cons,List.length_nil,List.length_append,List.length_set,List.length_replicate,List.length_map,List.length_range,List.length_take,List.length_drop,List.all_cons,List.all_nil,AV.isCell,Bool.and_self,Bool.and_true,xAj,xAc,xAg,xAb] <;> omega) | rfl | decide) only [xAC,List.length_cons,List.length_nil,Nat.zero_add,Nat.reduceSub,pads,List.cons_append,List.nil_append,xAr,xAh,xAe,xAm,xBv,AV.cells,opv,List.all_cons,AV.isCell,List.all_nil,Bool.and_self,if_true,xAq,List.set_cons_succ,List.set_cons_zero,xAl,xAi,xAk,xAf,xAE,List.getD_cons_zero,xBa,List.map_cons,List.getD_cons_succ,List.map_nil,xZD,a69,List.append_nil,xB4,xAH,xAz,xAJ,xAU,xAt,xAu,xFM,xEd,Nat.reduceAdd,xZG,a80,xAF,xA7,List.getElem?_cons_succ,List.getElem?_cons_zero,xAy,List.drop_zero,List.take_succ_cons,List.take_nil,xAM,xAn,xBO,xBC,xEa,xDs,hm,xF0,Option.map_none,Option.map_some,xFI,xFJ,Int.toNat_natCast,xJm,Nat.sub_zero,Nat.mul_one,xBx,xBw,xPS,ho,xBc,xDQ,xFL,xDt,xER,xAs,xA6,xBK,xAX,splice,List.take_zero,List.drop_succ_cons,List.drop_nil,xAG,xBj,xDX,xCZ,xSY,xAx,frzN,xCc,xEw,xDD,xC5,htk,xIc,xBS,Nat.reduceEqDiff,decide_false]
def toN : List Nat → Nat
  | [] => 0
  | b :: l => b + 256 * toN l
def mk (p : Nat) : Nat → Nat
  | 0 => 0
  | n + 1 => p + 256 * mk p n
theorem xFN {a c : Nat} (X M : Nat) (ha : a < 256) (hc : c < 256) : (a + 256 * X) &&& (c + 256 * M) = (a &&& c) + 256 * (X &&& M) := by
  have hac : a &&& c < 2 ^ 8 := Nat.lt_of_le_of_lt Nat.and_le_left ha
  apply Nat.eq_of_testBit_eq
  intro i
  rw [show a + 256 * X = 2 ^ 8 * X + a by omega,show c + 256 * M = 2 ^ 8 * M + c by omega,show (a &&& c) + 256 * (X &&& M) = 2 ^ 8 * (X &&& M) + (a &&& c) by omega,Nat.testBit_and,
    Nat.testBit_two_pow_mul_add _ (by omega : a < 2 ^ 8),Nat.testBit_two_pow_mul_add _ (by omega : c < 2 ^ 8),Nat.testBit_two_pow_mul_add _ hac]
  split <;> rw [Nat.testBit_and]
def t1 (b : Nat) : Nat := (b / 2 &&& 85) + (b &&& 85)
def t2 (b : Nat) : Nat := (b / 4 &&& 51) + (b &&& 51)
def t3 (b : Nat) : Nat := b / 16 + b % 16
def Byt (l : List Nat) : Prop := ∀ b ∈ l,b < 256
theorem d1 : ∀ (b : Fin 256) (r : Fin 2),(b.val / 2 + 128 * r.val) &&& 85 = b.val / 2 &&& 85 := by decide +kernel
theorem d2 : ∀ (b : Fin 256) (r : Fin 4),(b.val / 4 + 64 * r.val) &&& 51 = b.val / 4 &&& 51 := by decide +kernel
theorem d3 : ∀ (b : Fin 69) (r : Fin 5),b.val % 16 ≤ 4 → (b.val / 16 + 16 * r.val + b.val) &&& 15 = b.val / 16 + b.val % 16 := by decide +kernel
theorem d4 : ∀ b : Fin 256,t1 b.val < 256 ∧ t2 (t1 b.val) < 69 ∧ t2 (t1 b.val) % 16 ≤ 4 ∧ t3 (t2 (t1 b.val)) ≤ 8 ∧ t3 (t2 (t1 b.val)) = ((List.range 8).filter fun i => b.val.testBit i).length := by decide +kernel
theorem st1 : ∀ l : List Nat,Byt l → (toN l / 2 &&& mk 85 l.length) + (toN l &&& mk 85 l.length) = toN (l.map t1)
  | [],_ => rfl
  | b :: l,h => by
    have hb := h b (by simp)
    have ih := st1 l (fun c hc => h c (by simp [hc]))
    have e := d1 ⟨b,hb⟩ ⟨toN l % 2,by omega⟩
    simp only at e
    simp only [toN,List.map_cons,List.length_cons,mk,t1]
    rw [show (b + 256 * toN l) / 2 = (b / 2 + 128 * (toN l % 2)) + 256 * (toN l / 2) by omega,xFN _ _ (by omega) (by omega),xFN _ _ hb (by omega),e,← ih]
    omega
theorem st2 : ∀ l : List Nat,Byt l → (toN l / 4 &&& mk 51 l.length) + (toN l &&& mk 51 l.length) = toN (l.map t2)
  | [],_ => rfl
  | b :: l,h => by
    have hb := h b (by simp)
    have ih := st2 l (fun c hc => h c (by simp [hc]))
    have e := d2 ⟨b,hb⟩ ⟨toN l % 4,by omega⟩
    simp only at e
    simp only [toN,List.map_cons,List.length_cons,mk,t2]
    rw [show (b + 256 * toN l) / 4 = (b / 4 + 64 * (toN l % 4)) + 256 * (toN l / 4) by omega,xFN _ _ (by omega) (by omega),xFN _ _ hb (by omega),e,← ih]
    omega
def Nib (l : List Nat) : Prop := ∀ b ∈ l,b < 69 ∧ b % 16 ≤ 4
theorem xXE {l : List Nat} (h : Nib l) : toN l % 16 ≤ 4 := by
  cases l with
  | nil => simp [toN]
  | cons b l => have := (h b (by simp)).2; simp only [toN]; omega
theorem st3 : ∀ l : List Nat,Nib l → (toN l / 16 + toN l) &&& mk 15 l.length = toN (l.map t3)
  | [],_ => rfl
  | b :: l,h => by
    have hb := h b (by simp)
    have hl : Nib l := fun c hc => h c (by simp [hc])
    have ih := st3 l hl
    have hm := xXE hl
    have e := d3 ⟨b,hb.1⟩ ⟨toN l % 16,by omega⟩ hb.2
    simp only at e
    simp only [toN,List.map_cons,List.length_cons,mk,t3]
    rw [show (b + 256 * toN l) / 16 + (b + 256 * toN l) = (b / 16 + 16 * (toN l % 16) + b) + 256 * (toN l / 16 + toN l) by omega,xFN _ _ (by omega) (by omega),e,← ih]
def bytes : Nat → Nat → List Nat
  | _,0 => []
  | x,n + 1 => x % 256 :: bytes (x / 256) n
theorem yAD (a n : Nat) (hn : n ≤ 64) : (a : Int).fdiv (2 ^ (min n IntKind.u64.bits)) = ((a / 2 ^ n : Nat) : Int) := by
  have e1 : min n IntKind.u64.bits = n := Nat.min_eq_left (by show n ≤ 64; omega)
  rw [e1,show (2 : Int) ^ n = ((2 ^ n : Nat) : Int) from by rw [Int.natCast_pow]; rfl,Int.fdiv_eq_ediv_of_nonneg _ (Int.natCast_nonneg _)]
  rfl
abbrev iw (z : Bool) (l : List Int) : AV := .sl z l.length (xCT l)
theorem xMi {v : AV} {S : Nat → Bool} (hv : HasSet v S) (k : Int) (h0 : 0 ≤ k) (hk : k < 4096) : L.pcall 67 [v,.int .i64 k] = some (.bool (S k.toNat)) := by
  have := xXy hv k.toNat (by omega)
  rwa [Int.toNat_of_nonneg h0] at this
theorem xJ8 {v : AV} {S : Nat → Bool} (hv : HasSet v S) (k : Int) (h0 : 0 ≤ k) (hk : k < 4096) : ∃ z l,L.pcall 68 [v,.int .i64 k] = some (sw z l) ∧ HasSet (sw z l) (fun j => S j || decide (j = k.toNat)) := by
  have := xVq hv k.toNat (by omega)
  rwa [Int.toNat_of_nonneg h0] at this
theorem xET {l : List Int} {i : Nat} (h : i < l.length) : l.drop i = l.getD i 0 :: l.drop (i + 1) := by
  rw [List.drop_eq_getElem_cons h]
  simp [List.getD,List.getElem?_eq_getElem h]
theorem xT3 {l : List Int} {z : Bool} {H : Heap} (hl : l.length < 1099511627776) (hq : ∀ q ∈ l,0 ≤ q ∧ q < 4096) : ∀ d i zv r S,i + d = l.length → HasSet (sw zv r) S →
    ∃ z' r',L.loop xKI xSz ⟨xKJ (sw zv r) (iw z l) (.int .i64 (l.length : Nat)) (.int .i64 (i : Nat)),H⟩ = some (.exit 0,⟨xKJ (sw z' r') (iw z l) (.int .i64 (l.length : Nat)) (.int .i64 (l.length : Nat)),H⟩) ∧ HasSet (sw z' r') (fun j => S j || (l.drop i).contains (j : Int))
  | 0,i,zv,r,S,h,hS => by
    obtain rfl : i = l.length := by omega
    refine ⟨zv,r,?_,hS.congr (fun j => by simp)⟩
    rw [xVF]
    simp (maxSteps := 30000000) (disch := first | assumption | omega | (simp only [List.length_cons,List.length_nil,List.length_append,List.length_set,List.length_replicate,List.length_map,List.length_range,List.length_take,List.length_drop,List.all_cons,List.all_nil,AV.isCell,Bool.and_self,Bool.and_true,xAj,xAc,xAg,xAb] <;> omega) | rfl | decide) only [xPJ,xAr,xAh,xAe,xAm,xAK,opv,List.getD_cons_succ,List.getD_cons_zero,xAN,Int.lt_irrefl,decide_false,xAn,xAq,List.set_cons_succ,List.set_cons_zero,xAl,xAi,xAk,xAf,xAv,xAo,Bool.false_eq_true,xAw,xAD,if_false,xBp,xBe,xSA]
  | d + 1,i,zv,r,S,h,hS => by
    have hlt : (i : Int) < (l.length : Nat) := by omega
    have hm : l.getD i 0 ∈ l := by
      rw [List.getD_eq_getElem?_getD,List.getElem?_eq_getElem (by omega)]
      exact List.getElem_mem _
    obtain ⟨z1,r1,h1,h2⟩ := xJ8 hS (l.getD i 0) (hq _ hm).1 (hq _ hm).2
    obtain ⟨z2,r2,h3,h4⟩ := xT3 (z := z) (H := H) hl hq d (i + 1) z1 r1 _ (by omega) h2
    refine ⟨z2,r2,?_,h4.congr (fun j => ?_)⟩
    · rw [xVF]
      simp (maxSteps := 30000000) (disch := first | assumption | omega | (simp only [List.length_cons,List.length_nil,List.length_append,List.length_set,List.length_replicate,List.length_map,List.length_range,List.length_take,List.length_drop,List.all_cons,List.all_nil,AV.isCell,Bool.and_self,Bool.and_true,xAj,xAc,xAg,xAb] <;> omega) | rfl | decide) only [xPJ,xAr,xAh,xAe,xAm,xAK,opv,List.getD_cons_succ,List.getD_cons_zero,xAN,hlt,decide_true,xAn,xAq,List.set_cons_succ,List.set_cons_zero,xAl,xAi,xAk,xAf,xAv,xAo,xAw,xAD,if_true,xAu,xAT,xAY,Int.toNat_natCast,Nat.mul_one,xAF,xBl,xCh,xB7,xC1,xB6,Nat.add_zero,xAM,xAE,xBn,List.map_cons,List.map_nil,xA0,frzN,List.mapM_cons,xBZ,xAO,List.mapM_nil,Option.pure_def,Option.bind_eq_bind,Option.bind_some,xAZ,h1,xA2,xC6,xBQ,Bool.false_eq_true,fzIds,List.flatMap_cons,xCx,xA4,List.flatMap_nil,List.append_nil,List.foldl_nil,ite_self,xAs,xBm,xC9,xDM,xAB,xSA,h3]
    · rw [xET (by omega : i < l.length),List.contains_cons]
      have hn := (hq _ hm).1
      have : (decide (j = (l.getD i 0).toNat)) = ((j : Int) == l.getD i 0) := by
        rw [Bool.eq_iff_iff]
        simp only [decide_eq_true_eq,beq_iff_eq]
        omega
      rw [this,Bool.or_assoc]
theorem xT4 {l : List Int} {z : Bool} (hl : l.length < 1099511627776) (hq : ∀ q ∈ l,0 ≤ q ∧ q < 4096) : ∃ z' r,L.pcall 43 [iw z l] = some (sw z' r) ∧ HasSet (sw z' r) (fun j => l.contains (j : Int)) := by
  obtain ⟨z',r,h1,h2⟩ := xT3 (z := z) (H := []) hl hq l.length 0 true [] _ (by omega) (xOp (z := true))
  refine ⟨z',r,?_,h2.congr (fun j => by simp)⟩
  simp only [Int.natCast_zero] at h1
  change L.loop xKI xSz ⟨xKJ (.sl true 0 []) _ _ _,_⟩ = _ at h1
  rw [xZY,a43,xAL]
  simp (maxSteps := 30000000) (disch := first | assumption | omega | (simp only [List.length_cons,List.length_nil,List.length_append,List.length_set,List.length_replicate,List.length_map,List.length_range,List.length_take,List.length_drop,List.all_cons,List.all_nil,AV.isCell,Bool.and_self,Bool.and_true,xAj,xAc,xAg,xAb] <;> omega) | rfl | decide) only [xAC,List.length_cons,List.length_nil,Nat.zero_add,Nat.reduceSub,pads,List.cons_append,List.nil_append,xAr,xAh,xAe,xAm,xAE,opv,xAq,List.set_cons_succ,List.set_cons_zero,xAl,xAi,xAk,xAf,List.getD_cons_zero,xBO,List.getD_cons_succ,xBC,xAn,xAu,xBw,xSA,h1,xBc,if_true,xAH,xAz,xAJ,xAU,xAt,xAx,frzN,xBZ]
theorem xOu {l : List Nat} {i : Nat} (h : i < l.length) : l.drop i = l.getD i 0 :: l.drop (i + 1) := by
  rw [List.drop_eq_getElem_cons h]
  simp [List.getD,List.getElem?_eq_getElem h]
structure Ed where
  a : Int
  b : Int
  p : Nat
  n : Nat
def e0 : Ed := ⟨0,0,0,0⟩
def xEU (e : Ed) : List AV := [.int .i64 e.a,.int .i64 e.b,.int .u8 (e.p : Nat),.int .u8 (e.n : Nat)]
def edges (l : List Ed) : List AV := rows xEU l
theorem xAd (l : List Ed) : (edges l).length = l.length * 4 := xPh (enc := xEU) (k := 4) (fun _ => rfl) l
theorem xBg {l : List Ed} {i : Nat} (h : i < l.length) : List.take 4 (List.drop (i * 4) (edges l)) = [.int .i64 (l.getD i e0).a,.int .i64 (l.getD i e0).b,.int .u8 ((l.getD i e0).p : Nat),.int .u8 ((l.getD i e0).n : Nat)] := by
  unfold edges
  rw [xOy (enc := xEU) (k := 4) (fun _ => rfl),List.drop_eq_getElem_cons h]
  have : l.getD i e0 = l[i] := by simp [List.getD,List.getElem?_eq_getElem h]
  rw [this]
  rfl
theorem xEV {l : List Ed} {i : Nat} (h : i < l.length) : l.drop i = l.getD i e0 :: l.drop (i + 1) := by
  rw [List.drop_eq_getElem_cons h]
  simp [List.getD,List.getElem?_eq_getElem h]
structure Aut where
  vars : Int
  states : Int
  z1 : Bool
  st : List Int
  z2 : Bool
  fi : List Int
  z3 : Bool
  ed : List Ed
abbrev Aut.cells (n : Aut) : List AV := [.int .i64 n.vars,.int .i64 n.states,iw n.z1 n.st,iw n.z2 n.fi,.sl n.z3 n.ed.length (edges n.ed)]
abbrev Aut.av (n : Aut) : AV := .agg n.cells
def xYF (p n x : Nat) : Bool := decide (x &&& p = p) && decide (x &&& n = 0)
theorem xXF (p n x : Nat) (hp : p < 256) (hn : n < 256) (hx : x < 256) : L.pcall 87 [.agg [.int .u8 (p : Nat),.int .u8 (n : Nat)],.int .u8 (x : Nat)] = some (.bool (xYF p n x)) := by
  have h1 := xY3 hx hp
  have h2 := xY3 hx hn
  have e1 : (((x &&& p : Nat) : Int) = ((p : Nat) : Int)) = (x &&& p = p) := propext ⟨fun h => by omega,fun h => by omega⟩
  have e2 : (((x &&& n : Nat) : Int) = 0) = (x &&& n = 0) := propext ⟨fun h => by omega,fun h => by omega⟩
  unfold xYF
  rw [yAp,a87,xAL]
  by_cases c1 : x &&& p = p <;> by_cases c2 : x &&& n = 0 <;> simp (maxSteps := 30000000) (disch := first | assumption | omega | (simp only [List.length_cons,List.length_nil,List.length_append,List.length_set,List.length_replicate,List.length_map,List.length_range,List.length_take,List.length_drop,List.all_cons,List.all_nil,AV.isCell,Bool.and_self,Bool.and_true,xAj,xAc,xAg,xAb] <;> omega) | rfl | decide) only [xAC,List.length_cons,List.length_nil,Nat.zero_add,Nat.reduceAdd,Nat.reduceSub,pads,List.cons_append,List.nil_append,xAr,xAh,xAe,xAm,xBv,AV.cells,opv,List.getD_cons_zero,List.all_cons,AV.isCell,List.all_nil,Bool.and_self,if_true,xAq,List.set_cons_succ,List.set_cons_zero,xAl,xAE,xAi,xAk,xAf,List.getD_cons_succ,xAS,xAA,Nat.add_zero,xAn,xAF,xA7,List.getElem?_cons_zero,xAy,List.drop_zero,List.take_succ_cons,List.take_zero,xAM,xAK,xFG,h1,c1,xDo,decide_true,xAP,xAI,xBk,List.drop_succ_cons,List.take_nil,h2,c2,xC8,xBq,xAQ,xAH,xAz,xAJ,xAU,xAt,xAx,frzN,xCr,e2,decide_false,ite_self,Bool.and_false,e1,Bool.false_eq_true,if_false,Bool.and_true]
def xFO (v p n : Nat) : Int := if 2 ^ v ≤ p ||| n then 7 else if p &&& n = 0 then 0 else 2
theorem xZR {v : Nat} (hv : v ≤ 6) : IntKind.i64.wrap (1 * 2 ^ min v IntKind.i64.bits) = ((2 ^ v : Nat) : Int) := by
  have : v = 0 ∨ v = 1 ∨ v = 2 ∨ v = 3 ∨ v = 4 ∨ v = 5 ∨ v = 6 := by omega
  rcases this with rfl | rfl | rfl | rfl | rfl | rfl | rfl <;> rfl
theorem xT5 (v p n : Nat) (hv : v ≤ 6) (hp : p < 256) (hn : n < 256) : L.pcall 59 [.agg [.int .u8 (p : Nat),.int .u8 (n : Nat)],.int .i64 (v : Nat)] = some (.int .i64 (xFO v p n)) := by
  have h1 := or8 hp hn
  have h2 := xY3 hp hn
  have h3 : ¬ ((6 : Int) < (v : Nat)) := by omega
  have hor : p ||| n < 256 := by
    have := Nat.or_lt_two_pow (x := p) (y := n) (n := 8) (by omega) (by omega)
    omega
  have e1 : (((2 ^ v : Nat) : Int) ≤ ((p ||| n : Nat) : Int)) = (2 ^ v ≤ p ||| n) := propext ⟨fun h => by omega,fun h => by omega⟩
  have e2 : (((p &&& n : Nat) : Int) = 0) = (p &&& n = 0) := propext ⟨fun h => by omega,fun h => by omega⟩
  have hsh := xZR hv
  unfold xFO
  rw [xZ8,a59,xAL]
  by_cases c1 : 2 ^ v ≤ p ||| n
  · simp (maxSteps := 30000000) (disch := first | assumption | omega | (simp only [List.length_cons,List.length_nil,List.length_append,List.length_set,List.length_replicate,List.length_map,List.length_range,List.length_take,List.length_drop,List.all_cons,List.all_nil,AV.isCell,Bool.and_self,Bool.and_true,xAj,xAc,xAg,xAb] <;> omega) | rfl | decide) only [xAC,List.length_cons,List.length_nil,Nat.zero_add,Nat.reduceAdd,Nat.reduceSub,pads,List.cons_append,List.nil_append,xAr,xAh,xAe,xAm,xBv,AV.cells,opv,List.getD_cons_zero,List.all_cons,AV.isCell,List.all_nil,Bool.and_self,if_true,xAq,List.set_cons_succ,List.set_cons_zero,xAl,xAE,xAi,xAk,xAf,xAu,List.getD_cons_succ,xAK,xAN,xX6,decide_false,xAn,xAP,xAI,xBk,xDa,h3,xBq,xAQ,Bool.false_eq_true,if_false,xAv,xAo,xAw,xE6,List.take_succ_cons,List.take_zero,xCC,xDh,xEu,xAS,xAA,Nat.add_zero,xDP,xEr,xDg,xFK,xAF,xA7,List.getElem?_cons_zero,xAy,List.drop_zero,xAM,List.drop_succ_cons,List.take_nil,xQm,xNP,h1,xL6,xFH,xDO,xDM,xCQ,xDC,adopt,xBu,xHk,Int.toNat_natCast,hsh,xDp,e1,c1,decide_true,xAH,xFG,h2,xCu,e2,Bool.not_eq_eq_eq_not,Bool.not_true,decide_eq_false_iff_not,xBy,xBI,xAz,xAJ,xAU,xAt,xAx,frzN,xAO]
  · by_cases c2 : p &&& n = 0 <;> simp (maxSteps := 30000000) (disch := first | assumption | omega | (simp only [List.length_cons,List.length_nil,List.length_append,List.length_set,List.length_replicate,List.length_map,List.length_range,List.length_take,List.length_drop,List.all_cons,List.all_nil,AV.isCell,Bool.and_self,Bool.and_true,xAj,xAc,xAg,xAb] <;> omega) | rfl | decide) only [xAC,List.length_cons,List.length_nil,Nat.zero_add,Nat.reduceAdd,Nat.reduceSub,pads,List.cons_append,List.nil_append,xAr,xAh,xAe,xAm,xBv,AV.cells,opv,List.getD_cons_zero,List.all_cons,AV.isCell,List.all_nil,Bool.and_self,if_true,xAq,List.set_cons_succ,List.set_cons_zero,xAl,xAE,xAi,xAk,xAf,xAu,List.getD_cons_succ,xAK,xAN,xX6,decide_false,xAn,xAP,xAI,xBk,xDa,h3,xBq,xAQ,Bool.false_eq_true,if_false,xAv,xAo,xAw,xE6,List.take_succ_cons,List.take_zero,xCC,xDh,xEu,xAS,xAA,Nat.add_zero,xDP,xEr,xDg,xFK,xAF,xA7,List.getElem?_cons_zero,xAy,List.drop_zero,xAM,List.drop_succ_cons,List.take_nil,xQm,xNP,h1,xL6,xFH,xDO,xDM,xCQ,xDC,adopt,xBu,xHk,Int.toNat_natCast,hsh,xDp,e1,c1,xAH,xFG,h2,c2,xC8,xCu,decide_true,Bool.not_true,xAs,xAz,xAJ,xAU,xAt,xAx,frzN,xAO,e2,Bool.not_false,xBy,xBI]
def xE9 (v : Nat) (w : List Nat) : Int := if 64 < w.length then 4 else if w.any (fun x => decide (2 ^ v ≤ x)) = true then 1 else 0
theorem xZu (n : Aut) (v b x : Nat) (H : Heap) {fz z : Bool} (hv : v ≤ 6) (hnv : n.vars = (v : Nat)) (hx : x < 256) (hH : H[b]? = some (.cells fz z n.cells)) : L.icall (.func 75 [.ptr b 0]) [.int .u8 (x : Nat)] H = some (.bool (decide (2 ^ v ≤ x)),H) := by
  have hsh := xZR hv
  have e1 : (((2 ^ v : Nat) : Int) ≤ ((x : Nat) : Int)) = (2 ^ v ≤ x) := propext ⟨fun h => by omega,fun h => by omega⟩
  rw [yAh,a75]
  simp (maxSteps := 30000000) (disch := first | assumption | omega | (simp only [List.length_cons,List.length_nil,List.length_append,List.length_set,List.length_replicate,List.length_map,List.length_range,List.length_take,List.length_drop,List.all_cons,List.all_nil,AV.isCell,Bool.and_self,Bool.and_true,xAj,xAc,xAg,xAb] <;> omega) | rfl | decide) only [List.cons_append,List.nil_append,xAC,List.length_cons,List.length_nil,Nat.zero_add,Nat.reduceAdd,Nat.reduceSub,pads,xAr,xAh,xAe,xAm,xAE,opv,xAq,List.set_cons_succ,List.set_cons_zero,xAl,xAi,xAk,xAf,List.getD_cons_zero,xFH,List.getD_cons_succ,xDO,xDM,xAn,xAS,xAA,Nat.add_zero,xAF,xA7,hH,xAy,List.drop_zero,List.take_succ_cons,hnv,List.take_zero,xAM,xAK,xHk,Int.toNat_natCast,hsh,xDp,e1,xAH,xAz,xAJ,xAU,xAt]
theorem xLD {n : Aut} {v b : Nat} {H : Heap} {fz z zw : Bool} {w : List Nat} {s4 : AV} (hv : v ≤ 6) (hnv : n.vars = (v : Nat)) (hH : H[b]? = some (.cells fz z n.cells)) (hw : ∀ x ∈ w,x < 256) (hl : w.length < 1099511627776) : ∀ d i,i + d = w.length →
    ∃ i' : Nat,L.loop xNv xUR ⟨xKR (word zw w) (.func 75 [.ptr b 0]) s4 (.int .i64 (w.length : Nat)) (.int .i64 (i : Nat)),H⟩ =
      some (if (w.drop i).any (fun x => decide (2 ^ v ≤ x)) = true then (.ret,⟨xKR (word zw w) (.func 75 [.ptr b 0]) (.int .i64 (i' : Nat)) (.int .i64 (w.length : Nat)) (.int .i64 (i' : Nat)),H⟩) else (.exit 0,⟨xKR (word zw w) (.func 75 [.ptr b 0]) s4 (.int .i64 (w.length : Nat)) (.int .i64 (w.length : Nat)),H⟩))
  | 0,i,h => by
    obtain rfl : i = w.length := by omega
    refine ⟨0,?_⟩
    rw [if_neg (by simp),xSI]
    simp (maxSteps := 30000000) (disch := first | assumption | omega | (simp only [List.length_cons,List.length_nil,List.length_append,List.length_set,List.length_replicate,List.length_map,List.length_range,List.length_take,List.length_drop,List.all_cons,List.all_nil,AV.isCell,Bool.and_self,Bool.and_true,xAj,xAc,xAg,xAb] <;> omega) | rfl | decide) only [xKQ,xAr,xAh,xAe,xAm,xAK,opv,List.getD_cons_succ,List.getD_cons_zero,xAN,Int.lt_irrefl,decide_false,xAn,xAq,List.set_cons_succ,List.set_cons_zero,xAl,xAi,xAk,xAf,xAv,xAo,Bool.false_eq_true,xAw,xAD,if_false,xBp,xBe,xKS]
  | d + 1,i,h => by
    have hlt : (i : Int) < (w.length : Nat) := by omega
    have hx : w.getD i 0 < 256 := by
      rw [List.getD_eq_getElem?_getD,List.getElem?_eq_getElem (by omega)]
      exact hw _ (List.getElem_mem _)
    have hb := xZu n v b (w.getD i 0) H hv hnv hx hH
    rw [xOu (by omega : i < w.length),List.any_cons]
    by_cases e : 2 ^ v ≤ w.getD i 0
    · refine ⟨i,?_⟩
      rw [if_pos (by rw [decide_eq_true e,Bool.true_or]),xSI]
      simp (maxSteps := 30000000) (disch := first | assumption | omega | (simp only [List.length_cons,List.length_nil,List.length_append,List.length_set,List.length_replicate,List.length_map,List.length_range,List.length_take,List.length_drop,List.all_cons,List.all_nil,AV.isCell,Bool.and_self,Bool.and_true,xAj,xAc,xAg,xAb] <;> omega) | rfl | decide) only [xKQ,xAr,xAh,xAe,xAm,xAK,opv,List.getD_cons_succ,List.getD_cons_zero,xAN,hlt,decide_true,xAn,xAq,List.set_cons_succ,List.set_cons_zero,xAl,xAi,xAk,xAf,xAv,xAo,xAw,xAD,if_true,xAu,xAE,xAT,xAY,Int.toNat_natCast,Nat.mul_one,xAF,xBl,xFE,xFD,xKU,xCf,Nat.add_zero,xAM,xBa,List.map_cons,List.map_nil,hb,e,xAH,xBy,xBI,xCG,xKS]
    · obtain ⟨i',ih⟩ := xLD (zw := zw) (s4 := s4) hv hnv hH hw hl d (i + 1) (by omega)
      refine ⟨i',?_⟩
      have e2 : (decide (2 ^ v ≤ w.getD i 0) || (w.drop (i + 1)).any fun x => decide (2 ^ v ≤ x)) = (w.drop (i + 1)).any fun x => decide (2 ^ v ≤ x) := by rw [decide_eq_false e,Bool.false_or]
      rw [e2,xSI]
      by_cases e3 : (w.drop (i + 1)).any (fun x => decide (2 ^ v ≤ x)) = true
      · rw [if_pos e3] at ih ⊢
        simp (maxSteps := 30000000) (disch := first | assumption | omega | (simp only [List.length_cons,List.length_nil,List.length_append,List.length_set,List.length_replicate,List.length_map,List.length_range,List.length_take,List.length_drop,List.all_cons,List.all_nil,AV.isCell,Bool.and_self,Bool.and_true,xAj,xAc,xAg,xAb] <;> omega) | rfl | decide) only [xKQ,xAr,xAh,xAe,xAm,xAK,opv,List.getD_cons_succ,List.getD_cons_zero,xAN,hlt,decide_true,xAn,xAq,List.set_cons_succ,List.set_cons_zero,xAl,xAi,xAk,xAf,xAv,xAo,xAw,xAD,if_true,xAu,xAE,xAT,xAY,Int.toNat_natCast,Nat.mul_one,xAF,xBl,xFE,xFD,xKU,xCf,Nat.add_zero,xAM,xBa,List.map_cons,List.map_nil,hb,e,decide_false,Bool.false_eq_true,xAH,if_false,xAs,xBm,xC9,xDM,xAB,xKS,ih]
      · rw [if_neg e3] at ih ⊢
        simp (maxSteps := 30000000) (disch := first | assumption | omega | (simp only [List.length_cons,List.length_nil,List.length_append,List.length_set,List.length_replicate,List.length_map,List.length_range,List.length_take,List.length_drop,List.all_cons,List.all_nil,AV.isCell,Bool.and_self,Bool.and_true,xAj,xAc,xAg,xAb] <;> omega) | rfl | decide) only [xKQ,xAr,xAh,xAe,xAm,xAK,opv,List.getD_cons_succ,List.getD_cons_zero,xAN,hlt,decide_true,xAn,xAq,List.set_cons_succ,List.set_cons_zero,xAl,xAi,xAk,xAf,xAv,xAo,xAw,xAD,if_true,xAu,xAE,xAT,xAY,Int.toNat_natCast,Nat.mul_one,xAF,xBl,xFE,xFD,xKU,xCf,Nat.add_zero,xAM,xBa,List.map_cons,List.map_nil,hb,e,decide_false,Bool.false_eq_true,xAH,if_false,xAs,xBm,xC9,xDM,xAB,xKS,ih]
theorem xOv (n : Aut) (v : Nat) (zw : Bool) (w : List Nat) (hv : v ≤ 6) (hnv : n.vars = (v : Nat)) (hw : ∀ x ∈ w,x < 256) (hl : w.length < 1099511627776) : L.pcall 60 [n.av,word zw w] = some (.int .i64 (xE9 v w)) := by
  obtain ⟨i',hi⟩ := xLD (n := n) (v := v) (b := 0) (H := [.cells false false n.cells]) (zw := zw) (w := w) (s4 := .int .i64 0) hv hnv rfl hw hl w.length 0 (by omega)
  simp only [Int.natCast_zero,List.drop_zero] at hi
  have h76 : ∃ r : Int,L.icall (.func 85 []) [word zw w,.func 75 [.ptr 0 0]] [.cells false false n.cells] = some (.int .i64 r,[.cells false false n.cells]) ∧ (0 ≤ r ↔ w.any (fun x => decide (2 ^ v ≤ x)) = true) := by
    by_cases e : w.any (fun x => decide (2 ^ v ≤ x)) = true
    · rw [if_pos e] at hi
      refine ⟨(i' : Nat),?_,⟨fun _ => e,fun _ => by omega⟩⟩
      rw [xZI,a85]
      simp (maxSteps := 30000000) (disch := first | assumption | omega | (simp only [List.length_cons,List.length_nil,List.length_append,List.length_set,List.length_replicate,List.length_map,List.length_range,List.length_take,List.length_drop,List.all_cons,List.all_nil,AV.isCell,Bool.and_self,Bool.and_true,xAj,xAc,xAg,xAb] <;> omega) | rfl | decide) only [Int.reduceNeg,List.append_nil,xAC,List.length_cons,List.length_nil,Nat.zero_add,Nat.reduceAdd,Nat.reduceSub,pads,List.cons_append,List.nil_append,xAr,xAh,xAe,xAm,xAE,opv,xAq,List.set_cons_succ,List.set_cons_zero,xAl,xAi,xAk,xAf,List.getD_cons_zero,xBO,List.getD_cons_succ,xBC,xAn,xAu,xBw,xKS,hi,xBy,xBI,xAz,xAJ,xAU,xAt]
    · rw [if_neg e] at hi
      refine ⟨-1,?_,⟨fun h => by omega,fun h => (e h).elim⟩⟩
      rw [xZI,a85]
      simp (maxSteps := 30000000) (disch := first | assumption | omega | (simp only [List.length_cons,List.length_nil,List.length_append,List.length_set,List.length_replicate,List.length_map,List.length_range,List.length_take,List.length_drop,List.all_cons,List.all_nil,AV.isCell,Bool.and_self,Bool.and_true,xAj,xAc,xAg,xAb] <;> omega) | rfl | decide) only [Int.reduceNeg,List.append_nil,xAC,List.length_cons,List.length_nil,Nat.zero_add,Nat.reduceAdd,Nat.reduceSub,pads,List.cons_append,List.nil_append,xAr,xAh,xAe,xAm,xAE,opv,xAq,List.set_cons_succ,List.set_cons_zero,xAl,xAi,xAk,xAf,List.getD_cons_zero,xBO,List.getD_cons_succ,xBC,xAn,xAu,xBw,xKS,hi,xBc,if_true,xAH,xAz,xAJ,xAU,xAt]
  obtain ⟨r,h1,h2⟩ := h76
  have e1 : ((64 : Int) < (w.length : Nat)) = (64 < w.length) := propext ⟨fun h => by omega,fun h => by omega⟩
  unfold xE9
  rw [xZ9,a60,xAL]
  by_cases c1 : 64 < w.length
  · simp (maxSteps := 30000000) (disch := first | assumption | omega | (simp only [List.length_cons,List.length_nil,List.length_append,List.length_set,List.length_replicate,List.length_map,List.length_range,List.length_take,List.length_drop,List.all_cons,List.all_nil,AV.isCell,Bool.and_self,Bool.and_true,xAj,xAc,xAg,xAb] <;> omega) | rfl | decide) only [xAC,List.length_cons,List.length_nil,Nat.zero_add,Nat.reduceAdd,Nat.reduceSub,pads,List.cons_append,List.nil_append,xAr,xAh,xAe,xAm,xBv,AV.cells,opv,List.getD_cons_zero,List.all_cons,AV.isCell,List.all_nil,Bool.and_self,if_true,xAq,List.set_cons_succ,List.set_cons_zero,xAl,xAE,xAi,xAk,xAf,xAu,List.getD_cons_succ,xBO,xBC,xAn,xAK,xDa,e1,c1,decide_true,xAv,xAo,xAH,xB4,List.map_cons,List.map_nil,xBa,xBy,xBI,xAz,xAJ,xAU,xAt,xAx,frzN,xAO]
  · by_cases c2 : w.any (fun x => decide (2 ^ v ≤ x)) = true
    · have h3 := h2.2 c2
      rw [if_pos c2]
      simp (maxSteps := 30000000) (disch := first | assumption | omega | (simp only [List.length_cons,List.length_nil,List.length_append,List.length_set,List.length_replicate,List.length_map,List.length_range,List.length_take,List.length_drop,List.all_cons,List.all_nil,AV.isCell,Bool.and_self,Bool.and_true,xAj,xAc,xAg,xAb] <;> omega) | rfl | decide) only [xAC,List.length_cons,List.length_nil,Nat.zero_add,Nat.reduceAdd,Nat.reduceSub,pads,List.cons_append,List.nil_append,xAr,xAh,xAe,xAm,xBv,AV.cells,opv,List.getD_cons_zero,List.all_cons,AV.isCell,List.all_nil,Bool.and_self,if_true,xAq,List.set_cons_succ,List.set_cons_zero,xAl,xAE,xAi,xAk,xAf,xAu,List.getD_cons_succ,xBO,xBC,xAn,xAK,xDa,e1,c1,decide_false,xAv,xAo,Bool.false_eq_true,xAH,xB4,List.map_cons,List.map_nil,xBa,xZF,a74,List.append_nil,h1,xDp,h3,decide_true,xAz,xAJ,xAU,xAt,xAw,if_false,xBy,xBI,xAx,frzN,xAO]
    · have h3 : ¬ 0 ≤ r := fun h => c2 (h2.1 h)
      rw [if_neg c2]
      simp (maxSteps := 30000000) (disch := first | assumption | omega | (simp only [List.length_cons,List.length_nil,List.length_append,List.length_set,List.length_replicate,List.length_map,List.length_range,List.length_take,List.length_drop,List.all_cons,List.all_nil,AV.isCell,Bool.and_self,Bool.and_true,xAj,xAc,xAg,xAb] <;> omega) | rfl | decide) only [xAC,List.length_cons,List.length_nil,Nat.zero_add,Nat.reduceAdd,Nat.reduceSub,pads,List.cons_append,List.nil_append,xAr,xAh,xAe,xAm,xBv,AV.cells,opv,List.getD_cons_zero,List.all_cons,AV.isCell,List.all_nil,Bool.and_self,if_true,xAq,List.set_cons_succ,List.set_cons_zero,xAl,xAE,xAi,xAk,xAf,xAu,List.getD_cons_succ,xBO,xBC,xAn,xAK,xDa,e1,c1,decide_false,xAv,xAo,Bool.false_eq_true,xAH,xB4,List.map_cons,List.map_nil,xBa,xZF,a74,List.append_nil,h1,xDp,h3,xAz,xAJ,xAU,xAt,xAw,if_false,xAs,xAx,frzN,xAO]
theorem xKd (x : Nat) : xCg x 0 = (List.range 64).filter fun i => x.testBit i := by
  unfold xCg
  rw [Nat.sub_zero,← List.range_eq_range']
theorem xH0 (a : List Nat) : ∀ d i,i + d ≤ 64 → xCS a i d = (List.range' (64 * i) (64 * d)).filter (mem a)
  | 0,i,_ => by simp [xCS]
  | d + 1,i,h => by
    rw [xCS,xH0 a d (i + 1) (by omega),Nat.mul_add 64 d 1,Nat.add_comm (64 * d),Nat.mul_one,← List.range'_append_1,List.filter_append,xKd,Nat.mul_add 64 i 1,Nat.mul_one]
    congr 1
    rw [List.range'_eq_map_range,List.filter_map]
    congr 1
    apply List.filter_congr
    intro b hb
    have hb' := List.mem_range.1 hb
    show _ = mem a (64 * i + b)
    unfold mem
    rw [show (64 * i + b) / 64 = i by omega,show (64 * i + b) % 64 = b by omega]
    simp [show 64 * i + b < 4096 by omega]
theorem xOw (a : List Nat) : xJ7 a = (List.range 4096).filter (mem a) := by
  unfold xJ7
  have hN : min a.length 64 ≤ 64 := Nat.min_le_right _ _
  rw [xH0 a _ 0 (by omega),Nat.mul_zero]
  have e : List.range 4096 = List.range' 0 (64 * min a.length 64) ++ List.range' (64 * min a.length 64) (4096 - 64 * min a.length 64) := by
    have e0 := List.range'_append_1 (s := 0) (m := 64 * min a.length 64) (n := 4096 - 64 * min a.length 64)
    rw [Nat.zero_add,show 64 * min a.length 64 + (4096 - 64 * min a.length 64) = 4096 by omega] at e0
    rw [List.range_eq_range',e0]
  rw [e,List.filter_append]
  have h2 : (List.range' (64 * min a.length 64) (4096 - 64 * min a.length 64)).filter (mem a) = [] := by
    rw [List.filter_eq_nil_iff]
    intro j hj
    rw [List.mem_range'_1] at hj
    have : a.length ≤ j / 64 := by omega
    unfold mem
    rw [xG1 this]
    simp
  rw [h2,List.append_nil]
def setL (S : Nat → Bool) : List Nat := (List.range 4096).filter S
theorem xVr {v : AV} {S : Nat → Bool} (hv : HasSet v S) : L.pcall 44 [v] = some (.sl (decide ((setL S).length = 0)) (setL S).length (xD4 (setL S))) := by
  obtain ⟨z,l,rfl,w,hl,h⟩ := hv
  have e : setL S = xJ7 l := by
    rw [xOw]
    unfold setL
    apply List.filter_congr
    intro j _
    rw [h]
  rw [e]
  exact xXD z w hl
def xKe (S : Nat → Bool) (q : Nat) : Nat := ((List.range q).filter S).length
theorem xHu (S : Nat → Bool) {q : Nat} (hq : q ≤ 4096) : setL S = (List.range q).filter S ++ (List.range' q (4096 - q)).filter S := by
  unfold setL
  have e0 := List.range'_append_1 (s := 0) (m := q) (n := 4096 - q)
  rw [Nat.zero_add,show q + (4096 - q) = 4096 by omega] at e0
  rw [List.range_eq_range',List.range_eq_range',← List.filter_append,e0]
theorem xXG (S : Nat → Bool) {q : Nat} (hq : q ≤ 4096) : xKe S q ≤ (setL S).length := by
  rw [xHu S hq,List.length_append]; unfold xKe; omega
theorem xMj (S : Nat → Bool) : (setL S).length ≤ 4096 := by
  unfold setL
  exact Nat.le_trans (List.length_filter_le _ _) (by simp)
theorem xXH (S : Nat → Bool) {q h : Nat} (hq : q ≤ 4096) (hh : h < (setL S).length) : ((setL S).getD h 0 < q) = (h < xKe S q) := by
  have hs := xHu S hq
  rw [hs] at hh ⊢
  rw [List.length_append] at hh
  apply propext
  rw [List.getD_eq_getElem?_getD]
  by_cases c : h < ((List.range q).filter S).length
  · rw [List.getElem?_append_left c,List.getElem?_eq_getElem c,Option.getD_some]
    have := List.getElem_mem c
    rw [List.mem_filter,List.mem_range] at this
    exact ⟨fun _ => c,fun _ => this.1⟩
  · rw [List.getElem?_append_right (by omega),List.getElem?_eq_getElem (by omega),Option.getD_some]
    have := List.getElem_mem (l := (List.range' q (4096 - q)).filter S) (n := h - ((List.range q).filter S).length) (by omega)
    rw [List.mem_filter,List.mem_range'_1] at this
    exact ⟨fun _ => by omega,fun h' => (c h').elim⟩
theorem xT6 (S : Nat → Bool) {q : Nat} (hq : q < 4096) : (xKe S q < (setL S).length ∧ (setL S).getD (xKe S q) 0 = q) ↔ S q = true := by
  have hs := xHu S (by omega : q ≤ 4096)
  have h1 : List.range' q (4096 - q) = q :: List.range' (q + 1) (4096 - (q + 1)) := by
    rw [show 4096 - q = (4096 - (q + 1)) + 1 by omega,List.range'_succ]
  rw [hs]
  unfold xKe
  rw [List.length_append,List.getD_eq_getElem?_getD,List.getElem?_append_right (by omega),Nat.sub_self,h1,List.filter_cons]
  constructor
  · rintro ⟨h2,h3⟩
    cases hq' : S q with
    | true => rfl
    | false =>
      rw [hq'] at h2 h3
      simp only [Bool.false_eq_true,if_false] at h2 h3
      have hl : 0 < ((List.range' (q + 1) (4096 - (q + 1))).filter S).length := by omega
      rw [List.getElem?_eq_getElem hl,Option.getD_some] at h3
      have := List.getElem_mem hl
      rw [List.mem_filter,List.mem_range'_1] at this
      omega
  · intro hq'
    rw [if_pos hq']
    simp
theorem xZv (a : Int) : L.pcall 84 [.int .i64 a] = some (.bool false) := by
  have e : (a != a) = false := by simp
  rw [yAn,a84,xAL]
  simp (maxSteps := 30000000) (disch := first | assumption | omega | (simp only [List.length_cons,List.length_nil,List.length_append,List.length_set,List.length_replicate,List.length_map,List.length_range,List.length_take,List.length_drop,List.all_cons,List.all_nil,AV.isCell,Bool.and_self,Bool.and_true,xAj,xAc,xAg,xAb] <;> omega) | rfl | decide) only [xAC,List.length_cons,List.length_nil,Nat.zero_add,Nat.reduceSub,pads,List.cons_append,List.nil_append,xAr,xAh,xAe,xAm,xAE,opv,xAq,List.set_cons_succ,List.set_cons_zero,xAl,xAi,xAk,xAf,List.getD_cons_zero,xAK,List.getD_cons_succ,xCu,decide_true,Bool.not_true,xAn,xAH,xAz,xAJ,xAU,xAt,xAx,frzN,xCr]
theorem xZw (a : Int) : L.pcall 73 [.int .i64 a] = some (.bool false) := by
  have e : (a != a) = false := by simp
  rw [yAg,a73,xAL]
  simp (maxSteps := 30000000) (disch := first | assumption | omega | (simp only [List.length_cons,List.length_nil,List.length_append,List.length_set,List.length_replicate,List.length_map,List.length_range,List.length_take,List.length_drop,List.all_cons,List.all_nil,AV.isCell,Bool.and_self,Bool.and_true,xAj,xAc,xAg,xAb] <;> omega) | rfl | decide) only [xAC,List.length_cons,List.length_nil,Nat.zero_add,Nat.reduceSub,pads,List.cons_append,List.nil_append,xAr,xAh,xAe,xAm,xAE,opv,xAq,List.set_cons_succ,List.set_cons_zero,xAl,xAi,xAk,xAf,List.getD_cons_zero,xAK,List.getD_cons_succ,xCu,decide_true,Bool.not_true,xAn,xAH,xAz,xAJ,xAU,xAt,xAx,frzN,xCr]
theorem xWl (a b : Int) : L.pcall 72 [.int .i64 a,.int .i64 b] = some (.bool (decide (a < b))) := by
  rw [yAf,a72,xAL]
  simp (maxSteps := 30000000) (disch := first | assumption | omega | (simp only [List.length_cons,List.length_nil,List.length_append,List.length_set,List.length_replicate,List.length_map,List.length_range,List.length_take,List.length_drop,List.all_cons,List.all_nil,AV.isCell,Bool.and_self,Bool.and_true,xAj,xAc,xAg,xAb] <;> omega) | rfl | decide) only [xAC,List.length_cons,List.length_nil,Nat.zero_add,Nat.reduceAdd,Nat.reduceSub,pads,List.cons_append,List.nil_append,xAr,xAh,xAe,xAm,xAE,opv,xAq,List.set_cons_succ,List.set_cons_zero,xAl,xAi,xAk,xAf,List.getD_cons_zero,xBn,List.map_cons,List.getD_cons_succ,List.map_nil,xA0,frzN,List.mapM_cons,xAO,List.mapM_nil,Option.pure_def,Option.bind_eq_bind,Option.bind_some,xAZ,xZv,xA2,xC6,xBQ,fzIds,List.flatMap_cons,xA4,List.flatMap_nil,List.append_nil,List.foldl_nil,ite_self,xAP,xAI,Bool.false_eq_true,xBk,if_false,xCw,Option.map_some,xJk,xBq,xAQ,xAn,if_true,xAK,xAN,xAH,xAz,xAJ,xAU,xAt,xAx,xCr]
theorem xPe {z : Bool} {l : List Nat} {q r : Nat} (hl : l.length ≤ 4096) (hr : ∀ h,h < l.length → (l.getD h 0 < q) = (h < r)) : ∀ d i j,j - i ≤ d → i ≤ r → r ≤ j → j ≤ l.length →
    L.loop xNh xUL ⟨xNi (.sl z l.length (xD4 l)) (.int .i64 (q : Nat)) (.int .i64 (l.length : Nat)) (.int .i64 (i : Nat)) (.int .i64 (j : Nat)),[]⟩ =
      some (.exit 0,⟨xNi (.sl z l.length (xD4 l)) (.int .i64 (q : Nat)) (.int .i64 (l.length : Nat)) (.int .i64 (r : Nat)) (.int .i64 (r : Nat)),[]⟩)
  | 0,i,j,h1,h2,h3,h4 => by
    obtain rfl : i = r := by omega
    obtain rfl : j = i := by omega
    rw [xPM]
    simp (maxSteps := 30000000) (disch := first | assumption | omega | (simp only [List.length_cons,List.length_nil,List.length_append,List.length_set,List.length_replicate,List.length_map,List.length_range,List.length_take,List.length_drop,List.all_cons,List.all_nil,AV.isCell,Bool.and_self,Bool.and_true,xAj,xAc,xAg,xAb] <;> omega) | rfl | decide) only [xKK,xAr,xAh,xAe,xAm,xAE,opv,List.getD_cons_succ,List.getD_cons_zero,xAq,List.set_cons_succ,List.set_cons_zero,xAl,xAK,xAN,Int.lt_irrefl,decide_false,xAn,xAi,xAk,xAf,xAv,xAo,Bool.false_eq_true,xAw,xAD,if_false,xBp,xBe,xI4]
  | d + 1,i,j,h1,h2,h3,h4 => by
    by_cases hij : i < j
    · have hlt : (i : Int) < (j : Nat) := by omega
      have hm : ((i + j : Nat) : Int).fdiv (2 ^ (min 1 IntKind.u64.bits)) = (((i + j) / 2 : Nat) : Int) := yAD (i + j) 1 (by omega)
      have hmlt : (i + j) / 2 < l.length := by omega
      have hrm := hr _ hmlt
      have hle : ((((l.getD ((i + j) / 2) 0 : Nat) : Int) < (q : Nat))) = (l.getD ((i + j) / 2) 0 < q) := propext ⟨fun h => by omega,fun h => by omega⟩
      by_cases c : (i + j) / 2 < r
      · have ih := xPe (z := z) hl hr d ((i + j) / 2 + 1) j (by omega) (by omega) h3 h4
        rw [xPM]
        generalize (i + j) / 2 = m at *
        simp (maxSteps := 30000000) (disch := first | assumption | omega | (simp only [List.length_cons,List.length_nil,List.length_append,List.length_set,List.length_replicate,List.length_map,List.length_range,List.length_take,List.length_drop,List.all_cons,List.all_nil,AV.isCell,Bool.and_self,Bool.and_true,xAj,xAc,xAg,xAb] <;> omega) | rfl | decide) only [xKK,xAr,xAh,xAe,xAm,xAE,opv,List.getD_cons_succ,List.getD_cons_zero,xAq,List.set_cons_succ,List.set_cons_zero,xAl,xAK,xAN,hlt,decide_true,xAn,xAi,xAk,xAf,xAv,xAo,xAw,xAD,if_true,xAu,xBm,xYK,xDM,xFH,xDO,xOz,xJh,Int.toNat_one,hm,xAT,xAY,Int.toNat_natCast,Nat.mul_one,xAF,xBl,xDN,xC5,xFW,xCf,Nat.add_zero,xAM,xBn,List.map_cons,List.map_nil,xA0,frzN,List.mapM_cons,xAO,List.mapM_nil,Option.pure_def,Option.bind_eq_bind,Option.bind_some,xAZ,xWl,hle,hrm,c,xA2,xC6,xBQ,fzIds,List.flatMap_cons,xA4,List.flatMap_nil,List.append_nil,List.foldl_nil,ite_self,xC9,xAs,xAB,xI4,ih]
      · have ih := xPe (z := z) hl hr d i ((i + j) / 2) (by omega) h2 (by omega) (by omega)
        rw [xPM]
        generalize (i + j) / 2 = m at *
        simp (maxSteps := 30000000) (disch := first | assumption | omega | (simp only [List.length_cons,List.length_nil,List.length_append,List.length_set,List.length_replicate,List.length_map,List.length_range,List.length_take,List.length_drop,List.all_cons,List.all_nil,AV.isCell,Bool.and_self,Bool.and_true,xAj,xAc,xAg,xAb] <;> omega) | rfl | decide) only [xKK,xAr,xAh,xAe,xAm,xAE,opv,List.getD_cons_succ,List.getD_cons_zero,xAq,List.set_cons_succ,List.set_cons_zero,xAl,xAK,xAN,hlt,decide_true,xAn,xAi,xAk,xAf,xAv,xAo,xAw,xAD,if_true,xAu,xBm,xYK,xDM,xFH,xDO,xOz,xJh,Int.toNat_one,hm,xAT,xAY,Int.toNat_natCast,Nat.mul_one,xAF,xBl,xDN,xC5,xFW,xCf,Nat.add_zero,xAM,xBn,List.map_cons,List.map_nil,xA0,frzN,List.mapM_cons,xAO,List.mapM_nil,Option.pure_def,Option.bind_eq_bind,Option.bind_some,xAZ,xWl,hle,hrm,c,decide_false,xA2,xC6,xBQ,fzIds,List.flatMap_cons,xA4,List.flatMap_nil,List.append_nil,List.foldl_nil,ite_self,Bool.false_eq_true,xC9,if_false,xAs,xAB,xI4,ih]
    · obtain rfl : i = r := by omega
      obtain rfl : j = i := by omega
      rw [xPM]
      simp (maxSteps := 30000000) (disch := first | assumption | omega | (simp only [List.length_cons,List.length_nil,List.length_append,List.length_set,List.length_replicate,List.length_map,List.length_range,List.length_take,List.length_drop,List.all_cons,List.all_nil,AV.isCell,Bool.and_self,Bool.and_true,xAj,xAc,xAg,xAb] <;> omega) | rfl | decide) only [xKK,xAr,xAh,xAe,xAm,xAE,opv,List.getD_cons_succ,List.getD_cons_zero,xAq,List.set_cons_succ,List.set_cons_zero,xAl,xAK,xAN,Int.lt_irrefl,decide_false,xAn,xAi,xAk,xAf,xAv,xAo,Bool.false_eq_true,xAw,xAD,if_false,xBp,xBe,xI4]
theorem xZx (z : Bool) (S : Nat → Bool) {q : Nat} (hq : q < 4096) : L.pcall 47 [.sl z (setL S).length (xD4 (setL S)),.int .i64 (q : Nat)] = some (.tup [.int .i64 (xKe S q : Nat),.bool (S q)]) := by
  have hlen := xMj S
  have hrk := xXG S (by omega : q ≤ 4096)
  have hloop := xPe (z := z) (l := setL S) (q := q) (r := xKe S q) hlen (fun h hh => xXH S (by omega) hh) (setL S).length 0 (setL S).length (by omega) (by omega) hrk (by omega)
  have hiff := xT6 S hq
  simp only [Int.natCast_zero] at hloop
  generalize setL S = l at *
  generalize xKe S q = r at *
  by_cases hlt : r < l.length
  · have hlt' : (r : Int) < (l.length : Nat) := by omega
    by_cases he : l.getD r 0 = q
    · rw [hiff.1 ⟨hlt,he⟩,xY1,a47,xAL]
      simp (maxSteps := 30000000) (disch := first | assumption | omega | (simp only [List.length_cons,List.length_nil,List.length_append,List.length_set,List.length_replicate,List.length_map,List.length_range,List.length_take,List.length_drop,List.all_cons,List.all_nil,AV.isCell,Bool.and_self,Bool.and_true,xAj,xAc,xAg,xAb] <;> omega) | rfl | decide) only [xAC,List.length_cons,List.length_nil,Nat.zero_add,Nat.reduceAdd,Nat.reduceSub,pads,List.cons_append,List.nil_append,xAr,xAh,xAe,xAm,xAE,opv,xAq,List.set_cons_succ,List.set_cons_zero,xAl,xAi,xAk,xAf,List.getD_cons_zero,xBO,List.getD_cons_succ,xBC,xAn,xAu,xBw,xI4,hloop,xBc,if_true,xAK,xAN,hlt',decide_true,xAP,xAI,xBk,xAT,xAY,Int.toNat_natCast,Nat.mul_one,xAF,xBl,xDN,xC5,xFW,xCf,Nat.add_zero,he,xAM,xDo,Bool.true_eq_false,if_false,xBn,List.map_cons,List.map_nil,xA0,frzN,List.mapM_cons,xCw,List.mapM_nil,Option.pure_def,Option.map_some,Option.bind_eq_bind,Option.bind_some,xAZ,ite_self,xFY,xBq,xAQ,xAH,xAz,xBW,xBV,xAU,xBU,xB9,xAt,xAx,xAO,xCr]
    · have hS : S q = false := by
        rw [Bool.eq_false_iff]
        exact fun h => he (hiff.2 h).2
      have he' : (((l.getD r 0 : Nat) : Int) = (q : Nat)) = False := eq_false (by omega)
      have he2 : (((l.getD r 0 : Nat) : Int) == (q : Nat)) = false := by rw [beq_eq_false_iff_ne]; omega
      rw [hS,xY1,a47,xAL]
      simp (maxSteps := 30000000) (disch := first | assumption | omega | (simp only [List.length_cons,List.length_nil,List.length_append,List.length_set,List.length_replicate,List.length_map,List.length_range,List.length_take,List.length_drop,List.all_cons,List.all_nil,AV.isCell,Bool.and_self,Bool.and_true,xAj,xAc,xAg,xAb] <;> omega) | rfl | decide) only [xAC,List.length_cons,List.length_nil,Nat.zero_add,Nat.reduceAdd,Nat.reduceSub,pads,List.cons_append,List.nil_append,xAr,xAh,xAe,xAm,xAE,opv,xAq,List.set_cons_succ,List.set_cons_zero,xAl,xAi,xAk,xAf,List.getD_cons_zero,xBO,List.getD_cons_succ,xBC,xAn,xAu,xBw,xI4,hloop,xBc,if_true,xAK,xAN,hlt',decide_true,xAP,xAI,xBk,xAT,xAY,Int.toNat_natCast,Nat.mul_one,xAF,xBl,xDN,xC5,xFW,xCf,Nat.add_zero,xAM,xDo,he',decide_false,xBn,List.map_cons,List.map_nil,xA0,frzN,List.mapM_cons,xAO,List.mapM_nil,Option.pure_def,Option.bind_eq_bind,Option.bind_some,xAZ,xZw,xA2,xC6,xBQ,fzIds,List.flatMap_cons,xA4,List.flatMap_nil,List.append_nil,List.foldl_nil,ite_self,Bool.false_eq_true,if_false,xCw,Option.map_some,xBq,xAQ,xAH,xAz,xBW,xBV,xAU,xBU,xB9,xAt,xAx,xCr]
  · have hS : S q = false := by
      rw [Bool.eq_false_iff]
      exact fun h => hlt (hiff.2 h).1
    have hlt' : ¬ (r : Int) < (l.length : Nat) := by omega
    rw [hS,xY1,a47,xAL]
    simp (maxSteps := 30000000) (disch := first | assumption | omega | (simp only [List.length_cons,List.length_nil,List.length_append,List.length_set,List.length_replicate,List.length_map,List.length_range,List.length_take,List.length_drop,List.all_cons,List.all_nil,AV.isCell,Bool.and_self,Bool.and_true,xAj,xAc,xAg,xAb] <;> omega) | rfl | decide) only [xAC,List.length_cons,List.length_nil,Nat.zero_add,Nat.reduceAdd,Nat.reduceSub,pads,List.cons_append,List.nil_append,xAr,xAh,xAe,xAm,xAE,opv,xAq,List.set_cons_succ,List.set_cons_zero,xAl,xAi,xAk,xAf,List.getD_cons_zero,xBO,List.getD_cons_succ,xBC,xAn,xAu,xBw,xI4,hloop,xBc,if_true,xAK,xAN,hlt',decide_false,xAP,xAI,Bool.false_eq_true,xBk,if_false,xAT,xAF,ite_self,xFY,xBq,xAQ,xAH,xAz,xBW,xBV,xAU,xBU,xB9,Option.map_some,xAt,xAx,frzN,xCw,List.mapM_cons,xAO,xCr,List.mapM_nil,Option.pure_def,Option.bind_eq_bind,Option.bind_some]
end Go.Abs.NfaD
