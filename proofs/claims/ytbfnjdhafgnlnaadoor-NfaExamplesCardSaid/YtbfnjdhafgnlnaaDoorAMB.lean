/- Check,after,Run,Accepts. -/
import Derived.Test.YtbfnjdhafgnlnaaDoorAMA
import Derived.Test.YtbfnjdhafgnlnaaDoorAProg
import Derived.Test.YtbfnjdhafgnlnaaDoorAbsIn
namespace Go.Abs.NfaD
open Go Go.Abs
set_option linter.unusedSimpArgs false
set_option linter.unusedVariables false
def xIi (s : Int) : Int → List Int → Bool
  | _,[] => true
  | last,q :: t => if q ≤ last ∨ s ≤ q then false else xIi s q t
theorem xJ1 {n : Aut} {z : Bool} {l : List Int} {s4 : AV} (hl : l.length < 1099511627776) : ∀ d i last,i + d = l.length →
    ∃ (last' : Int) (i' : Nat),L.loop xNj xUM ⟨xKL (.ptr 0 0) s4 (.int .i64 last) (iw z l) (.int .i64 (l.length : Nat)) (.int .i64 (i : Nat)),[.cells false false n.cells]⟩ =
      some (if xIi n.states last (l.drop i) = true then (.exit 0,⟨xKL (.ptr 0 0) s4 (.int .i64 last') (iw z l) (.int .i64 (l.length : Nat)) (.int .i64 (l.length : Nat)),[.cells false false n.cells]⟩)
        else (.ret,⟨xKL (.ptr 0 0) (.bool false) (.int .i64 last') (iw z l) (.int .i64 (l.length : Nat)) (.int .i64 (i' : Nat)),[.cells false false n.cells]⟩))
  | 0,i,last,h => by
    obtain rfl : i = l.length := by omega
    refine ⟨last,0,?_⟩
    rw [if_pos (by rw [List.drop_length]; rfl),xPN]
    simp (maxSteps := 30000000) (disch := first | assumption | omega | (simp only [List.length_cons,List.length_nil,List.length_append,List.length_set,List.length_replicate,List.length_map,List.length_range,List.length_take,List.length_drop,List.all_cons,List.all_nil,AV.isCell,Bool.and_self,Bool.and_true,xAj,xAc,xAg,xAb,xAd] <;> omega) | rfl | decide) only [xI5,xAr,xAh,xAe,xAm,xAK,opv,List.getD_cons_succ,List.getD_cons_zero,xAN,Int.lt_irrefl,decide_false,xAn,xAq,List.set_cons_succ,List.set_cons_zero,xAl,xAi,xAk,xAf,xAv,xAo,Bool.false_eq_true,xAw,xAD,if_false,xBp,xBe,xI6]
  | d + 1,i,last,h => by
    have hlt : (i : Int) < (l.length : Nat) := by omega
    rw [xET (by omega : i < l.length)]
    by_cases c1 : l.getD i 0 ≤ last
    · refine ⟨last,i,?_⟩
      have ea : xIi n.states last (l.getD i 0 :: l.drop (i + 1)) = false := if_pos (.inl c1)
      rw [ea,if_neg (by simp),xPN]
      simp (maxSteps := 30000000) (disch := first | assumption | omega | (simp only [List.length_cons,List.length_nil,List.length_append,List.length_set,List.length_replicate,List.length_map,List.length_range,List.length_take,List.length_drop,List.all_cons,List.all_nil,AV.isCell,Bool.and_self,Bool.and_true,xAj,xAc,xAg,xAb,xAd] <;> omega) | rfl | decide) only [xI5,xAr,xAh,xAe,xAm,xAK,opv,List.getD_cons_succ,List.getD_cons_zero,xAN,hlt,decide_true,xAn,xAq,List.set_cons_succ,List.set_cons_zero,xAl,xAi,xAk,xAf,xAv,xAo,xAw,xAD,if_true,xAu,xAT,xAY,Int.toNat_natCast,Nat.mul_one,xAF,xBl,xCh,xB7,xC1,xB6,Nat.add_zero,xAM,xAE,xHl,c1,xAP,xAI,Bool.true_eq_false,xBk,if_false,xAS,xAA,Nat.zero_add,xBq,xAQ,xAH,xBI,xBy,xCG,xI6]
    · by_cases c2 : n.states ≤ l.getD i 0
      · refine ⟨last,i,?_⟩
        have ea : xIi n.states last (l.getD i 0 :: l.drop (i + 1)) = false := if_pos (.inr c2)
        rw [ea,if_neg (by simp),xPN]
        simp (maxSteps := 30000000) (disch := first | assumption | omega | (simp only [List.length_cons,List.length_nil,List.length_append,List.length_set,List.length_replicate,List.length_map,List.length_range,List.length_take,List.length_drop,List.all_cons,List.all_nil,AV.isCell,Bool.and_self,Bool.and_true,xAj,xAc,xAg,xAb,xAd] <;> omega) | rfl | decide) only [xI5,xAr,xAh,xAe,xAm,xAK,opv,List.getD_cons_succ,List.getD_cons_zero,xAN,hlt,decide_true,xAn,xAq,List.set_cons_succ,List.set_cons_zero,xAl,xAi,xAk,xAf,xAv,xAo,xAw,xAD,if_true,xAu,xAT,xAY,Int.toNat_natCast,Nat.mul_one,xAF,xBl,xCh,xB7,xC1,xB6,Nat.add_zero,xAM,xAE,xHl,c1,decide_false,xAP,xAI,xBk,xAS,xAA,Nat.zero_add,xA7,List.getElem?_cons_zero,xAy,List.drop_succ_cons,List.drop_zero,List.take_succ_cons,List.take_zero,xDp,c2,xBq,xAQ,Bool.false_eq_true,ite_self,xAH,xBI,xBy,xCG,xI6]
      · obtain ⟨last',i',ih⟩ := xJ1 (n := n) (z := z) (s4 := s4) hl d (i + 1) (l.getD i 0) (by omega)
        refine ⟨last',i',?_⟩
        have ea : xIi n.states last (l.getD i 0 :: l.drop (i + 1)) = xIi n.states (l.getD i 0) (l.drop (i + 1)) := if_neg (by omega)
        rw [ea,xPN]
        by_cases e : xIi n.states (l.getD i 0) (l.drop (i + 1)) = true
        · rw [if_pos e] at ih ⊢
          simp (maxSteps := 30000000) (disch := first | assumption | omega | (simp only [List.length_cons,List.length_nil,List.length_append,List.length_set,List.length_replicate,List.length_map,List.length_range,List.length_take,List.length_drop,List.all_cons,List.all_nil,AV.isCell,Bool.and_self,Bool.and_true,xAj,xAc,xAg,xAb,xAd] <;> omega) | rfl | decide) only [xI5,xAr,xAh,xAe,xAm,xAK,opv,List.getD_cons_succ,List.getD_cons_zero,xAN,hlt,decide_true,xAn,xAq,List.set_cons_succ,List.set_cons_zero,xAl,xAi,xAk,xAf,xAv,xAo,xAw,xAD,if_true,xAu,xAT,xAY,Int.toNat_natCast,Nat.mul_one,xAF,xBl,xCh,xB7,xC1,xB6,Nat.add_zero,xAM,xAE,xHl,c1,decide_false,xAP,xAI,xBk,xAS,xAA,Nat.zero_add,xA7,List.getElem?_cons_zero,xAy,List.drop_succ_cons,List.drop_zero,List.take_succ_cons,List.take_zero,xDp,c2,xBq,xAQ,Bool.false_eq_true,if_false,xAH,xAs,xBm,xC9,xDM,xAB,xI6,ih]
        · rw [if_neg e] at ih ⊢
          simp (maxSteps := 30000000) (disch := first | assumption | omega | (simp only [List.length_cons,List.length_nil,List.length_append,List.length_set,List.length_replicate,List.length_map,List.length_range,List.length_take,List.length_drop,List.all_cons,List.all_nil,AV.isCell,Bool.and_self,Bool.and_true,xAj,xAc,xAg,xAb,xAd] <;> omega) | rfl | decide) only [xI5,xAr,xAh,xAe,xAm,xAK,opv,List.getD_cons_succ,List.getD_cons_zero,xAN,hlt,decide_true,xAn,xAq,List.set_cons_succ,List.set_cons_zero,xAl,xAi,xAk,xAf,xAv,xAo,xAw,xAD,if_true,xAu,xAT,xAY,Int.toNat_natCast,Nat.mul_one,xAF,xBl,xCh,xB7,xC1,xB6,Nat.add_zero,xAM,xAE,xHl,c1,decide_false,xAP,xAI,xBk,xAS,xAA,Nat.zero_add,xA7,List.getElem?_cons_zero,xAy,List.drop_succ_cons,List.drop_zero,List.take_succ_cons,List.take_zero,xDp,c2,xBq,xAQ,Bool.false_eq_true,if_false,xAH,xAs,xBm,xC9,xDM,xAB,xI6,ih]
theorem xOk (n : Aut) (z : Bool) (l : List Int) (hl : l.length < 1099511627776) : L.pcall 58 [n.av,iw z l] = some (.bool (xIi n.states (-1) l)) := by
  obtain ⟨last',i',h⟩ := xJ1 (n := n) (z := z) (s4 := .bool false) hl l.length 0 (-1) (by omega)
  simp only [Int.natCast_zero,List.drop_zero] at h
  rw [xZ7,a58,xAL]
  by_cases e : xIi n.states (-1) l = true
  · rw [if_pos e] at h
    rw [e]
    simp (maxSteps := 30000000) (disch := first | assumption | omega | (simp only [List.length_cons,List.length_nil,List.length_append,List.length_set,List.length_replicate,List.length_map,List.length_range,List.length_take,List.length_drop,List.all_cons,List.all_nil,AV.isCell,Bool.and_self,Bool.and_true,xAj,xAc,xAg,xAb,xAd] <;> omega) | rfl | decide) only [Int.reduceNeg,xAC,List.length_cons,List.length_nil,Nat.zero_add,Nat.reduceAdd,Nat.reduceSub,pads,List.cons_append,List.nil_append,xAr,xAh,xAe,xAm,xBv,AV.cells,opv,List.getD_cons_zero,List.all_cons,AV.isCell,List.all_nil,Bool.and_self,if_true,xAq,List.set_cons_succ,List.set_cons_zero,xAl,xAE,xAi,xAk,xAf,List.getD_cons_succ,xBO,xBC,xAn,xAu,xBw,xI6,h,xBc,xAH,xAz,xAJ,xAU,xAt,xAx,frzN,xCr]
  · rw [if_neg e] at h
    have e' : xIi n.states (-1) l = false := by simpa using e
    rw [e']
    simp (maxSteps := 30000000) (disch := first | assumption | omega | (simp only [List.length_cons,List.length_nil,List.length_append,List.length_set,List.length_replicate,List.length_map,List.length_range,List.length_take,List.length_drop,List.all_cons,List.all_nil,AV.isCell,Bool.and_self,Bool.and_true,xAj,xAc,xAg,xAb,xAd] <;> omega) | rfl | decide) only [Int.reduceNeg,xAC,List.length_cons,List.length_nil,Nat.zero_add,Nat.reduceAdd,Nat.reduceSub,pads,List.cons_append,List.nil_append,xAr,xAh,xAe,xAm,xBv,AV.cells,opv,List.getD_cons_zero,List.all_cons,AV.isCell,List.all_nil,Bool.and_self,if_true,xAq,List.set_cons_succ,List.set_cons_zero,xAl,xAE,xAi,xAk,xAf,List.getD_cons_succ,xBO,xBC,xAn,xAu,xBw,xI6,h,xBy,xBI,xAz,xAJ,xAU,xAt,xAx,frzN,xCr]
section
variable (n : Aut) (b : Nat) (H : Heap) {fz z : Bool} (hH : H[b]? = some (.cells fz z n.cells))
include hH
theorem c42 : L.icall (.func 54 [.ptr b 0]) [] H = some (.bool (decide (n.vars < 0) || decide (6 < n.vars)),H) := by
  rw [xZ3,a54]
  by_cases c1 : n.vars < 0 <;> by_cases c2 : 6 < n.vars <;> simp (maxSteps := 30000000) (disch := first | assumption | omega | (simp only [List.length_cons,List.length_nil,List.length_append,List.length_set,List.length_replicate,List.length_map,List.length_range,List.length_take,List.length_drop,List.all_cons,List.all_nil,AV.isCell,Bool.and_self,Bool.and_true,xAj,xAc,xAg,xAb,xAd] <;> omega) | rfl | decide) only [List.nil_append,xAC,List.length_cons,List.length_nil,Nat.zero_add,Nat.reduceSub,pads,List.cons_append,xAr,xAh,xAe,xAm,xAE,opv,xAq,List.set_cons_succ,List.set_cons_zero,xAl,xAi,xAk,xAf,xAS,List.getD_cons_zero,xAA,Nat.add_zero,xAn,xAF,List.getD_cons_succ,xA7,hH,xAy,List.drop_zero,List.take_succ_cons,List.take_zero,xAM,xAK,xAN,c1,decide_true,xAP,xAI,Bool.true_eq_false,xBk,if_false,xBq,xAQ,if_true,xAH,xAz,xAJ,xAU,xAt,c2,Bool.or_true,decide_false,Bool.or_false,xDa,Bool.false_eq_true,ite_self]
theorem c43 : L.icall (.func 55 [.ptr b 0]) [] H = some (.bool (decide (n.states < 0)),H) := by
  rw [xZ4,a55]
  simp (maxSteps := 30000000) (disch := first | assumption | omega | (simp only [List.length_cons,List.length_nil,List.length_append,List.length_set,List.length_replicate,List.length_map,List.length_range,List.length_take,List.length_drop,List.all_cons,List.all_nil,AV.isCell,Bool.and_self,Bool.and_true,xAj,xAc,xAg,xAb,xAd] <;> omega) | rfl | decide) only [List.nil_append,xAC,List.length_cons,List.length_nil,Nat.zero_add,Nat.reduceSub,pads,List.cons_append,xAr,xAh,xAe,xAm,xAE,opv,xAq,List.set_cons_succ,List.set_cons_zero,xAl,xAi,xAk,xAf,xAS,List.getD_cons_zero,xAA,xAn,xAF,List.getD_cons_succ,xA7,hH,xAy,List.drop_succ_cons,List.drop_zero,List.take_succ_cons,List.take_zero,xAM,xAK,xAN,xAH,xAz,xAJ,xAU,xAt]
theorem c44 : L.icall (.func 56 [.ptr b 0]) [] H = some (.bool (decide (64 < n.states) || decide (512 < n.ed.length)),H) := by
  have e : ((512 : Int) < (n.ed.length : Nat)) = (512 < n.ed.length) := propext ⟨fun h => by omega,fun h => by omega⟩
  rw [xZ5,a56]
  by_cases c1 : 64 < n.states <;> by_cases c2 : 512 < n.ed.length <;> simp (maxSteps := 30000000) (disch := first | assumption | omega | (simp only [List.length_cons,List.length_nil,List.length_append,List.length_set,List.length_replicate,List.length_map,List.length_range,List.length_take,List.length_drop,List.all_cons,List.all_nil,AV.isCell,Bool.and_self,Bool.and_true,xAj,xAc,xAg,xAb,xAd] <;> omega) | rfl | decide) only [List.nil_append,xAC,List.length_cons,List.length_nil,Nat.zero_add,Nat.reduceSub,pads,List.cons_append,xAr,xAh,xAe,xAm,xAE,opv,xAq,List.set_cons_succ,List.set_cons_zero,xAl,xAi,xAk,xAf,xAS,List.getD_cons_zero,xAA,xAn,xAF,List.getD_cons_succ,xA7,hH,xAy,List.drop_succ_cons,List.drop_zero,List.take_succ_cons,List.take_zero,xAM,xAK,xDa,c1,decide_true,xAP,xAI,Bool.true_eq_false,xBk,if_false,xBO,xBq,xAQ,if_true,xAH,xAz,xAJ,xAU,xAt,c2,Bool.or_true,decide_false,Bool.or_false,List.take_nil,xBC,e,Bool.false_eq_true,ite_self]
theorem c45 (h1 : n.st.length < 1099511627776) (h2 : n.fi.length < 1099511627776) : L.icall (.func 57 [.ptr b 0]) [] H = some (.bool (!xIi n.states (-1) n.st || !xIi n.states (-1) n.fi),H) := by
  have e1 := xOk n n.z1 n.st h1
  have e2 := xOk n n.z2 n.fi h2
  rw [xZ6,a57]
  cases c1 : xIi n.states (-1) n.st <;> cases c2 : xIi n.states (-1) n.fi <;> rw [c1] at e1 <;> rw [c2] at e2 <;> simp (maxSteps := 30000000) (disch := first | assumption | omega | (simp only [List.length_cons,List.length_nil,List.length_append,List.length_set,List.length_replicate,List.length_map,List.length_range,List.length_take,List.length_drop,List.all_cons,List.all_nil,AV.isCell,Bool.and_self,Bool.and_true,xAj,xAc,xAg,xAb,xAd] <;> omega) | rfl | decide) only [List.nil_append,xAC,List.length_cons,List.length_nil,Nat.zero_add,Nat.reduceSub,pads,List.cons_append,xAr,xAh,xAe,xAm,xAE,opv,xAq,List.set_cons_succ,List.set_cons_zero,xAl,xAi,xAk,xAf,xAF,List.getD_cons_zero,xA7,hH,xAy,List.drop_zero,List.take_succ_cons,List.take_nil,xBt,xAn,xAS,xAA,List.getD_cons_succ,List.drop_succ_cons,List.take_zero,xAM,xBn,List.map_cons,List.map_nil,xA0,frzN,List.mapM_cons,xCk,xAO,xBZ,List.mapM_nil,Option.pure_def,Option.bind_eq_bind,Option.bind_some,Option.map_some,xAZ,e1,xA2,xC6,xBQ,fzIds,List.flatMap_cons,xCl,xA4,xCx,List.flatMap_nil,List.append_nil,List.foldl_nil,ite_self,xJk,xJl,Bool.not_false,xAP,xAI,Bool.true_eq_false,xBk,if_false,xCw,xBq,xAQ,if_true,xAH,xAz,xAJ,xAU,xAt,Bool.or_true,Bool.not_true,Bool.or_false,e2,Bool.false_eq_true]
end
def xE8 (s : Int) (v : Nat) (e : Ed) : Int := if min e.a e.b < 0 ∨ s ≤ max e.a e.b then 8 else xFO v e.p e.n
def xEf (s : Int) (v : Nat) : List Ed → Int
  | [] => 0
  | e :: t => if xE8 s v e = 0 then xEf s v t else xE8 s v e
theorem xGY {s : Int} {v : Nat} {e : Ed} {t : List Ed} (h : xE8 s v e ≠ 0) : xEf s v (e :: t) = xE8 s v e := if_neg h
theorem xJ2 {s : Int} {v : Nat} {e : Ed} {t : List Ed} (h : xE8 s v e = 0) : xEf s v (e :: t) = xEf s v t := if_pos h
theorem xGZ {l : List Ed} {i : Nat} (h : i < l.length) : l.getD i e0 ∈ l := by
  rw [List.getD_eq_getElem?_getD,List.getElem?_eq_getElem h]
  exact List.getElem_mem _
theorem xLy {n : Aut} {v : Nat} {s2 : AV} (hv : v ≤ 6) (hnv : n.vars = (v : Nat)) (hl : n.ed.length < 1099511627776) (hb : ∀ e ∈ n.ed,e.p < 256 ∧ e.n < 256) : ∀ d i T,i + d = n.ed.length →
    ∃ (T' : Heap) (i' : Nat),L.loop xNb xUH ⟨xKH (.ptr 0 0) s2 (.sl n.z3 n.ed.length (edges n.ed)) (.int .i64 (n.ed.length : Nat)) (.int .i64 (i : Nat)),.cells false false n.cells :: T⟩ =
      some (if xEf n.states v (n.ed.drop i) = 0 then (.exit 2,⟨xKH (.ptr 0 0) s2 (.sl n.z3 n.ed.length (edges n.ed)) (.int .i64 (n.ed.length : Nat)) (.int .i64 (n.ed.length : Nat)),.cells false false n.cells :: T'⟩)
        else (.ret,⟨xKH (.ptr 0 0) (.int .i64 (xEf n.states v (n.ed.drop i))) (.sl n.z3 n.ed.length (edges n.ed)) (.int .i64 (n.ed.length : Nat)) (.int .i64 (i' : Nat)),.cells false false n.cells :: T'⟩))
  | 0,i,T,h => by
    obtain rfl : i = n.ed.length := by omega
    refine ⟨T,0,?_⟩
    rw [if_pos (by rw [List.drop_length]; rfl),xNc]
    simp (maxSteps := 30000000) (disch := first | assumption | omega | (simp only [List.length_cons,List.length_nil,List.length_append,List.length_set,List.length_replicate,List.length_map,List.length_range,List.length_take,List.length_drop,List.all_cons,List.all_nil,AV.isCell,Bool.and_self,Bool.and_true,xAj,xAc,xAg,xAb,xAd] <;> omega) | rfl | decide) only [xHI,xAr,xAh,xAe,xAm,xAK,opv,List.getD_cons_succ,List.getD_cons_zero,xAN,Int.lt_irrefl,decide_false,xAn,xAq,List.set_cons_succ,List.set_cons_zero,xAl,xAi,xAk,xAf,xAv,xAo,Bool.false_eq_true,xAw,xAD,if_false,xBp,xBe,xHJ]
  | d + 1,i,T,h => by
    have hlt : (i : Int) < (n.ed.length : Nat) := by omega
    have hm := hb _ (xGZ (by omega : i < n.ed.length))
    have hcube := xT5 v (n.ed.getD i e0).p (n.ed.getD i e0).n hv hm.1 hm.2
    rw [xEV (by omega : i < n.ed.length)]
    by_cases c1 : min (n.ed.getD i e0).a (n.ed.getD i e0).b < 0
    · refine ⟨T ++ [.cells false false (xEU (n.ed.getD i e0))],i,?_⟩
      have ee : xE8 n.states v (n.ed.getD i e0) = 8 := if_pos (.inl c1)
      rw [xGY (by rw [ee]; omega),ee,if_neg (by omega),xNc]
      simp (maxSteps := 30000000) (disch := first | assumption | omega | (simp only [List.length_cons,List.length_nil,List.length_append,List.length_set,List.length_replicate,List.length_map,List.length_range,List.length_take,List.length_drop,List.all_cons,List.all_nil,AV.isCell,Bool.and_self,Bool.and_true,xAj,xAc,xAg,xAb,xAd] <;> omega) | rfl | decide) only [xHI,xAr,xAh,xAe,xAm,xAK,opv,List.getD_cons_succ,List.getD_cons_zero,xAN,hlt,decide_true,xAn,xAq,List.set_cons_succ,List.set_cons_zero,xAl,xAi,xAk,xAf,xAv,xAo,xAw,xAD,if_true,xAu,xAT,xAY,Int.toNat_natCast,xAF,xBl,xBg,xBt,xBv,AV.cells,List.all_cons,AV.isCell,List.all_nil,Bool.and_self,List.length_cons,List.cons_append,xA6,List.length_nil,Nat.zero_add,Nat.reduceAdd,xBK,List.getElem?_cons_succ,xEE,List.getElem?_cons_zero,xAX,splice,List.take_zero,List.nil_append,List.drop_succ_cons,List.drop_nil,List.append_nil,xEP,xAG,xBj,xAS,xAA,Nat.add_zero,xA7,xAy,List.drop_zero,List.take_succ_cons,xAM,xEa,xDs,c1,xAE,xAP,xAI,Bool.true_eq_false,xBk,if_false,xE7,xBq,xAQ,xAH,xBI,xBy,xCG,xHJ,xEU]
    · by_cases c2 : n.states ≤ max (n.ed.getD i e0).a (n.ed.getD i e0).b
      · refine ⟨T ++ [.cells false false (xEU (n.ed.getD i e0))],i,?_⟩
        have ee : xE8 n.states v (n.ed.getD i e0) = 8 := if_pos (.inr c2)
        rw [xGY (by rw [ee]; omega),ee,if_neg (by omega),xNc]
        simp (maxSteps := 30000000) (disch := first | assumption | omega | (simp only [List.length_cons,List.length_nil,List.length_append,List.length_set,List.length_replicate,List.length_map,List.length_range,List.length_take,List.length_drop,List.all_cons,List.all_nil,AV.isCell,Bool.and_self,Bool.and_true,xAj,xAc,xAg,xAb,xAd] <;> omega) | rfl | decide) only [xHI,xAr,xAh,xAe,xAm,xAK,opv,List.getD_cons_succ,List.getD_cons_zero,xAN,hlt,decide_true,xAn,xAq,List.set_cons_succ,List.set_cons_zero,xAl,xAi,xAk,xAf,xAv,xAo,xAw,xAD,if_true,xAu,xAT,xAY,Int.toNat_natCast,xAF,xBl,xBg,xBt,xBv,AV.cells,List.all_cons,AV.isCell,List.all_nil,Bool.and_self,List.length_cons,List.cons_append,xA6,List.length_nil,Nat.zero_add,Nat.reduceAdd,xBK,List.getElem?_cons_succ,xEE,List.getElem?_cons_zero,xAX,splice,List.take_zero,List.nil_append,List.drop_succ_cons,List.drop_nil,List.append_nil,xEP,xAG,xBj,xAS,xAA,Nat.add_zero,xA7,xAy,List.drop_zero,List.take_succ_cons,xAM,xEa,xDs,c1,decide_false,xAE,xAP,xAI,xBk,xE7,xEt,xDp,c2,xBq,xAQ,Bool.false_eq_true,ite_self,xAH,xBI,xBy,xCG,xHJ,xEU]
      · have ee : xE8 n.states v (n.ed.getD i e0) = xFO v (n.ed.getD i e0).p (n.ed.getD i e0).n := if_neg (by omega)
        by_cases c3 : xFO v (n.ed.getD i e0).p (n.ed.getD i e0).n = 0
        · obtain ⟨T',i',ih⟩ := xLy (s2 := s2) hv hnv hl hb d (i + 1) (T ++ [.cells false false (xEU (n.ed.getD i e0))]) (by omega)
          refine ⟨T',i',?_⟩
          rw [c3] at hcube
          rw [xJ2 (by rw [ee]; exact c3),xNc]
          simp only [xEU] at ih
          by_cases e : xEf n.states v (n.ed.drop (i + 1)) = 0
          · rw [if_pos e] at ih ⊢
            simp (maxSteps := 30000000) (disch := first | assumption | omega | (simp only [List.length_cons,List.length_nil,List.length_append,List.length_set,List.length_replicate,List.length_map,List.length_range,List.length_take,List.length_drop,List.all_cons,List.all_nil,AV.isCell,Bool.and_self,Bool.and_true,xAj,xAc,xAg,xAb,xAd] <;> omega) | rfl | decide) only [xHI,xAr,xAh,xAe,xAm,xAK,opv,List.getD_cons_succ,List.getD_cons_zero,xAN,hlt,decide_true,xAn,xAq,List.set_cons_succ,List.set_cons_zero,xAl,xAi,xAk,xAf,xAv,xAo,xAw,xAD,if_true,xAu,xAT,xAY,Int.toNat_natCast,xAF,xBl,xBg,xBt,xBv,AV.cells,List.all_cons,AV.isCell,List.all_nil,Bool.and_self,List.length_cons,List.cons_append,xA6,List.length_nil,Nat.zero_add,Nat.reduceAdd,xBK,List.getElem?_cons_succ,xEE,List.getElem?_cons_zero,xAX,splice,List.take_zero,List.nil_append,List.drop_succ_cons,List.drop_nil,List.append_nil,xEP,xAG,xBj,xAS,xAA,Nat.add_zero,xA7,xAy,List.drop_zero,List.take_succ_cons,xAM,xEa,xDs,c1,decide_false,xAE,xAP,xAI,xBk,xE7,xEt,xDp,c2,xBq,xAQ,Bool.false_eq_true,if_false,xAH,List.take_nil,xBR,beq_self_eq_true,List.map_cons,List.map_nil,fillA,Nat.reduceLeDiff,and_self,Nat.le_refl,Option.map_some,hnv,xBn,xA0,frzN,List.mapM_cons,xCk,xAO,List.mapM_nil,Option.pure_def,Option.bind_eq_bind,Option.bind_some,xAZ,hcube,xA2,xC6,xBQ,fzIds,List.flatMap_cons,xCl,xA4,List.flatMap_nil,List.foldl_nil,ite_self,xCu,Bool.not_true,xAs,xBm,xC9,xDM,xAB,xHJ,ih]
          · rw [if_neg e] at ih ⊢
            simp (maxSteps := 30000000) (disch := first | assumption | omega | (simp only [List.length_cons,List.length_nil,List.length_append,List.length_set,List.length_replicate,List.length_map,List.length_range,List.length_take,List.length_drop,List.all_cons,List.all_nil,AV.isCell,Bool.and_self,Bool.and_true,xAj,xAc,xAg,xAb,xAd] <;> omega) | rfl | decide) only [xHI,xAr,xAh,xAe,xAm,xAK,opv,List.getD_cons_succ,List.getD_cons_zero,xAN,hlt,decide_true,xAn,xAq,List.set_cons_succ,List.set_cons_zero,xAl,xAi,xAk,xAf,xAv,xAo,xAw,xAD,if_true,xAu,xAT,xAY,Int.toNat_natCast,xAF,xBl,xBg,xBt,xBv,AV.cells,List.all_cons,AV.isCell,List.all_nil,Bool.and_self,List.length_cons,List.cons_append,xA6,List.length_nil,Nat.zero_add,Nat.reduceAdd,xBK,List.getElem?_cons_succ,xEE,List.getElem?_cons_zero,xAX,splice,List.take_zero,List.nil_append,List.drop_succ_cons,List.drop_nil,List.append_nil,xEP,xAG,xBj,xAS,xAA,Nat.add_zero,xA7,xAy,List.drop_zero,List.take_succ_cons,xAM,xEa,xDs,c1,decide_false,xAE,xAP,xAI,xBk,xE7,xEt,xDp,c2,xBq,xAQ,Bool.false_eq_true,if_false,xAH,List.take_nil,xBR,beq_self_eq_true,List.map_cons,List.map_nil,fillA,Nat.reduceLeDiff,and_self,Nat.le_refl,Option.map_some,hnv,xBn,xA0,frzN,List.mapM_cons,xCk,xAO,List.mapM_nil,Option.pure_def,Option.bind_eq_bind,Option.bind_some,xAZ,hcube,xA2,xC6,xBQ,fzIds,List.flatMap_cons,xCl,xA4,List.flatMap_nil,List.foldl_nil,ite_self,xCu,Bool.not_true,xAs,xBm,xC9,xDM,xAB,xHJ,ih]
        · refine ⟨T ++ [.cells false false (xEU (n.ed.getD i e0))],i,?_⟩
          rw [xGY (by rw [ee]; exact c3),ee,if_neg c3,xNc]
          simp (maxSteps := 30000000) (disch := first | assumption | omega | (simp only [List.length_cons,List.length_nil,List.length_append,List.length_set,List.length_replicate,List.length_map,List.length_range,List.length_take,List.length_drop,List.all_cons,List.all_nil,AV.isCell,Bool.and_self,Bool.and_true,xAj,xAc,xAg,xAb,xAd] <;> omega) | rfl | decide) only [xHI,xAr,xAh,xAe,xAm,xAK,opv,List.getD_cons_succ,List.getD_cons_zero,xAN,hlt,decide_true,xAn,xAq,List.set_cons_succ,List.set_cons_zero,xAl,xAi,xAk,xAf,xAv,xAo,xAw,xAD,if_true,xAu,xAT,xAY,Int.toNat_natCast,xAF,xBl,xBg,xBt,xBv,AV.cells,List.all_cons,AV.isCell,List.all_nil,Bool.and_self,List.length_cons,List.cons_append,xA6,List.length_nil,Nat.zero_add,Nat.reduceAdd,xBK,List.getElem?_cons_succ,xEE,List.getElem?_cons_zero,xAX,splice,List.take_zero,List.nil_append,List.drop_succ_cons,List.drop_nil,List.append_nil,xEP,xAG,xBj,xAS,xAA,Nat.add_zero,xA7,xAy,List.drop_zero,List.take_succ_cons,xAM,xEa,xDs,c1,decide_false,xAE,xAP,xAI,xBk,xE7,xEt,xDp,c2,xBq,xAQ,Bool.false_eq_true,if_false,xAH,List.take_nil,xBR,beq_self_eq_true,List.map_cons,List.map_nil,fillA,Nat.reduceLeDiff,and_self,Nat.le_refl,Option.map_some,hnv,xBn,xA0,frzN,List.mapM_cons,xCk,xAO,List.mapM_nil,Option.pure_def,Option.bind_eq_bind,Option.bind_some,xAZ,hcube,xA2,xC6,xBQ,fzIds,List.flatMap_cons,xCl,xA4,List.flatMap_nil,List.foldl_nil,ite_self,xCu,c3,Bool.not_false,xBy,xBI,xCG,xHJ,xEU]
structure Valid (n : Aut) : Prop where
  v0 : 0 ≤ n.vars
  v6 : n.vars ≤ 6
  s0 : 0 ≤ n.states
  s64 : n.states ≤ 64
  el : n.ed.length ≤ 512
  st : xIi n.states (-1) n.st = true
  fi : xIi n.states (-1) n.fi = true
  ed : xEf n.states n.vars.toNat n.ed = 0
structure Fits (n : Aut) : Prop where
  l1 : n.st.length < 1099511627776
  l2 : n.fi.length < 1099511627776
  l3 : n.ed.length < 1099511627776
  by_ : ∀ e ∈ n.ed,e.p < 256 ∧ e.n < 256
set_option maxHeartbeats 4000000 in
theorem xQF (n : Aut) (hf : Fits n) : ∃ e : Int,L.pcall 26 [n.av] = some (.int .i64 e) ∧ (e = 0 ↔ Valid n) := by
  have k1 := fun T => c42 n 0 (.cells false false n.cells :: T) (fz := false) (z := false) rfl
  have k2 := fun T => c43 n 0 (.cells false false n.cells :: T) (fz := false) (z := false) rfl
  have k3 := fun T => c44 n 0 (.cells false false n.cells :: T) (fz := false) (z := false) rfl
  have k4 := fun T => c45 n 0 (.cells false false n.cells :: T) (fz := false) (z := false) rfl hf.l1 hf.l2
  by_cases d1 : (decide (n.vars < 0) || decide (6 < n.vars)) = true
  · refine ⟨7,?_,⟨fun h => by omega,fun h => ?_⟩⟩
    · rw [xXL,a26,xAL]
      simp (maxSteps := 30000000) (disch := first | assumption | omega | (simp only [List.length_cons,List.length_nil,List.length_append,List.length_set,List.length_replicate,List.length_map,List.length_range,List.length_take,List.length_drop,List.all_cons,List.all_nil,AV.isCell,Bool.and_self,Bool.and_true,xAj,xAc,xAg,xAb,xAd] <;> omega) | rfl | decide) only [xAC,List.length_cons,List.length_nil,Nat.zero_add,Nat.reduceSub,pads,List.cons_append,List.nil_append,xAr,xAh,xAe,xAm,xBv,AV.cells,opv,List.getD_cons_zero,List.all_cons,AV.isCell,List.all_nil,Bool.and_self,if_true,xAq,List.set_cons_succ,List.set_cons_zero,xAl,xAE,xAi,xAk,xAf,xB4,List.map_cons,List.getD_cons_succ,List.map_nil,xBR,beq_self_eq_true,fillA,Nat.reduceAdd,Nat.reduceLeDiff,and_self,splice,List.take_zero,List.drop_succ_cons,List.drop_zero,Nat.le_refl,List.take_succ_cons,List.drop_nil,List.append_nil,Option.map_some,xAn,xBs,xHM,Nat.reduceMul,xBr,xCq,xBO,xDq,xC8,xAu,xBw,xKF,xKG,xHH,xAK,xAN,Int.reduceLT,decide_true,xAv,xAo,xAw,xAD,xAT,xCv,Int.toNat_zero,Nat.add_zero,xAF,xA7,List.getElem?_cons_succ,List.getElem?_cons_zero,xAy,xBt,xA6,xBK,xAX,xAG,xBj,xAS,xAA,xAM,xBa,k1,d1,List.take_nil,xAH,xBy,xBI,xCG,xAz,xAJ,xAU,xAt,xAx,frzN,xAO]
    · have := h.v0; have := h.v6; simp at d1; omega
  have d1' : (decide (n.vars < 0) || decide (6 < n.vars)) = false := by simpa using d1
  by_cases d2 : n.states < 0
  · refine ⟨1,?_,⟨fun h => by omega,fun h => ?_⟩⟩
    · rw [xXL,a26,xAL]
      simp (maxSteps := 30000000) (disch := first | assumption | omega | (simp only [List.length_cons,List.length_nil,List.length_append,List.length_set,List.length_replicate,List.length_map,List.length_range,List.length_take,List.length_drop,List.all_cons,List.all_nil,AV.isCell,Bool.and_self,Bool.and_true,xAj,xAc,xAg,xAb,xAd] <;> omega) | rfl | decide) only [xAC,List.length_cons,List.length_nil,Nat.zero_add,Nat.reduceSub,pads,List.cons_append,List.nil_append,xAr,xAh,xAe,xAm,xBv,AV.cells,opv,List.getD_cons_zero,List.all_cons,AV.isCell,List.all_nil,Bool.and_self,if_true,xAq,List.set_cons_succ,List.set_cons_zero,xAl,xAE,xAi,xAk,xAf,xB4,List.map_cons,List.getD_cons_succ,List.map_nil,xBR,beq_self_eq_true,fillA,Nat.reduceAdd,Nat.reduceLeDiff,and_self,splice,List.take_zero,List.drop_succ_cons,List.drop_zero,Nat.le_refl,List.take_succ_cons,List.drop_nil,List.append_nil,Option.map_some,xAn,xBs,xHM,Nat.reduceMul,xBr,xCq,xBO,xDq,xC8,xAu,xBw,xKF,xKG,xHH,xAK,xAN,Int.reduceLT,decide_true,xAv,xAo,xAw,xAD,xAT,xCv,Int.toNat_zero,Nat.add_zero,xAF,xA7,List.getElem?_cons_succ,List.getElem?_cons_zero,xAy,xBt,xA6,xBK,xAX,xAG,xBj,xAS,xAA,xAM,xBa,k1,d1',Bool.false_eq_true,List.take_nil,xAH,if_false,xAs,xBm,Int.zero_add,xDM,xAB,Int.toNat_one,k2,d2,xBy,xBI,xCG,xAz,xAJ,xAU,xAt,xAx,frzN,xAO]
    · have := h.s0; omega
  by_cases d3 : (decide (64 < n.states) || decide (512 < n.ed.length)) = true
  · refine ⟨4,?_,⟨fun h => by omega,fun h => ?_⟩⟩
    · rw [xXL,a26,xAL]
      simp (maxSteps := 30000000) (disch := first | assumption | omega | (simp only [List.length_cons,List.length_nil,List.length_append,List.length_set,List.length_replicate,List.length_map,List.length_range,List.length_take,List.length_drop,List.all_cons,List.all_nil,AV.isCell,Bool.and_self,Bool.and_true,xAj,xAc,xAg,xAb,xAd] <;> omega) | rfl | decide) only [xAC,List.length_cons,List.length_nil,Nat.zero_add,Nat.reduceSub,pads,List.cons_append,List.nil_append,xAr,xAh,xAe,xAm,xBv,AV.cells,opv,List.getD_cons_zero,List.all_cons,AV.isCell,List.all_nil,Bool.and_self,if_true,xAq,List.set_cons_succ,List.set_cons_zero,xAl,xAE,xAi,xAk,xAf,xB4,List.map_cons,List.getD_cons_succ,List.map_nil,xBR,beq_self_eq_true,fillA,Nat.reduceAdd,Nat.reduceLeDiff,and_self,splice,List.take_zero,List.drop_succ_cons,List.drop_zero,Nat.le_refl,List.take_succ_cons,List.drop_nil,List.append_nil,Option.map_some,xAn,xBs,xHM,Nat.reduceMul,xBr,xCq,xBO,xDq,xC8,xAu,xBw,xKF,xKG,xHH,xAK,xAN,Int.reduceLT,decide_true,xAv,xAo,xAw,xAD,xAT,xCv,Int.toNat_zero,Nat.add_zero,xAF,xA7,List.getElem?_cons_succ,List.getElem?_cons_zero,xAy,xBt,xA6,xBK,xAX,xAG,xBj,xAS,xAA,xAM,xBa,k1,d1',Bool.false_eq_true,List.take_nil,xAH,if_false,xAs,xBm,Int.zero_add,xDM,xAB,Int.toNat_one,k2,d2,decide_false,Int.reduceAdd,Int.reduceToNat,k3,d3,xBy,xBI,xCG,xAz,xAJ,xAU,xAt,xAx,frzN,xAO]
    · have := h.s64; have := h.el; simp at d3; omega
  have d3' : (decide (64 < n.states) || decide (512 < n.ed.length)) = false := by simpa using d3
  by_cases d4 : (!xIi n.states (-1) n.st || !xIi n.states (-1) n.fi) = true
  · refine ⟨8,?_,⟨fun h => by omega,fun h => ?_⟩⟩
    · rw [xXL,a26,xAL]
      simp (maxSteps := 30000000) (disch := first | assumption | omega | (simp only [List.length_cons,List.length_nil,List.length_append,List.length_set,List.length_replicate,List.length_map,List.length_range,List.length_take,List.length_drop,List.all_cons,List.all_nil,AV.isCell,Bool.and_self,Bool.and_true,xAj,xAc,xAg,xAb,xAd] <;> omega) | rfl | decide) only [xAC,List.length_cons,List.length_nil,Nat.zero_add,Nat.reduceSub,pads,List.cons_append,List.nil_append,xAr,xAh,xAe,xAm,xBv,AV.cells,opv,List.getD_cons_zero,List.all_cons,AV.isCell,List.all_nil,Bool.and_self,if_true,xAq,List.set_cons_succ,List.set_cons_zero,xAl,xAE,xAi,xAk,xAf,xB4,List.map_cons,List.getD_cons_succ,List.map_nil,xBR,beq_self_eq_true,fillA,Nat.reduceAdd,Nat.reduceLeDiff,and_self,splice,List.take_zero,List.drop_succ_cons,List.drop_zero,Nat.le_refl,List.take_succ_cons,List.drop_nil,List.append_nil,Option.map_some,xAn,xBs,xHM,Nat.reduceMul,xBr,xCq,xBO,xDq,xC8,xAu,xBw,xKF,xKG,xHH,xAK,xAN,Int.reduceLT,decide_true,xAv,xAo,xAw,xAD,xAT,xCv,Int.toNat_zero,Nat.add_zero,xAF,xA7,List.getElem?_cons_succ,List.getElem?_cons_zero,xAy,xBt,xA6,xBK,xAX,xAG,xBj,xAS,xAA,xAM,xBa,k1,d1',Bool.false_eq_true,List.take_nil,xAH,if_false,xAs,xBm,Int.zero_add,xDM,xAB,Int.toNat_one,k2,d2,decide_false,Int.reduceAdd,Int.reduceToNat,k3,d3',k4,Int.reduceNeg,d4,xBy,xBI,xCG,xAz,xAJ,xAU,xAt,xAx,frzN,xAO]
    · rw [h.st,h.fi] at d4; simp at d4
  have d4' : (!xIi n.states (-1) n.st || !xIi n.states (-1) n.fi) = false := by simpa using d4
  simp only [Bool.or_eq_false_iff,decide_eq_false_iff_not,Bool.not_eq_false'] at d1' d3' d4'
  have hnv : n.vars = ((n.vars.toNat : Nat) : Int) := by omega
  have hv : n.vars.toNat ≤ 6 := by omega
  have hloop := fun T => xLy (n := n) (s2 := .int .i64 0) hv hnv hf.l3 hf.by_ n.ed.length 0 T (by omega)
  simp only [Int.natCast_zero,List.drop_zero] at hloop
  have e3 : (decide (64 < n.states) || decide (512 < n.ed.length)) = false := by simp; omega
  have e1 : (decide (n.vars < 0) || decide (6 < n.vars)) = false := by simp; omega
  have e4 : (!xIi n.states (-1) n.st || !xIi n.states (-1) n.fi) = false := by rw [d4'.1,d4'.2]; rfl
  by_cases e : xEf n.states n.vars.toNat n.ed = 0
  · simp only [e,if_true] at hloop
    refine ⟨0,?_,⟨fun _ => ⟨by omega,by omega,by omega,by omega,by omega,d4'.1,d4'.2,e⟩,fun _ => rfl⟩⟩
    obtain ⟨T',i',h5⟩ := hloop [.cells false false [.func 54 [.ptr 0 0],.int .i64 7,.func 55 [.ptr 0 0],.int .i64 1,.func 56 [.ptr 0 0],.int .i64 4,.func 57 [.ptr 0 0],.int .i64 8],.cells false false [.func 54 [.ptr 0 0],.int .i64 7],.cells false false [.func 55 [.ptr 0 0],.int .i64 1],.cells false false [.func 56 [.ptr 0 0],.int .i64 4],.cells false false [.func 57 [.ptr 0 0],.int .i64 8]]
    rw [xXL,a26,xAL]
    simp (maxSteps := 30000000) (disch := first | assumption | omega | (simp only [List.length_cons,List.length_nil,List.length_append,List.length_set,List.length_replicate,List.length_map,List.length_range,List.length_take,List.length_drop,List.all_cons,List.all_nil,AV.isCell,Bool.and_self,Bool.and_true,xAj,xAc,xAg,xAb,xAd] <;> omega) | rfl | decide) only [xAC,List.length_cons,List.length_nil,Nat.zero_add,Nat.reduceSub,pads,List.cons_append,List.nil_append,xAr,xAh,xAe,xAm,xBv,AV.cells,opv,List.getD_cons_zero,List.all_cons,AV.isCell,List.all_nil,Bool.and_self,if_true,xAq,List.set_cons_succ,List.set_cons_zero,xAl,xAE,xAi,xAk,xAf,xB4,List.map_cons,List.getD_cons_succ,List.map_nil,xBR,beq_self_eq_true,fillA,Nat.reduceAdd,Nat.reduceLeDiff,and_self,splice,List.take_zero,List.drop_succ_cons,List.drop_zero,Nat.le_refl,List.take_succ_cons,List.drop_nil,List.append_nil,Option.map_some,xAn,xBs,xHM,Nat.reduceMul,xBr,xCq,xBO,xDq,xC8,xAu,xBw,xKF,xKG,xHH,xAK,xAN,Int.reduceLT,decide_true,xAv,xAo,xAw,xAD,xAT,xCv,Int.toNat_zero,Nat.add_zero,xAF,xA7,List.getElem?_cons_succ,List.getElem?_cons_zero,xAy,xBt,xA6,xBK,xAX,xAG,xBj,xAS,xAA,xAM,xBa,k1,e1,Bool.false_eq_true,List.take_nil,xAH,if_false,xAs,xBm,Int.zero_add,xDM,xAB,Int.toNat_one,k2,d2,decide_false,Int.reduceAdd,Int.reduceToNat,k3,e3,k4,Int.reduceNeg,e4,Int.lt_irrefl,xBp,xBe,xBc,xBC,xHJ,h5,xAz,xAJ,xAU,xAt,xAx,frzN,xAO]
  · simp only [e,if_false] at hloop
    refine ⟨xEf n.states n.vars.toNat n.ed,?_,⟨fun h => (e h).elim,fun h => (e h.ed).elim⟩⟩
    obtain ⟨T',i',h5⟩ := hloop [.cells false false [.func 54 [.ptr 0 0],.int .i64 7,.func 55 [.ptr 0 0],.int .i64 1,.func 56 [.ptr 0 0],.int .i64 4,.func 57 [.ptr 0 0],.int .i64 8],.cells false false [.func 54 [.ptr 0 0],.int .i64 7],.cells false false [.func 55 [.ptr 0 0],.int .i64 1],.cells false false [.func 56 [.ptr 0 0],.int .i64 4],.cells false false [.func 57 [.ptr 0 0],.int .i64 8]]
    rw [xXL,a26,xAL]
    simp (maxSteps := 30000000) (disch := first | assumption | omega | (simp only [List.length_cons,List.length_nil,List.length_append,List.length_set,List.length_replicate,List.length_map,List.length_range,List.length_take,List.length_drop,List.all_cons,List.all_nil,AV.isCell,Bool.and_self,Bool.and_true,xAj,xAc,xAg,xAb,xAd] <;> omega) | rfl | decide) only [xAC,List.length_cons,List.length_nil,Nat.zero_add,Nat.reduceSub,pads,List.cons_append,List.nil_append,xAr,xAh,xAe,xAm,xBv,AV.cells,opv,List.getD_cons_zero,List.all_cons,AV.isCell,List.all_nil,Bool.and_self,if_true,xAq,List.set_cons_succ,List.set_cons_zero,xAl,xAE,xAi,xAk,xAf,xB4,List.map_cons,List.getD_cons_succ,List.map_nil,xBR,beq_self_eq_true,fillA,Nat.reduceAdd,Nat.reduceLeDiff,and_self,splice,List.take_zero,List.drop_succ_cons,List.drop_zero,Nat.le_refl,List.take_succ_cons,List.drop_nil,List.append_nil,Option.map_some,xAn,xBs,xHM,Nat.reduceMul,xBr,xCq,xBO,xDq,xC8,xAu,xBw,xKF,xKG,xHH,xAK,xAN,Int.reduceLT,decide_true,xAv,xAo,xAw,xAD,xAT,xCv,Int.toNat_zero,Nat.add_zero,xAF,xA7,List.getElem?_cons_succ,List.getElem?_cons_zero,xAy,xBt,xA6,xBK,xAX,xAG,xBj,xAS,xAA,xAM,xBa,k1,e1,Bool.false_eq_true,List.take_nil,xAH,if_false,xAs,xBm,Int.zero_add,xDM,xAB,Int.toNat_one,k2,d2,decide_false,Int.reduceAdd,Int.reduceToNat,k3,e3,k4,Int.reduceNeg,e4,Int.lt_irrefl,xBp,xBe,xBc,xBC,xHJ,h5,xBy,xBI,xAz,xAJ,xAU,xAt,xAx,frzN,xAO]
abbrev F56 (s0 s1 s2 s3 s5 s7 s8 s9 s10 s11 s12 s13 s14 s15 s16 s17 s18 s19 s20 : AV) : List AV := [s0,s1,s2,s3,.ptr 1 0,s5,.ptr 2 0,s7,s8,s9,s10,s11,s12,s13,s14,s15,s16,s17,s18,s19,s20]
section
variable (s0 s1 s2 s3 s5 s7 s8 s9 s10 s11 s12 s13 s14 s15 s16 s17 s18 s19 s20 : AV)
abbrev H56 (n : Aut) (x : Nat) (sS out : AV) (T : Heap) : Heap := .cells false false n.cells :: .cells false false [sS] :: .cells false false [out] :: .cells false false n.cells :: .cells false false [.int .u8 (x : Nat)] :: .loop 0 none (F56 s0 s1 s2 s3 s5 s7 s8 s9 s10 s11 s12 s13 s14 s15 s16 s17 s18 s19 s20) [11] xSC xWK :: T
theorem xXr (n : Aut) (x : Nat) {zs zo : Bool} {ls lo : List Nat} {S So : Nat → Bool} (e : Ed) (T : Heap) (hS : HasSet (sw zs ls) S) (ho : HasSet (sw zo lo) So) (h1 : 0 ≤ e.a ∧ e.a < 4096) (h2 : 0 ≤ e.b ∧ e.b < 4096) :
    ∃ zo' lo',L.icall (.yield 5) [.agg (xEU e)] (H56 s0 s1 s2 s3 s5 s7 s8 s9 s10 s11 s12 s13 s14 s15 s16 s17 s18 s19 s20 n x (sw zs ls) (sw zo lo) T) = some (.bool true,H56 s0 s1 s2 s3 s5 s7 s8 s9 s10 s11 s12 s13 s14 s15 s16 s17 s18 s19 s20 n x (sw zs ls) (sw zo' lo') (T ++ [.cells false false (xEU e)])) ∧ HasSet (sw zo' lo') (fun j => So j || (S e.a.toNat && decide (j = e.b.toNat))) := by
  have hh := xMi hS e.a h1.1 h1.2
  obtain ⟨z',l',hw,hw2⟩ := xJ8 ho e.b h2.1 h2.2
  cases c : S e.a.toNat with
  | false =>
    rw [c] at hh
    refine ⟨zo,lo,?_,ho.congr (fun j => by simp)⟩
    rw [xEq,xGO (hH := rfl) (h1 := rfl) (h2 := rfl) (h3 := rfl)]
    simp (maxSteps := 30000000) (disch := first | assumption | omega | (simp only [List.length_cons,List.length_nil,List.length_append,List.length_set,List.length_replicate,List.length_map,List.length_range,List.length_take,List.length_drop,List.all_cons,List.all_nil,AV.isCell,Bool.and_self,Bool.and_true,xAj,xAc,xAg,xAb,xAd] <;> omega) | rfl | decide) only [xEU,List.zip_cons_cons,List.zip_nil_right,List.foldl_cons,List.set_cons_succ,List.set_cons_zero,List.foldl_nil,xSD,xL1,xAh,xAe,xAm,xBv,AV.cells,opv,List.all_cons,AV.isCell,List.all_nil,Bool.and_self,List.length_cons,List.cons_append,if_true,xAq,xAl,xA6,List.getD_cons_succ,List.getD_cons_zero,List.length_nil,Nat.zero_add,Nat.reduceAdd,xBK,List.getElem?_cons_succ,xEE,List.getElem?_cons_zero,xAX,splice,List.take_zero,List.nil_append,List.drop_succ_cons,List.drop_nil,List.append_nil,xEP,xAG,xBj,xAi,xAk,xCy,xC0,xVH,xPO,xAu,xAr,xAF,xA7,xAy,List.drop_zero,List.take_succ_cons,List.take_nil,xAM,xAn,xAS,xAA,Nat.add_zero,xBn,List.map_cons,List.map_nil,xA0,frzN,List.mapM_cons,xBZ,xAO,List.mapM_nil,Option.pure_def,Option.bind_eq_bind,Option.bind_some,xAZ,hh,xA2,xC6,xBQ,fzIds,List.flatMap_cons,xCx,xA4,List.flatMap_nil,ite_self,xAf,xAv,xAo,Bool.false_eq_true,xAw,if_false,xAs,xCJ,xCz]
  | true =>
    rw [c] at hh
    refine ⟨z',l',?_,hw2.congr (fun j => by simp)⟩
    rw [xEq,xGO (hH := rfl) (h1 := rfl) (h2 := rfl) (h3 := rfl)]
    simp (maxSteps := 30000000) (disch := first | assumption | omega | (simp only [List.length_cons,List.length_nil,List.length_append,List.length_set,List.length_replicate,List.length_map,List.length_range,List.length_take,List.length_drop,List.all_cons,List.all_nil,AV.isCell,Bool.and_self,Bool.and_true,xAj,xAc,xAg,xAb,xAd] <;> omega) | rfl | decide) only [xEU,List.zip_cons_cons,List.zip_nil_right,List.foldl_cons,List.set_cons_succ,List.set_cons_zero,List.foldl_nil,xSD,xL1,xAh,xAe,xAm,xBv,AV.cells,opv,List.all_cons,AV.isCell,List.all_nil,Bool.and_self,List.length_cons,List.cons_append,if_true,xAq,xAl,xA6,List.getD_cons_succ,List.getD_cons_zero,List.length_nil,Nat.zero_add,Nat.reduceAdd,xBK,List.getElem?_cons_succ,xEE,List.getElem?_cons_zero,xAX,splice,List.take_zero,List.nil_append,List.drop_succ_cons,List.drop_nil,List.append_nil,xEP,xAG,xBj,xAi,xAk,xCy,xC0,xVH,xPO,xAu,xAr,xAF,xA7,xAy,List.drop_zero,List.take_succ_cons,List.take_nil,xAM,xAn,xAS,xAA,Nat.add_zero,xBn,List.map_cons,List.map_nil,xA0,frzN,List.mapM_cons,xBZ,xAO,List.mapM_nil,Option.pure_def,Option.bind_eq_bind,Option.bind_some,xAZ,hh,xA2,xC6,xBQ,fzIds,List.flatMap_cons,xCx,xA4,List.flatMap_nil,ite_self,xAf,xAv,xAo,hw,Bool.false_eq_true,xAw,xAs,xCJ,xCz]
def xPa (x : Nat) (S : Nat → Bool) (j : Nat) (e : Ed) : Bool := xYF e.p e.n x && S e.a.toNat && decide (j = e.b.toNat)
def xRx (ed : List Ed) (S : Nat → Bool) (x : Nat) (j : Nat) : Bool := ed.any (xPa x S j)
def xVi (l : List Ed) : Prop := ∀ e ∈ l,(0 ≤ e.a ∧ e.a < 4096) ∧ (0 ≤ e.b ∧ e.b < 4096) ∧ e.p < 256 ∧ e.n < 256
theorem xTN {n : Aut} {x : Nat} {zs : Bool} {ls : List Nat} {S : Nat → Bool} (hx : x < 256) (hS : HasSet (sw zs ls) S) (hl : n.ed.length < 1099511627776) (hb : xVi n.ed) : ∀ d i zo lo So T,i + d = n.ed.length → HasSet (sw zo lo) So →
    ∃ zo' lo' T',L.loop xKT xSJ ⟨xNx (.yield 5) (.ptr 4 0) (.sl n.z3 n.ed.length (edges n.ed)) (.int .i64 (n.ed.length : Nat)) (.int .i64 (i : Nat)),H56 s0 s1 s2 s3 s5 s7 s8 s9 s10 s11 s12 s13 s14 s15 s16 s17 s18 s19 s20 n x (sw zs ls) (sw zo lo) T⟩ =
      some (.exit 0,⟨xNx (.yield 5) (.ptr 4 0) (.sl n.z3 n.ed.length (edges n.ed)) (.int .i64 (n.ed.length : Nat)) (.int .i64 (n.ed.length : Nat)),H56 s0 s1 s2 s3 s5 s7 s8 s9 s10 s11 s12 s13 s14 s15 s16 s17 s18 s19 s20 n x (sw zs ls) (sw zo' lo') T'⟩) ∧ HasSet (sw zo' lo') (fun j => So j || (n.ed.drop i).any (xPa x S j))
  | 0,i,zo,lo,So,T,h,ho => by
    obtain rfl : i = n.ed.length := by omega
    refine ⟨zo,lo,T,?_,ho.congr (fun j => by simp)⟩
    rw [xSK]
    simp (maxSteps := 30000000) (disch := first | assumption | omega | (simp only [List.length_cons,List.length_nil,List.length_append,List.length_set,List.length_replicate,List.length_map,List.length_range,List.length_take,List.length_drop,List.all_cons,List.all_nil,AV.isCell,Bool.and_self,Bool.and_true,xAj,xAc,xAg,xAb,xAd] <;> omega) | rfl | decide) only [xNw,xAr,xAh,xAe,xAm,xAK,opv,List.getD_cons_succ,List.getD_cons_zero,xAN,Int.lt_irrefl,decide_false,xAn,xAq,List.set_cons_succ,List.set_cons_zero,xAl,xAi,xAk,xAf,xAv,xAo,Bool.false_eq_true,xAw,xAD,if_false,xBp,xBe,xPT]
  | d + 1,i,zo,lo,So,T,h,ho => by
    have hlt : (i : Int) < (n.ed.length : Nat) := by omega
    have hm := hb _ (xGZ (by omega : i < n.ed.length))
    have hc := xXF (n.ed.getD i e0).p (n.ed.getD i e0).n x hm.2.2.1 hm.2.2.2 hx
    rw [xEV (by omega : i < n.ed.length)]
    cases c : xYF (n.ed.getD i e0).p (n.ed.getD i e0).n x with
    | false =>
      rw [c] at hc
      obtain ⟨z1,l1,T1,g1,g2⟩ := xTN hx hS hl hb d (i + 1) zo lo So (T ++ [.cells false false (xEU (n.ed.getD i e0))]) (by omega) ho
      refine ⟨z1,l1,T1,?_,g2.congr (fun j => by rw [List.any_cons,show xPa x S j (n.ed.getD i e0) = false from by unfold xPa; rw [c]; rfl,Bool.false_or])⟩
      simp only [xEU] at g1
      rw [xSK]
      simp (maxSteps := 30000000) (disch := first | assumption | omega | (simp only [List.length_cons,List.length_nil,List.length_append,List.length_set,List.length_replicate,List.length_map,List.length_range,List.length_take,List.length_drop,List.all_cons,List.all_nil,AV.isCell,Bool.and_self,Bool.and_true,xAj,xAc,xAg,xAb,xAd] <;> omega) | rfl | decide) only [xNw,xAr,xAh,xAe,xAm,xAK,opv,List.getD_cons_succ,List.getD_cons_zero,xAN,hlt,decide_true,xAn,xAq,List.set_cons_succ,List.set_cons_zero,xAl,xAi,xAk,xAf,xAv,xAo,xAw,xAD,if_true,xAu,xAT,xAY,Int.toNat_natCast,xAF,xBl,xBg,xBt,xBv,AV.cells,List.all_cons,AV.isCell,List.all_nil,Bool.and_self,List.length_cons,List.cons_append,xA6,List.length_nil,Nat.zero_add,Nat.reduceAdd,xBK,List.getElem?_cons_succ,xEE,List.getElem?_cons_zero,xAX,splice,List.take_zero,List.nil_append,List.drop_succ_cons,List.drop_nil,List.append_nil,xEP,xAG,xBj,xAS,xAA,xA7,xAy,List.drop_zero,List.take_succ_cons,xAM,List.take_nil,xBR,beq_self_eq_true,List.map_cons,List.map_nil,fillA,Nat.reduceLeDiff,and_self,Nat.le_refl,Option.map_some,xBn,xA0,frzN,List.mapM_cons,xCk,xAO,List.mapM_nil,Option.pure_def,Option.bind_eq_bind,Option.bind_some,xAZ,hc,xA2,xC6,xBQ,fzIds,List.flatMap_cons,xCl,xA4,List.flatMap_nil,List.foldl_nil,ite_self,xAE,xAP,xAI,Bool.false_eq_true,xBk,if_false,xBa,xJk,xBq,xAQ,xAH,xAs,xBm,xC9,xDM,xAB,xPT,g1]
    | true =>
      rw [c] at hc
      obtain ⟨z1,l1,g1,g2⟩ := xXr s0 s1 s2 s3 s5 s7 s8 s9 s10 s11 s12 s13 s14 s15 s16 s17 s18 s19 s20 n x (n.ed.getD i e0) (T ++ [.cells false false (xEU (n.ed.getD i e0))]) hS ho hm.1 hm.2.1
      obtain ⟨z2,l2,T2,g3,g4⟩ := xTN hx hS hl hb d (i + 1) z1 l1 _ _ (by omega) g2
      refine ⟨z2,l2,T2,?_,g4.congr (fun j => by rw [List.any_cons,← Bool.or_assoc,show xPa x S j (n.ed.getD i e0) = (S (n.ed.getD i e0).a.toNat && decide (j = (n.ed.getD i e0).b.toNat)) from by unfold xPa; rw [c,Bool.true_and]])⟩
      simp only [xEU] at g1 g3
      rw [xSK]
      simp only [List.append_assoc,List.cons_append,List.nil_append] at g1 g3
      simp (maxSteps := 30000000) (disch := first | assumption | omega | (simp only [List.length_cons,List.length_nil,List.length_append,List.length_set,List.length_replicate,List.length_map,List.length_range,List.length_take,List.length_drop,List.all_cons,List.all_nil,AV.isCell,Bool.and_self,Bool.and_true,xAj,xAc,xAg,xAb,xAd] <;> omega) | rfl | decide) only [xNw,xAr,xAh,xAe,xAm,xAK,opv,List.getD_cons_succ,List.getD_cons_zero,xAN,hlt,decide_true,xAn,xAq,List.set_cons_succ,List.set_cons_zero,xAl,xAi,xAk,xAf,xAv,xAo,xAw,xAD,if_true,xAu,xAT,xAY,Int.toNat_natCast,xAF,xBl,xBg,xBt,xBv,AV.cells,List.all_cons,AV.isCell,List.all_nil,Bool.and_self,List.length_cons,List.cons_append,xA6,List.length_nil,Nat.zero_add,Nat.reduceAdd,xBK,List.getElem?_cons_succ,xEE,List.getElem?_cons_zero,xAX,splice,List.take_zero,List.nil_append,List.drop_succ_cons,List.drop_nil,List.append_nil,xEP,xAG,xBj,xAS,xAA,xA7,xAy,List.drop_zero,List.take_succ_cons,xAM,List.take_nil,xBR,beq_self_eq_true,List.map_cons,List.map_nil,fillA,Nat.reduceLeDiff,and_self,Nat.le_refl,Option.map_some,xBn,xA0,frzN,List.mapM_cons,xCk,xAO,List.mapM_nil,Option.pure_def,Option.bind_eq_bind,Option.bind_some,xAZ,hc,xA2,xC6,xBQ,fzIds,List.flatMap_cons,xCl,xA4,List.flatMap_nil,List.foldl_nil,ite_self,xAE,xAP,xAI,xBk,xBa,g1,xJk,xJl,Bool.not_true,xBq,xAQ,Bool.false_eq_true,xAH,if_false,xAs,xBm,xC9,xDM,xAB,xPT]
      exact g3
theorem xXs {n : Aut} {x : Nat} {zs : Bool} {ls : List Nat} {S : Nat → Bool} (hx : x < 256) (hS : HasSet (sw zs ls) S) (hl : n.ed.length < 1099511627776) (hb : xVi n.ed) :
    ∃ zo lo T,L.icall (.func 86 [.ptr 3 0,.ptr 4 0]) [.yield 5] (H56 s0 s1 s2 s3 s5 s7 s8 s9 s10 s11 s12 s13 s14 s15 s16 s17 s18 s19 s20 n x (sw zs ls) (.sl true 0 []) []) = some (.tup [],H56 s0 s1 s2 s3 s5 s7 s8 s9 s10 s11 s12 s13 s14 s15 s16 s17 s18 s19 s20 n x (sw zs ls) (sw zo lo) T) ∧ HasSet (sw zo lo) (xRx n.ed S x) := by
  obtain ⟨zo,lo,T,h1,h2⟩ := xTN s0 s1 s2 s3 s5 s7 s8 s9 s10 s11 s12 s13 s14 s15 s16 s17 s18 s19 s20 hx hS hl hb n.ed.length 0 true [] _ [] (by omega) (xOp (z := true))
  refine ⟨zo,lo,T,?_,h2.congr (fun j => by simp [xRx])⟩
  simp only [Int.natCast_zero] at h1
  change L.loop xKT xSJ ⟨_,H56 s0 s1 s2 s3 s5 s7 s8 s9 s10 s11 s12 s13 s14 s15 s16 s17 s18 s19 s20 n x (sw zs ls) (.sl true 0 []) []⟩ = _ at h1
  rw [yAo,a86]
  simp (maxSteps := 30000000) (disch := first | assumption | omega | (simp only [List.length_cons,List.length_nil,List.length_append,List.length_set,List.length_replicate,List.length_map,List.length_range,List.length_take,List.length_drop,List.all_cons,List.all_nil,AV.isCell,Bool.and_self,Bool.and_true,xAj,xAc,xAg,xAb,xAd] <;> omega) | rfl | decide) only [List.cons_append,List.nil_append,xAC,List.length_cons,List.length_nil,Nat.zero_add,Nat.reduceAdd,Nat.reduceSub,pads,xAr,xAh,xAe,xAm,xAS,opv,List.getD_cons_succ,List.getD_cons_zero,xAA,xAn,xAq,List.set_cons_succ,List.set_cons_zero,xAl,xAF,xA7,List.getElem?_cons_succ,List.getElem?_cons_zero,xAy,List.drop_succ_cons,List.drop_zero,List.take_succ_cons,List.take_nil,xAM,xBO,xBC,xAE,xAi,xAk,xAf,xAu,xBw,xPT,h1,xBc,if_true,xDQ,xFL,xAt]
end
theorem xXt (n : Aut) (x : Nat) (H : Heap) : L.icall (.func 76 []) [n.av,.int .u8 (x : Nat)] H = some (.func 86 [.ptr H.length 0,.ptr (H.length + 1) 0],H ++ [.cells false false n.cells,.cells false false [.int .u8 (x : Nat)]]) := by
  rw [yAi,a76]
  simp (maxSteps := 30000000) (disch := first | assumption | omega | (simp only [List.length_cons,List.length_nil,List.length_append,List.length_set,List.length_replicate,List.length_map,List.length_range,List.length_take,List.length_drop,List.all_cons,List.all_nil,AV.isCell,Bool.and_self,Bool.and_true,xAj,xAc,xAg,xAb,xAd] <;> omega) | rfl | decide) only [List.append_nil,xAC,List.length_cons,List.length_nil,Nat.zero_add,Nat.reduceAdd,Nat.reduceSub,pads,List.cons_append,List.nil_append,xAr,xAh,xAe,xAm,xBv,AV.cells,opv,List.getD_cons_zero,List.all_cons,AV.isCell,List.all_nil,Bool.and_self,if_true,xAq,List.set_cons_succ,List.set_cons_zero,xAl,List.getD_cons_succ,List.length_append,List.append_assoc,xAE,xAi,xAk,xAf,xB4,List.map_cons,List.map_nil,xAH,xAz,xAJ,xAU,xAt]
theorem xTO {n : Aut} {x : Nat} {zs : Bool} {ls : List Nat} {S : Nat → Bool} (hx : x < 256) (hS : HasSet (sw zs ls) S) (hl : n.ed.length < 1099511627776) (hb : xVi n.ed) :
    ∃ z r,L.pcall 61 [n.av,sw zs ls,.int .u8 (x : Nat)] = some (sw z r) ∧ HasSet (sw z r) (xRx n.ed S x) := by
  have hr := fun s0 s1 s2 s3 s5 s7 s8 s9 s10 s11 s12 s13 s14 s15 s16 s17 s18 s19 s20 => xXs s0 s1 s2 s3 s5 s7 s8 s9 s10 s11 s12 s13 s14 s15 s16 s17 s18 s19 s20 hx hS hl hb
  have hm := xXt n x [.cells false false n.cells,.cells false false [sw zs ls],.cells false false [.sl true 0 []]]
  obtain ⟨zo,lo,T,h1,h2⟩ := hr n.av (sw zs ls) (.int .u8 (x : Nat)) (.ptr 0 0) (.tup []) (.tup []) n.av (.int .u8 (x : Nat)) (.func 86 [.ptr 3 0,.ptr 4 0]) (.tup []) (.tup []) (.tup []) (.tup []) (.tup []) (.tup []) (.tup []) (.tup []) (.tup []) (.tup [])
  refine ⟨zo,lo,?_,h2⟩
  rw [yAa,a61,xAL]
  simp (maxSteps := 30000000) (disch := first | assumption | omega | (simp only [List.length_cons,List.length_nil,List.length_append,List.length_set,List.length_replicate,List.length_map,List.length_range,List.length_take,List.length_drop,List.all_cons,List.all_nil,AV.isCell,Bool.and_self,Bool.and_true,xAj,xAc,xAg,xAb,xAd] <;> omega) | rfl | decide) only [xAC,List.length_cons,List.length_nil,Nat.zero_add,Nat.reduceAdd,Nat.reduceSub,pads,List.cons_append,List.nil_append,xAr,xAh,xAe,xAm,xBv,AV.cells,opv,List.getD_cons_zero,List.all_cons,AV.isCell,List.all_nil,Bool.and_self,if_true,xAq,List.set_cons_succ,List.set_cons_zero,xAl,List.getD_cons_succ,xAi,xAk,xAf,xAF,xA7,List.getElem?_cons_zero,xAy,List.drop_zero,List.take_succ_cons,List.take_nil,xBt,xAn,xAE,xBa,List.map_cons,List.map_nil,hm,xAu,xFM,xEd,h1,xDt,List.getElem?_cons_succ,xER,xAs,xAM,xA6,xBK,xAX,splice,List.take_zero,List.drop_succ_cons,List.drop_nil,List.append_nil,xAG,xBj,xAH,xAz,xAJ,xDX,xCZ,xSY,xAt,xAx,frzN,xBZ]
def xYO (ed : List Ed) (S : Nat → Bool) (w : List Nat) : Nat → Bool := w.foldl (fun S x => xRx ed S x) S
def inS (l : List Int) (j : Nat) : Bool := l.contains (j : Int)
theorem xOl {n : Aut} {zw : Bool} {w : List Nat} (hw : ∀ x ∈ w,x < 256) (hwl : w.length < 1099511627776) (hl : n.ed.length < 1099511627776) (hb : xVi n.ed) : ∀ d i zs ls S,i + d = w.length → HasSet (sw zs ls) S →
    ∃ z r,L.loop xNd xUI ⟨xNe (.ptr 0 0) (sw zs ls) (word zw w) (.int .i64 (w.length : Nat)) (.int .i64 (i : Nat)),[.cells false false n.cells]⟩ =
      some (.exit 0,⟨xNe (.ptr 0 0) (sw z r) (word zw w) (.int .i64 (w.length : Nat)) (.int .i64 (w.length : Nat)),[.cells false false n.cells]⟩) ∧ HasSet (sw z r) (xYO n.ed S (w.drop i))
  | 0,i,zs,ls,S,h,hS => by
    obtain rfl : i = w.length := by omega
    refine ⟨zs,ls,?_,hS.congr (fun j => by rw [List.drop_length]; rfl)⟩
    rw [xVD]
    simp (maxSteps := 30000000) (disch := first | assumption | omega | (simp only [List.length_cons,List.length_nil,List.length_append,List.length_set,List.length_replicate,List.length_map,List.length_range,List.length_take,List.length_drop,List.all_cons,List.all_nil,AV.isCell,Bool.and_self,Bool.and_true,xAj,xAc,xAg,xAb,xAd] <;> omega) | rfl | decide) only [xPH,xAr,xAh,xAe,xAm,xAK,opv,List.getD_cons_succ,List.getD_cons_zero,xAN,Int.lt_irrefl,decide_false,xAn,xAq,List.set_cons_succ,List.set_cons_zero,xAl,xAi,xAk,xAf,xAv,xAo,Bool.false_eq_true,xAw,xAD,if_false,xBp,xBe,xSx]
  | d + 1,i,zs,ls,S,h,hS => by
    have hlt : (i : Int) < (w.length : Nat) := by omega
    have hx : w.getD i 0 < 256 := by
      rw [List.getD_eq_getElem?_getD,List.getElem?_eq_getElem (by omega)]
      exact hw _ (List.getElem_mem _)
    obtain ⟨z1,r1,h1,h2⟩ := xTO (n := n) hx hS hl hb
    obtain ⟨z2,r2,h3,h4⟩ := xOl (zw := zw) hw hwl hl hb d (i + 1) z1 r1 _ (by omega) h2
    refine ⟨z2,r2,?_,h4.congr (fun j => by rw [xOu (by omega : i < w.length)]; rfl)⟩
    rw [xVD]
    simp (maxSteps := 30000000) (disch := first | assumption | omega | (simp only [List.length_cons,List.length_nil,List.length_append,List.length_set,List.length_replicate,List.length_map,List.length_range,List.length_take,List.length_drop,List.all_cons,List.all_nil,AV.isCell,Bool.and_self,Bool.and_true,xAj,xAc,xAg,xAb,xAd] <;> omega) | rfl | decide) only [xPH,xAr,xAh,xAe,xAm,xAK,opv,List.getD_cons_succ,List.getD_cons_zero,xAN,hlt,decide_true,xAn,xAq,List.set_cons_succ,List.set_cons_zero,xAl,xAi,xAk,xAf,xAv,xAo,xAw,xAD,if_true,xAu,xAT,xAY,Int.toNat_natCast,Nat.mul_one,xAF,xBl,xFE,xFD,xKU,xCf,Nat.add_zero,xAM,xAE,xA7,List.getElem?_cons_zero,xAy,List.drop_zero,List.take_succ_cons,List.take_nil,xBt,xBn,List.map_cons,List.map_nil,xA0,frzN,List.mapM_cons,xCk,xAO,xBZ,List.mapM_nil,Option.pure_def,Option.bind_eq_bind,Option.bind_some,Option.map_some,xAZ,h1,xA2,xC6,xBQ,Bool.false_eq_true,fzIds,List.flatMap_cons,xCl,xA4,xCx,List.flatMap_nil,List.append_nil,List.foldl_nil,ite_self,xAs,xBm,xC9,xDM,xAB,xSx,h3]
theorem xES {s : Int} : ∀ {l : List Int} {last : Int},xIi s last l = true → ∀ q ∈ l,last < q ∧ q < s
  | [],_,_,q,hq => by simp at hq
  | a :: l,last,h,q,hq => by
    unfold xIi at h
    split at h
    · cases h
    · rename_i hn
      rcases List.mem_cons.1 hq with rfl | hq
      · omega
      · have := xES h q hq; omega
theorem xTP {s : Int} {v : Nat} : ∀ {l : List Ed},xEf s v l = 0 → ∀ e ∈ l,xE8 s v e = 0
  | [],_,e,he => by simp at he
  | a :: l,h,e,he => by
    by_cases h1 : xE8 s v a = 0
    · rw [xJ2 h1] at h
      rcases List.mem_cons.1 he with rfl | he
      · exact h1
      · exact xTP h e he
    · rw [xGY h1] at h
      exact (h1 h).elim
theorem xYy {s : Int} {v : Nat} {e : Ed} (h : xE8 s v e = 0) : 0 ≤ e.a ∧ e.a < s ∧ 0 ≤ e.b ∧ e.b < s ∧ xFO v e.p e.n = 0 := by
  unfold xE8 at h
  split at h
  · omega
  · rename_i hn
    exact ⟨by omega,by omega,by omega,by omega,h⟩
theorem Valid.edOk {n : Aut} (h : Valid n) (hf : Fits n) : xVi n.ed := fun e he => by
  have h1 := xYy (xTP h.ed e he)
  have h2 := h.s64
  have h3 := hf.by_ e he
  exact ⟨by omega,by omega,h3⟩
theorem Valid.stOk {n : Aut} (h : Valid n) : ∀ q ∈ n.st,0 ≤ q ∧ q < 4096 := fun q hq => by
  have := xES h.st q hq; have := h.s64; omega
theorem Valid.fiOk {n : Aut} (h : Valid n) : ∀ q ∈ n.fi,0 ≤ q ∧ q < 4096 := fun q hq => by
  have := xES h.fi q hq; have := h.s64; omega
theorem xXu (n : Aut) (hf : Fits n) (zw : Bool) (w : List Nat) (hw : ∀ x ∈ w,x < 256) (hwl : w.length < 1099511627776) :
    ∃ e : Int,L.pcall 26 [n.av] = some (.int .i64 e) ∧ (e = 0 ↔ Valid n) ∧
      (e ≠ 0 → L.pcall 30 [n.av,word zw w] = some (.tup [.sl true 0 [],.int .i64 e])) ∧
      (e = 0 → xE9 n.vars.toNat w ≠ 0 → L.pcall 30 [n.av,word zw w] = some (.tup [.sl true 0 [],.int .i64 (xE9 n.vars.toNat w)])) ∧
      (e = 0 → xE9 n.vars.toNat w = 0 → ∃ z r,L.pcall 30 [n.av,word zw w] = some (.tup [sw z r,.int .i64 0]) ∧ HasSet (sw z r) (xYO n.ed (inS n.st) w)) := by
  obtain ⟨e,h1,h2⟩ := xQF n hf
  refine ⟨e,h1,h2,fun he => ?_,fun he hwe => ?_,fun he hwe => ?_⟩
  · rw [xY0,a30,xAL]
    simp (maxSteps := 30000000) (disch := first | assumption | omega | (simp only [List.length_cons,List.length_nil,List.length_append,List.length_set,List.length_replicate,List.length_map,List.length_range,List.length_take,List.length_drop,List.all_cons,List.all_nil,AV.isCell,Bool.and_self,Bool.and_true,xAj,xAc,xAg,xAb,xAd] <;> omega) | rfl | decide) only [xAC,List.length_cons,List.length_nil,Nat.zero_add,Nat.reduceAdd,Nat.reduceSub,pads,List.cons_append,List.nil_append,xAr,xAh,xAe,xAm,xBv,AV.cells,opv,List.getD_cons_zero,List.all_cons,AV.isCell,List.all_nil,Bool.and_self,if_true,xAq,List.set_cons_succ,List.set_cons_zero,xAl,xAE,xAi,xAk,xAf,xAF,List.getD_cons_succ,xA7,List.getElem?_cons_zero,xAy,List.drop_zero,List.take_succ_cons,List.take_nil,xBt,xAn,xBn,List.map_cons,List.map_nil,xA0,frzN,List.mapM_cons,xCk,xAO,xBZ,List.mapM_nil,Option.pure_def,Option.bind_eq_bind,Option.bind_some,Option.map_some,xAZ,h1,xA2,xC6,xBQ,fzIds,List.flatMap_cons,xCl,xA4,xCx,List.flatMap_nil,List.append_nil,List.foldl_nil,ite_self,xAK,xDo,he,decide_false,xAv,xAo,Bool.false_eq_true,xAw,if_false,xCu,Bool.not_false,xAH,xBI,xAz,xBW,xBV,xAU,xBU,xB9,xAt,xAx,xCw]
  · have hv := h2.1 he
    have hnv : n.vars = ((n.vars.toNat : Nat) : Int) := by have := hv.v0; omega
    have hwc := xOv n n.vars.toNat zw w (by have := hv.v6; omega) hnv hw hwl
    generalize xE9 n.vars.toNat w = we at *
    subst he
    rw [xY0,a30,xAL]
    simp (maxSteps := 30000000) (disch := first | assumption | omega | (simp only [List.length_cons,List.length_nil,List.length_append,List.length_set,List.length_replicate,List.length_map,List.length_range,List.length_take,List.length_drop,List.all_cons,List.all_nil,AV.isCell,Bool.and_self,Bool.and_true,xAj,xAc,xAg,xAb,xAd] <;> omega) | rfl | decide) only [xAC,List.length_cons,List.length_nil,Nat.zero_add,Nat.reduceAdd,Nat.reduceSub,pads,List.cons_append,List.nil_append,xAr,xAh,xAe,xAm,xBv,AV.cells,opv,List.getD_cons_zero,List.all_cons,AV.isCell,List.all_nil,Bool.and_self,if_true,xAq,List.set_cons_succ,List.set_cons_zero,xAl,xAE,xAi,xAk,xAf,xAF,List.getD_cons_succ,xA7,List.getElem?_cons_zero,xAy,List.drop_zero,List.take_succ_cons,List.take_nil,xBt,xAn,xBn,List.map_cons,List.map_nil,xA0,frzN,List.mapM_cons,xCk,xAO,xBZ,List.mapM_nil,Option.pure_def,Option.bind_eq_bind,Option.bind_some,Option.map_some,xAZ,h1,xA2,xC6,xBQ,fzIds,List.flatMap_cons,xCl,xA4,xCx,List.flatMap_nil,List.append_nil,List.foldl_nil,ite_self,xAK,xDo,decide_true,xAv,xAo,hwc,xAw,xCu,hwe,decide_false,Bool.not_false,xAH,xBI,xAz,xBW,xBV,xAU,xBU,xB9,xAt,xAx,xCw]
  · have hv := h2.1 he
    have hnv : n.vars = ((n.vars.toNat : Nat) : Int) := by have := hv.v0; omega
    have hwc := xOv n n.vars.toNat zw w (by have := hv.v6; omega) hnv hw hwl
    rw [hwe] at hwc
    subst he
    obtain ⟨z1,r1,h3,h4⟩ := xT4 (z := n.z1) hf.l1 hv.stOk
    obtain ⟨z2,r2,h5,h6⟩ := xOl (n := n) (zw := zw) hw hwl hf.l3 (hv.edOk hf) w.length 0 z1 r1 _ (by omega) h4
    simp only [Int.natCast_zero,List.drop_zero] at h5 h6
    refine ⟨z2,r2,?_,h6⟩
    rw [xY0,a30,xAL]
    simp (maxSteps := 30000000) (disch := first | assumption | omega | (simp only [List.length_cons,List.length_nil,List.length_append,List.length_set,List.length_replicate,List.length_map,List.length_range,List.length_take,List.length_drop,List.all_cons,List.all_nil,AV.isCell,Bool.and_self,Bool.and_true,xAj,xAc,xAg,xAb,xAd] <;> omega) | rfl | decide) only [xAC,List.length_cons,List.length_nil,Nat.zero_add,Nat.reduceAdd,Nat.reduceSub,pads,List.cons_append,List.nil_append,xAr,xAh,xAe,xAm,xBv,AV.cells,opv,List.getD_cons_zero,List.all_cons,AV.isCell,List.all_nil,Bool.and_self,if_true,xAq,List.set_cons_succ,List.set_cons_zero,xAl,xAE,xAi,xAk,xAf,xAF,List.getD_cons_succ,xA7,List.getElem?_cons_zero,xAy,List.drop_zero,List.take_succ_cons,List.take_nil,xBt,xAn,xBn,List.map_cons,List.map_nil,xA0,frzN,List.mapM_cons,xCk,xAO,xBZ,List.mapM_nil,Option.pure_def,Option.bind_eq_bind,Option.bind_some,Option.map_some,xAZ,h1,xA2,xC6,xBQ,fzIds,List.flatMap_cons,xCl,xA4,xCx,List.flatMap_nil,List.append_nil,List.foldl_nil,ite_self,xAK,xDo,decide_true,xAv,xAo,hwc,xAw,xCu,Bool.not_true,Bool.false_eq_true,xAH,if_false,xAS,xAA,List.drop_succ_cons,List.take_zero,xAM,h3,xBO,xBC,xAu,xBw,xSx,h5,xBc,xAz,xBW,xBV,xAU,xBU,xB9,xAt,xAx,xCw]
def yAx (n : Aut) (w : List Nat) : Prop := ∃ j,xYO n.ed (inS n.st) w j = true ∧ inS n.fi j = true
theorem xXv (n : Aut) (hf : Fits n) (zw : Bool) (w : List Nat) (hw : ∀ x ∈ w,x < 256) (hwl : w.length < 1099511627776) :
    ∃ e : Int,L.pcall 26 [n.av] = some (.int .i64 e) ∧ (e = 0 ↔ Valid n) ∧
      (e ≠ 0 → L.pcall 25 [n.av,word zw w] = some (.tup [.bool false,.int .i64 e])) ∧
      (e = 0 → xE9 n.vars.toNat w ≠ 0 → L.pcall 25 [n.av,word zw w] = some (.tup [.bool false,.int .i64 (xE9 n.vars.toNat w)])) ∧
      (e = 0 → xE9 n.vars.toNat w = 0 → ∃ t,L.pcall 25 [n.av,word zw w] = some (.tup [.bool t,.int .i64 0]) ∧ (t = true ↔ yAx n w)) := by
  obtain ⟨e,h1,h2,h3,h4,h5⟩ := xXu n hf zw w hw hwl
  refine ⟨e,h1,h2,fun he => ?_,fun he hwe => ?_,fun he hwe => ?_⟩
  · have := h3 he
    rw [xYZ,a25,xAL]
    simp (maxSteps := 30000000) (disch := first | assumption | omega | (simp only [List.length_cons,List.length_nil,List.length_append,List.length_set,List.length_replicate,List.length_map,List.length_range,List.length_take,List.length_drop,List.all_cons,List.all_nil,AV.isCell,Bool.and_self,Bool.and_true,xAj,xAc,xAg,xAb,xAd] <;> omega) | rfl | decide) only [xAC,List.length_cons,List.length_nil,Nat.zero_add,Nat.reduceAdd,Nat.reduceSub,pads,List.cons_append,List.nil_append,xAr,xAh,xAe,xAm,xBv,AV.cells,opv,List.getD_cons_zero,List.all_cons,AV.isCell,List.all_nil,Bool.and_self,if_true,xAq,List.set_cons_succ,List.set_cons_zero,xAl,xAE,xAi,xAk,xAf,xAF,List.getD_cons_succ,xA7,List.getElem?_cons_zero,xAy,List.drop_zero,List.take_succ_cons,List.take_nil,xBt,xAn,xBn,List.map_cons,List.map_nil,xA0,frzN,List.mapM_cons,xCk,xAO,xBZ,List.mapM_nil,Option.pure_def,Option.bind_eq_bind,Option.bind_some,Option.map_some,xAZ,this,xA2,xC6,xBQ,Bool.and_true,Bool.false_eq_true,fzIds,List.flatMap_cons,xCl,xA4,xCx,List.flatMap_nil,List.append_nil,List.foldl_nil,ite_self,xDv,xB8,List.getElem?_cons_succ,xAK,xDo,he,decide_false,xAP,xAI,xBk,if_false,xAS,xAA,xCw,xBq,xAQ,xAH,xAz,xBW,xBV,xAU,xBU,xB9,xAt,xAx,xCr]
  · have := h4 he hwe
    rw [xYZ,a25,xAL]
    simp (maxSteps := 30000000) (disch := first | assumption | omega | (simp only [List.length_cons,List.length_nil,List.length_append,List.length_set,List.length_replicate,List.length_map,List.length_range,List.length_take,List.length_drop,List.all_cons,List.all_nil,AV.isCell,Bool.and_self,Bool.and_true,xAj,xAc,xAg,xAb,xAd] <;> omega) | rfl | decide) only [xAC,List.length_cons,List.length_nil,Nat.zero_add,Nat.reduceAdd,Nat.reduceSub,pads,List.cons_append,List.nil_append,xAr,xAh,xAe,xAm,xBv,AV.cells,opv,List.getD_cons_zero,List.all_cons,AV.isCell,List.all_nil,Bool.and_self,if_true,xAq,List.set_cons_succ,List.set_cons_zero,xAl,xAE,xAi,xAk,xAf,xAF,List.getD_cons_succ,xA7,List.getElem?_cons_zero,xAy,List.drop_zero,List.take_succ_cons,List.take_nil,xBt,xAn,xBn,List.map_cons,List.map_nil,xA0,frzN,List.mapM_cons,xCk,xAO,xBZ,List.mapM_nil,Option.pure_def,Option.bind_eq_bind,Option.bind_some,Option.map_some,xAZ,this,xA2,xC6,xBQ,Bool.and_true,Bool.false_eq_true,fzIds,List.flatMap_cons,xCl,xA4,xCx,List.flatMap_nil,List.append_nil,List.foldl_nil,ite_self,xDv,xB8,List.getElem?_cons_succ,xAK,xDo,hwe,decide_false,xAP,xAI,xBk,if_false,xAS,xAA,xCw,xBq,xAQ,xAH,xAz,xBW,xBV,xAU,xBU,xB9,xAt,xAx,xCr]
  · obtain ⟨z,r,g1,g2⟩ := h5 he hwe
    have hv := h2.1 he
    obtain ⟨z1,r1,g3,g4⟩ := xT4 (z := n.z2) hf.l2 hv.fiOk
    obtain ⟨t,g5,g6⟩ := xOq g2 g4
    refine ⟨t,?_,g6⟩
    rw [xYZ,a25,xAL]
    simp (maxSteps := 30000000) (disch := first | assumption | omega | (simp only [List.length_cons,List.length_nil,List.length_append,List.length_set,List.length_replicate,List.length_map,List.length_range,List.length_take,List.length_drop,List.all_cons,List.all_nil,AV.isCell,Bool.and_self,Bool.and_true,xAj,xAc,xAg,xAb,xAd] <;> omega) | rfl | decide) only [xAC,List.length_cons,List.length_nil,Nat.zero_add,Nat.reduceAdd,Nat.reduceSub,pads,List.cons_append,List.nil_append,xAr,xAh,xAe,xAm,xBv,AV.cells,opv,List.getD_cons_zero,List.all_cons,AV.isCell,List.all_nil,Bool.and_self,if_true,xAq,List.set_cons_succ,List.set_cons_zero,xAl,xAE,xAi,xAk,xAf,xAF,List.getD_cons_succ,xA7,List.getElem?_cons_zero,xAy,List.drop_zero,List.take_succ_cons,List.take_nil,xBt,xAn,xBn,List.map_cons,List.map_nil,xA0,frzN,List.mapM_cons,xCk,xAO,xBZ,List.mapM_nil,Option.pure_def,Option.bind_eq_bind,Option.bind_some,Option.map_some,xAZ,g1,xA2,xC6,xBQ,Bool.and_true,Bool.false_eq_true,fzIds,List.flatMap_cons,xCl,xA4,xCx,List.flatMap_nil,List.append_nil,List.foldl_nil,ite_self,xDv,xB8,List.getElem?_cons_succ,xAK,xDo,decide_true,xAP,xAI,xBk,xAS,xAA,List.drop_succ_cons,List.take_zero,xAM,g3,g5,xBq,xAQ,xAH,xAz,xBW,xBV,xAU,xBU,xB9,xAt,xAx,xCw,xCr]
theorem xBG (d : Nat) (H : Heap) (l : List Ed) : (edges l).mapM (frz d H) = some (edges l) := by
  induction l with
  | nil => rfl
  | cons e l ih =>
    have : edges (e :: l) = .int .i64 e.a :: .int .i64 e.b :: .int .u8 (e.p : Nat) :: .int .u8 (e.n : Nat) :: edges l := rfl
    rw [this]
    simp only [List.mapM_cons,xAO,ih]
    rfl
theorem xB1 (d : Nat) (H : Heap) (l : List Ed) : (edges l).flatMap (bor d H) = [] := by
  induction l with
  | nil => rfl
  | cons e l ih =>
    have : edges (e :: l) = .int .i64 e.a :: .int .i64 e.b :: .int .u8 (e.p : Nat) :: .int .u8 (e.n : Nat) :: edges l := rfl
    rw [this]
    simp only [List.flatMap_cons,xA4,ih]
    rfl
theorem xTQ (z : Bool) (l : List Int) (hl : l.length < 1099511627776) (hz : z = true → l = []) : L.pcall 48 [iw z l] = some (iw z l) := by
  rw [xZ1,a48,xAL]
  cases z
  · simp (maxSteps := 30000000) (disch := first | assumption | omega | (simp only [List.length_cons,List.length_nil,List.length_append,List.length_set,List.length_replicate,List.length_map,List.length_range,List.length_take,List.length_drop,List.all_cons,List.all_nil,AV.isCell,Bool.and_self,Bool.and_true,xAj,xAc,xAg,xAb,xAd] <;> omega) | rfl | decide) only [xAC,List.length_cons,List.length_nil,Nat.zero_add,Nat.reduceSub,pads,List.cons_append,List.nil_append,xAr,xAh,xAe,xAm,xAE,opv,xAq,List.set_cons_succ,List.set_cons_zero,xAl,xAi,xAk,xAf,List.getD_cons_zero,xId,List.getD_cons_succ,xFZ,xAn,xAv,xAo,Bool.false_eq_true,xAH,xAw,if_false,xBs,AV.cells,List.all_nil,xS0,Nat.mul_one,List.map_nil,fillA,xBr,xCq,if_true,xBE,xDr,xDW,List.getElem?_cons_zero,xCF,Bool.false_and,List.take_nil,xAz,xAJ,xAU,xAt,xAx,frzN,xCc,List.getElem?_cons_succ,xDD,List.drop_zero,xB7,List.take_length,xEv,xBS]
  · rw [hz rfl]
    simp (maxSteps := 30000000) (disch := first | assumption | omega | (simp only [List.length_cons,List.length_nil,List.length_append,List.length_set,List.length_replicate,List.length_map,List.length_range,List.length_take,List.length_drop,List.all_cons,List.all_nil,AV.isCell,Bool.and_self,Bool.and_true,xAj,xAc,xAg,xAb,xAd] <;> omega) | rfl | decide) only [xAC,List.length_cons,List.length_nil,Nat.zero_add,Nat.reduceSub,pads,List.cons_append,List.nil_append,xAr,xAh,xAe,xAm,xAE,opv,xAq,List.set_cons_succ,List.set_cons_zero,xAl,xAi,xAk,xAf,List.getD_cons_zero,xId,List.getD_cons_succ,xFZ,xAn,xAv,xAo,xAH,xAw,if_true,xBI,xAz,xAJ,xAU,xAt,xAx,frzN,xBZ]
    rfl
def xEg (e : Ed) : Ed := ⟨e.b,e.a,e.p,e.n⟩
def zeroA : Aut := ⟨0,0,true,[],true,[],true,[]⟩
def xXw (n : Aut) (z : Bool) : Aut := ⟨n.vars,n.states,n.z2,n.fi,n.z1,n.st,z,n.ed.map xEg⟩
theorem xHt (l : List Ed) (e : Ed) : edges l ++ [.int .i64 e.a,.int .i64 e.b,.int .u8 (e.p : Nat),.int .u8 (e.n : Nat)] = edges (l ++ [e]) := xVt xEU l [e]
abbrev HR (n : Aut) (c1 : Blk) (ev : AV) (T : Heap) : Heap := .cells false false n.cells :: c1 :: .cells false false [.int .i64 n.vars,.int .i64 n.states,iw n.z2 n.fi,iw n.z1 n.st,ev] :: T
theorem xOm {n : Aut} {k : Nat} (h : k < n.ed.length) : (n.ed.map xEg).take k ++ [xEg (n.ed.getD k e0)] = (n.ed.map xEg).take (k + 1) := by
  rw [List.take_succ_eq_append_getElem (by simpa using h)]
  simp [List.getD,List.getElem?_eq_getElem h]
theorem xQG {n : Aut} {c1 : Blk} (hl : n.ed.length < 1000000) : ∀ d k J,k + 1 + d = n.ed.length →
    ∃ J' : Heap,L.loop xKE xSs ⟨xI0 (.ptr 1 0) (.ptr 2 0) (.sl n.z3 n.ed.length (edges n.ed)) (.int .i64 (n.ed.length : Nat)) (.int .i64 ((k + 1 : Nat))),HR n c1 (.own false (J.length + 1 + 1 + 1) 0 (k + 1) 4) (J ++ [.cells false false (edges ((n.ed.map xEg).take (k + 1)))])⟩ =
      some (.exit 0,⟨xI0 (.ptr 1 0) (.ptr 2 0) (.sl n.z3 n.ed.length (edges n.ed)) (.int .i64 (n.ed.length : Nat)) (.int .i64 (n.ed.length : Nat)),HR n c1 (.own false (J'.length + 1 + 1 + 1) 0 n.ed.length 4) (J' ++ [.cells false false (edges (n.ed.map xEg))])⟩)
  | 0,k,J,h => by
    have h' : k + 1 = n.ed.length := by omega
    refine ⟨J,?_⟩
    rw [h',List.take_of_length_le (by simp),xPC]
    simp (maxSteps := 30000000) (disch := first | assumption | omega | (simp only [List.length_cons,List.length_nil,List.length_append,List.length_set,List.length_replicate,List.length_map,List.length_range,List.length_take,List.length_drop,List.all_cons,List.all_nil,AV.isCell,Bool.and_self,Bool.and_true,xAj,xAc,xAg,xAb,xAd] <;> omega) | rfl | decide) only [xKD,xAr,xAh,xAe,xAm,xAK,opv,List.getD_cons_succ,List.getD_cons_zero,xAN,Int.lt_irrefl,decide_false,xAn,xAq,List.set_cons_succ,List.set_cons_zero,xAl,xAi,xAk,xAf,xAv,xAo,Bool.false_eq_true,xAw,xAD,if_false,xBp,xBe,xM7]
  | d + 1,k,J,h => by
    have hlt : ((k + 1 : Nat) : Int) < (n.ed.length : Nat) := by omega
    have hsn : edges ((n.ed.map xEg).take (k + 1)) ++ [.int .i64 (n.ed.getD (k + 1) e0).b,.int .i64 (n.ed.getD (k + 1) e0).a,.int .u8 ((n.ed.getD (k + 1) e0).p : Nat),.int .u8 ((n.ed.getD (k + 1) e0).n : Nat)] = edges ((n.ed.map xEg).take (k + 1 + 1)) := by
      have := xHt ((n.ed.map xEg).take (k + 1)) (xEg (n.ed.getD (k + 1) e0))
      rw [xOm (by omega)] at this
      exact this
    obtain ⟨J',ih⟩ := xQG (c1 := c1) hl d (k + 1) (J ++ [.dead,.cells false false (xEU (n.ed.getD (k + 1) e0))]) (by omega)
    refine ⟨J',?_⟩
    have hXl : (n.ed.map xEg).length = n.ed.length := List.length_map _
    generalize n.ed.map xEg = X at *
    have htk : List.take ((k + 1) * 4) (edges (X.take (k + 1))) = edges (X.take (k + 1)) := List.take_of_length_le (by rw [xAd,List.length_take]; omega)
    simp only [xEU,List.append_assoc,List.cons_append,List.nil_append,List.length_append,List.length_cons,List.length_nil,Nat.zero_add,Nat.reduceAdd] at ih
    rw [xPC]
    simp (maxSteps := 30000000) (disch := first | assumption | omega | (simp only [List.length_cons,List.length_nil,List.length_append,List.length_set,List.length_replicate,List.length_map,List.length_range,List.length_take,List.length_drop,List.all_cons,List.all_nil,AV.isCell,Bool.and_self,Bool.and_true,xAj,xAc,xAg,xAb,xAd] <;> omega) | rfl | decide) only [xKD,xAr,xAh,xAe,xAm,xAK,opv,List.getD_cons_succ,List.getD_cons_zero,xAN,hlt,decide_true,xAn,xAq,List.set_cons_succ,List.set_cons_zero,xAl,xAi,xAk,xAf,xAv,xAo,xAw,xAD,if_true,xAu,xAT,xAY,Int.toNat_natCast,xAF,xBl,xBg,xBt,xBv,AV.cells,List.all_cons,AV.isCell,List.all_nil,Bool.and_self,List.length_cons,List.length_append,List.length_nil,Nat.zero_add,List.cons_append,List.append_assoc,List.nil_append,xA6,Nat.reduceAdd,xBK,List.getElem?_cons_succ,xRC,List.getElem?_cons_zero,xAX,splice,List.take_zero,List.drop_succ_cons,List.drop_nil,List.append_nil,xEF,xAG,xBj,xAS,xAA,xA7,xAy,List.drop_zero,List.take_succ_cons,List.take_nil,xAM,Nat.add_zero,xBR,beq_self_eq_true,List.map_cons,List.map_nil,fillA,Nat.reduceLeDiff,and_self,Nat.le_refl,Option.map_some,xBs,xDw,Nat.reduceMul,xBr,xBT,frzN,List.flatMap_cons,xA4,List.flatMap_nil,List.isEmpty_nil,List.mapM_cons,xAO,List.mapM_nil,Option.pure_def,Option.bind_eq_bind,Option.bind_some,xBS,xBE,xDr,xDW,xEE,xCF,Nat.reduceBEq,xEP,htk,hsn,xAs,xBm,xC9,xDM,xAE,xAB,xM7,ih]
theorem xLz (n : Aut) (hf : Fits n) (h1 : n.z1 = true → n.st = []) (h2 : n.z2 = true → n.fi = []) (hl : n.ed.length < 1000000) : ∃ e : Int,L.pcall 26 [n.av] = some (.int .i64 e) ∧ (e = 0 ↔ Valid n) ∧
    (e ≠ 0 → L.pcall 18 [n.av] = some (.tup [zeroA.av,.int .i64 e])) ∧ (e = 0 → ∃ z,L.pcall 18 [n.av] = some (.tup [(xXw n z).av,.int .i64 0]) ∧ (z = true → n.ed = [])) := by
  obtain ⟨e,k1,k2⟩ := xQF n hf
  refine ⟨e,k1,k2,fun he => ?_,fun he => ?_⟩
  · rw [xYY,a18,xAL]
    simp (maxSteps := 30000000) (disch := first | assumption | omega | (simp only [List.length_cons,List.length_nil,List.length_append,List.length_set,List.length_replicate,List.length_map,List.length_range,List.length_take,List.length_drop,List.all_cons,List.all_nil,AV.isCell,Bool.and_self,Bool.and_true,xAj,xAc,xAg,xAb,xAd] <;> omega) | rfl | decide) only [xAC,List.length_cons,List.length_nil,Nat.zero_add,Nat.reduceSub,pads,List.cons_append,List.nil_append,xAr,xAh,xAe,xAm,xBv,AV.cells,opv,List.getD_cons_zero,List.all_cons,AV.isCell,List.all_nil,Bool.and_self,if_true,xAq,List.set_cons_succ,List.set_cons_zero,xAl,xAE,xAi,xAk,xAf,xAF,List.getD_cons_succ,xA7,List.getElem?_cons_zero,xAy,List.drop_zero,List.take_succ_cons,List.take_nil,xBt,xAn,xBn,List.map_cons,List.map_nil,xA0,frzN,List.mapM_cons,xCk,xAO,xBZ,List.mapM_nil,Option.pure_def,Option.bind_eq_bind,Option.bind_some,Option.map_some,xAZ,k1,xA2,xC6,xBQ,fzIds,List.flatMap_cons,xCl,xA4,xCx,List.flatMap_nil,List.append_nil,List.foldl_nil,ite_self,xAK,xCu,he,decide_false,Bool.not_false,xAv,xAo,xBR,fillA,xA6,Nat.reduceAdd,xBK,List.getElem?_cons_succ,xAX,splice,List.take_zero,List.drop_succ_cons,List.drop_nil,xAG,xBj,xAH,xAw,xBI,xAz,xBW,xBV,xDX,xCZ,xRl,xBU,xAU,xB9,xAt,xAx,xCw]
    rfl
  · subst he
    have g1 := xTQ n.z2 n.fi hf.l2 h2
    have g2 := xTQ n.z1 n.st hf.l1 h1
    by_cases h0 : n.ed.length = 0
    · have hnil : n.ed = [] := List.length_eq_zero_iff.1 h0
      refine ⟨true,?_,fun _ => hnil⟩
      have hloop : ∀ H,L.loop xKE xSs ⟨xI0 (.ptr 1 0) (.ptr 2 0) (.sl n.z3 n.ed.length (edges n.ed)) (.int .i64 (n.ed.length : Nat)) (.int .i64 0),H⟩ = some (.exit 0,⟨xI0 (.ptr 1 0) (.ptr 2 0) (.sl n.z3 n.ed.length (edges n.ed)) (.int .i64 (n.ed.length : Nat)) (.int .i64 0),H⟩) := by
        intro H
        have hlt : ¬ ((0 : Int) < (n.ed.length : Nat)) := by omega
        rw [xPC]
        simp (maxSteps := 30000000) (disch := first | assumption | omega | (simp only [List.length_cons,List.length_nil,List.length_append,List.length_set,List.length_replicate,List.length_map,List.length_range,List.length_take,List.length_drop,List.all_cons,List.all_nil,AV.isCell,Bool.and_self,Bool.and_true,xAj,xAc,xAg,xAb,xAd] <;> omega) | rfl | decide) only [xKD,xAr,xAh,xAe,xAm,xAK,opv,List.getD_cons_succ,List.getD_cons_zero,xAN,hlt,decide_false,xAn,xAq,List.set_cons_succ,List.set_cons_zero,xAl,xAi,xAk,xAf,xAv,xAo,Bool.false_eq_true,xAw,xAD,if_false,xBp,xBe,xM7]
      rw [xYY,a18,xAL]
      simp (maxSteps := 30000000) (disch := first | assumption | omega | (simp only [List.length_cons,List.length_nil,List.length_append,List.length_set,List.length_replicate,List.length_map,List.length_range,List.length_take,List.length_drop,List.all_cons,List.all_nil,AV.isCell,Bool.and_self,Bool.and_true,xAj,xAc,xAg,xAb,xAd] <;> omega) | rfl | decide) only [xAC,List.length_cons,List.length_nil,Nat.zero_add,Nat.reduceSub,pads,List.cons_append,List.nil_append,xAr,xAh,xAe,xAm,xBv,AV.cells,opv,List.getD_cons_zero,List.all_cons,AV.isCell,List.all_nil,Bool.and_self,if_true,xAq,List.set_cons_succ,List.set_cons_zero,xAl,xAE,xAi,xAk,xAf,xAF,List.getD_cons_succ,xA7,List.getElem?_cons_zero,xAy,List.drop_zero,List.take_succ_cons,List.take_nil,xBt,xAn,xBn,List.map_cons,List.map_nil,xA0,frzN,List.mapM_cons,xCk,xAO,xBZ,List.mapM_nil,Option.pure_def,Option.bind_eq_bind,Option.bind_some,Option.map_some,xAZ,k1,xA2,xC6,xBQ,fzIds,List.flatMap_cons,xCl,xA4,xCx,List.flatMap_nil,List.append_nil,List.foldl_nil,ite_self,xAK,xCu,decide_true,Bool.not_true,xAv,xAo,Bool.false_eq_true,xBR,fillA,xA6,Nat.reduceAdd,xBK,List.getElem?_cons_succ,xAX,splice,List.take_zero,List.drop_succ_cons,List.drop_nil,xAG,xBj,xAH,xAw,if_false,xE6,xCC,xDh,xEu,xAS,xAA,Nat.add_zero,xDP,xEr,xDg,xFK,xAM,xJr,g1,xEb,quietCall,List.isEmpty_nil,Bool.or_true,g2,xIe,beq_self_eq_true,Nat.reduceLeDiff,and_self,xQk,xCQ,xDC,adopt,xBu,xBk,xBO,xBC,xAu,xBw,xM7,hloop,xBc,xAz,xBW,xBV,xDX,xCZ,xRl,xBU,xAU,xB9,xAt,xAx,xCw]
      simp [xXw,hnil]
      rfl
    · refine ⟨false,?_,fun h => by cases h⟩
      have hlt : (0 : Int) < (n.ed.length : Nat) := by omega
      have hat : List.take 4 (edges n.ed) = [.int .i64 (n.ed.getD 0 e0).a,.int .i64 (n.ed.getD 0 e0).b,.int .u8 ((n.ed.getD 0 e0).p : Nat),.int .u8 ((n.ed.getD 0 e0).n : Nat)] := by
        have := xBg (l := n.ed) (i := 0) (by omega)
        simpa using this
      have hone : edges ((n.ed.map xEg).take (0 + 1)) = [.int .i64 (n.ed.getD 0 e0).b,.int .i64 (n.ed.getD 0 e0).a,.int .u8 ((n.ed.getD 0 e0).p : Nat),.int .u8 ((n.ed.getD 0 e0).n : Nat)] := by
        rw [← xOm (by omega)]
        rfl
      obtain ⟨J',hloop⟩ := xQG (n := n) (c1 := .cells false false [.int .i64 0,.int .i64 0,.sl true 0 [],.sl true 0 [],.sl true 0 []]) hl (n.ed.length - 1) 0 [.cells false false (xEU (n.ed.getD 0 e0))] (by omega)
      simp only [hone,xEU,List.cons_append,List.nil_append,List.length_cons,List.length_nil,Nat.zero_add,Nat.reduceAdd,Int.natCast_one] at hloop
      have hXl : (n.ed.map xEg).length = n.ed.length := List.length_map _
      have htk : List.take (n.ed.length * 4) (edges (n.ed.map xEg)) = edges (n.ed.map xEg) := List.take_of_length_le (by rw [xAd]; omega)
      rw [xYY,a18,xAL]
      simp (maxSteps := 30000000) (disch := first | assumption | omega | (simp only [List.length_cons,List.length_nil,List.length_append,List.length_set,List.length_replicate,List.length_map,List.length_range,List.length_take,List.length_drop,List.all_cons,List.all_nil,AV.isCell,Bool.and_self,Bool.and_true,xAj,xAc,xAg,xAb,xAd] <;> omega) | rfl | decide) only [xAC,List.length_cons,List.length_nil,Nat.zero_add,Nat.reduceSub,pads,List.cons_append,List.nil_append,xAr,xAh,xAe,xAm,xBv,AV.cells,opv,List.getD_cons_zero,List.all_cons,AV.isCell,List.all_nil,Bool.and_self,if_true,xAq,List.set_cons_succ,List.set_cons_zero,xAl,xAE,xAi,xAk,xAf,xAF,List.getD_cons_succ,xA7,List.getElem?_cons_zero,xAy,List.drop_zero,List.take_succ_cons,List.take_nil,xBt,xAn,xBn,List.map_cons,List.map_nil,xA0,frzN,List.mapM_cons,xCk,xAO,xBZ,List.mapM_nil,Option.pure_def,Option.bind_eq_bind,Option.bind_some,Option.map_some,xAZ,k1,xA2,xC6,xBQ,fzIds,List.flatMap_cons,xCl,xA4,xCx,List.flatMap_nil,List.append_nil,List.foldl_nil,ite_self,xAK,xCu,decide_true,Bool.not_true,xAv,xAo,Bool.false_eq_true,xBR,fillA,xA6,Nat.reduceAdd,xBK,List.getElem?_cons_succ,xAX,splice,List.take_zero,List.drop_succ_cons,List.drop_nil,xAG,xBj,xAH,xAw,if_false,xE6,xCC,xDh,xEu,xAS,xAA,Nat.add_zero,xDP,xEr,xDg,xFK,xAM,xJr,g1,xEb,quietCall,List.isEmpty_nil,Bool.or_true,g2,xIe,beq_self_eq_true,Nat.reduceLeDiff,and_self,xQk,xCQ,xDC,adopt,xBu,xBk,xBO,xBC,xAu,xBw,xM7,xPC,xKD,xAN,hlt,xAD,xAT,xAY,Int.toNat_zero,Nat.reduceMul,xBl,hat,Nat.le_refl,xBs,xDw,xBr,xBT,xBS,xBE,xDr,xEs,Nat.reduceBEq,xCq,xAs,xBm,Int.zero_add,xDM,xAB,hloop,xBc,xAz,xBW,xBV,xDX,xCZ,xRl,xBU,xAU,xB9,xAt,xAx,xCw,xCc,xEE,xDD,htk,xBG]
      show _ = some (AV.tup [.agg [.int .i64 n.vars,.int .i64 n.states,iw n.z2 n.fi,iw n.z1 n.st,.sl false (n.ed.map xEg).length (edges (n.ed.map xEg))],.int .i64 0])
      rw [hXl]
def Bld (T : Heap) (v : AV) (es n : Nat) (cs : List AV) : Prop :=
  (v = .sl true 0 [] ∧ n = 0 ∧ cs = []) ∨ ∃ k,v = .own false (k + 1 + 1 + 1) 0 n es ∧ T[k]? = some (.cells false false cs) ∧ cs.length = n * es
def Not (v : AV) (j : Nat) : Prop := ∀ n es,v ≠ .own false (j + 1 + 1 + 1) 0 n es
theorem xGW {l : List Int} {i : Nat} (h : i < l.length) : l.getD i 0 ∈ l := by
  rw [List.getD_eq_getElem?_getD,List.getElem?_eq_getElem h]
  exact List.getElem_mem _
def num (U : Nat → Bool) (q : Int) : Option Int := if U q.toNat = true then some ((xKe U q.toNat : Nat) : Int) else none
def xRD (U : Nat → Bool) (e : Ed) : Option Ed := if U e.a.toNat = true ∧ U e.b.toNat = true then some ⟨(xKe U e.a.toNat : Nat),(xKe U e.b.toNat : Nat),e.p,e.n⟩ else none
abbrev HT (n : Aut) (U : Nat → Bool) (z : Bool) (k : Nat) (sv fv ev : AV) (T : Heap) : Heap := .cells false false n.cells :: .cells false false [.int .i64 n.vars,.int .i64 (k : Nat),sv,fv,ev] :: .cells false false [.sl z (setL U).length (xD4 (setL U))] :: T
theorem xIj {c0 c1 : Blk} {z : Bool} {T : Heap} (U : Nat → Bool) (q : Int) (h0 : 0 ≤ q) (h1 : q < 4096) : L.icall (.func 46 [.ptr 2 0]) [.int .i64 q] (c0 :: c1 :: .cells false false [.sl z (setL U).length (xD4 (setL U))] :: T) =
    some (.tup [.int .i64 (xKe U q.toNat : Nat),.bool (U q.toNat)],c0 :: c1 :: .cells false false [.sl z (setL U).length (xD4 (setL U))] :: T) := by
  have h := xZx z U (q := q.toNat) (by omega)
  rw [show ((q.toNat : Nat) : Int) = q by omega] at h
  have hl := xMj U
  rw [xZ0,a46]
  simp (maxSteps := 30000000) (disch := first | assumption | omega | (simp only [List.length_cons,List.length_nil,List.length_append,List.length_set,List.length_replicate,List.length_map,List.length_range,List.length_take,List.length_drop,List.all_cons,List.all_nil,AV.isCell,Bool.and_self,Bool.and_true,xAj,xAc,xAg,xAb,xAd] <;> omega) | rfl | decide) only [List.cons_append,List.nil_append,xAC,List.length_cons,List.length_nil,Nat.zero_add,Nat.reduceAdd,Nat.reduceSub,pads,xAr,xAh,xAe,xAm,xAE,opv,xAq,List.set_cons_succ,List.set_cons_zero,xAl,xAi,xAk,xAf,xAF,List.getD_cons_succ,List.getD_cons_zero,xA7,List.getElem?_cons_succ,List.getElem?_cons_zero,xAy,List.drop_zero,List.take_succ_cons,List.take_nil,xAM,xAn,xBn,List.map_cons,List.map_nil,xA0,frzN,List.mapM_cons,xBZ,xAO,List.mapM_nil,Option.pure_def,Option.bind_eq_bind,Option.bind_some,xAZ,h,xA2,xC6,List.all_cons,xBQ,List.all_nil,Bool.and_self,fzIds,List.flatMap_cons,xCx,xA4,List.flatMap_nil,List.append_nil,List.foldl_nil,ite_self,xDv,xB8,xAH,xAz,xBW,xBV,xAU,xBU,xB9,Option.map_some,xAt]
theorem xMd {n : Aut} {U : Nat → Bool} {z : Bool} {k0 : Nat} {o1 o2 : AV} (hl : n.st.length < 1000) (hq : ∀ q ∈ n.st,0 ≤ q ∧ q < 4096) : ∀ d i T sv l,i + d = n.st.length → l.length + d < 100000 → Bld T sv 1 l.length (xCT l) →
    ∃ T' sv',L.loop xMY xUE ⟨xMZ (.ptr 0 0) (.ptr 1 0) (.func 46 [.ptr 2 0]) (iw n.z1 n.st) (.int .i64 (n.st.length : Nat)) (.int .i64 (i : Nat)),HT n U z k0 sv o1 o2 T⟩ =
      some (.exit 0,⟨xMZ (.ptr 0 0) (.ptr 1 0) (.func 46 [.ptr 2 0]) (iw n.z1 n.st) (.int .i64 (n.st.length : Nat)) (.int .i64 (n.st.length : Nat)),HT n U z k0 sv' o1 o2 T'⟩) ∧
      Bld T' sv' 1 (l ++ (n.st.drop i).filterMap (num U)).length (xCT (l ++ (n.st.drop i).filterMap (num U))) ∧
      (∀ j x,Not sv j → T[j]? = some x → T'[j]? = some x ∧ Not sv' j)
  | 0,i,T,sv,l,h,hll,hB => by
    obtain rfl : i = n.st.length := by omega
    refine ⟨T,sv,?_,by rw [List.drop_length]; simpa using hB,fun j x h1 h2 => ⟨h2,h1⟩⟩
    rw [xPA]
    simp (maxSteps := 30000000) (disch := first | assumption | omega | (simp only [List.length_cons,List.length_nil,List.length_append,List.length_set,List.length_replicate,List.length_map,List.length_range,List.length_take,List.length_drop,List.all_cons,List.all_nil,AV.isCell,Bool.and_self,Bool.and_true,xAj,xAc,xAg,xAb,xAd] <;> omega) | rfl | decide) only [xKA,xAr,xAh,xAe,xAm,xAK,opv,List.getD_cons_succ,List.getD_cons_zero,xAN,Int.lt_irrefl,decide_false,xAn,xAq,List.set_cons_succ,List.set_cons_zero,xAl,xAi,xAk,xAf,xAv,xAo,Bool.false_eq_true,xAw,xAD,if_false,xBp,xBe,xM0]
  | d + 1,i,T,sv,l,h,hll,hB => by
    have hlt : (i : Int) < (n.st.length : Nat) := by omega
    have hqi := hq _ (xGW (by omega : i < n.st.length))
    have hnum := fun (c0 c1 : Blk) (T : Heap) => xIj (c0 := c0) (c1 := c1) (z := z) (T := T) U (n.st.getD i 0) hqi.1 hqi.2
    have hd : (n.st.drop i) = n.st.getD i 0 :: n.st.drop (i + 1) := by rw [xET (by omega)]
    cases hU : U (n.st.getD i 0).toNat with
    | false =>
      rw [hU] at hnum
      have hf : (n.st.drop i).filterMap (num U) = (n.st.drop (i + 1)).filterMap (num U) := by
        rw [hd,List.filterMap_cons]; simp only [num,hU,Bool.false_eq_true,if_false]
      obtain ⟨T',sv',h1,h2,h3⟩ := xMd (U := U) (z := z) (k0 := k0) (o1 := o1) (o2 := o2) hl hq d (i + 1) T sv l (by omega) (by omega) hB
      refine ⟨T',sv',?_,by rw [hf]; exact h2,h3⟩
      rw [xPA]
      simp (maxSteps := 30000000) (disch := first | assumption | omega | (simp only [List.length_cons,List.length_nil,List.length_append,List.length_set,List.length_replicate,List.length_map,List.length_range,List.length_take,List.length_drop,List.all_cons,List.all_nil,AV.isCell,Bool.and_self,Bool.and_true,xAj,xAc,xAg,xAb,xAd] <;> omega) | rfl | decide) only [xKA,xAr,xAh,xAe,xAm,xAK,opv,List.getD_cons_succ,List.getD_cons_zero,xAN,hlt,decide_true,xAn,xAq,List.set_cons_succ,List.set_cons_zero,xAl,xAi,xAk,xAf,xAv,xAo,xAw,xAD,if_true,xAu,xAT,xAY,Int.toNat_natCast,Nat.mul_one,xAF,xBl,xCh,xB7,xC1,xB6,Nat.add_zero,xAM,xAE,xBa,List.map_cons,List.map_nil,hnum,xDv,xB8,List.getElem?_cons_zero,List.getElem?_cons_succ,Bool.false_eq_true,xAS,xAA,Nat.zero_add,xA7,xAy,List.drop_succ_cons,List.drop_zero,List.take_succ_cons,List.take_zero,xBs,AV.cells,List.all_cons,List.length_cons,List.length_nil,beq_self_eq_true,List.all_nil,Bool.and_self,xDw,List.append_nil,fillA,Nat.le_refl,AV.isCell,and_self,splice,List.nil_append,List.drop_nil,xBr,xBT,frzN,List.flatMap_cons,xA4,List.flatMap_nil,List.isEmpty_nil,List.mapM_cons,xAO,List.mapM_nil,Option.pure_def,Option.bind_eq_bind,Option.bind_some,xBS,xBE,xDr,if_false,xAs,xBm,xC9,xDM,xAB,xM0,h1]
    | true =>
      rw [hU] at hnum
      have hf : (n.st.drop i).filterMap (num U) = ((xKe U (n.st.getD i 0).toNat : Nat) : Int) :: (n.st.drop (i + 1)).filterMap (num U) := by
        rw [hd,List.filterMap_cons]; simp only [num,hU,if_true]
      rw [hf]
      generalize xKe U (n.st.getD i 0).toNat = r at *
      rcases hB with ⟨rfl,e1,e2⟩ | ⟨k,rfl,e1,e2⟩
      · have hl0 : l = [] := List.length_eq_zero_iff.1 e1
        subst hl0
        obtain ⟨T',sv',h1,h2,h3⟩ := xMd (U := U) (z := z) (k0 := k0) (o1 := o1) (o2 := o2) hl hq d (i + 1) (T ++ [.cells false false (xCT [(r : Int)])]) (.own false (T.length + 1 + 1 + 1) 0 1 1) [(r : Int)] (by omega) (by simp at hll ⊢; omega)
          (.inr ⟨T.length,rfl,by simp,by rw [xAb]; simp⟩)
        refine ⟨T',sv',?_,?_,fun j x q1 q2 => ?_⟩
        · simp only [List.cons_append,List.nil_append,xF1] at h1
          rw [xPA]
          simp (maxSteps := 30000000) (disch := first | assumption | omega | (simp only [List.length_cons,List.length_nil,List.length_append,List.length_set,List.length_replicate,List.length_map,List.length_range,List.length_take,List.length_drop,List.all_cons,List.all_nil,AV.isCell,Bool.and_self,Bool.and_true,xAj,xAc,xAg,xAb,xAd] <;> omega) | rfl | decide) only [xKA,xAr,xAh,xAe,xAm,xAK,opv,List.getD_cons_succ,List.getD_cons_zero,xAN,hlt,decide_true,xAn,xAq,List.set_cons_succ,List.set_cons_zero,xAl,xAi,xAk,xAf,xAv,xAo,xAw,xAD,if_true,xAu,xAT,xAY,Int.toNat_natCast,Nat.mul_one,xAF,xBl,xCh,xB7,xC1,xB6,Nat.add_zero,xAM,xAE,xBa,List.map_cons,List.map_nil,hnum,xDv,xB8,List.getElem?_cons_zero,List.getElem?_cons_succ,xAS,xAA,Nat.zero_add,xA7,xAy,List.drop_succ_cons,List.drop_zero,List.take_succ_cons,List.take_zero,xBs,AV.cells,List.all_cons,List.length_cons,List.length_nil,beq_self_eq_true,List.all_nil,Bool.and_self,xDw,List.append_nil,fillA,Nat.le_refl,AV.isCell,and_self,splice,List.nil_append,List.drop_nil,xBr,xBT,frzN,List.flatMap_cons,xA4,List.flatMap_nil,List.isEmpty_nil,List.mapM_cons,xAO,List.mapM_nil,Option.pure_def,Option.bind_eq_bind,Option.bind_some,xBS,xBE,xDr,xEs,Nat.reduceBEq,xCq,List.cons_append,xA6,xBK,xAX,Nat.reduceAdd,xAG,xBj,xAs,xBm,xC9,xDM,xAB,xM0,h1]
        · simpa using h2
        · have hj := (List.getElem?_eq_some_iff.1 q2).1
          exact h3 j x (fun n es e => by cases e; omega) (by rw [List.getElem?_append_left hj]; exact q2)
      · have hk := (List.getElem?_eq_some_iff.1 e1).1
        obtain ⟨T',sv',h1,h2,h3⟩ := xMd (U := U) (z := z) (k0 := k0) (o1 := o1) (o2 := o2) hl hq d (i + 1) (T.set k .dead ++ [.cells false false (xCT (l ++ [(r : Int)]))]) (.own false (T.length + 1 + 1 + 1) 0 (l ++ [(r : Int)]).length 1) (l ++ [(r : Int)]) (by omega) (by simp at hll ⊢; omega)
          (.inr ⟨T.length,rfl,by simp,by rw [xAb]; simp⟩)
        refine ⟨T',sv',?_,?_,fun j x q1 q2 => ?_⟩
        · have hsn : xCT l ++ [AV.int .i64 (r : Int)] = xCT (l ++ [(r : Int)]) := by simp [xCT]
          have hll2 : (l ++ [(r : Int)]).length = l.length + 1 := by simp
          simp only [hll2] at h1
          rw [xPA]
          simp (maxSteps := 30000000) (disch := first | assumption | omega | (simp only [List.length_cons,List.length_nil,List.length_append,List.length_set,List.length_replicate,List.length_map,List.length_range,List.length_take,List.length_drop,List.all_cons,List.all_nil,AV.isCell,Bool.and_self,Bool.and_true,xAj,xAc,xAg,xAb,xAd] <;> omega) | rfl | decide) only [xKA,xAr,xAh,xAe,xAm,xAK,opv,List.getD_cons_succ,List.getD_cons_zero,xAN,hlt,decide_true,xAn,xAq,List.set_cons_succ,List.set_cons_zero,xAl,xAi,xAk,xAf,xAv,xAo,xAw,xAD,if_true,xAu,xAT,xAY,Int.toNat_natCast,Nat.mul_one,xAF,xBl,xCh,xB7,xC1,xB6,Nat.add_zero,xAM,xAE,xBa,List.map_cons,List.map_nil,hnum,xDv,xB8,List.getElem?_cons_zero,List.getElem?_cons_succ,xAS,xAA,Nat.zero_add,xA7,xAy,List.drop_succ_cons,List.drop_zero,List.take_succ_cons,List.take_zero,xBs,AV.cells,List.all_cons,List.length_cons,List.length_nil,beq_self_eq_true,List.all_nil,Bool.and_self,xDw,List.append_nil,fillA,Nat.le_refl,AV.isCell,and_self,splice,List.nil_append,List.drop_nil,xBr,xBT,frzN,List.flatMap_cons,xA4,List.flatMap_nil,List.isEmpty_nil,List.mapM_cons,xAO,List.mapM_nil,Option.pure_def,Option.bind_eq_bind,Option.bind_some,xBS,xBE,xDr,xDW,e1,xCF,Nat.reduceBEq,List.take_length,hsn,List.cons_append,xA6,xBK,xAX,Nat.reduceAdd,xAG,xBj,xAs,xBm,xC9,xDM,xAB,xM0,h1]
        · simpa using h2
        · have hj := (List.getElem?_eq_some_iff.1 q2).1
          have hjk : j ≠ k := by
            rintro rfl
            exact q1 _ _ rfl
          exact h3 j x (fun n es e => by cases e; omega) (by rw [List.getElem?_append_left (by simpa using hj),List.getElem?_set_ne (fun e => hjk e.symm)]; exact q2)
theorem xMe {n : Aut} {U : Nat → Bool} {z : Bool} {k0 : Nat} {o1 o2 : AV} (hl : n.fi.length < 1000) (hq : ∀ q ∈ n.fi,0 ≤ q ∧ q < 4096) : ∀ d i T sv l,i + d = n.fi.length → l.length + d < 100000 → Bld T sv 1 l.length (xCT l) →
    ∃ T' sv',L.loop xM1 xUF ⟨xM2 (.ptr 0 0) (.ptr 1 0) (.func 46 [.ptr 2 0]) (iw n.z2 n.fi) (.int .i64 (n.fi.length : Nat)) (.int .i64 (i : Nat)),HT n U z k0 o1 sv o2 T⟩ =
      some (.exit 2,⟨xM2 (.ptr 0 0) (.ptr 1 0) (.func 46 [.ptr 2 0]) (iw n.z2 n.fi) (.int .i64 (n.fi.length : Nat)) (.int .i64 (n.fi.length : Nat)),HT n U z k0 o1 sv' o2 T'⟩) ∧
      Bld T' sv' 1 (l ++ (n.fi.drop i).filterMap (num U)).length (xCT (l ++ (n.fi.drop i).filterMap (num U))) ∧
      (∀ j x,Not sv j → T[j]? = some x → T'[j]? = some x ∧ Not sv' j)
  | 0,i,T,sv,l,h,hll,hB => by
    obtain rfl : i = n.fi.length := by omega
    refine ⟨T,sv,?_,by rw [List.drop_length]; simpa using hB,fun j x h1 h2 => ⟨h2,h1⟩⟩
    rw [xPB]
    simp (maxSteps := 30000000) (disch := first | assumption | omega | (simp only [List.length_cons,List.length_nil,List.length_append,List.length_set,List.length_replicate,List.length_map,List.length_range,List.length_take,List.length_drop,List.all_cons,List.all_nil,AV.isCell,Bool.and_self,Bool.and_true,xAj,xAc,xAg,xAb,xAd] <;> omega) | rfl | decide) only [xKB,xAr,xAh,xAe,xAm,xAK,opv,List.getD_cons_succ,List.getD_cons_zero,xAN,Int.lt_irrefl,decide_false,xAn,xAq,List.set_cons_succ,List.set_cons_zero,xAl,xAi,xAk,xAf,xAv,xAo,Bool.false_eq_true,xAw,xAD,if_false,xBp,xBe,xM3]
  | d + 1,i,T,sv,l,h,hll,hB => by
    have hlt : (i : Int) < (n.fi.length : Nat) := by omega
    have hqi := hq _ (xGW (by omega : i < n.fi.length))
    have hnum := fun (c0 c1 : Blk) (T : Heap) => xIj (c0 := c0) (c1 := c1) (z := z) (T := T) U (n.fi.getD i 0) hqi.1 hqi.2
    have hd : (n.fi.drop i) = n.fi.getD i 0 :: n.fi.drop (i + 1) := by rw [xET (by omega)]
    cases hU : U (n.fi.getD i 0).toNat with
    | false =>
      rw [hU] at hnum
      have hf : (n.fi.drop i).filterMap (num U) = (n.fi.drop (i + 1)).filterMap (num U) := by
        rw [hd,List.filterMap_cons]; simp only [num,hU,Bool.false_eq_true,if_false]
      obtain ⟨T',sv',h1,h2,h3⟩ := xMe (U := U) (z := z) (k0 := k0) (o1 := o1) (o2 := o2) hl hq d (i + 1) T sv l (by omega) (by omega) hB
      refine ⟨T',sv',?_,by rw [hf]; exact h2,h3⟩
      rw [xPB]
      simp (maxSteps := 30000000) (disch := first | assumption | omega | (simp only [List.length_cons,List.length_nil,List.length_append,List.length_set,List.length_replicate,List.length_map,List.length_range,List.length_take,List.length_drop,List.all_cons,List.all_nil,AV.isCell,Bool.and_self,Bool.and_true,xAj,xAc,xAg,xAb,xAd] <;> omega) | rfl | decide) only [xKB,xAr,xAh,xAe,xAm,xAK,opv,List.getD_cons_succ,List.getD_cons_zero,xAN,hlt,decide_true,xAn,xAq,List.set_cons_succ,List.set_cons_zero,xAl,xAi,xAk,xAf,xAv,xAo,xAw,xAD,if_true,xAu,xAT,xAY,Int.toNat_natCast,Nat.mul_one,xAF,xBl,xCh,xB7,xC1,xB6,Nat.add_zero,xAM,xAE,xBa,List.map_cons,List.map_nil,hnum,xDv,xB8,List.getElem?_cons_zero,List.getElem?_cons_succ,Bool.false_eq_true,xAS,xAA,Nat.zero_add,xA7,xAy,List.drop_succ_cons,List.drop_zero,List.take_succ_cons,List.take_zero,xBs,AV.cells,List.all_cons,List.length_cons,List.length_nil,beq_self_eq_true,List.all_nil,Bool.and_self,xDw,List.append_nil,fillA,Nat.le_refl,AV.isCell,and_self,splice,List.nil_append,List.drop_nil,xBr,xBT,frzN,List.flatMap_cons,xA4,List.flatMap_nil,List.isEmpty_nil,List.mapM_cons,xAO,List.mapM_nil,Option.pure_def,Option.bind_eq_bind,Option.bind_some,xBS,xBE,xDr,if_false,xAs,xBm,xC9,xDM,xAB,xM3,h1]
    | true =>
      rw [hU] at hnum
      have hf : (n.fi.drop i).filterMap (num U) = ((xKe U (n.fi.getD i 0).toNat : Nat) : Int) :: (n.fi.drop (i + 1)).filterMap (num U) := by
        rw [hd,List.filterMap_cons]; simp only [num,hU,if_true]
      rw [hf]
      generalize xKe U (n.fi.getD i 0).toNat = r at *
      rcases hB with ⟨rfl,e1,e2⟩ | ⟨k,rfl,e1,e2⟩
      · have hl0 : l = [] := List.length_eq_zero_iff.1 e1
        subst hl0
        obtain ⟨T',sv',h1,h2,h3⟩ := xMe (U := U) (z := z) (k0 := k0) (o1 := o1) (o2 := o2) hl hq d (i + 1) (T ++ [.cells false false (xCT [(r : Int)])]) (.own false (T.length + 1 + 1 + 1) 0 1 1) [(r : Int)] (by omega) (by simp at hll ⊢; omega)
          (.inr ⟨T.length,rfl,by simp,by rw [xAb]; simp⟩)
        refine ⟨T',sv',?_,?_,fun j x q1 q2 => ?_⟩
        · simp only [List.cons_append,List.nil_append,xF1] at h1
          rw [xPB]
          simp (maxSteps := 30000000) (disch := first | assumption | omega | (simp only [List.length_cons,List.length_nil,List.length_append,List.length_set,List.length_replicate,List.length_map,List.length_range,List.length_take,List.length_drop,List.all_cons,List.all_nil,AV.isCell,Bool.and_self,Bool.and_true,xAj,xAc,xAg,xAb,xAd] <;> omega) | rfl | decide) only [xKB,xAr,xAh,xAe,xAm,xAK,opv,List.getD_cons_succ,List.getD_cons_zero,xAN,hlt,decide_true,xAn,xAq,List.set_cons_succ,List.set_cons_zero,xAl,xAi,xAk,xAf,xAv,xAo,xAw,xAD,if_true,xAu,xAT,xAY,Int.toNat_natCast,Nat.mul_one,xAF,xBl,xCh,xB7,xC1,xB6,Nat.add_zero,xAM,xAE,xBa,List.map_cons,List.map_nil,hnum,xDv,xB8,List.getElem?_cons_zero,List.getElem?_cons_succ,xAS,xAA,Nat.zero_add,xA7,xAy,List.drop_succ_cons,List.drop_zero,List.take_succ_cons,List.take_zero,xBs,AV.cells,List.all_cons,List.length_cons,List.length_nil,beq_self_eq_true,List.all_nil,Bool.and_self,xDw,List.append_nil,fillA,Nat.le_refl,AV.isCell,and_self,splice,List.nil_append,List.drop_nil,xBr,xBT,frzN,List.flatMap_cons,xA4,List.flatMap_nil,List.isEmpty_nil,List.mapM_cons,xAO,List.mapM_nil,Option.pure_def,Option.bind_eq_bind,Option.bind_some,xBS,xBE,xDr,xEs,Nat.reduceBEq,xCq,List.cons_append,xA6,xBK,xAX,Nat.reduceAdd,xAG,xBj,xAs,xBm,xC9,xDM,xAB,xM3,h1]
        · simpa using h2
        · have hj := (List.getElem?_eq_some_iff.1 q2).1
          exact h3 j x (fun n es e => by cases e; omega) (by rw [List.getElem?_append_left hj]; exact q2)
      · have hk := (List.getElem?_eq_some_iff.1 e1).1
        obtain ⟨T',sv',h1,h2,h3⟩ := xMe (U := U) (z := z) (k0 := k0) (o1 := o1) (o2 := o2) hl hq d (i + 1) (T.set k .dead ++ [.cells false false (xCT (l ++ [(r : Int)]))]) (.own false (T.length + 1 + 1 + 1) 0 (l ++ [(r : Int)]).length 1) (l ++ [(r : Int)]) (by omega) (by simp at hll ⊢; omega)
          (.inr ⟨T.length,rfl,by simp,by rw [xAb]; simp⟩)
        refine ⟨T',sv',?_,?_,fun j x q1 q2 => ?_⟩
        · have hsn : xCT l ++ [AV.int .i64 (r : Int)] = xCT (l ++ [(r : Int)]) := by simp [xCT]
          have hll2 : (l ++ [(r : Int)]).length = l.length + 1 := by simp
          simp only [hll2] at h1
          rw [xPB]
          simp (maxSteps := 30000000) (disch := first | assumption | omega | (simp only [List.length_cons,List.length_nil,List.length_append,List.length_set,List.length_replicate,List.length_map,List.length_range,List.length_take,List.length_drop,List.all_cons,List.all_nil,AV.isCell,Bool.and_self,Bool.and_true,xAj,xAc,xAg,xAb,xAd] <;> omega) | rfl | decide) only [xKB,xAr,xAh,xAe,xAm,xAK,opv,List.getD_cons_succ,List.getD_cons_zero,xAN,hlt,decide_true,xAn,xAq,List.set_cons_succ,List.set_cons_zero,xAl,xAi,xAk,xAf,xAv,xAo,xAw,xAD,if_true,xAu,xAT,xAY,Int.toNat_natCast,Nat.mul_one,xAF,xBl,xCh,xB7,xC1,xB6,Nat.add_zero,xAM,xAE,xBa,List.map_cons,List.map_nil,hnum,xDv,xB8,List.getElem?_cons_zero,List.getElem?_cons_succ,xAS,xAA,Nat.zero_add,xA7,xAy,List.drop_succ_cons,List.drop_zero,List.take_succ_cons,List.take_zero,xBs,AV.cells,List.all_cons,List.length_cons,List.length_nil,beq_self_eq_true,List.all_nil,Bool.and_self,xDw,List.append_nil,fillA,Nat.le_refl,AV.isCell,and_self,splice,List.nil_append,List.drop_nil,xBr,xBT,frzN,List.flatMap_cons,xA4,List.flatMap_nil,List.isEmpty_nil,List.mapM_cons,xAO,List.mapM_nil,Option.pure_def,Option.bind_eq_bind,Option.bind_some,xBS,xBE,xDr,xDW,e1,xCF,Nat.reduceBEq,List.take_length,hsn,List.cons_append,xA6,xBK,xAX,Nat.reduceAdd,xAG,xBj,xAs,xBm,xC9,xDM,xAB,xM3,h1]
        · simpa using h2
        · have hj := (List.getElem?_eq_some_iff.1 q2).1
          have hjk : j ≠ k := by
            rintro rfl
            exact q1 _ _ rfl
          exact h3 j x (fun n es e => by cases e; omega) (by rw [List.getElem?_append_left (by simpa using hj),List.getElem?_set_ne (fun e => hjk e.symm)]; exact q2)
set_option maxHeartbeats 2000000 in
theorem xJ3 {n : Aut} {U : Nat → Bool} {z : Bool} {k0 : Nat} {o1 o2 : AV} (hl : n.ed.length < 1000) (hq : ∀ e ∈ n.ed,(0 ≤ e.a ∧ e.a < 4096) ∧ 0 ≤ e.b ∧ e.b < 4096) : ∀ d i T ev l,i + d = n.ed.length → l.length + d < 100000 → Bld T ev 4 l.length (edges l) →
    ∃ T' ev',L.loop xM4 xUG ⟨xM5 (.ptr 1 0) (.func 46 [.ptr 2 0]) (.sl n.z3 n.ed.length (edges n.ed)) (.int .i64 (n.ed.length : Nat)) (.int .i64 (i : Nat)),HT n U z k0 o1 o2 ev T⟩ =
      some (.exit 4,⟨xM5 (.ptr 1 0) (.func 46 [.ptr 2 0]) (.sl n.z3 n.ed.length (edges n.ed)) (.int .i64 (n.ed.length : Nat)) (.int .i64 (n.ed.length : Nat)),HT n U z k0 o1 o2 ev' T'⟩) ∧
      Bld T' ev' 4 (l ++ (n.ed.drop i).filterMap (xRD U)).length (edges (l ++ (n.ed.drop i).filterMap (xRD U))) ∧
      (∀ j x,Not ev j → T[j]? = some x → T'[j]? = some x ∧ Not ev' j)
  | 0,i,T,ev,l,h,hll,hB => by
    obtain rfl : i = n.ed.length := by omega
    refine ⟨T,ev,?_,by rw [List.drop_length]; simpa using hB,fun j x h1 h2 => ⟨h2,h1⟩⟩
    rw [xM6]
    simp (maxSteps := 30000000) (disch := first | assumption | omega | (simp only [List.length_cons,List.length_nil,List.length_append,List.length_set,List.length_replicate,List.length_map,List.length_range,List.length_take,List.length_drop,List.all_cons,List.all_nil,AV.isCell,Bool.and_self,Bool.and_true,xAj,xAc,xAg,xAb,xAd] <;> omega) | rfl | decide) only [xIZ,xAr,xAh,xAe,xAm,xAK,opv,List.getD_cons_succ,List.getD_cons_zero,xAN,Int.lt_irrefl,decide_false,xAn,xAq,List.set_cons_succ,List.set_cons_zero,xAl,xAi,xAk,xAf,xAv,xAo,Bool.false_eq_true,xAw,xAD,if_false,xBp,xBe,xKC]
  | d + 1,i,T,ev,l,h,hll,hB => by
    have hlt : (i : Int) < (n.ed.length : Nat) := by omega
    have hqi := hq _ (xGZ (by omega : i < n.ed.length))
    have hna := fun (c0 c1 : Blk) (T : Heap) => xIj (c0 := c0) (c1 := c1) (z := z) (T := T) U (n.ed.getD i e0).a hqi.1.1 hqi.1.2
    have hnb := fun (c0 c1 : Blk) (T : Heap) => xIj (c0 := c0) (c1 := c1) (z := z) (T := T) U (n.ed.getD i e0).b hqi.2.1 hqi.2.2
    have hd : (n.ed.drop i) = n.ed.getD i e0 :: n.ed.drop (i + 1) := by rw [xEV (by omega)]
    have skip : ¬ (U (n.ed.getD i e0).a.toNat = true ∧ U (n.ed.getD i e0).b.toNat = true) → (n.ed.drop i).filterMap (xRD U) = (n.ed.drop (i + 1)).filterMap (xRD U) := fun hU => by
      rw [hd,List.filterMap_cons]; simp only [xRD,if_neg hU]
    have keep : Bld (T ++ [.cells false false (xEU (n.ed.getD i e0))]) ev 4 l.length (edges l) := by
      rcases hB with hB | ⟨k,e1,e2,e3⟩
      · exact .inl hB
      · exact .inr ⟨k,e1,by rw [List.getElem?_append_left (List.getElem?_eq_some_iff.1 e2).1]; exact e2,e3⟩
    have old : ∀ (j : Nat) (x : Blk),T[j]? = some x → (T ++ [.cells false false (xEU (n.ed.getD i e0))])[j]? = some x := fun j x q => by
      rw [List.getElem?_append_left (List.getElem?_eq_some_iff.1 q).1]; exact q
    cases hUa : U (n.ed.getD i e0).a.toNat with
    | false =>
      rw [hUa] at hna
      have hf := skip (fun h => by rw [hUa] at h; cases h.1)
      obtain ⟨T',ev',h1,h2,h3⟩ := xJ3 (U := U) (z := z) (k0 := k0) (o1 := o1) (o2 := o2) hl hq d (i + 1) (T ++ [.cells false false (xEU (n.ed.getD i e0))]) ev l (by omega) (by omega) keep
      refine ⟨T',ev',?_,by rw [hf]; exact h2,fun j x q1 q2 => h3 j x q1 (old j x q2)⟩
      simp only [xEU] at h1
      rw [xM6]
      simp (maxSteps := 30000000) (disch := first | assumption | omega | (simp only [List.length_cons,List.length_nil,List.length_append,List.length_set,List.length_replicate,List.length_map,List.length_range,List.length_take,List.length_drop,List.all_cons,List.all_nil,AV.isCell,Bool.and_self,Bool.and_true,xAj,xAc,xAg,xAb,xAd] <;> omega) | rfl | decide) only [xIZ,xAr,xAh,xAe,xAm,xAK,opv,List.getD_cons_succ,List.getD_cons_zero,xAN,hlt,decide_true,xAn,xAq,List.set_cons_succ,List.set_cons_zero,xAl,xAi,xAk,xAf,xAv,xAo,xAw,xAD,if_true,xAu,xAT,xAY,Int.toNat_natCast,xAF,xBl,xBg,xBt,xBv,AV.cells,List.all_cons,AV.isCell,List.all_nil,Bool.and_self,List.length_cons,List.cons_append,xA6,List.length_nil,Nat.zero_add,Nat.reduceAdd,xBK,List.getElem?_cons_succ,xEE,List.getElem?_cons_zero,xAX,splice,List.take_zero,List.nil_append,List.drop_succ_cons,List.drop_nil,List.append_nil,xEP,xAG,xBj,xAE,xAS,xAA,Nat.add_zero,xA7,xAy,List.drop_zero,List.take_succ_cons,xAM,xBa,List.map_cons,List.map_nil,hna,xDv,xB8,hnb,xAP,xAI,Bool.false_eq_true,xBk,if_false,xBq,xAQ,List.take_nil,xBR,beq_self_eq_true,fillA,Nat.reduceLeDiff,and_self,Nat.le_refl,Option.map_some,xBs,xDw,Nat.reduceMul,xBr,xBT,frzN,List.flatMap_cons,xA4,List.flatMap_nil,List.isEmpty_nil,List.mapM_cons,xAO,List.mapM_nil,Option.pure_def,Option.bind_eq_bind,Option.bind_some,xBS,xBE,xDr,xAs,xBm,xC9,xDM,xAB,xKC,h1]
    | true =>
      rw [hUa] at hna
      cases hUb : U (n.ed.getD i e0).b.toNat with
      | false =>
        rw [hUb] at hnb
        have hf := skip (fun h => by rw [hUb] at h; cases h.2)
        obtain ⟨T',ev',h1,h2,h3⟩ := xJ3 (U := U) (z := z) (k0 := k0) (o1 := o1) (o2 := o2) hl hq d (i + 1) (T ++ [.cells false false (xEU (n.ed.getD i e0))]) ev l (by omega) (by omega) keep
        refine ⟨T',ev',?_,by rw [hf]; exact h2,fun j x q1 q2 => h3 j x q1 (old j x q2)⟩
        simp only [xEU] at h1
        rw [xM6]
        simp (maxSteps := 30000000) (disch := first | assumption | omega | (simp only [List.length_cons,List.length_nil,List.length_append,List.length_set,List.length_replicate,List.length_map,List.length_range,List.length_take,List.length_drop,List.all_cons,List.all_nil,AV.isCell,Bool.and_self,Bool.and_true,xAj,xAc,xAg,xAb,xAd] <;> omega) | rfl | decide) only [xIZ,xAr,xAh,xAe,xAm,xAK,opv,List.getD_cons_succ,List.getD_cons_zero,xAN,hlt,decide_true,xAn,xAq,List.set_cons_succ,List.set_cons_zero,xAl,xAi,xAk,xAf,xAv,xAo,xAw,xAD,if_true,xAu,xAT,xAY,Int.toNat_natCast,xAF,xBl,xBg,xBt,xBv,AV.cells,List.all_cons,AV.isCell,List.all_nil,Bool.and_self,List.length_cons,List.cons_append,xA6,List.length_nil,Nat.zero_add,Nat.reduceAdd,xBK,List.getElem?_cons_succ,xEE,List.getElem?_cons_zero,xAX,splice,List.take_zero,List.nil_append,List.drop_succ_cons,List.drop_nil,List.append_nil,xEP,xAG,xBj,xAE,xAS,xAA,Nat.add_zero,xA7,xAy,List.drop_zero,List.take_succ_cons,xAM,xBa,List.map_cons,List.map_nil,hna,xDv,xB8,hnb,xAP,xAI,xBk,xBq,xAQ,ite_self,Bool.false_eq_true,List.take_nil,xBR,beq_self_eq_true,fillA,Nat.reduceLeDiff,and_self,Nat.le_refl,Option.map_some,xBs,xDw,Nat.reduceMul,xBr,xBT,frzN,List.flatMap_cons,xA4,List.flatMap_nil,List.isEmpty_nil,List.mapM_cons,xAO,List.mapM_nil,Option.pure_def,Option.bind_eq_bind,Option.bind_some,xBS,xBE,xDr,if_false,xAs,xBm,xC9,xDM,xAB,xKC,h1]
      | true =>
        rw [hUb] at hnb
        have hf : (n.ed.drop i).filterMap (xRD U) = ⟨(xKe U (n.ed.getD i e0).a.toNat : Nat),(xKe U (n.ed.getD i e0).b.toNat : Nat),(n.ed.getD i e0).p,(n.ed.getD i e0).n⟩ :: (n.ed.drop (i + 1)).filterMap (xRD U) := by
          rw [hd,List.filterMap_cons]; simp only [xRD,hUa,hUb,and_self,if_true]
        rw [hf]
        generalize xKe U (n.ed.getD i e0).a.toNat = ra at *
        generalize xKe U (n.ed.getD i e0).b.toNat = rb at *
        generalize hne : (⟨(ra : Nat),(rb : Nat),(n.ed.getD i e0).p,(n.ed.getD i e0).n⟩ : Ed) = ne at *
        have hone : edges [ne] = [.int .i64 (ra : Nat),.int .i64 (rb : Nat),.int .u8 ((n.ed.getD i e0).p : Nat),.int .u8 ((n.ed.getD i e0).n : Nat)] := by subst hne; rfl
        have hsn : edges l ++ [AV.int .i64 (ra : Nat),.int .i64 (rb : Nat),.int .u8 ((n.ed.getD i e0).p : Nat),.int .u8 ((n.ed.getD i e0).n : Nat)] = edges (l ++ [ne]) := by
          subst hne; exact xHt l ⟨(ra : Nat),(rb : Nat),(n.ed.getD i e0).p,(n.ed.getD i e0).n⟩
        have hcut : List.take (l.length * 4) (edges l) = edges l := List.take_of_length_le (by rw [xAd]; omega)
        rcases hB with ⟨rfl,e1,e2⟩ | ⟨k,rfl,e1,e2⟩
        · have hl0 : l = [] := List.length_eq_zero_iff.1 e1
          subst hl0
          obtain ⟨T',sv',h1,h2,h3⟩ := xJ3 (U := U) (z := z) (k0 := k0) (o1 := o1) (o2 := o2) hl hq d (i + 1) (T ++ [.cells false false (xEU (n.ed.getD i e0))] ++ [.cells false false (edges [ne])]) (.own false (T.length + 1 + 1 + 1 + 1) 0 1 4) [ne] (by omega) (by simp at hll ⊢; omega)
            (.inr ⟨T.length + 1,rfl,by simp,by rw [xAd]⟩)
          refine ⟨T',sv',?_,?_,fun j x q1 q2 => ?_⟩
          · simp only [List.append_assoc,List.cons_append,List.nil_append,hone,xEU] at h1
            rw [xM6]
            simp (maxSteps := 30000000) (disch := first | assumption | omega | (simp only [List.length_cons,List.length_nil,List.length_append,List.length_set,List.length_replicate,List.length_map,List.length_range,List.length_take,List.length_drop,List.all_cons,List.all_nil,AV.isCell,Bool.and_self,Bool.and_true,xAj,xAc,xAg,xAb,xAd] <;> omega) | rfl | decide) only [xIZ,xAr,xAh,xAe,xAm,xAK,opv,List.getD_cons_succ,List.getD_cons_zero,xAN,hlt,decide_true,xAn,xAq,List.set_cons_succ,List.set_cons_zero,xAl,xAi,xAk,xAf,xAv,xAo,xAw,xAD,if_true,xAu,xAT,xAY,Int.toNat_natCast,xAF,xBl,xBg,xBt,xBv,AV.cells,List.all_cons,AV.isCell,List.all_nil,Bool.and_self,List.length_cons,List.cons_append,xA6,List.length_nil,Nat.zero_add,Nat.reduceAdd,xBK,List.getElem?_cons_succ,xEE,List.getElem?_cons_zero,xAX,splice,List.take_zero,List.nil_append,List.drop_succ_cons,List.drop_nil,List.append_nil,xEP,xAG,xBj,xAE,xAS,xAA,Nat.add_zero,xA7,xAy,List.drop_zero,List.take_succ_cons,xAM,xBa,List.map_cons,List.map_nil,hna,xDv,xB8,hnb,xAP,xAI,xBk,xBq,xAQ,List.take_nil,xBR,beq_self_eq_true,fillA,Nat.reduceLeDiff,and_self,Nat.le_refl,Option.map_some,xBs,xDw,Nat.reduceMul,xBr,xBT,frzN,List.flatMap_cons,xA4,List.flatMap_nil,List.isEmpty_nil,List.mapM_cons,xAO,List.mapM_nil,Option.pure_def,Option.bind_eq_bind,Option.bind_some,xBS,xBE,xDr,xEs,Nat.reduceBEq,xCq,List.length_append,List.append_assoc,xAs,xBm,xC9,xDM,xAB,xKC,h1]
          · simpa using h2
          · have hj := (List.getElem?_eq_some_iff.1 q2).1
            exact h3 j x (fun n es e => by cases e; omega) (by rw [List.append_assoc,List.getElem?_append_left hj]; exact q2)
        · have hk := (List.getElem?_eq_some_iff.1 e1).1
          obtain ⟨T',sv',h1,h2,h3⟩ := xJ3 (U := U) (z := z) (k0 := k0) (o1 := o1) (o2 := o2) hl hq d (i + 1) (T.set k .dead ++ [.cells false false (xEU (n.ed.getD i e0))] ++ [.cells false false (edges (l ++ [ne]))]) (.own false (T.length + 1 + 1 + 1 + 1) 0 (l ++ [ne]).length 4) (l ++ [ne]) (by omega) (by simp at hll ⊢; omega)
            (.inr ⟨T.length + 1,rfl,by simp,by rw [xAd]⟩)
          refine ⟨T',sv',?_,?_,fun j x q1 q2 => ?_⟩
          · have hll2 : (l ++ [ne]).length = l.length + 1 := by simp
            have hg : ∀ X : Heap,(T ++ X)[k]? = some (.cells false false (edges l)) := fun X => by rw [List.getElem?_append_left hk]; exact e1
            have hs : ∀ X : Heap,(T ++ X).set k .dead = T.set k .dead ++ X := fun X => by rw [List.set_append_left _ _ hk]
            simp only [List.append_assoc,List.cons_append,List.nil_append,hone,hll2,xEU] at h1
            rw [xM6]
            simp (maxSteps := 30000000) (disch := first | assumption | omega | (simp only [List.length_cons,List.length_nil,List.length_append,List.length_set,List.length_replicate,List.length_map,List.length_range,List.length_take,List.length_drop,List.all_cons,List.all_nil,AV.isCell,Bool.and_self,Bool.and_true,xAj,xAc,xAg,xAb,xAd] <;> omega) | rfl | decide) only [xIZ,xAr,xAh,xAe,xAm,xAK,opv,List.getD_cons_succ,List.getD_cons_zero,xAN,hlt,decide_true,xAn,xAq,List.set_cons_succ,List.set_cons_zero,xAl,xAi,xAk,xAf,xAv,xAo,xAw,xAD,if_true,xAu,xAT,xAY,Int.toNat_natCast,xAF,xBl,xBg,xBt,xBv,AV.cells,List.all_cons,AV.isCell,List.all_nil,Bool.and_self,List.length_cons,List.cons_append,xA6,List.length_nil,Nat.zero_add,Nat.reduceAdd,xBK,List.getElem?_cons_succ,xEE,List.getElem?_cons_zero,xAX,splice,List.take_zero,List.nil_append,List.drop_succ_cons,List.drop_nil,List.append_nil,xEP,xAG,xBj,xAE,xAS,xAA,Nat.add_zero,xA7,xAy,List.drop_zero,List.take_succ_cons,xAM,xBa,List.map_cons,List.map_nil,hna,xDv,xB8,hnb,xAP,xAI,xBk,xBq,xAQ,List.take_nil,xBR,beq_self_eq_true,fillA,Nat.reduceLeDiff,and_self,Nat.le_refl,Option.map_some,xBs,xDw,Nat.reduceMul,xBr,xBT,frzN,List.flatMap_cons,xA4,List.flatMap_nil,List.isEmpty_nil,List.mapM_cons,xAO,List.mapM_nil,Option.pure_def,Option.bind_eq_bind,Option.bind_some,xBS,xBE,xDr,xDW,hg,xCF,Nat.reduceBEq,List.length_append,hs,hcut,hsn,List.append_assoc,xAs,xBm,xC9,xDM,xAB,xKC,h1]
          · simpa using h2
          · have hj := (List.getElem?_eq_some_iff.1 q2).1
            have hjk : j ≠ k := by
              rintro rfl
              exact q1 _ _ rfl
            exact h3 j x (fun n es e => by cases e; omega) (by rw [List.append_assoc,List.getElem?_append_left (by simpa using hj),List.getElem?_set_ne (fun e => hjk e.symm)]; exact q2)
def isT : Option AV → Bool
  | some (.bool true) => true
  | _ => false
theorem xYz {o : Option AV} (h : isT o = true) : o = some (.bool true) := by
  unfold isT at h
  split at h
  · rfl
  · cases h
set_option maxRecDepth 100000 in
theorem xTR : isT ((fix xAV 100).pcall 7 []) = true := by kernel_rfl
theorem xVj : (lim xAV).pcall 7 [] = some (.bool true) := xWo 100 (xYz xTR)
theorem xTS {n : Aut} (h : Valid n) (z : Bool) : Valid (xXw n z) := by
  refine ⟨h.v0,h.v6,h.s0,h.s64,by simpa [xXw] using h.el,h.fi,h.st,?_⟩
  have : ∀ (l : List Ed),xEf n.states n.vars.toNat (l.map xEg) = xEf n.states n.vars.toNat l := by
    intro l
    induction l with
    | nil => rfl
    | cons e l ih =>
      have : xE8 n.states n.vars.toNat (xEg e) = xE8 n.states n.vars.toNat e := by
        unfold xE8 xEg
        simp only [Int.min_comm e.b,Int.max_comm e.b]
      show (if xE8 n.states n.vars.toNat (xEg e) = 0 then _ else _) = (if xE8 n.states n.vars.toNat e = 0 then _ else _)
      rw [this,ih]
  show xEf n.states n.vars.toNat (n.ed.map xEg) = 0
  rw [this]
  exact h.ed
theorem xVk {n : Aut} (h : Fits n) (z : Bool) : Fits (xXw n z) := by
  refine ⟨h.l2,h.l1,by simpa [xXw] using h.l3,fun e he => ?_⟩
  simp only [xXw,List.mem_map] at he
  obtain ⟨e',he',rfl⟩ := he
  exact h.by_ e' he'
def Clo (ed : List Ed) (U : Nat → Bool) : Prop := ∀ e ∈ ed,U e.a.toNat = true → U e.b.toNat = true
def Sub (S U : Nat → Bool) : Prop := ∀ j,S j = true → U j = true
def cnt (S : Nat → Bool) : Nat → Nat
  | 0 => 0
  | n + 1 => cnt S n + (if S n = true then 0 else 1)
theorem xWh {S U : Nat → Bool} (h : Sub S U) : ∀ n,cnt U n ≤ cnt S n
  | 0 => Nat.le_refl _
  | n + 1 => by
    have := xWh h n
    unfold cnt
    by_cases hs : S n = true
    · rw [if_pos hs,if_pos (h n hs)]; omega
    · rw [if_neg hs]; split <;> omega
theorem xWi {S U : Nat → Bool} (h : Sub S U) {j : Nat} (h1 : U j = true) (h2 : S j = false) : ∀ n,j < n → cnt U n < cnt S n
  | 0,hj => by omega
  | n + 1,hj => by
    unfold cnt
    rcases Nat.lt_or_ge j n with q | q
    · have := xWi h h1 h2 n q
      by_cases hs : S n = true
      · rw [if_pos hs,if_pos (h n hs)]; omega
      · rw [if_neg hs]; split <;> omega
    · obtain rfl : j = n := by omega
      have := xWh h j
      rw [if_pos h1,if_neg (by rw [h2]; exact Bool.noConfusion)]
      omega
abbrev Hc (z : Bool) (l : List Ed) (sS : AV) (T : Heap) : Heap := .cells false false [sS] :: .cells false false [.sl z l.length (edges l)] :: T
theorem xG0 {z : Bool} {l : List Ed} (hl : l.length < 1099511627776) (hb : xVi l) : ∀ d i zs ls S b T,i + d = l.length → HasSet (sw zs ls) S →
    ∃ zs' ls' S' b' T',L.loop xNk xUN ⟨xNl (.ptr 0 0) (.bool b) (.sl z l.length (edges l)) (.int .i64 (l.length : Nat)) (.int .i64 (i : Nat)),Hc z l (sw zs ls) T⟩ =
      some (.exit 0,⟨xNl (.ptr 0 0) (.bool b') (.sl z l.length (edges l)) (.int .i64 (l.length : Nat)) (.int .i64 (l.length : Nat)),Hc z l (sw zs' ls') T'⟩) ∧
      HasSet (sw zs' ls') S' ∧ Sub S S' ∧ (∀ U,Clo l U → Sub S U → Sub S' U) ∧
      (b' = false → b = false ∧ (∀ j,S' j = S j) ∧ ∀ e ∈ l.drop i,S e.a.toNat = true → S e.b.toNat = true) ∧
      (b' = true → b = true ∨ ∃ j,S' j = true ∧ S j = false)
  | 0,i,zs,ls,S,b,T,h,hS => by
    obtain rfl : i = l.length := by omega
    refine ⟨zs,ls,S,b,T,?_,hS,fun j hj => hj,fun U _ h => h,fun hb => ⟨hb,fun _ => rfl,fun e he => ?_⟩,fun h => .inl h⟩
    · rw [xPP]
      simp (maxSteps := 30000000) (disch := first | assumption | omega | (simp only [List.length_cons,List.length_nil,List.length_append,List.length_set,List.length_replicate,List.length_map,List.length_range,List.length_take,List.length_drop,List.all_cons,List.all_nil,AV.isCell,Bool.and_self,Bool.and_true,xAj,xAc,xAg,xAb,xAd] <;> omega) | rfl | decide) only [xKM,xAr,xAh,xAe,xAm,xAK,opv,List.getD_cons_succ,List.getD_cons_zero,xAN,Int.lt_irrefl,decide_false,xAn,xAq,List.set_cons_succ,List.set_cons_zero,xAl,xAi,xAk,xAf,xAv,xAo,Bool.false_eq_true,xAw,xAD,if_false,xBp,xBe,xNm]
    · rw [List.drop_length] at he
      simp at he
  | d + 1,i,zs,ls,S,b,T,h,hS => by
    have hlt : (i : Int) < (l.length : Nat) := by omega
    have hmem := xGZ (by omega : i < l.length)
    have hm := hb _ hmem
    have ha := xMi hS (l.getD i e0).a hm.1.1 hm.1.2
    have hbb := xMi hS (l.getD i e0).b hm.2.1.1 hm.2.1.2
    cases ca : S (l.getD i e0).a.toNat with
    | false =>
      rw [ca] at ha
      obtain ⟨z1,l1,S1,b1,T1,g1,g2,g3,g4,g5,g6⟩ := xG0 (z := z) hl hb d (i + 1) zs ls S b (T ++ [.cells false false (xEU (l.getD i e0))]) (by omega) hS
      refine ⟨z1,l1,S1,b1,T1,?_,g2,g3,g4,fun hf => ⟨(g5 hf).1,(g5 hf).2.1,fun e he => ?_⟩,g6⟩
      · simp only [xEU] at g1
        rw [xPP]
        simp (maxSteps := 30000000) (disch := first | assumption | omega | (simp only [List.length_cons,List.length_nil,List.length_append,List.length_set,List.length_replicate,List.length_map,List.length_range,List.length_take,List.length_drop,List.all_cons,List.all_nil,AV.isCell,Bool.and_self,Bool.and_true,xAj,xAc,xAg,xAb,xAd] <;> omega) | rfl | decide) only [xKM,xAr,xAh,xAe,xAm,xAK,opv,List.getD_cons_succ,List.getD_cons_zero,xAN,hlt,decide_true,xAn,xAq,List.set_cons_succ,List.set_cons_zero,xAl,xAi,xAk,xAf,xAv,xAo,xAw,xAD,if_true,xAu,xAT,xAY,Int.toNat_natCast,xAF,xBl,xBg,xBt,xBv,AV.cells,List.all_cons,AV.isCell,List.all_nil,Bool.and_self,List.length_cons,List.cons_append,xA6,List.length_nil,Nat.zero_add,Nat.reduceAdd,xBK,List.getElem?_cons_succ,xEE,List.getElem?_cons_zero,xAX,splice,List.take_zero,List.nil_append,List.drop_succ_cons,List.drop_nil,List.append_nil,xEP,xAG,xBj,xA7,xAy,List.drop_zero,List.take_succ_cons,List.take_nil,xAM,xAS,xAA,Nat.add_zero,xBn,List.map_cons,List.map_nil,xA0,frzN,List.mapM_cons,xBZ,xAO,List.mapM_nil,Option.pure_def,Option.bind_eq_bind,Option.bind_some,xAZ,ha,xA2,xC6,xBQ,fzIds,List.flatMap_cons,xCx,xA4,List.flatMap_nil,List.foldl_nil,ite_self,xAE,xAP,xAI,Bool.false_eq_true,xBk,if_false,xCw,Option.map_some,xJk,xBq,xAQ,xAs,xBm,xC9,xDM,xAB,xNm,g1]
      · rw [xEV (by omega : i < l.length)] at he
        rcases List.mem_cons.1 he with rfl | he
        · intro hh; rw [ca] at hh; cases hh
        · exact (g5 hf).2.2 e he
    | true =>
      rw [ca] at ha
      cases cb : S (l.getD i e0).b.toNat with
      | true =>
        rw [cb] at hbb
        obtain ⟨z1,l1,S1,b1,T1,g1,g2,g3,g4,g5,g6⟩ := xG0 (z := z) hl hb d (i + 1) zs ls S b (T ++ [.cells false false (xEU (l.getD i e0))]) (by omega) hS
        refine ⟨z1,l1,S1,b1,T1,?_,g2,g3,g4,fun hf => ⟨(g5 hf).1,(g5 hf).2.1,fun e he => ?_⟩,g6⟩
        · simp only [xEU] at g1
          rw [xPP]
          simp (maxSteps := 30000000) (disch := first | assumption | omega | (simp only [List.length_cons,List.length_nil,List.length_append,List.length_set,List.length_replicate,List.length_map,List.length_range,List.length_take,List.length_drop,List.all_cons,List.all_nil,AV.isCell,Bool.and_self,Bool.and_true,xAj,xAc,xAg,xAb,xAd] <;> omega) | rfl | decide) only [xKM,xAr,xAh,xAe,xAm,xAK,opv,List.getD_cons_succ,List.getD_cons_zero,xAN,hlt,decide_true,xAn,xAq,List.set_cons_succ,List.set_cons_zero,xAl,xAi,xAk,xAf,xAv,xAo,xAw,xAD,if_true,xAu,xAT,xAY,Int.toNat_natCast,xAF,xBl,xBg,xBt,xBv,AV.cells,List.all_cons,AV.isCell,List.all_nil,Bool.and_self,List.length_cons,List.cons_append,xA6,List.length_nil,Nat.zero_add,Nat.reduceAdd,xBK,List.getElem?_cons_succ,xEE,List.getElem?_cons_zero,xAX,splice,List.take_zero,List.nil_append,List.drop_succ_cons,List.drop_nil,List.append_nil,xEP,xAG,xBj,xA7,xAy,List.drop_zero,List.take_succ_cons,List.take_nil,xAM,xAS,xAA,Nat.add_zero,xBn,List.map_cons,List.map_nil,xA0,frzN,List.mapM_cons,xBZ,xAO,List.mapM_nil,Option.pure_def,Option.bind_eq_bind,Option.bind_some,xAZ,ha,xA2,xC6,xBQ,fzIds,List.flatMap_cons,xCx,xA4,List.flatMap_nil,List.foldl_nil,ite_self,xAE,xAP,xAI,xBk,hbb,xJk,xJl,Bool.not_true,xBq,xAQ,Bool.false_eq_true,if_false,xAs,xBm,xC9,xDM,xAB,xNm,g1]
        · rw [xEV (by omega : i < l.length)] at he
          rcases List.mem_cons.1 he with rfl | he
          · intro _; exact cb
          · exact (g5 hf).2.2 e he
      | false =>
        rw [cb] at hbb
        obtain ⟨z',l',hw,hw2⟩ := xJ8 hS (l.getD i e0).b hm.2.1.1 hm.2.1.2
        obtain ⟨z1,l1,S1,b1,T1,g1,g2,g3,g4,g5,g6⟩ := xG0 (z := z) hl hb d (i + 1) z' l' _ true (T ++ [.cells false false (xEU (l.getD i e0))]) (by omega) hw2
        have hs1 : Sub S S1 := fun j hj => g3 j (by simp [hj])
        refine ⟨z1,l1,S1,b1,T1,?_,g2,hs1,fun U hU hSU => g4 U hU (fun j hj => ?_),fun hf => Bool.noConfusion (g5 hf).1,fun _ => .inr ⟨(l.getD i e0).b.toNat,g3 _ (by simp),cb⟩⟩
        · simp only [xEU] at g1
          rw [xPP]
          simp (maxSteps := 30000000) (disch := first | assumption | omega | (simp only [List.length_cons,List.length_nil,List.length_append,List.length_set,List.length_replicate,List.length_map,List.length_range,List.length_take,List.length_drop,List.all_cons,List.all_nil,AV.isCell,Bool.and_self,Bool.and_true,xAj,xAc,xAg,xAb,xAd] <;> omega) | rfl | decide) only [xKM,xAr,xAh,xAe,xAm,xAK,opv,List.getD_cons_succ,List.getD_cons_zero,xAN,hlt,decide_true,xAn,xAq,List.set_cons_succ,List.set_cons_zero,xAl,xAi,xAk,xAf,xAv,xAo,xAw,xAD,if_true,xAu,xAT,xAY,Int.toNat_natCast,xAF,xBl,xBg,xBt,xBv,AV.cells,List.all_cons,AV.isCell,List.all_nil,Bool.and_self,List.length_cons,List.cons_append,xA6,List.length_nil,Nat.zero_add,Nat.reduceAdd,xBK,List.getElem?_cons_succ,xEE,List.getElem?_cons_zero,xAX,splice,List.take_zero,List.nil_append,List.drop_succ_cons,List.drop_nil,List.append_nil,xEP,xAG,xBj,xA7,xAy,List.drop_zero,List.take_succ_cons,List.take_nil,xAM,xAS,xAA,Nat.add_zero,xBn,List.map_cons,List.map_nil,xA0,frzN,List.mapM_cons,xBZ,xAO,List.mapM_nil,Option.pure_def,Option.bind_eq_bind,Option.bind_some,xAZ,ha,xA2,xC6,xBQ,fzIds,List.flatMap_cons,xCx,xA4,List.flatMap_nil,List.foldl_nil,ite_self,xAE,xAP,xAI,xBk,hbb,xJk,xJl,Bool.not_false,xBq,xAQ,hw,Bool.false_eq_true,xAs,xBm,xC9,xDM,xAB,xNm,g1]
        · have hj' : (S j || decide (j = (l.getD i e0).b.toNat)) = true := hj
          rw [Bool.or_eq_true] at hj'
          rcases hj' with q | q
          · exact hSU j q
          · rw [of_decide_eq_true q]
            exact hU _ hmem (hSU _ ca)
theorem yAy {z : Bool} {l : List Ed} (hl : l.length < 1099511627776) (hb : xVi l) (zs : Bool) (ls : List Nat) (S : Nat → Bool) (T : Heap) (hS : HasSet (sw zs ls) S) :
    ∃ zs' ls' S' b' T',L.icall (.func 66 [.ptr 1 0,.ptr 0 0]) [] (Hc z l (sw zs ls) T) = some (.bool b',Hc z l (sw zs' ls') T') ∧
      HasSet (sw zs' ls') S' ∧ Sub S S' ∧ (∀ U,Clo l U → Sub S U → Sub S' U) ∧ (b' = false → (∀ j,S' j = S j) ∧ Clo l S) ∧ (b' = true → ∃ j,S' j = true ∧ S j = false) := by
  obtain ⟨z1,l1,S1,b1,T1,g1,g2,g3,g4,g5,g6⟩ := xG0 (z := z) hl hb l.length 0 zs ls S false T (by omega) hS
  simp only [Int.natCast_zero] at g1
  refine ⟨z1,l1,S1,b1,T1,?_,g2,g3,g4,fun h => ⟨(g5 h).2.1,(g5 h).2.2⟩,fun h => (g6 h).resolve_left Bool.noConfusion⟩
  rw [yAb,a66]
  simp (maxSteps := 30000000) (disch := first | assumption | omega | (simp only [List.length_cons,List.length_nil,List.length_append,List.length_set,List.length_replicate,List.length_map,List.length_range,List.length_take,List.length_drop,List.all_cons,List.all_nil,AV.isCell,Bool.and_self,Bool.and_true,xAj,xAc,xAg,xAb,xAd] <;> omega) | rfl | decide) only [List.nil_append,xAC,List.length_cons,List.length_nil,Nat.zero_add,Nat.reduceAdd,Nat.reduceSub,pads,List.cons_append,xAr,xAh,xAe,xAm,xAE,opv,xAq,List.set_cons_succ,List.set_cons_zero,xAl,xAi,xAk,xAf,xAF,List.getD_cons_zero,xA7,List.getElem?_cons_succ,List.getElem?_cons_zero,xAy,List.drop_zero,List.take_succ_cons,List.take_nil,xAM,xAn,xBO,List.getD_cons_succ,xBC,xAu,xBw,xNm,g1,xBc,if_true,xAH,xAz,xAJ,xAU,xAt]
theorem xVl {z : Bool} {l : List Ed} (hl : l.length < 1099511627776) (hb : xVi l) : ∀ m,∀ zs ls S T,cnt S 4096 < m → HasSet (sw zs ls) S →
    ∃ zs' ls' S' T',L.loop xNf xUJ ⟨xNg (.ptr 0 0) (.func 66 [.ptr 1 0,.ptr 0 0]),Hc z l (sw zs ls) T⟩ =
      some (.exit 0,⟨xNg (.ptr 0 0) (.func 66 [.ptr 1 0,.ptr 0 0]),Hc z l (sw zs' ls') T'⟩) ∧ HasSet (sw zs' ls') S' ∧ Sub S S' ∧ Clo l S' ∧ (∀ U,Clo l U → Sub S U → Sub S' U) := by
  intro m
  induction m with
  | zero => intro zs ls S T h; omega
  | succ m ih =>
    intro zs ls S T h hS
    obtain ⟨z1,l1,S1,b1,T1,g1,g2,g3,g4,g5,g6⟩ := yAy (z := z) hl hb zs ls S T hS
    cases b1 with
    | false =>
      obtain ⟨k1,k2⟩ := g5 rfl
      refine ⟨z1,l1,S1,T1,?_,g2,g3,fun e he q => ?_,g4⟩
      · rw [xVE]
        simp (maxSteps := 30000000) (disch := first | assumption | omega | (simp only [List.length_cons,List.length_nil,List.length_append,List.length_set,List.length_replicate,List.length_map,List.length_range,List.length_take,List.length_drop,List.all_cons,List.all_nil,AV.isCell,Bool.and_self,Bool.and_true,xAj,xAc,xAg,xAb,xAd] <;> omega) | rfl | decide) only [xPI,xAr,xAh,xAe,xAm,xAE,opv,List.getD_cons_succ,List.getD_cons_zero,xAq,List.set_cons_succ,List.set_cons_zero,xAl,xBa,List.map_nil,g1,xAi,xAk,xAf,xAv,xAo,Bool.false_eq_true,xAw,xAD,if_false,xBp,xBe,xSy]
      · rw [k1] at q ⊢; exact k2 e he q
    | true =>
      obtain ⟨j,k1,k2⟩ := g6 rfl
      have hj : j < 4096 := by
        rcases Nat.lt_or_ge j 4096 with q | q
        · exact q
        · rw [g2.out q] at k1; cases k1
      have := xWi g3 k1 k2 4096 hj
      obtain ⟨z2,l2,S2,T2,q1,q2,q3,q4,q5⟩ := ih z1 l1 S1 T1 (by omega) g2
      refine ⟨z2,l2,S2,T2,?_,q2,fun j hj => q3 j (g3 j hj),q4,fun U hU hs => q5 U hU (g4 U hU hs)⟩
      rw [xVE]
      simp (maxSteps := 30000000) (disch := first | assumption | omega | (simp only [List.length_cons,List.length_nil,List.length_append,List.length_set,List.length_replicate,List.length_map,List.length_range,List.length_take,List.length_drop,List.all_cons,List.all_nil,AV.isCell,Bool.and_self,Bool.and_true,xAj,xAc,xAg,xAb,xAd] <;> omega) | rfl | decide) only [xPI,xAr,xAh,xAe,xAm,xAE,opv,List.getD_cons_succ,List.getD_cons_zero,xAq,List.set_cons_succ,List.set_cons_zero,xAl,xBa,List.map_nil,g1,xAi,xAk,xAf,xAv,xAo,xAw,xAD,if_true,xAu,xAs,xAB,xSy,q1]
theorem xRy {z zs : Bool} {l : List Ed} {ls : List Nat} {S : Nat → Bool} (hl : l.length < 1099511627776) (hb : xVi l) (hS : HasSet (sw zs ls) S) :
    ∃ z' r C,L.pcall 42 [sw zs ls,.sl z l.length (edges l)] = some (sw z' r) ∧ HasSet (sw z' r) C ∧ Sub S C ∧ Clo l C ∧ (∀ U,Clo l U → Sub S U → Sub C U) := by
  obtain ⟨z2,l2,S2,T2,q1,q2⟩ := xVl (z := z) hl hb (cnt S 4096 + 1) zs ls S [] (by omega) hS
  refine ⟨z2,l2,S2,?_,q2⟩
  rw [xZX,a42,xAL]
  simp (maxSteps := 30000000) (disch := first | assumption | omega | (simp only [List.length_cons,List.length_nil,List.length_append,List.length_set,List.length_replicate,List.length_map,List.length_range,List.length_take,List.length_drop,List.all_cons,List.all_nil,AV.isCell,Bool.and_self,Bool.and_true,xAj,xAc,xAg,xAb,xAd] <;> omega) | rfl | decide) only [xAC,List.length_cons,List.length_nil,Nat.zero_add,Nat.reduceAdd,Nat.reduceSub,pads,List.cons_append,List.nil_append,xAr,xAh,xAe,xAm,xBv,AV.cells,opv,List.getD_cons_zero,List.all_cons,AV.isCell,List.all_nil,Bool.and_self,if_true,xAq,List.set_cons_succ,List.set_cons_zero,xAl,List.getD_cons_succ,xAE,xAi,xAk,xAf,xB4,List.map_cons,List.map_nil,xAu,xBw,xSy,q1,xBc,xAF,xA7,List.getElem?_cons_zero,xAy,List.drop_zero,List.take_succ_cons,List.take_nil,xAM,xAn,xAH,xAz,xAJ,xAU,xAt,xAx,frzN,xBZ]
def Rea (n : Aut) (C : Nat → Bool) : Prop := Sub (inS n.st) C ∧ Clo n.ed C ∧ ∀ U,Clo n.ed U → Sub (inS n.st) U → Sub C U
theorem xOn (n : Aut) (hf : Fits n) (h1 : L.pcall 26 [n.av] = some (.int .i64 0)) (hv : Valid n) : ∃ z r C,L.pcall 15 [n.av] = some (.tup [sw z r,.int .i64 0]) ∧ HasSet (sw z r) C ∧ Rea n C := by
  obtain ⟨z1,r1,h3,h4⟩ := xT4 (z := n.z1) hf.l1 hv.stOk
  obtain ⟨z2,r2,C,h5,h6,h7⟩ := xRy (z := n.z3) hf.l3 (hv.edOk hf) h4
  refine ⟨z2,r2,C,?_,h6,h7⟩
  rw [xZU,a15,xAL]
  simp (maxSteps := 30000000) (disch := first | assumption | omega | (simp only [List.length_cons,List.length_nil,List.length_append,List.length_set,List.length_replicate,List.length_map,List.length_range,List.length_take,List.length_drop,List.all_cons,List.all_nil,AV.isCell,Bool.and_self,Bool.and_true,xAj,xAc,xAg,xAb,xAd] <;> omega) | rfl | decide) only [xAC,List.length_cons,List.length_nil,Nat.zero_add,Nat.reduceSub,pads,List.cons_append,List.nil_append,xAr,xAh,xAe,xAm,xBv,AV.cells,opv,List.getD_cons_zero,List.all_cons,AV.isCell,List.all_nil,Bool.and_self,if_true,xAq,List.set_cons_succ,List.set_cons_zero,xAl,xAE,xAi,xAk,xAf,xAF,List.getD_cons_succ,xA7,List.getElem?_cons_zero,xAy,List.drop_zero,List.take_succ_cons,List.take_nil,xBt,xAn,xBn,List.map_cons,List.map_nil,xA0,frzN,List.mapM_cons,xCk,xAO,xBZ,List.mapM_nil,Option.pure_def,Option.bind_eq_bind,Option.bind_some,Option.map_some,xAZ,h1,xA2,xC6,xBQ,fzIds,List.flatMap_cons,xCl,xA4,xCx,List.flatMap_nil,List.append_nil,List.foldl_nil,ite_self,xAK,xCu,decide_true,Bool.not_true,xAv,xAo,Bool.false_eq_true,xAH,xAw,if_false,xE6,List.take_zero,xCC,xDh,xEu,xAS,xAA,xDP,xEr,xDg,xFK,List.drop_succ_cons,xAM,xJr,h3,xEb,quietCall,List.isEmpty_nil,Bool.or_true,xCQ,xDC,adopt,xBu,h5,xAz,xBW,xBV,xAU,xBU,xB9,xAt,xAx,xCw]
theorem xVm (n m : Aut) {z : Bool} {r : List Nat} (h1 : L.pcall 18 [n.av] = some (.tup [m.av,.int .i64 0])) (h2 : L.pcall 15 [m.av] = some (.tup [sw z r,.int .i64 0])) : L.pcall 16 [n.av] = some (.tup [sw z r,.int .i64 0]) := by
  rw [xZV,a16,xAL]
  simp (maxSteps := 30000000) (disch := first | assumption | omega | (simp only [List.length_cons,List.length_nil,List.length_append,List.length_set,List.length_replicate,List.length_map,List.length_range,List.length_take,List.length_drop,List.all_cons,List.all_nil,AV.isCell,Bool.and_self,Bool.and_true,xAj,xAc,xAg,xAb,xAd] <;> omega) | rfl | decide) only [xAC,List.length_cons,List.length_nil,Nat.zero_add,Nat.reduceSub,pads,List.cons_append,List.nil_append,xAr,xAh,xAe,xAm,xBv,AV.cells,opv,List.getD_cons_zero,List.all_cons,AV.isCell,List.all_nil,Bool.and_self,if_true,xAq,List.set_cons_succ,List.set_cons_zero,xAl,xAE,xAi,xAk,xAf,xAF,List.getD_cons_succ,xA7,List.getElem?_cons_zero,xAy,List.drop_zero,List.take_succ_cons,List.take_nil,xBt,xAn,xBn,List.map_cons,List.map_nil,xA0,frzN,List.mapM_cons,xCk,xAO,xBZ,List.mapM_nil,Option.pure_def,Option.bind_eq_bind,Option.bind_some,Option.map_some,xAZ,h1,xA2,xC6,xBQ,Bool.and_true,Bool.false_eq_true,fzIds,List.flatMap_cons,xCl,xA4,xCx,List.flatMap_nil,List.append_nil,List.foldl_nil,ite_self,xDv,xB8,List.getElem?_cons_succ,xA6,Nat.reduceAdd,xBK,xAX,splice,List.take_zero,List.drop_succ_cons,List.drop_nil,xAG,xBj,xAK,xCu,decide_true,Bool.not_true,xAv,xAo,xAH,xAw,if_false,h2,xAz,xBW,xBV,xAU,xBU,xB9,xAt,xAx,xCw]
theorem Bld.keep {T T' : Heap} {v : AV} {es n : Nat} {cs : List AV} (h : Bld T v es n cs) (hk : ∀ j x,v = .own false (j + 1 + 1 + 1) 0 n es → T[j]? = some x → T'[j]? = some x) : Bld T' v es n cs := by
  rcases h with h | ⟨k,e1,e2,e3⟩
  · exact .inl h
  · exact .inr ⟨k,e1,hk k _ e1 e2,e3⟩
theorem Bld.cell {T : Heap} {v : AV} {es n : Nat} {cs : List AV} (h : Bld T v es n cs) : v.isCell = true := by
  rcases h with ⟨rfl,_⟩ | ⟨k,rfl,_⟩ <;> rfl
theorem Bld.out {T : Heap} {v : AV} {es n : Nat} {cs : List AV} (h : Bld T v es n cs) (hf : ∀ d H,cs.mapM (frz d H) = some cs) : ∃ z,(z = true → n = 0) ∧ ∀ d c0 c1 c2,frz (d + 1) (c0 :: c1 :: c2 :: T) v = some (.sl z n cs) := by
  rcases h with ⟨rfl,rfl,rfl⟩ | ⟨k,rfl,e2,e3⟩
  · exact ⟨true,fun _ => rfl,fun d _ _ _ => rfl⟩
  · refine ⟨false,(fun h => (by cases h)),fun d c0 c1 c2 => ?_⟩
    have e : (c0 :: c1 :: c2 :: T)[k + 1 + 1 + 1]? = some (.cells false false cs) := e2
    have hle : 0 + n * es ≤ cs.length := by omega
    have hcut : List.take (n * es) cs = cs := List.take_of_length_le (by omega)
    simp only [frz,e,if_pos hle,List.drop_zero,hcut,hf,Option.map_some]
def xRz (n : Aut) (U : Nat → Bool) (z1 z2 z3 : Bool) : Aut := ⟨n.vars,(setL U).length,z1,n.st.filterMap (num U),z2,n.fi.filterMap (num U),z3,n.ed.filterMap (xRD U)⟩
theorem xTT {v u : AV} {S T : Nat → Bool} (hv : HasSet v S) (hu : HasSet u T) : ∃ z l,L.pcall 45 [v,u] = some (sw z l) ∧ HasSet (sw z l) (fun j => S j && T j) := by
  obtain ⟨za,a,rfl,wa,la,ha⟩ := id hv
  obtain ⟨zb,b,rfl,wb,lb,hb⟩ := id hu
  obtain ⟨z,H',h⟩ := xPb (za := za) (zb := zb) (g := 71) (op := (· &&& ·)) (fun x y H hx hy => xYA x y H hx hy) wa wb
  refine ⟨z,xDE (· &&& ·) a b,?_,z,_,rfl,xPc (fun x y hx hy => Nat.lt_of_le_of_lt Nat.and_le_left hx) wa wb,by have := xJ6 (· &&& ·) a b; omega,fun j => ?_⟩
  · rw [xZA,a45,xAL]
    simp (maxSteps := 30000000) (disch := first | assumption | omega | (simp only [List.length_cons,List.length_nil,List.length_append,List.length_set,List.length_replicate,List.length_map,List.length_range,List.length_take,List.length_drop,List.all_cons,List.all_nil,AV.isCell,Bool.and_self,Bool.and_true,xAj,xAc,xAg,xAb,xAd] <;> omega) | rfl | decide) only [xAC,List.length_cons,List.length_nil,Nat.zero_add,Nat.reduceAdd,Nat.reduceSub,pads,List.cons_append,List.nil_append,xAr,xAh,xAe,xAm,xAE,opv,xAq,List.set_cons_succ,List.set_cons_zero,xAl,xAi,xAk,xAf,List.getD_cons_zero,List.getD_cons_succ,xBa,List.map_cons,List.map_nil,h,xAH,xAz,xAJ,xAU,xAt,xAx,frzN,xBZ]
  · by_cases hj : j < 4096
    · rw [xMf (f := (· && ·)) a b (by simp) (fun x y i => by simp) j hj,ha,hb]
    · show mem _ j = (S j && T j)
      rw [hv.out (j := j) (by omega),hu.out (j := j) (by omega)]
      simp [mem,hj]
set_option maxHeartbeats 2000000 in
theorem xXx (n : Aut) (hf : Fits n) (hv : Valid n) (l1 : n.st.length < 1000) (l2 : n.fi.length < 1000) {zr zp : Bool} {r p : List Nat} {C D : Nat → Bool} (h1 : L.pcall 15 [n.av] = some (.tup [sw zr r,.int .i64 0])) (hr : HasSet (sw zr r) C) (h2 : L.pcall 16 [n.av] = some (.tup [sw zp p,.int .i64 0])) (hp : HasSet (sw zp p) D) :
    ∃ z1 z2 z3,L.pcall 17 [n.av] = some (.tup [(xRz n (fun j => C j && D j) z1 z2 z3).av,.int .i64 0]) ∧ (z1 = true → (xRz n (fun j => C j && D j) z1 z2 z3).st = []) ∧ (z2 = true → (xRz n (fun j => C j && D j) z1 z2 z3).fi = []) ∧ (z3 = true → (xRz n (fun j => C j && D j) z1 z2 z3).ed = []) := by
  obtain ⟨zi,li,h3,h4⟩ := xTT hr hp
  have h5 := xVr h4
  have hlen := xMj (fun j => C j && D j)
  unfold xRz
  generalize hU : (fun j => C j && D j) = U at *
  generalize decide ((setL U).length = 0) = z at *
  have hel := hv.el
  obtain ⟨T1,sv,k1,b1,m1⟩ := xMd (n := n) (U := U) (z := z) (k0 := (setL U).length) (o1 := .sl true 0 []) (o2 := .sl true 0 []) l1 hv.stOk n.st.length 0 [] (.sl true 0 []) [] (by omega) (by simp; omega) (.inl ⟨rfl,rfl,rfl⟩)
  obtain ⟨T2,fv,k2,b2,m2⟩ := xMe (n := n) (U := U) (z := z) (k0 := (setL U).length) (o1 := sv) (o2 := .sl true 0 []) l2 hv.fiOk n.fi.length 0 T1 (.sl true 0 []) [] (by omega) (by simp; omega) (.inl ⟨rfl,rfl,rfl⟩)
  obtain ⟨T3,ev,k3,b3,m3⟩ := xJ3 (n := n) (U := U) (z := z) (k0 := (setL U).length) (o1 := sv) (o2 := fv) (by omega) (fun e he => ⟨(hv.edOk hf e he).1,(hv.edOk hf e he).2.1⟩) n.ed.length 0 T2 (.sl true 0 []) [] (by omega) (by simp; omega) (.inl ⟨rfl,rfl,rfl⟩)
  have nn : ∀ j,Not (.sl true 0 []) j := fun j n es e => by cases e
  have b1' := (b1.keep (T' := T2) fun j x _ q => (m2 j x (nn j) q).1).keep (T' := T3) fun j x _ q => (m3 j x (nn j) q).1
  have b2' := b2.keep (T' := T3) fun j x _ q => (m3 j x (nn j) q).1
  have c1 := b1'.cell
  have c2 := b2'.cell
  have c3 := b3.cell
  obtain ⟨z1,y1,f1⟩ := b1'.out (fun d H => xEv d H _)
  obtain ⟨z2,y2,f2⟩ := b2'.out (fun d H => xEv d H _)
  obtain ⟨z3,y3,f3⟩ := b3.out (fun d H => xBG d H _)
  simp only [List.drop_zero,List.nil_append,Int.natCast_zero] at k1 k2 k3 f1 f2 f3 y1 y2 y3
  refine ⟨z1,z2,z3,?_,fun h => List.length_eq_zero_iff.1 (y1 h),fun h => List.length_eq_zero_iff.1 (y2 h),fun h => List.length_eq_zero_iff.1 (y3 h)⟩
  have hall : ([.int .i64 n.vars,.int .i64 ((setL U).length : Nat),sv,fv,ev] : List AV).all AV.isCell = true := by simp only [List.all_cons,List.all_nil,c1,c2,c3]; rfl
  rw [xZW,a17,xAL]
  simp (maxSteps := 30000000) (disch := first | assumption | omega | (simp only [List.length_cons,List.length_nil,List.length_append,List.length_set,List.length_replicate,List.length_map,List.length_range,List.length_take,List.length_drop,List.all_cons,List.all_nil,AV.isCell,Bool.and_self,Bool.and_true,xAj,xAc,xAg,xAb,xAd] <;> omega) | rfl | decide) only [xAC,List.length_cons,List.length_nil,Nat.zero_add,Nat.reduceSub,pads,List.cons_append,List.nil_append,xAr,xAh,xAe,xAm,xBv,AV.cells,opv,List.getD_cons_zero,List.all_cons,AV.isCell,List.all_nil,Bool.and_self,if_true,xAq,List.set_cons_succ,List.set_cons_zero,xAl,xAE,xAi,xAk,xAf,xAF,List.getD_cons_succ,xA7,List.getElem?_cons_zero,xAy,List.drop_zero,List.take_succ_cons,List.take_nil,xBt,xAn,xBn,List.map_cons,List.map_nil,xA0,frzN,List.mapM_cons,xCk,xAO,xBZ,List.mapM_nil,Option.pure_def,Option.bind_eq_bind,Option.bind_some,Option.map_some,xAZ,h1,xA2,xC6,xBQ,Bool.and_true,Bool.false_eq_true,fzIds,List.flatMap_cons,xCl,xA4,xCx,List.flatMap_nil,List.append_nil,List.foldl_nil,ite_self,xDv,xB8,List.getElem?_cons_succ,xAK,xCu,decide_true,Bool.not_true,xAv,xAo,xBR,fillA,xA6,Nat.reduceAdd,xBK,xAX,splice,List.take_zero,List.drop_succ_cons,List.drop_nil,xAG,xBj,xAH,xAw,if_false,h2,h3,h5,xB4,xJa,xCC,xDh,xEu,xAS,xAA,Nat.add_zero,xDP,xEr,xDg,xFK,xAM,xTe,xBO,xBC,xCQ,xGj,adopt,xBu,xGk,apart,xH6,bne,Nat.reduceBEq,Bool.not_false,Nat.reduceLeDiff,decide_false,Bool.or_false,xAu,xBw,xM0,k1,xBc,xM3,k2,xKC,k3,xAz,xBW,xBV,xDX,xCZ,xRl,xBU,xAU,xB9,xAt,xAx,xCw,f1,f2,f3]
end Go.Abs.NfaD
