/- The reference's Check. -/
import Derived.Test.YtdkbhidfiplncaaAMB
import Derived.Test.YtdkbhidfiplncaaAMC
import Derived.Test.YtdkbhidfiplncaaAGL
import Derived.Test.YtdkbhidfiplncaaAMR
namespace Go.Abs.Det
open Go Go.Abs
set_option linter.unusedSimpArgs false
set_option linter.unusedVariables false

theorem xHw {s : Int} {z : Bool} {l : List Int} {s4 : AV} (hl : l.length < 1099511627776) : ∀ d i last,i + d = l.length → (i = 0 ∧ last = -1 ∨ 0 < i ∧ last = l.getD (i - 1) 0 ∧ 0 ≤ last) →
    ∃ i' : Nat,L.loop xIB xOL ⟨xHe (iw z l) (.int .i64 s) s4 (.int .i64 (i : Nat)),[]⟩ =
      some (if xHR s last (l.drop i) = true then (.exit 0,⟨xHe (iw z l) (.int .i64 s) s4 (.int .i64 (l.length : Nat)),[]⟩)
        else (.ret,⟨xHe (iw z l) (.int .i64 s) (.int .i64 8) (.int .i64 (i' : Nat)),[]⟩))
  | 0,i,last,h,hla => by
    obtain rfl : i = l.length := by omega
    refine ⟨0,?_⟩
    rw [if_pos (by rw [List.drop_length]; rfl),xHf]
    simp (maxSteps := 30000000) (disch := first | assumption | omega | (simp only [List.length_cons,List.length_nil,List.length_append,List.length_set,List.length_replicate,List.length_map,List.length_range,List.length_take,List.length_drop,List.all_cons,List.all_nil,AV.isCell,Bool.and_self,Bool.and_true,xAh,xAb,xAe,xAa,xAo] <;> omega) | rfl | decide) only [xEx,xAq,xAf,xAc,xAk,xAz,opv,List.getD_cons_succ,List.getD_cons_zero,xAr,List.set_cons_succ,List.set_cons_zero,xAi,xA3,xA4,xAm,xAB,xAw,Int.lt_irrefl,decide_false,xAg,xAj,xAd,xAp,xAl,Bool.false_eq_true,↓reduceIte,xBm,xA6,xAX,xEy]
  | d + 1,i,last,h,hla => by
    have hlt : (i : Int) < (l.length : Nat) := by omega
    rw [xDU (by omega : i < l.length)]
    have bad : (l.getD i 0 ≤ last ∨ s ≤ l.getD i 0) → xHR s last (l.getD i 0 :: l.drop (i + 1)) = false := fun h => if_pos h
    by_cases c1 : l.getD i 0 < 0
    · refine ⟨i,?_⟩
      rw [bad (by omega),if_neg (by simp),xHf]
      simp (maxSteps := 30000000) (disch := first | assumption | omega | (simp only [List.length_cons,List.length_nil,List.length_append,List.length_set,List.length_replicate,List.length_map,List.length_range,List.length_take,List.length_drop,List.all_cons,List.all_nil,AV.isCell,Bool.and_self,Bool.and_true,xAh,xAb,xAe,xAa,xAo] <;> omega) | rfl | decide) only [xEx,xAq,xAf,xAc,xAk,xAz,opv,List.getD_cons_succ,List.getD_cons_zero,xAr,List.set_cons_succ,List.set_cons_zero,xAi,xA3,xA4,xAm,xAB,xAw,hlt,decide_true,xAg,xAj,xAd,xAp,xAl,↓reduceIte,xAx,xAs,xBt,List.take_succ_cons,List.take_zero,xAU,xA5,xB4,xBj,xBp,xBd,xBL,xAW,xAY,Int.toNat_natCast,Nat.mul_one,xBE,xAH,xBn,xB1,xBR,xCu,xBW,Nat.add_zero,xAM,xCY,c1,xBC,xBu,Bool.true_eq_false,xCc,xC4,xA9,xAL,xIE,xA2,xBc,List.drop_succ_cons,List.drop_zero,xCf,xBo,xAK,xJV,xAA,xA0,xA8,xBb,xBK,xEy]
    · by_cases c2 : s ≤ l.getD i 0
      · refine ⟨i,?_⟩
        rw [bad (by omega),if_neg (by simp),xHf]
        simp (maxSteps := 30000000) (disch := first | assumption | omega | (simp only [List.length_cons,List.length_nil,List.length_append,List.length_set,List.length_replicate,List.length_map,List.length_range,List.length_take,List.length_drop,List.all_cons,List.all_nil,AV.isCell,Bool.and_self,Bool.and_true,xAh,xAb,xAe,xAa,xAo] <;> omega) | rfl | decide) only [xEx,xAq,xAf,xAc,xAk,xAz,opv,List.getD_cons_succ,List.getD_cons_zero,xAr,List.set_cons_succ,List.set_cons_zero,xAi,xA3,xA4,xAm,xAB,xAw,hlt,decide_true,xAg,xAj,xAd,xAp,xAl,↓reduceIte,xAx,xAs,xBt,List.take_succ_cons,List.take_zero,xAU,xA5,xB4,xBj,xBp,xBd,xBL,xAW,xAY,Int.toNat_natCast,Nat.mul_one,xBE,xAH,xBn,xB1,xBR,xCu,xBW,Nat.add_zero,xAM,xCY,c1,decide_false,xBC,xBu,xCj,c2,xC4,xA9,xAL,Bool.false_eq_true,Bool.true_eq_false,xCc,xIE,xA2,xBc,List.drop_succ_cons,List.drop_zero,xCf,xBo,xAK,xJV,xAA,xA0,xA8,xBb,xBK,xEy]
      · by_cases c3 : i = 0
        · have hla' : last = -1 := by omega
          obtain ⟨i',ih⟩ := xHw (s := s) (z := z) (s4 := s4) hl d (i + 1) (l.getD i 0) (by omega) (.inr ⟨by omega,by rw [Nat.add_sub_cancel],by omega⟩)
          refine ⟨i',?_⟩
          have ea : xHR s last (l.getD i 0 :: l.drop (i + 1)) = xHR s (l.getD i 0) (l.drop (i + 1)) := if_neg (by omega)
          have e3 : ((0 : Int) < (i : Nat)) = False := eq_false (by omega)
          rw [ea,xHf]
          by_cases e : xHR s (l.getD i 0) (l.drop (i + 1)) = true
          · rw [if_pos e] at ih ⊢
            simp (maxSteps := 30000000) (disch := first | assumption | omega | (simp only [List.length_cons,List.length_nil,List.length_append,List.length_set,List.length_replicate,List.length_map,List.length_range,List.length_take,List.length_drop,List.all_cons,List.all_nil,AV.isCell,Bool.and_self,Bool.and_true,xAh,xAb,xAe,xAa,xAo] <;> omega) | rfl | decide) only [xEx,xAq,xAf,xAc,xAk,xAz,opv,List.getD_cons_succ,List.getD_cons_zero,xAr,List.set_cons_succ,List.set_cons_zero,xAi,xA3,xA4,xAm,xAB,xAw,hlt,decide_true,xAg,xAj,xAd,xAp,xAl,↓reduceIte,xAx,xAs,xBt,List.take_succ_cons,List.take_zero,xAU,xA5,xB4,xBj,xBp,xBd,xBL,xAW,xAY,Int.toNat_natCast,Nat.mul_one,xBE,xAH,xBn,xB1,xBR,xCu,xBW,Nat.add_zero,xAM,xCY,c1,decide_false,xBC,xBu,xCj,c2,xC4,xA9,xAL,Bool.false_eq_true,xBS,e3,xCc,xA2,xBc,List.drop_succ_cons,List.drop_zero,xCf,xBo,xAK,xAA,xAt,xBf,xB6,xCQ,xAy,xEy,ih]
          · rw [if_neg e] at ih ⊢
            simp (maxSteps := 30000000) (disch := first | assumption | omega | (simp only [List.length_cons,List.length_nil,List.length_append,List.length_set,List.length_replicate,List.length_map,List.length_range,List.length_take,List.length_drop,List.all_cons,List.all_nil,AV.isCell,Bool.and_self,Bool.and_true,xAh,xAb,xAe,xAa,xAo] <;> omega) | rfl | decide) only [xEx,xAq,xAf,xAc,xAk,xAz,opv,List.getD_cons_succ,List.getD_cons_zero,xAr,List.set_cons_succ,List.set_cons_zero,xAi,xA3,xA4,xAm,xAB,xAw,hlt,decide_true,xAg,xAj,xAd,xAp,xAl,↓reduceIte,xAx,xAs,xBt,List.take_succ_cons,List.take_zero,xAU,xA5,xB4,xBj,xBp,xBd,xBL,xAW,xAY,Int.toNat_natCast,Nat.mul_one,xBE,xAH,xBn,xB1,xBR,xCu,xBW,Nat.add_zero,xAM,xCY,c1,decide_false,xBC,xBu,xCj,c2,xC4,xA9,xAL,Bool.false_eq_true,xBS,e3,xCc,xA2,xBc,List.drop_succ_cons,List.drop_zero,xCf,xBo,xAK,xAA,xAt,xBf,xB6,xCQ,xAy,xEy,ih]
        · have e3 : ((0 : Int) < (i : Nat)) = True := eq_true (by omega)
          have hla' : last = l.getD (i - 1) 0 ∧ 0 ≤ last := by omega
          by_cases c4 : l.getD i 0 ≤ l.getD (i - 1) 0
          · refine ⟨i,?_⟩
            rw [bad (by omega),if_neg (by simp),xHf]
            simp (maxSteps := 30000000) (disch := first | assumption | omega | (simp only [List.length_cons,List.length_nil,List.length_append,List.length_set,List.length_replicate,List.length_map,List.length_range,List.length_take,List.length_drop,List.all_cons,List.all_nil,AV.isCell,Bool.and_self,Bool.and_true,xAh,xAb,xAe,xAa,xAo] <;> omega) | rfl | decide) only [xEx,xAq,xAf,xAc,xAk,xAz,opv,List.getD_cons_succ,List.getD_cons_zero,xAr,List.set_cons_succ,List.set_cons_zero,xAi,xA3,xA4,xAm,xAB,xAw,hlt,decide_true,xAg,xAj,xAd,xAp,xAl,↓reduceIte,xAx,xAs,xBt,List.take_succ_cons,List.take_zero,xAU,xA5,xB4,xBj,xBp,xBd,xBL,xAW,xAY,Int.toNat_natCast,Nat.mul_one,xBE,xAH,xBn,xB1,xBR,xCu,xBW,Nat.add_zero,xAM,xCY,c1,decide_false,xBC,xBu,xCj,c2,xC4,xA9,xAL,Bool.false_eq_true,xBS,e3,xNv,xWg,xCQ,xA2,xBc,List.drop_succ_cons,List.drop_zero,xCf,xBo,xAK,xAA,xDF,c4,xA0,xA8,xBb,xBK,xEy]
          · obtain ⟨i',ih⟩ := xHw (s := s) (z := z) (s4 := s4) hl d (i + 1) (l.getD i 0) (by omega) (.inr ⟨by omega,by rw [Nat.add_sub_cancel],by omega⟩)
            refine ⟨i',?_⟩
            have ea : xHR s last (l.getD i 0 :: l.drop (i + 1)) = xHR s (l.getD i 0) (l.drop (i + 1)) := if_neg (by omega)
            rw [ea,xHf]
            by_cases e : xHR s (l.getD i 0) (l.drop (i + 1)) = true
            · rw [if_pos e] at ih ⊢
              simp (maxSteps := 30000000) (disch := first | assumption | omega | (simp only [List.length_cons,List.length_nil,List.length_append,List.length_set,List.length_replicate,List.length_map,List.length_range,List.length_take,List.length_drop,List.all_cons,List.all_nil,AV.isCell,Bool.and_self,Bool.and_true,xAh,xAb,xAe,xAa,xAo] <;> omega) | rfl | decide) only [xEx,xAq,xAf,xAc,xAk,xAz,opv,List.getD_cons_succ,List.getD_cons_zero,xAr,List.set_cons_succ,List.set_cons_zero,xAi,xA3,xA4,xAm,xAB,xAw,hlt,decide_true,xAg,xAj,xAd,xAp,xAl,↓reduceIte,xAx,xAs,xBt,List.take_succ_cons,List.take_zero,xAU,xA5,xB4,xBj,xBp,xBd,xBL,xAW,xAY,Int.toNat_natCast,Nat.mul_one,xBE,xAH,xBn,xB1,xBR,xCu,xBW,Nat.add_zero,xAM,xCY,c1,decide_false,xBC,xBu,xCj,c2,xC4,xA9,xAL,Bool.false_eq_true,xBS,e3,xNv,xWg,xCQ,xA2,xBc,List.drop_succ_cons,List.drop_zero,xCf,xBo,xAK,xAA,xDF,c4,xAt,xBf,xB6,xAy,xEy,ih]
            · rw [if_neg e] at ih ⊢
              simp (maxSteps := 30000000) (disch := first | assumption | omega | (simp only [List.length_cons,List.length_nil,List.length_append,List.length_set,List.length_replicate,List.length_map,List.length_range,List.length_take,List.length_drop,List.all_cons,List.all_nil,AV.isCell,Bool.and_self,Bool.and_true,xAh,xAb,xAe,xAa,xAo] <;> omega) | rfl | decide) only [xEx,xAq,xAf,xAc,xAk,xAz,opv,List.getD_cons_succ,List.getD_cons_zero,xAr,List.set_cons_succ,List.set_cons_zero,xAi,xA3,xA4,xAm,xAB,xAw,hlt,decide_true,xAg,xAj,xAd,xAp,xAl,↓reduceIte,xAx,xAs,xBt,List.take_succ_cons,List.take_zero,xAU,xA5,xB4,xBj,xBp,xBd,xBL,xAW,xAY,Int.toNat_natCast,Nat.mul_one,xBE,xAH,xBn,xB1,xBR,xCu,xBW,Nat.add_zero,xAM,xCY,c1,decide_false,xBC,xBu,xCj,c2,xC4,xA9,xAL,Bool.false_eq_true,xBS,e3,xNv,xWg,xCQ,xA2,xBc,List.drop_succ_cons,List.drop_zero,xCf,xBo,xAK,xAA,xDF,c4,xAt,xBf,xB6,xAy,xEy,ih]

theorem xPo (s : Int) (z : Bool) (l : List Int) (hl : l.length < 1099511627776) : L.pcall 110 [iw z l,.int .i64 s] = some (.int .i64 (xDE s l)) := by
  obtain ⟨i',h⟩ := xHw (s := s) (z := z) (s4 := .int .i64 0) hl l.length 0 (-1) (by omega) (.inl ⟨rfl,rfl⟩)
  simp only [Int.natCast_zero,List.drop_zero] at h
  unfold xDE
  rw [yBK,yAv,xBA]
  by_cases e : xHR s (-1) l = true
  · rw [if_pos e] at h ⊢
    simp (maxSteps := 30000000) (disch := first | assumption | omega | (simp only [List.length_cons,List.length_nil,List.length_append,List.length_set,List.length_replicate,List.length_map,List.length_range,List.length_take,List.length_drop,List.all_cons,List.all_nil,AV.isCell,Bool.and_self,Bool.and_true,xAh,xAb,xAe,xAa,xAo] <;> omega) | rfl | decide) only [xAT,List.length_cons,List.length_nil,Nat.zero_add,Nat.reduceAdd,Nat.reduceSub,xCF,List.cons_append,List.nil_append,xAq,xAf,xAc,xAk,xAz,opv,xAr,List.set_cons_succ,List.set_cons_zero,xAi,xAg,xAj,xAd,xAs,xA7,xEy,h,xAR,↓reduceIte,xA0,xAP,xAV,xBk,List.getD_cons_succ,List.getD_cons_zero,xAD,xAS,xBP,xBa]
  · rw [if_neg e] at h ⊢
    simp (maxSteps := 30000000) (disch := first | assumption | omega | (simp only [List.length_cons,List.length_nil,List.length_append,List.length_set,List.length_replicate,List.length_map,List.length_range,List.length_take,List.length_drop,List.all_cons,List.all_nil,AV.isCell,Bool.and_self,Bool.and_true,xAh,xAb,xAe,xAa,xAo] <;> omega) | rfl | decide) only [xAT,List.length_cons,List.length_nil,Nat.zero_add,Nat.reduceAdd,Nat.reduceSub,xCF,List.cons_append,List.nil_append,xAq,xAf,xAc,xAk,xAz,opv,xAr,List.set_cons_succ,List.set_cons_zero,xAi,xAg,xAj,xAd,xAs,xA7,xEy,h,xA8,xBb,xAP,xAV,xBk,List.getD_cons_succ,List.getD_cons_zero,xAD,xAS,xBP,xBa]

theorem xN3 {v p n : Nat} : xFF v p n = if 2 ^ v ≤ p then 7 else if 2 ^ v ≤ n then 7 else if p &&& n = 0 then 0 else 2 := by
  unfold xFF
  by_cases c1 : 2 ^ v ≤ p
  · rw [if_pos c1,if_pos (Nat.le_trans c1 Nat.left_le_or)]
  · rw [if_neg c1]
    by_cases c2 : 2 ^ v ≤ n
    · rw [if_pos c2,if_pos (Nat.le_trans c2 Nat.right_le_or)]
    · rw [if_neg c2,if_neg]
      have := Nat.or_lt_two_pow (x := p) (y := n) (n := v) (by omega) (by omega)
      omega

theorem xN4 (a b : Nat) : (((a : Nat) : Int) ≤ ((b : Nat) : Int)) = (a ≤ b) := propext ⟨fun h => by omega,fun h => by omega⟩
theorem sh3 {v : Nat} (hv : v ≤ 3) : IntKind.i64.wrap (1 * 2 ^ min v IntKind.i64.bits) = ((2 ^ v : Nat) : Int) := yEd (by omega)

set_option maxRecDepth 20000 in
set_option maxHeartbeats 4000000 in
theorem xN5 {n : Aut} {v : Nat} {s2 : AV} (hv : v ≤ 3) (hnv : n.vars = (v : Nat)) (hl : n.rl.length < 1099511627776) (hb : ∀ e ∈ n.rl,e.p < 256 ∧ e.n < 256) : ∀ d i T,i + d = n.rl.length →
    ∃ (T' : xAv) (i' : Nat),L.loop xL2 xTw ⟨xJS (.ptr 0 0) s2 (.int .i64 (i : Nat)),.cells false false n.cells :: T⟩ =
      some (if xD3 n.states v (n.rl.drop i) = 0 then (.exit 0,⟨xJS (.ptr 0 0) s2 (.int .i64 (n.rl.length : Nat)),.cells false false n.cells :: T'⟩)
        else (.ret,⟨xJS (.ptr 0 0) (.int .i64 (xD3 n.states v (n.rl.drop i))) (.int .i64 (i' : Nat)),.cells false false n.cells :: T'⟩)) := by
  intro d
  induction d with
  | zero =>
    intro i T h
    obtain rfl : i = n.rl.length := by omega
    refine ⟨T,0,?_⟩
    rw [if_pos (by rw [List.drop_length]; rfl),xFl]
    simp (maxSteps := 30000000) (disch := first | assumption | omega | (simp only [List.length_cons,List.length_nil,List.length_append,List.length_set,List.length_replicate,List.length_map,List.length_range,List.length_take,List.length_drop,List.all_cons,List.all_nil,AV.isCell,Bool.and_self,Bool.and_true,xAh,xAb,xAe,xAa,xAo] <;> omega) | rfl | decide) only [xEo,xAq,xAf,xAc,xAk,xAz,opv,List.getD_cons_succ,List.getD_cons_zero,xAr,List.set_cons_succ,List.set_cons_zero,xAi,xAQ,xAC,Nat.zero_add,xAm,xAH,xA1,List.getElem?_cons_zero,xAu,List.drop_succ_cons,List.drop_zero,List.take_succ_cons,List.take_nil,xAM,xA3,xA4,xAB,xAw,Int.lt_irrefl,decide_false,xAg,xAj,xAd,xAp,xAl,Bool.false_eq_true,↓reduceIte,xBm,xA6,xAX,xEp]
  | succ d IH =>
    intro i T h
    have hlt : (i : Int) < (n.rl.length : Nat) := by omega
    have hm := hb _ (xG6 (by omega : i < n.rl.length))
    have hand := xVj hm.1 hm.2
    rw [xFG (by omega : i < n.rl.length)]
    have hbad : ((n.rl.getD i rl0).l < 0 ∨ n.states ≤ (n.rl.getD i rl0).l ∨ (n.rl.getD i rl0).r < 0 ∨ n.states ≤ (n.rl.getD i rl0).r ∨ (n.rl.getD i rl0).t < 0 ∨ n.states ≤ (n.rl.getD i rl0).t) → xHT n.states v (n.rl.getD i rl0) = 8 := fun h => if_pos (by omega)
    by_cases c1 : (n.rl.getD i rl0).l < 0
    · refine ⟨T ++ [.cells false false (xF6 (n.rl.getD i rl0))],i,?_⟩
      rw [xCV (by rw [hbad (by omega)]; omega),hbad (by omega),if_neg (by omega),xFl]
      clear hbad
      simp (maxSteps := 30000000) (disch := first | assumption | omega | (simp only [List.length_cons,List.length_nil,List.length_append,List.length_set,List.length_replicate,List.length_map,List.length_range,List.length_take,List.length_drop,List.all_cons,List.all_nil,AV.isCell,Bool.and_self,Bool.and_true,xAh,xAb,xAe,xAa,xAo] <;> omega) | rfl | decide) only [xEo,xAq,xAf,xAc,xAk,xAz,opv,List.getD_cons_succ,List.getD_cons_zero,xAr,List.set_cons_succ,List.set_cons_zero,xAi,xAQ,xAC,Nat.zero_add,xAm,xAH,xA1,List.getElem?_cons_zero,xAu,List.drop_succ_cons,List.drop_zero,List.take_succ_cons,List.take_nil,xAM,xA3,xA4,xAB,xAw,hlt,decide_true,xAg,xAj,xAd,xAp,xAl,↓reduceIte,xAx,xAs,xAW,xAY,Int.toNat_natCast,xBn,xDr,xBz,xBv,AV.cells,List.all_cons,AV.isCell,List.all_nil,Bool.and_self,List.length_cons,List.cons_append,xBe,List.length_nil,Nat.reduceAdd,xBJ,List.getElem?_cons_succ,xCy,xAZ,xBl,List.take_zero,List.nil_append,List.drop_nil,List.append_nil,xC1,xAN,xBq,Nat.add_zero,c1,xAK,xAA,Bool.true_eq_false,xCc,xA9,xAL,xA0,xBb,xA8,xBK,xEp,xF6]
    by_cases c2 : n.states ≤ (n.rl.getD i rl0).l
    · refine ⟨T ++ [.cells false false (xF6 (n.rl.getD i rl0))],i,?_⟩
      rw [xCV (by rw [hbad (by omega)]; omega),hbad (by omega),if_neg (by omega),xFl]
      clear hbad
      simp (maxSteps := 30000000) (disch := first | assumption | omega | (simp only [List.length_cons,List.length_nil,List.length_append,List.length_set,List.length_replicate,List.length_map,List.length_range,List.length_take,List.length_drop,List.all_cons,List.all_nil,AV.isCell,Bool.and_self,Bool.and_true,xAh,xAb,xAe,xAa,xAo] <;> omega) | rfl | decide) only [xEo,xAq,xAf,xAc,xAk,xAz,opv,List.getD_cons_succ,List.getD_cons_zero,xAr,List.set_cons_succ,List.set_cons_zero,xAi,xAQ,xAC,Nat.zero_add,xAm,xAH,xA1,List.getElem?_cons_zero,xAu,List.drop_succ_cons,List.drop_zero,List.take_succ_cons,List.take_nil,xAM,xA3,xA4,xAB,xAw,hlt,decide_true,xAg,xAj,xAd,xAp,xAl,↓reduceIte,xAx,xAs,xAW,xAY,Int.toNat_natCast,xBn,xDr,xBz,xBv,AV.cells,List.all_cons,AV.isCell,List.all_nil,Bool.and_self,List.length_cons,List.cons_append,xBe,List.length_nil,Nat.reduceAdd,xBJ,List.getElem?_cons_succ,xCy,xAZ,xBl,List.take_zero,List.nil_append,List.drop_nil,List.append_nil,xC1,xAN,xBq,Nat.add_zero,c1,decide_false,xAK,xAA,xCj,c2,xA9,xAL,Bool.false_eq_true,Bool.true_eq_false,xCc,xA0,xBb,xA8,xBK,xEp,xF6]
    by_cases c3 : (n.rl.getD i rl0).r < 0
    · refine ⟨T ++ [.cells false false (xF6 (n.rl.getD i rl0))],i,?_⟩
      rw [xCV (by rw [hbad (by omega)]; omega),hbad (by omega),if_neg (by omega),xFl]
      clear hbad
      simp (maxSteps := 30000000) (disch := first | assumption | omega | (simp only [List.length_cons,List.length_nil,List.length_append,List.length_set,List.length_replicate,List.length_map,List.length_range,List.length_take,List.length_drop,List.all_cons,List.all_nil,AV.isCell,Bool.and_self,Bool.and_true,xAh,xAb,xAe,xAa,xAo] <;> omega) | rfl | decide) only [xEo,xAq,xAf,xAc,xAk,xAz,opv,List.getD_cons_succ,List.getD_cons_zero,xAr,List.set_cons_succ,List.set_cons_zero,xAi,xAQ,xAC,Nat.zero_add,xAm,xAH,xA1,List.getElem?_cons_zero,xAu,List.drop_succ_cons,List.drop_zero,List.take_succ_cons,List.take_nil,xAM,xA3,xA4,xAB,xAw,hlt,decide_true,xAg,xAj,xAd,xAp,xAl,↓reduceIte,xAx,xAs,xAW,xAY,Int.toNat_natCast,xBn,xDr,xBz,xBv,AV.cells,List.all_cons,AV.isCell,List.all_nil,Bool.and_self,List.length_cons,List.cons_append,xBe,List.length_nil,Nat.reduceAdd,xBJ,List.getElem?_cons_succ,xCy,xAZ,xBl,List.take_zero,List.nil_append,List.drop_nil,List.append_nil,xC1,xAN,xBq,Nat.add_zero,c1,decide_false,xAK,xAA,xCj,c2,xA9,xAL,Bool.false_eq_true,c3,Bool.true_eq_false,xCc,xA0,xBb,xA8,xBK,xEp,xF6]
    by_cases c4 : n.states ≤ (n.rl.getD i rl0).r
    · refine ⟨T ++ [.cells false false (xF6 (n.rl.getD i rl0))],i,?_⟩
      rw [xCV (by rw [hbad (by omega)]; omega),hbad (by omega),if_neg (by omega),xFl]
      clear hbad
      simp (maxSteps := 30000000) (disch := first | assumption | omega | (simp only [List.length_cons,List.length_nil,List.length_append,List.length_set,List.length_replicate,List.length_map,List.length_range,List.length_take,List.length_drop,List.all_cons,List.all_nil,AV.isCell,Bool.and_self,Bool.and_true,xAh,xAb,xAe,xAa,xAo] <;> omega) | rfl | decide) only [xEo,xAq,xAf,xAc,xAk,xAz,opv,List.getD_cons_succ,List.getD_cons_zero,xAr,List.set_cons_succ,List.set_cons_zero,xAi,xAQ,xAC,Nat.zero_add,xAm,xAH,xA1,List.getElem?_cons_zero,xAu,List.drop_succ_cons,List.drop_zero,List.take_succ_cons,List.take_nil,xAM,xA3,xA4,xAB,xAw,hlt,decide_true,xAg,xAj,xAd,xAp,xAl,↓reduceIte,xAx,xAs,xAW,xAY,Int.toNat_natCast,xBn,xDr,xBz,xBv,AV.cells,List.all_cons,AV.isCell,List.all_nil,Bool.and_self,List.length_cons,List.cons_append,xBe,List.length_nil,Nat.reduceAdd,xBJ,List.getElem?_cons_succ,xCy,xAZ,xBl,List.take_zero,List.nil_append,List.drop_nil,List.append_nil,xC1,xAN,xBq,Nat.add_zero,c1,decide_false,xAK,xAA,xCj,c2,xA9,xAL,Bool.false_eq_true,c3,c4,Bool.true_eq_false,xCc,xA0,xBb,xA8,xBK,xEp,xF6]
    by_cases c5 : (n.rl.getD i rl0).t < 0
    · refine ⟨T ++ [.cells false false (xF6 (n.rl.getD i rl0))],i,?_⟩
      rw [xCV (by rw [hbad (by omega)]; omega),hbad (by omega),if_neg (by omega),xFl]
      clear hbad
      simp (maxSteps := 30000000) (disch := first | assumption | omega | (simp only [List.length_cons,List.length_nil,List.length_append,List.length_set,List.length_replicate,List.length_map,List.length_range,List.length_take,List.length_drop,List.all_cons,List.all_nil,AV.isCell,Bool.and_self,Bool.and_true,xAh,xAb,xAe,xAa,xAo] <;> omega) | rfl | decide) only [xEo,xAq,xAf,xAc,xAk,xAz,opv,List.getD_cons_succ,List.getD_cons_zero,xAr,List.set_cons_succ,List.set_cons_zero,xAi,xAQ,xAC,Nat.zero_add,xAm,xAH,xA1,List.getElem?_cons_zero,xAu,List.drop_succ_cons,List.drop_zero,List.take_succ_cons,List.take_nil,xAM,xA3,xA4,xAB,xAw,hlt,decide_true,xAg,xAj,xAd,xAp,xAl,↓reduceIte,xAx,xAs,xAW,xAY,Int.toNat_natCast,xBn,xDr,xBz,xBv,AV.cells,List.all_cons,AV.isCell,List.all_nil,Bool.and_self,List.length_cons,List.cons_append,xBe,List.length_nil,Nat.reduceAdd,xBJ,List.getElem?_cons_succ,xCy,xAZ,xBl,List.take_zero,List.nil_append,List.drop_nil,List.append_nil,xC1,xAN,xBq,Nat.add_zero,c1,decide_false,xAK,xAA,xCj,c2,xA9,xAL,Bool.false_eq_true,c3,c4,c5,Bool.true_eq_false,xCc,xA0,xBb,xA8,xBK,xEp,xF6]
    by_cases c6 : n.states ≤ (n.rl.getD i rl0).t
    · refine ⟨T ++ [.cells false false (xF6 (n.rl.getD i rl0))],i,?_⟩
      rw [xCV (by rw [hbad (by omega)]; omega),hbad (by omega),if_neg (by omega),xFl]
      clear hbad
      simp (maxSteps := 30000000) (disch := first | assumption | omega | (simp only [List.length_cons,List.length_nil,List.length_append,List.length_set,List.length_replicate,List.length_map,List.length_range,List.length_take,List.length_drop,List.all_cons,List.all_nil,AV.isCell,Bool.and_self,Bool.and_true,xAh,xAb,xAe,xAa,xAo] <;> omega) | rfl | decide) only [xEo,xAq,xAf,xAc,xAk,xAz,opv,List.getD_cons_succ,List.getD_cons_zero,xAr,List.set_cons_succ,List.set_cons_zero,xAi,xAQ,xAC,Nat.zero_add,xAm,xAH,xA1,List.getElem?_cons_zero,xAu,List.drop_succ_cons,List.drop_zero,List.take_succ_cons,List.take_nil,xAM,xA3,xA4,xAB,xAw,hlt,decide_true,xAg,xAj,xAd,xAp,xAl,↓reduceIte,xAx,xAs,xAW,xAY,Int.toNat_natCast,xBn,xDr,xBz,xBv,AV.cells,List.all_cons,AV.isCell,List.all_nil,Bool.and_self,List.length_cons,List.cons_append,xBe,List.length_nil,Nat.reduceAdd,xBJ,List.getElem?_cons_succ,xCy,xAZ,xBl,List.take_zero,List.nil_append,List.drop_nil,List.append_nil,xC1,xAN,xBq,Nat.add_zero,c1,decide_false,xAK,xAA,xCj,c2,xA9,xAL,Bool.false_eq_true,c3,c4,c5,c6,xA0,xBb,xA8,xBK,xEp,xF6]
    have hi1 : i + 1 + d = n.rl.length := by omega
    have ee : xHT n.states v (n.rl.getD i rl0) = xFF v (n.rl.getD i rl0).p (n.rl.getD i rl0).n := by
      clear hbad
      exact if_neg (by omega)
    clear hbad
    rw [xN3] at ee
    by_cases d1 : 2 ^ v ≤ (n.rl.getD i rl0).p
    · rw [if_pos d1] at ee
      refine ⟨T ++ [.cells false false (xF6 (n.rl.getD i rl0))],i,?_⟩
      rw [xCV (by rw [ee]; omega),ee,if_neg (by omega),xFl]
      simp (maxSteps := 30000000) (disch := first | assumption | omega | (simp only [List.length_cons,List.length_nil,List.length_append,List.length_set,List.length_replicate,List.length_map,List.length_range,List.length_take,List.length_drop,List.all_cons,List.all_nil,AV.isCell,Bool.and_self,Bool.and_true,xAh,xAb,xAe,xAa,xAo] <;> omega) | rfl | decide) only [xEo,xAq,xAf,xAc,xAk,xAz,opv,List.getD_cons_succ,List.getD_cons_zero,xAr,List.set_cons_succ,List.set_cons_zero,xAi,xAQ,xAC,Nat.zero_add,xAm,xAH,xA1,List.getElem?_cons_zero,xAu,List.drop_succ_cons,List.drop_zero,List.take_succ_cons,List.take_nil,xAM,xA3,xA4,xAB,xAw,hlt,decide_true,xAg,xAj,xAd,xAp,xAl,↓reduceIte,xAx,xAs,xAW,xAY,Int.toNat_natCast,xBn,xDr,xBz,xBv,AV.cells,List.all_cons,AV.isCell,List.all_nil,Bool.and_self,List.length_cons,List.cons_append,xBe,List.length_nil,Nat.reduceAdd,xBJ,List.getElem?_cons_succ,xCy,xAZ,xBl,List.take_zero,List.nil_append,List.drop_nil,List.append_nil,xC1,xAN,xBq,Nat.add_zero,c1,decide_false,xAK,xAA,xCj,c2,xA9,xAL,Bool.false_eq_true,c3,c4,c5,c6,xBt,xAU,xA5,xCw,xBj,xBp,xBd,xBE,xDG,xCL,xCa,xCQ,hnv,xCY,xCv,sh3 hv,xN4 (2 ^ v) (n.rl.getD i rl0).p,d1,xB4,xBC,xBu,Bool.true_eq_false,xCc,xA2,xBc,xCf,xBo,xA0,xBb,xA8,xBK,xEp,xF6]
    rw [if_neg d1] at ee
    by_cases d2 : 2 ^ v ≤ (n.rl.getD i rl0).n
    · rw [if_pos d2] at ee
      refine ⟨T ++ [.cells false false (xF6 (n.rl.getD i rl0))],i,?_⟩
      rw [xCV (by rw [ee]; omega),ee,if_neg (by omega),xFl]
      simp (maxSteps := 30000000) (disch := first | assumption | omega | (simp only [List.length_cons,List.length_nil,List.length_append,List.length_set,List.length_replicate,List.length_map,List.length_range,List.length_take,List.length_drop,List.all_cons,List.all_nil,AV.isCell,Bool.and_self,Bool.and_true,xAh,xAb,xAe,xAa,xAo] <;> omega) | rfl | decide) only [xEo,xAq,xAf,xAc,xAk,xAz,opv,List.getD_cons_succ,List.getD_cons_zero,xAr,List.set_cons_succ,List.set_cons_zero,xAi,xAQ,xAC,Nat.zero_add,xAm,xAH,xA1,List.getElem?_cons_zero,xAu,List.drop_succ_cons,List.drop_zero,List.take_succ_cons,List.take_nil,xAM,xA3,xA4,xAB,xAw,hlt,decide_true,xAg,xAj,xAd,xAp,xAl,↓reduceIte,xAx,xAs,xAW,xAY,Int.toNat_natCast,xBn,xDr,xBz,xBv,AV.cells,List.all_cons,AV.isCell,List.all_nil,Bool.and_self,List.length_cons,List.cons_append,xBe,List.length_nil,Nat.reduceAdd,xBJ,List.getElem?_cons_succ,xCy,xAZ,xBl,List.take_zero,List.nil_append,List.drop_nil,List.append_nil,xC1,xAN,xBq,Nat.add_zero,c1,decide_false,xAK,xAA,xCj,c2,xA9,xAL,Bool.false_eq_true,c3,c4,c5,c6,xBt,xAU,xA5,xCw,xBj,xBp,xBd,xBE,xDG,xCL,xCa,xCQ,hnv,xCY,xCv,sh3 hv,xN4 (2 ^ v) (n.rl.getD i rl0).p,d1,xB4,xBC,xBu,xA2,xBc,xCf,xBo,xN4 (2 ^ v) (n.rl.getD i rl0).n,d2,xA0,xBb,xA8,xBK,xEp,xF6]
    rw [if_neg d2] at ee
    by_cases d3 : (n.rl.getD i rl0).p &&& (n.rl.getD i rl0).n = 0
    · rw [if_pos d3] at ee
      obtain ⟨T',i',ih⟩ := IH (i + 1) (T ++ [.cells false false (xF6 (n.rl.getD i rl0))]) hi1
      refine ⟨T',i',?_⟩
      rw [xNb ee,xFl]
      simp only [xF6] at ih
      have hand0 : xFh .and .u8 ((n.rl.getD i rl0).p : Int) ((n.rl.getD i rl0).n : Int) = 0 := by rw [hand,d3]; rfl
      clear hand d3 ee hb
      obtain ⟨hm1,hm2⟩ := hm
      have sw : IntKind.i64.wrap (1 * 2 ^ min v IntKind.i64.bits) = ((2 ^ v : Nat) : Int) := sh3 hv
      have D1 : (((2 ^ v : Nat) : Int) ≤ ((n.rl.getD i rl0).p : Nat)) = False := eq_false (by omega)
      have D2 : (((2 ^ v : Nat) : Int) ≤ ((n.rl.getD i rl0).n : Nat)) = False := eq_false (by omega)
      clear d1 d2
      generalize (2 : Nat) ^ v = w at *
      have F1 := fun (_ : Unit) => sw
      have F2 := fun (_ : Unit) => D1
      have F3 := fun (_ : Unit) => D2
      have F4 := fun (_ : Unit) => hand0
      clear sw D1 D2 hand0
      by_cases e : xD3 n.states v (n.rl.drop (i + 1)) = 0
      · rw [if_pos e] at ih ⊢
        simp (maxSteps := 30000000) (disch := first | assumption | omega | (simp only [List.length_cons,List.length_nil,List.length_append,List.length_set,List.length_replicate,List.length_map,List.length_range,List.length_take,List.length_drop,List.all_cons,List.all_nil,AV.isCell,Bool.and_self,Bool.and_true,xAh,xAb,xAe,xAa,xAo] <;> omega) | rfl | decide) only [xEo,xAq,xAf,xAc,xAk,xAz,opv,List.getD_cons_succ,List.getD_cons_zero,xAr,List.set_cons_succ,List.set_cons_zero,xAi,xAQ,xAC,Nat.zero_add,xAm,xAH,xA1,List.getElem?_cons_zero,xAu,List.drop_succ_cons,List.drop_zero,List.take_succ_cons,List.take_nil,xAM,xA3,xA4,xAB,xAw,hlt,decide_true,xAg,xAj,xAd,xAp,xAl,↓reduceIte,xAx,xAs,xAW,xAY,Int.toNat_natCast,xBn,xDr,xBz,xBv,AV.cells,List.all_cons,AV.isCell,List.all_nil,Bool.and_self,List.length_cons,List.cons_append,xBe,List.length_nil,Nat.reduceAdd,xBJ,List.getElem?_cons_succ,xCy,xAZ,xBl,List.take_zero,List.nil_append,List.drop_nil,List.append_nil,xC1,xAN,xBq,Nat.add_zero,c1,decide_false,xAK,xAA,xCj,c2,xA9,xAL,Bool.false_eq_true,c3,c4,c5,c6,xBt,xAU,xA5,xCw,xBj,xBp,xBd,xBE,xDG,xCL,xCa,xCQ,hnv,xCY,xCv,F1 (),F2 (),xB4,xBC,xBu,xA2,xBc,xCf,xBo,F3 (),xC2,F4 (),xBy,Bool.not_true,xAt,xBf,xB6,xAy,xEp,ih]
      · rw [if_neg e] at ih ⊢
        simp (maxSteps := 30000000) (disch := first | assumption | omega | (simp only [List.length_cons,List.length_nil,List.length_append,List.length_set,List.length_replicate,List.length_map,List.length_range,List.length_take,List.length_drop,List.all_cons,List.all_nil,AV.isCell,Bool.and_self,Bool.and_true,xAh,xAb,xAe,xAa,xAo] <;> omega) | rfl | decide) only [xEo,xAq,xAf,xAc,xAk,xAz,opv,List.getD_cons_succ,List.getD_cons_zero,xAr,List.set_cons_succ,List.set_cons_zero,xAi,xAQ,xAC,Nat.zero_add,xAm,xAH,xA1,List.getElem?_cons_zero,xAu,List.drop_succ_cons,List.drop_zero,List.take_succ_cons,List.take_nil,xAM,xA3,xA4,xAB,xAw,hlt,decide_true,xAg,xAj,xAd,xAp,xAl,↓reduceIte,xAx,xAs,xAW,xAY,Int.toNat_natCast,xBn,xDr,xBz,xBv,AV.cells,List.all_cons,AV.isCell,List.all_nil,Bool.and_self,List.length_cons,List.cons_append,xBe,List.length_nil,Nat.reduceAdd,xBJ,List.getElem?_cons_succ,xCy,xAZ,xBl,List.take_zero,List.nil_append,List.drop_nil,List.append_nil,xC1,xAN,xBq,Nat.add_zero,c1,decide_false,xAK,xAA,xCj,c2,xA9,xAL,Bool.false_eq_true,c3,c4,c5,c6,xBt,xAU,xA5,xCw,xBj,xBp,xBd,xBE,xDG,xCL,xCa,xCQ,hnv,xCY,xCv,F1 (),F2 (),xB4,xBC,xBu,xA2,xBc,xCf,xBo,F3 (),xC2,F4 (),xBy,Bool.not_true,xAt,xBf,xB6,xAy,xEp,ih]
    · rw [if_neg d3] at ee
      refine ⟨T ++ [.cells false false (xF6 (n.rl.getD i rl0))],i,?_⟩
      rw [xCV (by rw [ee]; omega),ee,if_neg (by omega),xFl]
      generalize (n.rl.getD i rl0).p &&& (n.rl.getD i rl0).n = k at *
      have k0 : (((k : Nat) : Int) = 0) = False := eq_false (by omega)
      clear ee hb
      obtain ⟨hm1,hm2⟩ := hm
      have sw : IntKind.i64.wrap (1 * 2 ^ min v IntKind.i64.bits) = ((2 ^ v : Nat) : Int) := sh3 hv
      have D1 : (((2 ^ v : Nat) : Int) ≤ ((n.rl.getD i rl0).p : Nat)) = False := eq_false (by omega)
      have D2 : (((2 ^ v : Nat) : Int) ≤ ((n.rl.getD i rl0).n : Nat)) = False := eq_false (by omega)
      clear d1 d2
      generalize (2 : Nat) ^ v = w at *
      have F1 := fun (_ : Unit) => sw
      have F2 := fun (_ : Unit) => D1
      have F3 := fun (_ : Unit) => D2
      have F4 := fun (_ : Unit) => hand
      clear sw D1 D2 hand
      have F5 := fun (_ : Unit) => k0
      clear k0 d3
      simp (maxSteps := 30000000) (disch := first | assumption | omega | (simp only [List.length_cons,List.length_nil,List.length_append,List.length_set,List.length_replicate,List.length_map,List.length_range,List.length_take,List.length_drop,List.all_cons,List.all_nil,AV.isCell,Bool.and_self,Bool.and_true,xAh,xAb,xAe,xAa,xAo] <;> omega) | rfl | decide) only [xEo,xAq,xAf,xAc,xAk,xAz,opv,List.getD_cons_succ,List.getD_cons_zero,xAr,List.set_cons_succ,List.set_cons_zero,xAi,xAQ,xAC,Nat.zero_add,xAm,xAH,xA1,List.getElem?_cons_zero,xAu,List.drop_succ_cons,List.drop_zero,List.take_succ_cons,List.take_nil,xAM,xA3,xA4,xAB,xAw,hlt,decide_true,xAg,xAj,xAd,xAp,xAl,↓reduceIte,xAx,xAs,xAW,xAY,Int.toNat_natCast,xBn,xDr,xBz,xBv,AV.cells,List.all_cons,AV.isCell,List.all_nil,Bool.and_self,List.length_cons,List.cons_append,xBe,List.length_nil,Nat.reduceAdd,xBJ,List.getElem?_cons_succ,xCy,xAZ,xBl,List.take_zero,List.nil_append,List.drop_nil,List.append_nil,xC1,xAN,xBq,Nat.add_zero,c1,decide_false,xAK,xAA,xCj,c2,xA9,xAL,Bool.false_eq_true,c3,c4,c5,c6,xBt,xAU,xA5,xCw,xBj,xBp,xBd,xBE,xDG,xCL,xCa,xCQ,hnv,xCY,xCv,F1 (),F2 (),xB4,xBC,xBu,xA2,xBc,xCf,xBo,F3 (),xC2,F4 (),xBy,F5 (),Bool.not_false,xA0,xA8,xBb,xBK,xEp,xF6]

set_option maxHeartbeats 4000000 in
theorem xHb (n : Aut) (h1 : n.st.length < 1099511627776) (h2 : n.fi.length < 1099511627776) (h3 : n.rl.length < 1099511627776) (hb : ∀ e ∈ n.rl,e.p < 256 ∧ e.n < 256) : L.pcall 82 [n.av] = some (.int .i64 (xNc n)) := by
  have e5 : ((512 : Int) < (n.rl.length : Nat)) = (512 < n.rl.length) := propext ⟨fun h => by omega,fun h => by omega⟩
  have l1 := xPo n.states n.z1 n.st h1
  have l2 := xPo n.states n.z2 n.fi h2
  have g : ∀ l,xDE n.states l = 0 ∨ xDE n.states l = 8 := fun l => by unfold xDE; split <;> simp
  unfold xNc
  rw [yEB,a82,xBA]
  by_cases c1 : n.vars < 0
  · rw [if_pos (.inl c1)]
    simp (maxSteps := 30000000) (disch := first | assumption | omega | (simp only [List.length_cons,List.length_nil,List.length_append,List.length_set,List.length_replicate,List.length_map,List.length_range,List.length_take,List.length_drop,List.all_cons,List.all_nil,AV.isCell,Bool.and_self,Bool.and_true,xAh,xAb,xAe,xAa,xAo] <;> omega) | rfl | decide) only [xAT,List.length_cons,List.length_nil,Nat.zero_add,Nat.reduceSub,xCF,List.cons_append,List.nil_append,xAq,xAf,xAc,xAk,xBv,AV.cells,opv,List.getD_cons_zero,List.all_cons,AV.isCell,List.all_nil,Bool.and_self,↓reduceIte,xAr,List.set_cons_succ,List.set_cons_zero,xAi,xAz,xAg,xAj,xAd,xAQ,List.getD_cons_succ,xAC,Nat.add_zero,xAm,xAH,xA1,List.getElem?_cons_zero,xAu,List.drop_zero,List.take_succ_cons,List.take_zero,xAM,xAB,xAw,c1,decide_true,xAK,xAA,Bool.true_eq_false,xCc,xA9,xAL,xAp,xAl,xA0,xBb,xAP,xAV,xBk,xAD,xAS,xBP,xBa]
  by_cases c2 : 3 < n.vars
  · rw [if_pos (.inr c2)]
    simp (maxSteps := 30000000) (disch := first | assumption | omega | (simp only [List.length_cons,List.length_nil,List.length_append,List.length_set,List.length_replicate,List.length_map,List.length_range,List.length_take,List.length_drop,List.all_cons,List.all_nil,AV.isCell,Bool.and_self,Bool.and_true,xAh,xAb,xAe,xAa,xAo] <;> omega) | rfl | decide) only [xAT,List.length_cons,List.length_nil,Nat.zero_add,Nat.reduceSub,xCF,List.cons_append,List.nil_append,xAq,xAf,xAc,xAk,xBv,AV.cells,opv,List.getD_cons_zero,List.all_cons,AV.isCell,List.all_nil,Bool.and_self,↓reduceIte,xAr,List.set_cons_succ,List.set_cons_zero,xAi,xAz,xAg,xAj,xAd,xAQ,List.getD_cons_succ,xAC,Nat.add_zero,xAm,xAH,xA1,List.getElem?_cons_zero,xAu,List.drop_zero,List.take_succ_cons,List.take_zero,xAM,xAB,xAw,c1,decide_false,xAK,xAA,xBS,c2,decide_true,xA9,xAL,Bool.false_eq_true,xAp,xAl,xA0,xBb,xAP,xAV,xBk,xAD,xAS,xBP,xBa]
  rw [if_neg (by omega)]
  by_cases c3 : n.states < 0
  · rw [if_pos c3]
    simp (maxSteps := 30000000) (disch := first | assumption | omega | (simp only [List.length_cons,List.length_nil,List.length_append,List.length_set,List.length_replicate,List.length_map,List.length_range,List.length_take,List.length_drop,List.all_cons,List.all_nil,AV.isCell,Bool.and_self,Bool.and_true,xAh,xAb,xAe,xAa,xAo] <;> omega) | rfl | decide) only [xAT,List.length_cons,List.length_nil,Nat.zero_add,Nat.reduceSub,xCF,List.cons_append,List.nil_append,xAq,xAf,xAc,xAk,xBv,AV.cells,opv,List.getD_cons_zero,List.all_cons,AV.isCell,List.all_nil,Bool.and_self,↓reduceIte,xAr,List.set_cons_succ,List.set_cons_zero,xAi,xAz,xAg,xAj,xAd,xAQ,List.getD_cons_succ,xAC,Nat.add_zero,xAm,xAH,xA1,List.getElem?_cons_zero,xAu,List.drop_zero,List.take_succ_cons,List.take_zero,xAM,xAB,xAw,c1,decide_false,xAK,xAA,xBS,c2,xA9,xAL,Bool.false_eq_true,xAp,xAl,xAx,List.drop_succ_cons,c3,decide_true,xA0,xBb,xAP,xAV,xBk,xAD,xAS,xBP,xBa]
  rw [if_neg c3]
  by_cases c4 : 64 < n.states
  · rw [if_pos (.inl c4)]
    simp (maxSteps := 30000000) (disch := first | assumption | omega | (simp only [List.length_cons,List.length_nil,List.length_append,List.length_set,List.length_replicate,List.length_map,List.length_range,List.length_take,List.length_drop,List.all_cons,List.all_nil,AV.isCell,Bool.and_self,Bool.and_true,xAh,xAb,xAe,xAa,xAo] <;> omega) | rfl | decide) only [xAT,List.length_cons,List.length_nil,Nat.zero_add,Nat.reduceSub,xCF,List.cons_append,List.nil_append,xAq,xAf,xAc,xAk,xBv,AV.cells,opv,List.getD_cons_zero,List.all_cons,AV.isCell,List.all_nil,Bool.and_self,↓reduceIte,xAr,List.set_cons_succ,List.set_cons_zero,xAi,xAz,xAg,xAj,xAd,xAQ,List.getD_cons_succ,xAC,Nat.add_zero,xAm,xAH,xA1,List.getElem?_cons_zero,xAu,List.drop_zero,List.take_succ_cons,List.take_zero,xAM,xAB,xAw,c1,decide_false,xAK,xAA,xBS,c2,xA9,xAL,Bool.false_eq_true,xAp,xAl,xAx,List.drop_succ_cons,c3,c4,decide_true,Bool.true_eq_false,xCc,xA0,xBb,xAP,xAV,xBk,xAD,xAS,xBP,xBa]
  by_cases c5 : 512 < n.rl.length
  · rw [if_pos (.inr c5)]
    simp (maxSteps := 30000000) (disch := first | assumption | omega | (simp only [List.length_cons,List.length_nil,List.length_append,List.length_set,List.length_replicate,List.length_map,List.length_range,List.length_take,List.length_drop,List.all_cons,List.all_nil,AV.isCell,Bool.and_self,Bool.and_true,xAh,xAb,xAe,xAa,xAo] <;> omega) | rfl | decide) only [xAT,List.length_cons,List.length_nil,Nat.zero_add,Nat.reduceSub,xCF,List.cons_append,List.nil_append,xAq,xAf,xAc,xAk,xBv,AV.cells,opv,List.getD_cons_zero,List.all_cons,AV.isCell,List.all_nil,Bool.and_self,↓reduceIte,xAr,List.set_cons_succ,List.set_cons_zero,xAi,xAz,xAg,xAj,xAd,xAQ,List.getD_cons_succ,xAC,Nat.add_zero,xAm,xAH,xA1,List.getElem?_cons_zero,xAu,List.drop_zero,List.take_succ_cons,List.take_zero,xAM,xAB,xAw,c1,decide_false,xAK,xAA,xBS,c2,xA9,xAL,Bool.false_eq_true,xAp,xAl,xAx,List.drop_succ_cons,c3,c4,List.take_nil,xA3,xA4,e5,c5,decide_true,xA0,xBb,xAP,xAV,xBk,xAD,xAS,xBP,xBa]
  rw [if_neg (by omega)]
  rcases g n.st with k1 | k1
  · rcases g n.fi with k2 | k2
    · rw [if_pos ⟨k1,k2⟩]
      rw [k1] at l1
      rw [k2] at l2
      obtain ⟨v,hv⟩ : ∃ v : Nat,n.vars = (v : Nat) := ⟨n.vars.toNat,by omega⟩
      have htv : n.vars.toNat = v := by omega
      obtain ⟨T',i2,g2⟩ := xN5 (n := n) (v := v) (s2 := .int .i64 0) (by omega) hv h3 hb n.rl.length 0 [] (by omega)
      simp only [Int.natCast_zero,List.drop_zero] at g2
      rw [htv]
      by_cases c7 : xD3 n.states v n.rl = 0
      · rw [if_pos c7] at g2
        rw [c7]
        simp (maxSteps := 30000000) (disch := first | assumption | omega | (simp only [List.length_cons,List.length_nil,List.length_append,List.length_set,List.length_replicate,List.length_map,List.length_range,List.length_take,List.length_drop,List.all_cons,List.all_nil,AV.isCell,Bool.and_self,Bool.and_true,xAh,xAb,xAe,xAa,xAo] <;> omega) | rfl | decide) only [xAT,List.length_cons,List.length_nil,Nat.zero_add,Nat.reduceSub,xCF,List.cons_append,List.nil_append,xAq,xAf,xAc,xAk,xBv,AV.cells,opv,List.getD_cons_zero,List.all_cons,AV.isCell,List.all_nil,Bool.and_self,↓reduceIte,xAr,List.set_cons_succ,List.set_cons_zero,xAi,xAz,xAg,xAj,xAd,xAQ,List.getD_cons_succ,xAC,Nat.add_zero,xAm,xAH,xA1,List.getElem?_cons_zero,xAu,List.drop_zero,List.take_succ_cons,List.take_zero,xAM,xAB,xAw,c1,decide_false,xAK,xAA,xBS,c2,xA9,xAL,Bool.false_eq_true,xAp,xAl,xAx,List.drop_succ_cons,c3,c4,List.take_nil,xA3,xA4,e5,c5,xBH,List.map_cons,List.map_nil,xBi,xBP,List.mapM_cons,xB0,xBa,List.mapM_nil,Option.pure_def,Option.bind_eq_bind,Option.bind_some,xBh,l1,xBg,xDx,xCq,xBy,decide_true,Bool.not_true,l2,xAs,xA7,xEp,g2,xAR,xA0,xAP,xAV,xBk,xAD,xAS]
      · rw [if_neg c7] at g2
        simp (maxSteps := 30000000) (disch := first | assumption | omega | (simp only [List.length_cons,List.length_nil,List.length_append,List.length_set,List.length_replicate,List.length_map,List.length_range,List.length_take,List.length_drop,List.all_cons,List.all_nil,AV.isCell,Bool.and_self,Bool.and_true,xAh,xAb,xAe,xAa,xAo] <;> omega) | rfl | decide) only [xAT,List.length_cons,List.length_nil,Nat.zero_add,Nat.reduceSub,xCF,List.cons_append,List.nil_append,xAq,xAf,xAc,xAk,xBv,AV.cells,opv,List.getD_cons_zero,List.all_cons,AV.isCell,List.all_nil,Bool.and_self,↓reduceIte,xAr,List.set_cons_succ,List.set_cons_zero,xAi,xAz,xAg,xAj,xAd,xAQ,List.getD_cons_succ,xAC,Nat.add_zero,xAm,xAH,xA1,List.getElem?_cons_zero,xAu,List.drop_zero,List.take_succ_cons,List.take_zero,xAM,xAB,xAw,c1,decide_false,xAK,xAA,xBS,c2,xA9,xAL,Bool.false_eq_true,xAp,xAl,xAx,List.drop_succ_cons,c3,c4,List.take_nil,xA3,xA4,e5,c5,xBH,List.map_cons,List.map_nil,xBi,xBP,List.mapM_cons,xB0,xBa,List.mapM_nil,Option.pure_def,Option.bind_eq_bind,Option.bind_some,xBh,l1,xBg,xDx,xCq,xBy,decide_true,Bool.not_true,l2,xAs,xA7,xEp,g2,xA8,xBb,xAP,xAV,xBk,xAD,xAS]
    · rw [if_neg (by omega)]
      rw [k1] at l1
      rw [k2] at l2
      simp (maxSteps := 30000000) (disch := first | assumption | omega | (simp only [List.length_cons,List.length_nil,List.length_append,List.length_set,List.length_replicate,List.length_map,List.length_range,List.length_take,List.length_drop,List.all_cons,List.all_nil,AV.isCell,Bool.and_self,Bool.and_true,xAh,xAb,xAe,xAa,xAo] <;> omega) | rfl | decide) only [xAT,List.length_cons,List.length_nil,Nat.zero_add,Nat.reduceSub,xCF,List.cons_append,List.nil_append,xAq,xAf,xAc,xAk,xBv,AV.cells,opv,List.getD_cons_zero,List.all_cons,AV.isCell,List.all_nil,Bool.and_self,↓reduceIte,xAr,List.set_cons_succ,List.set_cons_zero,xAi,xAz,xAg,xAj,xAd,xAQ,List.getD_cons_succ,xAC,Nat.add_zero,xAm,xAH,xA1,List.getElem?_cons_zero,xAu,List.drop_zero,List.take_succ_cons,List.take_zero,xAM,xAB,xAw,c1,decide_false,xAK,xAA,xBS,c2,xA9,xAL,Bool.false_eq_true,xAp,xAl,xAx,List.drop_succ_cons,c3,c4,List.take_nil,xA3,xA4,e5,c5,xBH,List.map_cons,List.map_nil,xBi,xBP,List.mapM_cons,xB0,xBa,List.mapM_nil,Option.pure_def,Option.bind_eq_bind,Option.bind_some,xBh,l1,xBg,xDx,xCq,xBy,decide_true,Bool.not_true,l2,Int.reduceEq,Bool.not_false,xA0,xBb,xAP,xAV,xBk,xAD,xAS]
  · rw [if_neg (by omega)]
    rw [k1] at l1
    simp (maxSteps := 30000000) (disch := first | assumption | omega | (simp only [List.length_cons,List.length_nil,List.length_append,List.length_set,List.length_replicate,List.length_map,List.length_range,List.length_take,List.length_drop,List.all_cons,List.all_nil,AV.isCell,Bool.and_self,Bool.and_true,xAh,xAb,xAe,xAa,xAo] <;> omega) | rfl | decide) only [xAT,List.length_cons,List.length_nil,Nat.zero_add,Nat.reduceSub,xCF,List.cons_append,List.nil_append,xAq,xAf,xAc,xAk,xBv,AV.cells,opv,List.getD_cons_zero,List.all_cons,AV.isCell,List.all_nil,Bool.and_self,↓reduceIte,xAr,List.set_cons_succ,List.set_cons_zero,xAi,xAz,xAg,xAj,xAd,xAQ,List.getD_cons_succ,xAC,Nat.add_zero,xAm,xAH,xA1,List.getElem?_cons_zero,xAu,List.drop_zero,List.take_succ_cons,List.take_zero,xAM,xAB,xAw,c1,decide_false,xAK,xAA,xBS,c2,xA9,xAL,Bool.false_eq_true,xAp,xAl,xAx,List.drop_succ_cons,c3,c4,List.take_nil,xA3,xA4,e5,c5,xBH,List.map_cons,List.map_nil,xBi,xBP,List.mapM_cons,xB0,xBa,List.mapM_nil,Option.pure_def,Option.bind_eq_bind,Option.bind_some,xBh,l1,xBg,xDx,xCq,xBy,Int.reduceEq,Bool.not_false,xA0,xBb,xAP,xAV,xBk,xAD,xAS]
end Go.Abs.Det

/- The reference's after and index. -/
namespace Go.Abs.Det
open Go Go.Abs
set_option linter.unusedSimpArgs false
set_option linter.unusedVariables false

theorem xN6 {l : List Int} {z : Bool} {q : Int} {s4 : AV} {H : xAv} (hl : l.length < 1099511627776) : ∀ d i,i + d = l.length →
    ∃ e s s5,L.loop xMb xTz ⟨xMc (iw z l) (.int .i64 q) s4 (.int .i64 (i : Nat)),H⟩ = some (e,⟨xMc (iw z l) (.int .i64 q) s s5,H⟩) ∧ ((e = .ret ∧ s = .bool true ∧ (l.drop i).contains q = true) ∨ (e = .exit 0 ∧ (l.drop i).contains q = false)) := by
  intro d
  induction d with
  | zero =>
    intro i h
    obtain rfl : i = l.length := by omega
    refine ⟨.exit 0,s4,.int .i64 (l.length : Nat),?_,.inr ⟨rfl,by simp⟩⟩
    rw [xQ7]
    simp (maxSteps := 30000000) (disch := first | assumption | omega | (simp only [List.length_cons,List.length_nil,List.length_append,List.length_set,List.length_replicate,List.length_map,List.length_range,List.length_take,List.length_drop,List.all_cons,List.all_nil,AV.isCell,Bool.and_self,Bool.and_true,xAh,xAb,xAe,xAa,xAa,List.length_map,xAo] <;> omega) | rfl | decide) only [xMa,xAq,xAf,xAc,xAk,xAz,opv,List.getD_cons_succ,List.getD_cons_zero,xAr,List.set_cons_succ,List.set_cons_zero,xAi,xA3,xA4,xAm,xAB,xAw,Int.lt_irrefl,decide_false,xAg,xAj,xAd,xAp,xAl,Bool.false_eq_true,↓reduceIte,xBm,xA6,xAX,xMd]
  | succ d ih =>
    intro i h
    have hlt : (i : Int) < (l.length : Nat) := by omega
    rw [xDU (by omega : i < l.length),List.contains_cons]
    by_cases c : l.getD i 0 = q
    · refine ⟨.ret,.bool true,.int .i64 (i : Nat),?_,.inl ⟨rfl,rfl,by rw [c,beq_self_eq_true,Bool.true_or]⟩⟩
      rw [xQ7]
      simp (maxSteps := 30000000) (disch := first | assumption | omega | (simp only [List.length_cons,List.length_nil,List.length_append,List.length_set,List.length_replicate,List.length_map,List.length_range,List.length_take,List.length_drop,List.all_cons,List.all_nil,AV.isCell,Bool.and_self,Bool.and_true,xAh,xAb,xAe,xAa,xAa,List.length_map,xAo] <;> omega) | rfl | decide) only [xMa,xAq,xAf,xAc,xAk,xAz,opv,List.getD_cons_succ,List.getD_cons_zero,xAr,List.set_cons_succ,List.set_cons_zero,xAi,xA3,xA4,xAm,xAB,xAw,hlt,decide_true,xAg,xAj,xAd,xAp,xAl,↓reduceIte,xAx,xAs,xAW,xAY,Int.toNat_natCast,Nat.mul_one,xAH,xBn,xB1,xBR,xCu,xBW,Nat.add_zero,c,xAM,xC3,xA0,xA8,xBb,xBK,xMd]
    · obtain ⟨e,s,s5,h1,h2⟩ := ih (i + 1) (by omega)
      have hb : (q == l.getD i 0) = false := by rw [beq_eq_false_iff_ne]; exact fun e => c e.symm
      refine ⟨e,s,s5,?_,by rw [hb,Bool.false_or]; exact h2⟩
      rw [xQ7]
      simp (maxSteps := 30000000) (disch := first | assumption | omega | (simp only [List.length_cons,List.length_nil,List.length_append,List.length_set,List.length_replicate,List.length_map,List.length_range,List.length_take,List.length_drop,List.all_cons,List.all_nil,AV.isCell,Bool.and_self,Bool.and_true,xAh,xAb,xAe,xAa,xAa,List.length_map,xAo] <;> omega) | rfl | decide) only [xMa,xAq,xAf,xAc,xAk,xAz,opv,List.getD_cons_succ,List.getD_cons_zero,xAr,List.set_cons_succ,List.set_cons_zero,xAi,xA3,xA4,xAm,xAB,xAw,hlt,decide_true,xAg,xAj,xAd,xAp,xAl,↓reduceIte,xAx,xAs,xAW,xAY,Int.toNat_natCast,Nat.mul_one,xAH,xBn,xB1,xBR,xCu,xBW,Nat.add_zero,xAM,xC3,c,decide_false,Bool.false_eq_true,xAt,xBf,xB6,xCQ,xAy,xMd,h1]
theorem xK2 (z : Bool) (l : List Int) (q : Int) (hl : l.length < 1099511627776) : L.pcall 85 [iw z l,.int .i64 q] = some (.bool (l.contains q)) := by
  obtain ⟨e,s,s5,h1,h2⟩ := xN6 (z := z) (q := q) (s4 := .bool false) (H := []) hl l.length 0 (by omega)
  simp only [Int.natCast_zero,List.drop_zero] at h1 h2
  rcases h2 with ⟨rfl,rfl,hc⟩ | ⟨rfl,hc⟩
  · rw [hc,yDw,a85,xBA]
    simp (maxSteps := 30000000) (disch := first | assumption | omega | (simp only [List.length_cons,List.length_nil,List.length_append,List.length_set,List.length_replicate,List.length_map,List.length_range,List.length_take,List.length_drop,List.all_cons,List.all_nil,AV.isCell,Bool.and_self,Bool.and_true,xAh,xAb,xAe,xAa,xAa,List.length_map,xAo] <;> omega) | rfl | decide) only [xAT,List.length_cons,List.length_nil,Nat.zero_add,Nat.reduceAdd,Nat.reduceSub,xCF,List.cons_append,List.nil_append,xAq,xAf,xAc,xAk,xAz,opv,xAr,List.set_cons_succ,List.set_cons_zero,xAi,xAg,xAj,xAd,xAs,xA7,xMd,h1,xA8,xBb,xAP,xAV,xBk,List.getD_cons_succ,List.getD_cons_zero,xAD,xAS,xBP,xCr]
  · rw [hc,yDw,a85,xBA]
    simp (maxSteps := 30000000) (disch := first | assumption | omega | (simp only [List.length_cons,List.length_nil,List.length_append,List.length_set,List.length_replicate,List.length_map,List.length_range,List.length_take,List.length_drop,List.all_cons,List.all_nil,AV.isCell,Bool.and_self,Bool.and_true,xAh,xAb,xAe,xAa,xAa,List.length_map,xAo] <;> omega) | rfl | decide) only [xAT,List.length_cons,List.length_nil,Nat.zero_add,Nat.reduceAdd,Nat.reduceSub,xCF,List.cons_append,List.nil_append,xAq,xAf,xAc,xAk,xAz,opv,xAr,List.set_cons_succ,List.set_cons_zero,xAi,xAg,xAj,xAd,xAs,xA7,xMd,h1,xAR,↓reduceIte,xA0,xAP,xAV,xBk,List.getD_cons_succ,List.getD_cons_zero,xAD,xAS,xBP,xCr]

theorem xSS (x p n : Nat) (hp : p < 256) (hn : n < 256) (hx : x < 256) : L.pcall 111 [.int .u8 (x : Nat),.int .u8 (p : Nat),.int .u8 (n : Nat)] = some (.bool (xQk p n x)) := by
  have h1 := xVj hx hp
  have h2 := xVj hx hn
  have e1 : (((x &&& p : Nat) : Int) = ((p : Nat) : Int)) = (x &&& p = p) := propext ⟨fun h => by omega,fun h => by omega⟩
  have e2 : (((x &&& n : Nat) : Int) = 0) = (x &&& n = 0) := propext ⟨fun h => by omega,fun h => by omega⟩
  unfold xQk
  rw [yBL,yAw,xBA]
  by_cases c1 : x &&& p = p <;> by_cases c2 : x &&& n = 0 <;> simp (maxSteps := 30000000) (disch := first | assumption | omega | (simp only [List.length_cons,List.length_nil,List.length_append,List.length_set,List.length_replicate,List.length_map,List.length_range,List.length_take,List.length_drop,List.all_cons,List.all_nil,AV.isCell,Bool.and_self,Bool.and_true,xAh,xAb,xAe,xAa,xAa,List.length_map,xAo] <;> omega) | rfl | decide) only [xAT,List.length_cons,List.length_nil,Nat.zero_add,Nat.reduceAdd,Nat.reduceSub,xCF,List.cons_append,List.nil_append,xAq,xAf,xAc,xAk,xAz,opv,xAr,List.set_cons_succ,List.set_cons_zero,xAi,xAg,xAj,xAd,List.getD_cons_zero,List.getD_cons_succ,xAB,xC2,h1,c1,xAm,xC3,decide_true,xAK,xAA,↓reduceIte,h2,c2,xC0,xA9,xAL,xA0,xAP,xAV,xBk,xAD,xAS,xBP,xCr,Bool.and_self,e2,decide_false,Bool.and_false,e1,Bool.false_eq_true,xCc,Bool.and_true]

def gives (lL lR : List Int) (x : Nat) (s : Int) (u : Rl) : Bool := decide (u.t = s) && xQk u.p u.n x && lL.contains u.l && lR.contains u.r

section
variable {n : Aut} {lL lR : List Int} {zl zr : Bool} {x : Nat}
theorem xUM {s9 s12 : AV} {s : Int} {i : Nat} {G : xAv} (h0 : G[0]? = some (.cells false false n.cells)) (hl : n.rl.length < 1099511627776) (hi : i ≤ n.rl.length) : L.loop xJT xQ4 ⟨xIu (iw zl lL) (iw zr lR) (.int .u8 (x : Nat)) (.ptr 0 0) s9 (.int .i64 s) (.bool true) (.int .i64 (i : Nat)),G⟩ =
    some (.exit 2,⟨xIu (iw zl lL) (iw zr lR) (.int .u8 (x : Nat)) (.ptr 0 0) s9 (.int .i64 s) (.bool true) (.int .i64 (i : Nat)),G⟩) := by
  by_cases c : (i : Int) < (n.rl.length : Nat)
  · rw [xHE]
    simp (maxSteps := 30000000) (disch := first | assumption | omega | (simp only [List.length_cons,List.length_nil,List.length_append,List.length_set,List.length_replicate,List.length_map,List.length_range,List.length_take,List.length_drop,List.all_cons,List.all_nil,AV.isCell,Bool.and_self,Bool.and_true,xAh,xAb,xAe,xAa,xAa,List.length_map,xAo] <;> omega) | rfl | decide) only [xF8,xAq,xAf,xAc,xAk,xAz,opv,List.getD_cons_succ,List.getD_cons_zero,xAr,List.set_cons_succ,List.set_cons_zero,xAi,xAQ,xAC,Nat.zero_add,xAm,xAH,xA1,h0,xAu,List.drop_succ_cons,List.drop_zero,List.take_succ_cons,List.take_nil,xAM,xA3,xA4,xAB,xAw,c,decide_true,xAK,xAA,↓reduceIte,xGn,xEh,Bool.not_true,xA9,xAL,xAg,xAj,xAd,xAp,xAl,Bool.false_eq_true,xBm,xA6,xAX,xF9]
  · rw [xHE]
    simp (maxSteps := 30000000) (disch := first | assumption | omega | (simp only [List.length_cons,List.length_nil,List.length_append,List.length_set,List.length_replicate,List.length_map,List.length_range,List.length_take,List.length_drop,List.all_cons,List.all_nil,AV.isCell,Bool.and_self,Bool.and_true,xAh,xAb,xAe,xAa,xAa,List.length_map,xAo] <;> omega) | rfl | decide) only [xF8,xAq,xAf,xAc,xAk,xAz,opv,List.getD_cons_succ,List.getD_cons_zero,xAr,List.set_cons_succ,List.set_cons_zero,xAi,xAQ,xAC,Nat.zero_add,xAm,xAH,xA1,h0,xAu,List.drop_succ_cons,List.drop_zero,List.take_succ_cons,List.take_nil,xAM,xA3,xA4,xAB,xAw,c,decide_false,xAK,xAA,Bool.false_eq_true,↓reduceIte,xCc,xA9,xAL,xAg,xAj,xAd,xAp,xAl,xBm,xA6,xAX,xF9]

set_option maxHeartbeats 2000000 in
theorem yAj {s9 : AV} {s : Int} (hl : n.rl.length < 1099511627776) (hb : ∀ e ∈ n.rl,e.p < 256 ∧ e.n < 256) (hL : lL.length < 1099511627776) (hR : lR.length < 1099511627776) (hx : x < 256) : ∀ d i G,i + d = n.rl.length → G[0]? = some (.cells false false n.cells) →
    ∃ X s12,L.loop xJT xQ4 ⟨xIu (iw zl lL) (iw zr lR) (.int .u8 (x : Nat)) (.ptr 0 0) s9 (.int .i64 s) (.bool false) (.int .i64 (i : Nat)),G⟩ =
      some (.exit 2,⟨xIu (iw zl lL) (iw zr lR) (.int .u8 (x : Nat)) (.ptr 0 0) s9 (.int .i64 s) (.bool ((n.rl.drop i).any (gives lL lR x s))) s12,G ++ X⟩) := by
  intro d
  induction d with
  | zero =>
    intro i G h h0
    obtain rfl : i = n.rl.length := by omega
    refine ⟨[],.int .i64 (n.rl.length : Nat),?_⟩
    rw [List.drop_length,List.append_nil,xHE]
    simp (maxSteps := 30000000) (disch := first | assumption | omega | (simp only [List.length_cons,List.length_nil,List.length_append,List.length_set,List.length_replicate,List.length_map,List.length_range,List.length_take,List.length_drop,List.all_cons,List.all_nil,AV.isCell,Bool.and_self,Bool.and_true,xAh,xAb,xAe,xAa,xAa,List.length_map,xAo] <;> omega) | rfl | decide) only [xF8,xAq,xAf,xAc,xAk,xAz,opv,List.getD_cons_succ,List.getD_cons_zero,xAr,List.set_cons_succ,List.set_cons_zero,xAi,xAQ,xAC,Nat.zero_add,xAm,xAH,xA1,h0,xAu,List.drop_succ_cons,List.drop_zero,List.take_succ_cons,List.take_nil,xAM,xA3,xA4,xAB,xAw,Int.lt_irrefl,decide_false,xAK,xAA,Bool.false_eq_true,↓reduceIte,xCc,xA9,xAL,xAg,xAj,xAd,xAp,xAl,xBm,xA6,xAX,xF9,List.any_nil]
  | succ d ih =>
    intro i G h h0
    have hlt : (i : Int) < (n.rl.length : Nat) := by omega
    have hi : i < n.rl.length := by omega
    have hu := hb _ (xG6 hi)
    have hat := xDr hi
    rw [xFG hi,List.any_cons]
    generalize n.rl.getD i rl0 = u at *
    have k1 := xSS x u.p u.n hu.1 hu.2 hx
    have k2 := xK2 zl lL u.l hL
    have k3 := xK2 zr lR u.r hR
    obtain ⟨Y,hY⟩ : ∃ Y,Y = Blk.cells false false [.int .i64 u.l,.int .i64 u.r,.int .i64 u.t,.int .u8 (u.p : Nat),.int .u8 (u.n : Nat)] := ⟨_,rfl⟩
    have h1 := xBQ (X := [Y]) h0
    have hst := xUM (zl := zl) (zr := zr) (lL := lL) (lR := lR) (x := x) (s9 := s9) (s12 := .any) (s := s) (i := i + 1) h1 hl (by omega)
    obtain ⟨X,s12,ih⟩ := ih (i + 1) (G ++ [Y]) (by omega) h1
    rw [List.append_assoc] at ih
    have miss : gives lL lR x s u = false → ∀ {b : Bool},(gives lL lR x s u || b) = b := fun h b => by rw [h]; rfl
    by_cases c1 : u.t = s
    · have ct := eq_true c1
      cases c2 : xQk u.p u.n x with
      | true =>
        rw [c2] at k1
        cases c3 : lL.contains u.l with
        | true =>
          rw [c3] at k2
          cases c4 : lR.contains u.r with
          | true =>
            rw [c4] at k3
            have hg : gives lL lR x s u = true := by unfold gives; rw [c2,c3,c4]; simp [c1]
            refine ⟨[Y],.int .i64 ((i + 1 : Nat) : Int),?_⟩
            rw [hg,Bool.true_or]
            rw [hY] at hst ⊢
            rw [xHE]
            simp (maxSteps := 30000000) (disch := first | assumption | omega | (simp only [List.length_cons,List.length_nil,List.length_append,List.length_set,List.length_replicate,List.length_map,List.length_range,List.length_take,List.length_drop,List.all_cons,List.all_nil,AV.isCell,Bool.and_self,Bool.and_true,xAh,xAb,xAe,xAa,xAa,List.length_map,xAo] <;> omega) | rfl | decide) only [xF8,xAq,xAf,xAc,xAk,xAz,opv,List.getD_cons_succ,List.getD_cons_zero,xAr,List.set_cons_succ,List.set_cons_zero,xAi,xAQ,xAC,Nat.zero_add,xAm,xAH,xA1,h0,xAu,List.drop_succ_cons,List.drop_zero,List.take_succ_cons,List.take_nil,xAM,xA3,xA4,xAB,xAw,hlt,decide_true,xAK,xAA,↓reduceIte,xGn,xEh,Bool.not_false,xA9,xAL,xAg,xAj,xAd,xAp,xAl,xAx,xAs,xAW,xAY,Int.toNat_natCast,xBn,hat,xBz,xBv,AV.cells,List.all_cons,AV.isCell,List.all_nil,Bool.and_self,xBe,List.length_cons,List.length_nil,Nat.reduceAdd,xBJ,xCy,List.getElem?_cons_zero,xAZ,xBl,List.take_zero,List.nil_append,List.drop_nil,List.append_nil,xC1,xAN,xBq,xC3,ct,xBH,List.map_cons,List.map_nil,xBi,xBP,List.mapM_cons,xBa,List.mapM_nil,Option.pure_def,Option.bind_eq_bind,Option.bind_some,xBh,k1,xBg,xDx,xCq,Nat.add_zero,xB0,k2,k3,xAt,xBf,xB6,xCQ,xAy,xF9,hst]
          | false =>
            rw [c4] at k3
            refine ⟨Y :: X,s12,?_⟩
            rw [miss (by unfold gives; rw [c4]; simp)]
            rw [hY] at ih ⊢
            simp only [List.cons_append,List.nil_append] at ih
            rw [xHE]
            simp (maxSteps := 30000000) (disch := first | assumption | omega | (simp only [List.length_cons,List.length_nil,List.length_append,List.length_set,List.length_replicate,List.length_map,List.length_range,List.length_take,List.length_drop,List.all_cons,List.all_nil,AV.isCell,Bool.and_self,Bool.and_true,xAh,xAb,xAe,xAa,xAa,List.length_map,xAo] <;> omega) | rfl | decide) only [xF8,xAq,xAf,xAc,xAk,xAz,opv,List.getD_cons_succ,List.getD_cons_zero,xAr,List.set_cons_succ,List.set_cons_zero,xAi,xAQ,xAC,Nat.zero_add,xAm,xAH,xA1,h0,xAu,List.drop_succ_cons,List.drop_zero,List.take_succ_cons,List.take_nil,xAM,xA3,xA4,xAB,xAw,hlt,decide_true,xAK,xAA,↓reduceIte,xGn,xEh,Bool.not_false,xA9,xAL,xAg,xAj,xAd,xAp,xAl,xAx,xAs,xAW,xAY,Int.toNat_natCast,xBn,hat,xBz,xBv,AV.cells,List.all_cons,AV.isCell,List.all_nil,Bool.and_self,xBe,List.length_cons,List.length_nil,Nat.reduceAdd,xBJ,xCy,List.getElem?_cons_zero,xAZ,xBl,List.take_zero,List.nil_append,List.drop_nil,List.append_nil,xC1,xAN,xBq,xC3,ct,xBH,List.map_cons,List.map_nil,xBi,xBP,List.mapM_cons,xBa,List.mapM_nil,Option.pure_def,Option.bind_eq_bind,Option.bind_some,xBh,k1,xBg,xDx,xCq,Nat.add_zero,xB0,k2,k3,xAt,xBf,xB6,xCQ,xAy,xF9,ih]
        | false =>
          rw [c3] at k2
          refine ⟨Y :: X,s12,?_⟩
          rw [miss (by unfold gives; rw [c3]; simp)]
          rw [hY] at ih ⊢
          simp only [List.cons_append,List.nil_append] at ih
          rw [xHE]
          simp (maxSteps := 30000000) (disch := first | assumption | omega | (simp only [List.length_cons,List.length_nil,List.length_append,List.length_set,List.length_replicate,List.length_map,List.length_range,List.length_take,List.length_drop,List.all_cons,List.all_nil,AV.isCell,Bool.and_self,Bool.and_true,xAh,xAb,xAe,xAa,xAa,List.length_map,xAo] <;> omega) | rfl | decide) only [xF8,xAq,xAf,xAc,xAk,xAz,opv,List.getD_cons_succ,List.getD_cons_zero,xAr,List.set_cons_succ,List.set_cons_zero,xAi,xAQ,xAC,Nat.zero_add,xAm,xAH,xA1,h0,xAu,List.drop_succ_cons,List.drop_zero,List.take_succ_cons,List.take_nil,xAM,xA3,xA4,xAB,xAw,hlt,decide_true,xAK,xAA,↓reduceIte,xGn,xEh,Bool.not_false,xA9,xAL,xAg,xAj,xAd,xAp,xAl,xAx,xAs,xAW,xAY,Int.toNat_natCast,xBn,hat,xBz,xBv,AV.cells,List.all_cons,AV.isCell,List.all_nil,Bool.and_self,xBe,List.length_cons,List.length_nil,Nat.reduceAdd,xBJ,xCy,List.getElem?_cons_zero,xAZ,xBl,List.take_zero,List.nil_append,List.drop_nil,List.append_nil,xC1,xAN,xBq,xC3,ct,xBH,List.map_cons,List.map_nil,xBi,xBP,List.mapM_cons,xBa,List.mapM_nil,Option.pure_def,Option.bind_eq_bind,Option.bind_some,xBh,k1,xBg,xDx,xCq,Nat.add_zero,xB0,k2,Bool.false_eq_true,xCc,xAt,xBf,xB6,xCQ,xAy,xF9,ih]
      | false =>
        rw [c2] at k1
        refine ⟨Y :: X,s12,?_⟩
        rw [miss (by unfold gives; rw [c2]; simp)]
        rw [hY] at ih ⊢
        simp only [List.cons_append,List.nil_append] at ih
        rw [xHE]
        simp (maxSteps := 30000000) (disch := first | assumption | omega | (simp only [List.length_cons,List.length_nil,List.length_append,List.length_set,List.length_replicate,List.length_map,List.length_range,List.length_take,List.length_drop,List.all_cons,List.all_nil,AV.isCell,Bool.and_self,Bool.and_true,xAh,xAb,xAe,xAa,xAa,List.length_map,xAo] <;> omega) | rfl | decide) only [xF8,xAq,xAf,xAc,xAk,xAz,opv,List.getD_cons_succ,List.getD_cons_zero,xAr,List.set_cons_succ,List.set_cons_zero,xAi,xAQ,xAC,Nat.zero_add,xAm,xAH,xA1,h0,xAu,List.drop_succ_cons,List.drop_zero,List.take_succ_cons,List.take_nil,xAM,xA3,xA4,xAB,xAw,hlt,decide_true,xAK,xAA,↓reduceIte,xGn,xEh,Bool.not_false,xA9,xAL,xAg,xAj,xAd,xAp,xAl,xAx,xAs,xAW,xAY,Int.toNat_natCast,xBn,hat,xBz,xBv,AV.cells,List.all_cons,AV.isCell,List.all_nil,Bool.and_self,xBe,List.length_cons,List.length_nil,Nat.reduceAdd,xBJ,xCy,List.getElem?_cons_zero,xAZ,xBl,List.take_zero,List.nil_append,List.drop_nil,List.append_nil,xC1,xAN,xBq,xC3,ct,xBH,List.map_cons,List.map_nil,xBi,xBP,List.mapM_cons,xBa,List.mapM_nil,Option.pure_def,Option.bind_eq_bind,Option.bind_some,xBh,k1,xBg,xDx,xCq,Bool.false_eq_true,xCc,xAt,xBf,xB6,xCQ,xAy,xF9,ih]
    · refine ⟨Y :: X,s12,?_⟩
      rw [miss (by unfold gives; simp [c1])]
      rw [hY] at ih ⊢
      simp only [List.cons_append,List.nil_append] at ih
      rw [xHE]
      simp (maxSteps := 30000000) (disch := first | assumption | omega | (simp only [List.length_cons,List.length_nil,List.length_append,List.length_set,List.length_replicate,List.length_map,List.length_range,List.length_take,List.length_drop,List.all_cons,List.all_nil,AV.isCell,Bool.and_self,Bool.and_true,xAh,xAb,xAe,xAa,xAa,List.length_map,xAo] <;> omega) | rfl | decide) only [xF8,xAq,xAf,xAc,xAk,xAz,opv,List.getD_cons_succ,List.getD_cons_zero,xAr,List.set_cons_succ,List.set_cons_zero,xAi,xAQ,xAC,Nat.zero_add,xAm,xAH,xA1,h0,xAu,List.drop_succ_cons,List.drop_zero,List.take_succ_cons,List.take_nil,xAM,xA3,xA4,xAB,xAw,hlt,decide_true,xAK,xAA,↓reduceIte,xGn,xEh,Bool.not_false,xA9,xAL,xAg,xAj,xAd,xAp,xAl,xAx,xAs,xAW,xAY,Int.toNat_natCast,xBn,hat,xBz,xBv,AV.cells,List.all_cons,AV.isCell,List.all_nil,Bool.and_self,xBe,List.length_cons,List.length_nil,Nat.reduceAdd,xBJ,xCy,List.getElem?_cons_zero,xAZ,xBl,List.take_zero,List.nil_append,List.drop_nil,List.append_nil,xC1,xAN,xBq,xC3,c1,decide_false,Bool.false_eq_true,xCc,xAt,xBf,xB6,xCQ,xAy,xF9,ih]
end
end Go.Abs.Det

/- The reference's after and index on sets. -/
namespace Go.Abs.Det
open Go Go.Abs
set_option linter.unusedSimpArgs false
set_option linter.unusedVariables false

theorem xST {w : Nat} {s : Nat} (h : ∀ j,s ≤ j → w.testBit j = false) : ∀ d,lsW w (s + d) = lsW w s
  | 0 => rfl
  | d + 1 => by
    rw [show s + (d + 1) = s + d + 1 by omega,xK3,h (s + d) (by omega),if_neg (by simp),xST h d]
theorem xX3 {a b : Nat} (ha : a < 18446744073709551616) (hb : b < 18446744073709551616) (h : lsW a 64 = lsW b 64) : a = b := by
  refine Nat.eq_of_testBit_eq fun j => ?_
  by_cases hj : j < 64
  · have h1 := xJu a j
    have h2 := xJu b j
    rw [h,h2] at h1
    simpa [hj] using h1.symm
  · have p : (2 : Nat) ^ 64 ≤ 2 ^ j := Nat.pow_le_pow_right (by omega) (by omega)
    rw [Nat.testBit_lt_two_pow (by omega),Nat.testBit_lt_two_pow (by omega)]

theorem xUN {n : Aut} (hb : xQl n.rl) {a b x s : Nat} : n.rl.any (gives (lsW a 64) (lsW b 64) x (s : Nat)) = (aft n a b x).testBit s := by
  rw [xN0 _ _ _ _ _ _ (fun e he => (hb e he).2.2.1.1),Nat.zero_testBit,Bool.false_or]
  have : ∀ u ∈ n.rl,gives (lsW a 64) (lsW b 64) x (s : Nat) u = (hit a b x u && decide (u.t = (s : Int))) := fun u hu => by
    obtain ⟨⟨l0,l1⟩,⟨r0,r1⟩,_⟩ := hb u hu
    have e1 := xJu a u.l.toNat
    have e2 := xJu b u.r.toNat
    rw [Int.toNat_of_nonneg l0,decide_eq_true (show u.l.toNat < 64 by omega),Bool.true_and] at e1
    rw [Int.toNat_of_nonneg r0,decide_eq_true (show u.r.toNat < 64 by omega),Bool.true_and] at e2
    unfold gives hit
    rw [e1,e2]
    cases decide (u.t = (s : Int)) <;> cases xQk u.p u.n x <;> cases a.testBit u.l.toNat <;> cases b.testBit u.r.toNat <;> rfl
  generalize n.rl = R at *
  clear hb
  induction R with
  | nil => rfl
  | cons u t ih =>
    rw [List.any_cons,List.any_cons,this u (by simp),ih (fun v hv => this v (by simp [hv]))]
theorem xX4 {n : Aut} (hV : Valid n) (hb : xQl n.rl) {a b x j : Nat} (hj : n.states.toNat ≤ j) : (aft n a b x).testBit j = false := by
  rw [xN0 _ _ _ _ _ _ (fun e he => (hb e he).2.2.1.1),Nat.zero_testBit,Bool.false_or,List.any_eq_false]
  intro u hu h
  have := (hV.rule u hu).2.2
  simp only [Bool.and_eq_true,decide_eq_true_eq] at h
  omega

set_option maxHeartbeats 1000000 in
theorem xX5 {n : Aut} (hV : Valid n) (hT : TyA n) {a b x : Nat} {zl zr : Bool} (hx : x < 256) : ∀ d s v G,s + d = n.states.toNat → G[0]? = some (.cells false false n.cells) → Lst 1 G v (ints (lsW (aft n a b x) s)) →
    ∃ v' G',L.loop xL4 xTx ⟨xL5 (iw zl (lsW a 64)) (iw zr (lsW b 64)) (.int .u8 (x : Nat)) (.ptr 0 0) v (.int .i64 (s : Nat)),G⟩ =
      some (.exit 0,⟨xL5 (iw zl (lsW a 64)) (iw zr (lsW b 64)) (.int .u8 (x : Nat)) (.ptr 0 0) v' (.int .i64 (n.states.toNat : Nat)),G'⟩) ∧ Lst 1 G' v' (ints (lsW (aft n a b x) n.states.toNat)) := by
  have hb := hV.ok hT
  have hs64 := hV.s64
  have hs0 := hV.s0
  have hst : n.states = ((n.states.toNat : Nat) : Int) := by omega
  intro d
  induction d with
  | zero =>
    intro s v G h h0 hv
    obtain rfl : s = n.states.toNat := by omega
    refine ⟨v,G,?_,hv⟩
    have c : ¬ (((n.states.toNat : Nat) : Int) < n.states) := by omega
    rw [xQ5]
    simp (maxSteps := 30000000) (disch := first | assumption | omega | (simp only [List.length_cons,List.length_nil,List.length_append,List.length_set,List.length_replicate,List.length_map,List.length_range,List.length_take,List.length_drop,List.all_cons,List.all_nil,AV.isCell,Bool.and_self,Bool.and_true,xAh,xAb,xAe,xAa,xAa,List.length_map,xAo] <;> omega) | rfl | decide) only [xL3,xAq,xAf,xAc,xAk,xAz,opv,List.getD_cons_succ,List.getD_cons_zero,xAr,List.set_cons_succ,List.set_cons_zero,xAi,xAQ,xAC,Nat.zero_add,xAm,xAH,xA1,h0,xAu,List.drop_succ_cons,List.drop_zero,List.take_succ_cons,List.take_zero,xAM,xAB,xAw,c,decide_false,xAg,xAj,xAd,xAp,xAl,Bool.false_eq_true,↓reduceIte,xBm,xA6,xAX,xOH]
  | succ d ih =>
    intro s v G h h0 hv
    have hlt : (s : Int) < n.states := by omega
    have hbit := xUN (n := n) hb (a := a) (b := b) (x := x) (s := s)
    have hls := xK3 (aft n a b x) s
    have hln := xEJ (aft n a b x) s
    have lA := xEJ a 64
    have lB := xEJ b 64
    obtain ⟨X,s12,q1⟩ := yAj (zl := zl) (zr := zr) (lL := lsW a 64) (lR := lsW b 64) (x := x) (s9 := v) (s := (s : Nat)) hT.rl hT.u8 (by omega) (by omega) hx n.rl.length 0 G (by omega) h0
    rw [List.drop_zero,hbit] at q1
    simp only [Int.natCast_zero] at q1
    have h0' := xBQ (X := X) h0
    have hG := (List.getElem?_eq_some_iff.1 h0).1
    have hv' : Lst 1 (G ++ X) v (ints (lsW (aft n a b x) s)) := hv.keep (C := G.length) ⟨by simp,fun b hb => List.getElem?_append_left hb⟩ (Nat.le_refl _)
    cases c : (aft n a b x).testBit s with
    | true =>
      rw [c] at q1 hls
      rw [if_pos rfl] at hls
      obtain ⟨v1,G1,p1,p2,p3⟩ := hv'.push (.int .i64 (s : Nat)) (bytes := 8) (by rw [xAa]; omega) (by rw [xAa]; omega) (by rw [List.length_append]; omega)
      have e2 : ints (lsW (aft n a b x) s) ++ [AV.int .i64 (s : Nat)] = ints (lsW (aft n a b x) (s + 1)) := by rw [hls]; simp [ints]
      rw [e2] at p2
      obtain ⟨v',G',r1,r2⟩ := ih (s + 1) v1 G1 (by omega) (p3.get (by omega) h0') p2
      refine ⟨v',G',?_,r2⟩
      rw [xQ5]
      simp (maxSteps := 30000000) (disch := first | assumption | omega | (simp only [List.length_cons,List.length_nil,List.length_append,List.length_set,List.length_replicate,List.length_map,List.length_range,List.length_take,List.length_drop,List.all_cons,List.all_nil,AV.isCell,Bool.and_self,Bool.and_true,xAh,xAb,xAe,xAa,xAa,List.length_map,xAo] <;> omega) | rfl | decide) only [xL3,xAq,xAf,xAc,xAk,xAz,opv,List.getD_cons_succ,List.getD_cons_zero,xAr,List.set_cons_succ,List.set_cons_zero,xAi,xAQ,xAC,Nat.zero_add,xAm,xAH,xA1,h0,xAu,List.drop_succ_cons,List.drop_zero,List.take_succ_cons,List.take_zero,xAM,xAB,xAw,hlt,decide_true,xAg,xAj,xAd,xAp,xAl,↓reduceIte,xAx,xAs,xA7,xF9,q1,xAR,xBY,AV.cells,List.all_cons,List.length_cons,List.length_nil,beq_self_eq_true,List.all_nil,Bool.and_self,xDh,List.append_nil,Nat.mul_one,List.map_cons,List.map_nil,xCm,Nat.le_refl,AV.isCell,and_self,xBl,List.nil_append,List.drop_nil,xBX,xCn,xBP,List.flatMap_cons,xCp,List.flatMap_nil,List.isEmpty_nil,List.mapM_cons,xBa,List.mapM_nil,Option.pure_def,Option.bind_eq_bind,Option.bind_some,xCi,xBZ,xDs,p1,xAt,xBf,xB6,xCQ,xAy,xOH,r1]
    | false =>
      rw [c] at q1 hls
      rw [if_neg (by simp)] at hls
      obtain ⟨v',G',r1,r2⟩ := ih (s + 1) v (G ++ X) (by omega) h0' (by rw [hls]; exact hv')
      refine ⟨v',G',?_,r2⟩
      rw [xQ5]
      simp (maxSteps := 30000000) (disch := first | assumption | omega | (simp only [List.length_cons,List.length_nil,List.length_append,List.length_set,List.length_replicate,List.length_map,List.length_range,List.length_take,List.length_drop,List.all_cons,List.all_nil,AV.isCell,Bool.and_self,Bool.and_true,xAh,xAb,xAe,xAa,xAa,List.length_map,xAo] <;> omega) | rfl | decide) only [xL3,xAq,xAf,xAc,xAk,xAz,opv,List.getD_cons_succ,List.getD_cons_zero,xAr,List.set_cons_succ,List.set_cons_zero,xAi,xAQ,xAC,Nat.zero_add,xAm,xAH,xA1,h0,xAu,List.drop_succ_cons,List.drop_zero,List.take_succ_cons,List.take_zero,xAM,xAB,xAw,hlt,decide_true,xAg,xAj,xAd,xAp,xAl,↓reduceIte,xAx,xAs,xA7,xF9,q1,xAR,Bool.false_eq_true,xAt,xBf,xB6,xCQ,xAy,xOH,r1]

theorem xSU {n : Aut} (hV : Valid n) (hT : TyA n) (a b x : Nat) (hx : x < 256) : L.pcall 83 [n.av,xCJ a,xCJ b,.int .u8 (x : Nat)] = some (xCJ (aft n a b x)) := by
  obtain ⟨v',G',q1,q2⟩ := xX5 (zl := ((lsW a 64).length == 0)) (zr := ((lsW b 64).length == 0)) hV hT (a := a) (b := b) hx n.states.toNat 0 (.sl true 0 []) [.cells false false n.cells] (by omega) rfl (.nil _ _)
  have hf := q2.dat (xHd _) 5
  have hs64 := hV.s64
  have hcut := xST (w := aft n a b x) (s := n.states.toNat) (fun j hj => xX4 hV (hV.ok hT) hj) (64 - n.states.toNat)
  rw [show n.states.toNat + (64 - n.states.toNat) = 64 by omega] at hcut
  rw [xAa] at hf
  simp only [Int.natCast_zero] at q1
  unfold xCJ
  rw [hcut]
  have lA := xEJ a 64
  have lB := xEJ b 64
  unfold Aut.av
  rw [yEC,a83,xBA]
  simp (maxSteps := 30000000) (disch := first | assumption | omega | (simp only [List.length_cons,List.length_nil,List.length_append,List.length_set,List.length_replicate,List.length_map,List.length_range,List.length_take,List.length_drop,List.all_cons,List.all_nil,AV.isCell,Bool.and_self,Bool.and_true,xAh,xAb,xAe,xAa,xAa,List.length_map,xAo] <;> omega) | rfl | decide) only [xAT,List.length_cons,List.length_nil,Nat.zero_add,Nat.reduceAdd,Nat.reduceSub,xCF,List.cons_append,List.nil_append,xAq,xAf,xAc,xAk,xBv,AV.cells,opv,List.getD_cons_zero,List.all_cons,AV.isCell,List.all_nil,Bool.and_self,↓reduceIte,xAr,List.set_cons_succ,List.set_cons_zero,xAi,xAz,xAg,xAj,xAd,xAs,xA7,xOH,q1,xAR,List.getD_cons_succ,xA0,xAP,xAV,xBk,xAD,xAS,xBP,hf]

theorem xSV {l l' : List Int} {z z' : Bool} {s4 : AV} {H : xAv} (hl : l.length < 1099511627776) (he : l'.length = l.length) : ∀ d i,i + d = l.length →
    ∃ e s s5,L.loop xJD xQs ⟨xId (iw z l) (iw z' l') s4 (.int .i64 (i : Nat)),H⟩ = some (e,⟨xId (iw z l) (iw z' l') s s5,H⟩) ∧ ((e = .ret ∧ s = .bool false ∧ l.drop i ≠ l'.drop i) ∨ (e = .exit 0 ∧ l.drop i = l'.drop i)) := by
  intro d
  induction d with
  | zero =>
    intro i h
    obtain rfl : i = l.length := by omega
    refine ⟨.exit 0,s4,.int .i64 (l.length : Nat),?_,.inr ⟨rfl,by rw [List.drop_length,← he,List.drop_length]⟩⟩
    rw [xK6]
    simp (maxSteps := 30000000) (disch := first | assumption | omega | (simp only [List.length_cons,List.length_nil,List.length_append,List.length_set,List.length_replicate,List.length_map,List.length_range,List.length_take,List.length_drop,List.all_cons,List.all_nil,AV.isCell,Bool.and_self,Bool.and_true,xAh,xAb,xAe,xAa,xAa,List.length_map,xAo] <;> omega) | rfl | decide) only [xIc,xAq,xAf,xAc,xAk,xAz,opv,List.getD_cons_succ,List.getD_cons_zero,xAr,List.set_cons_succ,List.set_cons_zero,xAi,xA3,xA4,xAm,xAB,xAw,Int.lt_irrefl,decide_false,xAg,xAj,xAd,xAp,xAl,Bool.false_eq_true,↓reduceIte,xBm,xA6,xAX,xHy]
  | succ d ih =>
    intro i h
    have hlt : (i : Int) < (l.length : Nat) := by omega
    have g1 : List.take 1 (List.drop i (ints l)) = [.int .i64 (l.getD i 0)] := xDv _ _ (by omega)
    have g2 : List.take 1 (List.drop i (ints l')) = [.int .i64 (l'.getD i 0)] := xDv _ _ (by omega)
    rw [xDU (by omega : i < l.length),xDU (by omega : i < l'.length)]
    by_cases c : l.getD i 0 = l'.getD i 0
    · obtain ⟨e,s,s5,h1,h2⟩ := ih (i + 1) (by omega)
      have ct := eq_true c
      refine ⟨e,s,s5,?_,?_⟩
      · rw [xK6]
        simp (maxSteps := 30000000) (disch := first | assumption | omega | (simp only [List.length_cons,List.length_nil,List.length_append,List.length_set,List.length_replicate,List.length_map,List.length_range,List.length_take,List.length_drop,List.all_cons,List.all_nil,AV.isCell,Bool.and_self,Bool.and_true,xAh,xAb,xAe,xAa,xAa,List.length_map,xAo] <;> omega) | rfl | decide) only [xIc,xAq,xAf,xAc,xAk,xAz,opv,List.getD_cons_succ,List.getD_cons_zero,xAr,List.set_cons_succ,List.set_cons_zero,xAi,xA3,xA4,xAm,xAB,xAw,hlt,decide_true,xAg,xAj,xAd,xAp,xAl,↓reduceIte,xAx,xAs,xBt,List.take_succ_cons,List.take_zero,xAU,xA5,xB4,xBj,xBp,xBd,xBL,xAW,xAY,Int.toNat_natCast,Nat.mul_one,xBE,xAH,xBn,xB1,xBR,xCu,xBW,Nat.add_zero,xAM,xA2,xBc,List.drop_succ_cons,List.drop_zero,xCf,xBo,xBy,ct,Bool.not_true,Bool.false_eq_true,xAt,xBf,xB6,xCQ,xAy,xHy,h1]
      · rcases h2 with ⟨a,b,k⟩ | ⟨a,k⟩
        · exact .inl ⟨a,b,fun q => k (List.cons.inj q).2⟩
        · exact .inr ⟨a,by rw [c,k]⟩
    · refine ⟨.ret,.bool false,.int .i64 (i : Nat),?_,.inl ⟨rfl,rfl,fun q => c (List.cons.inj q).1⟩⟩
      rw [xK6]
      simp (maxSteps := 30000000) (disch := first | assumption | omega | (simp only [List.length_cons,List.length_nil,List.length_append,List.length_set,List.length_replicate,List.length_map,List.length_range,List.length_take,List.length_drop,List.all_cons,List.all_nil,AV.isCell,Bool.and_self,Bool.and_true,xAh,xAb,xAe,xAa,xAa,List.length_map,xAo] <;> omega) | rfl | decide) only [xIc,xAq,xAf,xAc,xAk,xAz,opv,List.getD_cons_succ,List.getD_cons_zero,xAr,List.set_cons_succ,List.set_cons_zero,xAi,xA3,xA4,xAm,xAB,xAw,hlt,decide_true,xAg,xAj,xAd,xAp,xAl,↓reduceIte,xAx,xAs,xBt,List.take_succ_cons,List.take_zero,xAU,xA5,xB4,xBj,xBp,xBd,xBL,xAW,xAY,Int.toNat_natCast,Nat.mul_one,xBE,xAH,xBn,xB1,xBR,xCu,xBW,Nat.add_zero,xAM,xA2,xBc,List.drop_succ_cons,List.drop_zero,xCf,xBo,xBy,c,decide_false,Bool.not_false,xA0,xA8,xBb,xBK,xHy]
theorem yFd (z z' : Bool) (l l' : List Int) (hl : l.length < 1099511627776) (hl' : l'.length < 1099511627776) : L.pcall 20 [iw z l,iw z' l'] = some (.bool (decide (l = l'))) := by
  by_cases he : l'.length = l.length
  · obtain ⟨e,s,s5,h1,h2⟩ := xSV (z := z) (z' := z') (s4 := .bool false) (H := []) hl he l.length 0 (by omega)
    have he' : (((l.length : Nat) : Int) = (l'.length : Nat)) = True := eq_true (by omega)
    simp only [Int.natCast_zero,List.drop_zero] at h1 h2
    rcases h2 with ⟨rfl,rfl,hc⟩ | ⟨rfl,hc⟩
    · rw [decide_eq_false hc,yAx,a20,xBA]
      simp (maxSteps := 30000000) (disch := first | assumption | omega | (simp only [List.length_cons,List.length_nil,List.length_append,List.length_set,List.length_replicate,List.length_map,List.length_range,List.length_take,List.length_drop,List.all_cons,List.all_nil,AV.isCell,Bool.and_self,Bool.and_true,xAh,xAb,xAe,xAa,xAa,List.length_map,xAo] <;> omega) | rfl | decide) only [xAT,List.length_cons,List.length_nil,Nat.zero_add,Nat.reduceAdd,Nat.reduceSub,xCF,List.cons_append,List.nil_append,xAq,xAf,xAc,xAk,xAz,opv,xAr,List.set_cons_succ,List.set_cons_zero,xAi,xAg,xAj,xAd,List.getD_cons_zero,xA3,List.getD_cons_succ,xA4,xAm,xAB,xBy,he',decide_true,Bool.not_true,xAp,xAl,Bool.false_eq_true,↓reduceIte,xAx,xAs,xA7,xHy,h1,xA8,xBb,xAP,xAV,xBk,xAD,xAS,xBP,xCr]
    · rw [decide_eq_true hc,yAx,a20,xBA]
      simp (maxSteps := 30000000) (disch := first | assumption | omega | (simp only [List.length_cons,List.length_nil,List.length_append,List.length_set,List.length_replicate,List.length_map,List.length_range,List.length_take,List.length_drop,List.all_cons,List.all_nil,AV.isCell,Bool.and_self,Bool.and_true,xAh,xAb,xAe,xAa,xAa,List.length_map,xAo] <;> omega) | rfl | decide) only [xAT,List.length_cons,List.length_nil,Nat.zero_add,Nat.reduceAdd,Nat.reduceSub,xCF,List.cons_append,List.nil_append,xAq,xAf,xAc,xAk,xAz,opv,xAr,List.set_cons_succ,List.set_cons_zero,xAi,xAg,xAj,xAd,List.getD_cons_zero,xA3,List.getD_cons_succ,xA4,xAm,xAB,xBy,he',decide_true,Bool.not_true,xAp,xAl,Bool.false_eq_true,↓reduceIte,xAx,xAs,xA7,xHy,h1,xAR,xA0,xAP,xAV,xBk,xAD,xAS,xBP,xCr]
  · have he' : (((l.length : Nat) : Int) = (l'.length : Nat)) = False := eq_false (by omega)
    rw [decide_eq_false (fun q => he (by rw [q])),yAx,a20,xBA]
    simp (maxSteps := 30000000) (disch := first | assumption | omega | (simp only [List.length_cons,List.length_nil,List.length_append,List.length_set,List.length_replicate,List.length_map,List.length_range,List.length_take,List.length_drop,List.all_cons,List.all_nil,AV.isCell,Bool.and_self,Bool.and_true,xAh,xAb,xAe,xAa,xAa,List.length_map,xAo] <;> omega) | rfl | decide) only [xAT,List.length_cons,List.length_nil,Nat.zero_add,Nat.reduceAdd,Nat.reduceSub,xCF,List.cons_append,List.nil_append,xAq,xAf,xAc,xAk,xAz,opv,xAr,List.set_cons_succ,List.set_cons_zero,xAi,xAg,xAj,xAd,List.getD_cons_zero,xA3,List.getD_cons_succ,xA4,xAm,xAB,xBy,he',decide_false,Bool.not_false,xAp,xAl,↓reduceIte,xA0,xBb,xAP,xAV,xBk,xAD,xAS,xBP,xCr]

theorem xPp (a d : Nat) (H : xAv) : frz d H (xCJ a) = some (xCJ a) := xB0 d _ _ _
theorem xJr {o : List Nat} {i : Nat} (h : i < o.length) : List.take 1 (List.drop i (o.map xCJ)) = [xCJ (o.getD i 0)] := xDv _ _ h
theorem yAk {a b : Nat} (ha : a < 18446744073709551616) (hb : b < 18446744073709551616) : L.pcall 20 [xCJ a,xCJ b] = some (.bool (decide (a = b))) := by
  have lA := xEJ a 64
  have lB := xEJ b 64
  have h := yFd ((lsW a 64).length == 0) ((lsW b 64).length == 0) (lsW a 64) (lsW b 64) (by omega) (by omega)
  have e : decide (lsW a 64 = lsW b 64) = decide (a = b) := by
    rw [decide_eq_decide]
    exact ⟨xX3 ha hb,fun q => by rw [q]⟩
  rw [e] at h
  exact h

theorem xUO {o : List Nat} {w : Nat} {z : Bool} {s4 : AV} {H : xAv} (hl : o.length < 1099511627776) (ho : ∀ a ∈ o,a < 18446744073709551616) (hw : w < 18446744073709551616) : ∀ d i,i + d = o.length →
    ∃ e s s5,L.loop xL7 xTy ⟨xL8 (.sl z o.length (o.map xCJ)) (xCJ w) s4 (.int .i64 (i : Nat)),H⟩ = some (e,⟨xL8 (.sl z o.length (o.map xCJ)) (xCJ w) s s5,H⟩) ∧ ((∃ k,xK4 w (o.drop i) i = some k ∧ e = .ret ∧ s = .int .i64 (k : Nat)) ∨ (e = .exit 0 ∧ xK4 w (o.drop i) i = none)) := by
  intro d
  induction d with
  | zero =>
    intro i h
    obtain rfl : i = o.length := by omega
    refine ⟨.exit 0,s4,.int .i64 (o.length : Nat),?_,.inr ⟨rfl,by rw [List.drop_length]; rfl⟩⟩
    rw [xQ6]
    simp (maxSteps := 30000000) (disch := first | assumption | omega | (simp only [List.length_cons,List.length_nil,List.length_append,List.length_set,List.length_replicate,List.length_map,List.length_range,List.length_take,List.length_drop,List.all_cons,List.all_nil,AV.isCell,Bool.and_self,Bool.and_true,xAh,xAb,xAe,xAa,xAa,List.length_map,xAo] <;> omega) | rfl | decide) only [xL6,xAq,xAf,xAc,xAk,xAz,opv,List.getD_cons_succ,List.getD_cons_zero,xAr,List.set_cons_succ,List.set_cons_zero,xAi,xA3,xA4,xAm,xAB,xAw,Int.lt_irrefl,decide_false,xAg,xAj,xAd,xAp,xAl,Bool.false_eq_true,↓reduceIte,xBm,xA6,xAX,xL9]
  | succ d ih =>
    intro i h
    have hlt : (i : Int) < (o.length : Nat) := by omega
    have hi : i < o.length := by omega
    have g1 := xJr hi
    have q := yAk (ho _ (xCN (a := (0 : Nat)) hi)) hw
    have hd : o.drop i = o.getD i 0 :: o.drop (i + 1) := by
      rw [List.drop_eq_getElem_cons hi,List.getD_eq_getElem?_getD,List.getElem?_eq_getElem hi]; rfl
    have hsl : (o.map xCJ).length = o.length := List.length_map ..
    have fA := xPp (o.getD i 0)
    have fW := xPp w
    rw [hd]
    unfold xK4
    generalize o.getD i 0 = a at *
    by_cases c : w = a
    · rw [decide_eq_true c.symm] at q
      rw [if_pos c]
      refine ⟨.ret,.int .i64 (i : Nat),.int .i64 (i : Nat),?_,.inl ⟨i,rfl,rfl,rfl⟩⟩
      generalize xCJ a = A at *
      generalize xCJ w = W at *
      generalize o.map xCJ = S at *
      rw [xQ6]
      simp (maxSteps := 30000000) (disch := first | assumption | omega | (simp only [List.length_cons,List.length_nil,List.length_append,List.length_set,List.length_replicate,List.length_map,List.length_range,List.length_take,List.length_drop,List.all_cons,List.all_nil,AV.isCell,Bool.and_self,Bool.and_true,xAh,xAb,xAe,xAa,xAa,List.length_map,xAo] <;> omega) | rfl | decide) only [xL6,xAq,xAf,xAc,xAk,xAz,opv,List.getD_cons_succ,List.getD_cons_zero,xAr,List.set_cons_succ,List.set_cons_zero,xAi,xA3,xA4,xAm,xAB,xAw,hlt,decide_true,xAg,xAj,xAd,xAp,xAl,↓reduceIte,xAx,xAs,xAW,xAY,Int.toNat_natCast,Nat.mul_one,xAH,xBn,g1,xAM,xBH,List.map_cons,List.map_nil,xBi,xBP,List.mapM_cons,fA,fW,List.mapM_nil,Option.pure_def,Option.bind_eq_bind,Option.bind_some,xBh,q,xBg,xDx,xCq,xA0,xA8,xBb,xBK,xL9]
    · rw [decide_eq_false (fun e => c e.symm)] at q
      rw [if_neg c]
      obtain ⟨e,s,s5,h1,h2⟩ := ih (i + 1) (by omega)
      refine ⟨e,s,s5,?_,h2⟩
      generalize xCJ a = A at *
      generalize xCJ w = W at *
      generalize o.map xCJ = S at *
      rw [xQ6]
      simp (maxSteps := 30000000) (disch := first | assumption | omega | (simp only [List.length_cons,List.length_nil,List.length_append,List.length_set,List.length_replicate,List.length_map,List.length_range,List.length_take,List.length_drop,List.all_cons,List.all_nil,AV.isCell,Bool.and_self,Bool.and_true,xAh,xAb,xAe,xAa,xAa,List.length_map,xAo] <;> omega) | rfl | decide) only [xL6,xAq,xAf,xAc,xAk,xAz,opv,List.getD_cons_succ,List.getD_cons_zero,xAr,List.set_cons_succ,List.set_cons_zero,xAi,xA3,xA4,xAm,xAB,xAw,hlt,decide_true,xAg,xAj,xAd,xAp,xAl,↓reduceIte,xAx,xAs,xAW,xAY,Int.toNat_natCast,Nat.mul_one,xAH,xBn,g1,xAM,xBH,List.map_cons,List.map_nil,xBi,xBP,List.mapM_cons,fA,fW,List.mapM_nil,Option.pure_def,Option.bind_eq_bind,Option.bind_some,xBh,q,xBg,xDx,xCq,Bool.false_eq_true,xAt,xBf,xB6,xCQ,xAy,xL9,h1]
def ixN (o : List Nat) (w : Nat) : Int := match xK4 w o 0 with | some k => (k : Nat) | none => -1
theorem xSW (z : Bool) {o : List Nat} {w : Nat} (hl : o.length < 1099511627776) (ho : ∀ a ∈ o,a < 18446744073709551616) (hw : w < 18446744073709551616) : L.pcall 84 [.sl z o.length (o.map xCJ),xCJ w] = some (.int .i64 (ixN o w)) := by
  obtain ⟨e,s,s5,h1,h2⟩ := xUO (z := z) (s4 := .int .i64 0) (H := []) hl ho hw o.length 0 (by omega)
  simp only [Int.natCast_zero,List.drop_zero] at h1 h2
  unfold ixN
  generalize xCJ w = W at *
  generalize o.map xCJ = S at *
  rcases h2 with ⟨k,hk,rfl,rfl⟩ | ⟨rfl,hk⟩
  · rw [hk,yDv,a84,xBA]
    simp (maxSteps := 30000000) (disch := first | assumption | omega | (simp only [List.length_cons,List.length_nil,List.length_append,List.length_set,List.length_replicate,List.length_map,List.length_range,List.length_take,List.length_drop,List.all_cons,List.all_nil,AV.isCell,Bool.and_self,Bool.and_true,xAh,xAb,xAe,xAa,xAa,List.length_map,xAo] <;> omega) | rfl | decide) only [Int.reduceNeg,xAT,List.length_cons,List.length_nil,Nat.zero_add,Nat.reduceAdd,Nat.reduceSub,xCF,List.cons_append,List.nil_append,xAq,xAf,xAc,xAk,xAz,opv,xAr,List.set_cons_succ,List.set_cons_zero,xAi,xAg,xAj,xAd,xAs,xA7,xL9,h1,xA8,xBb,xAP,xAV,xBk,List.getD_cons_succ,List.getD_cons_zero,xAD,xAS,xBP,xBa]
  · rw [hk,yDv,a84,xBA]
    simp (maxSteps := 30000000) (disch := first | assumption | omega | (simp only [List.length_cons,List.length_nil,List.length_append,List.length_set,List.length_replicate,List.length_map,List.length_range,List.length_take,List.length_drop,List.all_cons,List.all_nil,AV.isCell,Bool.and_self,Bool.and_true,xAh,xAb,xAe,xAa,xAa,List.length_map,xAo] <;> omega) | rfl | decide) only [Int.reduceNeg,xAT,List.length_cons,List.length_nil,Nat.zero_add,Nat.reduceAdd,Nat.reduceSub,xCF,List.cons_append,List.nil_append,xAq,xAf,xAc,xAk,xAz,opv,xAr,List.set_cons_succ,List.set_cons_zero,xAi,xAg,xAj,xAd,xAs,xA7,xL9,h1,xAR,↓reduceIte,xA0,xAP,xAV,xBk,List.getD_cons_succ,List.getD_cons_zero,xAD,xAS,xBP,xBa]
theorem xVR {o : List Nat} {w : Nat} (h : w ∈ o) : ixN o w = (xQn o w : Nat) := by
  unfold ixN xQn
  cases e : xK4 w o 0 with
  | none => exact absurd h (idxN_none.1 e)
  | some k => rfl
theorem xX6 {o : List Nat} {w : Nat} (h : w ∉ o) : ixN o w = -1 := by
  unfold ixN
  rw [idxN_none.2 h]
end Go.Abs.Det

/- The reference's Determinize: the letters. -/
namespace Go.Abs.Det
open Go Go.Abs
set_option linter.unusedSimpArgs false
set_option linter.unusedVariables false

abbrev xDB (bu : Nat) : List Nat → Bool := fun o => decide (bu < o.length)
abbrev z4 : List AV := [.int .i64 0,.int .i64 0,.sl true 0 [],.sl true 0 []]
structure RfI (n : Aut) (o : List Nat) (v : AV) (G : xAv) : Prop where
  b0 : G[0]? = some (.cells false false n.cells)
  b1 : G[1]? = some (.cells false false z4)
  lst : Lst 2 G v (o.map xCJ)
  bd : ∀ w ∈ o,w < 18446744073709551616
theorem RfI.len2 {n : Aut} {o : List Nat} {v : AV} {G : xAv} (h : RfI n o v G) : 2 ≤ G.length := by
  have := (List.getElem?_eq_some_iff.1 h.b1).1; omega
theorem RfI.set1 {n : Aut} {o : List Nat} {v : AV} {G : xAv} (h : RfI n o v G) : G.set 1 (.cells false false z4) = G := by
  obtain ⟨h1,h2⟩ := List.getElem?_eq_some_iff.1 h.b1
  rw [← h2,List.set_getElem_self]
theorem RfI.own {n : Aut} {o : List Nat} {v : AV} {G : xAv} (h : RfI n o v G) (h0 : o ≠ []) : ∃ id,v = .own false id 0 o.length 1 ∧ G[id]? = some (.cells false false (o.map xCJ)) := by
  rcases h.lst with ⟨e,_⟩ | ⟨id,e,hi,_,_⟩
  · exact absurd (List.map_eq_nil_iff.1 e) h0
  · exact ⟨id,by rw [e,List.length_map],hi⟩
theorem RfI.push {n : Aut} {o : List Nat} {v : AV} {G : xAv} (h : RfI n o v G) {w : Nat} (hw : w < 18446744073709551616) (hl : o.length ≤ 100) :
    ∃ v' G',xQf false 1 24 G v (some (1,[xCJ w])) = some (v',G') ∧ RfI n (o ++ [w]) v' G' := by
  obtain ⟨v',G',p1,p2,p3⟩ := h.lst.push (xCJ w) (bytes := 24) (by rw [List.length_map]; omega) (by rw [List.length_map]; omega) h.len2
  exact ⟨v',G',p1,p3.get (by omega) h.b0,p3.get (by omega) h.b1,by rw [List.map_append]; exact p2,fun a ha => (List.mem_append.1 ha).elim (h.bd a) (fun q => by rw [List.mem_singleton.1 q]; exact hw)⟩

set_option maxHeartbeats 2000000 in
theorem yEh {n : Aut} (hV : Valid n) (hT : TyA n) {bu : Nat} (hbu : bu ≤ 64) {j k p l r : Nat} (hp : p = 0 ∧ l = j ∧ r = k ∨ p = 1 ∧ l = k ∧ r = j) : ∀ e x o v G,x + e = two n.vars → RfI n o v G → o.length ≤ bu → j < o.length → k < o.length →
    ∃ v' G' q,L.loop xLc xTf ⟨xLd (.int .i64 (bu : Nat)) (.ptr 0 0) (.ptr 1 0) (.sl true 0 []) (.int .i64 0) v (.int .i64 (k : Nat)) (.int .i64 (j : Nat)) (.sl false 2 [.int .i64 (j : Nat),.int .i64 (k : Nat),.int .i64 (k : Nat),.int .i64 (j : Nat)]) (.int .i64 (p : Nat)) (.int .i64 (x : Nat)),G⟩ =
      some (if xDB bu (goX (xDB bu) (xCS n) l r x e o) = true then .ret else .exit 6,⟨xLd (.int .i64 (bu : Nat)) (.ptr 0 0) (.ptr 1 0) (.sl true 0 []) (.int .i64 (if xDB bu (goX (xDB bu) (xCS n) l r x e o) = true then 10 else 0)) v' (.int .i64 (k : Nat)) (.int .i64 (j : Nat)) (.sl false 2 [.int .i64 (j : Nat),.int .i64 (k : Nat),.int .i64 (k : Nat),.int .i64 (j : Nat)]) (.int .i64 (p : Nat)) q,G'⟩) ∧
      RfI n (goX (xDB bu) (xCS n) l r x e o) v' G' := by
  have h8 := xOa hV.v3
  have hsh := xJi hV.v0 hV.v3
  have hv : ¬ n.vars < 0 := by have := hV.v0; omega
  intro e
  induction e with
  | zero =>
    intro x o v G h hI ho hj hk
    obtain rfl : x = two n.vars := by omega
    have hb : xDB bu o = false := by simp; omega
    refine ⟨v,G,.int .i64 (two n.vars : Nat),?_,hI⟩
    have b0 := hI.b0
    rw [show goX (xDB bu) (xCS n) l r (two n.vars) 0 o = o from rfl,hb]
    rw [xOl]
    simp (maxSteps := 30000000) (disch := first | assumption | omega | (simp only [List.length_cons,List.length_nil,List.length_append,List.length_set,List.length_replicate,List.length_map,List.length_range,List.length_take,List.length_drop,List.all_cons,List.all_nil,AV.isCell,Bool.and_self,Bool.and_true,xAh,xAb,xAe,xAa,xAa,List.length_map,xAo] <;> omega) | rfl | decide) only [xGA,xAq,xAf,xAc,xAk,xAz,opv,List.getD_cons_succ,List.getD_cons_zero,xAr,List.set_cons_succ,List.set_cons_zero,xAi,xAQ,xAC,Nat.add_zero,xAm,xAH,xA1,b0,xAu,List.drop_zero,List.take_succ_cons,List.take_zero,xAM,xAB,xCv,hsh,xAw,Int.lt_irrefl,decide_false,xAg,xAj,xAd,xAp,xAl,Bool.false_eq_true,↓reduceIte,xBm,xA6,xAX,xFk]
  | succ e ih =>
    intro x o v G h hI ho hj hk
    have hlt : (x : Int) < (two n.vars : Nat) := by omega
    have hx : x < 256 := by omega
    have hl : l < o.length := by rcases hp with ⟨_,e1,e2⟩ | ⟨_,e1,e2⟩ <;> omega
    have hr : r < o.length := by rcases hp with ⟨_,e1,e2⟩ | ⟨_,e1,e2⟩ <;> omega
    have b0 := hI.b0
    have b1 := hI.b1
    obtain ⟨id,rfl,hid⟩ := hI.own (by intro q; rw [q] at hl; simp at hl)
    have gl := xJr hl
    have gr := xJr hr
    have ha := xSU hV hT (o.getD l 0) (o.getD r 0) x hx
    have hw := xVT (hV.ok hT) o l r x
    have hix := xSW false (o := o) (w := xH9 n o l r x) (by omega) hI.bd hw
    obtain ⟨zw,nw,cw,hW⟩ : ∃ z m c,xCJ (xH9 n o l r x) = AV.sl z m c := ⟨_,_,_,rfl⟩
    obtain ⟨za,na,ca,hA⟩ : ∃ z m c,xCJ (o.getD l 0) = AV.sl z m c := ⟨_,_,_,rfl⟩
    obtain ⟨zb,nb,cb,hB⟩ : ∃ z m c,xCJ (o.getD r 0) = AV.sl z m c := ⟨_,_,_,rfl⟩
    have cx : IntKind.u8.wrap (x : Int) = (x : Int) := by simp [IntKind.wrap,IntKind.bits,IntKind.signed]; omega
    have fo : ∀ d,(o.map xCJ).mapM (frz d G) = some (o.map xCJ) := fun d => (xJs (xH8 o)).1
    have hmp : (o.map xCJ).length = o.length := List.length_map ..
    have htk : List.take o.length (o.map xCJ) = o.map xCJ := List.take_of_length_le (by omega)
    have hgo : goX (xDB bu) (xCS n) l r x (e + 1) o = if xDB bu (xCS n o l r x) = true then xCS n o l r x else goX (xDB bu) (xCS n) l r (x + 1) e (xCS n o l r x) := rfl
    have hord : xCS n o l r x = if xH9 n o l r x ∈ o then o else o ++ [xH9 n o l r x] := rfl
    rw [show aft n (o.getD l 0) (o.getD r 0) x = xH9 n o l r x from rfl] at ha
    rw [hgo,hord]
    by_cases hm : xH9 n o l r x ∈ o
    · rw [xVR hm] at hix
      rw [if_pos hm]
      have hb : xDB bu o = false := by simp; omega
      obtain ⟨v',G',q,i1,i2⟩ := ih (x + 1) o _ G (by omega) hI ho hj hk
      have hnn : ¬ ((xQn o (xH9 n o l r x) : Nat) : Int) < 0 := by omega
      have hgt : ¬ ((bu : Nat) : Int) < (o.length : Nat) := by omega
      simp only [hb,Bool.false_eq_true,if_false]
      refine ⟨v',G',q,?_,i2⟩
      generalize goX (xDB bu) (xCS n) l r (x + 1) e o = o' at *
      rw [hW] at ha hix
      rw [hA] at gl ha
      rw [hB] at gr ha
      generalize xQn o (xH9 n o l r x) = nn at *
      generalize o.map xCJ = S at *
      unfold Aut.av at ha
      rw [xOl]
      rcases hp with ⟨rfl,rfl,rfl⟩ | ⟨rfl,rfl,rfl⟩
      · simp only [Int.natCast_zero] at i1
        simp (maxSteps := 30000000) (disch := first | assumption | omega | (simp only [List.length_cons,List.length_nil,List.length_append,List.length_set,List.length_replicate,List.length_map,List.length_range,List.length_take,List.length_drop,List.all_cons,List.all_nil,AV.isCell,Bool.and_self,Bool.and_true,xAh,xAb,xAe,xAa,xAa,List.length_map,xAo] <;> omega) | rfl | decide) only [xGA,xC0,xAq,xAf,xAc,xAk,xAz,opv,List.getD_cons_succ,List.getD_cons_zero,xAr,List.set_cons_succ,List.set_cons_zero,xAi,xAQ,xAC,Nat.add_zero,xAm,xAH,xA1,b0,xAu,List.drop_zero,List.take_succ_cons,List.take_zero,xAM,xAB,xCv,hsh,xAw,hlt,decide_true,xAg,xAj,xAd,xAp,xAl,↓reduceIte,xAx,xAs,xBt,xAU,xA5,xBE,List.take_nil,xBz,xBj,xBp,xBd,xB4,xBL,xAW,xAY,Int.toNat_zero,Nat.reduceMul,xFR,xEs,xDH,Nat.mul_one,xBn,xBG,Int.toNat_natCast,Nat.zero_add,hid,gl,Int.toNat_one,List.drop_succ_cons,gr,xA2,xBc,xCf,xBo,xCL,xCa,cx,xBH,List.map_cons,List.map_nil,xBi,xBP,List.mapM_cons,xCo,xBa,xB0,List.mapM_nil,Option.pure_def,Option.bind_eq_bind,Option.bind_some,Option.map_some,xBh,ha,xBg,xDx,xCq,Bool.false_eq_true,xCE,List.flatMap_cons,xEi,xCp,xDP,List.flatMap_nil,List.append_nil,List.foldl_nil,xEz,xCW,htk,fo,xCi,hix,hnn,decide_false,xA3,xBT,xBS,hgt,xAt,xBf,xB6,xCQ,xAy,xFk,i1,decide_eq_true_eq]
      · simp only [Int.natCast_one] at i1
        simp (maxSteps := 30000000) (disch := first | assumption | omega | (simp only [List.length_cons,List.length_nil,List.length_append,List.length_set,List.length_replicate,List.length_map,List.length_range,List.length_take,List.length_drop,List.all_cons,List.all_nil,AV.isCell,Bool.and_self,Bool.and_true,xAh,xAb,xAe,xAa,xAa,List.length_map,xAo] <;> omega) | rfl | decide) only [xGA,xC0,xAq,xAf,xAc,xAk,xAz,opv,List.getD_cons_succ,List.getD_cons_zero,xAr,List.set_cons_succ,List.set_cons_zero,xAi,xAQ,xAC,Nat.add_zero,xAm,xAH,xA1,b0,xAu,List.drop_zero,List.take_succ_cons,List.take_zero,xAM,xAB,xCv,hsh,xAw,hlt,decide_true,xAg,xAj,xAd,xAp,xAl,↓reduceIte,xAx,xAs,xBt,xAU,xA5,xBE,List.take_nil,xBz,xBj,xBp,xBd,xB4,xBL,xAW,xAY,Int.toNat_one,Nat.reduceMul,xFR,xEs,xDH,Int.toNat_zero,Nat.mul_one,xBn,List.drop_succ_cons,xBG,Int.toNat_natCast,Nat.zero_add,hid,gl,Nat.reduceAdd,gr,xA2,xBc,xCf,xBo,xCL,xCa,cx,xBH,List.map_cons,List.map_nil,xBi,xBP,List.mapM_cons,xCo,xBa,xB0,List.mapM_nil,Option.pure_def,Option.bind_eq_bind,Option.bind_some,Option.map_some,xBh,ha,xBg,xDx,xCq,Bool.false_eq_true,xCE,List.flatMap_cons,xEi,xCp,xDP,List.flatMap_nil,List.append_nil,List.foldl_nil,xEz,xCW,htk,fo,xCi,hix,hnn,decide_false,xA3,xBT,xBS,hgt,xAt,xBf,xB6,xCQ,xAy,xFk,i1,decide_eq_true_eq]
    · rw [xX6 hm] at hix
      rw [if_neg hm]
      obtain ⟨v1,G1,p1,p2⟩ := hI.push hw (by omega)
      have hlen : (o ++ [xH9 n o l r x]).length = o.length + 1 := by simp
      by_cases c : bu < o.length + 1
      · have hb : xDB bu (o ++ [xH9 n o l r x]) = true := by simp; omega
        have hs := p2.set1
        have b1' := p2.b1
        obtain ⟨id1,e1,hid1⟩ := p2.own (by simp)
        rw [hlen] at e1
        subst e1
        have hgt : ((bu : Nat) : Int) < (o.length + 1 : Nat) := by omega
        have hgt2 : ((bu : Nat) : Int) < (o.length : Nat) + 1 := by omega
        simp only [hb,if_true]
        refine ⟨.own false id1 0 (o.length + 1) 1,G1,.int .i64 (x : Nat),?_,p2⟩
        rw [hW] at ha hix p1
        rw [hA] at gl ha
        rw [hB] at gr ha
        generalize o.map xCJ = S at *
        unfold Aut.av at ha
        rw [xOl]
        rcases hp with ⟨rfl,rfl,rfl⟩ | ⟨rfl,rfl,rfl⟩
        · simp (maxSteps := 30000000) (disch := first | assumption | omega | (simp only [List.length_cons,List.length_nil,List.length_append,List.length_set,List.length_replicate,List.length_map,List.length_range,List.length_take,List.length_drop,List.all_cons,List.all_nil,AV.isCell,Bool.and_self,Bool.and_true,xAh,xAb,xAe,xAa,xAa,List.length_map,xAo] <;> omega) | rfl | decide) only [xGA,xC0,xAq,xAf,xAc,xAk,xAz,opv,List.getD_cons_succ,List.getD_cons_zero,xAr,List.set_cons_succ,List.set_cons_zero,xAi,xAQ,xAC,Nat.add_zero,xAm,xAH,xA1,b0,xAu,List.drop_zero,List.take_succ_cons,List.take_zero,xAM,xAB,xCv,hsh,xAw,hlt,decide_true,xAg,xAj,xAd,xAp,xAl,↓reduceIte,xAx,xAs,xBt,xAU,xA5,xBE,List.take_nil,xBz,xBj,xBp,xBd,xB4,xBL,xAW,xAY,Int.toNat_zero,Nat.reduceMul,xFR,xEs,xDH,Nat.mul_one,xBn,xBG,Int.toNat_natCast,Nat.zero_add,hid,gl,Int.toNat_one,List.drop_succ_cons,gr,xA2,xBc,xCf,xBo,xCL,xCa,cx,xBH,List.map_cons,List.map_nil,xBi,xBP,List.mapM_cons,xCo,xBa,xB0,List.mapM_nil,Option.pure_def,Option.bind_eq_bind,Option.bind_some,Option.map_some,xBh,ha,xBg,xDx,xCq,Bool.false_eq_true,xCE,List.flatMap_cons,xEi,xCp,xDP,List.flatMap_nil,List.append_nil,List.foldl_nil,xEz,xCW,htk,fo,xCi,hix,Int.reduceNeg,Int.reduceLT,xBY,AV.cells,List.all_cons,List.length_cons,List.length_nil,beq_self_eq_true,List.all_nil,Bool.and_self,xDh,xCm,Nat.le_refl,AV.isCell,and_self,xBl,List.nil_append,List.drop_nil,xBX,xCn,List.isEmpty_nil,xBZ,xDs,p1,xA3,xBT,xBS,hgt,xCh,xBe,Nat.reduceAdd,xBJ,b1',xAZ,hs,xAN,xBq,xA0,xA8,xBb,xBK,xFk]
        · simp (maxSteps := 30000000) (disch := first | assumption | omega | (simp only [List.length_cons,List.length_nil,List.length_append,List.length_set,List.length_replicate,List.length_map,List.length_range,List.length_take,List.length_drop,List.all_cons,List.all_nil,AV.isCell,Bool.and_self,Bool.and_true,xAh,xAb,xAe,xAa,xAa,List.length_map,xAo] <;> omega) | rfl | decide) only [xGA,xC0,xAq,xAf,xAc,xAk,xAz,opv,List.getD_cons_succ,List.getD_cons_zero,xAr,List.set_cons_succ,List.set_cons_zero,xAi,xAQ,xAC,Nat.add_zero,xAm,xAH,xA1,b0,xAu,List.drop_zero,List.take_succ_cons,List.take_zero,xAM,xAB,xCv,hsh,xAw,hlt,decide_true,xAg,xAj,xAd,xAp,xAl,↓reduceIte,xAx,xAs,xBt,xAU,xA5,xBE,List.take_nil,xBz,xBj,xBp,xBd,xB4,xBL,xAW,xAY,Int.toNat_one,Nat.reduceMul,xFR,xEs,xDH,Int.toNat_zero,Nat.mul_one,xBn,List.drop_succ_cons,xBG,Int.toNat_natCast,Nat.zero_add,hid,gl,Nat.reduceAdd,gr,xA2,xBc,xCf,xBo,xCL,xCa,cx,xBH,List.map_cons,List.map_nil,xBi,xBP,List.mapM_cons,xCo,xBa,xB0,List.mapM_nil,Option.pure_def,Option.bind_eq_bind,Option.bind_some,Option.map_some,xBh,ha,xBg,xDx,xCq,Bool.false_eq_true,xCE,List.flatMap_cons,xEi,xCp,xDP,List.flatMap_nil,List.append_nil,List.foldl_nil,xEz,xCW,htk,fo,xCi,hix,Int.reduceNeg,Int.reduceLT,xBY,AV.cells,List.all_cons,List.length_cons,List.length_nil,beq_self_eq_true,List.all_nil,Bool.and_self,xDh,xCm,Nat.le_refl,AV.isCell,and_self,xBl,List.nil_append,List.drop_nil,xBX,xCn,List.isEmpty_nil,xBZ,xDs,p1,xA3,xBT,xBS,hgt,xCh,xBe,xBJ,b1',xAZ,hs,xAN,xBq,xA0,xA8,xBb,xBK,xFk]
      · have hb : xDB bu (o ++ [xH9 n o l r x]) = false := by simp; omega
        obtain ⟨v',G',q,i1,i2⟩ := ih (x + 1) _ v1 G1 (by omega) p2 (by omega) (by omega) (by omega)
        obtain ⟨id1,e1,hid1⟩ := p2.own (by simp)
        rw [hlen] at e1
        subst e1
        have hgt : ¬ ((bu : Nat) : Int) < (o.length + 1 : Nat) := by omega
        have hgt2 : ¬ ((bu : Nat) : Int) < (o.length : Nat) + 1 := by omega
        simp only [hb,Bool.false_eq_true,if_false]
        refine ⟨v',G',q,?_,i2⟩
        generalize goX (xDB bu) (xCS n) l r (x + 1) e (o ++ [xH9 n o l r x]) = o' at *
        rw [hW] at ha hix p1
        rw [hA] at gl ha
        rw [hB] at gr ha
        generalize o.map xCJ = S at *
        unfold Aut.av at ha
        rw [xOl]
        rcases hp with ⟨rfl,rfl,rfl⟩ | ⟨rfl,rfl,rfl⟩
        · simp only [Int.natCast_zero] at i1
          simp (maxSteps := 30000000) (disch := first | assumption | omega | (simp only [List.length_cons,List.length_nil,List.length_append,List.length_set,List.length_replicate,List.length_map,List.length_range,List.length_take,List.length_drop,List.all_cons,List.all_nil,AV.isCell,Bool.and_self,Bool.and_true,xAh,xAb,xAe,xAa,xAa,List.length_map,xAo] <;> omega) | rfl | decide) only [xGA,xC0,xAq,xAf,xAc,xAk,xAz,opv,List.getD_cons_succ,List.getD_cons_zero,xAr,List.set_cons_succ,List.set_cons_zero,xAi,xAQ,xAC,Nat.add_zero,xAm,xAH,xA1,b0,xAu,List.drop_zero,List.take_succ_cons,List.take_zero,xAM,xAB,xCv,hsh,xAw,hlt,decide_true,xAg,xAj,xAd,xAp,xAl,↓reduceIte,xAx,xAs,xBt,xAU,xA5,xBE,List.take_nil,xBz,xBj,xBp,xBd,xB4,xBL,xAW,xAY,Int.toNat_zero,Nat.reduceMul,xFR,xEs,xDH,Nat.mul_one,xBn,xBG,Int.toNat_natCast,Nat.zero_add,hid,gl,Int.toNat_one,List.drop_succ_cons,gr,xA2,xBc,xCf,xBo,xCL,xCa,cx,xBH,List.map_cons,List.map_nil,xBi,xBP,List.mapM_cons,xCo,xBa,xB0,List.mapM_nil,Option.pure_def,Option.bind_eq_bind,Option.bind_some,Option.map_some,xBh,ha,xBg,xDx,xCq,Bool.false_eq_true,xCE,List.flatMap_cons,xEi,xCp,xDP,List.flatMap_nil,List.append_nil,List.foldl_nil,xEz,xCW,htk,fo,xCi,hix,Int.reduceNeg,Int.reduceLT,xBY,AV.cells,List.all_cons,List.length_cons,List.length_nil,beq_self_eq_true,List.all_nil,Bool.and_self,xDh,xCm,Nat.le_refl,AV.isCell,and_self,xBl,List.nil_append,List.drop_nil,xBX,xCn,List.isEmpty_nil,xBZ,xDs,p1,xA3,xBT,xBS,hgt,decide_false,xAt,xBf,xB6,xCQ,xAy,xFk,i1,decide_eq_true_eq]
        · simp only [Int.natCast_one] at i1
          simp (maxSteps := 30000000) (disch := first | assumption | omega | (simp only [List.length_cons,List.length_nil,List.length_append,List.length_set,List.length_replicate,List.length_map,List.length_range,List.length_take,List.length_drop,List.all_cons,List.all_nil,AV.isCell,Bool.and_self,Bool.and_true,xAh,xAb,xAe,xAa,xAa,List.length_map,xAo] <;> omega) | rfl | decide) only [xGA,xC0,xAq,xAf,xAc,xAk,xAz,opv,List.getD_cons_succ,List.getD_cons_zero,xAr,List.set_cons_succ,List.set_cons_zero,xAi,xAQ,xAC,Nat.add_zero,xAm,xAH,xA1,b0,xAu,List.drop_zero,List.take_succ_cons,List.take_zero,xAM,xAB,xCv,hsh,xAw,hlt,decide_true,xAg,xAj,xAd,xAp,xAl,↓reduceIte,xAx,xAs,xBt,xAU,xA5,xBE,List.take_nil,xBz,xBj,xBp,xBd,xB4,xBL,xAW,xAY,Int.toNat_one,Nat.reduceMul,xFR,xEs,xDH,Int.toNat_zero,Nat.mul_one,xBn,List.drop_succ_cons,xBG,Int.toNat_natCast,Nat.zero_add,hid,gl,Nat.reduceAdd,gr,xA2,xBc,xCf,xBo,xCL,xCa,cx,xBH,List.map_cons,List.map_nil,xBi,xBP,List.mapM_cons,xCo,xBa,xB0,List.mapM_nil,Option.pure_def,Option.bind_eq_bind,Option.bind_some,Option.map_some,xBh,ha,xBg,xDx,xCq,Bool.false_eq_true,xCE,List.flatMap_cons,xEi,xCp,xDP,List.flatMap_nil,List.append_nil,List.foldl_nil,xEz,xCW,htk,fo,xCi,hix,Int.reduceNeg,Int.reduceLT,xBY,AV.cells,List.all_cons,List.length_cons,List.length_nil,beq_self_eq_true,List.all_nil,Bool.and_self,xDh,xCm,Nat.le_refl,AV.isCell,and_self,xBl,List.nil_append,List.drop_nil,xBX,xCn,List.isEmpty_nil,xBZ,xDs,p1,xA3,xBT,xBS,hgt,decide_false,xAt,xBf,xB6,xCQ,xAy,xFk,i1,decide_eq_true_eq]
end Go.Abs.Det

/- The reference's Determinize: pairs,states. -/
namespace Go.Abs.Det
open Go Go.Abs
set_option linter.unusedSimpArgs false
set_option linter.unusedVariables false

section
variable {n : Aut} {bu : Nat}
abbrev prs (j k : Nat) : AV := .sl false 2 [.int .i64 (j : Nat),.int .i64 (k : Nat),.int .i64 (k : Nat),.int .i64 (j : Nat)]
abbrev eE (bu : Nat) (o : List Nat) : AV := .int .i64 (if xDB bu o = true then 10 else 0)

theorem xUP {s1 s2 s4 s5 s6 s8 s9 s10 s11 : AV} {G : xAv} : L.loop xIg xPt ⟨xGB s1 s2 s4 s5 s6 s8 s9 s10 s11 (.int .i64 2),G⟩ = some (.exit 4,⟨xGB s1 s2 s4 s5 s6 s8 s9 s10 s11 (.int .i64 2),G⟩) := by
  rw [xLe]
  simp (maxSteps := 30000000) (disch := first | assumption | omega | (simp only [List.length_cons,List.length_nil,List.length_append,List.length_set,List.length_replicate,List.length_map,List.length_range,List.length_take,List.length_drop,List.all_cons,List.all_nil,AV.isCell,Bool.and_self,Bool.and_true,xAh,xAb,xAe,xAa,xAa,List.length_map,xAo] <;> omega) | rfl | decide) only [xIf,xAq,xAf,xAc,xAk,xAz,opv,List.getD_cons_succ,List.getD_cons_zero,xAr,List.set_cons_succ,List.set_cons_zero,xAi,xAB,xAw,Int.lt_irrefl,decide_false,xAm,xAg,xAj,xAd,xAp,xAl,Bool.false_eq_true,↓reduceIte,xBm,xA6,xAX,xIh]

set_option maxHeartbeats 1000000 in
theorem yCT (hV : Valid n) (hT : TyA n) (hbu : bu ≤ 64) {j k : Nat} {o : List Nat} {v : AV} {G : xAv} (hI : RfI n o v G) (ho : o.length ≤ bu) (hj : j < o.length) (hk : k < o.length) :
    ∃ v' G' q,L.loop xIg xPt ⟨xGB (.int .i64 (bu : Nat)) (.ptr 0 0) (.ptr 1 0) (.sl true 0 []) (.int .i64 0) v (.int .i64 (k : Nat)) (.int .i64 (j : Nat)) (prs j k) (.int .i64 1),G⟩ =
      some (if xDB bu (goX (xDB bu) (xCS n) k j 0 (two n.vars) o) = true then .ret else .exit 4,⟨xGB (.int .i64 (bu : Nat)) (.ptr 0 0) (.ptr 1 0) (.sl true 0 []) (eE bu (goX (xDB bu) (xCS n) k j 0 (two n.vars) o)) v' (.int .i64 (k : Nat)) (.int .i64 (j : Nat)) (prs j k) q,G'⟩) ∧
      RfI n (goX (xDB bu) (xCS n) k j 0 (two n.vars) o) v' G' := by
  obtain ⟨v',G',q,i1,i2⟩ := yEh (p := 1) (l := k) (r := j) hV hT hbu (.inr ⟨rfl,rfl,rfl⟩) (two n.vars) 0 o v G (by omega) hI ho hj hk
  simp only [Int.natCast_zero,Int.natCast_one] at i1
  generalize goX (xDB bu) (xCS n) k j 0 (two n.vars) o = o' at *
  cases hb : xDB bu o' with
  | true =>
    rw [hb] at i1
    simp only [if_true] at i1
    refine ⟨v',G',.int .i64 1,?_,i2⟩
    simp only [eE,hb,if_true]
    rw [xLe]
    simp (maxSteps := 30000000) (disch := first | assumption | omega | (simp only [List.length_cons,List.length_nil,List.length_append,List.length_set,List.length_replicate,List.length_map,List.length_range,List.length_take,List.length_drop,List.all_cons,List.all_nil,AV.isCell,Bool.and_self,Bool.and_true,xAh,xAb,xAe,xAa,xAa,List.length_map,xAo] <;> omega) | rfl | decide) only [xIf,xAq,xAf,xAc,xAk,xAz,opv,List.getD_cons_succ,List.getD_cons_zero,xAr,List.set_cons_succ,List.set_cons_zero,xAi,xAB,xAw,Int.reduceLT,decide_true,xAm,xAg,xAj,xAd,xAp,xAl,↓reduceIte,xAx,xAs,xA7,xFk,i1,xA8,xBb,xBK,xIh]
  | false =>
    rw [hb] at i1
    simp only [Bool.false_eq_true,if_false] at i1
    refine ⟨v',G',.int .i64 2,?_,i2⟩
    have pe := xUP (s1 := .int .i64 (bu : Nat)) (s2 := .ptr 0 0) (s4 := .ptr 1 0) (s5 := .sl true 0 []) (s6 := .int .i64 0) (s8 := v') (s9 := .int .i64 (k : Nat)) (s10 := .int .i64 (j : Nat)) (s11 := prs j k) (G := G')
    simp only [eE,hb,Bool.false_eq_true,if_false]
    rw [xLe]
    simp (maxSteps := 30000000) (disch := first | assumption | omega | (simp only [List.length_cons,List.length_nil,List.length_append,List.length_set,List.length_replicate,List.length_map,List.length_range,List.length_take,List.length_drop,List.all_cons,List.all_nil,AV.isCell,Bool.and_self,Bool.and_true,xAh,xAb,xAe,xAa,xAa,List.length_map,xAo] <;> omega) | rfl | decide) only [xIf,xAq,xAf,xAc,xAk,xAz,opv,List.getD_cons_succ,List.getD_cons_zero,xAr,List.set_cons_succ,List.set_cons_zero,xAi,xAB,xAw,Int.reduceLT,decide_true,xAm,xAg,xAj,xAd,xAp,xAl,↓reduceIte,xAx,xAs,xA7,xFk,i1,xAR,xAt,xBf,Int.reduceAdd,xCQ,xAy,xIh,pe]

set_option maxHeartbeats 1000000 in
theorem yFe (hV : Valid n) (hT : TyA n) (hbu : bu ≤ 64) {j k : Nat} {o : List Nat} {v : AV} {G : xAv} (hI : RfI n o v G) (ho : o.length ≤ bu) (hj : j < o.length) (hk : k < o.length) :
    ∃ v' G' q,L.loop xIg xPt ⟨xGB (.int .i64 (bu : Nat)) (.ptr 0 0) (.ptr 1 0) (.sl true 0 []) (.int .i64 0) v (.int .i64 (k : Nat)) (.int .i64 (j : Nat)) (prs j k) (.int .i64 0),G⟩ =
      some (if xDB bu (goP (xDB bu) (xCS n) (two n.vars) j k o) = true then .ret else .exit 4,⟨xGB (.int .i64 (bu : Nat)) (.ptr 0 0) (.ptr 1 0) (.sl true 0 []) (eE bu (goP (xDB bu) (xCS n) (two n.vars) j k o)) v' (.int .i64 (k : Nat)) (.int .i64 (j : Nat)) (prs j k) q,G'⟩) ∧
      RfI n (goP (xDB bu) (xCS n) (two n.vars) j k o) v' G' := by
  obtain ⟨v1,G1,q,i1,i2⟩ := yEh (p := 0) (l := j) (r := k) hV hT hbu (.inl ⟨rfl,rfl,rfl⟩) (two n.vars) 0 o v G (by omega) hI ho hj hk
  have hm := xFX (bad := xDB bu) (size := List.length) (stp := xCS n) (fun s l r x => xEw (xJw s l r x)) j k (two n.vars) 0 o
  simp only [Int.natCast_zero] at i1
  unfold goP
  generalize goX (xDB bu) (xCS n) j k 0 (two n.vars) o = o1 at *
  cases hb : xDB bu o1 with
  | true =>
    rw [hb] at i1
    simp only [if_true] at i1
    refine ⟨v1,G1,.int .i64 0,?_,by simpa using i2⟩
    simp only [eE,hb,if_true]
    rw [xLe]
    simp (maxSteps := 30000000) (disch := first | assumption | omega | (simp only [List.length_cons,List.length_nil,List.length_append,List.length_set,List.length_replicate,List.length_map,List.length_range,List.length_take,List.length_drop,List.all_cons,List.all_nil,AV.isCell,Bool.and_self,Bool.and_true,xAh,xAb,xAe,xAa,xAa,List.length_map,xAo] <;> omega) | rfl | decide) only [xIf,xAq,xAf,xAc,xAk,xAz,opv,List.getD_cons_succ,List.getD_cons_zero,xAr,List.set_cons_succ,List.set_cons_zero,xAi,xAB,xAw,Int.reduceLT,decide_true,xAm,xAg,xAj,xAd,xAp,xAl,↓reduceIte,xAx,xAs,xA7,xFk,i1,xA8,xBb,xBK,xIh]
  | false =>
    rw [hb] at i1
    have hb' : o1.length ≤ bu := by simpa using hb
    simp only [Bool.false_eq_true,if_false] at i1
    obtain ⟨v',G',q',r1,r2⟩ := yCT hV hT hbu i2 hb' (show j < o1.length by omega) (show k < o1.length by omega)
    refine ⟨v',G',q',?_,by simpa using r2⟩
    simp only [Bool.false_eq_true,if_false]
    generalize goX (xDB bu) (xCS n) k j 0 (two n.vars) o1 = o2 at *
    generalize eE bu o2 = E2 at *
    generalize (if xDB bu o2 = true then AExit.ret else AExit.exit 4) = X2 at *
    rw [xLe]
    simp (maxSteps := 30000000) (disch := first | assumption | omega | (simp only [List.length_cons,List.length_nil,List.length_append,List.length_set,List.length_replicate,List.length_map,List.length_range,List.length_take,List.length_drop,List.all_cons,List.all_nil,AV.isCell,Bool.and_self,Bool.and_true,xAh,xAb,xAe,xAa,xAa,List.length_map,xAo] <;> omega) | rfl | decide) only [xIf,xAq,xAf,xAc,xAk,xAz,opv,List.getD_cons_succ,List.getD_cons_zero,xAr,List.set_cons_succ,List.set_cons_zero,xAi,xAB,xAw,Int.reduceLT,decide_true,xAm,xAg,xAj,xAd,xAp,xAl,↓reduceIte,xAx,xAs,xA7,xFk,i1,xAR,xAt,xBf,Int.zero_add,xCQ,xAy,xIh,r1]

set_option maxHeartbeats 1000000 in
theorem yFf (hV : Valid n) (hT : TyA n) (hbu : bu ≤ 64) {k : Nat} : ∀ e j o v G,j + e = k + 1 → RfI n o v G → o.length ≤ bu → k < o.length →
    ∃ v' G' q,L.loop xLg xTg ⟨xLh (.int .i64 (bu : Nat)) (.ptr 0 0) (.ptr 1 0) (.sl true 0 []) (.int .i64 0) v (.int .i64 (k : Nat)) (.int .i64 (j : Nat)),G⟩ =
      some (if xDB bu (goJ (xDB bu) (xCS n) (two n.vars) k j e o) = true then .ret else .exit 2,⟨xLh (.int .i64 (bu : Nat)) (.ptr 0 0) (.ptr 1 0) (.sl true 0 []) (eE bu (goJ (xDB bu) (xCS n) (two n.vars) k j e o)) v' (.int .i64 (k : Nat)) q,G'⟩) ∧
      RfI n (goJ (xDB bu) (xCS n) (two n.vars) k j e o) v' G' := by
  intro e
  induction e with
  | zero =>
    intro j o v G h hI ho hk
    obtain rfl : j = k + 1 := by omega
    have hb : xDB bu o = false := by simp; omega
    have c : ¬ (((k + 1 : Nat) : Int) ≤ (k : Nat)) := by omega
    refine ⟨v,G,.int .i64 ((k + 1 : Nat) : Int),?_,hI⟩
    rw [show goJ (xDB bu) (xCS n) (two n.vars) k (k + 1) 0 o = o from rfl]
    simp only [eE,hb,Bool.false_eq_true,if_false]
    rw [xQA]
    simp (maxSteps := 30000000) (disch := first | assumption | omega | (simp only [List.length_cons,List.length_nil,List.length_append,List.length_set,List.length_replicate,List.length_map,List.length_range,List.length_take,List.length_drop,List.all_cons,List.all_nil,AV.isCell,Bool.and_self,Bool.and_true,xAh,xAb,xAe,xAa,xAa,List.length_map,xAo] <;> omega) | rfl | decide) only [xLf,xAq,xAf,xAc,xAk,xAz,opv,List.getD_cons_succ,List.getD_cons_zero,xAr,List.set_cons_succ,List.set_cons_zero,xAi,xAB,xDF,c,decide_false,xAm,xAg,xAj,xAd,xAp,xAl,Bool.false_eq_true,↓reduceIte,xBm,xA6,xAX,xLi]
  | succ e ih =>
    intro j o v G h hI ho hk
    have hlt : ((j : Nat) : Int) ≤ (k : Nat) := by omega
    obtain ⟨v1,G1,q1,i1,i2⟩ := yFe hV hT hbu hI ho (show j < o.length by omega) hk
    have hm := xH5 (bad := xDB bu) (size := List.length) (stp := xCS n) (fun s l r x => xEw (xJw s l r x)) (two n.vars) j k o
    unfold goJ
    generalize goP (xDB bu) (xCS n) (two n.vars) j k o = o1 at *
    cases hb : xDB bu o1 with
    | true =>
      rw [hb] at i1
      refine ⟨v1,G1,.int .i64 (j : Nat),?_,by simpa using i2⟩
      simp only [eE,hb,if_true] at i1 ⊢
      rw [xQA]
      simp (maxSteps := 30000000) (disch := first | assumption | omega | (simp only [List.length_cons,List.length_nil,List.length_append,List.length_set,List.length_replicate,List.length_map,List.length_range,List.length_take,List.length_drop,List.all_cons,List.all_nil,AV.isCell,Bool.and_self,Bool.and_true,xAh,xAb,xAe,xAa,xAa,List.length_map,xAo] <;> omega) | rfl | decide) only [xLf,xAq,xAf,xAc,xAk,xAz,opv,List.getD_cons_succ,List.getD_cons_zero,xAr,List.set_cons_succ,List.set_cons_zero,xAi,xAB,xDF,hlt,decide_true,xAm,xAg,xAj,xAd,xAp,xAl,↓reduceIte,xAx,xAs,xCh,AV.cells,List.all_cons,List.length_cons,List.length_nil,Nat.zero_add,beq_self_eq_true,List.all_nil,Bool.and_self,List.map_cons,List.map_nil,xCm,Nat.reduceAdd,Nat.reduceLeDiff,AV.isCell,and_self,xBl,List.take_zero,List.nil_append,List.drop_succ_cons,List.drop_zero,List.cons_append,Nat.le_refl,List.take_succ_cons,List.drop_nil,List.append_nil,Option.map_some,xBY,xVn,Nat.reduceMul,xBX,xCn,xBP,List.flatMap_cons,xCp,List.flatMap_nil,List.isEmpty_nil,List.mapM_cons,xBa,List.mapM_nil,Option.pure_def,Option.bind_eq_bind,Option.bind_some,xCi,xA7,xIh,i1,xA8,xBb,xBK,xLi]
    | false =>
      rw [hb] at i1
      have hb' : o1.length ≤ bu := by simpa using hb
      obtain ⟨v',G',q',r1,r2⟩ := ih (j + 1) o1 v1 G1 (by omega) i2 hb' (by omega)
      refine ⟨v',G',q',?_,by simpa using r2⟩
      have he : eE bu o1 = .int .i64 0 := by simp only [eE,hb,Bool.false_eq_true,if_false]
      rw [he] at i1
      simp only [Bool.false_eq_true,if_false] at i1 ⊢
      generalize goJ (xDB bu) (xCS n) (two n.vars) k (j + 1) e o1 = o2 at *
      generalize eE bu o2 = E2 at *
      generalize (if xDB bu o2 = true then AExit.ret else AExit.exit 2) = X2 at *
      rw [xQA]
      simp (maxSteps := 30000000) (disch := first | assumption | omega | (simp only [List.length_cons,List.length_nil,List.length_append,List.length_set,List.length_replicate,List.length_map,List.length_range,List.length_take,List.length_drop,List.all_cons,List.all_nil,AV.isCell,Bool.and_self,Bool.and_true,xAh,xAb,xAe,xAa,xAa,List.length_map,xAo] <;> omega) | rfl | decide) only [xLf,xAq,xAf,xAc,xAk,xAz,opv,List.getD_cons_succ,List.getD_cons_zero,xAr,List.set_cons_succ,List.set_cons_zero,xAi,xAB,xDF,hlt,decide_true,xAm,xAg,xAj,xAd,xAp,xAl,↓reduceIte,xAx,xAs,xCh,AV.cells,List.all_cons,List.length_cons,List.length_nil,Nat.zero_add,beq_self_eq_true,List.all_nil,Bool.and_self,List.map_cons,List.map_nil,xCm,Nat.reduceAdd,Nat.reduceLeDiff,AV.isCell,and_self,xBl,List.take_zero,List.nil_append,List.drop_succ_cons,List.drop_zero,List.cons_append,Nat.le_refl,List.take_succ_cons,List.drop_nil,List.append_nil,Option.map_some,xBY,xVn,Nat.reduceMul,xBX,xCn,xBP,List.flatMap_cons,xCp,List.flatMap_nil,List.isEmpty_nil,List.mapM_cons,xBa,List.mapM_nil,Option.pure_def,Option.bind_eq_bind,Option.bind_some,xCi,xA7,xIh,i1,xAR,xAt,xBf,xB6,xCQ,xAy,xLi,r1]

set_option maxHeartbeats 1000000 in
theorem yFg (hV : Valid n) (hT : TyA n) (hbu : bu ≤ 64) : ∀ e k o v G,k + e = bu → RfI n o v G → o.length ≤ bu → o ≠ [] →
    ∃ v' G' q,L.loop xIi xPu ⟨xGC (.int .i64 (bu : Nat)) (.ptr 0 0) (.ptr 1 0) (.sl true 0 []) (.int .i64 0) v (.int .i64 (k : Nat)),G⟩ =
      some (if xDB bu (goK List.length (xDB bu) (xCS n) (two n.vars) k e o) = true then .ret else .exit 0,⟨xGC (.int .i64 (bu : Nat)) (.ptr 0 0) (.ptr 1 0) (.sl true 0 []) (eE bu (goK List.length (xDB bu) (xCS n) (two n.vars) k e o)) v' q,G'⟩) ∧
      RfI n (goK List.length (xDB bu) (xCS n) (two n.vars) k e o) v' G' := by
  have stop : ∀ k o v G,RfI n o v G → o.length ≤ bu → o ≠ [] → ¬ k < o.length →
      L.loop xIi xPu ⟨xGC (.int .i64 (bu : Nat)) (.ptr 0 0) (.ptr 1 0) (.sl true 0 []) (.int .i64 0) v (.int .i64 (k : Nat)),G⟩ =
      some (.exit 0,⟨xGC (.int .i64 (bu : Nat)) (.ptr 0 0) (.ptr 1 0) (.sl true 0 []) (.int .i64 0) v (.int .i64 (k : Nat)),G⟩) := by
    intro k o v G hI ho h0 c
    obtain ⟨id,rfl,hid⟩ := hI.own h0
    have c' : ¬ ((k : Nat) : Int) < (o.length : Nat) := by omega
    rw [xQB]
    simp (maxSteps := 30000000) (disch := first | assumption | omega | (simp only [List.length_cons,List.length_nil,List.length_append,List.length_set,List.length_replicate,List.length_map,List.length_range,List.length_take,List.length_drop,List.all_cons,List.all_nil,AV.isCell,Bool.and_self,Bool.and_true,xAh,xAb,xAe,xAa,xAa,List.length_map,xAo] <;> omega) | rfl | decide) only [xLj,xAq,xAf,xAc,xAk,xAz,opv,List.getD_cons_succ,List.getD_cons_zero,xAr,List.set_cons_succ,List.set_cons_zero,xAi,xA3,xBT,xAm,xAB,xAw,c',decide_false,xAg,xAj,xAd,xAp,xAl,Bool.false_eq_true,↓reduceIte,xBm,xA6,xAX,xLk]
  intro e
  induction e with
  | zero =>
    intro k o v G h hI ho h0
    have hb : xDB bu o = false := by simp; omega
    have hs := stop k o v G hI ho h0 (by omega)
    refine ⟨v,G,.int .i64 (k : Nat),?_,hI⟩
    rw [show goK List.length (xDB bu) (xCS n) (two n.vars) k 0 o = o from rfl]
    simp only [eE,hb,Bool.false_eq_true,if_false]
    exact hs
  | succ e ih =>
    intro k o v G h hI ho h0
    unfold goK
    by_cases c : k < o.length
    · rw [if_pos c]
      have hlt : ((k : Nat) : Int) < (o.length : Nat) := by omega
      obtain ⟨v1,G1,q1,i1,i2⟩ := yFf hV hT hbu (k + 1) 0 o v G (by omega) hI ho c
      have hm := xPf (bad := xDB bu) (size := List.length) (stp := xCS n) (fun s l r x => xEw (xJw s l r x)) (two n.vars) k (k + 1) 0 o
      simp only [Int.natCast_zero] at i1
      obtain ⟨id,rfl,hid⟩ := hI.own h0
      generalize goJ (xDB bu) (xCS n) (two n.vars) k 0 (k + 1) o = o1 at *
      cases hb : xDB bu o1 with
      | true =>
        rw [hb] at i1
        refine ⟨v1,G1,.int .i64 (k : Nat),?_,by simpa using i2⟩
        simp only [eE,hb,if_true] at i1 ⊢
        rw [xQB]
        simp (maxSteps := 30000000) (disch := first | assumption | omega | (simp only [List.length_cons,List.length_nil,List.length_append,List.length_set,List.length_replicate,List.length_map,List.length_range,List.length_take,List.length_drop,List.all_cons,List.all_nil,AV.isCell,Bool.and_self,Bool.and_true,xAh,xAb,xAe,xAa,xAa,List.length_map,xAo] <;> omega) | rfl | decide) only [xLj,xAq,xAf,xAc,xAk,xAz,opv,List.getD_cons_succ,List.getD_cons_zero,xAr,List.set_cons_succ,List.set_cons_zero,xAi,xA3,xBT,xAm,xAB,xAw,hlt,decide_true,xAg,xAj,xAd,xAp,xAl,↓reduceIte,xAx,xAs,xA7,xLi,i1,xA8,xBb,xBK,xLk]
      | false =>
        rw [hb] at i1
        have hb' : o1.length ≤ bu := by simpa using hb
        obtain ⟨v',G',q',r1,r2⟩ := ih (k + 1) o1 v1 G1 (by omega) i2 hb' (by intro q; rw [q,List.length_nil] at hm; omega)
        refine ⟨v',G',q',?_,by simpa using r2⟩
        have he : eE bu o1 = .int .i64 0 := by simp only [eE,hb,Bool.false_eq_true,if_false]
        rw [he] at i1
        simp only [Bool.false_eq_true,if_false] at i1 ⊢
        generalize goK List.length (xDB bu) (xCS n) (two n.vars) (k + 1) e o1 = o2 at *
        generalize eE bu o2 = E2 at *
        generalize (if xDB bu o2 = true then AExit.ret else AExit.exit 0) = X2 at *
        rw [xQB]
        simp (maxSteps := 30000000) (disch := first | assumption | omega | (simp only [List.length_cons,List.length_nil,List.length_append,List.length_set,List.length_replicate,List.length_map,List.length_range,List.length_take,List.length_drop,List.all_cons,List.all_nil,AV.isCell,Bool.and_self,Bool.and_true,xAh,xAb,xAe,xAa,xAa,List.length_map,xAo] <;> omega) | rfl | decide) only [xLj,xAq,xAf,xAc,xAk,xAz,opv,List.getD_cons_succ,List.getD_cons_zero,xAr,List.set_cons_succ,List.set_cons_zero,xAi,xA3,xBT,xAm,xAB,xAw,hlt,decide_true,xAg,xAj,xAd,xAp,xAl,↓reduceIte,xAx,xAs,xA7,xLi,i1,xAR,xAt,xBf,xB6,xCQ,xAy,xLk,r1]
    · rw [if_neg c]
      have hb : xDB bu o = false := by simp; omega
      have hs := stop k o v G hI ho h0 c
      refine ⟨v,G,.int .i64 (k : Nat),?_,hI⟩
      simp only [eE,hb,Bool.false_eq_true,if_false]
      exact hs
end
end Go.Abs.Det

/- The reference's Determinize: the automaton. -/
namespace Go.Abs.Det
open Go Go.Abs
set_option linter.unusedSimpArgs false
set_option linter.unusedVariables false

theorem yAl (l : List (List Int)) : (l.map rowT).all xCA = true := by simp [rowT,xCA]
theorem yAm (l : List (List (List Int))) : (l.map rowsD).all xCA = true := by simp [rowsD,xCA]
theorem yAn (l : List Bool) : (bools l).all xCA = true := by simp [bools,xCA]

section
variable {n : Aut} {o : List Nat} {id B l : Nat} {s4 s15 s17 : AV}
set_option maxHeartbeats 1000000 in
theorem yFh (hV : Valid n) (hT : TyA n) (hol : o.length ≤ 64) (hbd : ∀ w ∈ o,w < 18446744073709551616) {r : Nat} (hdone : ∀ x,x < two n.vars → aft n (o.getD l 0) (o.getD r 0) x ∈ o) (hl : l < o.length) (hr : r < o.length) (hiB : id < B) (h0B : 0 < B) : ∀ e x G v,x + e = two n.vars → G[0]? = some (.cells false false n.cells) → G[id]? = some (.cells false false (o.map xCJ)) → B ≤ G.length → Lst B G v (ints (rvL (xFJ n o) l r x)) →
    ∃ v' G',L.loop xLl xTh ⟨xLm (.ptr 0 0) s4 (.own false id 0 o.length 1) s15 (.int .i64 (l : Nat)) s17 (.int .i64 (r : Nat)) v (.int .i64 (x : Nat)),G⟩ =
      some (.exit 12,⟨xLm (.ptr 0 0) s4 (.own false id 0 o.length 1) s15 (.int .i64 (l : Nat)) s17 (.int .i64 (r : Nat)) v' (.int .i64 (two n.vars : Nat)),G'⟩) ∧ Lst B G' v' (ints (rvL (xFJ n o) l r (two n.vars))) ∧ Kp B G G' := by
  have h8 := xOa hV.v3
  have hsh := xJi hV.v0 hV.v3
  have hv0 : ¬ n.vars < 0 := by have := hV.v0; omega
  have gl := xJr hl
  have gr := xJr hr
  intro e
  induction e with
  | zero =>
    intro x G v h h0 hid hG hv
    obtain rfl : x = two n.vars := by omega
    refine ⟨v,G,?_,hv,Kp.refl _ _⟩
    rw [xU3]
    simp (maxSteps := 30000000) (disch := first | assumption | omega | (simp only [List.length_cons,List.length_nil,List.length_append,List.length_set,List.length_replicate,List.length_map,List.length_range,List.length_take,List.length_drop,List.all_cons,List.all_nil,AV.isCell,Bool.and_self,Bool.and_true,xAh,xAb,xAe,xAa,xAa,xAJ,List.length_map,xAo] <;> omega) | rfl | decide) only [xOm,xAq,xAf,xAc,xAk,xAz,opv,List.getD_cons_succ,List.getD_cons_zero,xAr,List.set_cons_succ,List.set_cons_zero,xAi,xAQ,xAC,Nat.add_zero,xAm,xAH,xA1,h0,xAu,List.drop_zero,List.take_succ_cons,List.take_zero,xAM,xAB,xCv,hsh,xAw,Int.lt_irrefl,decide_false,xAg,xAj,xAd,xAp,xAl,Bool.false_eq_true,↓reduceIte,xBm,xA6,xAX,xQC]
  | succ e ih =>
    intro x G v h h0 hid hG hv
    have hlt : (x : Int) < (two n.vars : Nat) := by omega
    have hx : x < 256 := by omega
    have ha := xSU hV hT (o.getD l 0) (o.getD r 0) x hx
    have hm := hdone x (by omega)
    have hix := xSW false (o := o) (w := aft n (o.getD l 0) (o.getD r 0) x) (by omega) hbd (hbd _ hm)
    rw [xVR hm] at hix
    have hs := xPg (xFJ n o) l r x
    have hln := xEI (xFJ n o) l r x
    have hdx : xFJ n o l r x = (xQn o (aft n (o.getD l 0) (o.getD r 0) x) : Nat) := rfl
    obtain ⟨v1,G1,p1,p2,p3⟩ := hv.push (.int .i64 (xFJ n o l r x)) (bytes := 8) (by rw [xAa,hln]; omega) (by rw [xAa,hln]; omega) hG
    have e2 : ints (rvL (xFJ n o) l r x) ++ [AV.int .i64 (xFJ n o l r x)] = ints (rvL (xFJ n o) l r (x + 1)) := by rw [hs]; simp [ints]
    rw [e2] at p2
    obtain ⟨v',G',q1,q2,q3⟩ := ih (x + 1) G1 v1 (by omega) (p3.get h0B h0) (p3.get hiB hid) (by have := p3.1; omega) p2
    refine ⟨v',G',?_,q2,p3.trans q3⟩
    rw [hdx] at p1
    obtain ⟨zw,nw,cw,hW⟩ : ∃ z m c,xCJ (aft n (o.getD l 0) (o.getD r 0) x) = AV.sl z m c := ⟨_,_,_,rfl⟩
    obtain ⟨za,na,ca,hA⟩ : ∃ z m c,xCJ (o.getD l 0) = AV.sl z m c := ⟨_,_,_,rfl⟩
    obtain ⟨zb,nb,cb,hB⟩ : ∃ z m c,xCJ (o.getD r 0) = AV.sl z m c := ⟨_,_,_,rfl⟩
    rw [hW] at ha hix
    rw [hA] at gl ha
    rw [hB] at gr ha
    generalize xQn o (aft n (o.getD l 0) (o.getD r 0) x) = nn at *
    have cx : IntKind.u8.wrap (x : Int) = (x : Int) := by simp [IntKind.wrap,IntKind.bits,IntKind.signed]; omega
    have fo : ∀ d,(o.map xCJ).mapM (frz d G) = some (o.map xCJ) := fun d => (xJs (xH8 o)).1
    have bo : ∀ d,(o.map xCJ).flatMap (bor d G) = [] := fun d => (xJs (xH8 o)).2
    have hmp : (o.map xCJ).length = o.length := List.length_map ..
    have htk : List.take o.length (o.map xCJ) = o.map xCJ := List.take_of_length_le (by omega)
    generalize o.map xCJ = S at *
    unfold Aut.av at ha
    rw [xU3]
    simp (maxSteps := 30000000) (disch := first | assumption | omega | (simp only [List.length_cons,List.length_nil,List.length_append,List.length_set,List.length_replicate,List.length_map,List.length_range,List.length_take,List.length_drop,List.all_cons,List.all_nil,AV.isCell,Bool.and_self,Bool.and_true,xAh,xAb,xAe,xAa,xAa,xAJ,List.length_map,xAo] <;> omega) | rfl | decide) only [xOm,xAq,xAf,xAc,xAk,xAz,opv,List.getD_cons_succ,List.getD_cons_zero,xAr,List.set_cons_succ,List.set_cons_zero,xAi,xAQ,xAC,Nat.add_zero,xAm,xAH,xA1,h0,xAu,List.drop_zero,List.take_succ_cons,List.take_zero,xAM,xAB,xCv,hsh,xAw,hlt,decide_true,xAg,xAj,xAd,xAp,xAl,↓reduceIte,xAx,xAs,xBt,xAU,xA5,xB4,xBj,xBp,xBd,xBE,List.take_nil,xBz,xBL,xAW,xBG,Int.toNat_natCast,Nat.mul_one,Nat.zero_add,hid,gl,gr,xA2,xBc,List.drop_succ_cons,xCf,xBo,xCL,xCa,cx,xBH,List.map_cons,List.map_nil,xBi,xBP,List.mapM_cons,xCo,xBa,xB0,List.mapM_nil,Option.pure_def,Option.bind_eq_bind,Option.bind_some,Option.map_some,xBh,ha,xBg,xDx,xCq,Bool.false_eq_true,xCE,List.flatMap_cons,xEi,xCp,xDP,List.flatMap_nil,List.append_nil,List.foldl_nil,xEz,xCW,htk,fo,xCi,hix,xBY,AV.cells,List.all_cons,List.length_cons,List.length_nil,beq_self_eq_true,List.all_nil,Bool.and_self,xDh,xCm,Nat.le_refl,AV.isCell,and_self,xBl,List.nil_append,List.drop_nil,xBX,xCn,List.isEmpty_nil,xBZ,xDs,p1,xAt,xBf,xB6,xCQ,xAy,xQC,q1]

def xJC (n : Aut) (o : List Nat) (l r : Nat) : List (List Int) := (List.range r).map fun r => rvL (xFJ n o) l r (two n.vars)
theorem xNh (n : Aut) (o : List Nat) (l r : Nat) : (xJC n o l r).length = r := by simp [xJC]
theorem xP9 (n : Aut) (o : List Nat) (l r : Nat) : xJC n o l (r + 1) = xJC n o l r ++ [rvL (xFJ n o) l r (two n.vars)] := by
  unfold xJC; rw [List.range_succ,List.map_append]; rfl
theorem xSX (n : Aut) (o : List Nat) (l : Nat) : xJC n o l o.length = xET n.vars (xFJ n o) o.length l := rfl

set_option maxHeartbeats 1000000 in
theorem yFi (hV : Valid n) (hT : TyA n) (hol : o.length ≤ 64) (hbd : ∀ w ∈ o,w < 18446744073709551616) (hdone : ∀ r x,r < o.length → x < two n.vars → aft n (o.getD l 0) (o.getD r 0) x ∈ o) (hl : l < o.length) (hiB : id < B) (h0B : 0 < B) : ∀ e r G v,r + e = o.length → G[0]? = some (.cells false false n.cells) → G[id]? = some (.cells false false (o.map xCJ)) → B ≤ G.length → Lst B G v ((xJC n o l r).map rowT) →
    ∃ v' G',L.loop xLn xTi ⟨xLo (.ptr 0 0) s4 (.own false id 0 o.length 1) s15 (.int .i64 (l : Nat)) v (.int .i64 (r : Nat)),G⟩ =
      some (.exit 10,⟨xLo (.ptr 0 0) s4 (.own false id 0 o.length 1) s15 (.int .i64 (l : Nat)) v' (.int .i64 (o.length : Nat)),G'⟩) ∧ Lst B G' v' ((xJC n o l o.length).map rowT) ∧ Kp B G G' := by
  have h8 := xFe hV.v3
  intro e
  induction e with
  | zero =>
    intro r G v h h0 hid hG hv
    obtain rfl : r = o.length := by omega
    refine ⟨v,G,?_,hv,Kp.refl _ _⟩
    rw [xU4]
    simp (maxSteps := 30000000) (disch := first | assumption | omega | (simp only [List.length_cons,List.length_nil,List.length_append,List.length_set,List.length_replicate,List.length_map,List.length_range,List.length_take,List.length_drop,List.all_cons,List.all_nil,AV.isCell,Bool.and_self,Bool.and_true,xAh,xAb,xAe,xAa,xAa,xAJ,List.length_map,xAo] <;> omega) | rfl | decide) only [xOn,xAq,xAf,xAc,xAk,xAz,opv,List.getD_cons_succ,List.getD_cons_zero,xAr,List.set_cons_succ,List.set_cons_zero,xAi,xA3,xBT,xAm,xAB,xAw,Int.lt_irrefl,decide_false,xAg,xAj,xAd,xAp,xAl,Bool.false_eq_true,↓reduceIte,xBm,xA6,xAX,xQD]
  | succ e ih =>
    intro r G v h h0 hid hG hv
    have hlt : (r : Int) < (o.length : Nat) := by omega
    obtain ⟨v1,G1,q1,q2,q3⟩ := yFh (s4 := s4) (s15 := s15) (s17 := v) (B := G.length) hV hT hol hbd (r := r) (fun x hx => hdone r x (by omega) hx) hl (by omega) (by omega) (by omega) (two n.vars) 0 G (.sl true 0 []) (by omega) h0 hid (Nat.le_refl _) (Lst.nil _ _)
    obtain ⟨f1,G2,f2,f3⟩ := q2.data (xHd _)
    have hz : ((ints (rvL (xFJ n o) l r (two n.vars))).length == 0) = false := by rw [xAa,xEI,beq_eq_false_iff_ne]; omega
    have hlen : (ints (rvL (xFJ n o) l r (two n.vars))).length = two n.vars := by rw [xAa,xEI]
    rw [hz,hlen] at f1
    have k2 : Kp G.length G G2 := q3.trans f3
    obtain ⟨v2,G3,p1,p2,p3⟩ := (hv.keep k2 (Nat.le_refl _)).push (rowT (rvL (xFJ n o) l r (two n.vars))) (bytes := 24) (by rw [List.length_map,xNh]; omega) (by rw [List.length_map,xNh]; omega) (by have := k2.1; omega)
    have e2 : (xJC n o l r).map rowT ++ [rowT (rvL (xFJ n o) l r (two n.vars))] = (xJC n o l (r + 1)).map rowT := by rw [xP9,List.map_append]; rfl
    rw [e2] at p2
    have k3 := (k2.low hG).trans p3
    obtain ⟨v',G',r1,r2,r3⟩ := ih (r + 1) G3 v2 (by omega) (k3.get h0B h0) (k3.get hiB hid) (by have := k3.1; omega) p2
    refine ⟨v',G',?_,r2,k3.trans r3⟩
    unfold rowT at p1
    rw [xEI] at p1
    simp only [Int.natCast_zero] at q1
    rw [xU4]
    simp (maxSteps := 30000000) (disch := first | assumption | omega | (simp only [List.length_cons,List.length_nil,List.length_append,List.length_set,List.length_replicate,List.length_map,List.length_range,List.length_take,List.length_drop,List.all_cons,List.all_nil,AV.isCell,Bool.and_self,Bool.and_true,xAh,xAb,xAe,xAa,xAa,xAJ,List.length_map,xAo] <;> omega) | rfl | decide) only [xOn,xAq,xAf,xAc,xAk,xAz,opv,List.getD_cons_succ,List.getD_cons_zero,xAr,List.set_cons_succ,List.set_cons_zero,xAi,xA3,xBT,xAm,xAB,xAw,hlt,decide_true,xAg,xAj,xAd,xAp,xAl,↓reduceIte,xAx,xAs,xA7,xQC,q1,xAR,xRo,xBP,f1,xMl,xCE,f2,xBY,AV.cells,List.all_cons,List.length_cons,List.length_nil,Nat.zero_add,beq_self_eq_true,List.all_nil,Bool.and_self,xDh,List.append_nil,Nat.mul_one,List.map_cons,List.map_nil,xCm,Nat.le_refl,AV.isCell,and_self,xBl,List.take_zero,List.nil_append,List.drop_succ_cons,List.drop_nil,xBX,xCn,List.flatMap_cons,xDP,List.flatMap_nil,List.isEmpty_nil,List.mapM_cons,xB0,List.mapM_nil,Option.pure_def,Option.bind_eq_bind,Option.bind_some,xCi,xBZ,xDs,p1,xAt,xBf,xB6,xCQ,xAy,xQD,r1]

set_option maxRecDepth 10000 in
set_option maxHeartbeats 1000000 in
theorem yFj (hV : Valid n) (hT : TyA n) (hol : o.length ≤ 64) (hl : l < o.length) {G : xAv} (h0 : G[0]? = some (.cells false false n.cells)) (hid : G[id]? = some (.cells false false (o.map xCJ))) : ∀ d i b,i + d = n.fi.length →
    L.loop xLq xTj ⟨xLr (.ptr 0 0) s4 (.own false id 0 o.length 1) s15 (.int .i64 (l : Nat)) (.bool b) (.int .i64 (i : Nat)),G⟩ =
      some (.exit 14,⟨xLr (.ptr 0 0) s4 (.own false id 0 o.length 1) s15 (.int .i64 (l : Nat)) (.bool (b || (n.fi.drop i).any fun f => (o.getD l 0).testBit f.toNat)) (.int .i64 (n.fi.length : Nat)),G⟩) := by
  have hfl := hT.fi
  have gl := xJr hl
  intro d
  induction d with
  | zero =>
    intro i b h
    obtain rfl : i = n.fi.length := by omega
    rw [List.drop_length,List.any_nil,Bool.or_false,xQE]
    simp (maxSteps := 30000000) (disch := first | assumption | omega | (simp only [List.length_cons,List.length_nil,List.length_append,List.length_set,List.length_replicate,List.length_map,List.length_range,List.length_take,List.length_drop,List.all_cons,List.all_nil,AV.isCell,Bool.and_self,Bool.and_true,xAh,xAb,xAe,xAa,xAa,xAJ,List.length_map,xAo] <;> omega) | rfl | decide) only [xLp,xAq,xAf,xAc,xAk,xAz,opv,List.getD_cons_succ,List.getD_cons_zero,xAr,List.set_cons_succ,List.set_cons_zero,xAi,xAQ,xAC,Nat.zero_add,xAm,xAH,xA1,h0,xAu,List.drop_succ_cons,List.drop_zero,List.take_succ_cons,List.take_zero,xAM,xA3,xA4,xAB,xAw,Int.lt_irrefl,decide_false,xAg,xAj,xAd,xAp,xAl,Bool.false_eq_true,↓reduceIte,xBm,xA6,xAX,xOo]
  | succ d ih =>
    intro i b h
    have hlt : (i : Int) < (n.fi.length : Nat) := by omega
    have hi : i < n.fi.length := by omega
    have hq := hV.fis _ (xCN (a := (0 : Int)) hi)
    have hc := xK2 ((lsW (o.getD l 0) 64).length == 0) (lsW (o.getD l 0) 64) (n.fi.getD i 0) (by have := xEJ (o.getD l 0) 64; omega)
    have hb := xJu (o.getD l 0) (n.fi.getD i 0).toNat
    rw [Int.toNat_of_nonneg hq.1,decide_eq_true (show (n.fi.getD i 0).toNat < 64 by omega),Bool.true_and] at hb
    rw [hb] at hc
    have hc' : L.pcall 85 [xCJ (o.getD l 0),.int .i64 (n.fi.getD i 0)] = some (.bool ((o.getD l 0).testBit (n.fi.getD i 0).toNat)) := hc
    have g1 : List.take 1 (List.drop i (ints n.fi)) = [.int .i64 (n.fi.getD i 0)] := xDv _ _ hi
    rw [xDU hi,List.any_cons]
    obtain ⟨za,na,ca,hA⟩ : ∃ z m c,xCJ (o.getD l 0) = AV.sl z m c := ⟨_,_,_,rfl⟩
    rw [hA] at gl hc'
    have hmp : (o.map xCJ).length = o.length := List.length_map ..
    have ih := ih (i + 1)
    generalize (o.getD l 0).testBit (n.fi.getD i 0).toNat = t at *
    generalize o.map xCJ = S at *
    cases b with
    | true =>
      have ih := ih true (by omega)
      rw [Bool.true_or] at ih
      rw [Bool.true_or,xQE]
      simp (maxSteps := 30000000) (disch := first | assumption | omega | (simp only [List.length_cons,List.length_nil,List.length_append,List.length_set,List.length_replicate,List.length_map,List.length_range,List.length_take,List.length_drop,List.all_cons,List.all_nil,AV.isCell,Bool.and_self,Bool.and_true,xAh,xAb,xAe,xAa,xAa,xAJ,List.length_map,xAo] <;> omega) | rfl | decide) only [xLp,xAq,xAf,xAc,xAk,xAz,opv,List.getD_cons_succ,List.getD_cons_zero,xAr,List.set_cons_succ,List.set_cons_zero,xAi,xAQ,xAC,Nat.zero_add,xAm,xAH,xA1,h0,xAu,List.drop_succ_cons,List.drop_zero,List.take_succ_cons,List.take_zero,xAM,xA3,xA4,xAB,xAw,hlt,decide_true,xAg,xAj,xAd,xAp,xAl,↓reduceIte,xAx,xAs,xBt,xAU,xA5,xB4,xBj,xBp,xBd,xBC,xBu,Bool.true_eq_false,xCc,xA2,xBc,xCf,xBo,xAK,xAA,xA9,xAL,xAt,xBf,xB6,xCQ,xAy,xOo,ih]
    | false =>
      have ih := ih t (by omega)
      rw [Bool.false_or,xQE]
      simp (maxSteps := 30000000) (disch := first | assumption | omega | (simp only [List.length_cons,List.length_nil,List.length_append,List.length_set,List.length_replicate,List.length_map,List.length_range,List.length_take,List.length_drop,List.all_cons,List.all_nil,AV.isCell,Bool.and_self,Bool.and_true,xAh,xAb,xAe,xAa,xAa,xAJ,List.length_map,xAo] <;> omega) | rfl | decide) only [xLp,xAq,xAf,xAc,xAk,xAz,opv,List.getD_cons_succ,List.getD_cons_zero,xAr,List.set_cons_succ,List.set_cons_zero,xAi,xAQ,xAC,Nat.zero_add,xAm,xAH,xA1,h0,xAu,List.drop_succ_cons,List.drop_zero,List.take_succ_cons,List.take_zero,xAM,xA3,xA4,xAB,xAw,hlt,decide_true,xAg,xAj,xAd,xAp,xAl,↓reduceIte,xAx,xAs,xBt,xAU,xA5,xB4,xBj,xBp,xBd,xBC,xBu,xBL,xAW,xBG,Int.toNat_natCast,Nat.mul_one,xBE,hid,gl,xCw,xAY,xBn,xB1,xBR,xCu,xBW,Nat.add_zero,xA2,xBc,xCf,xBo,xAK,xAA,xBH,List.map_cons,List.map_nil,xBi,xBP,List.mapM_cons,xB0,xBa,List.mapM_nil,Option.pure_def,Option.bind_eq_bind,Option.bind_some,xBh,hc',xBg,xDx,xCq,xA9,xAL,Bool.false_eq_true,xAt,xBf,xB6,xCQ,xAy,xOo,ih]
end
end Go.Abs.Det

/- The reference's Determinize: the states of the automaton. -/
namespace Go.Abs.Det
open Go Go.Abs
set_option linter.unusedSimpArgs false
set_option linter.unusedVariables false

def RfD (n : Aut) (o : List Nat) (q l : Nat) (G : xAv) : Prop := ∃ vN vF,G[q]? = some (.cells false false [.int .i64 n.vars,.int .i64 0,vN,vF]) ∧ Lst (q + 1) G vN ((xD0 n.vars (xFJ n o) o.length l).map rowsD) ∧ Lst (q + 1) G vF (bools (xG7 (xNn n o) l)) ∧ ∀ b,At vN b → ¬ At vF b

section
variable {n : Aut} {o : List Nat} {id q : Nat} {s4 : AV}
set_option maxRecDepth 10000 in
set_option maxHeartbeats 4000000 in
theorem yFk (hV : Valid n) (hT : TyA n) (hol : o.length ≤ 64) (hbd : ∀ w ∈ o,w < 18446744073709551616) (hdone : ∀ l r x,l < o.length → r < o.length → x < two n.vars → aft n (o.getD l 0) (o.getD r 0) x ∈ o) (hiq : id < q) (h0q : 0 < q) : ∀ e l G,l + e = o.length → G[0]? = some (.cells false false n.cells) → G[id]? = some (.cells false false (o.map xCJ)) → q + 1 ≤ G.length → RfD n o q l G →
    ∃ G',L.loop xLs xTk ⟨xLt (.ptr 0 0) s4 (.own false id 0 o.length 1) (.ptr q 0) (.int .i64 (l : Nat)),G⟩ =
      some (.exit 8,⟨xLt (.ptr 0 0) s4 (.own false id 0 o.length 1) (.ptr q 0) (.int .i64 (o.length : Nat)),G'⟩) ∧ RfD n o q o.length G' ∧ Kp q G G' := by
  have h8 := xFe hV.v3
  intro e
  induction e with
  | zero =>
    intro l G h h0 hid hG hv
    obtain rfl : l = o.length := by omega
    refine ⟨G,?_,hv,Kp.refl _ _⟩
    rw [xU5]
    simp (maxSteps := 30000000) (disch := first | assumption | omega | (simp only [List.length_cons,List.length_nil,List.length_append,List.length_set,List.length_replicate,List.length_map,List.length_range,List.length_take,List.length_drop,List.all_cons,List.all_nil,AV.isCell,Bool.and_self,Bool.and_true,xAh,xAb,xAe,xAa,xAa,xAJ,List.length_map,xAo] <;> omega) | rfl | decide) only [xOp,xAq,xAf,xAc,xAk,xAz,opv,List.getD_cons_succ,List.getD_cons_zero,xAr,List.set_cons_succ,List.set_cons_zero,xAi,xA3,xBT,xAm,xAB,xAw,Int.lt_irrefl,decide_false,xAg,xAj,xAd,xAp,xAl,Bool.false_eq_true,↓reduceIte,xBm,xA6,xAX,xQF]
  | succ e ih =>
    intro l G h h0 hid hG hv
    have hlt : (l : Int) < (o.length : Nat) := by omega
    have hl : l < o.length := by omega
    obtain ⟨vN,vF,hb,hN,hF,hNF⟩ := hv
    obtain ⟨v1,G1,q1,q2,q3⟩ := yFi (s4 := s4) (s15 := .ptr q 0) (B := G.length) (l := l) hV hT hol hbd (fun r x hr hx => hdone l r x hl hr hx) hl (by omega) (by omega) o.length 0 G (.sl true 0 []) (by omega) h0 hid (Nat.le_refl _) (Lst.nil _ _)
    rw [xSX] at q2
    obtain ⟨f1,G2,f2,f3⟩ := q2.data (yAl _)
    have hlen : ((xET n.vars (xFJ n o) o.length l).map rowT).length = o.length := by rw [List.length_map,xDV]
    have hz : (((xET n.vars (xFJ n o) o.length l).map rowT).length == 0) = false := by rw [hlen,beq_eq_false_iff_ne]; omega
    rw [hz,hlen] at f1
    have k2 : Kp G.length G G2 := q3.trans f3
    have hl2 := k2.1
    have hN2 := hN.keep k2 (Nat.le_refl _)
    have hF2 := hF.keep k2 (Nat.le_refl _)
    obtain ⟨_,G3,p1,p2,p3,p4,p5,i2,m2,rfl⟩ := hN2.push2 (rowsD (xET n.vars (xFJ n o) o.length l)) (bytes := 24) (by rw [List.length_map,xCg]; omega) (by rw [List.length_map,xCg]; omega) (by omega)
    have e2 : (xD0 n.vars (xFJ n o) o.length l).map rowsD ++ [rowsD (xET n.vars (xFJ n o) o.length l)] = (xD0 n.vars (xFJ n o) o.length (l + 1)).map rowsD := by rw [xKm,List.map_append]; rfl
    rw [e2] at p2
    have hl3 := p3.1
    have hF3 : Lst (q + 1) G3 vF (bools (xG7 (xNn n o) l)) := hF2.other fun b hb' => p4 b (hF2.inb hb').1 fun r => hNF b r hb'
    obtain ⟨X,hX⟩ : ∃ X,X = Blk.cells false false [.int .i64 n.vars,.int .i64 0,(.own false i2 0 m2 1),vF] := ⟨_,rfl⟩
    have b3 : G3[q]? = some (.cells false false [.int .i64 n.vars,.int .i64 0,vN,vF]) := (p3.2 q (by omega)).trans ((k2.2 q (by omega)).trans hb)
    have b4 : (G3.set q X)[q]? = some X := List.getElem?_set_self (by omega)
    have hF4 : Lst (q + 1) (G3.set q X) vF (bools (xG7 (xNn n o) l)) := hF3.other fun b hb' => List.getElem?_set_ne (by have := (hF3.inb hb').2; omega)
    have hN4 : Lst (q + 1) (G3.set q X) (.own false i2 0 m2 1) ((xD0 n.vars (xFJ n o) o.length (l + 1)).map rowsD) := p2.other fun b hb' => List.getElem?_set_ne (by have := (p2.inb hb').2; omega)
    obtain ⟨_,G5,r1,r2,r3,r4,r5,i3,m3,rfl⟩ := hF4.push2 (.bool (xNn n o l)) (bytes := 1) (by rw [xAJ,xDw]; omega) (by rw [xAJ,xDw]; omega) (by rw [List.length_set]; omega)
    have e3 : bools (xG7 (xNn n o) l) ++ [.bool (xNn n o l)] = bools (xG7 (xNn n o) (l + 1)) := by rw [xNe]; simp [bools]
    rw [e3] at r2
    have hl5 := r3.1
    rw [List.length_set] at hl5
    have b5 : G5[q]? = some X := (r3.2 q (by omega)).trans b4
    have hN5 : Lst (q + 1) G5 (.own false i2 0 m2 1) ((xD0 n.vars (xFJ n o) o.length (l + 1)).map rowsD) := hN4.other fun b hb' => r4 b (hN4.inb hb').1 fun r => by
      have h1 := (hF3.inb r).1
      have h2 := p5 b hb'
      have h3 := (hF2.inb r).1
      omega
    obtain ⟨Y,hY⟩ : ∃ Y,Y = Blk.cells false false [.int .i64 n.vars,.int .i64 0,(.own false i2 0 m2 1),(.own false i3 0 m3 1)] := ⟨_,rfl⟩
    have b6 : (G5.set q Y)[q]? = some Y := List.getElem?_set_self (by omega)
    have hN6 : Lst (q + 1) (G5.set q Y) (.own false i2 0 m2 1) ((xD0 n.vars (xFJ n o) o.length (l + 1)).map rowsD) := hN5.other fun b hb' => List.getElem?_set_ne (by have := (hN5.inb hb').2; omega)
    have hF6 : Lst (q + 1) (G5.set q Y) (.own false i3 0 m3 1) (bools (xG7 (xNn n o) (l + 1))) := r2.other fun b hb' => List.getElem?_set_ne (by have := (r2.inb hb').2; omega)
    have kk : Kp q G (G5.set q Y) := ⟨by rw [List.length_set]; omega,fun b hb' => by
      rw [List.getElem?_set_ne (by omega),r3.2 b (by omega),List.getElem?_set_ne (by omega),p3.2 b (by omega),k2.2 b (by omega)]⟩
    obtain ⟨G',j1,j2,j3⟩ := ih (l + 1) (G5.set q Y) (by omega) (kk.get h0q h0) (kk.get hiq hid) (by rw [List.length_set]; omega) ⟨_,_,by rw [b6,hY],hN6,hF6,fun b hb' r => by
      have h2 := p5 b hb'
      have h3 := r5 b r
      rw [List.length_set] at h3
      have := (p2.inb hb').1
      omega⟩
    refine ⟨G',?_,j2,kk.trans j3⟩
    have g0 : ∀ X : Blk,(G3.set q X)[0]? = some (.cells false false n.cells) := fun X => by rw [List.getElem?_set_ne (by omega),p3.2 0 (by omega),k2.2 0 (by omega),h0]
    have gid : ∀ X : Blk,(G3.set q X)[id]? = some (.cells false false (o.map xCJ)) := fun X => by rw [List.getElem?_set_ne (by omega),p3.2 id (by omega),k2.2 id (by omega),hid]
    have hfs := fun X : Blk => yFj (s4 := s4) (s15 := .ptr q 0) hV hT hol hl (g0 X) (gid X) n.fi.length 0 false (by omega)
    simp only [List.drop_zero,Bool.false_or,Int.natCast_zero] at hfs
    have hdf : (n.fi.any fun f => (o.getD l 0).testBit f.toNat) = xNn n o l := rfl
    rw [hdf] at hfs
    have b2 : G2[q]? = some (.cells false false [.int .i64 n.vars,.int .i64 0,vN,vF]) := (k2.2 q (by omega)).trans hb
    have e4 : rowsD (xET n.vars (xFJ n o) o.length l) = .sl false o.length ((xET n.vars (xFJ n o) o.length l).map rowT) := by unfold rowsD; rw [xDV]
    rw [e4] at p1
    rw [hX] at b4 r1 b5
    rw [hY] at j1
    simp only [Int.natCast_zero] at q1
    generalize xNn n o l = df at *
    generalize (xET n.vars (xFJ n o) o.length l).map rowT = RR at *
    rw [xU5]
    simp (maxSteps := 30000000) (disch := first | assumption | omega | (simp only [List.length_cons,List.length_nil,List.length_append,List.length_set,List.length_replicate,List.length_map,List.length_range,List.length_take,List.length_drop,List.all_cons,List.all_nil,AV.isCell,Bool.and_self,Bool.and_true,xAh,xAb,xAe,xAa,xAa,xAJ,List.length_map,xAo] <;> omega) | rfl | decide) only [xOp,xAq,xAf,xAc,xAk,xAz,opv,List.getD_cons_succ,List.getD_cons_zero,xAr,List.set_cons_succ,List.set_cons_zero,xAi,xA3,xBT,xAm,xAB,xAw,hlt,decide_true,xAg,xAj,xAd,xAp,xAl,↓reduceIte,xAx,xAs,xA7,xQD,q1,xAR,xRo,xBP,f1,xMl,xCE,f2,xAQ,xAC,Nat.zero_add,xAH,xA1,b2,xAu,List.drop_succ_cons,List.drop_zero,List.take_succ_cons,List.take_zero,xAM,xBY,AV.cells,List.all_cons,List.length_cons,List.length_nil,beq_self_eq_true,List.all_nil,Bool.and_self,xDh,List.append_nil,Nat.mul_one,List.map_cons,List.map_nil,xCm,Nat.le_refl,AV.isCell,and_self,xBl,List.nil_append,List.drop_nil,xBX,xCn,List.flatMap_cons,xDP,List.flatMap_nil,List.isEmpty_nil,List.mapM_cons,xB0,List.mapM_nil,Option.pure_def,Option.bind_eq_bind,Option.bind_some,xCi,xBZ,xDs,p1,xBe,xBJ,b3,xAZ,List.cons_append,Nat.reduceAdd,xAN,xBq,xOo,hfs,b4,List.take_nil,xKu,xCr,r1,b5,xAt,xBf,xB6,xCQ,xAy,xQF,j1]
end
end Go.Abs.Det

/- The reference's Determinize: the whole. -/
namespace Go.Abs.Det
open Go Go.Abs
set_option linter.unusedSimpArgs false
set_option linter.unusedVariables false

theorem xN7 (s : Int) (hs : s ≤ 64) : ∀ (m k : Nat) (l : List Int) (last : Int),k + m = 64 → xHR s last l = true → last < (k : Int) → (∀ q ∈ l,(k : Int) ≤ q) → (((List.range' k m).filter fun (j : Nat) => l.contains (j : Int)).map fun (j : Nat) => (j : Int)) = l
  | 0,k,l,last,hk,ha,hl,hq => by
    cases l with
    | nil => rfl
    | cons a t =>
      have h1 := xFW ha a (by simp)
      have h2 := hq a (by simp)
      omega
  | m + 1,k,l,last,hk,ha,hl,hq => by
    rw [List.range'_succ,List.filter_cons]
    cases l with
    | nil => simp
    | cons a t =>
      have ha' := ha
      unfold xHR at ha'
      split at ha'
      · cases ha'
      rename_i c
      have ht := xFW ha'
      by_cases e : a = (k : Int)
      · have hc : (a :: t).contains (k : Int) = true := by rw [List.contains_cons,e]; simp
        rw [if_pos hc,List.map_cons,← e]
        congr 1
        have ih := xN7 s hs m (k + 1) t a (by omega) ha' (by omega) (fun q hq' => by have := ht q hq'; omega)
        have hcg : (List.range' (k + 1) m).filter (fun (j : Nat) => (a :: t).contains (j : Int)) = (List.range' (k + 1) m).filter (fun (j : Nat) => t.contains (j : Int)) := by
          refine List.filter_congr fun j hj => ?_
          have hj2 := (List.mem_range'_1.1 hj).1
          have : ((j : Int) == a) = false := by rw [beq_eq_false_iff_ne]; omega
          rw [List.contains_cons,this,Bool.false_or]
        rw [hcg]
        exact ih
      · have hq0 := hq a (by simp)
        have hc : ¬ (a :: t).contains (k : Int) = true := by
          intro h
          rcases List.mem_cons.1 (List.contains_iff_mem.1 h) with q | q
          · exact e q.symm
          · have := ht _ q; omega
        rw [if_neg hc]
        exact xN7 s hs m (k + 1) (a :: t) last (by omega) ha (by omega) (fun q hq' => by
          rcases List.mem_cons.1 hq' with rfl | h
          · omega
          · have := ht q h; omega)
theorem xSY {s : Int} (hs : s ≤ 64) {l : List Int} (ha : xHR s (-1) l = true) : lsW (xDA 0 l) 64 = l := by
  have hq := xFW ha
  have h := xN7 s hs 64 0 l (-1) rfl ha (by omega) (fun q hq' => by have := hq q hq'; omega)
  rw [← List.range_eq_range'] at h
  unfold lsW
  have hc : (List.range 64).filter (fun (j : Nat) => (xDA 0 l).testBit j) = (List.range 64).filter (fun (j : Nat) => l.contains (j : Int)) := List.filter_congr fun j _ => by
    rw [xNd _ _ _ (fun q hq' => by have := hq q hq'; omega),Nat.zero_testBit,Bool.false_or]
  rw [hc]
  exact h

section
variable {n : Aut}
set_option maxRecDepth 10000 in
theorem xSZ (hT : TyA n) (bu : Int) (h : xNc n ≠ 0) : L.pcall 38 [n.av,.int .i64 bu] = some (.tup [zD,.sl true 0 [],.int .i64 (xNc n)]) := by
  have h1 := xHb n hT.st hT.fi hT.rl hT.u8
  rw [yAz,a38,xBA]
  simp (maxSteps := 30000000) (disch := first | assumption | omega | (simp only [List.length_cons,List.length_nil,List.length_append,List.length_set,List.length_replicate,List.length_map,List.length_range,List.length_take,List.length_drop,List.all_cons,List.all_nil,AV.isCell,Bool.and_self,Bool.and_true,xAh,xAb,xAe,xAa,xAa,xAJ,List.length_map,xAo] <;> omega) | rfl | decide) only [xAT,List.length_cons,List.length_nil,Nat.zero_add,Nat.reduceAdd,Nat.reduceSub,xCF,List.cons_append,List.nil_append,xAq,xAf,xAc,xAk,xBv,AV.cells,opv,List.getD_cons_zero,List.all_cons,AV.isCell,List.all_nil,Bool.and_self,↓reduceIte,xAr,List.set_cons_succ,List.set_cons_zero,xAi,xAz,xAg,xAj,xAd,xAH,List.getD_cons_succ,xA1,List.getElem?_cons_zero,xAu,List.drop_zero,List.take_succ_cons,List.take_nil,xBz,xAm,xBH,List.map_cons,List.map_nil,xBi,xBP,List.mapM_cons,xCo,xBa,xB0,List.mapM_nil,Option.pure_def,Option.bind_eq_bind,Option.bind_some,Option.map_some,xBh,h1,xBg,xDx,xCq,xAB,xBy,h,decide_false,Bool.not_false,xAp,xAl,xCh,xCm,xBe,xBJ,List.getElem?_cons_succ,xAZ,xBl,List.take_zero,List.drop_succ_cons,List.drop_nil,List.append_nil,xAN,xBq,xA0,xBb,xAP,xDl,xDk,xC9,xCz,xFm,xDj,xBk,xDO,xAD,xAS,xKt]
set_option maxRecDepth 10000 in
theorem xS0 (hT : TyA n) {bu : Int} (h : xNc n = 0) (hb : bu < 1 ∨ 64 < bu) : L.pcall 38 [n.av,.int .i64 bu] = some (.tup [zD,.sl true 0 [],.int .i64 1]) := by
  have h1 := xHb n hT.st hT.fi hT.rl hT.u8
  rw [h] at h1
  rw [yAz,a38,xBA]
  by_cases c : bu < 1
  · simp (maxSteps := 30000000) (disch := first | assumption | omega | (simp only [List.length_cons,List.length_nil,List.length_append,List.length_set,List.length_replicate,List.length_map,List.length_range,List.length_take,List.length_drop,List.all_cons,List.all_nil,AV.isCell,Bool.and_self,Bool.and_true,xAh,xAb,xAe,xAa,xAa,xAJ,List.length_map,xAo] <;> omega) | rfl | decide) only [xAT,List.length_cons,List.length_nil,Nat.zero_add,Nat.reduceAdd,Nat.reduceSub,xCF,List.cons_append,List.nil_append,xAq,xAf,xAc,xAk,xBv,AV.cells,opv,List.getD_cons_zero,List.all_cons,AV.isCell,List.all_nil,Bool.and_self,↓reduceIte,xAr,List.set_cons_succ,List.set_cons_zero,xAi,xAz,xAg,xAj,xAd,xAH,List.getD_cons_succ,xA1,List.getElem?_cons_zero,xAu,List.drop_zero,List.take_succ_cons,List.take_nil,xBz,xAm,xBH,List.map_cons,List.map_nil,xBi,xBP,List.mapM_cons,xCo,xBa,xB0,List.mapM_nil,Option.pure_def,Option.bind_eq_bind,Option.bind_some,Option.map_some,xBh,h1,xBg,xDx,xCq,xAB,xBy,decide_true,Bool.not_true,xAp,xAl,Bool.false_eq_true,xAx,xAw,c,xAK,xAA,Bool.true_eq_false,xCc,xA9,xAL,xCh,xCm,xBe,xBJ,List.getElem?_cons_succ,xAZ,xBl,List.take_zero,List.drop_succ_cons,List.drop_nil,List.append_nil,xAN,xBq,xA0,xBb,xAP,xDl,xDk,xC9,xCz,xFm,xDj,xBk,xDO,xAD,xAS,xKt]
  · have c2 : 64 < bu := by omega
    simp (maxSteps := 30000000) (disch := first | assumption | omega | (simp only [List.length_cons,List.length_nil,List.length_append,List.length_set,List.length_replicate,List.length_map,List.length_range,List.length_take,List.length_drop,List.all_cons,List.all_nil,AV.isCell,Bool.and_self,Bool.and_true,xAh,xAb,xAe,xAa,xAa,xAJ,List.length_map,xAo] <;> omega) | rfl | decide) only [xAT,List.length_cons,List.length_nil,Nat.zero_add,Nat.reduceAdd,Nat.reduceSub,xCF,List.cons_append,List.nil_append,xAq,xAf,xAc,xAk,xBv,AV.cells,opv,List.getD_cons_zero,List.all_cons,AV.isCell,List.all_nil,Bool.and_self,↓reduceIte,xAr,List.set_cons_succ,List.set_cons_zero,xAi,xAz,xAg,xAj,xAd,xAH,List.getD_cons_succ,xA1,List.getElem?_cons_zero,xAu,List.drop_zero,List.take_succ_cons,List.take_nil,xBz,xAm,xBH,List.map_cons,List.map_nil,xBi,xBP,List.mapM_cons,xCo,xBa,xB0,List.mapM_nil,Option.pure_def,Option.bind_eq_bind,Option.bind_some,Option.map_some,xBh,h1,xBg,xDx,xCq,xAB,xBy,decide_true,Bool.not_true,xAp,xAl,Bool.false_eq_true,xAx,xAw,c,decide_false,xAK,xAA,xBS,c2,xA9,xAL,xCh,xCm,xBe,xBJ,List.getElem?_cons_succ,xAZ,xBl,List.take_zero,List.drop_succ_cons,List.drop_nil,List.append_nil,xAN,xBq,xA0,xBb,xAP,xDl,xDk,xC9,xCz,xFm,xDj,xBk,xDO,xAD,xAS,xKt]

theorem xNi (hT : TyA n) (hV : Valid n) {bu : Nat} (h1 : 1 ≤ bu) (h64 : bu ≤ 64) :
    ∃ v G q,L.loop xIi xPu ⟨xGC (.int .i64 (bu : Nat)) (.ptr 0 0) (.ptr 1 0) (.sl true 0 []) (.int .i64 0) (.own false 2 0 1 1) (.int .i64 0),[.cells false false n.cells,.cells false false z4,.cells false false [xCJ (xDA 0 n.st)]]⟩ =
      some (if xDB bu (xFg n bu) = true then .ret else .exit 0,⟨xGC (.int .i64 (bu : Nat)) (.ptr 0 0) (.ptr 1 0) (.sl true 0 []) (eE bu (xFg n bu)) v q,G⟩) ∧ RfI n (xFg n bu) v G := by
  have hI : RfI n [xDA 0 n.st] (.own false 2 0 1 1) [.cells false false n.cells,.cells false false z4,.cells false false [xCJ (xDA 0 n.st)]] :=
    ⟨rfl,rfl,.inr ⟨2,rfl,rfl,Nat.le_refl _,by simp⟩,fun w hw => by rw [List.mem_singleton] at hw; rw [hw]; exact xKX _ _ (by omega) hV.sts⟩
  obtain ⟨v,G,q,e1,e2⟩ := yFg hV hT h64 bu 0 [xDA 0 n.st] _ _ (by omega) hI (by simpa using h1) (by simp)
  exact ⟨v,G,q,e1,e2⟩

set_option maxRecDepth 10000 in
set_option maxHeartbeats 2000000 in
theorem xQa (hT : TyA n) (hc : xNc n = 0) {bu : Nat} (h1 : 1 ≤ bu) (h64 : bu ≤ 64) (ho : bu < (xFg n bu).length) : L.pcall 38 [n.av,.int .i64 (bu : Nat)] = some (.tup [zD,.sl true 0 [],.int .i64 10]) := by
  have hk := xHb n hT.st hT.fi hT.rl hT.u8
  rw [hc] at hk
  have hV := chkE_zero.1 hc
  obtain ⟨v,G,q,e1,e2⟩ := xNi hT hV h1 h64
  have hcp := xPe n.z1 n.st hT.st
  have hst := xSY hV.s64 hV.st
  have xD1 : iw (n.st.length == 0) n.st = xCJ (xDA 0 n.st) := by unfold xCJ; rw [hst]
  rw [xD1] at hcp
  have hb : xDB bu (xFg n bu) = true := by simp [ho]
  simp only [eE,hb,if_true] at e1
  have b1 := e2.b1
  have c1 : ¬ ((bu : Nat) : Int) < 1 := by omega
  have c2 : ¬ (64 : Int) < (bu : Nat) := by omega
  obtain ⟨zw,nw,cw,hW⟩ : ∃ z m c,xCJ (xDA 0 n.st) = AV.sl z m c := ⟨_,_,_,rfl⟩
  rw [hW] at e1 hcp
  rw [yAz,a38,xBA]
  simp (maxSteps := 30000000) (disch := first | assumption | omega | (simp only [List.length_cons,List.length_nil,List.length_append,List.length_set,List.length_replicate,List.length_map,List.length_range,List.length_take,List.length_drop,List.all_cons,List.all_nil,AV.isCell,Bool.and_self,Bool.and_true,xAh,xAb,xAe,xAa,xAa,xAJ,List.length_map,xAo] <;> omega) | rfl | decide) only [xAT,List.length_cons,List.length_nil,Nat.zero_add,Nat.reduceAdd,Nat.reduceSub,xCF,List.cons_append,List.nil_append,xAq,xAf,xAc,xAk,xBv,AV.cells,opv,List.getD_cons_zero,List.all_cons,AV.isCell,List.all_nil,Bool.and_self,↓reduceIte,xAr,List.set_cons_succ,List.set_cons_zero,xAi,xAz,xAg,xAj,xAd,xAH,List.getD_cons_succ,xA1,List.getElem?_cons_zero,xAu,List.drop_zero,List.take_succ_cons,List.take_nil,xBz,xAm,xBH,List.map_cons,List.map_nil,xBi,xBP,List.mapM_cons,xCo,xBa,xB0,List.mapM_nil,Option.pure_def,Option.bind_eq_bind,Option.bind_some,Option.map_some,xBh,hk,xBg,xDx,xCq,xAB,xBy,decide_true,Bool.not_true,xAp,xAl,Bool.false_eq_true,xAx,xAw,c1,decide_false,xAK,xAA,xBS,c2,xA9,xAL,xAQ,xAC,List.drop_succ_cons,List.take_zero,xAM,hcp,xCE,List.flatMap_cons,xDP,List.flatMap_nil,List.append_nil,List.foldl_nil,xBY,beq_self_eq_true,xDh,Nat.mul_one,xCm,Nat.le_refl,and_self,xBl,List.drop_nil,xBX,xC8,xAs,xA7,xLk,e1,xA8,xBb,xAP,xDl,xDk,xC9,b1,xCz,xFm,xDj,xBk,xDO,xAD,xAS,xKt]

set_option maxRecDepth 10000 in
set_option maxHeartbeats 4000000 in
theorem xUQ (hT : TyA n) (hc : xNc n = 0) {bu : Nat} (h1 : 1 ≤ bu) (h64 : bu ≤ 64) (ho : (xFg n bu).length ≤ bu) : L.pcall 38 [n.av,.int .i64 (bu : Nat)] = some (.tup [(xYb n (xFg n bu)).av,xFK (xFg n bu),.int .i64 0]) := by
  have hk := xHb n hT.st hT.fi hT.rl hT.u8
  rw [hc] at hk
  have hV := chkE_zero.1 hc
  obtain ⟨v,G,qq,e1,e2⟩ := xNi hT hV h1 h64
  have hcp := xPe n.z1 n.st hT.st
  have hst := xSY hV.s64 hV.st
  have xD1 : iw (n.st.length == 0) n.st = xCJ (xDA 0 n.st) := by unfold xCJ; rw [hst]
  rw [xD1] at hcp
  have hdone := fun (i j x : Nat) => xJy (n := n) (bu := bu) ho (i := i) (j := j) (x := x)
  have hpos := xK5 ho
  have hb : xDB bu (xFg n bu) = false := by simp [ho]
  simp only [eE,hb,Bool.false_eq_true,if_false] at e1
  generalize xFg n bu = o at *
  obtain ⟨id,rfl,hid⟩ := e2.own (by intro q; rw [q] at hpos; simp at hpos)
  have hidl := (List.getElem?_eq_some_iff.1 hid).1
  have b0 := e2.b0
  have b1 := e2.b1
  have hlen2 := e2.len2
  obtain ⟨G',q1,q2,q3⟩ := yFk (s4 := .ptr 1 0) (q := G.length) hV hT (by omega) e2.bd hdone hidl (by omega) o.length 0 (G ++ [.cells false false [.int .i64 n.vars,.int .i64 0,.sl true 0 [],.sl true 0 []]]) (by omega) (xBQ b0) (xBQ hid) (by simp)
    ⟨_,_,xCy _ _,Lst.nil _ _,Lst.nil _ _,fun b hb => by obtain ⟨z,o,n,es,e⟩ := hb; cases e⟩
  obtain ⟨vN,vF,g2,hN,hF,_⟩ := q2
  have hlN : ((xD0 n.vars (xFJ n o) o.length o.length).map rowsD).length = o.length := by rw [List.length_map,xCg]
  have hlF : (bools (xG7 (xNn n o) o.length)).length = o.length := by rw [xAJ,xDw]
  obtain ⟨i1,m1,rfl⟩ := hN.own (fun q => by rw [q] at hlN; simp at hlN; omega)
  obtain ⟨i2,m2,rfl⟩ := hF.own (fun q => by rw [q] at hlF; simp at hlF; omega)
  have hl3 : G.length + 1 ≤ G'.length := by have := q3.1; simp at this; omega
  obtain ⟨X,hX⟩ : ∃ X,X = Blk.cells false false [.int .i64 n.vars,.int .i64 0,.own false i1 0 m1 1,.own false i2 0 m2 1] := ⟨_,rfl⟩
  have old : ∀ b,b < G.length → G'[b]? = G[b]? := fun b hb => by rw [q3.2 b hb,List.getElem?_append_left hb]
  have g1 : G'[1]? = some (.cells false false z4) := (old 1 (by omega)).trans b1
  have s1 : (G'.set 1 X)[1]? = some X := List.getElem?_set_self (by omega)
  have hz : (o.length == 0) = false := by rw [beq_eq_false_iff_ne]; omega
  have fN := (hN.other (H' := G'.set 1 X) fun b hb' => List.getElem?_set_ne (by have := (hN.inb hb').2; omega)).dat (yAm _) 3
  have fF := (hF.other (H' := G'.set 1 X) fun b hb' => List.getElem?_set_ne (by have := (hF.inb hb').2; omega)).dat (yAn _) 3
  rw [hlN,hz] at fN
  rw [hlF,hz] at fF
  have hidlo : 2 ≤ id := by
    rcases e2.lst with ⟨_,h⟩ | ⟨id',h,_,h2,_⟩
    · cases h
    · simp only [AV.own.injEq] at h; omega
  have fS : frz 5 (G'.set 1 X) (.own false id 0 o.length 1) = some (.sl false o.length (o.map xCJ)) := by
    have hL : Lst 2 (G'.set 1 X) (.own false id 0 o.length 1) (o.map xCJ) := .inr ⟨id,by rw [List.length_map],by rw [List.getElem?_set_ne (by omega),old id hidl]; exact hid,hidlo,by intro q; have := congrArg List.length q; rw [List.length_map] at this; simp at this; rw [this] at hpos; simp at hpos⟩
    have := hL.dat (xH8 _) 4
    rw [List.length_map,hz] at this
    exact this
  have c1 : ¬ ((bu : Nat) : Int) < 1 := by omega
  have c2 : ¬ (64 : Int) < (bu : Nat) := by omega
  have hbod : xBN L a38 [n.av,.int .i64 (bu : Nat)] [] = some (.tup [.agg [.int .i64 n.vars,.int .i64 0,.own false i1 0 m1 1,.own false i2 0 m2 1],.own false id 0 o.length 1,.int .i64 0],G'.set 1 X) := by
    rw [hX] at s1 ⊢
    simp only [Int.natCast_zero] at q1
    obtain ⟨zw,nw,cw,hW⟩ : ∃ z m c,xCJ (xDA 0 n.st) = AV.sl z m c := ⟨_,_,_,rfl⟩
    rw [hW] at e1 hcp
    rw [a38]
    simp (maxSteps := 30000000) (disch := first | assumption | omega | (simp only [List.length_cons,List.length_nil,List.length_append,List.length_set,List.length_replicate,List.length_map,List.length_range,List.length_take,List.length_drop,List.all_cons,List.all_nil,AV.isCell,Bool.and_self,Bool.and_true,xAh,xAb,xAe,xAa,xAa,xAJ,List.length_map,xAo] <;> omega) | rfl | decide) only [xAT,List.length_cons,List.length_nil,Nat.zero_add,Nat.reduceAdd,Nat.reduceSub,xCF,List.cons_append,List.nil_append,xAq,xAf,xAc,xAk,xBv,AV.cells,opv,List.getD_cons_zero,List.all_cons,AV.isCell,List.all_nil,Bool.and_self,↓reduceIte,xAr,List.set_cons_succ,List.set_cons_zero,xAi,xAz,xAg,xAj,xAd,xAH,List.getD_cons_succ,xA1,List.getElem?_cons_zero,xAu,List.drop_zero,List.take_succ_cons,List.take_nil,xBz,xAm,xBH,List.map_cons,List.map_nil,xBi,xBP,List.mapM_cons,xCo,xBa,xB0,List.mapM_nil,Option.pure_def,Option.bind_eq_bind,Option.bind_some,Option.map_some,xBh,hk,xBg,xDx,xCq,xAB,xBy,decide_true,Bool.not_true,xAp,xAl,Bool.false_eq_true,xAx,xAw,c1,decide_false,xAK,xAA,xBS,c2,xA9,xAL,xAQ,xAC,List.drop_succ_cons,List.take_zero,xAM,hcp,xCE,List.flatMap_cons,xDP,List.flatMap_nil,List.append_nil,List.foldl_nil,xBY,beq_self_eq_true,xDh,Nat.mul_one,xCm,Nat.le_refl,and_self,xBl,List.drop_nil,xBX,xC8,xAs,xA7,xLk,e1,xAR,Nat.add_zero,b0,xCh,Nat.reduceLeDiff,xBe,xBJ,xCy,xAZ,xC1,xAN,xBq,xQF,q1,g2,g1,xA0,xAP,xDl,xDk,xC9,s1,xCz,xFm,xDj,xBk,xDO,xAD]
  unfold xYb xFK
  unfold Da.av Da.cells
  simp only [xCg,xDw]
  rw [yAz]
  refine xUA hbod ?_
  show ((([AV.agg [.int .i64 n.vars,.int .i64 0,.own false i1 0 m1 1,.own false i2 0 m2 1],AV.own false id 0 o.length 1,AV.int .i64 0]).mapM (frz 5 _)).map AV.tup) = _
  simp only [List.mapM_cons,List.mapM_nil,xBa,xCo,fN,fF,fS,Option.pure_def,Option.bind_eq_bind,Option.bind_some,Option.map_some]
end
end Go.Abs.Det

/- EqualTreeNFA of equal automata. -/
namespace Go.Abs.Det
open Go Go.Abs
set_option linter.unusedSimpArgs false
set_option linter.unusedVariables false

theorem xHc {l : List Rl} {z z' : Bool} {s4 : AV} {H : xAv} (hl : l.length < 1099511627776) : ∀ d i,i + d = l.length →
    L.loop xLI xTq ⟨xLJ (.sl z l.length (rls l)) (.sl z' l.length (rls l)) s4 (.int .i64 (i : Nat)),H⟩ = some (.exit 0,⟨xLJ (.sl z l.length (rls l)) (.sl z' l.length (rls l)) s4 (.int .i64 (l.length : Nat)),H⟩)
  | 0,i,h => by
    obtain rfl : i = l.length := by omega
    rw [xVg]
    simp (maxSteps := 30000000) (disch := first | assumption | omega | (simp only [List.length_cons,List.length_nil,List.length_append,List.length_set,List.length_replicate,List.length_map,List.length_range,List.length_take,List.length_drop,List.all_cons,List.all_nil,AV.isCell,Bool.and_self,Bool.and_true,xAh,xAb,xAe,xAa,xAo] <;> omega) | rfl | decide) only [xOD,xAq,xAf,xAc,xAk,xAz,opv,List.getD_cons_succ,List.getD_cons_zero,xAr,List.set_cons_succ,List.set_cons_zero,xAi,xA3,xA4,xAm,xAB,xAw,Int.lt_irrefl,decide_false,xAg,xAj,xAd,xAp,xAl,Bool.false_eq_true,↓reduceIte,xBm,xA6,xAX,xQU]
  | d + 1,i,h => by
    have hlt : (i : Int) < (l.length : Nat) := by omega
    have ih := xHc (z := z) (z' := z') (s4 := s4) (H := H) hl d (i + 1) (by omega)
    rw [xVg]
    simp (maxSteps := 30000000) (disch := first | assumption | omega | (simp only [List.length_cons,List.length_nil,List.length_append,List.length_set,List.length_replicate,List.length_map,List.length_range,List.length_take,List.length_drop,List.all_cons,List.all_nil,AV.isCell,Bool.and_self,Bool.and_true,xAh,xAb,xAe,xAa,xAo] <;> omega) | rfl | decide) only [xOD,xAq,xAf,xAc,xAk,xAz,opv,List.getD_cons_succ,List.getD_cons_zero,xAr,List.set_cons_succ,List.set_cons_zero,xAi,xA3,xA4,xAm,xAB,xAw,hlt,decide_true,xAg,xAj,xAd,xAp,xAl,↓reduceIte,xAx,xAs,xBt,List.take_succ_cons,List.take_zero,xAU,xA5,xB4,xBj,xBp,xBd,xBL,xAW,xAY,Int.toNat_natCast,xBE,xAH,xBn,xDr,xBz,xA2,xBc,List.drop_succ_cons,List.drop_zero,xCf,xBo,xZn,xTI,xDY,eq1,beq_self_eq_true,Bool.and_self,Option.map_some,bne_self_eq_false,Bool.false_eq_true,xAt,xBf,xB6,xCQ,xAy,xQU,ih]

theorem xUR (z z' : Bool) (l : List Rl) (hl : l.length < 1099511627776) : L.pcall 68 [.sl z l.length (rls l),.sl z' l.length (rls l)] = some (.bool true) := by
  have ih := fun s4 => xHc (z := z) (z' := z') (s4 := s4) (H := []) hl l.length 0 (by omega)
  simp only [Int.natCast_zero] at ih
  rw [yEs,a68,xBA]
  simp (maxSteps := 30000000) (disch := first | assumption | omega | (simp only [List.length_cons,List.length_nil,List.length_append,List.length_set,List.length_replicate,List.length_map,List.length_range,List.length_take,List.length_drop,List.all_cons,List.all_nil,AV.isCell,Bool.and_self,Bool.and_true,xAh,xAb,xAe,xAa,xAo] <;> omega) | rfl | decide) only [xAT,List.length_cons,List.length_nil,Nat.zero_add,Nat.reduceAdd,Nat.reduceSub,xCF,List.cons_append,List.nil_append,xAq,xAf,xAc,xAk,xAz,opv,xAr,List.set_cons_succ,List.set_cons_zero,xAi,xAg,xAj,xAd,List.getD_cons_zero,xA3,List.getD_cons_succ,xA4,xAm,xAB,xBy,decide_true,Bool.not_true,xAp,xAl,Bool.false_eq_true,↓reduceIte,xAx,xAs,xA7,xQU,ih,xAR,xA0,xAP,xAV,xBk,xAD,xAS,xBP,xCr]

theorem xUS (n : Aut) (h1 : n.st.length < 1099511627776) (h2 : n.fi.length < 1099511627776) (h3 : n.rl.length < 1099511627776) (z1 z2 z3 : Bool) : L.pcall 30 [n.av,(Aut.mk n.vars n.states z1 n.st z2 n.fi z3 n.rl).av] = some (.bool true) := by
  have g1 := xJj n.z1 z1 n.st h1
  have g2 := xJj n.z2 z2 n.fi h2
  have g3 := xUR n.z3 z3 n.rl h3
  rw [yEj,a30,xBA]
  simp (maxSteps := 30000000) (disch := first | assumption | omega | (simp only [List.length_cons,List.length_nil,List.length_append,List.length_set,List.length_replicate,List.length_map,List.length_range,List.length_take,List.length_drop,List.all_cons,List.all_nil,AV.isCell,Bool.and_self,Bool.and_true,xAh,xAb,xAe,xAa,xAo] <;> omega) | rfl | decide) only [xAT,List.length_cons,List.length_nil,Nat.zero_add,Nat.reduceAdd,Nat.reduceSub,xCF,List.cons_append,List.nil_append,xAq,xAf,xAc,xAk,xBv,AV.cells,opv,List.getD_cons_zero,List.all_cons,AV.isCell,List.all_nil,Bool.and_self,↓reduceIte,xAr,List.set_cons_succ,List.set_cons_zero,xAi,List.getD_cons_succ,xAz,xAg,xAj,xAd,xAQ,xAC,Nat.add_zero,xAm,xAH,xA1,List.getElem?_cons_zero,xAu,List.drop_zero,List.take_succ_cons,List.take_zero,xAM,List.getElem?_cons_succ,xAB,xC3,decide_true,xAK,xAA,List.drop_succ_cons,xA9,xAL,xBH,List.map_cons,List.map_nil,xBi,xBP,List.mapM_cons,xB0,List.mapM_nil,Option.pure_def,Option.bind_eq_bind,Option.bind_some,xBh,g1,xBg,xDx,xCq,g2,List.take_nil,g3,xA0,xAP,xAV,xBk,xAD,xAS,xCr]

end Go.Abs.Det
