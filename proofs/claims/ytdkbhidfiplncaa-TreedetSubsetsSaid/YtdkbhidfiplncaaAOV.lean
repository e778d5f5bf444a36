/- Results that are written over: OverInts,OverRows,OverBlocks,OverBools,OverTreeDFA. -/
import Derived.Test.YtdkbhidfiplncaaATV
import Derived.Test.YtdkbhidfiplncaaAMD
namespace Go.Abs.Det
open Go Go.Abs
set_option linter.unusedSimpArgs false
set_option linter.unusedVariables false

theorem xJn {id : Nat} : ∀ d i (l : List Int) (G : xAv),i + d = l.length → l.length < 1099511627776 → G[id]? = some (.cells false false (ints l)) →
    ∃ l',l'.length = l.length ∧ L.loop xJE xQx ⟨xIe (.own false id 0 l.length 1) (.int .i64 (i : Nat)),G⟩ = some (.exit 0,⟨xIe (.own false id 0 l.length 1) (.int .i64 (l.length : Nat)),G.set id (.cells false false (ints l'))⟩)
  | 0,i,l,G,h,hl,hG => by
    obtain rfl : i = l.length := by omega
    refine ⟨l,rfl,?_⟩
    have hs : G.set id (.cells false false (ints l)) = G := by
      obtain ⟨h1,h2⟩ := List.getElem?_eq_some_iff.1 hG
      rw [← h2,List.set_getElem_self]
    rw [hs,xQy]
    simp (maxSteps := 30000000) (disch := first | assumption | omega | (simp only [List.length_cons,List.length_nil,List.length_append,List.length_set,List.length_replicate,List.length_map,List.length_range,List.length_take,List.length_drop,List.all_cons,List.all_nil,AV.isCell,Bool.and_self,Bool.and_true,xAh,xAb,xAe,xAa,xAa,xAJ,List.length_map] <;> omega) | rfl | decide) only [xK7,Int.reduceNeg,xAq,xAf,xAc,xAk,xAz,opv,List.getD_cons_succ,List.getD_cons_zero,xAr,List.set_cons_succ,List.set_cons_zero,xAi,xA3,xBT,xAm,xAB,xAw,Int.lt_irrefl,decide_false,xAg,xAj,xAd,xAp,xAl,Bool.false_eq_true,↓reduceIte,xBm,xA6,xAX,xK8]
  | d + 1,i,l,G,h,hl,hG => by
    have hlt : (i : Int) < (l.length : Nat) := by omega
    have hlen := (List.getElem?_eq_some_iff.1 hG).1
    obtain ⟨l',h1,ih⟩ := xJn (id := id) d (i + 1) (l.set i (-77)) (G.set id (.cells false false (ints (l.set i (-77))))) (by rw [List.length_set]; omega) (by rw [List.length_set]; exact hl) (List.getElem?_set_self hlen)
    rw [List.length_set] at h1 ih
    rw [List.set_set] at ih
    refine ⟨l',h1,?_⟩
    have hi : i < l.length := by omega
    rw [xQy]
    simp (maxSteps := 30000000) (disch := first | assumption | omega | (simp only [List.length_cons,List.length_nil,List.length_append,List.length_set,List.length_replicate,List.length_map,List.length_range,List.length_take,List.length_drop,List.all_cons,List.all_nil,AV.isCell,Bool.and_self,Bool.and_true,xAh,xAb,xAe,xAa,xAa,xAJ,List.length_map] <;> omega) | rfl | decide) only [xK7,Int.reduceNeg,xAq,xAf,xAc,xAk,xAz,opv,List.getD_cons_succ,List.getD_cons_zero,xAr,List.set_cons_succ,List.set_cons_zero,xAi,xA3,xBT,xAm,xAB,xAw,hlt,decide_true,xAg,xAj,xAd,xAp,xAl,↓reduceIte,xAx,xAs,xAW,xBG,Int.toNat_natCast,Nat.mul_one,Nat.zero_add,xBe,AV.cells,List.length_cons,List.length_nil,xBJ,hG,xAZ,xBl,xBR,xB1,List.append_assoc,List.cons_append,List.nil_append,xSE,xAN,xBq,xAt,xBf,xB6,xCQ,xAy,xK8,ih]
theorem yAg {G : xAv} {v : AV} (h : TV0 G v) : ∃ G',L.icall (.func 32 []) [v] G = some (.tup [],G') ∧ Tw G G' := by
  rcases h with rfl | ⟨id,l,rfl,hg,hs⟩
  · refine ⟨G,?_,Tw.refl G⟩
    have hl : L.loop xJE xQx ⟨xIe (.sl true 0 []) (.int .i64 0),G⟩ = some (.exit 0,⟨xIe (.sl true 0 []) (.int .i64 0),G⟩) := by
      rw [xQy]
      simp (maxSteps := 30000000) (disch := first | assumption | omega | (simp only [List.length_cons,List.length_nil,List.length_append,List.length_set,List.length_replicate,List.length_map,List.length_range,List.length_take,List.length_drop,List.all_cons,List.all_nil,AV.isCell,Bool.and_self,Bool.and_true,xAh,xAb,xAe,xAa,xAa,xAJ,List.length_map] <;> omega) | rfl | decide) only [xK7,Int.reduceNeg,xAq,xAf,xAc,xAk,xAz,opv,List.getD_cons_succ,List.getD_cons_zero,xAr,List.set_cons_succ,List.set_cons_zero,xAi,xA3,xA4,xC0,xAm,xAB,xAw,Int.lt_irrefl,decide_false,xAg,xAj,xAd,xAp,xAl,Bool.false_eq_true,↓reduceIte,xBm,xA6,xAX,xK8]
    rw [yDp,a32]
    simp (maxSteps := 30000000) (disch := first | assumption | omega | (simp only [List.length_cons,List.length_nil,List.length_append,List.length_set,List.length_replicate,List.length_map,List.length_range,List.length_take,List.length_drop,List.all_cons,List.all_nil,AV.isCell,Bool.and_self,Bool.and_true,xAh,xAb,xAe,xAa,xAa,xAJ,List.length_map] <;> omega) | rfl | decide) only [List.append_nil,xAT,List.length_cons,List.length_nil,Nat.zero_add,Nat.reduceSub,xCF,List.cons_append,List.nil_append,xAq,xAf,xAc,xAk,xAz,opv,xAr,List.set_cons_succ,List.set_cons_zero,xAi,xAg,xAj,xAd,xAs,xA7,xK8,hl,xAR,↓reduceIte,xCx,xDi,xAD]
  · obtain ⟨l',h1,h2⟩ := xJn (id := id) l.length 0 l G (by omega) hs hg
    simp only [Int.natCast_zero] at h2
    refine ⟨_,?_,Tw.setI hg h1⟩
    rw [yDp,a32]
    simp (maxSteps := 30000000) (disch := first | assumption | omega | (simp only [List.length_cons,List.length_nil,List.length_append,List.length_set,List.length_replicate,List.length_map,List.length_range,List.length_take,List.length_drop,List.all_cons,List.all_nil,AV.isCell,Bool.and_self,Bool.and_true,xAh,xAb,xAe,xAa,xAa,xAJ,List.length_map] <;> omega) | rfl | decide) only [List.append_nil,xAT,List.length_cons,List.length_nil,Nat.zero_add,Nat.reduceSub,xCF,List.cons_append,List.nil_append,xAq,xAf,xAc,xAk,xAz,opv,xAr,List.set_cons_succ,List.set_cons_zero,xAi,xAg,xAj,xAd,xAs,xA7,xK8,h2,xAR,↓reduceIte,xCx,xDi,xAD]

theorem xJo {id : Nat} {cs : List AV} (hl : cs.length < 1099511627776) : ∀ d i (G : xAv),i + d = cs.length → G[id]? = some (.cells false false cs) → (∀ c ∈ cs,TV0 G c) →
    ∃ G',L.loop xJG xQG ⟨xIl (.own false id 0 cs.length 1) (.int .i64 (i : Nat)),G⟩ = some (.exit 0,⟨xIl (.own false id 0 cs.length 1) (.int .i64 (cs.length : Nat)),G'⟩) ∧ Tw G G'
  | 0,i,G,h,hG,hc => by
    obtain rfl : i = cs.length := by omega
    refine ⟨G,?_,Tw.refl G⟩
    rw [xQH]
    simp (maxSteps := 30000000) (disch := first | assumption | omega | (simp only [List.length_cons,List.length_nil,List.length_append,List.length_set,List.length_replicate,List.length_map,List.length_range,List.length_take,List.length_drop,List.all_cons,List.all_nil,AV.isCell,Bool.and_self,Bool.and_true,xAh,xAb,xAe,xAa,xAa,xAJ,List.length_map] <;> omega) | rfl | decide) only [xJF,xAq,xAf,xAc,xAk,xAz,opv,List.getD_cons_succ,List.getD_cons_zero,xAr,List.set_cons_succ,List.set_cons_zero,xAi,xA3,xBT,xAm,xAB,xAw,Int.lt_irrefl,decide_false,xAg,xAj,xAd,xAp,xAl,Bool.false_eq_true,↓reduceIte,xBm,xA6,xAX,xJH]
  | d + 1,i,G,h,hG,hc => by
    have hlt : (i : Int) < (cs.length : Nat) := by omega
    have hi : i < cs.length := by omega
    have c1 := hc _ (List.getElem_mem hi)
    obtain ⟨G1,e1,e2⟩ := yAg c1
    have hodd : cs.any xPi = true := by rw [List.any_eq_true]; exact ⟨_,List.getElem_mem hi,TV0.odd c1⟩
    obtain ⟨G',r1,r2⟩ := xJo (id := id) hl d (i + 1) G1 (by omega) (e2.odd hG hodd) (fun c hc' => TV0.tw (hc c hc') e2)
    refine ⟨G',?_,e2.trans r2⟩
    have gc : List.take 1 (List.drop i cs) = [cs[i]] := by rw [List.drop_eq_getElem_cons hi]; rfl
    rw [xQH]
    rcases c1 with e | ⟨k,l,e,_⟩
    · rw [e] at gc e1
      simp (maxSteps := 30000000) (disch := first | assumption | omega | (simp only [List.length_cons,List.length_nil,List.length_append,List.length_set,List.length_replicate,List.length_map,List.length_range,List.length_take,List.length_drop,List.all_cons,List.all_nil,AV.isCell,Bool.and_self,Bool.and_true,xAh,xAb,xAe,xAa,xAa,xAJ,List.length_map] <;> omega) | rfl | decide) only [xJF,xAq,xAf,xAc,xAk,xAz,opv,List.getD_cons_succ,List.getD_cons_zero,xAr,List.set_cons_succ,List.set_cons_zero,xAi,xA3,xBT,xAm,xAB,xAw,hlt,decide_true,xAg,xAj,xAd,xAp,xAl,↓reduceIte,xAx,xAs,xAW,xBG,Int.toNat_natCast,Nat.mul_one,Nat.zero_add,xAH,xA1,hG,xAu,gc,xAM,xCd,List.map_cons,List.map_nil,e1,xAt,xBf,xB6,xCQ,xAy,xJH,r1]
    · rw [e] at gc e1
      simp (maxSteps := 30000000) (disch := first | assumption | omega | (simp only [List.length_cons,List.length_nil,List.length_append,List.length_set,List.length_replicate,List.length_map,List.length_range,List.length_take,List.length_drop,List.all_cons,List.all_nil,AV.isCell,Bool.and_self,Bool.and_true,xAh,xAb,xAe,xAa,xAa,xAJ,List.length_map] <;> omega) | rfl | decide) only [xJF,xAq,xAf,xAc,xAk,xAz,opv,List.getD_cons_succ,List.getD_cons_zero,xAr,List.set_cons_succ,List.set_cons_zero,xAi,xA3,xBT,xAm,xAB,xAw,hlt,decide_true,xAg,xAj,xAd,xAp,xAl,↓reduceIte,xAx,xAs,xAW,xBG,Int.toNat_natCast,Nat.mul_one,Nat.zero_add,xAH,xA1,hG,xAu,gc,xAM,xCd,List.map_cons,List.map_nil,e1,xAt,xBf,xB6,xCQ,xAy,xJH,r1]
theorem xSR {G : xAv} {v : AV} (h : TV1 G v) : ∃ G',L.icall (.func 40 []) [v] G = some (.tup [],G') ∧ Tw G G' := by
  rcases h with rfl | ⟨id,cs,rfl,hg,hs,hc⟩
  · refine ⟨G,?_,Tw.refl G⟩
    have hl : L.loop xJG xQG ⟨xIl (.sl true 0 []) (.int .i64 0),G⟩ = some (.exit 0,⟨xIl (.sl true 0 []) (.int .i64 0),G⟩) := by
      rw [xQH]
      simp (maxSteps := 30000000) (disch := first | assumption | omega | (simp only [List.length_cons,List.length_nil,List.length_append,List.length_set,List.length_replicate,List.length_map,List.length_range,List.length_take,List.length_drop,List.all_cons,List.all_nil,AV.isCell,Bool.and_self,Bool.and_true,xAh,xAb,xAe,xAa,xAa,xAJ,List.length_map] <;> omega) | rfl | decide) only [xJF,xAq,xAf,xAc,xAk,xAz,opv,List.getD_cons_succ,List.getD_cons_zero,xAr,List.set_cons_succ,List.set_cons_zero,xAi,xA3,xA4,xC0,xAm,xAB,xAw,Int.lt_irrefl,decide_false,xAg,xAj,xAd,xAp,xAl,Bool.false_eq_true,↓reduceIte,xBm,xA6,xAX,xJH]
    rw [yDq,a40]
    simp (maxSteps := 30000000) (disch := first | assumption | omega | (simp only [List.length_cons,List.length_nil,List.length_append,List.length_set,List.length_replicate,List.length_map,List.length_range,List.length_take,List.length_drop,List.all_cons,List.all_nil,AV.isCell,Bool.and_self,Bool.and_true,xAh,xAb,xAe,xAa,xAa,xAJ,List.length_map] <;> omega) | rfl | decide) only [List.append_nil,xAT,List.length_cons,List.length_nil,Nat.zero_add,Nat.reduceSub,xCF,List.cons_append,List.nil_append,xAq,xAf,xAc,xAk,xAz,opv,xAr,List.set_cons_succ,List.set_cons_zero,xAi,xAg,xAj,xAd,xAs,xA7,xJH,hl,xAR,↓reduceIte,xCx,xDi,xAD]
  · obtain ⟨G',h1,h2⟩ := xJo (id := id) hs cs.length 0 G (by omega) hg hc
    simp only [Int.natCast_zero] at h1
    refine ⟨_,?_,h2⟩
    rw [yDq,a40]
    simp (maxSteps := 30000000) (disch := first | assumption | omega | (simp only [List.length_cons,List.length_nil,List.length_append,List.length_set,List.length_replicate,List.length_map,List.length_range,List.length_take,List.length_drop,List.all_cons,List.all_nil,AV.isCell,Bool.and_self,Bool.and_true,xAh,xAb,xAe,xAa,xAa,xAJ,List.length_map] <;> omega) | rfl | decide) only [List.append_nil,xAT,List.length_cons,List.length_nil,Nat.zero_add,Nat.reduceSub,xCF,List.cons_append,List.nil_append,xAq,xAf,xAc,xAk,xAz,opv,xAr,List.set_cons_succ,List.set_cons_zero,xAi,xAg,xAj,xAd,xAs,xA7,xJH,h1,xAR,↓reduceIte,xCx,xDi,xAD]

theorem xJp {id : Nat} {cs : List AV} (hl : cs.length < 1099511627776) : ∀ d i (G : xAv),i + d = cs.length → G[id]? = some (.cells false false cs) → (∀ c ∈ cs,TV1 G c) →
    ∃ G',L.loop xJN xQV ⟨xIn (.own false id 0 cs.length 1) (.int .i64 (i : Nat)),G⟩ = some (.exit 0,⟨xIn (.own false id 0 cs.length 1) (.int .i64 (cs.length : Nat)),G'⟩) ∧ Tw G G'
  | 0,i,G,h,hG,hc => by
    obtain rfl : i = cs.length := by omega
    refine ⟨G,?_,Tw.refl G⟩
    rw [xQW]
    simp (maxSteps := 30000000) (disch := first | assumption | omega | (simp only [List.length_cons,List.length_nil,List.length_append,List.length_set,List.length_replicate,List.length_map,List.length_range,List.length_take,List.length_drop,List.all_cons,List.all_nil,AV.isCell,Bool.and_self,Bool.and_true,xAh,xAb,xAe,xAa,xAa,xAJ,List.length_map] <;> omega) | rfl | decide) only [xJM,xAq,xAf,xAc,xAk,xAz,opv,List.getD_cons_succ,List.getD_cons_zero,xAr,List.set_cons_succ,List.set_cons_zero,xAi,xA3,xBT,xAm,xAB,xAw,Int.lt_irrefl,decide_false,xAg,xAj,xAd,xAp,xAl,Bool.false_eq_true,↓reduceIte,xBm,xA6,xAX,xJO]
  | d + 1,i,G,h,hG,hc => by
    have hlt : (i : Int) < (cs.length : Nat) := by omega
    have hi : i < cs.length := by omega
    have c1 := hc _ (List.getElem_mem hi)
    obtain ⟨G1,e1,e2⟩ := xSR c1
    have hodd : cs.any xPi = true := by rw [List.any_eq_true]; exact ⟨_,List.getElem_mem hi,TVS.odd c1⟩
    obtain ⟨G',r1,r2⟩ := xJp (id := id) hl d (i + 1) G1 (by omega) (e2.odd hG hodd) (fun c hc' => TV1.tw (hc c hc') e2)
    refine ⟨G',?_,e2.trans r2⟩
    have gc : List.take 1 (List.drop i cs) = [cs[i]] := by rw [List.drop_eq_getElem_cons hi]; rfl
    rw [xQW]
    rcases c1 with e | ⟨k,l,e,_⟩
    · rw [e] at gc e1
      simp (maxSteps := 30000000) (disch := first | assumption | omega | (simp only [List.length_cons,List.length_nil,List.length_append,List.length_set,List.length_replicate,List.length_map,List.length_range,List.length_take,List.length_drop,List.all_cons,List.all_nil,AV.isCell,Bool.and_self,Bool.and_true,xAh,xAb,xAe,xAa,xAa,xAJ,List.length_map] <;> omega) | rfl | decide) only [xJM,xAq,xAf,xAc,xAk,xAz,opv,List.getD_cons_succ,List.getD_cons_zero,xAr,List.set_cons_succ,List.set_cons_zero,xAi,xA3,xBT,xAm,xAB,xAw,hlt,decide_true,xAg,xAj,xAd,xAp,xAl,↓reduceIte,xAx,xAs,xAW,xBG,Int.toNat_natCast,Nat.mul_one,Nat.zero_add,xAH,xA1,hG,xAu,gc,xAM,xCd,List.map_cons,List.map_nil,e1,xAt,xBf,xB6,xCQ,xAy,xJO,r1]
    · rw [e] at gc e1
      simp (maxSteps := 30000000) (disch := first | assumption | omega | (simp only [List.length_cons,List.length_nil,List.length_append,List.length_set,List.length_replicate,List.length_map,List.length_range,List.length_take,List.length_drop,List.all_cons,List.all_nil,AV.isCell,Bool.and_self,Bool.and_true,xAh,xAb,xAe,xAa,xAa,xAJ,List.length_map] <;> omega) | rfl | decide) only [xJM,xAq,xAf,xAc,xAk,xAz,opv,List.getD_cons_succ,List.getD_cons_zero,xAr,List.set_cons_succ,List.set_cons_zero,xAi,xA3,xBT,xAm,xAB,xAw,hlt,decide_true,xAg,xAj,xAd,xAp,xAl,↓reduceIte,xAx,xAs,xAW,xBG,Int.toNat_natCast,Nat.mul_one,Nat.zero_add,xAH,xA1,hG,xAu,gc,xAM,xCd,List.map_cons,List.map_nil,e1,xAt,xBf,xB6,xCQ,xAy,xJO,r1]
theorem yAh {G : xAv} {v : AV} (h : TV2 G v) : ∃ G',L.icall (.func 69 []) [v] G = some (.tup [],G') ∧ Tw G G' := by
  rcases h with rfl | ⟨id,cs,rfl,hg,hs,hc⟩
  · refine ⟨G,?_,Tw.refl G⟩
    have hl : L.loop xJN xQV ⟨xIn (.sl true 0 []) (.int .i64 0),G⟩ = some (.exit 0,⟨xIn (.sl true 0 []) (.int .i64 0),G⟩) := by
      rw [xQW]
      simp (maxSteps := 30000000) (disch := first | assumption | omega | (simp only [List.length_cons,List.length_nil,List.length_append,List.length_set,List.length_replicate,List.length_map,List.length_range,List.length_take,List.length_drop,List.all_cons,List.all_nil,AV.isCell,Bool.and_self,Bool.and_true,xAh,xAb,xAe,xAa,xAa,xAJ,List.length_map] <;> omega) | rfl | decide) only [xJM,xAq,xAf,xAc,xAk,xAz,opv,List.getD_cons_succ,List.getD_cons_zero,xAr,List.set_cons_succ,List.set_cons_zero,xAi,xA3,xA4,xC0,xAm,xAB,xAw,Int.lt_irrefl,decide_false,xAg,xAj,xAd,xAp,xAl,Bool.false_eq_true,↓reduceIte,xBm,xA6,xAX,xJO]
    rw [yDr,a69]
    simp (maxSteps := 30000000) (disch := first | assumption | omega | (simp only [List.length_cons,List.length_nil,List.length_append,List.length_set,List.length_replicate,List.length_map,List.length_range,List.length_take,List.length_drop,List.all_cons,List.all_nil,AV.isCell,Bool.and_self,Bool.and_true,xAh,xAb,xAe,xAa,xAa,xAJ,List.length_map] <;> omega) | rfl | decide) only [List.append_nil,xAT,List.length_cons,List.length_nil,Nat.zero_add,Nat.reduceSub,xCF,List.cons_append,List.nil_append,xAq,xAf,xAc,xAk,xAz,opv,xAr,List.set_cons_succ,List.set_cons_zero,xAi,xAg,xAj,xAd,xAs,xA7,xJO,hl,xAR,↓reduceIte,xCx,xDi,xAD]
  · obtain ⟨G',h1,h2⟩ := xJp (id := id) hs cs.length 0 G (by omega) hg hc
    simp only [Int.natCast_zero] at h1
    refine ⟨_,?_,h2⟩
    rw [yDr,a69]
    simp (maxSteps := 30000000) (disch := first | assumption | omega | (simp only [List.length_cons,List.length_nil,List.length_append,List.length_set,List.length_replicate,List.length_map,List.length_range,List.length_take,List.length_drop,List.all_cons,List.all_nil,AV.isCell,Bool.and_self,Bool.and_true,xAh,xAb,xAe,xAa,xAa,xAJ,List.length_map] <;> omega) | rfl | decide) only [List.append_nil,xAT,List.length_cons,List.length_nil,Nat.zero_add,Nat.reduceSub,xCF,List.cons_append,List.nil_append,xAq,xAf,xAc,xAk,xAz,opv,xAr,List.set_cons_succ,List.set_cons_zero,xAi,xAg,xAj,xAd,xAs,xA7,xJO,h1,xAR,↓reduceIte,xCx,xDi,xAD]

theorem xJq {id : Nat} : ∀ d i (l : List Bool) (G : xAv),i + d = l.length → l.length < 1099511627776 → G[id]? = some (.cells false false (bools l)) →
    ∃ l',l'.length = l.length ∧ L.loop xJP xQX ⟨xIo (.own false id 0 l.length 1) (.int .i64 (i : Nat)),G⟩ = some (.exit 0,⟨xIo (.own false id 0 l.length 1) (.int .i64 (l.length : Nat)),G.set id (.cells false false (bools l'))⟩)
  | 0,i,l,G,h,hl,hG => by
    obtain rfl : i = l.length := by omega
    refine ⟨l,rfl,?_⟩
    have hs : G.set id (.cells false false (bools l)) = G := by
      obtain ⟨h1,h2⟩ := List.getElem?_eq_some_iff.1 hG
      rw [← h2,List.set_getElem_self]
    rw [hs,xQY]
    simp (maxSteps := 30000000) (disch := first | assumption | omega | (simp only [List.length_cons,List.length_nil,List.length_append,List.length_set,List.length_replicate,List.length_map,List.length_range,List.length_take,List.length_drop,List.all_cons,List.all_nil,AV.isCell,Bool.and_self,Bool.and_true,xAh,xAb,xAe,xAa,xAa,xAJ,List.length_map] <;> omega) | rfl | decide) only [xLK,xAq,xAf,xAc,xAk,xAz,opv,List.getD_cons_succ,List.getD_cons_zero,xAr,List.set_cons_succ,List.set_cons_zero,xAi,xA3,xBT,xAm,xAB,xAw,Int.lt_irrefl,decide_false,xAg,xAj,xAd,xAp,xAl,Bool.false_eq_true,↓reduceIte,xBm,xA6,xAX,xLL]
  | d + 1,i,l,G,h,hl,hG => by
    have hlt : (i : Int) < (l.length : Nat) := by omega
    have hlen := (List.getElem?_eq_some_iff.1 hG).1
    have hi : i < l.length := by omega
    have gb : List.take 1 (List.drop i (bools l)) = [.bool (l.getD i false)] := xSA hi
    obtain ⟨l',h1,ih⟩ := xJq (id := id) d (i + 1) (l.set i (!l.getD i false)) (G.set id (.cells false false (bools (l.set i (!l.getD i false))))) (by rw [List.length_set]; omega) (by rw [List.length_set]; exact hl) (List.getElem?_set_self hlen)
    rw [List.length_set] at h1 ih
    rw [List.set_set] at ih
    refine ⟨l',h1,?_⟩
    have hput : List.take i (bools l) ++ AV.bool (!l.getD i false) :: List.drop (i + 1) (bools l) = bools (l.set i (!l.getD i false)) := by
      unfold bools
      rw [List.map_set,List.set_eq_take_append_cons_drop,if_pos (by rw [List.length_map]; exact hi)]
    rw [xQY]
    simp (maxSteps := 30000000) (disch := first | assumption | omega | (simp only [List.length_cons,List.length_nil,List.length_append,List.length_set,List.length_replicate,List.length_map,List.length_range,List.length_take,List.length_drop,List.all_cons,List.all_nil,AV.isCell,Bool.and_self,Bool.and_true,xAh,xAb,xAe,xAa,xAa,xAJ,List.length_map] <;> omega) | rfl | decide) only [xLK,xAq,xAf,xAc,xAk,xAz,opv,List.getD_cons_succ,List.getD_cons_zero,xAr,List.set_cons_succ,List.set_cons_zero,xAi,xA3,xBT,xAm,xAB,xAw,hlt,decide_true,xAg,xAj,xAd,xAp,xAl,↓reduceIte,xAx,xAs,xAW,xBG,Int.toNat_natCast,Nat.mul_one,Nat.zero_add,xAH,xA1,hG,xAu,gb,xAM,xGn,xEh,xBe,AV.cells,List.length_cons,List.length_nil,xBJ,xAZ,xBl,List.append_assoc,List.cons_append,List.nil_append,hput,xAN,xBq,xAt,xBf,xB6,xCQ,xAy,xLL,ih]
theorem yAi {G : xAv} {v : AV} (h : TB G v) : ∃ G',L.icall (.func 70 []) [v] G = some (.tup [],G') ∧ Tw G G' := by
  rcases h with rfl | ⟨id,l,rfl,hg,hs⟩
  · refine ⟨G,?_,Tw.refl G⟩
    have hl : L.loop xJP xQX ⟨xIo (.sl true 0 []) (.int .i64 0),G⟩ = some (.exit 0,⟨xIo (.sl true 0 []) (.int .i64 0),G⟩) := by
      rw [xQY]
      simp (maxSteps := 30000000) (disch := first | assumption | omega | (simp only [List.length_cons,List.length_nil,List.length_append,List.length_set,List.length_replicate,List.length_map,List.length_range,List.length_take,List.length_drop,List.all_cons,List.all_nil,AV.isCell,Bool.and_self,Bool.and_true,xAh,xAb,xAe,xAa,xAa,xAJ,List.length_map] <;> omega) | rfl | decide) only [xLK,xAq,xAf,xAc,xAk,xAz,opv,List.getD_cons_succ,List.getD_cons_zero,xAr,List.set_cons_succ,List.set_cons_zero,xAi,xA3,xA4,xC0,xAm,xAB,xAw,Int.lt_irrefl,decide_false,xAg,xAj,xAd,xAp,xAl,Bool.false_eq_true,↓reduceIte,xBm,xA6,xAX,xLL]
    rw [yDs,a70]
    simp (maxSteps := 30000000) (disch := first | assumption | omega | (simp only [List.length_cons,List.length_nil,List.length_append,List.length_set,List.length_replicate,List.length_map,List.length_range,List.length_take,List.length_drop,List.all_cons,List.all_nil,AV.isCell,Bool.and_self,Bool.and_true,xAh,xAb,xAe,xAa,xAa,xAJ,List.length_map] <;> omega) | rfl | decide) only [List.append_nil,xAT,List.length_cons,List.length_nil,Nat.zero_add,Nat.reduceSub,xCF,List.cons_append,List.nil_append,xAq,xAf,xAc,xAk,xAz,opv,xAr,List.set_cons_succ,List.set_cons_zero,xAi,xAg,xAj,xAd,xAs,xA7,xLL,hl,xAR,↓reduceIte,xCx,xDi,xAD]
  · obtain ⟨l',h1,h2⟩ := xJq (id := id) l.length 0 l G (by omega) hs hg
    simp only [Int.natCast_zero] at h2
    refine ⟨_,?_,Tw.setB hg h1⟩
    rw [yDs,a70]
    simp (maxSteps := 30000000) (disch := first | assumption | omega | (simp only [List.length_cons,List.length_nil,List.length_append,List.length_set,List.length_replicate,List.length_map,List.length_range,List.length_take,List.length_drop,List.all_cons,List.all_nil,AV.isCell,Bool.and_self,Bool.and_true,xAh,xAb,xAe,xAa,xAa,xAJ,List.length_map] <;> omega) | rfl | decide) only [List.append_nil,xAT,List.length_cons,List.length_nil,Nat.zero_add,Nat.reduceSub,xCF,List.cons_append,List.nil_append,xAq,xAf,xAc,xAk,xAz,opv,xAr,List.set_cons_succ,List.set_cons_zero,xAi,xAg,xAj,xAd,xAs,xA7,xLL,h2,xAR,↓reduceIte,xCx,xDi,xAD]

theorem TVS.cell {T : xAv → AV → Prop} {G : xAv} {v : AV} (h : TVS T G v) : v = .sl true 0 [] ∨ ∃ id n,v = .own false id 0 n 1 := by
  rcases h with h | ⟨id,cs,h,_⟩
  · exact .inl h
  · exact .inr ⟨id,_,h⟩
theorem TB.cell {G : xAv} {v : AV} (h : TB G v) : v = .sl true 0 [] ∨ ∃ id n,v = .own false id 0 n 1 := by
  rcases h with h | ⟨id,cs,h,_⟩
  · exact .inl h
  · exact .inr ⟨id,_,h⟩
theorem Tw.appOdd {G G' : xAv} {cs : List AV} (h : Tw (G ++ [.cells false false cs]) G') (ho : cs.any xPi = true) : ∃ G2,G' = G2 ++ [.cells false false cs] ∧ Tw G G2 := by
  have hl := h.1
  rw [List.length_append,List.length_cons,List.length_nil] at hl
  have hlast : G'[G.length]? = some (.cells false false cs) := h.odd (by simp) ho
  refine ⟨G'.take G.length,?_,by rw [List.length_take]; omega,fun b => ?_⟩
  · refine List.ext_getElem? fun i => ?_
    by_cases hi : i < G.length
    · rw [List.getElem?_append_left (by rw [List.length_take]; omega),List.getElem?_take_of_lt hi]
    · rw [List.getElem?_append_right (by rw [List.length_take]; omega),List.length_take]
      by_cases e : i = G.length
      · subst e; rw [hlast,show G.length - min G.length G'.length = 0 by omega]; rfl
      · rw [List.getElem?_eq_none (by omega),List.getElem?_eq_none (by simp; omega)]
  · by_cases hi : b < G.length
    · rw [List.getElem?_take_of_lt hi]
      have := h.2 b
      rw [List.getElem?_append_left hi] at this
      exact this
    · exact .inl (by rw [List.getElem?_eq_none (by rw [List.length_take]; omega),List.getElem?_eq_none (by omega)])

theorem xVQ {G : xAv} {a b : Int} {vN vF : AV} (hN : TV2 G vN) (hF : TB G vF) : ∃ G2,L.icall (.func 33 []) [.agg [.int .i64 a,.int .i64 b,vN,vF]] G = some (.tup [],G2 ++ [.cells false false [.int .i64 a,.int .i64 b,vN,vF]]) ∧ Tw G G2 := by
  have hN1 : TV2 (G ++ [.cells false false [.int .i64 a,.int .i64 b,vN,vF]]) vN := by
    rcases hN with h | ⟨id,cs,rfl,hg,hs,hc⟩
    · exact .inl h
    · exact .inr ⟨id,cs,rfl,by rw [List.getElem?_append_left (List.getElem?_eq_some_iff.1 hg).1]; exact hg,hs,fun c hc' => by
        rcases hc c hc' with h | ⟨id,cs,rfl,hg,hs,hc⟩
        · exact .inl h
        · exact .inr ⟨id,cs,rfl,by rw [List.getElem?_append_left (List.getElem?_eq_some_iff.1 hg).1]; exact hg,hs,fun c hc' => by
            rcases hc c hc' with h | ⟨id,l,rfl,hg,hs⟩
            · exact .inl h
            · exact .inr ⟨id,l,rfl,by rw [List.getElem?_append_left (List.getElem?_eq_some_iff.1 hg).1]; exact hg,hs⟩⟩⟩
  have hF1 : TB (G ++ [.cells false false [.int .i64 a,.int .i64 b,vN,vF]]) vF := by
    rcases hF with h | ⟨id,l,rfl,hg,hs⟩
    · exact .inl h
    · exact .inr ⟨id,l,rfl,by rw [List.getElem?_append_left (List.getElem?_eq_some_iff.1 hg).1]; exact hg,hs⟩
  have ho : ([AV.int .i64 a,.int .i64 b,vN,vF]).any xPi = true := by
    rw [List.any_eq_true]; exact ⟨vN,by simp,TVS.odd hN⟩
  obtain ⟨G1,e1,e2⟩ := yAh hN1
  obtain ⟨G2,e3,e4⟩ := yAi (hF1.tw e2)
  obtain ⟨G3,rfl,e5⟩ := (e2.trans e4).appOdd ho
  have g1 : G1[G.length]? = some (.cells false false [.int .i64 a,.int .i64 b,vN,vF]) := e2.odd (by simp) ho
  refine ⟨G3,?_,e5⟩
  rw [yEk,a33]
  rcases TVS.cell hN with rfl | ⟨i1,n1,rfl⟩ <;> rcases TB.cell hF with rfl | ⟨i2,n2,rfl⟩ <;>
  simp (maxSteps := 30000000) (disch := first | assumption | omega | (simp only [List.length_cons,List.length_nil,List.length_append,List.length_set,List.length_replicate,List.length_map,List.length_range,List.length_take,List.length_drop,List.all_cons,List.all_nil,AV.isCell,Bool.and_self,Bool.and_true,xAh,xAb,xAe,xAa,xAa,xAJ,List.length_map] <;> omega) | rfl | decide) only [List.append_nil,xAT,List.length_cons,List.length_nil,Nat.zero_add,Nat.reduceSub,xCF,List.cons_append,List.nil_append,xAq,xAf,xAc,xAk,xBv,AV.cells,opv,List.getD_cons_zero,List.all_cons,AV.isCell,List.all_nil,Bool.and_self,↓reduceIte,xAr,List.set_cons_succ,List.set_cons_zero,xAi,xAg,xAj,xAd,xAQ,List.getD_cons_succ,xAC,xAm,xAH,xA1,xCy,List.getElem?_cons_zero,xAu,List.drop_succ_cons,List.drop_zero,List.take_succ_cons,List.take_zero,xAM,xCd,List.map_cons,List.map_nil,e1,g1,List.take_nil,e3,xCx,xDi,xAD]
end Go.Abs.Det
