/- The law Step. -/
import Derived.Test.YtdheandekcpieaaDoorAbsBun
import Derived.Test.YtdheandekcpieaaDoorAMF
namespace Go.Abs.Events
open Go Go.Abs
set_option linter.unusedSimpArgs false
set_option linter.unusedVariables false
theorem xV1 (fs : List Nd) (l : List Ev) (i : Nat) (ws : List (List Nat)) (hi : i < l.length) (ws0 : List (List Nat)) (h : vL fs (l.drop i) ws = (vL fs l ws0).drop i) :
    xJS fs (l.getD i ev0) ws = (vL fs l ws0).getD i false ∧ vL fs (l.drop (i + 1)) (xCC (l.getD i ev0) fs [] ws).2 = (vL fs l ws0).drop (i + 1) := by
  have hl := xHg fs l ws0
  rw [List.drop_eq_getElem_cons hi,List.drop_eq_getElem_cons (show i < (vL fs l ws0).length by omega),vL] at h
  have h1 := (List.cons.inj h).1
  have h2 := (List.cons.inj h).2
  rw [List.getD_eq_getElem?_getD,List.getElem?_eq_getElem hi,List.getD_eq_getElem?_getD,List.getElem?_eq_getElem (by omega)]
  exact ⟨h1,h2⟩
section
variable {F : List Nd} {V : List Ev} {m sb : Nat} {zv : Bool} {ws0 : List (List Nat)}
abbrev F6 (F : List Nd) (V : List Ev) (ws0 : List (List Nat)) (zv : Bool) (m i : Nat) : List AV := xVy (.bool false) (.sl false F.length (nds F)) (.sl zv V.length (bls (vL F V ws0))) (.sl zv V.length (evs V)) (.ptr m 0) (.int .i64 0) (.int .i64 (64 * nT F + 1 : Nat)) (.int .i64 (i : Nat))
set_option maxHeartbeats 4000000 in
theorem yDZ (h0 : 0 < F.length) (hlen : F.length ≤ 64) (hV : ∀ j,j < F.length → Vn j (F.getD j nd0)) (hl : V.length ≤ 64) (hok : V.all xF1 = true) : ∀ k i,i + k = V.length → ∀ (G : Heap) (ws : List (List Nat)) (h : Nat),Mo false F m sb G ws h → vL F (V.drop i) ws = (vL F V ws0).drop i → ∃ (G' : Heap),
    L.loop xSZ yBT ⟨F6 F V ws0 zv m i,G⟩ = some (.exit 0,⟨F6 F V ws0 zv m V.length,G'⟩) := by
  intro k
  induction k with
  | zero =>
    intro i hi G ws h hm hv
    obtain rfl : i = V.length := by omega
    refine ⟨G,?_⟩
    rw [yBU]
    simp (maxSteps := 30000000) (disch := first | assumption | omega | (simp only [WL,AV.isCell,xAf,xAm,xAk,xAv,xAx] <;> omega) | rfl | decide) only [↓reduceIte,WB,xAH,xAc,xAC,xAq,xAo,AV.cells,AV.isCell,xAa,xAg,xAh,xA7,xA8,xA9,xBa,xBb,xBc,xBH,xBd,xBe,xAT,xBf,xAU,xAV,xBg,xAW,xAX,xAD,Nat.reduceDiv,Nat.reduceMod,WP,xBt,xA2,xCt,xCr,xCk,xBk,xBy,xBv,WA,W2,xAd,xAe,xAi,Nat.reduceAdd,Nat.reduceSub,Nat.reduceLeDiff,Nat.reduceMul,Int.reduceAdd,Int.reduceSub,Int.reduceMul,Int.reduceLT,Int.reduceLE,Int.reduceEq,Int.reduceToNat,Int.reduceNeg,Nat.reduceEqDiff,Nat.reduceBEq,Nat.reduceLT,xAu,xAE,xAG,xAJ,xAL,xAK,xAy,xAA,xAp,xAj,xAQ,xA6,xXz,xZ8]
  | succ k ih =>
    intro i hi G ws h hm hv
    have hlt : i < V.length := by omega
    have hltI : ((i : Nat) : Int) < (V.length : Nat) := by omega
    obtain ⟨v1,v2⟩ := xV1 F V i ws hlt ws0 hv
    have hke : xF1 (V.getD i ev0) = true := by
      rw [List.all_eq_true] at hok
      exact hok _ (by rw [List.getD_eq_getElem?_getD,List.getElem?_eq_getElem hlt]; exact List.getElem_mem hlt)
    obtain ⟨G1,e1,m1,k1⟩ := xFY hm h0 (by omega) hV hke
    change L.icall (.func 22 []) [.ptr m 0,evA _] _ = some (.tup [.bool (xJS F (V.getD i ev0) ws),.int .i64 0],G1) at e1
    rw [v1] at e1
    have hbl := xHg F V ws0
    generalize hN : V.getD i ev0 = e at *
    have hnv : xCD e.z e.args = .sl e.z e.args.length (xBE e.args) := rfl
    have gm1 := m1.gm
    have gb1 := m1.gb
    have hr1 := m1.rw.1
    have hfl := m1.rw.flen
    have hst : (1 :: (xCC e F [] ws).2.flatten).length = 64 * nT F + 1 := by rw [List.length_cons,hfl,hr1]; rfl
    rw [hr1] at gm1
    have hnl := xXP F
    have h24 := xO5 gm1 gb1 hst (by omega) (by unfold nT at hnl; omega)
    have m2 : Mo false F m sb (G1 ++ [.dead,.cells false false (bs (1 :: (xCC e F [] ws).2.flatten))]) (xCC e F [] ws).2 1 := ⟨by rw [xAu (xCg m1.gm)]; exact m1.gm,by rw [xAu (xCg gb1)]; exact gb1,m1.ne,m1.rw,m1.h0⟩
    obtain ⟨G',e2⟩ := ih (i + 1) (by omega) _ _ 1 m2 v2
    refine ⟨G',?_⟩
    unfold evA at e1
    rw [hnv] at e1
    change L.icall (.func 24 []) [.ptr m 0] G1 = some (.own false (G1.length + 1) 0 (64 * nT F + 1) 1,_) at h24
    generalize hB : (vL F V ws0).getD i false = b at *
    generalize bs (1 :: (xCC e F [] ws).2.flatten) = ST at *
    rw [yBU]
    simp (maxSteps := 30000000) (disch := first | assumption | omega | (simp only [WL,AV.isCell,xAf,xAm,xAk,xAv,xAx] <;> omega) | rfl | decide) only [↓reduceIte,WB,xAH,xAc,xAC,xAq,xAo,AV.cells,AV.isCell,xAa,xAg,xAh,xA7,xA8,xA9,xBa,xBb,xBc,xBH,xBd,xBe,xAT,xBf,xAU,xAV,xBg,xAW,xAX,xAD,Nat.reduceDiv,Nat.reduceMod,WP,xBt,xA2,xCt,xCr,xCk,xBk,xBy,xBv,WA,W2,xAd,xAe,xAi,Nat.reduceAdd,Nat.reduceSub,Nat.reduceLeDiff,Nat.reduceMul,Int.reduceAdd,Int.reduceSub,Int.reduceMul,Int.reduceLT,Int.reduceLE,Int.reduceEq,Int.reduceToNat,Int.reduceNeg,Nat.reduceEqDiff,Nat.reduceBEq,Nat.reduceLT,xAu,xAE,xAG,xAJ,xAL,xAK,xAy,xAA,xAp,xAj,xAQ,xA6,xXz,xZ8,hltI,hbl,hN,evC,hnv,hB,e1,h24,e2]
end
set_option maxHeartbeats 4000000 in
theorem yAg (z : Bool) (fs : List Nd) (zl : Bool) (l : List Ev) (hl : l.length ≤ 9223372036854775807) :
    L.pcall 6 [.sl z fs.length (nds fs),.sl zl l.length (evs l)] = some (.bool true) := by
  have h18 := yAC z fs
  have h33 := xP2 fs zl l hl
  have hk := xP5
  have hnl := xAk (xHm fs)
  have hmin := xV2 fs
  have hbd := yAi fs
  have htk := yAj fs
  unfold inV at h33
  have hgl := xEI 12 l
  have hgo := xMB 12 l
  have hil := xGE fs
  generalize hfe : (xHm fs).isEmpty = ze at *
  have hz0 : ∀ h : (inL fs).length ≠ 0,ze = false := fun h => by rw [← hfe]; exact yC2 h
  have hwn := xR0 fs
  generalize inL fs = F at *
  generalize xCQ 12 l = V at *
  have h34 := xMA ze F (by omega)
  by_cases hc : chk F = 0
  · obtain ⟨h0,hlen,hV⟩ := xMz hc
    obtain rfl := hz0 (by omega)
    rw [if_pos hc,decide_eq_true hc] at h33
    obtain ⟨G1,m,sb,e19,m1,-,-,-⟩ := xS4 hc hwn []
    have gm1 := m1.gm
    have gb1 := m1.gb
    have hzl : (zr (nT F)).length = nT F := by simp [zr]
    have hnl2 := xXP F
    have hst : (0 :: (zr (nT F)).flatten).length = 64 * nT F + 1 := by rw [List.length_cons,m1.rw.flen,hzl]
    rw [hzl] at gm1
    have h24 := xO5 gm1 gb1 hst (by omega) (by omega)
    have m2 : Mo false F m sb (G1 ++ [.dead,.cells false false (bs (0 :: (zr (nT F)).flatten))]) (zr (nT F)) 0 := ⟨by rw [xAu (xCg m1.gm)]; exact m1.gm,by rw [xAu (xCg gb1)]; exact gb1,m1.ne,m1.rw,m1.h0⟩
    obtain ⟨G2,e2⟩ := yDZ (ws0 := zr (nT F)) (zv := V.isEmpty) h0 hlen hV (by omega) hgo V.length 0 (by omega) _ _ 0 m2 (by simp)
    have e2' : L.loop xSZ yBT ⟨xVy (.bool false) (.sl false F.length (nds F)) (.sl V.isEmpty V.length (bls (vL F V (zr (nT F))))) (.sl V.isEmpty V.length (evs V)) (.ptr m 0) (.int .i64 0) (.int .i64 (64 * nT F + 1 : Nat)) (.int .i64 0),_⟩ = _ := e2
    have yCa : (((64 * nT F + 1 : Nat) : Int)).tmod 64 = 1 := by
      rw [Int.tmod_eq_emod_of_nonneg (by omega)]; omega
    have hle : (((64 * nT F + 1 : Nat) : Int)) ≤ 1 + 64 * (F.length : Nat) := by omega
    have hle2 : (((64 * nT F + 1 : Nat) : Int)) ≤ ((1 + 64 * F.length : Nat) : Int) := by omega
    rw [a6p,a6,xAl]
    simp (maxSteps := 30000000) (disch := first | assumption | omega | (simp only [WL,AV.isCell,xAf,xAm,xAk,xAv,xAx] <;> omega) | rfl | decide) only [↓reduceIte,WB,xAH,xAc,xAC,xAq,xAo,AV.cells,AV.isCell,xAa,xAg,xAh,xA7,xA8,xA9,xBa,xBb,xBc,xBH,xBd,xBe,xAT,xBf,xAU,xAV,xBg,xAW,xAX,xAD,Nat.reduceDiv,Nat.reduceMod,WP,xBt,xA2,xCt,xCr,xCk,xBk,xBy,xBv,WA,W2,xAd,xAe,xAi,Nat.reduceAdd,Nat.reduceSub,Nat.reduceLeDiff,Nat.reduceMul,Int.reduceAdd,Int.reduceSub,Int.reduceMul,Int.reduceLT,Int.reduceLE,Int.reduceEq,Int.reduceToNat,Int.reduceNeg,Nat.reduceEqDiff,Nat.reduceBEq,Nat.reduceLT,xAu,xAE,xAG,xAJ,xAL,xAK,xAy,xAA,xAp,xAj,xAQ,xA6,hk,h18,hnl,hmin,hbd,htk,h33,e19,h24,xZ8,e2',yCa,hle,hle2]
  · rw [if_neg hc,decide_eq_false hc] at h33
    have e19 := xO7 ze F (by omega) hc []
    have hci : ¬ ((chk F : Nat) : Int) = 0 := by omega
    generalize chk F = c at *
    rw [a6p,a6,xAl]
    simp (maxSteps := 30000000) (disch := first | assumption | omega | (simp only [WL,AV.isCell,xAf,xAm,xAk,xAv,xAx] <;> omega) | rfl | decide) only [↓reduceIte,WB,xAH,xAc,xAC,xAq,xAo,AV.cells,AV.isCell,xAa,xAg,xAh,xA7,xA8,xA9,xBa,xBb,xBc,xBH,xBd,xBe,xAT,xBf,xAU,xAV,xBg,xAW,xAX,xAD,Nat.reduceDiv,Nat.reduceMod,WP,xBt,xA2,xCt,xCr,xCk,xBk,xBy,xBv,WA,W2,xAd,xAe,xAi,Nat.reduceAdd,Nat.reduceSub,Nat.reduceLeDiff,Nat.reduceMul,Int.reduceAdd,Int.reduceSub,Int.reduceMul,Int.reduceLT,Int.reduceLE,Int.reduceEq,Int.reduceToNat,Int.reduceNeg,Nat.reduceEqDiff,Nat.reduceBEq,Nat.reduceLT,xAu,xAE,xAG,xAJ,xAL,xAK,xAy,xAA,xAp,xAj,xAQ,xA6,hk,h18,hnl,hmin,hbd,htk,h33,e19,hci,h34]
theorem law6 (avs : List AV) (h : xLS [xS2,xLH] avs) : L.pcall 6 avs = some (.bool true) := by
  obtain ⟨v1,avs,rfl,f1,h⟩ := xCJ h
  obtain ⟨v2,avs,rfl,f2,h⟩ := xCJ h
  obtain rfl := xJE h
  obtain ⟨z,fs,rfl⟩ := xP0 (xDV f1)
  obtain ⟨zl,l,rfl,hl⟩ := xP1 (xDV f2)
  exact yAg z fs zl l hl
end Go.Abs.Events
