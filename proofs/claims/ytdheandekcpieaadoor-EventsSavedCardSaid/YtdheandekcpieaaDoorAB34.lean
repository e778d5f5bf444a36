/- The law Saved. -/
import Derived.Test.YtdheandekcpieaaDoorAbsBun
import Derived.Test.YtdheandekcpieaaDoorAB33
namespace Go.Abs.Events
open Go Go.Abs
set_option linter.unusedSimpArgs false
set_option linter.unusedVariables false
section
variable {F : List Nd} {V : List Ev} {zv : Bool} {ws0 : List (List Nat)}
abbrev F7 (F : List Nd) (V : List Ev) (ws0 : List (List Nat)) (zv : Bool) (m i : Nat) : List AV := xVz (.bool false) (.sl false F.length (nds F)) (.sl zv V.length (bls (vL F V ws0))) (.sl zv V.length (evs V)) (.ptr m 0) (.int .i64 0) (.int .i64 (i : Nat))
set_option maxHeartbeats 4000000 in
theorem yDY (hc : chk F = 0) (hwn : ∀ j,j < F.length → WN (F.getD j nd0)) (hl : V.length ≤ 64) (hok : V.all xF1 = true) : ∀ k i,i + k = V.length → ∀ (G : Heap) (m sb : Nat) (ws : List (List Nat)) (h : Nat),Mo false F m sb G ws h → (h = 1 ∨ (h = 0 ∧ ws = zr (nT F))) → vL F (V.drop i) ws = (vL F V ws0).drop i → ∃ (G' : Heap) (m' : Nat),
    L.loop xS0 yBV ⟨F7 F V ws0 zv m i,G⟩ = some (.exit 0,⟨F7 F V ws0 zv m' V.length,G'⟩) := by
  obtain ⟨h0,hlen,hV⟩ := xMz hc
  intro k
  induction k with
  | zero =>
    intro i hi G m sb ws h hm hh hv
    obtain rfl : i = V.length := by omega
    refine ⟨G,m,?_⟩
    rw [yBW]
    simp (maxSteps := 30000000) (disch := first | assumption | omega | (simp only [WL,AV.isCell,xAf,xAm,xAk,xAv,xAx] <;> omega) | rfl | decide) only [↓reduceIte,WB,xAH,xAc,xAC,xAq,xAo,AV.cells,AV.isCell,xAa,xAg,xAh,xA7,xA8,xA9,xBa,xBb,xBc,xBH,xBd,xBe,xAT,xBf,xAU,xAV,xBg,xAW,xAX,xAD,Nat.reduceDiv,Nat.reduceMod,WP,xBt,xA2,xCt,xCr,xCk,xBk,xBy,xBv,WA,W2,xAd,xAe,xAi,Nat.reduceAdd,Nat.reduceSub,Nat.reduceLeDiff,Nat.reduceMul,Int.reduceAdd,Int.reduceSub,Int.reduceMul,Int.reduceLT,Int.reduceLE,Int.reduceEq,Int.reduceToNat,Int.reduceNeg,Nat.reduceEqDiff,Nat.reduceBEq,Nat.reduceLT,xAu,xAE,xAG,xAJ,xAL,xAK,xAy,xAA,xAp,xAj,xAQ,xA6,xXA,xZ9]
  | succ k ih =>
    intro i hi G m sb ws h hm hh hv
    have hlt : i < V.length := by omega
    have hltI : ((i : Nat) : Int) < (V.length : Nat) := by omega
    obtain ⟨v1,v2⟩ := xV1 F V i ws hlt ws0 hv
    have hke : xF1 (V.getD i ev0) = true := by
      rw [List.all_eq_true] at hok
      exact hok _ (by rw [List.getD_eq_getElem?_getD,List.getElem?_eq_getElem hlt]; exact List.getElem_mem hlt)
    have hst : (h :: ws.flatten).length = 64 * ws.length + 1 := by rw [List.length_cons,hm.rw.flen]
    have hwl := hm.rw.le
    have h24 := xO5 hm.gm hm.gb hst (by omega) (by omega)
    obtain ⟨G2,m2,sb2,e29,q2,-,-,-⟩ := yCf (ob := G.length + 1) (G := G ++ [.dead,.cells false false (bs (h :: ws.flatten))]) hc hwn hm.rw (by rw [List.getElem?_append_right (by omega)]; simp) hh
    obtain ⟨G3,e1,q3,-⟩ := xFY q2 h0 (by omega) hV hke
    change L.icall (.func 22 []) [.ptr m2 0,evA _] _ = some (.tup [.bool (xJS F (V.getD i ev0) ws),.int .i64 0],G3) at e1
    rw [v1] at e1
    obtain ⟨G',m',e2⟩ := ih (i + 1) (by omega) G3 m2 sb2 _ 1 q3 (.inl rfl) v2
    refine ⟨G',m',?_⟩
    have hbl := xHg F V ws0
    generalize hN : V.getD i ev0 = e at *
    have hnv : xCD e.z e.args = .sl e.z e.args.length (xBE e.args) := rfl
    unfold evA at e1
    rw [hnv] at e1
    generalize hB : (vL F V ws0).getD i false = b at *
    generalize bs (h :: ws.flatten) = ST at *
    rw [yBW]
    simp (maxSteps := 30000000) (disch := first | assumption | omega | (simp only [WL,AV.isCell,xAf,xAm,xAk,xAv,xAx] <;> omega) | rfl | decide) only [↓reduceIte,WB,xAH,xAc,xAC,xAq,xAo,AV.cells,AV.isCell,xAa,xAg,xAh,xA7,xA8,xA9,xBa,xBb,xBc,xBH,xBd,xBe,xAT,xBf,xAU,xAV,xBg,xAW,xAX,xAD,Nat.reduceDiv,Nat.reduceMod,WP,xBt,xA2,xCt,xCr,xCk,xBk,xBy,xBv,WA,W2,xAd,xAe,xAi,Nat.reduceAdd,Nat.reduceSub,Nat.reduceLeDiff,Nat.reduceMul,Int.reduceAdd,Int.reduceSub,Int.reduceMul,Int.reduceLT,Int.reduceLE,Int.reduceEq,Int.reduceToNat,Int.reduceNeg,Nat.reduceEqDiff,Nat.reduceBEq,Nat.reduceLT,xAu,xAE,xAG,xAJ,xAL,xAK,xAy,xAA,xAp,xAj,xAQ,xA6,xXA,xZ9,hltI,hbl,hN,evC,hnv,hB,h24,e29,e1,e2]
end
set_option maxHeartbeats 4000000 in
theorem yAf (z : Bool) (fs : List Nd) (zl : Bool) (l : List Ev) (hl : l.length ≤ 9223372036854775807) :
    L.pcall 7 [.sl z fs.length (nds fs),.sl zl l.length (evs l)] = some (.bool true) := by
  have h18 := yAC z fs
  have h33 := xP2 fs zl l hl
  have hk := xP5
  have hnl := xAk (xHm fs)
  have hmin := xV2 fs
  have hbd := yAi fs
  have htk := yAj fs
  unfold inV at h33
  have hgl := xEI 12 l
  have hgo := xMB 12 l
  have hil := xGE fs
  generalize hfe : (xHm fs).isEmpty = ze at *
  have hz0 : ∀ h : (inL fs).length ≠ 0,ze = false := fun h => by rw [← hfe]; exact yC2 h
  have hwn := xR0 fs
  generalize inL fs = F at *
  generalize xCQ 12 l = V at *
  by_cases hc : chk F = 0
  · obtain ⟨h0,hlen,hV⟩ := xMz hc
    obtain rfl := hz0 (by omega)
    rw [if_pos hc,decide_eq_true hc] at h33
    obtain ⟨G1,m,sb,e19,m1,-,-,-⟩ := xS4 hc hwn []
    obtain ⟨G2,m',e2⟩ := yDY (ws0 := zr (nT F)) (zv := V.isEmpty) hc hwn (by omega) hgo V.length 0 (by omega) _ m sb _ 0 m1 (.inr ⟨rfl,rfl⟩) (by simp)
    have e2' : L.loop xS0 yBV ⟨xVz (.bool false) (.sl false F.length (nds F)) (.sl V.isEmpty V.length (bls (vL F V (zr (nT F))))) (.sl V.isEmpty V.length (evs V)) (.ptr m 0) (.int .i64 0) (.int .i64 0),_⟩ = _ := e2
    generalize bls (vL F V (zr (nT F))) = BW at *
    generalize evs V = EV at *
    rw [a7p,a7,xAl]
    simp (maxSteps := 30000000) (disch := first | assumption | omega | (simp only [WL,AV.isCell,xAf,xAm,xAk,xAv,xAx] <;> omega) | rfl | decide) only [↓reduceIte,WB,xAH,xAc,xAC,xAq,xAo,AV.cells,AV.isCell,xAa,xAg,xAh,xA7,xA8,xA9,xBa,xBb,xBc,xBH,xBd,xBe,xAT,xBf,xAU,xAV,xBg,xAW,xAX,xAD,Nat.reduceDiv,Nat.reduceMod,WP,xBt,xA2,xCt,xCr,xCk,xBk,xBy,xBv,WA,W2,xAd,xAe,xAi,Nat.reduceAdd,Nat.reduceSub,Nat.reduceLeDiff,Nat.reduceMul,Int.reduceAdd,Int.reduceSub,Int.reduceMul,Int.reduceLT,Int.reduceLE,Int.reduceEq,Int.reduceToNat,Int.reduceNeg,Nat.reduceEqDiff,Nat.reduceBEq,Nat.reduceLT,xAu,xAE,xAG,xAJ,xAL,xAK,xAy,xAA,xAp,xAj,xAQ,xA6,hk,h18,hnl,hmin,hbd,htk,h33,e19,xZ9,e2']
  · rw [if_neg hc,decide_eq_false hc] at h33
    rw [a7p,a7,xAl]
    simp (maxSteps := 30000000) (disch := first | assumption | omega | (simp only [WL,AV.isCell,xAf,xAm,xAk,xAv,xAx] <;> omega) | rfl | decide) only [↓reduceIte,WB,xAH,xAc,xAC,xAq,xAo,AV.cells,AV.isCell,xAa,xAg,xAh,xA7,xA8,xA9,xBa,xBb,xBc,xBH,xBd,xBe,xAT,xBf,xAU,xAV,xBg,xAW,xAX,xAD,Nat.reduceDiv,Nat.reduceMod,WP,xBt,xA2,xCt,xCr,xCk,xBk,xBy,xBv,WA,W2,xAd,xAe,xAi,Nat.reduceAdd,Nat.reduceSub,Nat.reduceLeDiff,Nat.reduceMul,Int.reduceAdd,Int.reduceSub,Int.reduceMul,Int.reduceLT,Int.reduceLE,Int.reduceEq,Int.reduceToNat,Int.reduceNeg,Nat.reduceEqDiff,Nat.reduceBEq,Nat.reduceLT,xAu,xAE,xAG,xAJ,xAL,xAK,xAy,xAA,xAp,xAj,xAQ,xA6,hk,h18,hnl,hmin,hbd,htk,h33]
theorem law7 (avs : List AV) (h : xLS [xS2,xLH] avs) : L.pcall 7 avs = some (.bool true) := by
  obtain ⟨v1,avs,rfl,f1,h⟩ := xCJ h
  obtain ⟨v2,avs,rfl,f2,h⟩ := xCJ h
  obtain rfl := xJE h
  obtain ⟨z,fs,rfl⟩ := xP0 (xDV f1)
  obtain ⟨zl,l,rfl,hl⟩ := xP1 (xDV f2)
  exact yAf z fs zl l hl
end Go.Abs.Events
