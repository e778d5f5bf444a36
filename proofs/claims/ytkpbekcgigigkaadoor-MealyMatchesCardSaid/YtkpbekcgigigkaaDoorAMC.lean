/- The reference's Run. -/
import Derived.Test.YtkpbekcgigigkaaDoorAbsBun
import Derived.Test.YtkpbekcgigigkaaDoorAMB
import Derived.Test.YtkpbekcgigigkaaDoorAbsWalk
import Derived.Test.YtkpbekcgigigkaaDoorAMA
namespace Go.Abs.Mealy
open Go Go.Abs
set_option linter.unusedSimpArgs false
set_option linter.unusedVariables false
section
variable {M : Ma} {G : Heap} {ov sv : AV} {o st w : List Nat} {zw : Bool}
theorem xOW (hV : Vm M) (hb : ∀ x ∈ w,x < 256) (hw : w.length < 1000000) (h0 : G[0]? = some (.cells false false M.cells)) : ∀ e i,i + e = w.length →
    ∃ j : Nat,L.loop xMO xXh ⟨xJx (.sl zw w.length (bs w)) (.ptr 0 0) (.sl true 0 []) (.sl true 0 []) (.int .i64 0) (.int .i64 (i : Nat)),G⟩ =
      some (if xET (two M.i) (w.drop i) = true then (.ret,⟨xJx (.sl zw w.length (bs w)) (.ptr 0 0) (.sl true 0 []) (.sl true 0 []) (.int .i64 1) (.int .i64 (j : Nat)),G⟩)
        else (.exit 0,⟨xJx (.sl zw w.length (bs w)) (.ptr 0 0) (.sl true 0 []) (.sl true 0 []) (.int .i64 0) (.int .i64 (w.length : Nat)),G⟩)) := by
  have io := hV.io
  have hsi := xES (v := M.i) (by omega)
  have hi0 : ¬ ((M.i : Nat) : Int) < 0 := by omega
  unfold Ma.cells at h0
  intro e
  induction e with
  | zero =>
    intro i h
    obtain rfl : i = w.length := by omega
    refine ⟨0,?_⟩
    rw [if_neg (by rw [List.drop_length]; simp [xET]),xT0]
    simp (maxSteps := 30000000) (disch := first | assumption | omega | (simp only [WL,AV.isCell] <;> omega) | rfl | decide) only [↓reduceIte,WB,xAL,xAb,xAK,xAp,xAo,AV.cells,AV.isCell,xAa,xAd,xAe,xAr,xAs,xAt,xAu,xAv,xAw,xAJ,xAx,xAy,xAj,xAz,xAk,xAl,xAA,xAm,xAn,xAi,Nat.reduceDiv,Nat.reduceMod,WP,xAG,xAC,xA2,xA0,xAZ,xAF,xAI,xAH,W2,xAf,xAg,xAh,Nat.reduceAdd,Nat.reduceSub,Nat.reduceLeDiff,Nat.reduceMul,Int.reduceAdd,Int.reduceSub,Int.reduceMul,Int.reduceLT,Int.reduceLE,Int.reduceEq,Int.reduceToNat,Int.reduceNeg,Nat.reduceEqDiff,Nat.reduceBEq,Nat.reduceLT,xBz,xB1,xB7,xCg,xCh,xCi,xBA,xB4,xAW,xAX,xCz,xCQ,List.length_map,List.set_set,xJw,xHK]
  | succ e ih =>
    intro i h
    have hlt : (i : Int) < (w.length : Nat) := by omega
    obtain ⟨j,ih'⟩ := ih (i + 1) (by omega)
    have hx := hb _ (xBk (a := (0 : Nat)) (show i < w.length by omega))
    rw [xBb (a := (0 : Nat)) (by omega : i < w.length)]
    have et : ∀ t,xET (two M.i) (w.getD i 0 :: t) = (decide (two M.i ≤ w.getD i 0) || xET (two M.i) t) := fun _ => rfl
    rw [et]
    by_cases c : two M.i ≤ w.getD i 0
    · refine ⟨i,?_⟩
      have c' : ((two M.i : Nat) : Int) ≤ (w.getD i 0 : Nat) := by omega
      rw [decide_eq_true c,Bool.true_or,if_pos rfl,xT0]
      simp (maxSteps := 30000000) (disch := first | assumption | omega | (simp only [WL,AV.isCell] <;> omega) | rfl | decide) only [↓reduceIte,WB,xAL,xAb,xAK,xAp,xAo,AV.cells,AV.isCell,xAa,xAd,xAe,xAr,xAs,xAt,xAu,xAv,xAw,xAJ,xAx,xAy,xAj,xAz,xAk,xAl,xAA,xAm,xAn,xAi,Nat.reduceDiv,Nat.reduceMod,WP,xAG,xAC,xA2,xA0,xAZ,xAF,xAI,xAH,W2,xAf,xAg,xAh,Nat.reduceAdd,Nat.reduceSub,Nat.reduceLeDiff,Nat.reduceMul,Int.reduceAdd,Int.reduceSub,Int.reduceMul,Int.reduceLT,Int.reduceLE,Int.reduceEq,Int.reduceToNat,Int.reduceNeg,Nat.reduceEqDiff,Nat.reduceBEq,Nat.reduceLT,xBz,xB1,xB7,xCg,xCh,xCi,xBA,xB4,xAW,xAX,xCz,xCQ,List.length_map,List.set_set,xJw,xHK,hlt,h0,hsi,hi0,c']
    · refine ⟨j,?_⟩
      have c' : ¬ ((two M.i : Nat) : Int) ≤ (w.getD i 0 : Nat) := by omega
      rw [decide_eq_false c,Bool.false_or,xT0]
      by_cases e : xET (two M.i) (w.drop (i + 1)) = true
      · rw [if_pos e] at ih' ⊢
        simp (maxSteps := 30000000) (disch := first | assumption | omega | (simp only [WL,AV.isCell] <;> omega) | rfl | decide) only [↓reduceIte,WB,xAL,xAb,xAK,xAp,xAo,AV.cells,AV.isCell,xAa,xAd,xAe,xAr,xAs,xAt,xAu,xAv,xAw,xAJ,xAx,xAy,xAj,xAz,xAk,xAl,xAA,xAm,xAn,xAi,Nat.reduceDiv,Nat.reduceMod,WP,xAG,xAC,xA2,xA0,xAZ,xAF,xAI,xAH,W2,xAf,xAg,xAh,Nat.reduceAdd,Nat.reduceSub,Nat.reduceLeDiff,Nat.reduceMul,Int.reduceAdd,Int.reduceSub,Int.reduceMul,Int.reduceLT,Int.reduceLE,Int.reduceEq,Int.reduceToNat,Int.reduceNeg,Nat.reduceEqDiff,Nat.reduceBEq,Nat.reduceLT,xBz,xB1,xB7,xCg,xCh,xCi,xBA,xB4,xAW,xAX,xCz,xCQ,List.length_map,List.set_set,xJw,xHK,hlt,h0,hsi,hi0,c',ih']
      · rw [if_neg e] at ih' ⊢
        simp (maxSteps := 30000000) (disch := first | assumption | omega | (simp only [WL,AV.isCell] <;> omega) | rfl | decide) only [↓reduceIte,WB,xAL,xAb,xAK,xAp,xAo,AV.cells,AV.isCell,xAa,xAd,xAe,xAr,xAs,xAt,xAu,xAv,xAw,xAJ,xAx,xAy,xAj,xAz,xAk,xAl,xAA,xAm,xAn,xAi,Nat.reduceDiv,Nat.reduceMod,WP,xAG,xAC,xA2,xA0,xAZ,xAF,xAI,xAH,W2,xAf,xAg,xAh,Nat.reduceAdd,Nat.reduceSub,Nat.reduceLeDiff,Nat.reduceMul,Int.reduceAdd,Int.reduceSub,Int.reduceMul,Int.reduceLT,Int.reduceLE,Int.reduceEq,Int.reduceToNat,Int.reduceNeg,Nat.reduceEqDiff,Nat.reduceBEq,Nat.reduceLT,xBz,xB1,xB7,xCg,xCh,xCi,xBA,xB4,xAW,xAX,xCz,xCQ,List.length_map,List.set_set,xJw,xHK,hlt,h0,hsi,hi0,c',ih']
abbrev F17 (zw : Bool) (w : List Nat) (ov sv : AV) (i : Nat) : List AV := xQg (.sl zw w.length (bs w)) (.ptr 0 0) ov sv (.int .i64 (i : Nat))
set_option maxHeartbeats 1000000 in
theorem xSY (hV : Vm M) (h0 : G[0]? = some (.cells false false M.cells)) (hO : Ow G 1 ov sv o st) {s i : Nat} (hs : s < M.next.length) (hi : i < w.length) (hx : w.getD i 0 < two M.i) (hw : w.length < 1000000) (ho : o.length < 1000000) (hst : st.length = i + 1) (hsi : st.getD i 0 = s) :
    ∃ G' ov' sv',L.loop xHL xSN ⟨F17 zw w ov sv i,G⟩ = L.loop xHL xSN ⟨F17 zw w ov' sv' (i + 1),G'⟩ ∧ G'[0]? = some (.cells false false M.cells) ∧ Ow G' 1 ov' sv' (o ++ [em M s (w.getD i 0)]) (st ++ [nx M s (w.getD i 0)]) := by
  obtain ⟨q,rfl,hq,hqs,h3⟩ := hO
  have hGq := xG3 hqs
  have hlt : (i : Int) < (w.length : Nat) := by omega
  have l1 := hV.nl hs
  have l2 := hV.wl' hs
  have l5 := hV.el
  have g0 := h0
  unfold Ma.cells at g0
  unfold em nx
  generalize hX : w.getD i 0 = x at *
  have e : xBp st ++ [AV.int .i64 (((M.next.getD s []).getD x 0 : Nat) : Int)] = xBp (st ++ [(M.next.getD s []).getD x 0]) := by simp [xBp]
  have hil : i < st.length := by omega
  rcases h3 with ⟨rfl,rfl⟩ | ⟨p,rfl,hp,hpq,hpo⟩
  · refine ⟨G.set q .dead ++ [.cells false false (bs [(M.emit.getD s []).getD x 0]),.cells false false (xBp (st ++ [(M.next.getD s []).getD x 0]))],.own false G.length 0 1 1,.own false (G.length + 1) 0 (st.length + 1) 1,?_,?_,?_⟩
    · rw [xT1]
      simp (maxSteps := 30000000) (disch := first | assumption | omega | (simp only [WL,AV.isCell] <;> omega) | rfl | decide) only [↓reduceIte,WB,xAL,xAb,xAK,xAp,xAo,AV.cells,AV.isCell,xAa,xAd,xAe,xAr,xAs,xAt,xAu,xAv,xAw,xAJ,xAx,xAy,xAj,xAz,xAk,xAl,xAA,xAm,xAn,xAi,Nat.reduceDiv,Nat.reduceMod,WP,xAG,xAC,xA2,xA0,xAZ,xAF,xAI,xAH,W2,xAf,xAg,xAh,Nat.reduceAdd,Nat.reduceSub,Nat.reduceLeDiff,Nat.reduceMul,Int.reduceAdd,Int.reduceSub,Int.reduceMul,Int.reduceLT,Int.reduceLE,Int.reduceEq,Int.reduceToNat,Int.reduceNeg,Nat.reduceEqDiff,Nat.reduceBEq,Nat.reduceLT,xBz,xB1,xB7,xCg,xCh,xCi,xBA,xB4,xAW,xAX,xCz,xCQ,List.length_map,List.set_set,xMP,xMQ,hlt,g0,hqs,l1,l2,l5,hX,hs,hx,hsi,hil]
      first | rfl | (rw [e]; rfl) | rw [e]
    · rw [xBz (by simp; omega),xBA (by omega),h0]
    · exact ⟨G.length + 1,by simp,by omega,by rw [xB1 (by simp)]; rfl,.inr ⟨G.length,rfl,by omega,by omega,by rw [xB7 (by simp)]; rfl⟩⟩
  · have hGp := xG3 hpo
    have e2 : bs o ++ [AV.int .u8 (((M.emit.getD s []).getD x 0 : Nat) : Int)] = bs (o ++ [(M.emit.getD s []).getD x 0]) := by simp [bs]
    refine ⟨(G.set p .dead).set q .dead ++ [.cells false false (bs (o ++ [(M.emit.getD s []).getD x 0])),.cells false false (xBp (st ++ [(M.next.getD s []).getD x 0]))],.own false G.length 0 (o.length + 1) 1,.own false (G.length + 1) 0 (st.length + 1) 1,?_,?_,?_⟩
    · rw [xT1]
      simp (maxSteps := 30000000) (disch := first | assumption | omega | (simp only [WL,AV.isCell] <;> omega) | rfl | decide) only [↓reduceIte,WB,xAL,xAb,xAK,xAp,xAo,AV.cells,AV.isCell,xAa,xAd,xAe,xAr,xAs,xAt,xAu,xAv,xAw,xAJ,xAx,xAy,xAj,xAz,xAk,xAl,xAA,xAm,xAn,xAi,Nat.reduceDiv,Nat.reduceMod,WP,xAG,xAC,xA2,xA0,xAZ,xAF,xAI,xAH,W2,xAf,xAg,xAh,Nat.reduceAdd,Nat.reduceSub,Nat.reduceLeDiff,Nat.reduceMul,Int.reduceAdd,Int.reduceSub,Int.reduceMul,Int.reduceLT,Int.reduceLE,Int.reduceEq,Int.reduceToNat,Int.reduceNeg,Nat.reduceEqDiff,Nat.reduceBEq,Nat.reduceLT,xBz,xB1,xB7,xCg,xCh,xCi,xBA,xB4,xAW,xAX,xCz,xCQ,List.length_map,List.set_set,xMP,xMQ,hlt,g0,hqs,hpo,l1,l2,l5,hX,hs,hx,hsi,hil]
      first | rfl | rw [e,e2] | rw [e] | rw [e2]
    · rw [xBz (by simp; omega),xBA (by omega),xBA (by omega),h0]
    · exact ⟨G.length + 1,by simp,by omega,by rw [xB1 (by simp)]; rfl,.inr ⟨G.length,by simp,by omega,by omega,by rw [xB7 (by simp)]; rfl⟩⟩
theorem xYf (hV : Vm M) (hb : ∀ x ∈ w,x < two M.i) (hw : w.length < 1000) : ∀ e i s o st ov sv G,i + e = w.length → s < M.next.length → G[0]? = some (.cells false false M.cells) → Ow G 1 ov sv o st → o.length = i → st.length = i + 1 → st.getD i 0 = s →
    ∃ G' ov' sv',L.loop xHL xSN ⟨F17 zw w ov sv i,G⟩ = some (.exit 2,⟨F17 zw w ov' sv' w.length,G'⟩) ∧ Ow G' 1 ov' sv' (o ++ xEV M s (w.drop i)) (st ++ xEl M s (w.drop i)) := by
  intro e
  induction e with
  | zero =>
    intro i s o st ov sv G h hs h0 hO ho hst hsi
    obtain rfl : i = w.length := by omega
    refine ⟨G,ov,sv,?_,by rw [List.drop_length]; simpa [xEV,xEl] using hO⟩
    rw [xT1]
    simp (maxSteps := 30000000) (disch := first | assumption | omega | (simp only [WL,AV.isCell] <;> omega) | rfl | decide) only [↓reduceIte,WB,xAL,xAb,xAK,xAp,xAo,AV.cells,AV.isCell,xAa,xAd,xAe,xAr,xAs,xAt,xAu,xAv,xAw,xAJ,xAx,xAy,xAj,xAz,xAk,xAl,xAA,xAm,xAn,xAi,Nat.reduceDiv,Nat.reduceMod,WP,xAG,xAC,xA2,xA0,xAZ,xAF,xAI,xAH,W2,xAf,xAg,xAh,Nat.reduceAdd,Nat.reduceSub,Nat.reduceLeDiff,Nat.reduceMul,Int.reduceAdd,Int.reduceSub,Int.reduceMul,Int.reduceLT,Int.reduceLE,Int.reduceEq,Int.reduceToNat,Int.reduceNeg,Nat.reduceEqDiff,Nat.reduceBEq,Nat.reduceLT,xBz,xB1,xB7,xCg,xCh,xCi,xBA,xB4,xAW,xAX,xCz,xCQ,List.length_map,List.set_set,xMP,xMQ]
    try rfl
  | succ e ih =>
    intro i s o st ov sv G h hs h0 hO ho hst hsi
    have hx := hb _ (xBk (a := (0 : Nat)) (show i < w.length by omega))
    obtain ⟨G1,ov1,sv1,k1,k2,k3⟩ := xSY (zw := zw) hV h0 hO hs (show i < w.length by omega) hx (by omega) (by omega) hst hsi
    rw [k1]
    obtain ⟨G',ov',sv',j1,j2⟩ := ih (i + 1) (nx M s (w.getD i 0)) _ _ ov1 sv1 G1 (by omega) (hV.nx hs hx) k2 k3 (by simp; omega) (by simp; omega) (by rw [← hst]; simp [List.getD])
    refine ⟨G',ov',sv',j1,?_⟩
    rw [xBb (a := (0 : Nat)) (show i < w.length by omega),xEV,xEl]
    simpa using j2
theorem xYg {m : Mf} (hS : Sm m) (h : xFH m ≠ 0) : L.pcall 17 [m.av,xBf zw w] = some (.tup [.sl true 0 [],.sl true 0 [],.int .i64 (xFH m)]) := by
  have hc := xL5 hS
  generalize xFH m = e at *
  unfold Mf.av at hc ⊢
  unfold Mf.cells at hc ⊢
  rw [yB2,a17,xAB]
  simp (maxSteps := 30000000) (disch := first | assumption | omega | (simp only [WL,AV.isCell] <;> omega) | rfl | decide) only [↓reduceIte,WB,xAL,xAb,xAK,xAp,xAo,AV.cells,AV.isCell,xAa,xAd,xAe,xAr,xAs,xAt,xAu,xAv,xAw,xAJ,xAx,xAy,xAj,xAz,xAk,xAl,xAA,xAm,xAn,xAi,Nat.reduceDiv,Nat.reduceMod,WP,xAG,xAC,xA2,xA0,xAZ,xAF,xAI,xAH,W2,xAf,xAg,xAh,Nat.reduceAdd,Nat.reduceSub,Nat.reduceLeDiff,Nat.reduceMul,Int.reduceAdd,Int.reduceSub,Int.reduceMul,Int.reduceLT,Int.reduceLE,Int.reduceEq,Int.reduceToNat,Int.reduceNeg,Nat.reduceEqDiff,Nat.reduceBEq,Nat.reduceLT,xBz,xB1,xB7,xCg,xCh,xCi,xBA,xB4,xAW,xAX,xCz,xCQ,List.length_map,List.set_set,hc,h]
theorem xRN (hV : Vm M) (hb : ∀ x ∈ w,x < 256) (hw : w.length < 1000000) (h : xI5 M.i w ≠ 0) : L.pcall 17 [M.av,xBf zw w] = some (.tup [.sl true 0 [],.sl true 0 [],.int .i64 (xI5 M.i w)]) := by
  have hc := xBN hV
  obtain ⟨j,ha⟩ := xOW (zw := zw) (G := [.cells false false M.cells]) hV hb hw rfl _ 0 (Nat.zero_add _)
  simp only [Int.natCast_zero,List.drop_zero] at ha
  unfold xI5 at h ⊢
  unfold Ma.av at hc ⊢
  unfold Ma.cells at hc ha ⊢
  by_cases c : 64 < w.length
  · rw [if_pos c]
    have c' : (64 : Int) < (w.length : Nat) := by omega
    rw [yB2,a17,xAB]
    simp (maxSteps := 30000000) (disch := first | assumption | omega | (simp only [WL,AV.isCell] <;> omega) | rfl | decide) only [↓reduceIte,WB,xAL,xAb,xAK,xAp,xAo,AV.cells,AV.isCell,xAa,xAd,xAe,xAr,xAs,xAt,xAu,xAv,xAw,xAJ,xAx,xAy,xAj,xAz,xAk,xAl,xAA,xAm,xAn,xAi,Nat.reduceDiv,Nat.reduceMod,WP,xAG,xAC,xA2,xA0,xAZ,xAF,xAI,xAH,W2,xAf,xAg,xAh,Nat.reduceAdd,Nat.reduceSub,Nat.reduceLeDiff,Nat.reduceMul,Int.reduceAdd,Int.reduceSub,Int.reduceMul,Int.reduceLT,Int.reduceLE,Int.reduceEq,Int.reduceToNat,Int.reduceNeg,Nat.reduceEqDiff,Nat.reduceBEq,Nat.reduceLT,xBz,xB1,xB7,xCg,xCh,xCi,xBA,xB4,xAW,xAX,xCz,xCQ,List.length_map,List.set_set,hc,c']
  · rw [if_neg c] at h ⊢
    have c' : ¬ (64 : Int) < (w.length : Nat) := by omega
    by_cases c2 : xET (two M.i) w = true
    · rw [if_pos c2]
      rw [if_pos c2] at ha
      rw [yB2,a17,xAB]
      simp (maxSteps := 30000000) (disch := first | assumption | omega | (simp only [WL,AV.isCell] <;> omega) | rfl | decide) only [↓reduceIte,WB,xAL,xAb,xAK,xAp,xAo,AV.cells,AV.isCell,xAa,xAd,xAe,xAr,xAs,xAt,xAu,xAv,xAw,xAJ,xAx,xAy,xAj,xAz,xAk,xAl,xAA,xAm,xAn,xAi,Nat.reduceDiv,Nat.reduceMod,WP,xAG,xAC,xA2,xA0,xAZ,xAF,xAI,xAH,W2,xAf,xAg,xAh,Nat.reduceAdd,Nat.reduceSub,Nat.reduceLeDiff,Nat.reduceMul,Int.reduceAdd,Int.reduceSub,Int.reduceMul,Int.reduceLT,Int.reduceLE,Int.reduceEq,Int.reduceToNat,Int.reduceNeg,Nat.reduceEqDiff,Nat.reduceBEq,Nat.reduceLT,xBz,xB1,xB7,xCg,xCh,xCi,xBA,xB4,xAW,xAX,xCz,xCQ,List.length_map,List.set_set,xHK,hc,c',ha]
    · rw [if_neg c2] at h; exact absurd rfl h
theorem xG1 (hV : Vm M) (h : xI5 M.i w = 0) : ∃ z,L.pcall 17 [M.av,xBf zw w] = some (.tup [.sl z w.length (bs (xEV M M.s w)),.sl false (w.length + 1) (xBp (M.s :: xEl M M.s w)),.int .i64 0]) := by
  have hz := runE_zero.1 h
  have io := hV.io
  have hb6 := (xED (show M.i ≤ 6 by omega)).1
  have hb : ∀ x ∈ w,x < 256 := fun x hx => by have := hz.2 x hx; omega
  have hc := xBN hV
  obtain ⟨j,ha⟩ := xOW (zw := zw) (G := [.cells false false M.cells]) hV hb (by omega) rfl _ 0 (Nat.zero_add _)
  simp only [Int.natCast_zero,List.drop_zero] at ha
  rw [if_neg (by rw [bigW_iff.2 hz.2]; simp)] at ha
  have c' : ¬ (64 : Int) < (w.length : Nat) := by omega
  obtain ⟨G',ov',sv',j1,j2⟩ := xYf (zw := zw) hV hz.2 (by omega) w.length 0 M.s [] [M.s] (.sl true 0 []) (.own false 1 0 1 1) [.cells false false M.cells,.cells false false (xBp [M.s])] (by omega) hV.s rfl ⟨1,rfl,by omega,rfl,.inl ⟨rfl,rfl⟩⟩ rfl rfl rfl
  rw [List.drop_zero,List.nil_append] at j2
  obtain ⟨b,rfl,hb1,hbs,h3⟩ := j2
  have lo := xCo M w M.s
  have lt := xCp M w M.s
  have ls : ([M.s] ++ xEl M M.s w).length = w.length + 1 := by simp [lt]
  unfold F17 at j1
  simp only [Int.natCast_zero] at j1
  unfold Ma.av at hc ⊢
  unfold Ma.cells at hc ha j1 ⊢
  rw [ls] at j1
  have his : xBp [M.s] = [.int .i64 (M.s : Nat)] := rfl
  rw [his] at j1
  rw [List.singleton_append] at hbs
  have lss : (M.s :: xEl M M.s w).length = w.length + 1 := by rw [List.length_cons,lt]
  generalize M.s :: xEl M M.s w = st at *
  rcases h3 with ⟨rfl,h4⟩ | ⟨a,rfl,ha1,hab,has⟩
  · have hw0 : w.length = 0 := by rw [h4] at lo; exact lo.symm
    have hr0 : xEV M M.s w = [] := h4
    rw [hr0,hw0]
    rw [hw0] at j1 ha lss c'
    refine ⟨true,?_⟩
    have hwn : w = [] := List.length_eq_zero_iff.1 hw0
    subst hwn
    obtain ⟨a,rfl⟩ : ∃ a,st = [a] := List.length_eq_one_iff.1 lss
    simp only [xBf,List.length_nil,bs,List.map_nil,Int.natCast_zero] at j1 ha ⊢
    rw [yB2,a17,xAB]
    simp (maxSteps := 30000000) (disch := first | assumption | omega | (simp only [WL,AV.isCell] <;> omega) | rfl | decide) only [↓reduceIte,WB,xAL,xAb,xAK,xAp,xAo,AV.cells,AV.isCell,xAa,xAd,xAe,xAr,xAs,xAt,xAu,xAv,xAw,xAJ,xAx,xAy,xAj,xAz,xAk,xAl,xAA,xAm,xAn,xAi,Nat.reduceDiv,Nat.reduceMod,WP,xAG,xAC,xA2,xA0,xAZ,xAF,xAI,xAH,W2,xAf,xAg,xAh,Nat.reduceAdd,Nat.reduceSub,Nat.reduceLeDiff,Nat.reduceMul,Int.reduceAdd,Int.reduceSub,Int.reduceMul,Int.reduceLT,Int.reduceLE,Int.reduceEq,Int.reduceToNat,Int.reduceNeg,Nat.reduceEqDiff,Nat.reduceBEq,Nat.reduceLT,xBz,xB1,xB7,xCg,xCh,xCi,xBA,xB4,xAW,xAX,xCz,xCQ,List.length_map,List.set_set,xHK,xMQ,hc,ha,j1,hbs,lss]
    try rfl
  · rw [lo] at j1
    refine ⟨false,?_⟩
    rw [yB2,a17,xAB]
    simp (maxSteps := 30000000) (disch := first | assumption | omega | (simp only [WL,AV.isCell] <;> omega) | rfl | decide) only [↓reduceIte,WB,xAL,xAb,xAK,xAp,xAo,AV.cells,AV.isCell,xAa,xAd,xAe,xAr,xAs,xAt,xAu,xAv,xAw,xAJ,xAx,xAy,xAj,xAz,xAk,xAl,xAA,xAm,xAn,xAi,Nat.reduceDiv,Nat.reduceMod,WP,xAG,xAC,xA2,xA0,xAZ,xAF,xAI,xAH,W2,xAf,xAg,xAh,Nat.reduceAdd,Nat.reduceSub,Nat.reduceLeDiff,Nat.reduceMul,Int.reduceAdd,Int.reduceSub,Int.reduceMul,Int.reduceLT,Int.reduceLE,Int.reduceEq,Int.reduceToNat,Int.reduceNeg,Nat.reduceEqDiff,Nat.reduceBEq,Nat.reduceLT,xBz,xB1,xB7,xCg,xCh,xCi,xBA,xB4,xAW,xAX,xCz,xCQ,List.length_map,List.set_set,xHK,xMQ,hc,c',ha,j1,hbs,has,lo,lss]
    rw [List.take_of_length_le (by omega),List.take_of_length_le (by omega)]
end
end Go.Abs.Mealy
/- The reference's Check of a lasso. -/
namespace Go.Abs.Mealy
set_option linter.unusedVariables false
set_option linter.unusedSimpArgs false
open Go Go.Abs
theorem yFf {v : Nat} (hv : v ≤ 6) : IntKind.i64.wrap (1 * 2 ^ min v IntKind.i64.bits) = ((2 ^ v : Nat) : Int) := by
  have : v = 0 ∨ v = 1 ∨ v = 2 ∨ v = 3 ∨ v = 4 ∨ v = 5 ∨ v = 6 := by omega
  rcases this with rfl | rfl | rfl | rfl | rfl | rfl | rfl <;> rfl
theorem xV3 {l : List Nat} {i : Nat} (h : i < l.length) : l.drop i = l.getD i 0 :: l.drop (i + 1) := by
  rw [List.drop_eq_getElem_cons h,List.getD_eq_getElem?_getD,List.getElem?_eq_getElem h]; rfl
def xPK (v : Nat) (w : List Nat) : Bool := w.any fun x => decide (2 ^ v ≤ x)
def xV4 (p q : List Nat) (v : Int) : Int :=
  if v < 0 ∨ 6 < v then 7 else if q = [] then 3 else if 64 < p.length ∨ 64 < q.length then 4 else if xPK v.toNat p = true ∨ xPK v.toNat q = true then 1 else 0
theorem xSZ {v : Nat} (hv : v ≤ 6) : IntKind.u64.wrap ((v : Nat) : Int) = ((v : Nat) : Int) := by
  have : v = 0 ∨ v = 1 ∨ v = 2 ∨ v = 3 ∨ v = 4 ∨ v = 5 ∨ v = 6 := by omega
  rcases this with rfl | rfl | rfl | rfl | rfl | rfl | rfl <;> rfl
theorem xIP {v k : Nat} {H : Heap} {w : List Nat} (hv : v ≤ 6) (hH : H[k]? = some (.cells false false (bs w))) (hw : ∀ x ∈ w,x < 256) (hl : w.length < 1099511627776) : ∀ d i,i + d = w.length →
    ∃ i' : Nat,L.loop xNc xXs ⟨xJQ (.int .i64 (v : Nat)) (.int .i64 0) (.own false k 0 w.length 1) (.int .i64 (i : Nat)),H⟩ =
      some (if xPK v (w.drop i) = true then (.ret,⟨xJQ (.int .i64 (v : Nat)) (.int .i64 1) (.own false k 0 w.length 1) (.int .i64 (i' : Nat)),H⟩) else (.exit 0,⟨xJQ (.int .i64 (v : Nat)) (.int .i64 0) (.own false k 0 w.length 1) (.int .i64 (i' : Nat)),H⟩))
  | 0,i,h => by
    obtain rfl : i = w.length := by omega
    refine ⟨w.length,?_⟩
    rw [if_neg (by simp [xPK]),xUb]
    simp (maxSteps := 30000000) (disch := first | assumption | omega | (simp only [WL,AV.isCell] <;> omega) | rfl | decide) only [↓reduceIte,WB,xAL,xAb,xAK,xAp,xAo,AV.cells,AV.isCell,xAa,xAd,xAe,xAr,xAs,xAt,xAu,xAv,xAw,xAJ,xAx,xAy,xAj,xAz,xAk,xAl,xAA,xAm,xAn,xAi,Nat.reduceDiv,Nat.reduceMod,WP,xAG,xAC,xA2,xA0,xAZ,xAF,xAI,xAH,Nat.reduceAdd,Nat.reduceSub,Nat.reduceLeDiff,Nat.reduceMul,Int.reduceAdd,Int.reduceSub,Int.reduceMul,Int.reduceLT,Int.reduceLE,Int.reduceEq,Int.reduceToNat,Int.reduceNeg,Nat.reduceEqDiff,Nat.reduceBEq,Nat.reduceLT,xJP,xGv]
  | d + 1,i,h => by
    have hlt : (i : Int) < (w.length : Nat) := by omega
    have hx : w.getD i 0 < 256 := by
      rw [List.getD_eq_getElem?_getD,List.getElem?_eq_getElem (by omega)]
      exact hw _ (List.getElem_mem _)
    have hsh := yFf hv
    have hwr := xSZ hv
    have e1 : (((2 ^ v : Nat) : Int) ≤ ((w.getD i 0 : Nat) : Int)) = (2 ^ v ≤ w.getD i 0) := propext ⟨fun h => by omega,fun h => by omega⟩
    have hat : (bs w)[i]? = some (.int .u8 (w.getD i 0 : Nat)) := by
      simp only [bs,List.getElem?_map,List.getElem?_eq_getElem (show i < w.length by omega),Option.map_some,List.getD_eq_getElem?_getD,Option.getD_some]
    rw [xV3 (by omega : i < w.length)]
    unfold xPK
    rw [List.any_cons]
    by_cases e : 2 ^ v ≤ w.getD i 0
    · refine ⟨i,?_⟩
      rw [if_pos (by rw [decide_eq_true e,Bool.true_or]),xUb]
      simp (maxSteps := 30000000) (disch := first | assumption | omega | (simp only [WL,AV.isCell] <;> omega) | rfl | decide) only [↓reduceIte,WB,xAL,xAb,xAK,xAp,xAo,AV.cells,AV.isCell,xAa,xAd,xAe,xAr,xAs,xAt,xAu,xAv,xAw,xAJ,xAx,xAy,xAj,xAz,xAk,xAl,xAA,xAm,xAn,xAi,Nat.reduceDiv,Nat.reduceMod,WP,xAG,xAC,xA2,xA0,xAZ,xAF,xAI,xAH,Nat.reduceAdd,Nat.reduceSub,Nat.reduceLeDiff,Nat.reduceMul,Int.reduceAdd,Int.reduceSub,Int.reduceMul,Int.reduceLT,Int.reduceLE,Int.reduceEq,Int.reduceToNat,Int.reduceNeg,Nat.reduceEqDiff,Nat.reduceBEq,Nat.reduceLT,xJP,xGv,hlt,hH,hat,hsh,hwr,e1,e]
    · obtain ⟨i',ih⟩ := xIP hv hH hw hl d (i + 1) (by omega)
      refine ⟨i',?_⟩
      have e2 : (decide (2 ^ v ≤ w.getD i 0) || (w.drop (i + 1)).any fun x => decide (2 ^ v ≤ x)) = xPK v (w.drop (i + 1)) := by rw [decide_eq_false e,Bool.false_or]; rfl
      rw [e2,xUb]
      by_cases e3 : xPK v (w.drop (i + 1)) = true
      · rw [if_pos e3] at ih ⊢
        simp (maxSteps := 30000000) (disch := first | assumption | omega | (simp only [WL,AV.isCell] <;> omega) | rfl | decide) only [↓reduceIte,WB,xAL,xAb,xAK,xAp,xAo,AV.cells,AV.isCell,xAa,xAd,xAe,xAr,xAs,xAt,xAu,xAv,xAw,xAJ,xAx,xAy,xAj,xAz,xAk,xAl,xAA,xAm,xAn,xAi,Nat.reduceDiv,Nat.reduceMod,WP,xAG,xAC,xA2,xA0,xAZ,xAF,xAI,xAH,Nat.reduceAdd,Nat.reduceSub,Nat.reduceLeDiff,Nat.reduceMul,Int.reduceAdd,Int.reduceSub,Int.reduceMul,Int.reduceLT,Int.reduceLE,Int.reduceEq,Int.reduceToNat,Int.reduceNeg,Nat.reduceEqDiff,Nat.reduceBEq,Nat.reduceLT,xJP,xGv,hlt,hH,hat,hsh,hwr,e1,e,ih]
      · rw [if_neg e3] at ih ⊢
        simp (maxSteps := 30000000) (disch := first | assumption | omega | (simp only [WL,AV.isCell] <;> omega) | rfl | decide) only [↓reduceIte,WB,xAL,xAb,xAK,xAp,xAo,AV.cells,AV.isCell,xAa,xAd,xAe,xAr,xAs,xAt,xAu,xAv,xAw,xAJ,xAx,xAy,xAj,xAz,xAk,xAl,xAA,xAm,xAn,xAi,Nat.reduceDiv,Nat.reduceMod,WP,xAG,xAC,xA2,xA0,xAZ,xAF,xAI,xAH,Nat.reduceAdd,Nat.reduceSub,Nat.reduceLeDiff,Nat.reduceMul,Int.reduceAdd,Int.reduceSub,Int.reduceMul,Int.reduceLT,Int.reduceLE,Int.reduceEq,Int.reduceToNat,Int.reduceNeg,Nat.reduceEqDiff,Nat.reduceBEq,Nat.reduceLT,xJP,xGv,hlt,hH,hat,hsh,hwr,e1,e,ih]
theorem xYh (v : Nat) (p q : List Nat) : xPK v (p ++ q) = (xPK v p || xPK v q) := by
  simp [xPK]
set_option maxHeartbeats 4000000 in
theorem xV5 (z1 z2 : Bool) (p q : List Nat) (v : Int) (hp : p.length < 1000000000000) (hq : q.length < 1000000000000) (hpw : ∀ x ∈ p,x < 256) (hqw : ∀ x ∈ q,x < 256) :
    L.pcall 56 [las z1 z2 p q,.int .i64 v] = some (.int .i64 (xV4 p q v)) := by
  unfold xV4
  rw [yEQ,a56,xAB]
  by_cases c1 : v < 0
  · rw [if_pos (.inl c1)]
    simp (maxSteps := 30000000) (disch := first | assumption | omega | (simp only [WL,AV.isCell] <;> omega) | rfl | decide) only [↓reduceIte,WB,xAL,xAb,xAK,xAp,xAo,AV.cells,AV.isCell,xAa,xAd,xAe,xAr,xAs,xAt,xAu,xAv,xAw,xAJ,xAx,xAy,xAj,xAz,xAk,xAl,xAA,xAm,xAn,xAi,Nat.reduceDiv,Nat.reduceMod,WP,xAG,xAC,xA2,xA0,xAZ,xAF,xAI,xAH,Nat.reduceAdd,Nat.reduceSub,Nat.reduceLeDiff,Nat.reduceMul,Int.reduceAdd,Int.reduceSub,Int.reduceMul,Int.reduceLT,Int.reduceLE,Int.reduceEq,Int.reduceToNat,Int.reduceNeg,Nat.reduceEqDiff,Nat.reduceBEq,Nat.reduceLT,c1]
  by_cases c2 : 6 < v
  · rw [if_pos (.inr c2)]
    simp (maxSteps := 30000000) (disch := first | assumption | omega | (simp only [WL,AV.isCell] <;> omega) | rfl | decide) only [↓reduceIte,WB,xAL,xAb,xAK,xAp,xAo,AV.cells,AV.isCell,xAa,xAd,xAe,xAr,xAs,xAt,xAu,xAv,xAw,xAJ,xAx,xAy,xAj,xAz,xAk,xAl,xAA,xAm,xAn,xAi,Nat.reduceDiv,Nat.reduceMod,WP,xAG,xAC,xA2,xA0,xAZ,xAF,xAI,xAH,Nat.reduceAdd,Nat.reduceSub,Nat.reduceLeDiff,Nat.reduceMul,Int.reduceAdd,Int.reduceSub,Int.reduceMul,Int.reduceLT,Int.reduceLE,Int.reduceEq,Int.reduceToNat,Int.reduceNeg,Nat.reduceEqDiff,Nat.reduceBEq,Nat.reduceLT,c1,c2]
  rw [if_neg (fun h => h.elim c1 c2)]
  by_cases c3 : q = []
  · subst c3
    rw [if_pos rfl]
    simp (maxSteps := 30000000) (disch := first | assumption | omega | (simp only [WL,AV.isCell] <;> omega) | rfl | decide) only [↓reduceIte,WB,xAL,xAb,xAK,xAp,xAo,AV.cells,AV.isCell,xAa,xAd,xAe,xAr,xAs,xAt,xAu,xAv,xAw,xAJ,xAx,xAy,xAj,xAz,xAk,xAl,xAA,xAm,xAn,xAi,Nat.reduceDiv,Nat.reduceMod,WP,xAG,xAC,xA2,xA0,xAZ,xAF,xAI,xAH,Nat.reduceAdd,Nat.reduceSub,Nat.reduceLeDiff,Nat.reduceMul,Int.reduceAdd,Int.reduceSub,Int.reduceMul,Int.reduceLT,Int.reduceLE,Int.reduceEq,Int.reduceToNat,Int.reduceNeg,Nat.reduceEqDiff,Nat.reduceBEq,Nat.reduceLT,c1,c2]
  have c3' : ¬ ((q.length : Int) = 0) := by
    have : q.length ≠ 0 := by simpa using c3
    omega
  rw [if_neg c3]
  by_cases c4 : 64 < p.length
  · have c4' : (64 : Int) < (p.length : Nat) := by omega
    rw [if_pos (.inl c4)]
    simp (maxSteps := 30000000) (disch := first | assumption | omega | (simp only [WL,AV.isCell] <;> omega) | rfl | decide) only [↓reduceIte,WB,xAL,xAb,xAK,xAp,xAo,AV.cells,AV.isCell,xAa,xAd,xAe,xAr,xAs,xAt,xAu,xAv,xAw,xAJ,xAx,xAy,xAj,xAz,xAk,xAl,xAA,xAm,xAn,xAi,Nat.reduceDiv,Nat.reduceMod,WP,xAG,xAC,xA2,xA0,xAZ,xAF,xAI,xAH,Nat.reduceAdd,Nat.reduceSub,Nat.reduceLeDiff,Nat.reduceMul,Int.reduceAdd,Int.reduceSub,Int.reduceMul,Int.reduceLT,Int.reduceLE,Int.reduceEq,Int.reduceToNat,Int.reduceNeg,Nat.reduceEqDiff,Nat.reduceBEq,Nat.reduceLT,c1,c2,c3',c4']
  have c4' : ¬ (64 : Int) < (p.length : Nat) := by omega
  by_cases c5 : 64 < q.length
  · have c5' : (64 : Int) < (q.length : Nat) := by omega
    rw [if_pos (.inr c5)]
    simp (maxSteps := 30000000) (disch := first | assumption | omega | (simp only [WL,AV.isCell] <;> omega) | rfl | decide) only [↓reduceIte,WB,xAL,xAb,xAK,xAp,xAo,AV.cells,AV.isCell,xAa,xAd,xAe,xAr,xAs,xAt,xAu,xAv,xAw,xAJ,xAx,xAy,xAj,xAz,xAk,xAl,xAA,xAm,xAn,xAi,Nat.reduceDiv,Nat.reduceMod,WP,xAG,xAC,xA2,xA0,xAZ,xAF,xAI,xAH,Nat.reduceAdd,Nat.reduceSub,Nat.reduceLeDiff,Nat.reduceMul,Int.reduceAdd,Int.reduceSub,Int.reduceMul,Int.reduceLT,Int.reduceLE,Int.reduceEq,Int.reduceToNat,Int.reduceNeg,Nat.reduceEqDiff,Nat.reduceBEq,Nat.reduceLT,c1,c2,c3',c4',c5']
  have c5' : ¬ (64 : Int) < (q.length : Nat) := by omega
  rw [if_neg (fun h => h.elim c4 c5)]
  obtain ⟨n,rfl⟩ : ∃ n : Nat,v = (n : Nat) := ⟨v.toNat,by omega⟩
  have hn : n ≤ 6 := by omega
  simp only [Int.toNat_natCast]
  have hw : ∀ x ∈ p ++ q,x < 256 := fun x hx => (List.mem_append.1 hx).elim (hpw x) (hqw x)
  have hql : q.length ≠ 0 := by simpa using c3
  have hl := fun (k : Nat) (H : Heap) (hH : H[k]? = some (.cells false false (bs (p ++ q)))) => xIP hn hH hw (by rw [List.length_append]; omega) (p ++ q).length 0 (by omega)
  have hqb : (q.length == 0) = false := by simpa using c3
  by_cases c6 : p = []
  · subst c6
    obtain ⟨i',h1⟩ := hl 2 [.cells false false [xBf z1 [],xBf z2 q],.dead,.cells false false (bs q)] rfl
    simp only [List.nil_append,Int.natCast_zero,List.drop_zero] at h1
    have e0 : xPK n [] = false := rfl
    by_cases c7 : xPK n q = true
    · rw [if_pos c7] at h1
      rw [if_pos (.inr c7)]
      simp (maxSteps := 30000000) (disch := first | assumption | omega | (simp only [WL,AV.isCell] <;> omega) | rfl | decide) only [↓reduceIte,WB,xAL,xAb,xAK,xAp,xAo,AV.cells,AV.isCell,xAa,xAd,xAe,xAr,xAs,xAt,xAu,xAv,xAw,xAJ,xAx,xAy,xAj,xAz,xAk,xAl,xAA,xAm,xAn,xAi,Nat.reduceDiv,Nat.reduceMod,WP,xAG,xAC,xA2,xA0,xAZ,xAF,xAI,xAH,Nat.reduceAdd,Nat.reduceSub,Nat.reduceLeDiff,Nat.reduceMul,Int.reduceAdd,Int.reduceSub,Int.reduceMul,Int.reduceLT,Int.reduceLE,Int.reduceEq,Int.reduceToNat,Int.reduceNeg,Nat.reduceEqDiff,Nat.reduceBEq,Nat.reduceLT,xGv,c1,c2,c3',c4',c5',hql,hqb,h1]
    · rw [if_neg c7] at h1
      rw [if_neg (fun h => h.elim (by rw [e0]; simp) c7)]
      simp (maxSteps := 30000000) (disch := first | assumption | omega | (simp only [WL,AV.isCell] <;> omega) | rfl | decide) only [↓reduceIte,WB,xAL,xAb,xAK,xAp,xAo,AV.cells,AV.isCell,xAa,xAd,xAe,xAr,xAs,xAt,xAu,xAv,xAw,xAJ,xAx,xAy,xAj,xAz,xAk,xAl,xAA,xAm,xAn,xAi,Nat.reduceDiv,Nat.reduceMod,WP,xAG,xAC,xA2,xA0,xAZ,xAF,xAI,xAH,Nat.reduceAdd,Nat.reduceSub,Nat.reduceLeDiff,Nat.reduceMul,Int.reduceAdd,Int.reduceSub,Int.reduceMul,Int.reduceLT,Int.reduceLE,Int.reduceEq,Int.reduceToNat,Int.reduceNeg,Nat.reduceEqDiff,Nat.reduceBEq,Nat.reduceLT,xGv,c1,c2,c3',c4',c5',hql,hqb,h1]
  · have hpl : p.length ≠ 0 := by simpa using c6
    have hpb : (p.length == 0) = false := by simpa using c6
    obtain ⟨i',h1⟩ := hl 2 [.cells false false [xBf z1 p,xBf z2 q],.dead,.cells false false (bs (p ++ q))] rfl
    simp only [List.length_append,Int.natCast_zero,List.drop_zero] at h1
    rw [xYh] at h1
    by_cases c7 : xPK n p = true ∨ xPK n q = true
    · rw [if_pos (by simpa using c7)] at h1
      rw [if_pos c7]
      simp (maxSteps := 30000000) (disch := first | assumption | omega | (simp only [WL,AV.isCell] <;> omega) | rfl | decide) only [↓reduceIte,WB,xAL,xAb,xAK,xAp,xAo,AV.cells,AV.isCell,xAa,xAd,xAe,xAr,xAs,xAt,xAu,xAv,xAw,xAJ,xAx,xAy,xAj,xAz,xAk,xAl,xAA,xAm,xAn,xAi,Nat.reduceDiv,Nat.reduceMod,WP,xAG,xAC,xA2,xA0,xAZ,xAF,xAI,xAH,Nat.reduceAdd,Nat.reduceSub,Nat.reduceLeDiff,Nat.reduceMul,Int.reduceAdd,Int.reduceSub,Int.reduceMul,Int.reduceLT,Int.reduceLE,Int.reduceEq,Int.reduceToNat,Int.reduceNeg,Nat.reduceEqDiff,Nat.reduceBEq,Nat.reduceLT,xGv,c1,c2,c3',c4',c5',hql,hqb,hpl,hpb,h1]
    · rw [if_neg (by simpa using c7)] at h1
      rw [if_neg c7]
      simp (maxSteps := 30000000) (disch := first | assumption | omega | (simp only [WL,AV.isCell] <;> omega) | rfl | decide) only [↓reduceIte,WB,xAL,xAb,xAK,xAp,xAo,AV.cells,AV.isCell,xAa,xAd,xAe,xAr,xAs,xAt,xAu,xAv,xAw,xAJ,xAx,xAy,xAj,xAz,xAk,xAl,xAA,xAm,xAn,xAi,Nat.reduceDiv,Nat.reduceMod,WP,xAG,xAC,xA2,xA0,xAZ,xAF,xAI,xAH,Nat.reduceAdd,Nat.reduceSub,Nat.reduceLeDiff,Nat.reduceMul,Int.reduceAdd,Int.reduceSub,Int.reduceMul,Int.reduceLT,Int.reduceLE,Int.reduceEq,Int.reduceToNat,Int.reduceNeg,Nat.reduceEqDiff,Nat.reduceBEq,Nat.reduceLT,xGv,c1,c2,c3',c4',c5',hql,hqb,hpl,hpb,h1]
theorem xV6 {v : Nat} {z1 z2 : Bool} {p q : List Nat} (hv : v ≤ 6) (hp : p.length < 1099511) (hq : q.length < 1099511) (bp : ∀ x ∈ p,x < 256) (bq : ∀ x ∈ q,x < 256) : L.pcall 56 [las z1 z2 p q,.int .i64 (v : Nat)] = some (.int .i64 (xLg v p q)) := by
  rw [xV5 z1 z2 p q v (by omega) (by omega) bp bq]
  congr 2
  unfold xV4 xLg
  rw [if_neg (by omega)]
  rfl
def Lst (B : Nat) (H : Heap) (v : AV) (cs : List AV) : Prop :=
  (cs = [] ∧ v = .sl true 0 []) ∨ ∃ id,v = .own false id 0 cs.length 1 ∧ H[id]? = some (.cells false false cs) ∧ B ≤ id ∧ cs ≠ []
def Kp (B : Nat) (H H' : Heap) : Prop := H.length ≤ H'.length ∧ ∀ b,b < B → H'[b]? = H[b]?
theorem Kp.refl (B : Nat) (H : Heap) : Kp B H H := ⟨Nat.le_refl _,fun _ _ => rfl⟩
theorem Kp.trans {B : Nat} {H H' H2 : Heap} (h : Kp B H H') (h2 : Kp B H' H2) : Kp B H H2 := ⟨Nat.le_trans h.1 h2.1,fun b hb => (h2.2 b hb).trans (h.2 b hb)⟩
theorem Kp.low {B B' : Nat} {H H' : Heap} (h : Kp B H H') (hb : B' ≤ B) : Kp B' H H' := ⟨h.1,fun b q => h.2 b (by omega)⟩
theorem Kp.get {B : Nat} {H H' : Heap} (h : Kp B H H') {b : Nat} {x : Option Blk} (hb : b < B) (hx : H[b]? = x) : H'[b]? = x := (h.2 b hb).trans hx
theorem Lst.nil (B : Nat) (H : Heap) : Lst B H (.sl true 0 []) [] := .inl ⟨rfl,rfl⟩
theorem Lst.low {B B' : Nat} {H : Heap} {v : AV} {cs : List AV} (h : Lst B H v cs) (hb : B' ≤ B) : Lst B' H v cs := by
  rcases h with h | ⟨id,a,b,c,e⟩
  · exact .inl h
  · exact .inr ⟨id,a,b,by omega,e⟩
theorem Lst.keep {B C : Nat} {H H' : Heap} {v : AV} {cs : List AV} (h : Lst B H v cs) (hk : Kp C H H') (hC : H.length ≤ C) : Lst B H' v cs := by
  rcases h with h | ⟨id,a,b,c,e⟩
  · exact .inl h
  · have := (List.getElem?_eq_some_iff.1 b).1
    exact .inr ⟨id,a,(hk.2 id (by omega)).trans b,c,e⟩
def At (v : AV) (b : Nat) : Prop := ∃ z o n es,v = .own z b o n es
theorem Lst.inb {B : Nat} {H : Heap} {v : AV} {cs : List AV} (h : Lst B H v cs) {b : Nat} (hb : At v b) : b < H.length ∧ B ≤ b := by
  obtain ⟨z,o,n,es,e⟩ := hb
  rcases h with ⟨_,rfl⟩ | ⟨id,rfl,hi,hb,_⟩
  · cases e
  · cases e; exact ⟨(List.getElem?_eq_some_iff.1 hi).1,hb⟩
theorem Lst.other {B : Nat} {H H' : Heap} {v : AV} {cs : List AV} (h : Lst B H v cs) (hk : ∀ b,At v b → H'[b]? = H[b]?) : Lst B H' v cs := by
  rcases h with h | ⟨id,e,hi,hb,h0⟩
  · exact .inl h
  · exact .inr ⟨id,e,(hk id ⟨_,_,_,_,e⟩).trans hi,hb,h0⟩
theorem Lst.push2 {B : Nat} {H : Heap} {v : AV} {cs : List AV} (h : Lst B H v cs) (c : AV) {bytes : Nat} (hr : (cs.length + 1) * bytes ≤ 140737488355328) (hr2 : cs.length + 1 ≤ 140737488355328) (hB : B ≤ H.length) :
    ∃ v' H',xXK false 1 bytes H v (some (1,[c])) = some (v',H') ∧ Lst B H' v' (cs ++ [c]) ∧ Kp B H H' ∧ (∀ b,b < H.length → ¬ At v b → H'[b]? = H[b]?) ∧ (∀ b,At v' b → b = H.length) ∧ ∃ id n,v' = .own false id 0 n 1 := by
  rcases h with ⟨rfl,rfl⟩ | ⟨id,rfl,hi,hb,_⟩
  · refine ⟨.own false H.length 0 1 1,H ++ [.cells false false [c]],?_,.inr ⟨H.length,rfl,by simp,hB,by simp⟩,⟨by simp,fun b hb => List.getElem?_append_left (by omega)⟩,fun b hb _ => List.getElem?_append_left hb,fun b hb => ?_,_,_,rfl⟩
    · rw [xLI (by simpa using hr) (by omega)]
      rfl
    · obtain ⟨z,o,n,es,e⟩ := hb; cases e; rfl
  · refine ⟨.own false H.length 0 (cs.length + 1) 1,H.set id .dead ++ [.cells false false (cs ++ [c])],?_,.inr ⟨H.length,by simp,?_,by omega,by simp⟩,⟨by simp,fun b hb' => ?_⟩,fun b hb hn => ?_,fun b hb => ?_,_,_,rfl⟩
    · rw [xLJ,hi]
      show (if _ then _ else _) = _
      rw [if_pos ⟨by omega,hr,hr2⟩]
      simp
    · rw [List.getElem?_append_right (by simp)]; simp
    · have := (List.getElem?_eq_some_iff.1 hi).1
      rw [List.getElem?_append_left (by simp; omega),List.getElem?_set_ne (by omega)]
    · rw [List.getElem?_append_left (by simpa using hb),List.getElem?_set_ne (by rintro rfl; exact hn ⟨_,_,_,_,rfl⟩)]
    · obtain ⟨z,o,n,es,e⟩ := hb; cases e; rfl
theorem Lst.len {B : Nat} {H : Heap} {v : AV} {cs : List AV} (h : Lst B H v cs) : yCg v = some (.int .i64 (cs.length : Nat)) := by
  rcases h with ⟨rfl,rfl⟩ | ⟨id,rfl,_⟩ <;> rfl
theorem Lst.cell {B : Nat} {H : Heap} {v : AV} {cs : List AV} (h : Lst B H v cs) : v.isCell = true := by
  rcases h with ⟨rfl,rfl⟩ | ⟨id,rfl,_⟩ <;> rfl
theorem xDI : (true != false) = true := rfl
theorem xDJ : (false != false) = false := rfl
theorem yAU {σ : Type} {f : σ → σ} {g : σ → Nat} {c : σ} {n k : Nat} (hk : k < n) (h : it f c n = it f c k) (j : Nat) : xBh ((lts f g c n).take k) ((lts f g c n).drop k) j = g (it f c j) := by
  have e1 : ((lts f g c n).take k).length = k := by rw [List.length_take,xDL]; omega
  have e2 : ((lts f g c n).drop k).length = n - k := by rw [List.length_drop,xDL]
  have hper : it f c (k + (n - k)) = it f c k := by rw [show k + (n - k) = n by omega,h]
  by_cases hj : j < k
  · rw [xEv (by omega),xEk hj,xSc (by omega)]
  · rw [xCn (by omega),xCy (by omega),e1,e2,xIQ,xSc]
    · have := xZz (f := f) (c := c) (by omega) hper (j - k)
      rw [← this,show k + (j - k) = j by omega]
    · have := Nat.mod_lt (j - k) (show 0 < n - k by omega)
      omega
def sL (M : Ma) (p q : List Nat) (i : Nat) : Nat := (it (xBD M p q) (M.s,0) i).1
def xRO (M : Ma) (p q : List Nat) (k : Nat) : List Nat := (List.range k).map fun j => sL M p q (p.length + j * q.length)
theorem xRP (M : Ma) (p q : List Nat) (k : Nat) : (xRO M p q k).length = k := by simp [xRO]
theorem xOX (M : Ma) (p q : List Nat) (k : Nat) : xRO M p q (k + 1) = xRO M p q k ++ [sL M p q (p.length + k * q.length)] := by simp [xRO,List.range_succ]
theorem yAV (M : Ma) (p q : List Nat) {k j : Nat} (h : j < k) : (xRO M p q k).getD j 0 = sL M p q (p.length + j * q.length) := by simp [xRO,List.getD,h]
theorem xS0 {p q : List Nat} (k : Nat) : xFG p q (p.length + k * q.length) = p.length := by
  unfold xFG
  rw [if_neg (by omega),Nat.add_sub_cancel_left,Nat.mul_mod_left,Nat.add_zero]
theorem xOY {M : Ma} {p q : List Nat} (hV : Vm M) (hL : Lo M.i p q) (k : Nat) : it (xBD M p q) (M.s,0) (p.length + k * q.length) = (sL M p q (p.length + k * q.length),p.length) := by
  have hc := (xGe hV hL (p.length + k * q.length)).2
  rw [xS0] at hc
  exact Prod.ext rfl hc
section
variable {M : Ma} {z1 z2 : Bool} {p q : List Nat} {G : Heap} {s i : Nat} {sl w : List Nat} {wv sv : AV}
structure Inv20 (M : Ma) (z1 z2 : Bool) (p q : List Nat) (G : Heap) (wv sv : AV) (sl w : List Nat) : Prop where
  g0 : G[0]? = some (.cells false false M.cells)
  g1 : G[1]? = some (.cells false false [xBf z1 p,xBf z2 q])
  g2 : G[2]? = some (.cells false false [.sl true 0 [],.sl true 0 []])
  st : Lst 3 G sv (xBp sl)
  wr : Lst 3 G wv (bs w)
  ne : ∀ b,At sv b → ¬ At wv b
  len : 3 ≤ G.length
abbrev F20 (s : Nat) (wv sv : AV) (i k : Nat) : List AV := xQi (.ptr 0 0) (.ptr 1 0) (.ptr 2 0) (.int .i64 0) (.int .i64 (s : Nat)) wv sv (.int .i64 (i : Nat)) (.int .i64 (k : Nat))
theorem xPL (hst : Lst 3 G sv (xBp sl)) (hk : s ∉ sl) (hl : sl.length < 1000000) : ∀ e k,k + e = sl.length →
    L.loop xJz xT3 ⟨F20 s wv sv i k,G⟩ = some (.exit 2,⟨F20 s wv sv i sl.length,G⟩) := by
  intro e
  induction e with
  | zero =>
    intro k h
    obtain rfl : k = sl.length := by omega
    have hn := hst.len
    rw [xBl] at hn
    rw [xQj]
    simp (maxSteps := 30000000) (disch := first | assumption | omega | (simp only [WL,AV.isCell] <;> omega) | rfl | decide) only [↓reduceIte,WB,xAL,xAb,xAK,xAp,xAo,AV.cells,AV.isCell,xAa,xAd,xAe,xAr,xAs,xAt,xAu,xAv,xAw,xAJ,xAx,xAy,xAj,xAz,xAk,xAl,xAA,xAm,xAn,xAi,Nat.reduceDiv,Nat.reduceMod,WP,xAG,xAC,xA2,xA0,xAZ,xAF,xAI,xAH,W2,xAf,xAg,xAh,Nat.reduceAdd,Nat.reduceSub,Nat.reduceLeDiff,Nat.reduceMul,Int.reduceAdd,Int.reduceSub,Int.reduceMul,Int.reduceLT,Int.reduceLE,Int.reduceEq,Int.reduceToNat,Int.reduceNeg,Nat.reduceEqDiff,Nat.reduceBEq,Nat.reduceLT,xBz,xB1,xB7,xCg,xCh,xCi,yA7,xBA,xB4,xWt,xAW,xAX,xCz,xCQ,List.length_map,List.set_set,xJy,xGu,hn]
    try rfl
  | succ e ih =>
    intro k h
    have hlt : (k : Int) < (sl.length : Nat) := by omega
    have hlt' : k < sl.length := by omega
    have ih' := ih (k + 1) (by omega)
    have hne : (((sl.getD k 0 : Nat) : Int) = ((s : Nat) : Int)) = False := eq_false (fun e => hk (by have := xBk (a := (0 : Nat)) hlt'; rwa [show sl.getD k 0 = s by omega] at this))
    rcases hst with ⟨h0,rfl⟩ | ⟨a,rfl,ha,hB,h0⟩
    · have := congrArg List.length h0
      rw [xBl,List.length_nil] at this
      omega
    · rw [xBl] at ih' ⊢
      rw [xQj]
      simp (maxSteps := 30000000) (disch := first | assumption | omega | (simp only [WL,AV.isCell] <;> omega) | rfl | decide) only [↓reduceIte,WB,xAL,xAb,xAK,xAp,xAo,AV.cells,AV.isCell,xAa,xAd,xAe,xAr,xAs,xAt,xAu,xAv,xAw,xAJ,xAx,xAy,xAj,xAz,xAk,xAl,xAA,xAm,xAn,xAi,Nat.reduceDiv,Nat.reduceMod,WP,xAG,xAC,xA2,xA0,xAZ,xAF,xAI,xAH,W2,xAf,xAg,xAh,Nat.reduceAdd,Nat.reduceSub,Nat.reduceLeDiff,Nat.reduceMul,Int.reduceAdd,Int.reduceSub,Int.reduceMul,Int.reduceLT,Int.reduceLE,Int.reduceEq,Int.reduceToNat,Int.reduceNeg,Nat.reduceEqDiff,Nat.reduceBEq,Nat.reduceLT,xBz,xB1,xB7,xCg,xCh,xCi,yA7,xBA,xB4,xWt,xAW,xAX,xCz,xCQ,List.length_map,List.set_set,xJy,xGu,hlt,hlt',ha,hne,ih',xDI,xDJ]
theorem xOZ (hL : Lo M.i p q) (hI : Inv20 M z1 z2 p q G wv sv sl w) (hk : s ∈ sl) (hl : sl.length < 1000000) (hw : w.length < 1000000000) (hlw : p.length + pos s sl * q.length < w.length) : ∀ e k,k + e = pos s sl →
    ∃ G' z p' q',L.loop xJz xT3 ⟨F20 s wv sv i k,G⟩ = some (.ret,⟨F20 s wv sv i (pos s sl),G'⟩) ∧ G'[2]? = some (.cells false false [xBf z p',xBf false q']) ∧
      Canon (xBh (w.take (p.length + pos s sl * q.length)) (w.drop (p.length + pos s sl * q.length))) p' q' := by
  have hpl := xO6 hk
  have hpa := xR6 (d := 0) hk
  have hst := hI.st
  have hwr := hI.wr
  have g1 := hI.g1
  have g2 := hI.g2
  have hlen := hI.len
  have p4 := hL.p4
  have q4 := hL.q4
  rcases hst with ⟨h0,rfl⟩ | ⟨a,rfl,ha,hB,h0⟩
  · have := congrArg List.length h0
    rw [xBl,List.length_nil] at this
    omega
  rcases hwr with ⟨h1,rfl⟩ | ⟨b,rfl,hb,hBb,h1⟩
  · have := congrArg List.length h1
    rw [xBC,List.length_nil] at this
    omega
  rw [xBl,xBC]
  have hGb := xG3 hb
  intro e
  induction e with
  | zero =>
    intro k h
    obtain rfl : k = pos s sl := by omega
    generalize pos s sl = k at *
    have hlt : (k : Int) < (sl.length : Nat) := by omega
    have heq : ((sl.getD k 0 : Nat) : Int) = ((s : Nat) : Int) := by rw [hpa]
    have hmul : k * q.length ≤ 1000000 * 64 := Nat.mul_le_mul (by omega) q4
    generalize hkq : k * q.length = kq at *
    have hkq' : ((k : Nat) : Int) * ((q.length : Nat) : Int) = ((kq : Nat) : Int) := by rw [← hkq]; exact yDt _ _
    have e1 : (w.take (p.length + kq)).length = p.length + kq := by rw [List.length_take]; omega
    have e2 : (w.drop (p.length + kq)).length = w.length - (p.length + kq) := List.length_drop ..
    obtain ⟨z,p',q',c1,c2⟩ := xWi false false (w.take (p.length + kq)) (w.drop (p.length + kq)) (by omega) (by omega)
    simp only [las,xBf,e1,e2] at c2
    have hcast : ((p.length : Nat) : Int) + ((kq : Nat) : Int) = ((p.length + kq : Nat) : Int) := yB3 _ _
    generalize hnn : p.length + kq = n at *
    have hiw : (n : Int) ≤ (w.length : Nat) := by omega
    refine ⟨((G.modify b xAo).modify b xAo).set 2 (.cells false false [xBf z p',xBf false q']),z,p',q',?_,?_,c1⟩
    · have hm2 : ((G.modify b xAo).modify b xAo)[2]? = some (.cells false false [.sl true 0 [],.sl true 0 []]) := by rw [xWt (by omega),xWt (by omega),g2]
      rw [xQj]
      simp (maxSteps := 30000000) (disch := first | assumption | omega | (simp only [WL,AV.isCell] <;> omega) | rfl | decide) only [↓reduceIte,WB,xAL,xAb,xAK,xAp,xAo,AV.cells,AV.isCell,xAa,xAd,xAe,xAr,xAs,xAt,xAu,xAv,xAw,xAJ,xAx,xAy,xAj,xAz,xAk,xAl,xAA,xAm,xAn,xAi,Nat.reduceDiv,Nat.reduceMod,WP,xAG,xAC,xA2,xA0,xAZ,xAF,xAI,xAH,W2,xAf,xAg,xAh,Nat.reduceAdd,Nat.reduceSub,Nat.reduceLeDiff,Nat.reduceMul,Int.reduceAdd,Int.reduceSub,Int.reduceMul,Int.reduceLT,Int.reduceLE,Int.reduceEq,Int.reduceToNat,Int.reduceNeg,Nat.reduceEqDiff,Nat.reduceBEq,Nat.reduceLT,xBz,xB1,xB7,xCg,xCh,xCi,yA7,xBA,xB4,xWt,xAW,xAX,xCz,xCQ,List.length_map,List.set_set,xJy,xGu,hlt,ha,hb,g1,heq,hkq',hcast,hiw,c2,hm2,List.length_modify,xDI,xDJ]
      try rfl
    · rw [xB4 (by simp; omega)]
  | succ e ih =>
    intro k h
    have hlt : (k : Int) < (sl.length : Nat) := by omega
    have hlt' : k < sl.length := by omega
    obtain ⟨G',z,p',q',i1,i4,i5⟩ := ih (k + 1) (by omega)
    refine ⟨G',z,p',q',?_,i4,i5⟩
    have hne : (((sl.getD k 0 : Nat) : Int) = ((s : Nat) : Int)) = False := eq_false (fun e => xO7 (a := s) (d := 0) (ks := sl) (i := k) (by omega) (by omega))
    rw [xQj]
    simp (maxSteps := 30000000) (disch := first | assumption | omega | (simp only [WL,AV.isCell] <;> omega) | rfl | decide) only [↓reduceIte,WB,xAL,xAb,xAK,xAp,xAo,AV.cells,AV.isCell,xAa,xAd,xAe,xAr,xAs,xAt,xAu,xAv,xAw,xAJ,xAx,xAy,xAj,xAz,xAk,xAl,xAA,xAm,xAn,xAi,Nat.reduceDiv,Nat.reduceMod,WP,xAG,xAC,xA2,xA0,xAZ,xAF,xAI,xAH,W2,xAf,xAg,xAh,Nat.reduceAdd,Nat.reduceSub,Nat.reduceLeDiff,Nat.reduceMul,Int.reduceAdd,Int.reduceSub,Int.reduceMul,Int.reduceLT,Int.reduceLE,Int.reduceEq,Int.reduceToNat,Int.reduceNeg,Nat.reduceEqDiff,Nat.reduceBEq,Nat.reduceLT,xBz,xB1,xB7,xCg,xCh,xCi,yA7,xBA,xB4,xWt,xAW,xAX,xCz,xCQ,List.length_map,List.set_set,xJy,xGu,hlt,hlt',ha,hne,i1,xDI,xDJ]
end
theorem xV7 (l : List Nat) (n : Nat) : xBp l ++ [AV.int .i64 (n : Nat)] = xBp (l ++ [n]) := by simp [xBp]
theorem xV8 (l : List Nat) (n : Nat) : bs l ++ [AV.int .u8 (n : Nat)] = bs (l ++ [n]) := by simp [bs]
section
variable {M : Ma} {z1 z2 : Bool} {p q : List Nat} {G : Heap} {s i : Nat} {sl w : List Nat} {wv sv : AV}
abbrev yAW (s : Nat) (wv sv : AV) (i : Nat) : List AV := xQk (.ptr 0 0) (.ptr 1 0) (.ptr 2 0) (.int .i64 0) (.int .i64 (s : Nat)) wv sv (.int .i64 (i : Nat))
theorem seq_two' {v : Nat} {p q : List Nat} (hL : Lo v p q) (i : Nat) : xBh p q i < two v := by
  rw [← xPU hL.q0]
  exact hL.ltr (xL7 hL.q0 i)
structure Rd (M : Ma) (p q : List Nat) (s i : Nat) : Prop where
  s : s < M.next.length
  i : i < 1000000000
theorem yAX (hV : Vm M) (hL : Lo M.i p q) (h : Inv20 M z1 z2 p q G wv sv sl w) (hR : Rd M p q s i) (hk : s ∉ sl) (hP : p.length ≤ i) (hm : (i - p.length) % q.length = 0) (hsl : sl.length < 1000000) (hw : w.length < 1000000000) :
    ∃ G' wv' sv',L.loop xFh xMT ⟨yAW s wv sv i,G⟩ = L.loop xFh xMT ⟨yAW (nx M s (xBh p q i)) wv' sv' (i + 1),G'⟩ ∧ Inv20 M z1 z2 p q G' wv' sv' (sl ++ [s]) (w ++ [lt2 M.i (xBh p q i) (em M s (xBh p q i))]) := by
  have hsn := xPL (wv := wv) (i := i) h.st hk hsl _ 0 (Nat.zero_add _)
  unfold F20 at hsn
  simp only [Int.natCast_zero] at hsn
  have p4 := hL.p4
  have q4 := hL.q4
  have q0 := hL.q0
  have hi9 := hR.i
  have hs := hR.s
  have hx := seq_two' hL i
  have ho := hV.em hs hx
  have io := hV.io
  have hsh := xPT io hx ho
  have hlt := xSa io hx ho
  obtain ⟨sv',G1,a1,a2,a3,a4,a5,_⟩ := h.st.push2 (.int .i64 (s : Nat)) (bytes := 8) (by rw [xBl]; omega) (by rw [xBl]; omega) h.len
  have wr1 : Lst 3 G1 wv (bs w) := h.wr.other (fun b hb => a4 b (h.wr.inb hb).1 (fun hs => h.ne b hs hb))
  have len1 : 3 ≤ G1.length := by have := h.len; have := a3.1; omega
  obtain ⟨wv',G2,b1,b2,b3,b4,b5,_⟩ := wr1.push2 (.int .u8 ((lt2 M.i (xBh p q i) (em M s (xBh p q i)) : Nat) : Int)) (bytes := 1) (by rw [xBC]; omega) (by rw [xBC]; omega) len1
  have g0 := a3.get (by omega : 0 < 3) h.g0
  have g1 := a3.get (by omega : 1 < 3) h.g1
  have h1 := h.g1
  have k0 := b3.get (by omega : 0 < 3) g0
  have k1 := b3.get (by omega : 1 < 3) g1
  have k2 := b3.get (by omega : 2 < 3) (a3.get (by omega : 2 < 3) h.g2)
  have st2 : Lst 3 G2 sv' (xBp sl ++ [.int .i64 (s : Nat)]) := a2.other (fun b hb => b4 b (a2.inb hb).1 (fun hw => by
    have e1 := a5 b hb
    have e2 := (h.wr.inb hw).1
    omega))
  rw [xV7] at st2
  rw [xV8] at b2
  refine ⟨G2,wv',sv',?_,⟨k0,k1,k2,st2,b2,fun b hs hw => ?_,by have := b3.1; omega⟩⟩
  · have hat := xWh z1 z2 p q (i : Nat) (by omega) (by omega) (by omega) (by omega)
    rw [xLW] at hat
    have l1 := hV.nl hs
    have l2 := hV.wl' hs
    have l5 := hV.el
    have c1 : ((p.length : Nat) : Int) ≤ ((i : Nat) : Int) := by omega
    have hq0 : ¬ ((q.length : Nat) : Int) = 0 := by omega
    have hm' : (((i - p.length) % q.length : Nat) : Int) = 0 := by omega
    have g0' := g0
    have k0' := k0
    unfold Ma.cells at g0' k0'
    have hi0 : ¬ ((M.i : Nat) : Int) < 0 := by omega
    unfold nx
    unfold em at ho hsh hlt b1
    generalize xBh p q i = x at *
    generalize hOo : (M.emit.getD s []).getD x 0 = o at *
    unfold lt2 at hlt b1
    obtain ⟨t1,t2,t3⟩ := hlt
    have hcast : (x : Int) + ((o * two M.i : Nat) : Int) = ((x + o * two M.i : Nat) : Int) := yB3 _ _
    have hwr : IntKind.u8.wrap ((x + o * two M.i : Nat) : Int) = ((x + o * two M.i : Nat) : Int) := yBj (by omega)
    simp only [las] at hat
    rw [xQl]
    simp (maxSteps := 30000000) (disch := first | assumption | omega | (simp only [WL,AV.isCell] <;> omega) | rfl | decide) only [↓reduceIte,WB,xAL,xAb,xAK,xAp,xAo,AV.cells,AV.isCell,xAa,xAd,xAe,xAr,xAs,xAt,xAu,xAv,xAw,xAJ,xAx,xAy,xAj,xAz,xAk,xAl,xAA,xAm,xAn,xAi,Nat.reduceDiv,Nat.reduceMod,WP,xAG,xAC,xA2,xA0,xAZ,xAF,xAI,xAH,W2,xAf,xAg,xAh,Nat.reduceAdd,Nat.reduceSub,Nat.reduceLeDiff,Nat.reduceMul,Int.reduceAdd,Int.reduceSub,Int.reduceMul,Int.reduceLT,Int.reduceLE,Int.reduceEq,Int.reduceToNat,Int.reduceNeg,Nat.reduceEqDiff,Nat.reduceBEq,Nat.reduceLT,xAW,xAX,xCz,xCQ,List.length_map,xJA,xMU,xGu,h1,c1,hq0,hm',hsn,a1,g1,hat,g0',l1,l2,l5,hs,hx,hOo,hsh,hi0,hcast,hwr,b1,k0',xDI,xDJ]
    try rfl
  · have e1 := a5 b hs
    have e2 := b5 b hw
    have e3 := (a2.inb hs).1
    omega
theorem yAY (hV : Vm M) (hL : Lo M.i p q) (h : Inv20 M z1 z2 p q G wv sv sl w) (hR : Rd M p q s i) (hc : i < p.length ∨ (i - p.length) % q.length ≠ 0) (hw : w.length < 1000000000) :
    ∃ G' wv',L.loop xFh xMT ⟨yAW s wv sv i,G⟩ = L.loop xFh xMT ⟨yAW (nx M s (xBh p q i)) wv' sv (i + 1),G'⟩ ∧ Inv20 M z1 z2 p q G' wv' sv sl (w ++ [lt2 M.i (xBh p q i) (em M s (xBh p q i))]) := by
  have p4 := hL.p4
  have q4 := hL.q4
  have q0 := hL.q0
  have hi9 := hR.i
  have hs := hR.s
  have hx := seq_two' hL i
  have ho := hV.em hs hx
  have io := hV.io
  have hsh := xPT io hx ho
  have hlt := xSa io hx ho
  obtain ⟨wv',G2,b1,b2,b3,b4,b5,_⟩ := h.wr.push2 (.int .u8 ((lt2 M.i (xBh p q i) (em M s (xBh p q i)) : Nat) : Int)) (bytes := 1) (by rw [xBC]; omega) (by rw [xBC]; omega) h.len
  have g0 := h.g0
  have g1 := h.g1
  have k0 := b3.get (by omega : 0 < 3) g0
  have k1 := b3.get (by omega : 1 < 3) g1
  have k2 := b3.get (by omega : 2 < 3) h.g2
  have st2 : Lst 3 G2 sv (xBp sl) := h.st.other (fun b hb => b4 b (h.st.inb hb).1 (fun hw => h.ne b hb hw))
  rw [xV8] at b2
  refine ⟨G2,wv',?_,⟨k0,k1,k2,st2,b2,fun b hs hw => ?_,by have := b3.1; have := h.len; omega⟩⟩
  · have hat := xWh z1 z2 p q (i : Nat) (by omega) (by omega) (by omega) (by omega)
    rw [xLW] at hat
    have l1 := hV.nl hs
    have l2 := hV.wl' hs
    have l5 := hV.el
    have hq0 : ¬ ((q.length : Nat) : Int) = 0 := by omega
    have g0' := g0
    have k0' := k0
    unfold Ma.cells at g0' k0'
    have hi0 : ¬ ((M.i : Nat) : Int) < 0 := by omega
    unfold nx
    unfold em at ho hsh hlt b1
    generalize xBh p q i = x at *
    generalize hOo : (M.emit.getD s []).getD x 0 = o at *
    unfold lt2 at hlt b1
    obtain ⟨t1,t2,t3⟩ := hlt
    have hcast : (x : Int) + ((o * two M.i : Nat) : Int) = ((x + o * two M.i : Nat) : Int) := yB3 _ _
    have hwr : IntKind.u8.wrap ((x + o * two M.i : Nat) : Int) = ((x + o * two M.i : Nat) : Int) := yBj (by omega)
    simp only [las] at hat
    by_cases c : i < p.length
    · have c1 : ¬ ((p.length : Nat) : Int) ≤ ((i : Nat) : Int) := by omega
      rw [xQl]
      simp (maxSteps := 30000000) (disch := first | assumption | omega | (simp only [WL,AV.isCell] <;> omega) | rfl | decide) only [↓reduceIte,WB,xAL,xAb,xAK,xAp,xAo,AV.cells,AV.isCell,xAa,xAd,xAe,xAr,xAs,xAt,xAu,xAv,xAw,xAJ,xAx,xAy,xAj,xAz,xAk,xAl,xAA,xAm,xAn,xAi,Nat.reduceDiv,Nat.reduceMod,WP,xAG,xAC,xA2,xA0,xAZ,xAF,xAI,xAH,W2,xAf,xAg,xAh,Nat.reduceAdd,Nat.reduceSub,Nat.reduceLeDiff,Nat.reduceMul,Int.reduceAdd,Int.reduceSub,Int.reduceMul,Int.reduceLT,Int.reduceLE,Int.reduceEq,Int.reduceToNat,Int.reduceNeg,Nat.reduceEqDiff,Nat.reduceBEq,Nat.reduceLT,xAW,xAX,xCz,xCQ,List.length_map,xJA,xMU,xGu,c1,g1,hat,g0',l1,l2,l5,hs,hx,hOo,hsh,hi0,hcast,hwr,b1,k0',xDI,xDJ]
      try rfl
    · have c1 : ((p.length : Nat) : Int) ≤ ((i : Nat) : Int) := by omega
      have hm' : ((((i - p.length) % q.length : Nat) : Int) = 0) = False := eq_false (by omega)
      rw [xQl]
      simp (maxSteps := 30000000) (disch := first | assumption | omega | (simp only [WL,AV.isCell] <;> omega) | rfl | decide) only [↓reduceIte,WB,xAL,xAb,xAK,xAp,xAo,AV.cells,AV.isCell,xAa,xAd,xAe,xAr,xAs,xAt,xAu,xAv,xAw,xAJ,xAx,xAy,xAj,xAz,xAk,xAl,xAA,xAm,xAn,xAi,Nat.reduceDiv,Nat.reduceMod,WP,xAG,xAC,xA2,xA0,xAZ,xAF,xAI,xAH,W2,xAf,xAg,xAh,Nat.reduceAdd,Nat.reduceSub,Nat.reduceLeDiff,Nat.reduceMul,Int.reduceAdd,Int.reduceSub,Int.reduceMul,Int.reduceLT,Int.reduceLE,Int.reduceEq,Int.reduceToNat,Int.reduceNeg,Nat.reduceEqDiff,Nat.reduceBEq,Nat.reduceLT,xAW,xAX,xCz,xCQ,List.length_map,xJA,xMU,xGu,c1,hq0,hm',g1,hat,g0',l1,l2,l5,hs,hx,hOo,hsh,hi0,hcast,hwr,b1,k0',xDI,xDJ]
      try rfl
  · have e2 := b5 b hw
    have e3 := (h.st.inb hs).1
    omega
theorem xV9 (hV : Vm M) (hL : Lo M.i p q) : ∀ e i K G wv sv,i + e = p.length + M.next.length * q.length + 1 → K ≤ M.next.length → ((i ≤ p.length ∧ K = 0) ∨ (p.length + (K - 1) * q.length < i ∧ i ≤ p.length + K * q.length ∧ 0 < K)) → (xRO M p q K).Nodup → Inv20 M z1 z2 p q G wv sv (xRO M p q K) (lts (xBD M p q) (xPV M p q) (M.s,0) i) →
    ∃ F' G' z p' q',L.loop xFh xMT ⟨yAW (sL M p q i) wv sv i,G⟩ = some (.ret,⟨F',G'⟩) ∧ F'.getD 4 .any = .ptr 2 0 ∧ F'.getD 5 .any = .int .i64 0 ∧ G'[2]? = some (.cells false false [xBf z p',xBf false q']) ∧ Canon (SL M p q) p' q' := by
  have p4 := hL.p4
  have q4 := hL.q4
  have q0 := hL.q0
  have n9 := hV.n9
  have hNQ : M.next.length * q.length ≤ 4096 * 64 := Nat.mul_le_mul n9 q4
  intro e
  induction e with
  | zero =>
    intro i K G wv sv h hK hc hd hI
    exfalso
    have hb : K * q.length ≤ M.next.length * q.length := Nat.mul_le_mul_right _ hK
    rcases hc with hc | hc
    · omega
    · omega
  | succ e ih =>
    intro i K G wv sv h hK hc hd hI
    have hcl := xGe hV hL i
    have hs : sL M p q i < M.next.length := hcl.1
    have hR : Rd M p q (sL M p q i) i := ⟨hs,by omega⟩
    have hll : (lts (xBD M p q) (xPV M p q) (M.s,0) i).length = i := xDL i
    have hsl : (xRO M p q K).length = K := xRP ..
    have hx : ltr p q (it (xBD M p q) (M.s,0) i).2 = xBh p q i := by rw [hcl.2,xPU hL.q0]
    have hn1 : sL M p q (i + 1) = nx M (sL M p q i) (xBh p q i) := by
      show nx M (it (xBD M p q) (M.s,0) i).1 (ltr p q (it (xBD M p q) (M.s,0) i).2) = _
      rw [hx]; rfl
    have hn2 : xPV M p q (it (xBD M p q) (M.s,0) i) = lt2 M.i (xBh p q i) (em M (sL M p q i) (xBh p q i)) := by
      unfold xPV
      rw [hx]; rfl
    by_cases hst : i = p.length + K * q.length
    · by_cases hk : sL M p q i ∈ xRO M p q K
      · have hpl := xO6 hk
        rw [hsl] at hpl
        have hpa := xR6 (d := 0) hk
        rw [yAV M p q hpl] at hpa
        generalize hj : pos (sL M p q i) (xRO M p q K) = j at *
        have hjq : j * q.length < K * q.length := Nat.mul_lt_mul_of_pos_right hpl q0
        obtain ⟨G',z,p',q',k1,k4,k5⟩ := xOZ (i := i) hL hI hk (by omega) (by omega) (by rw [hj]; omega) _ 0 (Nat.zero_add _)
        have hrep : it (xBD M p q) (M.s,0) i = it (xBD M p q) (M.s,0) (p.length + j * q.length) := by
          rw [hst,xOY hV hL,xOY hV hL,hpa,hst]
        have hS : xBh ((lts (xBD M p q) (xPV M p q) (M.s,0) i).take (p.length + j * q.length)) ((lts (xBD M p q) (xPV M p q) (M.s,0) i).drop (p.length + j * q.length)) = SL M p q := funext fun t => yAU (by omega) hrep t
        rw [hj,hS] at k5
        rw [hj] at k1
        unfold F20 at k1
        simp only [Int.natCast_zero] at k1
        refine ⟨yAW (sL M p q i) wv sv i,G',z,p',q',?_,rfl,rfl,k4,k5⟩
        have g1 := hI.g1
        have hP : p.length ≤ i := by omega
        have c1 : ((p.length : Nat) : Int) ≤ ((i : Nat) : Int) := by omega
        have hq0 : ¬ ((q.length : Nat) : Int) = 0 := by omega
        have hm : (i - p.length) % q.length = 0 := by rw [hst,Nat.add_sub_cancel_left,Nat.mul_mod_left]
        have hm' : (((i - p.length) % q.length : Nat) : Int) = 0 := by omega
        rw [xQl]
        simp (maxSteps := 30000000) (disch := first | assumption | omega | (simp only [WL,AV.isCell] <;> omega) | rfl | decide) only [↓reduceIte,WB,xAL,xAb,xAK,xAp,xAo,AV.cells,AV.isCell,xAa,xAd,xAe,xAr,xAs,xAt,xAu,xAv,xAw,xAJ,xAx,xAy,xAj,xAz,xAk,xAl,xAA,xAm,xAn,xAi,Nat.reduceDiv,Nat.reduceMod,WP,xAG,xAC,xA2,xA0,xAZ,xAF,xAI,xAH,W2,xAf,xAg,xAh,Nat.reduceAdd,Nat.reduceSub,Nat.reduceLeDiff,Nat.reduceMul,Int.reduceAdd,Int.reduceSub,Int.reduceMul,Int.reduceLT,Int.reduceLE,Int.reduceEq,Int.reduceToNat,Int.reduceNeg,Nat.reduceEqDiff,Nat.reduceBEq,Nat.reduceLT,xAW,xAX,xCz,xCQ,List.length_map,xJA,xMU,xGu,c1,g1,hq0,hm',k1,xDI,xDJ]
        try rfl
      · obtain ⟨G',wv',sv',k1,k2⟩ := yAX hV hL hI hR hk (by omega) (by rw [hst,Nat.add_sub_cancel_left,Nat.mul_mod_left]) (by omega) (by omega)
        rw [k1,← hn1]
        have hd' : (xRO M p q (K + 1)).Nodup := by
          rw [xOX,List.nodup_append]
          refine ⟨hd,by simp,fun a ha b hb => ?_⟩
          simp only [List.mem_singleton] at hb
          subst hb
          rintro rfl
          exact hk (by rw [hst]; exact ha)
        have hK' := xL3 M.next.length _ hd' (fun x hx => by
          obtain ⟨j,_,rfl⟩ := List.mem_map.1 hx
          exact (xGe hV hL _).1)
        rw [xRP] at hK'
        have hm1 : (K + 1) * q.length = K * q.length + q.length := by rw [Nat.add_mul,Nat.one_mul]
        refine ih (i + 1) (K + 1) G' wv' sv' (by omega) hK' (.inr ⟨by rw [Nat.add_sub_cancel]; omega,by omega,by omega⟩) hd' ?_
        rw [xOX,xL6,hn2,← hst]
        exact k2
    · have hcc : i < p.length ∨ (i - p.length) % q.length ≠ 0 := by
        rcases hc with hc | hc
        · rcases hc with ⟨c1,rfl⟩
          left; omega
        · right
          obtain ⟨c1,c2,c3⟩ := hc
          intro h0
          have hdv := Nat.div_add_mod (i - p.length) q.length
          rw [h0,Nat.add_zero] at hdv
          have hmm : (K - 1) * q.length + q.length = K * q.length := by rw [← Nat.succ_mul]; congr 1; omega
          have d1 : (K - 1) * q.length < q.length * ((i - p.length) / q.length) := by rw [hdv]; omega
          have d2 : q.length * ((i - p.length) / q.length) < K * q.length := by rw [hdv]; omega
          rw [Nat.mul_comm q.length] at d1 d2
          have d3 := Nat.lt_of_mul_lt_mul_right d1
          have d4 := Nat.lt_of_mul_lt_mul_right d2
          omega
      obtain ⟨G',wv',k1,k2⟩ := yAY hV hL hI hR hcc (by omega)
      rw [k1,← hn1]
      refine ih (i + 1) K G' wv' sv (by omega) hK ?_ hd ?_
      · rcases hc with ⟨c1,rfl⟩ | ⟨c1,c2,c3⟩
        · left; exact ⟨by omega,rfl⟩
        · right; exact ⟨by omega,by omega,c3⟩
      · rw [xL6,hn2]
        exact k2
end
end Go.Abs.Mealy
