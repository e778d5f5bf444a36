/- Run: of the program. -/
import Derived.Test.YtkpbekcgigigkaaDoorAbsBun
import Derived.Test.YtkpbekcgigigkaaDoorAMB
import Derived.Test.YtkpbekcgigigkaaDoorAMA
namespace Go.Abs.Mealy
open Go Go.Abs
set_option linter.unusedSimpArgs false
set_option linter.unusedVariables false
section
variable {H : Heap} {fv : AV}
theorem yCY {z : Bool} {l : List Nat} {P : Nat → Bool} (hl : l.length < 9223372036854775807) (hb : ∀ x ∈ l,x < 256) (hf : ∀ s,s < 256 → L.icall fv [.int .u8 (s : Nat)] H = some (.bool (P s),H)) : ∀ e i,i + e = l.length →
    ∃ j : Nat,L.loop xMU xWU ⟨xJJ (.sl z l.length (bs l)) fv (.int .i64 0) (.int .i64 (l.length : Nat)) (.int .i64 (i : Nat)),H⟩ =
      some (if (l.drop i).any P = true then (.ret,⟨xJJ (.sl z l.length (bs l)) fv (.int .i64 (j : Nat)) (.int .i64 (l.length : Nat)) (.int .i64 (j : Nat)),H⟩)
        else (.exit 0,⟨xJJ (.sl z l.length (bs l)) fv (.int .i64 0) (.int .i64 (l.length : Nat)) (.int .i64 (l.length : Nat)),H⟩)) := by
  intro e
  induction e with
  | zero =>
    intro i h
    obtain rfl : i = l.length := by omega
    refine ⟨0,?_⟩
    rw [if_neg (by rw [List.drop_length]; simp),xTD]
    simp (maxSteps := 30000000) (disch := first | assumption | omega | (simp only [WL,AV.isCell] <;> omega) | rfl | decide) only [↓reduceIte,WB,xAC,xAc,xAB,xAk,xAj,AV.cells,AV.isCell,xAb,xAf,xAg,WP,xAt,xAm,xA0,xAZ,xAX,xAq,xAv,xAu,W2,xAd,xAe,xAh,Nat.reduceAdd,Nat.reduceSub,Nat.reduceLeDiff,Nat.reduceMul,Int.reduceAdd,Int.reduceSub,Int.reduceMul,Int.reduceLT,Int.reduceLE,Int.reduceEq,Int.reduceToNat,Int.reduceNeg,Nat.reduceEqDiff,Nat.reduceBEq,Nat.reduceLT,xAW,xBs,xBv,xBR,xBS,xBP,xAR,xA5,xA9,xBa,rowI,rowB,List.length_map,List.set_set,xJI,xJK]
  | succ e ih =>
    intro i h
    have hlt : (i : Int) < (l.length : Nat) := by omega
    obtain ⟨j,ih'⟩ := ih (i + 1) (by omega)
    have hp := hf (l.getD i 0) (hb _ (xAA (by omega)))
    rw [xA6 (a := (0 : Nat)) (by omega : i < l.length),List.any_cons]
    cases c : P (l.getD i 0) with
    | true =>
      rw [c] at hp
      refine ⟨i,?_⟩
      rw [Bool.true_or,if_pos rfl,xTD]
      simp (maxSteps := 30000000) (disch := first | assumption | omega | (simp only [WL,AV.isCell] <;> omega) | rfl | decide) only [↓reduceIte,WB,xAC,xAc,xAB,xAk,xAj,AV.cells,AV.isCell,xAb,xAf,xAg,WP,xAt,xAm,xA0,xAZ,xAX,xAq,xAv,xAu,W2,xAd,xAe,xAh,Nat.reduceAdd,Nat.reduceSub,Nat.reduceLeDiff,Nat.reduceMul,Int.reduceAdd,Int.reduceSub,Int.reduceMul,Int.reduceLT,Int.reduceLE,Int.reduceEq,Int.reduceToNat,Int.reduceNeg,Nat.reduceEqDiff,Nat.reduceBEq,Nat.reduceLT,xAW,xBs,xBv,xBR,xBS,xBP,xAR,xA5,xA9,xBa,rowI,rowB,List.length_map,List.set_set,xJI,xJK,hlt,hp]
    | false =>
      rw [c] at hp
      rw [Bool.false_or]
      refine ⟨j,?_⟩
      rw [xTD]
      by_cases e : (l.drop (i + 1)).any P = true
      · rw [if_pos e] at ih' ⊢
        simp (maxSteps := 30000000) (disch := first | assumption | omega | (simp only [WL,AV.isCell] <;> omega) | rfl | decide) only [↓reduceIte,WB,xAC,xAc,xAB,xAk,xAj,AV.cells,AV.isCell,xAb,xAf,xAg,WP,xAt,xAm,xA0,xAZ,xAX,xAq,xAv,xAu,W2,xAd,xAe,xAh,Nat.reduceAdd,Nat.reduceSub,Nat.reduceLeDiff,Nat.reduceMul,Int.reduceAdd,Int.reduceSub,Int.reduceMul,Int.reduceLT,Int.reduceLE,Int.reduceEq,Int.reduceToNat,Int.reduceNeg,Nat.reduceEqDiff,Nat.reduceBEq,Nat.reduceLT,xAW,xBs,xBv,xBR,xBS,xBP,xAR,xA5,xA9,xBa,rowI,rowB,List.length_map,List.set_set,xJI,xJK,hlt,hp,ih']
      · rw [if_neg e] at ih' ⊢
        simp (maxSteps := 30000000) (disch := first | assumption | omega | (simp only [WL,AV.isCell] <;> omega) | rfl | decide) only [↓reduceIte,WB,xAC,xAc,xAB,xAk,xAj,AV.cells,AV.isCell,xAb,xAf,xAg,WP,xAt,xAm,xA0,xAZ,xAX,xAq,xAv,xAu,W2,xAd,xAe,xAh,Nat.reduceAdd,Nat.reduceSub,Nat.reduceLeDiff,Nat.reduceMul,Int.reduceAdd,Int.reduceSub,Int.reduceMul,Int.reduceLT,Int.reduceLE,Int.reduceEq,Int.reduceToNat,Int.reduceNeg,Nat.reduceEqDiff,Nat.reduceBEq,Nat.reduceLT,xAW,xBs,xBv,xBR,xBS,xBP,xAR,xA5,xA9,xBa,rowI,rowB,List.length_map,List.set_set,xJI,xJK,hlt,hp,ih']
theorem yAn {z : Bool} {l : List Nat} {P : Nat → Bool} (hl : l.length < 9223372036854775807) (hb : ∀ x ∈ l,x < 256) (hf : ∀ s,s < 256 → L.icall fv [.int .u8 (s : Nat)] H = some (.bool (P s),H)) :
    ∃ j : Int,L.icall (.func 85 []) [.sl z l.length (bs l),fv] H = some (.int .i64 j,H) ∧ (if l.any P = true then 0 ≤ j else j < 0) := by
  obtain ⟨j,h⟩ := yCY (z := z) hl hb hf l.length 0 (by omega)
  simp only [Int.natCast_zero,List.drop_zero] at h
  by_cases c : l.any P = true
  · rw [if_pos c] at h
    refine ⟨j,?_,by rw [if_pos c]; omega⟩
    rw [yDh,a85]
    simp (maxSteps := 30000000) (disch := first | assumption | omega | (simp only [WL,AV.isCell] <;> omega) | rfl | decide) only [↓reduceIte,WB,xAC,xAc,xAB,xAk,xAj,AV.cells,AV.isCell,xAb,xAf,xAg,WP,xAt,xAm,xA0,xAZ,xAX,xAq,xAv,xAu,W2,xAd,xAe,xAh,Nat.reduceAdd,Nat.reduceSub,Nat.reduceLeDiff,Nat.reduceMul,Int.reduceAdd,Int.reduceSub,Int.reduceMul,Int.reduceLT,Int.reduceLE,Int.reduceEq,Int.reduceToNat,Int.reduceNeg,Nat.reduceEqDiff,Nat.reduceBEq,Nat.reduceLT,xAW,xBs,xBv,xBR,xBS,xBP,xAR,xA5,xA9,xBa,rowI,rowB,List.length_map,List.set_set,xJK,h]
  · rw [if_neg c] at h
    refine ⟨-1,?_,by rw [if_neg c]; omega⟩
    rw [yDh,a85]
    simp (maxSteps := 30000000) (disch := first | assumption | omega | (simp only [WL,AV.isCell] <;> omega) | rfl | decide) only [↓reduceIte,WB,xAC,xAc,xAB,xAk,xAj,AV.cells,AV.isCell,xAb,xAf,xAg,WP,xAt,xAm,xA0,xAZ,xAX,xAq,xAv,xAu,W2,xAd,xAe,xAh,Nat.reduceAdd,Nat.reduceSub,Nat.reduceLeDiff,Nat.reduceMul,Int.reduceAdd,Int.reduceSub,Int.reduceMul,Int.reduceLT,Int.reduceLE,Int.reduceEq,Int.reduceToNat,Int.reduceNeg,Nat.reduceEqDiff,Nat.reduceBEq,Nat.reduceLT,xAW,xBs,xBv,xBR,xBS,xBP,xAR,xA5,xA9,xBa,rowI,rowB,List.length_map,List.set_set,xJK,h]
theorem yCZ {z : Bool} {l : List Nat} {P : Nat → Bool} (hl : l.length < 9223372036854775807) (hb : ∀ x ∈ l,x < 256) (hf : ∀ s,s < 256 → L.icall fv [.int .u8 (s : Nat)] H = some (.bool (P s),H)) :
    L.icall (.func 52 []) [.sl z l.length (bs l),fv] H = some (.bool (l.any P),H) := by
  obtain ⟨j,h,hj⟩ := yAn (z := z) hl hb hf
  rw [yDy,a52]
  cases c : l.any P with
  | true =>
    rw [if_pos c] at hj
    simp (maxSteps := 30000000) (disch := first | assumption | omega | (simp only [WL,AV.isCell] <;> omega) | rfl | decide) only [↓reduceIte,WB,xAC,xAc,xAB,xAk,xAj,AV.cells,AV.isCell,xAb,xAf,xAg,WP,xAt,xAm,xA0,xAZ,xAX,xAq,xAv,xAu,W2,xAd,xAe,xAh,Nat.reduceAdd,Nat.reduceSub,Nat.reduceLeDiff,Nat.reduceMul,Int.reduceAdd,Int.reduceSub,Int.reduceMul,Int.reduceLT,Int.reduceLE,Int.reduceEq,Int.reduceToNat,Int.reduceNeg,Nat.reduceEqDiff,Nat.reduceBEq,Nat.reduceLT,xAW,xBs,xBv,xBR,xBS,xBP,xAR,xA5,xA9,xBa,rowI,rowB,List.length_map,List.set_set,h,hj]
  | false =>
    rw [if_neg (by simp [c])] at hj
    have hj' : ¬ 0 ≤ j := by omega
    simp (maxSteps := 30000000) (disch := first | assumption | omega | (simp only [WL,AV.isCell] <;> omega) | rfl | decide) only [↓reduceIte,WB,xAC,xAc,xAB,xAk,xAj,AV.cells,AV.isCell,xAb,xAf,xAg,WP,xAt,xAm,xA0,xAZ,xAX,xAq,xAv,xAu,W2,xAd,xAe,xAh,Nat.reduceAdd,Nat.reduceSub,Nat.reduceLeDiff,Nat.reduceMul,Int.reduceAdd,Int.reduceSub,Int.reduceMul,Int.reduceLT,Int.reduceLE,Int.reduceEq,Int.reduceToNat,Int.reduceNeg,Nat.reduceEqDiff,Nat.reduceBEq,Nat.reduceLT,xAW,xBs,xBv,xBR,xBS,xBP,xAR,xA5,xA9,xBa,rowI,rowB,List.length_map,List.set_set,h,hj']
end
theorem yC0 {M : Ma} (hV : Vm M) {b x : Nat} {H : Heap} (hx : x < 256) (h : H[b]? = some (.cells false false M.cells)) : L.icall (.func 53 [.ptr b 0]) [.int .u8 (x : Nat)] H = some (.bool (decide (two M.i ≤ x)),H) := by
  have io := hV.io
  have hsi := xLM (v := M.i) (by omega)
  have hi0 : ¬ ((M.i : Nat) : Int) < 0 := by omega
  unfold Ma.cells at h
  rw [yDz,a53]
  by_cases c : two M.i ≤ x
  · have c' : ((two M.i : Nat) : Int) ≤ (x : Nat) := by omega
    rw [decide_eq_true c]
    simp (maxSteps := 30000000) (disch := first | assumption | omega | (simp only [WL,AV.isCell] <;> omega) | rfl | decide) only [↓reduceIte,WB,xAC,xAc,xAB,xAk,xAj,AV.cells,AV.isCell,xAb,xAf,xAg,WP,xAt,xAm,xA0,xAZ,xAX,xAq,xAv,xAu,W2,xAd,xAe,xAh,Nat.reduceAdd,Nat.reduceSub,Nat.reduceLeDiff,Nat.reduceMul,Int.reduceAdd,Int.reduceSub,Int.reduceMul,Int.reduceLT,Int.reduceLE,Int.reduceEq,Int.reduceToNat,Int.reduceNeg,Nat.reduceEqDiff,Nat.reduceBEq,Nat.reduceLT,xAW,xBs,xBv,xBR,xBS,xBP,xAR,xA5,xA9,xBa,rowI,rowB,List.length_map,List.set_set,h,hsi,hi0,c']
  · have c' : ¬ ((two M.i : Nat) : Int) ≤ (x : Nat) := by omega
    rw [decide_eq_false c]
    simp (maxSteps := 30000000) (disch := first | assumption | omega | (simp only [WL,AV.isCell] <;> omega) | rfl | decide) only [↓reduceIte,WB,xAC,xAc,xAB,xAk,xAj,AV.cells,AV.isCell,xAb,xAf,xAg,WP,xAt,xAm,xA0,xAZ,xAX,xAq,xAv,xAu,W2,xAd,xAe,xAh,Nat.reduceAdd,Nat.reduceSub,Nat.reduceLeDiff,Nat.reduceMul,Int.reduceAdd,Int.reduceSub,Int.reduceMul,Int.reduceLT,Int.reduceLE,Int.reduceEq,Int.reduceToNat,Int.reduceNeg,Nat.reduceEqDiff,Nat.reduceBEq,Nat.reduceLT,xAW,xBs,xBv,xBR,xBS,xBP,xAR,xA5,xA9,xBa,rowI,rowB,List.length_map,List.set_set,h,hsi,hi0,c']
def xCM (M : Ma) : Nat → List Nat → List Nat
  | _,[] => []
  | s,x :: t => em M s x :: xCM M (nx M s x) t
def xSA (M : Ma) : Nat → List Nat → List Nat
  | _,[] => []
  | s,x :: t => nx M s x :: xSA M (nx M s x) t
theorem xGL (M : Ma) : ∀ (w : List Nat) (s : Nat),(xCM M s w).length = w.length
  | [],_ => rfl
  | x :: t,s => by rw [xCM,List.length_cons,xGL M t,List.length_cons]
theorem xRw (M : Ma) : ∀ (w : List Nat) (s : Nat),(xSA M s w).length = w.length
  | [],_ => rfl
  | x :: t,s => by rw [xSA,List.length_cons,xRw M t,List.length_cons]
def Ow (G : Heap) (B : Nat) (ov sv : AV) (o st : List Nat) : Prop := ∃ q,sv = .own false q 0 st.length 1 ∧ B ≤ q ∧ G[q]? = some (.cells false false (xAQ st)) ∧
  ((ov = .sl true 0 [] ∧ o = []) ∨ ∃ p,ov = .own false p 0 o.length 1 ∧ B ≤ p ∧ p ≠ q ∧ G[p]? = some (.cells false false (bs o)))
section
variable {M : Ma} {G : Heap} {ov sv : AV} {o st w : List Nat} {zw : Bool}
abbrev F16 (ov sv : AV) (s : Nat) (zw : Bool) (w : List Nat) (i : Nat) : List AV := xPE (.ptr 0 0) ov sv (.int .i64 (s : Nat)) (.sl zw w.length (bs w)) (.int .i64 (w.length : Nat)) (.int .i64 (i : Nat))
set_option maxHeartbeats 1000000 in
theorem xVK (hV : Vm M) (h0 : G[0]? = some (.cells false false M.cells)) (hO : Ow G 1 ov sv o st) {s i : Nat} (hs : s < M.next.length) (hi : i < w.length) (hx : w.getD i 0 < two M.i) (hw : w.length < 1000000) (ho : o.length < 1000000) (hst : st.length < 1000000) :
    ∃ G' ov' sv',L.loop xHq xSj ⟨F16 ov sv s zw w i,G⟩ = L.loop xHq xSj ⟨F16 ov' sv' (nx M s (w.getD i 0)) zw w (i + 1),G'⟩ ∧ G'[0]? = some (.cells false false M.cells) ∧ Ow G' 1 ov' sv' (o ++ [em M s (w.getD i 0)]) (st ++ [nx M s (w.getD i 0)]) := by
  obtain ⟨q,rfl,hq,hqs,h3⟩ := hO
  have hGq := xBI hqs
  have hlt : (i : Int) < (w.length : Nat) := by omega
  have l1 := hV.nl hs
  have l2 := hV.wl' hs
  have l5 := hV.el
  have g0 := h0
  unfold Ma.cells at g0
  unfold em nx
  generalize hX : w.getD i 0 = x at *
  rcases h3 with ⟨rfl,rfl⟩ | ⟨p,rfl,hp,hpq,hpo⟩
  · refine ⟨G.set q .dead ++ [.cells false false (bs [(M.emit.getD s []).getD x 0]),.cells false false (xAQ (st ++ [(M.next.getD s []).getD x 0]))],.own false G.length 0 1 1,.own false (G.length + 1) 0 (st.length + 1) 1,?_,?_,?_⟩
    · rw [xMD]
      simp (maxSteps := 30000000) (disch := first | assumption | omega | (simp only [WL,AV.isCell] <;> omega) | rfl | decide) only [↓reduceIte,WB,xAC,xAc,xAB,xAk,xAj,AV.cells,AV.isCell,xAb,xAf,xAg,WP,xAt,xAm,xA0,xAZ,xAX,xAq,xAv,xAu,W2,xAd,xAe,xAh,Nat.reduceAdd,Nat.reduceSub,Nat.reduceLeDiff,Nat.reduceMul,Int.reduceAdd,Int.reduceSub,Int.reduceMul,Int.reduceLT,Int.reduceLE,Int.reduceEq,Int.reduceToNat,Int.reduceNeg,Nat.reduceEqDiff,Nat.reduceBEq,Nat.reduceLT,xAW,xBs,xBv,xBR,xBS,xBP,xAR,xA5,xA9,xBa,rowI,rowB,List.length_map,List.set_set,xHp,xHr,hlt,g0,hqs,l1,l2,l5,hX,hs,hx]
      have e : xAQ st ++ [AV.int .i64 (((M.next.getD s []).getD x 0 : Nat) : Int)] = xAQ (st ++ [(M.next.getD s []).getD x 0]) := by simp [xAQ]
      first | rfl | (rw [e]; rfl) | rw [e]
    · rw [xAW (by simp; omega),xAR (by omega),h0]
    · exact ⟨G.length + 1,by simp,by omega,by rw [xBs (by simp)]; rfl,.inr ⟨G.length,rfl,by omega,by omega,by rw [xBv (by simp)]; rfl⟩⟩
  · have hGp := xBI hpo
    refine ⟨(G.set p .dead).set q .dead ++ [.cells false false (bs (o ++ [(M.emit.getD s []).getD x 0])),.cells false false (xAQ (st ++ [(M.next.getD s []).getD x 0]))],.own false G.length 0 (o.length + 1) 1,.own false (G.length + 1) 0 (st.length + 1) 1,?_,?_,?_⟩
    · rw [xMD]
      simp (maxSteps := 30000000) (disch := first | assumption | omega | (simp only [WL,AV.isCell] <;> omega) | rfl | decide) only [↓reduceIte,WB,xAC,xAc,xAB,xAk,xAj,AV.cells,AV.isCell,xAb,xAf,xAg,WP,xAt,xAm,xA0,xAZ,xAX,xAq,xAv,xAu,W2,xAd,xAe,xAh,Nat.reduceAdd,Nat.reduceSub,Nat.reduceLeDiff,Nat.reduceMul,Int.reduceAdd,Int.reduceSub,Int.reduceMul,Int.reduceLT,Int.reduceLE,Int.reduceEq,Int.reduceToNat,Int.reduceNeg,Nat.reduceEqDiff,Nat.reduceBEq,Nat.reduceLT,xAW,xBs,xBv,xBR,xBS,xBP,xAR,xA5,xA9,xBa,rowI,rowB,List.length_map,List.set_set,xHp,xHr,hlt,g0,hqs,hpo,l1,l2,l5,hX,hs,hx]
      have e : xAQ st ++ [AV.int .i64 (((M.next.getD s []).getD x 0 : Nat) : Int)] = xAQ (st ++ [(M.next.getD s []).getD x 0]) := by simp [xAQ]
      have e2 : bs o ++ [AV.int .u8 (((M.emit.getD s []).getD x 0 : Nat) : Int)] = bs (o ++ [(M.emit.getD s []).getD x 0]) := by simp [bs]
      first | rfl | rw [e,e2] | rw [e] | rw [e2]
    · rw [xAW (by simp; omega),xAR (by omega),xAR (by omega),h0]
    · exact ⟨G.length + 1,by simp,by omega,by rw [xBs (by simp)]; rfl,.inr ⟨G.length,by simp,by omega,by omega,by rw [xBv (by simp)]; rfl⟩⟩
theorem yAo (hV : Vm M) (hb : ∀ x ∈ w,x < two M.i) (hw : w.length < 1000) : ∀ e i s o st ov sv G,i + e = w.length → s < M.next.length → G[0]? = some (.cells false false M.cells) → Ow G 1 ov sv o st → o.length = i → st.length = i + 1 →
    ∃ G' ov' sv' s',L.loop xHq xSj ⟨F16 ov sv s zw w i,G⟩ = some (.exit 1,⟨F16 ov' sv' s' zw w w.length,G'⟩) ∧ Ow G' 1 ov' sv' (o ++ xCM M s (w.drop i)) (st ++ xSA M s (w.drop i)) := by
  intro e
  induction e with
  | zero =>
    intro i s o st ov sv G h hs h0 hO ho hst
    obtain rfl : i = w.length := by omega
    refine ⟨G,ov,sv,s,?_,by rw [List.drop_length]; simpa [xCM,xSA] using hO⟩
    rw [xMD]
    simp (maxSteps := 30000000) (disch := first | assumption | omega | (simp only [WL,AV.isCell] <;> omega) | rfl | decide) only [↓reduceIte,WB,xAC,xAc,xAB,xAk,xAj,AV.cells,AV.isCell,xAb,xAf,xAg,WP,xAt,xAm,xA0,xAZ,xAX,xAq,xAv,xAu,W2,xAd,xAe,xAh,Nat.reduceAdd,Nat.reduceSub,Nat.reduceLeDiff,Nat.reduceMul,Int.reduceAdd,Int.reduceSub,Int.reduceMul,Int.reduceLT,Int.reduceLE,Int.reduceEq,Int.reduceToNat,Int.reduceNeg,Nat.reduceEqDiff,Nat.reduceBEq,Nat.reduceLT,xAW,xBs,xBv,xBR,xBS,xBP,xAR,xA5,xA9,xBa,rowI,rowB,List.length_map,List.set_set,xHp,xHr]
    try rfl
  | succ e ih =>
    intro i s o st ov sv G h hs h0 hO ho hst
    have hx := hb _ (xAA (a := (0 : Nat)) (show i < w.length by omega))
    obtain ⟨G1,ov1,sv1,k1,k2,k3⟩ := xVK (zw := zw) hV h0 hO hs (show i < w.length by omega) hx (by omega) (by omega) (by omega)
    rw [k1]
    obtain ⟨G',ov',sv',s',j1,j2⟩ := ih (i + 1) _ _ _ ov1 sv1 G1 (by omega) (hV.nx hs hx) k2 k3 (by simp; omega) (by simp; omega)
    refine ⟨G',ov',sv',s',j1,?_⟩
    rw [xA6 (a := (0 : Nat)) (show i < w.length by omega),xCM,xSA]
    simpa using j2
end
def it {σ : Type} (f : σ → σ) (c : σ) : Nat → σ
  | 0 => c
  | n + 1 => f (it f c n)
def its {σ : Type} (f : σ → σ) (c : σ) (n : Nat) : List σ := (List.range n).map (it f c)
section
variable {σ : Type} {f : σ → σ} {g : σ → Nat} {c : σ}
variable [DecidableEq σ]
end
section
variable {M : Ma} {z1 z2 : Bool} {p q : List Nat} {G : Heap} {s n : Nat} {ks : List (Nat × Nat)} {w : List Nat}
end
section
variable {M : Ma} {z1 z2 : Bool} {p q : List Nat}
def xWg (v : Nat) (w : List Nat) : Int := if 64 < w.length then 4 else if xSB (two v) w = true then 1 else 0
theorem runE_zero {v : Nat} {w : List Nat} : xWg v w = 0 ↔ w.length ≤ 64 ∧ ∀ x ∈ w,x < two v := by
  unfold xWg
  by_cases c : 64 < w.length
  · rw [if_pos c]; exact ⟨fun h => by omega,fun h => by omega⟩
  · rw [if_neg c]
    by_cases c2 : xSB (two v) w = true
    · rw [if_pos c2]
      exact ⟨fun h => by omega,fun h => by rw [bigW_iff.2 h.2] at c2; cases c2⟩
    · rw [if_neg c2]
      exact ⟨fun _ => ⟨by omega,bigW_iff.1 (by simpa using c2)⟩,fun _ => rfl⟩
variable {w : List Nat} {zw : Bool}
theorem yBR (hV : Vm M) (hb : ∀ x ∈ w,x < 256) (hw : w.length < 1099511627776) : L.icall (.func 52 []) [.sl zw w.length (bs w),.func 53 [.ptr 0 0]] [.cells false false M.cells] = some (.bool (xSB (two M.i) w),[.cells false false M.cells]) :=
  yCZ (P := fun x => decide (two M.i ≤ x)) (by omega) hb (fun s hs => yC0 hV hs rfl)
theorem xRx (hV : Vm M) (hb : ∀ x ∈ w,x < 256) (hw : w.length < 1099511627776) (h : xWg M.i w ≠ 0) : L.pcall 16 [M.av,xEk zw w] = some (.tup [.sl true 0 [],.sl true 0 [],.int .i64 (xWg M.i w)]) ∧ xCz L 16 [M.av,xEk zw w] = some (.tup [.sl true 0 [],.sl true 0 [],.int .i64 (xWg M.i w)],[]) := by
  have hc := xCd hV
  have ha := yBR (zw := zw) hV hb hw
  unfold xWg at h ⊢
  unfold Ma.av at hc ⊢
  unfold Ma.cells at hc ha ⊢
  by_cases c : 64 < w.length
  · rw [if_pos c]
    have c' : (64 : Int) < (w.length : Nat) := by omega
    constructor
    · rw [yB2,a16,xAr]
      simp (maxSteps := 30000000) (disch := first | assumption | omega | (simp only [WL,AV.isCell] <;> omega) | rfl | decide) only [↓reduceIte,WB,xAC,xAc,xAB,xAk,xAj,AV.cells,AV.isCell,xAb,xAf,xAg,WP,xAt,xAm,xA0,xAZ,xAX,xAq,xAv,xAu,W2,xAd,xAe,xAh,Nat.reduceAdd,Nat.reduceSub,Nat.reduceLeDiff,Nat.reduceMul,Int.reduceAdd,Int.reduceSub,Int.reduceMul,Int.reduceLT,Int.reduceLE,Int.reduceEq,Int.reduceToNat,Int.reduceNeg,Nat.reduceEqDiff,Nat.reduceBEq,Nat.reduceLT,xAW,xBs,xBv,xBR,xBS,xBP,xAR,xA5,List.length_map,hc,c']
    · rw [xFh,yB3,a16,xEb]
      simp (maxSteps := 30000000) (disch := first | assumption | omega | (simp only [WL,AV.isCell] <;> omega) | rfl | decide) only [↓reduceIte,WB,xAC,xAc,xAB,xAk,xAj,AV.cells,AV.isCell,xAb,xAf,xAg,WP,xAt,xAm,xA0,xAZ,xAX,xAq,xAv,xAu,W2,xAd,xAe,xAh,Nat.reduceAdd,Nat.reduceSub,Nat.reduceLeDiff,Nat.reduceMul,Int.reduceAdd,Int.reduceSub,Int.reduceMul,Int.reduceLT,Int.reduceLE,Int.reduceEq,Int.reduceToNat,Int.reduceNeg,Nat.reduceEqDiff,Nat.reduceBEq,Nat.reduceLT,xAW,xBs,xBv,xBR,xBS,xBP,xAR,xA5,List.length_map,hc,c']
  · rw [if_neg c] at h ⊢
    have c' : ¬ (64 : Int) < (w.length : Nat) := by omega
    by_cases c2 : xSB (two M.i) w = true
    · rw [if_pos c2]
      rw [c2] at ha
      constructor
      · rw [yB2,a16,xAr]
        simp (maxSteps := 30000000) (disch := first | assumption | omega | (simp only [WL,AV.isCell] <;> omega) | rfl | decide) only [↓reduceIte,WB,xAC,xAc,xAB,xAk,xAj,AV.cells,AV.isCell,xAb,xAf,xAg,WP,xAt,xAm,xA0,xAZ,xAX,xAq,xAv,xAu,W2,xAd,xAe,xAh,Nat.reduceAdd,Nat.reduceSub,Nat.reduceLeDiff,Nat.reduceMul,Int.reduceAdd,Int.reduceSub,Int.reduceMul,Int.reduceLT,Int.reduceLE,Int.reduceEq,Int.reduceToNat,Int.reduceNeg,Nat.reduceEqDiff,Nat.reduceBEq,Nat.reduceLT,xAW,xBs,xBv,xBR,xBS,xBP,xAR,xA5,List.length_map,hc,c',ha]
      · rw [xFh,yB3,a16,xEb]
        simp (maxSteps := 30000000) (disch := first | assumption | omega | (simp only [WL,AV.isCell] <;> omega) | rfl | decide) only [↓reduceIte,WB,xAC,xAc,xAB,xAk,xAj,AV.cells,AV.isCell,xAb,xAf,xAg,WP,xAt,xAm,xA0,xAZ,xAX,xAq,xAv,xAu,W2,xAd,xAe,xAh,Nat.reduceAdd,Nat.reduceSub,Nat.reduceLeDiff,Nat.reduceMul,Int.reduceAdd,Int.reduceSub,Int.reduceMul,Int.reduceLT,Int.reduceLE,Int.reduceEq,Int.reduceToNat,Int.reduceNeg,Nat.reduceEqDiff,Nat.reduceBEq,Nat.reduceLT,xAW,xBs,xBv,xBR,xBS,xBP,xAR,xA5,List.length_map,hc,c',ha]
    · rw [if_neg c2] at h; exact absurd rfl h
theorem xRy (hV : Vm M) (h : xWg M.i w = 0) : (∃ z,L.pcall 16 [M.av,xEk zw w] = some (.tup [.sl z w.length (bs (xCM M M.s w)),.sl false (w.length + 1) (xAQ (M.s :: xSA M M.s w)),.int .i64 0])) ∧
    ((w = [] ∧ xCz L 16 [M.av,xEk zw w] = some (.tup [.sl true 0 [],.own false 0 0 1 1,.int .i64 0],[.cells false false (xAQ [M.s])])) ∨
      xCz L 16 [M.av,xEk zw w] = some (.tup [.own false 0 0 w.length 1,.own false 1 0 (w.length + 1) 1,.int .i64 0],[.cells false false (bs (xCM M M.s w)),.cells false false (xAQ (M.s :: xSA M M.s w))])) := by
  have hz := runE_zero.1 h
  have io := hV.io
  have hb6 := (xOq (show M.i ≤ 6 by omega)).1
  have hb : ∀ x ∈ w,x < 256 := fun x hx => by have := hz.2 x hx; omega
  have hc := xCd hV
  have ha := yBR (zw := zw) hV hb (by omega)
  rw [bigW_iff.2 hz.2] at ha
  have c' : ¬ (64 : Int) < (w.length : Nat) := by omega
  by_cases hw0 : w = []
  · subst hw0
    unfold Ma.av at hc ⊢
    unfold Ma.cells at hc ha ⊢
    have e1 : M.s :: xSA M M.s [] = [M.s] := rfl
    have e2 : xCM M M.s [] = [] := rfl
    rw [e1,e2]
    simp only [xEk,List.length_nil,bs,List.map_nil] at ha ⊢
    refine ⟨⟨true,?_⟩,.inl ⟨trivial,?_⟩⟩
    · rw [yB2,a16,xAr]
      simp (maxSteps := 30000000) (disch := first | assumption | omega | (simp only [WL,AV.isCell] <;> omega) | rfl | decide) only [↓reduceIte,WB,xAC,xAc,xAB,xAk,xAj,AV.cells,AV.isCell,xAb,xAf,xAg,WP,xAt,xAm,xA0,xAZ,xAX,xAq,xAv,xAu,W2,xAd,xAe,xAh,Nat.reduceAdd,Nat.reduceSub,Nat.reduceLeDiff,Nat.reduceMul,Int.reduceAdd,Int.reduceSub,Int.reduceMul,Int.reduceLT,Int.reduceLE,Int.reduceEq,Int.reduceToNat,Int.reduceNeg,Nat.reduceEqDiff,Nat.reduceBEq,Nat.reduceLT,xAW,xBs,xBv,xBR,xBS,xBP,xAR,xA5,List.length_map,xHr,xMD,xHp,hc,ha]
      try rfl
    · rw [xFh,yB3,a16,xEb]
      simp (maxSteps := 30000000) (disch := first | assumption | omega | (simp only [WL,AV.isCell] <;> omega) | rfl | decide) only [↓reduceIte,WB,xAC,xAc,xAB,xAk,xAj,AV.cells,AV.isCell,xAb,xAf,xAg,WP,xAt,xAm,xA0,xAZ,xAX,xAq,xAv,xAu,W2,xAd,xAe,xAh,Nat.reduceAdd,Nat.reduceSub,Nat.reduceLeDiff,Nat.reduceMul,Int.reduceAdd,Int.reduceSub,Int.reduceMul,Int.reduceLT,Int.reduceLE,Int.reduceEq,Int.reduceToNat,Int.reduceNeg,Nat.reduceEqDiff,Nat.reduceBEq,Nat.reduceLT,xAW,xBs,xBv,xBR,xBS,xBP,xAR,xA5,List.length_map,xHr,xMD,xHp,hc,ha]
      try rfl
  obtain ⟨G',ov',sv',s',j1,j2⟩ := yAo (zw := zw) hV hz.2 (by omega) w.length 0 M.s [] [M.s] (.sl true 0 []) (.own false 1 0 1 1) [.cells false false M.cells,.cells false false (xAQ [M.s])] (by omega) hV.s rfl ⟨1,rfl,by omega,rfl,.inl ⟨rfl,rfl⟩⟩ rfl rfl
  rw [List.drop_zero,List.nil_append] at j2
  obtain ⟨b,rfl,hb1,hbs,h3⟩ := j2
  have lo := xGL M w M.s
  have lt := xRw M w M.s
  have ls : ([M.s] ++ xSA M M.s w).length = w.length + 1 := by simp [lt]
  unfold F16 at j1
  simp only [Int.natCast_zero] at j1
  unfold Ma.av at hc ⊢
  unfold Ma.cells at hc ha j1 ⊢
  rw [ls] at j1
  have his : xAQ [M.s] = [.int .i64 (M.s : Nat)] := rfl
  rw [his] at j1
  rw [List.singleton_append] at hbs
  have lss : (M.s :: xSA M M.s w).length = w.length + 1 := by rw [List.length_cons,lt]
  generalize M.s :: xSA M M.s w = st at *
  rcases h3 with ⟨rfl,h4⟩ | ⟨a,rfl,ha1,hab,has⟩
  · rw [h4] at lo; exact absurd (List.length_eq_zero_iff.1 lo.symm) hw0
  · have hab' : (a == b) = false := by simpa using hab
    rw [lo] at j1
    refine ⟨⟨false,?_⟩,.inr ?_⟩
    · rw [yB2,a16,xAr]
      simp (maxSteps := 30000000) (disch := first | assumption | omega | (simp only [WL,AV.isCell] <;> omega) | rfl | decide) only [↓reduceIte,WB,xAC,xAc,xAB,xAk,xAj,AV.cells,AV.isCell,xAb,xAf,xAg,WP,xAt,xAm,xA0,xAZ,xAX,xAq,xAv,xAu,W2,xAd,xAe,xAh,Nat.reduceAdd,Nat.reduceSub,Nat.reduceLeDiff,Nat.reduceMul,Int.reduceAdd,Int.reduceSub,Int.reduceMul,Int.reduceLT,Int.reduceLE,Int.reduceEq,Int.reduceToNat,Int.reduceNeg,Nat.reduceEqDiff,Nat.reduceBEq,Nat.reduceLT,xAW,xBs,xBv,xBR,xBS,xBP,xAR,xA5,List.length_map,xHr,hc,c',ha,j1,hbs,has,lo,lss]
      rw [List.take_of_length_le (by omega),List.take_of_length_le (by omega)]
    · rw [xFh,yB3,a16,xEb]
      simp (maxSteps := 30000000) (disch := first | assumption | omega | (simp only [WL,AV.isCell] <;> omega) | rfl | decide) only [↓reduceIte,WB,xAC,xAc,xAB,xAk,xAj,AV.cells,AV.isCell,xAb,xAf,xAg,WP,xAt,xAm,xA0,xAZ,xAX,xAq,xAv,xAu,W2,xAd,xAe,xAh,Nat.reduceAdd,Nat.reduceSub,Nat.reduceLeDiff,Nat.reduceMul,Int.reduceAdd,Int.reduceSub,Int.reduceMul,Int.reduceLT,Int.reduceLE,Int.reduceEq,Int.reduceToNat,Int.reduceNeg,Nat.reduceEqDiff,Nat.reduceBEq,Nat.reduceLT,xAW,xBs,xBv,xBR,xBS,xBP,xAR,xA5,List.length_map,xHr,hc,c',ha,j1,hbs,has,hab',lo,lss]
end
end Go.Abs.Mealy
