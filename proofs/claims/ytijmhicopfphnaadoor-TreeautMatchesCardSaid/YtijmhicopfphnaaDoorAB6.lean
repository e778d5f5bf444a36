/- The loops of the reference's Trim. -/
import Derived.Test.YtijmhicopfphnaaDoorAbsBun
import Derived.Test.YtijmhicopfphnaaDoorAMB
namespace Go.Abs.Tree
open Go Go.Abs
set_option linter.unusedSimpArgs false
set_option linter.unusedVariables false
abbrev yED : AV := .agg [.int .i64 0,.int .i64 0,.sl true 0 [],.sl true 0 [],.sl true 0 []]
abbrev yEE : Blk := .cells false false [.int .i64 0,.int .i64 0,.sl true 0 [],.sl true 0 [],.sl true 0 []]
def BlT (T : Heap) (v : AV) (w n : Nat) (cs : List AV) : Prop :=
 (v = .sl true 0 [] ∧ n = 0 ∧ cs = []) ∨ ∃ k,v = .own false (k + 1 + 1 + 1 + 1) 0 n w ∧ T[k]? = some (.cells false false cs) ∧ cs.length = n * w
def yC1 (v : AV) (j : Nat) : Prop := ∀ n w,v ≠ .own false (j + 1 + 1 + 1 + 1) 0 n w
theorem BlT.cell {T : Heap} {v : AV} {w n : Nat} {cs : List AV} (h : BlT T v w n cs) : v.isCell = true := by
 rcases h with ⟨rfl,_⟩ | ⟨k,rfl,_⟩ <;> rfl
abbrev HT (n : Aut) (R : List Int) (N : Int) (v2 v3 v4 : AV) (T : Heap) : Heap := .cells false false n.cells :: yEE :: .cells false false [.int .i64 n.vars,.int .i64 N,v2,v3,v4] :: .cells false false (xBW R) :: T
def fl (K : List Bool) (R : List Int) (l : List Int) : List Int := l.filterMap fun q => if K.getD q.toNat false = true then some (R.getD q.toNat 0) else none
def flR (K : List Bool) (R : List Int) (l : List Rl) : List Rl := l.filterMap fun u => if K.getD u.l.toNat false = true ∧ K.getD u.r.toNat false = true ∧ K.getD u.t.toNat false = true then some ⟨R.getD u.l.toNat 0,R.getD u.r.toNat 0,R.getD u.t.toNat 0,u.p,u.n⟩ else none
theorem yBm (K : List Bool) (R : List Int) (l : List Int) : (fl K R l).length ≤ l.length := List.length_filterMap_le _ l
theorem yC2 (K : List Bool) (R : List Int) (l : List Rl) : (flR K R l).length ≤ l.length := List.length_filterMap_le _ l
theorem xXH {K : List Bool} {R : List Int} {q : Nat} {l : List Int} (h : K.getD q false = true) : fl K R ((q : Int) :: l) = R.getD q 0 :: fl K R l := by
 unfold fl; rw [List.filterMap_cons]; simp only [Int.toNat_natCast,h,if_true]
theorem yC3 {K : List Bool} {R : List Int} {q : Nat} {l : List Int} (h : K.getD q false = false) : fl K R ((q : Int) :: l) = fl K R l := by
 unfold fl; rw [List.filterMap_cons]; simp only [Int.toNat_natCast,h,Bool.false_eq_true,if_false]
theorem xXI (l : List Rl) (e : Rl) : rls l ++ xCe e = rls (l ++ [e]) := xS4 xCe l [e]
def rks (K : Nat → Bool) (i : Nat) : List Int := (List.range i).map fun j => ((rnk K j : Nat) : Int)
theorem xXJ (K : Nat → Bool) (i : Nat) : (rks K i).length = i := by simp [rks]
theorem xXK (K : Nat → Bool) {i j : Nat} (h : j < i) : (rks K i).getD j 0 = ((rnk K j : Nat) : Int) := by
 unfold rks
 rw [List.getD_eq_getElem?_getD,List.getElem?_map,List.getElem?_range h]; rfl
set_option maxHeartbeats 2000000 in
theorem yGx {n : Aut} {s : Nat} {K : List Bool} (hn : n.states = (s : Nat)) (hs : s ≤ 64) (hK : K.length = s) : ∀ d i,i + d = s →
  L.loop xNh xYH ⟨xNi (.ptr 0 0) (.ptr 1 0) (.sl false s (blz K)) (.ptr 2 0) (.own false 3 0 s 1) (.int .i64 (i : Nat)),HT n (rks (fun j => K.getD j false) i ++ List.replicate d 0) ((rnk (fun j => K.getD j false) i : Nat) : Int) (.sl true 0 []) (.sl true 0 []) (.sl true 0 []) []⟩ =
   some (.exit 0,⟨xNi (.ptr 0 0) (.ptr 1 0) (.sl false s (blz K)) (.ptr 2 0) (.own false 3 0 s 1) (.int .i64 (s : Nat)),HT n (rks (fun j => K.getD j false) s) ((rnk (fun j => K.getD j false) s : Nat) : Int) (.sl true 0 []) (.sl true 0 []) (.sl true 0 []) []⟩)
 | 0,i,h => by
  obtain rfl : i = s := by omega
  rw [List.replicate_zero,List.append_nil,xVd]
  simp (maxSteps := 30000000) (disch := first | assumption | omega | (simp only [WL,AV.isCell,xAb,xAa,xAL] <;> omega) | rfl | decide) only [↓reduceIte,WB,xAW,xAd,xAV,xAm,xAl,AV.cells,AV.isCell,xAc,xAi,xAj,xAz,xAA,xAB,xAC,xAD,xAE,xAX,xAF,xAG,xAn,xAH,xAo,xAp,xAI,xAq,xAr,xAk,Nat.reduceDiv,Nat.reduceMod,WP,xAT,xAM,xBm,xBl,xBk,xAP,xAS,xAN,W2,xAe,xAf,xAh,Nat.reduceAdd,Nat.reduceSub,Nat.reduceLeDiff,Nat.reduceMul,Int.reduceAdd,Int.reduceSub,Int.reduceMul,Int.reduceLT,Int.reduceLE,Int.reduceEq,Int.reduceToNat,Int.reduceNeg,Nat.reduceEqDiff,Nat.reduceBEq,Nat.reduceLT,xAb,xAJ,xAv,xAw,lfs_at0',xAa,xAs,xAx,xAy,xAQ,xAR,xA1,xAY,xAZ,xA5,xNg,xRh,hn]
 | d + 1,i,h => by
  have hlt : (i : Int) < (s : Nat) := by omega
  have hi : i < s := by omega
  have hl := xXJ (fun j => K.getD j false) i
  have hll : (rks (fun j => K.getD j false) i ++ List.replicate (d + 1) 0).length = s := by rw [List.length_append,hl,List.length_replicate]; omega
  have xC9 : (rks (fun j => K.getD j false) i ++ List.replicate (d + 1) 0).set i ((rnk (fun j => K.getD j false) i : Nat) : Int) = rks (fun j => K.getD j false) i ++ ((rnk (fun j => K.getD j false) i : Nat) : Int) :: List.replicate d 0 := by
   rw [List.set_append_right _ _ (by omega),hl,Nat.sub_self,List.replicate_succ,List.set_cons_zero]
  have hat := xA1 (l := K) (k := i) (by omega)
  have hkl := xAL K
  rw [hK] at hkl
  have hr := xXZ (fun j => K.getD j false) i
  have ih := yGx (n := n) hn hs hK d (i + 1) (by omega)
  have hnx : rks (fun j => K.getD j false) (i + 1) = rks (fun j => K.getD j false) i ++ [((rnk (fun j => K.getD j false) i : Nat) : Int)] := by simp [rks,List.range_succ]
  rw [hnx,rnk,List.append_assoc,List.cons_append,List.nil_append] at ih
  have hwr : IntKind.i64.wrap (((rnk (fun j => K.getD j false) i : Nat) : Int) + 1) = ((rnk (fun j => K.getD j false) i + 1 : Nat) : Int) := by rw [yFn (by omega) (by omega)]; omega
  cases c : K.getD i false with
  | true =>
   rw [c] at hat
   rw [if_pos c] at ih
   generalize rnk (fun j => K.getD j false) i = r at *
   generalize rks (fun j => K.getD j false) i = ri at *
   generalize blz K = LK at *
   rw [xVd]
   simp (maxSteps := 30000000) (disch := first | assumption | omega | (simp only [WL,AV.isCell,xAb,xAa,xAL] <;> omega) | rfl | decide) only [↓reduceIte,WB,xAW,xAd,xAV,xAm,xAl,AV.cells,AV.isCell,xAc,xAi,xAj,xAz,xAA,xAB,xAC,xAD,xAE,xAX,xAF,xAG,xAn,xAH,xAo,xAp,xAI,xAq,xAr,xAk,Nat.reduceDiv,Nat.reduceMod,WP,xAT,xAM,xBm,xBl,xBk,xAP,xAS,xAN,W2,xAe,xAf,xAh,Nat.reduceAdd,Nat.reduceSub,Nat.reduceLeDiff,Nat.reduceMul,Int.reduceAdd,Int.reduceSub,Int.reduceMul,Int.reduceLT,Int.reduceLE,Int.reduceEq,Int.reduceToNat,Int.reduceNeg,Nat.reduceEqDiff,Nat.reduceBEq,Nat.reduceLT,xAb,xAJ,xAv,xAw,lfs_at0',xAa,xAs,xAx,xAy,xAQ,xAR,xA1,xAY,xAZ,xA5,xNg,xRh,hn,hlt,hi,hll,xC9,hat,hkl,hwr,ih]
  | false =>
   rw [c] at hat
   rw [if_neg (by rw [c]; simp)] at ih
   simp only [Nat.add_zero] at ih
   generalize rnk (fun j => K.getD j false) i = r at *
   generalize rks (fun j => K.getD j false) i = ri at *
   generalize blz K = LK at *
   rw [xVd]
   simp (maxSteps := 30000000) (disch := first | assumption | omega | (simp only [WL,AV.isCell,xAb,xAa,xAL] <;> omega) | rfl | decide) only [↓reduceIte,WB,xAW,xAd,xAV,xAm,xAl,AV.cells,AV.isCell,xAc,xAi,xAj,xAz,xAA,xAB,xAC,xAD,xAE,xAX,xAF,xAG,xAn,xAH,xAo,xAp,xAI,xAq,xAr,xAk,Nat.reduceDiv,Nat.reduceMod,WP,xAT,xAM,xBm,xBl,xBk,xAP,xAS,xAN,W2,xAe,xAf,xAh,Nat.reduceAdd,Nat.reduceSub,Nat.reduceLeDiff,Nat.reduceMul,Int.reduceAdd,Int.reduceSub,Int.reduceMul,Int.reduceLT,Int.reduceLE,Int.reduceEq,Int.reduceToNat,Int.reduceNeg,Nat.reduceEqDiff,Nat.reduceBEq,Nat.reduceLT,xAb,xAJ,xAv,xAw,lfs_at0',xAa,xAs,xAx,xAy,xAQ,xAR,xA1,xAY,xAZ,xA5,xNg,xRh,hn,hlt,hi,hll,xC9,hat,hkl,ih]
set_option maxHeartbeats 2000000 in
theorem tl1 {n : Aut} {s : Nat} {K : List Bool} {R : List Int} {N : Int} {o3 o4 : AV} (hl : n.st.length < 1000000) (hs : s ≤ 64) (hK : K.length = s) (hR : R.length = s) (hq : ∀ q ∈ n.st,0 ≤ q ∧ q < (s : Int)) (co3 : o3.isCell = true) (co4 : o4.isCell = true) : ∀ d i T v l,i + d = n.st.length → l.length ≤ i → BlT T v 1 l.length (xBW l) →
  ∃ T' v',L.loop xNj xYI ⟨xNk (.ptr 0 0) (.ptr 1 0) (.sl false s (blz K)) (.ptr 2 0) (.own false 3 0 s 1) (.int .i64 (i : Nat)),HT n R N v o3 o4 T⟩ =
   some (.exit 2,⟨xNk (.ptr 0 0) (.ptr 1 0) (.sl false s (blz K)) (.ptr 2 0) (.own false 3 0 s 1) (.int .i64 (n.st.length : Nat)),HT n R N v' o3 o4 T'⟩) ∧
   BlT T' v' 1 (l ++ fl K R (n.st.drop i)).length (xBW (l ++ fl K R (n.st.drop i))) ∧ (∀ j x,yC1 v j → T[j]? = some x → T'[j]? = some x ∧ yC1 v' j)
 | 0,i,T,v,l,h,hll,hB => by
  obtain rfl : i = n.st.length := by omega
  refine ⟨T,v,?_,by rw [List.drop_length]; simpa [fl] using hB,fun j x h1 h2 => ⟨h2,h1⟩⟩
  rw [xRi]
  simp (maxSteps := 30000000) (disch := first | assumption | omega | (simp only [WL,AV.isCell,xAb,xAa,xAL] <;> omega) | rfl | decide) only [↓reduceIte,WB,xAW,xAd,xAV,xAm,xAl,AV.cells,AV.isCell,xAc,xAi,xAj,xAz,xAA,xAB,xAC,xAD,xAE,xAX,xAF,xAG,xAn,xAH,xAo,xAp,xAI,xAq,xAr,xAk,Nat.reduceDiv,Nat.reduceMod,WP,xAT,xAM,xBm,xBl,xBk,xAP,xAS,xAN,W2,xAe,xAf,xAh,Nat.reduceAdd,Nat.reduceSub,Nat.reduceLeDiff,Nat.reduceMul,Int.reduceAdd,Int.reduceSub,Int.reduceMul,Int.reduceLT,Int.reduceLE,Int.reduceEq,Int.reduceToNat,Int.reduceNeg,Nat.reduceEqDiff,Nat.reduceBEq,Nat.reduceLT,xAb,xAJ,xAv,xAw,lfs_at0',xAa,xAs,xAx,xAy,xAQ,xAR,xA1,xAY,xAZ,xA5,xKl,xNl]
 | d + 1,i,T,v,l,h,hll,hB => by
  have hlt : (i : Int) < (n.st.length : Nat) := by omega
  have hm : n.st.getD i 0 ∈ n.st := by
   rw [List.getD_eq_getElem?_getD,List.getElem?_eq_getElem (by omega)]
   exact List.getElem_mem _
  obtain ⟨h0,h1⟩ := hq _ hm
  rw [xCw (by omega : i < n.st.length)]
  generalize hx : n.st.getD i 0 = x at *
  obtain ⟨q,rfl⟩ := Int.eq_ofNat_of_zero_le h0
  have hqs' : q < s := by omega
  have hqI : ((q : Nat) : Int) < (s : Nat) := by omega
  have hkl := xAL K
  rw [hK] at hkl
  have hRl := xBE R
  rw [hR] at hRl
  have hat := xA1 (l := K) (k := q) (by omega)
  cases c : K.getD q false with
  | false =>
   rw [c] at hat
   rw [yC3 c]
   obtain ⟨T',v',e1,e2,e3⟩ := tl1 (n := n) (N := N) (o3 := o3) (o4 := o4) hl hs hK hR hq co3 co4 d (i + 1) T v l (by omega) (by omega) hB
   refine ⟨T',v',?_,e2,e3⟩
   generalize blz K = LK at *
   rw [xRi]
   simp (maxSteps := 30000000) (disch := first | assumption | omega | (simp only [WL,AV.isCell,xAb,xAa,xAL] <;> omega) | rfl | decide) only [↓reduceIte,WB,xAW,xAd,xAV,xAm,xAl,AV.cells,AV.isCell,xAc,xAi,xAj,xAz,xAA,xAB,xAC,xAD,xAE,xAX,xAF,xAG,xAn,xAH,xAo,xAp,xAI,xAq,xAr,xAk,Nat.reduceDiv,Nat.reduceMod,WP,xAT,xAM,xBm,xBl,xBk,xAP,xAS,xAN,W2,xAe,xAf,xAh,Nat.reduceAdd,Nat.reduceSub,Nat.reduceLeDiff,Nat.reduceMul,Int.reduceAdd,Int.reduceSub,Int.reduceMul,Int.reduceLT,Int.reduceLE,Int.reduceEq,Int.reduceToNat,Int.reduceNeg,Nat.reduceEqDiff,Nat.reduceBEq,Nat.reduceLT,xAb,xAJ,xAv,xAw,lfs_at0',xAa,xAs,xAx,xAy,xAQ,xAR,xA1,xAY,xAZ,xA5,xKl,xNl,hlt,hx,hkl,hR,hqs',hqI,hat,e1]
  | true =>
   rw [c] at hat
   rw [xXH c]
   rcases hB with ⟨rfl,e1,e2⟩ | ⟨k,rfl,e1,e2⟩
   ·have hl0 : l = [] := List.length_eq_zero_iff.1 e1
    subst hl0
    obtain ⟨T',v',h1,h2,h3⟩ := tl1 (n := n) (N := N) (o3 := o3) (o4 := o4) hl hs hK hR hq co3 co4 d (i + 1) (T ++ [.cells false false (xBW [R.getD q 0])]) (.own false (T.length + 1 + 1 + 1 + 1) 0 1 1) [R.getD q 0] (by omega) (by simp)
     (.inr ⟨T.length,rfl,by simp,by rw [xBE]; simp⟩)
    refine ⟨T',v',?_,by simpa using h2,fun j x q1 q2 => ?_⟩
    ·simp only [List.cons_append,List.nil_append,xGs] at h1
     generalize blz K = LK at *
     rw [xRi]
     simp (maxSteps := 30000000) (disch := first | assumption | omega | (simp only [WL,AV.isCell,xAb,xAa,xAL] <;> omega) | rfl | decide) only [↓reduceIte,WB,xAW,xAd,xAV,xAm,xAl,AV.cells,AV.isCell,xAc,xAi,xAj,xAz,xAA,xAB,xAC,xAD,xAE,xAX,xAF,xAG,xAn,xAH,xAo,xAp,xAI,xAq,xAr,xAk,Nat.reduceDiv,Nat.reduceMod,WP,xAT,xAM,xBm,xBl,xBk,xAP,xAS,xAN,W2,xAe,xAf,xAh,Nat.reduceAdd,Nat.reduceSub,Nat.reduceLeDiff,Nat.reduceMul,Int.reduceAdd,Int.reduceSub,Int.reduceMul,Int.reduceLT,Int.reduceLE,Int.reduceEq,Int.reduceToNat,Int.reduceNeg,Nat.reduceEqDiff,Nat.reduceBEq,Nat.reduceLT,xAb,xAJ,xAv,xAw,lfs_at0',xAa,xAs,xAx,xAy,xAQ,xAR,xA1,xAY,xAZ,xA5,xKl,xNl,hlt,hx,hkl,hR,hqs',hqI,hat,h1]
    ·have hj := (List.getElem?_eq_some_iff.1 q2).1
     exact h3 j x (fun n es e => by cases e; omega) (by rw [List.getElem?_append_left hj]; exact q2)
   ·have hk := (List.getElem?_eq_some_iff.1 e1).1
    obtain ⟨T',v',h1,h2,h3⟩ := tl1 (n := n) (N := N) (o3 := o3) (o4 := o4) hl hs hK hR hq co3 co4 d (i + 1) (T.set k .dead ++ [.cells false false (xBW (l ++ [R.getD q 0]))]) (.own false (T.length + 1 + 1 + 1 + 1) 0 (l ++ [R.getD q 0]).length 1) (l ++ [R.getD q 0]) (by omega) (by simp; omega)
     (.inr ⟨T.length,rfl,by simp,by rw [xBE]; simp⟩)
    refine ⟨T',v',?_,by simpa using h2,fun j x q1 q2 => ?_⟩
    ·have hsn : xBW l ++ [AV.int .i64 (R.getD q 0)] = xBW (l ++ [R.getD q 0]) := by simp [xBW]
     have hll2 : (l ++ [R.getD q 0]).length = l.length + 1 := by simp
     simp only [hll2] at h1
     generalize blz K = LK at *
     rw [xRi]
     simp (maxSteps := 30000000) (disch := first | assumption | omega | (simp only [WL,AV.isCell,xAb,xAa,xAL] <;> omega) | rfl | decide) only [↓reduceIte,WB,xAW,xAd,xAV,xAm,xAl,AV.cells,AV.isCell,xAc,xAi,xAj,xAz,xAA,xAB,xAC,xAD,xAE,xAX,xAF,xAG,xAn,xAH,xAo,xAp,xAI,xAq,xAr,xAk,Nat.reduceDiv,Nat.reduceMod,WP,xAT,xAM,xBm,xBl,xBk,xAP,xAS,xAN,W2,xAe,xAf,xAh,Nat.reduceAdd,Nat.reduceSub,Nat.reduceLeDiff,Nat.reduceMul,Int.reduceAdd,Int.reduceSub,Int.reduceMul,Int.reduceLT,Int.reduceLE,Int.reduceEq,Int.reduceToNat,Int.reduceNeg,Nat.reduceEqDiff,Nat.reduceBEq,Nat.reduceLT,xAb,xAJ,xAv,xAw,lfs_at0',xAa,xAs,xAx,xAy,xAQ,xAR,xA1,xAY,xAZ,xA5,xKl,xNl,hlt,hx,hkl,hR,hqs',hqI,hat,e1,hsn,h1]
    ·have hj := (List.getElem?_eq_some_iff.1 q2).1
     have hjk : j ≠ k := by
      rintro rfl
      exact q1 _ _ rfl
     exact h3 j x (fun n es e => by cases e; omega) (by rw [List.getElem?_append_left (by simpa using hj),List.getElem?_set_ne (fun e => hjk e.symm)]; exact q2)
set_option maxHeartbeats 2000000 in
theorem tl2 {n : Aut} {s : Nat} {K : List Bool} {R : List Int} {N : Int} {o2 o4 : AV} (hl : n.fi.length < 1000000) (hs : s ≤ 64) (hK : K.length = s) (hR : R.length = s) (hq : ∀ q ∈ n.fi,0 ≤ q ∧ q < (s : Int)) (co2 : o2.isCell = true) (co4 : o4.isCell = true) : ∀ d i T v l,i + d = n.fi.length → l.length ≤ i → BlT T v 1 l.length (xBW l) →
  ∃ T' v',L.loop xNm xYJ ⟨xNn (.ptr 0 0) (.ptr 1 0) (.sl false s (blz K)) (.ptr 2 0) (.own false 3 0 s 1) (.int .i64 (i : Nat)),HT n R N o2 v o4 T⟩ =
   some (.exit 4,⟨xNn (.ptr 0 0) (.ptr 1 0) (.sl false s (blz K)) (.ptr 2 0) (.own false 3 0 s 1) (.int .i64 (n.fi.length : Nat)),HT n R N o2 v' o4 T'⟩) ∧
   BlT T' v' 1 (l ++ fl K R (n.fi.drop i)).length (xBW (l ++ fl K R (n.fi.drop i))) ∧ (∀ j x,yC1 v j → T[j]? = some x → T'[j]? = some x ∧ yC1 v' j)
 | 0,i,T,v,l,h,hll,hB => by
  obtain rfl : i = n.fi.length := by omega
  refine ⟨T,v,?_,by rw [List.drop_length]; simpa [fl] using hB,fun j x h1 h2 => ⟨h2,h1⟩⟩
  rw [xRj]
  simp (maxSteps := 30000000) (disch := first | assumption | omega | (simp only [WL,AV.isCell,xAb,xAa,xAL] <;> omega) | rfl | decide) only [↓reduceIte,WB,xAW,xAd,xAV,xAm,xAl,AV.cells,AV.isCell,xAc,xAi,xAj,xAz,xAA,xAB,xAC,xAD,xAE,xAX,xAF,xAG,xAn,xAH,xAo,xAp,xAI,xAq,xAr,xAk,Nat.reduceDiv,Nat.reduceMod,WP,xAT,xAM,xBm,xBl,xBk,xAP,xAS,xAN,W2,xAe,xAf,xAh,Nat.reduceAdd,Nat.reduceSub,Nat.reduceLeDiff,Nat.reduceMul,Int.reduceAdd,Int.reduceSub,Int.reduceMul,Int.reduceLT,Int.reduceLE,Int.reduceEq,Int.reduceToNat,Int.reduceNeg,Nat.reduceEqDiff,Nat.reduceBEq,Nat.reduceLT,xAb,xAJ,xAv,xAw,lfs_at0',xAa,xAs,xAx,xAy,xAQ,xAR,xA1,xAY,xAZ,xA5,xKm,xNo]
 | d + 1,i,T,v,l,h,hll,hB => by
  have hlt : (i : Int) < (n.fi.length : Nat) := by omega
  have hm : n.fi.getD i 0 ∈ n.fi := by
   rw [List.getD_eq_getElem?_getD,List.getElem?_eq_getElem (by omega)]
   exact List.getElem_mem _
  obtain ⟨h0,h1⟩ := hq _ hm
  rw [xCw (by omega : i < n.fi.length)]
  generalize hx : n.fi.getD i 0 = x at *
  obtain ⟨q,rfl⟩ := Int.eq_ofNat_of_zero_le h0
  have hqs' : q < s := by omega
  have hqI : ((q : Nat) : Int) < (s : Nat) := by omega
  have hkl := xAL K
  rw [hK] at hkl
  have hRl := xBE R
  rw [hR] at hRl
  have hat := xA1 (l := K) (k := q) (by omega)
  cases c : K.getD q false with
  | false =>
   rw [c] at hat
   rw [yC3 c]
   obtain ⟨T',v',e1,e2,e3⟩ := tl2 (n := n) (N := N) (o2 := o2) (o4 := o4) hl hs hK hR hq co2 co4 d (i + 1) T v l (by omega) (by omega) hB
   refine ⟨T',v',?_,e2,e3⟩
   generalize blz K = LK at *
   rw [xRj]
   simp (maxSteps := 30000000) (disch := first | assumption | omega | (simp only [WL,AV.isCell,xAb,xAa,xAL] <;> omega) | rfl | decide) only [↓reduceIte,WB,xAW,xAd,xAV,xAm,xAl,AV.cells,AV.isCell,xAc,xAi,xAj,xAz,xAA,xAB,xAC,xAD,xAE,xAX,xAF,xAG,xAn,xAH,xAo,xAp,xAI,xAq,xAr,xAk,Nat.reduceDiv,Nat.reduceMod,WP,xAT,xAM,xBm,xBl,xBk,xAP,xAS,xAN,W2,xAe,xAf,xAh,Nat.reduceAdd,Nat.reduceSub,Nat.reduceLeDiff,Nat.reduceMul,Int.reduceAdd,Int.reduceSub,Int.reduceMul,Int.reduceLT,Int.reduceLE,Int.reduceEq,Int.reduceToNat,Int.reduceNeg,Nat.reduceEqDiff,Nat.reduceBEq,Nat.reduceLT,xAb,xAJ,xAv,xAw,lfs_at0',xAa,xAs,xAx,xAy,xAQ,xAR,xA1,xAY,xAZ,xA5,xKm,xNo,hlt,hx,hkl,hR,hqs',hqI,hat,e1]
  | true =>
   rw [c] at hat
   rw [xXH c]
   rcases hB with ⟨rfl,e1,e2⟩ | ⟨k,rfl,e1,e2⟩
   ·have hl0 : l = [] := List.length_eq_zero_iff.1 e1
    subst hl0
    obtain ⟨T',v',h1,h2,h3⟩ := tl2 (n := n) (N := N) (o2 := o2) (o4 := o4) hl hs hK hR hq co2 co4 d (i + 1) (T ++ [.cells false false (xBW [R.getD q 0])]) (.own false (T.length + 1 + 1 + 1 + 1) 0 1 1) [R.getD q 0] (by omega) (by simp)
     (.inr ⟨T.length,rfl,by simp,by rw [xBE]; simp⟩)
    refine ⟨T',v',?_,by simpa using h2,fun j x q1 q2 => ?_⟩
    ·simp only [List.cons_append,List.nil_append,xGs] at h1
     generalize blz K = LK at *
     rw [xRj]
     simp (maxSteps := 30000000) (disch := first | assumption | omega | (simp only [WL,AV.isCell,xAb,xAa,xAL] <;> omega) | rfl | decide) only [↓reduceIte,WB,xAW,xAd,xAV,xAm,xAl,AV.cells,AV.isCell,xAc,xAi,xAj,xAz,xAA,xAB,xAC,xAD,xAE,xAX,xAF,xAG,xAn,xAH,xAo,xAp,xAI,xAq,xAr,xAk,Nat.reduceDiv,Nat.reduceMod,WP,xAT,xAM,xBm,xBl,xBk,xAP,xAS,xAN,W2,xAe,xAf,xAh,Nat.reduceAdd,Nat.reduceSub,Nat.reduceLeDiff,Nat.reduceMul,Int.reduceAdd,Int.reduceSub,Int.reduceMul,Int.reduceLT,Int.reduceLE,Int.reduceEq,Int.reduceToNat,Int.reduceNeg,Nat.reduceEqDiff,Nat.reduceBEq,Nat.reduceLT,xAb,xAJ,xAv,xAw,lfs_at0',xAa,xAs,xAx,xAy,xAQ,xAR,xA1,xAY,xAZ,xA5,xKm,xNo,hlt,hx,hkl,hR,hqs',hqI,hat,h1]
    ·have hj := (List.getElem?_eq_some_iff.1 q2).1
     exact h3 j x (fun n es e => by cases e; omega) (by rw [List.getElem?_append_left hj]; exact q2)
   ·have hk := (List.getElem?_eq_some_iff.1 e1).1
    obtain ⟨T',v',h1,h2,h3⟩ := tl2 (n := n) (N := N) (o2 := o2) (o4 := o4) hl hs hK hR hq co2 co4 d (i + 1) (T.set k .dead ++ [.cells false false (xBW (l ++ [R.getD q 0]))]) (.own false (T.length + 1 + 1 + 1 + 1) 0 (l ++ [R.getD q 0]).length 1) (l ++ [R.getD q 0]) (by omega) (by simp; omega)
     (.inr ⟨T.length,rfl,by simp,by rw [xBE]; simp⟩)
    refine ⟨T',v',?_,by simpa using h2,fun j x q1 q2 => ?_⟩
    ·have hsn : xBW l ++ [AV.int .i64 (R.getD q 0)] = xBW (l ++ [R.getD q 0]) := by simp [xBW]
     have hll2 : (l ++ [R.getD q 0]).length = l.length + 1 := by simp
     simp only [hll2] at h1
     generalize blz K = LK at *
     rw [xRj]
     simp (maxSteps := 30000000) (disch := first | assumption | omega | (simp only [WL,AV.isCell,xAb,xAa,xAL] <;> omega) | rfl | decide) only [↓reduceIte,WB,xAW,xAd,xAV,xAm,xAl,AV.cells,AV.isCell,xAc,xAi,xAj,xAz,xAA,xAB,xAC,xAD,xAE,xAX,xAF,xAG,xAn,xAH,xAo,xAp,xAI,xAq,xAr,xAk,Nat.reduceDiv,Nat.reduceMod,WP,xAT,xAM,xBm,xBl,xBk,xAP,xAS,xAN,W2,xAe,xAf,xAh,Nat.reduceAdd,Nat.reduceSub,Nat.reduceLeDiff,Nat.reduceMul,Int.reduceAdd,Int.reduceSub,Int.reduceMul,Int.reduceLT,Int.reduceLE,Int.reduceEq,Int.reduceToNat,Int.reduceNeg,Nat.reduceEqDiff,Nat.reduceBEq,Nat.reduceLT,xAb,xAJ,xAv,xAw,lfs_at0',xAa,xAs,xAx,xAy,xAQ,xAR,xA1,xAY,xAZ,xA5,xKm,xNo,hlt,hx,hkl,hR,hqs',hqI,hat,e1,hsn,h1]
    ·have hj := (List.getElem?_eq_some_iff.1 q2).1
     have hjk : j ≠ k := by
      rintro rfl
      exact q1 _ _ rfl
     exact h3 j x (fun n es e => by cases e; omega) (by rw [List.getElem?_append_left (by simpa using hj),List.getElem?_set_ne (fun e => hjk e.symm)]; exact q2)
theorem yFP {T : Heap} {v : AV} {w n : Nat} {cs : List AV} (h : BlT T v w n cs) (X : Heap) : BlT (T ++ X) v w n cs := by
 rcases h with h | ⟨k,h1,h2,h3⟩
 ·exact .inl h
 ·exact .inr ⟨k,h1,xA8 h2,h3⟩
set_option maxRecDepth 20000 in
set_option maxHeartbeats 4000000 in
theorem tl3 {n : Aut} {s : Nat} {K : List Bool} {R : List Int} {N : Int} {o2 o3 : AV} (hl : n.rl.length < 1000000) (hs : s ≤ 64) (hK : K.length = s) (hR : R.length = s) (hr : RlS s n.rl) (co2 : o2.isCell = true) (co3 : o3.isCell = true) : ∀ d i T v l,i + d = n.rl.length → l.length ≤ i → BlT T v 5 l.length (rls l) →
  ∃ T' v',L.loop xNp xYK ⟨xNq (.ptr 0 0) (.ptr 1 0) (.sl false s (blz K)) (.ptr 2 0) (.own false 3 0 s 1) (.int .i64 (i : Nat)),HT n R N o2 o3 v T⟩ =
   some (.exit 6,⟨xNq (.ptr 0 0) (.ptr 1 0) (.sl false s (blz K)) (.ptr 2 0) (.own false 3 0 s 1) (.int .i64 (n.rl.length : Nat)),HT n R N o2 o3 v' T'⟩) ∧
   BlT T' v' 5 (l ++ flR K R (n.rl.drop i)).length (rls (l ++ flR K R (n.rl.drop i))) ∧ (∀ j x,yC1 v j → T[j]? = some x → T'[j]? = some x ∧ yC1 v' j)
 | 0,i,T,v,l,h,hll,hB => by
  obtain rfl : i = n.rl.length := by omega
  refine ⟨T,v,?_,by rw [List.drop_length]; simpa [flR] using hB,fun j x h1 h2 => ⟨h2,h1⟩⟩
  rw [xKn]
  simp (maxSteps := 30000000) (disch := first | assumption | omega | (simp only [WL,AV.isCell,xAb,xAa,xAL] <;> omega) | rfl | decide) only [↓reduceIte,WB,xAW,xAd,xAV,xAm,xAl,AV.cells,AV.isCell,xAc,xAi,xAj,xAz,xAA,xAB,xAC,xAD,xAE,xAX,xAF,xAG,xAn,xAH,xAo,xAp,xAI,xAq,xAr,xAk,Nat.reduceDiv,Nat.reduceMod,WP,xAT,xAM,xBm,xBl,xBk,xAP,xAS,xAN,W2,xAe,xAf,xAh,Nat.reduceAdd,Nat.reduceSub,Nat.reduceLeDiff,Nat.reduceMul,Int.reduceAdd,Int.reduceSub,Int.reduceMul,Int.reduceLT,Int.reduceLE,Int.reduceEq,Int.reduceToNat,Int.reduceNeg,Nat.reduceEqDiff,Nat.reduceBEq,Nat.reduceLT,xAb,xAJ,xAv,xAw,lfs_at0',xAa,xAs,xAx,xAy,xAQ,xAR,xA1,xAY,xAZ,xA5,xG7,xIh]
 | d + 1,i,T,v,l,h,hll,hB => by
  have hlt : (i : Int) < (n.rl.length : Nat) := by omega
  obtain ⟨⟨l0,l1⟩,⟨q0,q1⟩,⟨t0,t1⟩,p1,n1⟩ := hr.h _ (xC0 (by omega : i < n.rl.length))
  have hat := xAs (show i < n.rl.length by omega)
  rw [xCv (by omega : i < n.rl.length)]
  generalize n.rl.getD i r0 = u at *
  obtain ⟨ul,ur,ut,up,un⟩ := u
  simp only at l0 l1 q0 q1 t0 t1 p1 n1 hat
  obtain ⟨xl,rfl⟩ := Int.eq_ofNat_of_zero_le l0
  obtain ⟨xr,rfl⟩ := Int.eq_ofNat_of_zero_le q0
  obtain ⟨xt,rfl⟩ := Int.eq_ofNat_of_zero_le t0
  have la : xl < s := by omega
  have lb : xr < s := by omega
  have lc : xt < s := by omega
  have laI : ((xl : Nat) : Int) < (s : Nat) := by omega
  have lbI : ((xr : Nat) : Int) < (s : Nat) := by omega
  have lcI : ((xt : Nat) : Int) < (s : Nat) := by omega
  have hkl := xAL K
  rw [hK] at hkl
  have ata := xA1 (l := K) (k := xl) (by omega)
  have atb := xA1 (l := K) (k := xr) (by omega)
  have atc := xA1 (l := K) (k := xt) (by omega)
  by_cases c1 : K.getD xl false = true
  case neg =>
   have c1' : K.getD xl false = false := by simpa using c1
   rw [c1'] at ata
   rw [flR,List.filterMap_cons,if_neg (fun h => c1 (by simpa using h.1)),← flR]
   obtain ⟨T',v',e1,e2,e3⟩ := tl3 (n := n) (N := N) (o2 := o2) (o3 := o3) hl hs hK hR hr co2 co3 d (i + 1) (T ++ [Blk.cells false false [.int .i64 (xl : Nat),.int .i64 (xr : Nat),.int .i64 (xt : Nat),.int .u8 (up : Nat),.int .u8 (un : Nat)]]) v l (by omega) (by omega) (yFP hB _)
   refine ⟨T',v',?_,e2,fun j x q1 q2 => e3 j x q1 (xA8 q2)⟩
   generalize blz K = LK at *
   rw [xKn]
   simp (maxSteps := 30000000) (disch := first | assumption | omega | (simp only [WL,AV.isCell,xAb,xAa,xAL] <;> omega) | rfl | decide) only [↓reduceIte,WB,xAW,xAd,xAV,xAm,xAl,AV.cells,AV.isCell,xAc,xAi,xAj,xAz,xAA,xAB,xAC,xAD,xAE,xAX,xAF,xAG,xAn,xAH,xAo,xAp,xAI,xAq,xAr,xAk,Nat.reduceDiv,Nat.reduceMod,WP,xAT,xAM,xBm,xBl,xBk,xAP,xAS,xAN,W2,xAe,xAf,xAh,Nat.reduceAdd,Nat.reduceSub,Nat.reduceLeDiff,Nat.reduceMul,Int.reduceAdd,Int.reduceSub,Int.reduceMul,Int.reduceLT,Int.reduceLE,Int.reduceEq,Int.reduceToNat,Int.reduceNeg,Nat.reduceEqDiff,Nat.reduceBEq,Nat.reduceLT,xAb,xAJ,xAv,xAw,lfs_at0',xAa,xAs,xAx,xAy,xAQ,xAR,xA1,xAY,xAZ,xA5,xG7,xIh,hlt,hat,hkl,hR,la,laI,lb,lbI,lc,lcI,ata,e1]
  rw [c1] at ata
  by_cases c2 : K.getD xr false = true
  case neg =>
   have c2' : K.getD xr false = false := by simpa using c2
   rw [c2'] at atb
   rw [flR,List.filterMap_cons,if_neg (fun h => c2 (by simpa using h.2.1)),← flR]
   obtain ⟨T',v',e1,e2,e3⟩ := tl3 (n := n) (N := N) (o2 := o2) (o3 := o3) hl hs hK hR hr co2 co3 d (i + 1) (T ++ [Blk.cells false false [.int .i64 (xl : Nat),.int .i64 (xr : Nat),.int .i64 (xt : Nat),.int .u8 (up : Nat),.int .u8 (un : Nat)]]) v l (by omega) (by omega) (yFP hB _)
   refine ⟨T',v',?_,e2,fun j x q1 q2 => e3 j x q1 (xA8 q2)⟩
   generalize blz K = LK at *
   rw [xKn]
   simp (maxSteps := 30000000) (disch := first | assumption | omega | (simp only [WL,AV.isCell,xAb,xAa,xAL] <;> omega) | rfl | decide) only [↓reduceIte,WB,xAW,xAd,xAV,xAm,xAl,AV.cells,AV.isCell,xAc,xAi,xAj,xAz,xAA,xAB,xAC,xAD,xAE,xAX,xAF,xAG,xAn,xAH,xAo,xAp,xAI,xAq,xAr,xAk,Nat.reduceDiv,Nat.reduceMod,WP,xAT,xAM,xBm,xBl,xBk,xAP,xAS,xAN,W2,xAe,xAf,xAh,Nat.reduceAdd,Nat.reduceSub,Nat.reduceLeDiff,Nat.reduceMul,Int.reduceAdd,Int.reduceSub,Int.reduceMul,Int.reduceLT,Int.reduceLE,Int.reduceEq,Int.reduceToNat,Int.reduceNeg,Nat.reduceEqDiff,Nat.reduceBEq,Nat.reduceLT,xAb,xAJ,xAv,xAw,lfs_at0',xAa,xAs,xAx,xAy,xAQ,xAR,xA1,xAY,xAZ,xA5,xG7,xIh,hlt,hat,hkl,hR,la,laI,lb,lbI,lc,lcI,ata,atb,e1]
  rw [c2] at atb
  by_cases c3 : K.getD xt false = true
  case neg =>
   have c3' : K.getD xt false = false := by simpa using c3
   rw [c3'] at atc
   rw [flR,List.filterMap_cons,if_neg (fun h => c3 (by simpa using h.2.2)),← flR]
   obtain ⟨T',v',e1,e2,e3⟩ := tl3 (n := n) (N := N) (o2 := o2) (o3 := o3) hl hs hK hR hr co2 co3 d (i + 1) (T ++ [Blk.cells false false [.int .i64 (xl : Nat),.int .i64 (xr : Nat),.int .i64 (xt : Nat),.int .u8 (up : Nat),.int .u8 (un : Nat)]]) v l (by omega) (by omega) (yFP hB _)
   refine ⟨T',v',?_,e2,fun j x q1 q2 => e3 j x q1 (xA8 q2)⟩
   generalize blz K = LK at *
   rw [xKn]
   simp (maxSteps := 30000000) (disch := first | assumption | omega | (simp only [WL,AV.isCell,xAb,xAa,xAL] <;> omega) | rfl | decide) only [↓reduceIte,WB,xAW,xAd,xAV,xAm,xAl,AV.cells,AV.isCell,xAc,xAi,xAj,xAz,xAA,xAB,xAC,xAD,xAE,xAX,xAF,xAG,xAn,xAH,xAo,xAp,xAI,xAq,xAr,xAk,Nat.reduceDiv,Nat.reduceMod,WP,xAT,xAM,xBm,xBl,xBk,xAP,xAS,xAN,W2,xAe,xAf,xAh,Nat.reduceAdd,Nat.reduceSub,Nat.reduceLeDiff,Nat.reduceMul,Int.reduceAdd,Int.reduceSub,Int.reduceMul,Int.reduceLT,Int.reduceLE,Int.reduceEq,Int.reduceToNat,Int.reduceNeg,Nat.reduceEqDiff,Nat.reduceBEq,Nat.reduceLT,xAb,xAJ,xAv,xAw,lfs_at0',xAa,xAs,xAx,xAy,xAQ,xAR,xA1,xAY,xAZ,xA5,xG7,xIh,hlt,hat,hkl,hR,la,laI,lb,lbI,lc,lcI,ata,atb,atc,e1]
  rw [c3] at atc
  rw [flR,List.filterMap_cons,if_pos ⟨by simpa using c1,by simpa using c2,by simpa using c3⟩,← flR]
  simp only [Int.toNat_natCast]
  have hcut : List.take (l.length * 5) (rls l) = rls l := List.take_of_length_le (by rw [xAa]; omega)
  have hsn : rls l ++ [.int .i64 (R.getD xl 0),.int .i64 (R.getD xr 0),.int .i64 (R.getD xt 0),.int .u8 (up : Nat),.int .u8 (un : Nat)] = rls (l ++ [(Rl.mk (R.getD xl 0) (R.getD xr 0) (R.getD xt 0) up un)]) := xXI l (Rl.mk (R.getD xl 0) (R.getD xr 0) (R.getD xt 0) up un)
  have hone : rls [(Rl.mk (R.getD xl 0) (R.getD xr 0) (R.getD xt 0) up un)] = [.int .i64 (R.getD xl 0),.int .i64 (R.getD xr 0),.int .i64 (R.getD xt 0),.int .u8 (up : Nat),.int .u8 (un : Nat)] := rfl
  rcases hB with ⟨rfl,e1,e2⟩ | ⟨k,rfl,e1,e2⟩
  ·have hl0 : l = [] := List.length_eq_zero_iff.1 e1
   subst hl0
   obtain ⟨T',v',h1,h2,h3⟩ := tl3 (n := n) (N := N) (o2 := o2) (o3 := o3) hl hs hK hR hr co2 co3 d (i + 1) (T ++ [Blk.cells false false [.int .i64 (xl : Nat),.int .i64 (xr : Nat),.int .i64 (xt : Nat),.int .u8 (up : Nat),.int .u8 (un : Nat)]] ++ [.cells false false (rls [(Rl.mk (R.getD xl 0) (R.getD xr 0) (R.getD xt 0) up un)])]) (.own false (T.length + 1 + 1 + 1 + 1 + 1) 0 1 5) [(Rl.mk (R.getD xl 0) (R.getD xr 0) (R.getD xt 0) up un)] (by omega) (by simp)
    (.inr ⟨T.length + 1,rfl,by simp,by rw [xAa]⟩)
   refine ⟨T',v',?_,by simpa using h2,fun j x q1 q2 => ?_⟩
   ·simp only [List.append_assoc,List.cons_append,List.nil_append,hone] at h1
    generalize blz K = LK at *
    rw [xKn]
    simp (maxSteps := 30000000) (disch := first | assumption | omega | (simp only [WL,AV.isCell,xAb,xAa,xAL] <;> omega) | rfl | decide) only [↓reduceIte,WB,xAW,xAd,xAV,xAm,xAl,AV.cells,AV.isCell,xAc,xAi,xAj,xAz,xAA,xAB,xAC,xAD,xAE,xAX,xAF,xAG,xAn,xAH,xAo,xAp,xAI,xAq,xAr,xAk,Nat.reduceDiv,Nat.reduceMod,WP,xAT,xAM,xBm,xBl,xBk,xAP,xAS,xAN,W2,xAe,xAf,xAh,Nat.reduceAdd,Nat.reduceSub,Nat.reduceLeDiff,Nat.reduceMul,Int.reduceAdd,Int.reduceSub,Int.reduceMul,Int.reduceLT,Int.reduceLE,Int.reduceEq,Int.reduceToNat,Int.reduceNeg,Nat.reduceEqDiff,Nat.reduceBEq,Nat.reduceLT,xAb,xAJ,xAv,xAw,lfs_at0',xAa,xAs,xAx,xAy,xAQ,xAR,xA1,xAY,xAZ,xA5,xG7,xIh,hlt,hat,hkl,hR,la,laI,lb,lbI,lc,lcI,ata,atb,atc,h1]
   ·have hj := (List.getElem?_eq_some_iff.1 q2).1
    exact h3 j x (fun n es e => by cases e; omega) (by rw [List.append_assoc,List.getElem?_append_left hj]; exact q2)
  ·have hk := (List.getElem?_eq_some_iff.1 e1).1
   obtain ⟨T',v',h1,h2,h3⟩ := tl3 (n := n) (N := N) (o2 := o2) (o3 := o3) hl hs hK hR hr co2 co3 d (i + 1) (T.set k .dead ++ [Blk.cells false false [.int .i64 (xl : Nat),.int .i64 (xr : Nat),.int .i64 (xt : Nat),.int .u8 (up : Nat),.int .u8 (un : Nat)]] ++ [.cells false false (rls (l ++ [(Rl.mk (R.getD xl 0) (R.getD xr 0) (R.getD xt 0) up un)]))]) (.own false (T.length + 1 + 1 + 1 + 1 + 1) 0 (l ++ [(Rl.mk (R.getD xl 0) (R.getD xr 0) (R.getD xt 0) up un)]).length 5) (l ++ [(Rl.mk (R.getD xl 0) (R.getD xr 0) (R.getD xt 0) up un)]) (by omega) (by simp; omega)
    (.inr ⟨T.length + 1,rfl,by simp,by rw [xAa]⟩)
   refine ⟨T',v',?_,by simpa using h2,fun j x q1 q2 => ?_⟩
   ·have hll2 : (l ++ [(Rl.mk (R.getD xl 0) (R.getD xr 0) (R.getD xt 0) up un)]).length = l.length + 1 := by simp
    have hg : ∀ X : Heap,(T ++ X)[k]? = some (.cells false false (rls l)) := fun X => by rw [List.getElem?_append_left hk]; exact e1
    have hst : ∀ X : Heap,(T ++ X).set k .dead = T.set k .dead ++ X := fun X => by rw [List.set_append_left _ _ hk]
    simp only [List.append_assoc,List.cons_append,List.nil_append,hll2] at h1
    generalize blz K = LK at *
    rw [xKn]
    simp (maxSteps := 30000000) (disch := first | assumption | omega | (simp only [WL,AV.isCell,xAb,xAa,xAL] <;> omega) | rfl | decide) only [↓reduceIte,WB,xAW,xAd,xAV,xAm,xAl,AV.cells,AV.isCell,xAc,xAi,xAj,xAz,xAA,xAB,xAC,xAD,xAE,xAX,xAF,xAG,xAn,xAH,xAo,xAp,xAI,xAq,xAr,xAk,Nat.reduceDiv,Nat.reduceMod,WP,xAT,xAM,xBm,xBl,xBk,xAP,xAS,xAN,W2,xAe,xAf,xAh,Nat.reduceAdd,Nat.reduceSub,Nat.reduceLeDiff,Nat.reduceMul,Int.reduceAdd,Int.reduceSub,Int.reduceMul,Int.reduceLT,Int.reduceLE,Int.reduceEq,Int.reduceToNat,Int.reduceNeg,Nat.reduceEqDiff,Nat.reduceBEq,Nat.reduceLT,xAb,xAJ,xAv,xAw,lfs_at0',xAa,xAs,xAx,xAy,xAQ,xAR,xA1,xAY,xAZ,xA5,xG7,xIh,hlt,hat,hkl,hR,la,laI,lb,lbI,lc,lcI,ata,atb,atc,hg,hst,hsn,hcut,h1]
   ·have hj := (List.getElem?_eq_some_iff.1 q2).1
    have hjk : j ≠ k := by
     rintro rfl
     exact q1 _ _ rfl
    exact h3 j x (fun n es e => by cases e; omega) (by rw [List.append_assoc,List.getElem?_append_left (by simpa using hj),List.getElem?_set_ne (fun e => hjk e.symm)]; exact q2)
end Go.Abs.Tree
