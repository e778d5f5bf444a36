/- Results of the caller's own overwritten: any contents. -/
import Derived.Test.YtbfnjdhafgnlnaaDoorAbsBun
import Derived.Test.YtbfnjdhafgnlnaaDoorAMF
import Derived.Test.YtbfnjdhafgnlnaaDoorAMH
import Derived.Test.YtbfnjdhafgnlnaaDoorAAwake
import Derived.Test.YtbfnjdhafgnlnaaDoorAbsIn
namespace Go.Abs.NfaD
open Go Go.Abs
set_option linter.unusedSimpArgs false
set_option linter.unusedVariables false
def kOf : AV → Option Nat
 | .own _ k _ _ _ => some k
 | _ => none
structure Kept (v : AV) (G G' : Heap) : Prop where
 len : G'.length = G.length
 same : ∀ j : Nat,kOf v ≠ some j → G'[j]? = G[j]?
 lens : ∀ (j : Nat) (cs : List AV),G[j]? = some (.cells false false cs) → ∃ cs' : List AV,G'[j]? = some (.cells false false cs') ∧ cs'.length = cs.length
theorem Kept.refl (v : AV) (G : Heap) : Kept v G G := ⟨rfl,fun _ _ => rfl,fun _ cs h => ⟨cs,h,rfl⟩⟩
theorem xQu {G : Heap} {z : Bool} {k o n w : Nat} {B B' : List AV} (h : G[k]? = some (.cells false false B)) (hl : B'.length = B.length) : Kept (.own z k o n w) G (G.set k (.cells false false B')) where
 len := List.length_set
 same j hj := List.getElem?_set_ne fun e => hj (by rw [← e]; rfl)
 lens j cs hc := by
  by_cases e : k = j
  ·subst e
   rw [h] at hc
   cases hc
   exact ⟨B',by rw [List.getElem?_set_self (List.getElem?_eq_some_iff.1 h).1],hl⟩
  ·exact ⟨cs,by rw [List.getElem?_set_ne e]; exact hc,rfl⟩
def OwI (lo hi : Nat) (G : Heap) (v : AV) (w n : Nat) : Prop := (v = .sl true 0 [] ∧ n = 0) ∨ ∃ k cs,lo ≤ k ∧ k < hi ∧ v = .own false k 0 n w ∧ G[k]? = some (.cells false false cs) ∧ n * w ≤ cs.length
theorem OwI.kept {lo hi : Nat} {G G' : Heap} {v u : AV} {w n : Nat} (h : OwI lo hi G v w n) (hk : Kept u G G') : OwI lo hi G' v w n := by
 rcases h with h | ⟨k,cs,h1,h0,h2,h3,h4⟩
 ·exact .inl h
 ·obtain ⟨cs',h5,h6⟩ := hk.lens k cs h3
  exact .inr ⟨k,cs',h1,h0,h2,h5,by omega⟩
theorem OwI.app {lo hi : Nat} {G : Heap} {v : AV} {w n : Nat} (h : OwI lo hi G v w n) (X : Heap) : OwI lo hi (G ++ X) v w n := by
 rcases h with h | ⟨k,cs,h1,h0,h2,h3,h4⟩
 ·exact .inl h
 ·exact .inr ⟨k,cs,h1,h0,h2,xBh h3,h4⟩
theorem OwI.kof {lo hi : Nat} {G : Heap} {v : AV} {w n j : Nat} (h : OwI lo hi G v w n) (hj : kOf v = some j) : lo ≤ j ∧ j < hi := by
 rcases h with ⟨rfl,_⟩ | ⟨k,cs,h1,h0,rfl,h3,h4⟩
 ·cases hj
 ·cases hj
  exact ⟨h1,h0⟩
theorem xXT {k n : Nat} (hn : n < 1099511627776) : ∀ d i B (G : Heap),i + d = n → n ≤ B.length → G[k]? = some (.cells false false B) →
  ∃ B' : List AV,B'.length = B.length ∧ L.loop xSg xZG ⟨xSh (.own false k 0 n 1) (.int .i64 (i : Nat)),G⟩ = some (.exit 0,⟨xSh (.own false k 0 n 1) (.int .i64 (n : Nat)),G.set k (.cells false false B')⟩)
 | 0,i,B,G,h,hB,hk => by
  obtain rfl : i = n := by omega
  refine ⟨B,rfl,?_⟩
  have hself : G.set k (.cells false false B) = G := by
   apply List.ext_getElem?
   intro j
   rw [List.getElem?_set]
   by_cases e : k = j
   ·subst e
    rw [if_pos rfl,if_pos (List.getElem?_eq_some_iff.1 hk).1,hk]
   ·rw [if_neg e]
  rw [hself,xXq]
  simp (maxSteps := 30000000) (disch := first | assumption | omega | (simp only [WL,AV.isCell,xAa] <;> omega) | rfl | decide) only [↓reduceIte,WB,xAR,xAc,xAQ,xAD,xAC,AV.cells,AV.isCell,xAb,xAj,xAk,xAs,xAt,xAu,xAv,xAw,xAx,xAL,xAy,xAz,xAl,xAA,xAm,xAn,xAB,xAo,xAp,xAf,Nat.reduceDiv,Nat.reduceMod,WP,xAI,xAF,xAX,xAW,xAV,xAG,xAH,xAE,W2,xAd,xAe,xAi,Nat.reduceAdd,Nat.reduceSub,Nat.reduceLeDiff,Nat.reduceMul,Int.reduceAdd,Int.reduceSub,Int.reduceMul,Int.reduceLT,Int.reduceLE,Int.reduceEq,Int.reduceToNat,Int.reduceNeg,Nat.reduceEqDiff,Nat.reduceBEq,Nat.reduceLT,xAa,xAg,xAq,xAr,xSf,xUI]
 | d + 1,i,B,G,h,hB,hk => by
  have hlt : (i : Int) < (n : Nat) := by omega
  have hkl := (List.getElem?_eq_some_iff.1 hk).1
  have hl : (B.take i ++ .int .i64 (-77) :: B.drop (i + 1)).length = B.length := by simp only [List.length_append,List.length_take,List.length_cons,List.length_drop]; omega
  obtain ⟨B',h1,ih⟩ := xXT (k := k) hn d (i + 1) (B.take i ++ .int .i64 (-77) :: B.drop (i + 1)) (G.set k (.cells false false (B.take i ++ .int .i64 (-77) :: B.drop (i + 1)))) (by omega) (by omega) (by simp [hkl])
  rw [List.set_set] at ih
  refine ⟨B',by omega,?_⟩
  rw [xXq]
  simp (maxSteps := 30000000) (disch := first | assumption | omega | (simp only [WL,AV.isCell,xAa] <;> omega) | rfl | decide) only [↓reduceIte,WB,xAR,xAc,xAQ,xAD,xAC,AV.cells,AV.isCell,xAb,xAj,xAk,xAs,xAt,xAu,xAv,xAw,xAx,xAL,xAy,xAz,xAl,xAA,xAm,xAn,xAB,xAo,xAp,xAf,Nat.reduceDiv,Nat.reduceMod,WP,xAI,xAF,xAX,xAW,xAV,xAG,xAH,xAE,W2,xAd,xAe,xAi,Nat.reduceAdd,Nat.reduceSub,Nat.reduceLeDiff,Nat.reduceMul,Int.reduceAdd,Int.reduceSub,Int.reduceMul,Int.reduceLT,Int.reduceLE,Int.reduceEq,Int.reduceToNat,Int.reduceNeg,Nat.reduceEqDiff,Nat.reduceBEq,Nat.reduceLT,xAa,xAg,xAq,xAr,xSf,xUI,hlt,hk,ih]
theorem xXU {k n : Nat} (hn : n < 1000000) : ∀ d i B (G : Heap),i + d = n → n * 4 ≤ B.length → G[k]? = some (.cells false false B) →
  ∃ B' : List AV,B'.length = B.length ∧ L.loop xSj xZH ⟨xSk (.own false k 0 n 4) (.int .i64 (i : Nat)),G⟩ = some (.exit 0,⟨xSk (.own false k 0 n 4) (.int .i64 (n : Nat)),G.set k (.cells false false B')⟩)
 | 0,i,B,G,h,hB,hk => by
  obtain rfl : i = n := by omega
  refine ⟨B,rfl,?_⟩
  have hself : G.set k (.cells false false B) = G := by
   apply List.ext_getElem?
   intro j
   rw [List.getElem?_set]
   by_cases e : k = j
   ·subst e
    rw [if_pos rfl,if_pos (List.getElem?_eq_some_iff.1 hk).1,hk]
   ·rw [if_neg e]
  rw [hself,xXr]
  simp (maxSteps := 30000000) (disch := first | assumption | omega | (simp only [WL,AV.isCell,xAa] <;> omega) | rfl | decide) only [↓reduceIte,WB,xAR,xAc,xAQ,xAD,xAC,AV.cells,AV.isCell,xAb,xAj,xAk,xAs,xAt,xAu,xAv,xAw,xAx,xAL,xAy,xAz,xAl,xAA,xAm,xAn,xAB,xAo,xAp,xAf,Nat.reduceDiv,Nat.reduceMod,WP,xAI,xAF,xAX,xAW,xAV,xAG,xAH,xAE,W2,xAd,xAe,xAi,Nat.reduceAdd,Nat.reduceSub,Nat.reduceLeDiff,Nat.reduceMul,Int.reduceAdd,Int.reduceSub,Int.reduceMul,Int.reduceLT,Int.reduceLE,Int.reduceEq,Int.reduceToNat,Int.reduceNeg,Nat.reduceEqDiff,Nat.reduceBEq,Nat.reduceLT,xAa,xAg,xAq,xAr,xSi,xUJ]
 | d + 1,i,B,G,h,hB,hk => by
  have hlt : (i : Int) < (n : Nat) := by omega
  have hkl := (List.getElem?_eq_some_iff.1 hk).1
  have hle : i * 4 + 4 ≤ B.length := by omega
  have hl : (B.take (i * 4) ++ (([.int .i64 (-7),.int .i64 0,.int .u8 0,.int .u8 0] : List AV) ++ B.drop (i * 4 + 4))).length = B.length := by simp only [List.length_append,List.length_take,List.length_cons,List.length_drop,List.length_nil]; omega
  obtain ⟨B',h1,ih⟩ := xXU (k := k) hn d (i + 1) (B.take (i * 4) ++ (([.int .i64 (-7),.int .i64 0,.int .u8 0,.int .u8 0] : List AV) ++ B.drop (i * 4 + 4))) (G.set k (.cells false false (B.take (i * 4) ++ (([.int .i64 (-7),.int .i64 0,.int .u8 0,.int .u8 0] : List AV) ++ B.drop (i * 4 + 4))))) (by omega) (by omega) (by simp [hkl])
  rw [List.set_set] at ih
  simp only [List.cons_append,List.nil_append] at ih
  refine ⟨B',by omega,?_⟩
  rw [xXr]
  simp (maxSteps := 30000000) (disch := first | assumption | omega | (simp only [WL,AV.isCell,xAa] <;> omega) | rfl | decide) only [↓reduceIte,WB,xAR,xAc,xAQ,xAD,xAC,AV.cells,AV.isCell,xAb,xAj,xAk,xAs,xAt,xAu,xAv,xAw,xAx,xAL,xAy,xAz,xAl,xAA,xAm,xAn,xAB,xAo,xAp,xAf,Nat.reduceDiv,Nat.reduceMod,WP,xAI,xAF,xAX,xAW,xAV,xAG,xAH,xAE,W2,xAd,xAe,xAi,Nat.reduceAdd,Nat.reduceSub,Nat.reduceLeDiff,Nat.reduceMul,Int.reduceAdd,Int.reduceSub,Int.reduceMul,Int.reduceLT,Int.reduceLE,Int.reduceEq,Int.reduceToNat,Int.reduceNeg,Nat.reduceEqDiff,Nat.reduceBEq,Nat.reduceLT,xAa,xAg,xAq,xAr,xSi,xUJ,hlt,hk,hle,ih]
theorem xXV {lo hi n : Nat} {G : Heap} {v : AV} (h : OwI lo hi G v 1 n) (hn : n < 1099511627776) : ∃ G',L.icall (.func 23 []) [v] G = some (.tup [],G') ∧ Kept v G G' := by
 rcases h with ⟨rfl,_⟩ | ⟨k,cs,h1,h0,rfl,h3,h4⟩
 ·exact ⟨G,xZ0 G,Kept.refl _ _⟩
 ·refine ⟨_,by rw [xZY,h3,xZZ (by omega) hn],xQu h3 ?_⟩
  simp only [List.length_append,s77,List.length_replicate,List.length_drop]; omega
theorem xXW {lo hi n : Nat} {G : Heap} {v : AV} (h : OwI lo hi G v 1 n) (hn : n < 1099511627776) : ∃ G',L.icall (.func 51 []) [v] G = some (.tup [],G') ∧ Kept v G G' := by
 rcases h with ⟨rfl,_⟩ | ⟨k,cs,h1,h0,rfl,h3,h4⟩
 ·refine ⟨G,?_,Kept.refl _ _⟩
  rw [yD0,a51,xA3]
  simp (maxSteps := 30000000) (disch := first | assumption | omega | (simp only [WL,AV.isCell,xAa] <;> omega) | rfl | decide) only [↓reduceIte,WB,xAR,xAc,xAQ,xAD,xAC,AV.cells,AV.isCell,xAb,xAj,xAk,xAs,xAt,xAu,xAv,xAw,xAx,xAL,xAy,xAz,xAl,xAA,xAm,xAn,xAB,xAo,xAp,xAf,Nat.reduceDiv,Nat.reduceMod,WP,xAI,xAF,xAX,xAW,xAV,xAG,xAH,xAE,W2,xAd,xAe,xAi,Nat.reduceAdd,Nat.reduceSub,Nat.reduceLeDiff,Nat.reduceMul,Int.reduceAdd,Int.reduceSub,Int.reduceMul,Int.reduceLT,Int.reduceLE,Int.reduceEq,Int.reduceToNat,Int.reduceNeg,Nat.reduceEqDiff,Nat.reduceBEq,Nat.reduceLT,xAa,xAg,xAq,xAr,xUI,xXq,xSf]
 ·obtain ⟨B',h5,h6⟩ := xXT (k := k) hn n 0 cs G (by omega) (by omega) h3
  simp only [Int.natCast_zero] at h6
  refine ⟨_,?_,xQu h3 h5⟩
  rw [yD0,a51,xA3]
  simp (maxSteps := 30000000) (disch := first | assumption | omega | (simp only [WL,AV.isCell,xAa] <;> omega) | rfl | decide) only [↓reduceIte,WB,xAR,xAc,xAQ,xAD,xAC,AV.cells,AV.isCell,xAb,xAj,xAk,xAs,xAt,xAu,xAv,xAw,xAx,xAL,xAy,xAz,xAl,xAA,xAm,xAn,xAB,xAo,xAp,xAf,Nat.reduceDiv,Nat.reduceMod,WP,xAI,xAF,xAX,xAW,xAV,xAG,xAH,xAE,W2,xAd,xAe,xAi,Nat.reduceAdd,Nat.reduceSub,Nat.reduceLeDiff,Nat.reduceMul,Int.reduceAdd,Int.reduceSub,Int.reduceMul,Int.reduceLT,Int.reduceLE,Int.reduceEq,Int.reduceToNat,Int.reduceNeg,Nat.reduceEqDiff,Nat.reduceBEq,Nat.reduceLT,xAa,xAg,xAq,xAr,xUI,h6]
theorem yBA {lo hi n : Nat} {G : Heap} {v : AV} (h : OwI lo hi G v 4 n) (hn : n < 1000000) : ∃ G',L.icall (.func 52 []) [v] G = some (.tup [],G') ∧ Kept v G G' := by
 rcases h with ⟨rfl,_⟩ | ⟨k,cs,h1,h0,rfl,h3,h4⟩
 ·refine ⟨G,?_,Kept.refl _ _⟩
  rw [yD1,a52,xA3]
  simp (maxSteps := 30000000) (disch := first | assumption | omega | (simp only [WL,AV.isCell,xAa] <;> omega) | rfl | decide) only [↓reduceIte,WB,xAR,xAc,xAQ,xAD,xAC,AV.cells,AV.isCell,xAb,xAj,xAk,xAs,xAt,xAu,xAv,xAw,xAx,xAL,xAy,xAz,xAl,xAA,xAm,xAn,xAB,xAo,xAp,xAf,Nat.reduceDiv,Nat.reduceMod,WP,xAI,xAF,xAX,xAW,xAV,xAG,xAH,xAE,W2,xAd,xAe,xAi,Nat.reduceAdd,Nat.reduceSub,Nat.reduceLeDiff,Nat.reduceMul,Int.reduceAdd,Int.reduceSub,Int.reduceMul,Int.reduceLT,Int.reduceLE,Int.reduceEq,Int.reduceToNat,Int.reduceNeg,Nat.reduceEqDiff,Nat.reduceBEq,Nat.reduceLT,xAa,xAg,xAq,xAr,xUJ,xXr,xSi]
 ·obtain ⟨B',h5,h6⟩ := xXU (k := k) hn n 0 cs G (by omega) (by omega) h3
  simp only [Int.natCast_zero] at h6
  refine ⟨_,?_,xQu h3 h5⟩
  rw [yD1,a52,xA3]
  simp (maxSteps := 30000000) (disch := first | assumption | omega | (simp only [WL,AV.isCell,xAa] <;> omega) | rfl | decide) only [↓reduceIte,WB,xAR,xAc,xAQ,xAD,xAC,AV.cells,AV.isCell,xAb,xAj,xAk,xAs,xAt,xAu,xAv,xAw,xAx,xAL,xAy,xAz,xAl,xAA,xAm,xAn,xAB,xAo,xAp,xAf,Nat.reduceDiv,Nat.reduceMod,WP,xAI,xAF,xAX,xAW,xAV,xAG,xAH,xAE,W2,xAd,xAe,xAi,Nat.reduceAdd,Nat.reduceSub,Nat.reduceLeDiff,Nat.reduceMul,Int.reduceAdd,Int.reduceSub,Int.reduceMul,Int.reduceLT,Int.reduceLE,Int.reduceEq,Int.reduceToNat,Int.reduceNeg,Nat.reduceEqDiff,Nat.reduceBEq,Nat.reduceLT,xAa,xAg,xAq,xAr,xUJ,h6]
structure Stay (lo hi : Nat) (G G' : Heap) : Prop where
 len : G.length ≤ G'.length
 same : ∀ j : Nat,j < G.length → (j < lo ∨ hi ≤ j) → G'[j]? = G[j]?
 lens : ∀ (j : Nat) (cs : List AV),G[j]? = some (.cells false false cs) → ∃ cs' : List AV,G'[j]? = some (.cells false false cs') ∧ cs'.length = cs.length
theorem OwI.stay {lo hi : Nat} {G G' : Heap} {v : AV} {w n : Nat} (h : OwI lo hi G v w n) {lo' hi' : Nat} (hk : Stay lo' hi' G G') : OwI lo hi G' v w n := by
 rcases h with h | ⟨k,cs,h1,h0,h2,h3,h4⟩
 ·exact .inl h
 ·obtain ⟨cs',h5,h6⟩ := hk.lens k cs h3
  exact .inr ⟨k,cs',h1,h0,h2,h5,by omega⟩
theorem Kept.stay {lo hi n w : Nat} {G G' : Heap} {v : AV} (h : Kept v G G') (hv : OwI lo hi G v w n) : Stay lo hi G G' where
 len := by rw [h.len]; exact Nat.le_refl _
 same j _ hj := h.same j fun e => by have := hv.kof e; omega
 lens := h.lens
theorem OwI.cell {lo hi : Nat} {G : Heap} {v : AV} {w n : Nat} (h : OwI lo hi G v w n) : v.isCell = true := by
 rcases h with ⟨rfl,_⟩ | ⟨k,_,_,_,rfl,_⟩ <;> rfl
theorem Stay.get {lo hi j : Nat} {G G' : Heap} {x : Blk} (h : Stay lo hi G G') (hj : j < lo ∨ hi ≤ j) (hg : G[j]? = some x) : G'[j]? = some x := (h.same j (List.getElem?_eq_some_iff.1 hg).1 hj).trans hg
set_option maxHeartbeats 4000000 in
theorem xTI {lo hi n1 n2 n3 : Nat} {G : Heap} {x y f1 f2 f3 : AV} (hx : x.isCell = true) (hy : y.isCell = true) (h1 : OwI lo hi G f1 1 n1) (h2 : OwI lo hi G f2 1 n2) (h3 : OwI lo hi G f3 4 n3) (l1 : n1 < 1099511627776) (l2 : n2 < 1099511627776) (l3 : n3 < 1000000) (hb : hi ≤ G.length) :
  ∃ G',L.icall (.func 24 []) [.agg [x,y,f1,f2,f3]] G = some (.tup [],G') ∧ Stay lo hi G G' := by
 have hcell : [x,y,f1,f2,f3].all AV.isCell = true := by
  simp only [List.all_cons,List.all_nil,hx,hy,h1.cell,h2.cell,h3.cell]; rfl
 have p0 : (G ++ [Blk.cells false false [x,y,f1,f2,f3]])[G.length]? = some (.cells false false [x,y,f1,f2,f3]) := List.getElem?_concat_length
 have q1 := h1.app [Blk.cells false false [x,y,f1,f2,f3]]
 have q2 := h2.app [Blk.cells false false [x,y,f1,f2,f3]]
 have q3 := h3.app [Blk.cells false false [x,y,f1,f2,f3]]
 obtain ⟨G1,e1,k1⟩ := xXW q1 l1
 have s1 := k1.stay q1
 have p1 := s1.get (.inr hb) p0
 obtain ⟨G2,e2,k2⟩ := xXW (q2.kept k1) l2
 have s2 := k2.stay (q2.kept k1)
 have p2 := s2.get (.inr hb) p1
 obtain ⟨G3,e3,k3⟩ := yBA ((q3.kept k1).kept k2) l3
 have s3 := k3.stay ((q3.kept k1).kept k2)
 have hst : Stay lo hi G G3 := by
  have hl1 := k1.len
  have hl2 := k2.len
  have hl3 := k3.len
  simp only [List.length_append,List.length_cons,List.length_nil] at hl1
  refine ⟨by omega,fun j hj hlo => ?_,fun j cs hj => ?_⟩
  ·rw [s3.same j (by omega) hlo,s2.same j (by omega) hlo,s1.same j (by simp; omega) hlo,List.getElem?_append_left hj]
  ·obtain ⟨c1,g1,m1⟩ := k1.lens j cs (xBh hj)
   obtain ⟨c2,g2,m2⟩ := k2.lens j c1 g1
   obtain ⟨c3,g3,m3⟩ := k3.lens j c2 g2
   exact ⟨c3,g3,by omega⟩
 refine ⟨G3,?_,hst⟩
 rw [yEm,a24,xA3]
 simp (maxSteps := 30000000) (disch := first | assumption | omega | (simp only [WL,AV.isCell,xAa] <;> omega) | rfl | decide) only [↓reduceIte,WB,xAR,xAc,xAQ,xAD,xAC,AV.cells,AV.isCell,xAb,xAj,xAk,xAs,xAt,xAu,xAv,xAw,xAx,xAL,xAy,xAz,xAl,xAA,xAm,xAn,xAB,xAo,xAp,xAf,Nat.reduceDiv,Nat.reduceMod,WP,xAI,xAF,xAX,xAW,xAV,xAG,xAH,xAE,W2,xAd,xAe,xAi,Nat.reduceAdd,Nat.reduceSub,Nat.reduceLeDiff,Nat.reduceMul,Int.reduceAdd,Int.reduceSub,Int.reduceMul,Int.reduceLT,Int.reduceLE,Int.reduceEq,Int.reduceToNat,Int.reduceNeg,Nat.reduceEqDiff,Nat.reduceBEq,Nat.reduceLT,xAa,xAg,xAq,xAr,hcell,p0,p1,p2,e1,e2,e3]
theorem xXX (k : Nat) (vs : List AV) : xAG k (.tup vs) = .tup (vs.map (xAH k)) := rfl
theorem xXY (k : Nat) (vs : List AV) : xAH k (.agg vs) = .agg (vs.map (xAE k)) := rfl
theorem xXZ (k : Nat) (i : IntKind) (n : Int) : xAH k (.int i n) = .int i n := rfl
theorem xX0 (k : Nat) (i : IntKind) (n : Int) : xAE k (.int i n) = .int i n := rfl
set_option maxRecDepth 20000 in
set_option maxHeartbeats 8000000 in
theorem xV1 {m0 m1 : Int} {zm1 zm2 zm3 : Bool} {nm1 nm2 nm3 : Nat} {cm1 cm2 cm3 : List AV} {zn1 zn2 zn3 : Bool} {nn1 nn2 nn3 : Nat} {cn1 cn2 cn3 : List AV} {o0 o1 : Int} {zo1 zo2 zo3 : Bool} {no1 no2 no3 : Nat} {co1 co2 co3 : List AV}
  {G B1 B2 B3 B4 B5 Bl3 Bl4 Bl5 G1 G2 G3 G4 G5 G6 G7 G8 G9 G10 G11 G12 G13 : Heap}
  {zLA zLB zsA zsB zct1 zct2 zct3 zcb1 zcb2 zcb3 zcu1 zcu2 zcu3 : Bool} {nLA nLB nsA nsB nct1 nct2 nct3 ncb1 ncb2 ncb3 ncu1 ncu2 ncu3 : Nat} {kLA kLB ksA ksB kct1 kct2 kct3 kcb1 kcb2 kcb3 kcu1 kcu2 kcu3 : List AV}
  {u1 w1 k1 u2 w2 k2 t1 t2 t3 y1 y2 y3 a1 a2 a3 r1 r2 r3 x1 x2 x3 b1 b2 b3 q1 q2 q3 v1 v2 v3 d1 d2 d3 : AV} {e f g h r c0 c1 s0 s1 p0 p1 : Int}
  (hr : r < 2) (hr0 : 0 ≤ r)
  (h15 : xBw L 15 [.agg [.int .i64 m0,.int .i64 m1,.sl zm1 nm1 cm1,.sl zm2 nm2 cm2,.sl zm3 nm3 cm3]] = some (.tup [u1,.int .i64 e],B1))
  (h16 : xBw L 16 [.agg [.int .i64 m0,.int .i64 m1,.sl zm1 nm1 cm1,.sl zm2 nm2 cm2,.sl zm3 nm3 cm3]] = some (.tup [u2,.int .i64 e],B2))
  (h17 : xCZ L 17 [.agg [.int .i64 m0,.int .i64 m1,.sl zm1 nm1 cm1,.sl zm2 nm2 cm2,.sl zm3 nm3 cm3]] = some (.tup [.agg [.int .i64 c0,.int .i64 c1,t1,t2,t3],.int .i64 f],B3))
  (h18 : xCZ L 18 [.agg [.int .i64 m0,.int .i64 m1,.sl zm1 nm1 cm1,.sl zm2 nm2 cm2,.sl zm3 nm3 cm3]] = some (.tup [.agg [.int .i64 s0,.int .i64 s1,r1,r2,r3],.int .i64 g],B4))
  (h19 : xCZ L 19 [.agg [.int .i64 m0,.int .i64 m1,.sl zm1 nm1 cm1,.sl zm2 nm2 cm2,.sl zm3 nm3 cm3],.agg [.int .i64 o0,.int .i64 o1,.sl zo1 no1 co1,.sl zo2 no2 co2,.sl zo3 no3 co3]] = some (.tup [.agg [.int .i64 p0,.int .i64 p1,q1,q2,q3],.int .i64 h],B5))
  (hA : L.pcall 21 [(.sl zLA nLA kLA),.int .i64 e] = some (.sl zsA nsA ksA)) (hB : L.pcall 21 [(.sl zLB nLB kLB),.int .i64 e] = some (.sl zsB nsB ksB))
  (sa : L.pcall 20 [k1,(.sl zsA nsA ksA)] = some (.bool true)) (sb : L.pcall 20 [k2,(.sl zsB nsB ksB)] = some (.bool true))
  (st : L.pcall 22 [.agg [.int .i64 c0,.int .i64 c1,a1,a2,a3],.agg [.int .i64 c0,.int .i64 c1,(.sl zct1 nct1 kct1),(.sl zct2 nct2 kct2),(.sl zct3 nct3 kct3)]] = some (.bool true))
  (sr : L.pcall 22 [.agg [.int .i64 s0,.int .i64 s1,b1,b2,b3],.agg [.int .i64 s0,.int .i64 s1,(.sl zcb1 ncb1 kcb1),(.sl zcb2 ncb2 kcb2),(.sl zcb3 ncb3 kcb3)]] = some (.bool true))
  (su : L.pcall 22 [.agg [.int .i64 p0,.int .i64 p1,d1,d2,d3],.agg [.int .i64 p0,.int .i64 p1,(.sl zcu1 ncu1 kcu1),(.sl zcu2 ncu2 kcu2),(.sl zcu3 ncu3 kcu3)]] = some (.bool true))
  (sm : L.pcall 22 [.agg [.int .i64 m0,.int .i64 m1,.sl zm1 nm1 cm1,.sl zm2 nm2 cm2,.sl zm3 nm3 cm3],.agg [.int .i64 m0,.int .i64 m1,.sl zn1 nn1 cn1,.sl zn2 nn2 cn2,.sl zn3 nn3 cn3]] = some (.bool true))
  (g1 : xAH G.length u1 = w1) (e1 : G ++ B1 = G1)
  (g2 : xAH G1.length u2 = w2) (e2 : G1 ++ B2 = G2)
  (g3 : xAE G2.length t1 = y1) (g4 : xAE G2.length t2 = y2) (g5 : xAE G2.length t3 = y3) (l3 : B3.map (xFr G2.length) = Bl3) (e3 : G2 ++ Bl3 = G3)
  (e4 : G3 ++ [Blk.cells false false [.int .i64 c0,.int .i64 c1,y1,y2,y3]] = G4)
  (g6 : xAE G4.length r1 = x1) (g7 : xAE G4.length r2 = x2) (g8 : xAE G4.length r3 = x3) (l4 : B4.map (xFr G4.length) = Bl4) (e5 : G4 ++ Bl4 = G5)
  (e6 : G5 ++ [Blk.cells false false [.int .i64 s0,.int .i64 s1,x1,x2,x3]] = G6)
  (g9 : xAE G6.length q1 = v1) (g10 : xAE G6.length q2 = v2) (g11 : xAE G6.length q3 = v3) (l5 : B5.map (xFr G6.length) = Bl5) (e7 : G6 ++ Bl5 = G7)
  (e8 : G7 ++ [Blk.cells false false [.int .i64 p0,.int .i64 p1,v1,v2,v3]] = G8)
  (j1 : ([AV.int .i64 c0,.int .i64 c1,y1,y2,y3]).all AV.isCell = true)
  (j2 : ([AV.int .i64 s0,.int .i64 s1,x1,x2,x3]).all AV.isCell = true)
  (j3 : ([AV.int .i64 p0,.int .i64 p1,v1,v2,v3]).all AV.isCell = true)
  (b0 : G[5]? = some (Blk.cells false false [.int .i64 m0,.int .i64 m1,.sl zm1 nm1 cm1,.sl zm2 nm2 cm2,.sl zm3 nm3 cm3]))
  (b1' : G1[5]? = some (Blk.cells false false [.int .i64 m0,.int .i64 m1,.sl zm1 nm1 cm1,.sl zm2 nm2 cm2,.sl zm3 nm3 cm3]))
  (b2' : G2[5]? = some (Blk.cells false false [.int .i64 m0,.int .i64 m1,.sl zm1 nm1 cm1,.sl zm2 nm2 cm2,.sl zm3 nm3 cm3]))
  (b4 : G4[5]? = some (Blk.cells false false [.int .i64 m0,.int .i64 m1,.sl zm1 nm1 cm1,.sl zm2 nm2 cm2,.sl zm3 nm3 cm3]))
  (b6 : G6[5]? = some (Blk.cells false false [.int .i64 m0,.int .i64 m1,.sl zm1 nm1 cm1,.sl zm2 nm2 cm2,.sl zm3 nm3 cm3]))
  (b6o : G6[1]? = some (Blk.cells false false [.int .i64 o0,.int .i64 o1,.sl zo1 no1 co1,.sl zo2 no2 co2,.sl zo3 no3 co3]))
  (b8 : G8[5]? = some (Blk.cells false false [.int .i64 m0,.int .i64 m1,.sl zm1 nm1 cm1,.sl zm2 nm2 cm2,.sl zm3 nm3 cm3]))
  (b80 : G8[0]? = some (Blk.cells false false [.int .i64 m0,.int .i64 m1,.sl zn1 nn1 cn1,.sl zn2 nn2 cn2,.sl zn3 nn3 cn3]))
  (b82 : G8[2]? = some (Blk.cells false false [.int .i64 c0,.int .i64 c1,(.sl zct1 nct1 kct1),(.sl zct2 nct2 kct2),(.sl zct3 nct3 kct3)]))
  (b83 : G8[3]? = some (Blk.cells false false [.int .i64 s0,.int .i64 s1,(.sl zcb1 ncb1 kcb1),(.sl zcb2 ncb2 kcb2),(.sl zcb3 ncb3 kcb3)]))
  (b84 : G8[4]? = some (Blk.cells false false [.int .i64 p0,.int .i64 p1,(.sl zcu1 ncu1 kcu1),(.sl zcu2 ncu2 kcu2),(.sl zcu3 ncu3 kcu3)]))
  (z3 : G8[G3.length]? = some (Blk.cells false false [.int .i64 c0,.int .i64 c1,y1,y2,y3]))
  (z5 : G8[G5.length]? = some (Blk.cells false false [.int .i64 s0,.int .i64 s1,x1,x2,x3]))
  (z7 : G8[G7.length]? = some (Blk.cells false false [.int .i64 p0,.int .i64 p1,v1,v2,v3]))
  (f1 : frz 6 G8 w1 = some k1) (f2 : frz 6 G8 w2 = some k2)
  (fy1 : frz 5 G8 y1 = some a1) (fy2 : frz 5 G8 y2 = some a2) (fy3 : frz 5 G8 y3 = some a3)
  (fx1 : frz 5 G8 x1 = some b1) (fx2 : frz 5 G8 x2 = some b2) (fx3 : frz 5 G8 x3 = some b3)
  (fv1 : frz 5 G8 v1 = some d1) (fv2 : frz 5 G8 v2 = some d2) (fv3 : frz 5 G8 v3 = some d3)
  (i1 : L.icall (.func 23 []) [w1] G8 = some (.tup [],G9))
  (i2 : L.icall (.func 23 []) [w2] G9 = some (.tup [],G10))
  (z10 : G10[G3.length]? = some (Blk.cells false false [.int .i64 c0,.int .i64 c1,y1,y2,y3]))
  (i3 : L.icall (.func 24 []) [.agg [.int .i64 c0,.int .i64 c1,y1,y2,y3]] G10 = some (.tup [],G11))
  (z11 : G11[G5.length]? = some (Blk.cells false false [.int .i64 s0,.int .i64 s1,x1,x2,x3]))
  (i4 : L.icall (.func 24 []) [.agg [.int .i64 s0,.int .i64 s1,x1,x2,x3]] G11 = some (.tup [],G12))
  (z12 : G12[G7.length]? = some (Blk.cells false false [.int .i64 p0,.int .i64 p1,v1,v2,v3]))
  (i5 : L.icall (.func 24 []) [.agg [.int .i64 p0,.int .i64 p1,v1,v2,v3]] G12 = some (.tup [],G13)) :
  L.loop xQn yAn ⟨xQo (.ptr 0 0) (.ptr 1 0) (.bool false) (.int .i64 e) (.sl zLA nLA kLA) (.sl zLB nLB kLB) (.ptr 2 0) (.int .i64 f) (.ptr 3 0) (.int .i64 g) (.ptr 4 0) (.int .i64 h) (.ptr 5 0) (.int .i64 r),G⟩ =
   L.loop xQn yAn ⟨xQo (.ptr 0 0) (.ptr 1 0) (.bool false) (.int .i64 e) (.sl zLA nLA kLA) (.sl zLB nLB kLB) (.ptr 2 0) (.int .i64 f) (.ptr 3 0) (.int .i64 g) (.ptr 4 0) (.int .i64 h) (.ptr 5 0) (.int .i64 (r + 1)),G13⟩ := by
 have hw : IntKind.i64.wrap (r + 1) = r + 1 := by have : r = 0 ∨ r = 1 := by omega
                                                  rcases this with rfl | rfl <;> rfl
 rw [yCj]
 simp (maxSteps := 30000000) (disch := first | assumption | omega | (simp only [WL,AV.isCell,xAa] <;> omega) | rfl | decide) only [↓reduceIte,WB,xAR,xAc,xAQ,xAD,xAC,AV.cells,AV.isCell,xAb,xAs,xAt,xAu,xAv,xAw,xAx,xAL,xAy,xAz,xAl,xAA,xAm,xAn,xAB,xAo,xAp,xAf,Nat.reduceDiv,Nat.reduceMod,WP,xAI,xAF,xAX,xAW,xAV,W2,xAd,xAe,xAi,Nat.reduceAdd,Nat.reduceSub,Nat.reduceLeDiff,Nat.reduceMul,Int.reduceAdd,Int.reduceSub,Int.reduceMul,Int.reduceLT,Int.reduceLE,Int.reduceEq,Int.reduceToNat,Int.reduceNeg,Nat.reduceEqDiff,Nat.reduceBEq,Nat.reduceLT,xXI,xSA,xXJ,xXX,xXY,xXZ,xX0,xZf,xZg,hw,hr,h15,h16,h17,h18,h19,hA,hB,sa,sb,st,sr,su,sm,g1,g2,g3,g4,g5,g6,g7,g8,g9,g10,g11,e1,e2,e3,e4,e5,e6,e7,e8,l3,l4,l5,j1,j2,j3,b0,b1',b2',b4,b6,b6o,b8,b80,b82,b83,b84,z3,z5,z7,f1,f2,fy1,fy2,fy3,fx1,fx2,fx3,fv1,fv2,fv3,i1,i2,z10,i3,z11,i4,z12,i5]
def Plain (cs : List AV) : Prop := ∀ c ∈ cs,∃ k n,c = AV.int k n
theorem Plain.rel {cs : List AV} (h : Plain cs) : cs.all xAV = true := by
 rw [List.all_eq_true]; intro a ha; obtain ⟨k,n,rfl⟩ := h a ha; rfl
theorem Plain.map {cs : List AV} (h : Plain cs) (L : Nat) : cs.map (xAE L) = cs := by
 refine (List.map_congr_left fun a ha => ?_).trans (List.map_id _)
 obtain ⟨k,n,rfl⟩ := h a ha; rfl
theorem xFi (l : List Int) : Plain (xBd l) := fun a ha => by obtain ⟨x,_,rfl⟩ := List.mem_map.1 ha; exact ⟨_,_,rfl⟩
theorem xSC {H B T' : Heap} {id : Nat} {fz z : Bool} {cs : List AV} (h : B[id]? = some (.cells fz z cs)) (hr : Plain cs) : (H ++ (B.map (xFr H.length) ++ T'))[H.length + id]? = some (.cells fz z cs) := by
 have hl := (List.getElem?_eq_some_iff.1 h).1
 rw [List.getElem?_append_right (by omega),Nat.add_sub_cancel_left,List.getElem?_append_left (by simpa using hl),List.getElem?_map,h]
 simp only [Option.map_some,xFr,hr.rel,if_true,hr.map]
theorem OwF.put {H B T' : Heap} {v : AV} {w n : Nat} {cs : List AV} (h : OwF B v w n cs) (hp : Plain cs) (hf : ∀ d H,cs.mapM (frz d H) = some cs) :
  OwI H.length (H.length + B.length) (H ++ (B.map (xFr H.length) ++ T')) (xAE H.length v) w n ∧ ∃ z,∀ d,frz (d + 1) (H ++ (B.map (xFr H.length) ++ T')) (xAE H.length v) = some (.sl z n cs) := by
 have h' : OwF (H ++ (B.map (xFr H.length) ++ T')) (xAE H.length v) w n cs := by
  rcases h with ⟨rfl,h1,h2⟩ | ⟨k,rfl,hg,hl⟩
  ·exact .inl ⟨rfl,h1,h2⟩
  ·exact .inr ⟨H.length + k,rfl,xSC hg hp,hl⟩
 refine ⟨?_,?_⟩
 ·rcases h with ⟨rfl,h1,h2⟩ | ⟨k,rfl,hg,hl⟩
  ·exact .inl ⟨rfl,h1⟩
  ·have := (List.getElem?_eq_some_iff.1 hg).1
   exact .inr ⟨H.length + k,cs,by omega,by omega,rfl,xSC hg hp,by omega⟩
 ·obtain ⟨z,_,hz⟩ := h'.frzL hf
  exact ⟨z,hz⟩
theorem OwnS.put {H B T' : Heap} {u : AV} {r : List Nat} (h : OwnS u B r) :
  OwI H.length (H.length + B.length) (H ++ (B ++ T')) (xAH H.length u) 1 r.length ∧ ∃ z,∀ d,frz (d + 1) (H ++ (B ++ T')) (xAH H.length u) = some (sw z r) := by
 rcases h with ⟨rfl,rfl,rfl⟩ | ⟨x,rfl,rfl⟩
 ·exact ⟨.inl ⟨rfl,rfl⟩,true,fun d => rfl⟩
 ·have hg : (H ++ ([Blk.cells false false (w64 (r ++ x))] ++ T'))[H.length + 0]? = some (Blk.cells false false (w64 (r ++ x))) := by
   rw [List.getElem?_append_right (by omega),Nat.add_sub_cancel_left]; rfl
  have hl : (w64 (r ++ x)).length = r.length + x.length := by rw [xBq,List.length_append]
  refine ⟨.inr ⟨H.length + 0,_,by omega,by simp,rfl,hg,by omega⟩,false,fun d => ?_⟩
  show frz (d + 1) _ (.own false (H.length + 0) 0 r.length 1) = _
  have ht : ((w64 (r ++ x)).drop 0).take (r.length * 1) = w64 r := by rw [List.drop_zero,Nat.mul_one,← xIg,List.take_left' (xBq r)]
  simp only [frz,hg]
  rw [if_pos (by omega),ht,xIh]
  rfl
structure PN (f g : Nat) (xs ys : List AV) : Prop where
 h : ∃ v X e B,xCZ L f xs = some (.tup [v,.int .i64 e],B) ∧ OwA B v (Aut.vars X) X.states X.st X.fi X.ed ∧ L.pcall g ys = some (.tup [X.av,.int .i64 e]) ∧ Fits X ∧ X.ed.length < 1000000
structure PS (f : Nat) (xs : List AV) (e : Int) (zL : Bool) (nL : Nat) (kL : List AV) : Prop where
 h : ∃ u B r,xBw L f xs = some (.tup [u,.int .i64 e],B) ∧ OwnS u B r ∧ r.length ≤ 64 ∧ ∃ z,L.pcall 21 [.sl zL nL kL,.int .i64 e] = some (sw z r)
theorem xMj {p x q R : Heap} (h : p ++ x = q) (e : ∃ T,R = q ++ T) : ∃ T,R = p ++ (x ++ T) := by
 subst h; obtain ⟨T,rfl⟩ := e
 exact ⟨T,List.append_assoc ..⟩
theorem xSD {p x q R : Heap} (h : p ++ x = q) (e : ∃ T,R = q ++ T) : ∃ T,R = p ++ T := by
 obtain ⟨T,h⟩ := xMj h e; exact ⟨_,h⟩
theorem xX1 {p q R : Heap} {x : Blk} (h : p ++ [x] = q) (e : ∃ T,R = q ++ T) : R[p.length]? = some x := by
 subst h; obtain ⟨T,rfl⟩ := e
 rw [List.append_assoc,List.getElem?_append_right (Nat.le_refl _),Nat.sub_self]; rfl
theorem xPC {p R : Heap} {i : Nat} {x : Blk} (e : ∃ T,R = p ++ T) (h : p[i]? = some x) : R[i]? = some x := by
 obtain ⟨T,rfl⟩ := e; exact xBh h
theorem yDx {x y : Int} {p q r : AV} (h1 : AV.isCell p = true) (h2 : AV.isCell q = true) (h3 : AV.isCell r = true) : ([AV.int .i64 x,.int .i64 y,p,q,r]).all AV.isCell = true := by
 simp only [List.all_cons,List.all_nil,h1,h2,h3,Bool.and_true]; rfl
structure Lw (n o Xt Xr Xu m : Aut) (G : Heap) : Prop where
 b0 : G[0]? = some (.cells false false n.cells)
 b1 : G[1]? = some (.cells false false o.cells)
 b2 : G[2]? = some (.cells false false Xt.cells)
 b3 : G[3]? = some (.cells false false Xr.cells)
 b4 : G[4]? = some (.cells false false Xu.cells)
 b5 : G[5]? = some (.cells false false m.cells)
theorem Lw.ext {n o Xt Xr Xu m : Aut} {G R : Heap} (h : Lw n o Xt Xr Xu m G) (e : ∃ T,R = G ++ T) : Lw n o Xt Xr Xu m R :=
 ⟨xPC e h.b0,xPC e h.b1,xPC e h.b2,xPC e h.b3,xPC e h.b4,xPC e h.b5⟩
theorem Lw.stay {n o Xt Xr Xu m : Aut} {G R : Heap} {lo hi : Nat} (h : Lw n o Xt Xr Xu m G) (e : Stay lo hi G R) (hl : 5 < lo) : Lw n o Xt Xr Xu m R :=
 ⟨e.get (.inl (by omega)) h.b0,e.get (.inl (by omega)) h.b1,e.get (.inl (by omega)) h.b2,e.get (.inl (by omega)) h.b3,e.get (.inl (by omega)) h.b4,e.get (.inl (by omega)) h.b5⟩
set_option maxHeartbeats 4000000 in
theorem xUT {n o m Xt Xr Xu : Aut} {G B1 B2 B3 B4 B5 : Heap} {u1 u2 vt vr vu : AV} {ra rb : List Nat} {e f g h r : Int} {zA zB za zb : Bool} {nA nB : Nat} {kA kB : List AV}
  (hr : r < 2) (hr0 : 0 ≤ r) (hI : Lw n o Xt Xr Xu m G)
  (h15 : xBw L 15 [m.av] = some (.tup [u1,.int .i64 e],B1)) (O1 : OwnS u1 B1 ra) (l1 : ra.length ≤ 64) (hA : L.pcall 21 [.sl zA nA kA,.int .i64 e] = some (sw za ra))
  (h16 : xBw L 16 [m.av] = some (.tup [u2,.int .i64 e],B2)) (O2 : OwnS u2 B2 rb) (l2 : rb.length ≤ 64) (hB : L.pcall 21 [.sl zB nB kB,.int .i64 e] = some (sw zb rb))
  (h17 : xCZ L 17 [m.av] = some (.tup [vt,.int .i64 f],B3)) (O3 : OwA B3 vt Xt.vars Xt.states Xt.st Xt.fi Xt.ed) (F3 : Fits Xt) (L3 : Xt.ed.length < 1000000)
  (h18 : xCZ L 18 [m.av] = some (.tup [vr,.int .i64 g],B4)) (O4 : OwA B4 vr Xr.vars Xr.states Xr.st Xr.fi Xr.ed) (F4 : Fits Xr) (L4 : Xr.ed.length < 1000000)
  (h19 : xCZ L 19 [m.av,o.av] = some (.tup [vu,.int .i64 h],B5)) (O5 : OwA B5 vu Xu.vars Xu.states Xu.st Xu.fi Xu.ed) (F5 : Fits Xu) (L5 : Xu.ed.length < 1000000)
  (sm : L.pcall 22 [m.av,n.av] = some (.bool true)) (hm : m = cpA n) :
  ∃ G',L.loop xQn yAn ⟨xQo (.ptr 0 0) (.ptr 1 0) (.bool false) (.int .i64 e) (.sl zA nA kA) (.sl zB nB kB) (.ptr 2 0) (.int .i64 f) (.ptr 3 0) (.int .i64 g) (.ptr 4 0) (.int .i64 h) (.ptr 5 0) (.int .i64 r),G⟩ =
   L.loop xQn yAn ⟨xQo (.ptr 0 0) (.ptr 1 0) (.bool false) (.int .i64 e) (.sl zA nA kA) (.sl zB nB kB) (.ptr 2 0) (.int .i64 f) (.ptr 3 0) (.int .i64 g) (.ptr 4 0) (.int .i64 h) (.ptr 5 0) (.int .i64 (r + 1)),G'⟩ ∧ Lw n o Xt Xr Xu m G' := by
 subst hm
 obtain ⟨t1,t2,t3,rfl,ot1,ot2,ot3⟩ := O3
 obtain ⟨r1,r2,r3,rfl,or1,or2,or3⟩ := O4
 obtain ⟨q1,q2,q3,rfl,oq1,oq2,oq3⟩ := O5
 obtain ⟨w1,g1⟩ : ∃ X,xAH G.length u1 = X := ⟨_,rfl⟩
 obtain ⟨G1,e1⟩ : ∃ X,G ++ B1 = X := ⟨_,rfl⟩
 obtain ⟨w2,g2⟩ : ∃ X,xAH G1.length u2 = X := ⟨_,rfl⟩
 obtain ⟨G2,e2⟩ : ∃ X,G1 ++ B2 = X := ⟨_,rfl⟩
 obtain ⟨Bl3,l3⟩ : ∃ X,B3.map (xFr G2.length) = X := ⟨_,rfl⟩
 obtain ⟨G3,e3⟩ : ∃ X,G2 ++ Bl3 = X := ⟨_,rfl⟩
 obtain ⟨y1,g3⟩ : ∃ X,xAE G2.length t1 = X := ⟨_,rfl⟩
 obtain ⟨y2,g4⟩ : ∃ X,xAE G2.length t2 = X := ⟨_,rfl⟩
 obtain ⟨y3,g5⟩ : ∃ X,xAE G2.length t3 = X := ⟨_,rfl⟩
 obtain ⟨G4,e4⟩ : ∃ X,G3 ++ [Blk.cells false false [.int .i64 Xt.vars,.int .i64 Xt.states,y1,y2,y3]] = X := ⟨_,rfl⟩
 obtain ⟨Bl4,l4⟩ : ∃ X,B4.map (xFr G4.length) = X := ⟨_,rfl⟩
 obtain ⟨G5,e5⟩ : ∃ X,G4 ++ Bl4 = X := ⟨_,rfl⟩
 obtain ⟨x1,g6⟩ : ∃ X,xAE G4.length r1 = X := ⟨_,rfl⟩
 obtain ⟨x2,g7⟩ : ∃ X,xAE G4.length r2 = X := ⟨_,rfl⟩
 obtain ⟨x3,g8⟩ : ∃ X,xAE G4.length r3 = X := ⟨_,rfl⟩
 obtain ⟨G6,e6⟩ : ∃ X,G5 ++ [Blk.cells false false [.int .i64 Xr.vars,.int .i64 Xr.states,x1,x2,x3]] = X := ⟨_,rfl⟩
 obtain ⟨Bl5,l5⟩ : ∃ X,B5.map (xFr G6.length) = X := ⟨_,rfl⟩
 obtain ⟨G7,e7⟩ : ∃ X,G6 ++ Bl5 = X := ⟨_,rfl⟩
 obtain ⟨v1,g9⟩ : ∃ X,xAE G6.length q1 = X := ⟨_,rfl⟩
 obtain ⟨v2,g10⟩ : ∃ X,xAE G6.length q2 = X := ⟨_,rfl⟩
 obtain ⟨v3,g11⟩ : ∃ X,xAE G6.length q3 = X := ⟨_,rfl⟩
 obtain ⟨G8,e8⟩ : ∃ X,G7 ++ [Blk.cells false false [.int .i64 Xu.vars,.int .i64 Xu.states,v1,v2,v3]] = X := ⟨_,rfl⟩
 have n8 : ∃ T,G8 = G8 ++ T := ⟨[],by simp⟩
 have n7 := xSD e8 n8
 have n6 := xSD e7 n7
 have n5 := xSD e6 n6
 have n4 := xSD e5 n5
 have n3 := xSD e4 n4
 have n2 := xSD e3 n3
 have n1 := xSD e2 n2
 have n0 := xSD e1 n1
 have k0 : ∃ T,G = G ++ T := ⟨[],by simp⟩
 have tr1 : ∀ {p x q : Heap},(∃ T,p = G ++ T) → p ++ x = q → ∃ T,q = G ++ T := fun {p x q} h e => by
  obtain ⟨T,rfl⟩ := h; exact ⟨T ++ x,by rw [← e,List.append_assoc]⟩
 have k1 := tr1 k0 e1
 have k2 := tr1 k1 e2
 have k3 := tr1 k2 e3
 have k4 := tr1 k3 e4
 have k5 := tr1 k4 e5
 have k6 := tr1 k5 e6
 have I8 := hI.ext n0
 have len5 : 5 < G.length := (List.getElem?_eq_some_iff.1 hI.b5).1
 have s1 : G1.length = G.length + B1.length := by rw [← e1,List.length_append]
 have s2 : G2.length = G1.length + B2.length := by rw [← e2,List.length_append]
 have s3 : G3.length = G2.length + B3.length := by rw [← e3,← l3,List.length_append,List.length_map]
 have s4 : G4.length = G3.length + 1 := by rw [← e4,List.length_append]; rfl
 have s5 : G5.length = G4.length + B4.length := by rw [← e5,← l4,List.length_append,List.length_map]
 have s6 : G6.length = G5.length + 1 := by rw [← e6,List.length_append]; rfl
 have s7 : G7.length = G6.length + B5.length := by rw [← e7,← l5,List.length_append,List.length_map]
 have s8 : G8.length = G7.length + 1 := by rw [← e8,List.length_append]; rfl
 obtain ⟨o1,zk1,f1⟩ : OwI G.length G1.length G8 w1 1 ra.length ∧ ∃ z,∀ d,frz (d + 1) G8 w1 = some (sw z ra) := by
  obtain ⟨T,rfl⟩ := xMj e1 n1
  rw [← g1,s1]; exact O1.put
 obtain ⟨o2,zk2,f2⟩ : OwI G1.length G2.length G8 w2 1 rb.length ∧ ∃ z,∀ d,frz (d + 1) G8 w2 = some (sw z rb) := by
  obtain ⟨T,rfl⟩ := xMj e2 n2
  rw [← g2,s2]; exact O2.put
 obtain ⟨oy1,zy1,fy1⟩ : OwI G2.length G3.length G8 y1 1 Xt.st.length ∧ ∃ z,∀ d,frz (d + 1) G8 y1 = some (.sl z Xt.st.length (xBd Xt.st)) := by
  obtain ⟨T,rfl⟩ := xMj e3 n3
  rw [← g3,s3,← l3]; exact ot1.put (xFi _) (fun d H => xBA d H _)
 obtain ⟨oy2,zy2,fy2⟩ : OwI G2.length G3.length G8 y2 1 Xt.fi.length ∧ ∃ z,∀ d,frz (d + 1) G8 y2 = some (.sl z Xt.fi.length (xBd Xt.fi)) := by
  obtain ⟨T,rfl⟩ := xMj e3 n3
  rw [← g4,s3,← l3]; exact ot2.put (xFi _) (fun d H => xBA d H _)
 obtain ⟨oy3,zy3,fy3⟩ : OwI G2.length G3.length G8 y3 4 Xt.ed.length ∧ ∃ z,∀ d,frz (d + 1) G8 y3 = some (.sl z Xt.ed.length (edges Xt.ed)) := by
  obtain ⟨T,rfl⟩ := xMj e3 n3
  rw [← g5,s3,← l3]; exact ot3.put (xId _) (fun d H => xAq d H _)
 obtain ⟨ox1,zx1,fx1⟩ : OwI G4.length G5.length G8 x1 1 Xr.st.length ∧ ∃ z,∀ d,frz (d + 1) G8 x1 = some (.sl z Xr.st.length (xBd Xr.st)) := by
  obtain ⟨T,rfl⟩ := xMj e5 n5
  rw [← g6,s5,← l4]; exact or1.put (xFi _) (fun d H => xBA d H _)
 obtain ⟨ox2,zx2,fx2⟩ : OwI G4.length G5.length G8 x2 1 Xr.fi.length ∧ ∃ z,∀ d,frz (d + 1) G8 x2 = some (.sl z Xr.fi.length (xBd Xr.fi)) := by
  obtain ⟨T,rfl⟩ := xMj e5 n5
  rw [← g7,s5,← l4]; exact or2.put (xFi _) (fun d H => xBA d H _)
 obtain ⟨ox3,zx3,fx3⟩ : OwI G4.length G5.length G8 x3 4 Xr.ed.length ∧ ∃ z,∀ d,frz (d + 1) G8 x3 = some (.sl z Xr.ed.length (edges Xr.ed)) := by
  obtain ⟨T,rfl⟩ := xMj e5 n5
  rw [← g8,s5,← l4]; exact or3.put (xId _) (fun d H => xAq d H _)
 obtain ⟨ov1,zv1,fv1⟩ : OwI G6.length G7.length G8 v1 1 Xu.st.length ∧ ∃ z,∀ d,frz (d + 1) G8 v1 = some (.sl z Xu.st.length (xBd Xu.st)) := by
  obtain ⟨T,rfl⟩ := xMj e7 n7
  rw [← g9,s7,← l5]; exact oq1.put (xFi _) (fun d H => xBA d H _)
 obtain ⟨ov2,zv2,fv2⟩ : OwI G6.length G7.length G8 v2 1 Xu.fi.length ∧ ∃ z,∀ d,frz (d + 1) G8 v2 = some (.sl z Xu.fi.length (xBd Xu.fi)) := by
  obtain ⟨T,rfl⟩ := xMj e7 n7
  rw [← g10,s7,← l5]; exact oq2.put (xFi _) (fun d H => xBA d H _)
 obtain ⟨ov3,zv3,fv3⟩ : OwI G6.length G7.length G8 v3 4 Xu.ed.length ∧ ∃ z,∀ d,frz (d + 1) G8 v3 = some (.sl z Xu.ed.length (edges Xu.ed)) := by
  obtain ⟨T,rfl⟩ := xMj e7 n7
  rw [← g11,s7,← l5]; exact oq3.put (xId _) (fun d H => xAq d H _)
 have z3 := xX1 e4 n4
 have z5 := xX1 e6 n6
 have z7 := xX1 e8 n8
 obtain ⟨G9,i1,K1⟩ := xXV o1 (by omega)
 have S1 := K1.stay o1
 obtain ⟨G10,i2,K2⟩ := xXV (o2.stay S1) (by omega)
 have S2 := K2.stay (o2.stay S1)
 have L9 := S1.len
 have L10 := S2.len
 have z10 := S2.get (.inr (by omega)) (S1.get (.inr (by omega)) z3)
 obtain ⟨G11,i3,S3⟩ := xTI (x := .int .i64 Xt.vars) (y := .int .i64 Xt.states) rfl rfl ((oy1.stay S1).stay S2) ((oy2.stay S1).stay S2) ((oy3.stay S1).stay S2) F3.l1 F3.l2 L3 (by omega)
 have L11 := S3.len
 have z11 := S3.get (.inr (by omega)) (S2.get (.inr (by omega)) (S1.get (.inr (by omega)) z5))
 obtain ⟨G12,i4,S4⟩ := xTI (x := .int .i64 Xr.vars) (y := .int .i64 Xr.states) rfl rfl (((ox1.stay S1).stay S2).stay S3) (((ox2.stay S1).stay S2).stay S3) (((ox3.stay S1).stay S2).stay S3) F4.l1 F4.l2 L4 (by omega)
 have L12 := S4.len
 have z12 := S4.get (.inr (by omega)) (S3.get (.inr (by omega)) (S2.get (.inr (by omega)) (S1.get (.inr (by omega)) z7)))
 obtain ⟨G13,i5,S5⟩ := xTI (x := .int .i64 Xu.vars) (y := .int .i64 Xu.states) rfl rfl ((((ov1.stay S1).stay S2).stay S3).stay S4) ((((ov2.stay S1).stay S2).stay S3).stay S4) ((((ov3.stay S1).stay S2).stay S3).stay S4) F5.l1 F5.l2 L5 (by omega)
 refine ⟨G13,?_,((((I8.stay S1 (by omega)).stay S2 (by omega)).stay S3 (by omega)).stay S4 (by omega)).stay S5 (by omega)⟩
 exact xV1 hr hr0 h15 h16 h17 h18 h19 hA hB (xSP _ _ ra (by omega)) (xSP _ _ rb (by omega)) (xMw Xt F3 zy1 zy2 zy3) (xMw Xr F4 zx1 zx2 zx3) (xMw Xu F5 zv1 zv2 zv3) sm
  g1 e1 g2 e2 g3 g4 g5 l3 e3 e4 g6 g7 g8 l4 e5 e6 g9 g10 g11 l5 e7 e8
  (yDx oy1.cell oy2.cell oy3.cell) (yDx ox1.cell ox2.cell ox3.cell) (yDx ov1.cell ov2.cell ov3.cell)
  hI.b5 (hI.ext k1).b5 (hI.ext k2).b5 (hI.ext k4).b5 (hI.ext k6).b5 (hI.ext k6).b1 I8.b5 I8.b0 I8.b2 I8.b3 I8.b4 z3 z5 z7
  (f1 5) (f2 5) (fy1 4) (fy2 4) (fy3 4) (fx1 4) (fx2 4) (fx3 4) (fv1 4) (fv2 4) (fv3 4)
  i1 i2 z10 i3 z11 i4 z12 i5
def zA : Aut := ⟨0,0,true,[],true,[],true,[]⟩
theorem yBB : Fits zA := ⟨by decide,by decide,by decide,fun e h => nomatch h⟩
theorem yCC (B : Heap) : OwA B xJF 0 0 [] [] [] := ⟨_,_,_,rfl,.inl ⟨rfl,rfl,rfl⟩,.inl ⟨rfl,rfl,rfl⟩,.inl ⟨rfl,rfl,rfl⟩⟩
theorem yER {v : AV} {G : Heap} {a s : Int} {st fi : List Int} {ed : List Ed} (h : OwA G v a s st fi ed) (e : Int) : xAX (.tup [v,.int .i64 e]) = true := by
 obtain ⟨f1,f2,f3,rfl,h1,h2,h3⟩ := h
 have r : ∀ {v : AV} {w n : Nat} {cs : List AV},OwF G v w n cs → xAV v = true := fun h => by rcases h with ⟨rfl,_⟩ | ⟨k,rfl,_⟩ <;> rfl
 show ([AV.agg [.int .i64 a,.int .i64 s,f1,f2,f3],.int .i64 e]).all xAW = true
 simp only [List.all_cons,List.all_nil,xAW,r h1,r h2,r h3,Bool.and_true]
 rfl
theorem xZR {f g : Nat} {xs ys : List AV} {v : AV} {G : Heap} {e : Int} {X : Aut} (h : L.icall (.func f []) xs [] = some (.tup [v,.int .i64 e],G)) (ho : OwA G v X.vars X.states X.st X.fi X.ed)
  (hg : L.pcall g ys = some (.tup [X.av,.int .i64 e])) (hF : Fits X) (hl : X.ed.length < 1000000) : PN f g xs ys := ⟨v,X,e,G,xXK h (yER ho e),ho,hg,hF,hl⟩
theorem xPD {f g : Nat} {xs ys : List AV} {e : Int} (h : ∃ G,L.icall (.func f []) xs [] = some (.tup [xJF,.int .i64 e],G)) (hg : L.pcall g ys = some (.tup [xJF,.int .i64 e])) : PN f g xs ys := by
 obtain ⟨G,h⟩ := h
 exact xZR (X := zA) h (yCC G) hg yBB (by decide)
theorem xKo {n : Aut} (h : Valid n) : Valid (cpA n) := ⟨h.v0,h.v6,h.s0,h.s64,h.el,h.st,h.fi,h.ed⟩
theorem cpA_valid' {n : Aut} (h : Valid (cpA n)) : Valid n := ⟨h.v0,h.v6,h.s0,h.s64,h.el,h.st,h.fi,h.ed⟩
theorem xMr {n : Aut} (h : Fits n) : Fits (cpA n) := ⟨h.l1,h.l2,h.l3,h.by_⟩
theorem xKp {α : Type} {l : List α} (h : (l.length == 0) = true) : l = [] := List.length_eq_zero_iff.1 (by simpa using h)
theorem xQv {α β : Type} (f : α → Option β) (l : List α) : (l.filterMap f).length ≤ l.length := List.length_filterMap_le f l
theorem xX2 {n : Aut} {e : Int} {z : Bool} (h : L.pcall 15 [n.av] = some (.tup [.sl z 0 [],.int .i64 e])) (he : e ≠ 0) : ∃ G,L.icall (.func 17 []) [n.av] [] = some (.tup [xJF,.int .i64 e],G) := by
 refine ⟨[.cells false false n.cells,.cells false false [.int .i64 0,.int .i64 0,.sl true 0 [],.sl true 0 [],.sl true 0 []]],?_⟩
 rw [yDO,a17,xA3]
 simp (maxSteps := 30000000) (disch := first | assumption | omega | (simp only [WL,AV.isCell,xAa] <;> omega) | rfl | decide) only [↓reduceIte,WB,xAR,xAc,xAQ,xAD,xAC,AV.cells,AV.isCell,xAb,xAj,xAk,xAs,xAt,xAu,xAv,xAw,xAx,xAL,xAy,xAz,xAl,xAA,xAm,xAn,xAB,xAo,xAp,xAf,Nat.reduceDiv,Nat.reduceMod,WP,xAI,xAF,xAX,xAW,xAV,xAG,xAH,xAE,W2,xAd,xAe,xAi,Nat.reduceAdd,Nat.reduceSub,Nat.reduceLeDiff,Nat.reduceMul,Int.reduceAdd,Int.reduceSub,Int.reduceMul,Int.reduceLT,Int.reduceLE,Int.reduceEq,Int.reduceToNat,Int.reduceNeg,Nat.reduceEqDiff,Nat.reduceBEq,Nat.reduceLT,xAa,xAg,xAq,xAr,h,he]
theorem p17 (n : Aut) (hf : Fits n) (l1 : n.st.length < 1000) (l2 : n.fi.length < 1000) (l3 : n.ed.length < 1000) : PN 17 11 [(cpA n).av] [n.av] := by
 have hc := xMr hf
 obtain ⟨h26,hval⟩ := xB7 n hf
 have h8 := xIf n hf
 obtain ⟨u,B,r,-,-,h3,h4,zr,h5⟩ := xNH (cpA n) hc
 obtain ⟨u',B',p,-,-,k3,k4,zp,k5⟩ := xVa (cpA n) hc (fun h => xKp h) (fun h => xKp h)
 have hcm : xHc (cpA n) = xHc n := rfl
 rw [hcm] at h3 h4 h5 k3 k4 k5
 by_cases he : xHc n = 0
 ·have hv := hval.1 he
  rw [he] at h5 k5 h8
  obtain ⟨C,c1,c2⟩ := h3 he
  obtain ⟨D,d1,d2⟩ := k3 he
  obtain ⟨v,G,q1,q2⟩ := xZ4 (cpA n) hc (xKo hv) l1 l2 h5 (c1.has zr) k5 (d1.has zp)
  obtain ⟨C',D',r1,r2,z1,z2,z3,q3⟩ := yDF n hv hf l1 l2 h8
  have hU : (fun j => C j && D j) = fun j => C' j && D' j := by
   funext j
   rw [ReaL.uniq (st := n.st) (ed := n.ed) c2 r1 j,ReaL.uniq d2 r2 j]
  rw [hU] at q2
  have e1 := xQv (num fun j => C' j && D' j) n.st
  have e2 := xQv (num fun j => C' j && D' j) n.fi
  have e3 := xQv (xPQ fun j => C' j && D' j) n.ed
  refine xZR q1 q2 q3 ⟨?_,?_,?_,?_⟩ ?_
  ·show (n.st.filterMap _).length < _
   omega
  ·show (n.fi.filterMap _).length < _
   omega
  ·show (n.ed.filterMap _).length < _
   omega
  ·intro e he
   obtain ⟨e',h1,h2⟩ := List.mem_filterMap.1 he
   have hb := hf.by_ e' h1
   unfold xPQ at h2
   split at h2
   ·cases h2; exact hb
   ·cases h2
  ·show (n.ed.filterMap _).length < _
   omega
 ·have hr := h4 he
  subst hr
  refine xPD ?_ (xYd he h8)
  exact xX2 h5 he
theorem p18 (n : Aut) (hf : Fits n) (l3 : n.ed.length < 1000) : PN 18 12 [(cpA n).av] [n.av] := by
 have hc := xMr hf
 obtain ⟨h26,hval⟩ := xB7 (cpA n) hc
 have h8 := xIf n hf
 have hcm : xHc (cpA n) = xHc n := rfl
 rw [hcm] at h26 hval
 by_cases he : xHc n = 0
 ·have hv := hval.1 he
  rw [he] at h26 h8
  obtain ⟨⟨v,G,q1,q2⟩,-⟩ := xYk (cpA n) hc (by show n.ed.length < _; omega) (fun h => xKp h) (fun h => xKp h) h26
  obtain ⟨z1,z2,z3,q3⟩ := yDz n (cpA_valid' hv) hf h8
  exact xZR q1 q2 q3 (xSR hf _ _ _) (by show (n.ed.map xBl).length < _; rw [List.length_map]; omega)
 ·exact xPD (xZ1 he h26) (xX7 he h8)
theorem p19 (n o : Aut) (hf : Fits n) (ho : Fits o) (l1 : n.st.length < 1000) (l2 : n.fi.length < 1000) (m1 : o.st.length < 1000) (m2 : o.fi.length < 1000) : PN 19 13 [(cpA n).av,o.av] [n.av,o.av] := by
 have hc := xMr hf
 obtain ⟨h26,hval⟩ := xB7 (cpA n) hc
 have h8 := xIf n hf
 obtain ⟨k26,kval⟩ := xB7 o ho
 have k8 := xIf o ho
 have hcm : xHc (cpA n) = xHc n := rfl
 rw [hcm] at h26 hval
 by_cases he : xHc n = 0
 ·by_cases ke : xHc o = 0
  ·have hv : Valid n := cpA_valid' (hval.1 he)
   have kv := kval.1 ke
   rw [he] at h26 h8
   rw [ke] at k26 k8
   by_cases hw : n.vars = o.vars
   ·by_cases hbig : 64 < n.states + o.states ∨ 512 < n.ed.length + o.ed.length
    ·exact xPD ((yAP (a := cpA n) h26 k26 (xKo hv) kv).2 hw hbig) ((xUX h8 k8 hv kv).2 hw hbig)
    ·obtain ⟨v,G,q1,q2⟩ := U.uni_run (a := cpA n) h26 k26 (xKo hv) kv hc ho m1 m2 l1 l2 (fun h => xKp h) (fun h => xKp h) (fun h => xKp h) hw (by show n.states + o.states ≤ 64; omega) (by show n.ed.length + o.ed.length ≤ 512; omega)
     obtain ⟨z1,z2,z3,q3⟩ := yDA h8 k8 hv kv hf ho m1 m2 l1 l2 hw (by omega) (by omega)
     refine xZR q1 q2 q3 ⟨?_,?_,?_,?_⟩ ?_
     ·show (n.st ++ o.st.map _).length < _
      rw [List.length_append,List.length_map]; omega
     ·show (n.fi ++ o.fi.map _).length < _
      rw [List.length_append,List.length_map]; omega
     ·show (n.ed ++ o.ed.map _).length < _
      rw [List.length_append,List.length_map]; omega
     ·intro e he
      rcases List.mem_append.1 he with h | h
      ·exact hf.by_ e h
      ·obtain ⟨e',h1,rfl⟩ := List.mem_map.1 h
       exact ho.by_ e' h1
     ·show (n.ed ++ o.ed.map _).length < _
      rw [List.length_append,List.length_map]; omega
   ·exact xPD ((yAP (a := cpA n) h26 k26 (xKo hv) kv).1 hw) ((xUX h8 k8 hv kv).1 hw)
  ·exact xPD ((U.uni_bad (a := cpA n) h26 k26).2 he ke) ((xSH h8 k8).2 he ke)
 ·exact xPD ((U.uni_bad (a := cpA n) h26 k26).1 he) ((xSH h8 k8).1 he)
theorem yAJ {f : Nat} {xs : List AV} {e : Int} {u : AV} {B : List Blk} {r : List Nat} (h : xBw L f xs = some (.tup [u,.int .i64 e],B)) (ho : OwnS u B r) (hr : r = []) (he : e ≠ 0) : PS f xs e true 0 [] := by
 subst hr
 exact ⟨u,B,[],h,ho,by simp,true,yBI _ (fun _ _ => rfl) e he⟩
theorem yCD {f : Nat} {xs : List AV} {u : AV} {B : List Blk} {r : List Nat} {C : Nat → Bool} {z : Bool} {l : List Int} (h : xBw L f xs = some (.tup [u,.int .i64 0],B)) (ho : OwnS u B r) (hc : CanS r C)
  (hl : l.length ≤ 64) (hq : ∀ q ∈ l,0 ≤ q ∧ q < 4096) (hC : ∀ j,C j = inS l j) : PS f xs 0 z l.length (xBd l) := by
 obtain ⟨z',r',h1,h2⟩ := yCK z l (by omega) hq
 have := (hc.congr hC).uniq h2
 subst this
 exact ⟨u,B,r,h,ho,hc.2.1,z',h1⟩
theorem yDy (n : Aut) (hf : Fits n) (l1 : n.st.length < 1000) (l2 : n.fi.length < 1000) :
  if xHc n = 0 then ∃ za la zb lb,L.pcall 9 [n.av] = some (iw za la) ∧ L.pcall 10 [n.av] = some (iw zb lb) ∧ PS 15 [(cpA n).av] 0 za la.length (xBd la) ∧ PS 16 [(cpA n).av] 0 zb lb.length (xBd lb)
  else PS 15 [(cpA n).av] (xHc n) true 0 [] ∧ PS 16 [(cpA n).av] (xHc n) true 0 [] := by
 have hc := xMr hf
 obtain ⟨h26,hval⟩ := xB7 n hf
 obtain ⟨u,B,r,h1,h2,h3,h4,-⟩ := xNH (cpA n) hc
 obtain ⟨u',B',p,k1,k2,k3,k4,-⟩ := xVa (cpA n) hc (fun h => xKp h) (fun h => xKp h)
 have hcm : xHc (cpA n) = xHc n := rfl
 rw [hcm] at h1 h3 h4 k1 k3 k4
 split
 ·rename_i he
  have hv := hval.1 he
  rw [he] at h1 k1
  obtain ⟨C,c1,c2⟩ := h3 he
  obtain ⟨D,d1,d2⟩ := k3 he
  obtain ⟨za,la,q1,q2,q3,q4⟩ := yEc n hv (by omega)
  obtain ⟨zb,lb,w1,w2,w3,w4⟩ := yCI n hv (by omega)
  exact ⟨za,la,zb,lb,q1,w1,yCD h1 h2 c1 q2 q3 (ReaL.uniq c2 q4),yCD k1 k2 d1 w2 w3 (ReaL.uniq d2 w4)⟩
 ·rename_i he
  exact ⟨yAJ h1 h2 (h4 he) he,yAJ k1 k2 (k4 he) he⟩
def Big (n : Aut) : Prop := 100 < n.st.length ∨ 100 < n.fi.length ∨ 520 < n.ed.length
theorem yCE (n o : Aut) (h : Big n) : L.pcall 6 [.sl false 2 (n.cells ++ o.cells)] = some (.bool true) := by
 have e1 : ((100 : Int) < (n.st.length : Nat)) = (100 < n.st.length) := propext ⟨fun h => by omega,fun h => by omega⟩
 have e2 : ((100 : Int) < (n.fi.length : Nat)) = (100 < n.fi.length) := propext ⟨fun h => by omega,fun h => by omega⟩
 have e3 : ((520 : Int) < (n.ed.length : Nat)) = (520 < n.ed.length) := propext ⟨fun h => by omega,fun h => by omega⟩
 rw [a6p,a6,xAK]
 by_cases c1 : 100 < n.st.length
 ·simp (maxSteps := 30000000) (disch := first | assumption | omega | (simp only [WL,AV.isCell,xAa] <;> omega) | rfl | decide) only [↓reduceIte,WB,xAR,xAc,xAQ,xAD,xAC,AV.cells,AV.isCell,xAb,xAj,xAk,xAs,xAt,xAu,xAv,xAw,xAx,xAL,xAy,xAz,xAl,xAA,xAm,xAn,xAB,xAo,xAp,xAf,Nat.reduceDiv,Nat.reduceMod,WP,xAI,xAF,xAX,xAW,xAV,xAG,xAH,xAE,W2,xAd,xAe,xAi,Nat.reduceAdd,Nat.reduceSub,Nat.reduceLeDiff,Nat.reduceMul,Int.reduceAdd,Int.reduceSub,Int.reduceMul,Int.reduceLT,Int.reduceLE,Int.reduceEq,Int.reduceToNat,Int.reduceNeg,Nat.reduceEqDiff,Nat.reduceBEq,Nat.reduceLT,xAa,xAg,xAq,xAr,xTv,xTw,xQp,e1,c1]
 ·by_cases c2 : 100 < n.fi.length
  ·simp (maxSteps := 30000000) (disch := first | assumption | omega | (simp only [WL,AV.isCell,xAa] <;> omega) | rfl | decide) only [↓reduceIte,WB,xAR,xAc,xAQ,xAD,xAC,AV.cells,AV.isCell,xAb,xAj,xAk,xAs,xAt,xAu,xAv,xAw,xAx,xAL,xAy,xAz,xAl,xAA,xAm,xAn,xAB,xAo,xAp,xAf,Nat.reduceDiv,Nat.reduceMod,WP,xAI,xAF,xAX,xAW,xAV,xAG,xAH,xAE,W2,xAd,xAe,xAi,Nat.reduceAdd,Nat.reduceSub,Nat.reduceLeDiff,Nat.reduceMul,Int.reduceAdd,Int.reduceSub,Int.reduceMul,Int.reduceLT,Int.reduceLE,Int.reduceEq,Int.reduceToNat,Int.reduceNeg,Nat.reduceEqDiff,Nat.reduceBEq,Nat.reduceLT,xAa,xAg,xAq,xAr,xTv,xTw,xQp,e1,e2,c1,c2]
  ·have c3 : 520 < n.ed.length := by rcases h with h | h | h <;> first | exact h | exact absurd h c1 | exact absurd h c2
   simp (maxSteps := 30000000) (disch := first | assumption | omega | (simp only [WL,AV.isCell,xAa] <;> omega) | rfl | decide) only [↓reduceIte,WB,xAR,xAc,xAQ,xAD,xAC,AV.cells,AV.isCell,xAb,xAj,xAk,xAs,xAt,xAu,xAv,xAw,xAx,xAL,xAy,xAz,xAl,xAA,xAm,xAn,xAB,xAo,xAp,xAf,Nat.reduceDiv,Nat.reduceMod,WP,xAI,xAF,xAX,xAW,xAV,xAG,xAH,xAE,W2,xAd,xAe,xAi,Nat.reduceAdd,Nat.reduceSub,Nat.reduceLeDiff,Nat.reduceMul,Int.reduceAdd,Int.reduceSub,Int.reduceMul,Int.reduceLT,Int.reduceLE,Int.reduceEq,Int.reduceToNat,Int.reduceNeg,Nat.reduceEqDiff,Nat.reduceBEq,Nat.reduceLT,xAa,xAg,xAq,xAr,xTv,xTw,xQp,e1,e2,e3,c1,c2,c3]
set_option maxHeartbeats 1000000 in
theorem yCF (n o : Aut) (h : ¬ Big n) (k : Big o) : L.pcall 6 [.sl false 2 (n.cells ++ o.cells)] = some (.bool true) := by
 have d1 : ¬ (100 : Int) < (n.st.length : Nat) := fun q => h (.inl (by omega))
 have d2 : ¬ (100 : Int) < (n.fi.length : Nat) := fun q => h (.inr (.inl (by omega)))
 have d3 : ¬ (520 : Int) < (n.ed.length : Nat) := fun q => h (.inr (.inr (by omega)))
 have e1 : ((100 : Int) < (o.st.length : Nat)) = (100 < o.st.length) := propext ⟨fun h => by omega,fun h => by omega⟩
 have e2 : ((100 : Int) < (o.fi.length : Nat)) = (100 < o.fi.length) := propext ⟨fun h => by omega,fun h => by omega⟩
 have e3 : ((520 : Int) < (o.ed.length : Nat)) = (520 < o.ed.length) := propext ⟨fun h => by omega,fun h => by omega⟩
 rw [a6p,a6,xAK]
 by_cases c1 : 100 < o.st.length
 ·simp (maxSteps := 30000000) (disch := first | assumption | omega | (simp only [WL,AV.isCell,xAa] <;> omega) | rfl | decide) only [↓reduceIte,WB,xAR,xAc,xAQ,xAD,xAC,AV.cells,AV.isCell,xAb,xAj,xAk,xAs,xAt,xAu,xAv,xAw,xAx,xAL,xAy,xAz,xAl,xAA,xAm,xAn,xAB,xAo,xAp,xAf,Nat.reduceDiv,Nat.reduceMod,WP,xAI,xAF,xAX,xAW,xAV,xAG,xAH,xAE,W2,xAd,xAe,xAi,Nat.reduceAdd,Nat.reduceSub,Nat.reduceLeDiff,Nat.reduceMul,Int.reduceAdd,Int.reduceSub,Int.reduceMul,Int.reduceLT,Int.reduceLE,Int.reduceEq,Int.reduceToNat,Int.reduceNeg,Nat.reduceEqDiff,Nat.reduceBEq,Nat.reduceLT,xAa,xAg,xAq,xAr,xTv,xTw,xQp,d1,d2,d3,e1,c1]
 ·by_cases c2 : 100 < o.fi.length
  ·simp (maxSteps := 30000000) (disch := first | assumption | omega | (simp only [WL,AV.isCell,xAa] <;> omega) | rfl | decide) only [↓reduceIte,WB,xAR,xAc,xAQ,xAD,xAC,AV.cells,AV.isCell,xAb,xAj,xAk,xAs,xAt,xAu,xAv,xAw,xAx,xAL,xAy,xAz,xAl,xAA,xAm,xAn,xAB,xAo,xAp,xAf,Nat.reduceDiv,Nat.reduceMod,WP,xAI,xAF,xAX,xAW,xAV,xAG,xAH,xAE,W2,xAd,xAe,xAi,Nat.reduceAdd,Nat.reduceSub,Nat.reduceLeDiff,Nat.reduceMul,Int.reduceAdd,Int.reduceSub,Int.reduceMul,Int.reduceLT,Int.reduceLE,Int.reduceEq,Int.reduceToNat,Int.reduceNeg,Nat.reduceEqDiff,Nat.reduceBEq,Nat.reduceLT,xAa,xAg,xAq,xAr,xTv,xTw,xQp,d1,d2,d3,e1,e2,c1,c2]
  ·have c3 : 520 < o.ed.length := by rcases k with h | h | h <;> first | exact h | exact absurd h c1 | exact absurd h c2
   simp (maxSteps := 30000000) (disch := first | assumption | omega | (simp only [WL,AV.isCell,xAa] <;> omega) | rfl | decide) only [↓reduceIte,WB,xAR,xAc,xAQ,xAD,xAC,AV.cells,AV.isCell,xAb,xAj,xAk,xAs,xAt,xAu,xAv,xAw,xAx,xAL,xAy,xAz,xAl,xAA,xAm,xAn,xAB,xAo,xAp,xAf,Nat.reduceDiv,Nat.reduceMod,WP,xAI,xAF,xAX,xAW,xAV,xAG,xAH,xAE,W2,xAd,xAe,xAi,Nat.reduceAdd,Nat.reduceSub,Nat.reduceLeDiff,Nat.reduceMul,Int.reduceAdd,Int.reduceSub,Int.reduceMul,Int.reduceLT,Int.reduceLE,Int.reduceEq,Int.reduceToNat,Int.reduceNeg,Nat.reduceEqDiff,Nat.reduceBEq,Nat.reduceLT,xAa,xAg,xAq,xAr,xTv,xTw,xQp,d1,d2,d3,e1,e2,e3,c1,c2,c3]
set_option maxHeartbeats 1000000 in
theorem yCG (n o : Aut) (h : ¬ Big n) (k : ¬ Big o) : L.pcall 6 [.sl false 2 (n.cells ++ o.cells)] = some (.bool false) := by
 have d1 : ¬ (100 : Int) < (n.st.length : Nat) := fun q => h (.inl (by omega))
 have d2 : ¬ (100 : Int) < (n.fi.length : Nat) := fun q => h (.inr (.inl (by omega)))
 have d3 : ¬ (520 : Int) < (n.ed.length : Nat) := fun q => h (.inr (.inr (by omega)))
 have e1 : ¬ (100 : Int) < (o.st.length : Nat) := fun q => k (.inl (by omega))
 have e2 : ¬ (100 : Int) < (o.fi.length : Nat) := fun q => k (.inr (.inl (by omega)))
 have e3 : ¬ (520 : Int) < (o.ed.length : Nat) := fun q => k (.inr (.inr (by omega)))
 rw [a6p,a6,xAK]
 simp (maxSteps := 30000000) (disch := first | assumption | omega | (simp only [WL,AV.isCell,xAa] <;> omega) | rfl | decide) only [↓reduceIte,WB,xAR,xAc,xAQ,xAD,xAC,AV.cells,AV.isCell,xAb,xAj,xAk,xAs,xAt,xAu,xAv,xAw,xAx,xAL,xAy,xAz,xAl,xAA,xAm,xAn,xAB,xAo,xAp,xAf,Nat.reduceDiv,Nat.reduceMod,WP,xAI,xAF,xAX,xAW,xAV,xAG,xAH,xAE,W2,xAd,xAe,xAi,Nat.reduceAdd,Nat.reduceSub,Nat.reduceLeDiff,Nat.reduceMul,Int.reduceAdd,Int.reduceSub,Int.reduceMul,Int.reduceLT,Int.reduceLE,Int.reduceEq,Int.reduceToNat,Int.reduceNeg,Nat.reduceEqDiff,Nat.reduceBEq,Nat.reduceLT,xAa,xAg,xAq,xAr,xTv,xTw,xQp,d1,d2,d3,e1,e2,e3]
set_option maxHeartbeats 4000000 in
theorem yAK {n o : Aut} (hf : Fits n) (ho : Fits o) (l1 : n.st.length < 1000) (l2 : n.fi.length < 1000) (l3 : n.ed.length < 1000) (m1 : o.st.length < 1000) (m2 : o.fi.length < 1000) :
  ∃ Xt Xr Xu f g h,L.pcall 11 [n.av] = some (.tup [Aut.av Xt,.int .i64 f]) ∧ L.pcall 12 [n.av] = some (.tup [Aut.av Xr,.int .i64 g]) ∧ L.pcall 13 [n.av,o.av] = some (.tup [Aut.av Xu,.int .i64 h]) ∧
   ∀ {e : Int} {zL1 zL2 : Bool} {nL1 nL2 : Nat} {kL1 kL2 : List AV},PS 15 [(cpA n).av] e zL1 nL1 kL1 → PS 16 [(cpA n).av] e zL2 nL2 kL2 →
   ∃ G',L.loop xQn yAn ⟨xQo (.ptr 0 0) (.ptr 1 0) (.bool false) (.int .i64 e) (.sl zL1 nL1 kL1) (.sl zL2 nL2 kL2) (.ptr 2 0) (.int .i64 f) (.ptr 3 0) (.int .i64 g) (.ptr 4 0) (.int .i64 h) (.ptr 5 0) (.int .i64 0),[.cells false false n.cells,.cells false false o.cells,.cells false false Xt.cells,.cells false false Xr.cells,.cells false false Xu.cells,.cells false false (cpA n).cells]⟩ =
    some (.exit 0,⟨xQo (.ptr 0 0) (.ptr 1 0) (.bool false) (.int .i64 e) (.sl zL1 nL1 kL1) (.sl zL2 nL2 kL2) (.ptr 2 0) (.int .i64 f) (.ptr 3 0) (.int .i64 g) (.ptr 4 0) (.int .i64 h) (.ptr 5 0) (.int .i64 2),G'⟩) := by
 obtain ⟨vt,Xt,f,B3,a1,a2,a3,a4,a5⟩ := (p17 n hf l1 l2 l3).h
 obtain ⟨vr,Xr,g,B4,b1,b2,b3,b4,b5⟩ := (p18 n hf l3).h
 obtain ⟨vu,Xu,h,B5,c1,c2,c3,c4,c5⟩ := (p19 n o hf ho l1 l2 m1 m2).h
 have sm : L.pcall 22 [(cpA n).av,n.av] = some (.bool true) := xMw n hf _ _ _
 refine ⟨Xt,Xr,Xu,f,g,h,a3,b3,c3,fun {e zL1 zL2 nL1 nL2 kL1 kL2} h1 h2 => ?_⟩
 obtain ⟨u1,B1,r1,p1,p2,p3,z1,p4⟩ := h1.h
 obtain ⟨u2,B2,r2,q1,q2,q3,z2,q4⟩ := h2.h
 obtain ⟨G1,w1,I1⟩ := xUT (r := 0) (by omega) (by omega) (G := [.cells false false n.cells,.cells false false o.cells,.cells false false Xt.cells,.cells false false Xr.cells,.cells false false Xu.cells,.cells false false (cpA n).cells]) ⟨rfl,rfl,rfl,rfl,rfl,rfl⟩ p1 p2 p3 p4 q1 q2 q3 q4 a1 a2 a4 a5 b1 b2 b4 b5 c1 c2 c4 c5 sm rfl
 obtain ⟨G2,w2,I2⟩ := xUT (r := 1) (by omega) (by omega) I1 p1 p2 p3 p4 q1 q2 q3 q4 a1 a2 a4 a5 b1 b2 b4 b5 c1 c2 c4 c5 sm rfl
 refine ⟨G2,w1.trans ?_⟩
 rw [show (0 : Int) + 1 = 1 from rfl,w2,show (1 : Int) + 1 = 2 from rfl,yCj]
 simp (maxSteps := 30000000) (disch := first | assumption | omega | (simp only [WL,AV.isCell,xAa] <;> omega) | rfl | decide) only [↓reduceIte,WB,xAR,xAc,xAQ,xAD,xAC,AV.cells,AV.isCell,xAb,xAj,xAk,xAs,xAt,xAu,xAv,xAw,xAx,xAL,xAy,xAz,xAl,xAA,xAm,xAn,xAB,xAo,xAp,xAf,Nat.reduceDiv,Nat.reduceMod,WP,xAI,xAF,xAX,xAW,xAV,xAG,xAH,xAE,W2,xAd,xAe,xAi,Nat.reduceAdd,Nat.reduceSub,Nat.reduceLeDiff,Nat.reduceMul,Int.reduceAdd,Int.reduceSub,Int.reduceMul,Int.reduceLT,Int.reduceLE,Int.reduceEq,Int.reduceToNat,Int.reduceNeg,Nat.reduceEqDiff,Nat.reduceBEq,Nat.reduceLT,xAa,xAg,xAq,xAr,xZf,xZg]
set_option maxRecDepth 10000 in
set_option maxHeartbeats 8000000 in
theorem law3 (avs : List AV) (h : xS2 [yB7,yB7] avs) : L.pcall 3 avs = some (.bool true) := by
 obtain ⟨_,r,rfl,h0,h⟩ := xPE h
 obtain ⟨_,r,rfl,h1,h⟩ := xPE h
 obtain rfl := xX4 h
 obtain ⟨n,rfl,-,-,hby⟩ := xYj h0
 obtain ⟨o,rfl,-,-,hbo⟩ := xYj h1
 clear h h0 h1
 by_cases d1 : Big n
 ·have hlong := yCE n o d1
  simp only [Aut.cells,List.cons_append,List.nil_append] at hlong
  rw [a3p,a3,xAK]
  simp (maxSteps := 30000000) (disch := first | assumption | omega | (simp only [WL,AV.isCell,xAa] <;> omega) | rfl | decide) only [↓reduceIte,WB,xAR,xAc,xAQ,xAD,xAC,AV.cells,AV.isCell,xAb,xAj,xAk,xAs,xAt,xAu,xAv,xAw,xAx,xAL,xAy,xAz,xAl,xAA,xAm,xAn,xAB,xAo,xAp,xAf,Nat.reduceDiv,Nat.reduceMod,WP,xAI,xAF,xAX,xAW,xAV,xAG,xAH,xAE,W2,xAd,xAe,xAi,Nat.reduceAdd,Nat.reduceSub,Nat.reduceLeDiff,Nat.reduceMul,Int.reduceAdd,Int.reduceSub,Int.reduceMul,Int.reduceLT,Int.reduceLE,Int.reduceEq,Int.reduceToNat,Int.reduceNeg,Nat.reduceEqDiff,Nat.reduceBEq,Nat.reduceLT,xAa,xAg,xAq,xAr,hlong,xMs]
 by_cases d2 : Big o
 ·have hlong := yCF n o d1 d2
  simp only [Aut.cells,List.cons_append,List.nil_append] at hlong
  rw [a3p,a3,xAK]
  simp (maxSteps := 30000000) (disch := first | assumption | omega | (simp only [WL,AV.isCell,xAa] <;> omega) | rfl | decide) only [↓reduceIte,WB,xAR,xAc,xAQ,xAD,xAC,AV.cells,AV.isCell,xAb,xAj,xAk,xAs,xAt,xAu,xAv,xAw,xAx,xAL,xAy,xAz,xAl,xAA,xAm,xAn,xAB,xAo,xAp,xAf,Nat.reduceDiv,Nat.reduceMod,WP,xAI,xAF,xAX,xAW,xAV,xAG,xAH,xAE,W2,xAd,xAe,xAi,Nat.reduceAdd,Nat.reduceSub,Nat.reduceLeDiff,Nat.reduceMul,Int.reduceAdd,Int.reduceSub,Int.reduceMul,Int.reduceLT,Int.reduceLE,Int.reduceEq,Int.reduceToNat,Int.reduceNeg,Nat.reduceEqDiff,Nat.reduceBEq,Nat.reduceLT,xAa,xAg,xAq,xAr,hlong,xMs]
 have hlong := yCG n o d1 d2
 simp only [Aut.cells,List.cons_append,List.nil_append] at hlong
 have e1 : ¬ 100 < n.st.length ∧ ¬ 100 < n.fi.length ∧ ¬ 520 < n.ed.length := ⟨fun h => d1 (.inl h),fun h => d1 (.inr (.inl h)),fun h => d1 (.inr (.inr h))⟩
 have e2 : ¬ 100 < o.st.length ∧ ¬ 100 < o.fi.length ∧ ¬ 520 < o.ed.length := ⟨fun h => d2 (.inl h),fun h => d2 (.inr (.inl h)),fun h => d2 (.inr (.inr h))⟩
 have hf : Fits n := ⟨by omega,by omega,by omega,hby⟩
 have ho : Fits o := ⟨by omega,by omega,by omega,hbo⟩
 obtain ⟨Xt,Xr,Xu,f,g,h,k11,k12,k13,kr⟩ := yAK hf ho (by omega) (by omega) (by omega) (by omega) (by omega)
 have h8 := xIf n hf
 have h14 := yBG n hf (by omega)
 have hs := yDy n hf (by omega) (by omega)
 split at hs
 ·rename_i he
  rw [he] at h8
  obtain ⟨za,la,zb,lb,k9,k10,s1,s2⟩ := hs
  obtain ⟨G',hl⟩ := kr s1 s2
  clear kr s1 s2 d1 d2
  rw [a3p,a3,xAK]
  simp (maxSteps := 30000000) (disch := first | assumption | omega | (simp only [WL,AV.isCell,xAa] <;> omega) | rfl | decide) only [↓reduceIte,WB,xAR,xAc,xAQ,xAD,xAC,AV.cells,AV.isCell,xAb,xAj,xAk,xAs,xAt,xAu,xAv,xAw,xAx,xAL,xAy,xAz,xAl,xAA,xAm,xAn,xAB,xAo,xAp,xAf,Nat.reduceDiv,Nat.reduceMod,WP,xAI,xAF,xAX,xAW,xAV,xAG,xAH,xAE,W2,xAd,xAe,xAi,Nat.reduceAdd,Nat.reduceSub,Nat.reduceLeDiff,Nat.reduceMul,Int.reduceAdd,Int.reduceSub,Int.reduceMul,Int.reduceLT,Int.reduceLE,Int.reduceEq,Int.reduceToNat,Int.reduceNeg,Nat.reduceEqDiff,Nat.reduceBEq,Nat.reduceLT,xAa,xAg,xAq,xAr,hlong,xMs,h8,k9,k10,k11,k12,k13,h14,xZg,hl]
 ·rename_i he
  obtain ⟨s1,s2⟩ := hs
  obtain ⟨G',hl⟩ := kr s1 s2
  clear kr s1 s2 d1 d2
  generalize xHc n = e at *
  rw [a3p,a3,xAK]
  simp (maxSteps := 30000000) (disch := first | assumption | omega | (simp only [WL,AV.isCell,xAa] <;> omega) | rfl | decide) only [↓reduceIte,WB,xAR,xAc,xAQ,xAD,xAC,AV.cells,AV.isCell,xAb,xAj,xAk,xAs,xAt,xAu,xAv,xAw,xAx,xAL,xAy,xAz,xAl,xAA,xAm,xAn,xAB,xAo,xAp,xAf,Nat.reduceDiv,Nat.reduceMod,WP,xAI,xAF,xAX,xAW,xAV,xAG,xAH,xAE,W2,xAd,xAe,xAi,Nat.reduceAdd,Nat.reduceSub,Nat.reduceLeDiff,Nat.reduceMul,Int.reduceAdd,Int.reduceSub,Int.reduceMul,Int.reduceLT,Int.reduceLE,Int.reduceEq,Int.reduceToNat,Int.reduceNeg,Nat.reduceEqDiff,Nat.reduceBEq,Nat.reduceLT,xAa,xAg,xAq,xAr,hlong,xMs,h8,he,k11,k12,k13,h14,xZg,hl]
end Go.Abs.NfaD
