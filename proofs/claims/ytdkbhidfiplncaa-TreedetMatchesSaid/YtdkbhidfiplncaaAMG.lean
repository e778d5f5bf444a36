/- The reference's coarsest: the first classes,a round. -/
import Derived.Test.YtdkbhidfiplncaaAbsBun
import Derived.Test.YtdkbhidfiplncaaAMF
import Derived.Test.YtdkbhidfiplncaaAME
import Derived.Test.YtdkbhidfiplncaaAMA
namespace Go.Abs.Det
open Go Go.Abs
set_option linter.unusedSimpArgs false
set_option linter.unusedVariables false
def xEE (P : Nat → Nat → Bool) (n s : Nat) : List Int := xAO ((List.range s).map (xLF P)) ++ List.replicate (n - s) 0
theorem xAW (l : List Nat) : (xAO l).length = l.length := by simp [xAO]
theorem xQH (P : Nat → Nat → Bool) {n s : Nat} (h : s ≤ n) : (xEE P n s).length = n := by
 unfold xEE; rw [List.length_append,xAW,List.length_map,List.length_range,List.length_replicate]; omega
theorem xLN (P : Nat → Nat → Bool) (n : Nat) : xEE P n 0 = List.replicate n 0 := by simp [xEE,xAO]
theorem xQI (P : Nat → Nat → Bool) (n : Nat) : xEE P n n = xAO (xZO P n) := by simp [xEE,xZO]
theorem xQJ (P : Nat → Nat → Bool) {n s : Nat} (h : s < n) : (xEE P n s).set s ((xLF P s : Nat) : Int) = xEE P n (s + 1) := by
 unfold xEE
 have hl : (xAO ((List.range s).map (xLF P))).length = s := by rw [xAW,List.length_map,List.length_range]
 rw [List.set_append_right _ _ (by omega),hl,Nat.sub_self,List.range_succ,List.map_append,xMz,List.append_assoc]
 congr 1
 rw [show n - s = (n - (s + 1)) + 1 by omega,List.replicate_succ,List.set_cons_zero]
 rfl
section
variable {D : Da}
theorem yKb {G : xAc} {b s : Nat} {l : List Int} (hV : Va D) (hs : s < D.next.length) (h0 : G[0]? = some (.cells false false D.cells)) (hb0 : b ≠ 0) (hb : b < G.length) (hl : l.length = D.next.length) : ∀ k r,k ≤ s →
  L.loop xNO yAl ⟨xNP (.ptr 0 0) (.own false b 0 D.next.length 1) (.int .i64 (s : Nat)) (.int .i64 ((k : Int) - 1)),G.set b (.cells false false (ints (l.set s ((r : Nat) : Int))))⟩ =
   some (.exit 2,⟨xNP (.ptr 0 0) (.own false b 0 D.next.length 1) (.int .i64 (s : Nat)) (.int .i64 (-1)),G.set b (.cells false false (ints (l.set s ((dnP (xJn D s) k r : Nat) : Int))))⟩) := by
 have n64 := hV.n64
 have fl := hV.fl
 have sl : ∀ X : Blk,(G.set b X)[b]? = some X := fun X => List.getElem?_set_self hb
 have s0 : ∀ X : Blk,(G.set b X)[0]? = some (.cells false false D.cells) := fun X => by rw [List.getElem?_set_ne hb0]; exact h0
 have s2 : ∀ X Y : Blk,(G.set b X).set b Y = G.set b Y := fun X Y => List.set_set ..
 unfold Da.cells at s0
 intro k
 induction k with
 | zero =>
  intro r _
  have e1 : (((0 : Nat) : Int) - 1) = -1 := by omega
  rw [e1,xWb]
  simp (maxSteps := 30000000) (disch := first | assumption | omega | (simp only [WL,AV.isCell,xAa] <;> omega) | rfl | decide) only [xNN,Int.reduceNeg,WB,Int.reduceLE,↓reduceIte,xSf]
  try rfl
 | succ k ih =>
  intro r hk
  have e1 : (((k + 1 : Nat) : Int) - 1) = (k : Nat) := by omega
  have hge : (0 : Int) ≤ (k : Nat) := by omega
  have ih' := ih (if xJn D s k = true then k else r) (by omega)
  have ed : dnP (xJn D s) (k + 1) r = dnP (xJn D s) k (if xJn D s k = true then k else r) := rfl
  rw [e1,ed]
  have f1 : List.take 1 (List.drop s (bools D.fin)) = [AV.bool (D.fin.getD s false)] := xDN (by omega)
  have f2 : List.take 1 (List.drop k (bools D.fin)) = [AV.bool (D.fin.getD k false)] := xDN (by omega)
  generalize dnP (xJn D s) k (if xJn D s k = true then k else r) = R at *
  have hls : ∀ a : Int,(l.set s a).length = D.next.length := fun a => by rw [List.length_set,hl]
  have hss : ∀ a b : Int,(l.set s a).set s b = l.set s b := fun a b => List.set_set ..
  by_cases c : D.fin.getD s false = D.fin.getD k false
  ·have c' : xJn D s k = true := decide_eq_true c
   rw [if_pos c'] at ih'
   rw [c] at f1
   rw [xWb]
   cases hf : D.fin.getD k false <;> rw [hf] at f1 f2 <;>
    (simp (maxSteps := 30000000) (disch := first | assumption | omega | (simp only [WL,AV.isCell,xAa] <;> omega) | rfl | decide) only [xNN,WB,hge,↓reduceIte,s0,fl,f1,xAj,f2,AV.cells,sl,W2,hss,s2,xSf,ih',Int.reduceNeg])
  ·have c' : ¬ xJn D s k = true := fun h => c (of_decide_eq_true h)
   rw [if_neg c'] at ih'
   rw [xWb]
   cases hf : D.fin.getD k false <;> cases hg : D.fin.getD s false <;> rw [hf,hg] at c <;> first | exact absurd rfl c | (rw [hf] at f2; rw [hg] at f1; (simp (maxSteps := 30000000) (disch := first | assumption | omega | (simp only [WL,AV.isCell,xAa] <;> omega) | rfl | decide) only [xNN,WB,hge,↓reduceIte,s0,fl,f1,xAj,f2,xSf,ih',Int.reduceNeg]))
end
section
variable {D : Da}
theorem yKc {G : xAc} {b : Nat} (hV : Va D) (h0 : G[0]? = some (.cells false false D.cells)) (hb0 : b ≠ 0) (hb : b < G.length) : ∀ e s,s + e = D.next.length →
  L.loop xNQ yAm ⟨xNR (.ptr 0 0) (.own false b 0 D.next.length 1) (.int .i64 (s : Nat)),G.set b (.cells false false (ints (xEE (xJn D) D.next.length s)))⟩ =
   some (.exit 0,⟨xNR (.ptr 0 0) (.own false b 0 D.next.length 1) (.int .i64 (D.next.length : Nat)),G.set b (.cells false false (ints (xAO (xVq D))))⟩) := by
 have n64 := hV.n64
 have sl : ∀ X : Blk,(G.set b X)[b]? = some X := fun X => List.getElem?_set_self hb
 have s2 : ∀ X Y : Blk,(G.set b X).set b Y = G.set b Y := fun X Y => List.set_set ..
 intro e
 induction e with
 | zero =>
  intro s h
  obtain rfl : s = D.next.length := by omega
  rw [xQI,show xVq D = xZO (xJn D) D.next.length from rfl,yCn]
  simp (maxSteps := 30000000) (disch := first | assumption | omega | (simp only [WL,AV.isCell,xAa] <;> omega) | rfl | decide) only [xSg,WB,↓reduceIte,xWc]
 | succ e ih =>
  intro s h
  have hlt : (s : Int) < (D.next.length : Nat) := by omega
  have ih' := ih (s + 1) (by omega)
  have hl := xQH (xJn D) (show s ≤ D.next.length by omega)
  have ht := yKb (s := s) (l := xEE (xJn D) D.next.length s) hV (by omega) h0 hb0 hb hl s s (Nat.le_refl _)
  rw [show dnP (xJn D s) s s = xLF (xJn D) s from rfl,xQJ _ (by omega)] at ht
  generalize xEE (xJn D) D.next.length s = l at *
  rw [yCn]
  simp (maxSteps := 30000000) (disch := first | assumption | omega | (simp only [WL,AV.isCell,xAa] <;> omega) | rfl | decide) only [xSg,WB,hlt,↓reduceIte,AV.cells,sl,W2,s2,xSf,ht,Int.reduceNeg,xWc,ih']
def stI (D : Da) (C : List Int) (s t : Nat) : Bool := decide (C.getD s 0 = C.getD t 0) && agI D C s t
theorem yBY (D : Da) (c : List Nat) : stI D (xAO c) = xCK D c := by
 funext s t
 unfold stI xCK
 rw [yBJ,xAG,xAG]
 simp only [Int.natCast_inj]
set_option maxHeartbeats 1000000 in
theorem yKd {G : xAc} {b cb s : Nat} {s6 : AV} {l C : List Int} (hV : Va D) (hs : s < D.next.length) (h0 : G[0]? = some (.cells false false D.cells)) (hb0 : b ≠ 0) (hb : b < G.length) (hcb : cb ≠ b) (hC : G[cb]? = some (.cells false false (ints C))) (hCl : C.length = D.next.length) (hl : l.length = D.next.length) : ∀ k r,k ≤ s →
  L.loop xNS yAn ⟨xNT (.ptr 0 0) (.own false cb 0 D.next.length 1) s6 (.own false b 0 D.next.length 1) (.int .i64 (s : Nat)) (.int .i64 ((k : Int) - 1)),G.set b (.cells false false (ints (l.set s ((r : Nat) : Int))))⟩ =
   some (.exit 8,⟨xNT (.ptr 0 0) (.own false cb 0 D.next.length 1) s6 (.own false b 0 D.next.length 1) (.int .i64 (s : Nat)) (.int .i64 (-1)),G.set b (.cells false false (ints (l.set s ((dnP (stI D C s) k r : Nat) : Int))))⟩) := by
 have n64 := hV.n64
 have sl : ∀ X : Blk,(G.set b X)[b]? = some X := fun X => List.getElem?_set_self hb
 have s0 : ∀ X : Blk,(G.set b X)[0]? = some (.cells false false D.cells) := fun X => by rw [List.getElem?_set_ne hb0]; exact h0
 have sc : ∀ X : Blk,(G.set b X)[cb]? = some (.cells false false (ints C)) := fun X => by rw [List.getElem?_set_ne (Ne.symm hcb)]; exact hC
 have s2 : ∀ X Y : Blk,(G.set b X).set b Y = G.set b Y := fun X Y => List.set_set ..
 unfold Da.cells at s0
 intro k
 induction k with
 | zero =>
  intro r _
  have e1 : (((0 : Nat) : Int) - 1) = -1 := by omega
  rw [e1,xSh]
  simp (maxSteps := 30000000) (disch := first | assumption | omega | (simp only [WL,AV.isCell,xAa] <;> omega) | rfl | decide) only [xJT,Int.reduceNeg,WB,Int.reduceLE,↓reduceIte,xNU]
  try rfl
 | succ k ih =>
  intro r hk
  have e1 : (((k + 1 : Nat) : Int) - 1) = (k : Nat) := by omega
  have hge : (0 : Int) ≤ (k : Nat) := by omega
  have ih' := ih (if stI D C s k = true then k else r) (by omega)
  have ed : dnP (stI D C s) (k + 1) r = dnP (stI D C s) k (if stI D C s k = true then k else r) := rfl
  rw [e1,ed]
  have ha := yBK (z := false) hV hCl hs (show k < D.next.length by omega)
  have f1 : List.take 1 (List.drop s (ints C)) = [AV.int .i64 (C.getD s 0)] := xAr _ _ (by omega)
  have f2 : List.take 1 (List.drop k (ints C)) = [AV.int .i64 (C.getD k 0)] := xAr _ _ (by omega)
  have htk : List.take D.next.length C = C := List.take_of_length_le (by omega)
  unfold iw at ha
  rw [hCl] at ha
  unfold Da.av Da.cells at ha
  generalize dnP (stI D C s) k (if stI D C s k = true then k else r) = R at *
  have hls : ∀ a : Int,(l.set s a).length = D.next.length := fun a => by rw [List.length_set,hl]
  have hss : ∀ a b : Int,(l.set s a).set s b = l.set s b := fun a b => List.set_set ..
  by_cases c : C.getD s 0 = C.getD k 0
  ·cases hag : agI D C s k with
   | true =>
    have c' : stI D C s k = true := by unfold stI; rw [hag,decide_eq_true c]; rfl
    rw [if_pos c'] at ih'
    rw [hag] at ha
    rw [xSh]
    simp (maxSteps := 30000000) (disch := first | assumption | omega | (simp only [WL,AV.isCell,xAa] <;> omega) | rfl | decide) only [xJT,WB,hge,↓reduceIte,sc,W2,c,s0,xAj,xAY,htk,ha,xA0,xAx,AV.cells,sl,hss,s2,xNU,ih',Int.reduceNeg]
   | false =>
    have c' : ¬ stI D C s k = true := by unfold stI; rw [hag,Bool.and_false]; simp
    rw [if_neg c'] at ih'
    rw [hag] at ha
    rw [xSh]
    simp (maxSteps := 30000000) (disch := first | assumption | omega | (simp only [WL,AV.isCell,xAa] <;> omega) | rfl | decide) only [xJT,WB,hge,↓reduceIte,sc,W2,c,s0,xAj,xAY,htk,ha,xA0,xAx,xNU,ih',Int.reduceNeg]
  ·have c' : ¬ stI D C s k = true := by unfold stI; rw [decide_eq_false c,Bool.false_and]; simp
   rw [if_neg c'] at ih'
   rw [xSh]
   simp (maxSteps := 30000000) (disch := first | assumption | omega | (simp only [WL,AV.isCell,xAa] <;> omega) | rfl | decide) only [xJT,WB,hge,↓reduceIte,sc,W2,c,xAj,xNU,ih',Int.reduceNeg]
theorem yKe {G : xAc} {b cb : Nat} {s6 : AV} {c : List Nat} (hV : Va D) (h0 : G[0]? = some (.cells false false D.cells)) (hb0 : b ≠ 0) (hb : b < G.length) (hcb : cb ≠ b) (hC : G[cb]? = some (.cells false false (ints (xAO c)))) (hCl : c.length = D.next.length) : ∀ e s,s + e = D.next.length →
  L.loop xNV yAo ⟨xNW (.ptr 0 0) (.own false cb 0 D.next.length 1) s6 (.own false b 0 D.next.length 1) (.int .i64 (s : Nat)),G.set b (.cells false false (ints (xEE (xCK D c) D.next.length s)))⟩ =
   some (.exit 6,⟨xNW (.ptr 0 0) (.own false cb 0 D.next.length 1) s6 (.own false b 0 D.next.length 1) (.int .i64 (D.next.length : Nat)),G.set b (.cells false false (ints (xAO (xBq D c))))⟩) := by
 have n64 := hV.n64
 have sl : ∀ X : Blk,(G.set b X)[b]? = some X := fun X => List.getElem?_set_self hb
 have s2 : ∀ X Y : Blk,(G.set b X).set b Y = G.set b Y := fun X Y => List.set_set ..
 intro e
 induction e with
 | zero =>
  intro s h
  obtain rfl : s = D.next.length := by omega
  rw [xQI,show xBq D c = xZO (xCK D c) D.next.length from rfl,yCo]
  simp (maxSteps := 30000000) (disch := first | assumption | omega | (simp only [WL,AV.isCell,xAa] <;> omega) | rfl | decide) only [xSi,WB,↓reduceIte,xSj]
 | succ e ih =>
  intro s h
  have hlt : (s : Int) < (D.next.length : Nat) := by omega
  have ih' := ih (s + 1) (by omega)
  have hl := xQH (xCK D c) (show s ≤ D.next.length by omega)
  have ht := yKd (s := s) (s6 := s6) (l := xEE (xCK D c) D.next.length s) (C := xAO c) hV (by omega) h0 hb0 hb hcb hC (by rw [xAW]; exact hCl) hl s s (Nat.le_refl _)
  rw [yBY,show dnP (xCK D c s) s s = xLF (xCK D c) s from rfl,xQJ _ (by omega)] at ht
  generalize xEE (xCK D c) D.next.length s = l at *
  rw [yCo]
  simp (maxSteps := 30000000) (disch := first | assumption | omega | (simp only [WL,AV.isCell,xAa] <;> omega) | rfl | decide) only [xSi,WB,hlt,↓reduceIte,AV.cells,sl,W2,s2,xNU,ht,Int.reduceNeg,xSj,ih']
end
theorem xVy {l l' : List Int} {z z' : Bool} {s4 : AV} {H : xAc} (hl : l.length < 1099511627776) (he : l'.length = l.length) : ∀ d i,i + d = l.length →
  ∃ e s s5,L.loop xJJ xVG ⟨xG0 (iw z l) (iw z' l') s4 (.int .i64 (i : Nat)),H⟩ = some (e,⟨xG0 (iw z l) (iw z' l') s s5,H⟩) ∧ ((e = .ret ∧ s = .bool false ∧ l.drop i ≠ l'.drop i) ∨ (e = .exit 0 ∧ l.drop i = l'.drop i)) := by
 intro d
 induction d with
 | zero =>
  intro i h
  obtain rfl : i = l.length := by omega
  refine ⟨.exit 0,s4,.int .i64 (l.length : Nat),?_,.inr ⟨rfl,by rw [List.drop_length,← he,List.drop_length]⟩⟩
  rw [xMT]
  simp (maxSteps := 30000000) (disch := first | assumption | omega | (simp only [WL,AV.isCell,xAa] <;> omega) | rfl | decide) only [xGZ,WB,↓reduceIte,xF3]
 | succ d ih =>
  intro i h
  have hlt : (i : Int) < (l.length : Nat) := by omega
  have g1 : List.take 1 (List.drop i (ints l)) = [.int .i64 (l.getD i 0)] := xAr _ _ (by omega)
  have g2 : List.take 1 (List.drop i (ints l')) = [.int .i64 (l'.getD i 0)] := xAr _ _ (by omega)
  rw [xDM (by omega : i < l.length),xDM (by omega : i < l'.length)]
  by_cases c : l.getD i 0 = l'.getD i 0
  ·obtain ⟨e,s,s5,h1,h2⟩ := ih (i + 1) (by omega)
   have ct := eq_true c
   refine ⟨e,s,s5,?_,?_⟩
   ·rw [xMT]
    simp (maxSteps := 30000000) (disch := first | assumption | omega | (simp only [WL,AV.isCell,xAa] <;> omega) | rfl | decide) only [xGZ,WB,hlt,↓reduceIte,W2,xAj,ct,xF3,h1]
   ·rcases h2 with ⟨a,b,k⟩ | ⟨a,k⟩
    ·exact .inl ⟨a,b,fun q => k (List.cons.inj q).2⟩
    ·exact .inr ⟨a,by rw [c,k]⟩
  ·refine ⟨.ret,.bool false,.int .i64 (i : Nat),?_,.inl ⟨rfl,rfl,fun q => c (List.cons.inj q).1⟩⟩
   rw [xMT]
   simp (maxSteps := 30000000) (disch := first | assumption | omega | (simp only [WL,AV.isCell,xAa] <;> omega) | rfl | decide) only [xGZ,WB,hlt,↓reduceIte,W2,xAj,c,xF3]
theorem yIH (z z' : Bool) (l l' : List Int) (hl : l.length < 1099511627776) (hl' : l'.length < 1099511627776) : L.pcall 20 [iw z l,iw z' l'] = some (.bool (decide (l = l'))) := by
 by_cases he : l'.length = l.length
 ·obtain ⟨e,s,s5,h1,h2⟩ := xVy (z := z) (z' := z') (s4 := .bool false) (H := []) hl he l.length 0 (by omega)
  have he' : (((l.length : Nat) : Int) = (l'.length : Nat)) = True := eq_true (by omega)
  simp only [Int.natCast_zero,List.drop_zero] at h1 h2
  rcases h2 with ⟨rfl,rfl,hc⟩ | ⟨rfl,hc⟩
  ·rw [decide_eq_false hc,yHc,a20,xAf]
   simp (maxSteps := 30000000) (disch := first | assumption | omega | (simp only [WL,AV.isCell,xAa] <;> omega) | rfl | decide) only [WB,Nat.reduceAdd,Nat.reduceSub,he',↓reduceIte,xF3,h1]
  ·rw [decide_eq_true hc,yHc,a20,xAf]
   simp (maxSteps := 30000000) (disch := first | assumption | omega | (simp only [WL,AV.isCell,xAa] <;> omega) | rfl | decide) only [WB,Nat.reduceAdd,Nat.reduceSub,he',↓reduceIte,xF3,h1]
 ·have he' : (((l.length : Nat) : Int) = (l'.length : Nat)) = False := eq_false (by omega)
  rw [decide_eq_false (fun q => he (by rw [q])),yHc,a20,xAf]
  simp (maxSteps := 30000000) (disch := first | assumption | omega | (simp only [WL,AV.isCell,xAa] <;> omega) | rfl | decide) only [WB,Nat.reduceAdd,Nat.reduceSub,he',↓reduceIte]
theorem yBZ {a b : List Nat} (h : xAO a = xAO b) : a = b := by
 have hl : a.length = b.length := by have := congrArg List.length h; rwa [xAW,xAW] at this
 refine xFo hl fun i hi => ?_
 have := congrArg (fun l => List.getD l i 0) h
 simp only [xAG] at this
 omega
section
variable {D : Da}
theorem xDU (D : Da) (c : List Nat) : (xBq D c).length = D.next.length := xD5 _ _
set_option maxHeartbeats 1000000 in
theorem yB0 (hV : Va D) : ∀ k rd c G cb,rd + k = D.next.length → c.length = D.next.length → G[0]? = some (.cells false false D.cells) → G[cb]? = some (.cells false false (ints (xAO c))) →
  ∃ cb' G' q,L.loop xNY yAp ⟨xNZ (.ptr 0 0) (.own false cb 0 D.next.length 1) (.int .i64 (rd : Nat)),G⟩ = some (.exit 4,⟨xNZ (.ptr 0 0) (.own false cb' 0 D.next.length 1) q,G'⟩) ∧
   G'[cb']? = some (.cells false false (ints (xAO (xVC D k c)))) ∧ (xVC D k c).length = D.next.length := by
 have n64 := hV.n64
 have n0 := hV.n0
 intro k
 induction k with
 | zero =>
  intro rd c G cb h hl h0 hC
  obtain rfl : rd = D.next.length := by omega
  refine ⟨cb,G,.int .i64 (D.next.length : Nat),?_,hC,hl⟩
  unfold Da.cells at h0
  rw [xWd]
  simp (maxSteps := 30000000) (disch := first | assumption | omega | (simp only [WL,AV.isCell,xAa] <;> omega) | rfl | decide) only [xNX,WB,h0,↓reduceIte,xSk]
 | succ k ih =>
  intro rd c G cb h hl h0 hC
  have hlt : (rd : Int) < (D.next.length : Nat) := by omega
  have hcl := (List.getElem?_eq_some_iff.1 hC).1
  have h0l := (List.getElem?_eq_some_iff.1 h0).1
  have g0 : ∀ X : Blk,(G ++ [X])[0]? = some (.cells false false D.cells) := fun X => xAw h0
  have gC : ∀ X : Blk,(G ++ [X])[cb]? = some (.cells false false (ints (xAO c))) := fun X => xAw hC
  have hs := yKe (G := G ++ [.cells false false (ints (List.replicate D.next.length 0))]) (b := G.length) (cb := cb) (s6 := .int .i64 (rd : Nat)) (c := c) hV (g0 _) (by omega) (by simp) (by omega) (gC _) hl D.next.length 0 (by omega)
  rw [xLN] at hs
  have e1 : ∀ X Y : Blk,(G ++ [X]).set G.length Y = G ++ [Y] := fun X Y => by rw [List.set_append_right _ _ (Nat.le_refl _),Nat.sub_self]; rfl
  rw [e1,e1] at hs
  simp only [Int.natCast_zero] at hs
  have heq := yIH false false (xAO (xBq D c)) (xAO c) (by rw [xAW,xDU]; omega) (by rw [xAW]; omega)
  unfold iw at heq
  rw [xAW,xAW,xDU,hl] at heq
  have gN : (G ++ [Blk.cells false false (ints (xAO (xBq D c)))])[G.length]? = some (.cells false false (ints (xAO (xBq D c)))) := by rw [List.getElem?_append_right (Nat.le_refl _),Nat.sub_self]; rfl
  have gC' := gC (.cells false false (ints (xAO (xBq D c))))
  have t1 : List.take D.next.length (xAO (xBq D c)) = xAO (xBq D c) := List.take_of_length_le (by rw [xAW,xDU]; omega)
  have t2 : List.take D.next.length (xAO c) = xAO c := List.take_of_length_le (by rw [xAW]; omega)
  have l1 : (xAO (xBq D c)).length = D.next.length := by rw [xAW,xDU]
  have l2 : (xAO c).length = D.next.length := by rw [xAW]; exact hl
  have g0' := g0 (.cells false false (ints (xAO (xBq D c))))
  by_cases e : xBq D c = c
  ·have er : xVC D (k + 1) c = c := if_pos e
   rw [er]
   rw [decide_eq_true (by rw [e])] at heq
   refine ⟨cb,_,.int .i64 (rd : Nat),?_,gC',hl⟩
   clear ih
   generalize xAO (xBq D c) = N at *
   generalize xAO c = M at *
   unfold Da.cells at h0 g0'
   rw [xWd]
   simp (maxSteps := 30000000) (disch := first | assumption | omega | (simp only [WL,AV.isCell,xAa] <;> omega) | rfl | decide) only [xNX,WB,h0,hlt,↓reduceIte,xBp,xSj,hs,xAY,gN,W2,t1,gC',t2,heq,xA0,xAx,Nat.reduceEqDiff,xSk]
  ·have er : xVC D (k + 1) c = xVC D k (xBq D c) := if_neg e
   rw [er]
   have e' : ¬ xAO (xBq D c) = xAO c := fun h => e (yBZ h)
   rw [decide_eq_false e'] at heq
   obtain ⟨cb',G',q,r1,r2,r3⟩ := ih (rd + 1) (xBq D c) _ G.length (by omega) (xDU D c) g0' gN
   refine ⟨cb',G',q,?_,r2,r3⟩
   clear ih e'
   generalize xAO (xBq D c) = N at *
   generalize xAO c = M at *
   unfold Da.cells at h0 g0'
   rw [xWd]
   simp (maxSteps := 30000000) (disch := first | assumption | omega | (simp only [WL,AV.isCell,xAa] <;> omega) | rfl | decide) only [xNX,WB,h0,hlt,↓reduceIte,xBp,xSj,hs,xAY,gN,W2,t1,gC',t2,heq,xA0,xAx,xSk,r1]
theorem xLO (hV : Va D) : L.pcall 64 [D.av] = some (iw false (xAO (xBm D))) ∧ (xBm D).length = D.next.length := by
 have n64 := hV.n64
 have n0 := hV.n0
 have e1 : ∀ X Y A : Blk,([A,X] : xAc).set 1 Y = [A,Y] := fun X Y A => rfl
 have h1 := yKc (G := [.cells false false D.cells,.cells false false (ints (List.replicate D.next.length 0))]) (b := 1) hV rfl (by omega) (by simp) D.next.length 0 (by omega)
 rw [xLN,e1,e1] at h1
 obtain ⟨cb,G',q,h2,h3,h4⟩ := yB0 hV D.next.length 0 (xVq D) [.cells false false D.cells,.cells false false (ints (xAO (xVq D)))] 1 (by omega) (xD5 _ _) rfl rfl
 rw [show xVC D D.next.length (xVq D) = xBm D from rfl] at h3 h4
 refine ⟨?_,h4⟩
 have hl : (xAO (xBm D)).length = D.next.length := by rw [xAW]; exact h4
 unfold iw
 rw [hl]
 have t1 : List.take D.next.length (xAO (xBm D)) = xAO (xBm D) := List.take_of_length_le (by omega)
 simp only [Int.natCast_zero] at h1 h2
 generalize xAO (xBm D) = N at *
 generalize xAO (xVq D) = M at *
 unfold Da.av
 unfold Da.cells at h1 h2 ⊢
 rw [yJE,a64,xAf]
 simp (maxSteps := 30000000) (disch := first | assumption | omega | (simp only [WL,AV.isCell,xAa] <;> omega) | rfl | decide) only [WB,Nat.reduceSub,AV.cells,AV.isCell,↓reduceIte,xBp,xWc,h1,xSk,h2,xAY,h3,W2,t1]
end
section
variable {d : Dfa} {H : xAc} {s4 s5 : AV}
theorem yB1 {row : Rw} (hl : row.l.length ≤ 100) : ∀ e i,i + e = row.l.length →
  ∃ i' : Nat,L.loop xMN xZU ⟨xJF (.ptr 0 0) (.int .i64 0) (.int .i64 (d.next.length : Nat)) s4 s5 (rwV row) (.int .i64 (i : Nat)),H⟩ =
   some (if xZP d.next.length (row.l.drop i) = false then (.exit 4,⟨xJF (.ptr 0 0) (.int .i64 0) (.int .i64 (d.next.length : Nat)) s4 s5 (rwV row) (.int .i64 (row.l.length : Nat)),H⟩)
    else (.ret,⟨xJF (.ptr 0 0) (.int .i64 8) (.int .i64 (d.next.length : Nat)) s4 s5 (rwV row) (.int .i64 (i' : Nat)),H⟩)) := by
 intro e
 induction e with
 | zero =>
  intro i h
  obtain rfl : i = row.l.length := by omega
  refine ⟨0,?_⟩
  rw [if_pos (by rw [List.drop_length]; rfl),xRH]
  simp (maxSteps := 30000000) (disch := first | assumption | omega | (simp only [WL,AV.isCell,xAa] <;> omega) | rfl | decide) only [xGU,rwV,WB,↓reduceIte,xF1]
 | succ e ih =>
  intro i h
  have hlt : (i : Int) < (row.l.length : Nat) := by omega
  obtain ⟨i',ih'⟩ := ih (i + 1) (by omega)
  rw [xDM (by omega : i < row.l.length),xQv]
  by_cases c1 : row.l.getD i 0 < 0
  ·rw [decide_eq_false (by omega),Bool.not_false,Bool.true_or]
   refine ⟨i,?_⟩
   rw [if_neg (by simp),xRH]
   simp (maxSteps := 30000000) (disch := first | assumption | omega | (simp only [WL,AV.isCell,xAa] <;> omega) | rfl | decide) only [xGU,rwV,WB,hlt,↓reduceIte,W2,c1,xF1]
  ·by_cases c2 : (d.next.length : Nat) ≤ row.l.getD i 0
   ·rw [decide_eq_false (by omega),Bool.not_false,Bool.true_or]
    refine ⟨i,?_⟩
    rw [if_neg (by simp),xRH]
    simp (maxSteps := 30000000) (disch := first | assumption | omega | (simp only [WL,AV.isCell,xAa] <;> omega) | rfl | decide) only [xGU,rwV,WB,hlt,↓reduceIte,W2,c1,c2,xF1]
   ·rw [decide_eq_true (by omega),Bool.not_true,Bool.false_or]
    refine ⟨i',?_⟩
    rw [xRH]
    unfold rwV at ih'
    by_cases e : xZP d.next.length (row.l.drop (i + 1)) = false
    ·rw [if_pos e] at ih' ⊢
     simp (maxSteps := 30000000) (disch := first | assumption | omega | (simp only [WL,AV.isCell,xAa] <;> omega) | rfl | decide) only [xGU,rwV,WB,hlt,↓reduceIte,W2,c1,c2,xF1,ih']
    ·rw [if_neg e] at ih' ⊢
     simp (maxSteps := 30000000) (disch := first | assumption | omega | (simp only [WL,AV.isCell,xAa] <;> omega) | rfl | decide) only [xGU,rwV,WB,hlt,↓reduceIte,W2,c1,c2,xF1,ih']
theorem xZD {m l : Nat} (hv : d.vars = (m : Nat)) (hv3 : m ≤ 3) (hS : Sm d) (hl : l < d.next.length) (hlen : (d.next.getD l rr0).l.length = d.next.length) (h0 : H[0]? = some (.cells false false d.cells)) : ∀ e i,i + e = d.next.length →
  ∃ i' : Nat,L.loop xMO xZV ⟨xJG (.ptr 0 0) (.int .i64 0) (.int .i64 (d.next.length : Nat)) (.int .i64 (l : Nat)) (.int .i64 (i : Nat)),H⟩ =
   some (if xCt d.next.length (two m) ((d.next.getD l rr0).l.drop i) = 0 then (.exit 2,⟨xJG (.ptr 0 0) (.int .i64 0) (.int .i64 (d.next.length : Nat)) (.int .i64 (l : Nat)) (.int .i64 (d.next.length : Nat)),H⟩)
    else (.ret,⟨xJG (.ptr 0 0) (.int .i64 (xCt d.next.length (two m) ((d.next.getD l rr0).l.drop i))) (.int .i64 (d.next.length : Nat)) (.int .i64 (l : Nat)) (.int .i64 (i' : Nat)),H⟩)) := by
 have hn := hS.n
 intro e
 induction e with
 | zero =>
  intro i h
  obtain rfl : i = d.next.length := by omega
  refine ⟨0,?_⟩
  rw [if_pos (by rw [List.drop_of_length_le (by omega)]; rfl),xRI]
  simp (maxSteps := 30000000) (disch := first | assumption | omega | (simp only [WL,AV.isCell,xAa] <;> omega) | rfl | decide) only [xGV,WB,↓reduceIte,xF2]
 | succ e ih =>
  intro i h
  have hlt : (i : Int) < (d.next.length : Nat) := by omega
  obtain ⟨i',ih'⟩ := ih (i + 1) (by omega)
  have hm := xAl (a := rr0) hl
  have hm2 := hS.x _ hm _ (xAl (a := r0) (show i < (d.next.getD l rr0).l.length by omega))
  obtain ⟨i2,hr⟩ := yB1 (d := d) (H := H) (s4 := .int .i64 (l : Nat)) (s5 := .int .i64 (i : Nat)) (row := (d.next.getD l rr0).l.getD i r0) hm2 _ 0 (Nat.zero_add _)
  have hsh := xBU (v := (m : Nat)) (by omega) (by omega)
  have hv0 : ¬ ((m : Nat) : Int) < 0 := by omega
  simp only [Int.natCast_zero,List.drop_zero] at hr
  simp only [Int.toNat_natCast] at hsh
  have g1 : List.take 1 (List.drop i ((d.next.getD l rr0).l.map rwV)) = [rwV ((d.next.getD l rr0).l.getD i r0)] := xQo (by omega)
  rw [xFq (a := r0) (by omega : i < (d.next.getD l rr0).l.length)]
  have et : xCt d.next.length (two m) ((d.next.getD l rr0).l.getD i r0 :: (d.next.getD l rr0).l.drop (i + 1)) = if xJw d.next.length (two m) ((d.next.getD l rr0).l.getD i r0) = 0 then xCt d.next.length (two m) ((d.next.getD l rr0).l.drop (i + 1)) else xJw d.next.length (two m) ((d.next.getD l rr0).l.getD i r0) := rfl
  rw [et]
  generalize (d.next.getD l rr0).l.getD i r0 = row at *
  unfold Dfa.cells at h0
  rw [hv] at h0
  rw [xY9] at hr
  by_cases c1 : row.l.length = two m
  ·rw [c1] at hr
   by_cases c2 : xZP d.next.length row.l = false
   ·have e0 : xJw d.next.length (two m) row = 0 := by unfold xJw; rw [if_pos c1,if_pos c2]
    rw [if_pos e0]
    rw [if_pos c2] at hr
    refine ⟨i',?_⟩
    rw [xRI]
    by_cases e : xCt d.next.length (two m) ((d.next.getD l rr0).l.drop (i + 1)) = 0
    ·rw [if_pos e] at ih' ⊢
     simp (maxSteps := 30000000) (disch := first | assumption | omega | (simp only [WL,AV.isCell,xAa] <;> omega) | rfl | decide) only [xGV,WB,hlt,↓reduceIte,h0,xCs,rwsV,hlen,g1,rwV,c1,hsh,xF1,hr,xF2,ih']
    ·rw [if_neg e] at ih' ⊢
     simp (maxSteps := 30000000) (disch := first | assumption | omega | (simp only [WL,AV.isCell,xAa] <;> omega) | rfl | decide) only [xGV,WB,hlt,↓reduceIte,h0,xCs,rwsV,hlen,g1,rwV,c1,hsh,xF1,hr,xF2,ih']
   ·have e0 : xJw d.next.length (two m) row = 8 := by unfold xJw; rw [if_pos c1,if_neg c2]
    simp only [e0,if_neg (show ¬ (8 : Int) = 0 by decide)]
    rw [if_neg c2] at hr
    refine ⟨i,?_⟩
    rw [xRI]
    simp (maxSteps := 30000000) (disch := first | assumption | omega | (simp only [WL,AV.isCell,xAa] <;> omega) | rfl | decide) only [xGV,WB,hlt,↓reduceIte,h0,xCs,rwsV,hlen,g1,rwV,c1,hsh,xF1,hr,xF2]
  ·have e0 : xJw d.next.length (two m) row = 2 := by unfold xJw; rw [if_neg c1]
   simp only [e0,if_neg (show ¬ (2 : Int) = 0 by decide)]
   refine ⟨i,?_⟩
   rw [xRI]
   have c1' : ((row.l.length : Nat) : Int) = ((two m : Nat) : Int) ↔ False := ⟨fun h => c1 (by omega),False.elim⟩
   simp (maxSteps := 30000000) (disch := first | assumption | omega | (simp only [WL,AV.isCell,xAa] <;> omega) | rfl | decide) only [xGV,WB,hlt,↓reduceIte,h0,xCs,rwsV,hlen,g1,rwV,hsh,c1',xF2]
theorem xRC {m : Nat} (hv : d.vars = (m : Nat)) (hv3 : m ≤ 3) (hS : Sm d) (h0 : H[0]? = some (.cells false false d.cells)) : ∀ e i,i + e = d.next.length →
  ∃ i' : Nat,L.loop xMP xZW ⟨xJH (.ptr 0 0) (.int .i64 0) (.int .i64 (d.next.length : Nat)) (.int .i64 (i : Nat)),H⟩ =
   some (if xBr d.next.length (two m) (d.next.drop i) = 0 then (.exit 0,⟨xJH (.ptr 0 0) (.int .i64 0) (.int .i64 (d.next.length : Nat)) (.int .i64 (d.next.length : Nat)),H⟩)
    else (.ret,⟨xJH (.ptr 0 0) (.int .i64 (xBr d.next.length (two m) (d.next.drop i))) (.int .i64 (d.next.length : Nat)) (.int .i64 (i' : Nat)),H⟩)) := by
 have hn := hS.n
 intro e
 induction e with
 | zero =>
  intro i h
  obtain rfl : i = d.next.length := by omega
  refine ⟨0,?_⟩
  rw [if_pos (by rw [List.drop_length]; rfl),xRJ]
  simp (maxSteps := 30000000) (disch := first | assumption | omega | (simp only [WL,AV.isCell,xAa] <;> omega) | rfl | decide) only [xGW,WB,↓reduceIte,xGX]
 | succ e ih =>
  intro i h
  have hlt : (i : Int) < (d.next.length : Nat) := by omega
  obtain ⟨i',ih'⟩ := ih (i + 1) (by omega)
  have hr := fun hlen => xZD (d := d) (H := H) (l := i) hv hv3 hS (by omega) hlen h0 _ 0 (Nat.zero_add _)
  simp only [Int.natCast_zero,List.drop_zero] at hr
  rw [xFq (a := rr0) (by omega : i < d.next.length)]
  have et : xBr d.next.length (two m) (d.next.getD i rr0 :: d.next.drop (i + 1)) = if (d.next.getD i rr0).l.length = d.next.length then (if xCt d.next.length (two m) (d.next.getD i rr0).l = 0 then xBr d.next.length (two m) (d.next.drop (i + 1)) else xCt d.next.length (two m) (d.next.getD i rr0).l) else 2 := rfl
  rw [et]
  have h0' := h0
  unfold Dfa.cells at h0'
  by_cases c1 : (d.next.getD i rr0).l.length = d.next.length
  ·obtain ⟨i2,hr⟩ := hr c1
   simp only [if_pos c1]
   by_cases c2 : xCt d.next.length (two m) (d.next.getD i rr0).l = 0
   ·simp only [if_pos c2] at hr ⊢
    refine ⟨i',?_⟩
    rw [xRJ]
    by_cases e : xBr d.next.length (two m) (d.next.drop (i + 1)) = 0
    ·rw [if_pos e] at ih' ⊢
     simp (maxSteps := 30000000) (disch := first | assumption | omega | (simp only [WL,AV.isCell,xAa] <;> omega) | rfl | decide) only [xGW,WB,hlt,↓reduceIte,h0',xCs,rwsV,c1,xF2,hr,xGX,ih']
    ·rw [if_neg e] at ih' ⊢
     simp (maxSteps := 30000000) (disch := first | assumption | omega | (simp only [WL,AV.isCell,xAa] <;> omega) | rfl | decide) only [xGW,WB,hlt,↓reduceIte,h0',xCs,rwsV,c1,xF2,hr,xGX,ih']
   ·simp only [if_neg c2] at hr ⊢
    refine ⟨i,?_⟩
    rw [xRJ]
    simp (maxSteps := 30000000) (disch := first | assumption | omega | (simp only [WL,AV.isCell,xAa] <;> omega) | rfl | decide) only [xGW,WB,hlt,↓reduceIte,h0',xCs,rwsV,c1,xF2,hr,xGX]
  ·simp only [if_neg c1,if_neg (show ¬ (2 : Int) = 0 by decide)]
   refine ⟨i,?_⟩
   have c1' : (((d.next.getD i rr0).l.length : Nat) : Int) = ((d.next.length : Nat) : Int) ↔ False := ⟨fun h => c1 (by omega),False.elim⟩
   rw [xRJ]
   simp (maxSteps := 30000000) (disch := first | assumption | omega | (simp only [WL,AV.isCell,xAa] <;> omega) | rfl | decide) only [xGW,WB,hlt,↓reduceIte,h0',xCs,rwsV,c1',xGX]
end
set_option maxHeartbeats 1000000 in
theorem xRD (d : Dfa) (hS : Sm d) : L.pcall 15 [d.av] = some (.int .i64 (xB6 d)) := by
 have hn := hS.n
 have hf := hS.f
 unfold xB6
 by_cases c1 : d.vars < 0
 ·rw [if_pos (.inl c1)]
  unfold Dfa.av Dfa.cells
  rw [yCu,a15,xAf]
  simp (maxSteps := 30000000) (disch := first | assumption | omega | (simp only [WL,AV.isCell,xAa] <;> omega) | rfl | decide) only [WB,Nat.reduceSub,AV.cells,AV.isCell,↓reduceIte,c1]
 by_cases c2 : 3 < d.vars
 ·rw [if_pos (.inr c2)]
  unfold Dfa.av Dfa.cells
  rw [yCu,a15,xAf]
  simp (maxSteps := 30000000) (disch := first | assumption | omega | (simp only [WL,AV.isCell,xAa] <;> omega) | rfl | decide) only [WB,Nat.reduceSub,AV.cells,AV.isCell,↓reduceIte,c1,c2]
 rw [if_neg (by omega)]
 by_cases c3 : d.next.length = 0
 ·rw [if_pos c3]
  unfold Dfa.av Dfa.cells
  rw [yCu,a15,xAf]
  simp (maxSteps := 30000000) (disch := first | assumption | omega | (simp only [WL,AV.isCell,xAa] <;> omega) | rfl | decide) only [c3,WB,Nat.reduceSub,AV.cells,AV.isCell,↓reduceIte,c1,c2]
 rw [if_neg c3]
 have c3' : ((d.next.length : Nat) : Int) = 0 ↔ False := ⟨fun h => c3 (by omega),False.elim⟩
 by_cases c4 : 64 < d.next.length
 ·rw [if_pos c4]
  have c4' : (64 : Int) < (d.next.length : Nat) := by omega
  unfold Dfa.av Dfa.cells
  rw [yCu,a15,xAf]
  simp (maxSteps := 30000000) (disch := first | assumption | omega | (simp only [WL,AV.isCell,xAa] <;> omega) | rfl | decide) only [WB,Nat.reduceSub,AV.cells,AV.isCell,↓reduceIte,c1,c2,c3',c4']
 rw [if_neg c4]
 have c4' : ¬ (64 : Int) < (d.next.length : Nat) := by omega
 by_cases c5 : d.fin.length = d.next.length
 ·rw [if_neg (fun h => h c5)]
  by_cases c6 : d.empty < 0
  ·rw [if_pos (by omega)]
   unfold Dfa.av Dfa.cells
   rw [yCu,a15,xAf]
   simp (maxSteps := 30000000) (disch := first | assumption | omega | (simp only [WL,AV.isCell,xAa] <;> omega) | rfl | decide) only [c5,WB,Nat.reduceSub,AV.cells,AV.isCell,↓reduceIte,c1,c2,c3',c4',c6]
  by_cases c7 : (d.next.length : Nat) ≤ d.empty
  ·rw [if_pos (by omega)]
   unfold Dfa.av Dfa.cells
   rw [yCu,a15,xAf]
   simp (maxSteps := 30000000) (disch := first | assumption | omega | (simp only [WL,AV.isCell,xAa] <;> omega) | rfl | decide) only [c5,WB,Nat.reduceSub,AV.cells,AV.isCell,↓reduceIte,c1,c2,c3',c4',c6,c7]
  ·rw [if_neg (by omega)]
   obtain ⟨m,hv⟩ : ∃ m : Nat,d.vars = (m : Nat) := ⟨d.vars.toNat,by omega⟩
   obtain ⟨i',hr⟩ := xRC (H := [.cells false false d.cells]) hv (by omega) hS rfl d.next.length 0 (by omega)
   simp only [Int.natCast_zero,List.drop_zero] at hr
   rw [hv]
   unfold Dfa.av
   unfold Dfa.cells at hr ⊢
   simp only [c5] at hr ⊢
   rw [yCu,a15,xAf]
   by_cases e : xBr d.next.length (two m) d.next = 0
   ·rw [if_pos e] at hr
    rw [e]
    simp (maxSteps := 30000000) (disch := first | assumption | omega | (simp only [WL,AV.isCell,xAa] <;> omega) | rfl | decide) only [WB,Nat.reduceSub,AV.cells,AV.isCell,↓reduceIte,c1,c2,c3',c4',c6,c7,xGX,hr]
   ·rw [if_neg e] at hr
    simp (maxSteps := 30000000) (disch := first | assumption | omega | (simp only [WL,AV.isCell,xAa] <;> omega) | rfl | decide) only [WB,Nat.reduceSub,AV.cells,AV.isCell,↓reduceIte,c1,c2,c3',c4',c6,c7,xGX,hr]
 ·rw [if_pos c5]
  have c5' : ((d.fin.length : Nat) : Int) = ((d.next.length : Nat) : Int) ↔ False := ⟨fun h => c5 (by omega),False.elim⟩
  unfold Dfa.av Dfa.cells
  rw [yCu,a15,xAf]
  simp (maxSteps := 30000000) (disch := first | assumption | omega | (simp only [WL,AV.isCell,xAa] <;> omega) | rfl | decide) only [WB,Nat.reduceSub,AV.cells,AV.isCell,↓reduceIte,c1,c2,c3',c4',c5']
def toF (D : Da) : Dfa := ⟨D.vars,D.empty,false,D.next.map fun rows => ⟨false,rows.map fun r => ⟨false,r⟩⟩,false,D.fin⟩
theorem yDC (D : Da) : (toF D).av = D.av := by
 unfold toF Dfa.av Dfa.cells Da.av Da.cells
 simp only [List.length_map,List.map_map]
 have e1 : (rwsV ∘ fun rows : List (List Int) => (⟨false,rows.map fun r => ⟨false,r⟩⟩ : Rws)) = rowsD := by
  funext rows
  show rwsV ⟨false,rows.map fun r => ⟨false,r⟩⟩ = rowsD rows
  unfold rwsV rowsD
  simp only [List.length_map,List.map_map]
  rfl
 rw [e1]
theorem rowsE_zero {n m : Nat} : ∀ {l : List Rw},xCt n m l = 0 ↔ ∀ r ∈ l,r.l.length = m ∧ ∀ s ∈ r.l,0 ≤ s ∧ s < (n : Nat)
 | [] => by simp [xCt]
 | r :: t => by
  have ih := rowsE_zero (n := n) (m := m) (l := t)
  have e0 : xJw n m r = 0 ↔ r.l.length = m ∧ ∀ s ∈ r.l,0 ≤ s ∧ s < (n : Nat) := by
   unfold xJw xZP
   by_cases c : r.l.length = m
   ·rw [if_pos c]
    constructor
    ·intro h
     refine ⟨c,fun s hs => ?_⟩
     split at h
     ·rename_i hb
      rw [List.any_eq_false] at hb
      have := hb s hs
      simpa using this
     ·omega
    ·rintro ⟨_,h⟩
     rw [if_pos (by rw [List.any_eq_false]; intro s hs; simpa using h s hs)]
   ·rw [if_neg c]
    exact ⟨fun h => by omega,fun h => absurd h.1 c⟩
  unfold xCt
  by_cases c : xJw n m r = 0
  ·rw [if_pos c,ih]
   exact ⟨fun h q hq => (List.mem_cons.1 hq).elim (fun e => e ▸ e0.1 c) (h q),fun h q hq => h q (List.mem_cons_of_mem _ hq)⟩
  ·rw [if_neg c]
   exact ⟨fun h => absurd h c,fun h => absurd (e0.2 (h r (by simp))) c⟩
theorem xDV {n m : Nat} : ∀ {l : List Rws},xBr n m l = 0 ↔ ∀ s ∈ l,s.l.length = n ∧ ∀ r ∈ s.l,r.l.length = m ∧ ∀ q ∈ r.l,0 ≤ q ∧ q < (n : Nat)
 | [] => by simp [xBr]
 | s :: t => by
  have ih := xDV (n := n) (m := m) (l := t)
  unfold xBr
  by_cases c : s.l.length = n
  ·rw [if_pos c]
   by_cases c2 : xCt n m s.l = 0
   ·rw [if_pos c2,ih]
    exact ⟨fun h q hq => (List.mem_cons.1 hq).elim (fun e => e ▸ ⟨c,rowsE_zero.1 c2⟩) (h q),fun h q hq => h q (List.mem_cons_of_mem _ hq)⟩
   ·rw [if_neg c2]
    exact ⟨fun h => absurd h c2,fun h => absurd (rowsE_zero.2 (h s (by simp)).2) c2⟩
  ·rw [if_neg c]
   exact ⟨fun h => by omega,fun h => absurd (h s (by simp)).1 c⟩
theorem yFk {D : Da} (hV : Va D) : xB6 (toF D) = 0 := by
 have v0 := hV.v0
 have v3 := hV.v3
 have n0 := hV.n0
 have n64 := hV.n64
 have fl := hV.fl
 have e0 := hV.e0
 have en := hV.en
 have hl : (toF D).next.length = D.next.length := List.length_map ..
 unfold xB6
 rw [hl,show (toF D).vars = D.vars from rfl,show (toF D).fin = D.fin from rfl,show (toF D).empty = D.empty from rfl]
 rw [if_neg (by omega),if_neg (by omega),if_neg (by omega),if_neg (by omega),if_neg (by omega),xDV]
 intro s hs
 obtain ⟨rows,h1,rfl⟩ := List.mem_map.1 hs
 refine ⟨by rw [List.length_map]; exact hV.rl _ h1,fun r hr => ?_⟩
 obtain ⟨row,h2,rfl⟩ := List.mem_map.1 hr
 exact ⟨hV.cl _ h1 _ h2,hV.ce _ h1 _ h2⟩
theorem yDD {D : Da} (hV : Va D) : Sm (toF D) := by
 have n64 := hV.n64
 have fl := hV.fl
 have h8 := (xAV hV.v3).1
 refine ⟨by show (D.next.map _).length ≤ 100; rw [List.length_map]; omega,by show D.fin.length ≤ 100; omega,fun s hs => ?_,fun s hs r hr => ?_⟩
 ·obtain ⟨rows,h1,rfl⟩ := List.mem_map.1 hs
  rw [List.length_map,hV.rl _ h1]; omega
 ·obtain ⟨rows,h1,rfl⟩ := List.mem_map.1 hs
  obtain ⟨row,h2,rfl⟩ := List.mem_map.1 hr
  show row.length ≤ 100
  rw [hV.cl _ h1 _ h2]; omega
theorem xDg {D : Da} (hV : Va D) : L.pcall 15 [D.av] = some (.int .i64 0) := by
 have := xRD (toF D) (yDD hV)
 rwa [yDC,yFk hV] at this
structure Cn (d : Dfa) : Prop where
 z : d.z = true → d.next = []
 zf : d.zf = true → d.fin = []
 s : ∀ s ∈ d.next,s.z = true → s.l = []
 r : ∀ s ∈ d.next,∀ r ∈ s.l,r.z = true → r.l = []
theorem yFl {d : Dfa} (hc : Cn d) (h : xB6 d = 0) : ∃ D,Va D ∧ d.av = D.av := by
 unfold xB6 at h
 split at h
 ·omega
 split at h
 ·omega
 split at h
 ·omega
 split at h
 ·omega
 split at h
 ·omega
 rename_i c1 c2 c3 c4 c5
 rw [xDV] at h
 have h8 := (xAV (v := d.vars) (by omega)).2
 have dz : d.z = false := by cases e : d.z with | false => rfl | true => have := hc.z e; rw [this] at c2; simp at c2
 have dzf : d.zf = false := by cases e : d.zf with | false => rfl | true => have := hc.zf e; rw [this] at c4; simp at c4; omega
 have sz : ∀ s ∈ d.next,s.z = false := fun s hs => by
  cases e : s.z with
  | false => rfl
  | true =>
   have h1 := hc.s s hs e
   have h2 := (h s hs).1
   rw [h1,List.length_nil] at h2; omega
 have rz : ∀ s ∈ d.next,∀ r ∈ s.l,r.z = false := fun s hs r hr => by
  cases e : r.z with
  | false => rfl
  | true =>
   have h1 := hc.r s hs r hr e
   have h2 := ((h s hs).2 r hr).1
   rw [h1,List.length_nil] at h2; omega
 refine ⟨⟨d.vars,d.empty,d.next.map fun s => s.l.map fun r => r.l,d.fin⟩,?_,?_⟩
 ·refine ⟨by show 0 ≤ d.vars; omega,by show d.vars ≤ 3; omega,?_,?_,?_,?_,?_,fun rows hr => ?_,fun rows hr row hw => ?_,fun rows hr row hw q hq => ?_⟩
  all_goals simp only [List.length_map]
  all_goals try omega
  ·obtain ⟨s,h1,rfl⟩ := List.mem_map.1 hr
   rw [List.length_map]; exact (h s h1).1
  ·obtain ⟨s,h1,rfl⟩ := List.mem_map.1 hr
   obtain ⟨r,h2,rfl⟩ := List.mem_map.1 hw
   exact ((h s h1).2 r h2).1
  ·obtain ⟨s,h1,rfl⟩ := List.mem_map.1 hr
   obtain ⟨r,h2,rfl⟩ := List.mem_map.1 hw
   exact ((h s h1).2 r h2).2 q hq
 ·unfold Dfa.av Dfa.cells Da.av Da.cells
  rw [dz,dzf]
  simp only [List.length_map,List.map_map]
  congr 4
  congr 1
  refine List.map_congr_left fun s hs => ?_
  show rwsV s = rowsD (s.l.map fun r => r.l)
  unfold rwsV rowsD
  rw [sz s hs,List.length_map,List.map_map]
  congr 1
  refine List.map_congr_left fun r hr => ?_
  show rwV r = rowT r.l
  unfold rwV rowT
  rw [rz s hs r hr]
section
variable {D : Da}
abbrev zDf : AV := .agg [.int .i64 0,.int .i64 0,.sl true 0 [],.sl true 0 []]
theorem yFm (hV : Va D) : QOk D (xCj D) (xJu D.next.length) :=
 ⟨(xC2 hV).1.bd,Nat.le_trans (xC2 hV).1.le hV.n64,xGQ D,xFp _⟩
theorem xRE (hV : Va D) : L.pcall 57 [D.av,iw false (xCj D),iw false (xJu D.next.length)] = some (xDn D).av := by
 have := xLG (zo := false) (zc := false) hV (yFm hV)
 rwa [yGW hV] at this
theorem yB2 (hV : Va D) : L.pcall 22 [D.av] = some (.tup [(xDn D).av,.int .i64 0]) := by
 have h15 := xDg hV
 have h58 := xRn hV
 have h59 := yE9 hV
 have h57 := xRE hV
 generalize xDn D = R at *
 generalize xCj D = o at *
 generalize xJu D.next.length = w at *
 unfold Da.av at h15 h57 h58 h59 ⊢
 unfold Da.cells at h15 h57 h58 h59 ⊢
 rw [yIK,a22,xAf]
 simp (maxSteps := 30000000) (disch := first | assumption | omega | (simp only [WL,AV.isCell,xAa] <;> omega) | rfl | decide) only [WB,Nat.reduceSub,AV.cells,AV.isCell,↓reduceIte,h15,xA0,xAx,h58,h59,xAj,h57,Nat.reduceAdd]
theorem xZE {d : Dfa} (hS : Sm d) (he : xB6 d ≠ 0) : L.pcall 22 [d.av] = some (.tup [zDf,.int .i64 (xB6 d)]) := by
 have h15 := xRD d hS
 generalize xB6 d = e at *
 unfold Dfa.av Dfa.cells at h15 ⊢
 rw [yIK,a22,xAf]
 simp (maxSteps := 30000000) (disch := first | assumption | omega | (simp only [WL,AV.isCell,xAa] <;> omega) | rfl | decide) only [WB,Nat.reduceSub,AV.cells,AV.isCell,↓reduceIte,h15,xA0,xAx,he,Nat.reduceAdd]
end
section
variable {D : Da}
theorem yFn {c : List Nat} {n B : Nat} {s2 s5 : AV} (hn : n ≤ 64) (hcl : c.length = n) : ∀ e s G v,s + e = n → B ≤ G.length → Lst B G v (ints (xBI c s)) →
  ∃ v' G',L.loop xMX xZZ ⟨xMY s2 s5 (.sl false n (ints (xAO c))) v (.int .i64 (s : Nat)),G⟩ = some (.exit 0,⟨xMY s2 s5 (.sl false n (ints (xAO c))) v' (.int .i64 (n : Nat)),G'⟩) ∧ Lst B G' v' (ints (xBI c n)) ∧ Kp B G G' := by
 intro e
 induction e with
 | zero =>
  intro s G v h hG hv
  obtain rfl : s = n := by omega
  refine ⟨v,G,?_,hv,Kp.refl _ _⟩
  rw [xVI]
  simp (maxSteps := 30000000) (disch := first | assumption | omega | (simp only [WL,AV.isCell,xAa] <;> omega) | rfl | decide) only [xMW,WB,↓reduceIte,xRL]
 | succ e ih =>
  intro s G v h hG hv
  have hlt : (s : Int) < (n : Nat) := by omega
  have hln := xCx c s
  have hle := xJd c s
  have g1 : List.take 1 (List.drop s (ints (xAO c))) = [.int .i64 ((xAO c).getD s 0)] := xAr _ _ (by rw [xAW]; omega)
  have hnl : (xAO c).length = n := by rw [xAW]; exact hcl
  by_cases hc : c.getD s 0 = s
  ·obtain ⟨v1,G1,p1,p2,p3⟩ := hv.push (.int .i64 (s : Nat)) (bytes := 8) (by rw [xAk]; omega) (by rw [xAk]; omega) hG
   have e2 : ints (xBI c s) ++ [AV.int .i64 (s : Nat)] = ints (xBI c (s + 1)) := by rw [xDO,if_pos hc]; simp [ints]
   rw [e2] at p2
   obtain ⟨v',G',q1,q2,q3⟩ := ih (s + 1) G1 v1 (by omega) (by have := p3.1; omega) p2
   refine ⟨v',G',?_,q2,p3.trans q3⟩
   have hc' : (xAO c).getD s 0 = (s : Nat) := by rw [xAG]; omega
   generalize xAO c = N at *
   rw [xVI]
   simp (maxSteps := 30000000) (disch := first | assumption | omega | (simp only [WL,AV.isCell,xAa] <;> omega) | rfl | decide) only [xMW,WB,hlt,↓reduceIte,W2,hc',AV.cells,AV.isCell,p1,xRL,q1]
  ·have e2 : xBI c s = xBI c (s + 1) := by rw [xDO,if_neg hc]
   rw [e2] at hv
   obtain ⟨v',G',q1,q2,q3⟩ := ih (s + 1) G v (by omega) hG hv
   refine ⟨v',G',?_,q2,q3⟩
   have hc' : ¬ (xAO c).getD s 0 = (s : Nat) := by rw [xAG]; omega
   generalize xAO c = N at *
   rw [xVI]
   simp (maxSteps := 30000000) (disch := first | assumption | omega | (simp only [WL,AV.isCell,xAa] <;> omega) | rfl | decide) only [xMW,WB,hlt,↓reduceIte,W2,hc',xRL,q1]
theorem xRF (hV : Va D) : QOk D (xBI (xBm D) D.next.length) (xAO (xBm D)) := by
 have hl := (xQt hV).1.len
 have n64 := hV.n64
 have hle := xJd (xBm D) D.next.length
 have h0 := (xQt hV).1.le 0 hV.n0
 refine ⟨fun s hs => ?_,by rw [xCx]; omega,?_,by rw [xAW]; exact hl⟩
 ·obtain ⟨a,h1,h2,_⟩ := xGO hs
  omega
 ·rw [xCx]
  have := fixN_le' (xBm D) (show 1 ≤ D.next.length from hV.n0)
  have e : xC4 (xBm D) 1 = 1 := by rw [xB5,if_pos (by omega)]; rfl
  omega
def yG6 (D : Da) : Da := quR D (xBI (xBm D) D.next.length) (xAO (xBm D))
theorem xLP (hV : Va D) : Va (yG6 D) := by
 have hq := xRF hV
 have hx := xUr hV
 have pl : ∀ s,s < D.next.length → 0 ≤ plc (xBI (xBm D) D.next.length) ((xAO (xBm D)).getD s 0) ∧ plc (xBI (xBm D) D.next.length) ((xAO (xBm D)).getD s 0) < ((xBI (xBm D) D.next.length).length : Nat) := fun s hs => by
  have h1 := hx.le s hs
  have h2 := hx.id s hs
  rw [xAG,xRm (by omega) h2,xCx]
  have := xUq hx h2 (show (xBm D).getD s 0 < D.next.length by omega)
  omega
 have h1 := pl D.empty.toNat (by have := hV.e0; have := hV.en; omega)
 refine xEC hV.v0 hV.v3 hq.o0 hq.ol h1.1 h1.2 fun i j x hi hj hx => ?_
 have := xFT hV (x := x) (hq.ob _ (xAl (a := (0 : Int)) hi)) (hq.ob _ (xAl (a := (0 : Int)) hj)) hx
 exact pl _ (by omega)
set_option maxRecDepth 10000 in
set_option maxHeartbeats 2000000 in
theorem yB3 (hV : Va D) : L.pcall 24 [D.av] = some (.tup [(xDn (yG6 (xDn D))).av,.int .i64 0]) := by
 have h15 := xDg hV
 have h58 := xRn hV
 have h59 := yE9 hV
 have h57 := xRE hV
 have hR := xC3 hV
 generalize xDn D = R at *
 obtain ⟨h64,hcl⟩ := xLO hR
 have h57b := xLG (zo := false) (zc := false) hR (xRF hR)
 rw [show quR R (xBI (xBm R) R.next.length) (xAO (xBm R)) = yG6 R from rfl] at h57b
 have hM := xLP hR
 have h58c := xRn hM
 have h59c := yE9 hM
 have h57c := xRE hM
 have n64 := hR.n64
 have hq := xRF hR
 obtain ⟨v',G',q1,q2,q3⟩ := yFn (c := xBm R) (n := R.next.length) (B := 3) (s2 := .ptr 1 0) (s5 := .ptr 2 0) n64 hcl R.next.length 0 [.cells false false D.cells,.cells false false [.int .i64 0,.int .i64 0,.sl true 0 [],.sl true 0 []],.cells false false R.cells] (.sl true 0 []) (by omega) (by simp) (Lst.nil _ _)
 have g1 : G'[1]? = some (.cells false false [.int .i64 0,.int .i64 0,.sl true 0 [],.sl true 0 []]) := (q3.2 1 (by omega)).trans rfl
 have g2 : G'[2]? = some (.cells false false R.cells) := (q3.2 2 (by omega)).trans rfl
 have hne : ints (xBI (xBm R) R.next.length) ≠ [] := by intro e; have := congrArg List.length e; rw [xAk,List.length_nil] at this; have := hq.o0; omega
 obtain ⟨id,m,rfl⟩ := q2.own hne
 have hol := hq.ol
 have ho0 := hq.o0
 have hz : ((ints (xBI (xBm R) R.next.length)).length == 0) = false := by rw [xAk,beq_eq_false_iff_ne]; omega
 have f1 := fun d => q2.dat (xC1 _) d
 rw [hz,xAk] at f1
 obtain ⟨hid,hm⟩ : G'[id]? = some (.cells false false (ints (xBI (xBm R) R.next.length))) ∧ m = (xBI (xBm R) R.next.length).length := by
  rcases q2 with ⟨e,_⟩ | ⟨id',e,hi,_,_⟩
  ·exact absurd e hne
  ·simp only [AV.own.injEq] at e
   obtain ⟨_,rfl,_,rfl,_⟩ := e
   exact ⟨hi,xAk _⟩
 subst hm
 have idge := (q2.inb (b := id) ⟨_,_,_,_,rfl⟩).2
 have htk : List.take (xBI (xBm R) R.next.length).length (xBI (xBm R) R.next.length) = xBI (xBm R) R.next.length := List.take_of_length_le (Nat.le_refl _)
 have hnl : (xAO (xBm R)).length = R.next.length := by rw [xAW]; exact hcl
 unfold iw at h64 h57b
 rw [hnl] at h64 h57b
 clear q2 f1 hne hz
 generalize xBI (xBm R) R.next.length = fo at *
 generalize xAO (xBm R) = N at *
 generalize yG6 R = M at *
 generalize xDn M = Z at *
 generalize xCj M = o2 at *
 generalize xJu M.next.length = w2 at *
 generalize xCj D = o1 at *
 generalize xJu D.next.length = w1 at *
 have gm : (G'.modify id xBG)[1]? = some (.cells false false [.int .i64 0,.int .i64 0,.sl true 0 [],.sl true 0 []]) := by rw [List.getElem?_modify_ne _ _ (show id ≠ 1 by omega)]; exact g1
 have g1' := fun T : xAc => xAw (X := T) gm
 have g1l := (List.getElem?_eq_some_iff.1 gm).1
 have sl := fun (T : xAc) (Y : Blk) => List.getElem?_set_self (l := G'.modify id xBG ++ T) (i := 1) (a := Y) (by rw [List.length_append]; omega)
 unfold Da.av at h15 h57 h58 h59 h64 h57b h57c h58c h59c ⊢
 unfold Da.cells at h15 h57 h58 h59 h64 h57b h57c h58c h59c q1 g2 ⊢
 simp only [Int.natCast_zero] at q1
 rw [yIM,a24,xAf]
 simp (maxSteps := 30000000) (disch := first | assumption | omega | (simp only [WL,AV.isCell,xAa] <;> omega) | rfl | decide) only [WB,Nat.reduceSub,AV.cells,AV.isCell,↓reduceIte,h15,xA0,xAx,h58,h59,h57,xAj,Nat.reduceAdd,h64,xRL,q1,g2,xAY,hid,W2,htk,h57b,xHR,h58c,h59c,h57c,g1',sl]
theorem xZF {d : Dfa} (hS : Sm d) (he : xB6 d ≠ 0) : L.pcall 24 [d.av] = some (.tup [zDf,.int .i64 (xB6 d)]) := by
 have h15 := xRD d hS
 generalize xB6 d = e at *
 unfold Dfa.av Dfa.cells at h15 ⊢
 rw [yIM,a24,xAf]
 simp (maxSteps := 30000000) (disch := first | assumption | omega | (simp only [WL,AV.isCell,xAa] <;> omega) | rfl | decide) only [WB,Nat.reduceSub,AV.cells,AV.isCell,↓reduceIte,h15,xA0,xAx,he,Nat.reduceAdd]
end
theorem Lst.at {B : Nat} {G : xAc} {v : AV} {l : List Int} (h : Lst B G v (ints l)) (h0 : l ≠ []) : ∃ id,v = .own false id 0 l.length 1 ∧ G[id]? = some (.cells false false (ints l)) := by
 rcases h with ⟨e,_⟩ | ⟨id,e,hi,_,_⟩
 ·exact absurd (List.map_eq_nil_iff.1 e) h0
 ·exact ⟨id,by rw [e,xAk],hi⟩
def xQL (c : List Nat) (s : Nat) : List Int := xAO ((List.range s).map fun i => xC4 c (c.getD i 0))
theorem xD9 (c : List Nat) (s : Nat) : (xQL c s).length = s := by simp [xQL,xAO]
theorem xZG (c : List Nat) (s : Nat) : xQL c (s + 1) = xQL c s ++ [((xC4 c (c.getD s 0) : Nat) : Int)] := by
 unfold xQL; rw [List.range_succ,List.map_append,xMz]; rfl
section
variable {D : Da}
set_option maxHeartbeats 1000000 in
theorem yFo {c : List Nat} {n B : Nat} (hn : n ≤ 64) (hcl : c.length = n) (hx : FxOk n c) : ∀ e s G vf vo,s + e = n → B ≤ G.length → Lst B G vf (ints (xBI c s)) → Lst B G vo (ints (xQL c s)) → (∀ b,At vf b → ¬ At vo b) →
  ∃ vf' vo' G',L.loop xM0 xZ0 ⟨xM1 (.sl false n (ints (xAO c))) vf vo (.int .i64 (s : Nat)),G⟩ = some (.exit 0,⟨xM1 (.sl false n (ints (xAO c))) vf' vo' (.int .i64 (n : Nat)),G'⟩) ∧ Lst B G' vo' (ints (xQL c n)) := by
 intro e
 induction e with
 | zero =>
  intro s G vf vo h hG hf ho hd
  obtain rfl : s = n := by omega
  refine ⟨vf,vo,G,?_,ho⟩
  rw [xVJ]
  simp (maxSteps := 30000000) (disch := first | assumption | omega | (simp only [WL,AV.isCell,xAa] <;> omega) | rfl | decide) only [xMZ,WB,↓reduceIte,xRM]
 | succ e ih =>
  intro s G vf vo h hG hf ho hd
  have hlt : (s : Int) < (n : Nat) := by omega
  have hln := xCx c s
  have hle := xJd c s
  have hle2 := xJd c (s + 1)
  have hln2 := xCx c (s + 1)
  have hnl : (xAO c).length = n := by rw [xAW]; exact hcl
  have hcs := hx.le s (by omega)
  have h0 := hx.le 0 (by omega)
  have hp1 := fixN_le' c (show 1 ≤ s + 1 by omega)
  have e1 : xC4 c 1 = 1 := by rw [xB5,if_pos (by omega)]; rfl
  have hpl := xMB false (xBI c (s + 1)) ((c.getD s 0 : Nat) : Int) (by omega)
  rw [xRm (by omega) (hx.id s (by omega))] at hpl
  have hne : xBI c (s + 1) ≠ [] := by intro q; rw [q,List.length_nil] at hln2; omega
  have htk : List.take (xBI c (s + 1)).length (xBI c (s + 1)) = xBI c (s + 1) := List.take_of_length_le (Nat.le_refl _)
  have e3 : ints (xQL c s) ++ [AV.int .i64 ((xC4 c (c.getD s 0) : Nat) : Int)] = ints (xQL c (s + 1)) := by rw [xZG]; simp [ints]
  have xLW : (xAO c).getD s 0 = ((c.getD s 0 : Nat) : Int) := xAG
  by_cases hc : c.getD s 0 = s
  ·obtain ⟨v1,G1,p1,p2,p3,p4,p5,_⟩ := hf.push2 (.int .i64 (s : Nat)) (bytes := 8) (by rw [xAk]; omega) (by rw [xAk]; omega) hG
   have e2 : ints (xBI c s) ++ [AV.int .i64 (s : Nat)] = ints (xBI c (s + 1)) := by rw [xDO,if_pos hc]; simp [ints]
   rw [e2] at p2
   have ho1 := ho.other (H' := G1) fun b hb => p4 b (ho.inb hb).1 fun q => hd b q hb
   have hl1 := p3.1
   obtain ⟨v2,G2,r1,r2,r3,r4,r5,_⟩ := ho1.push2 (.int .i64 ((xC4 c (c.getD s 0) : Nat) : Int)) (bytes := 8) (by rw [xAk,xD9]; omega) (by rw [xAk,xD9]; omega) (by omega)
   rw [e3] at r2
   obtain ⟨id,rfl,hid⟩ := p2.at hne
   have hlid := (p2.inb (b := id) ⟨_,_,_,_,rfl⟩).1
   have hf2 := p2.other (H' := G2) fun b hb => r4 b (p2.inb hb).1 fun q => by
    have a1 := p5 b hb
    have a2 := (ho.inb q).1
    omega
   have hl2 := r3.1
   obtain ⟨vf',vo',G',q1,q2⟩ := ih (s + 1) G2 _ v2 (by omega) (by omega) hf2 r2 (fun b hb q => by
    have a1 := r5 b q
    have a2 := (p2.inb hb).1
    omega)
   refine ⟨vf',vo',G',?_,q2⟩
   rw [hc] at xLW hpl r1
   clear ih hcs h0 e1 e3 hp1 e2 hln2 hln
   generalize xC4 c s = w at *
   generalize xAO c = N at *
   generalize xBI c (s + 1) = F1 at *
   rw [xVJ]
   simp (maxSteps := 30000000) (disch := first | assumption | omega | (simp only [WL,AV.isCell,xAa] <;> omega) | rfl | decide) only [xMZ,WB,hlt,↓reduceIte,W2,xLW,AV.cells,AV.isCell,p1,xAY,hid,htk,hpl,xA0,xAx,r1,xRM,q1]
  ·have e2 : xBI c s = xBI c (s + 1) := by rw [xDO,if_neg hc]
   rw [e2] at hf
   obtain ⟨v2,G2,r1,r2,r3,r4,r5,_⟩ := ho.push2 (.int .i64 ((xC4 c (c.getD s 0) : Nat) : Int)) (bytes := 8) (by rw [xAk,xD9]; omega) (by rw [xAk,xD9]; omega) hG
   rw [e3] at r2
   obtain ⟨id,rfl,hid⟩ := hf.at hne
   have hf2 := hf.other (H' := G2) fun b hb => r4 b (hf.inb hb).1 (hd b hb)
   have hl2 := r3.1
   obtain ⟨vf',vo',G',q1,q2⟩ := ih (s + 1) G2 _ v2 (by omega) (by omega) hf2 r2 (fun b hb q => by
    have a1 := r5 b q
    have a2 := (hf.inb hb).1
    omega)
   refine ⟨vf',vo',G',?_,q2⟩
   have hne' : ¬ ((c.getD s 0 : Nat) : Int) = ((s : Nat) : Int) := by omega
   clear ih hcs h0 e1 e3 hp1 e2 hln2 hln
   generalize xC4 c (c.getD s 0) = w at *
   generalize ((c.getD s 0 : Nat) : Int) = cs at *
   generalize xAO c = N at *
   generalize xBI c (s + 1) = F1 at *
   rw [xVJ]
   simp (maxSteps := 30000000) (disch := first | assumption | omega | (simp only [WL,AV.isCell,xAa] <;> omega) | rfl | decide) only [xMZ,WB,hlt,↓reduceIte,W2,xLW,hne',xAY,hid,htk,hpl,xA0,xAx,AV.cells,AV.isCell,r1,xRM,q1]
theorem yB4 (hV : Va D) : L.pcall 26 [D.av] = some (.tup [iw false (xQL (xBm D) D.next.length),.int .i64 0]) := by
 have h15 := xDg hV
 obtain ⟨h64,hcl⟩ := xLO hV
 have n64 := hV.n64
 have n0 := hV.n0
 obtain ⟨vf',vo',G',q1,q2⟩ := yFo (c := xBm D) (n := D.next.length) (B := 1) n64 hcl (xUr hV) D.next.length 0 [.cells false false D.cells] (.sl true 0 []) (.sl true 0 []) (by omega) (by simp) (Lst.nil _ _) (Lst.nil _ _) (fun b h => by obtain ⟨_,_,_,_,e⟩ := h; cases e)
 have hol := xD9 (xBm D) D.next.length
 have hnl : (xAO (xBm D)).length = D.next.length := by rw [xAW]; exact hcl
 obtain ⟨id,rfl,hid⟩ := q2.at (by intro q; rw [q,List.length_nil] at hol; omega)
 have htk : List.take D.next.length (xQL (xBm D) D.next.length) = xQL (xBm D) D.next.length := List.take_of_length_le (by omega)
 unfold iw at h64 ⊢
 rw [hnl] at h64
 rw [hol] at q1 ⊢
 simp only [Int.natCast_zero] at q1
 generalize xQL (xBm D) D.next.length = O at *
 generalize xAO (xBm D) = N at *
 unfold Da.av at h15 h64 ⊢
 unfold Da.cells at h15 h64 q1 ⊢
 rw [yIO,a26,xAf]
 simp (maxSteps := 30000000) (disch := first | assumption | omega | (simp only [WL,AV.isCell,xAa] <;> omega) | rfl | decide) only [WB,Nat.reduceSub,AV.cells,AV.isCell,↓reduceIte,h15,xA0,xAx,h64,xRM,q1,xAY,hid,W2,htk]
theorem xZH {d : Dfa} (hS : Sm d) (he : xB6 d ≠ 0) : L.pcall 26 [d.av] = some (.tup [.sl true 0 [],.int .i64 (xB6 d)]) := by
 have h15 := xRD d hS
 generalize xB6 d = e at *
 unfold Dfa.av Dfa.cells at h15 ⊢
 rw [yIO,a26,xAf]
 simp (maxSteps := 30000000) (disch := first | assumption | omega | (simp only [WL,AV.isCell,xAa] <;> omega) | rfl | decide) only [WB,Nat.reduceSub,AV.cells,AV.isCell,↓reduceIte,h15,xA0,xAx,he]
theorem xZI (hV : Va D) {c : List Int} {m : Nat} (h : Stab D c m) : xQL (xBm D) D.next.length = c := by
 obtain ⟨_,hc⟩ := xUs hV h
 have hl := (xRq h).1
 apply List.ext_getElem
 ·rw [xD9,hl]
 ·intro i h1 h2
  have := hc i (by omega)
  rw [List.getD_eq_getElem?_getD,List.getElem?_eq_getElem h2] at this
  have e : (xQL (xBm D) D.next.length)[i] = ((xC4 (xBm D) ((xBm D).getD i 0) : Nat) : Int) := by simp [xQL,xAO]
  rw [e]
  exact this.symm
end
theorem lfs_at0' {l : List Lf} {i : Nat} (h : i < l.length) : List.take 1 (List.drop (i * 3) (lfs l)) = [.int .u8 ((l.getD i f0).x : Nat)] := by
 rw [xFl h]; rfl
section
variable {z : Bool} {t : List Lf}
theorem xUF {i : Nat} (h : t.length ≤ i) : L.pcall 120 [tw z t,.int .i64 (i : Nat)] = some (.int .i64 (-1)) := by
 have h' : ((t.length : Nat) : Int) ≤ (i : Nat) := by omega
 rw [xEr,xOp,xAf]
 simp (maxSteps := 30000000) (disch := first | assumption | omega | (simp only [WL,AV.isCell,xAe] <;> omega) | rfl | decide) only [Int.reduceNeg,WB,Nat.reduceAdd,Nat.reduceSub,h',↓reduceIte]
set_option maxHeartbeats 1000000 in
theorem xZJ (ht : t.length < 1099511627776) : ∀ k i,t.length ≤ i + k →
  L.pcall 120 [tw z t,.int .i64 (i : Nat)] = some (.int .i64 (-1)) ∨ ∃ n T,L.pcall 120 [tw z t,.int .i64 (i : Nat)] = some (.int .i64 (n : Nat)) ∧ i < n ∧ n ≤ t.length ∧ Sub t (i : Int) i T n
 | 0,i,hk => .inl (xUF (by omega))
 | k + 1,i,hk => by
  have ih := fun i' (h : i < i') => xZJ ht k i' (by omega)
  by_cases hi : t.length ≤ i
  ·exact .inl (xUF hi)
  have hi' : ¬ ((t.length : Nat) : Int) ≤ (i : Nat) := by omega
  have hi2 : i < t.length := by omega
  by_cases c1 : (t.getD i f0).l = -1
  ·have hL : Sub t (t.getD i f0).l (i + 1) .nil (i + 1) := by rw [c1]; exact .none _
   by_cases d1 : (t.getD i f0).r = -1
   ·refine .inr ⟨i + 1,.node (t.getD i f0).x .nil .nil,?_,by omega,by omega,.some hi2 hL (by rw [d1]; exact .none _)⟩
    rw [xEr,xOp,xAf]
    simp (maxSteps := 30000000) (disch := first | assumption | omega | (simp only [WL,AV.isCell,xAe] <;> omega) | rfl | decide) only [Int.reduceNeg,WB,Nat.reduceAdd,Nat.reduceSub,hi',↓reduceIte,xBa,c1,xBg,d1]
   ·by_cases d2 : (t.getD i f0).r = ((i + 1 : Nat) : Int)
    ·have d1' : ¬ (((i + 1 : Nat) : Int) = -1) := by omega
     rcases ih (i + 1) (by omega) with q | ⟨n,T',q,q1,q2,q3⟩
     ·left
      rw [xEr,xOp,xAf]
      simp (maxSteps := 30000000) (disch := first | assumption | omega | (simp only [WL,AV.isCell,xAe] <;> omega) | rfl | decide) only [Int.reduceNeg,WB,Nat.reduceAdd,Nat.reduceSub,hi',↓reduceIte,xBa,c1,xBg,d2,d1',q,xA0,xAx]
     ·refine .inr ⟨n,.node (t.getD i f0).x .nil T',?_,by omega,q2,.some hi2 hL (by rw [d2]; exact q3)⟩
      rw [xEr,xOp,xAf]
      simp (maxSteps := 30000000) (disch := first | assumption | omega | (simp only [WL,AV.isCell,xAe] <;> omega) | rfl | decide) only [Int.reduceNeg,WB,Nat.reduceAdd,Nat.reduceSub,hi',↓reduceIte,xBa,c1,xBg,d2,d1',q,xA0,xAx]
    ·left
     rw [xEr,xOp,xAf]
     simp (maxSteps := 30000000) (disch := first | assumption | omega | (simp only [WL,AV.isCell,xAe] <;> omega) | rfl | decide) only [Int.reduceNeg,WB,Nat.reduceAdd,Nat.reduceSub,hi',↓reduceIte,xBa,c1,xBg,d1,d2]
  ·by_cases c2 : (t.getD i f0).l = ((i + 1 : Nat) : Int)
   ·have c1' : ¬ (((i + 1 : Nat) : Int) = -1) := by omega
    rcases ih (i + 1) (by omega) with q0 | ⟨m,T0,q0,m1,m2,m3⟩
    ·left
     rw [xEr,xOp,xAf]
     simp (maxSteps := 30000000) (disch := first | assumption | omega | (simp only [WL,AV.isCell,xAe] <;> omega) | rfl | decide) only [Int.reduceNeg,WB,Nat.reduceAdd,Nat.reduceSub,hi',↓reduceIte,xBa,c2,c1',q0,xA0,xAx,Int.reduceLT]
    ·have m0 : ¬ ((m : Nat) : Int) < 0 := by omega
     have hL : Sub t (t.getD i f0).l (i + 1) T0 m := by rw [c2]; exact m3
     by_cases d1 : (t.getD i f0).r = -1
     ·refine .inr ⟨m,.node (t.getD i f0).x T0 .nil,?_,by omega,by omega,.some hi2 hL (by rw [d1]; exact .none _)⟩
      rw [xEr,xOp,xAf]
      simp (maxSteps := 30000000) (disch := first | assumption | omega | (simp only [WL,AV.isCell,xAe] <;> omega) | rfl | decide) only [Int.reduceNeg,WB,Nat.reduceAdd,Nat.reduceSub,hi',↓reduceIte,xBa,c2,c1',q0,xA0,xAx,m0,xBg,d1]
     ·by_cases d2 : (t.getD i f0).r = ((m : Nat) : Int)
      ·have d1' : ¬ (((m : Nat) : Int) = -1) := by omega
       rcases ih (m) (by omega) with q | ⟨n,T',q,q1,q2,q3⟩
       ·left
        rw [xEr,xOp,xAf]
        simp (maxSteps := 30000000) (disch := first | assumption | omega | (simp only [WL,AV.isCell,xAe] <;> omega) | rfl | decide) only [Int.reduceNeg,WB,Nat.reduceAdd,Nat.reduceSub,hi',↓reduceIte,xBa,c2,c1',q0,xA0,xAx,m0,xBg,d2,d1',q]
       ·refine .inr ⟨n,.node (t.getD i f0).x T0 T',?_,by omega,q2,.some hi2 hL (by rw [d2]; exact q3)⟩
        rw [xEr,xOp,xAf]
        simp (maxSteps := 30000000) (disch := first | assumption | omega | (simp only [WL,AV.isCell,xAe] <;> omega) | rfl | decide) only [Int.reduceNeg,WB,Nat.reduceAdd,Nat.reduceSub,hi',↓reduceIte,xBa,c2,c1',q0,xA0,xAx,m0,xBg,d2,d1',q]
      ·left
       rw [xEr,xOp,xAf]
       simp (maxSteps := 30000000) (disch := first | assumption | omega | (simp only [WL,AV.isCell,xAe] <;> omega) | rfl | decide) only [Int.reduceNeg,WB,Nat.reduceAdd,Nat.reduceSub,hi',↓reduceIte,xBa,c2,c1',q0,xA0,xAx,m0,xBg,d1,d2]
   ·left
    rw [xEr,xOp,xAf]
    simp (maxSteps := 30000000) (disch := first | assumption | omega | (simp only [WL,AV.isCell,xAe] <;> omega) | rfl | decide) only [Int.reduceNeg,WB,Nat.reduceAdd,Nat.reduceSub,hi',↓reduceIte,xBa,c1,c2]
theorem yFp (ht : t.length < 1099511627776) {c : Int} {m n : Nat} {T : BT} (h : Sub t c m T n) : 0 ≤ c → L.pcall 120 [tw z t,.int .i64 (m : Nat)] = some (.int .i64 (n : Nat)) := by
 induction h with
 | none m => intro h; omega
 | @some m k n l r hm hl hr ihl ihr =>
  intro _
  have hi' : ¬ ((t.length : Nat) : Int) ≤ (m : Nat) := by omega
  rcases xC0 hl with ⟨c1,e2,_⟩ | ⟨c2,e2⟩
  ·subst e2
   rcases xC0 hr with ⟨d1,e3,_⟩ | ⟨d2,e3⟩
   ·subst e3
    rw [xEr,xOp,xAf]
    simp (maxSteps := 30000000) (disch := first | assumption | omega | (simp only [WL,AV.isCell,xAe] <;> omega) | rfl | decide) only [Int.reduceNeg,WB,Nat.reduceAdd,Nat.reduceSub,hi',↓reduceIte,xBa,c1,xBg,d1]
   ·have q := ihr (by omega)
    have d1' : ¬ (((m + 1 : Nat) : Int) = -1) := by omega
    rw [xEr,xOp,xAf]
    simp (maxSteps := 30000000) (disch := first | assumption | omega | (simp only [WL,AV.isCell,xAe] <;> omega) | rfl | decide) only [Int.reduceNeg,WB,Nat.reduceAdd,Nat.reduceSub,hi',↓reduceIte,xBa,c1,xBg,d2,d1',q,xA0,xAx]
  ·have q0 := ihl (by omega)
   have c1' : ¬ (((m + 1 : Nat) : Int) = -1) := by omega
   have m0 : ¬ ((k : Nat) : Int) < 0 := by omega
   rcases xC0 hr with ⟨d1,e3,_⟩ | ⟨d2,e3⟩
   ·subst e3
    rw [xEr,xOp,xAf]
    simp (maxSteps := 30000000) (disch := first | assumption | omega | (simp only [WL,AV.isCell,xAe] <;> omega) | rfl | decide) only [Int.reduceNeg,WB,Nat.reduceAdd,Nat.reduceSub,hi',↓reduceIte,xBa,c2,c1',q0,xA0,xAx,m0,xBg,d1]
   ·have q := ihr (by omega)
    have d1' : ¬ (((k : Nat) : Int) = -1) := by omega
    rw [xEr,xOp,xAf]
    simp (maxSteps := 30000000) (disch := first | assumption | omega | (simp only [WL,AV.isCell,xAe] <;> omega) | rfl | decide) only [Int.reduceNeg,WB,Nat.reduceAdd,Nat.reduceSub,hi',↓reduceIte,xBa,c2,c1',q0,xA0,xAx,m0,xBg,d2,d1',q]
theorem xZK (z : Bool) (t : List Lf) (ht : t.length < 1099511627776) : L.pcall 101 [tw z t] = some (.bool (xCq t)) := by
 by_cases h31 : 31 < t.length
 ·have e : xCq t = false := by
   rw [Bool.eq_false_iff]
   intro q
   obtain ⟨T,hT⟩ := formedB_iff.1 q
   rcases hT with ⟨h,_⟩ | ⟨h,_⟩
   ·rw [h] at h31; simp at h31
   ·omega
  have h' : (31 : Int) < (t.length : Nat) := by omega
  rw [e,xWq,yDF,xAf]
  simp (maxSteps := 30000000) (disch := first | assumption | omega | (simp only [WL,AV.isCell,xAe] <;> omega) | rfl | decide) only [WB,Nat.reduceSub,h',↓reduceIte]
 have h' : ¬ (31 : Int) < (t.length : Nat) := by omega
 by_cases h0 : t.length = 0
 ·have e : xCq t = true := formedB_iff.2 ⟨.nil,.inl ⟨List.eq_nil_of_length_eq_zero h0,rfl⟩⟩
  have h0' : (((t.length : Nat) : Int) = 0) = True := eq_true (by omega)
  rw [e,xWq,yDF,xAf]
  simp (maxSteps := 30000000) (disch := first | assumption | omega | (simp only [WL,AV.isCell,xAe] <;> omega) | rfl | decide) only [WB,Nat.reduceSub,h',↓reduceIte,h0']
 have h0' : (((t.length : Nat) : Int) = 0) = False := eq_false (by omega)
 by_cases hf : ∃ T,Formed t T
 ·rw [formedB_iff.2 hf]
  obtain ⟨T,hT⟩ := hf
  rcases hT with ⟨h,_⟩ | ⟨_,hS⟩
  ·rw [h] at h0; simp at h0
  ·have q := yFp (z := z) ht hS (by omega)
   simp only [Int.natCast_zero] at q
   rw [xWq,yDF,xAf]
   simp (maxSteps := 30000000) (disch := first | assumption | omega | (simp only [WL,AV.isCell,xAe] <;> omega) | rfl | decide) only [WB,Nat.reduceSub,h',↓reduceIte,h0',q,xA0,xAx]
 ·have e : xCq t = false := by
   rw [Bool.eq_false_iff]
   intro q
   exact hf (formedB_iff.1 q)
  rw [e]
  rcases xZJ (z := z) ht t.length 0 (by omega) with q | ⟨n,T,q,q1,q2,q3⟩
  ·have h2 : ((-1 : Int) = (t.length : Nat)) = False := eq_false (by omega)
   simp only [Int.natCast_zero] at q
   rw [xWq,yDF,xAf]
   simp (maxSteps := 30000000) (disch := first | assumption | omega | (simp only [WL,AV.isCell,xAe] <;> omega) | rfl | decide) only [WB,Nat.reduceSub,h',↓reduceIte,h0',q,Int.reduceNeg,xA0,xAx,h2]
  ·have h2 : (((n : Nat) : Int) = (t.length : Nat)) = False := by
    refine eq_false fun h => hf ⟨T,.inr ⟨by omega,?_⟩⟩
    have e1 : n = t.length := by omega
    rw [e1] at q3
    exact q3
   simp only [Int.natCast_zero] at q
   rw [xWq,yDF,xAf]
   simp (maxSteps := 30000000) (disch := first | assumption | omega | (simp only [WL,AV.isCell,xAe] <;> omega) | rfl | decide) only [WB,Nat.reduceSub,h',↓reduceIte,h0',q,xA0,xAx,h2]
theorem xQK {v : Nat} {s4 : AV} {H : xAc} (hv : v ≤ 3) (hl : t.length ≤ 31) (hx : ∀ e ∈ t,e.x < 256) : ∀ d i,i + d = t.length →
  ∃ i' : Nat,L.loop xNn yAa ⟨xJP (tw z t) (.int .i64 (v : Nat)) s4 (.int .i64 (i : Nat)),H⟩ =
   some (if (t.drop i).all (fun e => decide (e.x >>> v = 0)) = true then (.exit 0,⟨xJP (tw z t) (.int .i64 (v : Nat)) s4 (.int .i64 (t.length : Nat)),H⟩)
    else (.ret,⟨xJP (tw z t) (.int .i64 (v : Nat)) (.int .i64 1) (.int .i64 (i' : Nat)),H⟩))
 | 0,i,h => by
  obtain rfl : i = t.length := by omega
  refine ⟨0,?_⟩
  rw [if_pos (by rw [List.drop_length]; rfl),xVV]
  simp (maxSteps := 30000000) (disch := first | assumption | omega | (simp only [WL,AV.isCell,xAe] <;> omega) | rfl | decide) only [xJO,WB,↓reduceIte,xG5]
 | d + 1,i,h => by
  have hlt : (i : Int) < (t.length : Nat) := by omega
  obtain ⟨i',ih⟩ := xQK (s4 := s4) (H := H) hv hl hx d (i + 1) (by omega)
  have hxi := hx _ (xGL (show i < t.length by omega))
  rw [xI5 (by omega : i < t.length),List.all_cons]
  have hsh : IntKind.i64.wrap (1 * 2 ^ min v IntKind.i64.bits) = ((2 ^ v : Nat) : Int) := by
   have : v = 0 ∨ v = 1 ∨ v = 2 ∨ v = 3 := by omega
   rcases this with rfl | rfl | rfl | rfl <;> decide
  have cx : IntKind.i64.wrap (((t.getD i f0).x : Nat) : Int) = (((t.getD i f0).x : Nat) : Int) := by
   generalize (t.getD i f0).x = y at *
   simp [IntKind.wrap,IntKind.bits,IntKind.signed]; omega
  have hdv : (t.getD i f0).x >>> v = 0 ↔ (t.getD i f0).x < 2 ^ v := by
   rw [Nat.shiftRight_eq_div_pow]
   exact Nat.div_eq_zero_iff_lt (Nat.two_pow_pos _)
  by_cases c : (t.getD i f0).x < 2 ^ v
  ·rw [decide_eq_true (hdv.2 c),Bool.true_and]
   refine ⟨i',?_⟩
   have c' : ¬ (((2 ^ v : Nat) : Int) ≤ (((t.getD i f0).x : Nat) : Int)) := by omega
   generalize (2 : Nat) ^ v = w at *
   rw [xVV]
   by_cases e : (t.drop (i + 1)).all (fun e => decide (e.x >>> v = 0)) = true
   ·rw [if_pos e] at ih ⊢
    simp (maxSteps := 30000000) (disch := first | assumption | omega | (simp only [WL,AV.isCell,xAe] <;> omega) | rfl | decide) only [xJO,WB,hlt,↓reduceIte,lfs_at0',cx,xAj,hsh,c',xG5,ih]
   ·rw [if_neg e] at ih ⊢
    simp (maxSteps := 30000000) (disch := first | assumption | omega | (simp only [WL,AV.isCell,xAe] <;> omega) | rfl | decide) only [xJO,WB,hlt,↓reduceIte,lfs_at0',cx,xAj,hsh,c',xG5,ih]
  ·rw [decide_eq_false (fun h => c (hdv.1 h)),Bool.false_and]
   refine ⟨i,?_⟩
   rw [if_neg (by simp)]
   have c' : ((2 ^ v : Nat) : Int) ≤ (((t.getD i f0).x : Nat) : Int) := by omega
   generalize (2 : Nat) ^ v = w at *
   rw [xVV]
   simp (maxSteps := 30000000) (disch := first | assumption | omega | (simp only [WL,AV.isCell,xAe] <;> omega) | rfl | decide) only [xJO,WB,hlt,↓reduceIte,lfs_at0',cx,xAj,hsh,c',xG5]
theorem xUG (z : Bool) (t : List Lf) (v : Nat) (hv : v ≤ 3) (hl : t.length < 1099511627776) (hx : ∀ e ∈ t,e.x < 256) : L.pcall 55 [tw z t,.int .i64 (v : Nat)] = some (.int .i64 (xCJ t v)) := by
 have hv0 : ¬ ((v : Nat) : Int) < 0 := by omega
 have hv3 : ¬ (3 : Int) < (v : Nat) := by omega
 unfold xCJ
 by_cases h31 : 31 < t.length
 ·rw [if_pos h31]
  have h' : (31 : Int) < (t.length : Nat) := by omega
  rw [yHd,a55,xAf]
  simp (maxSteps := 30000000) (disch := first | assumption | omega | (simp only [WL,AV.isCell,xAe] <;> omega) | rfl | decide) only [WB,Nat.reduceAdd,Nat.reduceSub,hv0,↓reduceIte,hv3,h']
 rw [if_neg h31]
 have h' : ¬ (31 : Int) < (t.length : Nat) := by omega
 obtain ⟨i',h⟩ := xQK (z := z) (s4 := .int .i64 0) (H := []) hv (by omega) hx t.length 0 (by omega)
 simp only [Int.natCast_zero,List.drop_zero] at h
 have el : t.all (fun e => decide (e.x >>> v = 0)) = xYV t v := rfl
 rw [el] at h
 have hf := xZK z t hl
 cases hlb : xYV t v with
 | true =>
  rw [hlb] at h
  simp only [if_true] at h ⊢
  cases hfb : xCq t with
  | true =>
   rw [hfb] at hf
   simp only [if_true]
   rw [yHd,a55,xAf]
   simp (maxSteps := 30000000) (disch := first | assumption | omega | (simp only [WL,AV.isCell,xAe] <;> omega) | rfl | decide) only [WB,Nat.reduceAdd,Nat.reduceSub,hv0,↓reduceIte,hv3,h',xG5,h,hf,xA0,xAx]
  | false =>
   rw [hfb] at hf
   simp only [Bool.false_eq_true,if_false]
   rw [yHd,a55,xAf]
   simp (maxSteps := 30000000) (disch := first | assumption | omega | (simp only [WL,AV.isCell,xAe] <;> omega) | rfl | decide) only [WB,Nat.reduceAdd,Nat.reduceSub,hv0,↓reduceIte,hv3,h',xG5,h,hf,xA0,xAx]
 | false =>
  rw [hlb] at h
  simp only [Bool.false_eq_true,if_false] at h ⊢
  rw [yHd,a55,xAf]
  simp (maxSteps := 30000000) (disch := first | assumption | omega | (simp only [WL,AV.isCell,xAe] <;> omega) | rfl | decide) only [WB,Nat.reduceAdd,Nat.reduceSub,hv0,↓reduceIte,hv3,h',xG5,h]
end
end Go.Abs.Det
