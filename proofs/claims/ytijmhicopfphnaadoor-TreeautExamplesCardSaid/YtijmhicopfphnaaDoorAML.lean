/- Trees: end,formed,Check. -/
import Derived.Test.YtijmhicopfphnaaDoorAbsBun
import Derived.Test.YtijmhicopfphnaaDoorAL1
namespace Go.Abs.Tree
open Go Go.Abs
set_option linter.unusedSimpArgs false
set_option linter.unusedVariables false
structure Lf where
 x : Nat
 l : Int
 r : Int
def f0 : Lf := ⟨0,0,0⟩
def xTD (e : Lf) : List AV := [.int .u8 (e.x : Nat),.int .i64 e.l,.int .i64 e.r]
def lfs (l : List Lf) : List AV := rows xTD l
abbrev tw (z : Bool) (t : List Lf) : AV := .sl z t.length (lfs t)
theorem xAb (l : List Lf) : (lfs l).length = l.length * 3 := xLW (enc := xTD) (k := 3) (fun _ => rfl) l
theorem xNq {l : List Lf} {i : Nat} (h : i < l.length) : List.drop (i * 3) (lfs l) = xTD (l.getD i f0) ++ lfs (l.drop (i + 1)) := by
 unfold lfs
 rw [xLi (enc := xTD) (k := 3) (fun _ => rfl),List.drop_eq_getElem_cons h]
 have : l.getD i f0 = l[i] := by simp [List.getD,List.getElem?_eq_getElem h]
 rw [this]
 rfl
theorem xHy {l : List Lf} {i : Nat} (h : i < l.length) : List.take 3 (List.drop (i * 3) (lfs l)) = [.int .u8 ((l.getD i f0).x : Nat),.int .i64 (l.getD i f0).l,.int .i64 (l.getD i f0).r] := by
 rw [xNq h]; rfl
theorem xDx {l : List Lf} {i : Nat} (h : i < l.length) : List.take 1 (List.drop (i * 3 + 1) (lfs l)) = [.int .i64 (l.getD i f0).l] := by
 rw [← List.drop_drop,xNq h]; rfl
theorem xDK {l : List Lf} {i : Nat} (h : i < l.length) : List.take 1 (List.drop (i * 3 + 2) (lfs l)) = [.int .i64 (l.getD i f0).r] := by
 rw [← List.drop_drop,xNq h]; rfl
theorem xSz {l : List Lf} {i : Nat} (h : i < l.length) : l.drop i = l.getD i f0 :: l.drop (i + 1) := by
 rw [List.drop_eq_getElem_cons h]
 simp [List.getD,List.getElem?_eq_getElem h]
theorem xNr {l : List Lf} {i : Nat} (h : i < l.length) : l.getD i f0 ∈ l := by
 rw [List.getD_eq_getElem?_getD,List.getElem?_eq_getElem h]
 exact List.getElem_mem _
inductive BT
 | nil
 | node (x : Nat) (l r : BT)
inductive Sub (t : List Lf) : Int → Nat → BT → Nat → Prop
 | none (m : Nat) : Sub t (-1) m .nil m
 | some {m k n : Nat} {l r : BT} (hm : m < t.length) (hl : Sub t (t.getD m f0).l (m + 1) l k) (hr : Sub t (t.getD m f0).r k r n) : Sub t (m : Int) m (.node (t.getD m f0).x l r) n
noncomputable abbrev LP (z : Bool) (t : List Lf) (H : Heap) (l r : Int) (s4 : AV) (next j : Int) := L.loop xSj yAu ⟨xSk (tw z t) s4 (.int .i64 next) (.agg [.int .i64 l,.int .i64 r]) (.int .i64 j),H⟩
abbrev LQ (z : Bool) (t : List Lf) (H : Heap) (l r : Int) (s4 : AV) (next j : Int) : St := ⟨xSk (tw z t) s4 (.int .i64 next) (.agg [.int .i64 l,.int .i64 r]) (.int .i64 j),H⟩
section
variable {z : Bool} {t : List Lf} {H : Heap} {l r : Int} {s4 : AV}
theorem yGz (next : Int) : LP z t H l r s4 next 2 = some (.exit 0,LQ z t H l r s4 next 2) := by
 unfold LP
 rw [xPv]
 simp (disch := omega) only [xKe,Int.reduceNeg,WB,↓reduceIte,xKf]
theorem yFY (next : Int) {c j : Int} (hj : j = 0 ∧ c = l ∨ j = 1 ∧ c = r) (hc : c = -1) : LP z t H l r s4 next j = LP z t H l r s4 next (j + 1) := by
 unfold LP
 rcases hj with ⟨rfl,rfl⟩ | ⟨rfl,rfl⟩
 ·rw [xPv]
  simp (maxSteps := 30000000) (disch := first | assumption | omega | (simp only [WL,AV.isCell,xAb] <;> omega) | rfl | decide) only [xKe,Int.reduceNeg,hc,WB,Int.reduceLT,↓reduceIte,WA,Nat.reduceEqDiff,xKf]
 ·rw [xPv]
  simp (maxSteps := 30000000) (disch := first | assumption | omega | (simp only [WL,AV.isCell,xAb] <;> omega) | rfl | decide) only [xKe,Int.reduceNeg,hc,WB,Int.reduceLT,↓reduceIte,WA,Nat.reduceEqDiff,Int.reduceAdd,xKf]
theorem yHc (next : Nat) {c j : Int} (hj : j = 0 ∧ c = l ∨ j = 1 ∧ c = r) (hc : c ≠ -1) (hb : c ≠ (next : Int) ∨ t.length ≤ next) : LP z t H l r s4 (next : Nat) j = some (.ret,LQ z t H l r (.int .i64 (-1)) (next : Nat) j) := by
 unfold LP
 rcases hj with ⟨rfl,rfl⟩ | ⟨rfl,rfl⟩ <;> rw [xPv] <;> by_cases h1 : c = (next : Int)
 ·have h2 : ((t.length : Nat) : Int) ≤ (next : Nat) := by omega
  have h3 : ¬ ((next : Nat) : Int) = -1 := by omega
  simp (maxSteps := 30000000) (disch := first | assumption | omega | (simp only [WL,AV.isCell,xAb] <;> omega) | rfl | decide) only [xKe,Int.reduceNeg,h1,WB,Int.reduceLT,↓reduceIte,WA,h3,h2,xKf]
 ·simp (maxSteps := 30000000) (disch := first | assumption | omega | (simp only [WL,AV.isCell,xAb] <;> omega) | rfl | decide) only [xKe,Int.reduceNeg,WB,Int.reduceLT,↓reduceIte,WA,hc,h1,xKf]
 ·have h2 : ((t.length : Nat) : Int) ≤ (next : Nat) := by omega
  have h3 : ¬ ((next : Nat) : Int) = -1 := by omega
  simp (maxSteps := 30000000) (disch := first | assumption | omega | (simp only [WL,AV.isCell,xAb] <;> omega) | rfl | decide) only [xKe,Int.reduceNeg,h1,WB,Int.reduceLT,↓reduceIte,WA,h3,h2,xKf]
 ·simp (maxSteps := 30000000) (disch := first | assumption | omega | (simp only [WL,AV.isCell,xAb] <;> omega) | rfl | decide) only [xKe,Int.reduceNeg,WB,Int.reduceLT,↓reduceIte,WA,hc,h1,xKf]
theorem yHd (next : Nat) {c j : Int} (hj : j = 0 ∧ c = l ∨ j = 1 ∧ c = r) (hb : c = (next : Int)) (hn : next < t.length) (hq : L.pcall 96 [tw z t,.int .i64 (next : Nat)] = some (.int .i64 (-1))) : LP z t H l r s4 (next : Nat) j = some (.ret,LQ z t H l r (.int .i64 (-1)) (-1) j) := by
 have h2 : ¬ ((t.length : Nat) : Int) ≤ (next : Nat) := by omega
 have h3 : ¬ ((next : Nat) : Int) = -1 := by omega
 subst hb
 unfold LP
 rcases hj with ⟨rfl,rfl⟩ | ⟨rfl,rfl⟩ <;> rw [xPv]
 ·simp (maxSteps := 30000000) (disch := first | assumption | omega | (simp only [WL,AV.isCell,xAb] <;> omega) | rfl | decide) only [xKe,Int.reduceNeg,WB,Int.reduceLT,↓reduceIte,WA,h3,h2,hq,xE0,xAJ,xKf]
 ·simp (maxSteps := 30000000) (disch := first | assumption | omega | (simp only [WL,AV.isCell,xAb] <;> omega) | rfl | decide) only [xKe,Int.reduceNeg,WB,Int.reduceLT,↓reduceIte,WA,h3,h2,hq,xE0,xAJ,xKf]
theorem yFZ (next m : Nat) {c j : Int} (hj : j = 0 ∧ c = l ∨ j = 1 ∧ c = r) (hb : c = (next : Int)) (hn : next < t.length) (hq : L.pcall 96 [tw z t,.int .i64 (next : Nat)] = some (.int .i64 (m : Nat))) : LP z t H l r s4 (next : Nat) j = LP z t H l r s4 (m : Nat) (j + 1) := by
 have h2 : ¬ ((t.length : Nat) : Int) ≤ (next : Nat) := by omega
 have h3 : ¬ ((next : Nat) : Int) = -1 := by omega
 have h4 : ¬ ((m : Nat) : Int) = -1 := by omega
 subst hb
 unfold LP
 rcases hj with ⟨rfl,rfl⟩ | ⟨rfl,rfl⟩ <;> rw [xPv]
 ·simp (maxSteps := 30000000) (disch := first | assumption | omega | (simp only [WL,AV.isCell,xAb] <;> omega) | rfl | decide) only [xKe,Int.reduceNeg,WB,Int.reduceLT,↓reduceIte,WA,h3,h2,hq,xE0,xAJ,h4,xKf]
 ·simp (maxSteps := 30000000) (disch := first | assumption | omega | (simp only [WL,AV.isCell,xAb] <;> omega) | rfl | decide) only [xKe,Int.reduceNeg,WB,Int.reduceLT,↓reduceIte,WA,h3,h2,hq,xE0,xAJ,h4,Int.reduceAdd,xKf]
end
theorem xQj {z : Bool} {t : List Lf} {i n : Nat} (ht : t.length < 1099511627776) (hi : i < t.length) (h : LP z t [] (t.getD i f0).l (t.getD i f0).r (.int .i64 0) ((i + 1 : Nat) : Int) 0 = some (.exit 0,LQ z t [] (t.getD i f0).l (t.getD i f0).r (.int .i64 0) (n : Nat) 2)) :
  L.pcall 96 [tw z t,.int .i64 (i : Nat)] = some (.int .i64 (n : Nat)) := by
 unfold LP LQ at h
 rw [yG7,a96,xAd]
 simp (maxSteps := 30000000) (disch := first | assumption | omega | (simp only [WL,AV.isCell,xAb] <;> omega) | rfl | decide) only [WB,Nat.reduceAdd,Nat.reduceSub,xDx,xDK,AV.cells,↓reduceIte,Nat.reduceLeDiff,AV.isCell,xAm,xKf,h]
theorem xTE {z : Bool} {t : List Lf} {i : Nat} {n j : Int} (ht : t.length < 1099511627776) (hi : i < t.length) (h : LP z t [] (t.getD i f0).l (t.getD i f0).r (.int .i64 0) ((i + 1 : Nat) : Int) 0 = some (.ret,LQ z t [] (t.getD i f0).l (t.getD i f0).r (.int .i64 (-1)) n j)) :
  L.pcall 96 [tw z t,.int .i64 (i : Nat)] = some (.int .i64 (-1)) := by
 unfold LP LQ at h
 rw [yG7,a96,xAd]
 simp (maxSteps := 30000000) (disch := first | assumption | omega | (simp only [WL,AV.isCell,xAb] <;> omega) | rfl | decide) only [WB,Nat.reduceAdd,Nat.reduceSub,xDx,xDK,AV.cells,↓reduceIte,Nat.reduceLeDiff,AV.isCell,xAm,xKf,h,Int.reduceNeg]
theorem yB1 {z : Bool} {t : List Lf} (ht : t.length < 1099511627776) : ∀ k i,i < t.length → t.length ≤ i + k →
  L.pcall 96 [tw z t,.int .i64 (i : Nat)] = some (.int .i64 (-1)) ∨ ∃ n T,L.pcall 96 [tw z t,.int .i64 (i : Nat)] = some (.int .i64 (n : Nat)) ∧ i < n ∧ n ≤ t.length ∧ Sub t (i : Int) i T n
 | 0,i,hi,hk => by omega
 | k + 1,i,hi,hk => by
  have ih := fun i' (h : i < i') (h2 : i' < t.length) => yB1 (z := z) ht k i' h2 (by omega)
  have first : (∃ n j,LP z t [] (t.getD i f0).l (t.getD i f0).r (.int .i64 0) ((i + 1 : Nat) : Int) 0 = some (.ret,LQ z t [] (t.getD i f0).l (t.getD i f0).r (.int .i64 (-1)) n j)) ∨
    ∃ m T,i < m ∧ m ≤ t.length ∧ Sub t (t.getD i f0).l (i + 1) T m ∧ LP z t [] (t.getD i f0).l (t.getD i f0).r (.int .i64 0) ((i + 1 : Nat) : Int) 0 = LP z t [] (t.getD i f0).l (t.getD i f0).r (.int .i64 0) (m : Nat) 1 := by
   by_cases c1 : (t.getD i f0).l = -1
   ·exact .inr ⟨i + 1,.nil,by omega,by omega,c1 ▸ .none _,yFY _ (.inl ⟨rfl,rfl⟩) c1⟩
   ·by_cases c2 : (t.getD i f0).l ≠ ((i + 1 : Nat) : Int) ∨ t.length ≤ i + 1
    ·exact .inl ⟨_,_,yHc (i + 1) (.inl ⟨rfl,rfl⟩) c1 c2⟩
    ·have c3 : (t.getD i f0).l = ((i + 1 : Nat) : Int) := by omega
     rcases ih (i + 1) (by omega) (by omega) with q | ⟨m,T,q,q1,q2,q3⟩
     ·exact .inl ⟨_,_,yHd (i + 1) (.inl ⟨rfl,rfl⟩) c3 (by omega) q⟩
     ·exact .inr ⟨m,T,by omega,q2,c3 ▸ q3,yFZ (i + 1) m (.inl ⟨rfl,rfl⟩) c3 (by omega) q⟩
  rcases first with ⟨n,j,h⟩ | ⟨m,T,m1,m2,hT,h⟩
  ·exact .inl (xTE ht hi h)
  ·by_cases c1 : (t.getD i f0).r = -1
   ·refine .inr ⟨m,.node (t.getD i f0).x T .nil,xQj ht hi (by rw [h,yFY _ (.inr ⟨rfl,rfl⟩) c1]; exact yGz _),m1,m2,.some hi hT (c1 ▸ .none _)⟩
   ·by_cases c2 : (t.getD i f0).r ≠ (m : Int) ∨ t.length ≤ m
    ·exact .inl (xTE ht hi (h.trans (yHc m (.inr ⟨rfl,rfl⟩) c1 c2)))
    ·have c3 : (t.getD i f0).r = (m : Int) := by omega
     rcases ih m m1 (by omega) with q | ⟨n,T',q,q1,q2,q3⟩
     ·exact .inl (xTE ht hi (h.trans (yHd m (.inr ⟨rfl,rfl⟩) c3 (by omega) q)))
     ·exact .inr ⟨n,.node (t.getD i f0).x T T',xQj ht hi (by rw [h,yFZ m n (.inr ⟨rfl,rfl⟩) c3 (by omega) q]; exact yGz _),by omega,q2,.some hi hT (c3 ▸ q3)⟩
def Formed (t : List Lf) (T : BT) : Prop := t = [] ∧ T = .nil ∨ t.length ≤ 31 ∧ Sub t 0 0 T t.length
theorem xYi (z : Bool) (t : List Lf) (ht : t.length < 1099511627776) : L.pcall 75 [tw z t] = some (.bool false) ∨ L.pcall 75 [tw z t] = some (.bool true) ∧ ∃ T,Formed t T := by
 have e : (((t.length : Nat) : Int) ≤ 31) = (t.length ≤ 31) := propext ⟨fun h => by omega,fun h => by omega⟩
 by_cases h0 : t.length = 0
 ·right
  refine ⟨?_,.nil,.inl ⟨List.length_eq_zero_iff.1 h0,rfl⟩⟩
  have h0' : (((t.length : Nat) : Int) = 0) = True := eq_true (by omega)
  rw [yDe,a75,xAd]
  simp (disch := omega) only [WB,Nat.reduceSub,h0',↓reduceIte]
 ·have h0' : (((t.length : Nat) : Int) = 0) = False := eq_false (by omega)
  by_cases h1 : t.length ≤ 31
  ·rcases yB1 (z := z) ht t.length 0 (by omega) (by omega) with q | ⟨n,T,q,q1,q2,q3⟩
   ·left
    simp only [Int.natCast_zero] at q
    have h2 : ((-1 : Int) = (t.length : Nat)) = False := eq_false (by omega)
    rw [yDe,a75,xAd]
    simp (disch := omega) only [WB,Nat.reduceSub,h0',↓reduceIte,e,h1,q,Int.reduceNeg,xE0,xAJ,h2]
   ·simp only [Int.natCast_zero] at q
    by_cases c : n = t.length
    ·right
     refine ⟨?_,T,.inr ⟨h1,c ▸ q3⟩⟩
     have h2 : (((n : Nat) : Int) = (t.length : Nat)) = True := eq_true (by omega)
     rw [yDe,a75,xAd]
     simp (disch := omega) only [WB,Nat.reduceSub,h0',↓reduceIte,e,h1,q,xE0,xAJ,h2]
    ·left
     have h2 : (((n : Nat) : Int) = (t.length : Nat)) = False := eq_false (by omega)
     rw [yDe,a75,xAd]
     simp (disch := omega) only [WB,Nat.reduceSub,h0',↓reduceIte,e,h1,q,xE0,xAJ,h2]
  ·left
   rw [yDe,a75,xAd]
   simp (disch := omega) only [WB,Nat.reduceSub,h0',↓reduceIte,e,h1]
theorem yAH (x : Nat) {v b : Nat} (h : v ≤ b) : Int.fdiv (x : Int) (2 ^ min v b) = ((x >>> v : Nat) : Int) := by
 rw [Nat.min_eq_left h,Nat.shiftRight_eq_div_pow,show (2 : Int) ^ v = ((2 ^ v : Nat) : Int) from by rw [Int.natCast_pow]; rfl,Int.fdiv_eq_ediv_of_nonneg _ (Int.natCast_nonneg _)]
 rfl
theorem xUN {z : Bool} {t : List Lf} {v : Nat} {s4 : AV} (hv : v ≤ 3) (hl : t.length < 1099511627776) (hx : ∀ e ∈ t,e.x < 256) : ∀ d i H,i + d = t.length →
  ∃ (H' : Heap) (i' : AV),(∀ e ∈ t.drop i,e.x >>> v = 0) ∧ L.loop xPl xXA ⟨xOa (tw z t) (.int .i64 (v : Nat)) s4 (tw z t) (.int .i64 (t.length : Nat)) (.int .i64 (i : Nat)),H⟩ = some (.exit 1,⟨xOa (tw z t) (.int .i64 (v : Nat)) s4 (tw z t) (.int .i64 (t.length : Nat)) (.int .i64 (t.length : Nat)),H'⟩)
   ∨ (¬ ∀ e ∈ t.drop i,e.x >>> v = 0) ∧ L.loop xPl xXA ⟨xOa (tw z t) (.int .i64 (v : Nat)) s4 (tw z t) (.int .i64 (t.length : Nat)) (.int .i64 (i : Nat)),H⟩ = some (.ret,⟨xOa (tw z t) (.int .i64 (v : Nat)) (.int .i64 1) (tw z t) (.int .i64 (t.length : Nat)) i',H'⟩)
 | 0,i,H,h => by
  obtain rfl : i = t.length := by omega
  refine ⟨H,.any,.inl ⟨by rw [List.drop_length]; simp,?_⟩⟩
  rw [xUy]
  simp (maxSteps := 30000000) (disch := first | assumption | omega | (simp only [WL,AV.isCell,xAb] <;> omega) | rfl | decide) only [xPk,WB,↓reduceIte,xOb]
 | d + 1,i,H,h => by
  have hlt : (i : Int) < (t.length : Nat) := by omega
  have hm := hx _ (xNr (by omega : i < t.length))
  have hs := yAH (t.getD i f0).x (show v ≤ IntKind.i64.bits from by show v ≤ 64; omega)
  rw [xSz (by omega : i < t.length)]
  by_cases c : (t.getD i f0).x >>> v = 0
  ·have c' : ((((t.getD i f0).x >>> v : Nat) : Int) = 0) = True := eq_true (by omega)
   obtain ⟨H',i',ih⟩ := xUN (z := z) (s4 := s4) hv hl hx d (i + 1) (H ++ [.cells false false (xTD (t.getD i f0))]) (by omega)
   simp only [xTD] at ih
   refine ⟨H',i',ih.imp (fun q => ⟨?_,?_⟩) (fun q => ⟨?_,?_⟩)⟩
   ·intro e he
    rcases List.mem_cons.1 he with rfl | he
    ·exact c
    ·exact q.1 e he
   ·have q := q.2
    rw [xUy]
    simp (maxSteps := 30000000) (disch := first | assumption | omega | (simp only [WL,AV.isCell,xAb] <;> omega) | rfl | decide) only [xPk,WB,hlt,↓reduceIte,xHy,AV.cells,AV.isCell,Nat.reduceAdd,hs,c',xOb,q]
   ·intro f
    exact q.1 (fun e he => f e (List.mem_cons_of_mem _ he))
   ·have q := q.2
    rw [xUy]
    simp (maxSteps := 30000000) (disch := first | assumption | omega | (simp only [WL,AV.isCell,xAb] <;> omega) | rfl | decide) only [xPk,WB,hlt,↓reduceIte,xHy,AV.cells,AV.isCell,Nat.reduceAdd,hs,c',xOb,q]
  ·have c' : ((((t.getD i f0).x >>> v : Nat) : Int) = 0) = False := eq_false (by omega)
   refine ⟨H ++ [.cells false false (xTD (t.getD i f0))],.int .i64 (i : Nat),.inr ⟨fun f => c (f _ (List.mem_cons_self ..)),?_⟩⟩
   rw [xUy]
   simp (maxSteps := 30000000) (disch := first | assumption | omega | (simp only [WL,AV.isCell,xAb] <;> omega) | rfl | decide) only [xPk,WB,hlt,↓reduceIte,xHy,AV.cells,AV.isCell,Nat.reduceAdd,hs,c',xOb,xTD]
def xIT (a : Nat) : List Int → Nat
 | [] => a
 | q :: l => xIT (a ||| 2 ^ q.toNat) l
theorem xVS {v : Nat} (hv : v < 64) : IntKind.u64.wrap (1 * 2 ^ min v IntKind.u64.bits) = ((2 ^ v : Nat) : Int) := by
 have e1 : min v IntKind.u64.bits = v := Nat.min_eq_left (by show v ≤ 64; omega)
 have e2 : (2 : Nat) ^ v < 2 ^ 64 := Nat.pow_lt_pow_right (by omega) hv
 rw [e1,Int.one_mul,show (2 : Int) ^ v = ((2 ^ v : Nat) : Int) from by rw [Int.natCast_pow]; rfl]
 exact xJJ (by omega)
theorem xOm {v : Nat} (hv : v < 64) : 2 ^ v < 18446744073709551616 := Nat.pow_lt_pow_right (m := v) (n := 64) (a := 2) (by omega) hv
theorem xSA {z : Bool} {l : List Int} {H : Heap} (hl : l.length < 1099511627776) (hq : ∀ q ∈ l,0 ≤ q ∧ q < 64) : ∀ d i a,i + d = l.length → a < 18446744073709551616 →
  L.loop xRL yAg ⟨xRM (.int .u64 (a : Nat)) (iw z l) (.int .i64 (l.length : Nat)) (.int .i64 (i : Nat)),H⟩ = some (.exit 0,⟨xRM (.int .u64 (xIT a (l.drop i) : Nat)) (iw z l) (.int .i64 (l.length : Nat)) (.int .i64 (l.length : Nat)),H⟩)
 | 0,i,a,h,ha => by
  obtain rfl : i = l.length := by omega
  rw [List.drop_length,xIT,yBE]
  simp (maxSteps := 30000000) (disch := first | assumption | omega | (simp only [WL,AV.isCell,xAb] <;> omega) | rfl | decide) only [xUh,WB,↓reduceIte,xXp]
 | d + 1,i,a,h,ha => by
  have hlt : (i : Int) < (l.length : Nat) := by omega
  have hm := hq (l.getD i 0) (by rw [List.getD_eq_getElem?_getD,List.getElem?_eq_getElem (by omega : i < l.length)]; exact List.getElem_mem _)
  have hs := xVS (show (l.getD i 0).toNat < 64 by omega)
  have hp := xOm (show (l.getD i 0).toNat < 64 by omega)
  have ho := yDA ha hp
  have h0 := hm.1
  have ih := xSA (z := z) (H := H) hl hq d (i + 1) (a ||| 2 ^ (l.getD i 0).toNat) (by omega) (xNg ha hp)
  rw [xHA (by omega : i < l.length),xIT,yBE]
  simp (maxSteps := 30000000) (disch := first | assumption | omega | (simp only [WL,AV.isCell,xAb] <;> omega) | rfl | decide) only [xUh,WB,hlt,↓reduceIte,W2,hs,ho,xXp,ih]
theorem xQk (z : Bool) (l : List Int) (hl : l.length < 1099511627776) (hq : ∀ q ∈ l,0 ≤ q ∧ q < 64) : L.pcall 54 [iw z l] = some (.int .u64 (xIT 0 l : Nat)) := by
 have h := xSA (z := z) (H := []) hl hq l.length 0 0 (by omega) (by omega)
 simp only [Int.natCast_zero,List.drop_zero] at h
 rw [yH4,a54,xAd]
 simp (disch := omega) only [WB,Nat.reduceSub,xXp,h,↓reduceIte]
theorem xKj : ∀ (l : List Int) (a j : Nat),(∀ q ∈ l,0 ≤ q) → (xIT a l).testBit j = (a.testBit j || l.contains (j : Int))
 | [],a,j,h => by simp [xIT]
 | q :: l,a,j,h => by
  have h0 := h q (List.mem_cons_self ..)
  have e : decide (q.toNat = j) = ((j : Int) == q) := by
   rw [Bool.eq_iff_iff]; simp only [decide_eq_true_eq,beq_iff_eq]; omega
  rw [xIT,xKj l _ j (fun q hq => h q (List.mem_cons_of_mem _ hq)),Nat.testBit_or,Nat.testBit_two_pow,List.contains_cons,e,Bool.or_assoc]
theorem xLw : ∀ (l : List Int) (a : Nat),a < 18446744073709551616 → (∀ q ∈ l,0 ≤ q ∧ q < 64) → xIT a l < 18446744073709551616
 | [],a,ha,h => ha
 | q :: l,a,ha,h => by
  have h0 := h q (List.mem_cons_self ..)
  exact xLw l _ (xNg ha (xOm (by omega))) (fun q hq => h q (List.mem_cons_of_mem _ hq))
theorem xAu {G X : Heap} {b : Nat} {x : Blk} (h : G[b]? = some x) : (G ++ X)[b]? = some x := by
 rw [List.getElem?_append_left (List.getElem?_eq_some_iff.1 h).1,h]
theorem yF0 {l : Nat} (hl : l < 18446744073709551616) (u : Nat) : xK8 .and .u64 ((l >>> u : Nat) : Int) 1 = if l.testBit u = true then 1 else 0 := by
 have h1 : l >>> u < 18446744073709551616 := Nat.lt_of_le_of_lt (by rw [Nat.shiftRight_eq_div_pow]; exact Nat.div_le_self ..) hl
 have h := xTG h1 (show 1 < 18446744073709551616 by omega)
 rw [show ((1 : Nat) : Int) = 1 from rfl] at h
 rw [h,Nat.and_one_is_mod]
 have ht : l.testBit u = decide ((l >>> u) % 2 = 1) := by
  rw [Nat.testBit_eq_decide_div_mod_eq,Nat.shiftRight_eq_div_pow]
 rw [ht]
 by_cases c : (l >>> u) % 2 = 1
 ·rw [c]; simp
 ·have : (l >>> u) % 2 = 0 := by omega
  rw [this]; simp
def hit (l r x : Nat) (u : Rl) : Bool := l.testBit u.l.toNat && r.testBit u.r.toNat && yAM u.p u.n x
def toM (l r x : Nat) (a : Nat) : List Rl → Nat
 | [] => a
 | u :: t => toM l r x (if hit l r x u = true then a ||| 2 ^ u.t.toNat else a) t
def xTF (l : List Rl) : Prop := ∀ e ∈ l,(0 ≤ e.l ∧ e.l < 64) ∧ (0 ≤ e.r ∧ e.r < 64) ∧ (0 ≤ e.t ∧ e.t < 64) ∧ e.p < 256 ∧ e.n < 256
theorem yB2 (l r x : Nat) : ∀ (t : List Rl) (a : Nat),a < 18446744073709551616 → xTF t → toM l r x a t < 18446744073709551616
 | [],a,h,_ => h
 | u :: t,a,h,hb => by
  have hu := hb u (List.mem_cons_self ..)
  refine yB2 l r x t _ ?_ (fun e he => hb e (List.mem_cons_of_mem _ he))
  split
  ·exact xNg h (xOm (by omega))
  ·exact h
section
variable {s1 s2 s5 s6 s7 s8 : AV}
theorem xOn {z : Bool} {rl : List Rl} {b l r x : Nat} {xl xr : Int} (hl : rl.length < 1099511627776) (hb : xTF rl) (hL : l < 18446744073709551616) (hR : r < 18446744073709551616) (hx : x < 256) : ∀ d i a G,i + d = rl.length → a < 18446744073709551616 → G[b]? = some (.cells false false [.int .u8 (x : Nat),.int .i64 xl,.int .i64 xr]) →
  ∃ X,L.loop xRx yAa ⟨xRy s1 s2 s5 s6 s7 s8 (.ptr b 0) (.int .u64 (l : Nat)) (.int .u64 (r : Nat)) (.int .u64 (a : Nat)) (.sl z rl.length (rls rl)) (.int .i64 (rl.length : Nat)) (.int .i64 (i : Nat)),G⟩ =
   some (.exit 2,⟨xRy s1 s2 s5 s6 s7 s8 (.ptr b 0) (.int .u64 (l : Nat)) (.int .u64 (r : Nat)) (.int .u64 (toM l r x a (rl.drop i) : Nat)) (.sl z rl.length (rls rl)) (.int .i64 (rl.length : Nat)) (.int .i64 (rl.length : Nat)),G ++ X⟩)
 | 0,i,a,G,h,ha,hG => by
  obtain rfl : i = rl.length := by omega
  refine ⟨[],?_⟩
  rw [List.drop_length,toM,xRz,List.append_nil]
  simp (maxSteps := 30000000) (disch := first | assumption | omega | (simp only [WL,AV.isCell,xAb,xAa] <;> omega) | rfl | decide) only [xN2,WB,↓reduceIte,xMh]
 | d + 1,i,a,G,h,ha,hG => by
  have hlt : (i : Int) < (rl.length : Nat) := by omega
  obtain ⟨⟨l0,l1⟩,⟨r0',r1⟩,⟨t0,t1⟩,p1,n1⟩ := hb _ (xIN (by omega : i < rl.length))
  have hc := yDz (rl.getD i r0).p (rl.getD i r0).n x p1 n1 hx
  have hsl := yAH l (show (rl.getD i r0).l.toNat ≤ IntKind.u64.bits from by show _ ≤ 64; omega)
  have hsr := yAH r (show (rl.getD i r0).r.toNat ≤ IntKind.u64.bits from by show _ ≤ 64; omega)
  have hbl := yF0 hL (rl.getD i r0).l.toNat
  have hbr := yF0 hR (rl.getD i r0).r.toNat
  have hs := xVS (show (rl.getD i r0).t.toNat < 64 by omega)
  have hp := xOm (show (rl.getD i r0).t.toNat < 64 by omega)
  have ho := yDA ha hp
  have g1 := xAu (X := [.cells false false (xGI (rl.getD i r0))]) hG
  simp only [xGI] at g1
  rw [xHR (by omega : i < rl.length),toM]
  by_cases c1 : l.testBit (rl.getD i r0).l.toNat = true
  ·rw [if_pos c1] at hbl
   by_cases c2 : r.testBit (rl.getD i r0).r.toNat = true
   ·rw [if_pos c2] at hbr
    cases c3 : yAM (rl.getD i r0).p (rl.getD i r0).n x with
    | true =>
     rw [c3] at hc
     rw [if_pos (by unfold hit; rw [c1,c2,c3]; rfl)]
     obtain ⟨X,ih⟩ := xOn (z := z) hl hb hL hR hx d (i + 1) (a ||| 2 ^ (rl.getD i r0).t.toNat) (G ++ [.cells false false (xGI (rl.getD i r0))]) (by omega) (xNg ha hp) (xAu hG)
     refine ⟨.cells false false (xGI (rl.getD i r0)) :: X,?_⟩
     simp only [xGI,List.append_assoc,List.cons_append,List.nil_append] at ih ⊢
     rw [xRz]
     simp (maxSteps := 30000000) (disch := first | assumption | omega | (simp only [WL,AV.isCell,xAb,xAa] <;> omega) | rfl | decide) only [xN2,WB,hlt,↓reduceIte,xCF,AV.cells,AV.isCell,Nat.reduceAdd,hsl,hbl,Int.reduceEq,hsr,hbr,Nat.reduceLeDiff,g1,hc,xE0,xAJ,hs,ho,xMh,ih]
    | false =>
     rw [c3] at hc
     rw [if_neg (by unfold hit; rw [c1,c2,c3]; simp)]
     obtain ⟨X,ih⟩ := xOn (z := z) hl hb hL hR hx d (i + 1) a (G ++ [.cells false false (xGI (rl.getD i r0))]) (by omega) ha (xAu hG)
     refine ⟨.cells false false (xGI (rl.getD i r0)) :: X,?_⟩
     simp only [xGI,List.append_assoc,List.cons_append,List.nil_append] at ih ⊢
     rw [xRz]
     simp (maxSteps := 30000000) (disch := first | assumption | omega | (simp only [WL,AV.isCell,xAb,xAa] <;> omega) | rfl | decide) only [xN2,WB,hlt,↓reduceIte,xCF,AV.cells,AV.isCell,Nat.reduceAdd,hsl,hbl,Int.reduceEq,hsr,hbr,Nat.reduceLeDiff,g1,hc,xE0,xAJ,xMh,ih]
   ·rw [if_neg c2] at hbr
    rw [if_neg (by unfold hit; simp only [Bool.and_eq_true]; exact fun q => c2 q.1.2)]
    obtain ⟨X,ih⟩ := xOn (z := z) hl hb hL hR hx d (i + 1) a (G ++ [.cells false false (xGI (rl.getD i r0))]) (by omega) ha (xAu hG)
    refine ⟨.cells false false (xGI (rl.getD i r0)) :: X,?_⟩
    simp only [xGI,List.append_assoc,List.cons_append,List.nil_append] at ih ⊢
    rw [xRz]
    simp (maxSteps := 30000000) (disch := first | assumption | omega | (simp only [WL,AV.isCell,xAb,xAa] <;> omega) | rfl | decide) only [xN2,WB,hlt,↓reduceIte,xCF,AV.cells,AV.isCell,Nat.reduceAdd,hsl,hbl,Int.reduceEq,hsr,hbr,xMh,ih]
  ·rw [if_neg c1] at hbl
   rw [if_neg (by unfold hit; simp only [Bool.and_eq_true]; exact fun q => c1 q.1.1)]
   obtain ⟨X,ih⟩ := xOn (z := z) hl hb hL hR hx d (i + 1) a (G ++ [.cells false false (xGI (rl.getD i r0))]) (by omega) ha (xAu hG)
   refine ⟨.cells false false (xGI (rl.getD i r0)) :: X,?_⟩
   simp only [xGI,List.append_assoc,List.cons_append,List.nil_append] at ih ⊢
   rw [xRz]
   simp (maxSteps := 30000000) (disch := first | assumption | omega | (simp only [WL,AV.isCell,xAb,xAa] <;> omega) | rfl | decide) only [xN2,WB,hlt,↓reduceIte,xCF,AV.cells,AV.isCell,Nat.reduceAdd,hsl,hbl,xMh,ih]
end
def OwnG (G : Heap) (v : AV) (l : List Nat) : Prop := (v = .sl true 0 [] ∧ l = []) ∨ ∃ k r,2 < k ∧ v = .own false k 0 l.length 1 ∧ G[k]? = some (.cells false false (w64 (l ++ r)))
theorem OwnG.app {G : Heap} {v : AV} {l : List Nat} (h : OwnG G v l) (X : Heap) : OwnG (G ++ X) v l := by
 rcases h with h | ⟨k,r,e0,e1,e2⟩
 ·exact .inl h
 ·exact .inr ⟨k,r,e0,e1,xAu e2⟩
theorem yAI {G : Heap} {E : Nat} {c : Int} (hc : c < 0) (h1 : G[1]? = some (.cells false false [.int .u64 (E : Nat)])) : L.icall (.func 82 [.ptr 1 0,.ptr 2 0]) [.int .i64 c] G = some (.int .u64 (E : Nat),G) := by
 rw [yG0,a82]
 simp (maxSteps := 30000000) (disch := first | assumption | omega | (simp only [WL,AV.isCell,xAb,xAa] <;> omega) | rfl | decide) only [WB,Nat.reduceAdd,Nat.reduceSub,hc,↓reduceIte,h1]
theorem yAJ {G : Heap} {st : List Nat} {x : Nat} {v : AV} {c : Int} (hc : ¬ c < 0) (h2 : G[2]? = some (.cells false false [v])) (hO : OwnG G v (st ++ [x])) (hl : st.length < 1099511627776) :
  ∃ v',L.icall (.func 82 [.ptr 1 0,.ptr 2 0]) [.int .i64 c] G = some (.int .u64 (x : Nat),G.set 2 (.cells false false [v'])) ∧ OwnG (G.set 2 (.cells false false [v'])) v' st := by
 rcases hO with ⟨_,h⟩ | ⟨k,r,e0,rfl,e2⟩
 ·simp at h
 ·refine ⟨.own false k 0 st.length 1,?_,.inr ⟨k,x :: r,e0,rfl,?_⟩⟩
  ·have hat : (st ++ x :: r).getD st.length 0 = x := by simp [List.getD]
   have e2' : G[k]? = some (.cells false false (w64 (st ++ (x :: r)))) := by rw [e2]; simp
   have hlen : (st ++ [x]).length = st.length + 1 := by simp
   rw [hlen] at h2
   rw [yG0,a82]
   simp (maxSteps := 30000000) (disch := first | assumption | omega | (simp only [WL,AV.isCell,xAb,xAa] <;> omega) | rfl | decide) only [WB,Nat.reduceAdd,Nat.reduceSub,hc,↓reduceIte,h2,Nat.add_sub_cancel,e2',xEW,xDy,xGk,hat,AV.cells]
  ·rw [List.getElem?_set_ne (by omega),e2]; simp
end Go.Abs.Tree
