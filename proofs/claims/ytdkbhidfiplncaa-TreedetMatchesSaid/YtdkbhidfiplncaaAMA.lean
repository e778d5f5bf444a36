/- Trees: end,formed,Check. -/
import Derived.Test.YtdkbhidfiplncaaAbsBun
import Derived.Test.YtdkbhidfiplncaaAProg
import Derived.Test.YtdkbhidfiplncaaAbsEnc2
import Derived.Test.YtdkbhidfiplncaaAbsWalk
namespace Go.Abs.Det
open Go Go.Abs
set_option linter.unusedSimpArgs false
set_option linter.unusedVariables false
noncomputable abbrev L : Rec := lim xAi
abbrev iw (z : Bool) (l : List Int) : AV := .sl z l.length (ints l)
theorem xDM {l : List Int} {i : Nat} (h : i < l.length) : l.drop i = l.getD i 0 :: l.drop (i + 1) := by
 rw [List.drop_eq_getElem_cons h]
 simp [List.getD,List.getElem?_eq_getElem h]
theorem xAw {G X : xAc} {b : Nat} {x : Blk} (h : G[b]? = some x) : (G ++ X)[b]? = some x := by
 rw [List.getElem?_append_left (List.getElem?_eq_some_iff.1 h).1]; exact h
theorem yBy {α : Type} (k : Nat) (l : List α) : List.take (l.take k).length l = l.take k := by
 rw [List.length_take]
 rcases Nat.le_total k l.length with h | h
 ·rw [Nat.min_eq_left h]
 ·rw [Nat.min_eq_right h,List.take_of_length_le h,List.take_of_length_le (Nat.le_refl _)]
structure Lf where
 x : Nat
 l : Int
 r : Int
def f0 : Lf := ⟨0,0,0⟩
def yBz (e : Lf) : List AV := [.int .u8 (e.x : Nat),.int .i64 e.l,.int .i64 e.r]
def lfs (l : List Lf) : List AV := rows yBz l
abbrev tw (z : Bool) (t : List Lf) : AV := .sl z t.length (lfs t)
theorem xAe (l : List Lf) : (lfs l).length = l.length * 3 := xI2 (enc := yBz) (k := 3) (fun _ => rfl) l
theorem xFl {l : List Lf} {i : Nat} (h : i < l.length) : List.drop (i * 3) (lfs l) = yBz (l.getD i f0) ++ lfs (l.drop (i + 1)) := by
 unfold lfs
 rw [xFk (enc := yBz) (k := 3) (fun _ => rfl),List.drop_eq_getElem_cons h]
 have : l.getD i f0 = l[i] := by simp [List.getD,List.getElem?_eq_getElem h]
 rw [this]
 rfl
theorem xUi {l : List Lf} {i : Nat} (h : i < l.length) : List.take 3 (List.drop (i * 3) (lfs l)) = [.int .u8 ((l.getD i f0).x : Nat),.int .i64 (l.getD i f0).l,.int .i64 (l.getD i f0).r] := by
 rw [xFl h]; rfl
theorem xBa {l : List Lf} {i : Nat} (h : i < l.length) : List.take 1 (List.drop (i * 3 + 1) (lfs l)) = [.int .i64 (l.getD i f0).l] := by
 rw [← List.drop_drop,xFl h]; rfl
theorem xBg {l : List Lf} {i : Nat} (h : i < l.length) : List.take 1 (List.drop (i * 3 + 2) (lfs l)) = [.int .i64 (l.getD i f0).r] := by
 rw [← List.drop_drop,xFl h]; rfl
theorem xI5 {l : List Lf} {i : Nat} (h : i < l.length) : l.drop i = l.getD i f0 :: l.drop (i + 1) := by
 rw [List.drop_eq_getElem_cons h]
 simp [List.getD,List.getElem?_eq_getElem h]
theorem xGL {l : List Lf} {i : Nat} (h : i < l.length) : l.getD i f0 ∈ l := by
 rw [List.getD_eq_getElem?_getD,List.getElem?_eq_getElem h]
 exact List.getElem_mem _
inductive BT
 | nil
 | node (x : Nat) (l r : BT)
inductive Sub (t : List Lf) : Int → Nat → BT → Nat → Prop
 | none (m : Nat) : Sub t (-1) m .nil m
 | some {m k n : Nat} {l r : BT} (hm : m < t.length) (hl : Sub t (t.getD m f0).l (m + 1) l k) (hr : Sub t (t.getD m f0).r k r n) : Sub t (m : Int) m (.node (t.getD m f0).x l r) n
noncomputable abbrev LP (z : Bool) (t : List Lf) (H : xAc) (l r : Int) (s4 : AV) (next j : Int) := L.loop xHs xSv ⟨xHt (tw z t) s4 (.int .i64 next) (.agg [.int .i64 l,.int .i64 r]) (.int .i64 j),H⟩
abbrev LQ (z : Bool) (t : List Lf) (H : xAc) (l r : Int) (s4 : AV) (next j : Int) : St := ⟨xHt (tw z t) s4 (.int .i64 next) (.agg [.int .i64 l,.int .i64 r]) (.int .i64 j),H⟩
section
variable {z : Bool} {t : List Lf} {H : xAc} {l r : Int} {s4 : AV}
theorem yIr (next : Int) : LP z t H l r s4 next 2 = some (.exit 0,LQ z t H l r s4 next 2) := by
 unfold LP
 rw [xFz]
 simp (maxSteps := 30000000) (disch := first | assumption | omega | (simp only [WL,AV.isCell,xAe] <;> omega) | rfl | decide) only [xBK,Int.reduceNeg,WB,↓reduceIte,xBL]
theorem yHn (next : Int) {c j : Int} (hj : j = 0 ∧ c = l ∨ j = 1 ∧ c = r) (hc : c = -1) : LP z t H l r s4 next j = LP z t H l r s4 next (j + 1) := by
 unfold LP
 rcases hj with ⟨rfl,rfl⟩ | ⟨rfl,rfl⟩
 ·rw [xFz]
  simp (maxSteps := 30000000) (disch := first | assumption | omega | (simp only [WL,AV.isCell,xAe] <;> omega) | rfl | decide) only [xBK,Int.reduceNeg,hc,WB,Int.reduceLT,↓reduceIte,WA,Nat.reduceEqDiff,xBL]
 ·rw [xFz]
  simp (maxSteps := 30000000) (disch := first | assumption | omega | (simp only [WL,AV.isCell,xAe] <;> omega) | rfl | decide) only [xBK,Int.reduceNeg,hc,WB,Int.reduceLT,↓reduceIte,WA,Nat.reduceEqDiff,Int.reduceAdd,xBL]
theorem yJc (next : Nat) {c j : Int} (hj : j = 0 ∧ c = l ∨ j = 1 ∧ c = r) (hc : c ≠ -1) (hb : c ≠ (next : Int) ∨ t.length ≤ next) : LP z t H l r s4 (next : Nat) j = some (.ret,LQ z t H l r (.int .i64 (-1)) (next : Nat) j) := by
 unfold LP
 rcases hj with ⟨rfl,rfl⟩ | ⟨rfl,rfl⟩ <;> rw [xFz] <;> by_cases h1 : c = (next : Int)
 ·have h2 : ((t.length : Nat) : Int) ≤ (next : Nat) := by omega
  have h3 : ¬ ((next : Nat) : Int) = -1 := by omega
  simp (maxSteps := 30000000) (disch := first | assumption | omega | (simp only [WL,AV.isCell,xAe] <;> omega) | rfl | decide) only [xBK,Int.reduceNeg,h1,WB,Int.reduceLT,↓reduceIte,WA,h3,h2,xBL]
 ·simp (maxSteps := 30000000) (disch := first | assumption | omega | (simp only [WL,AV.isCell,xAe] <;> omega) | rfl | decide) only [xBK,Int.reduceNeg,WB,Int.reduceLT,↓reduceIte,WA,hc,h1,xBL]
 ·have h2 : ((t.length : Nat) : Int) ≤ (next : Nat) := by omega
  have h3 : ¬ ((next : Nat) : Int) = -1 := by omega
  simp (maxSteps := 30000000) (disch := first | assumption | omega | (simp only [WL,AV.isCell,xAe] <;> omega) | rfl | decide) only [xBK,Int.reduceNeg,h1,WB,Int.reduceLT,↓reduceIte,WA,h3,h2,xBL]
 ·simp (maxSteps := 30000000) (disch := first | assumption | omega | (simp only [WL,AV.isCell,xAe] <;> omega) | rfl | decide) only [xBK,Int.reduceNeg,WB,Int.reduceLT,↓reduceIte,WA,hc,h1,xBL]
theorem yJd (next : Nat) {c j : Int} (hj : j = 0 ∧ c = l ∨ j = 1 ∧ c = r) (hb : c = (next : Int)) (hn : next < t.length) (hq : L.pcall 114 [tw z t,.int .i64 (next : Nat)] = some (.int .i64 (-1))) : LP z t H l r s4 (next : Nat) j = some (.ret,LQ z t H l r (.int .i64 (-1)) (-1) j) := by
 have h2 : ¬ ((t.length : Nat) : Int) ≤ (next : Nat) := by omega
 have h3 : ¬ ((next : Nat) : Int) = -1 := by omega
 subst hb
 unfold LP
 rcases hj with ⟨rfl,rfl⟩ | ⟨rfl,rfl⟩ <;> rw [xFz]
 ·simp (maxSteps := 30000000) (disch := first | assumption | omega | (simp only [WL,AV.isCell,xAe] <;> omega) | rfl | decide) only [xBK,Int.reduceNeg,WB,Int.reduceLT,↓reduceIte,WA,h3,h2,hq,xA0,xAx,xBL]
 ·simp (maxSteps := 30000000) (disch := first | assumption | omega | (simp only [WL,AV.isCell,xAe] <;> omega) | rfl | decide) only [xBK,Int.reduceNeg,WB,Int.reduceLT,↓reduceIte,WA,h3,h2,hq,xA0,xAx,xBL]
theorem yHo (next m : Nat) {c j : Int} (hj : j = 0 ∧ c = l ∨ j = 1 ∧ c = r) (hb : c = (next : Int)) (hn : next < t.length) (hq : L.pcall 114 [tw z t,.int .i64 (next : Nat)] = some (.int .i64 (m : Nat))) : LP z t H l r s4 (next : Nat) j = LP z t H l r s4 (m : Nat) (j + 1) := by
 have h2 : ¬ ((t.length : Nat) : Int) ≤ (next : Nat) := by omega
 have h3 : ¬ ((next : Nat) : Int) = -1 := by omega
 have h4 : ¬ ((m : Nat) : Int) = -1 := by omega
 subst hb
 unfold LP
 rcases hj with ⟨rfl,rfl⟩ | ⟨rfl,rfl⟩ <;> rw [xFz]
 ·simp (maxSteps := 30000000) (disch := first | assumption | omega | (simp only [WL,AV.isCell,xAe] <;> omega) | rfl | decide) only [xBK,Int.reduceNeg,WB,Int.reduceLT,↓reduceIte,WA,h3,h2,hq,xA0,xAx,h4,xBL]
 ·simp (maxSteps := 30000000) (disch := first | assumption | omega | (simp only [WL,AV.isCell,xAe] <;> omega) | rfl | decide) only [xBK,Int.reduceNeg,WB,Int.reduceLT,↓reduceIte,WA,h3,h2,hq,xA0,xAx,h4,Int.reduceAdd,xBL]
end
theorem xMw {z : Bool} {t : List Lf} {i n : Nat} (ht : t.length < 1099511627776) (hi : i < t.length) (h : LP z t [] (t.getD i f0).l (t.getD i f0).r (.int .i64 0) ((i + 1 : Nat) : Int) 0 = some (.exit 0,LQ z t [] (t.getD i f0).l (t.getD i f0).r (.int .i64 0) (n : Nat) 2)) :
  L.pcall 114 [tw z t,.int .i64 (i : Nat)] = some (.int .i64 (n : Nat)) := by
 unfold LP LQ at h
 rw [yFP,yG9,xAf]
 simp (maxSteps := 30000000) (disch := first | assumption | omega | (simp only [WL,AV.isCell,xAe] <;> omega) | rfl | decide) only [WB,Nat.reduceAdd,Nat.reduceSub,xBa,xBg,AV.cells,↓reduceIte,Nat.reduceLeDiff,AV.isCell,xAj,xBL,h]
theorem xRk {z : Bool} {t : List Lf} {i : Nat} {n j : Int} (ht : t.length < 1099511627776) (hi : i < t.length) (h : LP z t [] (t.getD i f0).l (t.getD i f0).r (.int .i64 0) ((i + 1 : Nat) : Int) 0 = some (.ret,LQ z t [] (t.getD i f0).l (t.getD i f0).r (.int .i64 (-1)) n j)) :
  L.pcall 114 [tw z t,.int .i64 (i : Nat)] = some (.int .i64 (-1)) := by
 unfold LP LQ at h
 rw [yFP,yG9,xAf]
 simp (maxSteps := 30000000) (disch := first | assumption | omega | (simp only [WL,AV.isCell,xAe] <;> omega) | rfl | decide) only [WB,Nat.reduceAdd,Nat.reduceSub,xBa,xBg,AV.cells,↓reduceIte,Nat.reduceLeDiff,AV.isCell,xAj,xBL,h,Int.reduceNeg]
theorem yDr {z : Bool} {t : List Lf} (ht : t.length < 1099511627776) : ∀ k i,i < t.length → t.length ≤ i + k →
  L.pcall 114 [tw z t,.int .i64 (i : Nat)] = some (.int .i64 (-1)) ∨ ∃ n T,L.pcall 114 [tw z t,.int .i64 (i : Nat)] = some (.int .i64 (n : Nat)) ∧ i < n ∧ n ≤ t.length ∧ Sub t (i : Int) i T n
 | 0,i,hi,hk => by omega
 | k + 1,i,hi,hk => by
  have ih := fun i' (h : i < i') (h2 : i' < t.length) => yDr (z := z) ht k i' h2 (by omega)
  have first : (∃ n j,LP z t [] (t.getD i f0).l (t.getD i f0).r (.int .i64 0) ((i + 1 : Nat) : Int) 0 = some (.ret,LQ z t [] (t.getD i f0).l (t.getD i f0).r (.int .i64 (-1)) n j)) ∨
    ∃ m T,i < m ∧ m ≤ t.length ∧ Sub t (t.getD i f0).l (i + 1) T m ∧ LP z t [] (t.getD i f0).l (t.getD i f0).r (.int .i64 0) ((i + 1 : Nat) : Int) 0 = LP z t [] (t.getD i f0).l (t.getD i f0).r (.int .i64 0) (m : Nat) 1 := by
   by_cases c1 : (t.getD i f0).l = -1
   ·exact .inr ⟨i + 1,.nil,by omega,by omega,c1 ▸ .none _,yHn _ (.inl ⟨rfl,rfl⟩) c1⟩
   ·by_cases c2 : (t.getD i f0).l ≠ ((i + 1 : Nat) : Int) ∨ t.length ≤ i + 1
    ·exact .inl ⟨_,_,yJc (i + 1) (.inl ⟨rfl,rfl⟩) c1 c2⟩
    ·have c3 : (t.getD i f0).l = ((i + 1 : Nat) : Int) := by omega
     rcases ih (i + 1) (by omega) (by omega) with q | ⟨m,T,q,q1,q2,q3⟩
     ·exact .inl ⟨_,_,yJd (i + 1) (.inl ⟨rfl,rfl⟩) c3 (by omega) q⟩
     ·exact .inr ⟨m,T,by omega,q2,c3 ▸ q3,yHo (i + 1) m (.inl ⟨rfl,rfl⟩) c3 (by omega) q⟩
  rcases first with ⟨n,j,h⟩ | ⟨m,T,m1,m2,hT,h⟩
  ·exact .inl (xRk ht hi h)
  ·by_cases c1 : (t.getD i f0).r = -1
   ·refine .inr ⟨m,.node (t.getD i f0).x T .nil,xMw ht hi (by rw [h,yHn _ (.inr ⟨rfl,rfl⟩) c1]; exact yIr _),m1,m2,.some hi hT (c1 ▸ .none _)⟩
   ·by_cases c2 : (t.getD i f0).r ≠ (m : Int) ∨ t.length ≤ m
    ·exact .inl (xRk ht hi (h.trans (yJc m (.inr ⟨rfl,rfl⟩) c1 c2)))
    ·have c3 : (t.getD i f0).r = (m : Int) := by omega
     rcases ih m m1 (by omega) with q | ⟨n,T',q,q1,q2,q3⟩
     ·exact .inl (xRk ht hi (h.trans (yJd m (.inr ⟨rfl,rfl⟩) c3 (by omega) q)))
     ·exact .inr ⟨n,.node (t.getD i f0).x T T',xMw ht hi (by rw [h,yHo m n (.inr ⟨rfl,rfl⟩) c3 (by omega) q]; exact yIr _),by omega,q2,.some hi hT (c3 ▸ q3)⟩
def Formed (t : List Lf) (T : BT) : Prop := t = [] ∧ T = .nil ∨ t.length ≤ 31 ∧ Sub t 0 0 T t.length
theorem xYT (z : Bool) (t : List Lf) (ht : t.length < 1099511627776) : L.pcall 91 [tw z t] = some (.bool false) ∨ L.pcall 91 [tw z t] = some (.bool true) ∧ ∃ T,Formed t T := by
 have e : (((t.length : Nat) : Int) ≤ 31) = (t.length ≤ 31) := propext ⟨fun h => by omega,fun h => by omega⟩
 by_cases h0 : t.length = 0
 ·right
  refine ⟨?_,.nil,.inl ⟨List.length_eq_zero_iff.1 h0,rfl⟩⟩
  have h0' : (((t.length : Nat) : Int) = 0) = True := eq_true (by omega)
  rw [yDI,a91,xAf]
  simp (maxSteps := 30000000) (disch := first | assumption | omega | (simp only [WL,AV.isCell,xAe] <;> omega) | rfl | decide) only [WB,Nat.reduceSub,h0',↓reduceIte]
 ·have h0' : (((t.length : Nat) : Int) = 0) = False := eq_false (by omega)
  by_cases h1 : t.length ≤ 31
  ·rcases yDr (z := z) ht t.length 0 (by omega) (by omega) with q | ⟨n,T,q,q1,q2,q3⟩
   ·left
    simp only [Int.natCast_zero] at q
    have h2 : ((-1 : Int) = (t.length : Nat)) = False := eq_false (by omega)
    rw [yDI,a91,xAf]
    simp (maxSteps := 30000000) (disch := first | assumption | omega | (simp only [WL,AV.isCell,xAe] <;> omega) | rfl | decide) only [WB,Nat.reduceSub,h0',↓reduceIte,e,h1,q,Int.reduceNeg,xA0,xAx,h2]
   ·simp only [Int.natCast_zero] at q
    by_cases c : n = t.length
    ·right
     refine ⟨?_,T,.inr ⟨h1,c ▸ q3⟩⟩
     have h2 : (((n : Nat) : Int) = (t.length : Nat)) = True := eq_true (by omega)
     rw [yDI,a91,xAf]
     simp (maxSteps := 30000000) (disch := first | assumption | omega | (simp only [WL,AV.isCell,xAe] <;> omega) | rfl | decide) only [WB,Nat.reduceSub,h0',↓reduceIte,e,h1,q,xA0,xAx,h2]
    ·left
     have h2 : (((n : Nat) : Int) = (t.length : Nat)) = False := eq_false (by omega)
     rw [yDI,a91,xAf]
     simp (maxSteps := 30000000) (disch := first | assumption | omega | (simp only [WL,AV.isCell,xAe] <;> omega) | rfl | decide) only [WB,Nat.reduceSub,h0',↓reduceIte,e,h1,q,xA0,xAx,h2]
  ·left
   rw [yDI,a91,xAf]
   simp (maxSteps := 30000000) (disch := first | assumption | omega | (simp only [WL,AV.isCell,xAe] <;> omega) | rfl | decide) only [WB,Nat.reduceSub,h0',↓reduceIte,e,h1]
theorem yJU (x : Nat) {v b : Nat} (h : v ≤ b) : Int.fdiv (x : Int) (2 ^ min v b) = ((x >>> v : Nat) : Int) := by
 rw [Nat.min_eq_left h,Nat.shiftRight_eq_div_pow,show (2 : Int) ^ v = ((2 ^ v : Nat) : Int) from by rw [Int.natCast_pow]; rfl,Int.fdiv_eq_ediv_of_nonneg _ (Int.natCast_nonneg _)]
 rfl
theorem xUj {z : Bool} {t : List Lf} {v : Nat} {s4 : AV} (hv : v ≤ 3) (hl : t.length < 1099511627776) (hx : ∀ e ∈ t,e.x < 256) : ∀ d i H,i + d = t.length →
  ∃ (H' : xAc) (i' : AV),(∀ e ∈ t.drop i,e.x >>> v = 0) ∧ L.loop xJ4 xWo ⟨xHk (tw z t) (.int .i64 (v : Nat)) s4 (tw z t) (.int .i64 (t.length : Nat)) (.int .i64 (i : Nat)),H⟩ = some (.exit 1,⟨xHk (tw z t) (.int .i64 (v : Nat)) s4 (tw z t) (.int .i64 (t.length : Nat)) (.int .i64 (t.length : Nat)),H'⟩)
   ∨ (¬ ∀ e ∈ t.drop i,e.x >>> v = 0) ∧ L.loop xJ4 xWo ⟨xHk (tw z t) (.int .i64 (v : Nat)) s4 (tw z t) (.int .i64 (t.length : Nat)) (.int .i64 (i : Nat)),H⟩ = some (.ret,⟨xHk (tw z t) (.int .i64 (v : Nat)) (.int .i64 1) (tw z t) (.int .i64 (t.length : Nat)) i',H'⟩)
 | 0,i,H,h => by
  obtain rfl : i = t.length := by omega
  refine ⟨H,.any,.inl ⟨by rw [List.drop_length]; simp,?_⟩⟩
  rw [xSs]
  simp (maxSteps := 30000000) (disch := first | assumption | omega | (simp only [WL,AV.isCell,xAe] <;> omega) | rfl | decide) only [xJ3,WB,↓reduceIte,xHl]
 | d + 1,i,H,h => by
  have hlt : (i : Int) < (t.length : Nat) := by omega
  have hm := hx _ (xGL (by omega : i < t.length))
  have hs := yJU (t.getD i f0).x (show v ≤ IntKind.i64.bits from by show v ≤ 64; omega)
  rw [xI5 (by omega : i < t.length)]
  by_cases c : (t.getD i f0).x >>> v = 0
  ·have c' : ((((t.getD i f0).x >>> v : Nat) : Int) = 0) = True := eq_true (by omega)
   obtain ⟨H',i',ih⟩ := xUj (z := z) (s4 := s4) hv hl hx d (i + 1) (H ++ [.cells false false (yBz (t.getD i f0))]) (by omega)
   simp only [yBz] at ih
   refine ⟨H',i',ih.imp (fun q => ⟨?_,?_⟩) (fun q => ⟨?_,?_⟩)⟩
   ·intro e he
    rcases List.mem_cons.1 he with rfl | he
    ·exact c
    ·exact q.1 e he
   ·have q := q.2
    rw [xSs]
    simp (maxSteps := 30000000) (disch := first | assumption | omega | (simp only [WL,AV.isCell,xAe] <;> omega) | rfl | decide) only [xJ3,WB,hlt,↓reduceIte,xUi,AV.cells,AV.isCell,Nat.reduceAdd,hs,c',xHl,q]
   ·intro f
    exact q.1 (fun e he => f e (List.mem_cons_of_mem _ he))
   ·have q := q.2
    rw [xSs]
    simp (maxSteps := 30000000) (disch := first | assumption | omega | (simp only [WL,AV.isCell,xAe] <;> omega) | rfl | decide) only [xJ3,WB,hlt,↓reduceIte,xUi,AV.cells,AV.isCell,Nat.reduceAdd,hs,c',xHl,q]
  ·have c' : ((((t.getD i f0).x >>> v : Nat) : Int) = 0) = False := eq_false (by omega)
   refine ⟨H ++ [.cells false false (yBz (t.getD i f0))],.int .i64 (i : Nat),.inr ⟨fun f => c (f _ (List.mem_cons_self ..)),?_⟩⟩
   rw [xSs]
   simp (maxSteps := 30000000) (disch := first | assumption | omega | (simp only [WL,AV.isCell,xAe] <;> omega) | rfl | decide) only [xJ3,WB,hlt,↓reduceIte,xUi,AV.cells,AV.isCell,Nat.reduceAdd,hs,c',xHl,yBz]
theorem xC0 {t : List Lf} {c : Int} {m n : Nat} {T : BT} (h : Sub t c m T n) : (c = -1 ∧ n = m ∧ T = .nil) ∨ (c = (m : Int) ∧ m < t.length) := by
 cases h with
 | none m => exact .inl ⟨rfl,rfl,rfl⟩
 | some hm _ _ => exact .inr ⟨rfl,hm⟩
theorem yGH {z : Bool} {t : List Lf} (ht : t.length < 1099511627776) {c : Int} {m n : Nat} {T : BT} (h : Sub t c m T n) : 0 ≤ c → L.pcall 114 [tw z t,.int .i64 (m : Nat)] = some (.int .i64 (n : Nat)) := by
 induction h with
 | none m => intro h; omega
 | @some m k n l r hm hl hr ihl ihr =>
  intro _
  have first : LP z t [] (t.getD m f0).l (t.getD m f0).r (.int .i64 0) ((m + 1 : Nat) : Int) 0 = LP z t [] (t.getD m f0).l (t.getD m f0).r (.int .i64 0) ((k : Nat) : Int) 1 := by
   rcases xC0 hl with ⟨e1,e2,_⟩ | ⟨e1,e2⟩
   ·subst e2
    exact yHn _ (.inl ⟨rfl,rfl⟩) e1
   ·exact yHo (m + 1) k (.inl ⟨rfl,rfl⟩) e1 e2 (ihl (by omega))
  have second : LP z t [] (t.getD m f0).l (t.getD m f0).r (.int .i64 0) ((k : Nat) : Int) 1 = LP z t [] (t.getD m f0).l (t.getD m f0).r (.int .i64 0) ((n : Nat) : Int) 2 := by
   rcases xC0 hr with ⟨e1,e2,_⟩ | ⟨e1,e2⟩
   ·subst e2
    exact yHn _ (.inr ⟨rfl,rfl⟩) e1
   ·exact yHo k n (.inr ⟨rfl,rfl⟩) e1 e2 (ihr (by omega))
  exact xMw ht hm (by rw [first,second]; exact yIr _)
open Classical in
noncomputable def xCq (t : List Lf) : Bool := decide (∃ T,Formed t T)
open Classical in
theorem formedB_iff {t : List Lf} : xCq t = true ↔ ∃ T,Formed t T := by unfold xCq; rw [decide_eq_true_eq]
theorem xVk (z : Bool) {t : List Lf} {T : BT} (ht : t.length < 1099511627776) (h : Formed t T) : L.pcall 91 [tw z t] = some (.bool true) := by
 have e : (((t.length : Nat) : Int) ≤ 31) = (t.length ≤ 31) := propext ⟨fun h => by omega,fun h => by omega⟩
 rcases h with ⟨rfl,rfl⟩ | ⟨h31,hS⟩
 ·have h0' : (((([] : List Lf).length : Nat) : Int) = 0) = True := eq_true (by simp)
  rw [yDI,a91,xAf]
  simp (maxSteps := 30000000) (disch := first | assumption | omega | (simp only [WL,AV.isCell,xAe] <;> omega) | rfl | decide) only [WB,Nat.reduceSub,↓reduceIte]
 ·have q := yGH (z := z) ht hS (by omega)
  have hpos : ¬ t.length = 0 := by
   intro h0
   rcases xC0 hS with ⟨h,_⟩ | ⟨_,h⟩ <;> omega
  have h0' : (((t.length : Nat) : Int) = 0) = False := eq_false (by omega)
  have h2 : (((t.length : Nat) : Int) = (t.length : Nat)) = True := eq_true rfl
  simp only [Int.natCast_zero] at q
  rw [yDI,a91,xAf]
  simp (maxSteps := 30000000) (disch := first | assumption | omega | (simp only [WL,AV.isCell,xAe] <;> omega) | rfl | decide) only [WB,Nat.reduceSub,h0',↓reduceIte,e,h31,q,xA0,xAx]
theorem xYU (z : Bool) (t : List Lf) (ht : t.length < 1099511627776) : L.pcall 91 [tw z t] = some (.bool (xCq t)) := by
 cases h : xCq t with
 | true =>
  obtain ⟨T,hT⟩ := formedB_iff.1 h
  exact xVk z ht hT
 | false =>
  rcases xYT z t ht with q | ⟨_,q⟩
  ·exact q
  ·rw [formedB_iff.2 q] at h; cases h
def xYV (t : List Lf) (v : Nat) : Bool := t.all fun e => decide (e.x >>> v = 0)
theorem labOk_iff {t : List Lf} {v : Nat} : xYV t v = true ↔ ∀ e ∈ t,e.x >>> v = 0 := by simp [xYV]
noncomputable def xCJ (t : List Lf) (v : Nat) : Int := if 31 < t.length then 4 else if xYV t v = true then (if xCq t = true then 0 else 2) else 1
theorem xYW (z : Bool) (t : List Lf) (v : Nat) (hv : v ≤ 3) (hl : t.length < 1099511627776) (hx : ∀ e ∈ t,e.x < 256) :
  L.pcall 99 [tw z t,.int .i64 (v : Nat)] = some (.int .i64 (xCJ t v)) := by
 have hv3 : ¬ ((3 : Int) < (v : Nat)) := by omega
 have e31 : ((31 : Int) < (t.length : Nat)) = (31 < t.length) := propext ⟨fun h => by omega,fun h => by omega⟩
 have q := xYU z t hl
 unfold xCJ
 by_cases c : 31 < t.length
 ·rw [if_pos c,yHe,a99,xAf]
  simp (maxSteps := 30000000) (disch := first | assumption | omega | (simp only [WL,AV.isCell,xAe] <;> omega) | rfl | decide) only [WB,Nat.reduceAdd,Nat.reduceSub,↓reduceIte,hv3,e31,c]
 ·rw [if_neg c]
  obtain ⟨H',i',g⟩ := xUj (z := z) (s4 := .int .i64 0) hv hl hx t.length 0 [] (by omega)
  simp only [Int.natCast_zero,List.drop_zero] at g
  rcases g with ⟨g1,g⟩ | ⟨g1,g⟩
  ·rw [if_pos (labOk_iff.2 g1)]
   cases hf : xCq t with
   | false =>
    rw [hf] at q
    rw [if_neg (by simp),yHe,a99,xAf]
    simp (maxSteps := 30000000) (disch := first | assumption | omega | (simp only [WL,AV.isCell,xAe] <;> omega) | rfl | decide) only [WB,Nat.reduceAdd,Nat.reduceSub,↓reduceIte,hv3,e31,c,xHl,g,q,xA0,xAx]
   | true =>
    rw [hf] at q
    rw [if_pos rfl,yHe,a99,xAf]
    simp (maxSteps := 30000000) (disch := first | assumption | omega | (simp only [WL,AV.isCell,xAe] <;> omega) | rfl | decide) only [WB,Nat.reduceAdd,Nat.reduceSub,↓reduceIte,hv3,e31,c,xHl,g,q,xA0,xAx]
  ·rw [if_neg (fun h => g1 (labOk_iff.1 h)),yHe,a99,xAf]
   simp (maxSteps := 30000000) (disch := first | assumption | omega | (simp only [WL,AV.isCell,xAe] <;> omega) | rfl | decide) only [WB,Nat.reduceAdd,Nat.reduceSub,↓reduceIte,hv3,e31,c,xHl,g]
theorem xLD {α β : Type} {f g : α → Option β} : ∀ {l : List α},(∀ a ∈ l,f a = g a) → l.mapM f = l.mapM g
 | [],_ => rfl
 | a :: l,h => by
  rw [List.mapM_cons,List.mapM_cons,h a (by simp),xLD (fun b hb => h b (by simp [hb]))]
theorem xCr {G G' : xAc} : ∀ (d : Nat) (v : AV),(∀ b ∈ bor d G v,G'[b]? = G[b]?) → frz d G' v = frz d G v ∧ bor d G' v = bor d G v := by
 intro d
 induction d with
 | zero =>
  intro v h
  cases v <;> first | exact ⟨rfl,rfl⟩ | (rename_i f caps; cases caps <;> exact ⟨rfl,rfl⟩)
 | succ d ih =>
  intro v h
  have many : ∀ cs : List AV,(∀ b ∈ cs.flatMap (bor d G),G'[b]? = G[b]?) → cs.mapM (frz d G') = cs.mapM (frz d G) ∧ cs.flatMap (bor d G') = cs.flatMap (bor d G) := by
   intro cs hcs
   refine ⟨xLD fun a ha => (ih a fun b hb => hcs b (List.mem_flatMap.2 ⟨a,ha,hb⟩)).1,?_⟩
   induction cs with
   | nil => rfl
   | cons c cs ih2 =>
    simp only [List.flatMap_cons] at hcs ⊢
    rw [(ih c fun b hb => hcs b (List.mem_append.2 (.inl hb))).2,ih2 fun b hb => hcs b (List.mem_append.2 (.inr hb))]
  cases v
  case own z id off n es =>
   have h0 := h id (by simp [bor])
   simp only [frz,bor,h0]
   cases hG : G[id]? with
   | none => simp
   | some bk =>
    cases bk with
    | dead => simp
    | mp es => simp
    | loop => simp
    | cells fz z' cs =>
     obtain ⟨m1,m2⟩ := many ((cs.drop off).take (n * es)) (fun b hb => h b (by simp only [bor,hG]; exact List.mem_cons_of_mem _ hb))
     simp [m1,m2]
  case ptr id off =>
   have h0 := h id (by simp [bor])
   simp only [frz,bor,h0]
   cases hG : G[id]? with
   | none => simp
   | some bk =>
    cases bk with
    | dead => simp
    | mp es => simp
    | loop => simp
    | cells fz z' cs =>
     obtain ⟨m1,m2⟩ := many cs (fun b hb => h b (by simp only [bor,hG]; exact List.mem_cons_of_mem _ hb))
     simp [m1,m2]
  case agg cs =>
   obtain ⟨m1,m2⟩ := many cs h
   simp [frz,bor,m1,m2]
  case tup cs =>
   obtain ⟨m1,m2⟩ := many cs h
   simp [frz,bor,m1,m2]
  case func f caps => cases caps <;> exact ⟨rfl,rfl⟩
  all_goals exact ⟨rfl,rfl⟩
def Fz (k : Nat) (G : xAc) (B : Nat) (v t : AV) : Prop := ∀ d,k ≤ d → frz d G v = some t ∧ ∀ b ∈ bor d G v,B ≤ b ∧ b < G.length
theorem Fz.frame {k B : Nat} {G G' : xAc} {v t : AV} (h : Fz k G B v t) (hl : G.length ≤ G'.length) (he : ∀ d,k ≤ d → ∀ b ∈ bor d G v,G'[b]? = G[b]?) : Fz k G' B v t := by
 intro d hd
 obtain ⟨h1,h2⟩ := h d hd
 obtain ⟨f1,f2⟩ := xCr d v (he d hd)
 exact ⟨f1.trans h1,fun b hb => by rw [f2] at hb; have := h2 b hb; omega⟩
theorem Fz.grow {k B : Nat} {G G' : xAc} {v t : AV} (h : Fz k G B v t) (hl : G.length ≤ G'.length) (he : ∀ b,B ≤ b → b < G.length → G'[b]? = G[b]?) : Fz k G' B v t :=
 h.frame hl fun d hd b hb => by have := (h d hd).2 b hb; exact he b this.1 this.2
theorem Fz.low {k B B' : Nat} {G : xAc} {v t : AV} (h : Fz k G B v t) (hb : B' ≤ B) : Fz k G B' v t :=
 fun d hd => ⟨(h d hd).1,fun b hb' => by have := (h d hd).2 b hb'; omega⟩
theorem Fz.data {G : xAc} {B : Nat} {v : AV} (h : xAX v = true) : Fz 0 G B v v := by
 intro d _
 cases v <;> simp [xAX] at h
 case func f caps =>
  cases caps with
  | nil => exact ⟨by cases d <;> rfl,fun b hb => by cases d <;> simp [bor] at hb⟩
  | cons => simp at h
 all_goals exact ⟨by cases d <;> rfl,fun b hb => by cases d <;> simp [bor] at hb⟩
theorem Fz.row {G : xAc} {B id es n : Nat} {cs : List AV} (hG : G[id]? = some (.cells false false cs)) (hd : cs.all xAX = true) (hn : cs.length = n * es) (hB : B ≤ id) : Fz 1 G B (.own false id 0 n es) (.sl false n cs) := by
 intro d hd1
 have hlt := (List.getElem?_eq_some_iff.1 hG).1
 obtain ⟨d,rfl⟩ : ∃ e,d = e + 1 := ⟨d - 1,by omega⟩
 have all : ∀ cs : List AV,cs.all xAX = true → cs.mapM (frz d G) = some cs ∧ cs.flatMap (bor d G) = [] := by
  intro cs h
  induction cs with
  | nil => exact ⟨rfl,rfl⟩
  | cons c cs ih =>
   simp only [List.all_cons,Bool.and_eq_true] at h
   obtain ⟨i1,i2⟩ := ih h.2
   obtain ⟨f1,f2⟩ := Fz.data (G := G) (B := G.length) h.1 d (Nat.zero_le _)
   have f3 : bor d G c = [] := by
    cases e : bor d G c with
    | nil => rfl
    | cons b l => have := f2 b (by rw [e]; simp); omega
   simp [List.mapM_cons,f1,i1,i2,f3]
 obtain ⟨a1,a2⟩ := all cs hd
 have htk : (cs.drop 0).take (n * es) = cs := by rw [List.drop_zero,List.take_of_length_le (by omega)]
 refine ⟨?_,fun b hb => ?_⟩
 ·simp only [frz,hG,htk,a1]
  rw [if_pos (by omega)]
  rfl
 ·simp only [bor,hG,htk,a2,List.mem_singleton] at hb
  subst hb
  exact ⟨hB,hlt⟩
theorem xGu {α β : Type} {f : α → Option β} : ∀ {l : List α} {r : List β},l.length = r.length → (∀ (i : Nat) (a : α) (b : β),l[i]? = some a → r[i]? = some b → f a = some b) → l.mapM f = some r
 | [],[],_,_ => rfl
 | [],_ :: _,h,_ => by simp at h
 | _ :: _,[],h,_ => by simp at h
 | a :: l,b :: r,h,hf => by
  have h0 := hf 0 a b rfl rfl
  have ih := xGu (f := f) (l := l) (r := r) (by simpa using h) (fun i x y h1 h2 => hf (i + 1) x y (by simpa using h1) (by simpa using h2))
  simp [List.mapM_cons,h0,ih]
def Grow (k : Nat) (G : xAc) (B : Nat) (v : AV) (ts : List AV) : Prop :=
 (ts = [] ∧ v = .sl true 0 []) ∨ ∃ id cs,v = .own false id 0 ts.length 1 ∧ G[id]? = some (.cells false false cs) ∧ B ≤ id ∧ cs.length = ts.length ∧
  ∀ (i : Nat) (c t : AV),cs[i]? = some c → ts[i]? = some t → Fz k G B c t ∧ ∀ d,k ≤ d → id ∉ bor d G c
theorem Grow.grow {k B : Nat} {G G' : xAc} {v : AV} {ts : List AV} (h : Grow k G B v ts) (hl : G.length ≤ G'.length) (he : ∀ b,B ≤ b → b < G.length → G'[b]? = G[b]?) : Grow k G' B v ts := by
 rcases h with h | ⟨id,cs,h1,h2,h3,h4,h5⟩
 ·exact .inl h
 ·have hlt := (List.getElem?_eq_some_iff.1 h2).1
  refine .inr ⟨id,cs,h1,by rw [he id h3 hlt]; exact h2,h3,h4,fun i c t hc ht => ?_⟩
  obtain ⟨g1,g2⟩ := h5 i c t hc ht
  refine ⟨g1.grow hl he,fun d hd hm => g2 d hd ?_⟩
  rw [(xCr d c (fun b hb => by have := (g1 d hd).2 b hb; exact he b this.1 this.2)).2] at hm
  exact hm
theorem Grow.fz {k B : Nat} {G : xAc} {v : AV} {ts : List AV} (h : Grow k G B v ts) : Fz (k + 1) G B v (.sl (ts.length == 0) ts.length ts) ∨ ts = [] := by
 rcases h with ⟨rfl,rfl⟩ | ⟨id,cs,rfl,h2,h3,h4,h5⟩
 ·exact .inr rfl
 ·by_cases h0 : ts = []
  ·exact .inr h0
  left
  have hz : (ts.length == 0) = false := by
   cases ts with
   | nil => exact absurd rfl h0
   | cons => rfl
  rw [hz]
  intro d hd
  have hlt := (List.getElem?_eq_some_iff.1 h2).1
  obtain ⟨d,rfl⟩ : ∃ e,d = e + 1 := ⟨d - 1,by omega⟩
  have htk : (cs.drop 0).take (ts.length * 1) = cs := by rw [List.drop_zero,List.take_of_length_le (by omega)]
  have hm := xGu (f := frz d G) h4 (fun i a b ha hb => ((h5 i a b ha hb).1 d (by omega)).1)
  refine ⟨?_,fun b hb => ?_⟩
  ·simp only [frz,h2,htk,hm]
   rw [if_pos (by omega)]
   rfl
  ·simp only [bor,h2,htk,List.mem_cons,List.mem_flatMap] at hb
   rcases hb with rfl | ⟨c,hc,hb⟩
   ·exact ⟨h3,hlt⟩
   ·obtain ⟨i,hi,e⟩ := List.mem_iff_getElem.1 hc
    have hc' : cs[i]? = some c := by rw [List.getElem?_eq_getElem hi,e]
    exact ((h5 i c _ hc' (List.getElem?_eq_getElem (by omega))).1 d (by omega)).2 b hb
theorem Grow.first {k B : Nat} {G : xAc} {c t : AV} (hc : Fz k G B c t) (hB : B ≤ G.length) : Grow k (G ++ [.cells false false [c]]) B (.own false G.length 0 1 1) [t] := by
 refine .inr ⟨G.length,[c],rfl,by simp,hB,rfl,fun i a b ha hb => ?_⟩
 have e : i = 0 := by
  cases i with
  | zero => rfl
  | succ i => simp at ha
 subst e
 simp at ha hb
 subst ha; subst hb
 have hext : ∀ b,b < G.length → (G ++ [Blk.cells false false [c]])[b]? = G[b]? := fun b hb => List.getElem?_append_left hb
 refine ⟨hc.grow (by simp) (fun b _ hb => hext b hb),fun d hd hm => ?_⟩
 rw [(xCr d c (fun b hb => hext b ((hc d hd).2 b hb).2)).2] at hm
 have := (hc d hd).2 _ hm
 omega
theorem Grow.push {k B id : Nat} {G : xAc} {ts cs : List AV} {c t : AV} (h2 : G[id]? = some (.cells false false cs)) (h3 : B ≤ id) (h4 : cs.length = ts.length)
  (h5 : ∀ (i : Nat) (c t : AV),cs[i]? = some c → ts[i]? = some t → Fz k G B c t ∧ ∀ d,k ≤ d → id ∉ bor d G c) (hc : Fz k G B c t) (hn : ∀ d,k ≤ d → id ∉ bor d G c) :
  Grow k (G.set id .dead ++ [.cells false false (cs ++ [c])]) B (.own false G.length 0 (ts.length + 1) 1) (ts ++ [t]) := by
 have hlt := (List.getElem?_eq_some_iff.1 h2).1
 refine .inr ⟨G.length,cs ++ [c],by simp,by rw [List.getElem?_append_right (by simp)]; simp,by omega,by simp [h4],fun i a b ha hb => ?_⟩
 have key : Fz k G B a b ∧ ∀ d,k ≤ d → id ∉ bor d G a := by
  by_cases hi : i < cs.length
  ·rw [List.getElem?_append_left hi] at ha
   rw [List.getElem?_append_left (by omega)] at hb
   exact h5 i a b ha hb
  ·rw [List.getElem?_append_right (by omega)] at ha
   rw [List.getElem?_append_right (by omega)] at hb
   have e : i - cs.length = 0 := by
    cases e : i - cs.length with
    | zero => rfl
    | succ j => rw [e] at ha; simp at ha
   rw [e] at ha
   rw [← h4,e] at hb
   simp at ha hb
   subst ha; subst hb
   exact ⟨hc,hn⟩
 obtain ⟨f1,f2⟩ := key
 have hext : ∀ d,k ≤ d → ∀ b ∈ bor d G a,(G.set id .dead ++ [Blk.cells false false (cs ++ [c])])[b]? = G[b]? := fun d hd b hb => by
  have := ((f1 d hd).2 b hb).2
  have hne : id ≠ b := by rintro rfl; exact f2 d hd hb
  rw [List.getElem?_append_left (by simpa using this),List.getElem?_set_ne hne]
 refine ⟨f1.frame (by simp) hext,fun d hd hm => ?_⟩
 rw [(xCr d a (hext d hd)).2] at hm
 have := ((f1 d hd).2 _ hm).2
 omega
structure Rw where
 z : Bool
 l : List Int
structure Rws where
 z : Bool
 l : List Rw
structure Dfa where
 vars : Int
 empty : Int
 z : Bool
 next : List Rws
 zf : Bool
 fin : List Bool
def r0 : Rw := ⟨true,[]⟩
def rr0 : Rws := ⟨true,[]⟩
def rwV (r : Rw) : AV := .sl r.z r.l.length (ints r.l)
def rwsV (r : Rws) : AV := .sl r.z r.l.length (r.l.map rwV)
def bools (l : List Bool) : List AV := l.map AV.bool
def Dfa.cells (d : Dfa) : List AV := [.int .i64 d.vars,.int .i64 d.empty,.sl d.z d.next.length (d.next.map rwsV),.sl d.zf d.fin.length (bools d.fin)]
def Dfa.av (d : Dfa) : AV := .agg d.cells
theorem xAr {α : Type} (f : α → AV) (a : α) {l : List α} {i : Nat} (h : i < l.length) : List.take 1 (List.drop i (l.map f)) = [f (l.getD i a)] := by
 rw [List.drop_eq_getElem_cons (by simpa using h)]
 simp [List.getD,List.getElem?_eq_getElem h]
theorem xQo {l : List Rw} {i : Nat} (h : i < l.length) : List.take 1 (List.drop i (l.map rwV)) = [rwV (l.getD i r0)] := xAr _ _ h
theorem xCs {l : List Rws} {i : Nat} (h : i < l.length) : List.take 1 (List.drop i (l.map rwsV)) = [rwsV (l.getD i rr0)] := xAr _ _ h
theorem xDN {l : List Bool} {i : Nat} (h : i < l.length) : List.take 1 (List.drop i (bools l)) = [AV.bool (l.getD i false)] := xAr _ _ h
theorem xAa (l : List Bool) : (bools l).length = l.length := List.length_map ..
theorem xBp (n : Nat) : xCD [AV.int .i64 0] n = ints (List.replicate n 0) := by
 induction n with
 | zero => rfl
 | succ n ih => simp [xCD,ih,ints,List.replicate_succ]
section
variable {d : Dfa} {n m l r k : Nat} {s4 s5 s7 : AV}
end
def TV0 (G : xAc) (v : AV) : Prop := v = .sl true 0 [] ∨ ∃ (id : Nat) (l : List Int),v = .own false id 0 l.length 1 ∧ G[id]? = some (.cells false false (ints l)) ∧ l.length < 1099511627776
def TVS (T : xAc → AV → Prop) (G : xAc) (v : AV) : Prop := v = .sl true 0 [] ∨ ∃ (id : Nat) (cs : List AV),v = .own false id 0 cs.length 1 ∧ G[id]? = some (.cells false false cs) ∧ cs.length < 1099511627776 ∧ ∀ c ∈ cs,T G c
def TV1 : xAc → AV → Prop := TVS TV0
def TV2 : xAc → AV → Prop := TVS TV1
def TB (G : xAc) (v : AV) : Prop := v = .sl true 0 [] ∨ ∃ (id : Nat) (l : List Bool),v = .own false id 0 l.length 1 ∧ G[id]? = some (.cells false false (bools l)) ∧ l.length < 1099511627776
theorem TV0.frame {d : Nat} {G G' : xAc} {v : AV} (h : TV0 G v) (hb : ∀ b ∈ bor (d + 1) G v,G'[b]? = G[b]?) : TV0 G' v := by
 rcases h with h | ⟨id,l,rfl,hg,hs⟩
 ·exact .inl h
 ·exact .inr ⟨id,l,rfl,by rw [hb id (by simp [bor])]; exact hg,hs⟩
theorem TB.frame {d : Nat} {G G' : xAc} {v : AV} (h : TB G v) (hb : ∀ b ∈ bor (d + 1) G v,G'[b]? = G[b]?) : TB G' v := by
 rcases h with h | ⟨id,l,rfl,hg,hs⟩
 ·exact .inl h
 ·exact .inr ⟨id,l,rfl,by rw [hb id (by simp [bor])]; exact hg,hs⟩
theorem TVS.frame {T : xAc → AV → Prop} {d : Nat} {G G' : xAc} {v : AV} (hT : ∀ c,T G c → (∀ b ∈ bor d G c,G'[b]? = G[b]?) → T G' c) (h : TVS T G v) (hb : ∀ b ∈ bor (d + 1) G v,G'[b]? = G[b]?) : TVS T G' v := by
 rcases h with h | ⟨id,cs,rfl,hg,hs,hc⟩
 ·exact .inl h
 ·have hin : ∀ c ∈ cs,∀ b ∈ bor d G c,b ∈ bor (d + 1) G (.own false id 0 cs.length 1) := fun c hc' b hb' => by
   simp only [bor,hg,List.drop_zero,Nat.mul_one,List.take_length,List.mem_cons,List.mem_flatMap]
   exact .inr ⟨c,hc',hb'⟩
  exact .inr ⟨id,cs,rfl,by rw [hb id (by simp [bor])]; exact hg,hs,fun c hc' => hT c (hc c hc') fun b hb' => hb b (hin c hc' b hb')⟩
theorem TV1.frame {d : Nat} {G G' : xAc} {v : AV} (h : TV1 G v) (hb : ∀ b ∈ bor (d + 2) G v,G'[b]? = G[b]?) : TV1 G' v := TVS.frame (fun c hc hb => hc.frame hb) h hb
theorem TV2.frame {d : Nat} {G G' : xAc} {v : AV} (h : TV2 G v) (hb : ∀ b ∈ bor (d + 3) G v,G'[b]? = G[b]?) : TV2 G' v := TVS.frame (fun c hc hb => TV1.frame hc hb) h hb
def Tw (G G' : xAc) : Prop := G'.length = G.length ∧ ∀ b : Nat,G'[b]? = G[b]? ∨ (∃ l l' : List Int,l.length = l'.length ∧ G[b]? = some (.cells false false (ints l)) ∧ G'[b]? = some (.cells false false (ints l'))) ∨
 ∃ l l' : List Bool,l.length = l'.length ∧ G[b]? = some (.cells false false (bools l)) ∧ G'[b]? = some (.cells false false (bools l'))
theorem Tw.refl (G : xAc) : Tw G G := ⟨rfl,fun _ => .inl rfl⟩
theorem yBA {l l' : List Int} (h : ints l = ints l') : l = l' := by
 unfold ints at h
 exact (List.map_inj_right (fun a b q => by cases q; rfl)).1 h
theorem xYX {l l' : List Bool} (h : bools l = bools l') : l = l' := by
 unfold bools at h
 exact (List.map_inj_right (fun a b q => by cases q; rfl)).1 h
theorem xLE {l : List Int} {l' : List Bool} (h : ints l = bools l') : l = [] ∧ l' = [] := by
 cases l with
 | nil => cases l' with
  | nil => exact ⟨rfl,rfl⟩
  | cons => simp [ints,bools] at h
 | cons => cases l' with
  | nil => simp [ints,bools] at h
  | cons => simp [ints,bools] at h
theorem xBV {a b : List AV} (h : (some (Blk.cells false false a)) = some (Blk.cells false false b)) : a = b := by
 injection h with h; injection h
theorem Tw.ints {G G' : xAc} (h : Tw G G') {b : Nat} {l : List Int} (hb : G[b]? = some (.cells false false (ints l))) : ∃ l',l'.length = l.length ∧ G'[b]? = some (.cells false false (Go.Abs.ints l')) := by
 rcases h.2 b with q | ⟨a,a',h1,h2,h3⟩ | ⟨a,a',h1,h2,h3⟩
 ·exact ⟨l,rfl,q.trans hb⟩
 ·have := yBA (xBV (hb.symm.trans h2))
  subst this
  exact ⟨a',h1.symm,h3⟩
 ·obtain ⟨rfl,rfl⟩ := xLE (xBV (hb.symm.trans h2))
  have : a' = [] := List.eq_nil_of_length_eq_zero (by simpa using h1.symm)
  subst this
  exact ⟨[],rfl,h3⟩
theorem Tw.bools {G G' : xAc} (h : Tw G G') {b : Nat} {l : List Bool} (hb : G[b]? = some (.cells false false (bools l))) : ∃ l',l'.length = l.length ∧ G'[b]? = some (.cells false false (Go.Abs.Det.bools l')) := by
 rcases h.2 b with q | ⟨a,a',h1,h2,h3⟩ | ⟨a,a',h1,h2,h3⟩
 ·exact ⟨l,rfl,q.trans hb⟩
 ·obtain ⟨rfl,rfl⟩ := xLE (xBV (h2.symm.trans hb))
  have : a' = [] := List.eq_nil_of_length_eq_zero (by simpa using h1.symm)
  subst this
  exact ⟨[],rfl,h3⟩
 ·have := xYX (xBV (hb.symm.trans h2))
  subst this
  exact ⟨a',h1.symm,h3⟩
def xFw : AV → Bool
 | .int _ _ | .bool _ => false
 | _ => true
theorem Tw.odd {G G' : xAc} (h : Tw G G') {b : Nat} {fz z : Bool} {cs : List AV} (hb : G[b]? = some (.cells fz z cs)) (ho : cs.any xFw = true) : G'[b]? = some (.cells fz z cs) := by
 have noI : ∀ l : List Int,(Go.Abs.ints l).any xFw = false := fun l => by
  rw [List.any_eq_false]
  intro a ha
  obtain ⟨x,_,rfl⟩ := List.mem_map.1 ha
  simp [xFw]
 have noB : ∀ l : List Bool,(Go.Abs.Det.bools l).any xFw = false := fun l => by
  rw [List.any_eq_false]
  intro a ha
  obtain ⟨x,_,rfl⟩ := List.mem_map.1 ha
  simp [xFw]
 rcases h.2 b with q | ⟨a,a',h1,h2,h3⟩ | ⟨a,a',h1,h2,h3⟩
 ·exact q.trans hb
 ·rw [hb] at h2
  injection h2 with h2; injection h2 with _ _ h2
  rw [h2,noI] at ho; cases ho
 ·rw [hb] at h2
  injection h2 with h2; injection h2 with _ _ h2
  rw [h2,noB] at ho; cases ho
theorem Tw.trans {G G' G2 : xAc} (h : Tw G G') (h2 : Tw G' G2) : Tw G G2 := by
 refine ⟨h2.1.trans h.1,fun b => ?_⟩
 rcases h.2 b with q | ⟨a,a',e1,e2,e3⟩ | ⟨a,a',e1,e2,e3⟩
 ·rcases h2.2 b with r | ⟨c,c',f1,f2,f3⟩ | ⟨c,c',f1,f2,f3⟩
  ·exact .inl (r.trans q)
  ·exact .inr (.inl ⟨c,c',f1,q.symm.trans f2,f3⟩)
  ·exact .inr (.inr ⟨c,c',f1,q.symm.trans f2,f3⟩)
 ·obtain ⟨l',f1,f2⟩ := h2.ints e3
  exact .inr (.inl ⟨a,l',e1.trans f1.symm,e2,f2⟩)
 ·obtain ⟨l',f1,f2⟩ := h2.bools e3
  exact .inr (.inr ⟨a,l',e1.trans f1.symm,e2,f2⟩)
theorem Tw.setI {G : xAc} {b : Nat} {l l' : List Int} (hb : G[b]? = some (.cells false false (Go.Abs.ints l))) (hl : l'.length = l.length) : Tw G (G.set b (.cells false false (Go.Abs.ints l'))) := by
 have hlt := (List.getElem?_eq_some_iff.1 hb).1
 refine ⟨by simp,fun c => ?_⟩
 by_cases e : c = b
 ·subst e
  exact .inr (.inl ⟨l,l',hl.symm,hb,List.getElem?_set_self hlt⟩)
 ·exact .inl (List.getElem?_set_ne (Ne.symm e))
theorem Tw.setB {G : xAc} {b : Nat} {l l' : List Bool} (hb : G[b]? = some (.cells false false (Go.Abs.Det.bools l))) (hl : l'.length = l.length) : Tw G (G.set b (.cells false false (Go.Abs.Det.bools l'))) := by
 have hlt := (List.getElem?_eq_some_iff.1 hb).1
 refine ⟨by simp,fun c => ?_⟩
 by_cases e : c = b
 ·subst e
  exact .inr (.inr ⟨l,l',hl.symm,hb,List.getElem?_set_self hlt⟩)
 ·exact .inl (List.getElem?_set_ne (Ne.symm e))
theorem TV0.tw {G G' : xAc} {v : AV} (h : TV0 G v) (ht : Tw G G') : TV0 G' v := by
 rcases h with h | ⟨id,l,rfl,hg,hs⟩
 ·exact .inl h
 ·obtain ⟨l',h1,h2⟩ := ht.ints hg
  exact .inr ⟨id,l',by rw [h1],h2,by rw [h1]; exact hs⟩
theorem TB.tw {G G' : xAc} {v : AV} (h : TB G v) (ht : Tw G G') : TB G' v := by
 rcases h with h | ⟨id,l,rfl,hg,hs⟩
 ·exact .inl h
 ·obtain ⟨l',h1,h2⟩ := ht.bools hg
  exact .inr ⟨id,l',by rw [h1],h2,by rw [h1]; exact hs⟩
theorem TV0.odd {G : xAc} {v : AV} (h : TV0 G v) : xFw v = true := by
 rcases h with rfl | ⟨id,l,rfl,_⟩ <;> rfl
theorem TVS.odd {T : xAc → AV → Prop} {G : xAc} {v : AV} (h : TVS T G v) : xFw v = true := by
 rcases h with rfl | ⟨id,l,rfl,_⟩ <;> rfl
theorem TVS.tw {T : xAc → AV → Prop} {G G' : xAc} {v : AV} (h : TVS T G v) (ht : Tw G G') (ho : ∀ c,T G c → xFw c = true) (hT : ∀ c,T G c → T G' c) : TVS T G' v := by
 rcases h with h | ⟨id,cs,rfl,hg,hs,hc⟩
 ·exact .inl h
 ·refine .inr ⟨id,cs,rfl,?_,hs,fun c hc' => hT c (hc c hc')⟩
  cases cs with
  | nil =>
   obtain ⟨l',h1,h2⟩ := ht.ints (l := []) hg
   have : l' = [] := List.eq_nil_of_length_eq_zero (by simpa using h1)
   subst this
   exact h2
  | cons c cs => exact ht.odd hg (by rw [List.any_cons,ho c (hc c (by simp)),Bool.true_or])
theorem TV1.tw {G G' : xAc} {v : AV} (h : TV1 G v) (ht : Tw G G') : TV1 G' v := TVS.tw h ht (fun c hc => hc.odd) (fun c hc => hc.tw ht)
theorem TV2.tw {G G' : xAc} {v : AV} (h : TV2 G v) (ht : Tw G G') : TV2 G' v := TVS.tw h ht (fun c hc => TVS.odd hc) (fun c hc => TV1.tw hc ht)
theorem xFm (L : Nat) (l : List Int) : (ints l).map (xAK L) = ints l := by
 unfold ints; rw [List.map_map]; rfl
theorem xVl (L : Nat) (l : List Bool) : (bools l).map (xAK L) = bools l := by
 unfold bools; rw [List.map_map]; rfl
theorem xD4 (l : List Int) : (ints l).all xGy = true := by
 rw [List.all_eq_true]; intro a ha; obtain ⟨x,_,rfl⟩ := List.mem_map.1 ha; rfl
theorem xQp (l : List Bool) : (bools l).all xGy = true := by
 rw [List.all_eq_true]; intro a ha; obtain ⟨x,_,rfl⟩ := List.mem_map.1 ha; rfl
theorem xDe {H B T' : xAc} {id : Nat} {fz z : Bool} {cs : List AV} (h : B[id]? = some (.cells fz z cs)) (hr : cs.all xGy = true) : (H ++ (B.map (xAP H.length) ++ T'))[H.length + id]? = some (.cells fz z (cs.map (xAK H.length))) := by
 have hl := (List.getElem?_eq_some_iff.1 h).1
 rw [List.getElem?_append_right (by omega),Nat.add_sub_cancel_left,List.getElem?_append_left (by simpa using hl),List.getElem?_map,h]
 simp only [Option.map_some,xAP,hr,if_true]
theorem TV0.rel {G : xAc} {v : AV} (h : TV0 G v) : xGy v = true := by rcases h with rfl | ⟨id,l,rfl,_⟩ <;> rfl
theorem TVS.rel {T : xAc → AV → Prop} {G : xAc} {v : AV} (h : TVS T G v) : xGy v = true := by rcases h with rfl | ⟨id,l,rfl,_⟩ <;> rfl
theorem TB.rel {G : xAc} {v : AV} (h : TB G v) : xGy v = true := by rcases h with rfl | ⟨id,l,rfl,_⟩ <;> rfl
theorem TV0.lift {H B T' : xAc} {v : AV} (h : TV0 B v) : TV0 (H ++ (B.map (xAP H.length) ++ T')) (xAK H.length v) := by
 rcases h with rfl | ⟨id,l,rfl,hg,hs⟩
 ·exact .inl rfl
 ·exact .inr ⟨H.length + id,l,rfl,by rw [xDe hg (xD4 l),xFm],hs⟩
theorem TB.lift {H B T' : xAc} {v : AV} (h : TB B v) : TB (H ++ (B.map (xAP H.length) ++ T')) (xAK H.length v) := by
 rcases h with rfl | ⟨id,l,rfl,hg,hs⟩
 ·exact .inl rfl
 ·exact .inr ⟨H.length + id,l,rfl,by rw [xDe hg (xQp l),xVl],hs⟩
theorem TVS.lift {T : xAc → AV → Prop} {H B T' : xAc} {v : AV} (hr : ∀ c,T B c → xGy c = true) (hT : ∀ c,T B c → T (H ++ (B.map (xAP H.length) ++ T')) (xAK H.length c)) (h : TVS T B v) : TVS T (H ++ (B.map (xAP H.length) ++ T')) (xAK H.length v) := by
 rcases h with rfl | ⟨id,cs,rfl,hg,hs,hc⟩
 ·exact .inl rfl
 ·refine .inr ⟨H.length + id,cs.map (xAK H.length),by rw [List.length_map]; rfl,xDe hg (List.all_eq_true.2 fun c h => hr c (hc c h)),by rw [List.length_map]; exact hs,fun c hc' => ?_⟩
  obtain ⟨a,ha,rfl⟩ := List.mem_map.1 hc'
  exact hT a (hc a ha)
theorem TV1.lift {H B T' : xAc} {v : AV} (h : TV1 B v) : TV1 (H ++ (B.map (xAP H.length) ++ T')) (xAK H.length v) := TVS.lift (fun c hc => hc.rel) (fun c hc => hc.lift) h
theorem TV2.lift {H B T' : xAc} {v : AV} (h : TV2 B v) : TV2 (H ++ (B.map (xAP H.length) ++ T')) (xAK H.length v) := TVS.lift (fun c hc => TVS.rel hc) (fun c hc => TV1.lift hc) h
theorem xGM {H B T' : xAc} {d id n : Nat} {z' : Bool} {cs : List AV} {t : AV} (hg : B[id]? = some (.cells false z' cs)) (hr : cs.all xGy = true) (hm : ∀ c ∈ cs,∀ t,frz d B c = some t → frz d (H ++ (B.map (xAP H.length) ++ T')) (xAK H.length c) = some t)
  (h : frz (d + 1) B (.own false id 0 n 1) = some t) : frz (d + 1) (H ++ (B.map (xAP H.length) ++ T')) (xAK H.length (.own false id 0 n 1)) = some t := by
 have many : ∀ cs' ts : List AV,(∀ c ∈ cs',c ∈ cs) → cs'.mapM (frz d B) = some ts → (cs'.map (xAK H.length)).mapM (frz d (H ++ (B.map (xAP H.length) ++ T'))) = some ts := by
  intro cs'
  induction cs' with
  | nil => intro ts _ h; exact h
  | cons c cs' ih2 =>
   intro ts hin h
   rw [List.mapM_cons] at h
   rw [List.map_cons,List.mapM_cons]
   cases h1 : frz d B c with
   | none => rw [h1] at h; simp at h
   | some t1 =>
    rw [h1] at h
    cases h2 : cs'.mapM (frz d B) with
    | none => rw [h2] at h; simp at h
    | some t2 =>
     rw [h2] at h
     rw [hm c (hin c (by simp)) t1 h1,ih2 t2 (fun x hx => hin x (by simp [hx])) h2]
     exact h
 simp only [frz,hg] at h
 split at h
 case isFalse => cases h
 rename_i hle
 simp only [Option.map_eq_some_iff] at h
 obtain ⟨ts,h1,rfl⟩ := h
 have htake : ((cs.map (xAK H.length)).drop 0).take (n * 1) = (((cs.drop 0).take (n * 1)).map (xAK H.length)) := by rw [← List.map_drop,← List.map_take]
 show frz (d + 1) _ (.own false (H.length + id) 0 n 1) = _
 simp only [frz,xDe hg hr,List.length_map]
 rw [if_pos hle,htake,many _ _ (fun c hc => List.mem_of_mem_drop (List.mem_of_mem_take hc)) h1]
 rfl
theorem xI6 {d : Nat} {G G' : xAc} {t : AV} (h : frz d G (.sl true 0 []) = some t) : frz d G' (.sl true 0 []) = some t := by cases d <;> exact h
theorem xMx {d : Nat} {G G' : xAc} {L : Nat} {c t : AV} (hc : (∃ n,c = .int .i64 n) ∨ ∃ b,c = .bool b) (h : frz d G c = some t) : frz d G' (xAK L c) = some t := by
 rcases hc with ⟨n,rfl⟩ | ⟨b,rfl⟩ <;> cases d <;> exact h
theorem TV0.frzl {H B T' : xAc} {v t : AV} {d : Nat} (h : TV0 B v) (hf : frz d B v = some t) : frz d (H ++ (B.map (xAP H.length) ++ T')) (xAK H.length v) = some t := by
 rcases h with rfl | ⟨id,l,rfl,hg,hs⟩
 ·exact xI6 hf
 ·cases d with
  | zero => cases hf
  | succ d => exact xGM hg (xD4 l) (fun c hc t ht => xMx (.inl (by obtain ⟨x,_,rfl⟩ := List.mem_map.1 hc; exact ⟨x,rfl⟩)) ht) hf
theorem TB.frzl {H B T' : xAc} {v t : AV} {d : Nat} (h : TB B v) (hf : frz d B v = some t) : frz d (H ++ (B.map (xAP H.length) ++ T')) (xAK H.length v) = some t := by
 rcases h with rfl | ⟨id,l,rfl,hg,hs⟩
 ·exact xI6 hf
 ·cases d with
  | zero => cases hf
  | succ d => exact xGM hg (xQp l) (fun c hc t ht => xMx (.inr (by obtain ⟨x,_,rfl⟩ := List.mem_map.1 hc; exact ⟨x,rfl⟩)) ht) hf
theorem TVS.frzl {T : xAc → AV → Prop} {H B T' : xAc} (hr : ∀ c,T B c → xGy c = true) (hT : ∀ (d : Nat) (c t : AV),T B c → frz d B c = some t → frz d (H ++ (B.map (xAP H.length) ++ T')) (xAK H.length c) = some t) {v t : AV} {d : Nat} (h : TVS T B v) (hf : frz d B v = some t) : frz d (H ++ (B.map (xAP H.length) ++ T')) (xAK H.length v) = some t := by
 rcases h with rfl | ⟨id,cs,rfl,hg,hs,hc⟩
 ·exact xI6 hf
 ·cases d with
  | zero => cases hf
  | succ d => exact xGM hg (List.all_eq_true.2 fun c h => hr c (hc c h)) (fun c hc' t ht => hT d c t (hc c hc') ht) hf
theorem TV1.frzl {H B T' : xAc} {v t : AV} {d : Nat} (h : TV1 B v) (hf : frz d B v = some t) : frz d (H ++ (B.map (xAP H.length) ++ T')) (xAK H.length v) = some t := TVS.frzl (fun c hc => hc.rel) (fun d c t hc ht => hc.frzl ht) h hf
theorem TV2.frzl {H B T' : xAc} {v t : AV} {d : Nat} (h : TV2 B v) (hf : frz d B v = some t) : frz d (H ++ (B.map (xAP H.length) ++ T')) (xAK H.length v) = some t := TVS.frzl (fun c hc => TVS.rel hc) (fun d c t hc ht => TV1.frzl hc ht) h hf
def rowT (l : List Int) : AV := .sl false l.length (ints l)
theorem xC1 (l : List Int) : (ints l).all xAX = true := by
 induction l with
 | nil => rfl
 | cons a l ih => simp [ints,xAX]
section
variable {d : Dfa} {n m l B : Nat} {v2 : Int} {c1 c2 c3 : AV}
end
theorem xI7 {id : Nat} : ∀ d i (l : List Int) (G : xAc),i + d = l.length → l.length < 1099511627776 → G[id]? = some (.cells false false (ints l)) →
  ∃ l',l'.length = l.length ∧ L.loop xG2 xUH ⟨xEK (.own false id 0 l.length 1) (.int .i64 (i : Nat)),G⟩ = some (.exit 0,⟨xEK (.own false id 0 l.length 1) (.int .i64 (l.length : Nat)),G.set id (.cells false false (ints l'))⟩)
 | 0,i,l,G,h,hl,hG => by
  obtain rfl : i = l.length := by omega
  refine ⟨l,rfl,?_⟩
  have hs : G.set id (.cells false false (ints l)) = G := by
   obtain ⟨h1,h2⟩ := List.getElem?_eq_some_iff.1 hG
   rw [← h2,List.set_getElem_self]
  rw [hs,xNk]
  simp (maxSteps := 30000000) (disch := first | assumption | omega | (simp only [WL,AV.isCell,xAa] <;> omega) | rfl | decide) only [xG1,Int.reduceNeg,WB,↓reduceIte,xF4]
 | d + 1,i,l,G,h,hl,hG => by
  have hlt : (i : Int) < (l.length : Nat) := by omega
  have hlen := (List.getElem?_eq_some_iff.1 hG).1
  obtain ⟨l',h1,ih⟩ := xI7 (id := id) d (i + 1) (l.set i (-77)) (G.set id (.cells false false (ints (l.set i (-77))))) (by rw [List.length_set]; omega) (by rw [List.length_set]; exact hl) (List.getElem?_set_self hlen)
  rw [List.length_set] at h1 ih
  rw [List.set_set] at ih
  refine ⟨l',h1,?_⟩
  have hi : i < l.length := by omega
  rw [xNk]
  simp (maxSteps := 30000000) (disch := first | assumption | omega | (simp only [WL,AV.isCell,xAa] <;> omega) | rfl | decide) only [xG1,Int.reduceNeg,WB,hlt,↓reduceIte,AV.cells,hG,W2,xF4,ih]
theorem xUk {G : xAc} {v : AV} (h : TV0 G v) : ∃ G',L.icall (.func 32 []) [v] G = some (.tup [],G') ∧ Tw G G' := by
 rcases h with rfl | ⟨id,l,rfl,hg,hs⟩
 ·refine ⟨G,?_,Tw.refl G⟩
  have hl : L.loop xG2 xUH ⟨xEK (.sl true 0 []) (.int .i64 0),G⟩ = some (.exit 0,⟨xEK (.sl true 0 []) (.int .i64 0),G⟩) := by
   rw [xNk]
   simp (maxSteps := 30000000) (disch := first | assumption | omega | (simp only [WL,AV.isCell,xAa] <;> omega) | rfl | decide) only [xG1,Int.reduceNeg,WB,↓reduceIte,xF4]
  rw [yHM,a32]
  simp (maxSteps := 30000000) (disch := first | assumption | omega | (simp only [WL,AV.isCell,xAa] <;> omega) | rfl | decide) only [WB,Nat.reduceSub,xF4,hl,↓reduceIte]
 ·obtain ⟨l',h1,h2⟩ := xI7 (id := id) l.length 0 l G (by omega) hs hg
  simp only [Int.natCast_zero] at h2
  refine ⟨_,?_,Tw.setI hg h1⟩
  rw [yHM,a32]
  simp (maxSteps := 30000000) (disch := first | assumption | omega | (simp only [WL,AV.isCell,xAa] <;> omega) | rfl | decide) only [WB,Nat.reduceSub,xF4,h2,↓reduceIte]
theorem xI8 {id : Nat} {cs : List AV} (hl : cs.length < 1099511627776) : ∀ d i (G : xAc),i + d = cs.length → G[id]? = some (.cells false false cs) → (∀ c ∈ cs,TV0 G c) →
  ∃ G',L.loop xJL xVS ⟨xG3 (.own false id 0 cs.length 1) (.int .i64 (i : Nat)),G⟩ = some (.exit 0,⟨xG3 (.own false id 0 cs.length 1) (.int .i64 (cs.length : Nat)),G'⟩) ∧ Tw G G'
 | 0,i,G,h,hG,hc => by
  obtain rfl : i = cs.length := by omega
  refine ⟨G,?_,Tw.refl G⟩
  rw [xVT]
  simp (maxSteps := 30000000) (disch := first | assumption | omega | (simp only [WL,AV.isCell,xAa] <;> omega) | rfl | decide) only [xJK,WB,↓reduceIte,xJM]
 | d + 1,i,G,h,hG,hc => by
  have hlt : (i : Int) < (cs.length : Nat) := by omega
  have hi : i < cs.length := by omega
  have c1 := hc _ (List.getElem_mem hi)
  obtain ⟨G1,e1,e2⟩ := xUk c1
  have hodd : cs.any xFw = true := by rw [List.any_eq_true]; exact ⟨_,List.getElem_mem hi,TV0.odd c1⟩
  obtain ⟨G',r1,r2⟩ := xI8 (id := id) hl d (i + 1) G1 (by omega) (e2.odd hG hodd) (fun c hc' => TV0.tw (hc c hc') e2)
  refine ⟨G',?_,e2.trans r2⟩
  have gc : List.take 1 (List.drop i cs) = [cs[i]] := by rw [List.drop_eq_getElem_cons hi]; rfl
  rw [xVT]
  rcases c1 with e | ⟨k,l,e,_⟩
  ·rw [e] at gc e1
   simp (maxSteps := 30000000) (disch := first | assumption | omega | (simp only [WL,AV.isCell,xAa] <;> omega) | rfl | decide) only [xJK,WB,hlt,↓reduceIte,hG,gc,e1,xJM,r1]
  ·rw [e] at gc e1
   simp (maxSteps := 30000000) (disch := first | assumption | omega | (simp only [WL,AV.isCell,xAa] <;> omega) | rfl | decide) only [xJK,WB,hlt,↓reduceIte,hG,gc,e1,xJM,r1]
theorem yGI {G : xAc} {v : AV} (h : TV1 G v) : ∃ G',L.icall (.func 40 []) [v] G = some (.tup [],G') ∧ Tw G G' := by
 rcases h with rfl | ⟨id,cs,rfl,hg,hs,hc⟩
 ·refine ⟨G,?_,Tw.refl G⟩
  have hl : L.loop xJL xVS ⟨xG3 (.sl true 0 []) (.int .i64 0),G⟩ = some (.exit 0,⟨xG3 (.sl true 0 []) (.int .i64 0),G⟩) := by
   rw [xVT]
   simp (maxSteps := 30000000) (disch := first | assumption | omega | (simp only [WL,AV.isCell,xAa] <;> omega) | rfl | decide) only [xJK,WB,↓reduceIte,xJM]
  rw [yIP,a40]
  simp (maxSteps := 30000000) (disch := first | assumption | omega | (simp only [WL,AV.isCell,xAa] <;> omega) | rfl | decide) only [WB,Nat.reduceSub,xJM,hl,↓reduceIte]
 ·obtain ⟨G',h1,h2⟩ := xI8 (id := id) hs cs.length 0 G (by omega) hg hc
  simp only [Int.natCast_zero] at h1
  refine ⟨_,?_,h2⟩
  rw [yIP,a40]
  simp (maxSteps := 30000000) (disch := first | assumption | omega | (simp only [WL,AV.isCell,xAa] <;> omega) | rfl | decide) only [WB,Nat.reduceSub,xJM,h1,↓reduceIte]
theorem xI9 {id : Nat} {cs : List AV} (hl : cs.length < 1099511627776) : ∀ d i (G : xAc),i + d = cs.length → G[id]? = some (.cells false false cs) → (∀ c ∈ cs,TV1 G c) →
  ∃ G',L.loop xJY xWg ⟨xHd (.own false id 0 cs.length 1) (.int .i64 (i : Nat)),G⟩ = some (.exit 0,⟨xHd (.own false id 0 cs.length 1) (.int .i64 (cs.length : Nat)),G'⟩) ∧ Tw G G'
 | 0,i,G,h,hG,hc => by
  obtain rfl : i = cs.length := by omega
  refine ⟨G,?_,Tw.refl G⟩
  rw [xWh]
  simp (maxSteps := 30000000) (disch := first | assumption | omega | (simp only [WL,AV.isCell,xAa] <;> omega) | rfl | decide) only [xJX,WB,↓reduceIte,xJZ]
 | d + 1,i,G,h,hG,hc => by
  have hlt : (i : Int) < (cs.length : Nat) := by omega
  have hi : i < cs.length := by omega
  have c1 := hc _ (List.getElem_mem hi)
  obtain ⟨G1,e1,e2⟩ := yGI c1
  have hodd : cs.any xFw = true := by rw [List.any_eq_true]; exact ⟨_,List.getElem_mem hi,TVS.odd c1⟩
  obtain ⟨G',r1,r2⟩ := xI9 (id := id) hl d (i + 1) G1 (by omega) (e2.odd hG hodd) (fun c hc' => TV1.tw (hc c hc') e2)
  refine ⟨G',?_,e2.trans r2⟩
  have gc : List.take 1 (List.drop i cs) = [cs[i]] := by rw [List.drop_eq_getElem_cons hi]; rfl
  rw [xWh]
  rcases c1 with e | ⟨k,l,e,_⟩
  ·rw [e] at gc e1
   simp (maxSteps := 30000000) (disch := first | assumption | omega | (simp only [WL,AV.isCell,xAa] <;> omega) | rfl | decide) only [xJX,WB,hlt,↓reduceIte,hG,gc,e1,xJZ,r1]
  ·rw [e] at gc e1
   simp (maxSteps := 30000000) (disch := first | assumption | omega | (simp only [WL,AV.isCell,xAa] <;> omega) | rfl | decide) only [xJX,WB,hlt,↓reduceIte,hG,gc,e1,xJZ,r1]
theorem yGJ {G : xAc} {v : AV} (h : TV2 G v) : ∃ G',L.icall (.func 69 []) [v] G = some (.tup [],G') ∧ Tw G G' := by
 rcases h with rfl | ⟨id,cs,rfl,hg,hs,hc⟩
 ·refine ⟨G,?_,Tw.refl G⟩
  have hl : L.loop xJY xWg ⟨xHd (.sl true 0 []) (.int .i64 0),G⟩ = some (.exit 0,⟨xHd (.sl true 0 []) (.int .i64 0),G⟩) := by
   rw [xWh]
   simp (maxSteps := 30000000) (disch := first | assumption | omega | (simp only [WL,AV.isCell,xAa] <;> omega) | rfl | decide) only [xJX,WB,↓reduceIte,xJZ]
  rw [yIQ,a69]
  simp (maxSteps := 30000000) (disch := first | assumption | omega | (simp only [WL,AV.isCell,xAa] <;> omega) | rfl | decide) only [WB,Nat.reduceSub,xJZ,hl,↓reduceIte]
 ·obtain ⟨G',h1,h2⟩ := xI9 (id := id) hs cs.length 0 G (by omega) hg hc
  simp only [Int.natCast_zero] at h1
  refine ⟨_,?_,h2⟩
  rw [yIQ,a69]
  simp (maxSteps := 30000000) (disch := first | assumption | omega | (simp only [WL,AV.isCell,xAa] <;> omega) | rfl | decide) only [WB,Nat.reduceSub,xJZ,h1,↓reduceIte]
theorem xJa {id : Nat} : ∀ d i (l : List Bool) (G : xAc),i + d = l.length → l.length < 1099511627776 → G[id]? = some (.cells false false (bools l)) →
  ∃ l',l'.length = l.length ∧ L.loop xJ0 xWi ⟨xHe (.own false id 0 l.length 1) (.int .i64 (i : Nat)),G⟩ = some (.exit 0,⟨xHe (.own false id 0 l.length 1) (.int .i64 (l.length : Nat)),G.set id (.cells false false (bools l'))⟩)
 | 0,i,l,G,h,hl,hG => by
  obtain rfl : i = l.length := by omega
  refine ⟨l,rfl,?_⟩
  have hs : G.set id (.cells false false (bools l)) = G := by
   obtain ⟨h1,h2⟩ := List.getElem?_eq_some_iff.1 hG
   rw [← h2,List.set_getElem_self]
  rw [hs,xWj]
  simp (maxSteps := 30000000) (disch := first | assumption | omega | (simp only [WL,AV.isCell,xAa] <;> omega) | rfl | decide) only [xN8,WB,↓reduceIte,xN9]
 | d + 1,i,l,G,h,hl,hG => by
  have hlt : (i : Int) < (l.length : Nat) := by omega
  have hlen := (List.getElem?_eq_some_iff.1 hG).1
  have hi : i < l.length := by omega
  have gb : List.take 1 (List.drop i (bools l)) = [.bool (l.getD i false)] := xDN hi
  obtain ⟨l',h1,ih⟩ := xJa (id := id) d (i + 1) (l.set i (!l.getD i false)) (G.set id (.cells false false (bools (l.set i (!l.getD i false))))) (by rw [List.length_set]; omega) (by rw [List.length_set]; exact hl) (List.getElem?_set_self hlen)
  rw [List.length_set] at h1 ih
  rw [List.set_set] at ih
  refine ⟨l',h1,?_⟩
  have hput : List.take i (bools l) ++ AV.bool (!l.getD i false) :: List.drop (i + 1) (bools l) = bools (l.set i (!l.getD i false)) := by
   unfold bools
   rw [List.map_set,List.set_eq_take_append_cons_drop,if_pos (by rw [List.length_map]; exact hi)]
  rw [xWj]
  simp (maxSteps := 30000000) (disch := first | assumption | omega | (simp only [WL,AV.isCell,xAa] <;> omega) | rfl | decide) only [xN8,WB,hlt,↓reduceIte,hG,gb,AV.cells,hput,xN9,ih]
theorem yGK {G : xAc} {v : AV} (h : TB G v) : ∃ G',L.icall (.func 70 []) [v] G = some (.tup [],G') ∧ Tw G G' := by
 rcases h with rfl | ⟨id,l,rfl,hg,hs⟩
 ·refine ⟨G,?_,Tw.refl G⟩
  have hl : L.loop xJ0 xWi ⟨xHe (.sl true 0 []) (.int .i64 0),G⟩ = some (.exit 0,⟨xHe (.sl true 0 []) (.int .i64 0),G⟩) := by
   rw [xWj]
   simp (maxSteps := 30000000) (disch := first | assumption | omega | (simp only [WL,AV.isCell,xAa] <;> omega) | rfl | decide) only [xN8,WB,↓reduceIte,xN9]
  rw [yIR,a70]
  simp (maxSteps := 30000000) (disch := first | assumption | omega | (simp only [WL,AV.isCell,xAa] <;> omega) | rfl | decide) only [WB,Nat.reduceSub,xN9,hl,↓reduceIte]
 ·obtain ⟨l',h1,h2⟩ := xJa (id := id) l.length 0 l G (by omega) hs hg
  simp only [Int.natCast_zero] at h2
  refine ⟨_,?_,Tw.setB hg h1⟩
  rw [yIR,a70]
  simp (maxSteps := 30000000) (disch := first | assumption | omega | (simp only [WL,AV.isCell,xAa] <;> omega) | rfl | decide) only [WB,Nat.reduceSub,xN9,h2,↓reduceIte]
theorem TVS.cell {T : xAc → AV → Prop} {G : xAc} {v : AV} (h : TVS T G v) : v = .sl true 0 [] ∨ ∃ id n,v = .own false id 0 n 1 := by
 rcases h with h | ⟨id,cs,h,_⟩
 ·exact .inl h
 ·exact .inr ⟨id,_,h⟩
theorem TB.cell {G : xAc} {v : AV} (h : TB G v) : v = .sl true 0 [] ∨ ∃ id n,v = .own false id 0 n 1 := by
 rcases h with h | ⟨id,cs,h,_⟩
 ·exact .inl h
 ·exact .inr ⟨id,_,h⟩
theorem Tw.appOdd {G G' : xAc} {cs : List AV} (h : Tw (G ++ [.cells false false cs]) G') (ho : cs.any xFw = true) : ∃ G2,G' = G2 ++ [.cells false false cs] ∧ Tw G G2 := by
 have hl := h.1
 rw [List.length_append,List.length_cons,List.length_nil] at hl
 have hlast : G'[G.length]? = some (.cells false false cs) := h.odd (by simp) ho
 refine ⟨G'.take G.length,?_,by rw [List.length_take]; omega,fun b => ?_⟩
 ·refine List.ext_getElem? fun i => ?_
  by_cases hi : i < G.length
  ·rw [List.getElem?_append_left (by rw [List.length_take]; omega),List.getElem?_take_of_lt hi]
  ·rw [List.getElem?_append_right (by rw [List.length_take]; omega),List.length_take]
   by_cases e : i = G.length
   ·subst e; rw [hlast,show G.length - min G.length G'.length = 0 by omega]; rfl
   ·rw [List.getElem?_eq_none (by omega),List.getElem?_eq_none (by simp; omega)]
 ·by_cases hi : b < G.length
  ·rw [List.getElem?_take_of_lt hi]
   have := h.2 b
   rw [List.getElem?_append_left hi] at this
   exact this
  ·exact .inl (by rw [List.getElem?_eq_none (by rw [List.length_take]; omega),List.getElem?_eq_none (by omega)])
theorem yDs {G : xAc} {a b : Int} {vN vF : AV} (hN : TV2 G vN) (hF : TB G vF) : ∃ G2,L.icall (.func 33 []) [.agg [.int .i64 a,.int .i64 b,vN,vF]] G = some (.tup [],G2 ++ [.cells false false [.int .i64 a,.int .i64 b,vN,vF]]) ∧ Tw G G2 := by
 have hN1 : TV2 (G ++ [.cells false false [.int .i64 a,.int .i64 b,vN,vF]]) vN := by
  rcases hN with h | ⟨id,cs,rfl,hg,hs,hc⟩
  ·exact .inl h
  ·exact .inr ⟨id,cs,rfl,by rw [List.getElem?_append_left (List.getElem?_eq_some_iff.1 hg).1]; exact hg,hs,fun c hc' => by
    rcases hc c hc' with h | ⟨id,cs,rfl,hg,hs,hc⟩
    ·exact .inl h
    ·exact .inr ⟨id,cs,rfl,by rw [List.getElem?_append_left (List.getElem?_eq_some_iff.1 hg).1]; exact hg,hs,fun c hc' => by
      rcases hc c hc' with h | ⟨id,l,rfl,hg,hs⟩
      ·exact .inl h
      ·exact .inr ⟨id,l,rfl,by rw [List.getElem?_append_left (List.getElem?_eq_some_iff.1 hg).1]; exact hg,hs⟩⟩⟩
 have hF1 : TB (G ++ [.cells false false [.int .i64 a,.int .i64 b,vN,vF]]) vF := by
  rcases hF with h | ⟨id,l,rfl,hg,hs⟩
  ·exact .inl h
  ·exact .inr ⟨id,l,rfl,by rw [List.getElem?_append_left (List.getElem?_eq_some_iff.1 hg).1]; exact hg,hs⟩
 have ho : ([AV.int .i64 a,.int .i64 b,vN,vF]).any xFw = true := by
  rw [List.any_eq_true]; exact ⟨vN,by simp,TVS.odd hN⟩
 obtain ⟨G1,e1,e2⟩ := yGJ hN1
 obtain ⟨G2,e3,e4⟩ := yGK (hF1.tw e2)
 obtain ⟨G3,rfl,e5⟩ := (e2.trans e4).appOdd ho
 have g1 : G1[G.length]? = some (.cells false false [.int .i64 a,.int .i64 b,vN,vF]) := e2.odd (by simp) ho
 refine ⟨G3,?_,e5⟩
 rw [yJm,a33]
 rcases TVS.cell hN with rfl | ⟨i1,n1,rfl⟩ <;> rcases TB.cell hF with rfl | ⟨i2,n2,rfl⟩ <;>
 simp (maxSteps := 30000000) (disch := first | assumption | omega | (simp only [WL,AV.isCell,xAa] <;> omega) | rfl | decide) only [WB,Nat.reduceSub,AV.cells,AV.isCell,↓reduceIte,e1,g1,e3]
theorem xGv {id m : Nat} : ∀ d i (l : List Int) (G : xAc),i + d = m → m ≤ l.length → l.length < 1099511627776 → G[id]? = some (.cells false false (ints l)) →
  ∃ l',l'.length = l.length ∧ L.loop xG2 xUH ⟨xEK (.own false id 0 m 1) (.int .i64 (i : Nat)),G⟩ = some (.exit 0,⟨xEK (.own false id 0 m 1) (.int .i64 (m : Nat)),G.set id (.cells false false (ints l'))⟩)
 | 0,i,l,G,h,hm,hl,hG => by
  obtain rfl : i = m := by omega
  refine ⟨l,rfl,?_⟩
  have hs : G.set id (.cells false false (ints l)) = G := by
   obtain ⟨h1,h2⟩ := List.getElem?_eq_some_iff.1 hG
   rw [← h2,List.set_getElem_self]
  rw [hs,xNk]
  simp (maxSteps := 30000000) (disch := first | assumption | omega | (simp only [WL,AV.isCell,xAa] <;> omega) | rfl | decide) only [xG1,Int.reduceNeg,WB,↓reduceIte,xF4]
 | d + 1,i,l,G,h,hm,hl,hG => by
  have hlt : (i : Int) < (m : Nat) := by omega
  have hlen := (List.getElem?_eq_some_iff.1 hG).1
  obtain ⟨l',h1,ih⟩ := xGv (id := id) (m := m) d (i + 1) (l.set i (-77)) (G.set id (.cells false false (ints (l.set i (-77))))) (by omega) (by rw [List.length_set]; exact hm) (by rw [List.length_set]; exact hl) (List.getElem?_set_self hlen)
  rw [List.length_set] at h1
  rw [List.set_set] at ih
  refine ⟨l',h1,?_⟩
  have hi : i < l.length := by omega
  rw [xNk]
  simp (maxSteps := 30000000) (disch := first | assumption | omega | (simp only [WL,AV.isCell,xAa] <;> omega) | rfl | decide) only [xG1,Int.reduceNeg,WB,hlt,↓reduceIte,AV.cells,hG,W2,xF4,ih]
theorem yEU {G : xAc} {id m : Nat} {l : List Int} (hg : G[id]? = some (.cells false false (ints l))) (hm : m ≤ l.length) (hs : l.length < 1099511627776) : ∃ G',L.icall (.func 32 []) [.own false id 0 m 1] G = some (.tup [],G') ∧ Tw G G' := by
 obtain ⟨l',h1,h2⟩ := xGv (id := id) m 0 l G (by omega) hm hs hg
 simp only [Int.natCast_zero] at h2
 refine ⟨_,?_,Tw.setI hg h1⟩
 rw [yHM,a32]
 simp (maxSteps := 30000000) (disch := first | assumption | omega | (simp only [WL,AV.isCell,xAa] <;> omega) | rfl | decide) only [WB,Nat.reduceSub,xF4,h2,↓reduceIte]
def Lst (B : Nat) (H : xAc) (v : AV) (cs : List AV) : Prop :=
 (cs = [] ∧ v = .sl true 0 []) ∨ ∃ id,v = .own false id 0 cs.length 1 ∧ H[id]? = some (.cells false false cs) ∧ B ≤ id ∧ cs ≠ []
def Kp (B : Nat) (H H' : xAc) : Prop := H.length ≤ H'.length ∧ ∀ b,b < B → H'[b]? = H[b]?
theorem Kp.refl (B : Nat) (H : xAc) : Kp B H H := ⟨Nat.le_refl _,fun _ _ => rfl⟩
theorem Kp.trans {B : Nat} {H H' H2 : xAc} (h : Kp B H H') (h2 : Kp B H' H2) : Kp B H H2 := ⟨Nat.le_trans h.1 h2.1,fun b hb => (h2.2 b hb).trans (h.2 b hb)⟩
theorem Kp.low {B B' : Nat} {H H' : xAc} (h : Kp B H H') (hb : B' ≤ B) : Kp B' H H' := ⟨h.1,fun b q => h.2 b (by omega)⟩
theorem Kp.get {B : Nat} {H H' : xAc} (h : Kp B H H') {b : Nat} {x : Option Blk} (hb : b < B) (hx : H[b]? = x) : H'[b]? = x := (h.2 b hb).trans hx
theorem Lst.nil (B : Nat) (H : xAc) : Lst B H (.sl true 0 []) [] := .inl ⟨rfl,rfl⟩
theorem Lst.low {B B' : Nat} {H : xAc} {v : AV} {cs : List AV} (h : Lst B H v cs) (hb : B' ≤ B) : Lst B' H v cs := by
 rcases h with h | ⟨id,a,b,c,e⟩
 ·exact .inl h
 ·exact .inr ⟨id,a,b,by omega,e⟩
theorem Lst.keep {B C : Nat} {H H' : xAc} {v : AV} {cs : List AV} (h : Lst B H v cs) (hk : Kp C H H') (hC : H.length ≤ C) : Lst B H' v cs := by
 rcases h with h | ⟨id,a,b,c,e⟩
 ·exact .inl h
 ·have := (List.getElem?_eq_some_iff.1 b).1
  exact .inr ⟨id,a,(hk.2 id (by omega)).trans b,c,e⟩
def At (v : AV) (b : Nat) : Prop := ∃ z o n es,v = .own z b o n es
theorem Lst.inb {B : Nat} {H : xAc} {v : AV} {cs : List AV} (h : Lst B H v cs) {b : Nat} (hb : At v b) : b < H.length ∧ B ≤ b := by
 obtain ⟨z,o,n,es,e⟩ := hb
 rcases h with ⟨_,rfl⟩ | ⟨id,rfl,hi,hb,_⟩
 ·cases e
 ·cases e; exact ⟨(List.getElem?_eq_some_iff.1 hi).1,hb⟩
theorem Lst.other {B : Nat} {H H' : xAc} {v : AV} {cs : List AV} (h : Lst B H v cs) (hk : ∀ b,At v b → H'[b]? = H[b]?) : Lst B H' v cs := by
 rcases h with h | ⟨id,e,hi,hb,h0⟩
 ·exact .inl h
 ·exact .inr ⟨id,e,(hk id ⟨_,_,_,_,e⟩).trans hi,hb,h0⟩
theorem Lst.push2 {B : Nat} {H : xAc} {v : AV} {cs : List AV} (h : Lst B H v cs) (c : AV) {bytes : Nat} (hr : (cs.length + 1) * bytes ≤ 140737488355328) (hr2 : cs.length + 1 ≤ 140737488355328) (hB : B ≤ H.length) :
  ∃ v' H',xQQ false 1 bytes H v (some (1,[c])) = some (v',H') ∧ Lst B H' v' (cs ++ [c]) ∧ Kp B H H' ∧ (∀ b,b < H.length → ¬ At v b → H'[b]? = H[b]?) ∧ (∀ b,At v' b → b = H.length) ∧ ∃ id n,v' = .own false id 0 n 1 := by
 rcases h with ⟨rfl,rfl⟩ | ⟨id,rfl,hi,hb,_⟩
 ·refine ⟨.own false H.length 0 1 1,H ++ [.cells false false [c]],?_,.inr ⟨H.length,rfl,by simp,hB,by simp⟩,⟨by simp,fun b hb => List.getElem?_append_left (by omega)⟩,fun b hb _ => List.getElem?_append_left hb,fun b hb => ?_,_,_,rfl⟩
  ·rw [xES (by simpa using hr) (by omega)]
   rfl
  ·obtain ⟨z,o,n,es,e⟩ := hb; cases e; rfl
 ·refine ⟨.own false H.length 0 (cs.length + 1) 1,H.set id .dead ++ [.cells false false (cs ++ [c])],?_,.inr ⟨H.length,by simp,?_,by omega,by simp⟩,⟨by simp,fun b hb' => ?_⟩,fun b hb hn => ?_,fun b hb => ?_,_,_,rfl⟩
  ·rw [xGA,hi]
   show (if _ then _ else _) = _
   rw [if_pos ⟨by omega,hr,hr2⟩]
   simp
  ·rw [List.getElem?_append_right (by simp)]; simp
  ·have := (List.getElem?_eq_some_iff.1 hi).1
   rw [List.getElem?_append_left (by simp; omega),List.getElem?_set_ne (by omega)]
  ·rw [List.getElem?_append_left (by simpa using hb),List.getElem?_set_ne (by rintro rfl; exact hn ⟨_,_,_,_,rfl⟩)]
  ·obtain ⟨z,o,n,es,e⟩ := hb; cases e; rfl
theorem Lst.push {B : Nat} {H : xAc} {v : AV} {cs : List AV} (h : Lst B H v cs) (c : AV) {bytes : Nat} (hr : (cs.length + 1) * bytes ≤ 140737488355328) (hr2 : cs.length + 1 ≤ 140737488355328) (hB : B ≤ H.length) :
  ∃ v' H',xQQ false 1 bytes H v (some (1,[c])) = some (v',H') ∧ Lst B H' v' (cs ++ [c]) ∧ Kp B H H' := by
 obtain ⟨v',H',a,b,c,_⟩ := h.push2 c hr hr2 hB
 exact ⟨v',H',a,b,c⟩
theorem xEA {d : Nat} {G : xAc} {cs : List AV} (h : cs.all xAX = true) : cs.mapM (frz d G) = some cs ∧ cs.flatMap (bor d G) = [] := by
 induction cs with
 | nil => exact ⟨rfl,rfl⟩
 | cons c cs ih =>
  simp only [List.all_cons,Bool.and_eq_true] at h
  obtain ⟨i1,i2⟩ := ih h.2
  obtain ⟨f1,f2⟩ := Fz.data (G := G) (B := G.length) h.1 d (Nat.zero_le _)
  have f3 : bor d G c = [] := by
   cases e : bor d G c with
   | nil => rfl
   | cons b l => have := f2 b (by rw [e]; simp); omega
  simp [List.mapM_cons,f1,i1,i2,f3]
theorem Lst.dat {B : Nat} {H : xAc} {v : AV} {cs : List AV} (h : Lst B H v cs) (hd : cs.all xAX = true) (d : Nat) : frz (d + 1) H v = some (.sl (cs.length == 0) cs.length cs) := by
 rcases h with ⟨rfl,rfl⟩ | ⟨id,rfl,hi,hb,h0⟩
 ·rfl
 ·have hz : (cs.length == 0) = false := by
   cases cs with
   | nil => exact absurd rfl h0
   | cons => rfl
  obtain ⟨a1,a2⟩ := xEA (d := d) (G := H) hd
  have htk : (cs.drop 0).take (cs.length * 1) = cs := by rw [List.drop_zero,Nat.mul_one,List.take_length]
  rw [hz]
  simp only [frz,hi,htk,a1]
  rw [if_pos (by omega)]
  rfl
theorem Lst.own {B : Nat} {H : xAc} {v : AV} {cs : List AV} (h : Lst B H v cs) (h0 : cs ≠ []) : ∃ id n,v = .own false id 0 n 1 := by
 rcases h with ⟨rfl,_⟩ | ⟨id,rfl,_⟩
 ·exact absurd rfl h0
 ·exact ⟨_,_,rfl⟩
theorem Lst.data {B : Nat} {H : xAc} {v : AV} {cs : List AV} (h : Lst B H v cs) (hd : cs.all xAX = true) :
  frz 6 H v = some (.sl (cs.length == 0) cs.length cs) ∧ ∃ H',List.foldl (fun H i => List.modify H i xBG) H (bor 6 H v) = H' ∧ Kp B H H' := by
 refine ⟨h.dat hd 5,?_⟩
 rcases h with ⟨rfl,rfl⟩ | ⟨id,rfl,hi,hb,h0⟩
 ·exact ⟨H,rfl,Kp.refl _ _⟩
 ·obtain ⟨a1,a2⟩ := xEA (d := 5) (G := H) hd
  have htk : (cs.drop 0).take (cs.length * 1) = cs := by rw [List.drop_zero,Nat.mul_one,List.take_length]
  refine ⟨H.modify id xBG,?_,by simp,fun b hb' => by rw [List.getElem?_modify_ne]; omega⟩
  simp only [bor,hi,htk,a2,List.foldl_cons,List.foldl_nil]
end Go.Abs.Det
