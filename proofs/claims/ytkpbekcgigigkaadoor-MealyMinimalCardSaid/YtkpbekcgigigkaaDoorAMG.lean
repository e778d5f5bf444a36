/- What comes in. -/
import Derived.Test.YtkpbekcgigigkaaDoorAMB
import Derived.Test.YtkpbekcgigigkaaDoorAMA
import Derived.Test.YtkpbekcgigigkaaDoorAbsIn
import Derived.Test.YtkpbekcgigigkaaDoorAbsBun
import Derived.Test.YtkpbekcgigigkaaDoorAbsWalk
import Derived.Test.YtkpbekcgigigkaaDoorAMD
namespace Go.Abs.Mealy
open Go Go.Abs
set_option linter.unusedSimpArgs false
set_option linter.unusedVariables false
abbrev TMa : TS := ⟨true,[.int .i64,.int .i64,.int .i64,.sl [.sl [.int .i64]],.sl [.sl [.int .u8]]]⟩
abbrev yBD : TS := ⟨false,[.sl [.int .u8]]⟩
theorem xFm {α : Type} {f : α → AV} {P : α → Prop} : ∀ (cs : List AV),(∀ x ∈ cs,∃ a,x = f a ∧ P a) → ∃ l : List α,cs = l.map f ∧ ∀ a ∈ l,P a
  | [],_ => ⟨[],rfl,by simp⟩
  | c :: cs,h => by
    obtain ⟨a,rfl,ha⟩ := h c (by simp)
    obtain ⟨l,rfl,hl⟩ := xFm cs (fun x hx => h x (by simp [hx]))
    exact ⟨a :: l,rfl,by simpa using ⟨ha,hl⟩⟩
theorem yBE {a : AV} (h : Fit (.sl [.int .i64]) a) : ∃ r,a = rwV r ∧ (r.z = true → r.l = []) := by
  obtain ⟨z,cs,rfl,hz,_,hf⟩ := xLW h
  obtain ⟨l,rfl,_⟩ := xFm (f := fun n : Int => AV.int .i64 n) (P := fun _ => True) cs (fun x hx => by obtain ⟨n,rfl,_⟩ := xLV (hf x hx); exact ⟨n,rfl,trivial⟩)
  exact ⟨⟨z,l⟩,by simp [rwV,xCj],by simpa using hz⟩
theorem xY1 {a : AV} (h : Fit (.sl [.int .u8]) a) : ∃ w : Wd,a = wdV w ∧ (w.z = true → w.l = []) ∧ ∀ x ∈ w.l,x < 256 := by
  obtain ⟨z,cs,rfl,hz,_,hf⟩ := xLW h
  obtain ⟨l,rfl,hl⟩ := xFm (f := fun n : Nat => AV.int .u8 n) (P := fun n => n < 256) cs (fun x hx => by obtain ⟨n,rfl,h⟩ := xY9 (hf x hx); exact ⟨n,rfl,h⟩)
  exact ⟨⟨z,l⟩,by simp [wdV,bs],by simpa using hz,hl⟩
structure In (m : Mf) : Prop where
  i : -9223372036854775808 ≤ m.i ∧ m.i < 9223372036854775808
  o : -9223372036854775808 ≤ m.o ∧ m.o < 9223372036854775808
  s : -9223372036854775808 ≤ m.s ∧ m.s < 9223372036854775808
  cn : Cn m
  nl : m.next.length ≤ 9223372036854775807
  b : ∀ w ∈ m.emit,∀ x ∈ w.l,x < 256
theorem xY2 {a : AV} (h : xSD TMa a) : ∃ m : Mf,a = m.av ∧ In m := by
  obtain ⟨cs,rfl,h'⟩ := xWb h
  obtain ⟨a1,cs,rfl,h1,h'⟩ := xCJ h'
  obtain ⟨a2,cs,rfl,h2,h'⟩ := xCJ h'
  obtain ⟨a3,cs,rfl,h3,h'⟩ := xCJ h'
  obtain ⟨a4,cs,rfl,h4,h'⟩ := xCJ h'
  obtain ⟨a5,cs,rfl,h5,h'⟩ := xCJ h'
  obtain rfl := xSy h'
  obtain ⟨i,rfl,b1⟩ := xLV h1
  obtain ⟨o,rfl,b2⟩ := xLV h2
  obtain ⟨s,rfl,b3⟩ := xLV h3
  obtain ⟨z,c4,rfl,z4,q4,hf⟩ := xLW h4
  obtain ⟨nx,rfl,p4⟩ := xFm (f := rwV) (P := fun r => r.z = true → r.l = []) c4 (fun x hx => yBE (hf x hx))
  obtain ⟨ze,c5,rfl,z5,_,hf5⟩ := xLW h5
  obtain ⟨emi,rfl,p5⟩ := xFm (f := wdV) (P := fun r => (r.z = true → r.l = []) ∧ ∀ x ∈ r.l,x < 256) c5 (fun x hx => xY1 (hf5 x hx))
  exact ⟨⟨i,o,s,z,nx,ze,emi⟩,by simp [Mf.av,Mf.cells],⟨⟨b1.1,Int.lt_of_le_of_lt b1.2 (by decide)⟩,⟨b2.1,Int.lt_of_le_of_lt b2.2 (by decide)⟩,⟨b3.1,Int.lt_of_le_of_lt b3.2 (by decide)⟩,⟨by simpa using z4,by simpa using z5,p4,fun w hw => (p5 w hw).1⟩,by simpa [maxLen] using q4,fun w hw => (p5 w hw).2⟩⟩
def xIN (l : List Rw) : Bool := l.any fun r => decide (66 < r.l.length)
def xIO (l : List Wd) : Bool := l.any fun r => decide (66 < r.l.length)
def xDy (m : Mf) : Bool := decide (14 < m.next.length ∨ 16 < m.emit.length) || xIN m.next || xIO m.emit
section
variable {cs : List AV} {nm k : Nat} {m : Mf} {s3 s4 s5 : AV} {H : Heap}
theorem yBF (hk : k < nm) (hcs : cs.length = nm * 5) (h3 : List.take 1 (List.drop (k * 5 + 3) cs) = [.sl m.z m.next.length (m.next.map rwV)]) (hn : m.next.length ≤ 14) (hnm : nm < 100) : ∀ e i,i + e = m.next.length →
    ∃ j : Nat,L.loop xMA xWK ⟨xJg (.sl false nm cs) (.bool false) (.int .i64 (k : Nat)) (.int .i64 (i : Nat)),H⟩ =
      some (if xIN (m.next.drop i) = true then (.ret,⟨xJg (.sl false nm cs) (.bool true) (.int .i64 (k : Nat)) (.int .i64 (j : Nat)),H⟩)
        else (.exit 2,⟨xJg (.sl false nm cs) (.bool false) (.int .i64 (k : Nat)) (.int .i64 (m.next.length : Nat)),H⟩)) := by
  intro e
  induction e with
  | zero =>
    intro i h
    obtain rfl : i = m.next.length := by omega
    refine ⟨0,?_⟩
    rw [if_neg (by rw [List.drop_length]; simp [xIN]),xTl]
    simp (maxSteps := 30000000) (disch := first | assumption | omega | (simp only [WL,AV.isCell] <;> omega) | rfl | decide) only [↓reduceIte,WB,xAC,xAc,xAB,xAk,xAj,AV.cells,AV.isCell,xAb,xAf,xAg,W2,xAd,xAe,xAh,Nat.reduceAdd,Nat.reduceSub,Nat.reduceLeDiff,Nat.reduceMul,Int.reduceAdd,Int.reduceSub,Int.reduceMul,Int.reduceLT,Int.reduceLE,Int.reduceEq,Int.reduceToNat,Int.reduceNeg,Nat.reduceEqDiff,Nat.reduceBEq,Nat.reduceLT,xAJ,xAK,List.length_map,xJf,xGb,h3]
  | succ e ih =>
    intro i h
    have hlt : (i : Int) < (m.next.length : Nat) := by omega
    obtain ⟨j,ih'⟩ := ih (i + 1) (by omega)
    have hrv : rwV (m.next.getD i r0) = .sl (m.next.getD i r0).z (m.next.getD i r0).l.length (xCj (m.next.getD i r0).l) := rfl
    rw [xA6 (a := r0) (by omega : i < m.next.length)]
    have et : ∀ t,xIN (m.next.getD i r0 :: t) = (decide (66 < (m.next.getD i r0).l.length) || xIN t) := fun _ => rfl
    rw [et]
    by_cases c : 66 < (m.next.getD i r0).l.length
    · have c' : (66 : Int) < ((m.next.getD i r0).l.length : Nat) := by omega
      refine ⟨i,?_⟩
      rw [decide_eq_true c,Bool.true_or,if_pos rfl,xTl]
      simp (maxSteps := 30000000) (disch := first | assumption | omega | (simp only [WL,AV.isCell] <;> omega) | rfl | decide) only [↓reduceIte,WB,xAC,xAc,xAB,xAk,xAj,AV.cells,AV.isCell,xAb,xAf,xAg,W2,xAd,xAe,xAh,Nat.reduceAdd,Nat.reduceSub,Nat.reduceLeDiff,Nat.reduceMul,Int.reduceAdd,Int.reduceSub,Int.reduceMul,Int.reduceLT,Int.reduceLE,Int.reduceEq,Int.reduceToNat,Int.reduceNeg,Nat.reduceEqDiff,Nat.reduceBEq,Nat.reduceLT,xAJ,xAK,List.length_map,xJf,xGb,h3,hlt,hrv,c']
    · have c' : ¬ (66 : Int) < ((m.next.getD i r0).l.length : Nat) := by omega
      refine ⟨j,?_⟩
      rw [decide_eq_false c,Bool.false_or,xTl]
      by_cases e : xIN (m.next.drop (i + 1)) = true
      · rw [if_pos e] at ih' ⊢
        simp (maxSteps := 30000000) (disch := first | assumption | omega | (simp only [WL,AV.isCell] <;> omega) | rfl | decide) only [↓reduceIte,WB,xAC,xAc,xAB,xAk,xAj,AV.cells,AV.isCell,xAb,xAf,xAg,W2,xAd,xAe,xAh,Nat.reduceAdd,Nat.reduceSub,Nat.reduceLeDiff,Nat.reduceMul,Int.reduceAdd,Int.reduceSub,Int.reduceMul,Int.reduceLT,Int.reduceLE,Int.reduceEq,Int.reduceToNat,Int.reduceNeg,Nat.reduceEqDiff,Nat.reduceBEq,Nat.reduceLT,xAJ,xAK,List.length_map,xJf,xGb,h3,hlt,hrv,c',ih']
      · rw [if_neg e] at ih' ⊢
        simp (maxSteps := 30000000) (disch := first | assumption | omega | (simp only [WL,AV.isCell] <;> omega) | rfl | decide) only [↓reduceIte,WB,xAC,xAc,xAB,xAk,xAj,AV.cells,AV.isCell,xAb,xAf,xAg,W2,xAd,xAe,xAh,Nat.reduceAdd,Nat.reduceSub,Nat.reduceLeDiff,Nat.reduceMul,Int.reduceAdd,Int.reduceSub,Int.reduceMul,Int.reduceLT,Int.reduceLE,Int.reduceEq,Int.reduceToNat,Int.reduceNeg,Nat.reduceEqDiff,Nat.reduceBEq,Nat.reduceLT,xAJ,xAK,List.length_map,xJf,xGb,h3,hlt,hrv,c',ih']
theorem yBG (hk : k < nm) (hcs : cs.length = nm * 5) (h3 : List.take 1 (List.drop (k * 5 + 4) cs) = [.sl m.ze m.emit.length (m.emit.map wdV)]) (hn : m.emit.length ≤ 16) (hnm : nm < 100) : ∀ e i,i + e = m.emit.length →
    ∃ j : Nat,L.loop xMB xWL ⟨xJi (.sl false nm cs) (.bool false) (.int .i64 (k : Nat)) (.int .i64 (i : Nat)),H⟩ =
      some (if xIO (m.emit.drop i) = true then (.ret,⟨xJi (.sl false nm cs) (.bool true) (.int .i64 (k : Nat)) (.int .i64 (j : Nat)),H⟩)
        else (.exit 4,⟨xJi (.sl false nm cs) (.bool false) (.int .i64 (k : Nat)) (.int .i64 (m.emit.length : Nat)),H⟩)) := by
  intro e
  induction e with
  | zero =>
    intro i h
    obtain rfl : i = m.emit.length := by omega
    refine ⟨0,?_⟩
    rw [if_neg (by rw [List.drop_length]; simp [xIO]),xTm]
    simp (maxSteps := 30000000) (disch := first | assumption | omega | (simp only [WL,AV.isCell] <;> omega) | rfl | decide) only [↓reduceIte,WB,xAC,xAc,xAB,xAk,xAj,AV.cells,AV.isCell,xAb,xAf,xAg,W2,xAd,xAe,xAh,Nat.reduceAdd,Nat.reduceSub,Nat.reduceLeDiff,Nat.reduceMul,Int.reduceAdd,Int.reduceSub,Int.reduceMul,Int.reduceLT,Int.reduceLE,Int.reduceEq,Int.reduceToNat,Int.reduceNeg,Nat.reduceEqDiff,Nat.reduceBEq,Nat.reduceLT,xAJ,xAK,List.length_map,xJh,xHo,h3]
  | succ e ih =>
    intro i h
    have hlt : (i : Int) < (m.emit.length : Nat) := by omega
    obtain ⟨j,ih'⟩ := ih (i + 1) (by omega)
    have hrv : wdV (m.emit.getD i w0) = .sl (m.emit.getD i w0).z (m.emit.getD i w0).l.length (bs (m.emit.getD i w0).l) := rfl
    rw [xA6 (a := w0) (by omega : i < m.emit.length)]
    have et : ∀ t,xIO (m.emit.getD i w0 :: t) = (decide (66 < (m.emit.getD i w0).l.length) || xIO t) := fun _ => rfl
    rw [et]
    by_cases c : 66 < (m.emit.getD i w0).l.length
    · have c' : (66 : Int) < ((m.emit.getD i w0).l.length : Nat) := by omega
      refine ⟨i,?_⟩
      rw [decide_eq_true c,Bool.true_or,if_pos rfl,xTm]
      simp (maxSteps := 30000000) (disch := first | assumption | omega | (simp only [WL,AV.isCell] <;> omega) | rfl | decide) only [↓reduceIte,WB,xAC,xAc,xAB,xAk,xAj,AV.cells,AV.isCell,xAb,xAf,xAg,W2,xAd,xAe,xAh,Nat.reduceAdd,Nat.reduceSub,Nat.reduceLeDiff,Nat.reduceMul,Int.reduceAdd,Int.reduceSub,Int.reduceMul,Int.reduceLT,Int.reduceLE,Int.reduceEq,Int.reduceToNat,Int.reduceNeg,Nat.reduceEqDiff,Nat.reduceBEq,Nat.reduceLT,xAJ,xAK,List.length_map,xJh,xHo,h3,hlt,hrv,c']
    · have c' : ¬ (66 : Int) < ((m.emit.getD i w0).l.length : Nat) := by omega
      refine ⟨j,?_⟩
      rw [decide_eq_false c,Bool.false_or,xTm]
      by_cases e : xIO (m.emit.drop (i + 1)) = true
      · rw [if_pos e] at ih' ⊢
        simp (maxSteps := 30000000) (disch := first | assumption | omega | (simp only [WL,AV.isCell] <;> omega) | rfl | decide) only [↓reduceIte,WB,xAC,xAc,xAB,xAk,xAj,AV.cells,AV.isCell,xAb,xAf,xAg,W2,xAd,xAe,xAh,Nat.reduceAdd,Nat.reduceSub,Nat.reduceLeDiff,Nat.reduceMul,Int.reduceAdd,Int.reduceSub,Int.reduceMul,Int.reduceLT,Int.reduceLE,Int.reduceEq,Int.reduceToNat,Int.reduceNeg,Nat.reduceEqDiff,Nat.reduceBEq,Nat.reduceLT,xAJ,xAK,List.length_map,xJh,xHo,h3,hlt,hrv,c',ih']
      · rw [if_neg e] at ih' ⊢
        simp (maxSteps := 30000000) (disch := first | assumption | omega | (simp only [WL,AV.isCell] <;> omega) | rfl | decide) only [↓reduceIte,WB,xAC,xAc,xAB,xAk,xAj,AV.cells,AV.isCell,xAb,xAf,xAg,W2,xAd,xAe,xAh,Nat.reduceAdd,Nat.reduceSub,Nat.reduceLeDiff,Nat.reduceMul,Int.reduceAdd,Int.reduceSub,Int.reduceMul,Int.reduceLT,Int.reduceLE,Int.reduceEq,Int.reduceToNat,Int.reduceNeg,Nat.reduceEqDiff,Nat.reduceBEq,Nat.reduceLT,xAJ,xAK,List.length_map,xJh,xHo,h3,hlt,hrv,c',ih']
end
def xDw (ms : List Mf) : List AV := rows Mf.cells ms
theorem xLG (l : List Mf) : (xDw l).length = l.length * 5 := xED (enc := Mf.cells) (k := 5) (fun _ => rfl) l
def m0 : Mf := ⟨0,0,0,true,[],true,[]⟩
theorem xOf {l : List Mf} {i : Nat} (h : i < l.length) : List.drop (i * 5) (xDw l) = (l.getD i m0).cells ++ xDw (l.drop (i + 1)) := by
  unfold xDw
  rw [xIx (enc := Mf.cells) (k := 5) (fun _ => rfl),xA6 (a := m0) h]
  rfl
theorem xXp {l : List Mf} {i : Nat} (h : i < l.length) : List.take 1 (List.drop (i * 5 + 3) (xDw l)) = [.sl (l.getD i m0).z (l.getD i m0).next.length ((l.getD i m0).next.map rwV)] := by
  rw [← List.drop_drop,xOf h]; rfl
theorem xXq {l : List Mf} {i : Nat} (h : i < l.length) : List.take 1 (List.drop (i * 5 + 4) (xDw l)) = [.sl (l.getD i m0).ze (l.getD i m0).emit.length ((l.getD i m0).emit.map wdV)] := by
  rw [← List.drop_drop,xOf h]; rfl
theorem yAb {ms : List Mf} {H : Heap} (hm : ms.length < 100) : ∀ e i,i + e = ms.length →
    ∃ j : Nat,L.loop xMC xWM ⟨xJj (.sl false ms.length (xDw ms)) (.bool false) (.int .i64 (i : Nat)),H⟩ =
      some (if (ms.drop i).any xDy = true then (.ret,⟨xJj (.sl false ms.length (xDw ms)) (.bool true) (.int .i64 (j : Nat)),H⟩)
        else (.exit 0,⟨xJj (.sl false ms.length (xDw ms)) (.bool false) (.int .i64 (ms.length : Nat)),H⟩)) := by
  have hcl := xLG ms
  intro e
  induction e with
  | zero =>
    intro i h
    obtain rfl : i = ms.length := by omega
    refine ⟨0,?_⟩
    rw [if_neg (by rw [List.drop_length]; simp),xJk]
    simp (maxSteps := 30000000) (disch := first | assumption | omega | (simp only [WL,AV.isCell] <;> omega) | rfl | decide) only [↓reduceIte,WB,xAC,xAc,xAB,xAk,xAj,AV.cells,AV.isCell,xAb,xAf,xAg,W2,xAd,xAe,xAh,Nat.reduceAdd,Nat.reduceSub,Nat.reduceLeDiff,Nat.reduceMul,Int.reduceAdd,Int.reduceSub,Int.reduceMul,Int.reduceLT,Int.reduceLE,Int.reduceEq,Int.reduceToNat,Int.reduceNeg,Nat.reduceEqDiff,Nat.reduceBEq,Nat.reduceLT,xAJ,xAK,List.length_map,xE1,xE2]
  | succ e ih =>
    intro i h
    have hlt : (i : Int) < (ms.length : Nat) := by omega
    obtain ⟨j,ih'⟩ := ih (i + 1) (by omega)
    have h3 := xXp (l := ms) (i := i) (by omega)
    have h4 := xXq (l := ms) (i := i) (by omega)
    rw [xA6 (a := m0) (by omega : i < ms.length),List.any_cons]
    generalize hM : ms.getD i m0 = m at *
    by_cases c1 : 14 < m.next.length
    · have e0 : xDy m = true := by simp [xDy,c1]
      have c1' : (14 : Int) < (m.next.length : Nat) := by omega
      refine ⟨i,?_⟩
      rw [e0,Bool.true_or,if_pos rfl,xJk]
      simp (maxSteps := 30000000) (disch := first | assumption | omega | (simp only [WL,AV.isCell] <;> omega) | rfl | decide) only [↓reduceIte,WB,xAC,xAc,xAB,xAk,xAj,AV.cells,AV.isCell,xAb,xAf,xAg,W2,xAd,xAe,xAh,Nat.reduceAdd,Nat.reduceSub,Nat.reduceLeDiff,Nat.reduceMul,Int.reduceAdd,Int.reduceSub,Int.reduceMul,Int.reduceLT,Int.reduceLE,Int.reduceEq,Int.reduceToNat,Int.reduceNeg,Nat.reduceEqDiff,Nat.reduceBEq,Nat.reduceLT,xAJ,xAK,List.length_map,xE1,xE2,hcl,h3,h4,hlt,c1']
    have c1' : ¬ (14 : Int) < (m.next.length : Nat) := by omega
    by_cases c2 : 16 < m.emit.length
    · have e0 : xDy m = true := by simp [xDy,c2]
      have c2' : (16 : Int) < (m.emit.length : Nat) := by omega
      refine ⟨i,?_⟩
      rw [e0,Bool.true_or,if_pos rfl,xJk]
      simp (maxSteps := 30000000) (disch := first | assumption | omega | (simp only [WL,AV.isCell] <;> omega) | rfl | decide) only [↓reduceIte,WB,xAC,xAc,xAB,xAk,xAj,AV.cells,AV.isCell,xAb,xAf,xAg,W2,xAd,xAe,xAh,Nat.reduceAdd,Nat.reduceSub,Nat.reduceLeDiff,Nat.reduceMul,Int.reduceAdd,Int.reduceSub,Int.reduceMul,Int.reduceLT,Int.reduceLE,Int.reduceEq,Int.reduceToNat,Int.reduceNeg,Nat.reduceEqDiff,Nat.reduceBEq,Nat.reduceLT,xAJ,xAK,List.length_map,xE1,xE2,hcl,h3,h4,hlt,c1',c2']
    have c2' : ¬ (16 : Int) < (m.emit.length : Nat) := by omega
    obtain ⟨j1,hr⟩ := yBF (H := H) (k := i) (nm := ms.length) (m := m) (by omega) hcl h3 (by omega) hm _ 0 (Nat.zero_add _)
    obtain ⟨j2,hw⟩ := yBG (H := H) (k := i) (nm := ms.length) (m := m) (by omega) hcl h4 (by omega) hm _ 0 (Nat.zero_add _)
    simp only [Int.natCast_zero,List.drop_zero] at hr hw
    have eM : xDy m = (xIN m.next || xIO m.emit) := by simp [xDy,c1,c2]
    rw [eM]
    by_cases c3 : xIN m.next = true
    · rw [if_pos c3] at hr
      refine ⟨i,?_⟩
      rw [c3,Bool.true_or,Bool.true_or,if_pos rfl,xJk]
      simp (maxSteps := 30000000) (disch := first | assumption | omega | (simp only [WL,AV.isCell] <;> omega) | rfl | decide) only [↓reduceIte,WB,xAC,xAc,xAB,xAk,xAj,AV.cells,AV.isCell,xAb,xAf,xAg,W2,xAd,xAe,xAh,Nat.reduceAdd,Nat.reduceSub,Nat.reduceLeDiff,Nat.reduceMul,Int.reduceAdd,Int.reduceSub,Int.reduceMul,Int.reduceLT,Int.reduceLE,Int.reduceEq,Int.reduceToNat,Int.reduceNeg,Nat.reduceEqDiff,Nat.reduceBEq,Nat.reduceLT,xAJ,xAK,List.length_map,xE1,xE2,xGb,hcl,h3,h4,hlt,c1',c2',hr]
    rw [if_neg c3] at hr
    by_cases c4 : xIO m.emit = true
    · rw [if_pos c4] at hw
      refine ⟨i,?_⟩
      rw [c4,Bool.or_true,Bool.true_or,if_pos rfl,xJk]
      simp (maxSteps := 30000000) (disch := first | assumption | omega | (simp only [WL,AV.isCell] <;> omega) | rfl | decide) only [↓reduceIte,WB,xAC,xAc,xAB,xAk,xAj,AV.cells,AV.isCell,xAb,xAf,xAg,W2,xAd,xAe,xAh,Nat.reduceAdd,Nat.reduceSub,Nat.reduceLeDiff,Nat.reduceMul,Int.reduceAdd,Int.reduceSub,Int.reduceMul,Int.reduceLT,Int.reduceLE,Int.reduceEq,Int.reduceToNat,Int.reduceNeg,Nat.reduceEqDiff,Nat.reduceBEq,Nat.reduceLT,xAJ,xAK,List.length_map,xE1,xE2,xGb,xHo,hcl,h3,h4,hlt,c1',c2',hr,hw]
    rw [if_neg c4] at hw
    have c3' : xIN m.next = false := by simpa using c3
    have c4' : xIO m.emit = false := by simpa using c4
    refine ⟨j,?_⟩
    rw [c3',c4',Bool.false_or,Bool.false_or,xJk]
    by_cases e : (ms.drop (i + 1)).any xDy = true
    · rw [if_pos e] at ih' ⊢
      simp (maxSteps := 30000000) (disch := first | assumption | omega | (simp only [WL,AV.isCell] <;> omega) | rfl | decide) only [↓reduceIte,WB,xAC,xAc,xAB,xAk,xAj,AV.cells,AV.isCell,xAb,xAf,xAg,W2,xAd,xAe,xAh,Nat.reduceAdd,Nat.reduceSub,Nat.reduceLeDiff,Nat.reduceMul,Int.reduceAdd,Int.reduceSub,Int.reduceMul,Int.reduceLT,Int.reduceLE,Int.reduceEq,Int.reduceToNat,Int.reduceNeg,Nat.reduceEqDiff,Nat.reduceBEq,Nat.reduceLT,xAJ,xAK,List.length_map,xE1,xE2,xGb,xHo,hcl,h3,h4,hlt,c1',c2',hr,hw,ih']
    · rw [if_neg e] at ih' ⊢
      simp (maxSteps := 30000000) (disch := first | assumption | omega | (simp only [WL,AV.isCell] <;> omega) | rfl | decide) only [↓reduceIte,WB,xAC,xAc,xAB,xAk,xAj,AV.cells,AV.isCell,xAb,xAf,xAg,W2,xAd,xAe,xAh,Nat.reduceAdd,Nat.reduceSub,Nat.reduceLeDiff,Nat.reduceMul,Int.reduceAdd,Int.reduceSub,Int.reduceMul,Int.reduceLT,Int.reduceLE,Int.reduceEq,Int.reduceToNat,Int.reduceNeg,Nat.reduceEqDiff,Nat.reduceBEq,Nat.reduceLT,xAJ,xAK,List.length_map,xE1,xE2,xGb,xHo,hcl,h3,h4,hlt,c1',c2',hr,hw,ih']
theorem yBH (ms : List Mf) (hm : ms.length < 100) : L.pcall 11 [.sl false ms.length (xDw ms)] = some (.bool (ms.any xDy)) := by
  obtain ⟨j,h⟩ := yAb (ms := ms) (H := []) hm _ 0 (Nat.zero_add _)
  simp only [Int.natCast_zero,List.drop_zero] at h
  rw [yDx,a11,xAr]
  cases c : ms.any xDy with
  | true =>
    rw [if_pos c] at h
    simp (maxSteps := 30000000) (disch := first | assumption | omega | (simp only [WL,AV.isCell] <;> omega) | rfl | decide) only [↓reduceIte,WB,xAC,xAc,xAB,xAk,xAj,AV.cells,AV.isCell,xAb,xAf,xAg,W2,xAd,xAe,xAh,Nat.reduceAdd,Nat.reduceSub,Nat.reduceLeDiff,Nat.reduceMul,Int.reduceAdd,Int.reduceSub,Int.reduceMul,Int.reduceLT,Int.reduceLE,Int.reduceEq,Int.reduceToNat,Int.reduceNeg,Nat.reduceEqDiff,Nat.reduceBEq,Nat.reduceLT,xAJ,xAK,List.length_map,xE2,h]
  | false =>
    rw [if_neg (by simp [c])] at h
    simp (maxSteps := 30000000) (disch := first | assumption | omega | (simp only [WL,AV.isCell] <;> omega) | rfl | decide) only [↓reduceIte,WB,xAC,xAc,xAB,xAk,xAj,AV.cells,AV.isCell,xAb,xAf,xAg,W2,xAd,xAe,xAh,Nat.reduceAdd,Nat.reduceSub,Nat.reduceLeDiff,Nat.reduceMul,Int.reduceAdd,Int.reduceSub,Int.reduceMul,Int.reduceLT,Int.reduceLE,Int.reduceEq,Int.reduceToNat,Int.reduceNeg,Nat.reduceEqDiff,Nat.reduceBEq,Nat.reduceLT,xAJ,xAK,List.length_map,xE2,h]
theorem xXr (a b : Mf) : L.pcall 11 [.sl false 2 (a.cells ++ b.cells)] = some (.bool (xDy a || xDy b)) := by
  have h := yBH [a,b] (by simp)
  have e : xDw [a,b] = a.cells ++ b.cells := by unfold xDw rows; simp
  rw [e] at h
  simpa using h
theorem xRc {m : Mf} (hI : In m) (h : xDy m = false) : Sm m := by
  unfold xDy at h
  simp only [Bool.or_eq_false_iff,decide_eq_false_iff_not,xIN,xIO,List.any_eq_false] at h
  obtain ⟨⟨h1,h2⟩,h3⟩ := h
  refine ⟨hI.i,hI.o,by omega,by omega,fun r hr => ?_,fun w hw => ?_,hI.b⟩
  · have := h2 r hr
    simp at this; omega
  · have := h3 w hw
    simp at this; omega
def Lst (B : Nat) (H : Heap) (v : AV) (cs : List AV) : Prop :=
  (cs = [] ∧ v = .sl true 0 []) ∨ ∃ id,v = .own false id 0 cs.length 1 ∧ H[id]? = some (.cells false false cs) ∧ B ≤ id ∧ cs ≠ []
def Kp (B : Nat) (H H' : Heap) : Prop := H.length ≤ H'.length ∧ ∀ b,b < B → H'[b]? = H[b]?
theorem Kp.refl (B : Nat) (H : Heap) : Kp B H H := ⟨Nat.le_refl _,fun _ _ => rfl⟩
theorem Kp.trans {B : Nat} {H H' H2 : Heap} (h : Kp B H H') (h2 : Kp B H' H2) : Kp B H H2 := ⟨Nat.le_trans h.1 h2.1,fun b hb => (h2.2 b hb).trans (h.2 b hb)⟩
theorem Kp.low {B B' : Nat} {H H' : Heap} (h : Kp B H H') (hb : B' ≤ B) : Kp B' H H' := ⟨h.1,fun b q => h.2 b (by omega)⟩
theorem Kp.get {B : Nat} {H H' : Heap} (h : Kp B H H') {b : Nat} {x : Option Blk} (hb : b < B) (hx : H[b]? = x) : H'[b]? = x := (h.2 b hb).trans hx
theorem Lst.nil (B : Nat) (H : Heap) : Lst B H (.sl true 0 []) [] := .inl ⟨rfl,rfl⟩
theorem Lst.low {B B' : Nat} {H : Heap} {v : AV} {cs : List AV} (h : Lst B H v cs) (hb : B' ≤ B) : Lst B' H v cs := by
  rcases h with h | ⟨id,a,b,c,e⟩
  · exact .inl h
  · exact .inr ⟨id,a,b,by omega,e⟩
theorem Lst.keep {B C : Nat} {H H' : Heap} {v : AV} {cs : List AV} (h : Lst B H v cs) (hk : Kp C H H') (hC : H.length ≤ C) : Lst B H' v cs := by
  rcases h with h | ⟨id,a,b,c,e⟩
  · exact .inl h
  · have := (List.getElem?_eq_some_iff.1 b).1
    exact .inr ⟨id,a,(hk.2 id (by omega)).trans b,c,e⟩
def At (v : AV) (b : Nat) : Prop := ∃ z o n es,v = .own z b o n es
theorem Lst.inb {B : Nat} {H : Heap} {v : AV} {cs : List AV} (h : Lst B H v cs) {b : Nat} (hb : At v b) : b < H.length ∧ B ≤ b := by
  obtain ⟨z,o,n,es,e⟩ := hb
  rcases h with ⟨_,rfl⟩ | ⟨id,rfl,hi,hb,_⟩
  · cases e
  · cases e; exact ⟨(List.getElem?_eq_some_iff.1 hi).1,hb⟩
theorem Lst.other {B : Nat} {H H' : Heap} {v : AV} {cs : List AV} (h : Lst B H v cs) (hk : ∀ b,At v b → H'[b]? = H[b]?) : Lst B H' v cs := by
  rcases h with h | ⟨id,e,hi,hb,h0⟩
  · exact .inl h
  · exact .inr ⟨id,e,(hk id ⟨_,_,_,_,e⟩).trans hi,hb,h0⟩
theorem Lst.len {B : Nat} {H : Heap} {v : AV} {cs : List AV} (h : Lst B H v cs) : yB6 v = some (.int .i64 (cs.length : Nat)) := by
  rcases h with ⟨rfl,rfl⟩ | ⟨id,rfl,_⟩ <;> rfl
theorem Lst.cell {B : Nat} {H : Heap} {v : AV} {cs : List AV} (h : Lst B H v cs) : v.isCell = true := by
  rcases h with ⟨rfl,rfl⟩ | ⟨id,rfl,_⟩ <;> rfl
theorem xRd {α β : Type} (f : α → β) {a b : List α} (h : a.length = b.length) (d : α) {i : Nat} (hi : i < a.length) : ((a.drop i).map f = (b.drop i).map f) ↔ (f (a.getD i d) = f (b.getD i d) ∧ (a.drop (i + 1)).map f = (b.drop (i + 1)).map f) := by
  rw [xA6 (a := d) hi,xA6 (a := d) (show i < b.length by omega)]
  simp
theorem yCK {z1 z2 : Bool} {a b : List Rw} {H : Heap} (hl : a.length = b.length) (hm : a.length < 9223372036854775807) (hr : ∀ r ∈ a,r.l.length < 9223372036854775807) : ∀ e i,i + e = a.length →
    ∃ j : Nat,L.loop xML xWR ⟨xJB (.sl z1 a.length (a.map rwV)) (.sl z2 b.length (b.map rwV)) (.bool false) (.int .i64 (i : Nat)),H⟩ =
      some (if (a.drop i).map Rw.l = (b.drop i).map Rw.l then (.exit 0,⟨xJB (.sl z1 a.length (a.map rwV)) (.sl z2 b.length (b.map rwV)) (.bool false) (.int .i64 (a.length : Nat)),H⟩)
        else (.ret,⟨xJB (.sl z1 a.length (a.map rwV)) (.sl z2 b.length (b.map rwV)) (.bool false) (.int .i64 (j : Nat)),H⟩)) := by
  intro e
  induction e with
  | zero =>
    intro i h
    obtain rfl : i = a.length := by omega
    refine ⟨0,?_⟩
    rw [if_pos (by rw [List.drop_length,hl,List.drop_length]),xTy]
    simp (maxSteps := 30000000) (disch := first | assumption | omega | (simp only [WL,AV.isCell] <;> omega) | rfl | decide) only [↓reduceIte,WB,xAC,xAc,xAB,xAk,xAj,AV.cells,AV.isCell,xAb,xAf,xAg,WP,xAt,xAm,xA0,xAZ,xAX,xAq,xAv,xAu,W2,xAd,xAe,xAh,Nat.reduceAdd,Nat.reduceSub,Nat.reduceLeDiff,Nat.reduceMul,Int.reduceAdd,Int.reduceSub,Int.reduceMul,Int.reduceLT,Int.reduceLE,Int.reduceEq,Int.reduceToNat,Int.reduceNeg,Nat.reduceEqDiff,Nat.reduceBEq,Nat.reduceLT,xAJ,xAK,List.length_map,xJA,xJC]
  | succ e ih =>
    intro i h
    have hlt : (i : Int) < (a.length : Nat) := by omega
    obtain ⟨j,ih'⟩ := ih (i + 1) (by omega)
    rw [← hl] at ih' ⊢
    have hd := xRd Rw.l hl r0 (show i < a.length by omega)
    have hq := yDO (z1 := (a.getD i r0).z) (z2 := (b.getD i r0).z) (a := (a.getD i r0).l) (b := (b.getD i r0).l) (hr _ (xAA (by omega)))
    have v1 : rwV (a.getD i r0) = .sl (a.getD i r0).z (a.getD i r0).l.length (xCj (a.getD i r0).l) := rfl
    have v2 : rwV (b.getD i r0) = .sl (b.getD i r0).z (b.getD i r0).l.length (xCj (b.getD i r0).l) := rfl
    by_cases c : (a.getD i r0).l = (b.getD i r0).l
    · rw [decide_eq_true c] at hq
      refine ⟨j,?_⟩
      have hd' : ((a.drop i).map Rw.l = (b.drop i).map Rw.l) ↔ ((a.drop (i + 1)).map Rw.l = (b.drop (i + 1)).map Rw.l) := hd.trans ⟨fun h => h.2,fun h => ⟨c,h⟩⟩
      rw [xTy]
      by_cases e : (a.drop (i + 1)).map Rw.l = (b.drop (i + 1)).map Rw.l
      · rw [if_pos e] at ih'
        rw [if_pos (hd'.2 e)]
        simp (maxSteps := 30000000) (disch := first | assumption | omega | (simp only [WL,AV.isCell] <;> omega) | rfl | decide) only [↓reduceIte,WB,xAC,xAc,xAB,xAk,xAj,AV.cells,AV.isCell,xAb,xAf,xAg,WP,xAt,xAm,xA0,xAZ,xAX,xAq,xAv,xAu,W2,xAd,xAe,xAh,Nat.reduceAdd,Nat.reduceSub,Nat.reduceLeDiff,Nat.reduceMul,Int.reduceAdd,Int.reduceSub,Int.reduceMul,Int.reduceLT,Int.reduceLE,Int.reduceEq,Int.reduceToNat,Int.reduceNeg,Nat.reduceEqDiff,Nat.reduceBEq,Nat.reduceLT,xAJ,xAK,List.length_map,xJA,xJC,hlt,v1,v2,hq,ih']
      · rw [if_neg e] at ih'
        rw [if_neg (fun h => e (hd'.1 h))]
        simp (maxSteps := 30000000) (disch := first | assumption | omega | (simp only [WL,AV.isCell] <;> omega) | rfl | decide) only [↓reduceIte,WB,xAC,xAc,xAB,xAk,xAj,AV.cells,AV.isCell,xAb,xAf,xAg,WP,xAt,xAm,xA0,xAZ,xAX,xAq,xAv,xAu,W2,xAd,xAe,xAh,Nat.reduceAdd,Nat.reduceSub,Nat.reduceLeDiff,Nat.reduceMul,Int.reduceAdd,Int.reduceSub,Int.reduceMul,Int.reduceLT,Int.reduceLE,Int.reduceEq,Int.reduceToNat,Int.reduceNeg,Nat.reduceEqDiff,Nat.reduceBEq,Nat.reduceLT,xAJ,xAK,List.length_map,xJA,xJC,hlt,v1,v2,hq,ih']
    · rw [decide_eq_false c] at hq
      refine ⟨i,?_⟩
      rw [if_neg (fun h => c (hd.1 h).1),xTy]
      simp (maxSteps := 30000000) (disch := first | assumption | omega | (simp only [WL,AV.isCell] <;> omega) | rfl | decide) only [↓reduceIte,WB,xAC,xAc,xAB,xAk,xAj,AV.cells,AV.isCell,xAb,xAf,xAg,WP,xAt,xAm,xA0,xAZ,xAX,xAq,xAv,xAu,W2,xAd,xAe,xAh,Nat.reduceAdd,Nat.reduceSub,Nat.reduceLeDiff,Nat.reduceMul,Int.reduceAdd,Int.reduceSub,Int.reduceMul,Int.reduceLT,Int.reduceLE,Int.reduceEq,Int.reduceToNat,Int.reduceNeg,Nat.reduceEqDiff,Nat.reduceBEq,Nat.reduceLT,xAJ,xAK,List.length_map,xJA,xJC,hlt,v1,v2,hq]
theorem yDt {z1 z2 : Bool} {a b : List Rw} (hm : a.length < 9223372036854775807) (hr : ∀ r ∈ a,r.l.length < 9223372036854775807) : L.pcall 66 [.sl z1 a.length (a.map rwV),.sl z2 b.length (b.map rwV)] = some (.bool (decide (a.map Rw.l = b.map Rw.l))) := by
  by_cases hl : a.length = b.length
  · obtain ⟨j,h⟩ := yCK (z1 := z1) (z2 := z2) (H := []) hl hm hr a.length 0 (by omega)
    simp only [Int.natCast_zero,List.drop_zero] at h
    rw [yDd,a66,xAr]
    by_cases c : a.map Rw.l = b.map Rw.l
    · rw [if_pos c] at h
      rw [decide_eq_true c]
      rw [← hl] at h ⊢
      simp (maxSteps := 30000000) (disch := first | assumption | omega | (simp only [WL,AV.isCell] <;> omega) | rfl | decide) only [↓reduceIte,WB,xAC,xAc,xAB,xAk,xAj,AV.cells,AV.isCell,xAb,xAf,xAg,WP,xAt,xAm,xA0,xAZ,xAX,xAq,xAv,xAu,W2,xAd,xAe,xAh,Nat.reduceAdd,Nat.reduceSub,Nat.reduceLeDiff,Nat.reduceMul,Int.reduceAdd,Int.reduceSub,Int.reduceMul,Int.reduceLT,Int.reduceLE,Int.reduceEq,Int.reduceToNat,Int.reduceNeg,Nat.reduceEqDiff,Nat.reduceBEq,Nat.reduceLT,xAJ,xAK,List.length_map,xJC,h]
    · rw [if_neg c] at h
      rw [decide_eq_false c]
      rw [← hl] at h ⊢
      simp (maxSteps := 30000000) (disch := first | assumption | omega | (simp only [WL,AV.isCell] <;> omega) | rfl | decide) only [↓reduceIte,WB,xAC,xAc,xAB,xAk,xAj,AV.cells,AV.isCell,xAb,xAf,xAg,WP,xAt,xAm,xA0,xAZ,xAX,xAq,xAv,xAu,W2,xAd,xAe,xAh,Nat.reduceAdd,Nat.reduceSub,Nat.reduceLeDiff,Nat.reduceMul,Int.reduceAdd,Int.reduceSub,Int.reduceMul,Int.reduceLT,Int.reduceLE,Int.reduceEq,Int.reduceToNat,Int.reduceNeg,Nat.reduceEqDiff,Nat.reduceBEq,Nat.reduceLT,xAJ,xAK,List.length_map,xJC,h]
  · have hl' : (((a.length : Nat) : Int) = ((b.length : Nat) : Int)) = False := eq_false (by omega)
    rw [decide_eq_false (fun e => hl (by have := congrArg List.length e; simpa using this)),yDd,a66,xAr]
    simp (maxSteps := 30000000) (disch := first | assumption | omega | (simp only [WL,AV.isCell] <;> omega) | rfl | decide) only [↓reduceIte,WB,xAC,xAc,xAB,xAk,xAj,AV.cells,AV.isCell,xAb,xAf,xAg,WP,xAt,xAm,xA0,xAZ,xAX,xAq,xAv,xAu,W2,xAd,xAe,xAh,Nat.reduceAdd,Nat.reduceSub,Nat.reduceLeDiff,Nat.reduceMul,Int.reduceAdd,Int.reduceSub,Int.reduceMul,Int.reduceLT,Int.reduceLE,Int.reduceEq,Int.reduceToNat,Int.reduceNeg,Nat.reduceEqDiff,Nat.reduceBEq,Nat.reduceLT,xAJ,xAK,List.length_map,hl']
theorem yCL {z1 z2 : Bool} {a b : List Wd} {H : Heap} (hl : a.length = b.length) (hm : a.length < 9223372036854775807) (hr : ∀ r ∈ a,r.l.length < 9223372036854775807) : ∀ e i,i + e = a.length →
    ∃ j : Nat,L.loop xMM xWS ⟨xJE (.sl z1 a.length (a.map wdV)) (.sl z2 b.length (b.map wdV)) (.bool false) (.int .i64 (i : Nat)),H⟩ =
      some (if (a.drop i).map Wd.l = (b.drop i).map Wd.l then (.exit 0,⟨xJE (.sl z1 a.length (a.map wdV)) (.sl z2 b.length (b.map wdV)) (.bool false) (.int .i64 (a.length : Nat)),H⟩)
        else (.ret,⟨xJE (.sl z1 a.length (a.map wdV)) (.sl z2 b.length (b.map wdV)) (.bool false) (.int .i64 (j : Nat)),H⟩)) := by
  intro e
  induction e with
  | zero =>
    intro i h
    obtain rfl : i = a.length := by omega
    refine ⟨0,?_⟩
    rw [if_pos (by rw [List.drop_length,hl,List.drop_length]),xTz]
    simp (maxSteps := 30000000) (disch := first | assumption | omega | (simp only [WL,AV.isCell] <;> omega) | rfl | decide) only [↓reduceIte,WB,xAC,xAc,xAB,xAk,xAj,AV.cells,AV.isCell,xAb,xAf,xAg,WP,xAt,xAm,xA0,xAZ,xAX,xAq,xAv,xAu,W2,xAd,xAe,xAh,Nat.reduceAdd,Nat.reduceSub,Nat.reduceLeDiff,Nat.reduceMul,Int.reduceAdd,Int.reduceSub,Int.reduceMul,Int.reduceLT,Int.reduceLE,Int.reduceEq,Int.reduceToNat,Int.reduceNeg,Nat.reduceEqDiff,Nat.reduceBEq,Nat.reduceLT,xAJ,xAK,List.length_map,xJD,xJF]
  | succ e ih =>
    intro i h
    have hlt : (i : Int) < (a.length : Nat) := by omega
    obtain ⟨j,ih'⟩ := ih (i + 1) (by omega)
    rw [← hl] at ih' ⊢
    have hd := xRd Wd.l hl w0 (show i < a.length by omega)
    have hq := yCN (z1 := (a.getD i w0).z) (z2 := (b.getD i w0).z) (a := (a.getD i w0).l) (b := (b.getD i w0).l) (hr _ (xAA (by omega)))
    have v1 : wdV (a.getD i w0) = .sl (a.getD i w0).z (a.getD i w0).l.length (bs (a.getD i w0).l) := rfl
    have v2 : wdV (b.getD i w0) = .sl (b.getD i w0).z (b.getD i w0).l.length (bs (b.getD i w0).l) := rfl
    by_cases c : (a.getD i w0).l = (b.getD i w0).l
    · rw [decide_eq_true c] at hq
      refine ⟨j,?_⟩
      have hd' : ((a.drop i).map Wd.l = (b.drop i).map Wd.l) ↔ ((a.drop (i + 1)).map Wd.l = (b.drop (i + 1)).map Wd.l) := hd.trans ⟨fun h => h.2,fun h => ⟨c,h⟩⟩
      rw [xTz]
      by_cases e : (a.drop (i + 1)).map Wd.l = (b.drop (i + 1)).map Wd.l
      · rw [if_pos e] at ih'
        rw [if_pos (hd'.2 e)]
        simp (maxSteps := 30000000) (disch := first | assumption | omega | (simp only [WL,AV.isCell] <;> omega) | rfl | decide) only [↓reduceIte,WB,xAC,xAc,xAB,xAk,xAj,AV.cells,AV.isCell,xAb,xAf,xAg,WP,xAt,xAm,xA0,xAZ,xAX,xAq,xAv,xAu,W2,xAd,xAe,xAh,Nat.reduceAdd,Nat.reduceSub,Nat.reduceLeDiff,Nat.reduceMul,Int.reduceAdd,Int.reduceSub,Int.reduceMul,Int.reduceLT,Int.reduceLE,Int.reduceEq,Int.reduceToNat,Int.reduceNeg,Nat.reduceEqDiff,Nat.reduceBEq,Nat.reduceLT,xAJ,xAK,List.length_map,xJD,xJF,hlt,v1,v2,hq,ih']
      · rw [if_neg e] at ih'
        rw [if_neg (fun h => e (hd'.1 h))]
        simp (maxSteps := 30000000) (disch := first | assumption | omega | (simp only [WL,AV.isCell] <;> omega) | rfl | decide) only [↓reduceIte,WB,xAC,xAc,xAB,xAk,xAj,AV.cells,AV.isCell,xAb,xAf,xAg,WP,xAt,xAm,xA0,xAZ,xAX,xAq,xAv,xAu,W2,xAd,xAe,xAh,Nat.reduceAdd,Nat.reduceSub,Nat.reduceLeDiff,Nat.reduceMul,Int.reduceAdd,Int.reduceSub,Int.reduceMul,Int.reduceLT,Int.reduceLE,Int.reduceEq,Int.reduceToNat,Int.reduceNeg,Nat.reduceEqDiff,Nat.reduceBEq,Nat.reduceLT,xAJ,xAK,List.length_map,xJD,xJF,hlt,v1,v2,hq,ih']
    · rw [decide_eq_false c] at hq
      refine ⟨i,?_⟩
      rw [if_neg (fun h => c (hd.1 h).1),xTz]
      simp (maxSteps := 30000000) (disch := first | assumption | omega | (simp only [WL,AV.isCell] <;> omega) | rfl | decide) only [↓reduceIte,WB,xAC,xAc,xAB,xAk,xAj,AV.cells,AV.isCell,xAb,xAf,xAg,WP,xAt,xAm,xA0,xAZ,xAX,xAq,xAv,xAu,W2,xAd,xAe,xAh,Nat.reduceAdd,Nat.reduceSub,Nat.reduceLeDiff,Nat.reduceMul,Int.reduceAdd,Int.reduceSub,Int.reduceMul,Int.reduceLT,Int.reduceLE,Int.reduceEq,Int.reduceToNat,Int.reduceNeg,Nat.reduceEqDiff,Nat.reduceBEq,Nat.reduceLT,xAJ,xAK,List.length_map,xJD,xJF,hlt,v1,v2,hq]
theorem yDu {z1 z2 : Bool} {a b : List Wd} (hm : a.length < 9223372036854775807) (hr : ∀ r ∈ a,r.l.length < 9223372036854775807) : L.pcall 67 [.sl z1 a.length (a.map wdV),.sl z2 b.length (b.map wdV)] = some (.bool (decide (a.map Wd.l = b.map Wd.l))) := by
  by_cases hl : a.length = b.length
  · obtain ⟨j,h⟩ := yCL (z1 := z1) (z2 := z2) (H := []) hl hm hr a.length 0 (by omega)
    simp only [Int.natCast_zero,List.drop_zero] at h
    rw [yDe,a67,xAr]
    by_cases c : a.map Wd.l = b.map Wd.l
    · rw [if_pos c] at h
      rw [decide_eq_true c]
      rw [← hl] at h ⊢
      simp (maxSteps := 30000000) (disch := first | assumption | omega | (simp only [WL,AV.isCell] <;> omega) | rfl | decide) only [↓reduceIte,WB,xAC,xAc,xAB,xAk,xAj,AV.cells,AV.isCell,xAb,xAf,xAg,WP,xAt,xAm,xA0,xAZ,xAX,xAq,xAv,xAu,W2,xAd,xAe,xAh,Nat.reduceAdd,Nat.reduceSub,Nat.reduceLeDiff,Nat.reduceMul,Int.reduceAdd,Int.reduceSub,Int.reduceMul,Int.reduceLT,Int.reduceLE,Int.reduceEq,Int.reduceToNat,Int.reduceNeg,Nat.reduceEqDiff,Nat.reduceBEq,Nat.reduceLT,xAJ,xAK,List.length_map,xJF,h]
    · rw [if_neg c] at h
      rw [decide_eq_false c]
      rw [← hl] at h ⊢
      simp (maxSteps := 30000000) (disch := first | assumption | omega | (simp only [WL,AV.isCell] <;> omega) | rfl | decide) only [↓reduceIte,WB,xAC,xAc,xAB,xAk,xAj,AV.cells,AV.isCell,xAb,xAf,xAg,WP,xAt,xAm,xA0,xAZ,xAX,xAq,xAv,xAu,W2,xAd,xAe,xAh,Nat.reduceAdd,Nat.reduceSub,Nat.reduceLeDiff,Nat.reduceMul,Int.reduceAdd,Int.reduceSub,Int.reduceMul,Int.reduceLT,Int.reduceLE,Int.reduceEq,Int.reduceToNat,Int.reduceNeg,Nat.reduceEqDiff,Nat.reduceBEq,Nat.reduceLT,xAJ,xAK,List.length_map,xJF,h]
  · have hl' : (((a.length : Nat) : Int) = ((b.length : Nat) : Int)) = False := eq_false (by omega)
    rw [decide_eq_false (fun e => hl (by have := congrArg List.length e; simpa using this)),yDe,a67,xAr]
    simp (maxSteps := 30000000) (disch := first | assumption | omega | (simp only [WL,AV.isCell] <;> omega) | rfl | decide) only [↓reduceIte,WB,xAC,xAc,xAB,xAk,xAj,AV.cells,AV.isCell,xAb,xAf,xAg,WP,xAt,xAm,xA0,xAZ,xAX,xAq,xAv,xAu,W2,xAd,xAe,xAh,Nat.reduceAdd,Nat.reduceSub,Nat.reduceLeDiff,Nat.reduceMul,Int.reduceAdd,Int.reduceSub,Int.reduceMul,Int.reduceLT,Int.reduceLE,Int.reduceEq,Int.reduceToNat,Int.reduceNeg,Nat.reduceEqDiff,Nat.reduceBEq,Nat.reduceLT,xAJ,xAK,List.length_map,hl']
def yBI (a b : Mf) : Prop := a.i = b.i ∧ a.o = b.o ∧ a.s = b.s ∧ a.next.map Rw.l = b.next.map Rw.l ∧ a.emit.map Wd.l = b.emit.map Wd.l
theorem yBJ {a b : Mf} (h1 : a.next.length < 9223372036854775807) (h2 : a.emit.length < 9223372036854775807) (hr : ∀ r ∈ a.next,r.l.length < 9223372036854775807) (hw : ∀ r ∈ a.emit,r.l.length < 9223372036854775807) (hs : yBI a b) : L.pcall 29 [a.av,b.av] = some (.bool true) := by
  obtain ⟨e1,e2,e3,e4,e5⟩ := hs
  have q1 := yDt (z1 := a.z) (z2 := b.z) (a := a.next) (b := b.next) h1 hr
  have q2 := yDu (z1 := a.ze) (z2 := b.ze) (a := a.emit) (b := b.emit) h2 hw
  rw [decide_eq_true e4] at q1
  rw [decide_eq_true e5] at q2
  unfold Mf.av Mf.cells
  rw [yDb,a29,xAr]
  simp (maxSteps := 30000000) (disch := first | assumption | omega | (simp only [WL,AV.isCell] <;> omega) | rfl | decide) only [↓reduceIte,WB,xAC,xAc,xAB,xAk,xAj,AV.cells,AV.isCell,xAb,xAf,xAg,WP,xAt,xAm,xA0,xAZ,xAX,xAq,xAv,xAu,W2,xAd,xAe,xAh,Nat.reduceAdd,Nat.reduceSub,Nat.reduceLeDiff,Nat.reduceMul,Int.reduceAdd,Int.reduceSub,Int.reduceMul,Int.reduceLT,Int.reduceLE,Int.reduceEq,Int.reduceToNat,Int.reduceNeg,Nat.reduceEqDiff,Nat.reduceBEq,Nat.reduceLT,xAJ,xAK,List.length_map,e1,e2,e3,q1,q2]
theorem xSs {a b : Mf} (h1 : a.next.length < 9223372036854775807) (h2 : a.emit.length < 9223372036854775807) (hr : ∀ r ∈ a.next,r.l.length < 9223372036854775807) (hw : ∀ r ∈ a.emit,r.l.length < 9223372036854775807) (hs : ¬ yBI a b) : L.pcall 29 [a.av,b.av] = some (.bool false) := by
  have q1 := yDt (z1 := a.z) (z2 := b.z) (a := a.next) (b := b.next) h1 hr
  have q2 := yDu (z1 := a.ze) (z2 := b.ze) (a := a.emit) (b := b.emit) h2 hw
  unfold Mf.av Mf.cells
  rw [yDb,a29,xAr]
  by_cases e1 : a.i = b.i
  · by_cases e2 : a.o = b.o
    · by_cases e3 : a.s = b.s
      · by_cases e4 : a.next.map Rw.l = b.next.map Rw.l
        · by_cases e5 : a.emit.map Wd.l = b.emit.map Wd.l
          · exact absurd ⟨e1,e2,e3,e4,e5⟩ hs
          · rw [decide_eq_true e4] at q1
            rw [decide_eq_false e5] at q2
            simp (maxSteps := 30000000) (disch := first | assumption | omega | (simp only [WL,AV.isCell] <;> omega) | rfl | decide) only [↓reduceIte,WB,xAC,xAc,xAB,xAk,xAj,AV.cells,AV.isCell,xAb,xAf,xAg,WP,xAt,xAm,xA0,xAZ,xAX,xAq,xAv,xAu,W2,xAd,xAe,xAh,Nat.reduceAdd,Nat.reduceSub,Nat.reduceLeDiff,Nat.reduceMul,Int.reduceAdd,Int.reduceSub,Int.reduceMul,Int.reduceLT,Int.reduceLE,Int.reduceEq,Int.reduceToNat,Int.reduceNeg,Nat.reduceEqDiff,Nat.reduceBEq,Nat.reduceLT,xAJ,xAK,List.length_map,e1,e2,e3,q1,q2]
        · rw [decide_eq_false e4] at q1
          simp (maxSteps := 30000000) (disch := first | assumption | omega | (simp only [WL,AV.isCell] <;> omega) | rfl | decide) only [↓reduceIte,WB,xAC,xAc,xAB,xAk,xAj,AV.cells,AV.isCell,xAb,xAf,xAg,WP,xAt,xAm,xA0,xAZ,xAX,xAq,xAv,xAu,W2,xAd,xAe,xAh,Nat.reduceAdd,Nat.reduceSub,Nat.reduceLeDiff,Nat.reduceMul,Int.reduceAdd,Int.reduceSub,Int.reduceMul,Int.reduceLT,Int.reduceLE,Int.reduceEq,Int.reduceToNat,Int.reduceNeg,Nat.reduceEqDiff,Nat.reduceBEq,Nat.reduceLT,xAJ,xAK,List.length_map,e1,e2,e3,q1]
      · simp (maxSteps := 30000000) (disch := first | assumption | omega | (simp only [WL,AV.isCell] <;> omega) | rfl | decide) only [↓reduceIte,WB,xAC,xAc,xAB,xAk,xAj,AV.cells,AV.isCell,xAb,xAf,xAg,WP,xAt,xAm,xA0,xAZ,xAX,xAq,xAv,xAu,W2,xAd,xAe,xAh,Nat.reduceAdd,Nat.reduceSub,Nat.reduceLeDiff,Nat.reduceMul,Int.reduceAdd,Int.reduceSub,Int.reduceMul,Int.reduceLT,Int.reduceLE,Int.reduceEq,Int.reduceToNat,Int.reduceNeg,Nat.reduceEqDiff,Nat.reduceBEq,Nat.reduceLT,xAJ,xAK,List.length_map,e1,e2,e3]
    · simp (maxSteps := 30000000) (disch := first | assumption | omega | (simp only [WL,AV.isCell] <;> omega) | rfl | decide) only [↓reduceIte,WB,xAC,xAc,xAB,xAk,xAj,AV.cells,AV.isCell,xAb,xAf,xAg,WP,xAt,xAm,xA0,xAZ,xAX,xAq,xAv,xAu,W2,xAd,xAe,xAh,Nat.reduceAdd,Nat.reduceSub,Nat.reduceLeDiff,Nat.reduceMul,Int.reduceAdd,Int.reduceSub,Int.reduceMul,Int.reduceLT,Int.reduceLE,Int.reduceEq,Int.reduceToNat,Int.reduceNeg,Nat.reduceEqDiff,Nat.reduceBEq,Nat.reduceLT,xAJ,xAK,List.length_map,e1,e2]
  · simp (maxSteps := 30000000) (disch := first | assumption | omega | (simp only [WL,AV.isCell] <;> omega) | rfl | decide) only [↓reduceIte,WB,xAC,xAc,xAB,xAk,xAj,AV.cells,AV.isCell,xAb,xAf,xAg,WP,xAt,xAm,xA0,xAZ,xAX,xAq,xAv,xAu,W2,xAd,xAe,xAh,Nat.reduceAdd,Nat.reduceSub,Nat.reduceLeDiff,Nat.reduceMul,Int.reduceAdd,Int.reduceSub,Int.reduceMul,Int.reduceLT,Int.reduceLE,Int.reduceEq,Int.reduceToNat,Int.reduceNeg,Nat.reduceEqDiff,Nat.reduceBEq,Nat.reduceLT,xAJ,xAK,List.length_map,e1]
end Go.Abs.Mealy
