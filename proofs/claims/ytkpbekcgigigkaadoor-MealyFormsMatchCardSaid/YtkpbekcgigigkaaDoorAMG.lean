/- What comes in. -/
import Derived.Test.YtkpbekcgigigkaaDoorAMB
import Derived.Test.YtkpbekcgigigkaaDoorAMA
import Derived.Test.YtkpbekcgigigkaaDoorAbsIn
import Derived.Test.YtkpbekcgigigkaaDoorAbsBun
namespace Go.Abs.Mealy
open Go Go.Abs
set_option linter.unusedSimpArgs false
set_option linter.unusedVariables false
abbrev TMa : TS := ⟨true,[.int .i64,.int .i64,.int .i64,.sl [.sl [.int .i64]],.sl [.sl [.int .u8]]]⟩
theorem xFZ {α : Type} {f : α → AV} {P : α → Prop} : ∀ (cs : List AV),(∀ x ∈ cs,∃ a,x = f a ∧ P a) → ∃ l : List α,cs = l.map f ∧ ∀ a ∈ l,P a
 | [],_ => ⟨[],rfl,by simp⟩
 | c :: cs,h => by
  obtain ⟨a,rfl,ha⟩ := h c (by simp)
  obtain ⟨l,rfl,hl⟩ := xFZ cs (fun x hx => h x (by simp [hx]))
  exact ⟨a :: l,rfl,by simpa using ⟨ha,hl⟩⟩
theorem yFm {a : AV} (h : Fit (.sl [.int .i64]) a) : ∃ r,a = rwV r ∧ (r.z = true → r.l = []) := by
 obtain ⟨z,cs,rfl,hz,_,hf⟩ := xM0 h
 obtain ⟨l,rfl,_⟩ := xFZ (f := fun n : Int => AV.int .i64 n) (P := fun _ => True) cs (fun x hx => by obtain ⟨n,rfl,_⟩ := xMZ (hf x hx); exact ⟨n,rfl,trivial⟩)
 exact ⟨⟨z,l⟩,by simp [rwV,xB3],by simpa using hz⟩
theorem yFn {a : AV} (h : Fit (.sl [.int .u8]) a) : ∃ w : Wd,a = wdV w ∧ (w.z = true → w.l = []) ∧ ∀ x ∈ w.l,x < 256 := by
 obtain ⟨z,cs,rfl,hz,_,hf⟩ := xM0 h
 obtain ⟨l,rfl,hl⟩ := xFZ (f := fun n : Nat => AV.int .u8 n) (P := fun n => n < 256) cs (fun x hx => by obtain ⟨n,rfl,h⟩ := yCb (hf x hx); exact ⟨n,rfl,h⟩)
 exact ⟨⟨z,l⟩,by simp [wdV,bs],by simpa using hz,hl⟩
structure In (m : Mf) : Prop where
 i : -9223372036854775808 ≤ m.i ∧ m.i < 9223372036854775808
 o : -9223372036854775808 ≤ m.o ∧ m.o < 9223372036854775808
 s : -9223372036854775808 ≤ m.s ∧ m.s < 9223372036854775808
 cn : Cn m
 nl : m.next.length ≤ 9223372036854775807
 b : ∀ w ∈ m.emit,∀ x ∈ w.l,x < 256
theorem yB9 {a : AV} (h : xY8 TMa a) : ∃ m : Mf,a = m.av ∧ In m := by
 obtain ⟨cs,rfl,h'⟩ := xX3 h
 obtain ⟨a1,cs,rfl,h1,h'⟩ := xCT h'
 obtain ⟨a2,cs,rfl,h2,h'⟩ := xCT h'
 obtain ⟨a3,cs,rfl,h3,h'⟩ := xCT h'
 obtain ⟨a4,cs,rfl,h4,h'⟩ := xCT h'
 obtain ⟨a5,cs,rfl,h5,h'⟩ := xCT h'
 obtain rfl := xUF h'
 obtain ⟨i,rfl,b1⟩ := xMZ h1
 obtain ⟨o,rfl,b2⟩ := xMZ h2
 obtain ⟨s,rfl,b3⟩ := xMZ h3
 obtain ⟨z,c4,rfl,z4,q4,hf⟩ := xM0 h4
 obtain ⟨nx,rfl,p4⟩ := xFZ (f := rwV) (P := fun r => r.z = true → r.l = []) c4 (fun x hx => yFm (hf x hx))
 obtain ⟨ze,c5,rfl,z5,_,hf5⟩ := xM0 h5
 obtain ⟨emi,rfl,p5⟩ := xFZ (f := wdV) (P := fun r => (r.z = true → r.l = []) ∧ ∀ x ∈ r.l,x < 256) c5 (fun x hx => yFn (hf5 x hx))
 exact ⟨⟨i,o,s,z,nx,ze,emi⟩,by simp [Mf.av,Mf.cells],⟨⟨b1.1,Int.lt_of_le_of_lt b1.2 (by decide)⟩,⟨b2.1,Int.lt_of_le_of_lt b2.2 (by decide)⟩,⟨b3.1,Int.lt_of_le_of_lt b3.2 (by decide)⟩,⟨by simpa using z4,by simpa using z5,p4,fun w hw => (p5 w hw).1⟩,by simpa [maxLen] using q4,fun w hw => (p5 w hw).2⟩⟩
def xJC (l : List Rw) : Bool := l.any fun r => decide (66 < r.l.length)
def xJD (l : List Wd) : Bool := l.any fun r => decide (66 < r.l.length)
def xDZ (m : Mf) : Bool := decide (14 < m.next.length ∨ 16 < m.emit.length) || xJC m.next || xJD m.emit
section
variable {cs : List AV} {nm k : Nat} {m : Mf} {s3 s4 s5 : AV} {H : Heap}
theorem yFo (hk : k < nm) (hcs : cs.length = nm * 5) (h3 : List.take 1 (List.drop (k * 5 + 3) cs) = [.sl m.z m.next.length (m.next.map rwV)]) (hn : m.next.length ≤ 14) (hnm : nm < 100) : ∀ e i,i + e = m.next.length →
  ∃ j : Nat,L.loop xNQ xZC ⟨xJ0 (.sl false nm cs) (.bool false) (.int .i64 (k : Nat)) (.int .i64 (i : Nat)),H⟩ =
   some (if xJC (m.next.drop i) = true then (.ret,⟨xJ0 (.sl false nm cs) (.bool true) (.int .i64 (k : Nat)) (.int .i64 (j : Nat)),H⟩)
    else (.exit 2,⟨xJ0 (.sl false nm cs) (.bool false) (.int .i64 (k : Nat)) (.int .i64 (m.next.length : Nat)),H⟩)) := by
 intro e
 induction e with
 | zero =>
  intro i h
  obtain rfl : i = m.next.length := by omega
  refine ⟨0,?_⟩
  rw [if_neg (by rw [List.drop_length]; simp [xJC]),xVy]
  simp (maxSteps := 30000000) (disch := first | assumption | omega | (simp only [WL,AV.isCell] <;> omega) | rfl | decide) only [xJZ,WB,h3,↓reduceIte,xGL]
 | succ e ih =>
  intro i h
  have hlt : (i : Int) < (m.next.length : Nat) := by omega
  obtain ⟨j,ih'⟩ := ih (i + 1) (by omega)
  have hrv : rwV (m.next.getD i r0) = .sl (m.next.getD i r0).z (m.next.getD i r0).l.length (xB3 (m.next.getD i r0).l) := rfl
  rw [xAD (a := r0) (by omega : i < m.next.length)]
  have et : ∀ t,xJC (m.next.getD i r0 :: t) = (decide (66 < (m.next.getD i r0).l.length) || xJC t) := fun _ => rfl
  rw [et]
  by_cases c : 66 < (m.next.getD i r0).l.length
  ·have c' : (66 : Int) < ((m.next.getD i r0).l.length : Nat) := by omega
   refine ⟨i,?_⟩
   rw [decide_eq_true c,Bool.true_or,if_pos rfl,xVy]
   simp (maxSteps := 30000000) (disch := first | assumption | omega | (simp only [WL,AV.isCell] <;> omega) | rfl | decide) only [xJZ,WB,h3,hlt,↓reduceIte,xBr,hrv,c',xGL]
  ·have c' : ¬ (66 : Int) < ((m.next.getD i r0).l.length : Nat) := by omega
   refine ⟨j,?_⟩
   rw [decide_eq_false c,Bool.false_or,xVy]
   by_cases e : xJC (m.next.drop (i + 1)) = true
   ·rw [if_pos e] at ih' ⊢
    simp (maxSteps := 30000000) (disch := first | assumption | omega | (simp only [WL,AV.isCell] <;> omega) | rfl | decide) only [xJZ,WB,h3,hlt,↓reduceIte,xBr,hrv,c',xGL,ih']
   ·rw [if_neg e] at ih' ⊢
    simp (maxSteps := 30000000) (disch := first | assumption | omega | (simp only [WL,AV.isCell] <;> omega) | rfl | decide) only [xJZ,WB,h3,hlt,↓reduceIte,xBr,hrv,c',xGL,ih']
theorem yFp (hk : k < nm) (hcs : cs.length = nm * 5) (h3 : List.take 1 (List.drop (k * 5 + 4) cs) = [.sl m.ze m.emit.length (m.emit.map wdV)]) (hn : m.emit.length ≤ 16) (hnm : nm < 100) : ∀ e i,i + e = m.emit.length →
  ∃ j : Nat,L.loop xNR xZD ⟨xJ2 (.sl false nm cs) (.bool false) (.int .i64 (k : Nat)) (.int .i64 (i : Nat)),H⟩ =
   some (if xJD (m.emit.drop i) = true then (.ret,⟨xJ2 (.sl false nm cs) (.bool true) (.int .i64 (k : Nat)) (.int .i64 (j : Nat)),H⟩)
    else (.exit 4,⟨xJ2 (.sl false nm cs) (.bool false) (.int .i64 (k : Nat)) (.int .i64 (m.emit.length : Nat)),H⟩)) := by
 intro e
 induction e with
 | zero =>
  intro i h
  obtain rfl : i = m.emit.length := by omega
  refine ⟨0,?_⟩
  rw [if_neg (by rw [List.drop_length]; simp [xJD]),xVz]
  simp (maxSteps := 30000000) (disch := first | assumption | omega | (simp only [WL,AV.isCell] <;> omega) | rfl | decide) only [xJ1,WB,h3,↓reduceIte,xH3]
 | succ e ih =>
  intro i h
  have hlt : (i : Int) < (m.emit.length : Nat) := by omega
  obtain ⟨j,ih'⟩ := ih (i + 1) (by omega)
  have hrv : wdV (m.emit.getD i w0) = .sl (m.emit.getD i w0).z (m.emit.getD i w0).l.length (bs (m.emit.getD i w0).l) := rfl
  rw [xAD (a := w0) (by omega : i < m.emit.length)]
  have et : ∀ t,xJD (m.emit.getD i w0 :: t) = (decide (66 < (m.emit.getD i w0).l.length) || xJD t) := fun _ => rfl
  rw [et]
  by_cases c : 66 < (m.emit.getD i w0).l.length
  ·have c' : (66 : Int) < ((m.emit.getD i w0).l.length : Nat) := by omega
   refine ⟨i,?_⟩
   rw [decide_eq_true c,Bool.true_or,if_pos rfl,xVz]
   simp (maxSteps := 30000000) (disch := first | assumption | omega | (simp only [WL,AV.isCell] <;> omega) | rfl | decide) only [xJ1,WB,h3,hlt,↓reduceIte,xBk,hrv,c',xH3]
  ·have c' : ¬ (66 : Int) < ((m.emit.getD i w0).l.length : Nat) := by omega
   refine ⟨j,?_⟩
   rw [decide_eq_false c,Bool.false_or,xVz]
   by_cases e : xJD (m.emit.drop (i + 1)) = true
   ·rw [if_pos e] at ih' ⊢
    simp (maxSteps := 30000000) (disch := first | assumption | omega | (simp only [WL,AV.isCell] <;> omega) | rfl | decide) only [xJ1,WB,h3,hlt,↓reduceIte,xBk,hrv,c',xH3,ih']
   ·rw [if_neg e] at ih' ⊢
    simp (maxSteps := 30000000) (disch := first | assumption | omega | (simp only [WL,AV.isCell] <;> omega) | rfl | decide) only [xJ1,WB,h3,hlt,↓reduceIte,xBk,hrv,c',xH3,ih']
end
def xDT (ms : List Mf) : List AV := rows Mf.cells ms
theorem xMW (l : List Mf) : (xDT l).length = l.length * 5 := xFb (enc := Mf.cells) (k := 5) (fun _ => rfl) l
def m0 : Mf := ⟨0,0,0,true,[],true,[]⟩
theorem xPX {l : List Mf} {i : Nat} (h : i < l.length) : List.drop (i * 5) (xDT l) = (l.getD i m0).cells ++ xDT (l.drop (i + 1)) := by
 unfold xDT
 rw [xJh (enc := Mf.cells) (k := 5) (fun _ => rfl),xAD (a := m0) h]
 rfl
theorem yAp {l : List Mf} {i : Nat} (h : i < l.length) : List.take 1 (List.drop (i * 5 + 3) (xDT l)) = [.sl (l.getD i m0).z (l.getD i m0).next.length ((l.getD i m0).next.map rwV)] := by
 rw [← List.drop_drop,xPX h]; rfl
theorem yAq {l : List Mf} {i : Nat} (h : i < l.length) : List.take 1 (List.drop (i * 5 + 4) (xDT l)) = [.sl (l.getD i m0).ze (l.getD i m0).emit.length ((l.getD i m0).emit.map wdV)] := by
 rw [← List.drop_drop,xPX h]; rfl
theorem yDv {ms : List Mf} {H : Heap} (hm : ms.length < 100) : ∀ e i,i + e = ms.length →
  ∃ j : Nat,L.loop xNS xZE ⟨xJ3 (.sl false ms.length (xDT ms)) (.bool false) (.int .i64 (i : Nat)),H⟩ =
   some (if (ms.drop i).any xDZ = true then (.ret,⟨xJ3 (.sl false ms.length (xDT ms)) (.bool true) (.int .i64 (j : Nat)),H⟩)
    else (.exit 0,⟨xJ3 (.sl false ms.length (xDT ms)) (.bool false) (.int .i64 (ms.length : Nat)),H⟩)) := by
 have hcl := xMW ms
 intro e
 induction e with
 | zero =>
  intro i h
  obtain rfl : i = ms.length := by omega
  refine ⟨0,?_⟩
  rw [if_neg (by rw [List.drop_length]; simp),xJ4]
  simp (maxSteps := 30000000) (disch := first | assumption | omega | (simp only [WL,AV.isCell] <;> omega) | rfl | decide) only [xFD,WB,↓reduceIte,xFE]
 | succ e ih =>
  intro i h
  have hlt : (i : Int) < (ms.length : Nat) := by omega
  obtain ⟨j,ih'⟩ := ih (i + 1) (by omega)
  have h3 := yAp (l := ms) (i := i) (by omega)
  have h4 := yAq (l := ms) (i := i) (by omega)
  rw [xAD (a := m0) (by omega : i < ms.length),List.any_cons]
  generalize hM : ms.getD i m0 = m at *
  by_cases c1 : 14 < m.next.length
  ·have e0 : xDZ m = true := by simp [xDZ,c1]
   have c1' : (14 : Int) < (m.next.length : Nat) := by omega
   refine ⟨i,?_⟩
   rw [e0,Bool.true_or,if_pos rfl,xJ4]
   simp (maxSteps := 30000000) (disch := first | assumption | omega | (simp only [WL,AV.isCell] <;> omega) | rfl | decide) only [xFD,WB,hlt,↓reduceIte,h3,c1',xFE]
  have c1' : ¬ (14 : Int) < (m.next.length : Nat) := by omega
  by_cases c2 : 16 < m.emit.length
  ·have e0 : xDZ m = true := by simp [xDZ,c2]
   have c2' : (16 : Int) < (m.emit.length : Nat) := by omega
   refine ⟨i,?_⟩
   rw [e0,Bool.true_or,if_pos rfl,xJ4]
   simp (maxSteps := 30000000) (disch := first | assumption | omega | (simp only [WL,AV.isCell] <;> omega) | rfl | decide) only [xFD,WB,hlt,↓reduceIte,h3,c1',h4,c2',xFE]
  have c2' : ¬ (16 : Int) < (m.emit.length : Nat) := by omega
  obtain ⟨j1,hr⟩ := yFo (H := H) (k := i) (nm := ms.length) (m := m) (by omega) hcl h3 (by omega) hm _ 0 (Nat.zero_add _)
  obtain ⟨j2,hw⟩ := yFp (H := H) (k := i) (nm := ms.length) (m := m) (by omega) hcl h4 (by omega) hm _ 0 (Nat.zero_add _)
  simp only [Int.natCast_zero,List.drop_zero] at hr hw
  have eM : xDZ m = (xJC m.next || xJD m.emit) := by simp [xDZ,c1,c2]
  rw [eM]
  by_cases c3 : xJC m.next = true
  ·rw [if_pos c3] at hr
   refine ⟨i,?_⟩
   rw [c3,Bool.true_or,Bool.true_or,if_pos rfl,xJ4]
   simp (maxSteps := 30000000) (disch := first | assumption | omega | (simp only [WL,AV.isCell] <;> omega) | rfl | decide) only [xFD,WB,hlt,↓reduceIte,h3,c1',h4,c2',xGL,hr,xFE]
  rw [if_neg c3] at hr
  by_cases c4 : xJD m.emit = true
  ·rw [if_pos c4] at hw
   refine ⟨i,?_⟩
   rw [c4,Bool.or_true,Bool.true_or,if_pos rfl,xJ4]
   simp (maxSteps := 30000000) (disch := first | assumption | omega | (simp only [WL,AV.isCell] <;> omega) | rfl | decide) only [xFD,WB,hlt,↓reduceIte,h3,c1',h4,c2',xGL,hr,xH3,hw,xFE]
  rw [if_neg c4] at hw
  have c3' : xJC m.next = false := by simpa using c3
  have c4' : xJD m.emit = false := by simpa using c4
  refine ⟨j,?_⟩
  rw [c3',c4',Bool.false_or,Bool.false_or,xJ4]
  by_cases e : (ms.drop (i + 1)).any xDZ = true
  ·rw [if_pos e] at ih' ⊢
   simp (maxSteps := 30000000) (disch := first | assumption | omega | (simp only [WL,AV.isCell] <;> omega) | rfl | decide) only [xFD,WB,hlt,↓reduceIte,h3,c1',h4,c2',xGL,hr,xH3,hw,xFE,ih']
  ·rw [if_neg e] at ih' ⊢
   simp (maxSteps := 30000000) (disch := first | assumption | omega | (simp only [WL,AV.isCell] <;> omega) | rfl | decide) only [xFD,WB,hlt,↓reduceIte,h3,c1',h4,c2',xGL,hr,xH3,hw,xFE,ih']
theorem yFq (ms : List Mf) (hm : ms.length < 100) : L.pcall 11 [.sl false ms.length (xDT ms)] = some (.bool (ms.any xDZ)) := by
 obtain ⟨j,h⟩ := yDv (ms := ms) (H := []) hm _ 0 (Nat.zero_add _)
 simp only [Int.natCast_zero,List.drop_zero] at h
 rw [yHK,a11,xAf]
 cases c : ms.any xDZ with
 | true =>
  rw [if_pos c] at h
  simp (maxSteps := 30000000) (disch := first | assumption | omega | (simp only [WL,AV.isCell] <;> omega) | rfl | decide) only [WB,Nat.reduceSub,xFE,h]
 | false =>
  rw [if_neg (by simp [c])] at h
  simp (maxSteps := 30000000) (disch := first | assumption | omega | (simp only [WL,AV.isCell] <;> omega) | rfl | decide) only [WB,Nat.reduceSub,xFE,h,↓reduceIte]
theorem yAr (a b : Mf) : L.pcall 11 [.sl false 2 (a.cells ++ b.cells)] = some (.bool (xDZ a || xDZ b)) := by
 have h := yFq [a,b] (by simp)
 have e : xDT [a,b] = a.cells ++ b.cells := by unfold xDT rows; simp
 rw [e] at h
 simpa using h
theorem xTc {m : Mf} (hI : In m) (h : xDZ m = false) : Sm m := by
 unfold xDZ at h
 simp only [Bool.or_eq_false_iff,decide_eq_false_iff_not,xJC,xJD,List.any_eq_false] at h
 obtain ⟨⟨h1,h2⟩,h3⟩ := h
 refine ⟨hI.i,hI.o,by omega,by omega,fun r hr => ?_,fun w hw => ?_,hI.b⟩
 ·have := h2 r hr
  simp at this; omega
 ·have := h3 w hw
  simp at this; omega
end Go.Abs.Mealy
