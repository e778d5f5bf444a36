/- Check and CheckMoore of any machine. -/
import Derived.Test.YtkpbekcgigigkaaDoorAbsBun
import Derived.Test.YtkpbekcgigigkaaDoorAMA
namespace Go.Abs.Mealy
open Go Go.Abs
set_option linter.unusedSimpArgs false
set_option linter.unusedVariables false
def two (m : Nat) : Nat := 2 ^ m
theorem xTw {v : Nat} (h : v ≤ 6) : two v ≤ 64 ∧ 0 < two v := by
 have : v = 0 ∨ v = 1 ∨ v = 2 ∨ v = 3 ∨ v = 4 ∨ v = 5 ∨ v = 6 := by omega
 unfold two
 rcases this with e | e | e | e | e | e | e <;> rw [e] <;> decide
theorem xDN {v : Nat} (h : v ≤ 6) : IntKind.i64.wrap (1 * 2 ^ min v IntKind.i64.bits) = (two v : Nat) := by
 have : v = 0 ∨ v = 1 ∨ v = 2 ∨ v = 3 ∨ v = 4 ∨ v = 5 ∨ v = 6 := by omega
 rcases this with rfl | rfl | rfl | rfl | rfl | rfl | rfl <;> decide
def xTx (k : Nat) (l : List Nat) : Bool := l.any fun x => decide (k ≤ x)
theorem xTy {k : Nat} (h : 0 < k) : ∀ l,xTx k l = decide (k ≤ xJE l)
 | [] => by simp [xTx,xJE]; omega
 | x :: t => by
  have ih := xTy h t
  unfold xTx at ih ⊢
  rw [List.any_cons,ih,xJE]
  by_cases c : k ≤ x
  ·rw [decide_eq_true c,decide_eq_true (show k ≤ max x (xJE t) by omega)]; rfl
  ·rw [decide_eq_false c]
   by_cases c2 : k ≤ xJE t
   ·rw [decide_eq_true c2,decide_eq_true (show k ≤ max x (xJE t) by omega)]; rfl
   ·rw [decide_eq_false c2,decide_eq_false (show ¬ k ≤ max x (xJE t) by omega)]; rfl
theorem xYe {b : Nat} (hb : 0 < b) : ∀ {l : List Nat},(∀ x ∈ l,x < b) → xJE l < b
 | [],_ => hb
 | x :: t,h => by
  have h1 := h x (by simp)
  have h2 := xYe hb (l := t) fun y hy => h y (by simp [hy])
  simp only [xJE]; omega
def xF1 (n wi wo : Nat) (r : Rw) (e : Wd) : Int := if r.l.length = wi ∧ e.l.length = wi then (if xQ3 n r.l = true then 8 else if xTx wo e.l = true then 1 else 0) else 2
def xCu (n wi wo : Nat) : List Rw → List Wd → Int
 | r :: t,e :: u => if xF1 n wi wo r e = 0 then xCu n wi wo t u else xF1 n wi wo r e
 | _,_ => 0
def xEI (m : Mf) : Int := if xDU m.i m.o (m.next.length : Nat) (m.emit.length : Nat) m.s = 0 then xCu m.next.length (two m.i.toNat) (two m.o.toNat) m.next m.emit else xDU m.i m.o (m.next.length : Nat) (m.emit.length : Nat) m.s
structure Sm (m : Mf) : Prop where
 i : -9223372036854775808 ≤ m.i ∧ m.i < 9223372036854775808
 o : -9223372036854775808 ≤ m.o ∧ m.o < 9223372036854775808
 n : m.next.length ≤ 100000
 e : m.emit.length ≤ 100000
 r : ∀ r ∈ m.next,r.l.length ≤ 100000
 w : ∀ w ∈ m.emit,w.l.length ≤ 100000
 b : ∀ w ∈ m.emit,∀ x ∈ w.l,x < 256
theorem xFd {i o n k s : Int} (h : xDU i o n k s = 0) : 0 ≤ i ∧ 0 ≤ o ∧ i + o ≤ 6 ∧ 0 ≠ n ∧ n ≤ 4096 ∧ k = n ∧ 0 ≤ s ∧ s < n := by
 unfold xDU at h
 split at h
 ·omega
 split at h
 ·omega
 split at h
 ·omega
 split at h
 ·omega
 split at h
 ·omega
 omega
theorem xTz {a b : Nat} (h : ¬ a = b) : (((a : Nat) : Int) = ((b : Nat) : Int)) = False := eq_false (by omega)
section
variable {m : Mf} {mi mo : Nat}
theorem yAy (hS : Sm m) (hi : m.i = (mi : Nat)) (ho : m.o = (mo : Nat)) (hi6 : mi ≤ 6) (ho6 : mo ≤ 6) (hne : m.emit.length = m.next.length) : ∀ e i,i + e = m.next.length →
  ∃ i' : Nat,L.loop xNT xZF ⟨xJ5 (.ptr 0 0) (.int .i64 0) (.int .i64 (m.next.length : Nat)) (.sl m.z m.next.length (m.next.map rwV)) (.int .i64 (m.next.length : Nat)) (.int .i64 (i : Nat)),[.cells false false m.cells]⟩ =
   some (if xCu m.next.length (two mi) (two mo) (m.next.drop i) (m.emit.drop i) = 0 then (.exit 0,⟨xJ5 (.ptr 0 0) (.int .i64 0) (.int .i64 (m.next.length : Nat)) (.sl m.z m.next.length (m.next.map rwV)) (.int .i64 (m.next.length : Nat)) (.int .i64 (m.next.length : Nat)),[.cells false false m.cells]⟩)
    else (.ret,⟨xJ5 (.ptr 0 0) (.int .i64 (xCu m.next.length (two mi) (two mo) (m.next.drop i) (m.emit.drop i))) (.int .i64 (m.next.length : Nat)) (.sl m.z m.next.length (m.next.map rwV)) (.int .i64 (m.next.length : Nat)) (.int .i64 (i' : Nat)),[.cells false false m.cells]⟩)) := by
 have hn := hS.n
 have hsi := xDN hi6
 have hso := xDN ho6
 have htwo := (xTw hi6).2
 have htwo' := (xTw ho6).2
 have hi0 : ¬ ((mi : Nat) : Int) < 0 := by omega
 have ho0 : ¬ ((mo : Nat) : Int) < 0 := by omega
 unfold Mf.cells
 rw [hi,ho]
 intro e
 induction e with
 | zero =>
  intro i h
  obtain rfl : i = m.next.length := by omega
  refine ⟨0,?_⟩
  rw [if_pos (by rw [List.drop_length]; rfl),xJ6]
  simp (maxSteps := 30000000) (disch := first | assumption | omega | (simp only [WL,AV.isCell] <;> omega) | rfl | decide) only [xFF,WB,↓reduceIte,xFG]
 | succ e ih =>
  intro i h
  have hlt : (i : Int) < (m.next.length : Nat) := by omega
  obtain ⟨i',ih'⟩ := ih (i + 1) (by omega)
  have hr1 := xAh (a := r0) (show i < m.next.length by omega)
  have hw1 := xAh (a := w0) (show i < m.emit.length by omega)
  have hr := hS.r _ hr1
  have hw := hS.w _ hw1
  have hb := xYe (by decide) (hS.b _ hw1)
  have h60 := xX5 (z := (m.next.getD i r0).z) (l := (m.next.getD i r0).l) (n := (m.next.length : Nat)) (by omega)
  have h61 : (m.emit.getD i w0).l.length = two mi → _ := fun e => yGZ (z := (m.emit.getD i w0).z) (l := (m.emit.getD i w0).l) (by omega) (by omega)
  have hbig := xTy htwo' (m.emit.getD i w0).l
  rw [xAD (a := r0) (by omega : i < m.next.length),xAD (a := w0) (by omega : i < m.emit.length)]
  have et : ∀ n wi wo r t e u,xCu n wi wo (r :: t) (e :: u) = if xF1 n wi wo r e = 0 then xCu n wi wo t u else xF1 n wi wo r e := fun _ _ _ _ _ _ _ => rfl
  rw [et]
  generalize hR : m.next.getD i r0 = R at *
  generalize hW : m.emit.getD i w0 = W at *
  have hrv : rwV R = .sl R.z R.l.length (xB3 R.l) := rfl
  have hwv : wdV W = .sl W.z W.l.length (bs W.l) := rfl
  by_cases c1 : R.l.length = two mi
  ·by_cases c2 : W.l.length = two mi
   ·have h61' := h61 c2
    rw [c2] at h61'
    rw [c1] at h60
    cases c3 : xQ3 m.next.length R.l with
    | true =>
     have e0 : xF1 m.next.length (two mi) (two mo) R W = 8 := by unfold xF1; rw [if_pos ⟨c1,c2⟩,if_pos c3]
     rw [c3] at h60
     simp only [e0,if_neg (show ¬ (8 : Int) = 0 by decide)]
     refine ⟨i,?_⟩
     rw [xJ6]
     simp (maxSteps := 30000000) (disch := first | assumption | omega | (simp only [WL,AV.isCell] <;> omega) | rfl | decide) only [xFF,WB,hlt,↓reduceIte,xBr,hR,hrv,c1,hsi,xBk,hW,hwv,c2,xAc,h60,xBL,xAF,xFG]
    | false =>
     rw [c3] at h60
     cases c4 : xTx (two mo) W.l with
     | true =>
      have e0 : xF1 m.next.length (two mi) (two mo) R W = 1 := by unfold xF1; rw [if_pos ⟨c1,c2⟩,if_neg (by simp [c3]),if_pos c4]
      rw [c4] at hbig
      have c5 : ((two mo : Nat) : Int) ≤ (xJE W.l : Nat) := by have := of_decide_eq_true hbig.symm; omega
      simp only [e0,if_neg (show ¬ (1 : Int) = 0 by decide)]
      refine ⟨i,?_⟩
      rw [xJ6]
      simp (maxSteps := 30000000) (disch := first | assumption | omega | (simp only [WL,AV.isCell] <;> omega) | rfl | decide) only [xFF,WB,hlt,↓reduceIte,xBr,hR,hrv,c1,hsi,xBk,hW,hwv,c2,xAc,h60,xBL,xAF,h61',hso,c5,xFG]
     | false =>
      have e0 : xF1 m.next.length (two mi) (two mo) R W = 0 := by unfold xF1; rw [if_pos ⟨c1,c2⟩,if_neg (by simp [c3]),if_neg (by simp [c4])]
      rw [c4] at hbig
      have c5 : ¬ ((two mo : Nat) : Int) ≤ (xJE W.l : Nat) := by have := of_decide_eq_false hbig.symm; omega
      rw [if_pos e0]
      refine ⟨i',?_⟩
      rw [xJ6]
      by_cases e : xCu m.next.length (two mi) (two mo) (m.next.drop (i + 1)) (m.emit.drop (i + 1)) = 0
      ·rw [if_pos e] at ih' ⊢
       simp (maxSteps := 30000000) (disch := first | assumption | omega | (simp only [WL,AV.isCell] <;> omega) | rfl | decide) only [xFF,WB,hlt,↓reduceIte,xBr,hR,hrv,c1,hsi,xBk,hW,hwv,c2,xAc,h60,xBL,xAF,h61',hso,c5,xFG,ih']
      ·rw [if_neg e] at ih' ⊢
       simp (maxSteps := 30000000) (disch := first | assumption | omega | (simp only [WL,AV.isCell] <;> omega) | rfl | decide) only [xFF,WB,hlt,↓reduceIte,xBr,hR,hrv,c1,hsi,xBk,hW,hwv,c2,xAc,h60,xBL,xAF,h61',hso,c5,xFG,ih']
   ·have e0 : xF1 m.next.length (two mi) (two mo) R W = 2 := by unfold xF1; rw [if_neg (fun h => c2 h.2)]
    have c2' := xTz c2
    simp only [e0,if_neg (show ¬ (2 : Int) = 0 by decide)]
    refine ⟨i,?_⟩
    rw [xJ6]
    simp (maxSteps := 30000000) (disch := first | assumption | omega | (simp only [WL,AV.isCell] <;> omega) | rfl | decide) only [xFF,WB,hlt,↓reduceIte,xBr,hR,hrv,c1,hsi,xBk,hW,hwv,xAc,c2',xFG]
  ·have e0 : xF1 m.next.length (two mi) (two mo) R W = 2 := by unfold xF1; rw [if_neg (fun h => c1 h.1)]
   have c1' := xTz c1
   simp only [e0,if_neg (show ¬ (2 : Int) = 0 by decide)]
   refine ⟨i,?_⟩
   rw [xJ6]
   simp (maxSteps := 30000000) (disch := first | assumption | omega | (simp only [WL,AV.isCell] <;> omega) | rfl | decide) only [xFF,WB,hlt,↓reduceIte,xBr,hR,hrv,hsi,c1',xAc,xFG]
theorem xJl (hS : Sm m) : L.pcall 21 [m.av] = some (.int .i64 (xEI m)) := by
 have hz := yDB (n := (m.next.length : Nat)) (k := (m.emit.length : Nat)) (s := m.s) hS.i hS.o
 unfold xEI
 unfold Mf.av
 by_cases c : xDU m.i m.o (m.next.length : Nat) (m.emit.length : Nat) m.s = 0
 ·rw [if_pos c]
  have hc := xFd c
  rw [c] at hz
  obtain ⟨i',h⟩ := yAy (m := m) (mi := m.i.toNat) (mo := m.o.toNat) hS (by omega) (by omega) (by omega) (by omega) (by omega) m.next.length 0 (by omega)
  simp only [Int.natCast_zero,List.drop_zero] at h
  unfold Mf.cells at h ⊢
  rw [yHj,a21,xAf]
  by_cases e : xCu m.next.length (two m.i.toNat) (two m.o.toNat) m.next m.emit = 0
  ·rw [if_pos e] at h
   rw [e]
   simp (maxSteps := 30000000) (disch := first | assumption | omega | (simp only [WL,AV.isCell] <;> omega) | rfl | decide) only [WB,Nat.reduceSub,AV.cells,AV.isCell,↓reduceIte,hz,xBL,xAF,xFG,h]
  ·rw [if_neg e] at h
   simp (maxSteps := 30000000) (disch := first | assumption | omega | (simp only [WL,AV.isCell] <;> omega) | rfl | decide) only [WB,Nat.reduceSub,AV.cells,AV.isCell,↓reduceIte,hz,xBL,xAF,xFG,h]
 ·rw [if_neg c]
  unfold Mf.cells
  rw [yHj,a21,xAf]
  simp (maxSteps := 30000000) (disch := first | assumption | omega | (simp only [WL,AV.isCell] <;> omega) | rfl | decide) only [WB,Nat.reduceSub,AV.cells,AV.isCell,↓reduceIte,hz,xBL,xAF,c]
end
theorem yFu {i o : Int} (hi : -9223372036854775808 ≤ i ∧ i < 9223372036854775808) (ho : -9223372036854775808 ≤ o ∧ o < 9223372036854775808) : L.pcall 62 [.int .i64 i,.int .i64 o] = some (.int .i64 (if i < 0 ∨ o < 0 ∨ 6 < i ∨ 6 - i < o then 7 else 0)) := by
 obtain ⟨hi1,hi2⟩ := hi
 obtain ⟨ho1,ho2⟩ := ho
 rw [yHU,a62,xAf]
 by_cases c1 : i < 0
 ·rw [if_pos (by omega)]
  simp (maxSteps := 30000000) (disch := first | assumption | omega | (simp only [WL,AV.isCell] <;> omega) | rfl | decide) only [WB,Nat.reduceAdd,Nat.reduceSub,c1,↓reduceIte]
 by_cases c2 : o < 0
 ·rw [if_pos (by omega)]
  simp (maxSteps := 30000000) (disch := first | assumption | omega | (simp only [WL,AV.isCell] <;> omega) | rfl | decide) only [WB,Nat.reduceAdd,Nat.reduceSub,c1,↓reduceIte,c2]
 by_cases c3 : 6 < i
 ·rw [if_pos (by omega)]
  simp (maxSteps := 30000000) (disch := first | assumption | omega | (simp only [WL,AV.isCell] <;> omega) | rfl | decide) only [WB,Nat.reduceAdd,Nat.reduceSub,c1,↓reduceIte,c2,c3]
 by_cases c4 : 6 < o
 ·rw [if_pos (by omega)]
  simp (maxSteps := 30000000) (disch := first | assumption | omega | (simp only [WL,AV.isCell] <;> omega) | rfl | decide) only [WB,Nat.reduceAdd,Nat.reduceSub,c1,↓reduceIte,c2,c3,c4]
 by_cases c5 : 6 < i + o
 ·rw [if_pos (by omega)]
  simp (maxSteps := 30000000) (disch := first | assumption | omega | (simp only [WL,AV.isCell] <;> omega) | rfl | decide) only [WB,Nat.reduceAdd,Nat.reduceSub,c1,↓reduceIte,c2,c3,c4,c5]
 rw [if_neg (by omega)]
 simp (maxSteps := 30000000) (disch := first | assumption | omega | (simp only [WL,AV.isCell] <;> omega) | rfl | decide) only [WB,Nat.reduceAdd,Nat.reduceSub,c1,↓reduceIte,c2,c3,c4,c5]
def yGd (n k s : Int) : Int := if n = 0 then 3 else if 4096 < n then 10 else if k ≠ n then 2 else if s < 0 ∨ n ≤ s then 8 else 0
theorem xP6 (i o n k s : Int) : xDU i o n k s = if i < 0 ∨ o < 0 ∨ 6 < i ∨ 6 - i < o then 7 else yGd n k s := rfl
theorem yDE {z : Bool} {n : Nat} {cs : List AV} {k s : Int} : L.pcall 63 [.sl z n cs,.int .i64 k,.int .i64 s] = some (.int .i64 (yGd n k s)) := by
 rw [yHV,a63,xAf]
 unfold yGd
 by_cases c5 : (n : Int) = 0
 ·rw [if_pos c5]
  simp (maxSteps := 30000000) (disch := first | assumption | omega | (simp only [WL,AV.isCell] <;> omega) | rfl | decide) only [WB,Nat.reduceAdd,Nat.reduceSub,c5,↓reduceIte]
 rw [if_neg c5]
 by_cases c6 : 4096 < (n : Int)
 ·rw [if_pos c6]
  simp (maxSteps := 30000000) (disch := first | assumption | omega | (simp only [WL,AV.isCell] <;> omega) | rfl | decide) only [WB,Nat.reduceAdd,Nat.reduceSub,c5,↓reduceIte,c6]
 rw [if_neg c6]
 by_cases c7 : k = n
 ·rw [if_neg (by omega)]
  by_cases c8 : s < 0
  ·rw [if_pos (by omega)]
   simp (maxSteps := 30000000) (disch := first | assumption | omega | (simp only [WL,AV.isCell] <;> omega) | rfl | decide) only [c7,WB,Nat.reduceAdd,Nat.reduceSub,c5,↓reduceIte,c6,c8]
  by_cases c9 : (n : Int) ≤ s
  ·rw [if_pos (by omega)]
   simp (maxSteps := 30000000) (disch := first | assumption | omega | (simp only [WL,AV.isCell] <;> omega) | rfl | decide) only [c7,WB,Nat.reduceAdd,Nat.reduceSub,c5,↓reduceIte,c6,c8,c9]
  rw [if_neg (by omega)]
  simp (maxSteps := 30000000) (disch := first | assumption | omega | (simp only [WL,AV.isCell] <;> omega) | rfl | decide) only [c7,WB,Nat.reduceAdd,Nat.reduceSub,c5,↓reduceIte,c6,c8,c9]
 ·rw [if_pos c7]
  simp (maxSteps := 30000000) (disch := first | assumption | omega | (simp only [WL,AV.isCell] <;> omega) | rfl | decide) only [WB,Nat.reduceAdd,Nat.reduceSub,c5,↓reduceIte,c6,c7]
theorem xYf {z : Bool} {l : List Int} {n : Int} {H : Heap} (hl : l.length < 9223372036854775807) : ∀ e i,i + e = l.length →
  ∃ j : Nat,L.loop xOp xZR ⟨xKx (.sl z l.length (xB3 l)) (.int .i64 n) (.bool false) (.int .i64 (i : Nat)),H⟩ =
   some (if xQ3 n (l.drop i) = true then (.ret,⟨xKx (.sl z l.length (xB3 l)) (.int .i64 n) (.bool false) (.int .i64 (j : Nat)),H⟩)
    else (.exit 0,⟨xKx (.sl z l.length (xB3 l)) (.int .i64 n) (.bool false) (.int .i64 (l.length : Nat)),H⟩)) := by
 intro e
 induction e with
 | zero =>
  intro i h
  obtain rfl : i = l.length := by omega
  refine ⟨0,?_⟩
  rw [if_neg (by rw [List.drop_length]; simp [xQ3]),xRO]
  simp (maxSteps := 30000000) (disch := first | assumption | omega | (simp only [WL,AV.isCell] <;> omega) | rfl | decide) only [xH8,WB,↓reduceIte,xH9]
 | succ e ih =>
  intro i h
  have hlt : (i : Int) < (l.length : Nat) := by omega
  obtain ⟨j,ih'⟩ := ih (i + 1) (by omega)
  rw [xAD (a := (0 : Int)) (by omega : i < l.length)]
  have et : xQ3 n (l.getD i 0 :: l.drop (i + 1)) = (decide (l.getD i 0 < 0 ∨ n ≤ l.getD i 0) || xQ3 n (l.drop (i + 1))) := rfl
  rw [et]
  by_cases c : l.getD i 0 < 0
  ·refine ⟨i,?_⟩
   rw [decide_eq_true (Or.inl c),Bool.true_or,if_pos rfl,xRO]
   simp (maxSteps := 30000000) (disch := first | assumption | omega | (simp only [WL,AV.isCell] <;> omega) | rfl | decide) only [xH8,WB,hlt,↓reduceIte,W2,c,xH9]
  ·by_cases c2 : n ≤ l.getD i 0
   ·refine ⟨i,?_⟩
    rw [decide_eq_true (Or.inr c2),Bool.true_or,if_pos rfl,xRO]
    simp (maxSteps := 30000000) (disch := first | assumption | omega | (simp only [WL,AV.isCell] <;> omega) | rfl | decide) only [xH8,WB,hlt,↓reduceIte,W2,c,c2,xH9]
   ·refine ⟨j,?_⟩
    rw [decide_eq_false (by omega),Bool.false_or,xRO]
    by_cases e : xQ3 n (l.drop (i + 1)) = true
    ·rw [if_pos e] at ih' ⊢
     simp (maxSteps := 30000000) (disch := first | assumption | omega | (simp only [WL,AV.isCell] <;> omega) | rfl | decide) only [xH8,WB,hlt,↓reduceIte,W2,c,c2,xH9,ih']
    ·rw [if_neg e] at ih' ⊢
     simp (maxSteps := 30000000) (disch := first | assumption | omega | (simp only [WL,AV.isCell] <;> omega) | rfl | decide) only [xH8,WB,hlt,↓reduceIte,W2,c,c2,xH9,ih']
theorem yAz {z : Bool} {l : List Int} {n : Int} (hl : l.length < 9223372036854775807) : L.pcall 64 [.sl z l.length (xB3 l),.int .i64 n] = some (.bool (!xQ3 n l)) := by
 obtain ⟨j,h⟩ := xYf (z := z) (n := n) (H := []) hl l.length 0 (by omega)
 simp only [Int.natCast_zero,List.drop_zero] at h
 rw [yHW,a64,xAf]
 cases c : xQ3 n l with
 | true =>
  rw [if_pos c] at h
  simp (maxSteps := 30000000) (disch := first | assumption | omega | (simp only [WL,AV.isCell] <;> omega) | rfl | decide) only [WB,Nat.reduceAdd,Nat.reduceSub,xH9,h]
 | false =>
  rw [if_neg (by simp [c])] at h
  simp (maxSteps := 30000000) (disch := first | assumption | omega | (simp only [WL,AV.isCell] <;> omega) | rfl | decide) only [WB,Nat.reduceAdd,Nat.reduceSub,xH9,h,↓reduceIte]
section
variable {m : Mf} {mi mo : Nat}
theorem yAA (hS : Sm m) (ho : m.o = (mo : Nat)) (ho6 : mo ≤ 6) {k : Nat} (hk : k < m.emit.length) : ∀ e i,i + e = (m.emit.getD k w0).l.length →
  ∃ i' : Nat,L.loop xNU xZG ⟨xJ8 (.ptr 0 0) (.int .i64 0) (.int .i64 (k : Nat)) (.int .i64 (i : Nat)),[.cells false false m.cells]⟩ =
   some (if xTx (two mo) ((m.emit.getD k w0).l.drop i) = true then (.ret,⟨xJ8 (.ptr 0 0) (.int .i64 1) (.int .i64 (k : Nat)) (.int .i64 (i' : Nat)),[.cells false false m.cells]⟩)
    else (.exit 2,⟨xJ8 (.ptr 0 0) (.int .i64 0) (.int .i64 (k : Nat)) (.int .i64 ((m.emit.getD k w0).l.length : Nat)),[.cells false false m.cells]⟩)) := by
 have hw1 := xAh (a := w0) hk
 have hw := hS.w _ hw1
 have hb := hS.b _ hw1
 have hen := hS.e
 have hso := xDN ho6
 have ho0 : ¬ ((mo : Nat) : Int) < 0 := by omega
 have hwv : wdV (m.emit.getD k w0) = .sl (m.emit.getD k w0).z (m.emit.getD k w0).l.length (bs (m.emit.getD k w0).l) := rfl
 unfold Mf.cells
 rw [ho]
 intro e
 induction e with
 | zero =>
  intro i h
  obtain rfl : i = (m.emit.getD k w0).l.length := by omega
  refine ⟨0,?_⟩
  rw [if_neg (by rw [List.drop_length]; simp [xTx]),xVA]
  simp (maxSteps := 30000000) (disch := first | assumption | omega | (simp only [WL,AV.isCell] <;> omega) | rfl | decide) only [xJ7,WB,xBk,hwv,↓reduceIte,xH4]
 | succ e ih =>
  intro i h
  have hlt : (i : Int) < ((m.emit.getD k w0).l.length : Nat) := by omega
  obtain ⟨i',ih'⟩ := ih (i + 1) (by omega)
  have hx := hb _ (xAh (a := (0 : Nat)) (show i < (m.emit.getD k w0).l.length by omega))
  rw [xAD (a := (0 : Nat)) (by omega : i < (m.emit.getD k w0).l.length)]
  have et : ∀ t,xTx (two mo) ((m.emit.getD k w0).l.getD i 0 :: t) = (decide (two mo ≤ (m.emit.getD k w0).l.getD i 0) || xTx (two mo) t) := fun _ => rfl
  rw [et]
  by_cases c : two mo ≤ (m.emit.getD k w0).l.getD i 0
  ·refine ⟨i,?_⟩
   have c' : ((two mo : Nat) : Int) ≤ ((m.emit.getD k w0).l.getD i 0 : Nat) := by omega
   rw [decide_eq_true c,Bool.true_or,if_pos rfl,xVA]
   simp (maxSteps := 30000000) (disch := first | assumption | omega | (simp only [WL,AV.isCell] <;> omega) | rfl | decide) only [xJ7,WB,xBk,hwv,hlt,↓reduceIte,xAc,W2,hso,c',xH4]
  ·refine ⟨i',?_⟩
   have c' : ¬ ((two mo : Nat) : Int) ≤ ((m.emit.getD k w0).l.getD i 0 : Nat) := by omega
   rw [decide_eq_false c,Bool.false_or,xVA]
   by_cases e : xTx (two mo) ((m.emit.getD k w0).l.drop (i + 1)) = true
   ·rw [if_pos e] at ih' ⊢
    simp (maxSteps := 30000000) (disch := first | assumption | omega | (simp only [WL,AV.isCell] <;> omega) | rfl | decide) only [xJ7,WB,xBk,hwv,hlt,↓reduceIte,xAc,W2,hso,c',xH4,ih']
   ·rw [if_neg e] at ih' ⊢
    simp (maxSteps := 30000000) (disch := first | assumption | omega | (simp only [WL,AV.isCell] <;> omega) | rfl | decide) only [xJ7,WB,xBk,hwv,hlt,↓reduceIte,xAc,W2,hso,c',xH4,ih']
theorem yAB (hS : Sm m) (hi : m.i = (mi : Nat)) (ho : m.o = (mo : Nat)) (hi6 : mi ≤ 6) (ho6 : mo ≤ 6) (hne : m.emit.length = m.next.length) : ∀ e i,i + e = m.next.length →
  ∃ i' : Nat,L.loop xNV xZH ⟨xJ9 (.ptr 0 0) (.int .i64 0) (.int .i64 (i : Nat)),[.cells false false m.cells]⟩ =
   some (if xCu m.next.length (two mi) (two mo) (m.next.drop i) (m.emit.drop i) = 0 then (.exit 0,⟨xJ9 (.ptr 0 0) (.int .i64 0) (.int .i64 (m.next.length : Nat)),[.cells false false m.cells]⟩)
    else (.ret,⟨xJ9 (.ptr 0 0) (.int .i64 (xCu m.next.length (two mi) (two mo) (m.next.drop i) (m.emit.drop i))) (.int .i64 (i' : Nat)),[.cells false false m.cells]⟩)) := by
 have hn := hS.n
 have hsi := xDN hi6
 have hi0 : ¬ ((mi : Nat) : Int) < 0 := by omega
 have hword := fun k hk => yAA (m := m) (mo := mo) (k := k) hS ho ho6 hk
 unfold Mf.cells at *
 rw [hi,ho] at *
 intro e
 induction e with
 | zero =>
  intro i h
  obtain rfl : i = m.next.length := by omega
  refine ⟨0,?_⟩
  rw [if_pos (by rw [List.drop_length]; rfl),xKa]
  simp (maxSteps := 30000000) (disch := first | assumption | omega | (simp only [WL,AV.isCell] <;> omega) | rfl | decide) only [xFH,WB,↓reduceIte,xFI]
 | succ e ih =>
  intro i h
  have hlt : (i : Int) < (m.next.length : Nat) := by omega
  obtain ⟨i',ih'⟩ := ih (i + 1) (by omega)
  have hr1 := xAh (a := r0) (show i < m.next.length by omega)
  have hw1 := xAh (a := w0) (show i < m.emit.length by omega)
  have hr := hS.r _ hr1
  have hw := hS.w _ hw1
  have h64 := yAz (z := (m.next.getD i r0).z) (l := (m.next.getD i r0).l) (n := (m.next.length : Nat)) (by omega)
  obtain ⟨i2,hwd⟩ := hword i (by omega) _ 0 (Nat.zero_add _)
  simp only [Int.natCast_zero,List.drop_zero] at hwd
  rw [xAD (a := r0) (by omega : i < m.next.length),xAD (a := w0) (by omega : i < m.emit.length)]
  have et : ∀ n wi wo r t e u,xCu n wi wo (r :: t) (e :: u) = if xF1 n wi wo r e = 0 then xCu n wi wo t u else xF1 n wi wo r e := fun _ _ _ _ _ _ _ => rfl
  rw [et]
  generalize hR : m.next.getD i r0 = R at *
  generalize hW : m.emit.getD i w0 = W at *
  have hrv : rwV R = .sl R.z R.l.length (xB3 R.l) := rfl
  have hwv : wdV W = .sl W.z W.l.length (bs W.l) := rfl
  by_cases c1 : R.l.length = two mi
  ·by_cases c2 : W.l.length = two mi
   ·rw [c1] at h64
    cases c3 : xQ3 m.next.length R.l with
    | true =>
     have e0 : xF1 m.next.length (two mi) (two mo) R W = 8 := by unfold xF1; rw [if_pos ⟨c1,c2⟩,if_pos c3]
     rw [c3] at h64
     simp only [e0,if_neg (show ¬ (8 : Int) = 0 by decide)]
     refine ⟨i,?_⟩
     rw [xKa]
     simp (maxSteps := 30000000) (disch := first | assumption | omega | (simp only [WL,AV.isCell] <;> omega) | rfl | decide) only [xFH,WB,hlt,↓reduceIte,xBr,hR,hrv,c1,W2,hsi,xBk,hW,hwv,c2,xAc,h64,xBL,xAF,xFI]
    | false =>
     rw [c3] at h64
     by_cases c4 : xTx (two mo) W.l = true
     ·have e0 : xF1 m.next.length (two mi) (two mo) R W = 1 := by unfold xF1; rw [if_pos ⟨c1,c2⟩,if_neg (by simp [c3]),if_pos c4]
      rw [if_pos c4] at hwd
      simp only [e0,if_neg (show ¬ (1 : Int) = 0 by decide)]
      refine ⟨i,?_⟩
      rw [xKa]
      simp (maxSteps := 30000000) (disch := first | assumption | omega | (simp only [WL,AV.isCell] <;> omega) | rfl | decide) only [xFH,WB,hlt,↓reduceIte,xBr,hR,hrv,c1,W2,hsi,xBk,hW,hwv,c2,xAc,h64,xBL,xAF,xH4,hwd,xFI]
     ·have e0 : xF1 m.next.length (two mi) (two mo) R W = 0 := by unfold xF1; rw [if_pos ⟨c1,c2⟩,if_neg (by simp [c3]),if_neg c4]
      rw [if_neg c4] at hwd
      rw [if_pos e0]
      refine ⟨i',?_⟩
      rw [xKa]
      by_cases e : xCu m.next.length (two mi) (two mo) (m.next.drop (i + 1)) (m.emit.drop (i + 1)) = 0
      ·rw [if_pos e] at ih' ⊢
       simp (maxSteps := 30000000) (disch := first | assumption | omega | (simp only [WL,AV.isCell] <;> omega) | rfl | decide) only [xFH,WB,hlt,↓reduceIte,xBr,hR,hrv,c1,W2,hsi,xBk,hW,hwv,c2,xAc,h64,xBL,xAF,xH4,hwd,xFI,ih']
      ·rw [if_neg e] at ih' ⊢
       simp (maxSteps := 30000000) (disch := first | assumption | omega | (simp only [WL,AV.isCell] <;> omega) | rfl | decide) only [xFH,WB,hlt,↓reduceIte,xBr,hR,hrv,c1,W2,hsi,xBk,hW,hwv,c2,xAc,h64,xBL,xAF,xH4,hwd,xFI,ih']
   ·have e0 : xF1 m.next.length (two mi) (two mo) R W = 2 := by unfold xF1; rw [if_neg (fun h => c2 h.2)]
    have c2' := xTz c2
    simp only [e0,if_neg (show ¬ (2 : Int) = 0 by decide)]
    refine ⟨i,?_⟩
    rw [xKa]
    simp (maxSteps := 30000000) (disch := first | assumption | omega | (simp only [WL,AV.isCell] <;> omega) | rfl | decide) only [xFH,WB,hlt,↓reduceIte,xBr,hR,hrv,c1,W2,hsi,xBk,hW,hwv,xAc,c2',xFI]
  ·have e0 : xF1 m.next.length (two mi) (two mo) R W = 2 := by unfold xF1; rw [if_neg (fun h => c1 h.1)]
   have c1' := xTz c1
   simp only [e0,if_neg (show ¬ (2 : Int) = 0 by decide)]
   refine ⟨i,?_⟩
   rw [xKa]
   simp (maxSteps := 30000000) (disch := first | assumption | omega | (simp only [WL,AV.isCell] <;> omega) | rfl | decide) only [xFH,WB,hlt,↓reduceIte,xBr,hR,hrv,W2,hsi,c1',xAc,xFI]
theorem xJm (hS : Sm m) : L.pcall 22 [m.av] = some (.int .i64 (xEI m)) := by
 have hv := yFu hS.i hS.o
 have ht := yDE (z := m.z) (n := m.next.length) (cs := m.next.map rwV) (k := (m.emit.length : Nat)) (s := m.s)
 unfold xEI
 rw [xP6]
 unfold Mf.av
 by_cases c0 : m.i < 0 ∨ m.o < 0 ∨ 6 < m.i ∨ 6 - m.i < m.o
 ·rw [if_pos c0] at hv ⊢
  rw [if_neg (by decide)]
  unfold Mf.cells
  rw [yGs,a22,xAf]
  simp (maxSteps := 30000000) (disch := first | assumption | omega | (simp only [WL,AV.isCell] <;> omega) | rfl | decide) only [WB,Nat.reduceSub,AV.cells,AV.isCell,↓reduceIte,hv,xBL,xAF,Int.reduceEq]
 ·rw [if_neg c0] at hv ⊢
  by_cases c : yGd (m.next.length : Nat) (m.emit.length : Nat) m.s = 0
  ·rw [if_pos c]
   have hc := xFd (show xDU m.i m.o (m.next.length : Nat) (m.emit.length : Nat) m.s = 0 by rw [xP6,if_neg c0]; exact c)
   rw [c] at ht
   obtain ⟨i',h⟩ := yAB (m := m) (mi := m.i.toNat) (mo := m.o.toNat) hS (by omega) (by omega) (by omega) (by omega) (by omega) m.next.length 0 (by omega)
   simp only [Int.natCast_zero,List.drop_zero] at h
   unfold Mf.cells at h ⊢
   rw [yGs,a22,xAf]
   by_cases e : xCu m.next.length (two m.i.toNat) (two m.o.toNat) m.next m.emit = 0
   ·rw [if_pos e] at h
    rw [e]
    simp (maxSteps := 30000000) (disch := first | assumption | omega | (simp only [WL,AV.isCell] <;> omega) | rfl | decide) only [WB,Nat.reduceSub,AV.cells,AV.isCell,↓reduceIte,hv,xBL,xAF,ht,xFI,h]
   ·rw [if_neg e] at h
    simp (maxSteps := 30000000) (disch := first | assumption | omega | (simp only [WL,AV.isCell] <;> omega) | rfl | decide) only [WB,Nat.reduceSub,AV.cells,AV.isCell,↓reduceIte,hv,xBL,xAF,ht,xFI,h]
  ·rw [if_neg c]
   unfold Mf.cells
   rw [yGs,a22,xAf]
   simp (maxSteps := 30000000) (disch := first | assumption | omega | (simp only [WL,AV.isCell] <;> omega) | rfl | decide) only [WB,Nat.reduceSub,AV.cells,AV.isCell,↓reduceIte,hv,xBL,xAF,ht,c]
end
section
variable {m : Nf} {mi mo : Nat}
end
structure Ma where
 i : Nat
 o : Nat
 s : Nat
 next : List (List Nat)
 emit : List (List Nat)
def rowI (l : List Nat) : AV := .sl false l.length (xAA l)
def rowB (l : List Nat) : AV := .sl false l.length (bs l)
def Ma.cells (M : Ma) : List AV := [.int .i64 (M.i : Nat),.int .i64 (M.o : Nat),.int .i64 (M.s : Nat),.sl false M.next.length (M.next.map rowI),.sl false M.emit.length (M.emit.map rowB)]
def Ma.av (M : Ma) : AV := .agg M.cells
structure Vm (M : Ma) : Prop where
 io : M.i + M.o ≤ 6
 n0 : 0 < M.next.length
 n9 : M.next.length ≤ 4096
 el : M.emit.length = M.next.length
 s : M.s < M.next.length
 rl : ∀ r ∈ M.next,r.length = two M.i
 wl : ∀ w ∈ M.emit,w.length = two M.i
 rb : ∀ r ∈ M.next,∀ x ∈ r,x < M.next.length
 wb : ∀ w ∈ M.emit,∀ x ∈ w,x < two M.o
theorem xBU {l : List (List Nat)} {i : Nat} (h : i < l.length) : List.take 1 (List.drop i (l.map rowI)) = [rowI (l.getD i [])] := xDK _ _ h
theorem xCf {l : List (List Nat)} {i : Nat} (h : i < l.length) : List.take 1 (List.drop i (l.map rowB)) = [rowB (l.getD i [])] := xDK _ _ h
def Ma.toF (M : Ma) : Mf := ⟨M.i,M.o,M.s,false,M.next.map fun r => ⟨false,r.map Int.ofNat⟩,false,M.emit.map fun w => ⟨false,w⟩⟩
theorem xL5 (l : List Nat) : xB3 (l.map Int.ofNat) = xAA l := by
 unfold xB3 xAA
 rw [List.map_map]; rfl
theorem Ma.toF_av (M : Ma) : M.toF.av = M.av := by
 unfold Ma.toF Mf.av Mf.cells Ma.av Ma.cells
 simp only [List.length_map,List.map_map]
 have e1 : (rwV ∘ fun r : List Nat => (⟨false,r.map Int.ofNat⟩ : Rw)) = rowI := by
  funext r
  show rwV ⟨false,r.map Int.ofNat⟩ = rowI r
  unfold rwV rowI
  simp only [List.length_map,xL5]
 have e2 : (wdV ∘ fun w : List Nat => (⟨false,w⟩ : Wd)) = rowB := rfl
 rw [e1,e2]
structure Cn (m : Mf) : Prop where
 z : m.z = true → m.next = []
 ze : m.ze = true → m.emit = []
 r : ∀ r ∈ m.next,r.z = true → r.l = []
 w : ∀ w ∈ m.emit,w.z = true → w.l = []
theorem badR_iff {n : Int} {l : List Int} : xQ3 n l = false ↔ ∀ s ∈ l,0 ≤ s ∧ s < n := by
 unfold xQ3
 rw [List.any_eq_false]
 constructor
 ·intro h s hs
  have := h s hs
  simp only [decide_eq_true_eq] at this
  omega
 ·intro h s hs
  have := h s hs
  simp only [decide_eq_true_eq]
  omega
theorem bigW_iff {k : Nat} {l : List Nat} : xTx k l = false ↔ ∀ x ∈ l,x < k := by
 unfold xTx
 rw [List.any_eq_false]
 constructor
 ·intro h s hs
  have := h s hs
  simp only [decide_eq_true_eq] at this
  omega
 ·intro h s hs
  have := h s hs
  simp only [decide_eq_true_eq]
  omega
theorem rowE_zero {n wi wo : Nat} {r : Rw} {e : Wd} : xF1 n wi wo r e = 0 ↔ r.l.length = wi ∧ e.l.length = wi ∧ (∀ s ∈ r.l,0 ≤ s ∧ s < (n : Int)) ∧ ∀ x ∈ e.l,x < wo := by
 unfold xF1
 by_cases c : r.l.length = wi ∧ e.l.length = wi
 ·rw [if_pos c]
  by_cases c2 : xQ3 n r.l = true
  ·rw [if_pos c2]
   exact ⟨fun h => by omega,fun h => by rw [badR_iff.2 h.2.2.1] at c2; cases c2⟩
  ·rw [if_neg c2]
   have c2' := badR_iff.1 (by simpa using c2)
   by_cases c3 : xTx wo e.l = true
   ·rw [if_pos c3]
    exact ⟨fun h => by omega,fun h => by rw [bigW_iff.2 h.2.2.2] at c3; cases c3⟩
   ·rw [if_neg c3]
    exact ⟨fun _ => ⟨c.1,c.2,c2',bigW_iff.1 (by simpa using c3)⟩,fun _ => rfl⟩
 ·rw [if_neg c]
  exact ⟨fun h => by omega,fun h => absurd ⟨h.1,h.2.1⟩ c⟩
theorem xGv {n wi wo : Nat} : ∀ {l : List Rw} {u : List Wd},l.length = u.length → (xCu n wi wo l u = 0 ↔ (∀ r ∈ l,r.l.length = wi ∧ ∀ s ∈ r.l,0 ≤ s ∧ s < (n : Int)) ∧ ∀ e ∈ u,e.l.length = wi ∧ ∀ x ∈ e.l,x < wo)
 | [],[],_ => by simp [xCu]
 | [],_ :: _,h => by simp at h
 | _ :: _,[],h => by simp at h
 | r :: t,e :: u,h => by
  have ih := xGv (n := n) (wi := wi) (wo := wo) (l := t) (u := u) (by simpa using h)
  unfold xCu
  by_cases c : xF1 n wi wo r e = 0
  ·have c' := rowE_zero.1 c
   rw [if_pos c,ih]
   simp only [List.forall_mem_cons]
   exact ⟨fun h => ⟨⟨⟨c'.1,c'.2.2.1⟩,h.1⟩,⟨c'.2.1,c'.2.2.2⟩,h.2⟩,fun h => ⟨h.1.2,h.2.2⟩⟩
  ·rw [if_neg c]
   exact ⟨fun h => absurd h c,fun h => by
    simp only [List.forall_mem_cons] at h
    exact absurd (rowE_zero.2 ⟨h.1.1.1,h.2.1.1,h.1.1.2,h.2.1.2⟩) c⟩
theorem xP7 {m : Mf} : xEI m = 0 ↔ xDU m.i m.o (m.next.length : Nat) (m.emit.length : Nat) m.s = 0 ∧ xCu m.next.length (two m.i.toNat) (two m.o.toNat) m.next m.emit = 0 := by
 unfold xEI
 by_cases c : xDU m.i m.o (m.next.length : Nat) (m.emit.length : Nat) m.s = 0
 ·rw [if_pos c]; exact ⟨fun h => ⟨c,h⟩,fun h => h.2⟩
 ·rw [if_neg c]; exact ⟨fun h => absurd h c,fun h => absurd h.1 c⟩
def Mf.fromF (m : Mf) : Ma := ⟨m.i.toNat,m.o.toNat,m.s.toNat,m.next.map fun r => r.l.map Int.toNat,m.emit.map fun w => w.l⟩
theorem xGw (m : Nat) : 0 < two m := Nat.two_pow_pos m
theorem xYg {l : List Int} {n : Int} (h : ∀ s ∈ l,0 ≤ s ∧ s < n) : (l.map Int.toNat).map Int.ofNat = l := by
 rw [List.map_map]
 conv => rhs; rw [← List.map_id l]
 apply List.map_congr_left
 intro s hs
 have := h s hs
 show ((s.toNat : Nat) : Int) = s
 omega
theorem xM2 {m : Mf} (hc : Cn m) (h : xEI m = 0) : Vm m.fromF ∧ m.fromF.toF = m := by
 rw [xP7] at h
 obtain ⟨h1,h2⟩ := h
 have h1' := xFd h1
 rw [xGv (by omega)] at h2
 obtain ⟨h3,h4⟩ := h2
 refine ⟨⟨?_,?_,?_,?_,?_,?_,?_,?_,?_⟩,?_⟩
 ·show m.i.toNat + m.o.toNat ≤ 6; omega
 ·show 0 < (m.next.map _).length; rw [List.length_map]; omega
 ·show (m.next.map _).length ≤ 4096; rw [List.length_map]; omega
 ·show (m.emit.map _).length = (m.next.map _).length; rw [List.length_map,List.length_map]; omega
 ·show m.s.toNat < (m.next.map _).length; rw [List.length_map]; omega
 ·intro r hr
  obtain ⟨r',hr',rfl⟩ := List.mem_map.1 hr
  rw [List.length_map]; exact (h3 r' hr').1
 ·intro r hr
  obtain ⟨r',hr',rfl⟩ := List.mem_map.1 hr
  exact (h4 r' hr').1
 ·intro r hr x hx
  obtain ⟨r',hr',rfl⟩ := List.mem_map.1 hr
  obtain ⟨x',hx',rfl⟩ := List.mem_map.1 hx
  show x'.toNat < (m.next.map _).length
  rw [List.length_map]
  have := (h3 r' hr').2 x' hx'
  omega
 ·intro r hr
  obtain ⟨r',hr',rfl⟩ := List.mem_map.1 hr
  exact (h4 r' hr').2
 ·obtain ⟨i,o,s,z,next,ze,emit⟩ := m
  simp only at *
  have e1 : z = false := by cases z with
   | false => rfl
   | true => have := hc.z rfl; simp only at this; subst this; simp at h1'
  have e2 : ze = false := by cases ze with
   | false => rfl
   | true => have := hc.ze rfl; simp only at this; subst this; simp at h1'; omega
  subst e1 e2
  unfold Mf.fromF Ma.toF
  simp only [List.map_map,Mf.mk.injEq,true_and]
  have hp := xGw i.toNat
  refine ⟨by omega,by omega,by omega,?_,?_⟩
  ·conv => rhs; rw [← List.map_id next]
   apply List.map_congr_left
   intro r hr
   have hz := hc.r r hr
   have hh := h3 r hr
   obtain ⟨z,l⟩ := r
   simp only [Function.comp] at *
   rw [xYg hh.2]
   cases z with
   | false => rfl
   | true => have := hz rfl; subst this; simp at hh; omega
  ·conv => rhs; rw [← List.map_id emit]
   apply List.map_congr_left
   intro r hr
   have hz := hc.w r hr
   have hh := h4 r hr
   obtain ⟨z,l⟩ := r
   simp only [Function.comp] at *
   cases z with
   | false => rfl
   | true => have := hz rfl; subst this; simp at hh; omega
theorem xYh {M : Ma} (hV : Vm M) : xEI M.toF = 0 := by
 have io := hV.io
 have n0 := hV.n0
 have n9 := hV.n9
 have el := hV.el
 have hs := hV.s
 rw [xP7]
 have hl : M.toF.next.length = M.next.length := List.length_map ..
 have hl2 : M.toF.emit.length = M.emit.length := List.length_map ..
 have hi : M.toF.i = (M.i : Nat) := rfl
 have ho : M.toF.o = (M.o : Nat) := rfl
 have hst : M.toF.s = (M.s : Nat) := rfl
 rw [hl,hl2,hi,ho,hst,xGv (by omega)]
 refine ⟨by unfold xDU; rw [if_neg (by omega),if_neg (by omega),if_neg (by omega),if_neg (by omega),if_neg (by omega)],fun r hr => ?_,fun r hr => ?_⟩
 ·obtain ⟨r',hr',rfl⟩ := List.mem_map.1 hr
  refine ⟨by rw [List.length_map]; exact hV.rl _ hr',fun s hs => ?_⟩
  obtain ⟨x,hx,rfl⟩ := List.mem_map.1 hs
  have := hV.rb _ hr' _ hx
  show 0 ≤ ((x : Nat) : Int) ∧ ((x : Nat) : Int) < _
  omega
 ·obtain ⟨r',hr',rfl⟩ := List.mem_map.1 hr
  exact ⟨hV.wl _ hr',hV.wb _ hr'⟩
theorem xTA {M : Ma} (hV : Vm M) : Sm M.toF := by
 have io := hV.io
 have n9 := hV.n9
 have el := hV.el
 have b1 := (xTw (show M.i ≤ 6 by omega)).1
 have b2 := (xTw (show M.o ≤ 6 by omega)).1
 refine ⟨?_,?_,?_,?_,fun r hr => ?_,fun r hr => ?_,fun r hr => ?_⟩
 ·show _ ≤ ((M.i : Nat) : Int) ∧ ((M.i : Nat) : Int) < _; omega
 ·show _ ≤ ((M.o : Nat) : Int) ∧ ((M.o : Nat) : Int) < _; omega
 ·show (M.next.map _).length ≤ _; rw [List.length_map]; omega
 ·show (M.emit.map _).length ≤ _; rw [List.length_map]; omega
 ·obtain ⟨r',hr',rfl⟩ := List.mem_map.1 hr
  rw [List.length_map,hV.rl _ hr']; omega
 ·obtain ⟨r',hr',rfl⟩ := List.mem_map.1 hr
  show r'.length ≤ _
  rw [hV.wl _ hr']; omega
 ·obtain ⟨r',hr',rfl⟩ := List.mem_map.1 hr
  intro x hx
  have := hV.wb _ hr' x hx
  omega
theorem xDv {M : Ma} (hV : Vm M) : L.pcall 21 [M.av] = some (.int .i64 0) := by
 have := xJl (xTA hV)
 rwa [M.toF_av,xYh hV] at this
theorem xDw {M : Ma} (hV : Vm M) : L.pcall 22 [M.av] = some (.int .i64 0) := by
 have := xJm (xTA hV)
 rwa [M.toF_av,xYh hV] at this
structure Mo where
 i : Nat
 o : Nat
 s : Nat
 give : List Nat
 next : List (List Nat)
def Mo.cells (M : Mo) : List AV := [.int .i64 (M.i : Nat),.int .i64 (M.o : Nat),.int .i64 (M.s : Nat),.sl false M.give.length (bs M.give),.sl false M.next.length (M.next.map rowI)]
def Mo.av (M : Mo) : AV := .agg M.cells
structure Vo (M : Mo) : Prop where
 io : M.i + M.o ≤ 6
 n0 : 0 < M.next.length
 n9 : M.next.length ≤ 4096
 gl : M.give.length = M.next.length
 s : M.s < M.next.length
 rl : ∀ r ∈ M.next,r.length = two M.o
 rb : ∀ r ∈ M.next,∀ x ∈ r,x < M.next.length
 gb : ∀ x ∈ M.give,x < two M.i
def Mo.toF (M : Mo) : Nf := ⟨M.i,M.o,M.s,false,M.give,false,M.next.map fun r => ⟨false,r.map Int.ofNat⟩⟩
theorem Mo.toF_av (M : Mo) : M.toF.av = M.av := by
 unfold Mo.toF Nf.av Nf.cells Mo.av Mo.cells
 simp only [List.length_map,List.map_map]
 have e1 : (rwV ∘ fun r : List Nat => (⟨false,r.map Int.ofNat⟩ : Rw)) = rowI := by
  funext r
  show rwV ⟨false,r.map Int.ofNat⟩ = rowI r
  unfold rwV rowI
  simp only [List.length_map,xL5]
 rw [e1]
def Nf.fromF (m : Nf) : Mo := ⟨m.i.toNat,m.o.toNat,m.s.toNat,m.give,m.next.map fun r => r.l.map Int.toNat⟩
def nx (M : Ma) (s i : Nat) : Nat := (M.next.getD s []).getD i 0
def em (M : Ma) (s i : Nat) : Nat := (M.emit.getD s []).getD i 0
theorem Vm.nl {M : Ma} (h : Vm M) {s : Nat} (hs : s < M.next.length) : (M.next.getD s []).length = two M.i := h.rl _ (xAh hs)
theorem Vm.wl' {M : Ma} (h : Vm M) {s : Nat} (hs : s < M.next.length) : (M.emit.getD s []).length = two M.i := h.wl _ (xAh (by rw [h.el]; exact hs))
theorem Vm.nx {M : Ma} (h : Vm M) {s i : Nat} (hs : s < M.next.length) (hi : i < two M.i) : nx M s i < M.next.length := h.rb _ (xAh hs) _ (xAh (by rw [h.nl hs]; exact hi))
theorem Vm.em {M : Ma} (h : Vm M) {s i : Nat} (hs : s < M.next.length) (hi : i < two M.i) : em M s i < two M.o := h.wb _ (xAh (by rw [h.el]; exact hs)) _ (xAh (by rw [h.wl' hs]; exact hi))
def nxo (N : Mo) (t o : Nat) : Nat := (N.next.getD t []).getD o 0
def gv (N : Mo) (t : Nat) : Nat := N.give.getD t 0
theorem Vo.nl {N : Mo} (h : Vo N) {s : Nat} (hs : s < N.next.length) : (N.next.getD s []).length = two N.o := h.rl _ (xAh hs)
theorem Vo.nx {N : Mo} (h : Vo N) {s i : Nat} (hs : s < N.next.length) (hi : i < two N.o) : nxo N s i < N.next.length := h.rb _ (xAh hs) _ (xAh (by rw [h.nl hs]; exact hi))
theorem Vo.gv {N : Mo} (h : Vo N) {s : Nat} (hs : s < N.next.length) : gv N s < two N.i := h.gb _ (xAh (by rw [h.gl]; exact hs))
theorem xCw {a b : Nat} (h : a ≤ b) : two a ≤ two b := Nat.pow_le_pow_right (by decide) h
def lt2 (a i o : Nat) : Nat := i + o * two a
def yG1 (M : Ma) (N : Mo) (c : Nat × Nat) : Nat × Nat := (nx M c.1 (gv N c.2),nxo N c.2 (em M c.1 (gv N c.2)))
def yIa (M : Ma) (N : Mo) (c : Nat × Nat) : Nat := lt2 M.i (gv N c.2) (em M c.1 (gv N c.2))
def cfg (M : Ma) (N : Mo) : Nat → Nat × Nat
 | 0 => (M.s,N.s)
 | n + 1 => yG1 M N (cfg M N n)
def lets (M : Ma) (N : Mo) (n : Nat) : List Nat := (List.range n).map fun k => yIa M N (cfg M N k)
theorem TrI.keep {B T : Nat} {G G' : Heap} {ks : List (Nat × Nat)} {w : List Nat} (h : TrI B T G ks w) (hk : ∀ b,b = T ∨ B ≤ b → b < G.length → G'[b]? = G[b]?) : TrI B T G' ks w := by
 obtain ⟨mv,wv,h1,h2,h3⟩ := h
 refine ⟨mv,wv,by rw [hk T (.inl rfl) (xAI h1)]; exact h1,?_,?_⟩
 ·rcases h2 with h2 | ⟨q,e,hq,hm⟩
  ·exact .inl h2
  ·exact .inr ⟨q,e,hq,by rw [hk q (.inr hq) (xAI hm)]; exact hm⟩
 ·rcases h3 with h3 | ⟨q,e,hq,hm⟩
  ·exact .inl h3
  ·exact .inr ⟨q,e,hq,by rw [hk q (.inr hq) (xAI hm)]; exact hm⟩
section
variable {M : Ma} {N : Mo} {G : Heap} {s t : Nat} {ks : List (Nat × Nat)} {w : List Nat}
end
section
variable {M : Ma} {N : Mo}
end
theorem yFv : (true != false) = true := rfl
theorem yFw : (false != false) = false := rfl
def yGe (c : Nat × Nat) : List AV := [.int .i64 (c.1 : Nat),.int .i64 (c.2 : Nat)]
def pcs (l : List (Nat × Nat)) : List AV := rows yGe l
theorem xAe (l : List (Nat × Nat)) : (pcs l).length = l.length * 2 := xFb (enc := yGe) (k := 2) (fun _ => rfl) l
theorem xL6 {l : List (Nat × Nat)} {i : Nat} (h : i < l.length) : List.take 2 (List.drop (i * 2) (pcs l)) = [.int .i64 ((l.getD i (0,0)).1 : Nat),.int .i64 ((l.getD i (0,0)).2 : Nat)] := by
 unfold pcs
 rw [xJh (enc := yGe) (k := 2) (fun _ => rfl),List.drop_eq_getElem_cons h]
 have : l.getD i (0,0) = l[i] := by simp [List.getD,List.getElem?_eq_getElem h]
 rw [this]
 rfl
theorem xTB (l : List (Nat × Nat)) (c : Nat × Nat) : pcs l ++ [.int .i64 (c.1 : Nat),.int .i64 (c.2 : Nat)] = pcs (l ++ [c]) := xTj yGe l [c]
theorem yIb (a b s t : Nat) : xBu [.int .i64 (a : Nat),.int .i64 (b : Nat)] [.int .i64 (s : Nat),.int .i64 (t : Nat)] = some (decide ((a,b) = (s,t))) := by
 have e : xBu [.int .i64 (a : Nat),.int .i64 (b : Nat)] [.int .i64 (s : Nat),.int .i64 (t : Nat)] = some (((a : Int) == (s : Int)) && (((b : Int) == (t : Int)) && true)) := rfl
 rw [e,Bool.and_true]
 congr 1
 by_cases c1 : a = s
 ·subst c1
  by_cases c2 : b = t
  ·subst c2; simp
  ·rw [decide_eq_false (fun h => c2 (by injection h))]
   have : ¬ (b : Int) = t := by omega
   simp [this]
 ·rw [decide_eq_false (fun h => c1 (by injection h))]
  have : ¬ (a : Int) = s := by omega
  simp [this]
section
variable {M : Ma} {N : Mo} {G : Heap} {s t : Nat} {ks : List (Nat × Nat)} {w : List Nat} {wv pv : AV}
end
end Go.Abs.Mealy
