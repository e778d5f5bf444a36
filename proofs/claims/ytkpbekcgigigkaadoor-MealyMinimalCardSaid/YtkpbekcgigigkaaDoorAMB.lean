/- Check and CheckMoore of any machine. -/
import Derived.Test.YtkpbekcgigigkaaDoorAbsBun
import Derived.Test.YtkpbekcgigigkaaDoorAMA
namespace Go.Abs.Mealy
open Go Go.Abs
set_option linter.unusedSimpArgs false
set_option linter.unusedVariables false
def two (m : Nat) : Nat := 2 ^ m
theorem xOq {v : Nat} (h : v ≤ 6) : two v ≤ 64 ∧ 0 < two v := by
  have : v = 0 ∨ v = 1 ∨ v = 2 ∨ v = 3 ∨ v = 4 ∨ v = 5 ∨ v = 6 := by omega
  unfold two
  rcases this with e | e | e | e | e | e | e <;> rw [e] <;> decide
theorem xLM {v : Nat} (h : v ≤ 6) : IntKind.i64.wrap (1 * 2 ^ min v IntKind.i64.bits) = (two v : Nat) := by
  have : v = 0 ∨ v = 1 ∨ v = 2 ∨ v = 3 ∨ v = 4 ∨ v = 5 ∨ v = 6 := by omega
  rcases this with rfl | rfl | rfl | rfl | rfl | rfl | rfl <;> decide
def xSB (k : Nat) (l : List Nat) : Bool := l.any fun x => decide (k ≤ x)
theorem xRz {k : Nat} (h : 0 < k) : ∀ l,xSB k l = decide (k ≤ xIP l)
  | [] => by simp [xSB,xIP]; omega
  | x :: t => by
    have ih := xRz h t
    unfold xSB at ih ⊢
    rw [List.any_cons,ih,xIP]
    by_cases c : k ≤ x
    · rw [decide_eq_true c,decide_eq_true (show k ≤ max x (xIP t) by omega)]; rfl
    · rw [decide_eq_false c]
      by_cases c2 : k ≤ xIP t
      · rw [decide_eq_true c2,decide_eq_true (show k ≤ max x (xIP t) by omega)]; rfl
      · rw [decide_eq_false c2,decide_eq_false (show ¬ k ≤ max x (xIP t) by omega)]; rfl
theorem xVL {b : Nat} (hb : 0 < b) : ∀ {l : List Nat},(∀ x ∈ l,x < b) → xIP l < b
  | [],_ => hb
  | x :: t,h => by
    have h1 := h x (by simp)
    have h2 := xVL hb (l := t) fun y hy => h y (by simp [hy])
    simp only [xIP]; omega
def xOr (n wi wo : Nat) (r : Rw) (e : Wd) : Int := if r.l.length = wi ∧ e.l.length = wi then (if yAg n r.l = true then 8 else if xSB wo e.l = true then 1 else 0) else 2
def xGA (n wi wo : Nat) : List Rw → List Wd → Int
  | r :: t,e :: u => if xOr n wi wo r e = 0 then xGA n wi wo t u else xOr n wi wo r e
  | _,_ => 0
def xPf (m : Mf) : Int := if xEo m.i m.o (m.next.length : Nat) (m.emit.length : Nat) m.s = 0 then xGA m.next.length (two m.i.toNat) (two m.o.toNat) m.next m.emit else xEo m.i m.o (m.next.length : Nat) (m.emit.length : Nat) m.s
structure Sm (m : Mf) : Prop where
  i : -9223372036854775808 ≤ m.i ∧ m.i < 9223372036854775808
  o : -9223372036854775808 ≤ m.o ∧ m.o < 9223372036854775808
  n : m.next.length ≤ 100000
  e : m.emit.length ≤ 100000
  r : ∀ r ∈ m.next,r.l.length ≤ 100000
  w : ∀ w ∈ m.emit,w.l.length ≤ 100000
  b : ∀ w ∈ m.emit,∀ x ∈ w.l,x < 256
theorem xIz {i o n k s : Int} (h : xEo i o n k s = 0) : 0 ≤ i ∧ 0 ≤ o ∧ i + o ≤ 6 ∧ 0 ≠ n ∧ n ≤ 4096 ∧ k = n ∧ 0 ≤ s ∧ s < n := by
  unfold xEo at h
  split at h
  · omega
  split at h
  · omega
  split at h
  · omega
  split at h
  · omega
  split at h
  · omega
  omega
theorem xY5 {a b : Nat} (h : ¬ a = b) : (((a : Nat) : Int) = ((b : Nat) : Int)) = False := eq_false (by omega)
section
variable {m : Mf} {mi mo : Nat}
theorem xXD (hS : Sm m) (hi : m.i = (mi : Nat)) (ho : m.o = (mo : Nat)) (hi6 : mi ≤ 6) (ho6 : mo ≤ 6) (hne : m.emit.length = m.next.length) : ∀ e i,i + e = m.next.length →
    ∃ i' : Nat,L.loop xME xWN ⟨xJl (.ptr 0 0) (.int .i64 0) (.int .i64 (m.next.length : Nat)) (.sl m.z m.next.length (m.next.map rwV)) (.int .i64 (m.next.length : Nat)) (.int .i64 (i : Nat)),[.cells false false m.cells]⟩ =
      some (if xGA m.next.length (two mi) (two mo) (m.next.drop i) (m.emit.drop i) = 0 then (.exit 0,⟨xJl (.ptr 0 0) (.int .i64 0) (.int .i64 (m.next.length : Nat)) (.sl m.z m.next.length (m.next.map rwV)) (.int .i64 (m.next.length : Nat)) (.int .i64 (m.next.length : Nat)),[.cells false false m.cells]⟩)
        else (.ret,⟨xJl (.ptr 0 0) (.int .i64 (xGA m.next.length (two mi) (two mo) (m.next.drop i) (m.emit.drop i))) (.int .i64 (m.next.length : Nat)) (.sl m.z m.next.length (m.next.map rwV)) (.int .i64 (m.next.length : Nat)) (.int .i64 (i' : Nat)),[.cells false false m.cells]⟩)) := by
  have hn := hS.n
  have hsi := xLM hi6
  have hso := xLM ho6
  have htwo := (xOq hi6).2
  have htwo' := (xOq ho6).2
  have hi0 : ¬ ((mi : Nat) : Int) < 0 := by omega
  have ho0 : ¬ ((mo : Nat) : Int) < 0 := by omega
  unfold Mf.cells
  rw [hi,ho]
  intro e
  induction e with
  | zero =>
    intro i h
    obtain rfl : i = m.next.length := by omega
    refine ⟨0,?_⟩
    rw [if_pos (by rw [List.drop_length]; rfl),xJm]
    simp (maxSteps := 30000000) (disch := first | assumption | omega | (simp only [WL,AV.isCell] <;> omega) | rfl | decide) only [↓reduceIte,WB,xAC,xAc,xAB,xAk,xAj,AV.cells,AV.isCell,xAb,xAf,xAg,W2,xAd,xAe,xAh,Nat.reduceAdd,Nat.reduceSub,Nat.reduceLeDiff,Nat.reduceMul,Int.reduceAdd,Int.reduceSub,Int.reduceMul,Int.reduceLT,Int.reduceLE,Int.reduceEq,Int.reduceToNat,Int.reduceNeg,Nat.reduceEqDiff,Nat.reduceBEq,Nat.reduceLT,xAJ,xAK,List.length_map,xE3,xE4]
  | succ e ih =>
    intro i h
    have hlt : (i : Int) < (m.next.length : Nat) := by omega
    obtain ⟨i',ih'⟩ := ih (i + 1) (by omega)
    have hr1 := xAA (a := r0) (show i < m.next.length by omega)
    have hw1 := xAA (a := w0) (show i < m.emit.length by omega)
    have hr := hS.r _ hr1
    have hw := hS.w _ hw1
    have hb := xVL (by decide) (hS.b _ hw1)
    have h60 := xVs (z := (m.next.getD i r0).z) (l := (m.next.getD i r0).l) (n := (m.next.length : Nat)) (by omega)
    have h61 : (m.emit.getD i w0).l.length = two mi → _ := fun e => yCT (z := (m.emit.getD i w0).z) (l := (m.emit.getD i w0).l) (by omega) (by omega)
    have hbig := xRz htwo' (m.emit.getD i w0).l
    rw [xA6 (a := r0) (by omega : i < m.next.length),xA6 (a := w0) (by omega : i < m.emit.length)]
    have et : ∀ n wi wo r t e u,xGA n wi wo (r :: t) (e :: u) = if xOr n wi wo r e = 0 then xGA n wi wo t u else xOr n wi wo r e := fun _ _ _ _ _ _ _ => rfl
    rw [et]
    generalize hR : m.next.getD i r0 = R at *
    generalize hW : m.emit.getD i w0 = W at *
    have hrv : rwV R = .sl R.z R.l.length (xCj R.l) := rfl
    have hwv : wdV W = .sl W.z W.l.length (bs W.l) := rfl
    by_cases c1 : R.l.length = two mi
    · by_cases c2 : W.l.length = two mi
      · have h61' := h61 c2
        rw [c2] at h61'
        rw [c1] at h60
        cases c3 : yAg m.next.length R.l with
        | true =>
          have e0 : xOr m.next.length (two mi) (two mo) R W = 8 := by unfold xOr; rw [if_pos ⟨c1,c2⟩,if_pos c3]
          rw [c3] at h60
          simp only [e0,if_neg (show ¬ (8 : Int) = 0 by decide)]
          refine ⟨i,?_⟩
          rw [xJm]
          simp (maxSteps := 30000000) (disch := first | assumption | omega | (simp only [WL,AV.isCell] <;> omega) | rfl | decide) only [↓reduceIte,WB,xAC,xAc,xAB,xAk,xAj,AV.cells,AV.isCell,xAb,xAf,xAg,W2,xAd,xAe,xAh,Nat.reduceAdd,Nat.reduceSub,Nat.reduceLeDiff,Nat.reduceMul,Int.reduceAdd,Int.reduceSub,Int.reduceMul,Int.reduceLT,Int.reduceLE,Int.reduceEq,Int.reduceToNat,Int.reduceNeg,Nat.reduceEqDiff,Nat.reduceBEq,Nat.reduceLT,xAJ,xAK,List.length_map,xE3,xE4,hlt,hi0,ho0,hsi,hso,hR,hW,hrv,hwv,c1,c2,h60]
        | false =>
          rw [c3] at h60
          cases c4 : xSB (two mo) W.l with
          | true =>
            have e0 : xOr m.next.length (two mi) (two mo) R W = 1 := by unfold xOr; rw [if_pos ⟨c1,c2⟩,if_neg (by simp [c3]),if_pos c4]
            rw [c4] at hbig
            have c5 : ((two mo : Nat) : Int) ≤ (xIP W.l : Nat) := by have := of_decide_eq_true hbig.symm; omega
            simp only [e0,if_neg (show ¬ (1 : Int) = 0 by decide)]
            refine ⟨i,?_⟩
            rw [xJm]
            simp (maxSteps := 30000000) (disch := first | assumption | omega | (simp only [WL,AV.isCell] <;> omega) | rfl | decide) only [↓reduceIte,WB,xAC,xAc,xAB,xAk,xAj,AV.cells,AV.isCell,xAb,xAf,xAg,W2,xAd,xAe,xAh,Nat.reduceAdd,Nat.reduceSub,Nat.reduceLeDiff,Nat.reduceMul,Int.reduceAdd,Int.reduceSub,Int.reduceMul,Int.reduceLT,Int.reduceLE,Int.reduceEq,Int.reduceToNat,Int.reduceNeg,Nat.reduceEqDiff,Nat.reduceBEq,Nat.reduceLT,xAJ,xAK,List.length_map,xE3,xE4,hlt,hi0,ho0,hsi,hso,hR,hW,hrv,hwv,c1,c2,h60,h61',c5]
          | false =>
            have e0 : xOr m.next.length (two mi) (two mo) R W = 0 := by unfold xOr; rw [if_pos ⟨c1,c2⟩,if_neg (by simp [c3]),if_neg (by simp [c4])]
            rw [c4] at hbig
            have c5 : ¬ ((two mo : Nat) : Int) ≤ (xIP W.l : Nat) := by have := of_decide_eq_false hbig.symm; omega
            rw [if_pos e0]
            refine ⟨i',?_⟩
            rw [xJm]
            by_cases e : xGA m.next.length (two mi) (two mo) (m.next.drop (i + 1)) (m.emit.drop (i + 1)) = 0
            · rw [if_pos e] at ih' ⊢
              simp (maxSteps := 30000000) (disch := first | assumption | omega | (simp only [WL,AV.isCell] <;> omega) | rfl | decide) only [↓reduceIte,WB,xAC,xAc,xAB,xAk,xAj,AV.cells,AV.isCell,xAb,xAf,xAg,W2,xAd,xAe,xAh,Nat.reduceAdd,Nat.reduceSub,Nat.reduceLeDiff,Nat.reduceMul,Int.reduceAdd,Int.reduceSub,Int.reduceMul,Int.reduceLT,Int.reduceLE,Int.reduceEq,Int.reduceToNat,Int.reduceNeg,Nat.reduceEqDiff,Nat.reduceBEq,Nat.reduceLT,xAJ,xAK,List.length_map,xE3,xE4,hlt,hi0,ho0,hsi,hso,hR,hW,hrv,hwv,c1,c2,h60,h61',c5,ih']
            · rw [if_neg e] at ih' ⊢
              simp (maxSteps := 30000000) (disch := first | assumption | omega | (simp only [WL,AV.isCell] <;> omega) | rfl | decide) only [↓reduceIte,WB,xAC,xAc,xAB,xAk,xAj,AV.cells,AV.isCell,xAb,xAf,xAg,W2,xAd,xAe,xAh,Nat.reduceAdd,Nat.reduceSub,Nat.reduceLeDiff,Nat.reduceMul,Int.reduceAdd,Int.reduceSub,Int.reduceMul,Int.reduceLT,Int.reduceLE,Int.reduceEq,Int.reduceToNat,Int.reduceNeg,Nat.reduceEqDiff,Nat.reduceBEq,Nat.reduceLT,xAJ,xAK,List.length_map,xE3,xE4,hlt,hi0,ho0,hsi,hso,hR,hW,hrv,hwv,c1,c2,h60,h61',c5,ih']
      · have e0 : xOr m.next.length (two mi) (two mo) R W = 2 := by unfold xOr; rw [if_neg (fun h => c2 h.2)]
        have c2' := xY5 c2
        simp only [e0,if_neg (show ¬ (2 : Int) = 0 by decide)]
        refine ⟨i,?_⟩
        rw [xJm]
        simp (maxSteps := 30000000) (disch := first | assumption | omega | (simp only [WL,AV.isCell] <;> omega) | rfl | decide) only [↓reduceIte,WB,xAC,xAc,xAB,xAk,xAj,AV.cells,AV.isCell,xAb,xAf,xAg,W2,xAd,xAe,xAh,Nat.reduceAdd,Nat.reduceSub,Nat.reduceLeDiff,Nat.reduceMul,Int.reduceAdd,Int.reduceSub,Int.reduceMul,Int.reduceLT,Int.reduceLE,Int.reduceEq,Int.reduceToNat,Int.reduceNeg,Nat.reduceEqDiff,Nat.reduceBEq,Nat.reduceLT,xAJ,xAK,List.length_map,xE3,xE4,hlt,hi0,ho0,hsi,hso,hR,hW,hrv,hwv,c1,c2']
    · have e0 : xOr m.next.length (two mi) (two mo) R W = 2 := by unfold xOr; rw [if_neg (fun h => c1 h.1)]
      have c1' := xY5 c1
      simp only [e0,if_neg (show ¬ (2 : Int) = 0 by decide)]
      refine ⟨i,?_⟩
      rw [xJm]
      simp (maxSteps := 30000000) (disch := first | assumption | omega | (simp only [WL,AV.isCell] <;> omega) | rfl | decide) only [↓reduceIte,WB,xAC,xAc,xAB,xAk,xAj,AV.cells,AV.isCell,xAb,xAf,xAg,W2,xAd,xAe,xAh,Nat.reduceAdd,Nat.reduceSub,Nat.reduceLeDiff,Nat.reduceMul,Int.reduceAdd,Int.reduceSub,Int.reduceMul,Int.reduceLT,Int.reduceLE,Int.reduceEq,Int.reduceToNat,Int.reduceNeg,Nat.reduceEqDiff,Nat.reduceBEq,Nat.reduceLT,xAJ,xAK,List.length_map,xE3,xE4,hlt,hi0,ho0,hsi,hso,hR,hW,hrv,hwv,c1']
theorem xLN (hS : Sm m) : L.pcall 21 [m.av] = some (.int .i64 (xPf m)) := by
  have hz := yAe (n := (m.next.length : Nat)) (k := (m.emit.length : Nat)) (s := m.s) hS.i hS.o
  unfold xPf
  unfold Mf.av
  by_cases c : xEo m.i m.o (m.next.length : Nat) (m.emit.length : Nat) m.s = 0
  · rw [if_pos c]
    have hc := xIz c
    rw [c] at hz
    obtain ⟨i',h⟩ := xXD (m := m) (mi := m.i.toNat) (mo := m.o.toNat) hS (by omega) (by omega) (by omega) (by omega) (by omega) m.next.length 0 (by omega)
    simp only [Int.natCast_zero,List.drop_zero] at h
    unfold Mf.cells at h ⊢
    rw [yC8,a21,xAr]
    by_cases e : xGA m.next.length (two m.i.toNat) (two m.o.toNat) m.next m.emit = 0
    · rw [if_pos e] at h
      rw [e]
      simp (maxSteps := 30000000) (disch := first | assumption | omega | (simp only [WL,AV.isCell] <;> omega) | rfl | decide) only [↓reduceIte,WB,xAC,xAc,xAB,xAk,xAj,AV.cells,AV.isCell,xAb,xAf,xAg,W2,xAd,xAe,xAh,Nat.reduceAdd,Nat.reduceSub,Nat.reduceLeDiff,Nat.reduceMul,Int.reduceAdd,Int.reduceSub,Int.reduceMul,Int.reduceLT,Int.reduceLE,Int.reduceEq,Int.reduceToNat,Int.reduceNeg,Nat.reduceEqDiff,Nat.reduceBEq,Nat.reduceLT,xAJ,xAK,List.length_map,xE4,hz,h]
    · rw [if_neg e] at h
      simp (maxSteps := 30000000) (disch := first | assumption | omega | (simp only [WL,AV.isCell] <;> omega) | rfl | decide) only [↓reduceIte,WB,xAC,xAc,xAB,xAk,xAj,AV.cells,AV.isCell,xAb,xAf,xAg,W2,xAd,xAe,xAh,Nat.reduceAdd,Nat.reduceSub,Nat.reduceLeDiff,Nat.reduceMul,Int.reduceAdd,Int.reduceSub,Int.reduceMul,Int.reduceLT,Int.reduceLE,Int.reduceEq,Int.reduceToNat,Int.reduceNeg,Nat.reduceEqDiff,Nat.reduceBEq,Nat.reduceLT,xAJ,xAK,List.length_map,xE4,hz,h]
  · rw [if_neg c]
    unfold Mf.cells
    rw [yC8,a21,xAr]
    simp (maxSteps := 30000000) (disch := first | assumption | omega | (simp only [WL,AV.isCell] <;> omega) | rfl | decide) only [↓reduceIte,WB,xAC,xAc,xAB,xAk,xAj,AV.cells,AV.isCell,xAb,xAf,xAg,W2,xAd,xAe,xAh,Nat.reduceAdd,Nat.reduceSub,Nat.reduceLeDiff,Nat.reduceMul,Int.reduceAdd,Int.reduceSub,Int.reduceMul,Int.reduceLT,Int.reduceLE,Int.reduceEq,Int.reduceToNat,Int.reduceNeg,Nat.reduceEqDiff,Nat.reduceBEq,Nat.reduceLT,xAJ,xAK,List.length_map,hz,c]
end
section
variable {m : Mf} {mi mo : Nat}
end
section
variable {m : Nf} {mi mo : Nat}
end
structure Ma where
  i : Nat
  o : Nat
  s : Nat
  next : List (List Nat)
  emit : List (List Nat)
def rowI (l : List Nat) : AV := .sl false l.length (xAQ l)
def rowB (l : List Nat) : AV := .sl false l.length (bs l)
def Ma.cells (M : Ma) : List AV := [.int .i64 (M.i : Nat),.int .i64 (M.o : Nat),.int .i64 (M.s : Nat),.sl false M.next.length (M.next.map rowI),.sl false M.emit.length (M.emit.map rowB)]
def Ma.av (M : Ma) : AV := .agg M.cells
structure Vm (M : Ma) : Prop where
  io : M.i + M.o ≤ 6
  n0 : 0 < M.next.length
  n9 : M.next.length ≤ 4096
  el : M.emit.length = M.next.length
  s : M.s < M.next.length
  rl : ∀ r ∈ M.next,r.length = two M.i
  wl : ∀ w ∈ M.emit,w.length = two M.i
  rb : ∀ r ∈ M.next,∀ x ∈ r,x < M.next.length
  wb : ∀ w ∈ M.emit,∀ x ∈ w,x < two M.o
theorem xA9 {l : List (List Nat)} {i : Nat} (h : i < l.length) : List.take 1 (List.drop i (l.map rowI)) = [rowI (l.getD i [])] := xIt _ _ h
theorem xBa {l : List (List Nat)} {i : Nat} (h : i < l.length) : List.take 1 (List.drop i (l.map rowB)) = [rowB (l.getD i [])] := xIt _ _ h
def Ma.toF (M : Ma) : Mf := ⟨M.i,M.o,M.s,false,M.next.map fun r => ⟨false,r.map Int.ofNat⟩,false,M.emit.map fun w => ⟨false,w⟩⟩
theorem xKZ (l : List Nat) : xCj (l.map Int.ofNat) = xAQ l := by
  unfold xCj xAQ
  rw [List.map_map]; rfl
theorem Ma.toF_av (M : Ma) : M.toF.av = M.av := by
  unfold Ma.toF Mf.av Mf.cells Ma.av Ma.cells
  simp only [List.length_map,List.map_map]
  have e1 : (rwV ∘ fun r : List Nat => (⟨false,r.map Int.ofNat⟩ : Rw)) = rowI := by
    funext r
    show rwV ⟨false,r.map Int.ofNat⟩ = rowI r
    unfold rwV rowI
    simp only [List.length_map,xKZ]
  have e2 : (wdV ∘ fun w : List Nat => (⟨false,w⟩ : Wd)) = rowB := rfl
  rw [e1,e2]
structure Cn (m : Mf) : Prop where
  z : m.z = true → m.next = []
  ze : m.ze = true → m.emit = []
  r : ∀ r ∈ m.next,r.z = true → r.l = []
  w : ∀ w ∈ m.emit,w.z = true → w.l = []
theorem badR_iff {n : Int} {l : List Int} : yAg n l = false ↔ ∀ s ∈ l,0 ≤ s ∧ s < n := by
  unfold yAg
  rw [List.any_eq_false]
  constructor
  · intro h s hs
    have := h s hs
    simp only [decide_eq_true_eq] at this
    omega
  · intro h s hs
    have := h s hs
    simp only [decide_eq_true_eq]
    omega
theorem bigW_iff {k : Nat} {l : List Nat} : xSB k l = false ↔ ∀ x ∈ l,x < k := by
  unfold xSB
  rw [List.any_eq_false]
  constructor
  · intro h s hs
    have := h s hs
    simp only [decide_eq_true_eq] at this
    omega
  · intro h s hs
    have := h s hs
    simp only [decide_eq_true_eq]
    omega
theorem rowE_zero {n wi wo : Nat} {r : Rw} {e : Wd} : xOr n wi wo r e = 0 ↔ r.l.length = wi ∧ e.l.length = wi ∧ (∀ s ∈ r.l,0 ≤ s ∧ s < (n : Int)) ∧ ∀ x ∈ e.l,x < wo := by
  unfold xOr
  by_cases c : r.l.length = wi ∧ e.l.length = wi
  · rw [if_pos c]
    by_cases c2 : yAg n r.l = true
    · rw [if_pos c2]
      exact ⟨fun h => by omega,fun h => by rw [badR_iff.2 h.2.2.1] at c2; cases c2⟩
    · rw [if_neg c2]
      have c2' := badR_iff.1 (by simpa using c2)
      by_cases c3 : xSB wo e.l = true
      · rw [if_pos c3]
        exact ⟨fun h => by omega,fun h => by rw [bigW_iff.2 h.2.2.2] at c3; cases c3⟩
      · rw [if_neg c3]
        exact ⟨fun _ => ⟨c.1,c.2,c2',bigW_iff.1 (by simpa using c3)⟩,fun _ => rfl⟩
  · rw [if_neg c]
    exact ⟨fun h => by omega,fun h => absurd ⟨h.1,h.2.1⟩ c⟩
theorem xFR {n wi wo : Nat} : ∀ {l : List Rw} {u : List Wd},l.length = u.length → (xGA n wi wo l u = 0 ↔ (∀ r ∈ l,r.l.length = wi ∧ ∀ s ∈ r.l,0 ≤ s ∧ s < (n : Int)) ∧ ∀ e ∈ u,e.l.length = wi ∧ ∀ x ∈ e.l,x < wo)
  | [],[],_ => by simp [xGA]
  | [],_ :: _,h => by simp at h
  | _ :: _,[],h => by simp at h
  | r :: t,e :: u,h => by
    have ih := xFR (n := n) (wi := wi) (wo := wo) (l := t) (u := u) (by simpa using h)
    unfold xGA
    by_cases c : xOr n wi wo r e = 0
    · have c' := rowE_zero.1 c
      rw [if_pos c,ih]
      simp only [List.forall_mem_cons]
      exact ⟨fun h => ⟨⟨⟨c'.1,c'.2.2.1⟩,h.1⟩,⟨c'.2.1,c'.2.2.2⟩,h.2⟩,fun h => ⟨h.1.2,h.2.2⟩⟩
    · rw [if_neg c]
      exact ⟨fun h => absurd h c,fun h => by
        simp only [List.forall_mem_cons] at h
        exact absurd (rowE_zero.2 ⟨h.1.1.1,h.2.1.1,h.1.1.2,h.2.1.2⟩) c⟩
theorem xOs {m : Mf} : xPf m = 0 ↔ xEo m.i m.o (m.next.length : Nat) (m.emit.length : Nat) m.s = 0 ∧ xGA m.next.length (two m.i.toNat) (two m.o.toNat) m.next m.emit = 0 := by
  unfold xPf
  by_cases c : xEo m.i m.o (m.next.length : Nat) (m.emit.length : Nat) m.s = 0
  · rw [if_pos c]; exact ⟨fun h => ⟨c,h⟩,fun h => h.2⟩
  · rw [if_neg c]; exact ⟨fun h => absurd h c,fun h => absurd h.1 c⟩
def Mf.fromF (m : Mf) : Ma := ⟨m.i.toNat,m.o.toNat,m.s.toNat,m.next.map fun r => r.l.map Int.toNat,m.emit.map fun w => w.l⟩
theorem yAp (m : Nat) : 0 < two m := Nat.two_pow_pos m
theorem xVM {l : List Int} {n : Int} (h : ∀ s ∈ l,0 ≤ s ∧ s < n) : (l.map Int.toNat).map Int.ofNat = l := by
  rw [List.map_map]
  conv => rhs; rw [← List.map_id l]
  apply List.map_congr_left
  intro s hs
  have := h s hs
  show ((s.toNat : Nat) : Int) = s
  omega
theorem xLO {m : Mf} (hc : Cn m) (h : xPf m = 0) : Vm m.fromF ∧ m.fromF.toF = m := by
  rw [xOs] at h
  obtain ⟨h1,h2⟩ := h
  have h1' := xIz h1
  rw [xFR (by omega)] at h2
  obtain ⟨h3,h4⟩ := h2
  refine ⟨⟨?_,?_,?_,?_,?_,?_,?_,?_,?_⟩,?_⟩
  · show m.i.toNat + m.o.toNat ≤ 6; omega
  · show 0 < (m.next.map _).length; rw [List.length_map]; omega
  · show (m.next.map _).length ≤ 4096; rw [List.length_map]; omega
  · show (m.emit.map _).length = (m.next.map _).length; rw [List.length_map,List.length_map]; omega
  · show m.s.toNat < (m.next.map _).length; rw [List.length_map]; omega
  · intro r hr
    obtain ⟨r',hr',rfl⟩ := List.mem_map.1 hr
    rw [List.length_map]; exact (h3 r' hr').1
  · intro r hr
    obtain ⟨r',hr',rfl⟩ := List.mem_map.1 hr
    exact (h4 r' hr').1
  · intro r hr x hx
    obtain ⟨r',hr',rfl⟩ := List.mem_map.1 hr
    obtain ⟨x',hx',rfl⟩ := List.mem_map.1 hx
    show x'.toNat < (m.next.map _).length
    rw [List.length_map]
    have := (h3 r' hr').2 x' hx'
    omega
  · intro r hr
    obtain ⟨r',hr',rfl⟩ := List.mem_map.1 hr
    exact (h4 r' hr').2
  · obtain ⟨i,o,s,z,next,ze,emit⟩ := m
    simp only at *
    have e1 : z = false := by cases z with
      | false => rfl
      | true => have := hc.z rfl; simp only at this; subst this; simp at h1'
    have e2 : ze = false := by cases ze with
      | false => rfl
      | true => have := hc.ze rfl; simp only at this; subst this; simp at h1'; omega
    subst e1 e2
    unfold Mf.fromF Ma.toF
    simp only [List.map_map,Mf.mk.injEq,true_and]
    have hp := yAp i.toNat
    refine ⟨by omega,by omega,by omega,?_,?_⟩
    · conv => rhs; rw [← List.map_id next]
      apply List.map_congr_left
      intro r hr
      have hz := hc.r r hr
      have hh := h3 r hr
      obtain ⟨z,l⟩ := r
      simp only [Function.comp] at *
      rw [xVM hh.2]
      cases z with
      | false => rfl
      | true => have := hz rfl; subst this; simp at hh; omega
    · conv => rhs; rw [← List.map_id emit]
      apply List.map_congr_left
      intro r hr
      have hz := hc.w r hr
      have hh := h4 r hr
      obtain ⟨z,l⟩ := r
      simp only [Function.comp] at *
      cases z with
      | false => rfl
      | true => have := hz rfl; subst this; simp at hh; omega
theorem yAq {M : Ma} (hV : Vm M) : xPf M.toF = 0 := by
  have io := hV.io
  have n0 := hV.n0
  have n9 := hV.n9
  have el := hV.el
  have hs := hV.s
  rw [xOs]
  have hl : M.toF.next.length = M.next.length := List.length_map ..
  have hl2 : M.toF.emit.length = M.emit.length := List.length_map ..
  have hi : M.toF.i = (M.i : Nat) := rfl
  have ho : M.toF.o = (M.o : Nat) := rfl
  have hst : M.toF.s = (M.s : Nat) := rfl
  rw [hl,hl2,hi,ho,hst,xFR (by omega)]
  refine ⟨by unfold xEo; rw [if_neg (by omega),if_neg (by omega),if_neg (by omega),if_neg (by omega),if_neg (by omega)],fun r hr => ?_,fun r hr => ?_⟩
  · obtain ⟨r',hr',rfl⟩ := List.mem_map.1 hr
    refine ⟨by rw [List.length_map]; exact hV.rl _ hr',fun s hs => ?_⟩
    obtain ⟨x,hx,rfl⟩ := List.mem_map.1 hs
    have := hV.rb _ hr' _ hx
    show 0 ≤ ((x : Nat) : Int) ∧ ((x : Nat) : Int) < _
    omega
  · obtain ⟨r',hr',rfl⟩ := List.mem_map.1 hr
    exact ⟨hV.wl _ hr',hV.wb _ hr'⟩
theorem xVN {M : Ma} (hV : Vm M) : Sm M.toF := by
  have io := hV.io
  have n9 := hV.n9
  have el := hV.el
  have b1 := (xOq (show M.i ≤ 6 by omega)).1
  have b2 := (xOq (show M.o ≤ 6 by omega)).1
  refine ⟨?_,?_,?_,?_,fun r hr => ?_,fun r hr => ?_,fun r hr => ?_⟩
  · show _ ≤ ((M.i : Nat) : Int) ∧ ((M.i : Nat) : Int) < _; omega
  · show _ ≤ ((M.o : Nat) : Int) ∧ ((M.o : Nat) : Int) < _; omega
  · show (M.next.map _).length ≤ _; rw [List.length_map]; omega
  · show (M.emit.map _).length ≤ _; rw [List.length_map]; omega
  · obtain ⟨r',hr',rfl⟩ := List.mem_map.1 hr
    rw [List.length_map,hV.rl _ hr']; omega
  · obtain ⟨r',hr',rfl⟩ := List.mem_map.1 hr
    show r'.length ≤ _
    rw [hV.wl _ hr']; omega
  · obtain ⟨r',hr',rfl⟩ := List.mem_map.1 hr
    intro x hx
    have := hV.wb _ hr' x hx
    omega
theorem xCd {M : Ma} (hV : Vm M) : L.pcall 21 [M.av] = some (.int .i64 0) := by
  have := xLN (xVN hV)
  rwa [M.toF_av,yAq hV] at this
structure Mo where
  i : Nat
  o : Nat
  s : Nat
  give : List Nat
  next : List (List Nat)
def Mo.cells (M : Mo) : List AV := [.int .i64 (M.i : Nat),.int .i64 (M.o : Nat),.int .i64 (M.s : Nat),.sl false M.give.length (bs M.give),.sl false M.next.length (M.next.map rowI)]
def Mo.av (M : Mo) : AV := .agg M.cells
structure Vo (M : Mo) : Prop where
  io : M.i + M.o ≤ 6
  n0 : 0 < M.next.length
  n9 : M.next.length ≤ 4096
  gl : M.give.length = M.next.length
  s : M.s < M.next.length
  rl : ∀ r ∈ M.next,r.length = two M.o
  rb : ∀ r ∈ M.next,∀ x ∈ r,x < M.next.length
  gb : ∀ x ∈ M.give,x < two M.i
def Mo.toF (M : Mo) : Nf := ⟨M.i,M.o,M.s,false,M.give,false,M.next.map fun r => ⟨false,r.map Int.ofNat⟩⟩
theorem Mo.toF_av (M : Mo) : M.toF.av = M.av := by
  unfold Mo.toF Nf.av Nf.cells Mo.av Mo.cells
  simp only [List.length_map,List.map_map]
  have e1 : (rwV ∘ fun r : List Nat => (⟨false,r.map Int.ofNat⟩ : Rw)) = rowI := by
    funext r
    show rwV ⟨false,r.map Int.ofNat⟩ = rowI r
    unfold rwV rowI
    simp only [List.length_map,xKZ]
  rw [e1]
def Nf.fromF (m : Nf) : Mo := ⟨m.i.toNat,m.o.toNat,m.s.toNat,m.give,m.next.map fun r => r.l.map Int.toNat⟩
def nx (M : Ma) (s i : Nat) : Nat := (M.next.getD s []).getD i 0
def em (M : Ma) (s i : Nat) : Nat := (M.emit.getD s []).getD i 0
theorem Vm.nl {M : Ma} (h : Vm M) {s : Nat} (hs : s < M.next.length) : (M.next.getD s []).length = two M.i := h.rl _ (xAA hs)
theorem Vm.wl' {M : Ma} (h : Vm M) {s : Nat} (hs : s < M.next.length) : (M.emit.getD s []).length = two M.i := h.wl _ (xAA (by rw [h.el]; exact hs))
theorem Vm.nx {M : Ma} (h : Vm M) {s i : Nat} (hs : s < M.next.length) (hi : i < two M.i) : nx M s i < M.next.length := h.rb _ (xAA hs) _ (xAA (by rw [h.nl hs]; exact hi))
theorem Vm.em {M : Ma} (h : Vm M) {s i : Nat} (hs : s < M.next.length) (hi : i < two M.i) : em M s i < two M.o := h.wb _ (xAA (by rw [h.el]; exact hs)) _ (xAA (by rw [h.wl' hs]; exact hi))
def nxo (N : Mo) (t o : Nat) : Nat := (N.next.getD t []).getD o 0
def gv (N : Mo) (t : Nat) : Nat := N.give.getD t 0
theorem Vo.nl {N : Mo} (h : Vo N) {s : Nat} (hs : s < N.next.length) : (N.next.getD s []).length = two N.o := h.rl _ (xAA hs)
theorem Vo.nx {N : Mo} (h : Vo N) {s i : Nat} (hs : s < N.next.length) (hi : i < two N.o) : nxo N s i < N.next.length := h.rb _ (xAA hs) _ (xAA (by rw [h.nl hs]; exact hi))
theorem Vo.gv {N : Mo} (h : Vo N) {s : Nat} (hs : s < N.next.length) : gv N s < two N.i := h.gb _ (xAA (by rw [h.gl]; exact hs))
theorem xIA {a b : Nat} (h : a ≤ b) : two a ≤ two b := Nat.pow_le_pow_right (by decide) h
def lt2 (a i o : Nat) : Nat := i + o * two a
def yC1 (M : Ma) (N : Mo) (c : Nat × Nat) : Nat × Nat := (nx M c.1 (gv N c.2),nxo N c.2 (em M c.1 (gv N c.2)))
def yDQ (M : Ma) (N : Mo) (c : Nat × Nat) : Nat := lt2 M.i (gv N c.2) (em M c.1 (gv N c.2))
def cfg (M : Ma) (N : Mo) : Nat → Nat × Nat
  | 0 => (M.s,N.s)
  | n + 1 => yC1 M N (cfg M N n)
def lets (M : Ma) (N : Mo) (n : Nat) : List Nat := (List.range n).map fun k => yDQ M N (cfg M N k)
theorem TrI.keep {B T : Nat} {G G' : Heap} {ks : List (Nat × Nat)} {w : List Nat} (h : TrI B T G ks w) (hk : ∀ b,b = T ∨ B ≤ b → b < G.length → G'[b]? = G[b]?) : TrI B T G' ks w := by
  obtain ⟨mv,wv,h1,h2,h3⟩ := h
  refine ⟨mv,wv,by rw [hk T (.inl rfl) (xBI h1)]; exact h1,?_,?_⟩
  · rcases h2 with h2 | ⟨q,e,hq,hm⟩
    · exact .inl h2
    · exact .inr ⟨q,e,hq,by rw [hk q (.inr hq) (xBI hm)]; exact hm⟩
  · rcases h3 with h3 | ⟨q,e,hq,hm⟩
    · exact .inl h3
    · exact .inr ⟨q,e,hq,by rw [hk q (.inr hq) (xBI hm)]; exact hm⟩
section
variable {M : Ma} {N : Mo} {G : Heap} {s t : Nat} {ks : List (Nat × Nat)} {w : List Nat}
end
section
variable {M : Ma} {N : Mo}
end
theorem xBx : (true != false) = true := rfl
theorem xBy : (false != false) = false := rfl
def yCc (c : Nat × Nat) : List AV := [.int .i64 (c.1 : Nat),.int .i64 (c.2 : Nat)]
def pcs (l : List (Nat × Nat)) : List AV := rows yCc l
theorem xAl (l : List (Nat × Nat)) : (pcs l).length = l.length * 2 := xED (enc := yCc) (k := 2) (fun _ => rfl) l
theorem xVO {l : List (Nat × Nat)} {i : Nat} (h : i < l.length) : List.take 2 (List.drop (i * 2) (pcs l)) = [.int .i64 ((l.getD i (0,0)).1 : Nat),.int .i64 ((l.getD i (0,0)).2 : Nat)] := by
  unfold pcs
  rw [xIx (enc := yCc) (k := 2) (fun _ => rfl),List.drop_eq_getElem_cons h]
  have : l.getD i (0,0) = l[i] := by simp [List.getD,List.getElem?_eq_getElem h]
  rw [this]
  rfl
theorem xXE (l : List (Nat × Nat)) (c : Nat × Nat) : pcs l ++ [.int .i64 (c.1 : Nat),.int .i64 (c.2 : Nat)] = pcs (l ++ [c]) := xRr yCc l [c]
section
variable {M : Ma} {N : Mo} {G : Heap} {s t : Nat} {ks : List (Nat × Nat)} {w : List Nat} {wv pv : AV}
end
end Go.Abs.Mealy
