/- Automata and trees as values; the lists of states; Check. -/
import Derived.Test.YtijmhicopfphnaaDoorAbsBun
import Derived.Test.YtijmhicopfphnaaDoorAMN
namespace Go.Abs.Tree
open Go Go.Abs
set_option linter.unusedSimpArgs false
set_option linter.unusedVariables false
structure Rl where
 l : Int
 r : Int
 t : Int
 p : Nat
 n : Nat
def r0 : Rl := ⟨0,0,0,0,0⟩
def xCe (e : Rl) : List AV := [.int .i64 e.l,.int .i64 e.r,.int .i64 e.t,.int .u8 (e.p : Nat),.int .u8 (e.n : Nat)]
def rls (l : List Rl) : List AV := rows xCe l
theorem xAa (l : List Rl) : (rls l).length = l.length * 5 := xJC (enc := xCe) (k := 5) (fun _ => rfl) l
theorem xAs {l : List Rl} {i : Nat} (h : i < l.length) : List.take 5 (List.drop (i * 5) (rls l)) = [.int .i64 (l.getD i r0).l,.int .i64 (l.getD i r0).r,.int .i64 (l.getD i r0).t,.int .u8 ((l.getD i r0).p : Nat),.int .u8 ((l.getD i r0).n : Nat)] := by
 unfold rls
 rw [xJD (enc := xCe) (k := 5) (fun _ => rfl),List.drop_eq_getElem_cons h]
 have : l.getD i r0 = l[i] := by simp [List.getD,List.getElem?_eq_getElem h]
 rw [this]
 rfl
theorem xCv {l : List Rl} {i : Nat} (h : i < l.length) : l.drop i = l.getD i r0 :: l.drop (i + 1) := by
 rw [List.drop_eq_getElem_cons h]
 simp [List.getD,List.getElem?_eq_getElem h]
theorem xC0 {l : List Rl} {i : Nat} (h : i < l.length) : l.getD i r0 ∈ l := by
 rw [List.getD_eq_getElem?_getD,List.getElem?_eq_getElem h]
 exact List.getElem_mem _
structure Aut where
 vars : Int
 states : Int
 z1 : Bool
 st : List Int
 z2 : Bool
 fi : List Int
 z3 : Bool
 rl : List Rl
abbrev Aut.cells (n : Aut) : List AV := [.int .i64 n.vars,.int .i64 n.states,iw n.z1 n.st,iw n.z2 n.fi,.sl n.z3 n.rl.length (rls n.rl)]
abbrev Aut.av (n : Aut) : AV := .agg n.cells
def xJx (s : Int) : Int → List Int → Bool
 | _,[] => true
 | last,q :: t => if q ≤ last ∨ s ≤ q then false else xJx s q t
theorem xSW {s : Int} {z : Bool} {l : List Int} {s4 : AV} {H : Heap} (hl : l.length < 1099511627776) : ∀ d i last,i + d = l.length →
  ∃ (last' : Int) (i' : Nat),L.loop xNy xYO ⟨xKo (.int .i64 s) s4 (.int .i64 last) (iw z l) (.int .i64 (l.length : Nat)) (.int .i64 (i : Nat)),H⟩ =
   some (if xJx s last (l.drop i) = true then (.exit 0,⟨xKo (.int .i64 s) s4 (.int .i64 last') (iw z l) (.int .i64 (l.length : Nat)) (.int .i64 (l.length : Nat)),H⟩)
    else (.ret,⟨xKo (.int .i64 s) (.int .i64 8) (.int .i64 last') (iw z l) (.int .i64 (l.length : Nat)) (.int .i64 (i' : Nat)),H⟩))
 | 0,i,last,h => by
  obtain rfl : i = l.length := by omega
  refine ⟨last,0,?_⟩
  rw [if_pos (by rw [List.drop_length]; rfl),xRn]
  simp (maxSteps := 30000000) (disch := first | assumption | omega | (simp only [WL,AV.isCell,xAa] <;> omega) | rfl | decide) only [↓reduceIte,WB,xAW,xAd,xAV,xAm,xAl,AV.cells,AV.isCell,xAc,xAi,xAj,WA,W2,xAe,xAf,xAh,Nat.reduceAdd,Nat.reduceSub,Nat.reduceLeDiff,Nat.reduceMul,Int.reduceAdd,Int.reduceSub,Int.reduceMul,Int.reduceLT,Int.reduceLE,Int.reduceEq,Int.reduceToNat,Int.reduceNeg,Nat.reduceEqDiff,Nat.reduceBEq,Nat.reduceLT,xAa,xAs,xBP,xBg,xBh,xBi,xBQ,xA0,xIi,xIj]
 | d + 1,i,last,h => by
  have hlt : (i : Int) < (l.length : Nat) := by omega
  rw [xCw (by omega : i < l.length)]
  by_cases c1 : l.getD i 0 ≤ last
  ·refine ⟨last,i,?_⟩
   have ea : xJx s last (l.getD i 0 :: l.drop (i + 1)) = false := if_pos (.inl c1)
   rw [ea,if_neg (by simp),xRn]
   simp (maxSteps := 30000000) (disch := first | assumption | omega | (simp only [WL,AV.isCell,xAa] <;> omega) | rfl | decide) only [↓reduceIte,WB,xAW,xAd,xAV,xAm,xAl,AV.cells,AV.isCell,xAc,xAi,xAj,WA,W2,xAe,xAf,xAh,Nat.reduceAdd,Nat.reduceSub,Nat.reduceLeDiff,Nat.reduceMul,Int.reduceAdd,Int.reduceSub,Int.reduceMul,Int.reduceLT,Int.reduceLE,Int.reduceEq,Int.reduceToNat,Int.reduceNeg,Nat.reduceEqDiff,Nat.reduceBEq,Nat.reduceLT,xAa,xAs,xBP,xBg,xBh,xBi,xBQ,xA0,xIi,xIj,hlt,c1]
  ·by_cases c2 : s ≤ l.getD i 0
   ·refine ⟨last,i,?_⟩
    have ea : xJx s last (l.getD i 0 :: l.drop (i + 1)) = false := if_pos (.inr c2)
    rw [ea,if_neg (by simp),xRn]
    simp (maxSteps := 30000000) (disch := first | assumption | omega | (simp only [WL,AV.isCell,xAa] <;> omega) | rfl | decide) only [↓reduceIte,WB,xAW,xAd,xAV,xAm,xAl,AV.cells,AV.isCell,xAc,xAi,xAj,WA,W2,xAe,xAf,xAh,Nat.reduceAdd,Nat.reduceSub,Nat.reduceLeDiff,Nat.reduceMul,Int.reduceAdd,Int.reduceSub,Int.reduceMul,Int.reduceLT,Int.reduceLE,Int.reduceEq,Int.reduceToNat,Int.reduceNeg,Nat.reduceEqDiff,Nat.reduceBEq,Nat.reduceLT,xAa,xAs,xBP,xBg,xBh,xBi,xBQ,xA0,xIi,xIj,hlt,c1,c2]
   ·obtain ⟨last',i',ih⟩ := xSW (s := s) (z := z) (s4 := s4) (H := H) hl d (i + 1) (l.getD i 0) (by omega)
    refine ⟨last',i',?_⟩
    have ea : xJx s last (l.getD i 0 :: l.drop (i + 1)) = xJx s (l.getD i 0) (l.drop (i + 1)) := if_neg (by omega)
    rw [ea,xRn]
    by_cases e : xJx s (l.getD i 0) (l.drop (i + 1)) = true
    ·rw [if_pos e] at ih ⊢
     simp (maxSteps := 30000000) (disch := first | assumption | omega | (simp only [WL,AV.isCell,xAa] <;> omega) | rfl | decide) only [↓reduceIte,WB,xAW,xAd,xAV,xAm,xAl,AV.cells,AV.isCell,xAc,xAi,xAj,WA,W2,xAe,xAf,xAh,Nat.reduceAdd,Nat.reduceSub,Nat.reduceLeDiff,Nat.reduceMul,Int.reduceAdd,Int.reduceSub,Int.reduceMul,Int.reduceLT,Int.reduceLE,Int.reduceEq,Int.reduceToNat,Int.reduceNeg,Nat.reduceEqDiff,Nat.reduceBEq,Nat.reduceLT,xAa,xAs,xBP,xBg,xBh,xBi,xBQ,xA0,xIi,xIj,hlt,c1,c2,ih]
    ·rw [if_neg e] at ih ⊢
     simp (maxSteps := 30000000) (disch := first | assumption | omega | (simp only [WL,AV.isCell,xAa] <;> omega) | rfl | decide) only [↓reduceIte,WB,xAW,xAd,xAV,xAm,xAl,AV.cells,AV.isCell,xAc,xAi,xAj,WA,W2,xAe,xAf,xAh,Nat.reduceAdd,Nat.reduceSub,Nat.reduceLeDiff,Nat.reduceMul,Int.reduceAdd,Int.reduceSub,Int.reduceMul,Int.reduceLT,Int.reduceLE,Int.reduceEq,Int.reduceToNat,Int.reduceNeg,Nat.reduceEqDiff,Nat.reduceBEq,Nat.reduceLT,xAa,xAs,xBP,xBg,xBh,xBi,xBQ,xA0,xIi,xIj,hlt,c1,c2,ih]
def xCR (s : Int) (l : List Int) : Int := if xJx s (-1) l = true then 0 else 8
theorem yBi (s : Int) (z : Bool) (l : List Int) (hl : l.length < 1099511627776) : L.pcall 44 [iw z l,.int .i64 s] = some (.int .i64 (xCR s l)) := by
 obtain ⟨last',i',h⟩ := xSW (s := s) (z := z) (s4 := .int .i64 0) (H := []) hl l.length 0 (-1) (by omega)
 simp only [Int.natCast_zero,List.drop_zero] at h
 unfold xCR
 rw [yG1,a44,xAu]
 by_cases e : xJx s (-1) l = true
 ·rw [if_pos e] at h ⊢
  simp (maxSteps := 30000000) (disch := first | assumption | omega | (simp only [WL,AV.isCell,xAa] <;> omega) | rfl | decide) only [↓reduceIte,WB,xAW,xAd,xAV,xAm,xAl,AV.cells,AV.isCell,xAc,xAi,xAj,WA,W2,xAe,xAf,xAh,Nat.reduceAdd,Nat.reduceSub,Nat.reduceLeDiff,Nat.reduceMul,Int.reduceAdd,Int.reduceSub,Int.reduceMul,Int.reduceLT,Int.reduceLE,Int.reduceEq,Int.reduceToNat,Int.reduceNeg,Nat.reduceEqDiff,Nat.reduceBEq,Nat.reduceLT,xAa,xAs,xBP,xBg,xBh,xBi,xBQ,xA0,xIj,h]
 ·rw [if_neg e] at h ⊢
  simp (maxSteps := 30000000) (disch := first | assumption | omega | (simp only [WL,AV.isCell,xAa] <;> omega) | rfl | decide) only [↓reduceIte,WB,xAW,xAd,xAV,xAm,xAl,AV.cells,AV.isCell,xAc,xAi,xAj,WA,W2,xAe,xAf,xAh,Nat.reduceAdd,Nat.reduceSub,Nat.reduceLeDiff,Nat.reduceMul,Int.reduceAdd,Int.reduceSub,Int.reduceMul,Int.reduceLT,Int.reduceLE,Int.reduceEq,Int.reduceToNat,Int.reduceNeg,Nat.reduceEqDiff,Nat.reduceBEq,Nat.reduceLT,xAa,xAs,xBP,xBg,xBh,xBi,xBQ,xA0,xIj,h]
def xHr (s : Int) (v : Nat) (e : Rl) : Int := if min (min e.l e.r) e.t < 0 ∨ s ≤ max (max e.l e.r) e.t then 8 else xE7 v e.p e.n
def xDc (s : Int) (v : Nat) : List Rl → Int
 | [] => 0
 | e :: t => if xHr s v e = 0 then xDc s v t else xHr s v e
theorem xB9 {s : Int} {v : Nat} {e : Rl} {t : List Rl} (h : xHr s v e ≠ 0) : xDc s v (e :: t) = xHr s v e := if_neg h
theorem xPR {s : Int} {v : Nat} {e : Rl} {t : List Rl} (h : xHr s v e = 0) : xDc s v (e :: t) = xDc s v t := if_pos h
theorem xUb (n : Aut) {s2 : AV} (h1 : n.st.length < 1099511627776) (h2 : n.fi.length < 1099511627776) :
  ∃ i' : AV,L.loop xKd xVb ⟨xG5 (.ptr 0 0) s2 (.agg [iw n.z1 n.st,iw n.z2 n.fi]) (.int .i64 0),[.cells false false n.cells]⟩ =
   some (if xCR n.states n.st = 0 ∧ xCR n.states n.fi = 0 then (.exit 1,⟨xG5 (.ptr 0 0) s2 (.agg [iw n.z1 n.st,iw n.z2 n.fi]) (.int .i64 2),[.cells false false n.cells]⟩)
    else (.ret,⟨xG5 (.ptr 0 0) (.int .i64 8) (.agg [iw n.z1 n.st,iw n.z2 n.fi]) i',[.cells false false n.cells]⟩)) := by
 have e1 := yBi n.states n.z1 n.st h1
 have e2 := yBi n.states n.z2 n.fi h2
 have k2 : L.loop xKd xVb ⟨xG5 (.ptr 0 0) s2 (.agg [iw n.z1 n.st,iw n.z2 n.fi]) (.int .i64 2),[.cells false false n.cells]⟩ = some (.exit 1,⟨xG5 (.ptr 0 0) s2 (.agg [iw n.z1 n.st,iw n.z2 n.fi]) (.int .i64 2),[.cells false false n.cells]⟩) := by
  rw [xKe]
  simp (maxSteps := 30000000) (disch := first | assumption | omega | (simp only [WL,AV.isCell,xAa] <;> omega) | rfl | decide) only [↓reduceIte,WB,xAW,xAd,xAV,xAm,xAl,AV.cells,AV.isCell,xAc,xAi,xAj,WA,W2,xAe,xAf,xAh,Nat.reduceAdd,Nat.reduceSub,Nat.reduceLeDiff,Nat.reduceMul,Int.reduceAdd,Int.reduceSub,Int.reduceMul,Int.reduceLT,Int.reduceLE,Int.reduceEq,Int.reduceToNat,Int.reduceNeg,Nat.reduceEqDiff,Nat.reduceBEq,Nat.reduceLT,xAa,xAs,xBP,xBg,xBh,xBi,xBQ,xA0,xG4,xF7]
 have g : ∀ l,xCR n.states l = 0 ∨ xCR n.states l = 8 := fun l => by unfold xCR; split <;> simp
 rcases g n.st with c1 | c1
 ·rcases g n.fi with c2 | c2
  ·refine ⟨.int .i64 2,?_⟩
   rw [c1] at e1
   rw [c2] at e2
   rw [if_pos ⟨c1,c2⟩,xKe]
   simp (maxSteps := 30000000) (disch := first | assumption | omega | (simp only [WL,AV.isCell,xAa] <;> omega) | rfl | decide) only [↓reduceIte,WB,xAW,xAd,xAV,xAm,xAl,AV.cells,AV.isCell,xAc,xAi,xAj,WA,W2,xAe,xAf,xAh,Nat.reduceAdd,Nat.reduceSub,Nat.reduceLeDiff,Nat.reduceMul,Int.reduceAdd,Int.reduceSub,Int.reduceMul,Int.reduceLT,Int.reduceLE,Int.reduceEq,Int.reduceToNat,Int.reduceNeg,Nat.reduceEqDiff,Nat.reduceBEq,Nat.reduceLT,xAa,xAs,xBP,xBg,xBh,xBi,xBQ,xA0,xG4,xF7,e1]
   rw [xKe]
   simp (maxSteps := 30000000) (disch := first | assumption | omega | (simp only [WL,AV.isCell,xAa] <;> omega) | rfl | decide) only [↓reduceIte,WB,xAW,xAd,xAV,xAm,xAl,AV.cells,AV.isCell,xAc,xAi,xAj,WA,W2,xAe,xAf,xAh,Nat.reduceAdd,Nat.reduceSub,Nat.reduceLeDiff,Nat.reduceMul,Int.reduceAdd,Int.reduceSub,Int.reduceMul,Int.reduceLT,Int.reduceLE,Int.reduceEq,Int.reduceToNat,Int.reduceNeg,Nat.reduceEqDiff,Nat.reduceBEq,Nat.reduceLT,xAa,xAs,xBP,xBg,xBh,xBi,xBQ,xA0,xG4,xF7,e2,k2]
  ·refine ⟨.int .i64 1,?_⟩
   rw [c1] at e1
   rw [c2] at e2
   rw [if_neg (by omega),xKe]
   simp (maxSteps := 30000000) (disch := first | assumption | omega | (simp only [WL,AV.isCell,xAa] <;> omega) | rfl | decide) only [↓reduceIte,WB,xAW,xAd,xAV,xAm,xAl,AV.cells,AV.isCell,xAc,xAi,xAj,WA,W2,xAe,xAf,xAh,Nat.reduceAdd,Nat.reduceSub,Nat.reduceLeDiff,Nat.reduceMul,Int.reduceAdd,Int.reduceSub,Int.reduceMul,Int.reduceLT,Int.reduceLE,Int.reduceEq,Int.reduceToNat,Int.reduceNeg,Nat.reduceEqDiff,Nat.reduceBEq,Nat.reduceLT,xAa,xAs,xBP,xBg,xBh,xBi,xBQ,xA0,xG4,xF7,e1]
   rw [xKe]
   simp (maxSteps := 30000000) (disch := first | assumption | omega | (simp only [WL,AV.isCell,xAa] <;> omega) | rfl | decide) only [↓reduceIte,WB,xAW,xAd,xAV,xAm,xAl,AV.cells,AV.isCell,xAc,xAi,xAj,WA,W2,xAe,xAf,xAh,Nat.reduceAdd,Nat.reduceSub,Nat.reduceLeDiff,Nat.reduceMul,Int.reduceAdd,Int.reduceSub,Int.reduceMul,Int.reduceLT,Int.reduceLE,Int.reduceEq,Int.reduceToNat,Int.reduceNeg,Nat.reduceEqDiff,Nat.reduceBEq,Nat.reduceLT,xAa,xAs,xBP,xBg,xBh,xBi,xBQ,xA0,xG4,xF7,e2]
 ·refine ⟨.int .i64 0,?_⟩
  rw [c1] at e1
  rw [if_neg (by omega),xKe]
  simp (maxSteps := 30000000) (disch := first | assumption | omega | (simp only [WL,AV.isCell,xAa] <;> omega) | rfl | decide) only [↓reduceIte,WB,xAW,xAd,xAV,xAm,xAl,AV.cells,AV.isCell,xAc,xAi,xAj,WA,W2,xAe,xAf,xAh,Nat.reduceAdd,Nat.reduceSub,Nat.reduceLeDiff,Nat.reduceMul,Int.reduceAdd,Int.reduceSub,Int.reduceMul,Int.reduceLT,Int.reduceLE,Int.reduceEq,Int.reduceToNat,Int.reduceNeg,Nat.reduceEqDiff,Nat.reduceBEq,Nat.reduceLT,xAa,xAs,xBP,xBg,xBh,xBi,xBQ,xA0,xG4,xF7,e1]
set_option maxHeartbeats 4000000 in
theorem xLM {n : Aut} {v : Nat} {s2 : AV} (hv : v ≤ 6) (hnv : n.vars = (v : Nat)) (hl : n.rl.length < 1099511627776) (hb : ∀ e ∈ n.rl,e.p < 256 ∧ e.n < 256) : ∀ d i T,i + d = n.rl.length →
  ∃ (T' : Heap) (i' : Nat),L.loop xNb xYE ⟨xKf (.ptr 0 0) s2 (.sl n.z3 n.rl.length (rls n.rl)) (.int .i64 (n.rl.length : Nat)) (.int .i64 (i : Nat)),.cells false false n.cells :: T⟩ =
   some (if xDc n.states v (n.rl.drop i) = 0 then (.exit 3,⟨xKf (.ptr 0 0) s2 (.sl n.z3 n.rl.length (rls n.rl)) (.int .i64 (n.rl.length : Nat)) (.int .i64 (n.rl.length : Nat)),.cells false false n.cells :: T'⟩)
    else (.ret,⟨xKf (.ptr 0 0) (.int .i64 (xDc n.states v (n.rl.drop i))) (.sl n.z3 n.rl.length (rls n.rl)) (.int .i64 (n.rl.length : Nat)) (.int .i64 (i' : Nat)),.cells false false n.cells :: T'⟩))
 | 0,i,T,h => by
  obtain rfl : i = n.rl.length := by omega
  refine ⟨T,0,?_⟩
  rw [if_pos (by rw [List.drop_length]; rfl),xNc]
  simp (maxSteps := 30000000) (disch := first | assumption | omega | (simp only [WL,AV.isCell,xAa] <;> omega) | rfl | decide) only [↓reduceIte,WB,xAW,xAd,xAV,xAm,xAl,AV.cells,AV.isCell,xAc,xAi,xAj,WA,W2,xAe,xAf,xAh,Nat.reduceAdd,Nat.reduceSub,Nat.reduceLeDiff,Nat.reduceMul,Int.reduceAdd,Int.reduceSub,Int.reduceMul,Int.reduceLT,Int.reduceLE,Int.reduceEq,Int.reduceToNat,Int.reduceNeg,Nat.reduceEqDiff,Nat.reduceBEq,Nat.reduceLT,xAa,xAs,xBP,xBg,xBh,xBi,xBQ,xA0,xG6,xF8]
 | d + 1,i,T,h => by
  have hlt : (i : Int) < (n.rl.length : Nat) := by omega
  have hm := hb _ (xC0 (by omega : i < n.rl.length))
  have hcube := xXs v (n.rl.getD i r0).p (n.rl.getD i r0).n hv hm.1 hm.2
  rw [xCv (by omega : i < n.rl.length)]
  by_cases c1 : min (min (n.rl.getD i r0).l (n.rl.getD i r0).r) (n.rl.getD i r0).t < 0
  ·refine ⟨T ++ [.cells false false (xCe (n.rl.getD i r0))],i,?_⟩
   have ee : xHr n.states v (n.rl.getD i r0) = 8 := if_pos (.inl c1)
   rw [xB9 (by rw [ee]; omega),ee,if_neg (by omega),xNc]
   simp (maxSteps := 30000000) (disch := first | assumption | omega | (simp only [WL,AV.isCell,xAa] <;> omega) | rfl | decide) only [↓reduceIte,WB,xAW,xAd,xAV,xAm,xAl,AV.cells,AV.isCell,xAc,xAi,xAj,WA,W2,xAe,xAf,xAh,Nat.reduceAdd,Nat.reduceSub,Nat.reduceLeDiff,Nat.reduceMul,Int.reduceAdd,Int.reduceSub,Int.reduceMul,Int.reduceLT,Int.reduceLE,Int.reduceEq,Int.reduceToNat,Int.reduceNeg,Nat.reduceEqDiff,Nat.reduceBEq,Nat.reduceLT,xAa,xAs,xBP,xBg,xBh,xBi,xBQ,xA0,xG6,xF8,hlt,c1,xCe]
  ·by_cases c2 : n.states ≤ max (max (n.rl.getD i r0).l (n.rl.getD i r0).r) (n.rl.getD i r0).t
   ·refine ⟨T ++ [.cells false false (xCe (n.rl.getD i r0))],i,?_⟩
    have ee : xHr n.states v (n.rl.getD i r0) = 8 := if_pos (.inr c2)
    rw [xB9 (by rw [ee]; omega),ee,if_neg (by omega),xNc]
    simp (maxSteps := 30000000) (disch := first | assumption | omega | (simp only [WL,AV.isCell,xAa] <;> omega) | rfl | decide) only [↓reduceIte,WB,xAW,xAd,xAV,xAm,xAl,AV.cells,AV.isCell,xAc,xAi,xAj,WA,W2,xAe,xAf,xAh,Nat.reduceAdd,Nat.reduceSub,Nat.reduceLeDiff,Nat.reduceMul,Int.reduceAdd,Int.reduceSub,Int.reduceMul,Int.reduceLT,Int.reduceLE,Int.reduceEq,Int.reduceToNat,Int.reduceNeg,Nat.reduceEqDiff,Nat.reduceBEq,Nat.reduceLT,xAa,xAs,xBP,xBg,xBh,xBi,xBQ,xA0,xG6,xF8,hlt,c1,c2,xCe]
   ·have ee : xHr n.states v (n.rl.getD i r0) = xE7 v (n.rl.getD i r0).p (n.rl.getD i r0).n := if_neg (by omega)
    by_cases c3 : xE7 v (n.rl.getD i r0).p (n.rl.getD i r0).n = 0
    ·obtain ⟨T',i',ih⟩ := xLM (s2 := s2) hv hnv hl hb d (i + 1) (T ++ [.cells false false (xCe (n.rl.getD i r0))]) (by omega)
     refine ⟨T',i',?_⟩
     rw [c3] at hcube
     rw [xPR (by rw [ee]; exact c3),xNc]
     simp only [xCe] at ih
     by_cases e : xDc n.states v (n.rl.drop (i + 1)) = 0
     ·rw [if_pos e] at ih ⊢
      simp (maxSteps := 30000000) (disch := first | assumption | omega | (simp only [WL,AV.isCell,xAa] <;> omega) | rfl | decide) only [↓reduceIte,WB,xAW,xAd,xAV,xAm,xAl,AV.cells,AV.isCell,xAc,xAi,xAj,WA,W2,xAe,xAf,xAh,Nat.reduceAdd,Nat.reduceSub,Nat.reduceLeDiff,Nat.reduceMul,Int.reduceAdd,Int.reduceSub,Int.reduceMul,Int.reduceLT,Int.reduceLE,Int.reduceEq,Int.reduceToNat,Int.reduceNeg,Nat.reduceEqDiff,Nat.reduceBEq,Nat.reduceLT,xAa,xAs,xBP,xBg,xBh,xBi,xBQ,xA0,xG6,xF8,hlt,c1,c2,hnv,hcube,ih]
     ·rw [if_neg e] at ih ⊢
      simp (maxSteps := 30000000) (disch := first | assumption | omega | (simp only [WL,AV.isCell,xAa] <;> omega) | rfl | decide) only [↓reduceIte,WB,xAW,xAd,xAV,xAm,xAl,AV.cells,AV.isCell,xAc,xAi,xAj,WA,W2,xAe,xAf,xAh,Nat.reduceAdd,Nat.reduceSub,Nat.reduceLeDiff,Nat.reduceMul,Int.reduceAdd,Int.reduceSub,Int.reduceMul,Int.reduceLT,Int.reduceLE,Int.reduceEq,Int.reduceToNat,Int.reduceNeg,Nat.reduceEqDiff,Nat.reduceBEq,Nat.reduceLT,xAa,xAs,xBP,xBg,xBh,xBi,xBQ,xA0,xG6,xF8,hlt,c1,c2,hnv,hcube,ih]
    ·refine ⟨T ++ [.cells false false (xCe (n.rl.getD i r0))],i,?_⟩
     rw [xB9 (by rw [ee]; exact c3),ee,if_neg c3,xNc]
     simp (maxSteps := 30000000) (disch := first | assumption | omega | (simp only [WL,AV.isCell,xAa] <;> omega) | rfl | decide) only [↓reduceIte,WB,xAW,xAd,xAV,xAm,xAl,AV.cells,AV.isCell,xAc,xAi,xAj,WA,W2,xAe,xAf,xAh,Nat.reduceAdd,Nat.reduceSub,Nat.reduceLeDiff,Nat.reduceMul,Int.reduceAdd,Int.reduceSub,Int.reduceMul,Int.reduceLT,Int.reduceLE,Int.reduceEq,Int.reduceToNat,Int.reduceNeg,Nat.reduceEqDiff,Nat.reduceBEq,Nat.reduceLT,xAa,xAs,xBP,xBg,xBh,xBi,xBQ,xA0,xG6,xF8,hlt,c1,c2,c3,hnv,hcube,xCe]
def xPS (n : Aut) : Int :=
 if n.vars < 0 ∨ 3 < n.vars then 7 else if n.states < 0 then 1 else if 64 < n.states ∨ 512 < n.rl.length then 4
 else if xCR n.states n.st = 0 ∧ xCR n.states n.fi = 0 then xDc n.states n.vars.toNat n.rl else 8
set_option maxHeartbeats 4000000 in
theorem xGq (n : Aut) (h1 : n.st.length < 1099511627776) (h2 : n.fi.length < 1099511627776) (h3 : n.rl.length < 1099511627776) (hb : ∀ e ∈ n.rl,e.p < 256 ∧ e.n < 256) : L.pcall 14 [n.av] = some (.int .i64 (xPS n)) := by
 have e5 : ((512 : Int) < (n.rl.length : Nat)) = (512 < n.rl.length) := propext ⟨fun h => by omega,fun h => by omega⟩
 unfold xPS
 rw [yGT,a14,xAu]
 by_cases c1 : n.vars < 0
 ·rw [if_pos (.inl c1)]
  simp (maxSteps := 30000000) (disch := first | assumption | omega | (simp only [WL,AV.isCell,xAa] <;> omega) | rfl | decide) only [↓reduceIte,WB,xAW,xAd,xAV,xAm,xAl,AV.cells,AV.isCell,xAc,xAi,xAj,WA,W2,xAe,xAf,xAh,Nat.reduceAdd,Nat.reduceSub,Nat.reduceLeDiff,Nat.reduceMul,Int.reduceAdd,Int.reduceSub,Int.reduceMul,Int.reduceLT,Int.reduceLE,Int.reduceEq,Int.reduceToNat,Int.reduceNeg,Nat.reduceEqDiff,Nat.reduceBEq,Nat.reduceLT,xAa,xAs,xBP,xBg,xBh,xBi,xBQ,xA0,c1]
 ·by_cases c2 : 3 < n.vars
  ·rw [if_pos (.inr c2)]
   simp (maxSteps := 30000000) (disch := first | assumption | omega | (simp only [WL,AV.isCell,xAa] <;> omega) | rfl | decide) only [↓reduceIte,WB,xAW,xAd,xAV,xAm,xAl,AV.cells,AV.isCell,xAc,xAi,xAj,WA,W2,xAe,xAf,xAh,Nat.reduceAdd,Nat.reduceSub,Nat.reduceLeDiff,Nat.reduceMul,Int.reduceAdd,Int.reduceSub,Int.reduceMul,Int.reduceLT,Int.reduceLE,Int.reduceEq,Int.reduceToNat,Int.reduceNeg,Nat.reduceEqDiff,Nat.reduceBEq,Nat.reduceLT,xAa,xAs,xBP,xBg,xBh,xBi,xBQ,xA0,c1,c2]
  ·rw [if_neg (by omega)]
   by_cases c3 : n.states < 0
   ·rw [if_pos c3]
    simp (maxSteps := 30000000) (disch := first | assumption | omega | (simp only [WL,AV.isCell,xAa] <;> omega) | rfl | decide) only [↓reduceIte,WB,xAW,xAd,xAV,xAm,xAl,AV.cells,AV.isCell,xAc,xAi,xAj,WA,W2,xAe,xAf,xAh,Nat.reduceAdd,Nat.reduceSub,Nat.reduceLeDiff,Nat.reduceMul,Int.reduceAdd,Int.reduceSub,Int.reduceMul,Int.reduceLT,Int.reduceLE,Int.reduceEq,Int.reduceToNat,Int.reduceNeg,Nat.reduceEqDiff,Nat.reduceBEq,Nat.reduceLT,xAa,xAs,xBP,xBg,xBh,xBi,xBQ,xA0,c1,c2,c3]
   ·rw [if_neg c3]
    by_cases c4 : 64 < n.states
    ·rw [if_pos (.inl c4)]
     simp (maxSteps := 30000000) (disch := first | assumption | omega | (simp only [WL,AV.isCell,xAa] <;> omega) | rfl | decide) only [↓reduceIte,WB,xAW,xAd,xAV,xAm,xAl,AV.cells,AV.isCell,xAc,xAi,xAj,WA,W2,xAe,xAf,xAh,Nat.reduceAdd,Nat.reduceSub,Nat.reduceLeDiff,Nat.reduceMul,Int.reduceAdd,Int.reduceSub,Int.reduceMul,Int.reduceLT,Int.reduceLE,Int.reduceEq,Int.reduceToNat,Int.reduceNeg,Nat.reduceEqDiff,Nat.reduceBEq,Nat.reduceLT,xAa,xAs,xBP,xBg,xBh,xBi,xBQ,xA0,c1,c2,c3,c4]
    ·by_cases c5 : 512 < n.rl.length
     ·rw [if_pos (.inr c5)]
      simp (maxSteps := 30000000) (disch := first | assumption | omega | (simp only [WL,AV.isCell,xAa] <;> omega) | rfl | decide) only [↓reduceIte,WB,xAW,xAd,xAV,xAm,xAl,AV.cells,AV.isCell,xAc,xAi,xAj,WA,W2,xAe,xAf,xAh,Nat.reduceAdd,Nat.reduceSub,Nat.reduceLeDiff,Nat.reduceMul,Int.reduceAdd,Int.reduceSub,Int.reduceMul,Int.reduceLT,Int.reduceLE,Int.reduceEq,Int.reduceToNat,Int.reduceNeg,Nat.reduceEqDiff,Nat.reduceBEq,Nat.reduceLT,xAa,xAs,xBP,xBg,xBh,xBi,xBQ,xA0,c1,c2,c3,c4,c5,e5]
     ·rw [if_neg (by omega)]
      obtain ⟨i',g⟩ := xUb n (s2 := .int .i64 0) h1 h2
      by_cases c6 : xCR n.states n.st = 0 ∧ xCR n.states n.fi = 0
      ·rw [if_pos c6] at g ⊢
       obtain ⟨v,hv⟩ : ∃ v : Nat,n.vars = (v : Nat) := ⟨n.vars.toNat,by omega⟩
       have htv : n.vars.toNat = v := by omega
       obtain ⟨T',i2,g2⟩ := xLM (n := n) (v := v) (s2 := .int .i64 0) (by omega) hv h3 hb n.rl.length 0 [] (by omega)
       simp only [Int.natCast_zero,List.drop_zero] at g2
       rw [htv]
       by_cases c7 : xDc n.states v n.rl = 0
       ·rw [if_pos c7] at g2
        rw [c7]
        simp (maxSteps := 30000000) (disch := first | assumption | omega | (simp only [WL,AV.isCell,xAa] <;> omega) | rfl | decide) only [↓reduceIte,WB,xAW,xAd,xAV,xAm,xAl,AV.cells,AV.isCell,xAc,xAi,xAj,WA,W2,xAe,xAf,xAh,Nat.reduceAdd,Nat.reduceSub,Nat.reduceLeDiff,Nat.reduceMul,Int.reduceAdd,Int.reduceSub,Int.reduceMul,Int.reduceLT,Int.reduceLE,Int.reduceEq,Int.reduceToNat,Int.reduceNeg,Nat.reduceEqDiff,Nat.reduceBEq,Nat.reduceLT,xAa,xAs,xBP,xBg,xBh,xBi,xBQ,xA0,xF7,xF8,c1,c2,c3,c4,c5,e5,g,g2]
       ·rw [if_neg c7] at g2
        simp (maxSteps := 30000000) (disch := first | assumption | omega | (simp only [WL,AV.isCell,xAa] <;> omega) | rfl | decide) only [↓reduceIte,WB,xAW,xAd,xAV,xAm,xAl,AV.cells,AV.isCell,xAc,xAi,xAj,WA,W2,xAe,xAf,xAh,Nat.reduceAdd,Nat.reduceSub,Nat.reduceLeDiff,Nat.reduceMul,Int.reduceAdd,Int.reduceSub,Int.reduceMul,Int.reduceLT,Int.reduceLE,Int.reduceEq,Int.reduceToNat,Int.reduceNeg,Nat.reduceEqDiff,Nat.reduceBEq,Nat.reduceLT,xAa,xAs,xBP,xBg,xBh,xBi,xBQ,xA0,xF7,xF8,c1,c2,c3,c4,c5,e5,g,g2]
      ·rw [if_neg c6] at g ⊢
       simp (maxSteps := 30000000) (disch := first | assumption | omega | (simp only [WL,AV.isCell,xAa] <;> omega) | rfl | decide) only [↓reduceIte,WB,xAW,xAd,xAV,xAm,xAl,AV.cells,AV.isCell,xAc,xAi,xAj,WA,W2,xAe,xAf,xAh,Nat.reduceAdd,Nat.reduceSub,Nat.reduceLeDiff,Nat.reduceMul,Int.reduceAdd,Int.reduceSub,Int.reduceMul,Int.reduceLT,Int.reduceLE,Int.reduceEq,Int.reduceToNat,Int.reduceNeg,Nat.reduceEqDiff,Nat.reduceBEq,Nat.reduceLT,xAa,xAs,xBP,xBg,xBh,xBi,xBQ,xA0,xF7,xF8,c1,c2,c3,c4,c5,e5,g]
end Go.Abs.Tree
