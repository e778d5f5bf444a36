/- MealyMatches: the law's walks for a valid machine. (printed by u7gen.py) -/
import Derived.Test.YtkpbekcgigigkaaDoorAbsBun
import Derived.Test.YtkpbekcgigigkaaDoorAU6
namespace Go.Abs.Mealy
open Go Go.Abs
set_option linter.unusedSimpArgs false
set_option linter.unusedVariables false
theorem xXM {l : List (List Nat)} {k : Nat} (h : ∀ r ∈ l,r.length = k) (hk : 0 < k) : (l.map fun r => (⟨false,r.map Int.ofNat⟩ : Rw)).map xOP = l.map fun r => (⟨false,r.map Int.ofNat⟩ : Rw) := by
  rw [List.map_map]
  refine List.map_congr_left fun r hr => ?_
  have := h r hr
  simp only [Function.comp,xOP,List.length_map]
  have e : (r.length == 0) = false := beq_eq_false_iff_ne.2 (by omega)
  rw [e]
theorem xXN {l : List (List Nat)} {k : Nat} (h : ∀ r ∈ l,r.length = k) (hk : 0 < k) : (l.map fun r => (⟨false,r⟩ : Wd)).map xOQ = l.map fun r => (⟨false,r⟩ : Wd) := by
  rw [List.map_map]
  refine List.map_congr_left fun r hr => ?_
  have := h r hr
  simp only [Function.comp,xOQ]
  have e : (r.length == 0) = false := beq_eq_false_iff_ne.2 (by omega)
  rw [e]
theorem yCi {M : Ma} (hV : Vm M) : cpF M.toF = M.toF := by
  have h0 := hV.n0
  have he := hV.el
  have e1 := xXM hV.rl (xPS M.i)
  have e2 := xXN hV.wl (xPS M.i)
  unfold cpF Ma.toF
  simp only [List.length_map]
  rw [e1,e2]
  have z1 : (M.next.length == 0) = false := beq_eq_false_iff_ne.2 (by omega)
  have z2 : (M.emit.length == 0) = false := beq_eq_false_iff_ne.2 (by omega)
  rw [z1,z2]
theorem toF_av' {M : Ma} (hV : Vm M) : L.pcall 14 [M.av] = some M.av := by
  have h := xZu (xR9 hV)
  rw [yCi hV,M.toF_av] at h
  exact h
theorem same_self' {M : Ma} (hV : Vm M) : L.pcall 29 [M.av,M.av] = some (.bool true) := by
  have hS := xR9 hV
  have h := xZt (a := M.toF) (b := M.toF) (by have := hS.n; omega) (by have := hS.e; omega) (fun r hr => by have := hS.r r hr; omega) (fun r hr => by have := hS.w r hr; omega) ⟨rfl,rfl,rfl,rfl,rfl⟩
  rw [M.toF_av] at h
  exact h
section
variable {M : Ma} {z1 z2 zw : Bool} {p q w : List Nat}
set_option maxRecDepth 100000 in
set_option maxHeartbeats 4000000 in
theorem yAc (hV : Vm M) (e : xI5 M.i w ≠ 0) (hb : ∀ x ∈ w,x < 256) (d : xLg M.i p q ≠ 0) (bp : ∀ x ∈ p,x < 256) (bq : ∀ x ∈ q,x < 256) (hw : w.length ≤ 70) (hp : p.length ≤ 70) (hq : q.length ≤ 70) (hlm : L.pcall 11 [.sl false 1 M.cells] = some (.bool false)) : L.pcall 3 [M.av,xBf zw w,las z1 z2 p q] = some (.bool true) := by
  have hk : L.pcall 13 [] = some (.bool true) := k1
  have l2 := xOT z1 z2 p q
  rw [decide_eq_false (by omega)] at l2
  have hcp := toF_av' hV
  have hcw := xGM (z := zw) (l := w) (by omega)
  have r5 := xBM hV
  have r6 := xBN hV
  have r7 := xIO (z1 := z1) (z2 := z2) (p := p) (q := q) (by omega) (by omega)
  have hsm := same_self' hV
  have heq := xFA (z1 := w.length == 0) (z2 := zw) (l := w) (by omega)
  have hw70 : ¬ (70 : Int) < ((w.length : Nat) : Int) := by omega
  have r1 := (xSd (zw := w.length == 0) hV hb (by omega) e).2
  have r2 := xRN (zw := zw) hV hb (by omega) e
  have q1 := xFA (z1 := true) (z2 := true) (l := []) (by simp)
  have q2 := xPG (z1 := true) (z2 := true) (l := []) (by simp)
  generalize xI5 M.i w = er at *
  have r3 := (xGg (z1 := p.length == 0) (z2 := q.length == 0) (p := p) (q := q) hV (by omega) (by omega) bp bq d).2
  have r4 := xF6 (z1 := z1) (z2 := z2) (p := p) (q := q) hV (by omega) (by omega) bp bq d
  have hin : L.pcall 25 [xCE,xCE] = some (.bool true) := by
    have h := xEP true true true true [] [] (by decide) (by decide)
    simpa [las,xBf,bs] using h
  generalize xLg M.i p q = el at *
  simp only [las,xBf,List.length_nil,List.length_cons,beq_self_eq_true] at l2 r1 r2 r3 r4 r7 q1 q2 hin heq hcw ⊢
  have hbn : bs [] = [] := rfl
  have hin0 : xBp [] = [] := rfl
  simp only [hbn,hin0] at q1 q2 r1 r2 heq hcw ⊢
  unfold Ma.av at hcp r1 r2 r3 r4 r5 r6 hsm ⊢
  unfold Ma.cells at hcp r1 r2 r3 r4 r5 r6 hsm hlm ⊢
  rw [a3p,a3,xAB]
  simp (maxSteps := 30000000) (disch := first | assumption | omega | (simp only [WL,AV.isCell] <;> omega) | rfl | decide) only [↓reduceIte,WB,xAL,xAb,xAK,xAp,xAo,AV.cells,AV.isCell,xAa,xAd,xAe,xAr,xAs,xAt,xAu,xAv,xAw,xAJ,xAx,xAy,xAj,xAz,xAk,xAl,xAA,xAm,xAn,xAi,Nat.reduceDiv,Nat.reduceMod,WP,xAG,xAC,xA2,xA0,xAZ,xAF,xAI,xAH,W2,xAf,xAg,xAh,Nat.reduceAdd,Nat.reduceSub,Nat.reduceLeDiff,Nat.reduceMul,Int.reduceAdd,Int.reduceSub,Int.reduceMul,Int.reduceLT,Int.reduceLE,Int.reduceEq,Int.reduceToNat,Int.reduceNeg,Nat.reduceEqDiff,Nat.reduceBEq,Nat.reduceLT,xZv,yAP,yAR,xOS,xPI,xPJ,xB0,xCw,xCx,hlm,l2,hk,hw70,hcp,hcw,r1,r2,r3,r4,r5,r6,r7,hsm,q1,q2,heq,hin,e,d]
set_option maxRecDepth 100000 in
set_option maxHeartbeats 4000000 in
theorem yAd (hV : Vm M) (e : xI5 M.i w ≠ 0) (hb : ∀ x ∈ w,x < 256) (d : Lo M.i p q) (hw : w.length ≤ 70) (hp : p.length ≤ 70) (hq : q.length ≤ 70) (hlm : L.pcall 11 [.sl false 1 M.cells] = some (.bool false)) : L.pcall 3 [M.av,xBf zw w,las z1 z2 p q] = some (.bool true) := by
  have hk : L.pcall 13 [] = some (.bool true) := k1
  have l2 := xOT z1 z2 p q
  rw [decide_eq_false (by omega)] at l2
  have hcp := toF_av' hV
  have hcw := xGM (z := zw) (l := w) (by omega)
  have r5 := xBM hV
  have r6 := xBN hV
  have r7 := xIO (z1 := z1) (z2 := z2) (p := p) (q := q) (by omega) (by omega)
  have hsm := same_self' hV
  have heq := xFA (z1 := w.length == 0) (z2 := zw) (l := w) (by omega)
  have hw70 : ¬ (70 : Int) < ((w.length : Nat) : Int) := by omega
  have r1 := (xSd (zw := w.length == 0) hV hb (by omega) e).2
  have r2 := xRN (zw := zw) hV hb (by omega) e
  have q1 := xFA (z1 := true) (z2 := true) (l := []) (by simp)
  have q2 := xPG (z1 := true) (z2 := true) (l := []) (by simp)
  generalize xI5 M.i w = er at *
  obtain ⟨p1,q1',cn1,hp1,hq1,_,r3⟩ := xGf (p.length == 0) (q.length == 0) hV d
  obtain ⟨zl,p2,q2',cn2,r4⟩ := xF5 z1 z2 hV d
  obtain ⟨rfl,rfl⟩ := cn1.uniq cn2
  have hin := xEP false false zl false p1 q1' (by omega) (by omega)
  simp only [las,xBf,List.length_nil,List.length_cons,beq_self_eq_true] at l2 r1 r2 r3 r4 r7 q1 q2 hin heq hcw ⊢
  have hbn : bs [] = [] := rfl
  have hin0 : xBp [] = [] := rfl
  simp only [hbn,hin0] at q1 q2 r1 r2 heq hcw ⊢
  unfold Ma.av at hcp r1 r2 r3 r4 r5 r6 hsm ⊢
  unfold Ma.cells at hcp r1 r2 r3 r4 r5 r6 hsm hlm ⊢
  rw [a3p,a3,xAB]
  simp (maxSteps := 30000000) (disch := first | assumption | omega | (simp only [WL,AV.isCell] <;> omega) | rfl | decide) only [↓reduceIte,WB,xAL,xAb,xAK,xAp,xAo,AV.cells,AV.isCell,xAa,xAd,xAe,xAr,xAs,xAt,xAu,xAv,xAw,xAJ,xAx,xAy,xAj,xAz,xAk,xAl,xAA,xAm,xAn,xAi,Nat.reduceDiv,Nat.reduceMod,WP,xAG,xAC,xA2,xA0,xAZ,xAF,xAI,xAH,W2,xAf,xAg,xAh,Nat.reduceAdd,Nat.reduceSub,Nat.reduceLeDiff,Nat.reduceMul,Int.reduceAdd,Int.reduceSub,Int.reduceMul,Int.reduceLT,Int.reduceLE,Int.reduceEq,Int.reduceToNat,Int.reduceNeg,Nat.reduceEqDiff,Nat.reduceBEq,Nat.reduceLT,xZv,yAP,yAR,xOS,xPI,xPJ,xB0,xCw,xCx,hlm,l2,hk,hw70,hcp,hcw,r1,r2,r3,r4,r5,r6,r7,hsm,q1,q2,heq,hin,e]
set_option maxRecDepth 100000 in
set_option maxHeartbeats 4000000 in
theorem yAe (hV : Vm M) (e : xI5 M.i [] = 0) (r1 : xBs L 16 [M.av,xBf (([] : List Nat).length == 0) []] = some (.tup [.sl true 0 [],.own false 0 0 1 1,.int .i64 0],[.cells false false (xBp [M.s])])) (d : xLg M.i p q ≠ 0) (bp : ∀ x ∈ p,x < 256) (bq : ∀ x ∈ q,x < 256) (hw : ([] : List Nat).length ≤ 70) (hp : p.length ≤ 70) (hq : q.length ≤ 70) (hlm : L.pcall 11 [.sl false 1 M.cells] = some (.bool false)) : L.pcall 3 [M.av,xBf zw ([] : List Nat),las z1 z2 p q] = some (.bool true) := by
  have hk : L.pcall 13 [] = some (.bool true) := k1
  have l2 := xOT z1 z2 p q
  rw [decide_eq_false (by omega)] at l2
  have hcp := toF_av' hV
  have hcw := xGM (z := zw) (l := ([] : List Nat)) (by omega)
  have r5 := xBM hV
  have r6 := xBN hV
  have r7 := xIO (z1 := z1) (z2 := z2) (p := p) (q := q) (by omega) (by omega)
  have hsm := same_self' hV
  have heq := xFA (z1 := ([] : List Nat).length == 0) (z2 := zw) (l := ([] : List Nat)) (by omega)
  have hw70 : ¬ (70 : Int) < ((([] : List Nat).length : Nat) : Int) := by omega
  obtain ⟨z,r2⟩ := xG1 (zw := zw) hV e
  have q1 := xFA (z1 := true) (z2 := z) (l := []) (by simp)
  have q2 := xPG (z1 := false) (z2 := false) (l := [M.s]) (by simp)
  simp only [xEV,xEl] at r2
  have r3 := (xGg (z1 := p.length == 0) (z2 := q.length == 0) (p := p) (q := q) hV (by omega) (by omega) bp bq d).2
  have r4 := xF6 (z1 := z1) (z2 := z2) (p := p) (q := q) hV (by omega) (by omega) bp bq d
  have hin : L.pcall 25 [xCE,xCE] = some (.bool true) := by
    have h := xEP true true true true [] [] (by decide) (by decide)
    simpa [las,xBf,bs] using h
  generalize xLg M.i p q = el at *
  simp only [las,xBf,List.length_nil,List.length_cons,beq_self_eq_true] at l2 r1 r2 r3 r4 r7 q1 q2 hin heq hcw ⊢
  have hbn : bs [] = [] := rfl
  have hin0 : xBp [] = [] := rfl
  simp only [hbn,hin0] at q1 q2 r1 r2 heq hcw ⊢
  unfold Ma.av at hcp r1 r2 r3 r4 r5 r6 hsm ⊢
  unfold Ma.cells at hcp r1 r2 r3 r4 r5 r6 hsm hlm ⊢
  rw [a3p,a3,xAB]
  simp (maxSteps := 30000000) (disch := first | assumption | omega | (simp only [WL,AV.isCell] <;> omega) | rfl | decide) only [↓reduceIte,WB,xAL,xAb,xAK,xAp,xAo,AV.cells,AV.isCell,xAa,xAd,xAe,xAr,xAs,xAt,xAu,xAv,xAw,xAJ,xAx,xAy,xAj,xAz,xAk,xAl,xAA,xAm,xAn,xAi,Nat.reduceDiv,Nat.reduceMod,WP,xAG,xAC,xA2,xA0,xAZ,xAF,xAI,xAH,W2,xAf,xAg,xAh,Nat.reduceAdd,Nat.reduceSub,Nat.reduceLeDiff,Nat.reduceMul,Int.reduceAdd,Int.reduceSub,Int.reduceMul,Int.reduceLT,Int.reduceLE,Int.reduceEq,Int.reduceToNat,Int.reduceNeg,Nat.reduceEqDiff,Nat.reduceBEq,Nat.reduceLT,xZv,yAP,yAR,xOS,xPI,xPJ,xB0,xCw,xCx,hlm,l2,hk,hw70,hcp,hcw,r1,r2,r3,r4,r5,r6,r7,hsm,q1,q2,heq,hin,d]
set_option maxRecDepth 100000 in
set_option maxHeartbeats 4000000 in
theorem yAf (hV : Vm M) (e : xI5 M.i [] = 0) (r1 : xBs L 16 [M.av,xBf (([] : List Nat).length == 0) []] = some (.tup [.sl true 0 [],.own false 0 0 1 1,.int .i64 0],[.cells false false (xBp [M.s])])) (d : Lo M.i p q) (hw : ([] : List Nat).length ≤ 70) (hp : p.length ≤ 70) (hq : q.length ≤ 70) (hlm : L.pcall 11 [.sl false 1 M.cells] = some (.bool false)) : L.pcall 3 [M.av,xBf zw ([] : List Nat),las z1 z2 p q] = some (.bool true) := by
  have hk : L.pcall 13 [] = some (.bool true) := k1
  have l2 := xOT z1 z2 p q
  rw [decide_eq_false (by omega)] at l2
  have hcp := toF_av' hV
  have hcw := xGM (z := zw) (l := ([] : List Nat)) (by omega)
  have r5 := xBM hV
  have r6 := xBN hV
  have r7 := xIO (z1 := z1) (z2 := z2) (p := p) (q := q) (by omega) (by omega)
  have hsm := same_self' hV
  have heq := xFA (z1 := ([] : List Nat).length == 0) (z2 := zw) (l := ([] : List Nat)) (by omega)
  have hw70 : ¬ (70 : Int) < ((([] : List Nat).length : Nat) : Int) := by omega
  obtain ⟨z,r2⟩ := xG1 (zw := zw) hV e
  have q1 := xFA (z1 := true) (z2 := z) (l := []) (by simp)
  have q2 := xPG (z1 := false) (z2 := false) (l := [M.s]) (by simp)
  simp only [xEV,xEl] at r2
  obtain ⟨p1,q1',cn1,hp1,hq1,_,r3⟩ := xGf (p.length == 0) (q.length == 0) hV d
  obtain ⟨zl,p2,q2',cn2,r4⟩ := xF5 z1 z2 hV d
  obtain ⟨rfl,rfl⟩ := cn1.uniq cn2
  have hin := xEP false false zl false p1 q1' (by omega) (by omega)
  simp only [las,xBf,List.length_nil,List.length_cons,beq_self_eq_true] at l2 r1 r2 r3 r4 r7 q1 q2 hin heq hcw ⊢
  have hbn : bs [] = [] := rfl
  have hin0 : xBp [] = [] := rfl
  simp only [hbn,hin0] at q1 q2 r1 r2 heq hcw ⊢
  unfold Ma.av at hcp r1 r2 r3 r4 r5 r6 hsm ⊢
  unfold Ma.cells at hcp r1 r2 r3 r4 r5 r6 hsm hlm ⊢
  rw [a3p,a3,xAB]
  simp (maxSteps := 30000000) (disch := first | assumption | omega | (simp only [WL,AV.isCell] <;> omega) | rfl | decide) only [↓reduceIte,WB,xAL,xAb,xAK,xAp,xAo,AV.cells,AV.isCell,xAa,xAd,xAe,xAr,xAs,xAt,xAu,xAv,xAw,xAJ,xAx,xAy,xAj,xAz,xAk,xAl,xAA,xAm,xAn,xAi,Nat.reduceDiv,Nat.reduceMod,WP,xAG,xAC,xA2,xA0,xAZ,xAF,xAI,xAH,W2,xAf,xAg,xAh,Nat.reduceAdd,Nat.reduceSub,Nat.reduceLeDiff,Nat.reduceMul,Int.reduceAdd,Int.reduceSub,Int.reduceMul,Int.reduceLT,Int.reduceLE,Int.reduceEq,Int.reduceToNat,Int.reduceNeg,Nat.reduceEqDiff,Nat.reduceBEq,Nat.reduceLT,xZv,yAP,yAR,xOS,xPI,xPJ,xB0,xCw,xCx,hlm,l2,hk,hw70,hcp,hcw,r1,r2,r3,r4,r5,r6,r7,hsm,q1,q2,heq,hin]
set_option maxRecDepth 100000 in
set_option maxHeartbeats 4000000 in
theorem yAg (hV : Vm M) (e : xI5 M.i w = 0) (r1 : xBs L 16 [M.av,xBf (w.length == 0) w] = some (.tup [.own false 0 0 w.length 1,.own false 1 0 (w.length + 1) 1,.int .i64 0],[.cells false false (bs (xEV M M.s w)),.cells false false (xBp (M.s :: xEl M M.s w))])) (d : xLg M.i p q ≠ 0) (bp : ∀ x ∈ p,x < 256) (bq : ∀ x ∈ q,x < 256) (hw : w.length ≤ 70) (hp : p.length ≤ 70) (hq : q.length ≤ 70) (hlm : L.pcall 11 [.sl false 1 M.cells] = some (.bool false)) : L.pcall 3 [M.av,xBf zw w,las z1 z2 p q] = some (.bool true) := by
  have hk : L.pcall 13 [] = some (.bool true) := k1
  have l2 := xOT z1 z2 p q
  rw [decide_eq_false (by omega)] at l2
  have hcp := toF_av' hV
  have hcw := xGM (z := zw) (l := w) (by omega)
  have r5 := xBM hV
  have r6 := xBN hV
  have r7 := xIO (z1 := z1) (z2 := z2) (p := p) (q := q) (by omega) (by omega)
  have hsm := same_self' hV
  have heq := xFA (z1 := w.length == 0) (z2 := zw) (l := w) (by omega)
  have hw70 : ¬ (70 : Int) < ((w.length : Nat) : Int) := by omega
  obtain ⟨z,r2⟩ := xG1 (zw := zw) hV e
  have q1 := xFA (z1 := false) (z2 := z) (l := xEV M M.s w) (by rw [xCo]; omega)
  have q2 := xPG (z1 := false) (z2 := false) (l := M.s :: xEl M M.s w) (by rw [List.length_cons,xCp]; omega)
  have lo : (bs (xEV M M.s w)).length = w.length := by unfold bs; rw [List.length_map,xCo]
  have lt : (xBp (M.s :: xEl M M.s w)).length = w.length + 1 := by unfold xBp; rw [List.length_map,List.length_cons,xCp]
  rw [xCo] at q1
  rw [List.length_cons,xCp] at q2
  have t1 : List.take w.length (bs (xEV M M.s w)) = bs (xEV M M.s w) := List.take_of_length_le (by omega)
  have t2 : List.take (w.length + 1) (xBp (M.s :: xEl M M.s w)) = xBp (M.s :: xEl M M.s w) := List.take_of_length_le (by omega)
  have x1 : (w.length + 1) = ((M.s :: xEl M M.s w)).length := by rw [List.length_cons,xCp]
  have lb : (xEV M M.s w).length = w.length := xCo M w M.s
  generalize xEV M M.s w = ro at *
  generalize hst : M.s :: xEl M M.s w = st at *
  have r3 := (xGg (z1 := p.length == 0) (z2 := q.length == 0) (p := p) (q := q) hV (by omega) (by omega) bp bq d).2
  have r4 := xF6 (z1 := z1) (z2 := z2) (p := p) (q := q) hV (by omega) (by omega) bp bq d
  have hin : L.pcall 25 [xCE,xCE] = some (.bool true) := by
    have h := xEP true true true true [] [] (by decide) (by decide)
    simpa [las,xBf,bs] using h
  generalize xLg M.i p q = el at *
  simp only [las,xBf,List.length_nil,List.length_cons,beq_self_eq_true] at l2 r1 r2 r3 r4 r7 q1 q2 hin heq hcw ⊢
  have hbn : bs [] = [] := rfl
  have hin0 : xBp [] = [] := rfl
  unfold Ma.av at hcp r1 r2 r3 r4 r5 r6 hsm ⊢
  unfold Ma.cells at hcp r1 r2 r3 r4 r5 r6 hsm hlm ⊢
  rw [a3p,a3,xAB]
  simp (maxSteps := 30000000) (disch := first | assumption | omega | (simp only [WL,AV.isCell] <;> omega) | rfl | decide) only [↓reduceIte,WB,xAL,xAb,xAK,xAp,xAo,AV.cells,AV.isCell,xAa,xAd,xAe,xAr,xAs,xAt,xAu,xAv,xAw,xAJ,xAx,xAy,xAj,xAz,xAk,xAl,xAA,xAm,xAn,xAi,Nat.reduceDiv,Nat.reduceMod,WP,xAG,xAC,xA2,xA0,xAZ,xAF,xAI,xAH,W2,xAf,xAg,xAh,Nat.reduceAdd,Nat.reduceSub,Nat.reduceLeDiff,Nat.reduceMul,Int.reduceAdd,Int.reduceSub,Int.reduceMul,Int.reduceLT,Int.reduceLE,Int.reduceEq,Int.reduceToNat,Int.reduceNeg,Nat.reduceEqDiff,Nat.reduceBEq,Nat.reduceLT,xZv,yAP,yAR,xOS,xPI,xPJ,xB0,xCw,xCx,hlm,l2,hk,hw70,hcp,hcw,r1,r2,r3,r4,r5,r6,r7,hsm,q1,q2,heq,hin,lo,lt,t1,t2,lb,d]
set_option maxRecDepth 100000 in
set_option maxHeartbeats 4000000 in
theorem yAh (hV : Vm M) (e : xI5 M.i w = 0) (r1 : xBs L 16 [M.av,xBf (w.length == 0) w] = some (.tup [.own false 0 0 w.length 1,.own false 1 0 (w.length + 1) 1,.int .i64 0],[.cells false false (bs (xEV M M.s w)),.cells false false (xBp (M.s :: xEl M M.s w))])) (d : Lo M.i p q) (hw : w.length ≤ 70) (hp : p.length ≤ 70) (hq : q.length ≤ 70) (hlm : L.pcall 11 [.sl false 1 M.cells] = some (.bool false)) : L.pcall 3 [M.av,xBf zw w,las z1 z2 p q] = some (.bool true) := by
  have hk : L.pcall 13 [] = some (.bool true) := k1
  have l2 := xOT z1 z2 p q
  rw [decide_eq_false (by omega)] at l2
  have hcp := toF_av' hV
  have hcw := xGM (z := zw) (l := w) (by omega)
  have r5 := xBM hV
  have r6 := xBN hV
  have r7 := xIO (z1 := z1) (z2 := z2) (p := p) (q := q) (by omega) (by omega)
  have hsm := same_self' hV
  have heq := xFA (z1 := w.length == 0) (z2 := zw) (l := w) (by omega)
  have hw70 : ¬ (70 : Int) < ((w.length : Nat) : Int) := by omega
  obtain ⟨z,r2⟩ := xG1 (zw := zw) hV e
  have q1 := xFA (z1 := false) (z2 := z) (l := xEV M M.s w) (by rw [xCo]; omega)
  have q2 := xPG (z1 := false) (z2 := false) (l := M.s :: xEl M M.s w) (by rw [List.length_cons,xCp]; omega)
  have lo : (bs (xEV M M.s w)).length = w.length := by unfold bs; rw [List.length_map,xCo]
  have lt : (xBp (M.s :: xEl M M.s w)).length = w.length + 1 := by unfold xBp; rw [List.length_map,List.length_cons,xCp]
  rw [xCo] at q1
  rw [List.length_cons,xCp] at q2
  have t1 : List.take w.length (bs (xEV M M.s w)) = bs (xEV M M.s w) := List.take_of_length_le (by omega)
  have t2 : List.take (w.length + 1) (xBp (M.s :: xEl M M.s w)) = xBp (M.s :: xEl M M.s w) := List.take_of_length_le (by omega)
  have x1 : (w.length + 1) = ((M.s :: xEl M M.s w)).length := by rw [List.length_cons,xCp]
  have lb : (xEV M M.s w).length = w.length := xCo M w M.s
  generalize xEV M M.s w = ro at *
  generalize hst : M.s :: xEl M M.s w = st at *
  obtain ⟨p1,q1',cn1,hp1,hq1,_,r3⟩ := xGf (p.length == 0) (q.length == 0) hV d
  obtain ⟨zl,p2,q2',cn2,r4⟩ := xF5 z1 z2 hV d
  obtain ⟨rfl,rfl⟩ := cn1.uniq cn2
  have hin := xEP false false zl false p1 q1' (by omega) (by omega)
  simp only [las,xBf,List.length_nil,List.length_cons,beq_self_eq_true] at l2 r1 r2 r3 r4 r7 q1 q2 hin heq hcw ⊢
  have hbn : bs [] = [] := rfl
  have hin0 : xBp [] = [] := rfl
  unfold Ma.av at hcp r1 r2 r3 r4 r5 r6 hsm ⊢
  unfold Ma.cells at hcp r1 r2 r3 r4 r5 r6 hsm hlm ⊢
  rw [a3p,a3,xAB]
  simp (maxSteps := 30000000) (disch := first | assumption | omega | (simp only [WL,AV.isCell] <;> omega) | rfl | decide) only [↓reduceIte,WB,xAL,xAb,xAK,xAp,xAo,AV.cells,AV.isCell,xAa,xAd,xAe,xAr,xAs,xAt,xAu,xAv,xAw,xAJ,xAx,xAy,xAj,xAz,xAk,xAl,xAA,xAm,xAn,xAi,Nat.reduceDiv,Nat.reduceMod,WP,xAG,xAC,xA2,xA0,xAZ,xAF,xAI,xAH,W2,xAf,xAg,xAh,Nat.reduceAdd,Nat.reduceSub,Nat.reduceLeDiff,Nat.reduceMul,Int.reduceAdd,Int.reduceSub,Int.reduceMul,Int.reduceLT,Int.reduceLE,Int.reduceEq,Int.reduceToNat,Int.reduceNeg,Nat.reduceEqDiff,Nat.reduceBEq,Nat.reduceLT,xZv,yAP,yAR,xOS,xPI,xPJ,xB0,xCw,xCx,hlm,l2,hk,hw70,hcp,hcw,r1,r2,r3,r4,r5,r6,r7,hsm,q1,q2,heq,hin,lo,lt,t1,t2,lb]
end
end Go.Abs.Mealy
