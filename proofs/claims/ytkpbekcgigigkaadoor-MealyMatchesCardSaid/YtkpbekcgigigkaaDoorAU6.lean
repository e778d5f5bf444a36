/- MealyMatches: the law. -/
import Derived.Test.YtkpbekcgigigkaaDoorAbsBun
import Derived.Test.YtkpbekcgigigkaaDoorAMD
import Derived.Test.YtkpbekcgigigkaaDoorAK1
namespace Go.Abs.Mealy
open Go Go.Abs
set_option linter.unusedSimpArgs false
set_option linter.unusedVariables false
theorem xPG {z1 z2 : Bool} {l : List Nat} (hm : l.length < 1000000) : L.pcall 24 [.sl z1 l.length (xBp l),.sl z2 l.length (xBp l)] = some (.bool true) := by
  have h := yEw (z1 := z1) (z2 := z2) (a := l.map Int.ofNat) (b := l.map Int.ofNat) (by rw [List.length_map]; omega)
  rw [decide_eq_true rfl,List.length_map,xGc] at h
  exact h
theorem xFA {z1 z2 : Bool} {l : List Nat} (hm : l.length < 1000000) : L.pcall 23 [.sl z1 l.length (bs l),.sl z2 l.length (bs l)] = some (.bool true) := by
  have h := yEv (z1 := z1) (z2 := z2) (a := l) (b := l) (by omega)
  rw [decide_eq_true rfl] at h
  exact h
theorem xSP (M : Ma) : M.toF.cells = M.cells := by
  have := M.toF_av
  unfold Mf.av Ma.av at this
  injection this
section
variable {m : Mf} {z1 z2 zw : Bool} {p q w : List Nat}
set_option maxRecDepth 100000 in
set_option maxHeartbeats 4000000 in
theorem xXO (hS : Sm m) (d : xFH m ≠ 0) (hw : w.length ≤ 70) (hp : p.length ≤ 70) (hq : q.length ≤ 70) (hlm : L.pcall 11 [.sl false 1 m.cells] = some (.bool false)) (hz : zw = true → w = []) : L.pcall 3 [m.av,xBf zw w,las z1 z2 p q] = some (.bool true) := by
  have hk : L.pcall 13 [] = some (.bool true) := k1
  have l2 := xOT z1 z2 p q
  rw [decide_eq_false (by omega)] at l2
  have hcp := xZu hS
  have hS' := yDU hS
  have hcf := yAM m
  have hcw := xGM (z := zw) (l := w) (by omega)
  have r1 := (xYp (zw := w.length == 0) (w := w) hS' (by rw [hcf]; exact d)).2
  have r2 := xYg (zw := zw) (w := w) hS d
  have r3 := (xS6 (z1 := p.length == 0) (z2 := q.length == 0) (p := p) (q := q) hS' (by rw [hcf]; exact d)).2
  have r4 := xSX (z1 := z1) (z2 := z2) (p := p) (q := q) hS d
  have r5 := xL4 hS'
  have r6 := xL5 hS
  have r7 := xIO (z1 := z1) (z2 := z2) (p := p) (q := q) (by omega) (by omega)
  have hsm := xZt (a := cpF m) (b := m) (by have := hS'.n; omega) (by have := hS'.e; omega) (fun r hr => by have := hS'.r r hr; omega) (fun r hr => by have := hS'.w r hr; omega) (xX9 m)
  have he := xFA (z1 := true) (z2 := true) (l := []) (by simp)
  have hes := xPG (z1 := true) (z2 := true) (l := []) (by simp)
  have heq := xFA (z1 := w.length == 0) (z2 := zw) (l := w) (by omega)
  have hin : L.pcall 25 [xCE,xCE] = some (.bool true) := by
    have h := xEP true true true true [] [] (by decide) (by decide)
    simpa [las,xBf,bs] using h
  rw [hcf] at r1 r3 r5
  generalize xFH m = e at *
  have hw70 : ¬ (70 : Int) < ((w.length : Nat) : Int) := by omega
  simp only [las,xBf,List.length_nil] at l2 r1 r2 r3 r4 r7 he hes ⊢
  have hbn : bs [] = [] := rfl
  have hin0 : xBp [] = [] := rfl
  rw [hbn] at he
  rw [hin0] at hes
  unfold Mf.av at hcp r1 r2 r3 r4 r5 r6 hsm ⊢
  unfold Mf.cells at hcp r1 r2 r3 r4 r5 r6 hsm hlm ⊢
  rw [a3p,a3,xAB]
  simp (maxSteps := 30000000) (disch := first | assumption | omega | (simp only [WL,AV.isCell] <;> omega) | rfl | decide) only [↓reduceIte,WB,xAL,xAb,xAK,xAp,xAo,AV.cells,AV.isCell,xAa,xAd,xAe,xAr,xAs,xAt,xAu,xAv,xAw,xAJ,xAx,xAy,xAj,xAz,xAk,xAl,xAA,xAm,xAn,xAi,Nat.reduceDiv,Nat.reduceMod,WP,xAG,xAC,xA2,xA0,xAZ,xAF,xAI,xAH,W2,xAf,xAg,xAh,Nat.reduceAdd,Nat.reduceSub,Nat.reduceLeDiff,Nat.reduceMul,Int.reduceAdd,Int.reduceSub,Int.reduceMul,Int.reduceLT,Int.reduceLE,Int.reduceEq,Int.reduceToNat,Int.reduceNeg,Nat.reduceEqDiff,Nat.reduceBEq,Nat.reduceLT,xZv,yAP,yAR,xOS,xPI,xPJ,xB0,xCw,xCx,hlm,l2,hk,hw70,hcp,hcw,r1,r2,r3,r4,r5,r6,r7,hsm,he,hes,heq,hin]
end
end Go.Abs.Mealy
