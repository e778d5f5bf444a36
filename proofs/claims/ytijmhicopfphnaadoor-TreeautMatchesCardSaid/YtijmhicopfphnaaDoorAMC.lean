/- States,Accepts,Reachable: results the caller's own. -/
import Derived.Test.YtijmhicopfphnaaDoorAbsBun
import Derived.Test.YtijmhicopfphnaaDoorAMM
import Derived.Test.YtijmhicopfphnaaDoorAMO
namespace Go.Abs.Tree
open Go Go.Abs
set_option linter.unusedSimpArgs false
set_option linter.unusedVariables false
theorem yBp {w : Nat} (hw : w < 18446744073709551616) : ∃ u B r,xBB L 48 [.int .u64 (w : Nat)] = some (u,B) ∧ OwnS u B r ∧ CanS r (fun j => decide (j < 64) && w.testBit j) := by
 have hW : W [w] := by
  intro x hx
  simp only [List.mem_singleton] at hx
  rw [hx]; exact hw
 have hm : ∀ j,mem [w] j = (decide (j < 64) && w.testBit j) := fun j => by
  unfold mem
  by_cases c : j < 64
  ·rw [show j / 64 = 0 by omega,show j % 64 = j by omega]
   simp [c,show j < 4096 by omega]
  ·have : ([w] : List Nat).getD (j / 64) 0 = 0 := xDI (by simp; omega)
   rw [this]; simp [c]
 have h1 : HasSet (sw false [w]) (fun j => decide (j < 64) && w.testBit j) := ⟨false,[w],rfl,hW,by simp,hm⟩
 have w0 : W [] := by intro x hx; simp at hx
 obtain ⟨u,B,h3,h4⟩ := xXq (za := false) (zb := true) hW w0 (by simp) (by simp)
 have hc := (xXr h1 (xXp (z := true)) hW w0 hm (fun j => by simp [mem])).congr (T := fun j => decide (j < 64) && w.testBit j) (fun j => by simp)
 have h3' : xBB L 95 [.sl false 1 [.int .u64 (w : Nat)],.sl true 0 []] = some (u,B) := h3
 generalize xEl (· ||| ·) [w] [] = r at *
 rcases h4 with ⟨rfl,rfl,rfl⟩ | ⟨x,rfl,rfl⟩
 ·have h73 : xBB L 73 [.sl false 1 [.int .u64 (w : Nat)]] = some (.sl true 0 [],[]) := by
   rw [xBF,yF4,a73,xBf]
   simp (maxSteps := 30000000) (disch := first | assumption | omega | (simp only [WL,AV.isCell,xAb,xAa] <;> omega) | rfl | decide) only [↓reduceIte,WB,xAW,xAd,xAV,xAm,xAl,AV.cells,AV.isCell,xAc,xAi,xAj,xAz,xAA,xAB,xAC,xAD,xAE,xAX,xAF,xAG,xAn,xAH,xAo,xAp,xAI,xAq,xAr,xAk,Nat.reduceDiv,Nat.reduceMod,WP,xAT,xAM,xBm,xBl,xBk,xAP,xAS,xAN,W2,xAe,xAf,xAh,Nat.reduceAdd,Nat.reduceSub,Nat.reduceLeDiff,Nat.reduceMul,Int.reduceAdd,Int.reduceSub,Int.reduceMul,Int.reduceLT,Int.reduceLE,Int.reduceEq,Int.reduceToNat,Int.reduceNeg,Nat.reduceEqDiff,Nat.reduceBEq,Nat.reduceLT,xAb,xAa,xAs,xCz,h3']
  refine ⟨_,_,[],?_,.inl ⟨rfl,rfl,rfl⟩,hc⟩
  rw [xBF,yFY,a48,xBf]
  simp (maxSteps := 30000000) (disch := first | assumption | omega | (simp only [WL,AV.isCell,xAb,xAa] <;> omega) | rfl | decide) only [↓reduceIte,WB,xAW,xAd,xAV,xAm,xAl,AV.cells,AV.isCell,xAc,xAi,xAj,xAz,xAA,xAB,xAC,xAD,xAE,xAX,xAF,xAG,xAn,xAH,xAo,xAp,xAI,xAq,xAr,xAk,Nat.reduceDiv,Nat.reduceMod,WP,xAT,xAM,xBm,xBl,xBk,xAP,xAS,xAN,W2,xAe,xAf,xAh,Nat.reduceAdd,Nat.reduceSub,Nat.reduceLeDiff,Nat.reduceMul,Int.reduceAdd,Int.reduceSub,Int.reduceMul,Int.reduceLT,Int.reduceLE,Int.reduceEq,Int.reduceToNat,Int.reduceNeg,Nat.reduceEqDiff,Nat.reduceBEq,Nat.reduceLT,xAb,xAa,xAs,xCz,h73]
 ·have h73 : xBB L 73 [.sl false 1 [.int .u64 (w : Nat)]] = some (.own false 0 0 r.length 1,[.cells false false (w64 (r ++ x))]) := by
   rw [xBF,yF4,a73,xBf]
   simp (maxSteps := 30000000) (disch := first | assumption | omega | (simp only [WL,AV.isCell,xAb,xAa] <;> omega) | rfl | decide) only [↓reduceIte,WB,xAW,xAd,xAV,xAm,xAl,AV.cells,AV.isCell,xAc,xAi,xAj,xAz,xAA,xAB,xAC,xAD,xAE,xAX,xAF,xAG,xAn,xAH,xAo,xAp,xAI,xAq,xAr,xAk,Nat.reduceDiv,Nat.reduceMod,WP,xAT,xAM,xBm,xBl,xBk,xAP,xAS,xAN,W2,xAe,xAf,xAh,Nat.reduceAdd,Nat.reduceSub,Nat.reduceLeDiff,Nat.reduceMul,Int.reduceAdd,Int.reduceSub,Int.reduceMul,Int.reduceLT,Int.reduceLE,Int.reduceEq,Int.reduceToNat,Int.reduceNeg,Nat.reduceEqDiff,Nat.reduceBEq,Nat.reduceLT,xAb,xAa,xAs,xCz,h3']
  refine ⟨.own false 0 0 r.length 1,[.cells false false (w64 (r ++ x))],r,?_,.inr ⟨x,rfl,rfl⟩,hc⟩
  rw [xBF,yFY,a48,xBf]
  simp (maxSteps := 30000000) (disch := first | assumption | omega | (simp only [WL,AV.isCell,xAb,xAa] <;> omega) | rfl | decide) only [↓reduceIte,WB,xAW,xAd,xAV,xAm,xAl,AV.cells,AV.isCell,xAc,xAi,xAj,xAz,xAA,xAB,xAC,xAD,xAE,xAX,xAF,xAG,xAn,xAH,xAo,xAp,xAI,xAq,xAr,xAk,Nat.reduceDiv,Nat.reduceMod,WP,xAT,xAM,xBm,xBl,xBk,xAP,xAS,xAN,W2,xAe,xAf,xAh,Nat.reduceAdd,Nat.reduceSub,Nat.reduceLeDiff,Nat.reduceMul,Int.reduceAdd,Int.reduceSub,Int.reduceMul,Int.reduceLT,Int.reduceLE,Int.reduceEq,Int.reduceToNat,Int.reduceNeg,Nat.reduceEqDiff,Nat.reduceBEq,Nat.reduceLT,xAb,xAa,xAs,xCz,h73]
theorem xZV {n : Aut} {z : Bool} {t : List Lf} {e : Int} (he : e ≠ 0) (hb : L.pcall 47 [n.av,tw z t] = some (.int .i64 e)) : xBB L 16 [n.av,tw z t] = some (.tup [.sl true 0 [],.int .i64 e],[]) := by
 rw [xBF,yFi,a16,xBf]
 simp (maxSteps := 30000000) (disch := first | assumption | omega | (simp only [WL,AV.isCell,xAb,xAa] <;> omega) | rfl | decide) only [↓reduceIte,WB,xAW,xAd,xAV,xAm,xAl,AV.cells,AV.isCell,xAc,xAi,xAj,xAz,xAA,xAB,xAC,xAD,xAE,xAX,xAF,xAG,xAn,xAH,xAo,xAp,xAI,xAq,xAr,xAk,Nat.reduceDiv,Nat.reduceMod,WP,xAT,xAM,xBm,xBl,xBk,xAP,xAS,xAN,W2,xAe,xAf,xAh,Nat.reduceAdd,Nat.reduceSub,Nat.reduceLeDiff,Nat.reduceMul,Int.reduceAdd,Int.reduceSub,Int.reduceMul,Int.reduceLT,Int.reduceLE,Int.reduceEq,Int.reduceToNat,Int.reduceNeg,Nat.reduceEqDiff,Nat.reduceBEq,Nat.reduceLT,xAb,xAa,xAs,xCz,hb,he]
theorem yC8 {n : Aut} {z : Bool} {t : List Lf} {w : Nat} (hw : w < 18446744073709551616) (hb : L.pcall 47 [n.av,tw z t] = some (.int .i64 0)) (hs : L.pcall 49 [n.av,tw z t] = some (.int .u64 (w : Nat))) :
  ∃ u B r,xBB L 16 [n.av,tw z t] = some (.tup [u,.int .i64 0],B) ∧ OwnS u B r ∧ CanS r (fun j => decide (j < 64) && w.testBit j) := by
 obtain ⟨u,B,r,h1,h2,h3⟩ := yBp hw
 rcases h2 with ⟨rfl,rfl,rfl⟩ | ⟨x,rfl,rfl⟩
 ·refine ⟨_,_,[],?_,.inl ⟨rfl,rfl,rfl⟩,h3⟩
  rw [xBF,yFi,a16,xBf]
  simp (maxSteps := 30000000) (disch := first | assumption | omega | (simp only [WL,AV.isCell,xAb,xAa] <;> omega) | rfl | decide) only [↓reduceIte,WB,xAW,xAd,xAV,xAm,xAl,AV.cells,AV.isCell,xAc,xAi,xAj,xAz,xAA,xAB,xAC,xAD,xAE,xAX,xAF,xAG,xAn,xAH,xAo,xAp,xAI,xAq,xAr,xAk,Nat.reduceDiv,Nat.reduceMod,WP,xAT,xAM,xBm,xBl,xBk,xAP,xAS,xAN,W2,xAe,xAf,xAh,Nat.reduceAdd,Nat.reduceSub,Nat.reduceLeDiff,Nat.reduceMul,Int.reduceAdd,Int.reduceSub,Int.reduceMul,Int.reduceLT,Int.reduceLE,Int.reduceEq,Int.reduceToNat,Int.reduceNeg,Nat.reduceEqDiff,Nat.reduceBEq,Nat.reduceLT,xAb,xAa,xAs,xCz,hb,hs,h1]
 ·refine ⟨.own false 0 0 r.length 1,[.cells false false (w64 (r ++ x))],r,?_,.inr ⟨x,rfl,rfl⟩,h3⟩
  rw [xBF,yFi,a16,xBf]
  simp (maxSteps := 30000000) (disch := first | assumption | omega | (simp only [WL,AV.isCell,xAb,xAa] <;> omega) | rfl | decide) only [↓reduceIte,WB,xAW,xAd,xAV,xAm,xAl,AV.cells,AV.isCell,xAc,xAi,xAj,xAz,xAA,xAB,xAC,xAD,xAE,xAX,xAF,xAG,xAn,xAH,xAo,xAp,xAI,xAq,xAr,xAk,Nat.reduceDiv,Nat.reduceMod,WP,xAT,xAM,xBm,xBl,xBk,xAP,xAS,xAN,W2,xAe,xAf,xAh,Nat.reduceAdd,Nat.reduceSub,Nat.reduceLeDiff,Nat.reduceMul,Int.reduceAdd,Int.reduceSub,Int.reduceMul,Int.reduceLT,Int.reduceLE,Int.reduceEq,Int.reduceToNat,Int.reduceNeg,Nat.reduceEqDiff,Nat.reduceBEq,Nat.reduceLT,xAb,xAa,xAs,xCz,hb,hs,h1]
theorem xZW {n : Aut} {e : Int} (he : e ≠ 0) (hb : L.pcall 14 [n.av] = some (.int .i64 e)) : xBB L 20 [n.av] = some (.tup [.sl true 0 [],.int .i64 e],[]) := by
 rw [xBF,yFk,a20,xBf]
 simp (maxSteps := 30000000) (disch := first | assumption | omega | (simp only [WL,AV.isCell,xAb,xAa] <;> omega) | rfl | decide) only [↓reduceIte,WB,xAW,xAd,xAV,xAm,xAl,AV.cells,AV.isCell,xAc,xAi,xAj,xAz,xAA,xAB,xAC,xAD,xAE,xAX,xAF,xAG,xAn,xAH,xAo,xAp,xAI,xAq,xAr,xAk,Nat.reduceDiv,Nat.reduceMod,WP,xAT,xAM,xBm,xBl,xBk,xAP,xAS,xAN,W2,xAe,xAf,xAh,Nat.reduceAdd,Nat.reduceSub,Nat.reduceLeDiff,Nat.reduceMul,Int.reduceAdd,Int.reduceSub,Int.reduceMul,Int.reduceLT,Int.reduceLE,Int.reduceEq,Int.reduceToNat,Int.reduceNeg,Nat.reduceEqDiff,Nat.reduceBEq,Nat.reduceLT,xAb,xAa,xAs,xCz,hb,he]
theorem yC9 {n : Aut} {w : Nat} (hw : w < 18446744073709551616) (hb : L.pcall 14 [n.av] = some (.int .i64 0)) (hs : L.pcall 55 [n.av] = some (.int .u64 (w : Nat))) :
  ∃ u B r,xBB L 20 [n.av] = some (.tup [u,.int .i64 0],B) ∧ OwnS u B r ∧ CanS r (fun j => decide (j < 64) && w.testBit j) := by
 obtain ⟨u,B,r,h1,h2,h3⟩ := yBp hw
 rcases h2 with ⟨rfl,rfl,rfl⟩ | ⟨x,rfl,rfl⟩
 ·refine ⟨_,_,[],?_,.inl ⟨rfl,rfl,rfl⟩,h3⟩
  rw [xBF,yFk,a20,xBf]
  simp (maxSteps := 30000000) (disch := first | assumption | omega | (simp only [WL,AV.isCell,xAb,xAa] <;> omega) | rfl | decide) only [↓reduceIte,WB,xAW,xAd,xAV,xAm,xAl,AV.cells,AV.isCell,xAc,xAi,xAj,xAz,xAA,xAB,xAC,xAD,xAE,xAX,xAF,xAG,xAn,xAH,xAo,xAp,xAI,xAq,xAr,xAk,Nat.reduceDiv,Nat.reduceMod,WP,xAT,xAM,xBm,xBl,xBk,xAP,xAS,xAN,W2,xAe,xAf,xAh,Nat.reduceAdd,Nat.reduceSub,Nat.reduceLeDiff,Nat.reduceMul,Int.reduceAdd,Int.reduceSub,Int.reduceMul,Int.reduceLT,Int.reduceLE,Int.reduceEq,Int.reduceToNat,Int.reduceNeg,Nat.reduceEqDiff,Nat.reduceBEq,Nat.reduceLT,xAb,xAa,xAs,xCz,hb,hs,h1]
 ·refine ⟨.own false 0 0 r.length 1,[.cells false false (w64 (r ++ x))],r,?_,.inr ⟨x,rfl,rfl⟩,h3⟩
  rw [xBF,yFk,a20,xBf]
  simp (maxSteps := 30000000) (disch := first | assumption | omega | (simp only [WL,AV.isCell,xAb,xAa] <;> omega) | rfl | decide) only [↓reduceIte,WB,xAW,xAd,xAV,xAm,xAl,AV.cells,AV.isCell,xAc,xAi,xAj,xAz,xAA,xAB,xAC,xAD,xAE,xAX,xAF,xAG,xAn,xAH,xAo,xAp,xAI,xAq,xAr,xAk,Nat.reduceDiv,Nat.reduceMod,WP,xAT,xAM,xBm,xBl,xBk,xAP,xAS,xAN,W2,xAe,xAf,xAh,Nat.reduceAdd,Nat.reduceSub,Nat.reduceLeDiff,Nat.reduceMul,Int.reduceAdd,Int.reduceSub,Int.reduceMul,Int.reduceLT,Int.reduceLE,Int.reduceEq,Int.reduceToNat,Int.reduceNeg,Nat.reduceEqDiff,Nat.reduceBEq,Nat.reduceLT,xAb,xAa,xAs,xCz,hb,hs,h1]
theorem xZX {n : Aut} {z : Bool} {t : List Lf} {e : Int} (he : e ≠ 0) (hb : L.pcall 47 [n.av,tw z t] = some (.int .i64 e)) : L.pcall 18 [n.av,tw z t] = some (.tup [.bool false,.int .i64 e]) := by
 rw [yFS,a18,xAu]
 simp (maxSteps := 30000000) (disch := first | assumption | omega | (simp only [WL,AV.isCell,xAb,xAa] <;> omega) | rfl | decide) only [↓reduceIte,WB,xAW,xAd,xAV,xAm,xAl,AV.cells,AV.isCell,xAc,xAi,xAj,xAz,xAA,xAB,xAC,xAD,xAE,xAX,xAF,xAG,xAn,xAH,xAo,xAp,xAI,xAq,xAr,xAk,Nat.reduceDiv,Nat.reduceMod,WP,xAT,xAM,xBm,xBl,xBk,xAP,xAS,xAN,W2,xAe,xAf,xAh,Nat.reduceAdd,Nat.reduceSub,Nat.reduceLeDiff,Nat.reduceMul,Int.reduceAdd,Int.reduceSub,Int.reduceMul,Int.reduceLT,Int.reduceLE,Int.reduceEq,Int.reduceToNat,Int.reduceNeg,Nat.reduceEqDiff,Nat.reduceBEq,Nat.reduceLT,xAb,xAa,xAs,xCz,hb,he]
theorem yDa {n : Aut} {z : Bool} {t : List Lf} {w f : Nat} (hw : w < 18446744073709551616) (hf : f < 18446744073709551616) (hb : L.pcall 47 [n.av,tw z t] = some (.int .i64 0)) (hs : L.pcall 49 [n.av,tw z t] = some (.int .u64 (w : Nat))) (h54 : L.pcall 54 [iw n.z2 n.fi] = some (.int .u64 (f : Nat))) :
  ∃ b,L.pcall 18 [n.av,tw z t] = some (.tup [.bool b,.int .i64 0]) ∧ (b = true ↔ ∃ j,w.testBit j = true ∧ f.testBit j = true) := by
 have hand := xQO hw hf
 have e0 : ((((w &&& f : Nat) : Int) = 0)) = (w &&& f = 0) := propext ⟨fun h => by omega,fun h => by omega⟩
 refine ⟨!decide (w &&& f = 0),?_,?_⟩
 ·rw [yFS,a18,xAu]
  simp (maxSteps := 30000000) (disch := first | assumption | omega | (simp only [WL,AV.isCell,xAb,xAa] <;> omega) | rfl | decide) only [↓reduceIte,WB,xAW,xAd,xAV,xAm,xAl,AV.cells,AV.isCell,xAc,xAi,xAj,xAz,xAA,xAB,xAC,xAD,xAE,xAX,xAF,xAG,xAn,xAH,xAo,xAp,xAI,xAq,xAr,xAk,Nat.reduceDiv,Nat.reduceMod,WP,xAT,xAM,xBm,xBl,xBk,xAP,xAS,xAN,W2,xAe,xAf,xAh,Nat.reduceAdd,Nat.reduceSub,Nat.reduceLeDiff,Nat.reduceMul,Int.reduceAdd,Int.reduceSub,Int.reduceMul,Int.reduceLT,Int.reduceLE,Int.reduceEq,Int.reduceToNat,Int.reduceNeg,Nat.reduceEqDiff,Nat.reduceBEq,Nat.reduceLT,xAb,xAa,xAs,xCz,hb,hs,h54,hand,e0]
 ·rw [← yEv]; simp
theorem xBI (f : Arg) (l : List Arg) : (AOp.ofcall f l).args = f :: l := rfl
theorem xCa (cs : List AV) (o : Nat) : yFR (.vptr cs o) = true := rfl
theorem xJM (k : Nat) (vs : List AV) : xAP k (.tup vs) = .tup (vs.map (xAS k)) := rfl
theorem xJN (k : Nat) (vs : List AV) : xAS k (.agg vs) = .agg (vs.map (xAN k)) := rfl
theorem xJO (k : Nat) (i : IntKind) (n : Int) : xAS k (.int i n) = .int i n := rfl
theorem xE9 (k : Nat) (i : IntKind) (n : Int) : xAN k (.int i n) = .int i n := rfl
theorem xP7 (k : Nat) (z : Bool) (id off n w : Nat) : xAN k (.own z id off n w) = .own z (k + id) off n w := rfl
theorem xP8 (k : Nat) : xAN k (.sl true 0 []) = .sl true 0 [] := rfl
theorem xBT (k : Nat) (z : Bool) (id off n w : Nat) : xAP k (.own z id off n w) = .own z (k + id) off n w := rfl
theorem xBU (k : Nat) : xAP k (.sl true 0 []) = .sl true 0 [] := rfl
def OwF (G : Heap) (v : AV) (w n : Nat) (cs : List AV) : Prop := (v = .sl true 0 [] ∧ n = 0 ∧ cs = []) ∨ ∃ k,v = .own false k 0 n w ∧ G[k]? = some (.cells false false cs) ∧ cs.length = n * w
def OwA (G : Heap) (v : AV) (a s : Int) (st fi : List Int) (rl : List Rl) : Prop := ∃ f1 f2 f3,v = .agg [.int .i64 a,.int .i64 s,f1,f2,f3] ∧ OwF G f1 1 st.length (xBW st) ∧ OwF G f2 1 fi.length (xBW fi) ∧ OwF G f3 5 rl.length (rls rl)
theorem xX2 (num : List Int) (zn z : Bool) (l : List Int) (hl : l.length < 1099511627776) (hq : ∀ q ∈ l,0 ≤ q ∧ q < (num.length : Nat)) :
  ∃ v B,xBB L 89 [iw z l,.vptr [iw zn num] 0] = some (v,B) ∧ ((v = .sl true 0 [] ∧ B = [] ∧ xLU num l = []) ∨ (v = .own false 0 0 (xLU num l).length 1 ∧ B = [.cells false false (xBW (xLU num l))])) := by
 obtain ⟨G',v',e1,e2⟩ := xGw (zn := zn) (z := z) hl hq l.length 0 [] (.sl true 0 []) [] (by omega) (by simp) (.inl ⟨rfl,rfl⟩)
 simp only [Int.natCast_zero,List.drop_zero,List.nil_append] at e1 e2
 have := xTk num l
 generalize xLU num l = w at *
 rcases e2 with ⟨rfl,rfl⟩ | ⟨k,k0,rfl,hk⟩
 ·refine ⟨.sl true 0 [],[],?_,.inl ⟨rfl,rfl,rfl⟩⟩
  rw [xBF,yF7,a89,xBf]
  simp (maxSteps := 30000000) (disch := first | assumption | omega | (simp only [WL,AV.isCell,xAb,xAa] <;> omega) | rfl | decide) only [↓reduceIte,WB,xAW,xAd,xAV,xAm,xAl,AV.cells,AV.isCell,xAc,xAi,xAj,xAz,xAA,xAB,xAC,xAD,xAE,xAX,xAF,xAG,xAn,xAH,xAo,xAp,xAI,xAq,xAr,xAk,Nat.reduceDiv,Nat.reduceMod,WP,xAT,xAM,xBm,xBl,xBk,W2,xAe,xAf,xAh,Nat.reduceAdd,Nat.reduceSub,Nat.reduceLeDiff,Nat.reduceMul,Int.reduceAdd,Int.reduceSub,Int.reduceMul,Int.reduceLT,Int.reduceLE,Int.reduceEq,Int.reduceToNat,Int.reduceNeg,Nat.reduceEqDiff,Nat.reduceBEq,Nat.reduceLT,xAb,xAa,xAs,xAx,xAy,xAQ,xAR,xBw,xBA,xBP,xBg,xBh,xBi,xBQ,xA0,xBS,xCh,xBp,xE4,xC5,xE5,xJM,xJN,xJO,xE9,xP7,xP8,xBT,xBU,xKE,e1]
 ·refine ⟨.own false 0 0 w.length 1,[.cells false false (xBW w)],?_,.inr ⟨rfl,rfl⟩⟩
  rw [xBF,yF7,a89,xBf]
  simp (maxSteps := 30000000) (disch := first | assumption | omega | (simp only [WL,AV.isCell,xAb,xAa] <;> omega) | rfl | decide) only [↓reduceIte,WB,xAW,xAd,xAV,xAm,xAl,AV.cells,AV.isCell,xAc,xAi,xAj,xAz,xAA,xAB,xAC,xAD,xAE,xAX,xAF,xAG,xAn,xAH,xAo,xAp,xAI,xAq,xAr,xAk,Nat.reduceDiv,Nat.reduceMod,WP,xAT,xAM,xBm,xBl,xBk,W2,xAe,xAf,xAh,Nat.reduceAdd,Nat.reduceSub,Nat.reduceLeDiff,Nat.reduceMul,Int.reduceAdd,Int.reduceSub,Int.reduceMul,Int.reduceLT,Int.reduceLE,Int.reduceEq,Int.reduceToNat,Int.reduceNeg,Nat.reduceEqDiff,Nat.reduceBEq,Nat.reduceLT,xAb,xAa,xAs,xAx,xAy,xAQ,xAR,xBw,xBA,xBP,xBg,xBh,xBi,xBQ,xA0,xBS,xCh,xBp,xE4,xC5,xE5,xJM,xJN,xJO,xE9,xP7,xP8,xBT,xBU,xKE,e1,hk]
structure InvP (G0 : Heap) (p : Nat) (zn : Bool) (num : List Int) (c0 c1 c2 c3 : AV) (G : Heap) (rv : AV) (w : List Rl) : Prop where
 g1 : G[1]? = some (.cells true false [iw zn num])
 kp : ∀ j,j < p → G[j]? = G0[j]?
 g3 : G[p]? = some (.cells false false [c0,c1,c2,c3,rv])
 own : (rv = .sl true 0 [] ∧ w = []) ∨ ∃ k,p < k ∧ rv = .own false k 0 w.length 5 ∧ G[k]? = some (.cells false false (rls w))
set_option maxRecDepth 20000 in
set_option maxHeartbeats 4000000 in
theorem xDK {G0 : Heap} {p : Nat} (hp : 2 < p) {num : List Int} {zn z : Bool} {rl : List Rl} {c0 c1 c2 c3 : AV} (hl : rl.length < 1099511627776) (hq : ∀ u ∈ rl,(0 ≤ u.l ∧ u.l < (num.length : Nat)) ∧ (0 ≤ u.r ∧ u.r < (num.length : Nat)) ∧ (0 ≤ u.t ∧ u.t < (num.length : Nat))) : ∀ d i G rv w,i + d = rl.length → w.length ≤ i → InvP G0 p zn num c0 c1 c2 c3 G rv w →
  ∃ G' rv',L.loop xNX xY0 ⟨xNY (.ptr 1 0) (.ptr 2 0) (.ptr p 0) (.sl z rl.length (rls rl)) (.int .i64 (rl.length : Nat)) (.int .i64 (i : Nat)),G⟩ =
   some (.exit 0,⟨xNY (.ptr 1 0) (.ptr 2 0) (.ptr p 0) (.sl z rl.length (rls rl)) (.int .i64 (rl.length : Nat)) (.int .i64 (rl.length : Nat)),G'⟩) ∧ InvP G0 p zn num c0 c1 c2 c3 G' rv' (w ++ xX9 num (rl.drop i))
 | 0,i,G,rv,w,h,hw,hI => by
  obtain rfl : i = rl.length := by omega
  refine ⟨G,rv,?_,by rw [List.drop_length,xX9,List.append_nil]; exact hI⟩
  rw [xRt]
  simp (maxSteps := 30000000) (disch := first | assumption | omega | (simp only [WL,AV.isCell,xAb,xAa] <;> omega) | rfl | decide) only [↓reduceIte,WB,xAW,xAd,xAV,xAm,xAl,AV.cells,AV.isCell,xAc,xAi,xAj,xAz,xAA,xAB,xAC,xAD,xAE,xAX,xAF,xAG,xAn,xAH,xAo,xAp,xAI,xAq,xAr,xAk,Nat.reduceDiv,Nat.reduceMod,WP,xAT,xAM,xBm,xBl,xBk,xAP,xAS,xAN,W2,xAe,xAf,xAh,Nat.reduceAdd,Nat.reduceSub,Nat.reduceLeDiff,Nat.reduceMul,Int.reduceAdd,Int.reduceSub,Int.reduceMul,Int.reduceLT,Int.reduceLE,Int.reduceEq,Int.reduceToNat,Int.reduceNeg,Nat.reduceEqDiff,Nat.reduceBEq,Nat.reduceLT,xAb,xAa,xAs,xAx,xAy,xAQ,xAR,xBw,xBA,xBP,xBg,xBh,xBi,xBQ,xA0,xBS,xCh,xBp,xBT,xBU,xB7,xB8,xCO,xBI,xCa,xKw,xEq]
 | d + 1,i,G,rv,w,h,hw,hI => by
  have hlt : (i : Int) < (rl.length : Nat) := by omega
  have hi : i < rl.length := by omega
  obtain ⟨⟨l0,l1⟩,⟨r0',r1⟩,⟨t0,t1⟩⟩ := hq _ (xC0 hi)
  have len3 := (List.getElem?_eq_some_iff.1 hI.g3).1
  have a1 : ∀ X : Heap,(G ++ X)[1]? = some (.cells true false [iw zn num]) := fun X => xA8 hI.g1
  have a3 : ∀ X : Heap,(G ++ X)[p]? = some (.cells false false [c0,c1,c2,c3,rv]) := fun X => xA8 hI.g3
  have b1 : (1 != G.length) = true := by rw [bne_iff_ne]; omega
  rw [xCv hi,xX9]
  by_cases c : 0 ≤ min (min (xJL num (rl.getD i r0).l) (xJL num (rl.getD i r0).r)) (xJL num (rl.getD i r0).t)
  ·rw [if_pos c]
   rcases hI.own with ⟨hrv,hww⟩ | ⟨k,k0,hrv,hk⟩
   ·subst hww
    obtain ⟨G',rv',e1,e2⟩ := xDK (G0 := G0) hp (zn := zn) (z := z) hl hq d (i + 1) ((G ++ [Blk.cells false false (xCe (mvR num (rl.getD i r0))),Blk.cells false false (xCe (mvR num (rl.getD i r0)))]).set p (Blk.cells false false [c0,c1,c2,c3,.own false (G.length + 1) 0 1 5])) (.own false (G.length + 1) 0 1 5) [mvR num (rl.getD i r0)] (by omega) (by simp)
     ⟨by rw [List.getElem?_set_ne (by omega)]; exact a1 _,fun j hj => by
      rw [List.getElem?_set_ne (by omega),List.getElem?_append_left (by omega)]; exact hI.kp j hj,by rw [List.getElem?_set_self (by simp; omega)],.inr ⟨G.length + 1,by omega,rfl,by rw [List.getElem?_set_ne (by omega)]; simp [rls,rows]⟩⟩
    refine ⟨G',rv',?_,by simpa using e2⟩
    simp only [xCe,mvR,xJL] at e1
    rw [xRt]
    simp only [hrv] at a3 ⊢
    simp (maxSteps := 30000000) (disch := first | assumption | omega | (simp only [WL,AV.isCell,xAb,xAa] <;> omega) | rfl | decide) only [↓reduceIte,WB,xAW,xAd,xAV,xAm,xAl,AV.cells,AV.isCell,xAc,xAi,xAj,xAz,xAA,xAB,xAC,xAD,xAE,xAX,xAF,xAG,xAn,xAH,xAo,xAp,xAI,xAq,xAr,xAk,Nat.reduceDiv,Nat.reduceMod,WP,xAT,xAM,xBm,xBl,xBk,xAP,xAS,xAN,W2,xAe,xAf,xAh,Nat.reduceAdd,Nat.reduceSub,Nat.reduceLeDiff,Nat.reduceMul,Int.reduceAdd,Int.reduceSub,Int.reduceMul,Int.reduceLT,Int.reduceLE,Int.reduceEq,Int.reduceToNat,Int.reduceNeg,Nat.reduceEqDiff,Nat.reduceBEq,Nat.reduceLT,xAb,xAa,xAs,xAx,xAy,xAQ,xAR,xBw,xBA,xBP,xBg,xBh,xBi,xBQ,xA0,xBS,xCh,xBp,xBT,xBU,xB7,xB8,xCO,xBI,xCa,xKw,xEq,hlt,l0,l1,r0',r1,t0,t1,a1,a3,b1,c,e1]
   ·have hk' : ∀ X : Heap,(G ++ X)[k]? = some (.cells false false (rls w)) := fun X => xA8 hk
    have klt := (List.getElem?_eq_some_iff.1 hk).1
    have htk : List.take (w.length * 5) (rls w) = rls w := List.take_of_length_le (by rw [xAa]; omega)
    have hsn := xZT w (mvR num (rl.getD i r0))
    obtain ⟨G',rv',e1,e2⟩ := xDK (G0 := G0) hp (zn := zn) (z := z) hl hq d (i + 1) (((G ++ [Blk.cells false false (xCe (mvR num (rl.getD i r0)))]).set k Blk.dead ++ [Blk.cells false false (rls (w ++ [mvR num (rl.getD i r0)]))]).set p (Blk.cells false false [c0,c1,c2,c3,.own false (G.length + 1) 0 (w.length + 1) 5])) (.own false (G.length + 1) 0 (w.length + 1) 5) (w ++ [mvR num (rl.getD i r0)]) (by omega) (by simp; omega)
     ⟨by rw [List.getElem?_set_ne (by omega)]; exact xA8 (by rw [List.getElem?_set_ne (by omega)]; exact a1 _),fun j hj => by
      rw [List.getElem?_set_ne (by omega),List.getElem?_append_left (by simp; omega),List.getElem?_set_ne (by omega),List.getElem?_append_left (by omega)]; exact hI.kp j hj,by rw [List.getElem?_set_self (by simp; omega)],.inr ⟨G.length + 1,by omega,by simp,by rw [List.getElem?_set_ne (by omega)]; simp⟩⟩
    refine ⟨G',rv',?_,by simpa using e2⟩
    simp only [xCe,mvR,xJL] at e1 hsn
    rw [xRt]
    have a4 : ∀ X Y : Heap,((G ++ X).set k Blk.dead ++ Y)[p]? = some (.cells false false [c0,c1,c2,c3,rv]) := fun X Y => xA8 (by rw [List.getElem?_set_ne (by omega)]; exact a3 X)
    simp only [hrv] at a3 a4 ⊢
    simp (maxSteps := 30000000) (disch := first | assumption | omega | (simp only [WL,AV.isCell,xAb,xAa] <;> omega) | rfl | decide) only [↓reduceIte,WB,xAW,xAd,xAV,xAm,xAl,AV.cells,AV.isCell,xAc,xAi,xAj,xAz,xAA,xAB,xAC,xAD,xAE,xAX,xAF,xAG,xAn,xAH,xAo,xAp,xAI,xAq,xAr,xAk,Nat.reduceDiv,Nat.reduceMod,WP,xAT,xAM,xBm,xBl,xBk,xAP,xAS,xAN,W2,xAe,xAf,xAh,Nat.reduceAdd,Nat.reduceSub,Nat.reduceLeDiff,Nat.reduceMul,Int.reduceAdd,Int.reduceSub,Int.reduceMul,Int.reduceLT,Int.reduceLE,Int.reduceEq,Int.reduceToNat,Int.reduceNeg,Nat.reduceEqDiff,Nat.reduceBEq,Nat.reduceLT,xAb,xAa,xAs,xAx,xAy,xAQ,xAR,xBw,xBA,xBP,xBg,xBh,xBi,xBQ,xA0,xBS,xCh,xBp,xBT,xBU,xB7,xB8,xCO,xBI,xCa,xKw,xEq,hlt,l0,l1,r0',r1,t0,t1,a1,a3,a4,b1,c,hk',htk,hsn,e1]
  ·rw [if_neg c]
   obtain ⟨G',rv',e1,e2⟩ := xDK (G0 := G0) hp (zn := zn) (z := z) hl hq d (i + 1) (G ++ [Blk.cells false false (xCe (mvR num (rl.getD i r0)))]) rv w (by omega) (by omega) ⟨a1 _,fun j hj => by
      rw [List.getElem?_append_left (by omega)]; exact hI.kp j hj,a3 _,by
      rcases hI.own with ⟨h1,h2⟩ | ⟨k,k0,h1,h2⟩
      ·exact .inl ⟨h1,h2⟩
      ·exact .inr ⟨k,k0,h1,xA8 h2⟩⟩
   refine ⟨G',rv',?_,e2⟩
   simp only [xCe,mvR,xJL] at e1
   rw [xRt]
   simp (maxSteps := 30000000) (disch := first | assumption | omega | (simp only [WL,AV.isCell,xAb,xAa] <;> omega) | rfl | decide) only [↓reduceIte,WB,xAW,xAd,xAV,xAm,xAl,AV.cells,AV.isCell,xAc,xAi,xAj,xAz,xAA,xAB,xAC,xAD,xAE,xAX,xAF,xAG,xAn,xAH,xAo,xAp,xAI,xAq,xAr,xAk,Nat.reduceDiv,Nat.reduceMod,WP,xAT,xAM,xBm,xBl,xBk,xAP,xAS,xAN,W2,xAe,xAf,xAh,Nat.reduceAdd,Nat.reduceSub,Nat.reduceLeDiff,Nat.reduceMul,Int.reduceAdd,Int.reduceSub,Int.reduceMul,Int.reduceLT,Int.reduceLE,Int.reduceEq,Int.reduceToNat,Int.reduceNeg,Nat.reduceEqDiff,Nat.reduceBEq,Nat.reduceLT,xAb,xAa,xAs,xAx,xAy,xAQ,xAR,xBw,xBA,xBP,xBg,xBh,xBi,xBQ,xA0,xBS,xCh,xBp,xBT,xBU,xB7,xB8,xCO,xBI,xCa,xKw,xEq,hlt,l0,l1,r0',r1,t0,t1,a1,a3,b1,c,e1]
theorem xHo {G : Heap} {k : Nat} {l : List Int} (h : G[k]? = some (.cells false false (xBW l))) : OwF G (.own false k 0 l.length 1) 1 l.length (xBW l) := .inr ⟨k,rfl,h,by rw [xBE]; omega⟩
theorem xFa {G : Heap} {l : List Int} (h : l = []) : OwF G (.sl true 0 []) 1 l.length (xBW l) := .inl ⟨rfl,by rw [h]; rfl,by rw [h]; rfl⟩
theorem xTp {G : Heap} {k : Nat} {l : List Rl} (h : G[k]? = some (.cells false false (rls l))) : OwF G (.own false k 0 l.length 5) 5 l.length (rls l) := .inr ⟨k,rfl,h,by rw [xAa]⟩
theorem xMC {G : Heap} {l : List Rl} (h : l = []) : OwF G (.sl true 0 []) 5 l.length (rls l) := .inl ⟨rfl,by rw [h]; rfl,by rw [h]; rfl⟩
set_option maxRecDepth 20000 in
set_option maxHeartbeats 8000000 in
theorem xX3 (n : Aut) (zn : Bool) (num : List Int) (h1 : n.st.length < 1099511627776) (h2 : n.fi.length < 1099511627776) (h3 : n.rl.length < 1099511627776)
  (q1 : ∀ q ∈ n.st,0 ≤ q ∧ q < (num.length : Nat)) (q2 : ∀ q ∈ n.fi,0 ≤ q ∧ q < (num.length : Nat)) (q3 : ∀ u ∈ n.rl,(0 ≤ u.l ∧ u.l < (num.length : Nat)) ∧ (0 ≤ u.r ∧ u.r < (num.length : Nat)) ∧ (0 ≤ u.t ∧ u.t < (num.length : Nat))) :
  ∃ v G,L.icall (.func 58 []) [n.av,iw zn num] [] = some (v,G) ∧ OwA G v n.vars 0 (xLU num n.st) (xLU num n.fi) (xX9 num n.rl) := by
 obtain ⟨v1,B1,g1,k1⟩ := xX2 num zn n.z1 n.st h1 q1
 obtain ⟨v2,B2,g2,k2⟩ := xX2 num zn n.z2 n.fi h2 q2
 have lp := fun (p : Nat) (hp : 2 < p) (v1 v2 : AV) (G0 : Heap) (i1 : G0[1]? = some (.cells true false [iw zn num])) (i2 : G0[p]? = some (.cells false false [.int .i64 n.vars,.int .i64 0,v1,v2,.sl true 0 []])) =>
  xDK (G0 := G0) hp (zn := zn) (z := n.z3) (c0 := .int .i64 n.vars) (c1 := .int .i64 0) (c2 := v1) (c3 := v2) h3 q3 n.rl.length 0 G0 (.sl true 0 []) [] (by omega) (by simp) ⟨i1,fun _ _ => rfl,i2,.inl ⟨rfl,rfl⟩⟩
 simp only [Int.natCast_zero,List.drop_zero,List.nil_append] at lp
 generalize hL1 : xLU num n.st = l1 at *
 generalize hL2 : xLU num n.fi = l2 at *
 generalize xX9 num n.rl = w at *
 rcases k1 with ⟨rfl,rfl,n1⟩ | ⟨rfl,rfl⟩ <;> rcases k2 with ⟨rfl,rfl,n2⟩ | ⟨rfl,rfl⟩
 ·obtain ⟨G',rv',e1,e2⟩ := lp 3 (by decide) (.sl true 0 []) (.sl true 0 []) [.cells false false n.cells,.cells true false [iw zn num],.cells false false [.int .i64 0,.int .i64 0,.sl true 0 [],.sl true 0 [],.sl true 0 []],.cells false false [.int .i64 n.vars,.int .i64 0,.sl true 0 [],.sl true 0 [],.sl true 0 []]] rfl rfl
  have gz : G'[2]? = some (.cells false false [.int .i64 0,.int .i64 0,.sl true 0 [],.sl true 0 [],.sl true 0 []]) := e2.kp 2 (by decide)
  have gp := e2.g3
  have g2s : ∀ b : Blk,(G'.set 2 b)[2]? = some b := fun b => List.getElem?_set_self (List.getElem?_eq_some_iff.1 gz).1
  clear lp
  have X : ∀ (j : Nat),2 < j → j < 3 → ∀ {x b : Blk},([.cells false false n.cells,.cells true false [iw zn num],.cells false false [.int .i64 0,.int .i64 0,.sl true 0 [],.sl true 0 [],.sl true 0 []],.cells false false [.int .i64 n.vars,.int .i64 0,.sl true 0 [],.sl true 0 [],.sl true 0 []]] : Heap)[j]? = some x → (G'.set 2 b)[j]? = some x := fun j j2 j3 x b hx => by rw [List.getElem?_set_ne (by omega),e2.kp j j3]; exact hx
  rcases e2.own with ⟨hr,hw⟩ | ⟨k,k3,hr,hk⟩
  ·rw [hr] at gp
   refine ⟨.agg [.int .i64 n.vars,.int .i64 0,.sl true 0 [],.sl true 0 [],.sl true 0 []],G'.set 2 (.cells false false [.int .i64 n.vars,.int .i64 0,.sl true 0 [],.sl true 0 [],.sl true 0 []]),?_,_,_,_,rfl,xFa n1,xFa n2,xMC hw⟩
   ·rw [yAk,a58,xBf]
    simp (maxSteps := 30000000) (disch := first | assumption | omega | (simp only [WL,AV.isCell,xAb,xAa] <;> omega) | rfl | decide) only [↓reduceIte,WB,xAW,xAd,xAV,xAm,xAl,AV.cells,AV.isCell,xAc,xAi,xAj,xAz,xAA,xAB,xAC,xAD,xAE,xAX,xAF,xAG,xAn,xAH,xAo,xAp,xAI,xAq,xAr,xAk,Nat.reduceDiv,Nat.reduceMod,WP,xAT,xAM,xBm,xBl,xBk,xAP,xAS,xAN,W2,xAe,xAf,xAh,Nat.reduceAdd,Nat.reduceSub,Nat.reduceLeDiff,Nat.reduceMul,Int.reduceAdd,Int.reduceSub,Int.reduceMul,Int.reduceLT,Int.reduceLE,Int.reduceEq,Int.reduceToNat,Int.reduceNeg,Nat.reduceEqDiff,Nat.reduceBEq,Nat.reduceLT,xAb,xAa,xAs,xAx,xAy,xAQ,xAR,xBw,xBA,xBP,xBg,xBh,xBi,xBQ,xA0,xBS,xCh,xBp,xBT,xBU,xB7,xB8,xCO,xBI,xCa,xEq,g1,g2,e1,gz,gp,g2s]
  ·rw [hr] at gp
   refine ⟨.agg [.int .i64 n.vars,.int .i64 0,.sl true 0 [],.sl true 0 [],.own false k 0 w.length 5],G'.set 2 (.cells false false [.int .i64 n.vars,.int .i64 0,.sl true 0 [],.sl true 0 [],.own false k 0 w.length 5]),?_,_,_,_,rfl,xFa n1,xFa n2,xTp (by rw [List.getElem?_set_ne (by omega)]; exact hk)⟩
   ·rw [yAk,a58,xBf]
    simp (maxSteps := 30000000) (disch := first | assumption | omega | (simp only [WL,AV.isCell,xAb,xAa] <;> omega) | rfl | decide) only [↓reduceIte,WB,xAW,xAd,xAV,xAm,xAl,AV.cells,AV.isCell,xAc,xAi,xAj,xAz,xAA,xAB,xAC,xAD,xAE,xAX,xAF,xAG,xAn,xAH,xAo,xAp,xAI,xAq,xAr,xAk,Nat.reduceDiv,Nat.reduceMod,WP,xAT,xAM,xBm,xBl,xBk,xAP,xAS,xAN,W2,xAe,xAf,xAh,Nat.reduceAdd,Nat.reduceSub,Nat.reduceLeDiff,Nat.reduceMul,Int.reduceAdd,Int.reduceSub,Int.reduceMul,Int.reduceLT,Int.reduceLE,Int.reduceEq,Int.reduceToNat,Int.reduceNeg,Nat.reduceEqDiff,Nat.reduceBEq,Nat.reduceLT,xAb,xAa,xAs,xAx,xAy,xAQ,xAR,xBw,xBA,xBP,xBg,xBh,xBi,xBQ,xA0,xBS,xCh,xBp,xBT,xBU,xB7,xB8,xCO,xBI,xCa,xEq,g1,g2,e1,gz,gp,g2s]
 ·obtain ⟨G',rv',e1,e2⟩ := lp 4 (by decide) (.sl true 0 []) (.own false 3 0 l2.length 1) [.cells false false n.cells,.cells true false [iw zn num],.cells false false [.int .i64 0,.int .i64 0,.sl true 0 [],.sl true 0 [],.sl true 0 []],.cells false false (xBW l2),.cells false false [.int .i64 n.vars,.int .i64 0,.sl true 0 [],.own false 3 0 l2.length 1,.sl true 0 []]] rfl rfl
  have gz : G'[2]? = some (.cells false false [.int .i64 0,.int .i64 0,.sl true 0 [],.sl true 0 [],.sl true 0 []]) := e2.kp 2 (by decide)
  have gp := e2.g3
  have g2s : ∀ b : Blk,(G'.set 2 b)[2]? = some b := fun b => List.getElem?_set_self (List.getElem?_eq_some_iff.1 gz).1
  clear lp
  have X : ∀ (j : Nat),2 < j → j < 4 → ∀ {x b : Blk},([.cells false false n.cells,.cells true false [iw zn num],.cells false false [.int .i64 0,.int .i64 0,.sl true 0 [],.sl true 0 [],.sl true 0 []],.cells false false (xBW l2),.cells false false [.int .i64 n.vars,.int .i64 0,.sl true 0 [],.own false 3 0 l2.length 1,.sl true 0 []]] : Heap)[j]? = some x → (G'.set 2 b)[j]? = some x := fun j j2 j3 x b hx => by rw [List.getElem?_set_ne (by omega),e2.kp j j3]; exact hx
  rcases e2.own with ⟨hr,hw⟩ | ⟨k,k3,hr,hk⟩
  ·rw [hr] at gp
   refine ⟨.agg [.int .i64 n.vars,.int .i64 0,.sl true 0 [],.own false 3 0 l2.length 1,.sl true 0 []],G'.set 2 (.cells false false [.int .i64 n.vars,.int .i64 0,.sl true 0 [],.own false 3 0 l2.length 1,.sl true 0 []]),?_,_,_,_,rfl,xFa n1,xHo (X 3 (by decide) (by decide) rfl),xMC hw⟩
   ·rw [yAk,a58,xBf]
    simp (maxSteps := 30000000) (disch := first | assumption | omega | (simp only [WL,AV.isCell,xAb,xAa] <;> omega) | rfl | decide) only [↓reduceIte,WB,xAW,xAd,xAV,xAm,xAl,AV.cells,AV.isCell,xAc,xAi,xAj,xAz,xAA,xAB,xAC,xAD,xAE,xAX,xAF,xAG,xAn,xAH,xAo,xAp,xAI,xAq,xAr,xAk,Nat.reduceDiv,Nat.reduceMod,WP,xAT,xAM,xBm,xBl,xBk,xAP,xAS,xAN,W2,xAe,xAf,xAh,Nat.reduceAdd,Nat.reduceSub,Nat.reduceLeDiff,Nat.reduceMul,Int.reduceAdd,Int.reduceSub,Int.reduceMul,Int.reduceLT,Int.reduceLE,Int.reduceEq,Int.reduceToNat,Int.reduceNeg,Nat.reduceEqDiff,Nat.reduceBEq,Nat.reduceLT,xAb,xAa,xAs,xAx,xAy,xAQ,xAR,xBw,xBA,xBP,xBg,xBh,xBi,xBQ,xA0,xBS,xCh,xBp,xBT,xBU,xB7,xB8,xCO,xBI,xCa,xEq,g1,g2,e1,gz,gp,g2s]
  ·rw [hr] at gp
   refine ⟨.agg [.int .i64 n.vars,.int .i64 0,.sl true 0 [],.own false 3 0 l2.length 1,.own false k 0 w.length 5],G'.set 2 (.cells false false [.int .i64 n.vars,.int .i64 0,.sl true 0 [],.own false 3 0 l2.length 1,.own false k 0 w.length 5]),?_,_,_,_,rfl,xFa n1,xHo (X 3 (by decide) (by decide) rfl),xTp (by rw [List.getElem?_set_ne (by omega)]; exact hk)⟩
   ·rw [yAk,a58,xBf]
    simp (maxSteps := 30000000) (disch := first | assumption | omega | (simp only [WL,AV.isCell,xAb,xAa] <;> omega) | rfl | decide) only [↓reduceIte,WB,xAW,xAd,xAV,xAm,xAl,AV.cells,AV.isCell,xAc,xAi,xAj,xAz,xAA,xAB,xAC,xAD,xAE,xAX,xAF,xAG,xAn,xAH,xAo,xAp,xAI,xAq,xAr,xAk,Nat.reduceDiv,Nat.reduceMod,WP,xAT,xAM,xBm,xBl,xBk,xAP,xAS,xAN,W2,xAe,xAf,xAh,Nat.reduceAdd,Nat.reduceSub,Nat.reduceLeDiff,Nat.reduceMul,Int.reduceAdd,Int.reduceSub,Int.reduceMul,Int.reduceLT,Int.reduceLE,Int.reduceEq,Int.reduceToNat,Int.reduceNeg,Nat.reduceEqDiff,Nat.reduceBEq,Nat.reduceLT,xAb,xAa,xAs,xAx,xAy,xAQ,xAR,xBw,xBA,xBP,xBg,xBh,xBi,xBQ,xA0,xBS,xCh,xBp,xBT,xBU,xB7,xB8,xCO,xBI,xCa,xEq,g1,g2,e1,gz,gp,g2s]
 ·obtain ⟨G',rv',e1,e2⟩ := lp 4 (by decide) (.own false 3 0 l1.length 1) (.sl true 0 []) [.cells false false n.cells,.cells true false [iw zn num],.cells false false [.int .i64 0,.int .i64 0,.sl true 0 [],.sl true 0 [],.sl true 0 []],.cells false false (xBW l1),.cells false false [.int .i64 n.vars,.int .i64 0,.own false 3 0 l1.length 1,.sl true 0 [],.sl true 0 []]] rfl rfl
  have gz : G'[2]? = some (.cells false false [.int .i64 0,.int .i64 0,.sl true 0 [],.sl true 0 [],.sl true 0 []]) := e2.kp 2 (by decide)
  have gp := e2.g3
  have g2s : ∀ b : Blk,(G'.set 2 b)[2]? = some b := fun b => List.getElem?_set_self (List.getElem?_eq_some_iff.1 gz).1
  clear lp
  have X : ∀ (j : Nat),2 < j → j < 4 → ∀ {x b : Blk},([.cells false false n.cells,.cells true false [iw zn num],.cells false false [.int .i64 0,.int .i64 0,.sl true 0 [],.sl true 0 [],.sl true 0 []],.cells false false (xBW l1),.cells false false [.int .i64 n.vars,.int .i64 0,.own false 3 0 l1.length 1,.sl true 0 [],.sl true 0 []]] : Heap)[j]? = some x → (G'.set 2 b)[j]? = some x := fun j j2 j3 x b hx => by rw [List.getElem?_set_ne (by omega),e2.kp j j3]; exact hx
  rcases e2.own with ⟨hr,hw⟩ | ⟨k,k3,hr,hk⟩
  ·rw [hr] at gp
   refine ⟨.agg [.int .i64 n.vars,.int .i64 0,.own false 3 0 l1.length 1,.sl true 0 [],.sl true 0 []],G'.set 2 (.cells false false [.int .i64 n.vars,.int .i64 0,.own false 3 0 l1.length 1,.sl true 0 [],.sl true 0 []]),?_,_,_,_,rfl,xHo (X 3 (by decide) (by decide) rfl),xFa n2,xMC hw⟩
   ·rw [yAk,a58,xBf]
    simp (maxSteps := 30000000) (disch := first | assumption | omega | (simp only [WL,AV.isCell,xAb,xAa] <;> omega) | rfl | decide) only [↓reduceIte,WB,xAW,xAd,xAV,xAm,xAl,AV.cells,AV.isCell,xAc,xAi,xAj,xAz,xAA,xAB,xAC,xAD,xAE,xAX,xAF,xAG,xAn,xAH,xAo,xAp,xAI,xAq,xAr,xAk,Nat.reduceDiv,Nat.reduceMod,WP,xAT,xAM,xBm,xBl,xBk,xAP,xAS,xAN,W2,xAe,xAf,xAh,Nat.reduceAdd,Nat.reduceSub,Nat.reduceLeDiff,Nat.reduceMul,Int.reduceAdd,Int.reduceSub,Int.reduceMul,Int.reduceLT,Int.reduceLE,Int.reduceEq,Int.reduceToNat,Int.reduceNeg,Nat.reduceEqDiff,Nat.reduceBEq,Nat.reduceLT,xAb,xAa,xAs,xAx,xAy,xAQ,xAR,xBw,xBA,xBP,xBg,xBh,xBi,xBQ,xA0,xBS,xCh,xBp,xBT,xBU,xB7,xB8,xCO,xBI,xCa,xEq,g1,g2,e1,gz,gp,g2s]
  ·rw [hr] at gp
   refine ⟨.agg [.int .i64 n.vars,.int .i64 0,.own false 3 0 l1.length 1,.sl true 0 [],.own false k 0 w.length 5],G'.set 2 (.cells false false [.int .i64 n.vars,.int .i64 0,.own false 3 0 l1.length 1,.sl true 0 [],.own false k 0 w.length 5]),?_,_,_,_,rfl,xHo (X 3 (by decide) (by decide) rfl),xFa n2,xTp (by rw [List.getElem?_set_ne (by omega)]; exact hk)⟩
   ·rw [yAk,a58,xBf]
    simp (maxSteps := 30000000) (disch := first | assumption | omega | (simp only [WL,AV.isCell,xAb,xAa] <;> omega) | rfl | decide) only [↓reduceIte,WB,xAW,xAd,xAV,xAm,xAl,AV.cells,AV.isCell,xAc,xAi,xAj,xAz,xAA,xAB,xAC,xAD,xAE,xAX,xAF,xAG,xAn,xAH,xAo,xAp,xAI,xAq,xAr,xAk,Nat.reduceDiv,Nat.reduceMod,WP,xAT,xAM,xBm,xBl,xBk,xAP,xAS,xAN,W2,xAe,xAf,xAh,Nat.reduceAdd,Nat.reduceSub,Nat.reduceLeDiff,Nat.reduceMul,Int.reduceAdd,Int.reduceSub,Int.reduceMul,Int.reduceLT,Int.reduceLE,Int.reduceEq,Int.reduceToNat,Int.reduceNeg,Nat.reduceEqDiff,Nat.reduceBEq,Nat.reduceLT,xAb,xAa,xAs,xAx,xAy,xAQ,xAR,xBw,xBA,xBP,xBg,xBh,xBi,xBQ,xA0,xBS,xCh,xBp,xBT,xBU,xB7,xB8,xCO,xBI,xCa,xEq,g1,g2,e1,gz,gp,g2s]
 ·obtain ⟨G',rv',e1,e2⟩ := lp 5 (by decide) (.own false 3 0 l1.length 1) (.own false 4 0 l2.length 1) [.cells false false n.cells,.cells true false [iw zn num],.cells false false [.int .i64 0,.int .i64 0,.sl true 0 [],.sl true 0 [],.sl true 0 []],.cells false false (xBW l1),.cells false false (xBW l2),.cells false false [.int .i64 n.vars,.int .i64 0,.own false 3 0 l1.length 1,.own false 4 0 l2.length 1,.sl true 0 []]] rfl rfl
  have gz : G'[2]? = some (.cells false false [.int .i64 0,.int .i64 0,.sl true 0 [],.sl true 0 [],.sl true 0 []]) := e2.kp 2 (by decide)
  have gp := e2.g3
  have g2s : ∀ b : Blk,(G'.set 2 b)[2]? = some b := fun b => List.getElem?_set_self (List.getElem?_eq_some_iff.1 gz).1
  clear lp
  have X : ∀ (j : Nat),2 < j → j < 5 → ∀ {x b : Blk},([.cells false false n.cells,.cells true false [iw zn num],.cells false false [.int .i64 0,.int .i64 0,.sl true 0 [],.sl true 0 [],.sl true 0 []],.cells false false (xBW l1),.cells false false (xBW l2),.cells false false [.int .i64 n.vars,.int .i64 0,.own false 3 0 l1.length 1,.own false 4 0 l2.length 1,.sl true 0 []]] : Heap)[j]? = some x → (G'.set 2 b)[j]? = some x := fun j j2 j3 x b hx => by rw [List.getElem?_set_ne (by omega),e2.kp j j3]; exact hx
  rcases e2.own with ⟨hr,hw⟩ | ⟨k,k3,hr,hk⟩
  ·rw [hr] at gp
   refine ⟨.agg [.int .i64 n.vars,.int .i64 0,.own false 3 0 l1.length 1,.own false 4 0 l2.length 1,.sl true 0 []],G'.set 2 (.cells false false [.int .i64 n.vars,.int .i64 0,.own false 3 0 l1.length 1,.own false 4 0 l2.length 1,.sl true 0 []]),?_,_,_,_,rfl,xHo (X 3 (by decide) (by decide) rfl),xHo (X 4 (by decide) (by decide) rfl),xMC hw⟩
   ·rw [yAk,a58,xBf]
    simp (maxSteps := 30000000) (disch := first | assumption | omega | (simp only [WL,AV.isCell,xAb,xAa] <;> omega) | rfl | decide) only [↓reduceIte,WB,xAW,xAd,xAV,xAm,xAl,AV.cells,AV.isCell,xAc,xAi,xAj,xAz,xAA,xAB,xAC,xAD,xAE,xAX,xAF,xAG,xAn,xAH,xAo,xAp,xAI,xAq,xAr,xAk,Nat.reduceDiv,Nat.reduceMod,WP,xAT,xAM,xBm,xBl,xBk,xAP,xAS,xAN,W2,xAe,xAf,xAh,Nat.reduceAdd,Nat.reduceSub,Nat.reduceLeDiff,Nat.reduceMul,Int.reduceAdd,Int.reduceSub,Int.reduceMul,Int.reduceLT,Int.reduceLE,Int.reduceEq,Int.reduceToNat,Int.reduceNeg,Nat.reduceEqDiff,Nat.reduceBEq,Nat.reduceLT,xAb,xAa,xAs,xAx,xAy,xAQ,xAR,xBw,xBA,xBP,xBg,xBh,xBi,xBQ,xA0,xBS,xCh,xBp,xBT,xBU,xB7,xB8,xCO,xBI,xCa,xEq,g1,g2,e1,gz,gp,g2s]
  ·rw [hr] at gp
   refine ⟨.agg [.int .i64 n.vars,.int .i64 0,.own false 3 0 l1.length 1,.own false 4 0 l2.length 1,.own false k 0 w.length 5],G'.set 2 (.cells false false [.int .i64 n.vars,.int .i64 0,.own false 3 0 l1.length 1,.own false 4 0 l2.length 1,.own false k 0 w.length 5]),?_,_,_,_,rfl,xHo (X 3 (by decide) (by decide) rfl),xHo (X 4 (by decide) (by decide) rfl),xTp (by rw [List.getElem?_set_ne (by omega)]; exact hk)⟩
   ·rw [yAk,a58,xBf]
    simp (maxSteps := 30000000) (disch := first | assumption | omega | (simp only [WL,AV.isCell,xAb,xAa] <;> omega) | rfl | decide) only [↓reduceIte,WB,xAW,xAd,xAV,xAm,xAl,AV.cells,AV.isCell,xAc,xAi,xAj,xAz,xAA,xAB,xAC,xAD,xAE,xAX,xAF,xAG,xAn,xAH,xAo,xAp,xAI,xAq,xAr,xAk,Nat.reduceDiv,Nat.reduceMod,WP,xAT,xAM,xBm,xBl,xBk,xAP,xAS,xAN,W2,xAe,xAf,xAh,Nat.reduceAdd,Nat.reduceSub,Nat.reduceLeDiff,Nat.reduceMul,Int.reduceAdd,Int.reduceSub,Int.reduceMul,Int.reduceLT,Int.reduceLE,Int.reduceEq,Int.reduceToNat,Int.reduceNeg,Nat.reduceEqDiff,Nat.reduceBEq,Nat.reduceLT,xAb,xAa,xAs,xAx,xAy,xAQ,xAR,xBw,xBA,xBP,xBg,xBh,xBi,xBQ,xA0,xBS,xCh,xBp,xBT,xBU,xB7,xB8,xCO,xBI,xCa,xEq,g1,g2,e1,gz,gp,g2s]
abbrev zV : AV := .agg [.int .i64 0,.int .i64 0,.sl true 0 [],.sl true 0 [],.sl true 0 []]
abbrev zB : Blk := .cells false false [.int .i64 0,.int .i64 0,.sl true 0 [],.sl true 0 [],.sl true 0 []]
theorem xP9 (k : Nat) (vs : List AV) : xAP k (.agg vs) = .agg (vs.map (xAN k)) := rfl
def Plain (cs : List AV) : Prop := ∀ c ∈ cs,∃ k n,c = AV.int k n
theorem Plain.rel {cs : List AV} (h : Plain cs) : cs.all xBk = true := by
 rw [List.all_eq_true]; intro a ha; obtain ⟨k,n,rfl⟩ := h a ha; rfl
theorem Plain.map {cs : List AV} (h : Plain cs) (L : Nat) : cs.map (xAN L) = cs := by
 refine (List.map_congr_left fun a ha => ?_).trans (List.map_id _)
 obtain ⟨k,n,rfl⟩ := h a ha; rfl
theorem xFm (l : List Int) : Plain (xBW l) := fun a ha => by obtain ⟨x,_,rfl⟩ := List.mem_map.1 ha; exact ⟨_,_,rfl⟩
theorem xJP : ∀ (l : List Rl),Plain (rls l)
 | [] => fun a ha => nomatch ha
 | e :: l => fun a ha => by
  have : rls (e :: l) = xCe e ++ rls l := rfl
  rw [this] at ha
  rcases List.mem_append.1 ha with h | h
  ·simp only [xCe,List.mem_cons,List.not_mem_nil,or_false] at h
   rcases h with rfl | rfl | rfl | rfl | rfl <;> exact ⟨_,_,rfl⟩
  ·exact xJP l a h
theorem xQU {L : Nat} {fz z : Bool} {cs : List AV} (h : Plain cs) : xC4 L (.cells fz z cs) = .cells fz z cs := by
 simp only [xC4,h.rel,if_true,h.map]
theorem OwF.cell {G : Heap} {v : AV} {w n : Nat} {cs : List AV} (h : OwF G v w n cs) : v.isCell = true := by
 rcases h with ⟨rfl,_⟩ | ⟨k,rfl,_⟩ <;> rfl
theorem xJQ {v : AV} (k : Nat) (h : v.isCell = true) : (xAN k v).isCell = true := by
 cases v <;> first | rfl | cases h
theorem OwF.rel {G : Heap} {v : AV} {w n : Nat} {cs : List AV} (h : OwF G v w n cs) : xBk v = true := by
 rcases h with ⟨rfl,_⟩ | ⟨k,rfl,_⟩ <;> rfl
theorem OwF.lift3 {B G : Heap} {v : AV} {w n : Nat} {cs : List AV} {q : Nat} (h : OwF B v w n cs) (hp : Plain cs) (hG : ∀ (k : Nat) (x : Blk),k < B.length → (B.map (xC4 q))[k]? = some x → G[q + k]? = some x) : OwF G (xAN q v) w n cs := by
 rcases h with ⟨rfl,h1,h2⟩ | ⟨k,rfl,hg,hl⟩
 ·exact .inl ⟨rfl,h1,h2⟩
 ·refine .inr ⟨q + k,rfl,hG k _ (List.getElem?_eq_some_iff.1 hg).1 ?_,hl⟩
  rw [List.getElem?_map,hg]
  show some (xC4 q (.cells false false cs)) = _
  rw [xQU hp]
set_option maxRecDepth 20000 in
set_option maxHeartbeats 4000000 in
theorem xX4 {nv : Int} {s : Nat} {y1 y2 y3 : Bool} {nst nfi : List Int} {nrl : List Rl} {w : Nat} {r : Nat} {nums0 : List Int} {f1 f2 f3 x1 x2 x3 : AV} {B Bl G1 G2 G3 G4 : Heap}
  (h1 : L.pcall 14 [.agg [.int .i64 nv,.int .i64 (s : Nat),iw y1 nst,iw y2 nfi,.sl y3 nrl.length (rls nrl)]] = some (.int .i64 0))
  (hs64 : s ≤ 64) (u1 : L.pcall 57 [.agg [.int .i64 nv,.int .i64 (s : Nat),iw y1 nst,iw y2 nfi,.sl y3 nrl.length (rls nrl)]] = some (.int .u64 (w : Nat)))
  (hn : L.loop xKk xVc ⟨xIg (.ptr 0 0) (.ptr 1 0) (.int .u64 (w : Nat)) (.own false 2 0 s 1) (.int .i64 0) (.int .i64 (s : Nat)) (.int .i64 0),[.cells false false [.int .i64 nv,.int .i64 (s : Nat),iw y1 nst,iw y2 nfi,.sl y3 nrl.length (rls nrl)],zB,.cells false false (xEa (List.replicate s 0))]⟩ =
   some (.exit 0,⟨xIg (.ptr 0 0) (.ptr 1 0) (.int .u64 (w : Nat)) (.own false 2 0 s 1) (.int .i64 (r : Nat)) (.int .i64 (s : Nat)) (.int .i64 (s : Nat)),[.cells false false [.int .i64 nv,.int .i64 (s : Nat),iw y1 nst,iw y2 nfi,.sl y3 nrl.length (rls nrl)],zB,.cells false false (xBW nums0)]⟩))
  (nl : nums0.length = s) (htk : List.take s nums0 = nums0)
  (h58 : xDb L 58 [.agg [.int .i64 nv,.int .i64 (s : Nat),iw y1 nst,iw y2 nfi,.sl y3 nrl.length (rls nrl)],.sl false s (xBW nums0)] = some (.agg [.int .i64 nv,.int .i64 0,f1,f2,f3],B))
  (g1 : xAN 3 f1 = x1) (g2 : xAN 3 f2 = x2) (g3 : xAN 3 f3 = x3) (hl : B.map (xC4 3) = Bl)
  (e1 : .cells false false [.int .i64 nv,.int .i64 (s : Nat),iw y1 nst,iw y2 nfi,.sl y3 nrl.length (rls nrl)] :: zB :: .cells true false (xBW nums0) :: Bl = G1)
  (e2 : G1 ++ [Blk.cells false false [.int .i64 nv,.int .i64 0,x1,x2,x3]] = G2)
  (z2 : G2[G1.length]? = some (Blk.cells false false [.int .i64 nv,.int .i64 0,x1,x2,x3]))
  (e3 : G2.set G1.length (Blk.cells false false [.int .i64 nv,.int .i64 (r : Nat),x1,x2,x3]) = G3)
  (z3 : G3[G1.length]? = some (Blk.cells false false [.int .i64 nv,.int .i64 (r : Nat),x1,x2,x3])) (z1 : G3[1]? = some zB)
  (j1 : ([AV.int .i64 nv,.int .i64 0,x1,x2,x3]).all AV.isCell = true) (j2 : ([AV.int .i64 nv,.int .i64 (r : Nat),x1,x2,x3]).all AV.isCell = true)
  (e4 : G3.set 1 (Blk.cells false false [.int .i64 nv,.int .i64 (r : Nat),x1,x2,x3]) = G4) (z4 : G4[1]? = some (Blk.cells false false [.int .i64 nv,.int .i64 (r : Nat),x1,x2,x3])) :
  L.icall (.func 22 []) [.agg [.int .i64 nv,.int .i64 (s : Nat),iw y1 nst,iw y2 nfi,.sl y3 nrl.length (rls nrl)]] [] = some (.tup [.agg [.int .i64 nv,.int .i64 (r : Nat),x1,x2,x3],.int .i64 0],G4) := by
 rw [yFU,a22,xBf]
 simp (maxSteps := 30000000) (disch := first | assumption | omega | (simp only [WL,AV.isCell,xAb,xAa] <;> omega) | rfl | decide) only [↓reduceIte,WB,xAW,xAd,xAV,xAm,xAl,AV.cells,AV.isCell,xAc,xAi,xAj,xAz,xAA,xAB,xAC,xAD,xAE,xAX,xAF,xAG,xAn,xAH,xAo,xAp,xAI,xAq,xAr,xAk,Nat.reduceDiv,Nat.reduceMod,WP,xAT,xAM,xBm,xBl,xBk,W2,xAe,xAf,xAh,Nat.reduceAdd,Nat.reduceSub,Nat.reduceLeDiff,Nat.reduceMul,Int.reduceAdd,Int.reduceSub,Int.reduceMul,Int.reduceLT,Int.reduceLE,Int.reduceEq,Int.reduceToNat,Int.reduceNeg,Nat.reduceEqDiff,Nat.reduceBEq,Nat.reduceLT,xAb,xAa,xAx,xAy,xE4,xC5,xE5,xP9,xE9,xRg,h1,u1,hn,nl,htk,h58,g1,g2,g3,hl,e1,e2,z2,e3,z3,z1,j1,j2,e4,z4]
theorem xUi {n : Aut} {e : Int} (he : e ≠ 0) (h1 : L.pcall 14 [n.av] = some (.int .i64 e)) : ∃ G,L.icall (.func 22 []) [n.av] [] = some (.tup [zV,.int .i64 e],G) := by
 refine ⟨[.cells false false n.cells,zB],?_⟩
 rw [yFU,a22,xBf]
 simp (maxSteps := 30000000) (disch := first | assumption | omega | (simp only [WL,AV.isCell,xAb,xAa] <;> omega) | rfl | decide) only [↓reduceIte,WB,xAW,xAd,xAV,xAm,xAl,AV.cells,AV.isCell,xAc,xAi,xAj,xAz,xAA,xAB,xAC,xAD,xAE,xAX,xAF,xAG,xAn,xAH,xAo,xAp,xAI,xAq,xAr,xAk,Nat.reduceDiv,Nat.reduceMod,WP,xAT,xAM,xBm,xBl,xBk,W2,xAe,xAf,xAh,Nat.reduceAdd,Nat.reduceSub,Nat.reduceLeDiff,Nat.reduceMul,Int.reduceAdd,Int.reduceSub,Int.reduceMul,Int.reduceLT,Int.reduceLE,Int.reduceEq,Int.reduceToNat,Int.reduceNeg,Nat.reduceEqDiff,Nat.reduceBEq,Nat.reduceLT,xAb,xAa,xAx,xAy,xE4,xC5,xE5,xP9,xE9,h1,he]
set_option maxHeartbeats 2000000 in
theorem yDb {n : Aut} (hT : TyA n) (c : xPS n = 0) : ∃ S w v G,Use n S w ∧ L.icall (.func 22 []) [n.av] [] = some (.tup [v,.int .i64 0],G) ∧
  OwA G v n.vars (rnk (fun j => w.testBit j) n.states.toNat : Nat) (xLU (xGx (fun j => w.testBit j) n.states.toNat) n.st) (xLU (xGx (fun j => w.testBit j) n.states.toNat) n.fi) (xX9 (xGx (fun j => w.testBit j) n.states.toNat) n.rl) := by
 have h1 := xGq n hT.st hT.fi hT.rl hT.u8
 have hV := chkE_zero.1 c
 rw [c] at h1
 obtain ⟨S,w,u1,u2⟩ := xZU hT hV
 obtain ⟨s,hs⟩ : ∃ s : Nat,n.states = (s : Nat) := ⟨n.states.toNat,by have := hV.s0; omega⟩
 have hs64 : s ≤ 64 := by have := hV.s64; omega
 have hts : n.states.toNat = s := by omega
 refine ⟨S,w,?_⟩
 rw [hts]
 have nl := xTl (fun j => w.testBit j) s
 have hn := xTm (b0 := .cells false false n.cells) (b1 := zB) hs64 u2.lt s 0 (by omega)
 have hn0 : xBW (xGx (fun j => w.testBit j) 0 ++ List.replicate s 0) = xEa (List.replicate s 0) := by simp [xGx,xBW,xEa]
 rw [hn0,rnk,Int.natCast_zero] at hn
 obtain ⟨v,B,h58,f1,f2,f3,rfl,o1,o2,o3⟩ := xX3 n false (xGx (fun j => w.testBit j) s) hT.st hT.fi hT.rl (by rw [nl]; intro q hq; have := xEk hV.st q hq; omega) (by rw [nl]; intro q hq; have := xEk hV.fi q hq; omega) (by rw [nl]; intro u hu; have := hV.rule u hu; omega)
 have hrel : xBm (.agg [.int .i64 n.vars,.int .i64 0,f1,f2,f3]) = true := by
  show ([AV.int .i64 n.vars,.int .i64 0,f1,f2,f3]).all xBk = true
  simp only [List.all_cons,List.all_nil,o1.rel,o2.rel,o3.rel]; rfl
 have h58' := xIZ h58 hrel
 unfold iw at h58'
 rw [nl] at h58'
 have htk : List.take s (xGx (fun j => w.testBit j) s) = xGx (fun j => w.testBit j) s := List.take_of_length_le (by omega)
 obtain ⟨nv,ns,y1,nst,y2,nfi,y3,nrl⟩ := n
 have hs' : ns = (s : Nat) := hs
 subst hs'
 obtain ⟨Bl,hl⟩ : ∃ X,B.map (xC4 3) = X := ⟨_,rfl⟩
 obtain ⟨x1,g1⟩ : ∃ X,xAN 3 f1 = X := ⟨_,rfl⟩
 obtain ⟨x2,g2⟩ : ∃ X,xAN 3 f2 = X := ⟨_,rfl⟩
 obtain ⟨x3,g3⟩ : ∃ X,xAN 3 f3 = X := ⟨_,rfl⟩
 have c1 : x1.isCell = true := by rw [← g1]; exact xJQ 3 o1.cell
 have c2 : x2.isCell = true := by rw [← g2]; exact xJQ 3 o2.cell
 have c3 : x3.isCell = true := by rw [← g3]; exact xJQ 3 o3.cell
 obtain ⟨G1,e1⟩ : ∃ X : Heap,.cells false false [.int .i64 nv,.int .i64 (s : Nat),iw y1 nst,iw y2 nfi,.sl y3 nrl.length (rls nrl)] :: zB :: .cells true false (xBW (xGx (fun j => w.testBit j) s)) :: Bl = X := ⟨_,rfl⟩
 obtain ⟨G2,e2⟩ : ∃ X,G1 ++ [Blk.cells false false [.int .i64 nv,.int .i64 0,x1,x2,x3]] = X := ⟨_,rfl⟩
 obtain ⟨G3,e3⟩ : ∃ X,G2.set G1.length (Blk.cells false false [.int .i64 nv,.int .i64 (rnk (fun j => w.testBit j) s : Nat),x1,x2,x3]) = X := ⟨_,rfl⟩
 obtain ⟨G4,e4⟩ : ∃ X,G3.set 1 (Blk.cells false false [.int .i64 nv,.int .i64 (rnk (fun j => w.testBit j) s : Nat),x1,x2,x3]) = X := ⟨_,rfl⟩
 have len1 : G1.length = 3 + B.length := by rw [← e1,← hl]; simp; omega
 have len2 : G2.length = G1.length + 1 := by rw [← e2]; simp
 have len3 : G3.length = G1.length + 1 := by rw [← e3,List.length_set,len2]
 have z2 : G2[G1.length]? = some (Blk.cells false false [.int .i64 nv,.int .i64 0,x1,x2,x3]) := by rw [← e2]; exact List.getElem?_concat_length
 have z3 : G3[G1.length]? = some (Blk.cells false false [.int .i64 nv,.int .i64 (rnk (fun j => w.testBit j) s : Nat),x1,x2,x3]) := by rw [← e3,List.getElem?_set_self (by omega)]
 have q11 : G1[1]? = some zB := by rw [← e1]; rfl
 have z1 : G3[1]? = some zB := by rw [← e3,List.getElem?_set_ne (by omega),← e2]; exact xA8 q11
 have z4 : G4[1]? = some (Blk.cells false false [.int .i64 nv,.int .i64 (rnk (fun j => w.testBit j) s : Nat),x1,x2,x3]) := by rw [← e4,List.getElem?_set_self (by omega)]
 have hG : ∀ (k : Nat) (x : Blk),k < B.length → (B.map (xC4 3))[k]? = some x → G4[3 + k]? = some x := fun k x hk hx => by
  rw [← e4,List.getElem?_set_ne (by omega),← e3,List.getElem?_set_ne (by omega),← e2]
  refine xA8 ?_
  rw [← e1,← hl,Nat.add_comm]
  exact hx
 refine ⟨_,G4,u2,xX4 h1 hs64 u1 hn nl htk h58' g1 g2 g3 hl e1 e2 z2 e3 z3 z1 ?_ ?_ e4 z4,x1,x2,x3,rfl,?_,?_,?_⟩
 ·simp only [List.all_cons,List.all_nil,c1,c2,c3]; rfl
 ·simp only [List.all_cons,List.all_nil,c1,c2,c3]; rfl
 ·rw [← g1]; exact o1.lift3 (xFm _) hG
 ·rw [← g2]; exact o2.lift3 (xFm _) hG
 ·rw [← g3]; exact o3.lift3 (xJP _) hG
end Go.Abs.Tree
