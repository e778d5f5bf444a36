/- TreeautMatches on the interpreter's values. -/
import Derived.Test.YtijmhicopfphnaaDoorAbsBun
import Derived.Test.YtijmhicopfphnaaDoorAMD
import Derived.Test.YtijmhicopfphnaaDoorAMM
import Derived.Test.YtijmhicopfphnaaDoorAK1
namespace Go.Abs.Tree
open Go Go.Abs
set_option linter.unusedSimpArgs false
set_option linter.unusedVariables false
theorem xPH {n m : Aut} {zt z1 : Bool} {t tr : List Lf} {G : Heap} {r : Int} (hC : Cut m) (h12 : L.pcall 12 [n.av] = some m.av) (hx : ∀ e ∈ tr,e.x < 256)
  (htr : List.take (tr.length * 3) (lfs t) = lfs tr) (htm : min ((t.length : Nat) : Int) 40 = (tr.length : Nat)) (htt : tr.length ≤ t.length) (hr : r < 2) (hr0 : 0 ≤ r) (hI : Lw n m G) :
  ∃ G',L.loop xIe xX7 ⟨xIf (.sl zt t.length (lfs t)) (.ptr 0 0) (.bool false) (.ptr 1 0) (.sl z1 tr.length (lfs tr)) (.int .i64 r),G⟩ =
   L.loop xIe xX7 ⟨xIf (.sl zt t.length (lfs t)) (.ptr 0 0) (.bool false) (.ptr 1 0) (.sl z1 tr.length (lfs tr)) (.int .i64 (r + 1)),G'⟩ ∧ Lw n m G' := by
 have hT := hC.ty
 have sm := xSU m hT.st hT.fi hT.rl m.z1 m.z2 m.z3
 obtain ⟨u1,B1,ra,e,zq,bb,a1,a2,a3,a4,a5,a6⟩ := (p16 hC z1 tr (by have := htm; omega) hx).h
 obtain ⟨u2,B2,rb,f,zp,b1,b2,b3,b4⟩ := (p20 hC).h
 obtain ⟨v,B3,X,g,c1,c2,c3,c4,c5,c6⟩ := (p22 hC).h
 exact xZN htr htm htt hr hr0 hI h12 a1 a2 a3 a4 a5 a6 b1 b2 b3 b4 c1 c2 c3 c4 c5 c6 sm
set_option maxRecDepth 20000 in
set_option maxHeartbeats 4000000 in
theorem yHk (n : Aut) (hb : ∀ e ∈ n.rl,e.p < 256 ∧ e.n < 256) (z : Bool) (t : List Lf) (hx : ∀ e ∈ t,e.x < 256) : L.pcall 3 [n.av,tw z t] = some (.bool true) := by
 have hkk := k16
 have h12 := yFN n
 have hC : Cut (cpA (fwA n)) := ⟨by show (n.st.take 70).length < _; rw [List.length_take]; omega,by show (n.fi.take 70).length < _; rw [List.length_take]; omega,by show (n.rl.take 520).length < _; rw [List.length_take]; omega,fun e he => hb e (List.mem_of_mem_take he)⟩
 have hT := hC.ty
 have h14 := xGq _ hT.st hT.fi hT.rl hT.u8
 have h15 := xGu _ hT.st hT.fi hT.rl hT.u8
 generalize cpA (fwA n) = A at *
 have htm : min ((t.length : Nat) : Int) 40 = ((t.take 40).length : Nat) := by rw [List.length_take]; omega
 have htt : (t.take 40).length ≤ t.length := by rw [List.length_take]; omega
 have htr : List.take ((t.take 40).length * 3) (lfs t) = lfs (t.take 40) := by
  unfold lfs
  rw [xJE (enc := xQK) (k := 3) (fun _ => rfl),xHA]
 have c13 := yEy z (t.take 40) (by omega)
 have hx1 : ∀ e ∈ t.take 40,e.x < 256 := fun e he => hx e (List.mem_of_mem_take he)
 generalize t.take 40 = tr at *
 generalize (tr.length == 0) = z1 at *
 obtain ⟨G1,r1,i1⟩ := xPH (zt := z) (z1 := z1) (r := 0) (G := [.cells false false n.cells,.cells false false A.cells]) hC h12 hx1 htr htm htt (by omega) (by omega) ⟨rfl,rfl⟩
 obtain ⟨G2,r2,i2⟩ := xPH (zt := z) (z1 := z1) (r := 1) hC h12 hx1 htr htm htt (by omega) (by omega) i1
 have r3 : L.loop xIe xX7 ⟨xIf (.sl z t.length (lfs t)) (.ptr 0 0) (.bool false) (.ptr 1 0) (.sl z1 tr.length (lfs tr)) (.int .i64 2),G2⟩ = some (.exit 0,⟨xIf (.sl z t.length (lfs t)) (.ptr 0 0) (.bool false) (.ptr 1 0) (.sl z1 tr.length (lfs tr)) (.int .i64 2),G2⟩) := by
  rw [yDt]
  simp (maxSteps := 30000000) (disch := first | assumption | omega | (simp only [WL,AV.isCell,xAb,xAa] <;> omega) | rfl | decide) only [↓reduceIte,WB,xAW,xAd,xAV,xAm,xAl,AV.cells,AV.isCell,xAc,xAi,xAj,xAz,xAA,xAB,xAC,xAD,xAE,xAX,xAF,xAG,xAn,xAH,xAo,xAp,xAI,xAq,xAr,xAk,Nat.reduceDiv,Nat.reduceMod,WP,xAT,xAM,xBm,xBl,xBk,xAP,xAS,xAN,W2,xAe,xAf,xAh,Nat.reduceAdd,Nat.reduceSub,Nat.reduceLeDiff,Nat.reduceMul,Int.reduceAdd,Int.reduceSub,Int.reduceMul,Int.reduceLT,Int.reduceLE,Int.reduceEq,Int.reduceToNat,Int.reduceNeg,Nat.reduceEqDiff,Nat.reduceBEq,Nat.reduceLT,xAb,xAa,xYD,yBP]
 rw [show (0 : Int) + 1 = 1 from rfl] at r1
 rw [show (1 : Int) + 1 = 2 from rfl] at r2
 rw [r2,r3] at r1
 clear hC hT i1 i2 r2 r3
 unfold Aut.av Aut.cells at h12 h14 h15
 unfold Aut.cells at r1
 unfold tw at c13 ⊢
 unfold Aut.av Aut.cells
 rw [a3p,a3,xAu]
 simp (maxSteps := 30000000) (disch := first | assumption | omega | (simp only [WL,AV.isCell,xAb,xAa] <;> omega) | rfl | decide) only [↓reduceIte,WB,xAW,xAd,xAV,xAm,xAl,AV.cells,AV.isCell,xAc,xAi,xAj,xAz,xAA,xAB,xAC,xAD,xAE,xAX,xAF,xAG,xAn,xAH,xAo,xAp,xAI,xAq,xAr,xAk,Nat.reduceDiv,Nat.reduceMod,WP,xAT,xAM,xBm,xBl,xBk,xAP,xAS,xAN,W2,xAe,xAf,xAh,Nat.reduceAdd,Nat.reduceSub,Nat.reduceLeDiff,Nat.reduceMul,Int.reduceAdd,Int.reduceSub,Int.reduceMul,Int.reduceLT,Int.reduceLE,Int.reduceEq,Int.reduceToNat,Int.reduceNeg,Nat.reduceEqDiff,Nat.reduceBEq,Nat.reduceLT,xAb,xAa,yBP,h12,h14,h15,htm,htr,htt,c13,r1,hkk]
theorem law3t (avs : List AV) (h : xQa [yFM,yEz] avs) : L.pcall 3 avs = some (.bool true) := by
 obtain ⟨_,r,rfl,h0,h⟩ := xLL h
 obtain ⟨_,r,rfl,h1,h⟩ := xLL h
 obtain rfl := xXk h
 obtain ⟨n,rfl,hb⟩ := yCS h0
 obtain ⟨z,t,rfl,hx⟩ := xZD (xZF h1)
 exact yHk n hb z t hx
end Go.Abs.Tree
