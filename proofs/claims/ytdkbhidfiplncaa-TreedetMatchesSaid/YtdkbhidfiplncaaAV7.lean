/- TreedetMatches on the interpreter's values. -/
import Derived.Test.YtdkbhidfiplncaaAbsBun
import Derived.Test.YtdkbhidfiplncaaAMH
import Derived.Test.YtdkbhidfiplncaaAFit
import Derived.Test.YtdkbhidfiplncaaAK1
namespace Go.Abs.Det
open Go Go.Abs
set_option linter.unusedSimpArgs false
set_option linter.unusedVariables false
theorem yIb {d : Dfa} (h : Sm d) : Sm (cD d) := by
 obtain ⟨h1,h2,h3,h4⟩ := h
 refine ⟨by simpa [cD,cN] using h1,h2,?_,?_⟩
 ·intro s hs
  obtain ⟨s',hs',rfl⟩ := List.mem_map.1 hs
  simpa [cS] using h3 s' hs'
 ·intro s hs r hr
  obtain ⟨s',hs',rfl⟩ := List.mem_map.1 hs
  obtain ⟨r',hr',rfl⟩ := List.mem_map.1 hr
  exact h4 s' hs' r' hr'
theorem xQa {d A : Dfa} {zt z1 : Bool} {t tr : List Lf} {G : xAc} {r : Int} (hS : Sm A) (hC : Cn A) (h12 : L.pcall 12 [d.av] = some A.av) (hx : ∀ e ∈ tr,e.x < 256)
  (htr : List.take (tr.length * 3) (lfs t) = lfs tr) (htm : min ((t.length : Nat) : Int) 40 = (tr.length : Nat)) (htt : tr.length ≤ t.length) (hr : r < 2) (hr0 : 0 ≤ r) (hI : LwD d A G) :
  ∃ G',L.loop xGR xZL ⟨xGS (.sl zt t.length (lfs t)) (.ptr 0 0) (.bool false) (.ptr 1 0) (.sl z1 tr.length (lfs tr)) (.int .i64 r),G⟩ =
   L.loop xGR xZL ⟨xGS (.sl zt t.length (lfs t)) (.ptr 0 0) (.bool false) (.ptr 1 0) (.sl z1 tr.length (lfs tr)) (.int .i64 (r + 1)),G'⟩ ∧ LwD d A G' := by
 have hs := xZd hS
 have key : P16 A.av z1 tr ∧ PD 21 22 A.av ∧ PD 23 24 A.av ∧ P25 A.av ∧ P27 A.av := by
  by_cases he : xB6 A = 0
  ·obtain ⟨D,hV,hA⟩ := yFl hC he
   rw [hA]
   exact ⟨yGR hV z1 tr (by omega) hx,yGS hV,yGT hV,yGU hV,yGV hV⟩
  ·exact ⟨yEZ hS he z1 tr,yE0 hS he,yE1 hS he,yE2 hS he,yE3 hS he⟩
 obtain ⟨⟨⟨_,_,_,_,a1,a2,a3,a4⟩,_,_,a5,a6⟩,⟨_,_,_,_,_,_,_,_,b1,b2,b3,b4⟩,⟨_,_,_,_,_,_,_,_,c1,c2,c3,c4⟩,⟨_,_,_,_,d1,d2,d3,d4⟩,⟨_,_,_,_,_,_,_,_,_,_,e1,e2,e3,e4⟩⟩ := key
 exact yBN htr htm htt hr hr0 hI h12 hs a1 a2 a5 a6 b1 b2 c1 c2 d1 d2 e1 e2 a4 b4 c4 d4 e4 a3 b3 c3 d3 e3
set_option maxRecDepth 20000 in
set_option maxHeartbeats 4000000 in
theorem yJM (d : Dfa) (z : Bool) (t : List Lf) (hx : ∀ e ∈ t,e.x < 256) : L.pcall 3 [d.av,tw z t] = some (.bool true) := by
 have hkk := k15
 have h12 := yIw d
 have hS := yIb (yGO d)
 have hC := yIv (fD d)
 generalize cD (fD d) = A at *
 have h14 := xVt A hS
 have h15 := xRD A hS
 have htm : min ((t.length : Nat) : Int) 40 = ((t.take 40).length : Nat) := by rw [List.length_take]; omega
 have htt : (t.take 40).length ≤ t.length := by rw [List.length_take]; omega
 have htr : List.take ((t.take 40).length * 3) (lfs t) = lfs (t.take 40) := by
  unfold lfs
  rw [xI3 (enc := yBz) (k := 3) (fun _ => rfl),yBy]
 have c13 := yGx z (t.take 40) (by omega)
 have hx1 : ∀ e ∈ t.take 40,e.x < 256 := fun e he => hx e (List.mem_of_mem_take he)
 generalize t.take 40 = tr at *
 generalize (tr.length == 0) = z1 at *
 obtain ⟨G1,r1,i1⟩ := xQa (zt := z) (z1 := z1) (r := 0) (G := [.cells false false d.cells,.cells false false A.cells]) hS hC h12 hx1 htr htm htt (by omega) (by omega) ⟨rfl,rfl⟩
 obtain ⟨G2,r2,i2⟩ := xQa (zt := z) (z1 := z1) (r := 1) hS hC h12 hx1 htr htm htt (by omega) (by omega) i1
 have r3 : L.loop xGR xZL ⟨xGS (.sl z t.length (lfs t)) (.ptr 0 0) (.bool false) (.ptr 1 0) (.sl z1 tr.length (lfs tr)) (.int .i64 2),G2⟩ = some (.exit 0,⟨xGS (.sl z t.length (lfs t)) (.ptr 0 0) (.bool false) (.ptr 1 0) (.sl z1 tr.length (lfs tr)) (.int .i64 2),G2⟩) := by
  rw [yFs]
  simp (maxSteps := 30000000) (disch := first | assumption | omega | (simp only [WL,AV.isCell,xAe] <;> omega) | rfl | decide) only [xZR,WB,↓reduceIte,yDE]
 rw [show (0 : Int) + 1 = 1 from rfl] at r1
 rw [show (1 : Int) + 1 = 2 from rfl] at r2
 rw [r2,r3] at r1
 unfold Dfa.av Dfa.cells at h12 h14 h15
 unfold Dfa.cells at r1
 unfold tw at c13 ⊢
 unfold Dfa.av Dfa.cells
 rw [a3p,a3,xAf]
 simp (maxSteps := 30000000) (disch := first | assumption | omega | (simp only [WL,AV.isCell,xAe] <;> omega) | rfl | decide) only [WB,Nat.reduceAdd,Nat.reduceSub,AV.cells,AV.isCell,↓reduceIte,h12,xA0,xAx,htm,Nat.reduceMul,htr,c13,xAj,h14,h15,yDE,r1,hkk]
theorem law3t (avs : List AV) (h : xRg [yIj,TTr] avs) : L.pcall 3 avs = some (.bool true) := by
 obtain ⟨_,r,rfl,h0,h⟩ := xLn h
 obtain ⟨_,r,rfl,h1,h⟩ := xLn h
 obtain rfl := xYz h
 obtain ⟨d,rfl⟩ := yEE h0
 obtain ⟨z,t,rfl,hx⟩ := yBk (yBm h1)
 exact yJM d z t hx
end Go.Abs.Det
