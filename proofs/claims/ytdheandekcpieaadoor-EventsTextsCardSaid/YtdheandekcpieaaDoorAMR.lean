/- The reference's nodes; equal formulas; bytes copied and overwritten. -/
import Derived.Test.YtdheandekcpieaaDoorAbsBun
import Derived.Test.YtdheandekcpieaaDoorAME
import Derived.Test.YtdheandekcpieaaDoorAMG
import Derived.Test.YtdheandekcpieaaDoorAMP
namespace Go.Abs.Events
open Go Go.Abs
set_option maxHeartbeats 4000000
set_option linter.unusedSimpArgs false
set_option linter.unusedVariables false
section
variable {fs : List Nd} {z : Bool}
abbrev F15 (z : Bool) (fs : List Nd) (v : AV) (i : Nat) : List AV := xD2 (.sl z fs.length (nds fs)) v (.int .i64 (i : Nat))
theorem yAZ (hl : fs.length ≤ 1000) : ∀ k i,i + k = fs.length → ∀ (G : Heap) (v : AV) (out : List Nd),out.length = i → Gn G v out → ∃ (G' : Heap) (v' : AV),
  L.loop xEx xKC ⟨F15 z fs v i,G⟩ = some (.exit 0,⟨F15 z fs v' fs.length,G'⟩) ∧ Gn G' v' (out ++ fs.drop i) := by
 intro k
 induction k with
 | zero =>
  intro i hi G v out ho hg
  obtain rfl : i = fs.length := by omega
  refine ⟨G,v,?_,by simpa using hg⟩
  rw [xFk]
  simp (maxSteps := 30000000) (disch := first|exact D5|fail) only [xD1,WB,↓reduceIte,xC5]
 | succ k ih =>
  intro i hi G v out ho hg
  have hlt : i < fs.length := by omega
  have hltI : ((i : Nat) : Int) < (fs.length : Nat) := by omega
  have em : fs.drop i = fs.getD i nd0 :: fs.drop (i + 1) := xH5 hlt
  rw [em]
  generalize hn : fs.getD i nd0 = n at *
  have hnv : xBW n.z n.args = .sl n.z n.args.length (xAG n.args) := rfl
  rcases hg with ⟨rfl,rfl⟩ | ⟨o,rfl,go,hne⟩
  ·obtain ⟨G',v',e1,g1⟩ := ih (i + 1) (by omega) (G ++ [.cells false false n.c,.cells false false (nds [n])]) (.own false (G.length + 1) 0 1 6) [n] (by simp at ho ⊢; omega)
    (.inr ⟨G.length + 1,rfl,by rw [List.getElem?_append_right (by omega),show G.length + 1 - G.length = 1 by omega]; rfl,by simp⟩)
   refine ⟨G',v',?_,by simpa using g1⟩
   have hN : nds [n] = n.c := by simp [rows]
   rw [hN] at e1
   unfold Nd.c at e1
   rw [hnv] at e1
   rw [xFk]
   simp (maxSteps := 30000000) (disch := first|exact D5|fail) only [xD1,WB,hltI,↓reduceIte,xAP,Nd.c,hn,hnv,AV.cells,Nat.reduceAdd,Nat.reduceMul,AV.isCell,xBT,Nat.reduceBEq,xC5,e1]
  ·have lo := xAp go
   obtain ⟨G',v',e1,g1⟩ := ih (i + 1) (by omega) (G.set o .dead ++ [.cells false false n.c,.cells false false (nds (out ++ [n]))]) (.own false (G.length + 1) 0 (out.length + 1) 6) (out ++ [n]) (by simp; omega)
    (.inr ⟨G.length + 1,by simp,by rw [List.getElem?_append_right (by simp),List.length_set,show G.length + 1 - G.length = 1 by omega]; rfl,by simp⟩)
   refine ⟨G',v',?_,by simpa using g1⟩
   have hN : nds out ++ n.c = nds (out ++ [n]) := by rw [← xYl]; simp [rows]
   unfold Nd.c at hN e1
   rw [hnv] at hN e1
   have hnl := xAa out
   have hnt := xKT out
   generalize nds (out ++ [n]) = L2 at *
   generalize nds out = L1 at *
   rw [ho] at *
   rw [xFk]
   simp (maxSteps := 30000000) (disch := first|exact D5|fail) only [xD1,WB,hltI,↓reduceIte,xAP,Nd.c,hn,hnv,AV.cells,Nat.reduceAdd,Nat.reduceMul,AV.isCell,xBT,xA1,go,Nat.reduceBEq,xEm,hnt,hN,xC5,e1]
theorem xT7 (z : Bool) (fs : List Nd) (hl : fs.length ≤ 1000) : L.pcall 15 [.sl z fs.length (nds fs)] = some (.sl fs.isEmpty fs.length (nds fs)) := by
 obtain ⟨G',v',e1,g1⟩ := yAZ (z := z) hl fs.length 0 (by omega) [] (.sl true 0 []) [] rfl (.inl ⟨rfl,rfl⟩)
 rw [List.nil_append,List.drop_zero] at g1
 have e1' : L.loop xEx xKC ⟨xD2 (.sl z fs.length (nds fs)) (.sl true 0 []) (.int .i64 0),[]⟩ = _ := e1
 rcases g1 with ⟨rfl,rfl⟩ | ⟨o,rfl,go,hne⟩
 ·show _ = some (AV.sl true 0 [])
  rw [yDo,a15,xAe]
  simp (disch := omega) only [WB,Nat.reduceSub,xC5]
  show xPb (xHw _ (xU6 _ _ (xFf 0 (L.loop xEx xKC ⟨xD2 (.sl z ([] : List Nd).length (nds [])) (.sl true 0 []) (.int .i64 0),[]⟩)))) = _
  rw [e1']
  simp (disch := omega) only [WB,↓reduceIte]
 ·have hnl := xAa fs
  have hnt := xKT fs
  have hfr := fun d H => xN9 d H fs
  have hem : fs.isEmpty = false := by
   cases fs with
   | nil => exact absurd rfl hne
   | cons _ _ => rfl
  rw [hem]
  generalize nds fs = L1 at *
  rw [yDo,a15,xAe]
  simp (disch := omega) only [WB,Nat.reduceSub,xC5,e1',↓reduceIte,xCi,go,hnt,hfr]
end
section
variable {z1 z2 : Bool} {l : List Int}
theorem yA0 (hl : l.length ≤ 1000) : ∀ k i,i + k = l.length → L.loop xJL xTb ⟨xJM (.sl z1 l.length (xAG l)) (.sl z2 l.length (xAG l)) (.bool false) (.int .i64 (i : Nat)),[]⟩ =
  some (.exit 0,⟨xJM (.sl z1 l.length (xAG l)) (.sl z2 l.length (xAG l)) (.bool false) (.int .i64 (l.length : Nat)),[]⟩) := by
 intro k
 induction k with
 | zero =>
  intro i hi
  obtain rfl : i = l.length := by omega
  rw [xWP]
  simp (maxSteps := 30000000) (disch := first|exact D5|fail) only [xPz,WB,↓reduceIte,xTc]
 | succ k ih =>
  intro i hi
  have hlt : ((i : Nat) : Int) < (l.length : Nat) := by omega
  have ih' := ih (i + 1) (by omega)
  generalize hx : l.getD i 0 = x at *
  rw [xWP]
  simp (maxSteps := 30000000) (disch := first|exact D5|fail) only [xPz,WB,hlt,↓reduceIte,W2,hx,xAh,xTc,ih']
theorem yC4 (hl : l.length ≤ 1000) : L.pcall 45 [.sl z1 l.length (xAG l),.sl z2 l.length (xAG l)] = some (.bool true) := by
 have h := yA0 (z1 := z1) (z2 := z2) hl l.length 0 (by omega)
 have h' : L.loop xJL xTb ⟨xJM (.sl z1 l.length (xAG l)) (.sl z2 l.length (xAG l)) (.bool false) (.int .i64 0),[]⟩ = _ := h
 rw [yDT,a45,xAe]
 simp (disch := omega) only [WB,Nat.reduceAdd,Nat.reduceSub,↓reduceIte,xTc,h']
variable {fs : List Nd}
theorem yA1 (hl : fs.length ≤ 1000) (ha : ∀ j,j < fs.length → (fs.getD j nd0).args.length ≤ 1000) : ∀ k i,i + k = fs.length → ∀ G,∃ G',L.loop xJu xSZ ⟨xJv (.sl z1 fs.length (nds fs)) (.sl z2 fs.length (nds fs)) (.bool false) (.int .i64 (i : Nat)),G⟩ =
  some (.exit 0,⟨xJv (.sl z1 fs.length (nds fs)) (.sl z2 fs.length (nds fs)) (.bool false) (.int .i64 (fs.length : Nat)),G'⟩) := by
 intro k
 induction k with
 | zero =>
  intro i hi G
  obtain rfl : i = fs.length := by omega
  refine ⟨G,?_⟩
  rw [xWN]
  simp (maxSteps := 30000000) (disch := first|exact D5|fail) only [xPu,WB,↓reduceIte,xS0]
 | succ k ih =>
  intro i hi G
  have hlt0 : i < fs.length := by omega
  have hlt : ((i : Nat) : Int) < (fs.length : Nat) := by omega
  have hal := ha i hlt0
  obtain ⟨G',ih'⟩ := ih (i + 1) (by omega) (G ++ [.cells false false (fs.getD i nd0).c,.cells false false (fs.getD i nd0).c])
  refine ⟨G',?_⟩
  generalize hn : fs.getD i nd0 = n at *
  have h45 := yC4 (z1 := n.z) (z2 := n.z) hal
  have hnv : xBW n.z n.args = .sl n.z n.args.length (xAG n.args) := rfl
  unfold Nd.c at ih'
  rw [hnv] at ih'
  rw [xWN]
  simp (maxSteps := 30000000) (disch := first|exact D5|fail) only [xPu,WB,hlt,↓reduceIte,xAP,Nd.c,hn,hnv,AV.cells,AV.isCell,xAh,Nat.reduceAdd,xBT,xES,xNj,yBs,xUy,h45,xAN,xAt,xS0,ih']
end
theorem yA2 {z1 z2 : Bool} {fs : List Nd} (hl : fs.length ≤ 1000) (ha : ∀ j,j < fs.length → (fs.getD j nd0).args.length ≤ 1000) : L.pcall 14 [.sl z1 fs.length (nds fs),.sl z2 fs.length (nds fs)] = some (.bool true) := by
 obtain ⟨G',h⟩ := yA1 (z1 := z1) (z2 := z2) hl ha fs.length 0 (by omega) []
 have h' : L.loop xJu xSZ ⟨xJv (.sl z1 fs.length (nds fs)) (.sl z2 fs.length (nds fs)) (.bool false) (.int .i64 0),[]⟩ = _ := h
 rw [yDN,a14,xAe]
 simp (disch := omega) only [WB,Nat.reduceAdd,Nat.reduceSub,↓reduceIte,xS0,h']
end Go.Abs.Events
