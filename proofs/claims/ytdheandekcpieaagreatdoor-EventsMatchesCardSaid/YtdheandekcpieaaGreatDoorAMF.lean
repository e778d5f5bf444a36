/- The reference's nodes; equal formulas; bytes copied and overwritten. -/
import Derived.Test.YtdheandekcpieaaGreatDoorAbsBun
import Derived.Test.YtdheandekcpieaaGreatDoorAME
namespace Go.Abs.Events
open Go Go.Abs
set_option maxHeartbeats 16000000
set_option linter.unusedSimpArgs false
set_option linter.unusedVariables false
section
variable {fs : List Nd} {z : Bool}
abbrev F15 (z : Bool) (fs : List Nd) (v : AV) (i : Nat) : List AV := xQ7 (.sl z fs.length (nds fs)) v (.int .i64 (i : Nat))
theorem yB6 (hl : fs.length ≤ 1000) : ∀ k i,i + k = fs.length → ∀ (G : Heap) (v : AV) (out : List Nd),out.length = i → Gn G v out → ∃ (G' : Heap) (v' : AV),
  L.loop xOe yAK ⟨F15 z fs v i,G⟩ = some (.exit 0,⟨F15 z fs v' fs.length,G'⟩) ∧ Gn G' v' (out ++ fs.drop i) := by
 intro k
 induction k with
 | zero =>
  intro i hi G v out ho hg
  obtain rfl : i = fs.length := by omega
  refine ⟨G,v,?_,by simpa using hg⟩
  rw [xZm]
  simp (maxSteps := 30000000) (disch := first|exact D5|fail) only [xTy,WB,↓reduceIte,xTz]
 | succ k ih =>
  intro i hi G v out ho hg
  have hlt : i < fs.length := by omega
  have hltI : ((i : Nat) : Int) < (fs.length : Nat) := by omega
  have em : fs.drop i = fs.getD i nd0 :: fs.drop (i + 1) := xB9 hlt
  rw [em]
  generalize hn : fs.getD i nd0 = n at *
  have hnv : xA2 n.z n.args = .sl n.z n.args.length (xAB n.args) := rfl
  rcases hg with ⟨rfl,rfl⟩ | ⟨o,rfl,go,hne⟩
  ·obtain ⟨G',v',e1,g1⟩ := ih (i + 1) (by omega) (G ++ [.cells false false (nds [n])]) (.own false G.length 0 1 6) [n] (by simp at ho ⊢; omega)
    (.inr ⟨G.length,rfl,by rw [List.getElem?_append_right (Nat.le_refl _),Nat.sub_self]; rfl,by simp⟩)
   refine ⟨G',v',?_,by simpa using g1⟩
   have hN : nds [n] = n.c := by simp [rows]
   rw [hN] at e1
   unfold Nd.c at e1
   rw [hnv] at e1
   rw [xZm]
   simp (maxSteps := 30000000) (disch := first|exact D5|fail) only [xTy,WB,hltI,↓reduceIte,xAs,Nd.c,hn,hnv,AV.cells,Nat.reduceAdd,Nat.reduceMul,AV.isCell,Nat.reduceBEq,xTz,e1]
  ·have lo := xA4 go
   obtain ⟨G',v',e1,g1⟩ := ih (i + 1) (by omega) (G.set o .dead ++ [.cells false false (nds (out ++ [n]))]) (.own false G.length 0 (out.length + 1) 6) (out ++ [n]) (by simp; omega)
    (.inr ⟨G.length,by simp,by rw [List.getElem?_append_right (by simp),List.length_set,Nat.sub_self]; rfl,by simp⟩)
   refine ⟨G',v',?_,by simpa using g1⟩
   have hN : nds out ++ n.c = nds (out ++ [n]) := by rw [← xUE]; simp [rows]
   unfold Nd.c at hN
   rw [hnv] at hN
   have hnl := xAb out
   have hnt := xFn out
   generalize nds (out ++ [n]) = L2 at *
   generalize nds out = L1 at *
   rw [ho] at *
   rw [xZm]
   simp (maxSteps := 30000000) (disch := first|exact D5|fail) only [xTy,WB,hltI,↓reduceIte,xAs,Nd.c,hn,hnv,AV.cells,Nat.reduceAdd,Nat.reduceMul,AV.isCell,go,Nat.reduceBEq,hnt,hN,xTz,e1]
theorem xKU (z : Bool) (fs : List Nd) (hl : fs.length ≤ 1000) : L.pcall 9 [.sl z fs.length (nds fs)] = some (.sl fs.isEmpty fs.length (nds fs)) := by
 obtain ⟨G',v',e1,g1⟩ := yB6 (z := z) hl fs.length 0 (by omega) [] (.sl true 0 []) [] rfl (.inl ⟨rfl,rfl⟩)
 rw [List.nil_append,List.drop_zero] at g1
 have e1' : L.loop xOe yAK ⟨xQ7 (.sl z fs.length (nds fs)) (.sl true 0 []) (.int .i64 0),[]⟩ = _ := e1
 rcases g1 with ⟨rfl,rfl⟩ | ⟨o,rfl,go,hne⟩
 ·show _ = some (AV.sl true 0 [])
  rw [a9p,a9,xAa]
  simp (disch := omega) only [WB,Nat.reduceSub,xTz]
  show xGn (xKC _ (xVs _ _ (xE8 0 (L.loop xOe yAK ⟨xQ7 (.sl z ([] : List Nd).length (nds [])) (.sl true 0 []) (.int .i64 0),[]⟩)))) = _
  rw [e1']
  simp (disch := omega) only [WB,↓reduceIte]
 ·have hnl := xAb fs
  have hnt := xFn fs
  have hfr := fun d H => xKZ d H fs
  have hem : fs.isEmpty = false := by
   cases fs with
   | nil => exact absurd rfl hne
   | cons _ _ => rfl
  rw [hem]
  generalize nds fs = L1 at *
  rw [a9p,a9,xAa]
  simp (disch := omega) only [WB,Nat.reduceSub,xTz,e1',↓reduceIte,xAR,go,hnt,hfr]
end
section
variable {z1 z2 : Bool} {l : List Int}
theorem yB7 (hl : l.length ≤ 1000) : ∀ k i,i + k = l.length → L.loop xJq xTI ⟨xJr (.sl z1 l.length (xAB l)) (.sl z2 l.length (xAB l)) (.bool false) (.int .i64 (i : Nat)),[]⟩ =
  some (.exit 0,⟨xJr (.sl z1 l.length (xAB l)) (.sl z2 l.length (xAB l)) (.bool false) (.int .i64 (l.length : Nat)),[]⟩) := by
 intro k
 induction k with
 | zero =>
  intro i hi
  obtain rfl : i = l.length := by omega
  rw [xXS]
  simp (maxSteps := 30000000) (disch := first|exact D5|fail) only [xPM,WB,↓reduceIte,xTJ]
 | succ k ih =>
  intro i hi
  have hlt : ((i : Nat) : Int) < (l.length : Nat) := by omega
  have ih' := ih (i + 1) (by omega)
  generalize hx : l.getD i 0 = x at *
  rw [xXS]
  simp (maxSteps := 30000000) (disch := first|exact D5|fail) only [xPM,WB,hlt,↓reduceIte,W2,hx,xAn,xTJ,ih']
theorem yB8 (hl : l.length ≤ 1000) : L.pcall 18 [.sl z1 l.length (xAB l),.sl z2 l.length (xAB l)] = some (.bool true) := by
 have h := yB7 (z1 := z1) (z2 := z2) hl l.length 0 (by omega)
 have h' : L.loop xJq xTI ⟨xJr (.sl z1 l.length (xAB l)) (.sl z2 l.length (xAB l)) (.bool false) (.int .i64 0),[]⟩ = _ := h
 rw [yFp,a18,xAa]
 simp (disch := omega) only [WB,Nat.reduceAdd,Nat.reduceSub,↓reduceIte,xTJ,h']
variable {fs : List Nd}
theorem yB9 (hl : fs.length ≤ 1000) (ha : ∀ j,j < fs.length → (fs.getD j nd0).args.length ≤ 1000) : ∀ k i,i + k = fs.length → ∀ G,∃ G',L.loop xJO xTZ ⟨xJP (.sl z1 fs.length (nds fs)) (.sl z2 fs.length (nds fs)) (.bool false) (.int .i64 (i : Nat)),G⟩ =
  some (.exit 0,⟨xJP (.sl z1 fs.length (nds fs)) (.sl z2 fs.length (nds fs)) (.bool false) (.int .i64 (fs.length : Nat)),G'⟩) := by
 intro k
 induction k with
 | zero =>
  intro i hi G
  obtain rfl : i = fs.length := by omega
  refine ⟨G,?_⟩
  rw [xXV]
  simp (maxSteps := 30000000) (disch := first|exact D5|fail) only [xPY,WB,↓reduceIte,xT0]
 | succ k ih =>
  intro i hi G
  have hlt0 : i < fs.length := by omega
  have hlt : ((i : Nat) : Int) < (fs.length : Nat) := by omega
  have hal := ha i hlt0
  obtain ⟨G',ih'⟩ := ih (i + 1) (by omega) (G ++ [.cells false false (fs.getD i nd0).c,.cells false false (fs.getD i nd0).c])
  refine ⟨G',?_⟩
  generalize hn : fs.getD i nd0 = n at *
  have h45 := yB8 (z1 := n.z) (z2 := n.z) hal
  have hnv : xA2 n.z n.args = .sl n.z n.args.length (xAB n.args) := rfl
  unfold Nd.c at ih'
  rw [hnv] at ih'
  rw [xXV]
  simp (maxSteps := 30000000) (disch := first|exact D5|fail) only [xPY,WB,hlt,↓reduceIte,xAs,Nd.c,hn,hnv,AV.cells,AV.isCell,xAn,Nat.reduceAdd,xBq,xBG,xH6,xUQ,xXm,h45,xAA,xAm,xT0,ih']
end
theorem yEn {z1 z2 : Bool} {fs : List Nd} (hl : fs.length ≤ 1000) (ha : ∀ j,j < fs.length → (fs.getD j nd0).args.length ≤ 1000) : L.pcall 39 [.sl z1 fs.length (nds fs),.sl z2 fs.length (nds fs)] = some (.bool true) := by
 obtain ⟨G',h⟩ := yB9 (z1 := z1) (z2 := z2) hl ha fs.length 0 (by omega) []
 have h' : L.loop xJO xTZ ⟨xJP (.sl z1 fs.length (nds fs)) (.sl z2 fs.length (nds fs)) (.bool false) (.int .i64 0),[]⟩ = _ := h
 rw [yFu,a39,xAa]
 simp (disch := omega) only [WB,Nat.reduceAdd,Nat.reduceSub,↓reduceIte,xT0,h']
theorem xZG {z1 z2 : Bool} {fs : List Nd} (hl : fs.length ≤ 1000) (ha : ∀ j,j < fs.length → (fs.getD j nd0).args.length ≤ 1000) : L.pcall 16 [.sl z1 fs.length (nds fs),.sl z2 fs.length (nds fs)] = some (.bool true) := by
 have h1 := xKU z1 fs hl
 have h2 := xKU z2 fs hl
 have h3 := yEn (z1 := fs.isEmpty) (z2 := fs.isEmpty) hl ha
 rw [yFo,a16,xAa]
 simp (disch := omega) only [WB,Nat.reduceAdd,Nat.reduceSub,h1,xAA,xAm,↓reduceIte,h2,h3]
theorem xWM (op : Nat) : L.pcall 62 [.int .u8 (op : Nat)] = some (.int .i64 (chn op : Nat)) := by
 by_cases h : op = 0 ∨ 10 < op
 ·have hc : chn op = 0 := by
   unfold chn
   rw [if_neg (by omega),if_neg (by omega)]
  have n4 : ¬ (((op : Nat) : Int) = 4) := by omega
  have n5 : ¬ (((op : Nat) : Int) = 5) := by omega
  have n6 : ¬ (((op : Nat) : Int) = 6) := by omega
  have n7 : ¬ (((op : Nat) : Int) = 7) := by omega
  have n8 : ¬ (((op : Nat) : Int) = 8) := by omega
  have n9 : ¬ (((op : Nat) : Int) = 9) := by omega
  have n10 : ¬ (((op : Nat) : Int) = 10) := by omega
  rw [hc,yE7,a62,xAa]
  simp (disch := omega) only [WB,Nat.reduceSub,n4,↓reduceIte,n7,n8,n10,n5,n6,n9]
  try rfl
 have : op = 1 ∨ op = 2 ∨ op = 3 ∨ op = 4 ∨ op = 5 ∨ op = 6 ∨ op = 7 ∨ op = 8 ∨ op = 9 ∨ op = 10 := by omega
 rcases this with rfl | rfl | rfl | rfl | rfl | rfl | rfl | rfl | rfl | rfl <;> (rw [yE7,a62,xAa]; simp (disch := omega) only [WB,Nat.reduceSub,Int.reduceEq,↓reduceIte]; try rfl)
def Gi (G : Heap) (v : AV) (l : List Nat) : Prop := (l = [] ∧ v = .sl true 0 []) ∨ ∃ o,v = .own false o 0 l.length 1 ∧ G[o]? = some (.cells false false (xAU l)) ∧ l ≠ []
section
variable {fs : List Nd} {z : Bool} {n : Nd}
abbrev F52 (z : Bool) (fs : List Nd) (v : AV) (i : Nat) : List AV := xMT (.sl z fs.length (nds fs)) v (.int .i64 (i : Nat))
theorem xUs (hl : fs.length ≤ 64) (hlt : 0 < fs.length) (hn : fs.getD 0 nd0 = n) (G : Heap) :
  L.loop xEp xKE ⟨F52 z fs (.sl true 0 []) 0,G⟩ = L.loop xEp xKE ⟨F52 z fs (.own false (G.length + 1) 0 1 1) 1,G ++ [.cells false false n.c,.cells false false (xAU [szN n []])]⟩ := by
 have hltI : (0 : Int) < (fs.length : Nat) := by omega
 have h6 : List.take 6 (nds fs) = n.c := by
  have := xAs hlt
  rw [hn] at this
  simpa using this
 unfold Nd.c at h6
 have h79 := xWM n.op
 have hnv : xA2 n.z n.args = .sl n.z n.args.length (xAB n.args) := rfl
 have hc := xAG n.op
 unfold szN
 unfold Nd.c
 rw [hnv] at h6 ⊢
 generalize chn n.op = c at *
 rcases hc with rfl | rfl | rfl
 ·simp only [if_true]
  by_cases q1 : n.a = 0
  ·have e1 := eq_true q1
   by_cases q2 : n.b = 0
   ·have e2 := eq_true q2
    simp only [e1,e2,and_self,if_true]
    rw [xBA]
    simp (maxSteps := 30000000) (disch := first|exact D5|fail) only [xBo,WB,hltI,↓reduceIte,Nat.reduceMul,h6,AV.cells,AV.isCell,Nat.reduceAdd,xBq,xBG,h79,xAA,xAm,e1,e2,Nat.reduceBEq,xBp]
    rfl
   ·simp only [q2,and_false,if_false]
    rw [xBA]
    simp (maxSteps := 30000000) (disch := first|exact D5|fail) only [xBo,WB,hltI,↓reduceIte,Nat.reduceMul,h6,AV.cells,AV.isCell,Nat.reduceAdd,xBq,xBG,h79,xAA,xAm,e1,q2,Nat.reduceBEq,xBp]
    rfl
  ·simp only [q1,false_and,if_false]
   rw [xBA]
   simp (maxSteps := 30000000) (disch := first|exact D5|fail) only [xBo,WB,hltI,↓reduceIte,Nat.reduceMul,h6,AV.cells,AV.isCell,Nat.reduceAdd,xBq,xBG,h79,xAA,xAm,q1,Nat.reduceBEq,xBp]
   rfl
 ·simp only [Nat.reduceEqDiff,if_false,List.length_nil,true_or,if_true,Nat.succ_ne_zero,Nat.one_ne_zero]
  rw [xBA]
  simp (maxSteps := 30000000) (disch := first|exact D5|fail) only [xBo,WB,hltI,↓reduceIte,Nat.reduceMul,h6,AV.cells,AV.isCell,Nat.reduceAdd,xBq,xBG,h79,xAA,xAm,Int.reduceEq,Int.reduceLE,Nat.reduceBEq,xBp]
  rfl
 ·simp only [Nat.reduceEqDiff,if_false,List.length_nil,true_or,if_true,Nat.succ_ne_zero,Nat.one_ne_zero]
  rw [xBA]
  simp (maxSteps := 30000000) (disch := first|exact D5|fail) only [xBo,WB,hltI,↓reduceIte,Nat.reduceMul,h6,AV.cells,AV.isCell,Nat.reduceAdd,xBq,xBG,h79,xAA,xAm,Int.reduceEq,Int.reduceLE,xAn,Nat.reduceBEq,xBp]
  rfl
theorem xUt {os : List Nat} {i o : Nat} {G : Heap} (hl : fs.length ≤ 64) (hi : os.length = i) (h1 : 1 ≤ i) (hlt : i < fs.length) (hn : fs.getD i nd0 = n) (hI : ∀ k,k < os.length → os.getD k 0 ≤ k + 1) (go : G[o]? = some (.cells false false (xAU os))) :
  L.loop xEp xKE ⟨F52 z fs (.own false o 0 i 1) i,G⟩ = L.loop xEp xKE ⟨F52 z fs (.own false (G.length + 1) 0 (i + 1) 1) (i + 1),G.set o .dead ++ [.cells false false n.c,.cells false false (xAU (os ++ [szN n os]))]⟩ := by
 subst hi
 generalize hi : os.length = i at *
 have hltI : ((i : Nat) : Int) < (fs.length : Nat) := by omega
 have h79 := xWM n.op
 have hnv : xA2 n.z n.args = .sl n.z n.args.length (xAB n.args) := rfl
 have hc := xAG n.op
 have lo := xA4 go
 have hos := xBK os
 have htk : List.take i (xAU os) = xAU os := List.take_of_length_le (by omega)
 have happ : ∀ v : Nat,xAU os ++ [AV.int .i64 (v : Nat)] = xAU (os ++ [v]) := fun v => by simp [xAU]
 have g1 : (1 : Int) ≤ (i : Nat) := by omega
 have hm1 : ((i : Nat) : Int) - 1 = ((i - 1 : Nat) : Int) := by omega
 have olv := hI (i - 1) (by omega)
 unfold szN
 rw [hi]
 unfold Nd.c
 rw [hnv]
 generalize chn n.op = c at *
 rcases hc with rfl | rfl | rfl
 ·simp only [if_true]
  by_cases q1 : n.a = 0
  ·have e1 := eq_true q1
   by_cases q2 : n.b = 0
   ·have e2 := eq_true q2
    simp only [e1,e2,and_self,if_true]
    have happ : xAU os ++ [AV.int .i64 1] = xAU (os ++ [1]) := happ 1
    generalize xAU (os ++ [1]) = L2 at *
    rw [xBA]
    simp (maxSteps := 30000000) (disch := first|exact D5|fail) only [xBo,WB,hltI,↓reduceIte,xAs,Nd.c,hn,hnv,AV.cells,AV.isCell,Nat.reduceAdd,xBq,xBG,h79,xAA,xAm,e1,e2,xAS,go,Nat.reduceBEq,xDp,htk,happ,xBp]
   ·simp only [q2,and_false,if_false]
    have happ : xAU os ++ [AV.int .i64 0] = xAU (os ++ [0]) := happ 0
    generalize xAU (os ++ [0]) = L2 at *
    rw [xBA]
    simp (maxSteps := 30000000) (disch := first|exact D5|fail) only [xBo,WB,hltI,↓reduceIte,xAs,Nd.c,hn,hnv,AV.cells,AV.isCell,Nat.reduceAdd,xBq,xBG,h79,xAA,xAm,e1,q2,xAS,go,Nat.reduceBEq,xDp,htk,happ,xBp]
  ·simp only [q1,false_and,if_false]
   have happ : xAU os ++ [AV.int .i64 0] = xAU (os ++ [0]) := happ 0
   generalize xAU (os ++ [0]) = L2 at *
   rw [xBA]
   simp (maxSteps := 30000000) (disch := first|exact D5|fail) only [xBo,WB,hltI,↓reduceIte,xAs,Nd.c,hn,hnv,AV.cells,AV.isCell,Nat.reduceAdd,xBq,xBG,h79,xAA,xAm,q1,xAS,go,Nat.reduceBEq,xDp,htk,happ,xBp]
 ·rw [if_neg (by omega)]
  by_cases hv0 : os.getD (i - 1) 0 = 0
  ·rw [if_pos (.inr hv0)]
   by_cases q1 : n.a = ((i - 1 : Nat) : Int)
   ·have e1 := eq_true q1
    by_cases q2 : n.b = 0
    ·have e2 := eq_true q2
     have happ : xAU os ++ [AV.int .i64 0] = xAU (os ++ [0]) := happ 0
     generalize xAU (os ++ [0]) = L2 at *
     rw [xBA]
     simp (maxSteps := 30000000) (disch := first|exact D5|fail) only [xBo,WB,hltI,↓reduceIte,xAs,Nd.c,hn,hnv,AV.cells,AV.isCell,Nat.reduceAdd,xBq,xBG,h79,xAA,xAm,Int.reduceEq,g1,hm1,e1,e2,xAS,go,hv0,Nat.reduceBEq,xDp,htk,happ,xBp]
    ·skip
     have happ : xAU os ++ [AV.int .i64 0] = xAU (os ++ [0]) := happ 0
     generalize xAU (os ++ [0]) = L2 at *
     rw [xBA]
     simp (maxSteps := 30000000) (disch := first|exact D5|fail) only [xBo,WB,hltI,↓reduceIte,xAs,Nd.c,hn,hnv,AV.cells,AV.isCell,Nat.reduceAdd,xBq,xBG,h79,xAA,xAm,Int.reduceEq,g1,hm1,e1,q2,xAS,go,Nat.reduceBEq,xDp,htk,happ,xBp]
   ·skip
    have happ : xAU os ++ [AV.int .i64 0] = xAU (os ++ [0]) := happ 0
    generalize xAU (os ++ [0]) = L2 at *
    rw [xBA]
    simp (maxSteps := 30000000) (disch := first|exact D5|fail) only [xBo,WB,hltI,↓reduceIte,xAs,Nd.c,hn,hnv,AV.cells,AV.isCell,Nat.reduceAdd,xBq,xBG,h79,xAA,xAm,Int.reduceEq,g1,hm1,q1,xAS,go,Nat.reduceBEq,xDp,htk,happ,xBp]
  rw [if_neg (by omega),if_pos rfl]
  generalize hv : os.getD (i - 1) 0 = v at *
  have gv : (0 : Int) < (v : Nat) := by omega
  by_cases q1 : n.a = ((i - 1 : Nat) : Int)
  ·have e1 := eq_true q1
   by_cases q2 : n.b = 0
   ·have e2 := eq_true q2
    rw [if_pos ⟨q1,q2⟩]
    have happ : xAU os ++ [AV.int .i64 (1 + ((v : Nat) : Int))] = xAU (os ++ [1 + v]) := by rw [show (1 + ((v : Nat) : Int)) = ((1 + v : Nat) : Int) by omega]; exact happ _
    generalize xAU (os ++ [1 + v]) = L2 at *
    rw [xBA]
    simp (maxSteps := 30000000) (disch := first|exact D5|fail) only [xBo,WB,hltI,↓reduceIte,xAs,Nd.c,hn,hnv,AV.cells,AV.isCell,Nat.reduceAdd,xBq,xBG,h79,xAA,xAm,Int.reduceEq,g1,hm1,e1,e2,xAS,go,hv,gv,Nat.reduceBEq,xDp,htk,happ,xBp]
   ·rw [if_neg fun q => q2 q.2]
    have happ : xAU os ++ [AV.int .i64 0] = xAU (os ++ [0]) := happ 0
    generalize xAU (os ++ [0]) = L2 at *
    rw [xBA]
    simp (maxSteps := 30000000) (disch := first|exact D5|fail) only [xBo,WB,hltI,↓reduceIte,xAs,Nd.c,hn,hnv,AV.cells,AV.isCell,Nat.reduceAdd,xBq,xBG,h79,xAA,xAm,Int.reduceEq,g1,hm1,e1,q2,xAS,go,Nat.reduceBEq,xDp,htk,happ,xBp]
  ·rw [if_neg fun q => q1 q.1]
   have happ : xAU os ++ [AV.int .i64 0] = xAU (os ++ [0]) := happ 0
   generalize xAU (os ++ [0]) = L2 at *
   rw [xBA]
   simp (maxSteps := 30000000) (disch := first|exact D5|fail) only [xBo,WB,hltI,↓reduceIte,xAs,Nd.c,hn,hnv,AV.cells,AV.isCell,Nat.reduceAdd,xBq,xBG,h79,xAA,xAm,Int.reduceEq,g1,hm1,q1,xAS,go,Nat.reduceBEq,xDp,htk,happ,xBp]
 ·rw [if_neg (by omega)]
  by_cases g2 : 2 ≤ i
  case neg =>
   have g2' : ¬ (2 : Int) ≤ (i : Nat) := by omega
   have hz : (if i = 0 ∨ os.getD (i - 1) 0 = 0 then 0 else if 2 = 1 then (if n.a = ((i - 1 : Nat) : Int) ∧ n.b = 0 then 1 + os.getD (i - 1) 0 else 0)
     else if i - os.getD (i - 1) 0 = 0 ∨ os.getD (i - os.getD (i - 1) 0 - 1) 0 = 0 then 0
     else if n.a = ((i - os.getD (i - 1) 0 - 1 : Nat) : Int) ∧ n.b = ((i - 1 : Nat) : Int) then 1 + os.getD (i - 1) 0 + os.getD (i - os.getD (i - 1) 0 - 1) 0 else 0) = 0 := by
    split
    ·rfl
    rw [if_neg (by omega),if_pos (by omega)]
   rw [hz]
   have happ : xAU os ++ [AV.int .i64 0] = xAU (os ++ [0]) := happ 0
   generalize xAU (os ++ [0]) = L2 at *
   rw [xBA]
   simp (maxSteps := 30000000) (disch := first|exact D5|fail) only [xBo,WB,hltI,↓reduceIte,xAs,Nd.c,hn,hnv,AV.cells,AV.isCell,Nat.reduceAdd,xBq,xBG,h79,xAA,xAm,Int.reduceEq,g2',xAn,xAS,go,Nat.reduceBEq,xDp,htk,happ,xBp]
  have g2' : (2 : Int) ≤ (i : Nat) := by omega
  by_cases q2 : n.b = ((i - 1 : Nat) : Int)
  case neg =>
   have hz : (if i = 0 ∨ os.getD (i - 1) 0 = 0 then 0 else if 2 = 1 then (if n.a = ((i - 1 : Nat) : Int) ∧ n.b = 0 then 1 + os.getD (i - 1) 0 else 0)
     else if i - os.getD (i - 1) 0 = 0 ∨ os.getD (i - os.getD (i - 1) 0 - 1) 0 = 0 then 0
     else if n.a = ((i - os.getD (i - 1) 0 - 1 : Nat) : Int) ∧ n.b = ((i - 1 : Nat) : Int) then 1 + os.getD (i - 1) 0 + os.getD (i - os.getD (i - 1) 0 - 1) 0 else 0) = 0 := by
    split
    ·rfl
    rw [if_neg (by omega)]
    split
    ·rfl
    rw [if_neg fun q => q2 q.2]
   rw [hz]
   have happ : xAU os ++ [AV.int .i64 0] = xAU (os ++ [0]) := happ 0
   generalize xAU (os ++ [0]) = L2 at *
   rw [xBA]
   simp (maxSteps := 30000000) (disch := first|exact D5|fail) only [xBo,WB,hltI,↓reduceIte,xAs,Nd.c,hn,hnv,AV.cells,AV.isCell,Nat.reduceAdd,xBq,xBG,h79,xAA,xAm,Int.reduceEq,g2',hm1,q2,xAn,xAS,go,Nat.reduceBEq,xDp,htk,happ,xBp]
  have e2 := eq_true q2
  by_cases hv0 : os.getD (i - 1) 0 = 0
  ·rw [if_pos (.inr hv0)]
   have happ : xAU os ++ [AV.int .i64 0] = xAU (os ++ [0]) := happ 0
   generalize xAU (os ++ [0]) = L2 at *
   rw [xBA]
   simp (maxSteps := 30000000) (disch := first|exact D5|fail) only [xBo,WB,hltI,↓reduceIte,xAs,Nd.c,hn,hnv,AV.cells,AV.isCell,Nat.reduceAdd,xBq,xBG,h79,xAA,xAm,Int.reduceEq,g2',hm1,e2,xAS,go,hv0,xAn,Nat.reduceBEq,xDp,htk,happ,xBp]
  rw [if_neg (by omega),if_neg (by omega)]
  generalize hv : os.getD (i - 1) 0 = v at *
  have gv : (0 : Int) < (v : Nat) := by omega
  by_cases hf : i - v = 0
  ·rw [if_pos (.inl hf)]
   by_cases q1 : n.a = ((i - 1 : Nat) : Int) - (v : Nat)
   ·have e1 := eq_true q1
    have q3 : ¬ (0 : Int) ≤ n.a := by omega
    have happ : xAU os ++ [AV.int .i64 0] = xAU (os ++ [0]) := happ 0
    generalize xAU (os ++ [0]) = L2 at *
    rw [xBA]
    simp (maxSteps := 30000000) (disch := first|exact D5|fail) only [xBo,WB,hltI,↓reduceIte,xAs,Nd.c,hn,hnv,AV.cells,AV.isCell,Nat.reduceAdd,xBq,xBG,h79,xAA,xAm,Int.reduceEq,g2',hm1,e2,xAS,go,hv,gv,e1,q3,xAn,Nat.reduceBEq,xDp,htk,happ,xBp]
   ·skip
    have happ : xAU os ++ [AV.int .i64 0] = xAU (os ++ [0]) := happ 0
    generalize xAU (os ++ [0]) = L2 at *
    rw [xBA]
    simp (maxSteps := 30000000) (disch := first|exact D5|fail) only [xBo,WB,hltI,↓reduceIte,xAs,Nd.c,hn,hnv,AV.cells,AV.isCell,Nat.reduceAdd,xBq,xBG,h79,xAA,xAm,Int.reduceEq,g2',hm1,e2,xAS,go,hv,gv,q1,xAn,Nat.reduceBEq,xDp,htk,happ,xBp]
  have hsub : ((i - 1 : Nat) : Int) - (v : Nat) = ((i - v - 1 : Nat) : Int) := by omega
  have olw := hI (i - v - 1) (by omega)
  by_cases q1 : n.a = ((i - v - 1 : Nat) : Int)
  case neg =>
   have hz : (if i - v = 0 ∨ os.getD (i - v - 1) 0 = 0 then 0
     else if n.a = ((i - v - 1 : Nat) : Int) ∧ n.b = ((i - 1 : Nat) : Int) then 1 + v + os.getD (i - v - 1) 0 else 0) = 0 := by
    split
    ·rfl
    rw [if_neg fun q => q1 q.1]
   rw [hz]
   have happ : xAU os ++ [AV.int .i64 0] = xAU (os ++ [0]) := happ 0
   generalize xAU (os ++ [0]) = L2 at *
   rw [xBA]
   simp (maxSteps := 30000000) (disch := first|exact D5|fail) only [xBo,WB,hltI,↓reduceIte,xAs,Nd.c,hn,hnv,AV.cells,AV.isCell,Nat.reduceAdd,xBq,xBG,h79,xAA,xAm,Int.reduceEq,g2',hm1,e2,xAS,go,hv,gv,hsub,q1,xAn,Nat.reduceBEq,xDp,htk,happ,xBp]
  obtain ⟨op,name,za,args,x,a,b⟩ := n
  simp only at *
  subst q1
  have q3 : (0 : Int) ≤ ((i - v - 1 : Nat) : Int) := by omega
  by_cases hw0 : os.getD (i - v - 1) 0 = 0
  ·rw [if_pos (.inr hw0)]
   have happ : xAU os ++ [AV.int .i64 0] = xAU (os ++ [0]) := happ 0
   generalize xAU (os ++ [0]) = L2 at *
   rw [xBA]
   simp (maxSteps := 30000000) (disch := first|exact D5|fail) only [xBo,WB,hltI,↓reduceIte,xAs,Nd.c,hn,hnv,AV.cells,AV.isCell,Nat.reduceAdd,xBq,xBG,h79,xAA,xAm,Int.reduceEq,g2',hm1,e2,xAS,go,hv,gv,hsub,q3,xAn,hw0,Nat.reduceBEq,xDp,htk,happ,xBp]
  rw [if_neg (by omega),if_pos ⟨rfl,q2⟩]
  generalize hw : os.getD (i - v - 1) 0 = w at *
  have gw : (0 : Int) < (w : Nat) := by omega
  have happ : xAU os ++ [AV.int .i64 (1 + ((v : Nat) : Int) + ((w : Nat) : Int))] = xAU (os ++ [1 + v + w]) := by rw [show (1 + ((v : Nat) : Int) + ((w : Nat) : Int)) = ((1 + v + w : Nat) : Int) by omega]; exact happ _
  generalize xAU (os ++ [1 + v + w]) = L2 at *
  rw [xBA]
  simp (maxSteps := 30000000) (disch := first|exact D5|fail) only [xBo,WB,hltI,↓reduceIte,xAs,Nd.c,hn,hnv,AV.cells,AV.isCell,Nat.reduceAdd,xBq,xBG,h79,xAA,xAm,Int.reduceEq,g2',hm1,e2,xAS,go,hv,gv,hsub,q3,xAn,hw,gw,Nat.reduceBEq,xDp,htk,happ,xBp]
end
section
variable {fs : List Nd} {z : Bool}
theorem yCa (hl : fs.length ≤ 64) : ∀ (rest : List Nd) (i : Nat) (os : List Nat) (G : Heap) (v : AV),fs.drop i = rest → os.length = i → i ≤ fs.length → (∀ k,k < os.length → os.getD k 0 ≤ k + 1) → Gi G v os →
  ∃ G' v',L.loop xEp xKE ⟨F52 z fs v i,G⟩ = some (.exit 0,⟨F52 z fs v' fs.length,G'⟩) ∧ Gi G' v' (szs rest os) := by
 intro rest
 induction rest with
 | nil =>
  intro i os G v hd hi hle hI hg
  obtain rfl : i = fs.length := by
   have := congrArg List.length hd
   simp at this; omega
  refine ⟨G,v,?_,hg⟩
  rw [xBA]
  simp (disch := omega) only [xBo,WB,↓reduceIte,xBp]
 | cons n rest ih =>
  intro i os G v hd hi hle hI hg
  have hlt : i < fs.length := by
   have := congrArg List.length hd
   simp at this; omega
  have hd' : fs.drop (i + 1) = rest := by rw [← List.drop_drop,hd]; rfl
  have hn : fs.getD i nd0 = n := by
   rw [List.drop_eq_getElem_cons hlt] at hd
   rw [List.getD_eq_getElem?_getD,List.getElem?_eq_getElem hlt]
   exact (List.cons.inj hd).1
  rcases hg with ⟨rfl,rfl⟩ | ⟨o,rfl,go,hne⟩
  ·obtain rfl : i = 0 := by simpa using hi.symm
   obtain ⟨G',v',e1,g1⟩ := ih 1 [szN n []] (G ++ [.cells false false n.c,.cells false false (xAU [szN n []])]) (.own false (G.length + 1) 0 1 1) hd' rfl hlt (by simpa using xK2 (n := n) hI)
    (.inr ⟨G.length + 1,rfl,by rw [List.getElem?_append_right (by omega)]; simp,by simp⟩)
   exact ⟨G',v',(xUs hl hlt hn G).trans e1,g1⟩
  ·have h1 : 1 ≤ i := by
    rw [← hi]
    cases os with
    | nil => exact absurd rfl hne
    | cons _ _ => simp
   obtain ⟨G',v',e1,g1⟩ := ih (i + 1) (os ++ [szN n os]) (G.set o .dead ++ [.cells false false n.c,.cells false false (xAU (os ++ [szN n os]))]) (.own false (G.length + 1) 0 (i + 1) 1) hd' (by simp [hi]) hlt (xK2 hI)
    (.inr ⟨G.length + 1,by simp [hi],by rw [List.getElem?_append_right (by simp)]; simp,by simp⟩)
   rw [hi]
   exact ⟨G',v',(xUt hl hi h1 hlt hn hI go).trans e1,g1⟩
theorem xZH (hl : fs.length ≤ 64) : L.pcall 30 [.sl z fs.length (nds fs)] = some (.sl fs.isEmpty fs.length (xAU (szs fs []))) := by
 obtain ⟨G',v',e1,g1⟩ := yCa (z := z) hl fs 0 [] [] (.sl true 0 []) rfl rfl (by omega) (by simp) (.inl ⟨rfl,rfl⟩)
 have e1' : L.loop xEp xKE ⟨xMT (.sl z fs.length (nds fs)) (.sl true 0 []) (.int .i64 0),[]⟩ = _ := e1
 have hsl := xDS fs []
 simp only [List.length_nil,Nat.zero_add] at hsl
 generalize szs fs [] = os at *
 rcases g1 with ⟨rfl,rfl⟩ | ⟨o,rfl,go,hne⟩
 ·have hr : AV.sl fs.isEmpty fs.length (xAU []) = .sl true 0 [] := by
   have : fs = [] := List.eq_nil_of_length_eq_zero (by simpa using hsl.symm)
   subst this; rfl
  rw [hr]
  rw [yE4,a30,xAa]
  simp (disch := omega) only [WB,Nat.reduceSub,xBp,e1',↓reduceIte]
 ·have hem : fs.isEmpty = false := by
   cases fs with
   | nil => simp at hsl; exact absurd hsl hne
   | cons _ _ => rfl
  rw [hem]
  have hos := xBK os
  have htk : List.take os.length (xAU os) = xAU os := List.take_of_length_le (by omega)
  have hfr := fun d H => xGG d H os
  rw [hsl] at *
  generalize xAU os = L1 at *
  rw [yE4,a30,xAa]
  simp (disch := omega) only [WB,Nat.reduceSub,xBp,e1',↓reduceIte,xAR,go,htk,hfr]
def bdA (bd : Nat) : List AV := [.bool (bd.testBit 0),.bool (bd.testBit 1),.bool (bd.testBit 2)]
theorem yCb (bd : Nat) {k : Nat} (h : k < 3) : List.take 1 (List.drop k (bdA bd)) = [.bool (bd.testBit k)] := by
 have : k = 0 ∨ k = 1 ∨ k = 2 := by omega
 rcases this with rfl | rfl | rfl <;> rfl
theorem xZI {bd : Nat} (hb : bd < 8) {k : Nat} (h : k < 3) : List.take k (bdA bd) ++ (.bool true :: List.drop (k + 1) (bdA bd)) = bdA (bd ||| 2 ^ k) := by
 have hk : k = 0 ∨ k = 1 ∨ k = 2 := by omega
 have hb' : bd = 0 ∨ bd = 1 ∨ bd = 2 ∨ bd = 3 ∨ bd = 4 ∨ bd = 5 ∨ bd = 6 ∨ bd = 7 := by omega
 rcases hk with rfl | rfl | rfl <;> rcases hb' with rfl | rfl | rfl | rfl | rfl | rfl | rfl | rfl <;> rfl
variable {bd p b : Nat} {G : Heap} {s0 : AV} {n : Nd}
theorem yCc (hl : n.args.length ≤ 100) (har : ∀ t ∈ n.args,0 ≤ t ∧ t ≤ 10) (gb : G[b]? = some (.cells false false (bdA bd))) (gp : G[p]? = some (.cells false false n.c)) : ∀ k i,i + k = n.args.length → ∃ i' : Nat,
  L.loop xJC xTO ⟨xHH s0 (.ptr b 0) (.bool false) (.ptr p 0) (.int .i64 (i : Nat)),G⟩ =
   some (if xRS bd (n.args.drop i) = true then (.ret,⟨xHH s0 (.ptr b 0) (.bool true) (.ptr p 0) (.int .i64 (i' : Nat)),G⟩)
    else (.exit 0,⟨xHH s0 (.ptr b 0) (.bool false) (.ptr p 0) (.int .i64 (i' : Nat)),G⟩)) := by
 have hnv : xA2 n.z n.args = .sl n.z n.args.length (xAB n.args) := rfl
 unfold Nd.c at gp
 rw [hnv] at gp
 intro k
 induction k with
 | zero =>
  intro i hi
  obtain rfl : i = n.args.length := by omega
  refine ⟨n.args.length,?_⟩
  rw [if_neg (by rw [List.drop_length]; simp [xRS]),xPR]
  simp (maxSteps := 30000000) (disch := first|exact D5|fail) only [xJB,WB,gp,↓reduceIte,xDo]
 | succ k ih =>
  intro i hi'
  have hlt : (i : Int) < (n.args.length : Nat) := by omega
  have hl1 : i < n.args.length := by omega
  obtain ⟨i',ih'⟩ := ih (i + 1) (by omega)
  have em : xRS bd (n.args.drop i) = ((decide (8 ≤ n.args.getD i 0) && !(bd.testBit ((n.args.getD i 0).toNat - 8))) || xRS bd (n.args.drop (i + 1))) := by
   rw [List.drop_eq_getElem_cons hl1,List.getD_eq_getElem?_getD,List.getElem?_eq_getElem hl1]
   rfl
  have hm : n.args.getD i 0 ∈ n.args := by rw [List.getD_eq_getElem?_getD,List.getElem?_eq_getElem hl1]; exact List.getElem_mem hl1
  have hr := har _ hm
  rw [em]
  generalize hN : n.args.getD i 0 = t at *
  by_cases c1 : 8 ≤ t
  ·obtain ⟨k8,hk8⟩ : ∃ k8 : Nat,t = ((k8 + 8 : Nat) : Int) := ⟨(t - 8).toNat,by omega⟩
   subst hk8
   have hs : (((k8 + 8 : Nat) : Int) - 8) = ((k8 : Nat) : Int) := by omega
   have hk3 : k8 < 3 := by omega
   have hat := yCb bd hk3
   have hto : ((((k8 + 8 : Nat) : Int)).toNat - 8) = k8 := by omega
   have hbl : (bdA bd).length = 3 := rfl
   have hk3i : ((k8 : Nat) : Int) < 3 := by omega
   rw [hto]
   cases hbit : bd.testBit k8 with
   | true =>
    rw [hbit] at hat
    simp only [c1,decide_true,Bool.true_and,Bool.not_true,Bool.false_or]
    refine ⟨i',?_⟩
    generalize bdA bd = BD at *
    rw [xPR]
    simp (maxSteps := 30000000) (disch := first|exact D5|fail) only [xJB,WB,gp,hlt,↓reduceIte,W2,hN,c1,hs,WA,gb,hat,xDo,ih']
   | false =>
    rw [hbit] at hat
    simp only [c1,decide_true,Bool.true_and,Bool.not_false,Bool.true_or,if_true]
    refine ⟨i,?_⟩
    generalize bdA bd = BD at *
    rw [xPR]
    simp (maxSteps := 30000000) (disch := first|exact D5|fail) only [xJB,WB,gp,hlt,↓reduceIte,W2,hN,c1,hs,WA,gb,hat,xDo]
  ·simp only [c1,decide_false,Bool.false_and,Bool.false_or]
   refine ⟨i',?_⟩
   rw [xPR]
   simp (maxSteps := 30000000) (disch := first|exact D5|fail) only [xJB,WB,gp,hlt,↓reduceIte,W2,hN,c1,xDo,ih']
end
theorem xUu (d : Nat) (H : Heap) (bd : Nat) : (bdA bd).mapM (frz d H) = some (bdA bd) := by simp [bdA,List.mapM_cons,xFa]
theorem xUv (d : Nat) (H : Heap) (bd : Nat) : (bdA bd).flatMap (bor d H) = [] := by simp [bdA,xGF]
section
variable {fz : Bool} {fs : List Nd}
theorem yCd (hlen : fs.length ≤ 64) (hV : ∀ j,j < fs.length → Vn j (fs.getD j nd0)) : ∀ (k i bd : Nat),i < k → i < fs.length → bd < 8 →
  L.pcall 32 [.sl fz fs.length (nds fs),.int .i64 (i : Nat),.agg (bdA bd)] = some (.bool (opn fs k i bd)) := by
 intro k
 induction k with
 | zero => intro i bd h; omega
 | succ k ih =>
  intro i bd hik hi hbd
  have hv := hV i hi
  rw [opn]
  generalize hn : fs.getD i nd0 = n at *
  obtain ⟨i',e1⟩ := yCc (s0 := .sl fz fs.length (nds fs)) (b := 0) (p := 1) (n := n) (bd := bd) (G := [.cells false false (bdA bd),.cells false false n.c]) hv.al hv.ar rfl rfl n.args.length 0 (by omega)
  rw [List.drop_zero] at e1
  have h79 := xWM n.op
  have hnv : xA2 n.z n.args = .sl n.z n.args.length (xAB n.args) := rfl
  unfold Nd.c at e1
  rw [hnv] at e1
  have e1' : L.loop xJC xTO ⟨xHH (.sl fz fs.length (nds fs)) (.ptr 0 0) (.bool false) (.ptr 1 0) (.int .i64 0),[.cells false false (bdA bd),.cells false false [.int .u8 (n.op : Nat),.int .i64 n.name,.sl n.z n.args.length (xAB n.args),.int .i64 n.x,.int .i64 n.a,.int .i64 n.b]]⟩ = _ := e1
  have hbl3 : (bdA bd).length = 3 := rfl
  have hbt3 : List.take 3 (bdA bd) = bdA bd := rfl
  have hcl : (bdA bd).all AV.isCell = true := rfl
  have hf3 := fun d H => xUu d H bd
  have hb3 := fun d H => xUv d H bd
  cases hA : xRS bd n.args with
  | true =>
   rw [hA] at e1'
   simp only [if_true,Bool.true_or] at e1' ⊢
   generalize bdA bd = BD at *
   rw [xX0,a32,xAa]
   simp (maxSteps := 30000000) (disch := first|exact D5|fail) only [WB,Nat.reduceAdd,Nat.reduceSub,AV.cells,hcl,↓reduceIte,xAs,Nd.c,hn,hnv,AV.isCell,xDo,e1']
  | false =>
   rw [hA] at e1'
   simp only [Bool.false_eq_true,if_false,Bool.false_or] at e1' ⊢
   have hbl := xX9 hv hbd
   have hrec : ∀ j : Nat,j < i → L.pcall 32 [.sl fz fs.length (nds fs),.int .i64 (j : Nat),.agg (bdA (bnd n bd))] = some (.bool (opn fs k j (bnd n bd))) := fun j hj => ih j _ (by omega) (by omega) hbl
   have hca := hv.ca
   have hcb := hv.cb
   have hc2 := xAG n.op
   by_cases c7 : n.op = 7
   ·have c7' : (((n.op : Nat) : Int) = 7) = True := eq_true (by omega)
    have hx := hv.ex c7
    have hc1 : chn n.op = 1 := by rw [c7]; rfl
    have ha := xAF (hca (by omega))
    have hra := hrec _ ha.2
    rw [← ha.1] at hra
    obtain ⟨k8,hk8,hk3⟩ : ∃ k8 : Nat,n.x - 8 = (k8 : Nat) ∧ k8 < 3 := ⟨(n.x - 8).toNat,by omega,by omega⟩
    have hbe : bnd n bd = bd ||| 2 ^ k8 := by
     unfold bnd
     rw [if_pos c7,show n.x.toNat - 8 = k8 by omega]
    have hset := xZI hbd hk3
    rw [← hbe] at hset
    have hk3i : ((k8 : Nat) : Int) < 3 := by omega
    have hbl4 : (bdA (bnd n bd)).length = 3 := rfl
    have hf4 := fun d H => xUu d H (bnd n bd)
    have hb4 := fun d H => xUv d H (bnd n bd)
    have hcl4 : (bdA (bnd n bd)).all AV.isCell = true := rfl
    have hbt4 : List.take 3 (bdA (bnd n bd)) = bdA (bnd n bd) := rfl
    rw [hc1] at h79 ⊢
    generalize opn fs k n.a.toNat (bnd n bd) = r at *
    generalize bdA (bnd n bd) = BD2 at *
    generalize bdA bd = BD at *
    cases r with
    | true =>
     rw [xX0,a32,xAa]
     simp (maxSteps := 30000000) (disch := first|exact D5|fail) only [WB,Nat.reduceAdd,Nat.reduceSub,AV.cells,hcl,↓reduceIte,xAs,Nd.c,hn,hnv,AV.isCell,xDo,e1',c7',hk8,WA,hset,h79,xAA,xAm,Int.reduceLT,hbt4,hf4,hra,Nat.reduceLT]
    | false =>
     rw [xX0,a32,xAa]
     simp (maxSteps := 30000000) (disch := first|exact D5|fail) only [WB,Nat.reduceAdd,Nat.reduceSub,AV.cells,hcl,↓reduceIte,xAs,Nd.c,hn,hnv,AV.isCell,xDo,e1',c7',hk8,WA,hset,h79,xAA,xAm,Int.reduceLT,hbt4,hf4,hra,Nat.reduceLT]
   ·have c7' : ¬ ((n.op : Nat) : Int) = 7 := by omega
    have hbe : bnd n bd = bd := by unfold bnd; rw [if_neg c7]
    rw [hbe] at hrec ⊢
    rcases hc2 with hc | hc | hc
    ·rw [hc] at h79 ⊢
     generalize bdA bd = BD at *
     rw [xX0,a32,xAa]
     simp (maxSteps := 30000000) (disch := first|exact D5|fail) only [WB,Nat.reduceAdd,Nat.reduceSub,AV.cells,hcl,↓reduceIte,xAs,Nd.c,hn,hnv,AV.isCell,xDo,e1',c7',h79,xAA,xAm,Int.reduceLT,Nat.reduceLT]
    ·have ha := xAF (hca (by omega))
     have hra := hrec _ ha.2
     rw [← ha.1] at hra
     rw [hc] at h79 ⊢
     generalize opn fs k n.a.toNat bd = r at *
     generalize bdA bd = BD at *
     cases r with
     | true =>
      rw [xX0,a32,xAa]
      simp (maxSteps := 30000000) (disch := first|exact D5|fail) only [WB,Nat.reduceAdd,Nat.reduceSub,AV.cells,hcl,↓reduceIte,xAs,Nd.c,hn,hnv,AV.isCell,xDo,e1',c7',h79,xAA,xAm,Int.reduceLT,hbt3,hf3,hra,Nat.reduceLT]
     | false =>
      rw [xX0,a32,xAa]
      simp (maxSteps := 30000000) (disch := first|exact D5|fail) only [WB,Nat.reduceAdd,Nat.reduceSub,AV.cells,hcl,↓reduceIte,xAs,Nd.c,hn,hnv,AV.isCell,xDo,e1',c7',h79,xAA,xAm,Int.reduceLT,hbt3,hf3,hra,Nat.reduceLT]
    ·have ha := xAF (hca (by omega))
     have hra := hrec _ ha.2
     rw [← ha.1] at hra
     have hb := xAF (hcb hc)
     have hrb := hrec _ hb.2
     rw [← hb.1] at hrb
     rw [hc] at h79 ⊢
     generalize opn fs k n.a.toNat bd = r at *
     generalize opn fs k n.b.toNat bd = r2 at *
     generalize bdA bd = BD at *
     cases r with
     | true =>
      rw [xX0,a32,xAa]
      simp (maxSteps := 30000000) (disch := first|exact D5|fail) only [WB,Nat.reduceAdd,Nat.reduceSub,AV.cells,hcl,↓reduceIte,xAs,Nd.c,hn,hnv,AV.isCell,xDo,e1',c7',h79,xAA,xAm,Int.reduceLT,hbt3,hf3,hra,Nat.reduceLT]
     | false =>
      rw [xX0,a32,xAa]
      simp (maxSteps := 30000000) (disch := first|exact D5|fail) only [WB,Nat.reduceAdd,Nat.reduceSub,AV.cells,hcl,↓reduceIte,xAs,Nd.c,hn,hnv,AV.isCell,xDo,e1',c7',h79,xAA,xAm,Int.reduceLT,hbt3,hf3,hra,hrb,Nat.reduceLT]
end
theorem xUw (lo hi x : Int) : wi lo hi [x] = (decide (lo ≤ x) && decide (x ≤ hi)) := by simp [wi]
theorem yCe {op : Nat} (h : 1 ≤ op ∧ op ≤ 10) : ((fnm op).toList == (⟨#[]⟩ : ByteArray).toList) = false := by
 have : op = 1 ∨ op = 2 ∨ op = 3 ∨ op = 4 ∨ op = 5 ∨ op = 6 ∨ op = 7 ∨ op = 8 ∨ op = 9 ∨ op = 10 := by omega
 rcases this with rfl | rfl | rfl | rfl | rfl | rfl | rfl | rfl | rfl | rfl <;> decide +kernel
theorem yCf {op : Nat} (h : op = 0 ∨ 10 < op) : ((fnm op).toList == (⟨#[]⟩ : ByteArray).toList) = true := by
 have : fnm op = ⟨#[]⟩ := by
  unfold fnm
  simp [show op ≠ 1 by omega,show op ≠ 2 by omega,show op ≠ 3 by omega,show op ≠ 4 by omega,show op ≠ 5 by omega,show op ≠ 6 by omega,show op ≠ 7 by omega,show op ≠ 8 by omega,show op ≠ 9 by omega,show op ≠ 10 by omega]
 rw [this]; exact beq_self_eq_true _
section
variable {n : Nd} {G : Heap} {p : Nat}
theorem yCg (hl : n.args.length ≤ 100) (gp : G[p]? = some (.cells false false n.c)) : ∀ k i,i + k = n.args.length → ∃ i' : Nat,
  L.loop xJA xTN ⟨xFd (.ptr p 0) (.int .i64 0) (.int .i64 (i : Nat)),G⟩ =
   some (if wi 0 10 (n.args.drop i) = true then (.exit 0,⟨xFd (.ptr p 0) (.int .i64 0) (.int .i64 (i' : Nat)),G⟩) else (.ret,⟨xFd (.ptr p 0) (.int .i64 1) (.int .i64 (i' : Nat)),G⟩)) := by
 have hnv : xA2 n.z n.args = .sl n.z n.args.length (xAB n.args) := rfl
 unfold Nd.c at gp
 rw [hnv] at gp
 intro k
 induction k with
 | zero =>
  intro i hi
  obtain rfl : i = n.args.length := by omega
  refine ⟨n.args.length,?_⟩
  rw [if_pos (by rw [List.drop_length]; rfl),xPQ]
  simp (maxSteps := 30000000) (disch := first|exact D5|fail) only [xJz,WB,gp,↓reduceIte,xDn]
 | succ k ih =>
  intro i hi'
  have hlt : (i : Int) < (n.args.length : Nat) := by omega
  have hl1 : i < n.args.length := by omega
  obtain ⟨i',ih'⟩ := ih (i + 1) (by omega)
  have em : wi 0 10 (n.args.drop i) = ((decide (0 ≤ n.args.getD i 0) && decide (n.args.getD i 0 ≤ 10)) && wi 0 10 (n.args.drop (i + 1))) := by
   rw [List.drop_eq_getElem_cons hl1,List.getD_eq_getElem?_getD,List.getElem?_eq_getElem hl1]
   rfl
  rw [em]
  generalize hN : n.args.getD i 0 = t at *
  by_cases c1 : t < 0
  ·have c1' : ¬ 0 ≤ t := by omega
   simp only [c1',decide_false,Bool.false_and,Bool.false_eq_true,if_false]
   refine ⟨i,?_⟩
   rw [xPQ]
   simp (maxSteps := 30000000) (disch := first|exact D5|fail) only [xJz,WB,gp,hlt,↓reduceIte,W2,hN,c1,xDn]
  have c1' : 0 ≤ t := by omega
  by_cases c2 : 10 < t
  ·have c2' : ¬ t ≤ 10 := by omega
   simp only [c1',c2',decide_true,decide_false,Bool.true_and,Bool.false_and,Bool.false_eq_true,if_false]
   refine ⟨i,?_⟩
   rw [xPQ]
   simp (maxSteps := 30000000) (disch := first|exact D5|fail) only [xJz,WB,gp,hlt,↓reduceIte,W2,hN,c1,c2,xDn]
  have c2' : t ≤ 10 := by omega
  simp only [c1',c2',decide_true,Bool.true_and]
  refine ⟨i',?_⟩
  rw [xPQ]
  simp (maxSteps := 30000000) (disch := first|exact D5|fail) only [xJz,WB,gp,hlt,↓reduceIte,W2,hN,c1,c2,xDn,ih']
theorem yCh (n : Nd) (size : Nat) : L.pcall 31 [.agg n.c,.int .i64 (size : Nat)] = some (.int .i64 (xGL n size : Nat)) := by
 by_cases hop : n.op = 0 ∨ 10 < n.op
 ·have hx : xGL n size = 6 := by
   unfold xGL
   rw [if_pos (yCf hop)]
  rw [hx]
  unfold Nd.c
  rcases hop with h | h
  ·have d1 : ((n.op : Nat) : Int) < 1 := by omega
   rw [xFh,a31,xAa]
   simp (maxSteps := 30000000) (disch := first|exact D5|fail) only [WB,Nat.reduceAdd,Nat.reduceSub,AV.cells,AV.isCell,d1,↓reduceIte]
   try rfl
  ·have d1 : ¬ ((n.op : Nat) : Int) < 1 := by omega
   have d2 : (10 : Int) < ((n.op : Nat) : Int) := by omega
   rw [xFh,a31,xAa]
   simp (maxSteps := 30000000) (disch := first|exact D5|fail) only [WB,Nat.reduceAdd,Nat.reduceSub,AV.cells,AV.isCell,d1,↓reduceIte,d2]
   try rfl
 have hop' : 1 ≤ n.op ∧ n.op ≤ 10 := by omega
 have hne := yCe hop'
 have d1 : ¬ ((n.op : Nat) : Int) < 1 := by omega
 have d2 : ¬ (10 : Int) < ((n.op : Nat) : Int) := by omega
 unfold xGL
 rw [if_neg (by rw [hne]; simp)]
 unfold yAM yAN
 rw [xUw,xUw]
 have hL : n.args.length ≤ 100 → ∃ i' : Nat,L.loop xJA xTN ⟨xFd (.ptr 0 0) (.int .i64 0) (.int .i64 0),[.cells false false n.c]⟩ =
   some (if wi 0 10 n.args = true then (.exit 0,⟨xFd (.ptr 0 0) (.int .i64 0) (.int .i64 (i' : Nat)),[.cells false false n.c]⟩) else (.ret,⟨xFd (.ptr 0 0) (.int .i64 1) (.int .i64 (i' : Nat)),[.cells false false n.c]⟩)) := by
  intro hl
  obtain ⟨i',e⟩ := yCg (n := n) (p := 0) (G := [.cells false false n.c]) hl rfl n.args.length 0 (by omega)
  rw [List.drop_zero] at e
  exact ⟨i',e⟩
 have hnv : xA2 n.z n.args = .sl n.z n.args.length (xAB n.args) := rfl
 have hgl : ∀ h : n.args.length = 0,wi 0 10 n.args = true := fun h => by rw [List.eq_nil_of_length_eq_zero h]; rfl
 unfold Nd.c at hL ⊢
 rw [hnv] at hL ⊢
 by_cases o2 : n.op = 2
 case pos =>
  have e2 : ((n.op : Nat) : Int) = 2 := by omega
  have fl : flo n.op = 0 := by rw [o2]; rfl
  have fh : fhi n.op = 2 := by rw [o2]; rfl
  have b2 : decide (n.op = 2) = true := by rw [o2]; rfl
  have b3 : decide (n.op = 3) = false := by rw [o2]; rfl
  have b7 : decide (n.op = 7) = false := by rw [o2]; rfl
  by_cases c2 : n.x = 0
  case neg =>
   simp only [b2,b7,fl,fh,c2,if_true,if_false,Bool.not_true,Bool.not_false,Bool.true_and,Bool.false_and,Bool.and_true,Bool.and_false,Bool.or_true,Bool.true_or,Bool.or_false,Bool.false_or,decide_true,decide_false,not_false_eq_true,not_true_eq_false,Bool.false_eq_true,Nat.not_lt_zero]
   rw [xFh,a31,xAa]
   simp (maxSteps := 30000000) (disch := first|exact D5|fail) only [e2,WB,Nat.reduceAdd,Nat.reduceSub,AV.cells,AV.isCell,↓reduceIte,Int.reduceLT,Int.reduceEq,c2]
  have z2 := eq_true c2
  by_cases c3 : size = 0
  case pos =>
   subst c3
   simp only [b2,b7,fl,fh,z2,if_true,if_false,Bool.not_true,Bool.not_false,Bool.true_and,Bool.false_and,Bool.and_true,Bool.and_false,Bool.or_true,Bool.true_or,Bool.or_false,Bool.false_or,decide_true,decide_false,not_false_eq_true,not_true_eq_false,Bool.false_eq_true,Nat.not_lt_zero]
   rw [xFh,a31,xAa]
   simp (maxSteps := 30000000) (disch := first|exact D5|fail) only [e2,WB,Nat.reduceAdd,Nat.reduceSub,AV.cells,AV.isCell,↓reduceIte,Int.reduceLT,Int.reduceEq,z2]
  have d3 : ¬ ((size : Nat) : Int) = 0 := by omega
  by_cases c4 : 2 < n.args.length
  case pos =>
   have d4 : (2 : Int) < ((n.args.length : Nat) : Int) := by omega
   simp only [b2,b7,fl,fh,z2,c3,c4,if_true,if_false,Bool.not_true,Bool.not_false,Bool.true_and,Bool.false_and,Bool.and_true,Bool.and_false,Bool.or_true,Bool.true_or,Bool.or_false,Bool.false_or,decide_true,decide_false,not_false_eq_true,not_true_eq_false,Bool.false_eq_true,Nat.not_lt_zero]
   rw [xFh,a31,xAa]
   simp (maxSteps := 30000000) (disch := first|exact D5|fail) only [e2,WB,Nat.reduceAdd,Nat.reduceSub,AV.cells,AV.isCell,↓reduceIte,Int.reduceLT,Int.reduceEq,z2,d3,d4]
  have d4 : ¬ (2 : Int) < ((n.args.length : Nat) : Int) := by omega
  by_cases c7 : n.name < 0
  case pos =>
   have d7 : ¬ 0 ≤ n.name := by omega
   simp only [b2,b7,fl,fh,z2,c3,c4,d7,if_true,if_false,Bool.not_true,Bool.not_false,Bool.true_and,Bool.false_and,Bool.and_true,Bool.and_false,Bool.or_true,Bool.true_or,Bool.or_false,Bool.false_or,decide_true,decide_false,not_false_eq_true,not_true_eq_false,Bool.false_eq_true,Nat.not_lt_zero]
   rw [xFh,a31,xAa]
   simp (maxSteps := 30000000) (disch := first|exact D5|fail) only [e2,WB,Nat.reduceAdd,Nat.reduceSub,AV.cells,AV.isCell,↓reduceIte,Int.reduceLT,Int.reduceEq,z2,d3,d4,c7]
  have d7 : 0 ≤ n.name := by omega
  by_cases c8 : 8 ≤ n.name
  case pos =>
   have d8 : ¬ n.name ≤ 7 := by omega
   simp only [b2,b7,fl,fh,z2,c3,c4,d7,d8,if_true,if_false,Bool.not_true,Bool.not_false,Bool.true_and,Bool.false_and,Bool.and_true,Bool.and_false,Bool.or_true,Bool.true_or,Bool.or_false,Bool.false_or,decide_true,decide_false,not_false_eq_true,not_true_eq_false,Bool.false_eq_true,Nat.not_lt_zero]
   rw [xFh,a31,xAa]
   simp (maxSteps := 30000000) (disch := first|exact D5|fail) only [e2,WB,Nat.reduceAdd,Nat.reduceSub,AV.cells,AV.isCell,↓reduceIte,Int.reduceLT,Int.reduceEq,z2,d3,d4,c7,c8]
  have d8 : n.name ≤ 7 := by omega
  obtain ⟨i',eL⟩ := hL (by omega)
  rw [e2] at eL
  cases hw : wi 0 10 n.args with
  | true =>
   rw [hw] at eL
   simp only [if_true] at eL
   simp only [b2,b7,fl,fh,z2,c3,c4,d7,d8,hw,if_true,if_false,Bool.not_true,Bool.not_false,Bool.true_and,Bool.false_and,Bool.and_true,Bool.and_false,Bool.or_true,Bool.true_or,Bool.or_false,Bool.false_or,decide_true,decide_false,not_false_eq_true,not_true_eq_false,Bool.false_eq_true,Nat.not_lt_zero]
   rw [xFh,a31,xAa]
   simp (maxSteps := 30000000) (disch := first|exact D5|fail) only [e2,WB,Nat.reduceAdd,Nat.reduceSub,AV.cells,AV.isCell,↓reduceIte,Int.reduceLT,Int.reduceEq,z2,d3,d4,c7,c8,xDn,eL]
  | false =>
   rw [hw] at eL
   simp only [Bool.false_eq_true,if_false] at eL
   simp only [b2,b7,fl,fh,z2,c3,c4,d7,d8,hw,if_true,if_false,Bool.not_true,Bool.not_false,Bool.true_and,Bool.false_and,Bool.and_true,Bool.and_false,Bool.or_true,Bool.true_or,Bool.or_false,Bool.false_or,decide_true,decide_false,not_false_eq_true,not_true_eq_false,Bool.false_eq_true,Nat.not_lt_zero]
   rw [xFh,a31,xAa]
   simp (maxSteps := 30000000) (disch := first|exact D5|fail) only [e2,WB,Nat.reduceAdd,Nat.reduceSub,AV.cells,AV.isCell,↓reduceIte,Int.reduceLT,Int.reduceEq,z2,d3,d4,c7,c8,xDn,eL]
 by_cases o3 : n.op = 3
 case pos =>
  have e3 : ((n.op : Nat) : Int) = 3 := by omega
  have fl : flo n.op = 2 := by rw [o3]; rfl
  have fh : fhi n.op = 2 := by rw [o3]; rfl
  have b2 : decide (n.op = 2) = false := by rw [o3]; rfl
  have b3 : decide (n.op = 3) = true := by rw [o3]; rfl
  have b7 : decide (n.op = 7) = false := by rw [o3]; rfl
  by_cases c1 : n.name = 0
  case neg =>
   simp only [b2,b7,fl,fh,c1,if_true,if_false,Bool.not_true,Bool.not_false,Bool.true_and,Bool.false_and,Bool.and_true,Bool.and_false,Bool.or_true,Bool.true_or,Bool.or_false,Bool.false_or,decide_true,decide_false,not_false_eq_true,not_true_eq_false,Bool.false_eq_true,Nat.not_lt_zero]
   rw [xFh,a31,xAa]
   simp (maxSteps := 30000000) (disch := first|exact D5|fail) only [e3,WB,Nat.reduceAdd,Nat.reduceSub,AV.cells,AV.isCell,↓reduceIte,Int.reduceLT,Int.reduceEq,c1]
  have z1 := eq_true c1
  by_cases c2 : n.x = 0
  case neg =>
   simp only [b2,b7,fl,fh,z1,c2,if_true,if_false,Bool.not_true,Bool.not_false,Bool.true_and,Bool.false_and,Bool.and_true,Bool.and_false,Bool.or_true,Bool.true_or,Bool.or_false,Bool.false_or,decide_true,decide_false,not_false_eq_true,not_true_eq_false,Bool.false_eq_true,Nat.not_lt_zero]
   rw [xFh,a31,xAa]
   simp (maxSteps := 30000000) (disch := first|exact D5|fail) only [e3,WB,Nat.reduceAdd,Nat.reduceSub,AV.cells,AV.isCell,↓reduceIte,Int.reduceLT,Int.reduceEq,z1,c2]
  have z2 := eq_true c2
  by_cases c3 : size = 0
  case pos =>
   subst c3
   simp only [b2,b7,fl,fh,z1,z2,if_true,if_false,Bool.not_true,Bool.not_false,Bool.true_and,Bool.false_and,Bool.and_true,Bool.and_false,Bool.or_true,Bool.true_or,Bool.or_false,Bool.false_or,decide_true,decide_false,not_false_eq_true,not_true_eq_false,Bool.false_eq_true,Nat.not_lt_zero]
   rw [xFh,a31,xAa]
   simp (maxSteps := 30000000) (disch := first|exact D5|fail) only [e3,WB,Nat.reduceAdd,Nat.reduceSub,AV.cells,AV.isCell,↓reduceIte,Int.reduceLT,Int.reduceEq,z1,z2]
  have d3 : ¬ ((size : Nat) : Int) = 0 := by omega
  by_cases c4 : n.args.length = 2
  case neg =>
   have d4 : ¬ ((n.args.length : Nat) : Int) = 2 := by omega
   have hb : (decide (n.args.length < 2) || decide (2 < n.args.length)) = true := by simp; omega
   by_cases c5 : n.args.length < 2
   case pos =>
    simp only [b2,b7,fl,fh,z1,z2,c3,c5,if_true,if_false,Bool.not_true,Bool.not_false,Bool.true_and,Bool.false_and,Bool.and_true,Bool.and_false,Bool.or_true,Bool.true_or,Bool.or_false,Bool.false_or,decide_true,decide_false,not_false_eq_true,not_true_eq_false,Bool.false_eq_true,Nat.not_lt_zero]
    rw [xFh,a31,xAa]
    simp (maxSteps := 30000000) (disch := first|exact D5|fail) only [e3,WB,Nat.reduceAdd,Nat.reduceSub,AV.cells,AV.isCell,↓reduceIte,Int.reduceLT,Int.reduceEq,z1,z2,d3,d4]
   have c6 : 2 < n.args.length := by omega
   simp only [b2,b7,fl,fh,z1,z2,c3,c5,c6,if_true,if_false,Bool.not_true,Bool.not_false,Bool.true_and,Bool.false_and,Bool.and_true,Bool.and_false,Bool.or_true,Bool.true_or,Bool.or_false,Bool.false_or,decide_true,decide_false,not_false_eq_true,not_true_eq_false,Bool.false_eq_true,Nat.not_lt_zero]
   rw [xFh,a31,xAa]
   simp (maxSteps := 30000000) (disch := first|exact D5|fail) only [e3,WB,Nat.reduceAdd,Nat.reduceSub,AV.cells,AV.isCell,↓reduceIte,Int.reduceLT,Int.reduceEq,z1,z2,d3,d4]
  have d4 : ((n.args.length : Nat) : Int) = 2 := by omega
  have c5 : ¬ n.args.length < 2 := by omega
  have c6 : ¬ 2 < n.args.length := by omega
  have d4' := eq_true d4
  have d7 : 0 ≤ n.name := by omega
  have d8 : n.name ≤ 7 := by omega
  have c7 : ¬ n.name < 0 := by omega
  have c8 : ¬ 8 ≤ n.name := by omega
  obtain ⟨i',eL⟩ := hL (by omega)
  rw [e3] at eL
  cases hw : wi 0 10 n.args with
  | true =>
   rw [hw] at eL
   simp only [if_true] at eL
   simp only [b2,b7,fl,fh,z2,c3,c5,c6,d7,d8,z1,hw,if_true,if_false,Bool.not_true,Bool.not_false,Bool.true_and,Bool.false_and,Bool.and_true,Bool.and_false,Bool.or_true,Bool.true_or,Bool.or_false,Bool.false_or,decide_true,decide_false,not_false_eq_true,not_true_eq_false,Bool.false_eq_true,Nat.not_lt_zero]
   rw [xFh,a31,xAa]
   simp (maxSteps := 30000000) (disch := first|exact D5|fail) only [e3,WB,Nat.reduceAdd,Nat.reduceSub,AV.cells,AV.isCell,↓reduceIte,Int.reduceLT,Int.reduceEq,z1,z2,d3,d4',c7,c8,xDn,eL]
  | false =>
   rw [hw] at eL
   simp only [Bool.false_eq_true,if_false] at eL
   simp only [b2,b7,fl,fh,z2,c3,c5,c6,d7,d8,z1,hw,if_true,if_false,Bool.not_true,Bool.not_false,Bool.true_and,Bool.false_and,Bool.and_true,Bool.and_false,Bool.or_true,Bool.true_or,Bool.or_false,Bool.false_or,decide_true,decide_false,not_false_eq_true,not_true_eq_false,Bool.false_eq_true,Nat.not_lt_zero]
   rw [xFh,a31,xAa]
   simp (maxSteps := 30000000) (disch := first|exact D5|fail) only [e3,WB,Nat.reduceAdd,Nat.reduceSub,AV.cells,AV.isCell,↓reduceIte,Int.reduceLT,Int.reduceEq,z1,z2,d3,d4',c7,c8,xDn,eL]
 by_cases o7 : n.op = 7
 case pos =>
  have e7 : ((n.op : Nat) : Int) = 7 := by omega
  have fl : flo n.op = 0 := by rw [o7]; rfl
  have fh : fhi n.op = 0 := by rw [o7]; rfl
  have b2 : decide (n.op = 2) = false := by rw [o7]; rfl
  have b3 : decide (n.op = 3) = false := by rw [o7]; rfl
  have b7 : decide (n.op = 7) = true := by rw [o7]; rfl
  by_cases c1 : n.name = 0
  case neg =>
   simp only [b2,b7,fl,fh,c1,if_true,if_false,Bool.not_true,Bool.not_false,Bool.true_and,Bool.false_and,Bool.and_true,Bool.and_false,Bool.or_true,Bool.true_or,Bool.or_false,Bool.false_or,decide_true,decide_false,not_false_eq_true,not_true_eq_false,Bool.false_eq_true,Nat.not_lt_zero]
   rw [xFh,a31,xAa]
   simp (maxSteps := 30000000) (disch := first|exact D5|fail) only [e7,WB,Nat.reduceAdd,Nat.reduceSub,AV.cells,AV.isCell,↓reduceIte,Int.reduceLT,Int.reduceEq,c1]
  have z1 := eq_true c1
  by_cases c3 : size = 0
  case pos =>
   subst c3
   simp only [b2,b7,fl,fh,z1,if_true,if_false,Bool.not_true,Bool.not_false,Bool.true_and,Bool.false_and,Bool.and_true,Bool.and_false,Bool.or_true,Bool.true_or,Bool.or_false,Bool.false_or,decide_true,decide_false,not_false_eq_true,not_true_eq_false,Bool.false_eq_true,Nat.not_lt_zero]
   rw [xFh,a31,xAa]
   simp (maxSteps := 30000000) (disch := first|exact D5|fail) only [e7,WB,Nat.reduceAdd,Nat.reduceSub,AV.cells,AV.isCell,↓reduceIte,Int.reduceLT,Int.reduceEq,z1]
  have d3 : ¬ ((size : Nat) : Int) = 0 := by omega
  by_cases c4 : 0 < n.args.length
  case pos =>
   have d4 : (0 : Int) < ((n.args.length : Nat) : Int) := by omega
   simp only [b2,b7,fl,fh,z1,c3,c4,if_true,if_false,Bool.not_true,Bool.not_false,Bool.true_and,Bool.false_and,Bool.and_true,Bool.and_false,Bool.or_true,Bool.true_or,Bool.or_false,Bool.false_or,decide_true,decide_false,not_false_eq_true,not_true_eq_false,Bool.false_eq_true,Nat.not_lt_zero]
   rw [xFh,a31,xAa]
   simp (maxSteps := 30000000) (disch := first|exact D5|fail) only [e7,WB,Nat.reduceAdd,Nat.reduceSub,AV.cells,AV.isCell,↓reduceIte,Int.reduceLT,Int.reduceEq,z1,d3,d4]
  have d4 : ¬ (0 : Int) < ((n.args.length : Nat) : Int) := by omega
  have d7 : 0 ≤ n.name := by omega
  have d8 : n.name ≤ 7 := by omega
  have c7 : ¬ n.name < 0 := by omega
  have c8 : ¬ 8 ≤ n.name := by omega
  by_cases c9 : n.x < 8
  case pos =>
   have d9 : ¬ 8 ≤ n.x := by omega
   simp only [b2,b7,fl,fh,c3,c4,d7,d8,z1,d9,if_true,if_false,Bool.not_true,Bool.not_false,Bool.true_and,Bool.false_and,Bool.and_true,Bool.and_false,Bool.or_true,Bool.true_or,Bool.or_false,Bool.false_or,decide_true,decide_false,not_false_eq_true,not_true_eq_false,Bool.false_eq_true,Nat.not_lt_zero]
   rw [xFh,a31,xAa]
   simp (maxSteps := 30000000) (disch := first|exact D5|fail) only [e7,WB,Nat.reduceAdd,Nat.reduceSub,AV.cells,AV.isCell,↓reduceIte,Int.reduceLT,Int.reduceEq,z1,d3,d4,c7,c8,c9]
  have d9 : 8 ≤ n.x := by omega
  by_cases c10 : 10 < n.x
  case pos =>
   have d10 : ¬ n.x ≤ 10 := by omega
   simp only [b2,b7,fl,fh,c3,c4,d7,d8,z1,d9,d10,if_true,if_false,Bool.not_true,Bool.not_false,Bool.true_and,Bool.false_and,Bool.and_true,Bool.and_false,Bool.or_true,Bool.true_or,Bool.or_false,Bool.false_or,decide_true,decide_false,not_false_eq_true,not_true_eq_false,Bool.false_eq_true,Nat.not_lt_zero]
   rw [xFh,a31,xAa]
   simp (maxSteps := 30000000) (disch := first|exact D5|fail) only [e7,WB,Nat.reduceAdd,Nat.reduceSub,AV.cells,AV.isCell,↓reduceIte,Int.reduceLT,Int.reduceEq,z1,d3,d4,c7,c8,c9,c10]
  have d10 : n.x ≤ 10 := by omega
  obtain ⟨i',eL⟩ := hL (by omega)
  rw [e7] at eL
  cases hw : wi 0 10 n.args with
  | true =>
   rw [hw] at eL
   simp only [if_true] at eL
   simp only [b2,b7,fl,fh,c3,c4,d7,d8,z1,d9,d10,hw,if_true,if_false,Bool.not_true,Bool.not_false,Bool.true_and,Bool.false_and,Bool.and_true,Bool.and_false,Bool.or_true,Bool.true_or,Bool.or_false,Bool.false_or,decide_true,decide_false,not_false_eq_true,not_true_eq_false,Bool.false_eq_true,Nat.not_lt_zero]
   rw [xFh,a31,xAa]
   simp (maxSteps := 30000000) (disch := first|exact D5|fail) only [e7,WB,Nat.reduceAdd,Nat.reduceSub,AV.cells,AV.isCell,↓reduceIte,Int.reduceLT,Int.reduceEq,z1,d3,d4,c7,c8,c9,c10,xDn,eL]
  | false =>
   rw [hw] at eL
   simp only [Bool.false_eq_true,if_false] at eL
   simp only [b2,b7,fl,fh,c3,c4,d7,d8,z1,d9,d10,hw,if_true,if_false,Bool.not_true,Bool.not_false,Bool.true_and,Bool.false_and,Bool.and_true,Bool.and_false,Bool.or_true,Bool.true_or,Bool.or_false,Bool.false_or,decide_true,decide_false,not_false_eq_true,not_true_eq_false,Bool.false_eq_true,Nat.not_lt_zero]
   rw [xFh,a31,xAa]
   simp (maxSteps := 30000000) (disch := first|exact D5|fail) only [e7,WB,Nat.reduceAdd,Nat.reduceSub,AV.cells,AV.isCell,↓reduceIte,Int.reduceLT,Int.reduceEq,z1,d3,d4,c7,c8,c9,c10,xDn,eL]
 have e2 : ¬ ((n.op : Nat) : Int) = 2 := by omega
 have e3 : ¬ ((n.op : Nat) : Int) = 3 := by omega
 have e7 : ¬ ((n.op : Nat) : Int) = 7 := by omega
 have fl : flo n.op = 0 := by unfold flo; rw [if_neg o3]
 have fh : fhi n.op = 0 := by unfold fhi; rw [if_neg (by omega)]
 have b2 : decide (n.op = 2) = false := decide_eq_false o2
 have b7 : decide (n.op = 7) = false := decide_eq_false o7
 by_cases c1 : n.name = 0
 case neg =>
  simp only [b2,b7,fl,fh,c1,if_true,if_false,Bool.not_true,Bool.not_false,Bool.true_and,Bool.false_and,Bool.and_true,Bool.and_false,Bool.or_true,Bool.true_or,Bool.or_false,Bool.false_or,decide_true,decide_false,not_false_eq_true,not_true_eq_false,Bool.false_eq_true,Nat.not_lt_zero]
  rw [xFh,a31,xAa]
  simp (maxSteps := 30000000) (disch := first|exact D5|fail) only [WB,Nat.reduceAdd,Nat.reduceSub,AV.cells,AV.isCell,↓reduceIte,d1,d2,e2,c1]
 have z1 := eq_true c1
 by_cases c2 : n.x = 0
 case neg =>
  simp only [b2,b7,fl,fh,z1,c2,if_true,if_false,Bool.not_true,Bool.not_false,Bool.true_and,Bool.false_and,Bool.and_true,Bool.and_false,Bool.or_true,Bool.true_or,Bool.or_false,Bool.false_or,decide_true,decide_false,not_false_eq_true,not_true_eq_false,Bool.false_eq_true,Nat.not_lt_zero]
  rw [xFh,a31,xAa]
  simp (maxSteps := 30000000) (disch := first|exact D5|fail) only [WB,Nat.reduceAdd,Nat.reduceSub,AV.cells,AV.isCell,↓reduceIte,d1,d2,e2,z1,e7,c2]
 have z2 := eq_true c2
 by_cases c3 : size = 0
 case pos =>
  subst c3
  simp only [b2,b7,fl,fh,z1,z2,if_true,if_false,Bool.not_true,Bool.not_false,Bool.true_and,Bool.false_and,Bool.and_true,Bool.and_false,Bool.or_true,Bool.true_or,Bool.or_false,Bool.false_or,decide_true,decide_false,not_false_eq_true,not_true_eq_false,Bool.false_eq_true,Nat.not_lt_zero]
  rw [xFh,a31,xAa]
  simp (maxSteps := 30000000) (disch := first|exact D5|fail) only [WB,Nat.reduceAdd,Nat.reduceSub,AV.cells,AV.isCell,↓reduceIte,d1,d2,e2,z1,e7,z2]
 have d3 : ¬ ((size : Nat) : Int) = 0 := by omega
 by_cases c4 : 0 < n.args.length
 case pos =>
  have d4 : (0 : Int) < ((n.args.length : Nat) : Int) := by omega
  simp only [b2,b7,fl,fh,z1,z2,c3,c4,if_true,if_false,Bool.not_true,Bool.not_false,Bool.true_and,Bool.false_and,Bool.and_true,Bool.and_false,Bool.or_true,Bool.true_or,Bool.or_false,Bool.false_or,decide_true,decide_false,not_false_eq_true,not_true_eq_false,Bool.false_eq_true,Nat.not_lt_zero]
  rw [xFh,a31,xAa]
  simp (maxSteps := 30000000) (disch := first|exact D5|fail) only [WB,Nat.reduceAdd,Nat.reduceSub,AV.cells,AV.isCell,↓reduceIte,d1,d2,e2,z1,e7,z2,d3,e3,d4]
 have d4 : ¬ (0 : Int) < ((n.args.length : Nat) : Int) := by omega
 have d7 : 0 ≤ n.name := by omega
 have d8 : n.name ≤ 7 := by omega
 have c7 : ¬ n.name < 0 := by omega
 have c8 : ¬ 8 ≤ n.name := by omega
 obtain ⟨i',eL⟩ := hL (by omega)
 skip
 cases hw : wi 0 10 n.args with
 | true =>
  rw [hw] at eL
  simp only [if_true] at eL
  simp only [b2,b7,fl,fh,z2,c3,c4,d7,d8,z1,hw,if_true,if_false,Bool.not_true,Bool.not_false,Bool.true_and,Bool.false_and,Bool.and_true,Bool.and_false,Bool.or_true,Bool.true_or,Bool.or_false,Bool.false_or,decide_true,decide_false,not_false_eq_true,not_true_eq_false,Bool.false_eq_true,Nat.not_lt_zero]
  rw [xFh,a31,xAa]
  simp (maxSteps := 30000000) (disch := first|exact D5|fail) only [WB,Nat.reduceAdd,Nat.reduceSub,AV.cells,AV.isCell,↓reduceIte,d1,d2,e2,z1,e7,z2,d3,e3,d4,c7,c8,xDn,eL]
 | false =>
  rw [hw] at eL
  simp only [Bool.false_eq_true,if_false] at eL
  simp only [b2,b7,fl,fh,z2,c3,c4,d7,d8,z1,hw,if_true,if_false,Bool.not_true,Bool.not_false,Bool.true_and,Bool.false_and,Bool.and_true,Bool.and_false,Bool.or_true,Bool.true_or,Bool.or_false,Bool.false_or,decide_true,decide_false,not_false_eq_true,not_true_eq_false,Bool.false_eq_true,Nat.not_lt_zero]
  rw [xFh,a31,xAa]
  simp (maxSteps := 30000000) (disch := first|exact D5|fail) only [WB,Nat.reduceAdd,Nat.reduceSub,AV.cells,AV.isCell,↓reduceIte,d1,d2,e2,z1,e7,z2,d3,e3,d4,c7,c8,xDn,eL]
end
section
variable {z zs : Bool} {fs : List Nd} {ss : List Nat}
abbrev F20 (z zs : Bool) (fs : List Nd) (ss : List Nat) (r : Int) (i : Nat) : List AV := xTx (.sl z fs.length (nds fs)) (.int .i64 r) (.sl zs fs.length (xAU ss)) (.int .i64 (i : Nat))
theorem yCi (hlen : fs.length ≤ 64) (hs : ss.length = fs.length) : ∀ k i,i + k = fs.length → ∀ G,∃ (i' : Nat) (G' : Heap),
  L.loop xQ6 yBD ⟨F20 z zs fs ss 0 i,G⟩ =
   some (if xEr (fs.drop i) (ss.drop i) = 0 then (.exit 0,⟨F20 z zs fs ss 0 fs.length,G'⟩) else (.ret,⟨F20 z zs fs ss (xEr (fs.drop i) (ss.drop i) : Nat) i',G'⟩)) := by
 intro k
 induction k with
 | zero =>
  intro i hi G
  obtain rfl : i = fs.length := by omega
  refine ⟨fs.length,G,?_⟩
  rw [if_pos (by rw [List.drop_length]; rfl),xZl]
  simp (maxSteps := 30000000) (disch := first|exact D5|fail) only [xTw,WB,↓reduceIte,xOd]
 | succ k ih =>
  intro i hi G
  have hlt : i < fs.length := by omega
  have hltI : ((i : Nat) : Int) < (fs.length : Nat) := by omega
  have em : xEr (fs.drop i) (ss.drop i) = (if xGL (fs.getD i nd0) (ss.getD i 0) = 0 then xEr (fs.drop (i + 1)) (ss.drop (i + 1)) else xGL (fs.getD i nd0) (ss.getD i 0)) := by
   rw [List.drop_eq_getElem_cons hlt,List.drop_eq_getElem_cons (show i < ss.length by omega),xEr,List.getD_eq_getElem?_getD,List.getElem?_eq_getElem hlt,List.getD_eq_getElem?_getD,List.getElem?_eq_getElem (by omega)]
   rfl
  rw [em]
  obtain ⟨i',G',ih'⟩ := ih (i + 1) (by omega) G
  generalize hn : fs.getD i nd0 = n at *
  have h53 := yCh n (ss.getD i 0)
  generalize hsv : ss.getD i 0 = sv at *
  have hnv : xA2 n.z n.args = .sl n.z n.args.length (xAB n.args) := rfl
  unfold Nd.c at h53
  rw [hnv] at h53
  generalize hcv : xGL n sv = e at *
  by_cases c : e = 0
  ·subst c
   simp only [if_true]
   refine ⟨i',G',?_⟩
   rw [xZl]
   simp (maxSteps := 30000000) (disch := first|exact D5|fail) only [xTw,WB,hltI,↓reduceIte,xAs,Nd.c,hn,hnv,xAn,hsv,h53,xAA,xAm,xOd,ih']
  ·have c' : ¬ ((e : Nat) : Int) = 0 := by omega
   simp only [if_neg c]
   refine ⟨i,G,?_⟩
   rw [xZl]
   simp (maxSteps := 30000000) (disch := first|exact D5|fail) only [xTw,WB,hltI,↓reduceIte,xAs,Nd.c,hn,hnv,xAn,hsv,h53,xAA,xAm,c',xOd]
theorem xKV (z : Bool) (fs : List Nd) (h47 : fs.length < 1000) : L.pcall 8 [.sl z fs.length (nds fs)] = some (.int .i64 (chk fs : Nat)) := by
 unfold chk
 by_cases c1 : fs.length = 0
 ·rw [if_pos c1]
  have c1' : ((fs.length : Nat) : Int) = 0 := by omega
  rw [a8p,a8,xAa]
  simp (maxSteps := 30000000) (disch := first|exact D5|fail) only [WB,Nat.reduceSub,c1',↓reduceIte]
 have c1' : ¬ ((fs.length : Nat) : Int) = 0 := by omega
 rw [if_neg c1]
 by_cases c2 : 64 < fs.length
 ·rw [if_pos c2]
  have c2' : (64 : Int) < ((fs.length : Nat) : Int) := by omega
  rw [a8p,a8,xAa]
  simp (maxSteps := 30000000) (disch := first|exact D5|fail) only [WB,Nat.reduceSub,c1',↓reduceIte,c2']
 have c2' : ¬ (64 : Int) < ((fs.length : Nat) : Int) := by omega
 rw [if_neg c2]
 have h52 := xZH (z := z) (show fs.length ≤ 64 by omega)
 have hsl := xDS fs []
 have hv0 := xQa fs [] (by simp)
 have hend : xEr fs (szs fs []) = 0 → ∀ j,j < fs.length → Vn j (fs.getD j nd0) := by
  intro h0 j hj
  have := hv0 (by simpa using h0) j hj
  simpa using this
 simp only [List.length_nil,Nat.zero_add] at hsl
 generalize szs fs [] = ss at *
 obtain ⟨i',G',e1⟩ := yCi (z := z) (zs := fs.isEmpty) (show fs.length ≤ 64 by omega) hsl fs.length 0 (by omega) []
 simp only [List.drop_zero] at e1
 have e1' : L.loop xQ6 yBD ⟨xTx (.sl z fs.length (nds fs)) (.int .i64 0) (.sl fs.isEmpty fs.length (xAU ss)) (.int .i64 0),[]⟩ = _ := e1
 by_cases c3 : xEr fs ss = 0
 ·rw [if_pos c3] at e1' ⊢
  have h44 := yCd (fz := z) (show fs.length ≤ 64 by omega) (hend c3) fs.length (fs.length - 1) 0 (by omega) (by omega) (by omega)
  have h44 : L.pcall 32 [.sl z fs.length (nds fs),.int .i64 (fs.length - 1 : Nat),.agg [.bool false,.bool false,.bool false]] = _ := h44
  have hsub : ((fs.length : Nat) : Int) - 1 = ((fs.length - 1 : Nat) : Int) := by omega
  generalize hsv : ss.getD (fs.length - 1) 0 = v
  by_cases c4 : v = fs.length
  ·rw [if_pos c4]
   have c4' : (((v : Nat) : Int) = (fs.length : Nat)) = True := eq_true (by omega)
   cases ho : opn fs fs.length (fs.length - 1) 0 with
   | true =>
    rw [ho] at h44
    rw [a8p,a8,xAa]
    simp (maxSteps := 30000000) (disch := first|exact D5|fail) only [WB,Nat.reduceSub,c1',↓reduceIte,c2',h52,xAA,xAm,xOd,e1',hsub,hsv,c4',AV.cells,h44]
   | false =>
    rw [ho] at h44
    rw [a8p,a8,xAa]
    simp (maxSteps := 30000000) (disch := first|exact D5|fail) only [WB,Nat.reduceSub,c1',↓reduceIte,c2',h52,xAA,xAm,xOd,e1',hsub,hsv,c4',AV.cells,h44]
  ·rw [if_neg c4]
   have c4' : ¬ (((v : Nat) : Int) = (fs.length : Nat)) := by omega
   rw [a8p,a8,xAa]
   simp (maxSteps := 30000000) (disch := first|exact D5|fail) only [WB,Nat.reduceSub,c1',↓reduceIte,c2',h52,xAA,xAm,xOd,e1',hsub,hsv,c4']
 ·rw [if_neg c3] at e1' ⊢
  generalize xEr fs ss = r at *
  rw [a8p,a8,xAa]
  simp (maxSteps := 30000000) (disch := first|exact D5|fail) only [WB,Nat.reduceSub,c1',↓reduceIte,c2',h52,xAA,xAm,xOd,e1']
end
section
variable {z : Bool} {fs : List Nd} {b : AV} {G : Heap}
end
end Go.Abs.Events
