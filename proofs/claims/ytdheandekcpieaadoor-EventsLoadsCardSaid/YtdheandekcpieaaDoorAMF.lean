/- What comes in; the formula that is looked at. -/
import Derived.Test.YtdheandekcpieaaDoorAME
import Derived.Test.YtdheandekcpieaaDoorAbsIn
import Derived.Test.YtdheandekcpieaaDoorAbsBun
namespace Go.Abs.Events
open Go Go.Abs
set_option linter.unusedSimpArgs false
set_option linter.unusedVariables false
theorem xQc {α : Type} {f : α → AV} {P : α → Prop} : ∀ (cs : List AV),(∀ x ∈ cs,∃ a,x = f a ∧ P a) → ∃ l : List α,cs = l.map f ∧ ∀ a ∈ l,P a
 | [],_ => ⟨[],rfl,by simp⟩
 | x :: cs,h => by
  obtain ⟨a,rfl,ha⟩ := h x (by simp)
  obtain ⟨l,rfl,hl⟩ := xQc cs (fun x hx => h x (by simp [hx]))
  exact ⟨a :: l,rfl,by simp; exact ⟨ha,hl⟩⟩
theorem xQd {a : AV} (h : Fit (.sl [.int .i64]) a) : ∃ (z : Bool) (l : List Int),a = xA3 z l ∧ (z = true → l = []) := by
 obtain ⟨z,cs,rfl,hz,_,hf⟩ := xUK h
 obtain ⟨l,rfl,_⟩ := xQc (f := fun n : Int => AV.int .i64 n) (P := fun _ => True) cs (fun x hx => by obtain ⟨n,rfl,_⟩ := xFX (hf x hx); exact ⟨n,rfl,trivial⟩)
 exact ⟨z,l,by simp [xA3,xAE],by simpa using hz⟩
abbrev xYT : List CS := [.int .u8,.int .i64,.sl [.int .i64],.int .i64,.int .i64,.int .i64]
abbrev CEv : List CS := [.int .i64,.sl [.int .i64]]
def yA2 : TS := ⟨false,[.sl xYT]⟩
def xXy : TS := ⟨false,[.sl CEv]⟩
theorem xOw {α : Type} {f : α → List AV} {P : α → Prop} : ∀ (rs : List (List AV)),(∀ r ∈ rs,∃ a,r = f a ∧ P a) → ∃ l : List α,rs = l.map f ∧ ∀ a ∈ l,P a
 | [],_ => ⟨[],rfl,by simp⟩
 | x :: cs,h => by
  obtain ⟨a,rfl,ha⟩ := h x (by simp)
  obtain ⟨l,rfl,hl⟩ := xOw cs (fun x hx => h x (by simp [hx]))
  exact ⟨a :: l,rfl,by simp; exact ⟨ha,hl⟩⟩
theorem xYU {a : AV} (h : Fit (.sl xYT) a) : ∃ (z : Bool) (l : List Nd),a = .sl z l.length (nds l) := by
 cases h with
 | nil => exact ⟨true,[],rfl⟩
 | @sl _ rs hn hl hr =>
  obtain ⟨l,rfl,-⟩ := xOw (f := Nd.c) (P := fun _ => True) rs (fun r hr' => by
   have hfa : FitAll xYT r := ⟨hl r hr',hr r hr'⟩
   obtain ⟨a1,cs,rfl,h1,h'⟩ := xBz hfa
   obtain ⟨a2,cs,rfl,h2,h'⟩ := xBz h'
   obtain ⟨a3,cs,rfl,h3,h'⟩ := xBz h'
   obtain ⟨a4,cs,rfl,h4,h'⟩ := xBz h'
   obtain ⟨a5,cs,rfl,h5,h'⟩ := xBz h'
   obtain ⟨a6,cs,rfl,h6,h'⟩ := xBz h'
   obtain rfl := xKi h'
   obtain ⟨o,rfl,-⟩ := xXz h1
   obtain ⟨nm,rfl,-⟩ := xFX h2
   obtain ⟨z,l,rfl,-⟩ := xQd h3
   obtain ⟨x,rfl,-⟩ := xFX h4
   obtain ⟨a,rfl,-⟩ := xFX h5
   obtain ⟨b,rfl,-⟩ := xFX h6
   exact ⟨⟨o,nm,z,l,x,a,b⟩,rfl,trivial⟩)
  exact ⟨false,l,by simp [rows,List.flatMap]⟩
theorem xYV {a : AV} (h : Fit (.sl CEv) a) : ∃ (z : Bool) (l : List Ev),a = .sl z l.length (evs l) ∧ l.length ≤ 9223372036854775807 := by
 cases h with
 | nil => exact ⟨true,[],rfl,by simp⟩
 | @sl _ rs hn hl hr =>
  obtain ⟨l,rfl,-⟩ := xOw (f := evC) (P := fun _ => True) rs (fun r hr' => by
   have hfa : FitAll CEv r := ⟨hl r hr',hr r hr'⟩
   obtain ⟨a1,cs,rfl,h1,h'⟩ := xBz hfa
   obtain ⟨a2,cs,rfl,h2,h'⟩ := xBz h'
   obtain rfl := xKi h'
   obtain ⟨nm,rfl,-⟩ := xFX h1
   obtain ⟨z,l,rfl,-⟩ := xQd h2
   exact ⟨⟨nm,z,l⟩,rfl,trivial⟩)
  have hm : maxLen ≤ 9223372036854775807 := by decide
  refine ⟨false,l,by simp [rows,List.flatMap],?_⟩
  rw [List.length_map] at hn
  omega
section
variable {fs : List Nd} {z : Bool}
abbrev F15 (z : Bool) (fs : List Nd) (v : AV) (i : Nat) : List AV := xJu (.sl z fs.length (nds fs)) v (.int .i64 (i : Nat))
set_option maxHeartbeats 4000000 in
theorem yA3 (hl : fs.length ≤ 1000) : ∀ k i,i + k = fs.length → ∀ (G : Heap) (v : AV) (out : List Nd),out.length = i → Gn G v out → ∃ (G' : Heap) (v' : AV),
  L.loop xHN xQ7 ⟨F15 z fs v i,G⟩ = some (.exit 0,⟨F15 z fs v' fs.length,G'⟩) ∧ Gn G' v' (out ++ fs.drop i) := by
 intro k
 induction k with
 | zero =>
  intro i hi G v out ho hg
  obtain rfl : i = fs.length := by omega
  refine ⟨G,v,?_,by simpa using hg⟩
  rw [xTI]
  simp (maxSteps := 30000000) (disch := first | assumption | omega | (simp only [WZ,AV.isCell] <;> omega) | rfl | decide) only [xMF,WB,↓reduceIte,xMG]
 | succ k ih =>
  intro i hi G v out ho hg
  have hlt : i < fs.length := by omega
  have hltI : ((i : Nat) : Int) < (fs.length : Nat) := by omega
  have em : fs.drop i = fs.getD i nd0 :: fs.drop (i + 1) := xIk hlt
  rw [em]
  generalize hn : fs.getD i nd0 = n at *
  have hnv : xA3 n.z n.args = .sl n.z n.args.length (xAE n.args) := rfl
  rcases hg with ⟨rfl,rfl⟩ | ⟨o,rfl,go,hne⟩
  ·obtain ⟨G',v',e1,g1⟩ := ih (i + 1) (by omega) (G ++ [.cells false false (nds [n])]) (.own false G.length 0 1 6) [n] (by simp at ho ⊢; omega)
    (.inr ⟨G.length,rfl,by rw [List.getElem?_append_right (Nat.le_refl _),Nat.sub_self]; rfl,by simp⟩)
   refine ⟨G',v',?_,by simpa using g1⟩
   have hN : nds [n] = n.c := by simp [rows]
   rw [hN] at e1
   unfold Nd.c at e1
   rw [hnv] at e1
   rw [xTI]
   simp (maxSteps := 30000000) (disch := first | assumption | omega | (simp only [WZ,AV.isCell] <;> omega) | rfl | decide) only [xMF,WB,hltI,↓reduceIte,xAv,Nd.c,hn,hnv,AV.cells,Nat.reduceAdd,Nat.reduceMul,AV.isCell,Nat.reduceBEq,xMG,e1]
  ·have lo := xA7 go
   obtain ⟨G',v',e1,g1⟩ := ih (i + 1) (by omega) (G.set o .dead ++ [.cells false false (nds (out ++ [n]))]) (.own false G.length 0 (out.length + 1) 6) (out ++ [n]) (by simp; omega)
    (.inr ⟨G.length,by simp,by rw [List.getElem?_append_right (by simp),List.length_set,Nat.sub_self]; rfl,by simp⟩)
   refine ⟨G',v',?_,by simpa using g1⟩
   have hN : nds out ++ n.c = nds (out ++ [n]) := by rw [← xUU]; simp [rows]
   unfold Nd.c at hN
   rw [hnv] at hN
   have hnl := xAg out
   have hnt := xFf out
   generalize nds (out ++ [n]) = L2 at *
   generalize nds out = L1 at *
   rw [ho] at *
   rw [xTI]
   simp (maxSteps := 30000000) (disch := first | assumption | omega | (simp only [WZ,AV.isCell] <;> omega) | rfl | decide) only [xMF,WB,hltI,↓reduceIte,xAv,Nd.c,hn,hnv,AV.cells,Nat.reduceAdd,Nat.reduceMul,AV.isCell,go,Nat.reduceBEq,hnt,hN,xMG,e1]
set_option maxHeartbeats 4000000 in
theorem xIf (z : Bool) (fs : List Nd) (hl : fs.length ≤ 1000) : L.pcall 15 [.sl z fs.length (nds fs)] = some (.sl fs.isEmpty fs.length (nds fs)) := by
 obtain ⟨G',v',e1,g1⟩ := yA3 (z := z) hl fs.length 0 (by omega) [] (.sl true 0 []) [] rfl (.inl ⟨rfl,rfl⟩)
 rw [List.nil_append,List.drop_zero] at g1
 have e1' : L.loop xHN xQ7 ⟨xJu (.sl z fs.length (nds fs)) (.sl true 0 []) (.int .i64 0),[]⟩ = _ := e1
 rcases g1 with ⟨rfl,rfl⟩ | ⟨o,rfl,go,hne⟩
 ·show _ = some (AV.sl true 0 [])
  rw [yDx,a15,xAb]
  simp (disch := omega) only [WB,Nat.reduceSub,xMG]
  show xGk (xKL _ (xVf _ _ (xE0 0 (L.loop xHN xQ7 ⟨xJu (.sl z ([] : List Nd).length (nds [])) (.sl true 0 []) (.int .i64 0),[]⟩)))) = _
  rw [e1']
  simp (disch := omega) only [WB,↓reduceIte]
 ·have hnl := xAg fs
  have hnt := xFf fs
  have hfr := fun d H => xK9 d H fs
  have hem : fs.isEmpty = false := by
   cases fs with
   | nil => exact absurd rfl hne
   | cons _ _ => rfl
  rw [hem]
  generalize nds fs = L1 at *
  rw [yDx,a15,xAb]
  simp (disch := omega) only [WB,Nat.reduceSub,xMG,e1',↓reduceIte,xBh,go,hnt,hfr]
end
section
variable {z1 z2 : Bool} {l : List Int}
theorem yA4 (hl : l.length ≤ 1000) : ∀ k i,i + k = l.length → L.loop xJX xT5 ⟨xJY (.sl z1 l.length (xAE l)) (.sl z2 l.length (xAE l)) (.bool false) (.int .i64 (i : Nat)),[]⟩ =
  some (.exit 0,⟨xJY (.sl z1 l.length (xAE l)) (.sl z2 l.length (xAE l)) (.bool false) (.int .i64 (l.length : Nat)),[]⟩) := by
 intro k
 induction k with
 | zero =>
  intro i hi
  obtain rfl : i = l.length := by omega
  rw [xXj]
  simp (maxSteps := 30000000) (disch := first | assumption | omega | (simp only [WZ,AV.isCell] <;> omega) | rfl | decide) only [xP2,WB,↓reduceIte,xT6]
 | succ k ih =>
  intro i hi
  have hlt : ((i : Nat) : Int) < (l.length : Nat) := by omega
  have ih' := ih (i + 1) (by omega)
  generalize hx : l.getD i 0 = x at *
  rw [xXj]
  simp (maxSteps := 30000000) (disch := first | assumption | omega | (simp only [WZ,AV.isCell] <;> omega) | rfl | decide) only [xP2,WB,hlt,↓reduceIte,W2,hx,xAh,xT6,ih']
theorem yC1 (hl : l.length ≤ 1000) : L.pcall 45 [.sl z1 l.length (xAE l),.sl z2 l.length (xAE l)] = some (.bool true) := by
 have h := yA4 (z1 := z1) (z2 := z2) hl l.length 0 (by omega)
 have h' : L.loop xJX xT5 ⟨xJY (.sl z1 l.length (xAE l)) (.sl z2 l.length (xAE l)) (.bool false) (.int .i64 0),[]⟩ = _ := h
 rw [yDZ,a45,xAb]
 simp (disch := omega) only [WB,Nat.reduceAdd,Nat.reduceSub,↓reduceIte,xT6,h']
variable {fs : List Nd}
set_option maxHeartbeats 4000000 in
theorem yA5 (hl : fs.length ≤ 1000) (ha : ∀ j,j < fs.length → (fs.getD j nd0).args.length ≤ 1000) : ∀ k i,i + k = fs.length → ∀ G,∃ G',L.loop xJs xTG ⟨xJt (.sl z1 fs.length (nds fs)) (.sl z2 fs.length (nds fs)) (.bool false) (.int .i64 (i : Nat)),G⟩ =
  some (.exit 0,⟨xJt (.sl z1 fs.length (nds fs)) (.sl z2 fs.length (nds fs)) (.bool false) (.int .i64 (fs.length : Nat)),G'⟩) := by
 intro k
 induction k with
 | zero =>
  intro i hi G
  obtain rfl : i = fs.length := by omega
  refine ⟨G,?_⟩
  rw [xXe]
  simp (maxSteps := 30000000) (disch := first | assumption | omega | (simp only [WZ,AV.isCell] <;> omega) | rfl | decide) only [xPR,WB,↓reduceIte,xTH]
 | succ k ih =>
  intro i hi G
  have hlt0 : i < fs.length := by omega
  have hlt : ((i : Nat) : Int) < (fs.length : Nat) := by omega
  have hal := ha i hlt0
  obtain ⟨G',ih'⟩ := ih (i + 1) (by omega) (G ++ [.cells false false (fs.getD i nd0).c,.cells false false (fs.getD i nd0).c])
  refine ⟨G',?_⟩
  generalize hn : fs.getD i nd0 = n at *
  have h45 := yC1 (z1 := n.z) (z2 := n.z) hal
  have hnv : xA3 n.z n.args = .sl n.z n.args.length (xAE n.args) := rfl
  unfold Nd.c at ih'
  rw [hnv] at ih'
  rw [xXe]
  simp (maxSteps := 30000000) (disch := first | assumption | omega | (simp only [WZ,AV.isCell] <;> omega) | rfl | decide) only [xPR,WB,hlt,↓reduceIte,xAv,Nd.c,hn,hnv,AV.cells,AV.isCell,xAh,Nat.reduceAdd,xBD,xBX,xKk,xXF,xWH,h45,xAy,xAl,xTH,ih']
end
theorem yC2 {z1 z2 : Bool} {fs : List Nd} (hl : fs.length ≤ 1000) (ha : ∀ j,j < fs.length → (fs.getD j nd0).args.length ≤ 1000) : L.pcall 14 [.sl z1 fs.length (nds fs),.sl z2 fs.length (nds fs)] = some (.bool true) := by
 obtain ⟨G',h⟩ := yA5 (z1 := z1) (z2 := z2) hl ha fs.length 0 (by omega) []
 have h' : L.loop xJs xTG ⟨xJt (.sl z1 fs.length (nds fs)) (.sl z2 fs.length (nds fs)) (.bool false) (.int .i64 0),[]⟩ = _ := h
 rw [yDR,a14,xAb]
 simp (disch := omega) only [WB,Nat.reduceAdd,Nat.reduceSub,↓reduceIte,xTH,h']
theorem xYW {z1 z2 : Bool} {fs : List Nd} (hl : fs.length ≤ 1000) (ha : ∀ j,j < fs.length → (fs.getD j nd0).args.length ≤ 1000) : L.pcall 31 [.sl z1 fs.length (nds fs),.sl z2 fs.length (nds fs)] = some (.bool true) := by
 have h1 := xIf z1 fs hl
 have h2 := xIf z2 fs hl
 have h3 := yC2 (z1 := fs.isEmpty) (z2 := fs.isEmpty) hl ha
 rw [yDW,a31,xAb]
 simp (disch := omega) only [WB,Nat.reduceAdd,Nat.reduceSub,h1,xAy,xAl,↓reduceIte,h2,h3]
theorem xFU (op : Nat) : L.pcall 61 [.int .u8 (op : Nat)] = some (.bool (tmp op)) := by
 by_cases c1 : 8 ≤ op
 ·have d1 : (8 : Int) ≤ (op : Nat) := by omega
  by_cases c2 : op ≤ 10
  ·have d2 : ((op : Nat) : Int) ≤ 10 := by omega
   have : tmp op = true := by
    have : op = 8 ∨ op = 9 ∨ op = 10 := by omega
    rcases this with rfl | rfl | rfl <;> rfl
   rw [this,yCF,a61,xAb]
   simp (disch := omega) only [WB,Nat.reduceSub,d1,↓reduceIte,d2]
  ·have d2 : ¬ ((op : Nat) : Int) ≤ 10 := by omega
   have : tmp op = false := by
    unfold tmp
    simp; omega
   rw [this,yCF,a61,xAb]
   simp (disch := omega) only [WB,Nat.reduceSub,d1,↓reduceIte,d2]
 ·have d1 : ¬ (8 : Int) ≤ (op : Nat) := by omega
  have : tmp op = false := by
   unfold tmp
   simp; omega
  rw [this,yCF,a61,xAb]
  simp (disch := omega) only [WB,Nat.reduceSub,d1,↓reduceIte]
theorem xYX (op : Nat) : L.pcall 79 [.int .u8 (op : Nat)] = some (.int .i64 (chn op : Nat)) := by
 by_cases h : op = 0 ∨ 10 < op
 ·have hc : chn op = 0 := by
   unfold chn
   rw [if_neg (by omega),if_neg (by omega)]
  have n4 : ¬ (((op : Nat) : Int) = 4) := by omega
  have n5 : ¬ (((op : Nat) : Int) = 5) := by omega
  have n6 : ¬ (((op : Nat) : Int) = 6) := by omega
  have n7 : ¬ (((op : Nat) : Int) = 7) := by omega
  have n8 : ¬ (((op : Nat) : Int) = 8) := by omega
  have n9 : ¬ (((op : Nat) : Int) = 9) := by omega
  have n10 : ¬ (((op : Nat) : Int) = 10) := by omega
  rw [hc,yDE,a79,xAb]
  simp (disch := omega) only [WB,Nat.reduceSub,n4,↓reduceIte,n7,n8,n10,n5,n6,n9]
  try rfl
 have : op = 1 ∨ op = 2 ∨ op = 3 ∨ op = 4 ∨ op = 5 ∨ op = 6 ∨ op = 7 ∨ op = 8 ∨ op = 9 ∨ op = 10 := by omega
 rcases this with rfl | rfl | rfl | rfl | rfl | rfl | rfl | rfl | rfl | rfl <;> (rw [yDE,a79,xAb]; simp (disch := omega) only [WB,Nat.reduceSub,Int.reduceEq,↓reduceIte]; try rfl)
def Gi (G : Heap) (v : AV) (l : List Nat) : Prop := (l = [] ∧ v = .sl true 0 []) ∨ ∃ o,v = .own false o 0 l.length 1 ∧ G[o]? = some (.cells false false (xAU l)) ∧ l ≠ []
section
variable {fs : List Nd} {z : Bool} {n : Nd}
abbrev F52 (z : Bool) (fs : List Nd) (v : AV) (i : Nat) : List AV := xM1 (.sl z fs.length (nds fs)) v (.int .i64 (i : Nat))
set_option maxHeartbeats 8000000 in
theorem xUB (hl : fs.length ≤ 64) (hlt : 0 < fs.length) (hn : fs.getD 0 nd0 = n) (G : Heap) :
  L.loop xEk xKO ⟨F52 z fs (.sl true 0 []) 0,G⟩ = L.loop xEk xKO ⟨F52 z fs (.own false (G.length + 1) 0 1 1) 1,G ++ [.cells false false n.c,.cells false false (xAU [szN n []])]⟩ := by
 have hltI : (0 : Int) < (fs.length : Nat) := by omega
 have h6 : List.take 6 (nds fs) = n.c := by
  have := xAv hlt
  rw [hn] at this
  simpa using this
 unfold Nd.c at h6
 have h79 := xYX n.op
 have hnv : xA3 n.z n.args = .sl n.z n.args.length (xAE n.args) := rfl
 have hc := xDZ n.op
 unfold szN
 unfold Nd.c
 rw [hnv] at h6 ⊢
 generalize chn n.op = c at *
 rcases hc with rfl | rfl | rfl
 ·simp only [if_true]
  by_cases q1 : n.a = 0
  ·have e1 := eq_true q1
   by_cases q2 : n.b = 0
   ·have e2 := eq_true q2
    simp only [e1,e2,and_self,if_true]
    rw [xBy]
    simp (maxSteps := 30000000) (disch := first | assumption | omega | (simp only [WZ,AV.isCell] <;> omega) | rfl | decide) only [xBm,WB,hltI,↓reduceIte,Nat.reduceMul,h6,AV.cells,AV.isCell,Nat.reduceAdd,xBD,xBX,h79,xAy,xAl,e1,e2,Nat.reduceBEq,xBn]
    rfl
   ·simp only [q2,and_false,if_false]
    rw [xBy]
    simp (maxSteps := 30000000) (disch := first | assumption | omega | (simp only [WZ,AV.isCell] <;> omega) | rfl | decide) only [xBm,WB,hltI,↓reduceIte,Nat.reduceMul,h6,AV.cells,AV.isCell,Nat.reduceAdd,xBD,xBX,h79,xAy,xAl,e1,q2,Nat.reduceBEq,xBn]
    rfl
  ·simp only [q1,false_and,if_false]
   rw [xBy]
   simp (maxSteps := 30000000) (disch := first | assumption | omega | (simp only [WZ,AV.isCell] <;> omega) | rfl | decide) only [xBm,WB,hltI,↓reduceIte,Nat.reduceMul,h6,AV.cells,AV.isCell,Nat.reduceAdd,xBD,xBX,h79,xAy,xAl,q1,Nat.reduceBEq,xBn]
   rfl
 ·simp only [Nat.reduceEqDiff,if_false,List.length_nil,true_or,if_true,Nat.succ_ne_zero,Nat.one_ne_zero]
  rw [xBy]
  simp (maxSteps := 30000000) (disch := first | assumption | omega | (simp only [WZ,AV.isCell] <;> omega) | rfl | decide) only [xBm,WB,hltI,↓reduceIte,Nat.reduceMul,h6,AV.cells,AV.isCell,Nat.reduceAdd,xBD,xBX,h79,xAy,xAl,Int.reduceEq,Int.reduceLE,Nat.reduceBEq,xBn]
  rfl
 ·simp only [Nat.reduceEqDiff,if_false,List.length_nil,true_or,if_true,Nat.succ_ne_zero,Nat.one_ne_zero]
  rw [xBy]
  simp (maxSteps := 30000000) (disch := first | assumption | omega | (simp only [WZ,AV.isCell] <;> omega) | rfl | decide) only [xBm,WB,hltI,↓reduceIte,Nat.reduceMul,h6,AV.cells,AV.isCell,Nat.reduceAdd,xBD,xBX,h79,xAy,xAl,Int.reduceEq,Int.reduceLE,xAh,Nat.reduceBEq,xBn]
  rfl
set_option maxHeartbeats 8000000 in
theorem xUC {os : List Nat} {i o : Nat} {G : Heap} (hl : fs.length ≤ 64) (hi : os.length = i) (h1 : 1 ≤ i) (hlt : i < fs.length) (hn : fs.getD i nd0 = n) (hI : ∀ k,k < os.length → os.getD k 0 ≤ k + 1) (go : G[o]? = some (.cells false false (xAU os))) :
  L.loop xEk xKO ⟨F52 z fs (.own false o 0 i 1) i,G⟩ = L.loop xEk xKO ⟨F52 z fs (.own false (G.length + 1) 0 (i + 1) 1) (i + 1),G.set o .dead ++ [.cells false false n.c,.cells false false (xAU (os ++ [szN n os]))]⟩ := by
 subst hi
 generalize hi : os.length = i at *
 have hltI : ((i : Nat) : Int) < (fs.length : Nat) := by omega
 have h79 := xYX n.op
 have hnv : xA3 n.z n.args = .sl n.z n.args.length (xAE n.args) := rfl
 have hc := xDZ n.op
 have lo := xA7 go
 have hos := xBH os
 have htk : List.take i (xAU os) = xAU os := List.take_of_length_le (by omega)
 have happ : ∀ v : Nat,xAU os ++ [AV.int .i64 (v : Nat)] = xAU (os ++ [v]) := fun v => by simp [xAU]
 have g1 : (1 : Int) ≤ (i : Nat) := by omega
 have hm1 : ((i : Nat) : Int) - 1 = ((i - 1 : Nat) : Int) := by omega
 have olv := hI (i - 1) (by omega)
 unfold szN
 rw [hi]
 unfold Nd.c
 rw [hnv]
 generalize chn n.op = c at *
 rcases hc with rfl | rfl | rfl
 ·simp only [if_true]
  by_cases q1 : n.a = 0
  ·have e1 := eq_true q1
   by_cases q2 : n.b = 0
   ·have e2 := eq_true q2
    simp only [e1,e2,and_self,if_true]
    have happ : xAU os ++ [AV.int .i64 1] = xAU (os ++ [1]) := happ 1
    generalize xAU (os ++ [1]) = L2 at *
    rw [xBy]
    simp (maxSteps := 30000000) (disch := first | assumption | omega | (simp only [WZ,AV.isCell] <;> omega) | rfl | decide) only [xBm,WB,hltI,↓reduceIte,xAv,Nd.c,hn,hnv,AV.cells,AV.isCell,Nat.reduceAdd,xBD,xBX,h79,xAy,xAl,e1,e2,xAI,go,Nat.reduceBEq,xDs,htk,happ,xBn]
   ·simp only [q2,and_false,if_false]
    have happ : xAU os ++ [AV.int .i64 0] = xAU (os ++ [0]) := happ 0
    generalize xAU (os ++ [0]) = L2 at *
    rw [xBy]
    simp (maxSteps := 30000000) (disch := first | assumption | omega | (simp only [WZ,AV.isCell] <;> omega) | rfl | decide) only [xBm,WB,hltI,↓reduceIte,xAv,Nd.c,hn,hnv,AV.cells,AV.isCell,Nat.reduceAdd,xBD,xBX,h79,xAy,xAl,e1,q2,xAI,go,Nat.reduceBEq,xDs,htk,happ,xBn]
  ·simp only [q1,false_and,if_false]
   have happ : xAU os ++ [AV.int .i64 0] = xAU (os ++ [0]) := happ 0
   generalize xAU (os ++ [0]) = L2 at *
   rw [xBy]
   simp (maxSteps := 30000000) (disch := first | assumption | omega | (simp only [WZ,AV.isCell] <;> omega) | rfl | decide) only [xBm,WB,hltI,↓reduceIte,xAv,Nd.c,hn,hnv,AV.cells,AV.isCell,Nat.reduceAdd,xBD,xBX,h79,xAy,xAl,q1,xAI,go,Nat.reduceBEq,xDs,htk,happ,xBn]
 ·rw [if_neg (by omega)]
  by_cases hv0 : os.getD (i - 1) 0 = 0
  ·rw [if_pos (.inr hv0)]
   by_cases q1 : n.a = ((i - 1 : Nat) : Int)
   ·have e1 := eq_true q1
    by_cases q2 : n.b = 0
    ·have e2 := eq_true q2
     have happ : xAU os ++ [AV.int .i64 0] = xAU (os ++ [0]) := happ 0
     generalize xAU (os ++ [0]) = L2 at *
     rw [xBy]
     simp (maxSteps := 30000000) (disch := first | assumption | omega | (simp only [WZ,AV.isCell] <;> omega) | rfl | decide) only [xBm,WB,hltI,↓reduceIte,xAv,Nd.c,hn,hnv,AV.cells,AV.isCell,Nat.reduceAdd,xBD,xBX,h79,xAy,xAl,Int.reduceEq,g1,hm1,e1,e2,xAI,go,hv0,Nat.reduceBEq,xDs,htk,happ,xBn]
    ·skip
     have happ : xAU os ++ [AV.int .i64 0] = xAU (os ++ [0]) := happ 0
     generalize xAU (os ++ [0]) = L2 at *
     rw [xBy]
     simp (maxSteps := 30000000) (disch := first | assumption | omega | (simp only [WZ,AV.isCell] <;> omega) | rfl | decide) only [xBm,WB,hltI,↓reduceIte,xAv,Nd.c,hn,hnv,AV.cells,AV.isCell,Nat.reduceAdd,xBD,xBX,h79,xAy,xAl,Int.reduceEq,g1,hm1,e1,q2,xAI,go,Nat.reduceBEq,xDs,htk,happ,xBn]
   ·skip
    have happ : xAU os ++ [AV.int .i64 0] = xAU (os ++ [0]) := happ 0
    generalize xAU (os ++ [0]) = L2 at *
    rw [xBy]
    simp (maxSteps := 30000000) (disch := first | assumption | omega | (simp only [WZ,AV.isCell] <;> omega) | rfl | decide) only [xBm,WB,hltI,↓reduceIte,xAv,Nd.c,hn,hnv,AV.cells,AV.isCell,Nat.reduceAdd,xBD,xBX,h79,xAy,xAl,Int.reduceEq,g1,hm1,q1,xAI,go,Nat.reduceBEq,xDs,htk,happ,xBn]
  rw [if_neg (by omega),if_pos rfl]
  generalize hv : os.getD (i - 1) 0 = v at *
  have gv : (0 : Int) < (v : Nat) := by omega
  by_cases q1 : n.a = ((i - 1 : Nat) : Int)
  ·have e1 := eq_true q1
   by_cases q2 : n.b = 0
   ·have e2 := eq_true q2
    rw [if_pos ⟨q1,q2⟩]
    have happ : xAU os ++ [AV.int .i64 (1 + ((v : Nat) : Int))] = xAU (os ++ [1 + v]) := by rw [show (1 + ((v : Nat) : Int)) = ((1 + v : Nat) : Int) by omega]; exact happ _
    generalize xAU (os ++ [1 + v]) = L2 at *
    rw [xBy]
    simp (maxSteps := 30000000) (disch := first | assumption | omega | (simp only [WZ,AV.isCell] <;> omega) | rfl | decide) only [xBm,WB,hltI,↓reduceIte,xAv,Nd.c,hn,hnv,AV.cells,AV.isCell,Nat.reduceAdd,xBD,xBX,h79,xAy,xAl,Int.reduceEq,g1,hm1,e1,e2,xAI,go,hv,gv,Nat.reduceBEq,xDs,htk,happ,xBn]
   ·rw [if_neg fun q => q2 q.2]
    have happ : xAU os ++ [AV.int .i64 0] = xAU (os ++ [0]) := happ 0
    generalize xAU (os ++ [0]) = L2 at *
    rw [xBy]
    simp (maxSteps := 30000000) (disch := first | assumption | omega | (simp only [WZ,AV.isCell] <;> omega) | rfl | decide) only [xBm,WB,hltI,↓reduceIte,xAv,Nd.c,hn,hnv,AV.cells,AV.isCell,Nat.reduceAdd,xBD,xBX,h79,xAy,xAl,Int.reduceEq,g1,hm1,e1,q2,xAI,go,Nat.reduceBEq,xDs,htk,happ,xBn]
  ·rw [if_neg fun q => q1 q.1]
   have happ : xAU os ++ [AV.int .i64 0] = xAU (os ++ [0]) := happ 0
   generalize xAU (os ++ [0]) = L2 at *
   rw [xBy]
   simp (maxSteps := 30000000) (disch := first | assumption | omega | (simp only [WZ,AV.isCell] <;> omega) | rfl | decide) only [xBm,WB,hltI,↓reduceIte,xAv,Nd.c,hn,hnv,AV.cells,AV.isCell,Nat.reduceAdd,xBD,xBX,h79,xAy,xAl,Int.reduceEq,g1,hm1,q1,xAI,go,Nat.reduceBEq,xDs,htk,happ,xBn]
 ·rw [if_neg (by omega)]
  by_cases g2 : 2 ≤ i
  case neg =>
   have g2' : ¬ (2 : Int) ≤ (i : Nat) := by omega
   have hz : (if i = 0 ∨ os.getD (i - 1) 0 = 0 then 0 else if 2 = 1 then (if n.a = ((i - 1 : Nat) : Int) ∧ n.b = 0 then 1 + os.getD (i - 1) 0 else 0)
     else if i - os.getD (i - 1) 0 = 0 ∨ os.getD (i - os.getD (i - 1) 0 - 1) 0 = 0 then 0
     else if n.a = ((i - os.getD (i - 1) 0 - 1 : Nat) : Int) ∧ n.b = ((i - 1 : Nat) : Int) then 1 + os.getD (i - 1) 0 + os.getD (i - os.getD (i - 1) 0 - 1) 0 else 0) = 0 := by
    split
    ·rfl
    rw [if_neg (by omega),if_pos (by omega)]
   rw [hz]
   have happ : xAU os ++ [AV.int .i64 0] = xAU (os ++ [0]) := happ 0
   generalize xAU (os ++ [0]) = L2 at *
   rw [xBy]
   simp (maxSteps := 30000000) (disch := first | assumption | omega | (simp only [WZ,AV.isCell] <;> omega) | rfl | decide) only [xBm,WB,hltI,↓reduceIte,xAv,Nd.c,hn,hnv,AV.cells,AV.isCell,Nat.reduceAdd,xBD,xBX,h79,xAy,xAl,Int.reduceEq,g2',xAh,xAI,go,Nat.reduceBEq,xDs,htk,happ,xBn]
  have g2' : (2 : Int) ≤ (i : Nat) := by omega
  by_cases q2 : n.b = ((i - 1 : Nat) : Int)
  case neg =>
   have hz : (if i = 0 ∨ os.getD (i - 1) 0 = 0 then 0 else if 2 = 1 then (if n.a = ((i - 1 : Nat) : Int) ∧ n.b = 0 then 1 + os.getD (i - 1) 0 else 0)
     else if i - os.getD (i - 1) 0 = 0 ∨ os.getD (i - os.getD (i - 1) 0 - 1) 0 = 0 then 0
     else if n.a = ((i - os.getD (i - 1) 0 - 1 : Nat) : Int) ∧ n.b = ((i - 1 : Nat) : Int) then 1 + os.getD (i - 1) 0 + os.getD (i - os.getD (i - 1) 0 - 1) 0 else 0) = 0 := by
    split
    ·rfl
    rw [if_neg (by omega)]
    split
    ·rfl
    rw [if_neg fun q => q2 q.2]
   rw [hz]
   have happ : xAU os ++ [AV.int .i64 0] = xAU (os ++ [0]) := happ 0
   generalize xAU (os ++ [0]) = L2 at *
   rw [xBy]
   simp (maxSteps := 30000000) (disch := first | assumption | omega | (simp only [WZ,AV.isCell] <;> omega) | rfl | decide) only [xBm,WB,hltI,↓reduceIte,xAv,Nd.c,hn,hnv,AV.cells,AV.isCell,Nat.reduceAdd,xBD,xBX,h79,xAy,xAl,Int.reduceEq,g2',hm1,q2,xAh,xAI,go,Nat.reduceBEq,xDs,htk,happ,xBn]
  have e2 := eq_true q2
  by_cases hv0 : os.getD (i - 1) 0 = 0
  ·rw [if_pos (.inr hv0)]
   have happ : xAU os ++ [AV.int .i64 0] = xAU (os ++ [0]) := happ 0
   generalize xAU (os ++ [0]) = L2 at *
   rw [xBy]
   simp (maxSteps := 30000000) (disch := first | assumption | omega | (simp only [WZ,AV.isCell] <;> omega) | rfl | decide) only [xBm,WB,hltI,↓reduceIte,xAv,Nd.c,hn,hnv,AV.cells,AV.isCell,Nat.reduceAdd,xBD,xBX,h79,xAy,xAl,Int.reduceEq,g2',hm1,e2,xAI,go,hv0,xAh,Nat.reduceBEq,xDs,htk,happ,xBn]
  rw [if_neg (by omega),if_neg (by omega)]
  generalize hv : os.getD (i - 1) 0 = v at *
  have gv : (0 : Int) < (v : Nat) := by omega
  by_cases hf : i - v = 0
  ·rw [if_pos (.inl hf)]
   by_cases q1 : n.a = ((i - 1 : Nat) : Int) - (v : Nat)
   ·have e1 := eq_true q1
    have q3 : ¬ (0 : Int) ≤ n.a := by omega
    have happ : xAU os ++ [AV.int .i64 0] = xAU (os ++ [0]) := happ 0
    generalize xAU (os ++ [0]) = L2 at *
    rw [xBy]
    simp (maxSteps := 30000000) (disch := first | assumption | omega | (simp only [WZ,AV.isCell] <;> omega) | rfl | decide) only [xBm,WB,hltI,↓reduceIte,xAv,Nd.c,hn,hnv,AV.cells,AV.isCell,Nat.reduceAdd,xBD,xBX,h79,xAy,xAl,Int.reduceEq,g2',hm1,e2,xAI,go,hv,gv,e1,q3,xAh,Nat.reduceBEq,xDs,htk,happ,xBn]
   ·skip
    have happ : xAU os ++ [AV.int .i64 0] = xAU (os ++ [0]) := happ 0
    generalize xAU (os ++ [0]) = L2 at *
    rw [xBy]
    simp (maxSteps := 30000000) (disch := first | assumption | omega | (simp only [WZ,AV.isCell] <;> omega) | rfl | decide) only [xBm,WB,hltI,↓reduceIte,xAv,Nd.c,hn,hnv,AV.cells,AV.isCell,Nat.reduceAdd,xBD,xBX,h79,xAy,xAl,Int.reduceEq,g2',hm1,e2,xAI,go,hv,gv,q1,xAh,Nat.reduceBEq,xDs,htk,happ,xBn]
  have hsub : ((i - 1 : Nat) : Int) - (v : Nat) = ((i - v - 1 : Nat) : Int) := by omega
  have olw := hI (i - v - 1) (by omega)
  by_cases q1 : n.a = ((i - v - 1 : Nat) : Int)
  case neg =>
   have hz : (if i - v = 0 ∨ os.getD (i - v - 1) 0 = 0 then 0
     else if n.a = ((i - v - 1 : Nat) : Int) ∧ n.b = ((i - 1 : Nat) : Int) then 1 + v + os.getD (i - v - 1) 0 else 0) = 0 := by
    split
    ·rfl
    rw [if_neg fun q => q1 q.1]
   rw [hz]
   have happ : xAU os ++ [AV.int .i64 0] = xAU (os ++ [0]) := happ 0
   generalize xAU (os ++ [0]) = L2 at *
   rw [xBy]
   simp (maxSteps := 30000000) (disch := first | assumption | omega | (simp only [WZ,AV.isCell] <;> omega) | rfl | decide) only [xBm,WB,hltI,↓reduceIte,xAv,Nd.c,hn,hnv,AV.cells,AV.isCell,Nat.reduceAdd,xBD,xBX,h79,xAy,xAl,Int.reduceEq,g2',hm1,e2,xAI,go,hv,gv,hsub,q1,xAh,Nat.reduceBEq,xDs,htk,happ,xBn]
  obtain ⟨op,name,za,args,x,a,b⟩ := n
  simp only at *
  subst q1
  have q3 : (0 : Int) ≤ ((i - v - 1 : Nat) : Int) := by omega
  by_cases hw0 : os.getD (i - v - 1) 0 = 0
  ·rw [if_pos (.inr hw0)]
   have happ : xAU os ++ [AV.int .i64 0] = xAU (os ++ [0]) := happ 0
   generalize xAU (os ++ [0]) = L2 at *
   rw [xBy]
   simp (maxSteps := 30000000) (disch := first | assumption | omega | (simp only [WZ,AV.isCell] <;> omega) | rfl | decide) only [xBm,WB,hltI,↓reduceIte,xAv,Nd.c,hn,hnv,AV.cells,AV.isCell,Nat.reduceAdd,xBD,xBX,h79,xAy,xAl,Int.reduceEq,g2',hm1,e2,xAI,go,hv,gv,hsub,q3,xAh,hw0,Nat.reduceBEq,xDs,htk,happ,xBn]
  rw [if_neg (by omega),if_pos ⟨rfl,q2⟩]
  generalize hw : os.getD (i - v - 1) 0 = w at *
  have gw : (0 : Int) < (w : Nat) := by omega
  have happ : xAU os ++ [AV.int .i64 (1 + ((v : Nat) : Int) + ((w : Nat) : Int))] = xAU (os ++ [1 + v + w]) := by rw [show (1 + ((v : Nat) : Int) + ((w : Nat) : Int)) = ((1 + v + w : Nat) : Int) by omega]; exact happ _
  generalize xAU (os ++ [1 + v + w]) = L2 at *
  rw [xBy]
  simp (maxSteps := 30000000) (disch := first | assumption | omega | (simp only [WZ,AV.isCell] <;> omega) | rfl | decide) only [xBm,WB,hltI,↓reduceIte,xAv,Nd.c,hn,hnv,AV.cells,AV.isCell,Nat.reduceAdd,xBD,xBX,h79,xAy,xAl,Int.reduceEq,g2',hm1,e2,xAI,go,hv,gv,hsub,q3,xAh,hw,gw,Nat.reduceBEq,xDs,htk,happ,xBn]
end
section
variable {fs : List Nd} {z : Bool}
theorem yA6 (hl : fs.length ≤ 64) : ∀ (rest : List Nd) (i : Nat) (os : List Nat) (G : Heap) (v : AV),fs.drop i = rest → os.length = i → i ≤ fs.length → (∀ k,k < os.length → os.getD k 0 ≤ k + 1) → Gi G v os →
  ∃ G' v',L.loop xEk xKO ⟨F52 z fs v i,G⟩ = some (.exit 0,⟨F52 z fs v' fs.length,G'⟩) ∧ Gi G' v' (szs rest os) := by
 intro rest
 induction rest with
 | nil =>
  intro i os G v hd hi hle hI hg
  obtain rfl : i = fs.length := by
   have := congrArg List.length hd
   simp at this; omega
  refine ⟨G,v,?_,hg⟩
  rw [xBy]
  simp (disch := omega) only [xBm,WB,↓reduceIte,xBn]
 | cons n rest ih =>
  intro i os G v hd hi hle hI hg
  have hlt : i < fs.length := by
   have := congrArg List.length hd
   simp at this; omega
  have hd' : fs.drop (i + 1) = rest := by rw [← List.drop_drop,hd]; rfl
  have hn : fs.getD i nd0 = n := by
   rw [List.drop_eq_getElem_cons hlt] at hd
   rw [List.getD_eq_getElem?_getD,List.getElem?_eq_getElem hlt]
   exact (List.cons.inj hd).1
  rcases hg with ⟨rfl,rfl⟩ | ⟨o,rfl,go,hne⟩
  ·obtain rfl : i = 0 := by simpa using hi.symm
   obtain ⟨G',v',e1,g1⟩ := ih 1 [szN n []] (G ++ [.cells false false n.c,.cells false false (xAU [szN n []])]) (.own false (G.length + 1) 0 1 1) hd' rfl hlt (by simpa using xLd (n := n) hI)
    (.inr ⟨G.length + 1,rfl,by rw [List.getElem?_append_right (by omega)]; simp,by simp⟩)
   exact ⟨G',v',(xUB hl hlt hn G).trans e1,g1⟩
  ·have h1 : 1 ≤ i := by
    rw [← hi]
    cases os with
    | nil => exact absurd rfl hne
    | cons _ _ => simp
   obtain ⟨G',v',e1,g1⟩ := ih (i + 1) (os ++ [szN n os]) (G.set o .dead ++ [.cells false false n.c,.cells false false (xAU (os ++ [szN n os]))]) (.own false (G.length + 1) 0 (i + 1) 1) hd' (by simp [hi]) hlt (xLd hI)
    (.inr ⟨G.length + 1,by simp [hi],by rw [List.getElem?_append_right (by simp)]; simp,by simp⟩)
   rw [hi]
   exact ⟨G',v',(xUC hl hi h1 hlt hn hI go).trans e1,g1⟩
set_option maxHeartbeats 4000000 in
theorem xYY (hl : fs.length ≤ 64) : L.pcall 52 [.sl z fs.length (nds fs)] = some (.sl fs.isEmpty fs.length (xAU (szs fs []))) := by
 obtain ⟨G',v',e1,g1⟩ := yA6 (z := z) hl fs 0 [] [] (.sl true 0 []) rfl rfl (by omega) (by simp) (.inl ⟨rfl,rfl⟩)
 have e1' : L.loop xEk xKO ⟨xM1 (.sl z fs.length (nds fs)) (.sl true 0 []) (.int .i64 0),[]⟩ = _ := e1
 have hsl := xF2 fs []
 simp only [List.length_nil,Nat.zero_add] at hsl
 generalize szs fs [] = os at *
 rcases g1 with ⟨rfl,rfl⟩ | ⟨o,rfl,go,hne⟩
 ·have hr : AV.sl fs.isEmpty fs.length (xAU []) = .sl true 0 [] := by
   have : fs = [] := List.eq_nil_of_length_eq_zero (by simpa using hsl.symm)
   subst this; rfl
  rw [hr]
  rw [yDC,a52,xAb]
  simp (disch := omega) only [WB,Nat.reduceSub,xBn,e1',↓reduceIte]
 ·have hem : fs.isEmpty = false := by
   cases fs with
   | nil => simp at hsl; exact absurd hsl hne
   | cons _ _ => rfl
  rw [hem]
  have hos := xBH os
  have htk : List.take os.length (xAU os) = xAU os := List.take_of_length_le (by omega)
  have hfr := fun d H => xGE d H os
  rw [hsl] at *
  generalize xAU os = L1 at *
  rw [yDC,a52,xAb]
  simp (disch := omega) only [WB,Nat.reduceSub,xBn,e1',↓reduceIte,xBh,go,htk,hfr]
def bdA (bd : Nat) : List AV := [.bool (bd.testBit 0),.bool (bd.testBit 1),.bool (bd.testBit 2)]
theorem yA7 (bd : Nat) {k : Nat} (h : k < 3) : List.take 1 (List.drop k (bdA bd)) = [.bool (bd.testBit k)] := by
 have : k = 0 ∨ k = 1 ∨ k = 2 := by omega
 rcases this with rfl | rfl | rfl <;> rfl
theorem xYZ {bd : Nat} (hb : bd < 8) {k : Nat} (h : k < 3) : List.take k (bdA bd) ++ (.bool true :: List.drop (k + 1) (bdA bd)) = bdA (bd ||| 2 ^ k) := by
 have hk : k = 0 ∨ k = 1 ∨ k = 2 := by omega
 have hb' : bd = 0 ∨ bd = 1 ∨ bd = 2 ∨ bd = 3 ∨ bd = 4 ∨ bd = 5 ∨ bd = 6 ∨ bd = 7 := by omega
 rcases hk with rfl | rfl | rfl <;> rcases hb' with rfl | rfl | rfl | rfl | rfl | rfl | rfl | rfl <;> rfl
variable {bd p b : Nat} {G : Heap} {s0 : AV} {n : Nd}
set_option maxHeartbeats 4000000 in
theorem yA8 (hl : n.args.length ≤ 100) (har : ∀ t ∈ n.args,0 ≤ t ∧ t ≤ 10) (gb : G[b]? = some (.cells false false (bdA bd))) (gp : G[p]? = some (.cells false false n.c)) : ∀ k i,i + k = n.args.length → ∃ i' : Nat,
  L.loop xJW xT4 ⟨xHZ s0 (.ptr b 0) (.bool false) (.ptr p 0) (.int .i64 (i : Nat)),G⟩ =
   some (if xUP bd (n.args.drop i) = true then (.ret,⟨xHZ s0 (.ptr b 0) (.bool true) (.ptr p 0) (.int .i64 (i' : Nat)),G⟩)
    else (.exit 0,⟨xHZ s0 (.ptr b 0) (.bool false) (.ptr p 0) (.int .i64 (i' : Nat)),G⟩)) := by
 have hnv : xA3 n.z n.args = .sl n.z n.args.length (xAE n.args) := rfl
 unfold Nd.c at gp
 rw [hnv] at gp
 intro k
 induction k with
 | zero =>
  intro i hi
  obtain rfl : i = n.args.length := by omega
  refine ⟨n.args.length,?_⟩
  rw [if_neg (by rw [List.drop_length]; simp [xUP]),xP1]
  simp (maxSteps := 30000000) (disch := first | assumption | omega | (simp only [WZ,AV.isCell] <;> omega) | rfl | decide) only [xJV,WB,gp,↓reduceIte,xDq]
 | succ k ih =>
  intro i hi'
  have hlt : (i : Int) < (n.args.length : Nat) := by omega
  have hl1 : i < n.args.length := by omega
  obtain ⟨i',ih'⟩ := ih (i + 1) (by omega)
  have em : xUP bd (n.args.drop i) = ((decide (8 ≤ n.args.getD i 0) && !(bd.testBit ((n.args.getD i 0).toNat - 8))) || xUP bd (n.args.drop (i + 1))) := by
   rw [List.drop_eq_getElem_cons hl1,List.getD_eq_getElem?_getD,List.getElem?_eq_getElem hl1]
   rfl
  have hm : n.args.getD i 0 ∈ n.args := by rw [List.getD_eq_getElem?_getD,List.getElem?_eq_getElem hl1]; exact List.getElem_mem hl1
  have hr := har _ hm
  rw [em]
  generalize hN : n.args.getD i 0 = t at *
  by_cases c1 : 8 ≤ t
  ·obtain ⟨k8,hk8⟩ : ∃ k8 : Nat,t = ((k8 + 8 : Nat) : Int) := ⟨(t - 8).toNat,by omega⟩
   subst hk8
   have hs : (((k8 + 8 : Nat) : Int) - 8) = ((k8 : Nat) : Int) := by omega
   have hk3 : k8 < 3 := by omega
   have hat := yA7 bd hk3
   have hto : ((((k8 + 8 : Nat) : Int)).toNat - 8) = k8 := by omega
   have hbl : (bdA bd).length = 3 := rfl
   have hk3i : ((k8 : Nat) : Int) < 3 := by omega
   rw [hto]
   cases hbit : bd.testBit k8 with
   | true =>
    rw [hbit] at hat
    simp only [c1,decide_true,Bool.true_and,Bool.not_true,Bool.false_or]
    refine ⟨i',?_⟩
    generalize bdA bd = BD at *
    rw [xP1]
    simp (maxSteps := 30000000) (disch := first | assumption | omega | (simp only [WZ,AV.isCell] <;> omega) | rfl | decide) only [xJV,WB,gp,hlt,↓reduceIte,W2,hN,c1,hs,WA,gb,hat,xDq,ih']
   | false =>
    rw [hbit] at hat
    simp only [c1,decide_true,Bool.true_and,Bool.not_false,Bool.true_or,if_true]
    refine ⟨i,?_⟩
    generalize bdA bd = BD at *
    rw [xP1]
    simp (maxSteps := 30000000) (disch := first | assumption | omega | (simp only [WZ,AV.isCell] <;> omega) | rfl | decide) only [xJV,WB,gp,hlt,↓reduceIte,W2,hN,c1,hs,WA,gb,hat,xDq]
  ·simp only [c1,decide_false,Bool.false_and,Bool.false_or]
   refine ⟨i',?_⟩
   rw [xP1]
   simp (maxSteps := 30000000) (disch := first | assumption | omega | (simp only [WZ,AV.isCell] <;> omega) | rfl | decide) only [xJV,WB,gp,hlt,↓reduceIte,W2,hN,c1,xDq,ih']
end
theorem xUD (d : Nat) (H : Heap) (bd : Nat) : (bdA bd).mapM (frz d H) = some (bdA bd) := by simp [bdA,List.mapM_cons,xE2]
theorem xUE (d : Nat) (H : Heap) (bd : Nat) : (bdA bd).flatMap (bor d H) = [] := by simp [bdA,xGD]
section
variable {fz : Bool} {fs : List Nd}
set_option maxHeartbeats 8000000 in
theorem yA9 (hlen : fs.length ≤ 64) (hV : ∀ j,j < fs.length → Vn j (fs.getD j nd0)) : ∀ (k i bd : Nat),i < k → i < fs.length → bd < 8 →
  L.pcall 44 [.sl fz fs.length (nds fs),.int .i64 (i : Nat),.agg (bdA bd)] = some (.bool (opn fs k i bd)) := by
 intro k
 induction k with
 | zero => intro i bd h; omega
 | succ k ih =>
  intro i bd hik hi hbd
  have hv := hV i hi
  rw [opn]
  generalize hn : fs.getD i nd0 = n at *
  obtain ⟨i',e1⟩ := yA8 (s0 := .sl fz fs.length (nds fs)) (b := 0) (p := 1) (n := n) (bd := bd) (G := [.cells false false (bdA bd),.cells false false n.c]) hv.al hv.ar rfl rfl n.args.length 0 (by omega)
  rw [List.drop_zero] at e1
  have h79 := xYX n.op
  have hnv : xA3 n.z n.args = .sl n.z n.args.length (xAE n.args) := rfl
  unfold Nd.c at e1
  rw [hnv] at e1
  have e1' : L.loop xJW xT4 ⟨xHZ (.sl fz fs.length (nds fs)) (.ptr 0 0) (.bool false) (.ptr 1 0) (.int .i64 0),[.cells false false (bdA bd),.cells false false [.int .u8 (n.op : Nat),.int .i64 n.name,.sl n.z n.args.length (xAE n.args),.int .i64 n.x,.int .i64 n.a,.int .i64 n.b]]⟩ = _ := e1
  have hbl3 : (bdA bd).length = 3 := rfl
  have hbt3 : List.take 3 (bdA bd) = bdA bd := rfl
  have hcl : (bdA bd).all AV.isCell = true := rfl
  have hf3 := fun d H => xUD d H bd
  have hb3 := fun d H => xUE d H bd
  cases hA : xUP bd n.args with
  | true =>
   rw [hA] at e1'
   simp only [if_true,Bool.true_or] at e1' ⊢
   generalize bdA bd = BD at *
   rw [xXp,a44,xAb]
   simp (maxSteps := 30000000) (disch := first | assumption | omega | (simp only [WZ,AV.isCell] <;> omega) | rfl | decide) only [WB,Nat.reduceAdd,Nat.reduceSub,AV.cells,hcl,↓reduceIte,xAv,Nd.c,hn,hnv,AV.isCell,xDq,e1']
  | false =>
   rw [hA] at e1'
   simp only [Bool.false_eq_true,if_false,Bool.false_or] at e1' ⊢
   have hbl := xXA hv hbd
   have hrec : ∀ j : Nat,j < i → L.pcall 44 [.sl fz fs.length (nds fs),.int .i64 (j : Nat),.agg (bdA (bnd n bd))] = some (.bool (opn fs k j (bnd n bd))) := fun j hj => ih j _ (by omega) (by omega) hbl
   have hca := hv.ca
   have hcb := hv.cb
   have hc2 := xDZ n.op
   by_cases c7 : n.op = 7
   ·have c7' : (((n.op : Nat) : Int) = 7) = True := eq_true (by omega)
    have hx := hv.ex c7
    have hc1 : chn n.op = 1 := by rw [c7]; rfl
    have ha := xAD (hca (by omega))
    have hra := hrec _ ha.2
    rw [← ha.1] at hra
    obtain ⟨k8,hk8,hk3⟩ : ∃ k8 : Nat,n.x - 8 = (k8 : Nat) ∧ k8 < 3 := ⟨(n.x - 8).toNat,by omega,by omega⟩
    have hbe : bnd n bd = bd ||| 2 ^ k8 := by
     unfold bnd
     rw [if_pos c7,show n.x.toNat - 8 = k8 by omega]
    have hset := xYZ hbd hk3
    rw [← hbe] at hset
    have hk3i : ((k8 : Nat) : Int) < 3 := by omega
    have hbl4 : (bdA (bnd n bd)).length = 3 := rfl
    have hf4 := fun d H => xUD d H (bnd n bd)
    have hb4 := fun d H => xUE d H (bnd n bd)
    have hcl4 : (bdA (bnd n bd)).all AV.isCell = true := rfl
    have hbt4 : List.take 3 (bdA (bnd n bd)) = bdA (bnd n bd) := rfl
    rw [hc1] at h79 ⊢
    generalize opn fs k n.a.toNat (bnd n bd) = r at *
    generalize bdA (bnd n bd) = BD2 at *
    generalize bdA bd = BD at *
    cases r with
    | true =>
     rw [xXp,a44,xAb]
     simp (maxSteps := 30000000) (disch := first | assumption | omega | (simp only [WZ,AV.isCell] <;> omega) | rfl | decide) only [WB,Nat.reduceAdd,Nat.reduceSub,AV.cells,hcl,↓reduceIte,xAv,Nd.c,hn,hnv,AV.isCell,xDq,e1',c7',hk8,WA,hset,h79,xAy,xAl,Int.reduceLT,hbt4,hf4,hra,Nat.reduceLT]
    | false =>
     rw [xXp,a44,xAb]
     simp (maxSteps := 30000000) (disch := first | assumption | omega | (simp only [WZ,AV.isCell] <;> omega) | rfl | decide) only [WB,Nat.reduceAdd,Nat.reduceSub,AV.cells,hcl,↓reduceIte,xAv,Nd.c,hn,hnv,AV.isCell,xDq,e1',c7',hk8,WA,hset,h79,xAy,xAl,Int.reduceLT,hbt4,hf4,hra,Nat.reduceLT]
   ·have c7' : ¬ ((n.op : Nat) : Int) = 7 := by omega
    have hbe : bnd n bd = bd := by unfold bnd; rw [if_neg c7]
    rw [hbe] at hrec ⊢
    rcases hc2 with hc | hc | hc
    ·rw [hc] at h79 ⊢
     generalize bdA bd = BD at *
     rw [xXp,a44,xAb]
     simp (maxSteps := 30000000) (disch := first | assumption | omega | (simp only [WZ,AV.isCell] <;> omega) | rfl | decide) only [WB,Nat.reduceAdd,Nat.reduceSub,AV.cells,hcl,↓reduceIte,xAv,Nd.c,hn,hnv,AV.isCell,xDq,e1',c7',h79,xAy,xAl,Int.reduceLT,Nat.reduceLT]
    ·have ha := xAD (hca (by omega))
     have hra := hrec _ ha.2
     rw [← ha.1] at hra
     rw [hc] at h79 ⊢
     generalize opn fs k n.a.toNat bd = r at *
     generalize bdA bd = BD at *
     cases r with
     | true =>
      rw [xXp,a44,xAb]
      simp (maxSteps := 30000000) (disch := first | assumption | omega | (simp only [WZ,AV.isCell] <;> omega) | rfl | decide) only [WB,Nat.reduceAdd,Nat.reduceSub,AV.cells,hcl,↓reduceIte,xAv,Nd.c,hn,hnv,AV.isCell,xDq,e1',c7',h79,xAy,xAl,Int.reduceLT,hbt3,hf3,hra,Nat.reduceLT]
     | false =>
      rw [xXp,a44,xAb]
      simp (maxSteps := 30000000) (disch := first | assumption | omega | (simp only [WZ,AV.isCell] <;> omega) | rfl | decide) only [WB,Nat.reduceAdd,Nat.reduceSub,AV.cells,hcl,↓reduceIte,xAv,Nd.c,hn,hnv,AV.isCell,xDq,e1',c7',h79,xAy,xAl,Int.reduceLT,hbt3,hf3,hra,Nat.reduceLT]
    ·have ha := xAD (hca (by omega))
     have hra := hrec _ ha.2
     rw [← ha.1] at hra
     have hb := xAD (hcb hc)
     have hrb := hrec _ hb.2
     rw [← hb.1] at hrb
     rw [hc] at h79 ⊢
     generalize opn fs k n.a.toNat bd = r at *
     generalize opn fs k n.b.toNat bd = r2 at *
     generalize bdA bd = BD at *
     cases r with
     | true =>
      rw [xXp,a44,xAb]
      simp (maxSteps := 30000000) (disch := first | assumption | omega | (simp only [WZ,AV.isCell] <;> omega) | rfl | decide) only [WB,Nat.reduceAdd,Nat.reduceSub,AV.cells,hcl,↓reduceIte,xAv,Nd.c,hn,hnv,AV.isCell,xDq,e1',c7',h79,xAy,xAl,Int.reduceLT,hbt3,hf3,hra,Nat.reduceLT]
     | false =>
      rw [xXp,a44,xAb]
      simp (maxSteps := 30000000) (disch := first | assumption | omega | (simp only [WZ,AV.isCell] <;> omega) | rfl | decide) only [WB,Nat.reduceAdd,Nat.reduceSub,AV.cells,hcl,↓reduceIte,xAv,Nd.c,hn,hnv,AV.isCell,xDq,e1',c7',h79,xAy,xAl,Int.reduceLT,hbt3,hf3,hra,hrb,Nat.reduceLT]
end
end Go.Abs.Events
