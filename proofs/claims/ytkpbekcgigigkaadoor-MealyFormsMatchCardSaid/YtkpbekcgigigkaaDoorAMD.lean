/- Equal: its inner loop. -/
import Derived.Test.YtkpbekcgigigkaaDoorAbsBun
import Derived.Test.YtkpbekcgigigkaaDoorAMC
import Derived.Test.YtkpbekcgigigkaaDoorAMB
namespace Go.Abs.Mealy
open Go Go.Abs
set_option linter.unusedSimpArgs false
set_option linter.unusedVariables false
def wv (l : List Nat) : AV := xQT l.isEmpty l
theorem xUL {l : List (List Nat)} {i : Nat} (h : i < l.length) : List.take 1 (List.drop i (l.map wv)) = [wv (l.getD i [])] := xDK _ _ h
theorem yCq (l : List (List Nat)) : List.take l.length (l.map wv) = l.map wv := List.take_of_length_le (by simp)
theorem xYV (u : List Nat) (x : Nat) : wv (u ++ [x]) = .sl false (u.length + 1) (bs (u ++ [x])) := by
 unfold wv xQT
 simp
theorem yD6 (u : List Nat) (x : Nat) (hu : u.length < 1099511627) : xBj L 76 [.sl false 2 [.sl u.isEmpty u.length (bs u),.sl false 1 [.int .u8 (x : Nat)]]] = some (.own false 0 0 (u.length + 1) 1,[.cells false false (bs (u ++ [x]))]) := by
 have h := xUG u.isEmpty false u [x] (by omega) (by simp) (by simp)
 exact h
def TA (G : Heap) (v : List Nat) : Prop := ∃ pv,15 ≤ pv ∧ G[2]? = some (.cells false false [.own false pv 0 v.length 1]) ∧ G[pv]? = some (.cells false false (bs v))
theorem TA.set14 {G : Heap} {v : List Nat} (h : TA G v) (b : Blk) : TA (G.set 14 b) v := by
 obtain ⟨pv,h1,h2,h3⟩ := h
 exact ⟨pv,h1,by rw [xAS (by omega),h2],by rw [xAS (by omega),h3]⟩
def P37 (pb pw : Nat) (n : Nat) : Prop := 8 ≤ n ∧ n ≠ 12 ∧ n ≠ 13 ∧ n ≠ 14 ∧ n ≠ pb ∧ n ≠ pw
structure EI (A B : Ma) (lb : Blk) (c : Nat × Nat) (pb : Nat) (G : Heap) (S : Bs) (pw : Nat) : Prop where
 g0 : G[0]? = some (.cells false false A.cells)
 g1 : G[1]? = some (.cells false false B.cells)
 g2 : G[2]? = some (.cells false false [.sl true 0 []])
 g3 : G[3]? = some (.cells false false [.bool false])
 g4 : G[4]? = some (.cells false false [.int .i64 0])
 g13 : G[13]? = some (.cells false false [.ptr 7 0])
 gl : G[14]? = some lb
 gp : G[pb]? = some (.cells false false [.int .i64 (c.1 : Nat),.int .i64 (c.2 : Nat)])
 q : QI (P37 pb pw) 7 G S.1
 w : G[12]? = some (.cells false false [.own false pw 0 S.2.length 1])
 wp : G[pw]? = some (.cells false false (S.2.map wv))
 hw : pw = 11 ∨ 15 ≤ pw
 hb : 15 ≤ pb
 hn : pb ≠ pw
section
variable {A B : Ma} {lb : Blk} {c : Nat × Nat} {pb pw k i : Nat} {G : Heap} {S : Bs}
abbrev F37 (k i N pb : Nat) : List AV := xKp (.ptr 0 0) (.ptr 1 0) (.ptr 2 0) (.ptr 3 0) (.ptr 4 0) (.ptr 7 0) (.ptr 12 0) (.int .i64 (k : Nat)) (.ptr pb 0) (.int .i64 (N : Nat)) (.int .i64 (i : Nat))
theorem yHf : ¬ P37 pb pw 7 := fun h => by have := h.1; omega
theorem EI.far (h : EI A B lb c pb G S pw) : ∀ n,G.length ≤ n → P37 pb pw n := by
 intro n hn
 have := xAI h.gl; have := xAI h.gp; have := xAI h.wp
 exact ⟨by omega,by omega,by omega,by omega,by omega,by omega⟩
theorem EI.kt (h : EI A B lb c pb G S pw) {G1 : Heap} {S1 : List (Nat × Nat)} (hk : KtP (P37 pb pw) 7 G G1) (hq : QI (P37 pb pw) 7 G1 S1) : EI A B lb c pb G1 (S1,S.2) pw := by
 have hw := h.hw
 have hb := h.hb
 have f : ∀ b,¬ P37 pb pw b → b ≠ 7 → G1[b]? = G[b]? := hk.2
 exact ⟨by rw [f 0 (fun e => by have := e.1; omega) (by omega),h.g0],by rw [f 1 (fun e => by have := e.1; omega) (by omega),h.g1],by rw [f 2 (fun e => by have := e.1; omega) (by omega),h.g2],by rw [f 3 (fun e => by have := e.1; omega) (by omega),h.g3],by rw [f 4 (fun e => by have := e.1; omega) (by omega),h.g4],
  by rw [f 13 (fun e => e.2.2.1 rfl) (by omega),h.g13],by rw [f 14 (fun e => e.2.2.2.1 rfl) (by omega),h.gl],by rw [f pb (fun e => e.2.2.2.2.1 rfl) (by omega),h.gp],hq,by rw [f 12 (fun e => e.2.1 rfl) (by omega),h.w],by rw [f pw (fun e => e.2.2.2.2.2 rfl) (by omega),h.wp],h.hw,h.hb,h.hn⟩
def yFW (pv pb pw : Nat) (n : Nat) : Prop := P37 pb pw n ∧ n ≠ pv
theorem EI.ext (h : EI A B lb c pb G S pw) (bk : Blk) : EI A B lb c pb (G ++ [bk]) S pw ∧ QI (yFW G.length pb pw) 7 (G ++ [bk]) S.1 := by
 obtain ⟨g0,g1,g2,g3,g4,g13,gl,gp,hq,gw,gwp,hw,hb,hn⟩ := h
 have f : ∀ {b x},G[b]? = some x → (G ++ [bk])[b]? = some x := fun e => by rw [xAZ (xAI e),e]
 have hq2 : QI (yFW G.length pb pw) 7 (G ++ [bk]) S.1 := by
  obtain ⟨mv,lv,q1,q2⟩ := hq
  refine ⟨mv,lv,f q1,?_⟩
  rcases q2 with q2 | ⟨q,p,e1,e2,p1,p2,m1,m2⟩
  ·exact .inl q2
  ·have := xAI m1
   have := xAI m2
   exact .inr ⟨q,p,e1,e2,⟨p1,by omega⟩,⟨p2,by omega⟩,f m1,f m2⟩
 have hq3 : QI (P37 pb pw) 7 (G ++ [bk]) S.1 := by
  obtain ⟨mv,lv,q1,q2⟩ := hq2
  refine ⟨mv,lv,q1,?_⟩
  rcases q2 with q2 | ⟨q,p,e1,e2,p1,p2,m1,m2⟩
  ·exact .inl q2
  ·exact .inr ⟨q,p,e1,e2,p1.1,p2.1,m1,m2⟩
 exact ⟨⟨f g0,f g1,f g2,f g3,f g4,f g13,f gl,f gp,hq3,f gw,f gwp,hw,hb,hn⟩,hq2⟩
theorem QI.weak {pv : Nat} {ks : List (Nat × Nat)} (h : QI (yFW pv pb pw) 7 G ks) : QI (P37 pb pw) 7 G ks := by
 obtain ⟨mv,lv,q1,q2⟩ := h
 refine ⟨mv,lv,q1,?_⟩
 rcases q2 with q2 | ⟨q,p,e1,e2,p1,p2,m1,m2⟩
 ·exact .inl q2
 ·exact .inr ⟨q,p,e1,e2,p1.1,p2.1,m1,m2⟩
theorem KtP.weak {pv : Nat} {G1 : Heap} (h : KtP (yFW pv pb pw) 7 G G1) : KtP (P37 pb pw) 7 G G1 := ⟨h.1,fun b h1 h2 => h.2 b (fun e => h1 e.1) h2⟩
theorem yCr {pv : Nat} : ¬ yFW pv pb pw 7 := fun h => yHf h.1
set_option maxHeartbeats 1000000 in
theorem yAU (h : EI A B lb c pb G S pw) : L.loop xC3 xGn ⟨F37 k (two A.i) (two A.i) pb,G⟩ = some (.exit 4,⟨F37 k (two A.i) (two A.i) pb,G⟩) := by
 rw [xRH]
 simp (maxSteps := 30000000) (disch := first | assumption | omega | (simp only [WL,AV.isCell,xAe] <;> omega) | rfl | decide) only [xKo,WB,↓reduceIte,xKq]
set_option maxHeartbeats 1000000 in
theorem xYW (hA : Vm A) (hB : Vm B) (hAB : A.i = B.i) (h : EI A B lb c pb G S pw) (hi : i < two A.i) (hk : k < S.2.length) (c1 : c.1 < A.next.length) (c2 : c.2 < B.next.length) (hl : (S.2.getD k []).length < 1099511627) (hl2 : S.2.length < 1099511627)
  (he : em A c.1 i ≠ em B c.2 i) :
  ∃ F' G',L.loop xC3 xGn ⟨F37 k i (two A.i) pb,G⟩ = some (.ret,⟨F',G'⟩) ∧ TA G' (S.2.getD k [] ++ [i]) ∧ G'[3]? = some (.cells false false [.bool false]) ∧ G'[4]? = some (.cells false false [.int .i64 0]) ∧ G'[14]? = some lb := by
 obtain ⟨g0,g1,g2,g3,g4,g13,gl,gp,hq,gw,gwp,hw,hb,hn⟩ := h
 have hGp := xAI gp
 have hGw := xAI gwp
 have hGl := xAI gl
 have hc := yD6 (S.2.getD k []) i hl
 have hG := xAI gl
 have hlt : (i : Int) < (two A.i : Nat) := by omega
 have h64 : i < 64 := by have := xCw (show A.i ≤ 6 by have := hA.io; omega); have : two 6 = 64 := rfl; omega
 have l1 := hA.nl c1
 have l2 := hA.wl' c1
 have l3 := hB.nl c2
 have l4 := hB.wl' c2
 have l5 := hA.el
 have l6 := hB.el
 have hi' := hi
 rw [hAB] at hi'
 have he' : ¬ ((((A.emit.getD c.1 []).getD i 0 : Nat) : Int) = (((B.emit.getD c.2 []).getD i 0 : Nat) : Int)) := by
  intro e; exact he (by unfold em; omega)
 have hwk : wv (S.2.getD k []) = .sl (S.2.getD k []).isEmpty (S.2.getD k []).length (bs (S.2.getD k [])) := rfl
 unfold Ma.cells at g0 g1
 refine ⟨F37 k i (two A.i) pb,((G.set 2 (.cells false false [.own false G.length 0 ((S.2.getD k []).length + 1) 1])).set 3 (.cells false false [.bool false])).set 4 (.cells false false [.int .i64 0]) ++ [.cells false false (bs (S.2.getD k [] ++ [i]))],?_,⟨G.length,by omega,?_,?_⟩,?_,?_,?_⟩
 ·rw [xRH]
  simp (maxSteps := 30000000) (disch := first | assumption | omega | (simp only [WL,AV.isCell,xAe] <;> omega) | rfl | decide) only [xKo,WB,hlt,↓reduceIte,gw,gwp,xUL,hwk,AV.cells,AV.isCell,Nat.reduceAdd,Nat.reduceLeDiff,WP,hc,xAX,xBq,xA9,xAZ,g0,l5,WA,gp,xCf,rowB,l2,g1,l6,l4,xAc,he',g2,xNg,xAS,g3,g4,xKq]
 ·rw [xAZ (by simp; omega),xAS (by omega),xAS (by omega),xCt (by omega),List.length_append]; rfl
 ·rw [xD3 (by simp)]; rfl
 ·rw [xAZ (by simp; omega),xAS (by omega),xCt (by simp; omega)]
 ·rw [xAZ (by simp; omega),xCt (by simp; omega)]
 ·rw [xAZ (by simp; omega),xAS (by omega),xAS (by omega),xAS (by omega),gl]
set_option maxHeartbeats 1000000 in
theorem yAV (hA : Vm A) (hB : Vm B) (hAB : A.i = B.i) (h : EI A B lb c pb G S pw) (hi : i < two A.i) (hk : k < S.2.length) (c1 : c.1 < A.next.length) (c2 : c.2 < B.next.length) (hl : (S.2.getD k []).length < 1099511627) (hl2 : S.2.length < 1099511627) (hl1 : S.1.length < 1099511627)
  (he : em A c.1 i = em B c.2 i) (hm : (nx A c.1 i,nx B c.2 i) ∈ S.1) :
  ∃ G',L.loop xC3 xGn ⟨F37 k i (two A.i) pb,G⟩ = L.loop xC3 xGn ⟨F37 k (i + 1) (two A.i) pb,G'⟩ ∧ EI A B lb c pb G' S pw := by
 have hx := h.ext (.cells false false (bs (S.2.getD k [] ++ [i])))
 obtain ⟨G1,k1,k2,k3⟩ := xYw yCr (fun n hn => ⟨hx.1.far n hn,by rw [List.length_append,List.length_singleton] at hn; omega⟩) hx.2 hm hl1
 have h' := hx.1.kt k3.weak k2.weak
 refine ⟨G1,?_,h'⟩
 obtain ⟨g0,g1,g2,g3,g4,g13,gl,gp,hq,gw,gwp,hw,hb,hn⟩ := h
 have hGp := xAI gp
 have hGw := xAI gwp
 have hGl := xAI gl
 have hc := yD6 (S.2.getD k []) i hl
 have hlt : (i : Int) < (two A.i : Nat) := by omega
 have h64 : i < 64 := by have := xCw (show A.i ≤ 6 by have := hA.io; omega); have : two 6 = 64 := rfl; omega
 have l1 := hA.nl c1
 have l2 := hA.wl' c1
 have l3 := hB.nl c2
 have l4 := hB.wl' c2
 have l5 := hA.el
 have l6 := hB.el
 have hi' := hi
 rw [hAB] at hi'
 have he' : (A.emit.getD c.1 []).getD i 0 = (B.emit.getD c.2 []).getD i 0 := he
 have hwk : wv (S.2.getD k []) = .sl (S.2.getD k []).isEmpty (S.2.getD k []).length (bs (S.2.getD k [])) := rfl
 simp only [kv2] at k1
 unfold nx at k1
 unfold Ma.cells at g0 g1
 rw [xRH]
 simp (maxSteps := 30000000) (disch := first | assumption | omega | (simp only [WL,AV.isCell,xAe] <;> omega) | rfl | decide) only [xKo,WB,hlt,↓reduceIte,gw,gwp,xUL,hwk,AV.cells,AV.isCell,Nat.reduceAdd,Nat.reduceLeDiff,WP,hc,xAX,xBq,xA9,xAZ,g0,l5,WA,gp,xCf,rowB,l2,he',g1,l6,l4,xAc,xBU,rowI,l1,l3,k1,xKq]
set_option maxHeartbeats 1000000 in
theorem yAW (hA : Vm A) (hB : Vm B) (hAB : A.i = B.i) (h : EI A B lb c pb G S pw) (hi : i < two A.i) (hk : k < S.2.length) (c1 : c.1 < A.next.length) (c2 : c.2 < B.next.length) (hl : (S.2.getD k []).length < 1099511627) (hl2 : S.2.length < 1099511627) (hl1 : S.1.length < 1099511627)
  (he : em A c.1 i = em B c.2 i) (hm : (nx A c.1 i,nx B c.2 i) ∉ S.1) :
  ∃ G' pw',L.loop xC3 xGn ⟨F37 k i (two A.i) pb,G⟩ = L.loop xC3 xGn ⟨F37 k (i + 1) (two A.i) pb,G'⟩ ∧ EI A B lb c pb G' (S.1 ++ [(nx A c.1 i,nx B c.2 i)],S.2 ++ [S.2.getD k [] ++ [i]]) pw' := by
 have hx := h.ext (.cells false false (bs (S.2.getD k [] ++ [i])))
 obtain ⟨G1,k1,k2,k3⟩ := xYv yCr (fun n hn => ⟨hx.1.far n hn,by rw [List.length_append,List.length_singleton] at hn; omega⟩) hx.2 hm hl1
 have h' := hx.1.kt k3.weak k2.weak
 have xv : G1[G.length]? = some (.cells false false (bs (S.2.getD k [] ++ [i]))) := by
  rw [k3.2 G.length (fun e => e.2 rfl) (by have := xAI h.gl; omega),xD3 rfl]; rfl
 have xvl := xAI xv
 have lwv : (bs (S.2.getD k [] ++ [i])).length = (S.2.getD k []).length + 1 := by unfold bs; simp
 have twv : List.take ((S.2.getD k []).length + 1) (bs (S.2.getD k [] ++ [i])) = bs (S.2.getD k [] ++ [i]) := List.take_of_length_le (by omega)
 obtain ⟨X,hX⟩ : ∃ X,List.modify G1 G.length xBl = X := ⟨_,rfl⟩
 have xl : X.length = G1.length := by rw [← hX,List.length_modify]
 have xk : ∀ b,b ≠ G.length → X[b]? = G1[b]? := fun b hb => by rw [← hX]; exact yG0 (fun e => hb e.symm)
 have h1' := h'
 have hc := yD6 (S.2.getD k []) i hl
 have hlt : (i : Int) < (two A.i : Nat) := by omega
 have h64 : i < 64 := by have := xCw (show A.i ≤ 6 by have := hA.io; omega); have : two 6 = 64 := rfl; omega
 have l1 := hA.nl c1
 have l2 := hA.wl' c1
 have l3 := hB.nl c2
 have l4 := hB.wl' c2
 have l5 := hA.el
 have l6 := hB.el
 have hi' := hi
 rw [hAB] at hi'
 have he' : (A.emit.getD c.1 []).getD i 0 = (B.emit.getD c.2 []).getD i 0 := he
 have hwk : wv (S.2.getD k []) = .sl (S.2.getD k []).isEmpty (S.2.getD k []).length (bs (S.2.getD k [])) := rfl
 have hXE : EI A B lb c pb X (S.1 ++ [(nx A c.1 i,nx B c.2 i)],S.2) pw := by
  obtain ⟨y0,y1,y2,y3,y4,y13,yl,yp,yq,yw,ywp,yhw,yhb,yhn⟩ := h'
  have hGl := xAI h.gl
  have hGp := xAI h.gp
  have hGw := xAI h.wp
  refine ⟨by rw [xk 0 (by omega),y0],by rw [xk 1 (by omega),y1],by rw [xk 2 (by omega),y2],by rw [xk 3 (by omega),y3],by rw [xk 4 (by omega),y4],by rw [xk 13 (by omega),y13],by rw [xk 14 (by omega),yl],by rw [xk pb (by omega),yp],?_,by rw [xk 12 (by omega),yw],by rw [xk pw (by omega),ywp],yhw,yhb,yhn⟩
  obtain ⟨mv,lv,q1,q2⟩ := k2
  refine ⟨mv,lv,by rw [xk 7 (by omega),q1],?_⟩
  rcases q2 with q2 | ⟨q,p,e1,e2,p1,p2,m1,m2⟩
  ·exact .inl q2
  ·exact .inr ⟨q,p,e1,e2,p1.1,p2.1,by rw [xk q p1.2,m1],by rw [xk p p2.2,m2]⟩
 obtain ⟨x0,x1,x2,x3,x4,x13,xlb,xp,xq,xw,xwp,xhw,xhb,xhn⟩ := hXE
 have y1 := xAI xlb
 have y2 := xAI xp
 have y3 := xAI xwp
 refine ⟨((X.set pw .dead).set 12 (.cells false false [.own false X.length 0 (S.2.length + 1) 1])) ++ [.cells false false ((S.2 ++ [S.2.getD k [] ++ [i]]).map wv)],X.length,?_,?_⟩
 ·obtain ⟨g0,g1,g2,g3,g4,g13,gl,gp,hq,gw,gwp,hw,hb,hn⟩ := h
  have hGp := xAI gp
  have hGw := xAI gwp
  have hGl := xAI gl
  simp only [kv2] at k1
  unfold nx at k1
  unfold Ma.cells at g0 g1
  rw [List.map_append,List.map_cons,List.map_nil,xYV]
  rw [xRH]
  simp (maxSteps := 30000000) (disch := first | assumption | omega | (simp only [WL,AV.isCell,xAe] <;> omega) | rfl | decide) only [xKo,WB,hlt,↓reduceIte,gw,gwp,xUL,hwk,AV.cells,AV.isCell,Nat.reduceAdd,Nat.reduceLeDiff,WP,hc,xAX,xBq,xA9,xAZ,g0,l5,WA,gp,xCf,rowB,l2,he',g1,l6,l4,xAc,xBU,rowI,l1,l3,k1,xAO,xv,twv,xAx,hX,xw,xwp,Nat.reduceBEq,yCq,xAS,xNg,xKq]
  try rfl
 ·have f : ∀ b,b < X.length → b ≠ 12 → b ≠ pw → (((X.set pw .dead).set 12 (.cells false false [.own false X.length 0 (S.2.length + 1) 1])) ++ [.cells false false ((S.2 ++ [S.2.getD k [] ++ [i]]).map wv)])[b]? = X[b]? := by
   intro b a1 a2 a3
   rw [xAZ (by simpa using a1),xAS (by omega),xAS (by omega)]
  have hw := h.hw
  refine ⟨by rw [f 0 (by omega) (by omega) (by omega),x0],by rw [f 1 (by omega) (by omega) (by omega),x1],by rw [f 2 (by omega) (by omega) (by omega),x2],by rw [f 3 (by omega) (by omega) (by omega),x3],by rw [f 4 (by omega) (by omega) (by omega),x4],by rw [f 13 (by omega) (by omega) (by omega),x13],by rw [f 14 (by omega) (by omega) (by omega),xlb],by rw [f pb (by omega) (by omega) xhn,xp],?_,?_,?_,.inr (by omega),xhb,by omega⟩
  ·obtain ⟨mv,lv,q1,q2⟩ := xq
   refine ⟨mv,lv,by rw [f 7 (by omega) (by omega) (by omega),q1],?_⟩
   rcases q2 with q2 | ⟨q,p,e1,e2,p1,p2,m1,m2⟩
   ·exact .inl q2
   ·have z1 := xAI m1
    have z2 := xAI m2
    exact .inr ⟨q,p,e1,e2,⟨p1.1,p1.2.1,p1.2.2.1,p1.2.2.2.1,p1.2.2.2.2.1,by omega⟩,⟨p2.1,p2.2.1,p2.2.2.1,p2.2.2.2.1,p2.2.2.2.2.1,by omega⟩,by rw [f q z1 p1.2.1 p1.2.2.2.2.2,m1],by rw [f p z2 p2.2.1 p2.2.2.2.2.2,m2]⟩
  ·rw [xAZ (by simp; omega),xCt (by simp; omega),List.length_append]; rfl
  ·rw [xD3 (by simp)]; rfl
end
section
variable {ks : List (Nat × Nat)} {p bx c1 c2 : Nat} {s2 s3 s10 s11 s12 s13 s14 s15 : AV} {G : Heap}
theorem xTY {c : Nat × Nat} {j : Nat} (h : j < ks.length) : c ∈ ks.drop j ↔ c = ks.getD j (0,0) ∨ c ∈ ks.drop (j + 1) := by
 rw [xAD (a := ((0,0) : Nat × Nat)) h,List.mem_cons]
set_option maxHeartbeats 1000000 in
theorem xQn (gp : G[p]? = some (.cells false false (pcs ks))) (gb : G[bx]? = some (.cells false false [.int .i64 (c1 : Nat),.int .i64 (c2 : Nat)])) (hl : ks.length < 1099511627) : ∀ e j (b : Bool),j + e = ks.length →
  L.loop xOb xZN ⟨xOc s2 s3 (.own false p 0 ks.length 2) s10 s11 s12 s13 s14 s15 (.ptr bx 0) (.bool b) (.int .i64 (j : Nat)),G⟩ =
   some (.exit 4,⟨xOc s2 s3 (.own false p 0 ks.length 2) s10 s11 s12 s13 s14 s15 (.ptr bx 0) (.bool (b || decide ((c1,c2) ∈ ks.drop j))) (.int .i64 (ks.length : Nat)),G⟩)
 | 0,j,b,he => by
  obtain rfl : j = ks.length := by omega
  have e0 : decide ((c1,c2) ∈ ks.drop ks.length) = false := decide_eq_false (by rw [List.drop_eq_nil_of_le (Nat.le_refl _)]; simp)
  rw [e0,Bool.or_false,xRJ]
  simp (maxSteps := 30000000) (disch := first | assumption | omega | (simp only [WL,AV.isCell,xAe] <;> omega) | rfl | decide) only [xKr,WB,↓reduceIte,xKs]
 | e + 1,j,b,he => by
  have hj : j < ks.length := by omega
  have c' : ((j : Nat) : Int) < (ks.length : Nat) := by omega
  cases b with
  | true =>
   have ih := xQn gp gb hl e (j + 1) true (by omega)
   rw [Bool.true_or] at ih ⊢
   rw [xRJ]
   simp (maxSteps := 30000000) (disch := first | assumption | omega | (simp only [WL,AV.isCell,xAe] <;> omega) | rfl | decide) only [xKr,WB,c',↓reduceIte,xAc,xKs,ih]
  | false =>
   have hq := yIb (ks.getD j (0,0)).1 (ks.getD j (0,0)).2 c1 c2
   by_cases c : (c1,c2) = ks.getD j (0,0)
   ·have ih := xQn gp gb hl e (j + 1) true (by omega)
    rw [decide_eq_true (show ((ks.getD j (0,0)).1,(ks.getD j (0,0)).2) = (c1,c2) from c.symm)] at hq
    rw [decide_eq_true ((xTY hj).2 (.inl c)),Bool.or_true]
    rw [Bool.true_or] at ih
    rw [xRJ]
    simp (maxSteps := 30000000) (disch := first | assumption | omega | (simp only [WL,AV.isCell,xAe] <;> omega) | rfl | decide) only [xKr,WB,c',↓reduceIte,gp,xL6,gb,xAc,hq,yFv,xKs,ih]
   ·have ih := xQn gp gb hl e (j + 1) false (by omega)
    have hm : decide ((c1,c2) ∈ ks.drop (j + 1)) = decide ((c1,c2) ∈ ks.drop j) := decide_eq_decide.2 (by rw [xTY hj]; exact ⟨fun h => .inr h,fun h => h.resolve_left c⟩)
    rw [decide_eq_false (show ¬ ((ks.getD j (0,0)).1,(ks.getD j (0,0)).2) = (c1,c2) from fun q => c q.symm)] at hq
    rw [hm] at ih
    rw [xRJ]
    simp (maxSteps := 30000000) (disch := first | assumption | omega | (simp only [WL,AV.isCell,xAe] <;> omega) | rfl | decide) only [xKr,WB,c',↓reduceIte,gp,xL6,gb,xAc,hq,yFw,xKs,ih]
end
structure EQ (A B : Ma) (G : Heap) (S : Bs) (p pw : Nat) : Prop where
 g0 : G[0]? = some (.cells false false A.cells)
 g1 : G[1]? = some (.cells false false B.cells)
 gp : G[p]? = some (.cells false false (pcs S.1))
 gw : G[pw]? = some (.cells false false (S.2.map wv))
 hp : 2 ≤ p
 hw : 2 ≤ pw
 ne : p ≠ pw
abbrev F38 (v4 v5 v6 : AV) (S : Bs) (p pw k : Nat) (c : Nat × Nat) (i : Nat) : List AV := xFJ (.ptr 0 0) (.ptr 1 0) v4 v5 v6 (.own false p 0 S.1.length 2) (.own false pw 0 S.2.length 1) (.int .i64 (k : Nat)) (.int .i64 (c.1 : Nat)) (.int .i64 (c.2 : Nat)) (.int .i64 (i : Nat))
section
variable {A B : Ma} {G : Heap} {S : Bs} {p pw k i : Nat} {c : Nat × Nat} {v4 v5 v6 : AV}
set_option maxHeartbeats 1000000 in
theorem xYX (hA : Vm A) (h : EQ A B G S p pw) : L.loop xC4 xGo ⟨F38 v4 v5 v6 S p pw k c (two A.i),G⟩ = some (.exit 2,⟨F38 v4 v5 v6 S p pw k c (two A.i),G⟩) := by
 have hio := hA.io
 have hsi := xDN (show A.i ≤ 6 by omega)
 have hi0 : ¬ ((A.i : Nat) : Int) < 0 := by omega
 have g0 := h.g0
 unfold Ma.cells at g0
 have hwr : IntKind.u64.wrap ((A.i : Nat) : Int) = ((A.i : Nat) : Int) := by
  have : two 6 = 64 := rfl
  have h6 : A.i ≤ 6 := by omega
  have hx : ∀ n : Nat,n ≤ 6 → IntKind.u64.wrap ((n : Nat) : Int) = ((n : Nat) : Int) := by decide
  exact hx _ h6
 rw [xRK]
 simp (maxSteps := 30000000) (disch := first | assumption | omega | (simp only [WL,AV.isCell,xAe] <;> omega) | rfl | decide) only [xKt,WB,g0,hwr,hsi,↓reduceIte,xKu]
end
theorem xJw {n : Nat} (h : n ≤ 6) : IntKind.u64.wrap ((n : Nat) : Int) = ((n : Nat) : Int) := by
 have hx : ∀ n : Nat,n ≤ 6 → IntKind.u64.wrap ((n : Nat) : Int) = ((n : Nat) : Int) := by decide
 exact hx _ h
theorem EQ.ext {A B : Ma} {G : Heap} {S : Bs} {p pw : Nat} (h : EQ A B G S p pw) (l : List Blk) : EQ A B (G ++ l) S p pw := by
 have f : ∀ {b x},G[b]? = some x → (G ++ l)[b]? = some x := fun e => by rw [xAZ (xAI e),e]
 exact ⟨f h.g0,f h.g1,f h.gp,f h.gw,h.hp,h.hw,h.ne⟩
section
variable {A B : Ma} {G : Heap} {S : Bs} {p pw k i : Nat} {c : Nat × Nat} {v4 v5 v6 : AV}
set_option maxHeartbeats 2000000 in
theorem xUM (hA : Vm A) (hB : Vm B) (hAB : A.i = B.i) (h : EQ A B G S p pw) (hi : i < two A.i) (hk : k < S.2.length) (c1 : c.1 < A.next.length) (c2 : c.2 < B.next.length) (hl : (S.2.getD k []).length < 1099511627) (hl2 : S.2.length < 1099511627) (he : em A c.1 i ≠ em B c.2 i) :
  L.loop xC4 xGo ⟨F38 v4 v5 v6 S p pw k c i,G⟩ = some (.ret,⟨xFJ (.ptr 0 0) (.ptr 1 0) (.own false (G.length + 1) 0 ((S.2.getD k []).length + 1) 1) (.bool false) (.int .i64 0) (.own false p 0 S.1.length 2) (.own false pw 0 S.2.length 1) (.int .i64 (k : Nat)) (.int .i64 (c.1 : Nat)) (.int .i64 (c.2 : Nat)) (.int .i64 (i : Nat)),G ++ [.dead,.cells false false (bs (S.2.getD k [] ++ [i]))]⟩) := by
 obtain ⟨g0,g1,gp,gw,hp,hw,hne⟩ := h
 have hGp := xAI gp
 have hGw := xAI gw
 have hG1 := xAI g1
 have hio := hA.io
 have hsi := xDN (show A.i ≤ 6 by omega)
 have hi0 : ¬ ((A.i : Nat) : Int) < 0 := by omega
 have hwr := xJw (show A.i ≤ 6 by omega)
 have hlt : (i : Int) < (two A.i : Nat) := by omega
 have h64 : i < 64 := by have := xCw (show A.i ≤ 6 by omega); have : two 6 = 64 := rfl; omega
 have l1 := hA.nl c1
 have l2 := hA.wl' c1
 have l3 := hB.nl c2
 have l4 := hB.wl' c2
 have l5 := hA.el
 have l6 := hB.el
 have hi' := hi
 rw [hAB] at hi'
 have he' : ¬ ((((A.emit.getD c.1 []).getD i 0 : Nat) : Int) = (((B.emit.getD c.2 []).getD i 0 : Nat) : Int)) := by
  intro e; exact he (by unfold em; omega)
 have hwk : wv (S.2.getD k []) = .sl (S.2.getD k []).isEmpty (S.2.getD k []).length (bs (S.2.getD k [])) := rfl
 have hbs : bs (S.2.getD k []) ++ [.int .u8 (i : Nat)] = bs (S.2.getD k [] ++ [i]) := by simp [bs]
 have htk : List.take (S.2.getD k []).length (bs (S.2.getD k [])) = bs (S.2.getD k []) := List.take_of_length_le (by rw [xAJ]; exact Nat.le_refl _)
 have ce : c.1 < A.emit.length := by omega
 have cf : c.2 < B.emit.length := by omega
 unfold Ma.cells at g0 g1
 rw [xRK]
 simp (maxSteps := 30000000) (disch := first | assumption | omega | (simp only [WL,AV.isCell,xAe] <;> omega) | rfl | decide) only [xKt,WB,g0,l5,hwr,hsi,hlt,↓reduceIte,gw,xUL,hwk,AV.cells,AV.isCell,xD3,Nat.reduceBEq,xX8,htk,hbs,xAZ,xCf,rowB,l2,g1,l6,l4,xAc,he',xKu]
set_option maxHeartbeats 4000000 in
theorem xYY (hA : Vm A) (hB : Vm B) (hAB : A.i = B.i) (h : EQ A B G S p pw) (hi : i < two A.i) (hk : k < S.2.length) (c1 : c.1 < A.next.length) (c2 : c.2 < B.next.length) (hl : (S.2.getD k []).length < 1099511627) (hl2 : S.2.length < 1099511627) (hl1 : S.1.length < 1099511627)
  (he : em A c.1 i = em B c.2 i) (hm : (nx A c.1 i,nx B c.2 i) ∈ S.1) :
  ∃ G',L.loop xC4 xGo ⟨F38 v4 v5 v6 S p pw k c i,G⟩ = L.loop xC4 xGo ⟨F38 .any .any .any S p pw k c (i + 1),G'⟩ ∧ EQ A B G' S p pw := by
 have hx := h.ext [.dead,.cells false false (bs (S.2.getD k [] ++ [i])),.cells false false [.int .i64 (nx A c.1 i : Nat),.int .i64 (nx B c.2 i : Nat)]]
 refine ⟨_,?_,hx⟩
 have hsn := xQn (s2 := .ptr 0 0) (s3 := .ptr 1 0) (s10 := .own false pw 0 S.2.length 1) (s11 := .int .i64 (k : Nat)) (s12 := .int .i64 (c.1 : Nat)) (s13 := .int .i64 (c.2 : Nat)) (s14 := .int .i64 (i : Nat)) (s15 := .own false (G.length + 1) 0 ((S.2.getD k []).length + 1) 1) (bx := G.length + 2) (c1 := nx A c.1 i) (c2 := nx B c.2 i) hx.gp (by rw [xEO rfl]; rfl) hl1 S.1.length 0 false (by omega)
 rw [List.drop_zero,decide_eq_true hm] at hsn
 simp only [Int.natCast_zero,Bool.or_true] at hsn
 obtain ⟨g0,g1,gp,gw,hp,hw,hne⟩ := h
 have hGp := xAI gp
 have hGw := xAI gw
 have hG1 := xAI g1
 have hio := hA.io
 have hsi := xDN (show A.i ≤ 6 by omega)
 have hi0 : ¬ ((A.i : Nat) : Int) < 0 := by omega
 have hwr := xJw (show A.i ≤ 6 by omega)
 have hlt : (i : Int) < (two A.i : Nat) := by omega
 have h64 : i < 64 := by have := xCw (show A.i ≤ 6 by omega); have : two 6 = 64 := rfl; omega
 have l1 := hA.nl c1
 have l2 := hA.wl' c1
 have l3 := hB.nl c2
 have l4 := hB.wl' c2
 have l5 := hA.el
 have l6 := hB.el
 have hi' := hi
 rw [hAB] at hi'
 have he' : (A.emit.getD c.1 []).getD i 0 = (B.emit.getD c.2 []).getD i 0 := he
 have hwk : wv (S.2.getD k []) = .sl (S.2.getD k []).isEmpty (S.2.getD k []).length (bs (S.2.getD k [])) := rfl
 have hbs : bs (S.2.getD k []) ++ [.int .u8 (i : Nat)] = bs (S.2.getD k [] ++ [i]) := by simp [bs]
 have htk : List.take (S.2.getD k []).length (bs (S.2.getD k [])) = bs (S.2.getD k []) := List.take_of_length_le (by rw [xAJ]; exact Nat.le_refl _)
 have ce : c.1 < A.emit.length := by omega
 have cf : c.2 < B.emit.length := by omega
 unfold Ma.cells at g0 g1
 simp only [nx] at hsn ⊢
 rw [xRK]
 simp (maxSteps := 30000000) (disch := first | assumption | omega | (simp only [WL,AV.isCell,xAe] <;> omega) | rfl | decide) only [xKt,WB,g0,l5,hwr,hsi,hlt,↓reduceIte,gw,xUL,hwk,AV.cells,AV.isCell,xD3,Nat.reduceBEq,xX8,htk,hbs,xAZ,xCf,rowB,l2,he',g1,l6,l4,xAc,xBU,rowI,l1,l3,Nat.reduceAdd,Nat.reduceLeDiff,xEO,yCc,xKs,hsn,xKu]
set_option maxHeartbeats 4000000 in
theorem xYZ (hA : Vm A) (hB : Vm B) (hAB : A.i = B.i) (h : EQ A B G S p pw) (hi : i < two A.i) (hk : k < S.2.length) (c1 : c.1 < A.next.length) (c2 : c.2 < B.next.length) (hl : (S.2.getD k []).length < 1099511627) (hl2 : S.2.length < 1099511627) (hl1 : S.1.length < 1099511627)
  (he : em A c.1 i = em B c.2 i) (hm : (nx A c.1 i,nx B c.2 i) ∉ S.1) :
  ∃ G' p' pw',L.loop xC4 xGo ⟨F38 v4 v5 v6 S p pw k c i,G⟩ = L.loop xC4 xGo ⟨F38 .any .any .any (S.1 ++ [(nx A c.1 i,nx B c.2 i)],S.2 ++ [S.2.getD k [] ++ [i]]) p' pw' k c (i + 1),G'⟩ ∧ EQ A B G' (S.1 ++ [(nx A c.1 i,nx B c.2 i)],S.2 ++ [S.2.getD k [] ++ [i]]) p' pw' := by
 have hx := h.ext [.dead,.cells false false (bs (S.2.getD k [] ++ [i])),.cells false false [.int .i64 (nx A c.1 i : Nat),.int .i64 (nx B c.2 i : Nat)]]
 have hsn := xQn (s2 := .ptr 0 0) (s3 := .ptr 1 0) (s10 := .own false pw 0 S.2.length 1) (s11 := .int .i64 (k : Nat)) (s12 := .int .i64 (c.1 : Nat)) (s13 := .int .i64 (c.2 : Nat)) (s14 := .int .i64 (i : Nat)) (s15 := .own false (G.length + 1) 0 ((S.2.getD k []).length + 1) 1) (bx := G.length + 2) (c1 := nx A c.1 i) (c2 := nx B c.2 i) hx.gp (by rw [xEO rfl]; rfl) hl1 S.1.length 0 false (by omega)
 rw [List.drop_zero,decide_eq_false hm] at hsn
 simp only [Int.natCast_zero,Bool.or_false] at hsn
 obtain ⟨g0,g1,gp,gw,hp,hw,hne⟩ := h
 have hGp := xAI gp
 have hGw := xAI gw
 have hG1 := xAI g1
 have hio := hA.io
 have hsi := xDN (show A.i ≤ 6 by omega)
 have hi0 : ¬ ((A.i : Nat) : Int) < 0 := by omega
 have hwr := xJw (show A.i ≤ 6 by omega)
 have hlt : (i : Int) < (two A.i : Nat) := by omega
 have h64 : i < 64 := by have := xCw (show A.i ≤ 6 by omega); have : two 6 = 64 := rfl; omega
 have l1 := hA.nl c1
 have l2 := hA.wl' c1
 have l3 := hB.nl c2
 have l4 := hB.wl' c2
 have l5 := hA.el
 have l6 := hB.el
 have hi' := hi
 rw [hAB] at hi'
 have he' : (A.emit.getD c.1 []).getD i 0 = (B.emit.getD c.2 []).getD i 0 := he
 have hwk : wv (S.2.getD k []) = .sl (S.2.getD k []).isEmpty (S.2.getD k []).length (bs (S.2.getD k [])) := rfl
 have hbs : bs (S.2.getD k []) ++ [.int .u8 (i : Nat)] = bs (S.2.getD k [] ++ [i]) := by simp [bs]
 have htk : List.take (S.2.getD k []).length (bs (S.2.getD k [])) = bs (S.2.getD k []) := List.take_of_length_le (by rw [xAJ]; exact Nat.le_refl _)
 have lwv : (bs (S.2.getD k [] ++ [i])).length = (S.2.getD k []).length + 1 := by rw [xAJ]; simp
 have twv : List.take ((S.2.getD k []).length + 1) (bs (S.2.getD k [] ++ [i])) = bs (S.2.getD k [] ++ [i]) := List.take_of_length_le (by omega)
 have ce : c.1 < A.emit.length := by omega
 have cf : c.2 < B.emit.length := by omega
 have hpa : List.take (S.1.length * 2) (pcs S.1) = pcs S.1 := List.take_of_length_le (by rw [xAe]; exact Nat.le_refl _)
 have hps : pcs S.1 ++ [.int .i64 (nx A c.1 i : Nat),.int .i64 (nx B c.2 i : Nat)] = pcs (S.1 ++ [(nx A c.1 i,nx B c.2 i)]) := xTB S.1 (nx A c.1 i,nx B c.2 i)
 have hwa := yCq S.2
 have hf : ∀ b x,b ≠ p → b ≠ pw → G[b]? = some x → (((G.set p .dead).set pw .dead) ++ [.dead,.cells true false (bs (S.2.getD k [] ++ [i])),.cells false false [.int .i64 (nx A c.1 i : Nat),.int .i64 (nx B c.2 i : Nat)],.cells false false (pcs (S.1 ++ [(nx A c.1 i,nx B c.2 i)])),.cells false false (S.2.map wv ++ [wv (S.2.getD k [] ++ [i])])])[b]? = some x := fun b x h1 h2 e => by
  rw [xAZ (by have := xAI e; simpa using this),xAS (fun q => h2 q.symm),xAS (fun q => h1 q.symm),e]
 refine ⟨((G.set p .dead).set pw .dead) ++ [.dead,.cells true false (bs (S.2.getD k [] ++ [i])),.cells false false [.int .i64 (nx A c.1 i : Nat),.int .i64 (nx B c.2 i : Nat)],.cells false false (pcs (S.1 ++ [(nx A c.1 i,nx B c.2 i)])),.cells false false (S.2.map wv ++ [wv (S.2.getD k [] ++ [i])])],G.length + 3,G.length + 4,?_,⟨hf _ _ (by omega) (by omega) g0,hf _ _ (by omega) (by omega) g1,?_,?_,by omega,by omega,by omega⟩⟩
 ·have hfr : F38 .any .any .any (S.1 ++ [(nx A c.1 i,nx B c.2 i)],S.2 ++ [S.2.getD k [] ++ [i]]) (G.length + 3) (G.length + 4) k c (i + 1) = xFJ (.ptr 0 0) (.ptr 1 0) .any .any .any (.own false (G.length + 3) 0 (S.1.length + 1) 2) (.own false (G.length + 4) 0 (S.2.length + 1) 1) (.int .i64 (k : Nat)) (.int .i64 (c.1 : Nat)) (.int .i64 (c.2 : Nat)) (.int .i64 ((i + 1 : Nat) : Nat)) := by
   unfold F38
   simp only [List.length_append,List.length_singleton]
  rw [hfr,xYV]
  unfold Ma.cells at g0 g1
  simp only [nx] at hsn hps ⊢
  rw [xRK]
  simp (maxSteps := 30000000) (disch := first | assumption | omega | (simp only [WL,AV.isCell,xAe] <;> omega) | rfl | decide) only [xKt,WB,g0,l5,hwr,hsi,hlt,↓reduceIte,gw,xUL,hwk,AV.cells,AV.isCell,xD3,Nat.reduceBEq,xX8,htk,hbs,xAZ,xCf,rowB,l2,he',g1,l6,l4,xAc,xBU,rowI,l1,l3,Nat.reduceAdd,Nat.reduceLeDiff,xEO,yCc,xKs,hsn,xAO,twv,xAx,Nat.reduceEqDiff,Nat.reduceSub,xBl,Nat.reduceMul,gp,xNg,hpa,hps,xAS,hwa,xKu]
  try rfl
 ·rw [xEO (by simp)]; rfl
 ·rw [xEO (by simp),List.map_append]; rfl
end
section
variable {A B : Ma} {S : Bs} {k i : Nat}
def PV (A B : Ma) (S : Bs) : Prop := ∀ x ∈ S.1,x.1 < A.next.length ∧ x.2 < B.next.length
theorem BI.wlen (h : BI A B S k i) : ∀ j,j < S.1.length → (S.2.getD j []).length ≤ j := by
 intro j
 induction j using Nat.strongRecOn with
 | ind j ih =>
  intro hj
  by_cases j0 : j = 0
  ·subst j0; rw [h.first.2.1]; exact Nat.le_refl _
  obtain ⟨p,y,e,hy,hp,hc⟩ := h.from' j (by omega) hj
  have hl : (S.2.getD j []).length = (S.2.getD p []).length + 1 := by rw [e]; simp
  have hpj : p < j := by
   rcases Nat.lt_trichotomy p j with c | c | c
   ·exact c
   ·rw [c] at hl; omega
   ·have := h.ord j p c hp
    unfold xNa at this
    omega
  have := ih p hpj hp
  omega
theorem BI.len_le (h : BI A B S k i) (hp : PV A B S) : S.1.length ≤ A.next.length * B.next.length := xYd h.nd hp
theorem xJx (hA : Vm A) (hB : Vm B) : A.next.length * B.next.length ≤ 16777216 := Nat.mul_le_mul hA.n9 hB.n9
theorem PV.at (h : PV A B S) (hk : k < S.1.length) : (S.1.getD k (0,0)).1 < A.next.length ∧ (S.1.getD k (0,0)).2 < B.next.length := h _ (xAh hk)
theorem xNe {lb : Blk} {pb k : Nat} (hA : Vm A) (hB : Vm B) (hAB : A.i = B.i) : ∀ (m i : Nat) (S : Bs) (G : Heap) (pw : Nat),i + m = two A.i → k < S.1.length → BI A B S k i → PV A B S → EI A B lb (S.1.getD k (0,0)) pb G S pw →
  (∀ v S',xFh A B (S.2.getD k []) (S.1.getD k (0,0)) (List.range' i m) S = (some v,S') → ∃ F' G',L.loop xC3 xGn ⟨F37 k i (two A.i) pb,G⟩ = some (.ret,⟨F',G'⟩) ∧ TA G' v ∧ G'[3]? = some (.cells false false [.bool false]) ∧ G'[4]? = some (.cells false false [.int .i64 0]) ∧ G'[14]? = some lb) ∧
  (∀ S',xFh A B (S.2.getD k []) (S.1.getD k (0,0)) (List.range' i m) S = (none,S') → ∃ F' G' pw',L.loop xC3 xGn ⟨F37 k i (two A.i) pb,G⟩ = some (.exit 4,⟨F',G'⟩) ∧ EI A B lb (S.1.getD k (0,0)) pb G' S' pw' ∧ PV A B S')
 | 0,i,S,G,pw,hm,hk,h,hp,hE => by
  have : i = two A.i := by omega
  subst this
  refine ⟨by intro v S' e; simp [xFh] at e,?_⟩
  intro S' e
  simp only [List.range'_zero,xFh,Prod.mk.injEq,true_and] at e
  subst e
  exact ⟨_,G,pw,yAU hE,hE,hp⟩
 | m + 1,i,S,G,pw,hm,hk,h,hp,hE => by
  have hi : i < two A.i := by omega
  have hs := xJx hA hB
  have hle := h.len_le hp
  have hw := h.wlen k hk
  have hl := h.len
  have hc := hp.at hk
  rw [List.range'_succ,xFh]
  by_cases he : em A (S.1.getD k (0,0)).1 i = em B (S.1.getD k (0,0)).2 i
  ·rw [if_neg (fun e => e he)]
   by_cases hmem : (nx A (S.1.getD k (0,0)).1 i,nx B (S.1.getD k (0,0)).2 i) ∈ S.1
   ·rw [if_pos hmem]
    obtain ⟨G',e1,e2⟩ := yAV (k := k) hA hB hAB hE hi (by omega) hc.1 hc.2 (by omega) (by omega) (by omega) he hmem
    rw [e1]
    exact xNe hA hB hAB m (i + 1) S G' pw (by omega) hk (h.old hk he hmem) hp e2
   ·rw [if_neg hmem]
    obtain ⟨G',pw',e1,e2⟩ := yAW (k := k) hA hB hAB hE hi (by omega) hc.1 hc.2 (by omega) (by omega) (by omega) he hmem
    rw [e1]
    have hn := h.new hk hi he hmem
    have hp' : PV A B (S.1 ++ [(nx A (S.1.getD k (0,0)).1 i,nx B (S.1.getD k (0,0)).2 i)],S.2 ++ [S.2.getD k [] ++ [i]]) := by
     intro x hx
     rcases List.mem_append.mp hx with hx | hx
     ·exact hp x hx
     ·rw [List.mem_singleton] at hx
      subst hx
      exact ⟨hA.nx hc.1 hi,hB.nx hc.2 (by rw [← hAB]; exact hi)⟩
    have g1 : (S.1 ++ [(nx A (S.1.getD k (0,0)).1 i,nx B (S.1.getD k (0,0)).2 i)]).getD k (0,0) = S.1.getD k (0,0) := xAQ _ _ _ hk
    have g2 : (S.2 ++ [S.2.getD k [] ++ [i]]).getD k [] = S.2.getD k [] := xAQ _ _ _ (by rw [h.len]; exact hk)
    have := xNe (lb := lb) (pb := pb) (k := k) hA hB hAB m (i + 1) (S.1 ++ [(nx A (S.1.getD k (0,0)).1 i,nx B (S.1.getD k (0,0)).2 i)],S.2 ++ [S.2.getD k [] ++ [i]]) G' pw' (by omega) (by simp; omega) hn hp' (by simp only [g1]; exact e2)
    simp only [g1,g2] at this
    exact this
  ·rw [if_pos he]
   refine ⟨?_,by intro S' e; simp at e⟩
   intro v S' e
   simp only [Prod.mk.injEq,Option.some.injEq] at e
   obtain ⟨rfl,rfl⟩ := e
   exact xYW (k := k) hA hB hAB hE hi (by omega) hc.1 hc.2 (by omega) (by omega) he
end
abbrev yIh (s0 s1 s7 s8 s9 s12 s13 s14 s15 s16 s17 s18 s19 s20 s21 s22 s23 s24 s25 s26 s27 s28 s29 s30 s31 s32 s33 s34 s35 s36 s37 s38 s39 s40 s41 s42 s43 s44 s45 s46 s47 s48 s49 s50 s51 s52 s53 s54 s55 s56 s57 s58 s59 s60 s61 s62 s63 s64 s65 s66 s67 s68 s69 s70 s71 s72 s73 s74 s75 s76 s77 s78 s79 s80 s81 s82 s83 s84 s85 s86 s87 s88 s89 s90 s91 s92 s93 s94 s95 s96 s97 s98 s99 s100 s101 s102 s103 s104 s105 s106 s107 s108 s109 s110 s111 s112 s113 s114 s115 s116 s117 : AV) : List AV := [s0,s1,.ptr 0 0,.ptr 1 0,.ptr 2 0,.ptr 3 0,.ptr 4 0,s7,s8,s9,.ptr 7 0,.ptr 12 0,s12,s13,s14,s15,s16,s17,s18,s19,s20,s21,s22,s23,s24,s25,s26,s27,s28,s29,s30,s31,s32,s33,s34,s35,s36,s37,s38,s39,s40,s41,s42,s43,s44,s45,s46,s47,s48,s49,s50,s51,s52,s53,s54,s55,s56,s57,s58,s59,s60,s61,s62,s63,s64,s65,s66,s67,s68,s69,s70,s71,s72,s73,s74,s75,s76,s77,s78,s79,s80,s81,s82,s83,s84,s85,s86,s87,s88,s89,s90,s91,s92,s93,s94,s95,s96,s97,s98,s99,s100,s101,s102,s103,s104,s105,s106,s107,s108,s109,s110,s111,s112,s113,s114,s115,s116,s117]
def PO (pw : Nat) (n : Nat) : Prop := 8 ≤ n ∧ n ≠ 12 ∧ n ≠ 13 ∧ n ≠ 14 ∧ n ≠ pw
structure EO (A B : Ma) (lb : Blk) (G : Heap) (S : Bs) (pw : Nat) : Prop where
 g0 : G[0]? = some (.cells false false A.cells)
 g1 : G[1]? = some (.cells false false B.cells)
 g2 : G[2]? = some (.cells false false [.sl true 0 []])
 g3 : G[3]? = some (.cells false false [.bool false])
 g4 : G[4]? = some (.cells false false [.int .i64 0])
 g13 : G[13]? = some (.cells false false [.ptr 7 0])
 gl : G[14]? = some lb
 q : QI (PO pw) 7 G S.1
 w : G[12]? = some (.cells false false [.own false pw 0 S.2.length 1])
 wp : G[pw]? = some (.cells false false (S.2.map wv))
 hw : pw = 11 ∨ 15 ≤ pw
theorem EO.into {A B : Ma} {lb lb' : Blk} {G : Heap} {S : Bs} {pw : Nat} (h : EO A B lb G S pw) (c : Nat × Nat) : EI A B lb' c G.length (G.set 14 lb' ++ [.cells false false [.int .i64 (c.1 : Nat),.int .i64 (c.2 : Nat)]]) S pw := by
 have hl := xAI h.gl
 have hp := xAI h.wp
 have hw := h.hw
 have f : ∀ b,b < G.length → b ≠ 14 → (G.set 14 lb' ++ [Blk.cells false false [.int .i64 (c.1 : Nat),.int .i64 (c.2 : Nat)]])[b]? = G[b]? := by
  intro b h1 h2
  rw [xAZ (by simpa using h1),xAS (by omega)]
 refine ⟨by rw [f 0 (by omega) (by omega),h.g0],by rw [f 1 (by omega) (by omega),h.g1],by rw [f 2 (by omega) (by omega),h.g2],by rw [f 3 (by omega) (by omega),h.g3],by rw [f 4 (by omega) (by omega),h.g4],by rw [f 13 (by omega) (by omega),h.g13],by rw [xAZ (by simpa using hl),xCt hl],by rw [xD3 (by simp)]; rfl,?_,by rw [f 12 (by omega) (by omega),h.w],by rw [f pw (by omega) (by omega),h.wp],h.hw,by omega,by omega⟩
 obtain ⟨mv,lv,q1,q2⟩ := h.q
 refine ⟨mv,lv,by rw [f 7 (by omega) (by omega),q1],?_⟩
 rcases q2 with q2 | ⟨q,p,e1,e2,p1,p2,m1,m2⟩
 ·exact .inl q2
 ·have z1 := xAI m1
  have z2 := xAI m2
  exact .inr ⟨q,p,e1,e2,⟨p1.1,p1.2.1,p1.2.2.1,p1.2.2.2.1,by omega,p1.2.2.2.2⟩,⟨p2.1,p2.2.1,p2.2.2.1,p2.2.2.2.1,by omega,p2.2.2.2.2⟩,by rw [f q z1 p1.2.2.2.1,m1],by rw [f p z2 p2.2.2.2.1,m2]⟩
theorem EI.out {A B : Ma} {lb lb' : Blk} {c : Nat × Nat} {pb : Nat} {G : Heap} {S : Bs} {pw : Nat} (h : EI A B lb c pb G S pw) : EO A B lb' (G.set 14 lb') S pw := by
 have hl := xAI h.gl
 have hw := h.hw
 have f : ∀ b,b ≠ 14 → (G.set 14 lb')[b]? = G[b]? := fun b h2 => xAS (by omega)
 refine ⟨by rw [f 0 (by omega),h.g0],by rw [f 1 (by omega),h.g1],by rw [f 2 (by omega),h.g2],by rw [f 3 (by omega),h.g3],by rw [f 4 (by omega),h.g4],by rw [f 13 (by omega),h.g13],xCt hl,?_,by rw [f 12 (by omega),h.w],by rw [f pw (by omega),h.wp],h.hw⟩
 obtain ⟨mv,lv,q1,q2⟩ := h.q
 refine ⟨mv,lv,by rw [f 7 (by omega),q1],?_⟩
 rcases q2 with q2 | ⟨q,p,e1,e2,p1,p2,m1,m2⟩
 ·exact .inl q2
 ·exact .inr ⟨q,p,e1,e2,⟨p1.1,p1.2.1,p1.2.2.1,p1.2.2.2.1,p1.2.2.2.2.2⟩,⟨p2.1,p2.2.1,p2.2.2.1,p2.2.2.2.1,p2.2.2.2.2.2⟩,by rw [f q p1.2.2.2.1,m1],by rw [f p p2.2.2.2.1,m2]⟩
section
variable (s0 s1 s7 s8 s9 s12 s13 s14 s15 s16 s17 s18 s19 s20 s21 s22 s23 s24 s25 s26 s27 s28 s29 s30 s31 s32 s33 s34 s35 s36 s37 s38 s39 s40 s41 s42 s43 s44 s45 s46 s47 s48 s49 s50 s51 s52 s53 s54 s55 s56 s57 s58 s59 s60 s61 s62 s63 s64 s65 s66 s67 s68 s69 s70 s71 s72 s73 s74 s75 s76 s77 s78 s79 s80 s81 s82 s83 s84 s85 s86 s87 s88 s89 s90 s91 s92 s93 s94 s95 s96 s97 s98 s99 s100 s101 s102 s103 s104 s105 s106 s107 s108 s109 s110 s111 s112 s113 s114 s115 s116 s117 : AV) {A B : Ma}
abbrev xMf (st : Nat) (pend : Option AExit) : Blk := .loop st pend (yIh s0 s1 s7 s8 s9 s12 s13 s14 s15 s16 s17 s18 s19 s20 s21 s22 s23 s24 s25 s26 s27 s28 s29 s30 s31 s32 s33 s34 s35 s36 s37 s38 s39 s40 s41 s42 s43 s44 s45 s46 s47 s48 s49 s50 s51 s52 s53 s54 s55 s56 s57 s58 s59 s60 s61 s62 s63 s64 s65 s66 s67 s68 s69 s70 s71 s72 s73 s74 s75 s76 s77 s78 s79 s80 s81 s82 s83 s84 s85 s86 s87 s88 s89 s90 s91 s92 s93 s94 s95 s96 s97 s98 s99 s100 s101 s102 s103 s104 s105 s106 s107 s108 s109 s110 s111 s112 s113 s114 s115 s116 s117) [52,53] xVO yCO
set_option maxHeartbeats 2000000 in
theorem yD7 {k : Nat} {S : Bs} {G : Heap} {pw : Nat} (hA : Vm A) (hB : Vm B) (hAB : A.i = B.i) (hk : k < S.1.length) (h : BI A B S k 0) (hp : PV A B S) (hE : EO A B (xMf s0 s1 s7 s8 s9 s12 s13 s14 s15 s16 s17 s18 s19 s20 s21 s22 s23 s24 s25 s26 s27 s28 s29 s30 s31 s32 s33 s34 s35 s36 s37 s38 s39 s40 s41 s42 s43 s44 s45 s46 s47 s48 s49 s50 s51 s52 s53 s54 s55 s56 s57 s58 s59 s60 s61 s62 s63 s64 s65 s66 s67 s68 s69 s70 s71 s72 s73 s74 s75 s76 s77 s78 s79 s80 s81 s82 s83 s84 s85 s86 s87 s88 s89 s90 s91 s92 s93 s94 s95 s96 s97 s98 s99 s100 s101 s102 s103 s104 s105 s106 s107 s108 s109 s110 s111 s112 s113 s114 s115 s116 s117 0 none) G S pw) :
  (∀ v S',xFh A B (S.2.getD k []) (S.1.getD k (0,0)) (List.range (two A.i)) S = (some v,S') → ∃ G',L.icall (.yield 14) [.int .i64 (k : Nat),.agg [.int .i64 ((S.1.getD k (0,0)).1 : Nat),.int .i64 ((S.1.getD k (0,0)).2 : Nat)]] G = some (.bool false,G') ∧ TA G' v ∧ G'[3]? = some (.cells false false [.bool false]) ∧ G'[4]? = some (.cells false false [.int .i64 0]) ∧ G'[14]? = some (xMf s0 s1 s7 s8 s9 s12 s13 s14 s15 s16 s17 s18 s19 s20 s21 s22 s23 s24 s25 s26 s27 s28 s29 s30 s31 s32 s33 s34 s35 s36 s37 s38 s39 s40 s41 s42 s43 s44 s45 s46 s47 s48 s49 s50 s51 s52 s53 s54 s55 s56 s57 s58 s59 s60 s61 s62 s63 s64 s65 s66 s67 s68 s69 s70 s71 s72 s73 s74 s75 s76 s77 s78 s79 s80 s81 s82 s83 s84 s85 s86 s87 s88 s89 s90 s91 s92 s93 s94 s95 s96 s97 s98 s99 s100 s101 s102 s103 s104 s105 s106 s107 s108 s109 s110 s111 s112 s113 s114 s115 s116 s117 2 (some .ret))) ∧
  (∀ S',xFh A B (S.2.getD k []) (S.1.getD k (0,0)) (List.range (two A.i)) S = (none,S') → ∃ G' pw',L.icall (.yield 14) [.int .i64 (k : Nat),.agg [.int .i64 ((S.1.getD k (0,0)).1 : Nat),.int .i64 ((S.1.getD k (0,0)).2 : Nat)]] G = some (.bool true,G') ∧ EO A B (xMf s0 s1 s7 s8 s9 s12 s13 s14 s15 s16 s17 s18 s19 s20 s21 s22 s23 s24 s25 s26 s27 s28 s29 s30 s31 s32 s33 s34 s35 s36 s37 s38 s39 s40 s41 s42 s43 s44 s45 s46 s47 s48 s49 s50 s51 s52 s53 s54 s55 s56 s57 s58 s59 s60 s61 s62 s63 s64 s65 s66 s67 s68 s69 s70 s71 s72 s73 s74 s75 s76 s77 s78 s79 s80 s81 s82 s83 s84 s85 s86 s87 s88 s89 s90 s91 s92 s93 s94 s95 s96 s97 s98 s99 s100 s101 s102 s103 s104 s105 s106 s107 s108 s109 s110 s111 s112 s113 s114 s115 s116 s117 0 none) G' S' pw' ∧ PV A B S') := by
 have hi := hE.into (lb' := xMf s0 s1 s7 s8 s9 s12 s13 s14 s15 s16 s17 s18 s19 s20 s21 s22 s23 s24 s25 s26 s27 s28 s29 s30 s31 s32 s33 s34 s35 s36 s37 s38 s39 s40 s41 s42 s43 s44 s45 s46 s47 s48 s49 s50 s51 s52 s53 s54 s55 s56 s57 s58 s59 s60 s61 s62 s63 s64 s65 s66 s67 s68 s69 s70 s71 s72 s73 s74 s75 s76 s77 s78 s79 s80 s81 s82 s83 s84 s85 s86 s87 s88 s89 s90 s91 s92 s93 s94 s95 s96 s97 s98 s99 s100 s101 s102 s103 s104 s105 s106 s107 s108 s109 s110 s111 s112 s113 s114 s115 s116 s117 1 none) (S.1.getD k (0,0))
 have ha := xNe hA hB hAB (two A.i) 0 S _ pw (by omega) hk h hp hi
 rw [← List.range_eq_range'] at ha
 have g0 := hE.g0
 have gl := hE.gl
 have hG := xAI gl
 unfold Ma.cells at g0
 have hio := hA.io
 have hsi := xDN (show A.i ≤ 6 by omega)
 have hi0 : ¬ ((A.i : Nat) : Int) < 0 := by omega
 generalize S.1.getD k (0,0) = c at *
 rw [xGV,xPE (hH := gl) (h1 := rfl) (h2 := rfl) (h3 := rfl)]
 constructor
 ·intro v S' e
  obtain ⟨F',G',e1,e2,e3,e4,e5⟩ := ha.1 v S' e
  change L.loop xC3 xGn ⟨xKp (.ptr 0 0) (.ptr 1 0) (.ptr 2 0) (.ptr 3 0) (.ptr 4 0) (.ptr 7 0) (.ptr 12 0) (.int .i64 (k : Nat)) (.ptr G.length 0) (.int .i64 (two A.i : Nat)) (.int .i64 0),_⟩ = _ at e1
  have hl' := xAI e5
  refine ⟨G'.set 14 (xMf s0 s1 s7 s8 s9 s12 s13 s14 s15 s16 s17 s18 s19 s20 s21 s22 s23 s24 s25 s26 s27 s28 s29 s30 s31 s32 s33 s34 s35 s36 s37 s38 s39 s40 s41 s42 s43 s44 s45 s46 s47 s48 s49 s50 s51 s52 s53 s54 s55 s56 s57 s58 s59 s60 s61 s62 s63 s64 s65 s66 s67 s68 s69 s70 s71 s72 s73 s74 s75 s76 s77 s78 s79 s80 s81 s82 s83 s84 s85 s86 s87 s88 s89 s90 s91 s92 s93 s94 s95 s96 s97 s98 s99 s100 s101 s102 s103 s104 s105 s106 s107 s108 s109 s110 s111 s112 s113 s114 s115 s116 s117 2 (some .ret)),?_,?_,?_,?_,?_⟩
  ·simp (maxSteps := 30000000) (disch := first | assumption | omega | (simp only [WL,AV.isCell,xAe] <;> omega) | rfl | decide) only [WB,xVP,xMD,AV.cells,AV.isCell,↓reduceIte,Nat.reduceAdd,xD3,xX8,xAZ,gl,xNg,yBa,xRI,xAS,g0,hsi,xKq,e1,e5]
  ·exact e2.set14 _
  ·rw [xAS (by omega),e3]
  ·rw [xAS (by omega),e4]
  ·rw [xCt hl']
 ·intro S' e
  obtain ⟨F',G',pw',e1,e2,e3⟩ := ha.2 S' e
  change L.loop xC3 xGn ⟨xKp (.ptr 0 0) (.ptr 1 0) (.ptr 2 0) (.ptr 3 0) (.ptr 4 0) (.ptr 7 0) (.ptr 12 0) (.int .i64 (k : Nat)) (.ptr G.length 0) (.int .i64 (two A.i : Nat)) (.int .i64 0),_⟩ = _ at e1
  have e5 := e2.gl
  refine ⟨G'.set 14 (xMf s0 s1 s7 s8 s9 s12 s13 s14 s15 s16 s17 s18 s19 s20 s21 s22 s23 s24 s25 s26 s27 s28 s29 s30 s31 s32 s33 s34 s35 s36 s37 s38 s39 s40 s41 s42 s43 s44 s45 s46 s47 s48 s49 s50 s51 s52 s53 s54 s55 s56 s57 s58 s59 s60 s61 s62 s63 s64 s65 s66 s67 s68 s69 s70 s71 s72 s73 s74 s75 s76 s77 s78 s79 s80 s81 s82 s83 s84 s85 s86 s87 s88 s89 s90 s91 s92 s93 s94 s95 s96 s97 s98 s99 s100 s101 s102 s103 s104 s105 s106 s107 s108 s109 s110 s111 s112 s113 s114 s115 s116 s117 0 none),pw',?_,e2.out,e3⟩
  simp (maxSteps := 30000000) (disch := first | assumption | omega | (simp only [WL,AV.isCell,xAe] <;> omega) | rfl | decide) only [WB,xVP,xMD,AV.cells,AV.isCell,↓reduceIte,Nat.reduceAdd,xD3,xX8,xAZ,gl,xNg,yBa,xRI,xAS,g0,hsi,xKq,e1,e5]
end
section
variable {A B : Ma} {lb0 lb2 : Blk}
def Rnd (A B : Ma) (lb0 lb2 : Blk) : Prop := ∀ (k : Nat) (S : Bs) (G : Heap) (pw : Nat),k < S.1.length → BI A B S k 0 → PV A B S → EO A B lb0 G S pw →
  (∀ v S',xFh A B (S.2.getD k []) (S.1.getD k (0,0)) (List.range (two A.i)) S = (some v,S') → ∃ G',L.icall (.yield 14) [.int .i64 (k : Nat),.agg [.int .i64 ((S.1.getD k (0,0)).1 : Nat),.int .i64 ((S.1.getD k (0,0)).2 : Nat)]] G = some (.bool false,G') ∧ TA G' v ∧ G'[3]? = some (.cells false false [.bool false]) ∧ G'[4]? = some (.cells false false [.int .i64 0]) ∧ G'[14]? = some lb2) ∧
  (∀ S',xFh A B (S.2.getD k []) (S.1.getD k (0,0)) (List.range (two A.i)) S = (none,S') → ∃ G' pw',L.icall (.yield 14) [.int .i64 (k : Nat),.agg [.int .i64 ((S.1.getD k (0,0)).1 : Nat),.int .i64 ((S.1.getD k (0,0)).2 : Nat)]] G = some (.bool true,G') ∧ EO A B lb0 G' S' pw' ∧ PV A B S')
theorem yFX (hA : Vm A) (hB : Vm B) (hr : Rnd A B lb0 lb2) : ∀ (e k : Nat) (S : Bs) (G : Heap) (pw : Nat),BI A B S k 0 → k ≤ S.1.length → PV A B S → EO A B lb0 G S pw → A.next.length * B.next.length < e + k →
  (∀ v,xJq A B e k S = some v → ∃ F' G',L.loop xET xMF ⟨xEs (.yield 14) (.ptr 13 0) (.int .i64 (k : Nat)),G⟩ = some (.ret,⟨F',G'⟩) ∧ TA G' v ∧ G'[3]? = some (.cells false false [.bool false]) ∧ G'[4]? = some (.cells false false [.int .i64 0]) ∧ G'[14]? = some lb2) ∧
  (xJq A B e k S = none → ∃ F' G' S' pw',L.loop xET xMF ⟨xEs (.yield 14) (.ptr 13 0) (.int .i64 (k : Nat)),G⟩ = some (.exit 0,⟨F',G'⟩) ∧ EO A B lb0 G' S' pw' ∧ BI A B S' S'.1.length 0)
 | 0,k,S,G,pw,h,hk,hp,hE,he => by
  have := h.len_le hp
  omega
 | e + 1,k,S,G,pw,h,hk,hp,hE,he => by
  have hle := h.len_le hp
  have hs := xJx hA hB
  have g13 := hE.g13
  obtain ⟨mv,lv,q1,q2⟩ := hE.q
  have q3 : ∃ p,lv = .own false p 0 S.1.length 2 ∧ G[p]? = some (.cells false false (pcs S.1)) := by
   rcases q2 with ⟨-,-,e0⟩ | ⟨q,p,e1,e2,p1,p2,m1,m2⟩
   ·have := h.first.2.2
    rw [e0] at this
    simp at this
   ·exact ⟨p,e2,m2⟩
  obtain ⟨p,rfl,hpl⟩ := q3
  rw [xJq]
  by_cases hc : k < S.1.length
  ·rw [if_pos hc]
   have hr' := hr k S G pw hc h hp hE
   have hB1 := xJs A B k (two A.i) 0 S (by omega) hc h
   rw [← List.range_eq_range'] at hB1
   have hlt : ((k : Nat) : Int) < (S.1.length : Nat) := by omega
   generalize xFh A B (S.2.getD k []) (S.1.getD k (0,0)) (List.range (two A.i)) S = r at hr' hB1
   obtain ⟨r1,r2⟩ := r
   cases r1 with
   | some v =>
    obtain ⟨G',e1,e2⟩ := hr'.1 v r2 rfl
    refine ⟨?_,by intro e'; simp at e'⟩
    intro v' ev
    simp only [Option.some.injEq] at ev
    subst ev
    refine ⟨xEs (.yield 14) (.ptr 13 0) (.int .i64 (k : Nat)),G',?_,e2⟩
    rw [xWd]
    simp (maxSteps := 30000000) (disch := first | assumption | omega | (simp only [WL,AV.isCell,xAe] <;> omega) | rfl | decide) only [xOB,WB,g13,q1,hlt,↓reduceIte,hpl,xL6,e1,xOC]
   | none =>
    obtain ⟨G',pw',e1,e2,e3⟩ := hr'.2 r2 rfl
    have hb := hB1.2 r2 rfl
    have hn := yFX hA hB hr e (k + 1) r2 G' pw' hb.1.next hb.2 e3 e2 (by omega)
    have hst : L.loop xET xMF ⟨xEs (.yield 14) (.ptr 13 0) (.int .i64 (k : Nat)),G⟩ = L.loop xET xMF ⟨xEs (.yield 14) (.ptr 13 0) (.int .i64 ((k + 1 : Nat) : Nat)),G'⟩ := by
     rw [xWd]
     simp (maxSteps := 30000000) (disch := first | assumption | omega | (simp only [WL,AV.isCell,xAe] <;> omega) | rfl | decide) only [xOB,WB,g13,q1,hlt,↓reduceIte,hpl,xL6,e1,xOC]
    rw [hst]
    exact hn
  ·rw [if_neg hc]
   have hlt : ¬ ((k : Nat) : Int) < (S.1.length : Nat) := by omega
   have hk' : k = S.1.length := by omega
   refine ⟨by intro v e'; simp at e',fun _ => ⟨xEs (.yield 14) (.ptr 13 0) (.int .i64 (k : Nat)),G,S,pw,?_,hE,by rw [← hk']; exact h⟩⟩
   rw [xWd]
   simp (maxSteps := 30000000) (disch := first | assumption | omega | (simp only [WL,AV.isCell,xAe] <;> omega) | rfl | decide) only [xOB,WB,g13,q1,hlt,↓reduceIte,xOC]
end
noncomputable def xHr (H : Heap) : Heap := match L.icall (.func 95 [.ptr 13 0]) [.yield 14] H with
 | some (_,G) => G
 | none => []
theorem xY0 (b0 b1 b2 b3 b4 b5 b6 : Blk) (k1 k2 : Nat) : L.icall (.func 74 []) [.ptr 7 0,.agg [.int .i64 (k1 : Nat),.int .i64 (k2 : Nat)]] [b0,b1,b2,b3,b4,b5,b6,.cells false false [.nilm,.sl true 0 []]] =
  some (.tup [.int .i64 0,.bool true],[b0,b1,b2,b3,b4,b5,b6,.cells false false [.mp 9,.own false 10 0 1 2],.cells false false [.int .i64 (k1 : Nat),.int .i64 (k2 : Nat)],.mp (ent kv2 [(k1,k2)] 0),.cells false false (pcs [(k1,k2)])]) := xYx rfl
section
variable {A B : Ma}
abbrev H37 (A B : Ma) (lb : Blk) : Heap := [.cells false false [.int .i64 (A.i : Nat),.int .i64 (A.o : Nat),.int .i64 (A.s : Nat),.sl false A.next.length (A.next.map rowI),.sl false A.emit.length (A.emit.map rowB)],.cells false false [.int .i64 (B.i : Nat),.int .i64 (B.o : Nat),.int .i64 (B.s : Nat),.sl false B.next.length (B.next.map rowI),.sl false B.emit.length (B.emit.map rowB)],.cells false false [.sl true 0 []],.cells false false [.bool false],.cells false false [.int .i64 0],.cells false false [.int .i64 (A.i : Nat),.int .i64 (A.o : Nat),.int .i64 (A.s : Nat),.sl false A.next.length (A.next.map rowI),.sl false A.emit.length (A.emit.map rowB)],.cells false false [.int .i64 (B.i : Nat),.int .i64 (B.o : Nat),.int .i64 (B.s : Nat),.sl false B.next.length (B.next.map rowI),.sl false B.emit.length (B.emit.map rowB)],.cells false false [.mp 9,.own false 10 0 1 2],.cells false false [.int .i64 (A.s : Nat),.int .i64 (B.s : Nat)],.mp (ent kv2 [(A.s,B.s)] 0),.cells false false (pcs [(A.s,B.s)]),.cells false false [.sl true 0 []],.cells false false [.own false 11 0 1 1],.cells false false [.ptr 7 0],lb]
theorem yFY (A B : Ma) (lb : Blk) : EO A B lb (H37 A B lb) ([(A.s,B.s)],[[]]) 11 :=
 ⟨rfl,rfl,rfl,rfl,rfl,rfl,rfl,⟨.mp 9,.own false 10 0 1 2,rfl,.inr ⟨9,10,rfl,rfl,⟨by omega,by omega,by omega,by omega,by omega⟩,⟨by omega,by omega,by omega,by omega,by omega⟩,rfl,rfl⟩⟩,rfl,rfl,.inl rfl⟩
def yD8 (A B : Ma) : Option (List Nat) := xJq A B (A.next.length * B.next.length + 1) 0 ([(A.s,B.s)],[[]])
theorem xNf (hA : Vm A) (hB : Vm B) : PV A B ([(A.s,B.s)],[[]]) := by
 intro x hx
 rw [List.mem_singleton] at hx
 subst hx
 exact ⟨hA.s,hB.s⟩
set_option maxHeartbeats 1000000 in
theorem yHJ {lb0 lb2 : Blk} (hA : Vm A) (hB : Vm B) (hr : Rnd A B lb0 lb2) :
  (∀ v,yD8 A B = some v → L.icall (.func 95 [.ptr 13 0]) [.yield 14] (H37 A B lb0) = some (.tup [],xHr (H37 A B lb0)) ∧ TA (xHr (H37 A B lb0)) v ∧ (xHr (H37 A B lb0))[3]? = some (.cells false false [.bool false]) ∧ (xHr (H37 A B lb0))[4]? = some (.cells false false [.int .i64 0]) ∧ (xHr (H37 A B lb0))[14]? = some lb2) ∧
  (yD8 A B = none → L.icall (.func 95 [.ptr 13 0]) [.yield 14] (H37 A B lb0) = some (.tup [],xHr (H37 A B lb0)) ∧ (xHr (H37 A B lb0))[2]? = some (.cells false false [.sl true 0 []]) ∧ (xHr (H37 A B lb0))[3]? = some (.cells false false [.bool false]) ∧ (xHr (H37 A B lb0))[4]? = some (.cells false false [.int .i64 0]) ∧ (xHr (H37 A B lb0))[14]? = some lb0) := by
 have ho := yFX hA hB hr (A.next.length * B.next.length + 1) 0 _ _ 11 (BI.start A B) (by simp) (xNf hA hB) (yFY A B lb0) (by omega)
 have hs : ∀ G',L.icall (.func 95 [.ptr 13 0]) [.yield 14] (H37 A B lb0) = some (.tup [],G') → xHr (H37 A B lb0) = G' := by
  intro G' e; unfold xHr; rw [e]
 have hw : ∀ x F' G',(x = .ret ∨ x = .exit 0) → L.loop xET xMF ⟨xEs (.yield 14) (.ptr 13 0) (.int .i64 ((0 : Nat) : Nat)),H37 A B lb0⟩ = some (x,⟨F',G'⟩) → L.icall (.func 95 [.ptr 13 0]) [.yield 14] (H37 A B lb0) = some (.tup [],G') := by
  intro x F' G' hx e
  generalize H37 A B lb0 = H at *
  change L.loop xET xMF ⟨xEs (.yield 14) (.ptr 13 0) (.int .i64 0),H⟩ = _ at e
  rw [yH5,a95]
  rcases hx with rfl | rfl
  ·simp (maxSteps := 30000000) (disch := first | assumption | omega | (simp only [WL,AV.isCell,xAe] <;> omega) | rfl | decide) only [WB,Nat.reduceAdd,Nat.reduceSub,xOC,e]
  ·simp (maxSteps := 30000000) (disch := first | assumption | omega | (simp only [WL,AV.isCell,xAe] <;> omega) | rfl | decide) only [WB,Nat.reduceAdd,Nat.reduceSub,xOC,e,↓reduceIte]
 constructor
 ·intro v hv
  obtain ⟨F',G',e1,e2⟩ := ho.1 v hv
  have := hw _ F' G' (.inl rfl) e1
  rw [hs G' this]
  exact ⟨this,e2⟩
 ·intro hv
  obtain ⟨F',G',S',pw',e1,e2,e3⟩ := ho.2 hv
  have := hw _ F' G' (.inr rfl) e1
  rw [hs G' this]
  exact ⟨this,e2.g2,e2.g3,e2.g4,e2.gl⟩
theorem xY1 (hA : Vm A) (hB : Vm B) (hAB : A.i = B.i) (s0 s1 s7 s8 s9 s12 s13 s14 s15 s16 s17 s18 s19 s20 s21 s22 s23 s24 s25 s26 s27 s28 s29 s30 s31 s32 s33 s34 s35 s36 s37 s38 s39 s40 s41 s42 s43 s44 s45 s46 s47 s48 s49 s50 s51 s52 s53 s54 s55 s56 s57 s58 s59 s60 s61 s62 s63 s64 s65 s66 s67 s68 s69 s70 s71 s72 s73 s74 s75 s76 s77 s78 s79 s80 s81 s82 s83 s84 s85 s86 s87 s88 s89 s90 s91 s92 s93 s94 s95 s96 s97 s98 s99 s100 s101 s102 s103 s104 s105 s106 s107 s108 s109 s110 s111 s112 s113 s114 s115 s116 s117 : AV) : Rnd A B (xMf s0 s1 s7 s8 s9 s12 s13 s14 s15 s16 s17 s18 s19 s20 s21 s22 s23 s24 s25 s26 s27 s28 s29 s30 s31 s32 s33 s34 s35 s36 s37 s38 s39 s40 s41 s42 s43 s44 s45 s46 s47 s48 s49 s50 s51 s52 s53 s54 s55 s56 s57 s58 s59 s60 s61 s62 s63 s64 s65 s66 s67 s68 s69 s70 s71 s72 s73 s74 s75 s76 s77 s78 s79 s80 s81 s82 s83 s84 s85 s86 s87 s88 s89 s90 s91 s92 s93 s94 s95 s96 s97 s98 s99 s100 s101 s102 s103 s104 s105 s106 s107 s108 s109 s110 s111 s112 s113 s114 s115 s116 s117 0 none) (xMf s0 s1 s7 s8 s9 s12 s13 s14 s15 s16 s17 s18 s19 s20 s21 s22 s23 s24 s25 s26 s27 s28 s29 s30 s31 s32 s33 s34 s35 s36 s37 s38 s39 s40 s41 s42 s43 s44 s45 s46 s47 s48 s49 s50 s51 s52 s53 s54 s55 s56 s57 s58 s59 s60 s61 s62 s63 s64 s65 s66 s67 s68 s69 s70 s71 s72 s73 s74 s75 s76 s77 s78 s79 s80 s81 s82 s83 s84 s85 s86 s87 s88 s89 s90 s91 s92 s93 s94 s95 s96 s97 s98 s99 s100 s101 s102 s103 s104 s105 s106 s107 s108 s109 s110 s111 s112 s113 s114 s115 s116 s117 2 (some .ret)) :=
 fun k S G pw h1 h2 h3 h4 => yD7 s0 s1 s7 s8 s9 s12 s13 s14 s15 s16 s17 s18 s19 s20 s21 s22 s23 s24 s25 s26 s27 s28 s29 s30 s31 s32 s33 s34 s35 s36 s37 s38 s39 s40 s41 s42 s43 s44 s45 s46 s47 s48 s49 s50 s51 s52 s53 s54 s55 s56 s57 s58 s59 s60 s61 s62 s63 s64 s65 s66 s67 s68 s69 s70 s71 s72 s73 s74 s75 s76 s77 s78 s79 s80 s81 s82 s83 s84 s85 s86 s87 s88 s89 s90 s91 s92 s93 s94 s95 s96 s97 s98 s99 s100 s101 s102 s103 s104 s105 s106 s107 s108 s109 s110 s111 s112 s113 s114 s115 s116 s117 hA hB hAB h1 h2 h3 h4
def pvO (G : Heap) : Nat := match G[2]? with
 | some (Blk.cells _ _ [AV.own _ p _ _ _]) => p
 | _ => 0
theorem TA.po {G : Heap} {v : List Nat} (h : TA G v) : 15 ≤ pvO G ∧ G[2]? = some (.cells false false [.own false (pvO G) 0 v.length 1]) ∧ G[pvO G]? = some (.cells false false (bs v)) := by
 obtain ⟨pv,h1,h2,h3⟩ := h
 have e : pvO G = pv := by unfold pvO; rw [h2]
 rw [e]
 exact ⟨h1,h2,h3⟩
set_option maxHeartbeats 4000000 in
theorem yAX (hA : Vm A) (hB : Vm B) (hAB : A.i = B.i) (hO : A.o = B.o) : match yD8 A B with
  | some v => xBj L 37 [A.av,B.av] = some (.tup [.own false 0 0 v.length 1,.bool false,.int .i64 0],[.cells false false (bs v)])
  | none => xBj L 37 [A.av,B.av] = some (.tup [.sl true 0 [],.bool true,.int .i64 0],[]) := by
 have hc := xDv hA
 have hd := xDv hB
 unfold Ma.av Ma.cells at hc hd ⊢
 have n1 : (((A.i : Nat) : Int) = (B.i : Nat)) ↔ True := iff_true_intro (by omega)
 have n2 : (((A.o : Nat) : Int) = (B.o : Nat)) ↔ True := iff_true_intro (by omega)
 cases hs : yD8 A B with
 | some v =>
  have hg := fun s0 s1 s7 s8 s9 s12 s13 s14 s15 s16 s17 s18 s19 s20 s21 s22 s23 s24 s25 s26 s27 s28 s29 s30 s31 s32 s33 s34 s35 s36 s37 s38 s39 s40 s41 s42 s43 s44 s45 s46 s47 s48 s49 s50 s51 s52 s53 s54 s55 s56 s57 s58 s59 s60 s61 s62 s63 s64 s65 s66 s67 s68 s69 s70 s71 s72 s73 s74 s75 s76 s77 s78 s79 s80 s81 s82 s83 s84 s85 s86 s87 s88 s89 s90 s91 s92 s93 s94 s95 s96 s97 s98 s99 s100 s101 s102 s103 s104 s105 s106 s107 s108 s109 s110 s111 s112 s113 s114 s115 s116 s117 => (yHJ hA hB (xY1 hA hB hAB s0 s1 s7 s8 s9 s12 s13 s14 s15 s16 s17 s18 s19 s20 s21 s22 s23 s24 s25 s26 s27 s28 s29 s30 s31 s32 s33 s34 s35 s36 s37 s38 s39 s40 s41 s42 s43 s44 s45 s46 s47 s48 s49 s50 s51 s52 s53 s54 s55 s56 s57 s58 s59 s60 s61 s62 s63 s64 s65 s66 s67 s68 s69 s70 s71 s72 s73 s74 s75 s76 s77 s78 s79 s80 s81 s82 s83 s84 s85 s86 s87 s88 s89 s90 s91 s92 s93 s94 s95 s96 s97 s98 s99 s100 s101 s102 s103 s104 s105 s106 s107 s108 s109 s110 s111 s112 s113 s114 s115 s116 s117)).1 v hs
  have h1 := fun s0 s1 s7 s8 s9 s12 s13 s14 s15 s16 s17 s18 s19 s20 s21 s22 s23 s24 s25 s26 s27 s28 s29 s30 s31 s32 s33 s34 s35 s36 s37 s38 s39 s40 s41 s42 s43 s44 s45 s46 s47 s48 s49 s50 s51 s52 s53 s54 s55 s56 s57 s58 s59 s60 s61 s62 s63 s64 s65 s66 s67 s68 s69 s70 s71 s72 s73 s74 s75 s76 s77 s78 s79 s80 s81 s82 s83 s84 s85 s86 s87 s88 s89 s90 s91 s92 s93 s94 s95 s96 s97 s98 s99 s100 s101 s102 s103 s104 s105 s106 s107 s108 s109 s110 s111 s112 s113 s114 s115 s116 s117 => (hg s0 s1 s7 s8 s9 s12 s13 s14 s15 s16 s17 s18 s19 s20 s21 s22 s23 s24 s25 s26 s27 s28 s29 s30 s31 s32 s33 s34 s35 s36 s37 s38 s39 s40 s41 s42 s43 s44 s45 s46 s47 s48 s49 s50 s51 s52 s53 s54 s55 s56 s57 s58 s59 s60 s61 s62 s63 s64 s65 s66 s67 s68 s69 s70 s71 s72 s73 s74 s75 s76 s77 s78 s79 s80 s81 s82 s83 s84 s85 s86 s87 s88 s89 s90 s91 s92 s93 s94 s95 s96 s97 s98 s99 s100 s101 s102 s103 s104 s105 s106 s107 s108 s109 s110 s111 s112 s113 s114 s115 s116 s117).1
  have h2 := fun s0 s1 s7 s8 s9 s12 s13 s14 s15 s16 s17 s18 s19 s20 s21 s22 s23 s24 s25 s26 s27 s28 s29 s30 s31 s32 s33 s34 s35 s36 s37 s38 s39 s40 s41 s42 s43 s44 s45 s46 s47 s48 s49 s50 s51 s52 s53 s54 s55 s56 s57 s58 s59 s60 s61 s62 s63 s64 s65 s66 s67 s68 s69 s70 s71 s72 s73 s74 s75 s76 s77 s78 s79 s80 s81 s82 s83 s84 s85 s86 s87 s88 s89 s90 s91 s92 s93 s94 s95 s96 s97 s98 s99 s100 s101 s102 s103 s104 s105 s106 s107 s108 s109 s110 s111 s112 s113 s114 s115 s116 s117 => (hg s0 s1 s7 s8 s9 s12 s13 s14 s15 s16 s17 s18 s19 s20 s21 s22 s23 s24 s25 s26 s27 s28 s29 s30 s31 s32 s33 s34 s35 s36 s37 s38 s39 s40 s41 s42 s43 s44 s45 s46 s47 s48 s49 s50 s51 s52 s53 s54 s55 s56 s57 s58 s59 s60 s61 s62 s63 s64 s65 s66 s67 s68 s69 s70 s71 s72 s73 s74 s75 s76 s77 s78 s79 s80 s81 s82 s83 s84 s85 s86 s87 s88 s89 s90 s91 s92 s93 s94 s95 s96 s97 s98 s99 s100 s101 s102 s103 s104 s105 s106 s107 s108 s109 s110 s111 s112 s113 s114 s115 s116 s117).2.1.po
  have h3 := fun s0 s1 s7 s8 s9 s12 s13 s14 s15 s16 s17 s18 s19 s20 s21 s22 s23 s24 s25 s26 s27 s28 s29 s30 s31 s32 s33 s34 s35 s36 s37 s38 s39 s40 s41 s42 s43 s44 s45 s46 s47 s48 s49 s50 s51 s52 s53 s54 s55 s56 s57 s58 s59 s60 s61 s62 s63 s64 s65 s66 s67 s68 s69 s70 s71 s72 s73 s74 s75 s76 s77 s78 s79 s80 s81 s82 s83 s84 s85 s86 s87 s88 s89 s90 s91 s92 s93 s94 s95 s96 s97 s98 s99 s100 s101 s102 s103 s104 s105 s106 s107 s108 s109 s110 s111 s112 s113 s114 s115 s116 s117 => (hg s0 s1 s7 s8 s9 s12 s13 s14 s15 s16 s17 s18 s19 s20 s21 s22 s23 s24 s25 s26 s27 s28 s29 s30 s31 s32 s33 s34 s35 s36 s37 s38 s39 s40 s41 s42 s43 s44 s45 s46 s47 s48 s49 s50 s51 s52 s53 s54 s55 s56 s57 s58 s59 s60 s61 s62 s63 s64 s65 s66 s67 s68 s69 s70 s71 s72 s73 s74 s75 s76 s77 s78 s79 s80 s81 s82 s83 s84 s85 s86 s87 s88 s89 s90 s91 s92 s93 s94 s95 s96 s97 s98 s99 s100 s101 s102 s103 s104 s105 s106 s107 s108 s109 s110 s111 s112 s113 s114 s115 s116 s117).2.2.1
  have h4 := fun s0 s1 s7 s8 s9 s12 s13 s14 s15 s16 s17 s18 s19 s20 s21 s22 s23 s24 s25 s26 s27 s28 s29 s30 s31 s32 s33 s34 s35 s36 s37 s38 s39 s40 s41 s42 s43 s44 s45 s46 s47 s48 s49 s50 s51 s52 s53 s54 s55 s56 s57 s58 s59 s60 s61 s62 s63 s64 s65 s66 s67 s68 s69 s70 s71 s72 s73 s74 s75 s76 s77 s78 s79 s80 s81 s82 s83 s84 s85 s86 s87 s88 s89 s90 s91 s92 s93 s94 s95 s96 s97 s98 s99 s100 s101 s102 s103 s104 s105 s106 s107 s108 s109 s110 s111 s112 s113 s114 s115 s116 s117 => (hg s0 s1 s7 s8 s9 s12 s13 s14 s15 s16 s17 s18 s19 s20 s21 s22 s23 s24 s25 s26 s27 s28 s29 s30 s31 s32 s33 s34 s35 s36 s37 s38 s39 s40 s41 s42 s43 s44 s45 s46 s47 s48 s49 s50 s51 s52 s53 s54 s55 s56 s57 s58 s59 s60 s61 s62 s63 s64 s65 s66 s67 s68 s69 s70 s71 s72 s73 s74 s75 s76 s77 s78 s79 s80 s81 s82 s83 s84 s85 s86 s87 s88 s89 s90 s91 s92 s93 s94 s95 s96 s97 s98 s99 s100 s101 s102 s103 s104 s105 s106 s107 s108 s109 s110 s111 s112 s113 s114 s115 s116 s117).2.2.2.1
  have h5 := fun s0 s1 s7 s8 s9 s12 s13 s14 s15 s16 s17 s18 s19 s20 s21 s22 s23 s24 s25 s26 s27 s28 s29 s30 s31 s32 s33 s34 s35 s36 s37 s38 s39 s40 s41 s42 s43 s44 s45 s46 s47 s48 s49 s50 s51 s52 s53 s54 s55 s56 s57 s58 s59 s60 s61 s62 s63 s64 s65 s66 s67 s68 s69 s70 s71 s72 s73 s74 s75 s76 s77 s78 s79 s80 s81 s82 s83 s84 s85 s86 s87 s88 s89 s90 s91 s92 s93 s94 s95 s96 s97 s98 s99 s100 s101 s102 s103 s104 s105 s106 s107 s108 s109 s110 s111 s112 s113 s114 s115 s116 s117 => (hg s0 s1 s7 s8 s9 s12 s13 s14 s15 s16 s17 s18 s19 s20 s21 s22 s23 s24 s25 s26 s27 s28 s29 s30 s31 s32 s33 s34 s35 s36 s37 s38 s39 s40 s41 s42 s43 s44 s45 s46 s47 s48 s49 s50 s51 s52 s53 s54 s55 s56 s57 s58 s59 s60 s61 s62 s63 s64 s65 s66 s67 s68 s69 s70 s71 s72 s73 s74 s75 s76 s77 s78 s79 s80 s81 s82 s83 s84 s85 s86 s87 s88 s89 s90 s91 s92 s93 s94 s95 s96 s97 s98 s99 s100 s101 s102 s103 s104 s105 s106 s107 s108 s109 s110 s111 s112 s113 s114 s115 s116 s117).2.2.2.2
  clear hg
  have q2 : ∀ (s0 s1 s7 s8 s9 s12 s13 s14 s15 s16 s17 s18 s19 s20 s21 s22 s23 s24 s25 s26 s27 s28 s29 s30 s31 s32 s33 s34 s35 s36 s37 s38 s39 s40 s41 s42 s43 s44 s45 s46 s47 s48 s49 s50 s51 s52 s53 s54 s55 s56 s57 s58 s59 s60 s61 s62 s63 s64 s65 s66 s67 s68 s69 s70 s71 s72 s73 s74 s75 s76 s77 s78 s79 s80 s81 s82 s83 s84 s85 s86 s87 s88 s89 s90 s91 s92 s93 s94 s95 s96 s97 s98 s99 s100 s101 s102 s103 s104 s105 s106 s107 s108 s109 s110 s111 s112 s113 s114 s115 s116 s117 : AV),(xHr (H37 A B (xMf s0 s1 s7 s8 s9 s12 s13 s14 s15 s16 s17 s18 s19 s20 s21 s22 s23 s24 s25 s26 s27 s28 s29 s30 s31 s32 s33 s34 s35 s36 s37 s38 s39 s40 s41 s42 s43 s44 s45 s46 s47 s48 s49 s50 s51 s52 s53 s54 s55 s56 s57 s58 s59 s60 s61 s62 s63 s64 s65 s66 s67 s68 s69 s70 s71 s72 s73 s74 s75 s76 s77 s78 s79 s80 s81 s82 s83 s84 s85 s86 s87 s88 s89 s90 s91 s92 s93 s94 s95 s96 s97 s98 s99 s100 s101 s102 s103 s104 s105 s106 s107 s108 s109 s110 s111 s112 s113 s114 s115 s116 s117 0 none)))[2]? = some (.cells false false [.own false (pvO (xHr (H37 A B (xMf s0 s1 s7 s8 s9 s12 s13 s14 s15 s16 s17 s18 s19 s20 s21 s22 s23 s24 s25 s26 s27 s28 s29 s30 s31 s32 s33 s34 s35 s36 s37 s38 s39 s40 s41 s42 s43 s44 s45 s46 s47 s48 s49 s50 s51 s52 s53 s54 s55 s56 s57 s58 s59 s60 s61 s62 s63 s64 s65 s66 s67 s68 s69 s70 s71 s72 s73 s74 s75 s76 s77 s78 s79 s80 s81 s82 s83 s84 s85 s86 s87 s88 s89 s90 s91 s92 s93 s94 s95 s96 s97 s98 s99 s100 s101 s102 s103 s104 s105 s106 s107 s108 s109 s110 s111 s112 s113 s114 s115 s116 s117 0 none)))) 0 v.length 1]) := fun s0 s1 s7 s8 s9 s12 s13 s14 s15 s16 s17 s18 s19 s20 s21 s22 s23 s24 s25 s26 s27 s28 s29 s30 s31 s32 s33 s34 s35 s36 s37 s38 s39 s40 s41 s42 s43 s44 s45 s46 s47 s48 s49 s50 s51 s52 s53 s54 s55 s56 s57 s58 s59 s60 s61 s62 s63 s64 s65 s66 s67 s68 s69 s70 s71 s72 s73 s74 s75 s76 s77 s78 s79 s80 s81 s82 s83 s84 s85 s86 s87 s88 s89 s90 s91 s92 s93 s94 s95 s96 s97 s98 s99 s100 s101 s102 s103 s104 s105 s106 s107 s108 s109 s110 s111 s112 s113 s114 s115 s116 s117 => (h2 s0 s1 s7 s8 s9 s12 s13 s14 s15 s16 s17 s18 s19 s20 s21 s22 s23 s24 s25 s26 s27 s28 s29 s30 s31 s32 s33 s34 s35 s36 s37 s38 s39 s40 s41 s42 s43 s44 s45 s46 s47 s48 s49 s50 s51 s52 s53 s54 s55 s56 s57 s58 s59 s60 s61 s62 s63 s64 s65 s66 s67 s68 s69 s70 s71 s72 s73 s74 s75 s76 s77 s78 s79 s80 s81 s82 s83 s84 s85 s86 s87 s88 s89 s90 s91 s92 s93 s94 s95 s96 s97 s98 s99 s100 s101 s102 s103 s104 s105 s106 s107 s108 s109 s110 s111 s112 s113 s114 s115 s116 s117).2.1
  have r2 : ∀ (s0 s1 s7 s8 s9 s12 s13 s14 s15 s16 s17 s18 s19 s20 s21 s22 s23 s24 s25 s26 s27 s28 s29 s30 s31 s32 s33 s34 s35 s36 s37 s38 s39 s40 s41 s42 s43 s44 s45 s46 s47 s48 s49 s50 s51 s52 s53 s54 s55 s56 s57 s58 s59 s60 s61 s62 s63 s64 s65 s66 s67 s68 s69 s70 s71 s72 s73 s74 s75 s76 s77 s78 s79 s80 s81 s82 s83 s84 s85 s86 s87 s88 s89 s90 s91 s92 s93 s94 s95 s96 s97 s98 s99 s100 s101 s102 s103 s104 s105 s106 s107 s108 s109 s110 s111 s112 s113 s114 s115 s116 s117 : AV) (a : Blk),(((xHr (H37 A B (xMf s0 s1 s7 s8 s9 s12 s13 s14 s15 s16 s17 s18 s19 s20 s21 s22 s23 s24 s25 s26 s27 s28 s29 s30 s31 s32 s33 s34 s35 s36 s37 s38 s39 s40 s41 s42 s43 s44 s45 s46 s47 s48 s49 s50 s51 s52 s53 s54 s55 s56 s57 s58 s59 s60 s61 s62 s63 s64 s65 s66 s67 s68 s69 s70 s71 s72 s73 s74 s75 s76 s77 s78 s79 s80 s81 s82 s83 s84 s85 s86 s87 s88 s89 s90 s91 s92 s93 s94 s95 s96 s97 s98 s99 s100 s101 s102 s103 s104 s105 s106 s107 s108 s109 s110 s111 s112 s113 s114 s115 s116 s117 0 none))).set 14 .dead).set 2 a)[2]? = some a := fun s0 s1 s7 s8 s9 s12 s13 s14 s15 s16 s17 s18 s19 s20 s21 s22 s23 s24 s25 s26 s27 s28 s29 s30 s31 s32 s33 s34 s35 s36 s37 s38 s39 s40 s41 s42 s43 s44 s45 s46 s47 s48 s49 s50 s51 s52 s53 s54 s55 s56 s57 s58 s59 s60 s61 s62 s63 s64 s65 s66 s67 s68 s69 s70 s71 s72 s73 s74 s75 s76 s77 s78 s79 s80 s81 s82 s83 s84 s85 s86 s87 s88 s89 s90 s91 s92 s93 s94 s95 s96 s97 s98 s99 s100 s101 s102 s103 s104 s105 s106 s107 s108 s109 s110 s111 s112 s113 s114 s115 s116 s117 a => xCt (by have := xAI (h5 s0 s1 s7 s8 s9 s12 s13 s14 s15 s16 s17 s18 s19 s20 s21 s22 s23 s24 s25 s26 s27 s28 s29 s30 s31 s32 s33 s34 s35 s36 s37 s38 s39 s40 s41 s42 s43 s44 s45 s46 s47 s48 s49 s50 s51 s52 s53 s54 s55 s56 s57 s58 s59 s60 s61 s62 s63 s64 s65 s66 s67 s68 s69 s70 s71 s72 s73 s74 s75 s76 s77 s78 s79 s80 s81 s82 s83 s84 s85 s86 s87 s88 s89 s90 s91 s92 s93 s94 s95 s96 s97 s98 s99 s100 s101 s102 s103 s104 s105 s106 s107 s108 s109 s110 s111 s112 s113 s114 s115 s116 s117); simp only [List.length_set]; omega)
  have r3 : ∀ (s0 s1 s7 s8 s9 s12 s13 s14 s15 s16 s17 s18 s19 s20 s21 s22 s23 s24 s25 s26 s27 s28 s29 s30 s31 s32 s33 s34 s35 s36 s37 s38 s39 s40 s41 s42 s43 s44 s45 s46 s47 s48 s49 s50 s51 s52 s53 s54 s55 s56 s57 s58 s59 s60 s61 s62 s63 s64 s65 s66 s67 s68 s69 s70 s71 s72 s73 s74 s75 s76 s77 s78 s79 s80 s81 s82 s83 s84 s85 s86 s87 s88 s89 s90 s91 s92 s93 s94 s95 s96 s97 s98 s99 s100 s101 s102 s103 s104 s105 s106 s107 s108 s109 s110 s111 s112 s113 s114 s115 s116 s117 : AV) (a b : Blk),((((xHr (H37 A B (xMf s0 s1 s7 s8 s9 s12 s13 s14 s15 s16 s17 s18 s19 s20 s21 s22 s23 s24 s25 s26 s27 s28 s29 s30 s31 s32 s33 s34 s35 s36 s37 s38 s39 s40 s41 s42 s43 s44 s45 s46 s47 s48 s49 s50 s51 s52 s53 s54 s55 s56 s57 s58 s59 s60 s61 s62 s63 s64 s65 s66 s67 s68 s69 s70 s71 s72 s73 s74 s75 s76 s77 s78 s79 s80 s81 s82 s83 s84 s85 s86 s87 s88 s89 s90 s91 s92 s93 s94 s95 s96 s97 s98 s99 s100 s101 s102 s103 s104 s105 s106 s107 s108 s109 s110 s111 s112 s113 s114 s115 s116 s117 0 none))).set 14 .dead).set 2 a).set 3 b)[3]? = some b := fun s0 s1 s7 s8 s9 s12 s13 s14 s15 s16 s17 s18 s19 s20 s21 s22 s23 s24 s25 s26 s27 s28 s29 s30 s31 s32 s33 s34 s35 s36 s37 s38 s39 s40 s41 s42 s43 s44 s45 s46 s47 s48 s49 s50 s51 s52 s53 s54 s55 s56 s57 s58 s59 s60 s61 s62 s63 s64 s65 s66 s67 s68 s69 s70 s71 s72 s73 s74 s75 s76 s77 s78 s79 s80 s81 s82 s83 s84 s85 s86 s87 s88 s89 s90 s91 s92 s93 s94 s95 s96 s97 s98 s99 s100 s101 s102 s103 s104 s105 s106 s107 s108 s109 s110 s111 s112 s113 s114 s115 s116 s117 a b => xCt (by have := xAI (h5 s0 s1 s7 s8 s9 s12 s13 s14 s15 s16 s17 s18 s19 s20 s21 s22 s23 s24 s25 s26 s27 s28 s29 s30 s31 s32 s33 s34 s35 s36 s37 s38 s39 s40 s41 s42 s43 s44 s45 s46 s47 s48 s49 s50 s51 s52 s53 s54 s55 s56 s57 s58 s59 s60 s61 s62 s63 s64 s65 s66 s67 s68 s69 s70 s71 s72 s73 s74 s75 s76 s77 s78 s79 s80 s81 s82 s83 s84 s85 s86 s87 s88 s89 s90 s91 s92 s93 s94 s95 s96 s97 s98 s99 s100 s101 s102 s103 s104 s105 s106 s107 s108 s109 s110 s111 s112 s113 s114 s115 s116 s117); simp only [List.length_set]; omega)
  have r4 : ∀ (s0 s1 s7 s8 s9 s12 s13 s14 s15 s16 s17 s18 s19 s20 s21 s22 s23 s24 s25 s26 s27 s28 s29 s30 s31 s32 s33 s34 s35 s36 s37 s38 s39 s40 s41 s42 s43 s44 s45 s46 s47 s48 s49 s50 s51 s52 s53 s54 s55 s56 s57 s58 s59 s60 s61 s62 s63 s64 s65 s66 s67 s68 s69 s70 s71 s72 s73 s74 s75 s76 s77 s78 s79 s80 s81 s82 s83 s84 s85 s86 s87 s88 s89 s90 s91 s92 s93 s94 s95 s96 s97 s98 s99 s100 s101 s102 s103 s104 s105 s106 s107 s108 s109 s110 s111 s112 s113 s114 s115 s116 s117 : AV) (a b c : Blk),(((((xHr (H37 A B (xMf s0 s1 s7 s8 s9 s12 s13 s14 s15 s16 s17 s18 s19 s20 s21 s22 s23 s24 s25 s26 s27 s28 s29 s30 s31 s32 s33 s34 s35 s36 s37 s38 s39 s40 s41 s42 s43 s44 s45 s46 s47 s48 s49 s50 s51 s52 s53 s54 s55 s56 s57 s58 s59 s60 s61 s62 s63 s64 s65 s66 s67 s68 s69 s70 s71 s72 s73 s74 s75 s76 s77 s78 s79 s80 s81 s82 s83 s84 s85 s86 s87 s88 s89 s90 s91 s92 s93 s94 s95 s96 s97 s98 s99 s100 s101 s102 s103 s104 s105 s106 s107 s108 s109 s110 s111 s112 s113 s114 s115 s116 s117 0 none))).set 14 .dead).set 2 a).set 3 b).set 4 c)[4]? = some c := fun s0 s1 s7 s8 s9 s12 s13 s14 s15 s16 s17 s18 s19 s20 s21 s22 s23 s24 s25 s26 s27 s28 s29 s30 s31 s32 s33 s34 s35 s36 s37 s38 s39 s40 s41 s42 s43 s44 s45 s46 s47 s48 s49 s50 s51 s52 s53 s54 s55 s56 s57 s58 s59 s60 s61 s62 s63 s64 s65 s66 s67 s68 s69 s70 s71 s72 s73 s74 s75 s76 s77 s78 s79 s80 s81 s82 s83 s84 s85 s86 s87 s88 s89 s90 s91 s92 s93 s94 s95 s96 s97 s98 s99 s100 s101 s102 s103 s104 s105 s106 s107 s108 s109 s110 s111 s112 s113 s114 s115 s116 s117 a b c => xCt (by have := xAI (h5 s0 s1 s7 s8 s9 s12 s13 s14 s15 s16 s17 s18 s19 s20 s21 s22 s23 s24 s25 s26 s27 s28 s29 s30 s31 s32 s33 s34 s35 s36 s37 s38 s39 s40 s41 s42 s43 s44 s45 s46 s47 s48 s49 s50 s51 s52 s53 s54 s55 s56 s57 s58 s59 s60 s61 s62 s63 s64 s65 s66 s67 s68 s69 s70 s71 s72 s73 s74 s75 s76 s77 s78 s79 s80 s81 s82 s83 s84 s85 s86 s87 s88 s89 s90 s91 s92 s93 s94 s95 s96 s97 s98 s99 s100 s101 s102 s103 s104 s105 s106 s107 s108 s109 s110 s111 s112 s113 s114 s115 s116 s117); simp only [List.length_set]; omega)
  have r5 : ∀ (s0 s1 s7 s8 s9 s12 s13 s14 s15 s16 s17 s18 s19 s20 s21 s22 s23 s24 s25 s26 s27 s28 s29 s30 s31 s32 s33 s34 s35 s36 s37 s38 s39 s40 s41 s42 s43 s44 s45 s46 s47 s48 s49 s50 s51 s52 s53 s54 s55 s56 s57 s58 s59 s60 s61 s62 s63 s64 s65 s66 s67 s68 s69 s70 s71 s72 s73 s74 s75 s76 s77 s78 s79 s80 s81 s82 s83 s84 s85 s86 s87 s88 s89 s90 s91 s92 s93 s94 s95 s96 s97 s98 s99 s100 s101 s102 s103 s104 s105 s106 s107 s108 s109 s110 s111 s112 s113 s114 s115 s116 s117 : AV) (a b c : Blk),(((((xHr (H37 A B (xMf s0 s1 s7 s8 s9 s12 s13 s14 s15 s16 s17 s18 s19 s20 s21 s22 s23 s24 s25 s26 s27 s28 s29 s30 s31 s32 s33 s34 s35 s36 s37 s38 s39 s40 s41 s42 s43 s44 s45 s46 s47 s48 s49 s50 s51 s52 s53 s54 s55 s56 s57 s58 s59 s60 s61 s62 s63 s64 s65 s66 s67 s68 s69 s70 s71 s72 s73 s74 s75 s76 s77 s78 s79 s80 s81 s82 s83 s84 s85 s86 s87 s88 s89 s90 s91 s92 s93 s94 s95 s96 s97 s98 s99 s100 s101 s102 s103 s104 s105 s106 s107 s108 s109 s110 s111 s112 s113 s114 s115 s116 s117 0 none))).set 14 .dead).set 2 a).set 3 b).set 4 c)[pvO (xHr (H37 A B (xMf s0 s1 s7 s8 s9 s12 s13 s14 s15 s16 s17 s18 s19 s20 s21 s22 s23 s24 s25 s26 s27 s28 s29 s30 s31 s32 s33 s34 s35 s36 s37 s38 s39 s40 s41 s42 s43 s44 s45 s46 s47 s48 s49 s50 s51 s52 s53 s54 s55 s56 s57 s58 s59 s60 s61 s62 s63 s64 s65 s66 s67 s68 s69 s70 s71 s72 s73 s74 s75 s76 s77 s78 s79 s80 s81 s82 s83 s84 s85 s86 s87 s88 s89 s90 s91 s92 s93 s94 s95 s96 s97 s98 s99 s100 s101 s102 s103 s104 s105 s106 s107 s108 s109 s110 s111 s112 s113 s114 s115 s116 s117 0 none)))]? = some (.cells false false (bs v)) := fun s0 s1 s7 s8 s9 s12 s13 s14 s15 s16 s17 s18 s19 s20 s21 s22 s23 s24 s25 s26 s27 s28 s29 s30 s31 s32 s33 s34 s35 s36 s37 s38 s39 s40 s41 s42 s43 s44 s45 s46 s47 s48 s49 s50 s51 s52 s53 s54 s55 s56 s57 s58 s59 s60 s61 s62 s63 s64 s65 s66 s67 s68 s69 s70 s71 s72 s73 s74 s75 s76 s77 s78 s79 s80 s81 s82 s83 s84 s85 s86 s87 s88 s89 s90 s91 s92 s93 s94 s95 s96 s97 s98 s99 s100 s101 s102 s103 s104 s105 s106 s107 s108 s109 s110 s111 s112 s113 s114 s115 s116 s117 a b c => by
   obtain ⟨p1,p2,p3⟩ := h2 s0 s1 s7 s8 s9 s12 s13 s14 s15 s16 s17 s18 s19 s20 s21 s22 s23 s24 s25 s26 s27 s28 s29 s30 s31 s32 s33 s34 s35 s36 s37 s38 s39 s40 s41 s42 s43 s44 s45 s46 s47 s48 s49 s50 s51 s52 s53 s54 s55 s56 s57 s58 s59 s60 s61 s62 s63 s64 s65 s66 s67 s68 s69 s70 s71 s72 s73 s74 s75 s76 s77 s78 s79 s80 s81 s82 s83 s84 s85 s86 s87 s88 s89 s90 s91 s92 s93 s94 s95 s96 s97 s98 s99 s100 s101 s102 s103 s104 s105 s106 s107 s108 s109 s110 s111 s112 s113 s114 s115 s116 s117
   rw [xAS (by omega),xAS (by omega),xAS (by omega),xAS (by omega),p3]
  have r6 : ∀ (s0 s1 s7 s8 s9 s12 s13 s14 s15 s16 s17 s18 s19 s20 s21 s22 s23 s24 s25 s26 s27 s28 s29 s30 s31 s32 s33 s34 s35 s36 s37 s38 s39 s40 s41 s42 s43 s44 s45 s46 s47 s48 s49 s50 s51 s52 s53 s54 s55 s56 s57 s58 s59 s60 s61 s62 s63 s64 s65 s66 s67 s68 s69 s70 s71 s72 s73 s74 s75 s76 s77 s78 s79 s80 s81 s82 s83 s84 s85 s86 s87 s88 s89 s90 s91 s92 s93 s94 s95 s96 s97 s98 s99 s100 s101 s102 s103 s104 s105 s106 s107 s108 s109 s110 s111 s112 s113 s114 s115 s116 s117 : AV),((xHr (H37 A B (xMf s0 s1 s7 s8 s9 s12 s13 s14 s15 s16 s17 s18 s19 s20 s21 s22 s23 s24 s25 s26 s27 s28 s29 s30 s31 s32 s33 s34 s35 s36 s37 s38 s39 s40 s41 s42 s43 s44 s45 s46 s47 s48 s49 s50 s51 s52 s53 s54 s55 s56 s57 s58 s59 s60 s61 s62 s63 s64 s65 s66 s67 s68 s69 s70 s71 s72 s73 s74 s75 s76 s77 s78 s79 s80 s81 s82 s83 s84 s85 s86 s87 s88 s89 s90 s91 s92 s93 s94 s95 s96 s97 s98 s99 s100 s101 s102 s103 s104 s105 s106 s107 s108 s109 s110 s111 s112 s113 s114 s115 s116 s117 0 none))).set 14 .dead)[pvO (xHr (H37 A B (xMf s0 s1 s7 s8 s9 s12 s13 s14 s15 s16 s17 s18 s19 s20 s21 s22 s23 s24 s25 s26 s27 s28 s29 s30 s31 s32 s33 s34 s35 s36 s37 s38 s39 s40 s41 s42 s43 s44 s45 s46 s47 s48 s49 s50 s51 s52 s53 s54 s55 s56 s57 s58 s59 s60 s61 s62 s63 s64 s65 s66 s67 s68 s69 s70 s71 s72 s73 s74 s75 s76 s77 s78 s79 s80 s81 s82 s83 s84 s85 s86 s87 s88 s89 s90 s91 s92 s93 s94 s95 s96 s97 s98 s99 s100 s101 s102 s103 s104 s105 s106 s107 s108 s109 s110 s111 s112 s113 s114 s115 s116 s117 0 none)))]? = some (.cells false false (bs v)) := fun s0 s1 s7 s8 s9 s12 s13 s14 s15 s16 s17 s18 s19 s20 s21 s22 s23 s24 s25 s26 s27 s28 s29 s30 s31 s32 s33 s34 s35 s36 s37 s38 s39 s40 s41 s42 s43 s44 s45 s46 s47 s48 s49 s50 s51 s52 s53 s54 s55 s56 s57 s58 s59 s60 s61 s62 s63 s64 s65 s66 s67 s68 s69 s70 s71 s72 s73 s74 s75 s76 s77 s78 s79 s80 s81 s82 s83 s84 s85 s86 s87 s88 s89 s90 s91 s92 s93 s94 s95 s96 s97 s98 s99 s100 s101 s102 s103 s104 s105 s106 s107 s108 s109 s110 s111 s112 s113 s114 s115 s116 s117 => by
   obtain ⟨p1,p2,p3⟩ := h2 s0 s1 s7 s8 s9 s12 s13 s14 s15 s16 s17 s18 s19 s20 s21 s22 s23 s24 s25 s26 s27 s28 s29 s30 s31 s32 s33 s34 s35 s36 s37 s38 s39 s40 s41 s42 s43 s44 s45 s46 s47 s48 s49 s50 s51 s52 s53 s54 s55 s56 s57 s58 s59 s60 s61 s62 s63 s64 s65 s66 s67 s68 s69 s70 s71 s72 s73 s74 s75 s76 s77 s78 s79 s80 s81 s82 s83 s84 s85 s86 s87 s88 s89 s90 s91 s92 s93 s94 s95 s96 s97 s98 s99 s100 s101 s102 s103 s104 s105 s106 s107 s108 s109 s110 s111 s112 s113 s114 s115 s116 s117
   rw [xAS (by omega),p3]
  have lv : (bs v).length = v.length := xAJ v
  have tv : List.take v.length (bs v) = bs v := List.take_of_length_le (by omega)
  show xBj L 37 _ = _
  rw [xCd,yEc,a37,xCc]
  simp (maxSteps := 30000000) (disch := first | assumption | omega | (simp only [WL,AV.isCell,xAe] <;> omega) | rfl | decide) only [WB,Nat.reduceAdd,Nat.reduceSub,AV.cells,AV.isCell,↓reduceIte,Nat.reduceMul,Nat.reduceLeDiff,xKm,xKn,xGO,Int.reduceLT,hc,xBL,xAF,hd,Int.reduceAdd,n1,n2,xY0,yHu,a75,h1,h5,xAS,q2,h3,h4,WP,r6]
 | none =>
  have hg := fun s0 s1 s7 s8 s9 s12 s13 s14 s15 s16 s17 s18 s19 s20 s21 s22 s23 s24 s25 s26 s27 s28 s29 s30 s31 s32 s33 s34 s35 s36 s37 s38 s39 s40 s41 s42 s43 s44 s45 s46 s47 s48 s49 s50 s51 s52 s53 s54 s55 s56 s57 s58 s59 s60 s61 s62 s63 s64 s65 s66 s67 s68 s69 s70 s71 s72 s73 s74 s75 s76 s77 s78 s79 s80 s81 s82 s83 s84 s85 s86 s87 s88 s89 s90 s91 s92 s93 s94 s95 s96 s97 s98 s99 s100 s101 s102 s103 s104 s105 s106 s107 s108 s109 s110 s111 s112 s113 s114 s115 s116 s117 => (yHJ hA hB (xY1 hA hB hAB s0 s1 s7 s8 s9 s12 s13 s14 s15 s16 s17 s18 s19 s20 s21 s22 s23 s24 s25 s26 s27 s28 s29 s30 s31 s32 s33 s34 s35 s36 s37 s38 s39 s40 s41 s42 s43 s44 s45 s46 s47 s48 s49 s50 s51 s52 s53 s54 s55 s56 s57 s58 s59 s60 s61 s62 s63 s64 s65 s66 s67 s68 s69 s70 s71 s72 s73 s74 s75 s76 s77 s78 s79 s80 s81 s82 s83 s84 s85 s86 s87 s88 s89 s90 s91 s92 s93 s94 s95 s96 s97 s98 s99 s100 s101 s102 s103 s104 s105 s106 s107 s108 s109 s110 s111 s112 s113 s114 s115 s116 s117)).2 hs
  have h1 := fun s0 s1 s7 s8 s9 s12 s13 s14 s15 s16 s17 s18 s19 s20 s21 s22 s23 s24 s25 s26 s27 s28 s29 s30 s31 s32 s33 s34 s35 s36 s37 s38 s39 s40 s41 s42 s43 s44 s45 s46 s47 s48 s49 s50 s51 s52 s53 s54 s55 s56 s57 s58 s59 s60 s61 s62 s63 s64 s65 s66 s67 s68 s69 s70 s71 s72 s73 s74 s75 s76 s77 s78 s79 s80 s81 s82 s83 s84 s85 s86 s87 s88 s89 s90 s91 s92 s93 s94 s95 s96 s97 s98 s99 s100 s101 s102 s103 s104 s105 s106 s107 s108 s109 s110 s111 s112 s113 s114 s115 s116 s117 => (hg s0 s1 s7 s8 s9 s12 s13 s14 s15 s16 s17 s18 s19 s20 s21 s22 s23 s24 s25 s26 s27 s28 s29 s30 s31 s32 s33 s34 s35 s36 s37 s38 s39 s40 s41 s42 s43 s44 s45 s46 s47 s48 s49 s50 s51 s52 s53 s54 s55 s56 s57 s58 s59 s60 s61 s62 s63 s64 s65 s66 s67 s68 s69 s70 s71 s72 s73 s74 s75 s76 s77 s78 s79 s80 s81 s82 s83 s84 s85 s86 s87 s88 s89 s90 s91 s92 s93 s94 s95 s96 s97 s98 s99 s100 s101 s102 s103 s104 s105 s106 s107 s108 s109 s110 s111 s112 s113 s114 s115 s116 s117).1
  have h2 := fun s0 s1 s7 s8 s9 s12 s13 s14 s15 s16 s17 s18 s19 s20 s21 s22 s23 s24 s25 s26 s27 s28 s29 s30 s31 s32 s33 s34 s35 s36 s37 s38 s39 s40 s41 s42 s43 s44 s45 s46 s47 s48 s49 s50 s51 s52 s53 s54 s55 s56 s57 s58 s59 s60 s61 s62 s63 s64 s65 s66 s67 s68 s69 s70 s71 s72 s73 s74 s75 s76 s77 s78 s79 s80 s81 s82 s83 s84 s85 s86 s87 s88 s89 s90 s91 s92 s93 s94 s95 s96 s97 s98 s99 s100 s101 s102 s103 s104 s105 s106 s107 s108 s109 s110 s111 s112 s113 s114 s115 s116 s117 => (hg s0 s1 s7 s8 s9 s12 s13 s14 s15 s16 s17 s18 s19 s20 s21 s22 s23 s24 s25 s26 s27 s28 s29 s30 s31 s32 s33 s34 s35 s36 s37 s38 s39 s40 s41 s42 s43 s44 s45 s46 s47 s48 s49 s50 s51 s52 s53 s54 s55 s56 s57 s58 s59 s60 s61 s62 s63 s64 s65 s66 s67 s68 s69 s70 s71 s72 s73 s74 s75 s76 s77 s78 s79 s80 s81 s82 s83 s84 s85 s86 s87 s88 s89 s90 s91 s92 s93 s94 s95 s96 s97 s98 s99 s100 s101 s102 s103 s104 s105 s106 s107 s108 s109 s110 s111 s112 s113 s114 s115 s116 s117).2.1
  have h3 := fun s0 s1 s7 s8 s9 s12 s13 s14 s15 s16 s17 s18 s19 s20 s21 s22 s23 s24 s25 s26 s27 s28 s29 s30 s31 s32 s33 s34 s35 s36 s37 s38 s39 s40 s41 s42 s43 s44 s45 s46 s47 s48 s49 s50 s51 s52 s53 s54 s55 s56 s57 s58 s59 s60 s61 s62 s63 s64 s65 s66 s67 s68 s69 s70 s71 s72 s73 s74 s75 s76 s77 s78 s79 s80 s81 s82 s83 s84 s85 s86 s87 s88 s89 s90 s91 s92 s93 s94 s95 s96 s97 s98 s99 s100 s101 s102 s103 s104 s105 s106 s107 s108 s109 s110 s111 s112 s113 s114 s115 s116 s117 => (hg s0 s1 s7 s8 s9 s12 s13 s14 s15 s16 s17 s18 s19 s20 s21 s22 s23 s24 s25 s26 s27 s28 s29 s30 s31 s32 s33 s34 s35 s36 s37 s38 s39 s40 s41 s42 s43 s44 s45 s46 s47 s48 s49 s50 s51 s52 s53 s54 s55 s56 s57 s58 s59 s60 s61 s62 s63 s64 s65 s66 s67 s68 s69 s70 s71 s72 s73 s74 s75 s76 s77 s78 s79 s80 s81 s82 s83 s84 s85 s86 s87 s88 s89 s90 s91 s92 s93 s94 s95 s96 s97 s98 s99 s100 s101 s102 s103 s104 s105 s106 s107 s108 s109 s110 s111 s112 s113 s114 s115 s116 s117).2.2.1
  have h4 := fun s0 s1 s7 s8 s9 s12 s13 s14 s15 s16 s17 s18 s19 s20 s21 s22 s23 s24 s25 s26 s27 s28 s29 s30 s31 s32 s33 s34 s35 s36 s37 s38 s39 s40 s41 s42 s43 s44 s45 s46 s47 s48 s49 s50 s51 s52 s53 s54 s55 s56 s57 s58 s59 s60 s61 s62 s63 s64 s65 s66 s67 s68 s69 s70 s71 s72 s73 s74 s75 s76 s77 s78 s79 s80 s81 s82 s83 s84 s85 s86 s87 s88 s89 s90 s91 s92 s93 s94 s95 s96 s97 s98 s99 s100 s101 s102 s103 s104 s105 s106 s107 s108 s109 s110 s111 s112 s113 s114 s115 s116 s117 => (hg s0 s1 s7 s8 s9 s12 s13 s14 s15 s16 s17 s18 s19 s20 s21 s22 s23 s24 s25 s26 s27 s28 s29 s30 s31 s32 s33 s34 s35 s36 s37 s38 s39 s40 s41 s42 s43 s44 s45 s46 s47 s48 s49 s50 s51 s52 s53 s54 s55 s56 s57 s58 s59 s60 s61 s62 s63 s64 s65 s66 s67 s68 s69 s70 s71 s72 s73 s74 s75 s76 s77 s78 s79 s80 s81 s82 s83 s84 s85 s86 s87 s88 s89 s90 s91 s92 s93 s94 s95 s96 s97 s98 s99 s100 s101 s102 s103 s104 s105 s106 s107 s108 s109 s110 s111 s112 s113 s114 s115 s116 s117).2.2.2.1
  have h5 := fun s0 s1 s7 s8 s9 s12 s13 s14 s15 s16 s17 s18 s19 s20 s21 s22 s23 s24 s25 s26 s27 s28 s29 s30 s31 s32 s33 s34 s35 s36 s37 s38 s39 s40 s41 s42 s43 s44 s45 s46 s47 s48 s49 s50 s51 s52 s53 s54 s55 s56 s57 s58 s59 s60 s61 s62 s63 s64 s65 s66 s67 s68 s69 s70 s71 s72 s73 s74 s75 s76 s77 s78 s79 s80 s81 s82 s83 s84 s85 s86 s87 s88 s89 s90 s91 s92 s93 s94 s95 s96 s97 s98 s99 s100 s101 s102 s103 s104 s105 s106 s107 s108 s109 s110 s111 s112 s113 s114 s115 s116 s117 => (hg s0 s1 s7 s8 s9 s12 s13 s14 s15 s16 s17 s18 s19 s20 s21 s22 s23 s24 s25 s26 s27 s28 s29 s30 s31 s32 s33 s34 s35 s36 s37 s38 s39 s40 s41 s42 s43 s44 s45 s46 s47 s48 s49 s50 s51 s52 s53 s54 s55 s56 s57 s58 s59 s60 s61 s62 s63 s64 s65 s66 s67 s68 s69 s70 s71 s72 s73 s74 s75 s76 s77 s78 s79 s80 s81 s82 s83 s84 s85 s86 s87 s88 s89 s90 s91 s92 s93 s94 s95 s96 s97 s98 s99 s100 s101 s102 s103 s104 s105 s106 s107 s108 s109 s110 s111 s112 s113 s114 s115 s116 s117).2.2.2.2
  clear hg
  have r2 : ∀ (s0 s1 s7 s8 s9 s12 s13 s14 s15 s16 s17 s18 s19 s20 s21 s22 s23 s24 s25 s26 s27 s28 s29 s30 s31 s32 s33 s34 s35 s36 s37 s38 s39 s40 s41 s42 s43 s44 s45 s46 s47 s48 s49 s50 s51 s52 s53 s54 s55 s56 s57 s58 s59 s60 s61 s62 s63 s64 s65 s66 s67 s68 s69 s70 s71 s72 s73 s74 s75 s76 s77 s78 s79 s80 s81 s82 s83 s84 s85 s86 s87 s88 s89 s90 s91 s92 s93 s94 s95 s96 s97 s98 s99 s100 s101 s102 s103 s104 s105 s106 s107 s108 s109 s110 s111 s112 s113 s114 s115 s116 s117 : AV) (a : Blk),(((xHr (H37 A B (xMf s0 s1 s7 s8 s9 s12 s13 s14 s15 s16 s17 s18 s19 s20 s21 s22 s23 s24 s25 s26 s27 s28 s29 s30 s31 s32 s33 s34 s35 s36 s37 s38 s39 s40 s41 s42 s43 s44 s45 s46 s47 s48 s49 s50 s51 s52 s53 s54 s55 s56 s57 s58 s59 s60 s61 s62 s63 s64 s65 s66 s67 s68 s69 s70 s71 s72 s73 s74 s75 s76 s77 s78 s79 s80 s81 s82 s83 s84 s85 s86 s87 s88 s89 s90 s91 s92 s93 s94 s95 s96 s97 s98 s99 s100 s101 s102 s103 s104 s105 s106 s107 s108 s109 s110 s111 s112 s113 s114 s115 s116 s117 0 none))).set 14 .dead).set 2 a)[2]? = some a := fun s0 s1 s7 s8 s9 s12 s13 s14 s15 s16 s17 s18 s19 s20 s21 s22 s23 s24 s25 s26 s27 s28 s29 s30 s31 s32 s33 s34 s35 s36 s37 s38 s39 s40 s41 s42 s43 s44 s45 s46 s47 s48 s49 s50 s51 s52 s53 s54 s55 s56 s57 s58 s59 s60 s61 s62 s63 s64 s65 s66 s67 s68 s69 s70 s71 s72 s73 s74 s75 s76 s77 s78 s79 s80 s81 s82 s83 s84 s85 s86 s87 s88 s89 s90 s91 s92 s93 s94 s95 s96 s97 s98 s99 s100 s101 s102 s103 s104 s105 s106 s107 s108 s109 s110 s111 s112 s113 s114 s115 s116 s117 a => xCt (by have := xAI (h5 s0 s1 s7 s8 s9 s12 s13 s14 s15 s16 s17 s18 s19 s20 s21 s22 s23 s24 s25 s26 s27 s28 s29 s30 s31 s32 s33 s34 s35 s36 s37 s38 s39 s40 s41 s42 s43 s44 s45 s46 s47 s48 s49 s50 s51 s52 s53 s54 s55 s56 s57 s58 s59 s60 s61 s62 s63 s64 s65 s66 s67 s68 s69 s70 s71 s72 s73 s74 s75 s76 s77 s78 s79 s80 s81 s82 s83 s84 s85 s86 s87 s88 s89 s90 s91 s92 s93 s94 s95 s96 s97 s98 s99 s100 s101 s102 s103 s104 s105 s106 s107 s108 s109 s110 s111 s112 s113 s114 s115 s116 s117); simp only [List.length_set]; omega)
  have r3 : ∀ (s0 s1 s7 s8 s9 s12 s13 s14 s15 s16 s17 s18 s19 s20 s21 s22 s23 s24 s25 s26 s27 s28 s29 s30 s31 s32 s33 s34 s35 s36 s37 s38 s39 s40 s41 s42 s43 s44 s45 s46 s47 s48 s49 s50 s51 s52 s53 s54 s55 s56 s57 s58 s59 s60 s61 s62 s63 s64 s65 s66 s67 s68 s69 s70 s71 s72 s73 s74 s75 s76 s77 s78 s79 s80 s81 s82 s83 s84 s85 s86 s87 s88 s89 s90 s91 s92 s93 s94 s95 s96 s97 s98 s99 s100 s101 s102 s103 s104 s105 s106 s107 s108 s109 s110 s111 s112 s113 s114 s115 s116 s117 : AV) (a b : Blk),((((xHr (H37 A B (xMf s0 s1 s7 s8 s9 s12 s13 s14 s15 s16 s17 s18 s19 s20 s21 s22 s23 s24 s25 s26 s27 s28 s29 s30 s31 s32 s33 s34 s35 s36 s37 s38 s39 s40 s41 s42 s43 s44 s45 s46 s47 s48 s49 s50 s51 s52 s53 s54 s55 s56 s57 s58 s59 s60 s61 s62 s63 s64 s65 s66 s67 s68 s69 s70 s71 s72 s73 s74 s75 s76 s77 s78 s79 s80 s81 s82 s83 s84 s85 s86 s87 s88 s89 s90 s91 s92 s93 s94 s95 s96 s97 s98 s99 s100 s101 s102 s103 s104 s105 s106 s107 s108 s109 s110 s111 s112 s113 s114 s115 s116 s117 0 none))).set 14 .dead).set 2 a).set 3 b)[3]? = some b := fun s0 s1 s7 s8 s9 s12 s13 s14 s15 s16 s17 s18 s19 s20 s21 s22 s23 s24 s25 s26 s27 s28 s29 s30 s31 s32 s33 s34 s35 s36 s37 s38 s39 s40 s41 s42 s43 s44 s45 s46 s47 s48 s49 s50 s51 s52 s53 s54 s55 s56 s57 s58 s59 s60 s61 s62 s63 s64 s65 s66 s67 s68 s69 s70 s71 s72 s73 s74 s75 s76 s77 s78 s79 s80 s81 s82 s83 s84 s85 s86 s87 s88 s89 s90 s91 s92 s93 s94 s95 s96 s97 s98 s99 s100 s101 s102 s103 s104 s105 s106 s107 s108 s109 s110 s111 s112 s113 s114 s115 s116 s117 a b => xCt (by have := xAI (h5 s0 s1 s7 s8 s9 s12 s13 s14 s15 s16 s17 s18 s19 s20 s21 s22 s23 s24 s25 s26 s27 s28 s29 s30 s31 s32 s33 s34 s35 s36 s37 s38 s39 s40 s41 s42 s43 s44 s45 s46 s47 s48 s49 s50 s51 s52 s53 s54 s55 s56 s57 s58 s59 s60 s61 s62 s63 s64 s65 s66 s67 s68 s69 s70 s71 s72 s73 s74 s75 s76 s77 s78 s79 s80 s81 s82 s83 s84 s85 s86 s87 s88 s89 s90 s91 s92 s93 s94 s95 s96 s97 s98 s99 s100 s101 s102 s103 s104 s105 s106 s107 s108 s109 s110 s111 s112 s113 s114 s115 s116 s117); simp only [List.length_set]; omega)
  have r4 : ∀ (s0 s1 s7 s8 s9 s12 s13 s14 s15 s16 s17 s18 s19 s20 s21 s22 s23 s24 s25 s26 s27 s28 s29 s30 s31 s32 s33 s34 s35 s36 s37 s38 s39 s40 s41 s42 s43 s44 s45 s46 s47 s48 s49 s50 s51 s52 s53 s54 s55 s56 s57 s58 s59 s60 s61 s62 s63 s64 s65 s66 s67 s68 s69 s70 s71 s72 s73 s74 s75 s76 s77 s78 s79 s80 s81 s82 s83 s84 s85 s86 s87 s88 s89 s90 s91 s92 s93 s94 s95 s96 s97 s98 s99 s100 s101 s102 s103 s104 s105 s106 s107 s108 s109 s110 s111 s112 s113 s114 s115 s116 s117 : AV) (a b c : Blk),(((((xHr (H37 A B (xMf s0 s1 s7 s8 s9 s12 s13 s14 s15 s16 s17 s18 s19 s20 s21 s22 s23 s24 s25 s26 s27 s28 s29 s30 s31 s32 s33 s34 s35 s36 s37 s38 s39 s40 s41 s42 s43 s44 s45 s46 s47 s48 s49 s50 s51 s52 s53 s54 s55 s56 s57 s58 s59 s60 s61 s62 s63 s64 s65 s66 s67 s68 s69 s70 s71 s72 s73 s74 s75 s76 s77 s78 s79 s80 s81 s82 s83 s84 s85 s86 s87 s88 s89 s90 s91 s92 s93 s94 s95 s96 s97 s98 s99 s100 s101 s102 s103 s104 s105 s106 s107 s108 s109 s110 s111 s112 s113 s114 s115 s116 s117 0 none))).set 14 .dead).set 2 a).set 3 b).set 4 c)[4]? = some c := fun s0 s1 s7 s8 s9 s12 s13 s14 s15 s16 s17 s18 s19 s20 s21 s22 s23 s24 s25 s26 s27 s28 s29 s30 s31 s32 s33 s34 s35 s36 s37 s38 s39 s40 s41 s42 s43 s44 s45 s46 s47 s48 s49 s50 s51 s52 s53 s54 s55 s56 s57 s58 s59 s60 s61 s62 s63 s64 s65 s66 s67 s68 s69 s70 s71 s72 s73 s74 s75 s76 s77 s78 s79 s80 s81 s82 s83 s84 s85 s86 s87 s88 s89 s90 s91 s92 s93 s94 s95 s96 s97 s98 s99 s100 s101 s102 s103 s104 s105 s106 s107 s108 s109 s110 s111 s112 s113 s114 s115 s116 s117 a b c => xCt (by have := xAI (h5 s0 s1 s7 s8 s9 s12 s13 s14 s15 s16 s17 s18 s19 s20 s21 s22 s23 s24 s25 s26 s27 s28 s29 s30 s31 s32 s33 s34 s35 s36 s37 s38 s39 s40 s41 s42 s43 s44 s45 s46 s47 s48 s49 s50 s51 s52 s53 s54 s55 s56 s57 s58 s59 s60 s61 s62 s63 s64 s65 s66 s67 s68 s69 s70 s71 s72 s73 s74 s75 s76 s77 s78 s79 s80 s81 s82 s83 s84 s85 s86 s87 s88 s89 s90 s91 s92 s93 s94 s95 s96 s97 s98 s99 s100 s101 s102 s103 s104 s105 s106 s107 s108 s109 s110 s111 s112 s113 s114 s115 s116 s117); simp only [List.length_set]; omega)
  show xBj L 37 _ = _
  rw [xCd,yEc,a37,xCc]
  simp (maxSteps := 30000000) (disch := first | assumption | omega | (simp only [WL,AV.isCell,xAe] <;> omega) | rfl | decide) only [WB,Nat.reduceAdd,Nat.reduceSub,AV.cells,AV.isCell,↓reduceIte,Nat.reduceMul,Nat.reduceLeDiff,xKm,xKn,xGO,Int.reduceLT,hc,xBL,xAF,hd,Int.reduceAdd,n1,n2,xY0,yHu,a75,h1,h5,xAS,h2,h3,h4,r2,r3,r4,WP]
end
theorem xY2 {l : List (Nat × Nat)} {i : Nat} (h : i < l.length) : List.take 1 (List.drop (i * 2) (pcs l)) = [.int .i64 ((l.getD i (0,0)).1 : Nat)] := by
 have e : List.take 1 (List.drop (i * 2) (pcs l)) = List.take 1 (List.take 2 (List.drop (i * 2) (pcs l))) := by rw [List.take_take]; rfl
 rw [e,xL6 h]
 rfl
theorem xY3 {l : List (Nat × Nat)} {i : Nat} (h : i < l.length) : List.take 1 (List.drop (i * 2 + 1) (pcs l)) = [.int .i64 ((l.getD i (0,0)).2 : Nat)] := by
 have e : List.take 1 (List.drop (i * 2 + 1) (pcs l)) = List.drop 1 (List.take 2 (List.drop (i * 2) (pcs l))) := by
  rw [List.drop_take,List.drop_drop]
 rw [e,xL6 h]
 rfl
section
variable {A B : Ma} {k : Nat} {c : Nat × Nat}
theorem xY4 (hA : Vm A) (hB : Vm B) (hAB : A.i = B.i) : ∀ (m i : Nat) (S : Bs) (G : Heap) (p pw : Nat) (v4 v5 v6 : AV),i + m = two A.i → k < S.1.length → BI A B S k i → PV A B S → EQ A B G S p pw →
  (∀ v S',xFh A B (S.2.getD k []) (S.1.getD k (0,0)) (List.range' i m) S = (some v,S') → ∃ q F' G',L.loop xC4 xGo ⟨F38 v4 v5 v6 S p pw k (S.1.getD k (0,0)) i,G⟩ = some (.ret,⟨F',G'⟩) ∧ (∃ s2 s3 s9 s10 s11 s12 s13 s14,F' = xFJ s2 s3 (.own false q 0 v.length 1) (.bool false) (.int .i64 0) s9 s10 s11 s12 s13 s14) ∧ G'[q]? = some (.cells false false (bs v))) ∧
  (∀ S',xFh A B (S.2.getD k []) (S.1.getD k (0,0)) (List.range' i m) S = (none,S') → ∃ u4 u5 u6 p' pw' G',L.loop xC4 xGo ⟨F38 v4 v5 v6 S p pw k (S.1.getD k (0,0)) i,G⟩ = some (.exit 2,⟨F38 u4 u5 u6 S' p' pw' k (S.1.getD k (0,0)) (two A.i),G'⟩) ∧ EQ A B G' S' p' pw' ∧ PV A B S')
 | 0,i,S,G,p,pw,v4,v5,v6,hm,hk,h,hp,hE => by
  have : i = two A.i := by omega
  subst this
  refine ⟨by intro v S' e; simp [xFh] at e,?_⟩
  intro S' e
  simp only [List.range'_zero,xFh,Prod.mk.injEq,true_and] at e
  subst e
  exact ⟨_,_,_,_,_,_,xYX hA hE,hE,hp⟩
 | m + 1,i,S,G,p,pw,v4,v5,v6,hm,hk,h,hp,hE => by
  have hi : i < two A.i := by omega
  have hs := xJx hA hB
  have hle := h.len_le hp
  have hw := h.wlen k hk
  have hl := h.len
  have hc := hp.at hk
  rw [List.range'_succ,xFh]
  by_cases he : em A (S.1.getD k (0,0)).1 i = em B (S.1.getD k (0,0)).2 i
  ·rw [if_neg (fun e => e he)]
   by_cases hmem : (nx A (S.1.getD k (0,0)).1 i,nx B (S.1.getD k (0,0)).2 i) ∈ S.1
   ·rw [if_pos hmem]
    obtain ⟨G',e1,e2⟩ := xYY (v4 := v4) (v5 := v5) (v6 := v6) (k := k) hA hB hAB hE hi (by omega) hc.1 hc.2 (by omega) (by omega) (by omega) he hmem
    rw [e1]
    exact xY4 hA hB hAB m (i + 1) S G' p pw _ _ _ (by omega) hk (h.old hk he hmem) hp e2
   ·rw [if_neg hmem]
    obtain ⟨G',p',pw',e1,e2⟩ := xYZ (v4 := v4) (v5 := v5) (v6 := v6) (k := k) hA hB hAB hE hi (by omega) hc.1 hc.2 (by omega) (by omega) (by omega) he hmem
    rw [e1]
    have hn := h.new hk hi he hmem
    have hp' : PV A B (S.1 ++ [(nx A (S.1.getD k (0,0)).1 i,nx B (S.1.getD k (0,0)).2 i)],S.2 ++ [S.2.getD k [] ++ [i]]) := by
     intro x hx
     rcases List.mem_append.mp hx with hx | hx
     ·exact hp x hx
     ·rw [List.mem_singleton] at hx
      subst hx
      exact ⟨hA.nx hc.1 hi,hB.nx hc.2 (by rw [← hAB]; exact hi)⟩
    have g1 : (S.1 ++ [(nx A (S.1.getD k (0,0)).1 i,nx B (S.1.getD k (0,0)).2 i)]).getD k (0,0) = S.1.getD k (0,0) := xAQ _ _ _ hk
    have g2 : (S.2 ++ [S.2.getD k [] ++ [i]]).getD k [] = S.2.getD k [] := xAQ _ _ _ (by rw [h.len]; exact hk)
    have := xY4 hA hB hAB m (i + 1) (S.1 ++ [(nx A (S.1.getD k (0,0)).1 i,nx B (S.1.getD k (0,0)).2 i)],S.2 ++ [S.2.getD k [] ++ [i]]) G' p' pw' .any .any .any (by omega) (by simp; omega) hn hp' e2
    simp only [g1,g2] at this
    exact this
  ·rw [if_pos he]
   refine ⟨?_,by intro S' e; simp at e⟩
   intro v S' e
   simp only [Prod.mk.injEq,Option.some.injEq] at e
   obtain ⟨rfl,rfl⟩ := e
   have ht := xUM (v4 := v4) (v5 := v5) (v6 := v6) (k := k) hA hB hAB hE hi (by omega) hc.1 hc.2 (by omega) (by omega) he
   refine ⟨G.length + 1,_,_,ht,⟨_,_,_,_,_,_,_,_,by rw [List.length_append]; rfl⟩,?_⟩
   rw [xEO rfl]; rfl
abbrev yFZ (v4 v5 v6 : AV) (S : Bs) (p pw k : Nat) : List AV := xH5 (.ptr 0 0) (.ptr 1 0) v4 v5 v6 (.own false p 0 S.1.length 2) (.own false pw 0 S.2.length 1) (.int .i64 (k : Nat))
set_option maxHeartbeats 2000000 in
theorem yF0 (hA : Vm A) (hB : Vm B) (hAB : A.i = B.i) : ∀ (e k : Nat) (S : Bs) (G : Heap) (p pw : Nat) (v4 v5 v6 : AV),BI A B S k 0 → k ≤ S.1.length → PV A B S → EQ A B G S p pw → A.next.length * B.next.length < e + k →
  (∀ v,xJq A B e k S = some v → ∃ q G' s2 s3 s9 s10 s11,L.loop xES xME ⟨yFZ v4 v5 v6 S p pw k,G⟩ = some (.ret,⟨xH5 s2 s3 (.own false q 0 v.length 1) (.bool false) (.int .i64 0) s9 s10 s11,G'⟩) ∧ G'[q]? = some (.cells false false (bs v))) ∧
  (xJq A B e k S = none → ∃ u4 u5 u6 S' p' pw' G',L.loop xES xME ⟨yFZ v4 v5 v6 S p pw k,G⟩ = some (.exit 0,⟨yFZ u4 u5 u6 S' p' pw' S'.1.length,G'⟩))
 | 0,k,S,G,p,pw,v4,v5,v6,h,hk,hp,hE,he => by
  have := h.len_le hp
  omega
 | e + 1,k,S,G,p,pw,v4,v5,v6,h,hk,hp,hE,he => by
  have hle := h.len_le hp
  have hs := xJx hA hB
  have hl := h.len
  have gp := hE.gp
  rw [xJq]
  by_cases hc : k < S.1.length
  ·rw [if_pos hc]
   have hr' := xY4 (k := k) hA hB hAB (two A.i) 0 S G p pw v4 v5 v6 (by omega) hc h hp hE
   have hB1 := xJs A B k (two A.i) 0 S (by omega) hc h
   rw [← List.range_eq_range'] at hB1 hr'
   have hlt : ((k : Nat) : Int) < (S.1.length : Nat) := by omega
   generalize xFh A B (S.2.getD k []) (S.1.getD k (0,0)) (List.range (two A.i)) S = r at hr' hB1
   obtain ⟨r1,r2⟩ := r
   cases r1 with
   | some v =>
    obtain ⟨q,F',G',e1,⟨s2,s3,s9,s10,s11,s12,s13,s14,rfl⟩,e3⟩ := hr'.1 v r2 rfl
    refine ⟨?_,by intro e'; simp at e'⟩
    intro v' ev
    simp only [Option.some.injEq] at ev
    subst ev
    refine ⟨q,G',s2,s3,s9,s10,s11,?_,e3⟩
    change L.loop xC4 xGo ⟨xFJ (.ptr 0 0) (.ptr 1 0) v4 v5 v6 (.own false p 0 S.1.length 2) (.own false pw 0 S.2.length 1) (.int .i64 (k : Nat)) (.int .i64 ((S.1.getD k (0,0)).1 : Nat)) (.int .i64 ((S.1.getD k (0,0)).2 : Nat)) (.int .i64 0),_⟩ = _ at e1
    rw [xVQ]
    simp (maxSteps := 30000000) (disch := first | assumption | omega | (simp only [WL,AV.isCell,xAe] <;> omega) | rfl | decide) only [xOd,WB,hlt,↓reduceIte,WA,gp,xY2,xY3,xAc,xKu,e1,xOe]
   | none =>
    obtain ⟨u4,u5,u6,p',pw',G',e1,e2,e3⟩ := hr'.2 r2 rfl
    have hb := hB1.2 r2 rfl
    have hn := yF0 hA hB hAB e (k + 1) r2 G' p' pw' u4 u5 u6 hb.1.next hb.2 e3 e2 (by omega)
    have hst : L.loop xES xME ⟨yFZ v4 v5 v6 S p pw k,G⟩ = L.loop xES xME ⟨yFZ u4 u5 u6 r2 p' pw' (k + 1),G'⟩ := by
     change L.loop xC4 xGo ⟨xFJ (.ptr 0 0) (.ptr 1 0) v4 v5 v6 (.own false p 0 S.1.length 2) (.own false pw 0 S.2.length 1) (.int .i64 (k : Nat)) (.int .i64 ((S.1.getD k (0,0)).1 : Nat)) (.int .i64 ((S.1.getD k (0,0)).2 : Nat)) (.int .i64 0),_⟩ = _ at e1
     rw [xVQ]
     simp (maxSteps := 30000000) (disch := first | assumption | omega | (simp only [WL,AV.isCell,xAe] <;> omega) | rfl | decide) only [xOd,WB,hlt,↓reduceIte,WA,gp,xY2,xY3,xAc,xKu,e1,xOe]
    rw [hst]
    exact hn
  ·rw [if_neg hc]
   have hlt : ¬ ((k : Nat) : Int) < (S.1.length : Nat) := by omega
   have hk' : k = S.1.length := by omega
   subst hk'
   refine ⟨by intro v e'; simp at e',fun _ => ⟨v4,v5,v6,S,p,pw,G,?_⟩⟩
   rw [xVQ]
   simp (maxSteps := 30000000) (disch := first | assumption | omega | (simp only [WL,AV.isCell,xAe] <;> omega) | rfl | decide) only [xOd,WB,hlt,↓reduceIte,xOe]
set_option maxHeartbeats 2000000 in
theorem yHg (hA : Vm A) (hB : Vm B) (hAB : A.i = B.i) (hO : A.o = B.o) : L.pcall 38 [A.av,B.av] = some (.tup (match yD8 A B with
  | some v => [.sl false v.length (bs v),.bool false,.int .i64 0]
  | none => [.sl true 0 [],.bool true,.int .i64 0])) := by
 have hc := xDw hA
 have hd := xDw hB
 have n1 : (((A.i : Nat) : Int) = (B.i : Nat)) ↔ True := iff_true_intro (by omega)
 have n2 : (((A.o : Nat) : Int) = (B.o : Nat)) ↔ True := iff_true_intro (by omega)
 have ho := yF0 hA hB hAB (A.next.length * B.next.length + 1) 0 ([(A.s,B.s)],[[]]) [.cells false false A.cells,.cells false false B.cells,.cells false false (pcs [(A.s,B.s)]),.cells false false [.sl true 0 []]] 2 3 (.sl true 0 []) (.bool false) (.int .i64 0) (BI.start A B) (by simp) (xNf hA hB) ⟨rfl,rfl,rfl,rfl,by omega,by omega,by omega⟩ (by omega)
 unfold Ma.av at hc hd ⊢
 unfold Ma.cells at hc hd ho ⊢
 cases hs : yD8 A B with
 | some v =>
  obtain ⟨q,G',s2,s3,s9,s10,s11,e1,e2⟩ := ho.1 v hs
  change L.loop xES xME ⟨xH5 (.ptr 0 0) (.ptr 1 0) (.sl true 0 []) (.bool false) (.int .i64 0) (.own false 2 0 1 2) (.own false 3 0 1 1) (.int .i64 0),[.cells false false [.int .i64 (A.i : Nat),.int .i64 (A.o : Nat),.int .i64 (A.s : Nat),.sl false A.next.length (A.next.map rowI),.sl false A.emit.length (A.emit.map rowB)],.cells false false [.int .i64 (B.i : Nat),.int .i64 (B.o : Nat),.int .i64 (B.s : Nat),.sl false B.next.length (B.next.map rowI),.sl false B.emit.length (B.emit.map rowB)],.cells false false [.int .i64 (A.s : Nat),.int .i64 (B.s : Nat)],.cells false false [.sl true 0 []]]⟩ = _ at e1
  have lv : (bs v).length = v.length := xAJ v
  have tv : List.take v.length (bs v) = bs v := List.take_of_length_le (by omega)
  rw [yEd,a38,xAf]
  simp (maxSteps := 30000000) (disch := first | assumption | omega | (simp only [WL,AV.isCell,xAe] <;> omega) | rfl | decide) only [WB,Nat.reduceAdd,Nat.reduceSub,AV.cells,AV.isCell,↓reduceIte,hc,xBL,xAF,hd,n1,n2,Nat.reduceLeDiff,Nat.reduceMul,xOe,e1,xAx,e2,tv]
 | none =>
  obtain ⟨u4,u5,u6,S',p',pw',G',e1⟩ := ho.2 hs
  change L.loop xES xME ⟨xH5 (.ptr 0 0) (.ptr 1 0) (.sl true 0 []) (.bool false) (.int .i64 0) (.own false 2 0 1 2) (.own false 3 0 1 1) (.int .i64 0),[.cells false false [.int .i64 (A.i : Nat),.int .i64 (A.o : Nat),.int .i64 (A.s : Nat),.sl false A.next.length (A.next.map rowI),.sl false A.emit.length (A.emit.map rowB)],.cells false false [.int .i64 (B.i : Nat),.int .i64 (B.o : Nat),.int .i64 (B.s : Nat),.sl false B.next.length (B.next.map rowI),.sl false B.emit.length (B.emit.map rowB)],.cells false false [.int .i64 (A.s : Nat),.int .i64 (B.s : Nat)],.cells false false [.sl true 0 []]]⟩ = _ at e1
  rw [yEd,a38,xAf]
  simp (maxSteps := 30000000) (disch := first | assumption | omega | (simp only [WL,AV.isCell,xAe] <;> omega) | rfl | decide) only [WB,Nat.reduceAdd,Nat.reduceSub,AV.cells,AV.isCell,↓reduceIte,hc,xBL,xAF,hd,n1,n2,Nat.reduceLeDiff,Nat.reduceMul,xOe,e1]
end
end Go.Abs.Mealy
