/- Equal: its inner loop. -/
import Derived.Test.YtkpbekcgigigkaaDoorAbsBun
import Derived.Test.YtkpbekcgigigkaaDoorAME
import Derived.Test.YtkpbekcgigigkaaDoorAMF
import Derived.Test.YtkpbekcgigigkaaDoorAMC
import Derived.Test.YtkpbekcgigigkaaDoorAMA
namespace Go.Abs.Mealy
open Go Go.Abs
set_option linter.unusedSimpArgs false
set_option linter.unusedVariables false
def wv (l : List Nat) : AV := xEk l.isEmpty l
theorem xXs {l : List (List Nat)} {i : Nat} (h : i < l.length) : List.take 1 (List.drop i (l.map wv)) = [wv (l.getD i [])] := xIt _ _ h
theorem yBK (l : List (List Nat)) : List.take l.length (l.map wv) = l.map wv := List.take_of_length_le (by simp)
theorem xO8 (u : List Nat) (x : Nat) : wv (u ++ [x]) = .sl false (u.length + 1) (bs (u ++ [x])) := by
  unfold wv xEk
  simp
theorem yAc (u : List Nat) (x : Nat) (hu : u.length < 1099511627) : L.pcall 76 [.sl false 2 [.sl u.isEmpty u.length (bs u),.sl false 1 [.int .u8 (x : Nat)]]] = some (.sl false (u.length + 1) (bs (u ++ [x]))) := by
  obtain ⟨z,hc,hz⟩ := xVu u.isEmpty false u [x] (by omega) (by simp)
  obtain rfl : z = false := by
    cases z with
    | false => rfl
    | true => have := hz rfl; simp at this
  rw [show xEk false [x] = .sl false 1 [.int .u8 (x : Nat)] from rfl] at hc
  rw [← xO8]
  unfold wv
  rw [show (u ++ [x]).isEmpty = false by simp]
  exact hc
def P37 (pb pw : Nat) (n : Nat) : Prop := 8 ≤ n ∧ n ≠ 12 ∧ n ≠ 13 ∧ n ≠ 14 ∧ n ≠ pb ∧ n ≠ pw
structure EI (A B : Ma) (lb : Blk) (c : Nat × Nat) (pb : Nat) (G : Heap) (S : Bs) (pw : Nat) : Prop where
  g0 : G[0]? = some (.cells false false A.cells)
  g1 : G[1]? = some (.cells false false B.cells)
  g2 : G[2]? = some (.cells false false [.sl true 0 []])
  g3 : G[3]? = some (.cells false false [.bool false])
  g4 : G[4]? = some (.cells false false [.int .i64 0])
  g13 : G[13]? = some (.cells false false [.ptr 7 0])
  gl : G[14]? = some lb
  gp : G[pb]? = some (.cells false false [.int .i64 (c.1 : Nat),.int .i64 (c.2 : Nat)])
  q : QI (P37 pb pw) 7 G S.1
  w : G[12]? = some (.cells false false [.own false pw 0 S.2.length 1])
  wp : G[pw]? = some (.cells false false (S.2.map wv))
  hw : pw = 11 ∨ 15 ≤ pw
  hb : 15 ≤ pb
  hn : pb ≠ pw
section
variable {A B : Ma} {lb : Blk} {c : Nat × Nat} {pb pw k i : Nat} {G : Heap} {S : Bs}
abbrev F37 (k i N pb : Nat) : List AV := xJy (.ptr 0 0) (.ptr 1 0) (.ptr 2 0) (.ptr 3 0) (.ptr 4 0) (.ptr 7 0) (.ptr 12 0) (.int .i64 (k : Nat)) (.ptr pb 0) (.int .i64 (N : Nat)) (.int .i64 (i : Nat))
theorem yBL : ¬ P37 pb pw 7 := fun h => by have := h.1; omega
theorem EI.far (h : EI A B lb c pb G S pw) : ∀ n,G.length ≤ n → P37 pb pw n := by
  intro n hn
  have := xBI h.gl; have := xBI h.gp; have := xBI h.wp
  exact ⟨by omega,by omega,by omega,by omega,by omega,by omega⟩
theorem EI.kt (h : EI A B lb c pb G S pw) {G1 : Heap} {S1 : List (Nat × Nat)} (hk : KtP (P37 pb pw) 7 G G1) (hq : QI (P37 pb pw) 7 G1 S1) : EI A B lb c pb G1 (S1,S.2) pw := by
  have hw := h.hw
  have hb := h.hb
  have f : ∀ b,¬ P37 pb pw b → b ≠ 7 → G1[b]? = G[b]? := hk.2
  exact ⟨by rw [f 0 (fun e => by have := e.1; omega) (by omega),h.g0],by rw [f 1 (fun e => by have := e.1; omega) (by omega),h.g1],by rw [f 2 (fun e => by have := e.1; omega) (by omega),h.g2],by rw [f 3 (fun e => by have := e.1; omega) (by omega),h.g3],by rw [f 4 (fun e => by have := e.1; omega) (by omega),h.g4],
    by rw [f 13 (fun e => e.2.2.1 rfl) (by omega),h.g13],by rw [f 14 (fun e => e.2.2.2.1 rfl) (by omega),h.gl],by rw [f pb (fun e => e.2.2.2.2.1 rfl) (by omega),h.gp],hq,by rw [f 12 (fun e => e.2.1 rfl) (by omega),h.w],by rw [f pw (fun e => e.2.2.2.2.2 rfl) (by omega),h.wp],h.hw,h.hb,h.hn⟩
set_option maxHeartbeats 1000000 in
theorem xXt (h : EI A B lb c pb G S pw) : L.loop xCT xFI ⟨F37 k (two A.i) (two A.i) pb,G⟩ = some (.exit 4,⟨F37 k (two A.i) (two A.i) pb,G⟩) := by
  rw [xPK]
  simp (maxSteps := 30000000) (disch := first | assumption | omega | (simp only [WL,AV.isCell,xAl] <;> omega) | rfl | decide) only [↓reduceIte,WB,xAC,xAc,xAB,xAk,xAj,AV.cells,AV.isCell,xAb,xAf,xAg,WP,xAt,xAm,xA0,xAZ,xAX,xAq,xAv,xAu,WA,W2,xAd,xAe,xAh,Nat.reduceAdd,Nat.reduceSub,Nat.reduceLeDiff,Nat.reduceMul,Int.reduceAdd,Int.reduceSub,Int.reduceMul,Int.reduceLT,Int.reduceLE,Int.reduceEq,Int.reduceToNat,Int.reduceNeg,Nat.reduceEqDiff,Nat.reduceBEq,Nat.reduceLT,xAW,xBs,xBv,xBR,xBS,xBP,xAR,xA5,xA9,xBa,rowI,rowB,xXs,List.length_map,List.set_set,xAl,xBx,xBy,xJx,xJz]
set_option maxHeartbeats 1000000 in
theorem xVk (hA : Vm A) (hB : Vm B) (hAB : A.i = B.i) (h : EI A B lb c pb G S pw) (hi : i < two A.i) (hk : k < S.2.length) (c1 : c.1 < A.next.length) (c2 : c.2 < B.next.length) (hl : (S.2.getD k []).length < 1099511627) (hl2 : S.2.length < 1099511627)
    (he : em A c.1 i ≠ em B c.2 i) :
    ∃ F' G',L.loop xCT xFI ⟨F37 k i (two A.i) pb,G⟩ = some (.ret,⟨F',G'⟩) ∧ G'[2]? = some (.cells false false [wv (S.2.getD k [] ++ [i])]) ∧ G'[3]? = some (.cells false false [.bool false]) ∧ G'[4]? = some (.cells false false [.int .i64 0]) ∧ G'[14]? = some lb := by
  obtain ⟨g0,g1,g2,g3,g4,g13,gl,gp,hq,gw,gwp,hw,hb,hn⟩ := h
  have hc := yAc (S.2.getD k []) i hl
  have hG := xBI gl
  have hlt : (i : Int) < (two A.i : Nat) := by omega
  have h64 : i < 64 := by have := xIA (show A.i ≤ 6 by have := hA.io; omega); have : two 6 = 64 := rfl; omega
  have l1 := hA.nl c1
  have l2 := hA.wl' c1
  have l3 := hB.nl c2
  have l4 := hB.wl' c2
  have l5 := hA.el
  have l6 := hB.el
  have hi' := hi
  rw [hAB] at hi'
  have he' : ¬ ((((A.emit.getD c.1 []).getD i 0 : Nat) : Int) = (((B.emit.getD c.2 []).getD i 0 : Nat) : Int)) := by
    intro e; exact he (by unfold em; omega)
  rw [xO8]
  have hwk : wv (S.2.getD k []) = .sl (S.2.getD k []).isEmpty (S.2.getD k []).length (bs (S.2.getD k [])) := rfl
  unfold Ma.cells at g0 g1
  refine ⟨F37 k i (two A.i) pb,((G.set 2 (.cells false false [.sl false ((S.2.getD k []).length + 1) (bs (S.2.getD k [] ++ [i]))])).set 3 (.cells false false [.bool false])).set 4 (.cells false false [.int .i64 0]),?_,?_,?_,?_,?_⟩
  · rw [xPK]
    simp (maxSteps := 30000000) (disch := first | assumption | omega | (simp only [WL,AV.isCell,xAl] <;> omega) | rfl | decide) only [↓reduceIte,WB,xAC,xAc,xAB,xAk,xAj,AV.cells,AV.isCell,xAb,xAf,xAg,WP,xAt,xAm,xA0,xAZ,xAX,xAq,xAv,xAu,WA,W2,xAd,xAe,xAh,Nat.reduceAdd,Nat.reduceSub,Nat.reduceLeDiff,Nat.reduceMul,Int.reduceAdd,Int.reduceSub,Int.reduceMul,Int.reduceLT,Int.reduceLE,Int.reduceEq,Int.reduceToNat,Int.reduceNeg,Nat.reduceEqDiff,Nat.reduceBEq,Nat.reduceLT,xAW,xBs,xBv,xBR,xBS,xBP,xAR,xA5,xA9,xBa,rowI,rowB,xXs,List.length_map,List.set_set,xAl,xBx,xBy,xJx,xJz,hlt,gw,gwp,hwk,hc,g0,g1,gp,g2,g3,g4,l1,l2,l3,l4,l5,l6,c1,c2,hi,hi',he']
  · rw [xAR (by omega),xAR (by omega),xA5 (by omega)]
  · rw [xAR (by omega),xA5 (by simp; omega)]
  · rw [xA5 (by simp; omega)]
  · rw [xAR (by omega),xAR (by omega),xAR (by omega),gl]
set_option maxHeartbeats 1000000 in
theorem xXu (hA : Vm A) (hB : Vm B) (hAB : A.i = B.i) (h : EI A B lb c pb G S pw) (hi : i < two A.i) (hk : k < S.2.length) (c1 : c.1 < A.next.length) (c2 : c.2 < B.next.length) (hl : (S.2.getD k []).length < 1099511627) (hl2 : S.2.length < 1099511627) (hl1 : S.1.length < 1099511627)
    (he : em A c.1 i = em B c.2 i) (hm : (nx A c.1 i,nx B c.2 i) ∈ S.1) :
    ∃ G',L.loop xCT xFI ⟨F37 k i (two A.i) pb,G⟩ = L.loop xCT xFI ⟨F37 k (i + 1) (two A.i) pb,G'⟩ ∧ EI A B lb c pb G' S pw := by
  obtain ⟨G1,k1,k2,k3⟩ := xVZ yBL h.far h.q hm hl1
  have h' := h.kt k3 k2
  refine ⟨G1,?_,h'⟩
  obtain ⟨g0,g1,g2,g3,g4,g13,gl,gp,hq,gw,gwp,hw,hb,hn⟩ := h
  have hc := yAc (S.2.getD k []) i hl
  have hlt : (i : Int) < (two A.i : Nat) := by omega
  have h64 : i < 64 := by have := xIA (show A.i ≤ 6 by have := hA.io; omega); have : two 6 = 64 := rfl; omega
  have l1 := hA.nl c1
  have l2 := hA.wl' c1
  have l3 := hB.nl c2
  have l4 := hB.wl' c2
  have l5 := hA.el
  have l6 := hB.el
  have hi' := hi
  rw [hAB] at hi'
  have he' : (A.emit.getD c.1 []).getD i 0 = (B.emit.getD c.2 []).getD i 0 := he
  have hwk : wv (S.2.getD k []) = .sl (S.2.getD k []).isEmpty (S.2.getD k []).length (bs (S.2.getD k [])) := rfl
  simp only [kv2] at k1
  unfold nx at k1
  unfold Ma.cells at g0 g1
  rw [xPK]
  simp (maxSteps := 30000000) (disch := first | assumption | omega | (simp only [WL,AV.isCell,xAl] <;> omega) | rfl | decide) only [↓reduceIte,WB,xAC,xAc,xAB,xAk,xAj,AV.cells,AV.isCell,xAb,xAf,xAg,WP,xAt,xAm,xA0,xAZ,xAX,xAq,xAv,xAu,WA,W2,xAd,xAe,xAh,Nat.reduceAdd,Nat.reduceSub,Nat.reduceLeDiff,Nat.reduceMul,Int.reduceAdd,Int.reduceSub,Int.reduceMul,Int.reduceLT,Int.reduceLE,Int.reduceEq,Int.reduceToNat,Int.reduceNeg,Nat.reduceEqDiff,Nat.reduceBEq,Nat.reduceLT,xAW,xBs,xBv,xBR,xBS,xBP,xAR,xA5,xA9,xBa,rowI,rowB,xXs,List.length_map,List.set_set,xAl,xBx,xBy,xJx,xJz,hlt,gw,gwp,hwk,hc,g0,g1,gp,l1,l2,l3,l4,l5,l6,c1,c2,hi,hi',he',k1]
set_option maxHeartbeats 1000000 in
theorem xXv (hA : Vm A) (hB : Vm B) (hAB : A.i = B.i) (h : EI A B lb c pb G S pw) (hi : i < two A.i) (hk : k < S.2.length) (c1 : c.1 < A.next.length) (c2 : c.2 < B.next.length) (hl : (S.2.getD k []).length < 1099511627) (hl2 : S.2.length < 1099511627) (hl1 : S.1.length < 1099511627)
    (he : em A c.1 i = em B c.2 i) (hm : (nx A c.1 i,nx B c.2 i) ∉ S.1) :
    ∃ G' pw',L.loop xCT xFI ⟨F37 k i (two A.i) pb,G⟩ = L.loop xCT xFI ⟨F37 k (i + 1) (two A.i) pb,G'⟩ ∧ EI A B lb c pb G' (S.1 ++ [(nx A c.1 i,nx B c.2 i)],S.2 ++ [S.2.getD k [] ++ [i]]) pw' := by
  obtain ⟨G1,k1,k2,k3⟩ := xVY yBL h.far h.q hm hl1
  have h' := h.kt k3 k2
  have hc := yAc (S.2.getD k []) i hl
  have hlt : (i : Int) < (two A.i : Nat) := by omega
  have h64 : i < 64 := by have := xIA (show A.i ≤ 6 by have := hA.io; omega); have : two 6 = 64 := rfl; omega
  have l1 := hA.nl c1
  have l2 := hA.wl' c1
  have l3 := hB.nl c2
  have l4 := hB.wl' c2
  have l5 := hA.el
  have l6 := hB.el
  have hi' := hi
  rw [hAB] at hi'
  have he' : (A.emit.getD c.1 []).getD i 0 = (B.emit.getD c.2 []).getD i 0 := he
  have hwk : wv (S.2.getD k []) = .sl (S.2.getD k []).isEmpty (S.2.getD k []).length (bs (S.2.getD k [])) := rfl
  obtain ⟨x0,x1,x2,x3,x4,x13,xl,xp,xq,xw,xwp,xhw,xhb,xhn⟩ := h'
  have y1 := xBI xl
  have y2 := xBI xp
  have y3 := xBI xwp
  refine ⟨((G1.set pw .dead).set 12 (.cells false false [.own false G1.length 0 (S.2.length + 1) 1])) ++ [.cells false false ((S.2 ++ [S.2.getD k [] ++ [i]]).map wv)],G1.length,?_,?_⟩
  · obtain ⟨g0,g1,g2,g3,g4,g13,gl,gp,hq,gw,gwp,hw,hb,hn⟩ := h
    simp only [kv2] at k1
    unfold nx at k1
    unfold Ma.cells at g0 g1
    rw [List.map_append,List.map_cons,List.map_nil,xO8]
    rw [xPK]
    simp (maxSteps := 30000000) (disch := first | assumption | omega | (simp only [WL,AV.isCell,xAl] <;> omega) | rfl | decide) only [↓reduceIte,WB,xAC,xAc,xAB,xAk,xAj,AV.cells,AV.isCell,xAb,xAf,xAg,WP,xAt,xAm,xA0,xAZ,xAX,xAq,xAv,xAu,WA,W2,xAd,xAe,xAh,Nat.reduceAdd,Nat.reduceSub,Nat.reduceLeDiff,Nat.reduceMul,Int.reduceAdd,Int.reduceSub,Int.reduceMul,Int.reduceLT,Int.reduceLE,Int.reduceEq,Int.reduceToNat,Int.reduceNeg,Nat.reduceEqDiff,Nat.reduceBEq,Nat.reduceLT,xAW,xBs,xBv,xBR,xBS,xBP,xAR,xA5,xA9,xBa,rowI,rowB,xXs,List.length_map,List.set_set,xAl,xBx,xBy,xJx,xJz,hlt,gw,gwp,hwk,hc,g0,g1,gp,l1,l2,l3,l4,l5,l6,c1,c2,hi,hi',he',k1,xw,xwp,yBK]
    try rfl
  · have f : ∀ b,b < G1.length → b ≠ 12 → b ≠ pw → (((G1.set pw .dead).set 12 (.cells false false [.own false G1.length 0 (S.2.length + 1) 1])) ++ [.cells false false ((S.2 ++ [S.2.getD k [] ++ [i]]).map wv)])[b]? = G1[b]? := by
      intro b a1 a2 a3
      rw [xAW (by simpa using a1),xAR (by omega),xAR (by omega)]
    have hw := h.hw
    refine ⟨by rw [f 0 (by omega) (by omega) (by omega),x0],by rw [f 1 (by omega) (by omega) (by omega),x1],by rw [f 2 (by omega) (by omega) (by omega),x2],by rw [f 3 (by omega) (by omega) (by omega),x3],by rw [f 4 (by omega) (by omega) (by omega),x4],by rw [f 13 (by omega) (by omega) (by omega),x13],by rw [f 14 (by omega) (by omega) (by omega),xl],by rw [f pb (by omega) (by omega) xhn,xp],?_,?_,?_,.inr (by omega),xhb,by omega⟩
    · obtain ⟨mv,lv,q1,q2⟩ := xq
      refine ⟨mv,lv,by rw [f 7 (by omega) (by omega) (by omega),q1],?_⟩
      rcases q2 with q2 | ⟨q,p,e1,e2,p1,p2,m1,m2⟩
      · exact .inl q2
      · have z1 := xBI m1
        have z2 := xBI m2
        exact .inr ⟨q,p,e1,e2,⟨p1.1,p1.2.1,p1.2.2.1,p1.2.2.2.1,p1.2.2.2.2.1,by omega⟩,⟨p2.1,p2.2.1,p2.2.2.1,p2.2.2.2.1,p2.2.2.2.2.1,by omega⟩,by rw [f q z1 p1.2.1 p1.2.2.2.2.2,m1],by rw [f p z2 p2.2.1 p2.2.2.2.2.2,m2]⟩
    · rw [xAW (by simp; omega),xA5 (by simp; omega),List.length_append]; rfl
    · rw [xBv (by simp)]; rfl
end
section
variable {A B : Ma} {S : Bs} {k i : Nat}
def PV (A B : Ma) (S : Bs) : Prop := ∀ x ∈ S.1,x.1 < A.next.length ∧ x.2 < B.next.length
theorem BI.wlen (h : BI A B S k i) : ∀ j,j < S.1.length → (S.2.getD j []).length ≤ j := by
  intro j
  induction j using Nat.strongRecOn with
  | ind j ih =>
    intro hj
    by_cases j0 : j = 0
    · subst j0; rw [h.first.2.1]; exact Nat.le_refl _
    obtain ⟨p,y,e,hy,hp,hc⟩ := h.from' j (by omega) hj
    have hl : (S.2.getD j []).length = (S.2.getD p []).length + 1 := by rw [e]; simp
    have hpj : p < j := by
      rcases Nat.lt_trichotomy p j with c | c | c
      · exact c
      · rw [c] at hl; omega
      · have := h.ord j p c hp
        unfold xK0 at this
        omega
    have := ih p hpj hp
    omega
theorem BI.len_le (h : BI A B S k i) (hp : PV A B S) : S.1.length ≤ A.next.length * B.next.length := xVz h.nd hp
theorem xVl (hA : Vm A) (hB : Vm B) : A.next.length * B.next.length ≤ 16777216 := Nat.mul_le_mul hA.n9 hB.n9
theorem PV.at (h : PV A B S) (hk : k < S.1.length) : (S.1.getD k (0,0)).1 < A.next.length ∧ (S.1.getD k (0,0)).2 < B.next.length := h _ (xAA hk)
theorem xLH {lb : Blk} {pb k : Nat} (hA : Vm A) (hB : Vm B) (hAB : A.i = B.i) : ∀ (m i : Nat) (S : Bs) (G : Heap) (pw : Nat),i + m = two A.i → k < S.1.length → BI A B S k i → PV A B S → EI A B lb (S.1.getD k (0,0)) pb G S pw →
    (∀ v S',xII A B (S.2.getD k []) (S.1.getD k (0,0)) (List.range' i m) S = (some v,S') → ∃ F' G',L.loop xCT xFI ⟨F37 k i (two A.i) pb,G⟩ = some (.ret,⟨F',G'⟩) ∧ G'[2]? = some (.cells false false [wv v]) ∧ G'[3]? = some (.cells false false [.bool false]) ∧ G'[4]? = some (.cells false false [.int .i64 0]) ∧ G'[14]? = some lb) ∧
    (∀ S',xII A B (S.2.getD k []) (S.1.getD k (0,0)) (List.range' i m) S = (none,S') → ∃ F' G' pw',L.loop xCT xFI ⟨F37 k i (two A.i) pb,G⟩ = some (.exit 4,⟨F',G'⟩) ∧ EI A B lb (S.1.getD k (0,0)) pb G' S' pw' ∧ PV A B S')
  | 0,i,S,G,pw,hm,hk,h,hp,hE => by
    have : i = two A.i := by omega
    subst this
    refine ⟨by intro v S' e; simp [xII] at e,?_⟩
    intro S' e
    simp only [List.range'_zero,xII,Prod.mk.injEq,true_and] at e
    subst e
    exact ⟨_,G,pw,xXt hE,hE,hp⟩
  | m + 1,i,S,G,pw,hm,hk,h,hp,hE => by
    have hi : i < two A.i := by omega
    have hs := xVl hA hB
    have hle := h.len_le hp
    have hw := h.wlen k hk
    have hl := h.len
    have hc := hp.at hk
    rw [List.range'_succ,xII]
    by_cases he : em A (S.1.getD k (0,0)).1 i = em B (S.1.getD k (0,0)).2 i
    · rw [if_neg (fun e => e he)]
      by_cases hmem : (nx A (S.1.getD k (0,0)).1 i,nx B (S.1.getD k (0,0)).2 i) ∈ S.1
      · rw [if_pos hmem]
        obtain ⟨G',e1,e2⟩ := xXu (k := k) hA hB hAB hE hi (by omega) hc.1 hc.2 (by omega) (by omega) (by omega) he hmem
        rw [e1]
        exact xLH hA hB hAB m (i + 1) S G' pw (by omega) hk (h.old hk he hmem) hp e2
      · rw [if_neg hmem]
        obtain ⟨G',pw',e1,e2⟩ := xXv (k := k) hA hB hAB hE hi (by omega) hc.1 hc.2 (by omega) (by omega) (by omega) he hmem
        rw [e1]
        have hn := h.new hk hi he hmem
        have hp' : PV A B (S.1 ++ [(nx A (S.1.getD k (0,0)).1 i,nx B (S.1.getD k (0,0)).2 i)],S.2 ++ [S.2.getD k [] ++ [i]]) := by
          intro x hx
          rcases List.mem_append.mp hx with hx | hx
          · exact hp x hx
          · rw [List.mem_singleton] at hx
            subst hx
            exact ⟨hA.nx hc.1 hi,hB.nx hc.2 (by rw [← hAB]; exact hi)⟩
        have g1 : (S.1 ++ [(nx A (S.1.getD k (0,0)).1 i,nx B (S.1.getD k (0,0)).2 i)]).getD k (0,0) = S.1.getD k (0,0) := xBH _ _ _ hk
        have g2 : (S.2 ++ [S.2.getD k [] ++ [i]]).getD k [] = S.2.getD k [] := xBH _ _ _ (by rw [h.len]; exact hk)
        have := xLH (lb := lb) (pb := pb) (k := k) hA hB hAB m (i + 1) (S.1 ++ [(nx A (S.1.getD k (0,0)).1 i,nx B (S.1.getD k (0,0)).2 i)],S.2 ++ [S.2.getD k [] ++ [i]]) G' pw' (by omega) (by simp; omega) hn hp' (by simp only [g1]; exact e2)
        simp only [g1,g2] at this
        exact this
    · rw [if_pos he]
      refine ⟨?_,by intro S' e; simp at e⟩
      intro v S' e
      simp only [Prod.mk.injEq,Option.some.injEq] at e
      obtain ⟨rfl,rfl⟩ := e
      exact xVk (k := k) hA hB hAB hE hi (by omega) hc.1 hc.2 (by omega) (by omega) he
end
abbrev yDN (s0 s1 s7 s8 s9 s12 s13 s14 s15 s16 s17 s18 s19 s20 s21 s22 s23 s24 s25 s26 s27 s28 s29 s30 s31 s32 s33 s34 s35 s36 s37 s38 s39 s40 s41 s42 s43 s44 s45 s46 s47 s48 s49 s50 s51 s52 s53 s54 s55 s56 s57 s58 s59 s60 s61 s62 s63 s64 s65 s66 s67 s68 s69 s70 s71 s72 s73 s74 s75 s76 s77 s78 s79 s80 s81 s82 s83 s84 s85 s86 s87 s88 s89 s90 s91 s92 s93 s94 s95 s96 s97 s98 s99 s100 s101 s102 s103 s104 s105 s106 s107 s108 s109 s110 s111 s112 s113 s114 s115 s116 s117 : AV) : List AV := [s0,s1,.ptr 0 0,.ptr 1 0,.ptr 2 0,.ptr 3 0,.ptr 4 0,s7,s8,s9,.ptr 7 0,.ptr 12 0,s12,s13,s14,s15,s16,s17,s18,s19,s20,s21,s22,s23,s24,s25,s26,s27,s28,s29,s30,s31,s32,s33,s34,s35,s36,s37,s38,s39,s40,s41,s42,s43,s44,s45,s46,s47,s48,s49,s50,s51,s52,s53,s54,s55,s56,s57,s58,s59,s60,s61,s62,s63,s64,s65,s66,s67,s68,s69,s70,s71,s72,s73,s74,s75,s76,s77,s78,s79,s80,s81,s82,s83,s84,s85,s86,s87,s88,s89,s90,s91,s92,s93,s94,s95,s96,s97,s98,s99,s100,s101,s102,s103,s104,s105,s106,s107,s108,s109,s110,s111,s112,s113,s114,s115,s116,s117]
def PO (pw : Nat) (n : Nat) : Prop := 8 ≤ n ∧ n ≠ 12 ∧ n ≠ 13 ∧ n ≠ 14 ∧ n ≠ pw
structure EO (A B : Ma) (lb : Blk) (G : Heap) (S : Bs) (pw : Nat) : Prop where
  g0 : G[0]? = some (.cells false false A.cells)
  g1 : G[1]? = some (.cells false false B.cells)
  g2 : G[2]? = some (.cells false false [.sl true 0 []])
  g3 : G[3]? = some (.cells false false [.bool false])
  g4 : G[4]? = some (.cells false false [.int .i64 0])
  g13 : G[13]? = some (.cells false false [.ptr 7 0])
  gl : G[14]? = some lb
  q : QI (PO pw) 7 G S.1
  w : G[12]? = some (.cells false false [.own false pw 0 S.2.length 1])
  wp : G[pw]? = some (.cells false false (S.2.map wv))
  hw : pw = 11 ∨ 15 ≤ pw
theorem EO.into {A B : Ma} {lb lb' : Blk} {G : Heap} {S : Bs} {pw : Nat} (h : EO A B lb G S pw) (c : Nat × Nat) : EI A B lb' c G.length (G.set 14 lb' ++ [.cells false false [.int .i64 (c.1 : Nat),.int .i64 (c.2 : Nat)]]) S pw := by
  have hl := xBI h.gl
  have hp := xBI h.wp
  have hw := h.hw
  have f : ∀ b,b < G.length → b ≠ 14 → (G.set 14 lb' ++ [Blk.cells false false [.int .i64 (c.1 : Nat),.int .i64 (c.2 : Nat)]])[b]? = G[b]? := by
    intro b h1 h2
    rw [xAW (by simpa using h1),xAR (by omega)]
  refine ⟨by rw [f 0 (by omega) (by omega),h.g0],by rw [f 1 (by omega) (by omega),h.g1],by rw [f 2 (by omega) (by omega),h.g2],by rw [f 3 (by omega) (by omega),h.g3],by rw [f 4 (by omega) (by omega),h.g4],by rw [f 13 (by omega) (by omega),h.g13],by rw [xAW (by simpa using hl),xA5 hl],by rw [xBv (by simp)]; rfl,?_,by rw [f 12 (by omega) (by omega),h.w],by rw [f pw (by omega) (by omega),h.wp],h.hw,by omega,by omega⟩
  obtain ⟨mv,lv,q1,q2⟩ := h.q
  refine ⟨mv,lv,by rw [f 7 (by omega) (by omega),q1],?_⟩
  rcases q2 with q2 | ⟨q,p,e1,e2,p1,p2,m1,m2⟩
  · exact .inl q2
  · have z1 := xBI m1
    have z2 := xBI m2
    exact .inr ⟨q,p,e1,e2,⟨p1.1,p1.2.1,p1.2.2.1,p1.2.2.2.1,by omega,p1.2.2.2.2⟩,⟨p2.1,p2.2.1,p2.2.2.1,p2.2.2.2.1,by omega,p2.2.2.2.2⟩,by rw [f q z1 p1.2.2.2.1,m1],by rw [f p z2 p2.2.2.2.1,m2]⟩
theorem EI.out {A B : Ma} {lb lb' : Blk} {c : Nat × Nat} {pb : Nat} {G : Heap} {S : Bs} {pw : Nat} (h : EI A B lb c pb G S pw) : EO A B lb' (G.set 14 lb') S pw := by
  have hl := xBI h.gl
  have hw := h.hw
  have f : ∀ b,b ≠ 14 → (G.set 14 lb')[b]? = G[b]? := fun b h2 => xAR (by omega)
  refine ⟨by rw [f 0 (by omega),h.g0],by rw [f 1 (by omega),h.g1],by rw [f 2 (by omega),h.g2],by rw [f 3 (by omega),h.g3],by rw [f 4 (by omega),h.g4],by rw [f 13 (by omega),h.g13],xA5 hl,?_,by rw [f 12 (by omega),h.w],by rw [f pw (by omega),h.wp],h.hw⟩
  obtain ⟨mv,lv,q1,q2⟩ := h.q
  refine ⟨mv,lv,by rw [f 7 (by omega),q1],?_⟩
  rcases q2 with q2 | ⟨q,p,e1,e2,p1,p2,m1,m2⟩
  · exact .inl q2
  · exact .inr ⟨q,p,e1,e2,⟨p1.1,p1.2.1,p1.2.2.1,p1.2.2.2.1,p1.2.2.2.2.2⟩,⟨p2.1,p2.2.1,p2.2.2.1,p2.2.2.2.1,p2.2.2.2.2.2⟩,by rw [f q p1.2.2.2.1,m1],by rw [f p p2.2.2.2.1,m2]⟩
section
variable (s0 s1 s7 s8 s9 s12 s13 s14 s15 s16 s17 s18 s19 s20 s21 s22 s23 s24 s25 s26 s27 s28 s29 s30 s31 s32 s33 s34 s35 s36 s37 s38 s39 s40 s41 s42 s43 s44 s45 s46 s47 s48 s49 s50 s51 s52 s53 s54 s55 s56 s57 s58 s59 s60 s61 s62 s63 s64 s65 s66 s67 s68 s69 s70 s71 s72 s73 s74 s75 s76 s77 s78 s79 s80 s81 s82 s83 s84 s85 s86 s87 s88 s89 s90 s91 s92 s93 s94 s95 s96 s97 s98 s99 s100 s101 s102 s103 s104 s105 s106 s107 s108 s109 s110 s111 s112 s113 s114 s115 s116 s117 : AV) {A B : Ma}
abbrev xRe (st : Nat) (pend : Option AExit) : Blk := .loop st pend (yDN s0 s1 s7 s8 s9 s12 s13 s14 s15 s16 s17 s18 s19 s20 s21 s22 s23 s24 s25 s26 s27 s28 s29 s30 s31 s32 s33 s34 s35 s36 s37 s38 s39 s40 s41 s42 s43 s44 s45 s46 s47 s48 s49 s50 s51 s52 s53 s54 s55 s56 s57 s58 s59 s60 s61 s62 s63 s64 s65 s66 s67 s68 s69 s70 s71 s72 s73 s74 s75 s76 s77 s78 s79 s80 s81 s82 s83 s84 s85 s86 s87 s88 s89 s90 s91 s92 s93 s94 s95 s96 s97 s98 s99 s100 s101 s102 s103 s104 s105 s106 s107 s108 s109 s110 s111 s112 s113 s114 s115 s116 s117) [52,53] xTv xZv
set_option maxHeartbeats 2000000 in
theorem yAd {k : Nat} {S : Bs} {G : Heap} {pw : Nat} (hA : Vm A) (hB : Vm B) (hAB : A.i = B.i) (hk : k < S.1.length) (h : BI A B S k 0) (hp : PV A B S) (hE : EO A B (xRe s0 s1 s7 s8 s9 s12 s13 s14 s15 s16 s17 s18 s19 s20 s21 s22 s23 s24 s25 s26 s27 s28 s29 s30 s31 s32 s33 s34 s35 s36 s37 s38 s39 s40 s41 s42 s43 s44 s45 s46 s47 s48 s49 s50 s51 s52 s53 s54 s55 s56 s57 s58 s59 s60 s61 s62 s63 s64 s65 s66 s67 s68 s69 s70 s71 s72 s73 s74 s75 s76 s77 s78 s79 s80 s81 s82 s83 s84 s85 s86 s87 s88 s89 s90 s91 s92 s93 s94 s95 s96 s97 s98 s99 s100 s101 s102 s103 s104 s105 s106 s107 s108 s109 s110 s111 s112 s113 s114 s115 s116 s117 0 none) G S pw) :
    (∀ v S',xII A B (S.2.getD k []) (S.1.getD k (0,0)) (List.range (two A.i)) S = (some v,S') → ∃ G',L.icall (.yield 14) [.int .i64 (k : Nat),.agg [.int .i64 ((S.1.getD k (0,0)).1 : Nat),.int .i64 ((S.1.getD k (0,0)).2 : Nat)]] G = some (.bool false,G') ∧ G'[2]? = some (.cells false false [wv v]) ∧ G'[3]? = some (.cells false false [.bool false]) ∧ G'[4]? = some (.cells false false [.int .i64 0]) ∧ G'[14]? = some (xRe s0 s1 s7 s8 s9 s12 s13 s14 s15 s16 s17 s18 s19 s20 s21 s22 s23 s24 s25 s26 s27 s28 s29 s30 s31 s32 s33 s34 s35 s36 s37 s38 s39 s40 s41 s42 s43 s44 s45 s46 s47 s48 s49 s50 s51 s52 s53 s54 s55 s56 s57 s58 s59 s60 s61 s62 s63 s64 s65 s66 s67 s68 s69 s70 s71 s72 s73 s74 s75 s76 s77 s78 s79 s80 s81 s82 s83 s84 s85 s86 s87 s88 s89 s90 s91 s92 s93 s94 s95 s96 s97 s98 s99 s100 s101 s102 s103 s104 s105 s106 s107 s108 s109 s110 s111 s112 s113 s114 s115 s116 s117 2 (some .ret))) ∧
    (∀ S',xII A B (S.2.getD k []) (S.1.getD k (0,0)) (List.range (two A.i)) S = (none,S') → ∃ G' pw',L.icall (.yield 14) [.int .i64 (k : Nat),.agg [.int .i64 ((S.1.getD k (0,0)).1 : Nat),.int .i64 ((S.1.getD k (0,0)).2 : Nat)]] G = some (.bool true,G') ∧ EO A B (xRe s0 s1 s7 s8 s9 s12 s13 s14 s15 s16 s17 s18 s19 s20 s21 s22 s23 s24 s25 s26 s27 s28 s29 s30 s31 s32 s33 s34 s35 s36 s37 s38 s39 s40 s41 s42 s43 s44 s45 s46 s47 s48 s49 s50 s51 s52 s53 s54 s55 s56 s57 s58 s59 s60 s61 s62 s63 s64 s65 s66 s67 s68 s69 s70 s71 s72 s73 s74 s75 s76 s77 s78 s79 s80 s81 s82 s83 s84 s85 s86 s87 s88 s89 s90 s91 s92 s93 s94 s95 s96 s97 s98 s99 s100 s101 s102 s103 s104 s105 s106 s107 s108 s109 s110 s111 s112 s113 s114 s115 s116 s117 0 none) G' S' pw' ∧ PV A B S') := by
  have hi := hE.into (lb' := xRe s0 s1 s7 s8 s9 s12 s13 s14 s15 s16 s17 s18 s19 s20 s21 s22 s23 s24 s25 s26 s27 s28 s29 s30 s31 s32 s33 s34 s35 s36 s37 s38 s39 s40 s41 s42 s43 s44 s45 s46 s47 s48 s49 s50 s51 s52 s53 s54 s55 s56 s57 s58 s59 s60 s61 s62 s63 s64 s65 s66 s67 s68 s69 s70 s71 s72 s73 s74 s75 s76 s77 s78 s79 s80 s81 s82 s83 s84 s85 s86 s87 s88 s89 s90 s91 s92 s93 s94 s95 s96 s97 s98 s99 s100 s101 s102 s103 s104 s105 s106 s107 s108 s109 s110 s111 s112 s113 s114 s115 s116 s117 1 none) (S.1.getD k (0,0))
  have ha := xLH hA hB hAB (two A.i) 0 S _ pw (by omega) hk h hp hi
  rw [← List.range_eq_range'] at ha
  have g0 := hE.g0
  have gl := hE.gl
  have hG := xBI gl
  unfold Ma.cells at g0
  have hio := hA.io
  have hsi := xLM (show A.i ≤ 6 by omega)
  have hi0 : ¬ ((A.i : Nat) : Int) < 0 := by omega
  generalize S.1.getD k (0,0) = c at *
  rw [xGf,xNX (hH := gl) (h1 := rfl) (h2 := rfl) (h3 := rfl)]
  constructor
  · intro v S' e
    obtain ⟨F',G',e1,e2,e3,e4,e5⟩ := ha.1 v S' e
    change L.loop xCT xFI ⟨xJy (.ptr 0 0) (.ptr 1 0) (.ptr 2 0) (.ptr 3 0) (.ptr 4 0) (.ptr 7 0) (.ptr 12 0) (.int .i64 (k : Nat)) (.ptr G.length 0) (.int .i64 (two A.i : Nat)) (.int .i64 0),_⟩ = _ at e1
    have hl' := xBI e5
    refine ⟨G'.set 14 (xRe s0 s1 s7 s8 s9 s12 s13 s14 s15 s16 s17 s18 s19 s20 s21 s22 s23 s24 s25 s26 s27 s28 s29 s30 s31 s32 s33 s34 s35 s36 s37 s38 s39 s40 s41 s42 s43 s44 s45 s46 s47 s48 s49 s50 s51 s52 s53 s54 s55 s56 s57 s58 s59 s60 s61 s62 s63 s64 s65 s66 s67 s68 s69 s70 s71 s72 s73 s74 s75 s76 s77 s78 s79 s80 s81 s82 s83 s84 s85 s86 s87 s88 s89 s90 s91 s92 s93 s94 s95 s96 s97 s98 s99 s100 s101 s102 s103 s104 s105 s106 s107 s108 s109 s110 s111 s112 s113 s114 s115 s116 s117 2 (some .ret)),?_,?_,?_,?_,?_⟩
    · simp (maxSteps := 30000000) (disch := first | assumption | omega | (simp only [WL,AV.isCell,xAl] <;> omega) | rfl | decide) only [↓reduceIte,WB,xAC,xAc,xAB,xAk,xAj,AV.cells,AV.isCell,xAb,xAf,xAg,WP,xAt,xAm,xA0,xAZ,xAX,xAq,xAv,xAu,WA,W2,xAd,xAe,xAh,Nat.reduceAdd,Nat.reduceSub,Nat.reduceLeDiff,Nat.reduceMul,Int.reduceAdd,Int.reduceSub,Int.reduceMul,Int.reduceLT,Int.reduceLE,Int.reduceEq,Int.reduceToNat,Int.reduceNeg,Nat.reduceEqDiff,Nat.reduceBEq,Nat.reduceLT,xAW,xBs,xBv,xBR,xBS,xBP,xAR,xA5,List.length_map,List.set_set,xAl,xBx,xBy,xX1,xTw,xLs,xPL,xJz,g0,gl,hsi,hi0,e1,e5]
    · rw [xAR (by omega),e2]
    · rw [xAR (by omega),e3]
    · rw [xAR (by omega),e4]
    · rw [xA5 hl']
  · intro S' e
    obtain ⟨F',G',pw',e1,e2,e3⟩ := ha.2 S' e
    change L.loop xCT xFI ⟨xJy (.ptr 0 0) (.ptr 1 0) (.ptr 2 0) (.ptr 3 0) (.ptr 4 0) (.ptr 7 0) (.ptr 12 0) (.int .i64 (k : Nat)) (.ptr G.length 0) (.int .i64 (two A.i : Nat)) (.int .i64 0),_⟩ = _ at e1
    have e5 := e2.gl
    refine ⟨G'.set 14 (xRe s0 s1 s7 s8 s9 s12 s13 s14 s15 s16 s17 s18 s19 s20 s21 s22 s23 s24 s25 s26 s27 s28 s29 s30 s31 s32 s33 s34 s35 s36 s37 s38 s39 s40 s41 s42 s43 s44 s45 s46 s47 s48 s49 s50 s51 s52 s53 s54 s55 s56 s57 s58 s59 s60 s61 s62 s63 s64 s65 s66 s67 s68 s69 s70 s71 s72 s73 s74 s75 s76 s77 s78 s79 s80 s81 s82 s83 s84 s85 s86 s87 s88 s89 s90 s91 s92 s93 s94 s95 s96 s97 s98 s99 s100 s101 s102 s103 s104 s105 s106 s107 s108 s109 s110 s111 s112 s113 s114 s115 s116 s117 0 none),pw',?_,e2.out,e3⟩
    simp (maxSteps := 30000000) (disch := first | assumption | omega | (simp only [WL,AV.isCell,xAl] <;> omega) | rfl | decide) only [↓reduceIte,WB,xAC,xAc,xAB,xAk,xAj,AV.cells,AV.isCell,xAb,xAf,xAg,WP,xAt,xAm,xA0,xAZ,xAX,xAq,xAv,xAu,WA,W2,xAd,xAe,xAh,Nat.reduceAdd,Nat.reduceSub,Nat.reduceLeDiff,Nat.reduceMul,Int.reduceAdd,Int.reduceSub,Int.reduceMul,Int.reduceLT,Int.reduceLE,Int.reduceEq,Int.reduceToNat,Int.reduceNeg,Nat.reduceEqDiff,Nat.reduceBEq,Nat.reduceLT,xAW,xBs,xBv,xBR,xBS,xBP,xAR,xA5,List.length_map,List.set_set,xAl,xBx,xBy,xX1,xTw,xLs,xPL,xJz,g0,gl,hsi,hi0,e1,e5]
end
section
variable {A B : Ma} {lb0 lb2 : Blk}
def Rnd (A B : Ma) (lb0 lb2 : Blk) : Prop := ∀ (k : Nat) (S : Bs) (G : Heap) (pw : Nat),k < S.1.length → BI A B S k 0 → PV A B S → EO A B lb0 G S pw →
    (∀ v S',xII A B (S.2.getD k []) (S.1.getD k (0,0)) (List.range (two A.i)) S = (some v,S') → ∃ G',L.icall (.yield 14) [.int .i64 (k : Nat),.agg [.int .i64 ((S.1.getD k (0,0)).1 : Nat),.int .i64 ((S.1.getD k (0,0)).2 : Nat)]] G = some (.bool false,G') ∧ G'[2]? = some (.cells false false [wv v]) ∧ G'[3]? = some (.cells false false [.bool false]) ∧ G'[4]? = some (.cells false false [.int .i64 0]) ∧ G'[14]? = some lb2) ∧
    (∀ S',xII A B (S.2.getD k []) (S.1.getD k (0,0)) (List.range (two A.i)) S = (none,S') → ∃ G' pw',L.icall (.yield 14) [.int .i64 (k : Nat),.agg [.int .i64 ((S.1.getD k (0,0)).1 : Nat),.int .i64 ((S.1.getD k (0,0)).2 : Nat)]] G = some (.bool true,G') ∧ EO A B lb0 G' S' pw' ∧ PV A B S')
theorem yBM (hA : Vm A) (hB : Vm B) (hr : Rnd A B lb0 lb2) : ∀ (e k : Nat) (S : Bs) (G : Heap) (pw : Nat),BI A B S k 0 → k ≤ S.1.length → PV A B S → EO A B lb0 G S pw → A.next.length * B.next.length < e + k →
    (∀ v,xIQ A B e k S = some v → ∃ F' G',L.loop xEj xLt ⟨xDW (.yield 14) (.ptr 13 0) (.int .i64 (k : Nat)),G⟩ = some (.ret,⟨F',G'⟩) ∧ G'[2]? = some (.cells false false [wv v]) ∧ G'[3]? = some (.cells false false [.bool false]) ∧ G'[4]? = some (.cells false false [.int .i64 0]) ∧ G'[14]? = some lb2) ∧
    (xIQ A B e k S = none → ∃ F' G' S' pw',L.loop xEj xLt ⟨xDW (.yield 14) (.ptr 13 0) (.int .i64 (k : Nat)),G⟩ = some (.exit 0,⟨F',G'⟩) ∧ EO A B lb0 G' S' pw' ∧ BI A B S' S'.1.length 0)
  | 0,k,S,G,pw,h,hk,hp,hE,he => by
    have := h.len_le hp
    omega
  | e + 1,k,S,G,pw,h,hk,hp,hE,he => by
    have hle := h.len_le hp
    have hs := xVl hA hB
    have g13 := hE.g13
    obtain ⟨mv,lv,q1,q2⟩ := hE.q
    have q3 : ∃ p,lv = .own false p 0 S.1.length 2 ∧ G[p]? = some (.cells false false (pcs S.1)) := by
      rcases q2 with ⟨-,-,e0⟩ | ⟨q,p,e1,e2,p1,p2,m1,m2⟩
      · have := h.first.2.2
        rw [e0] at this
        simp at this
      · exact ⟨p,e2,m2⟩
    obtain ⟨p,rfl,hpl⟩ := q3
    rw [xIQ]
    by_cases hc : k < S.1.length
    · rw [if_pos hc]
      have hr' := hr k S G pw hc h hp hE
      have hB1 := xIC A B k (two A.i) 0 S (by omega) hc h
      rw [← List.range_eq_range'] at hB1
      have hlt : ((k : Nat) : Int) < (S.1.length : Nat) := by omega
      generalize xII A B (S.2.getD k []) (S.1.getD k (0,0)) (List.range (two A.i)) S = r at hr' hB1
      obtain ⟨r1,r2⟩ := r
      cases r1 with
      | some v =>
        obtain ⟨G',e1,e2⟩ := hr'.1 v r2 rfl
        refine ⟨?_,by intro e'; simp at e'⟩
        intro v' ev
        simp only [Option.some.injEq] at ev
        subst ev
        refine ⟨xDW (.yield 14) (.ptr 13 0) (.int .i64 (k : Nat)),G',?_,e2⟩
        rw [xTF]
        simp (maxSteps := 30000000) (disch := first | assumption | omega | (simp only [WL,AV.isCell,xAl] <;> omega) | rfl | decide) only [↓reduceIte,WB,xAC,xAc,xAB,xAk,xAj,AV.cells,AV.isCell,xAb,xAf,xAg,WP,xAt,xAm,xA0,xAZ,xAX,xAq,xAv,xAu,WA,W2,xAd,xAe,xAh,Nat.reduceAdd,Nat.reduceSub,Nat.reduceLeDiff,Nat.reduceMul,Int.reduceAdd,Int.reduceSub,Int.reduceMul,Int.reduceLT,Int.reduceLE,Int.reduceEq,Int.reduceToNat,Int.reduceNeg,Nat.reduceEqDiff,Nat.reduceBEq,Nat.reduceLT,xAW,xBs,xBv,xBR,xBS,xBP,xAR,xA5,List.length_map,List.set_set,xAl,xVO,xBx,xBy,xMV,xMW,g13,q1,hpl,hlt,hc,e1]
      | none =>
        obtain ⟨G',pw',e1,e2,e3⟩ := hr'.2 r2 rfl
        have hb := hB1.2 r2 rfl
        have hn := yBM hA hB hr e (k + 1) r2 G' pw' hb.1.next hb.2 e3 e2 (by omega)
        have hst : L.loop xEj xLt ⟨xDW (.yield 14) (.ptr 13 0) (.int .i64 (k : Nat)),G⟩ = L.loop xEj xLt ⟨xDW (.yield 14) (.ptr 13 0) (.int .i64 ((k + 1 : Nat) : Nat)),G'⟩ := by
          rw [xTF]
          simp (maxSteps := 30000000) (disch := first | assumption | omega | (simp only [WL,AV.isCell,xAl] <;> omega) | rfl | decide) only [↓reduceIte,WB,xAC,xAc,xAB,xAk,xAj,AV.cells,AV.isCell,xAb,xAf,xAg,WP,xAt,xAm,xA0,xAZ,xAX,xAq,xAv,xAu,WA,W2,xAd,xAe,xAh,Nat.reduceAdd,Nat.reduceSub,Nat.reduceLeDiff,Nat.reduceMul,Int.reduceAdd,Int.reduceSub,Int.reduceMul,Int.reduceLT,Int.reduceLE,Int.reduceEq,Int.reduceToNat,Int.reduceNeg,Nat.reduceEqDiff,Nat.reduceBEq,Nat.reduceLT,xAW,xBs,xBv,xBR,xBS,xBP,xAR,xA5,List.length_map,List.set_set,xAl,xVO,xBx,xBy,xMV,xMW,g13,q1,hpl,hlt,hc,e1]
        rw [hst]
        exact hn
    · rw [if_neg hc]
      have hlt : ¬ ((k : Nat) : Int) < (S.1.length : Nat) := by omega
      have hk' : k = S.1.length := by omega
      refine ⟨by intro v e'; simp at e',fun _ => ⟨xDW (.yield 14) (.ptr 13 0) (.int .i64 (k : Nat)),G,S,pw,?_,hE,by rw [← hk']; exact h⟩⟩
      rw [xTF]
      simp (maxSteps := 30000000) (disch := first | assumption | omega | (simp only [WL,AV.isCell,xAl] <;> omega) | rfl | decide) only [↓reduceIte,WB,xAC,xAc,xAB,xAk,xAj,AV.cells,AV.isCell,xAb,xAf,xAg,WP,xAt,xAm,xA0,xAZ,xAX,xAq,xAv,xAu,WA,W2,xAd,xAe,xAh,Nat.reduceAdd,Nat.reduceSub,Nat.reduceLeDiff,Nat.reduceMul,Int.reduceAdd,Int.reduceSub,Int.reduceMul,Int.reduceLT,Int.reduceLE,Int.reduceEq,Int.reduceToNat,Int.reduceNeg,Nat.reduceEqDiff,Nat.reduceBEq,Nat.reduceLT,xAW,xBs,xBv,xBR,xBS,xBP,xAR,xA5,List.length_map,List.set_set,xAl,xVO,xBx,xBy,xMV,xMW,g13,q1,hpl,hlt]
end
noncomputable def xLX (H : Heap) : Heap := match L.icall (.func 95 [.ptr 13 0]) [.yield 14] H with
  | some (_,G) => G
  | none => []
theorem xVm (b0 b1 b2 b3 b4 b5 b6 : Blk) (k1 k2 : Nat) : L.icall (.func 74 []) [.ptr 7 0,.agg [.int .i64 (k1 : Nat),.int .i64 (k2 : Nat)]] [b0,b1,b2,b3,b4,b5,b6,.cells false false [.nilm,.sl true 0 []]] =
    some (.tup [.int .i64 0,.bool true],[b0,b1,b2,b3,b4,b5,b6,.cells false false [.mp 9,.own false 10 0 1 2],.cells false false [.int .i64 (k1 : Nat),.int .i64 (k2 : Nat)],.mp (ent kv2 [(k1,k2)] 0),.cells false false (pcs [(k1,k2)])]) := xV0 rfl
section
variable {A B : Ma}
abbrev H37 (A B : Ma) (lb : Blk) : Heap := [.cells false false [.int .i64 (A.i : Nat),.int .i64 (A.o : Nat),.int .i64 (A.s : Nat),.sl false A.next.length (A.next.map rowI),.sl false A.emit.length (A.emit.map rowB)],.cells false false [.int .i64 (B.i : Nat),.int .i64 (B.o : Nat),.int .i64 (B.s : Nat),.sl false B.next.length (B.next.map rowI),.sl false B.emit.length (B.emit.map rowB)],.cells false false [.sl true 0 []],.cells false false [.bool false],.cells false false [.int .i64 0],.cells false false [.int .i64 (A.i : Nat),.int .i64 (A.o : Nat),.int .i64 (A.s : Nat),.sl false A.next.length (A.next.map rowI),.sl false A.emit.length (A.emit.map rowB)],.cells false false [.int .i64 (B.i : Nat),.int .i64 (B.o : Nat),.int .i64 (B.s : Nat),.sl false B.next.length (B.next.map rowI),.sl false B.emit.length (B.emit.map rowB)],.cells false false [.mp 9,.own false 10 0 1 2],.cells false false [.int .i64 (A.s : Nat),.int .i64 (B.s : Nat)],.mp (ent kv2 [(A.s,B.s)] 0),.cells false false (pcs [(A.s,B.s)]),.cells false false [.sl true 0 []],.cells false false [.own false 11 0 1 1],.cells false false [.ptr 7 0],lb]
theorem yBN (A B : Ma) (lb : Blk) : EO A B lb (H37 A B lb) ([(A.s,B.s)],[[]]) 11 :=
  ⟨rfl,rfl,rfl,rfl,rfl,rfl,rfl,⟨.mp 9,.own false 10 0 1 2,rfl,.inr ⟨9,10,rfl,rfl,⟨by omega,by omega,by omega,by omega,by omega⟩,⟨by omega,by omega,by omega,by omega,by omega⟩,rfl,rfl⟩⟩,rfl,rfl,.inl rfl⟩
def xY3 (A B : Ma) : Option (List Nat) := xIQ A B (A.next.length * B.next.length + 1) 0 ([(A.s,B.s)],[[]])
theorem xRf (hA : Vm A) (hB : Vm B) : PV A B ([(A.s,B.s)],[[]]) := by
  intro x hx
  rw [List.mem_singleton] at hx
  subst hx
  exact ⟨hA.s,hB.s⟩
set_option maxHeartbeats 1000000 in
theorem yDv {lb0 lb2 : Blk} (hA : Vm A) (hB : Vm B) (hr : Rnd A B lb0 lb2) :
    (∀ v,xY3 A B = some v → L.icall (.func 95 [.ptr 13 0]) [.yield 14] (H37 A B lb0) = some (.tup [],xLX (H37 A B lb0)) ∧ (xLX (H37 A B lb0))[2]? = some (.cells false false [wv v]) ∧ (xLX (H37 A B lb0))[3]? = some (.cells false false [.bool false]) ∧ (xLX (H37 A B lb0))[4]? = some (.cells false false [.int .i64 0]) ∧ (xLX (H37 A B lb0))[14]? = some lb2) ∧
    (xY3 A B = none → L.icall (.func 95 [.ptr 13 0]) [.yield 14] (H37 A B lb0) = some (.tup [],xLX (H37 A B lb0)) ∧ (xLX (H37 A B lb0))[2]? = some (.cells false false [.sl true 0 []]) ∧ (xLX (H37 A B lb0))[3]? = some (.cells false false [.bool false]) ∧ (xLX (H37 A B lb0))[4]? = some (.cells false false [.int .i64 0]) ∧ (xLX (H37 A B lb0))[14]? = some lb0) := by
  have ho := yBM hA hB hr (A.next.length * B.next.length + 1) 0 _ _ 11 (BI.start A B) (by simp) (xRf hA hB) (yBN A B lb0) (by omega)
  have hs : ∀ G',L.icall (.func 95 [.ptr 13 0]) [.yield 14] (H37 A B lb0) = some (.tup [],G') → xLX (H37 A B lb0) = G' := by
    intro G' e; unfold xLX; rw [e]
  have hw : ∀ x F' G',(x = .ret ∨ x = .exit 0) → L.loop xEj xLt ⟨xDW (.yield 14) (.ptr 13 0) (.int .i64 ((0 : Nat) : Nat)),H37 A B lb0⟩ = some (x,⟨F',G'⟩) → L.icall (.func 95 [.ptr 13 0]) [.yield 14] (H37 A B lb0) = some (.tup [],G') := by
    intro x F' G' hx e
    generalize H37 A B lb0 = H at *
    change L.loop xEj xLt ⟨xDW (.yield 14) (.ptr 13 0) (.int .i64 0),H⟩ = _ at e
    rw [yDJ,a95]
    rcases hx with rfl | rfl
    · simp (maxSteps := 30000000) (disch := first | assumption | omega | (simp only [WL,AV.isCell,xAl] <;> omega) | rfl | decide) only [↓reduceIte,WB,xAC,xAc,xAB,xAk,xAj,AV.cells,AV.isCell,xAb,xAf,xAg,WP,xAt,xAm,xA0,xAZ,xAX,xAq,xAv,xAu,WA,W2,xAd,xAe,xAh,Nat.reduceAdd,Nat.reduceSub,Nat.reduceLeDiff,Nat.reduceMul,Int.reduceAdd,Int.reduceSub,Int.reduceMul,Int.reduceLT,Int.reduceLE,Int.reduceEq,Int.reduceToNat,Int.reduceNeg,Nat.reduceEqDiff,Nat.reduceBEq,Nat.reduceLT,xAW,xBs,xBv,xBR,xBS,xBP,xAR,xA5,List.length_map,List.set_set,xAl,xBx,xBy,xMW,e]
    · simp (maxSteps := 30000000) (disch := first | assumption | omega | (simp only [WL,AV.isCell,xAl] <;> omega) | rfl | decide) only [↓reduceIte,WB,xAC,xAc,xAB,xAk,xAj,AV.cells,AV.isCell,xAb,xAf,xAg,WP,xAt,xAm,xA0,xAZ,xAX,xAq,xAv,xAu,WA,W2,xAd,xAe,xAh,Nat.reduceAdd,Nat.reduceSub,Nat.reduceLeDiff,Nat.reduceMul,Int.reduceAdd,Int.reduceSub,Int.reduceMul,Int.reduceLT,Int.reduceLE,Int.reduceEq,Int.reduceToNat,Int.reduceNeg,Nat.reduceEqDiff,Nat.reduceBEq,Nat.reduceLT,xAW,xBs,xBv,xBR,xBS,xBP,xAR,xA5,List.length_map,List.set_set,xAl,xBx,xBy,xMW,e]
  constructor
  · intro v hv
    obtain ⟨F',G',e1,e2⟩ := ho.1 v hv
    have := hw _ F' G' (.inl rfl) e1
    rw [hs G' this]
    exact ⟨this,e2⟩
  · intro hv
    obtain ⟨F',G',S',pw',e1,e2,e3⟩ := ho.2 hv
    have := hw _ F' G' (.inr rfl) e1
    rw [hs G' this]
    exact ⟨this,e2.g2,e2.g3,e2.g4,e2.gl⟩
theorem xVn (hA : Vm A) (hB : Vm B) (hAB : A.i = B.i) (s0 s1 s7 s8 s9 s12 s13 s14 s15 s16 s17 s18 s19 s20 s21 s22 s23 s24 s25 s26 s27 s28 s29 s30 s31 s32 s33 s34 s35 s36 s37 s38 s39 s40 s41 s42 s43 s44 s45 s46 s47 s48 s49 s50 s51 s52 s53 s54 s55 s56 s57 s58 s59 s60 s61 s62 s63 s64 s65 s66 s67 s68 s69 s70 s71 s72 s73 s74 s75 s76 s77 s78 s79 s80 s81 s82 s83 s84 s85 s86 s87 s88 s89 s90 s91 s92 s93 s94 s95 s96 s97 s98 s99 s100 s101 s102 s103 s104 s105 s106 s107 s108 s109 s110 s111 s112 s113 s114 s115 s116 s117 : AV) : Rnd A B (xRe s0 s1 s7 s8 s9 s12 s13 s14 s15 s16 s17 s18 s19 s20 s21 s22 s23 s24 s25 s26 s27 s28 s29 s30 s31 s32 s33 s34 s35 s36 s37 s38 s39 s40 s41 s42 s43 s44 s45 s46 s47 s48 s49 s50 s51 s52 s53 s54 s55 s56 s57 s58 s59 s60 s61 s62 s63 s64 s65 s66 s67 s68 s69 s70 s71 s72 s73 s74 s75 s76 s77 s78 s79 s80 s81 s82 s83 s84 s85 s86 s87 s88 s89 s90 s91 s92 s93 s94 s95 s96 s97 s98 s99 s100 s101 s102 s103 s104 s105 s106 s107 s108 s109 s110 s111 s112 s113 s114 s115 s116 s117 0 none) (xRe s0 s1 s7 s8 s9 s12 s13 s14 s15 s16 s17 s18 s19 s20 s21 s22 s23 s24 s25 s26 s27 s28 s29 s30 s31 s32 s33 s34 s35 s36 s37 s38 s39 s40 s41 s42 s43 s44 s45 s46 s47 s48 s49 s50 s51 s52 s53 s54 s55 s56 s57 s58 s59 s60 s61 s62 s63 s64 s65 s66 s67 s68 s69 s70 s71 s72 s73 s74 s75 s76 s77 s78 s79 s80 s81 s82 s83 s84 s85 s86 s87 s88 s89 s90 s91 s92 s93 s94 s95 s96 s97 s98 s99 s100 s101 s102 s103 s104 s105 s106 s107 s108 s109 s110 s111 s112 s113 s114 s115 s116 s117 2 (some .ret)) :=
  fun k S G pw h1 h2 h3 h4 => yAd s0 s1 s7 s8 s9 s12 s13 s14 s15 s16 s17 s18 s19 s20 s21 s22 s23 s24 s25 s26 s27 s28 s29 s30 s31 s32 s33 s34 s35 s36 s37 s38 s39 s40 s41 s42 s43 s44 s45 s46 s47 s48 s49 s50 s51 s52 s53 s54 s55 s56 s57 s58 s59 s60 s61 s62 s63 s64 s65 s66 s67 s68 s69 s70 s71 s72 s73 s74 s75 s76 s77 s78 s79 s80 s81 s82 s83 s84 s85 s86 s87 s88 s89 s90 s91 s92 s93 s94 s95 s96 s97 s98 s99 s100 s101 s102 s103 s104 s105 s106 s107 s108 s109 s110 s111 s112 s113 s114 s115 s116 s117 hA hB hAB h1 h2 h3 h4
set_option maxHeartbeats 4000000 in
theorem xSt (hA : Vm A) (hB : Vm B) (hAB : A.i = B.i) (hO : A.o = B.o) : L.pcall 37 [A.av,B.av] = some (.tup (match xY3 A B with
    | some v => [wv v,.bool false,.int .i64 0]
    | none => [.sl true 0 [],.bool true,.int .i64 0])) := by
  have hc := xCd hA
  have hd := xCd hB
  unfold Ma.av Ma.cells at hc hd ⊢
  have n1 : (((A.i : Nat) : Int) = (B.i : Nat)) ↔ True := iff_true_intro (by omega)
  have n2 : (((A.o : Nat) : Int) = (B.o : Nat)) ↔ True := iff_true_intro (by omega)
  cases hs : xY3 A B with
  | some v =>
    have hg := fun s0 s1 s7 s8 s9 s12 s13 s14 s15 s16 s17 s18 s19 s20 s21 s22 s23 s24 s25 s26 s27 s28 s29 s30 s31 s32 s33 s34 s35 s36 s37 s38 s39 s40 s41 s42 s43 s44 s45 s46 s47 s48 s49 s50 s51 s52 s53 s54 s55 s56 s57 s58 s59 s60 s61 s62 s63 s64 s65 s66 s67 s68 s69 s70 s71 s72 s73 s74 s75 s76 s77 s78 s79 s80 s81 s82 s83 s84 s85 s86 s87 s88 s89 s90 s91 s92 s93 s94 s95 s96 s97 s98 s99 s100 s101 s102 s103 s104 s105 s106 s107 s108 s109 s110 s111 s112 s113 s114 s115 s116 s117 => (yDv hA hB (xVn hA hB hAB s0 s1 s7 s8 s9 s12 s13 s14 s15 s16 s17 s18 s19 s20 s21 s22 s23 s24 s25 s26 s27 s28 s29 s30 s31 s32 s33 s34 s35 s36 s37 s38 s39 s40 s41 s42 s43 s44 s45 s46 s47 s48 s49 s50 s51 s52 s53 s54 s55 s56 s57 s58 s59 s60 s61 s62 s63 s64 s65 s66 s67 s68 s69 s70 s71 s72 s73 s74 s75 s76 s77 s78 s79 s80 s81 s82 s83 s84 s85 s86 s87 s88 s89 s90 s91 s92 s93 s94 s95 s96 s97 s98 s99 s100 s101 s102 s103 s104 s105 s106 s107 s108 s109 s110 s111 s112 s113 s114 s115 s116 s117)).1 v hs
    have h1 := fun s0 s1 s7 s8 s9 s12 s13 s14 s15 s16 s17 s18 s19 s20 s21 s22 s23 s24 s25 s26 s27 s28 s29 s30 s31 s32 s33 s34 s35 s36 s37 s38 s39 s40 s41 s42 s43 s44 s45 s46 s47 s48 s49 s50 s51 s52 s53 s54 s55 s56 s57 s58 s59 s60 s61 s62 s63 s64 s65 s66 s67 s68 s69 s70 s71 s72 s73 s74 s75 s76 s77 s78 s79 s80 s81 s82 s83 s84 s85 s86 s87 s88 s89 s90 s91 s92 s93 s94 s95 s96 s97 s98 s99 s100 s101 s102 s103 s104 s105 s106 s107 s108 s109 s110 s111 s112 s113 s114 s115 s116 s117 => (hg s0 s1 s7 s8 s9 s12 s13 s14 s15 s16 s17 s18 s19 s20 s21 s22 s23 s24 s25 s26 s27 s28 s29 s30 s31 s32 s33 s34 s35 s36 s37 s38 s39 s40 s41 s42 s43 s44 s45 s46 s47 s48 s49 s50 s51 s52 s53 s54 s55 s56 s57 s58 s59 s60 s61 s62 s63 s64 s65 s66 s67 s68 s69 s70 s71 s72 s73 s74 s75 s76 s77 s78 s79 s80 s81 s82 s83 s84 s85 s86 s87 s88 s89 s90 s91 s92 s93 s94 s95 s96 s97 s98 s99 s100 s101 s102 s103 s104 s105 s106 s107 s108 s109 s110 s111 s112 s113 s114 s115 s116 s117).1
    have h2 := fun s0 s1 s7 s8 s9 s12 s13 s14 s15 s16 s17 s18 s19 s20 s21 s22 s23 s24 s25 s26 s27 s28 s29 s30 s31 s32 s33 s34 s35 s36 s37 s38 s39 s40 s41 s42 s43 s44 s45 s46 s47 s48 s49 s50 s51 s52 s53 s54 s55 s56 s57 s58 s59 s60 s61 s62 s63 s64 s65 s66 s67 s68 s69 s70 s71 s72 s73 s74 s75 s76 s77 s78 s79 s80 s81 s82 s83 s84 s85 s86 s87 s88 s89 s90 s91 s92 s93 s94 s95 s96 s97 s98 s99 s100 s101 s102 s103 s104 s105 s106 s107 s108 s109 s110 s111 s112 s113 s114 s115 s116 s117 => (hg s0 s1 s7 s8 s9 s12 s13 s14 s15 s16 s17 s18 s19 s20 s21 s22 s23 s24 s25 s26 s27 s28 s29 s30 s31 s32 s33 s34 s35 s36 s37 s38 s39 s40 s41 s42 s43 s44 s45 s46 s47 s48 s49 s50 s51 s52 s53 s54 s55 s56 s57 s58 s59 s60 s61 s62 s63 s64 s65 s66 s67 s68 s69 s70 s71 s72 s73 s74 s75 s76 s77 s78 s79 s80 s81 s82 s83 s84 s85 s86 s87 s88 s89 s90 s91 s92 s93 s94 s95 s96 s97 s98 s99 s100 s101 s102 s103 s104 s105 s106 s107 s108 s109 s110 s111 s112 s113 s114 s115 s116 s117).2.1
    have h3 := fun s0 s1 s7 s8 s9 s12 s13 s14 s15 s16 s17 s18 s19 s20 s21 s22 s23 s24 s25 s26 s27 s28 s29 s30 s31 s32 s33 s34 s35 s36 s37 s38 s39 s40 s41 s42 s43 s44 s45 s46 s47 s48 s49 s50 s51 s52 s53 s54 s55 s56 s57 s58 s59 s60 s61 s62 s63 s64 s65 s66 s67 s68 s69 s70 s71 s72 s73 s74 s75 s76 s77 s78 s79 s80 s81 s82 s83 s84 s85 s86 s87 s88 s89 s90 s91 s92 s93 s94 s95 s96 s97 s98 s99 s100 s101 s102 s103 s104 s105 s106 s107 s108 s109 s110 s111 s112 s113 s114 s115 s116 s117 => (hg s0 s1 s7 s8 s9 s12 s13 s14 s15 s16 s17 s18 s19 s20 s21 s22 s23 s24 s25 s26 s27 s28 s29 s30 s31 s32 s33 s34 s35 s36 s37 s38 s39 s40 s41 s42 s43 s44 s45 s46 s47 s48 s49 s50 s51 s52 s53 s54 s55 s56 s57 s58 s59 s60 s61 s62 s63 s64 s65 s66 s67 s68 s69 s70 s71 s72 s73 s74 s75 s76 s77 s78 s79 s80 s81 s82 s83 s84 s85 s86 s87 s88 s89 s90 s91 s92 s93 s94 s95 s96 s97 s98 s99 s100 s101 s102 s103 s104 s105 s106 s107 s108 s109 s110 s111 s112 s113 s114 s115 s116 s117).2.2.1
    have h4 := fun s0 s1 s7 s8 s9 s12 s13 s14 s15 s16 s17 s18 s19 s20 s21 s22 s23 s24 s25 s26 s27 s28 s29 s30 s31 s32 s33 s34 s35 s36 s37 s38 s39 s40 s41 s42 s43 s44 s45 s46 s47 s48 s49 s50 s51 s52 s53 s54 s55 s56 s57 s58 s59 s60 s61 s62 s63 s64 s65 s66 s67 s68 s69 s70 s71 s72 s73 s74 s75 s76 s77 s78 s79 s80 s81 s82 s83 s84 s85 s86 s87 s88 s89 s90 s91 s92 s93 s94 s95 s96 s97 s98 s99 s100 s101 s102 s103 s104 s105 s106 s107 s108 s109 s110 s111 s112 s113 s114 s115 s116 s117 => (hg s0 s1 s7 s8 s9 s12 s13 s14 s15 s16 s17 s18 s19 s20 s21 s22 s23 s24 s25 s26 s27 s28 s29 s30 s31 s32 s33 s34 s35 s36 s37 s38 s39 s40 s41 s42 s43 s44 s45 s46 s47 s48 s49 s50 s51 s52 s53 s54 s55 s56 s57 s58 s59 s60 s61 s62 s63 s64 s65 s66 s67 s68 s69 s70 s71 s72 s73 s74 s75 s76 s77 s78 s79 s80 s81 s82 s83 s84 s85 s86 s87 s88 s89 s90 s91 s92 s93 s94 s95 s96 s97 s98 s99 s100 s101 s102 s103 s104 s105 s106 s107 s108 s109 s110 s111 s112 s113 s114 s115 s116 s117).2.2.2.1
    have h5 := fun s0 s1 s7 s8 s9 s12 s13 s14 s15 s16 s17 s18 s19 s20 s21 s22 s23 s24 s25 s26 s27 s28 s29 s30 s31 s32 s33 s34 s35 s36 s37 s38 s39 s40 s41 s42 s43 s44 s45 s46 s47 s48 s49 s50 s51 s52 s53 s54 s55 s56 s57 s58 s59 s60 s61 s62 s63 s64 s65 s66 s67 s68 s69 s70 s71 s72 s73 s74 s75 s76 s77 s78 s79 s80 s81 s82 s83 s84 s85 s86 s87 s88 s89 s90 s91 s92 s93 s94 s95 s96 s97 s98 s99 s100 s101 s102 s103 s104 s105 s106 s107 s108 s109 s110 s111 s112 s113 s114 s115 s116 s117 => (hg s0 s1 s7 s8 s9 s12 s13 s14 s15 s16 s17 s18 s19 s20 s21 s22 s23 s24 s25 s26 s27 s28 s29 s30 s31 s32 s33 s34 s35 s36 s37 s38 s39 s40 s41 s42 s43 s44 s45 s46 s47 s48 s49 s50 s51 s52 s53 s54 s55 s56 s57 s58 s59 s60 s61 s62 s63 s64 s65 s66 s67 s68 s69 s70 s71 s72 s73 s74 s75 s76 s77 s78 s79 s80 s81 s82 s83 s84 s85 s86 s87 s88 s89 s90 s91 s92 s93 s94 s95 s96 s97 s98 s99 s100 s101 s102 s103 s104 s105 s106 s107 s108 s109 s110 s111 s112 s113 s114 s115 s116 s117).2.2.2.2
    clear hg
    have r2 : ∀ (s0 s1 s7 s8 s9 s12 s13 s14 s15 s16 s17 s18 s19 s20 s21 s22 s23 s24 s25 s26 s27 s28 s29 s30 s31 s32 s33 s34 s35 s36 s37 s38 s39 s40 s41 s42 s43 s44 s45 s46 s47 s48 s49 s50 s51 s52 s53 s54 s55 s56 s57 s58 s59 s60 s61 s62 s63 s64 s65 s66 s67 s68 s69 s70 s71 s72 s73 s74 s75 s76 s77 s78 s79 s80 s81 s82 s83 s84 s85 s86 s87 s88 s89 s90 s91 s92 s93 s94 s95 s96 s97 s98 s99 s100 s101 s102 s103 s104 s105 s106 s107 s108 s109 s110 s111 s112 s113 s114 s115 s116 s117 : AV) (a : Blk),(((xLX (H37 A B (xRe s0 s1 s7 s8 s9 s12 s13 s14 s15 s16 s17 s18 s19 s20 s21 s22 s23 s24 s25 s26 s27 s28 s29 s30 s31 s32 s33 s34 s35 s36 s37 s38 s39 s40 s41 s42 s43 s44 s45 s46 s47 s48 s49 s50 s51 s52 s53 s54 s55 s56 s57 s58 s59 s60 s61 s62 s63 s64 s65 s66 s67 s68 s69 s70 s71 s72 s73 s74 s75 s76 s77 s78 s79 s80 s81 s82 s83 s84 s85 s86 s87 s88 s89 s90 s91 s92 s93 s94 s95 s96 s97 s98 s99 s100 s101 s102 s103 s104 s105 s106 s107 s108 s109 s110 s111 s112 s113 s114 s115 s116 s117 0 none))).set 14 .dead).set 2 a)[2]? = some a := fun s0 s1 s7 s8 s9 s12 s13 s14 s15 s16 s17 s18 s19 s20 s21 s22 s23 s24 s25 s26 s27 s28 s29 s30 s31 s32 s33 s34 s35 s36 s37 s38 s39 s40 s41 s42 s43 s44 s45 s46 s47 s48 s49 s50 s51 s52 s53 s54 s55 s56 s57 s58 s59 s60 s61 s62 s63 s64 s65 s66 s67 s68 s69 s70 s71 s72 s73 s74 s75 s76 s77 s78 s79 s80 s81 s82 s83 s84 s85 s86 s87 s88 s89 s90 s91 s92 s93 s94 s95 s96 s97 s98 s99 s100 s101 s102 s103 s104 s105 s106 s107 s108 s109 s110 s111 s112 s113 s114 s115 s116 s117 a => xA5 (by have := xBI (h5 s0 s1 s7 s8 s9 s12 s13 s14 s15 s16 s17 s18 s19 s20 s21 s22 s23 s24 s25 s26 s27 s28 s29 s30 s31 s32 s33 s34 s35 s36 s37 s38 s39 s40 s41 s42 s43 s44 s45 s46 s47 s48 s49 s50 s51 s52 s53 s54 s55 s56 s57 s58 s59 s60 s61 s62 s63 s64 s65 s66 s67 s68 s69 s70 s71 s72 s73 s74 s75 s76 s77 s78 s79 s80 s81 s82 s83 s84 s85 s86 s87 s88 s89 s90 s91 s92 s93 s94 s95 s96 s97 s98 s99 s100 s101 s102 s103 s104 s105 s106 s107 s108 s109 s110 s111 s112 s113 s114 s115 s116 s117); simp only [List.length_set]; omega)
    have r3 : ∀ (s0 s1 s7 s8 s9 s12 s13 s14 s15 s16 s17 s18 s19 s20 s21 s22 s23 s24 s25 s26 s27 s28 s29 s30 s31 s32 s33 s34 s35 s36 s37 s38 s39 s40 s41 s42 s43 s44 s45 s46 s47 s48 s49 s50 s51 s52 s53 s54 s55 s56 s57 s58 s59 s60 s61 s62 s63 s64 s65 s66 s67 s68 s69 s70 s71 s72 s73 s74 s75 s76 s77 s78 s79 s80 s81 s82 s83 s84 s85 s86 s87 s88 s89 s90 s91 s92 s93 s94 s95 s96 s97 s98 s99 s100 s101 s102 s103 s104 s105 s106 s107 s108 s109 s110 s111 s112 s113 s114 s115 s116 s117 : AV) (a b : Blk),((((xLX (H37 A B (xRe s0 s1 s7 s8 s9 s12 s13 s14 s15 s16 s17 s18 s19 s20 s21 s22 s23 s24 s25 s26 s27 s28 s29 s30 s31 s32 s33 s34 s35 s36 s37 s38 s39 s40 s41 s42 s43 s44 s45 s46 s47 s48 s49 s50 s51 s52 s53 s54 s55 s56 s57 s58 s59 s60 s61 s62 s63 s64 s65 s66 s67 s68 s69 s70 s71 s72 s73 s74 s75 s76 s77 s78 s79 s80 s81 s82 s83 s84 s85 s86 s87 s88 s89 s90 s91 s92 s93 s94 s95 s96 s97 s98 s99 s100 s101 s102 s103 s104 s105 s106 s107 s108 s109 s110 s111 s112 s113 s114 s115 s116 s117 0 none))).set 14 .dead).set 2 a).set 3 b)[3]? = some b := fun s0 s1 s7 s8 s9 s12 s13 s14 s15 s16 s17 s18 s19 s20 s21 s22 s23 s24 s25 s26 s27 s28 s29 s30 s31 s32 s33 s34 s35 s36 s37 s38 s39 s40 s41 s42 s43 s44 s45 s46 s47 s48 s49 s50 s51 s52 s53 s54 s55 s56 s57 s58 s59 s60 s61 s62 s63 s64 s65 s66 s67 s68 s69 s70 s71 s72 s73 s74 s75 s76 s77 s78 s79 s80 s81 s82 s83 s84 s85 s86 s87 s88 s89 s90 s91 s92 s93 s94 s95 s96 s97 s98 s99 s100 s101 s102 s103 s104 s105 s106 s107 s108 s109 s110 s111 s112 s113 s114 s115 s116 s117 a b => xA5 (by have := xBI (h5 s0 s1 s7 s8 s9 s12 s13 s14 s15 s16 s17 s18 s19 s20 s21 s22 s23 s24 s25 s26 s27 s28 s29 s30 s31 s32 s33 s34 s35 s36 s37 s38 s39 s40 s41 s42 s43 s44 s45 s46 s47 s48 s49 s50 s51 s52 s53 s54 s55 s56 s57 s58 s59 s60 s61 s62 s63 s64 s65 s66 s67 s68 s69 s70 s71 s72 s73 s74 s75 s76 s77 s78 s79 s80 s81 s82 s83 s84 s85 s86 s87 s88 s89 s90 s91 s92 s93 s94 s95 s96 s97 s98 s99 s100 s101 s102 s103 s104 s105 s106 s107 s108 s109 s110 s111 s112 s113 s114 s115 s116 s117); simp only [List.length_set]; omega)
    have r4 : ∀ (s0 s1 s7 s8 s9 s12 s13 s14 s15 s16 s17 s18 s19 s20 s21 s22 s23 s24 s25 s26 s27 s28 s29 s30 s31 s32 s33 s34 s35 s36 s37 s38 s39 s40 s41 s42 s43 s44 s45 s46 s47 s48 s49 s50 s51 s52 s53 s54 s55 s56 s57 s58 s59 s60 s61 s62 s63 s64 s65 s66 s67 s68 s69 s70 s71 s72 s73 s74 s75 s76 s77 s78 s79 s80 s81 s82 s83 s84 s85 s86 s87 s88 s89 s90 s91 s92 s93 s94 s95 s96 s97 s98 s99 s100 s101 s102 s103 s104 s105 s106 s107 s108 s109 s110 s111 s112 s113 s114 s115 s116 s117 : AV) (a b c : Blk),(((((xLX (H37 A B (xRe s0 s1 s7 s8 s9 s12 s13 s14 s15 s16 s17 s18 s19 s20 s21 s22 s23 s24 s25 s26 s27 s28 s29 s30 s31 s32 s33 s34 s35 s36 s37 s38 s39 s40 s41 s42 s43 s44 s45 s46 s47 s48 s49 s50 s51 s52 s53 s54 s55 s56 s57 s58 s59 s60 s61 s62 s63 s64 s65 s66 s67 s68 s69 s70 s71 s72 s73 s74 s75 s76 s77 s78 s79 s80 s81 s82 s83 s84 s85 s86 s87 s88 s89 s90 s91 s92 s93 s94 s95 s96 s97 s98 s99 s100 s101 s102 s103 s104 s105 s106 s107 s108 s109 s110 s111 s112 s113 s114 s115 s116 s117 0 none))).set 14 .dead).set 2 a).set 3 b).set 4 c)[4]? = some c := fun s0 s1 s7 s8 s9 s12 s13 s14 s15 s16 s17 s18 s19 s20 s21 s22 s23 s24 s25 s26 s27 s28 s29 s30 s31 s32 s33 s34 s35 s36 s37 s38 s39 s40 s41 s42 s43 s44 s45 s46 s47 s48 s49 s50 s51 s52 s53 s54 s55 s56 s57 s58 s59 s60 s61 s62 s63 s64 s65 s66 s67 s68 s69 s70 s71 s72 s73 s74 s75 s76 s77 s78 s79 s80 s81 s82 s83 s84 s85 s86 s87 s88 s89 s90 s91 s92 s93 s94 s95 s96 s97 s98 s99 s100 s101 s102 s103 s104 s105 s106 s107 s108 s109 s110 s111 s112 s113 s114 s115 s116 s117 a b c => xA5 (by have := xBI (h5 s0 s1 s7 s8 s9 s12 s13 s14 s15 s16 s17 s18 s19 s20 s21 s22 s23 s24 s25 s26 s27 s28 s29 s30 s31 s32 s33 s34 s35 s36 s37 s38 s39 s40 s41 s42 s43 s44 s45 s46 s47 s48 s49 s50 s51 s52 s53 s54 s55 s56 s57 s58 s59 s60 s61 s62 s63 s64 s65 s66 s67 s68 s69 s70 s71 s72 s73 s74 s75 s76 s77 s78 s79 s80 s81 s82 s83 s84 s85 s86 s87 s88 s89 s90 s91 s92 s93 s94 s95 s96 s97 s98 s99 s100 s101 s102 s103 s104 s105 s106 s107 s108 s109 s110 s111 s112 s113 s114 s115 s116 s117); simp only [List.length_set]; omega)
    rw [yA4,a37,xAr]
    simp (maxSteps := 30000000) (disch := first | assumption | omega | (simp only [WL,AV.isCell,xAl] <;> omega) | rfl | decide) only [↓reduceIte,WB,xAC,xAc,xAB,xAk,xAj,AV.cells,AV.isCell,xAb,xAf,xAg,WP,xAt,xAm,xA0,xAZ,xAX,xAq,xAv,xAu,WA,W2,xAd,xAe,xAh,Nat.reduceAdd,Nat.reduceSub,Nat.reduceLeDiff,Nat.reduceMul,Int.reduceAdd,Int.reduceSub,Int.reduceMul,Int.reduceLT,Int.reduceLE,Int.reduceEq,Int.reduceToNat,Int.reduceNeg,Nat.reduceEqDiff,Nat.reduceBEq,Nat.reduceLT,xAW,xBs,xBv,xBR,xBS,xBP,xAR,xA5,List.length_map,List.set_set,xAl,xBx,xBy,xMI,xHs,xMH,hc,hd,n1,n2,xVm,yDf,a75,h1,h2,h3,h4,h5,r2,r3,r4,show wv = fun v => .sl v.isEmpty v.length (bs v) from rfl]
  | none =>
    have hg := fun s0 s1 s7 s8 s9 s12 s13 s14 s15 s16 s17 s18 s19 s20 s21 s22 s23 s24 s25 s26 s27 s28 s29 s30 s31 s32 s33 s34 s35 s36 s37 s38 s39 s40 s41 s42 s43 s44 s45 s46 s47 s48 s49 s50 s51 s52 s53 s54 s55 s56 s57 s58 s59 s60 s61 s62 s63 s64 s65 s66 s67 s68 s69 s70 s71 s72 s73 s74 s75 s76 s77 s78 s79 s80 s81 s82 s83 s84 s85 s86 s87 s88 s89 s90 s91 s92 s93 s94 s95 s96 s97 s98 s99 s100 s101 s102 s103 s104 s105 s106 s107 s108 s109 s110 s111 s112 s113 s114 s115 s116 s117 => (yDv hA hB (xVn hA hB hAB s0 s1 s7 s8 s9 s12 s13 s14 s15 s16 s17 s18 s19 s20 s21 s22 s23 s24 s25 s26 s27 s28 s29 s30 s31 s32 s33 s34 s35 s36 s37 s38 s39 s40 s41 s42 s43 s44 s45 s46 s47 s48 s49 s50 s51 s52 s53 s54 s55 s56 s57 s58 s59 s60 s61 s62 s63 s64 s65 s66 s67 s68 s69 s70 s71 s72 s73 s74 s75 s76 s77 s78 s79 s80 s81 s82 s83 s84 s85 s86 s87 s88 s89 s90 s91 s92 s93 s94 s95 s96 s97 s98 s99 s100 s101 s102 s103 s104 s105 s106 s107 s108 s109 s110 s111 s112 s113 s114 s115 s116 s117)).2 hs
    have h1 := fun s0 s1 s7 s8 s9 s12 s13 s14 s15 s16 s17 s18 s19 s20 s21 s22 s23 s24 s25 s26 s27 s28 s29 s30 s31 s32 s33 s34 s35 s36 s37 s38 s39 s40 s41 s42 s43 s44 s45 s46 s47 s48 s49 s50 s51 s52 s53 s54 s55 s56 s57 s58 s59 s60 s61 s62 s63 s64 s65 s66 s67 s68 s69 s70 s71 s72 s73 s74 s75 s76 s77 s78 s79 s80 s81 s82 s83 s84 s85 s86 s87 s88 s89 s90 s91 s92 s93 s94 s95 s96 s97 s98 s99 s100 s101 s102 s103 s104 s105 s106 s107 s108 s109 s110 s111 s112 s113 s114 s115 s116 s117 => (hg s0 s1 s7 s8 s9 s12 s13 s14 s15 s16 s17 s18 s19 s20 s21 s22 s23 s24 s25 s26 s27 s28 s29 s30 s31 s32 s33 s34 s35 s36 s37 s38 s39 s40 s41 s42 s43 s44 s45 s46 s47 s48 s49 s50 s51 s52 s53 s54 s55 s56 s57 s58 s59 s60 s61 s62 s63 s64 s65 s66 s67 s68 s69 s70 s71 s72 s73 s74 s75 s76 s77 s78 s79 s80 s81 s82 s83 s84 s85 s86 s87 s88 s89 s90 s91 s92 s93 s94 s95 s96 s97 s98 s99 s100 s101 s102 s103 s104 s105 s106 s107 s108 s109 s110 s111 s112 s113 s114 s115 s116 s117).1
    have h2 := fun s0 s1 s7 s8 s9 s12 s13 s14 s15 s16 s17 s18 s19 s20 s21 s22 s23 s24 s25 s26 s27 s28 s29 s30 s31 s32 s33 s34 s35 s36 s37 s38 s39 s40 s41 s42 s43 s44 s45 s46 s47 s48 s49 s50 s51 s52 s53 s54 s55 s56 s57 s58 s59 s60 s61 s62 s63 s64 s65 s66 s67 s68 s69 s70 s71 s72 s73 s74 s75 s76 s77 s78 s79 s80 s81 s82 s83 s84 s85 s86 s87 s88 s89 s90 s91 s92 s93 s94 s95 s96 s97 s98 s99 s100 s101 s102 s103 s104 s105 s106 s107 s108 s109 s110 s111 s112 s113 s114 s115 s116 s117 => (hg s0 s1 s7 s8 s9 s12 s13 s14 s15 s16 s17 s18 s19 s20 s21 s22 s23 s24 s25 s26 s27 s28 s29 s30 s31 s32 s33 s34 s35 s36 s37 s38 s39 s40 s41 s42 s43 s44 s45 s46 s47 s48 s49 s50 s51 s52 s53 s54 s55 s56 s57 s58 s59 s60 s61 s62 s63 s64 s65 s66 s67 s68 s69 s70 s71 s72 s73 s74 s75 s76 s77 s78 s79 s80 s81 s82 s83 s84 s85 s86 s87 s88 s89 s90 s91 s92 s93 s94 s95 s96 s97 s98 s99 s100 s101 s102 s103 s104 s105 s106 s107 s108 s109 s110 s111 s112 s113 s114 s115 s116 s117).2.1
    have h3 := fun s0 s1 s7 s8 s9 s12 s13 s14 s15 s16 s17 s18 s19 s20 s21 s22 s23 s24 s25 s26 s27 s28 s29 s30 s31 s32 s33 s34 s35 s36 s37 s38 s39 s40 s41 s42 s43 s44 s45 s46 s47 s48 s49 s50 s51 s52 s53 s54 s55 s56 s57 s58 s59 s60 s61 s62 s63 s64 s65 s66 s67 s68 s69 s70 s71 s72 s73 s74 s75 s76 s77 s78 s79 s80 s81 s82 s83 s84 s85 s86 s87 s88 s89 s90 s91 s92 s93 s94 s95 s96 s97 s98 s99 s100 s101 s102 s103 s104 s105 s106 s107 s108 s109 s110 s111 s112 s113 s114 s115 s116 s117 => (hg s0 s1 s7 s8 s9 s12 s13 s14 s15 s16 s17 s18 s19 s20 s21 s22 s23 s24 s25 s26 s27 s28 s29 s30 s31 s32 s33 s34 s35 s36 s37 s38 s39 s40 s41 s42 s43 s44 s45 s46 s47 s48 s49 s50 s51 s52 s53 s54 s55 s56 s57 s58 s59 s60 s61 s62 s63 s64 s65 s66 s67 s68 s69 s70 s71 s72 s73 s74 s75 s76 s77 s78 s79 s80 s81 s82 s83 s84 s85 s86 s87 s88 s89 s90 s91 s92 s93 s94 s95 s96 s97 s98 s99 s100 s101 s102 s103 s104 s105 s106 s107 s108 s109 s110 s111 s112 s113 s114 s115 s116 s117).2.2.1
    have h4 := fun s0 s1 s7 s8 s9 s12 s13 s14 s15 s16 s17 s18 s19 s20 s21 s22 s23 s24 s25 s26 s27 s28 s29 s30 s31 s32 s33 s34 s35 s36 s37 s38 s39 s40 s41 s42 s43 s44 s45 s46 s47 s48 s49 s50 s51 s52 s53 s54 s55 s56 s57 s58 s59 s60 s61 s62 s63 s64 s65 s66 s67 s68 s69 s70 s71 s72 s73 s74 s75 s76 s77 s78 s79 s80 s81 s82 s83 s84 s85 s86 s87 s88 s89 s90 s91 s92 s93 s94 s95 s96 s97 s98 s99 s100 s101 s102 s103 s104 s105 s106 s107 s108 s109 s110 s111 s112 s113 s114 s115 s116 s117 => (hg s0 s1 s7 s8 s9 s12 s13 s14 s15 s16 s17 s18 s19 s20 s21 s22 s23 s24 s25 s26 s27 s28 s29 s30 s31 s32 s33 s34 s35 s36 s37 s38 s39 s40 s41 s42 s43 s44 s45 s46 s47 s48 s49 s50 s51 s52 s53 s54 s55 s56 s57 s58 s59 s60 s61 s62 s63 s64 s65 s66 s67 s68 s69 s70 s71 s72 s73 s74 s75 s76 s77 s78 s79 s80 s81 s82 s83 s84 s85 s86 s87 s88 s89 s90 s91 s92 s93 s94 s95 s96 s97 s98 s99 s100 s101 s102 s103 s104 s105 s106 s107 s108 s109 s110 s111 s112 s113 s114 s115 s116 s117).2.2.2.1
    have h5 := fun s0 s1 s7 s8 s9 s12 s13 s14 s15 s16 s17 s18 s19 s20 s21 s22 s23 s24 s25 s26 s27 s28 s29 s30 s31 s32 s33 s34 s35 s36 s37 s38 s39 s40 s41 s42 s43 s44 s45 s46 s47 s48 s49 s50 s51 s52 s53 s54 s55 s56 s57 s58 s59 s60 s61 s62 s63 s64 s65 s66 s67 s68 s69 s70 s71 s72 s73 s74 s75 s76 s77 s78 s79 s80 s81 s82 s83 s84 s85 s86 s87 s88 s89 s90 s91 s92 s93 s94 s95 s96 s97 s98 s99 s100 s101 s102 s103 s104 s105 s106 s107 s108 s109 s110 s111 s112 s113 s114 s115 s116 s117 => (hg s0 s1 s7 s8 s9 s12 s13 s14 s15 s16 s17 s18 s19 s20 s21 s22 s23 s24 s25 s26 s27 s28 s29 s30 s31 s32 s33 s34 s35 s36 s37 s38 s39 s40 s41 s42 s43 s44 s45 s46 s47 s48 s49 s50 s51 s52 s53 s54 s55 s56 s57 s58 s59 s60 s61 s62 s63 s64 s65 s66 s67 s68 s69 s70 s71 s72 s73 s74 s75 s76 s77 s78 s79 s80 s81 s82 s83 s84 s85 s86 s87 s88 s89 s90 s91 s92 s93 s94 s95 s96 s97 s98 s99 s100 s101 s102 s103 s104 s105 s106 s107 s108 s109 s110 s111 s112 s113 s114 s115 s116 s117).2.2.2.2
    clear hg
    have r2 : ∀ (s0 s1 s7 s8 s9 s12 s13 s14 s15 s16 s17 s18 s19 s20 s21 s22 s23 s24 s25 s26 s27 s28 s29 s30 s31 s32 s33 s34 s35 s36 s37 s38 s39 s40 s41 s42 s43 s44 s45 s46 s47 s48 s49 s50 s51 s52 s53 s54 s55 s56 s57 s58 s59 s60 s61 s62 s63 s64 s65 s66 s67 s68 s69 s70 s71 s72 s73 s74 s75 s76 s77 s78 s79 s80 s81 s82 s83 s84 s85 s86 s87 s88 s89 s90 s91 s92 s93 s94 s95 s96 s97 s98 s99 s100 s101 s102 s103 s104 s105 s106 s107 s108 s109 s110 s111 s112 s113 s114 s115 s116 s117 : AV) (a : Blk),(((xLX (H37 A B (xRe s0 s1 s7 s8 s9 s12 s13 s14 s15 s16 s17 s18 s19 s20 s21 s22 s23 s24 s25 s26 s27 s28 s29 s30 s31 s32 s33 s34 s35 s36 s37 s38 s39 s40 s41 s42 s43 s44 s45 s46 s47 s48 s49 s50 s51 s52 s53 s54 s55 s56 s57 s58 s59 s60 s61 s62 s63 s64 s65 s66 s67 s68 s69 s70 s71 s72 s73 s74 s75 s76 s77 s78 s79 s80 s81 s82 s83 s84 s85 s86 s87 s88 s89 s90 s91 s92 s93 s94 s95 s96 s97 s98 s99 s100 s101 s102 s103 s104 s105 s106 s107 s108 s109 s110 s111 s112 s113 s114 s115 s116 s117 0 none))).set 14 .dead).set 2 a)[2]? = some a := fun s0 s1 s7 s8 s9 s12 s13 s14 s15 s16 s17 s18 s19 s20 s21 s22 s23 s24 s25 s26 s27 s28 s29 s30 s31 s32 s33 s34 s35 s36 s37 s38 s39 s40 s41 s42 s43 s44 s45 s46 s47 s48 s49 s50 s51 s52 s53 s54 s55 s56 s57 s58 s59 s60 s61 s62 s63 s64 s65 s66 s67 s68 s69 s70 s71 s72 s73 s74 s75 s76 s77 s78 s79 s80 s81 s82 s83 s84 s85 s86 s87 s88 s89 s90 s91 s92 s93 s94 s95 s96 s97 s98 s99 s100 s101 s102 s103 s104 s105 s106 s107 s108 s109 s110 s111 s112 s113 s114 s115 s116 s117 a => xA5 (by have := xBI (h5 s0 s1 s7 s8 s9 s12 s13 s14 s15 s16 s17 s18 s19 s20 s21 s22 s23 s24 s25 s26 s27 s28 s29 s30 s31 s32 s33 s34 s35 s36 s37 s38 s39 s40 s41 s42 s43 s44 s45 s46 s47 s48 s49 s50 s51 s52 s53 s54 s55 s56 s57 s58 s59 s60 s61 s62 s63 s64 s65 s66 s67 s68 s69 s70 s71 s72 s73 s74 s75 s76 s77 s78 s79 s80 s81 s82 s83 s84 s85 s86 s87 s88 s89 s90 s91 s92 s93 s94 s95 s96 s97 s98 s99 s100 s101 s102 s103 s104 s105 s106 s107 s108 s109 s110 s111 s112 s113 s114 s115 s116 s117); simp only [List.length_set]; omega)
    have r3 : ∀ (s0 s1 s7 s8 s9 s12 s13 s14 s15 s16 s17 s18 s19 s20 s21 s22 s23 s24 s25 s26 s27 s28 s29 s30 s31 s32 s33 s34 s35 s36 s37 s38 s39 s40 s41 s42 s43 s44 s45 s46 s47 s48 s49 s50 s51 s52 s53 s54 s55 s56 s57 s58 s59 s60 s61 s62 s63 s64 s65 s66 s67 s68 s69 s70 s71 s72 s73 s74 s75 s76 s77 s78 s79 s80 s81 s82 s83 s84 s85 s86 s87 s88 s89 s90 s91 s92 s93 s94 s95 s96 s97 s98 s99 s100 s101 s102 s103 s104 s105 s106 s107 s108 s109 s110 s111 s112 s113 s114 s115 s116 s117 : AV) (a b : Blk),((((xLX (H37 A B (xRe s0 s1 s7 s8 s9 s12 s13 s14 s15 s16 s17 s18 s19 s20 s21 s22 s23 s24 s25 s26 s27 s28 s29 s30 s31 s32 s33 s34 s35 s36 s37 s38 s39 s40 s41 s42 s43 s44 s45 s46 s47 s48 s49 s50 s51 s52 s53 s54 s55 s56 s57 s58 s59 s60 s61 s62 s63 s64 s65 s66 s67 s68 s69 s70 s71 s72 s73 s74 s75 s76 s77 s78 s79 s80 s81 s82 s83 s84 s85 s86 s87 s88 s89 s90 s91 s92 s93 s94 s95 s96 s97 s98 s99 s100 s101 s102 s103 s104 s105 s106 s107 s108 s109 s110 s111 s112 s113 s114 s115 s116 s117 0 none))).set 14 .dead).set 2 a).set 3 b)[3]? = some b := fun s0 s1 s7 s8 s9 s12 s13 s14 s15 s16 s17 s18 s19 s20 s21 s22 s23 s24 s25 s26 s27 s28 s29 s30 s31 s32 s33 s34 s35 s36 s37 s38 s39 s40 s41 s42 s43 s44 s45 s46 s47 s48 s49 s50 s51 s52 s53 s54 s55 s56 s57 s58 s59 s60 s61 s62 s63 s64 s65 s66 s67 s68 s69 s70 s71 s72 s73 s74 s75 s76 s77 s78 s79 s80 s81 s82 s83 s84 s85 s86 s87 s88 s89 s90 s91 s92 s93 s94 s95 s96 s97 s98 s99 s100 s101 s102 s103 s104 s105 s106 s107 s108 s109 s110 s111 s112 s113 s114 s115 s116 s117 a b => xA5 (by have := xBI (h5 s0 s1 s7 s8 s9 s12 s13 s14 s15 s16 s17 s18 s19 s20 s21 s22 s23 s24 s25 s26 s27 s28 s29 s30 s31 s32 s33 s34 s35 s36 s37 s38 s39 s40 s41 s42 s43 s44 s45 s46 s47 s48 s49 s50 s51 s52 s53 s54 s55 s56 s57 s58 s59 s60 s61 s62 s63 s64 s65 s66 s67 s68 s69 s70 s71 s72 s73 s74 s75 s76 s77 s78 s79 s80 s81 s82 s83 s84 s85 s86 s87 s88 s89 s90 s91 s92 s93 s94 s95 s96 s97 s98 s99 s100 s101 s102 s103 s104 s105 s106 s107 s108 s109 s110 s111 s112 s113 s114 s115 s116 s117); simp only [List.length_set]; omega)
    have r4 : ∀ (s0 s1 s7 s8 s9 s12 s13 s14 s15 s16 s17 s18 s19 s20 s21 s22 s23 s24 s25 s26 s27 s28 s29 s30 s31 s32 s33 s34 s35 s36 s37 s38 s39 s40 s41 s42 s43 s44 s45 s46 s47 s48 s49 s50 s51 s52 s53 s54 s55 s56 s57 s58 s59 s60 s61 s62 s63 s64 s65 s66 s67 s68 s69 s70 s71 s72 s73 s74 s75 s76 s77 s78 s79 s80 s81 s82 s83 s84 s85 s86 s87 s88 s89 s90 s91 s92 s93 s94 s95 s96 s97 s98 s99 s100 s101 s102 s103 s104 s105 s106 s107 s108 s109 s110 s111 s112 s113 s114 s115 s116 s117 : AV) (a b c : Blk),(((((xLX (H37 A B (xRe s0 s1 s7 s8 s9 s12 s13 s14 s15 s16 s17 s18 s19 s20 s21 s22 s23 s24 s25 s26 s27 s28 s29 s30 s31 s32 s33 s34 s35 s36 s37 s38 s39 s40 s41 s42 s43 s44 s45 s46 s47 s48 s49 s50 s51 s52 s53 s54 s55 s56 s57 s58 s59 s60 s61 s62 s63 s64 s65 s66 s67 s68 s69 s70 s71 s72 s73 s74 s75 s76 s77 s78 s79 s80 s81 s82 s83 s84 s85 s86 s87 s88 s89 s90 s91 s92 s93 s94 s95 s96 s97 s98 s99 s100 s101 s102 s103 s104 s105 s106 s107 s108 s109 s110 s111 s112 s113 s114 s115 s116 s117 0 none))).set 14 .dead).set 2 a).set 3 b).set 4 c)[4]? = some c := fun s0 s1 s7 s8 s9 s12 s13 s14 s15 s16 s17 s18 s19 s20 s21 s22 s23 s24 s25 s26 s27 s28 s29 s30 s31 s32 s33 s34 s35 s36 s37 s38 s39 s40 s41 s42 s43 s44 s45 s46 s47 s48 s49 s50 s51 s52 s53 s54 s55 s56 s57 s58 s59 s60 s61 s62 s63 s64 s65 s66 s67 s68 s69 s70 s71 s72 s73 s74 s75 s76 s77 s78 s79 s80 s81 s82 s83 s84 s85 s86 s87 s88 s89 s90 s91 s92 s93 s94 s95 s96 s97 s98 s99 s100 s101 s102 s103 s104 s105 s106 s107 s108 s109 s110 s111 s112 s113 s114 s115 s116 s117 a b c => xA5 (by have := xBI (h5 s0 s1 s7 s8 s9 s12 s13 s14 s15 s16 s17 s18 s19 s20 s21 s22 s23 s24 s25 s26 s27 s28 s29 s30 s31 s32 s33 s34 s35 s36 s37 s38 s39 s40 s41 s42 s43 s44 s45 s46 s47 s48 s49 s50 s51 s52 s53 s54 s55 s56 s57 s58 s59 s60 s61 s62 s63 s64 s65 s66 s67 s68 s69 s70 s71 s72 s73 s74 s75 s76 s77 s78 s79 s80 s81 s82 s83 s84 s85 s86 s87 s88 s89 s90 s91 s92 s93 s94 s95 s96 s97 s98 s99 s100 s101 s102 s103 s104 s105 s106 s107 s108 s109 s110 s111 s112 s113 s114 s115 s116 s117); simp only [List.length_set]; omega)
    rw [yA4,a37,xAr]
    simp (maxSteps := 30000000) (disch := first | assumption | omega | (simp only [WL,AV.isCell,xAl] <;> omega) | rfl | decide) only [↓reduceIte,WB,xAC,xAc,xAB,xAk,xAj,AV.cells,AV.isCell,xAb,xAf,xAg,WP,xAt,xAm,xA0,xAZ,xAX,xAq,xAv,xAu,WA,W2,xAd,xAe,xAh,Nat.reduceAdd,Nat.reduceSub,Nat.reduceLeDiff,Nat.reduceMul,Int.reduceAdd,Int.reduceSub,Int.reduceMul,Int.reduceLT,Int.reduceLE,Int.reduceEq,Int.reduceToNat,Int.reduceNeg,Nat.reduceEqDiff,Nat.reduceBEq,Nat.reduceLT,xAW,xBs,xBv,xBR,xBS,xBP,xAR,xA5,List.length_map,List.set_set,xAl,xBx,xBy,xMI,xHs,xMH,hc,hd,n1,n2,xVm,yDf,a75,h1,h2,h3,h4,h5,r2,r3,r4,show wv = fun v => .sl v.isEmpty v.length (bs v) from rfl]
end
theorem xVo {α : Type} {a b : List α} (h : a.length = b.length) (d : α) {i : Nat} (hi : i < a.length) : (a.drop i = b.drop i) ↔ (a.getD i d = b.getD i d ∧ a.drop (i + 1) = b.drop (i + 1)) := by
  rw [xA6 (a := d) hi,xA6 (a := d) (show i < b.length by omega)]
  simp
theorem yCM {z1 z2 : Bool} {a b : List Nat} {H : Heap} (hl : a.length = b.length) (hm : a.length < 9223372036854775807) : ∀ e i,i + e = a.length →
    ∃ j : Nat,L.loop xMF xWO ⟨xJo (.sl z1 a.length (bs a)) (.sl z2 b.length (bs b)) (.bool false) (.int .i64 (i : Nat)),H⟩ =
      some (if a.drop i = b.drop i then (.exit 0,⟨xJo (.sl z1 a.length (bs a)) (.sl z2 b.length (bs b)) (.bool false) (.int .i64 (a.length : Nat)),H⟩)
        else (.ret,⟨xJo (.sl z1 a.length (bs a)) (.sl z2 b.length (bs b)) (.bool false) (.int .i64 (j : Nat)),H⟩)) := by
  intro e
  induction e with
  | zero =>
    intro i h
    obtain rfl : i = a.length := by omega
    refine ⟨0,?_⟩
    rw [if_pos (by rw [List.drop_length,hl,List.drop_length]),xTn]
    simp (maxSteps := 30000000) (disch := first | assumption | omega | (simp only [WL,AV.isCell] <;> omega) | rfl | decide) only [↓reduceIte,WB,xAC,xAc,xAB,xAk,xAj,AV.cells,AV.isCell,xAb,xAf,xAg,W2,xAd,xAe,xAh,Nat.reduceAdd,Nat.reduceSub,Nat.reduceLeDiff,Nat.reduceMul,Int.reduceAdd,Int.reduceSub,Int.reduceMul,Int.reduceLT,Int.reduceLE,Int.reduceEq,Int.reduceToNat,Int.reduceNeg,Nat.reduceEqDiff,Nat.reduceBEq,Nat.reduceLT,xJn,xJp]
  | succ e ih =>
    intro i h
    have hlt : (i : Int) < (a.length : Nat) := by omega
    obtain ⟨j,ih'⟩ := ih (i + 1) (by omega)
    rw [← hl] at ih' ⊢
    have hd := xVo hl (0 : Nat) (show i < a.length by omega)
    by_cases c : a.getD i 0 = b.getD i 0
    · refine ⟨j,?_⟩
      have hd' : (a.drop i = b.drop i) ↔ (a.drop (i + 1) = b.drop (i + 1)) := hd.trans ⟨fun h => h.2,fun h => ⟨c,h⟩⟩
      rw [xTn]
      by_cases e : a.drop (i + 1) = b.drop (i + 1)
      · rw [if_pos e] at ih'
        rw [if_pos (hd'.2 e)]
        simp (maxSteps := 30000000) (disch := first | assumption | omega | (simp only [WL,AV.isCell] <;> omega) | rfl | decide) only [↓reduceIte,WB,xAC,xAc,xAB,xAk,xAj,AV.cells,AV.isCell,xAb,xAf,xAg,W2,xAd,xAe,xAh,Nat.reduceAdd,Nat.reduceSub,Nat.reduceLeDiff,Nat.reduceMul,Int.reduceAdd,Int.reduceSub,Int.reduceMul,Int.reduceLT,Int.reduceLE,Int.reduceEq,Int.reduceToNat,Int.reduceNeg,Nat.reduceEqDiff,Nat.reduceBEq,Nat.reduceLT,xJn,xJp,hlt,c,ih']
      · rw [if_neg e] at ih'
        rw [if_neg (fun h => e (hd'.1 h))]
        simp (maxSteps := 30000000) (disch := first | assumption | omega | (simp only [WL,AV.isCell] <;> omega) | rfl | decide) only [↓reduceIte,WB,xAC,xAc,xAB,xAk,xAj,AV.cells,AV.isCell,xAb,xAf,xAg,W2,xAd,xAe,xAh,Nat.reduceAdd,Nat.reduceSub,Nat.reduceLeDiff,Nat.reduceMul,Int.reduceAdd,Int.reduceSub,Int.reduceMul,Int.reduceLT,Int.reduceLE,Int.reduceEq,Int.reduceToNat,Int.reduceNeg,Nat.reduceEqDiff,Nat.reduceBEq,Nat.reduceLT,xJn,xJp,hlt,c,ih']
    · refine ⟨i,?_⟩
      have c' : (((a.getD i 0 : Nat) : Int) = ((b.getD i 0 : Nat) : Int)) = False := eq_false (by omega)
      rw [if_neg (fun h => c (hd.1 h).1),xTn]
      simp (maxSteps := 30000000) (disch := first | assumption | omega | (simp only [WL,AV.isCell] <;> omega) | rfl | decide) only [↓reduceIte,WB,xAC,xAc,xAB,xAk,xAj,AV.cells,AV.isCell,xAb,xAf,xAg,W2,xAd,xAe,xAh,Nat.reduceAdd,Nat.reduceSub,Nat.reduceLeDiff,Nat.reduceMul,Int.reduceAdd,Int.reduceSub,Int.reduceMul,Int.reduceLT,Int.reduceLE,Int.reduceEq,Int.reduceToNat,Int.reduceNeg,Nat.reduceEqDiff,Nat.reduceBEq,Nat.reduceLT,xJn,xJp,hlt,c']
theorem yCN {z1 z2 : Bool} {a b : List Nat} (hm : a.length < 9223372036854775807) : L.pcall 23 [.sl z1 a.length (bs a),.sl z2 b.length (bs b)] = some (.bool (decide (a = b))) := by
  by_cases hl : a.length = b.length
  · obtain ⟨j,h⟩ := yCM (z1 := z1) (z2 := z2) (H := []) hl hm a.length 0 (by omega)
    simp only [Int.natCast_zero,List.drop_zero] at h
    rw [yC9,a23,xAr]
    by_cases c : a = b
    · rw [if_pos c] at h
      rw [decide_eq_true c]
      rw [← hl] at h ⊢
      simp (maxSteps := 30000000) (disch := first | assumption | omega | (simp only [WL,AV.isCell] <;> omega) | rfl | decide) only [↓reduceIte,WB,xAC,xAc,xAB,xAk,xAj,AV.cells,AV.isCell,xAb,xAf,xAg,W2,xAd,xAe,xAh,Nat.reduceAdd,Nat.reduceSub,Nat.reduceLeDiff,Nat.reduceMul,Int.reduceAdd,Int.reduceSub,Int.reduceMul,Int.reduceLT,Int.reduceLE,Int.reduceEq,Int.reduceToNat,Int.reduceNeg,Nat.reduceEqDiff,Nat.reduceBEq,Nat.reduceLT,xJp,h]
    · rw [if_neg c] at h
      rw [decide_eq_false c]
      rw [← hl] at h ⊢
      simp (maxSteps := 30000000) (disch := first | assumption | omega | (simp only [WL,AV.isCell] <;> omega) | rfl | decide) only [↓reduceIte,WB,xAC,xAc,xAB,xAk,xAj,AV.cells,AV.isCell,xAb,xAf,xAg,W2,xAd,xAe,xAh,Nat.reduceAdd,Nat.reduceSub,Nat.reduceLeDiff,Nat.reduceMul,Int.reduceAdd,Int.reduceSub,Int.reduceMul,Int.reduceLT,Int.reduceLE,Int.reduceEq,Int.reduceToNat,Int.reduceNeg,Nat.reduceEqDiff,Nat.reduceBEq,Nat.reduceLT,xJp,h]
  · have hl' : (((a.length : Nat) : Int) = ((b.length : Nat) : Int)) = False := eq_false (by omega)
    rw [decide_eq_false (fun e => hl (by rw [e])),yC9,a23,xAr]
    simp (maxSteps := 30000000) (disch := first | assumption | omega | (simp only [WL,AV.isCell] <;> omega) | rfl | decide) only [↓reduceIte,WB,xAC,xAc,xAB,xAk,xAj,AV.cells,AV.isCell,xAb,xAf,xAg,W2,xAd,xAe,xAh,Nat.reduceAdd,Nat.reduceSub,Nat.reduceLeDiff,Nat.reduceMul,Int.reduceAdd,Int.reduceSub,Int.reduceMul,Int.reduceLT,Int.reduceLE,Int.reduceEq,Int.reduceToNat,Int.reduceNeg,Nat.reduceEqDiff,Nat.reduceBEq,Nat.reduceLT,hl']
theorem yCO {z1 z2 : Bool} {a b : List Int} {H : Heap} (hl : a.length = b.length) (hm : a.length < 9223372036854775807) : ∀ e i,i + e = a.length →
    ∃ j : Nat,L.loop xMG xWP ⟨xJr (.sl z1 a.length (xCj a)) (.sl z2 b.length (xCj b)) (.bool false) (.int .i64 (i : Nat)),H⟩ =
      some (if a.drop i = b.drop i then (.exit 0,⟨xJr (.sl z1 a.length (xCj a)) (.sl z2 b.length (xCj b)) (.bool false) (.int .i64 (a.length : Nat)),H⟩)
        else (.ret,⟨xJr (.sl z1 a.length (xCj a)) (.sl z2 b.length (xCj b)) (.bool false) (.int .i64 (j : Nat)),H⟩)) := by
  intro e
  induction e with
  | zero =>
    intro i h
    obtain rfl : i = a.length := by omega
    refine ⟨0,?_⟩
    rw [if_pos (by rw [List.drop_length,hl,List.drop_length]),xTo]
    simp (maxSteps := 30000000) (disch := first | assumption | omega | (simp only [WL,AV.isCell] <;> omega) | rfl | decide) only [↓reduceIte,WB,xAC,xAc,xAB,xAk,xAj,AV.cells,AV.isCell,xAb,xAf,xAg,W2,xAd,xAe,xAh,Nat.reduceAdd,Nat.reduceSub,Nat.reduceLeDiff,Nat.reduceMul,Int.reduceAdd,Int.reduceSub,Int.reduceMul,Int.reduceLT,Int.reduceLE,Int.reduceEq,Int.reduceToNat,Int.reduceNeg,Nat.reduceEqDiff,Nat.reduceBEq,Nat.reduceLT,xJq,xJs]
  | succ e ih =>
    intro i h
    have hlt : (i : Int) < (a.length : Nat) := by omega
    obtain ⟨j,ih'⟩ := ih (i + 1) (by omega)
    rw [← hl] at ih' ⊢
    have hd := xVo hl (0 : Int) (show i < a.length by omega)
    by_cases c : a.getD i 0 = b.getD i 0
    · refine ⟨j,?_⟩
      have hd' : (a.drop i = b.drop i) ↔ (a.drop (i + 1) = b.drop (i + 1)) := hd.trans ⟨fun h => h.2,fun h => ⟨c,h⟩⟩
      rw [xTo]
      by_cases e : a.drop (i + 1) = b.drop (i + 1)
      · rw [if_pos e] at ih'
        rw [if_pos (hd'.2 e)]
        simp (maxSteps := 30000000) (disch := first | assumption | omega | (simp only [WL,AV.isCell] <;> omega) | rfl | decide) only [↓reduceIte,WB,xAC,xAc,xAB,xAk,xAj,AV.cells,AV.isCell,xAb,xAf,xAg,W2,xAd,xAe,xAh,Nat.reduceAdd,Nat.reduceSub,Nat.reduceLeDiff,Nat.reduceMul,Int.reduceAdd,Int.reduceSub,Int.reduceMul,Int.reduceLT,Int.reduceLE,Int.reduceEq,Int.reduceToNat,Int.reduceNeg,Nat.reduceEqDiff,Nat.reduceBEq,Nat.reduceLT,xJq,xJs,hlt,c,ih']
      · rw [if_neg e] at ih'
        rw [if_neg (fun h => e (hd'.1 h))]
        simp (maxSteps := 30000000) (disch := first | assumption | omega | (simp only [WL,AV.isCell] <;> omega) | rfl | decide) only [↓reduceIte,WB,xAC,xAc,xAB,xAk,xAj,AV.cells,AV.isCell,xAb,xAf,xAg,W2,xAd,xAe,xAh,Nat.reduceAdd,Nat.reduceSub,Nat.reduceLeDiff,Nat.reduceMul,Int.reduceAdd,Int.reduceSub,Int.reduceMul,Int.reduceLT,Int.reduceLE,Int.reduceEq,Int.reduceToNat,Int.reduceNeg,Nat.reduceEqDiff,Nat.reduceBEq,Nat.reduceLT,xJq,xJs,hlt,c,ih']
    · refine ⟨i,?_⟩
      have c' : ((a.getD i 0 : Int) = (b.getD i 0 : Int)) = False := eq_false c
      rw [if_neg (fun h => c (hd.1 h).1),xTo]
      simp (maxSteps := 30000000) (disch := first | assumption | omega | (simp only [WL,AV.isCell] <;> omega) | rfl | decide) only [↓reduceIte,WB,xAC,xAc,xAB,xAk,xAj,AV.cells,AV.isCell,xAb,xAf,xAg,W2,xAd,xAe,xAh,Nat.reduceAdd,Nat.reduceSub,Nat.reduceLeDiff,Nat.reduceMul,Int.reduceAdd,Int.reduceSub,Int.reduceMul,Int.reduceLT,Int.reduceLE,Int.reduceEq,Int.reduceToNat,Int.reduceNeg,Nat.reduceEqDiff,Nat.reduceBEq,Nat.reduceLT,xJq,xJs,hlt,c']
theorem yDO {z1 z2 : Bool} {a b : List Int} (hm : a.length < 9223372036854775807) : L.pcall 24 [.sl z1 a.length (xCj a),.sl z2 b.length (xCj b)] = some (.bool (decide (a = b))) := by
  by_cases hl : a.length = b.length
  · obtain ⟨j,h⟩ := yCO (z1 := z1) (z2 := z2) (H := []) hl hm a.length 0 (by omega)
    simp only [Int.natCast_zero,List.drop_zero] at h
    rw [yDa,a24,xAr]
    by_cases c : a = b
    · rw [if_pos c] at h
      rw [decide_eq_true c]
      rw [← hl] at h ⊢
      simp (maxSteps := 30000000) (disch := first | assumption | omega | (simp only [WL,AV.isCell] <;> omega) | rfl | decide) only [↓reduceIte,WB,xAC,xAc,xAB,xAk,xAj,AV.cells,AV.isCell,xAb,xAf,xAg,W2,xAd,xAe,xAh,Nat.reduceAdd,Nat.reduceSub,Nat.reduceLeDiff,Nat.reduceMul,Int.reduceAdd,Int.reduceSub,Int.reduceMul,Int.reduceLT,Int.reduceLE,Int.reduceEq,Int.reduceToNat,Int.reduceNeg,Nat.reduceEqDiff,Nat.reduceBEq,Nat.reduceLT,xJs,h]
    · rw [if_neg c] at h
      rw [decide_eq_false c]
      rw [← hl] at h ⊢
      simp (maxSteps := 30000000) (disch := first | assumption | omega | (simp only [WL,AV.isCell] <;> omega) | rfl | decide) only [↓reduceIte,WB,xAC,xAc,xAB,xAk,xAj,AV.cells,AV.isCell,xAb,xAf,xAg,W2,xAd,xAe,xAh,Nat.reduceAdd,Nat.reduceSub,Nat.reduceLeDiff,Nat.reduceMul,Int.reduceAdd,Int.reduceSub,Int.reduceMul,Int.reduceLT,Int.reduceLE,Int.reduceEq,Int.reduceToNat,Int.reduceNeg,Nat.reduceEqDiff,Nat.reduceBEq,Nat.reduceLT,xJs,h]
  · have hl' : (((a.length : Nat) : Int) = ((b.length : Nat) : Int)) = False := eq_false (by omega)
    rw [decide_eq_false (fun e => hl (by rw [e])),yDa,a24,xAr]
    simp (maxSteps := 30000000) (disch := first | assumption | omega | (simp only [WL,AV.isCell] <;> omega) | rfl | decide) only [↓reduceIte,WB,xAC,xAc,xAB,xAk,xAj,AV.cells,AV.isCell,xAb,xAf,xAg,W2,xAd,xAe,xAh,Nat.reduceAdd,Nat.reduceSub,Nat.reduceLeDiff,Nat.reduceMul,Int.reduceAdd,Int.reduceSub,Int.reduceMul,Int.reduceLT,Int.reduceLE,Int.reduceEq,Int.reduceToNat,Int.reduceNeg,Nat.reduceEqDiff,Nat.reduceBEq,Nat.reduceLT,hl']
def eqE (v : Int) : AV := .tup [.sl true 0 [],.bool false,.int .i64 v]
theorem xSu {a b : Mf} (hS : Sm a) (hT : Sm b) (h : xPf a = 0) (h2 : xPf b ≠ 0) : L.pcall 37 [a.av,b.av] = some (eqE (xPf b)) := by
  have hc := xLN hS
  have hd := xLN hT
  unfold eqE
  rw [h] at hc
  generalize xPf b = e at *
  unfold Mf.av at hc hd ⊢
  unfold Mf.cells at hc hd ⊢
  rw [yA4,a37,xAr]
  simp (maxSteps := 30000000) (disch := first | assumption | omega | (simp only [WL,AV.isCell,xAl] <;> omega) | rfl | decide) only [↓reduceIte,WB,xAC,xAc,xAB,xAk,xAj,AV.cells,AV.isCell,xAb,xAf,xAg,WP,xAt,xAm,xA0,xAZ,xAX,xAq,xAv,xAu,W2,xAd,xAe,xAh,Nat.reduceAdd,Nat.reduceSub,Nat.reduceLeDiff,Nat.reduceMul,Int.reduceAdd,Int.reduceSub,Int.reduceMul,Int.reduceLT,Int.reduceLE,Int.reduceEq,Int.reduceToNat,Int.reduceNeg,Nat.reduceEqDiff,Nat.reduceBEq,Nat.reduceLT,xMI,xHs,xMH,hc,hd,h2]
theorem xSv {A B : Ma} (hA : Vm A) (hB : Vm B) (h : ¬ (A.i = B.i ∧ A.o = B.o)) : L.pcall 37 [A.av,B.av] = some (eqE 7) := by
  have hc := xCd hA
  have hd := xCd hB
  unfold eqE
  unfold Ma.av Ma.cells at hc hd ⊢
  by_cases c : A.i = B.i
  · have c1 : (((A.i : Nat) : Int) = (B.i : Nat)) ↔ True := iff_true_intro (by omega)
    have c2 : ¬ (((A.o : Nat) : Int) = (B.o : Nat)) := fun e => h ⟨c,by omega⟩
    rw [yA4,a37,xAr]
    simp (maxSteps := 30000000) (disch := first | assumption | omega | (simp only [WL,AV.isCell,xAl] <;> omega) | rfl | decide) only [↓reduceIte,WB,xAC,xAc,xAB,xAk,xAj,AV.cells,AV.isCell,xAb,xAf,xAg,WP,xAt,xAm,xA0,xAZ,xAX,xAq,xAv,xAu,W2,xAd,xAe,xAh,Nat.reduceAdd,Nat.reduceSub,Nat.reduceLeDiff,Nat.reduceMul,Int.reduceAdd,Int.reduceSub,Int.reduceMul,Int.reduceLT,Int.reduceLE,Int.reduceEq,Int.reduceToNat,Int.reduceNeg,Nat.reduceEqDiff,Nat.reduceBEq,Nat.reduceLT,xMI,xHs,xMH,hc,hd,c1,c2]
  · have c1 : ¬ (((A.i : Nat) : Int) = (B.i : Nat)) := by omega
    rw [yA4,a37,xAr]
    simp (maxSteps := 30000000) (disch := first | assumption | omega | (simp only [WL,AV.isCell,xAl] <;> omega) | rfl | decide) only [↓reduceIte,WB,xAC,xAc,xAB,xAk,xAj,AV.cells,AV.isCell,xAb,xAf,xAg,WP,xAt,xAm,xA0,xAZ,xAX,xAq,xAv,xAu,W2,xAd,xAe,xAh,Nat.reduceAdd,Nat.reduceSub,Nat.reduceLeDiff,Nat.reduceMul,Int.reduceAdd,Int.reduceSub,Int.reduceMul,Int.reduceLT,Int.reduceLE,Int.reduceEq,Int.reduceToNat,Int.reduceNeg,Nat.reduceEqDiff,Nat.reduceBEq,Nat.reduceLT,xMI,xHs,xMH,hc,hd,c1]
section
variable {A B : Ma}
theorem xO9 (hA : Vm A) (hB : Vm B) (hAB : A.i = B.i) {u : List Nat} {c : Nat × Nat} (c1 : c.1 < A.next.length) (c2 : c.2 < B.next.length) : ∀ (l : List Nat) (S : Bs),(∀ i ∈ l,i < two A.i) → PV A B S → PV A B (xII A B u c l S).2
  | [],S,_,hp => hp
  | i :: r,S,hl,hp => by
    have hi := hl i (by simp)
    have hr : ∀ j ∈ r,j < two A.i := fun j hj => hl j (by simp [hj])
    rw [xII]
    split
    · exact hp
    · split
      · exact xO9 hA hB hAB c1 c2 r S hr hp
      · refine xO9 hA hB hAB c1 c2 r _ hr ?_
        intro x hx
        rcases List.mem_append.mp hx with hx | hx
        · exact hp x hx
        · rw [List.mem_singleton] at hx
          subst hx
          exact ⟨hA.nx c1 hi,hB.nx c2 (by rw [← hAB]; exact hi)⟩
theorem xKO (hA : Vm A) (hB : Vm B) (hAB : A.i = B.i) : ∀ (e k : Nat) (S : Bs),BI A B S k 0 → k ≤ S.1.length → PV A B S → A.next.length * B.next.length < e + k → xIQ A B e k S = none → ∃ S',BI A B S' S'.1.length 0
  | 0,k,S,h,hk,hp,he,_ => by
    have := h.len_le hp
    omega
  | e + 1,k,S,h,hk,hp,he,hn => by
    rw [xIQ] at hn
    split at hn
    · rename_i hk'
      have hb := xIC A B k (two A.i) 0 S (by omega) hk' h
      rw [← List.range_eq_range'] at hb
      have hv := xO9 hA hB hAB (u := S.2.getD k []) (hp.at hk').1 (hp.at hk').2 (List.range (two A.i)) S (fun i hi => List.mem_range.1 hi) hp
      generalize xII A B (S.2.getD k []) (S.1.getD k (0,0)) (List.range (two A.i)) S = r at hb hn hv
      obtain ⟨r1,r2⟩ := r
      cases r1 with
      | some v' => simp at hn
      | none =>
        have := hb.2 r2 rfl
        exact xKO hA hB hAB e (k + 1) r2 this.1.next this.2 hv (by omega) hn
    · have : k = S.1.length := by omega
      subst this
      exact ⟨S,h⟩
theorem xVp {v : List Nat} (h : xY3 A B = some v) : xXF A B v := xRB A B _ 0 _ (BI.start A B) (by simp) v h
theorem xVq (hA : Vm A) (hB : Vm B) (hAB : A.i = B.i) (h : xY3 A B = none) (t : List Nat) (y : Nat) (hl : ∀ x ∈ t ++ [y],x < two A.i) : ¬ xIR A B t y := by
  obtain ⟨S',h'⟩ := xKO hA hB hAB _ 0 _ (BI.start A B) (by simp) (xRf hA hB) (by omega) h
  exact h'.none t y hl
theorem xFN (A B : Ma) (x : Nat) : ∀ (u : List Nat) (c : Nat × Nat),xCM A c.1 (u ++ [x]) = xCM A c.1 u ++ [em A (xDc A B c u).1 x]
  | [],c => rfl
  | y :: t,c => by
    have := xFN A B x t (nx A c.1 y,nx B c.2 y)
    simp only [List.cons_append,xCM,xDc,this]
theorem xFO (A B : Ma) (x : Nat) : ∀ (u : List Nat) (c : Nat × Nat),xCM B c.2 (u ++ [x]) = xCM B c.2 u ++ [em B (xDc A B c u).2 x]
  | [],c => rfl
  | y :: t,c => by
    have := xFO A B x t (nx A c.1 y,nx B c.2 y)
    simp only [List.cons_append,xCM,xDc,this]
theorem xLI (A B : Ma) : ∀ (n : Nat) (w : List Nat),w.length = n → (∀ t y r,w = t ++ [y] ++ r → ¬ xIR A B t y) → xCM A A.s w = xCM B B.s w
  | 0,w,hw,_ => by
    obtain rfl := List.eq_nil_of_length_eq_zero hw
    rfl
  | n + 1,w,hw,h => by
    rcases List.eq_nil_or_concat w with rfl | ⟨u,x,rfl⟩
    · rfl
    rw [List.concat_eq_append] at *
    have ih := xLI A B n u (by simpa using hw) (fun t y r e => h t y (r ++ [x]) (by rw [e]; simp))
    have ht := h u x [] (by simp)
    unfold xIR at ht
    rw [Decidable.not_not] at ht
    have e1 := xFN A B x u (A.s,B.s)
    have e2 := xFO A B x u (A.s,B.s)
    rw [e1,e2,ht,ih]
theorem xVr {v : List Nat} (h : xXF A B v) : ∃ (u : List Nat) (x a b : Nat),v = u ++ [x] ∧ xCM A A.s v = xCM A A.s u ++ [a] ∧ xCM B B.s v = xCM A A.s u ++ [b] ∧ a ≠ b := by
  obtain ⟨u,x,rfl,l,t,m⟩ := h
  have hu : xCM A A.s u = xCM B B.s u := by
    refine xLI A B u.length u rfl ?_
    intro t y r e ht
    have := m t y (fun z hz => l z (by rw [e]; simp only [List.append_assoc,List.mem_append] at hz ⊢; rcases hz with hz | hz <;> simp [hz])) ht
    unfold xK0 at this
    have el : u.length = t.length + 1 + r.length := by rw [e]; simp; omega
    simp only [List.length_append,List.length_cons,List.length_nil] at this
    omega
  refine ⟨u,x,_,_,rfl,xFN A B x u (A.s,B.s),?_,t⟩
  rw [hu]
  exact xFO A B x u (A.s,B.s)
theorem xXw (hA : Vm A) (hB : Vm B) (hAB : A.i = B.i) (h : xY3 A B = none) {w : List Nat} (hw : ∀ z ∈ w,z < two A.i) : xCM A A.s w = xCM B B.s w := by
  refine xLI A B w.length w rfl ?_
  intro t y r e
  exact xVq hA hB hAB h t y (fun z hz => hw z (by rw [e]; exact List.mem_append_left _ hz))
end
end Go.Abs.Mealy
