/- Results of the caller's own overwritten: any contents. Equal sets,equal trees. -/
import Derived.Test.YtijmhicopfphnaaDoorAbsBun
import Derived.Test.YtijmhicopfphnaaDoorAMA
import Derived.Test.YtijmhicopfphnaaDoorAMC
import Derived.Test.YtijmhicopfphnaaDoorAMM
import Derived.Test.YtijmhicopfphnaaDoorAMB
import Derived.Test.YtijmhicopfphnaaDoorAK1
namespace Go.Abs.Tree
open Go Go.Abs
set_option linter.unusedSimpArgs false
set_option linter.unusedVariables false
theorem xMy {l : List Lf} {z z' : Bool} {s4 : AV} {H : Heap} (hl : l.length < 1099511627776) : ∀ d i,i + d = l.length →
  L.loop xRi xZ2 ⟨xRj (.sl z l.length (lfs l)) (.sl z' l.length (lfs l)) s4 (.int .i64 (i : Nat)),H⟩ = some (.exit 0,⟨xRj (.sl z l.length (lfs l)) (.sl z' l.length (lfs l)) s4 (.int .i64 (l.length : Nat)),H⟩)
 | 0,i,h => by
  obtain rfl : i = l.length := by omega
  rw [yBx]
  simp (maxSteps := 30000000) (disch := first | assumption | omega | (simp only [WL,AV.isCell,xAb,xAa] <;> omega) | rfl | decide) only [xT9,WB,↓reduceIte,xXe]
 | d + 1,i,h => by
  have hlt : (i : Int) < (l.length : Nat) := by omega
  have ih := xMy (z := z) (z' := z') (s4 := s4) (H := H) hl d (i + 1) (by omega)
  rw [yBx]
  simp (maxSteps := 30000000) (disch := first | assumption | omega | (simp only [WL,AV.isCell,xAb,xAa] <;> omega) | rfl | decide) only [xT9,WB,hlt,↓reduceIte,xHy,xAm,xHC,eq1,bne_self_eq_false,xXe,ih]
theorem yBa (z z' : Bool) (l : List Lf) (hl : l.length < 1099511627776) : L.pcall 26 [.sl z l.length (lfs l),.sl z' l.length (lfs l)] = some (.bool true) := by
 have ih := fun s4 => xMy (z := z) (z' := z') (s4 := s4) (H := []) hl l.length 0 (by omega)
 simp only [Int.natCast_zero] at ih
 rw [yHV,a26,xAd]
 simp (disch := omega) only [WB,Nat.reduceAdd,Nat.reduceSub,↓reduceIte,xXe,ih]
theorem xLM {l : List Nat} {z z' : Bool} {s4 : AV} {H : Heap} (hl : l.length < 1099511627776) : ∀ d i,i + d = l.length →
  L.loop xRg xZ1 ⟨xRh (sw z l) (sw z' l) s4 (.int .i64 (i : Nat)),H⟩ = some (.exit 0,⟨xRh (sw z l) (sw z' l) s4 (.int .i64 (l.length : Nat)),H⟩)
 | 0,i,h => by
  obtain rfl : i = l.length := by omega
  rw [yBw]
  simp (maxSteps := 30000000) (disch := first | assumption | omega | (simp only [WL,AV.isCell,xAb,xAa] <;> omega) | rfl | decide) only [xT8,WB,↓reduceIte,xXd]
 | d + 1,i,h => by
  have hlt : (i : Int) < (l.length : Nat) := by omega
  have ih := xLM (z := z) (z' := z') (s4 := s4) (H := H) hl d (i + 1) (by omega)
  rw [yBw]
  simp (maxSteps := 30000000) (disch := first | assumption | omega | (simp only [WL,AV.isCell,xAb,xAa] <;> omega) | rfl | decide) only [xT8,WB,hlt,↓reduceIte,xEW,xDy,xGk,xAm,xXd,ih]
theorem xSN (z z' : Bool) (l : List Nat) (hl : l.length < 1099511627776) : L.pcall 24 [sw z l,sw z' l] = some (.bool true) := by
 have h := fun s4 => xLM (z := z) (z' := z') (s4 := s4) (H := []) hl l.length 0 (by omega)
 simp only [Int.natCast_zero] at h
 rw [yHT,a24,xAd]
 simp (disch := omega) only [WB,Nat.reduceAdd,Nat.reduceSub,↓reduceIte,xXd,h]
def kOf : AV → Option Nat
 | .own _ k _ _ _ => some k
 | _ => none
structure Kept (v : AV) (G G' : Heap) : Prop where
 len : G'.length = G.length
 same : ∀ j : Nat,kOf v ≠ some j → G'[j]? = G[j]?
 lens : ∀ (j : Nat) (cs : List AV),G[j]? = some (.cells false false cs) → ∃ cs' : List AV,G'[j]? = some (.cells false false cs') ∧ cs'.length = cs.length
theorem Kept.refl (v : AV) (G : Heap) : Kept v G G := ⟨rfl,fun _ _ => rfl,fun _ cs h => ⟨cs,h,rfl⟩⟩
theorem xQq {G : Heap} {z : Bool} {k o n w : Nat} {B B' : List AV} (h : G[k]? = some (.cells false false B)) (hl : B'.length = B.length) : Kept (.own z k o n w) G (G.set k (.cells false false B')) where
 len := List.length_set
 same j hj := List.getElem?_set_ne fun e => hj (by rw [← e]; rfl)
 lens j cs hc := by
  by_cases e : k = j
  ·subst e
   rw [h] at hc
   cases hc
   exact ⟨B',by rw [List.getElem?_set_self (List.getElem?_eq_some_iff.1 h).1],hl⟩
  ·exact ⟨cs,by rw [List.getElem?_set_ne e]; exact hc,rfl⟩
def OwI (lo hi : Nat) (G : Heap) (v : AV) (w n : Nat) : Prop := (v = .sl true 0 [] ∧ n = 0) ∨ ∃ k cs,lo ≤ k ∧ k < hi ∧ v = .own false k 0 n w ∧ G[k]? = some (.cells false false cs) ∧ n * w ≤ cs.length
theorem OwI.kept {lo hi : Nat} {G G' : Heap} {v u : AV} {w n : Nat} (h : OwI lo hi G v w n) (hk : Kept u G G') : OwI lo hi G' v w n := by
 rcases h with h | ⟨k,cs,h1,h0,h2,h3,h4⟩
 ·exact .inl h
 ·obtain ⟨cs',h5,h6⟩ := hk.lens k cs h3
  exact .inr ⟨k,cs',h1,h0,h2,h5,by omega⟩
theorem OwI.app {lo hi : Nat} {G : Heap} {v : AV} {w n : Nat} (h : OwI lo hi G v w n) (X : Heap) : OwI lo hi (G ++ X) v w n := by
 rcases h with h | ⟨k,cs,h1,h0,h2,h3,h4⟩
 ·exact .inl h
 ·exact .inr ⟨k,cs,h1,h0,h2,xAu h3,h4⟩
theorem OwI.kof {lo hi : Nat} {G : Heap} {v : AV} {w n j : Nat} (h : OwI lo hi G v w n) (hj : kOf v = some j) : lo ≤ j ∧ j < hi := by
 rcases h with ⟨rfl,_⟩ | ⟨k,cs,h1,h0,rfl,h3,h4⟩
 ·cases hj
 ·cases hj
  exact ⟨h1,h0⟩
theorem xYO {k n : Nat} (hn : n < 1099511627776) : ∀ d i B (G : Heap),i + d = n → n ≤ B.length → G[k]? = some (.cells false false B) →
  ∃ B' : List AV,B'.length = B.length ∧ L.loop xRl xZ3 ⟨xRm (.own false k 0 n 1) (.int .i64 (i : Nat)),G⟩ = some (.exit 0,⟨xRm (.own false k 0 n 1) (.int .i64 (n : Nat)),G.set k (.cells false false B')⟩)
 | 0,i,B,G,h,hB,hk => by
  obtain rfl : i = n := by omega
  refine ⟨B,rfl,?_⟩
  rw [xHU hk,xXf]
  simp (maxSteps := 30000000) (disch := first | assumption | omega | (simp only [WL,AV.isCell,xAb,xAa] <;> omega) | rfl | decide) only [xRk,WB,↓reduceIte,xUa]
 | d + 1,i,B,G,h,hB,hk => by
  have hlt : (i : Int) < (n : Nat) := by omega
  have hkl := (List.getElem?_eq_some_iff.1 hk).1
  have hl : (B.take i ++ .int .u64 77 :: B.drop (i + 1)).length = B.length := by simp only [List.length_append,List.length_take,List.length_cons,List.length_drop]; omega
  obtain ⟨B',h1,ih⟩ := xYO (k := k) hn d (i + 1) (B.take i ++ .int .u64 77 :: B.drop (i + 1)) (G.set k (.cells false false (B.take i ++ .int .u64 77 :: B.drop (i + 1)))) (by omega) (by omega) (by simp [hkl])
  rw [List.set_set] at ih
  refine ⟨B',by omega,?_⟩
  rw [xXf]
  simp (maxSteps := 30000000) (disch := first | assumption | omega | (simp only [WL,AV.isCell,xAb,xAa] <;> omega) | rfl | decide) only [xRk,WB,hlt,↓reduceIte,AV.cells,hk,xUa,ih]
theorem xYP {k n : Nat} (hn : n < 1099511627776) : ∀ d i B (G : Heap),i + d = n → n ≤ B.length → G[k]? = some (.cells false false B) →
  ∃ B' : List AV,B'.length = B.length ∧ L.loop xN8 xVK ⟨xMi (.own false k 0 n 1) (.int .i64 (i : Nat)),G⟩ = some (.exit 0,⟨xMi (.own false k 0 n 1) (.int .i64 (n : Nat)),G.set k (.cells false false B')⟩)
 | 0,i,B,G,h,hB,hk => by
  obtain rfl : i = n := by omega
  refine ⟨B,rfl,?_⟩
  rw [xHU hk,xPi]
  simp (maxSteps := 30000000) (disch := first | assumption | omega | (simp only [WL,AV.isCell,xAb,xAa] <;> omega) | rfl | decide) only [xNa,Int.reduceNeg,WB,↓reduceIte,xMj]
 | d + 1,i,B,G,h,hB,hk => by
  have hlt : (i : Int) < (n : Nat) := by omega
  have hkl := (List.getElem?_eq_some_iff.1 hk).1
  have hl : (B.take i ++ .int .i64 (-77) :: B.drop (i + 1)).length = B.length := by simp only [List.length_append,List.length_take,List.length_cons,List.length_drop]; omega
  obtain ⟨B',h1,ih⟩ := xYP (k := k) hn d (i + 1) (B.take i ++ .int .i64 (-77) :: B.drop (i + 1)) (G.set k (.cells false false (B.take i ++ .int .i64 (-77) :: B.drop (i + 1)))) (by omega) (by omega) (by simp [hkl])
  rw [List.set_set] at ih
  refine ⟨B',by omega,?_⟩
  rw [xPi]
  simp (maxSteps := 30000000) (disch := first | assumption | omega | (simp only [WL,AV.isCell,xAb,xAa] <;> omega) | rfl | decide) only [xNa,Int.reduceNeg,WB,hlt,↓reduceIte,AV.cells,hk,xMj,ih]
theorem xYQ {k n : Nat} (hn : n < 1099511627776) : ∀ d i B (G : Heap),i + d = n → n * 5 ≤ B.length → G[k]? = some (.cells false false B) →
  ∃ B' : List AV,B'.length = B.length ∧ L.loop xN9 xVL ⟨xMk (.own false k 0 n 5) (.int .i64 (i : Nat)),G⟩ = some (.exit 0,⟨xMk (.own false k 0 n 5) (.int .i64 (n : Nat)),G.set k (.cells false false B')⟩)
 | 0,i,B,G,h,hB,hk => by
  obtain rfl : i = n := by omega
  refine ⟨B,rfl,?_⟩
  rw [xHU hk,xPj]
  simp (disch := first | assumption | omega | rfl | decide) only [xNb,Int.reduceNeg,WB,↓reduceIte,xMl]
 | d + 1,i,B,G,h,hB,hk => by
  have hlt : (i : Int) < (n : Nat) := by omega
  have hkl := (List.getElem?_eq_some_iff.1 hk).1
  have hle : i * 5 + 5 ≤ B.length := by omega
  have hl : (B.take (i * 5) ++ (([.int .i64 0,.int .i64 0,.int .i64 (-7),.int .u8 0,.int .u8 0] : List AV) ++ B.drop (i * 5 + 5))).length = B.length := by simp only [List.length_append,List.length_take,List.length_cons,List.length_drop,List.length_nil]; omega
  obtain ⟨B',h1,ih⟩ := xYQ (k := k) hn d (i + 1) (B.take (i * 5) ++ (([.int .i64 0,.int .i64 0,.int .i64 (-7),.int .u8 0,.int .u8 0] : List AV) ++ B.drop (i * 5 + 5))) (G.set k (.cells false false (B.take (i * 5) ++ (([.int .i64 0,.int .i64 0,.int .i64 (-7),.int .u8 0,.int .u8 0] : List AV) ++ B.drop (i * 5 + 5))))) (by omega) (by omega) (by simp [hkl])
  rw [List.set_set] at ih
  simp only [List.cons_append,List.nil_append] at ih
  refine ⟨B',by omega,?_⟩
  rw [xPj]
  simp (disch := first | assumption | omega | rfl | decide) only [xNb,Int.reduceNeg,WB,hlt,↓reduceIte,AV.cells,Nat.reduceAdd,Nat.reduceLeDiff,AV.isCell,hk,xMl,ih]
theorem xYR {lo hi n : Nat} {G : Heap} {v : AV} (h : OwI lo hi G v 1 n) (hn : n < 1000000) : ∃ G',L.icall (.func 27 []) [v] G = some (.tup [],G') ∧ Kept v G G' := by
 rcases h with ⟨rfl,_⟩ | ⟨k,cs,h1,h0,rfl,h3,h4⟩
 ·refine ⟨G,?_,Kept.refl _ _⟩
  rw [yGR,a27,xAp]
  simp (disch := omega) only [WB,Nat.reduceSub,xUa,xXf,xRk,↓reduceIte]
 ·obtain ⟨B',h5,h6⟩ := xYO (k := k) (n := n) (by omega) n 0 cs G (by omega) (by omega) h3
  simp only [Int.natCast_zero] at h6
  refine ⟨_,?_,xQq h3 h5⟩
  rw [yGR,a27,xAp]
  simp (disch := omega) only [WB,Nat.reduceSub,xUa,h6,↓reduceIte]
theorem xYS {lo hi n : Nat} {G : Heap} {v : AV} (h : OwI lo hi G v 1 n) (hn : n < 1000000) : ∃ G',L.icall (.func 62 []) [v] G = some (.tup [],G') ∧ Kept v G G' := by
 rcases h with ⟨rfl,_⟩ | ⟨k,cs,h1,h0,rfl,h3,h4⟩
 ·refine ⟨G,?_,Kept.refl _ _⟩
  rw [yFS,a62,xAp]
  simp (disch := omega) only [WB,Nat.reduceSub,xMj,xPi,xNa,Int.reduceNeg,↓reduceIte]
 ·obtain ⟨B',h5,h6⟩ := xYP (k := k) (n := n) (by omega) n 0 cs G (by omega) (by omega) h3
  simp only [Int.natCast_zero] at h6
  refine ⟨_,?_,xQq h3 h5⟩
  rw [yFS,a62,xAp]
  simp (disch := omega) only [WB,Nat.reduceSub,xMj,h6,↓reduceIte]
theorem yD3 {lo hi n : Nat} {G : Heap} {v : AV} (h : OwI lo hi G v 5 n) (hn : n < 1000000) : ∃ G',L.icall (.func 63 []) [v] G = some (.tup [],G') ∧ Kept v G G' := by
 rcases h with ⟨rfl,_⟩ | ⟨k,cs,h1,h0,rfl,h3,h4⟩
 ·refine ⟨G,?_,Kept.refl _ _⟩
  rw [yFT,a63,xAp]
  simp (disch := omega) only [WB,Nat.reduceSub,xMl,xPj,xNb,Int.reduceNeg,↓reduceIte]
 ·obtain ⟨B',h5,h6⟩ := xYQ (k := k) (n := n) (by omega) n 0 cs G (by omega) (by omega) h3
  simp only [Int.natCast_zero] at h6
  refine ⟨_,?_,xQq h3 h5⟩
  rw [yFT,a63,xAp]
  simp (disch := omega) only [WB,Nat.reduceSub,xMl,h6,↓reduceIte]
structure Stay (lo hi : Nat) (G G' : Heap) : Prop where
 len : G.length ≤ G'.length
 same : ∀ j : Nat,j < G.length → (j < lo ∨ hi ≤ j) → G'[j]? = G[j]?
 lens : ∀ (j : Nat) (cs : List AV),G[j]? = some (.cells false false cs) → ∃ cs' : List AV,G'[j]? = some (.cells false false cs') ∧ cs'.length = cs.length
theorem OwI.stay {lo hi : Nat} {G G' : Heap} {v : AV} {w n : Nat} (h : OwI lo hi G v w n) {lo' hi' : Nat} (hk : Stay lo' hi' G G') : OwI lo hi G' v w n := by
 rcases h with h | ⟨k,cs,h1,h0,h2,h3,h4⟩
 ·exact .inl h
 ·obtain ⟨cs',h5,h6⟩ := hk.lens k cs h3
  exact .inr ⟨k,cs',h1,h0,h2,h5,by omega⟩
theorem Kept.stay {lo hi n w : Nat} {G G' : Heap} {v : AV} (h : Kept v G G') (hv : OwI lo hi G v w n) : Stay lo hi G G' where
 len := by rw [h.len]; exact Nat.le_refl _
 same j _ hj := h.same j fun e => by have := hv.kof e; omega
 lens := h.lens
theorem OwI.cell {lo hi : Nat} {G : Heap} {v : AV} {w n : Nat} (h : OwI lo hi G v w n) : v.isCell = true := by
 rcases h with ⟨rfl,_⟩ | ⟨k,_,_,_,rfl,_⟩ <;> rfl
theorem Stay.get {lo hi j : Nat} {G G' : Heap} {x : Blk} (h : Stay lo hi G G') (hj : j < lo ∨ hi ≤ j) (hg : G[j]? = some x) : G'[j]? = some x := (h.same j (List.getElem?_eq_some_iff.1 hg).1 hj).trans hg
set_option maxHeartbeats 4000000 in
theorem yD4 {lo hi n1 n2 n3 : Nat} {G : Heap} {x y f1 f2 f3 : AV} (hx : x.isCell = true) (hy : y.isCell = true) (h1 : OwI lo hi G f1 1 n1) (h2 : OwI lo hi G f2 1 n2) (h3 : OwI lo hi G f3 5 n3) (l1 : n1 < 1000000) (l2 : n2 < 1000000) (l3 : n3 < 1000000) (hb : hi ≤ G.length) :
  ∃ G',L.icall (.func 28 []) [.agg [x,y,f1,f2,f3]] G = some (.tup [],G') ∧ Stay lo hi G G' := by
 have hcell : [x,y,f1,f2,f3].all AV.isCell = true := by
  simp only [List.all_cons,List.all_nil,hx,hy,h1.cell,h2.cell,h3.cell]; rfl
 have p0 : (G ++ [Blk.cells false false [x,y,f1,f2,f3]])[G.length]? = some (.cells false false [x,y,f1,f2,f3]) := List.getElem?_concat_length
 have q1 := h1.app [Blk.cells false false [x,y,f1,f2,f3]]
 have q2 := h2.app [Blk.cells false false [x,y,f1,f2,f3]]
 have q3 := h3.app [Blk.cells false false [x,y,f1,f2,f3]]
 obtain ⟨G1,e1,k1⟩ := xYS q1 l1
 have s1 := k1.stay q1
 have p1 := s1.get (.inr hb) p0
 obtain ⟨G2,e2,k2⟩ := xYS (q2.kept k1) l2
 have s2 := k2.stay (q2.kept k1)
 have p2 := s2.get (.inr hb) p1
 obtain ⟨G3,e3,k3⟩ := yD3 ((q3.kept k1).kept k2) l3
 have s3 := k3.stay ((q3.kept k1).kept k2)
 have hst : Stay lo hi G G3 := by
  have hl1 := k1.len
  have hl2 := k2.len
  have hl3 := k3.len
  simp only [List.length_append,List.length_cons,List.length_nil] at hl1
  refine ⟨by omega,fun j hj hlo => ?_,fun j cs hj => ?_⟩
  ·rw [s3.same j (by omega) hlo,s2.same j (by omega) hlo,s1.same j (by simp; omega) hlo,List.getElem?_append_left hj]
  ·obtain ⟨c1,g1,m1⟩ := k1.lens j cs (xAu hj)
   obtain ⟨c2,g2,m2⟩ := k2.lens j c1 g1
   obtain ⟨c3,g3,m3⟩ := k3.lens j c2 g2
   exact ⟨c3,g3,by omega⟩
 refine ⟨G3,?_,hst⟩
 rw [yGf,a28,xAp]
 simp (maxSteps := 30000000) (disch := first | assumption | omega | (simp only [WL,AV.isCell,xAb,xAa] <;> omega) | rfl | decide) only [WB,Nat.reduceSub,AV.cells,hcell,↓reduceIte,p0,e1,p1,e2,p2,e3]
set_option maxRecDepth 20000 in
set_option maxHeartbeats 8000000 in
theorem xV5 {m0 m1 n0 n1 : Int} {zm1 zm2 zm3 zn1 zn2 zn3 : Bool} {nm1 nm2 nm3 nn1 nn2 nn3 : Nat} {cm1 cm2 cm3 cn1 cn2 cn3 : List AV} {zt z1 : Bool} {t tr : List Lf}
  {G B1 B2 B3 Bl3 G1 G2 G3 G4 G5 G6 G7 G8 : Heap} {zq zp zc1 zc2 zc3 : Bool} {nq np nc1 nc2 nc3 : Nat} {kq kp kc1 kc2 kc3 : List AV}
  {u1 w1 k1 u2 w2 k2 t1 t2 t3 y1 y2 y3 a1 a2 a3 : AV} {e f g r c0 c1 : Int} {bb : Bool}
  (htr : List.take (tr.length * 3) (lfs t) = lfs tr) (htm : min ((t.length : Nat) : Int) 40 = (tr.length : Nat)) (htt : tr.length ≤ t.length)
  (hr : r < 2) (hr0 : 0 ≤ r)
  (h12 : L.pcall 12 [.agg [.int .i64 n0,.int .i64 n1,.sl zn1 nn1 cn1,.sl zn2 nn2 cn2,.sl zn3 nn3 cn3]] = some (.agg [.int .i64 m0,.int .i64 m1,.sl zm1 nm1 cm1,.sl zm2 nm2 cm2,.sl zm3 nm3 cm3]))
  (h16 : xCG L 16 [.agg [.int .i64 m0,.int .i64 m1,.sl zm1 nm1 cm1,.sl zm2 nm2 cm2,.sl zm3 nm3 cm3],(.sl z1 tr.length (lfs tr))] = some (.tup [u1,.int .i64 e],B1)) (h17 : L.pcall 17 [.agg [.int .i64 m0,.int .i64 m1,.sl zm1 nm1 cm1,.sl zm2 nm2 cm2,.sl zm3 nm3 cm3],(.sl z1 tr.length (lfs tr))] = some (.tup [.sl zq nq kq,.int .i64 e]))
  (h18 : L.pcall 18 [.agg [.int .i64 m0,.int .i64 m1,.sl zm1 nm1 cm1,.sl zm2 nm2 cm2,.sl zm3 nm3 cm3],(.sl z1 tr.length (lfs tr))] = some (.tup [.bool bb,.int .i64 e])) (h19 : L.pcall 19 [.agg [.int .i64 m0,.int .i64 m1,.sl zm1 nm1 cm1,.sl zm2 nm2 cm2,.sl zm3 nm3 cm3],(.sl z1 tr.length (lfs tr))] = some (.tup [.bool bb,.int .i64 e]))
  (h20 : xCG L 20 [.agg [.int .i64 m0,.int .i64 m1,.sl zm1 nm1 cm1,.sl zm2 nm2 cm2,.sl zm3 nm3 cm3]] = some (.tup [u2,.int .i64 f],B2)) (h21 : L.pcall 21 [.agg [.int .i64 m0,.int .i64 m1,.sl zm1 nm1 cm1,.sl zm2 nm2 cm2,.sl zm3 nm3 cm3]] = some (.tup [.sl zp np kp,.int .i64 f]))
  (h22 : xJi L 22 [.agg [.int .i64 m0,.int .i64 m1,.sl zm1 nm1 cm1,.sl zm2 nm2 cm2,.sl zm3 nm3 cm3]] = some (.tup [.agg [.int .i64 c0,.int .i64 c1,t1,t2,t3],.int .i64 g],B3)) (h23 : L.pcall 23 [.agg [.int .i64 m0,.int .i64 m1,.sl zm1 nm1 cm1,.sl zm2 nm2 cm2,.sl zm3 nm3 cm3]] = some (.tup [.agg [.int .i64 c0,.int .i64 c1,.sl zc1 nc1 kc1,.sl zc2 nc2 kc2,.sl zc3 nc3 kc3],.int .i64 g]))
  (sa : L.pcall 24 [k1,.sl zq nq kq] = some (.bool true)) (sb : L.pcall 24 [k2,.sl zp np kp] = some (.bool true))
  (sc : L.pcall 25 [.agg [.int .i64 c0,.int .i64 c1,a1,a2,a3],.agg [.int .i64 c0,.int .i64 c1,.sl zc1 nc1 kc1,.sl zc2 nc2 kc2,.sl zc3 nc3 kc3]] = some (.bool true))
  (sm : L.pcall 25 [.agg [.int .i64 m0,.int .i64 m1,.sl zm1 nm1 cm1,.sl zm2 nm2 cm2,.sl zm3 nm3 cm3],.agg [.int .i64 m0,.int .i64 m1,.sl zm1 nm1 cm1,.sl zm2 nm2 cm2,.sl zm3 nm3 cm3]] = some (.bool true)) (st : L.pcall 26 [(.sl z1 tr.length (lfs tr)),.sl zt tr.length (lfs tr)] = some (.bool true))
  (g1 : xD9 G.length u1 = w1) (e1 : G ++ B1 = G1) (g2 : xD9 G1.length u2 = w2) (e2 : G1 ++ B2 = G2)
  (g3 : xCJ G2.length t1 = y1) (g4 : xCJ G2.length t2 = y2) (g5 : xCJ G2.length t3 = y3) (l3 : B3.map (xI0 G2.length) = Bl3) (e3 : G2 ++ Bl3 = G3)
  (e4 : G3 ++ [Blk.cells false false [.int .i64 c0,.int .i64 c1,y1,y2,y3]] = G4) (e5 : G4 ++ [Blk.cells false false [.int .i64 c0,.int .i64 c1,.sl zc1 nc1 kc1,.sl zc2 nc2 kc2,.sl zc3 nc3 kc3]] = G5)
  (j1 : ([AV.int .i64 c0,.int .i64 c1,y1,y2,y3]).all AV.isCell = true)
  (b0 : G[1]? = some (Blk.cells false false [.int .i64 m0,.int .i64 m1,.sl zm1 nm1 cm1,.sl zm2 nm2 cm2,.sl zm3 nm3 cm3])) (b1 : G1[1]? = some (Blk.cells false false [.int .i64 m0,.int .i64 m1,.sl zm1 nm1 cm1,.sl zm2 nm2 cm2,.sl zm3 nm3 cm3])) (b2 : G2[1]? = some (Blk.cells false false [.int .i64 m0,.int .i64 m1,.sl zm1 nm1 cm1,.sl zm2 nm2 cm2,.sl zm3 nm3 cm3])) (b4 : G4[1]? = some (Blk.cells false false [.int .i64 m0,.int .i64 m1,.sl zm1 nm1 cm1,.sl zm2 nm2 cm2,.sl zm3 nm3 cm3])) (b5 : G5[1]? = some (Blk.cells false false [.int .i64 m0,.int .i64 m1,.sl zm1 nm1 cm1,.sl zm2 nm2 cm2,.sl zm3 nm3 cm3])) (b50 : G5[0]? = some (Blk.cells false false [.int .i64 n0,.int .i64 n1,.sl zn1 nn1 cn1,.sl zn2 nn2 cn2,.sl zn3 nn3 cn3]))
  (z3 : G5[G3.length]? = some (Blk.cells false false [.int .i64 c0,.int .i64 c1,y1,y2,y3])) (z4 : G5[G4.length]? = some (Blk.cells false false [.int .i64 c0,.int .i64 c1,.sl zc1 nc1 kc1,.sl zc2 nc2 kc2,.sl zc3 nc3 kc3]))
  (f1 : frz 6 G5 w1 = some k1) (f2 : frz 6 G5 w2 = some k2) (fy1 : frz 5 G5 y1 = some a1) (fy2 : frz 5 G5 y2 = some a2) (fy3 : frz 5 G5 y3 = some a3)
  (i1 : L.icall (.func 27 []) [w1] G5 = some (.tup [],G6)) (i2 : L.icall (.func 27 []) [w2] G6 = some (.tup [],G7))
  (z7 : G7[G3.length]? = some (Blk.cells false false [.int .i64 c0,.int .i64 c1,y1,y2,y3])) (i3 : L.icall (.func 28 []) [.agg [.int .i64 c0,.int .i64 c1,y1,y2,y3]] G7 = some (.tup [],G8)) :
  L.loop xNV xZn ⟨xNW (.sl zt t.length (lfs t)) (.ptr 0 0) (.bool false) (.ptr 1 0) (.sl z1 tr.length (lfs tr)) (.int .i64 r),G⟩ = L.loop xNV xZn ⟨xNW (.sl zt t.length (lfs t)) (.ptr 0 0) (.bool false) (.ptr 1 0) (.sl z1 tr.length (lfs tr)) (.int .i64 (r + 1)),G8⟩ := by
 have hw : IntKind.i64.wrap (r + 1) = r + 1 := by have : r = 0 ∨ r = 1 := by omega
                                                  rcases this with rfl | rfl <;> rfl
 rw [yEz]
 simp (maxSteps := 30000000) (disch := first | assumption | omega | (simp only [WL,AV.isCell,xAb,xAa] <;> omega) | rfl | decide) only [xZO,WB,hr,↓reduceIte,b0,WP,h16,xZc,g1,xZe,e1,b1,h17,xE0,xAJ,h18,h19,h20,g2,e2,b2,h21,xSp,xNc,h22,xSq,xZd,xSU,g3,g4,g5,l3,e3,AV.cells,AV.isCell,Nat.reduceAdd,e4,b4,h23,e5,f1,sa,f2,sb,z3,z4,fy1,fy2,fy3,sc,b5,b50,h12,sm,xAm,htm,Nat.reduceMul,htr,st,i1,i2,z7,i3,hw,yCM]
theorem OwF.frzL {G : Heap} {v : AV} {w n : Nat} {cs : List AV} (h : OwF G v w n cs) (hf : ∀ d H,cs.mapM (frz d H) = some cs) : ∃ z,∀ d,frz (d + 1) G v = some (.sl z n cs) := by
 rcases h with ⟨rfl,rfl,rfl⟩ | ⟨k,rfl,hg,hl⟩
 ·exact ⟨true,fun d => rfl⟩
 ·refine ⟨false,fun d => ?_⟩
  simp only [frz,hg]
  rw [if_pos (by omega),List.drop_zero,List.take_of_length_le (by omega),hf]
  rfl
theorem OwF.put {H B T' : Heap} {v : AV} {w n : Nat} {cs : List AV} (h : OwF B v w n cs) (hp : Plain cs) (hf : ∀ d H,cs.mapM (frz d H) = some cs) :
  OwI H.length (H.length + B.length) (H ++ (B.map (xI0 H.length) ++ T')) (xCJ H.length v) w n ∧ ∃ z,∀ d,frz (d + 1) (H ++ (B.map (xI0 H.length) ++ T')) (xCJ H.length v) = some (.sl z n cs) := by
 have hG : ∀ (k : Nat) (x : Blk),k < B.length → (B.map (xI0 H.length))[k]? = some x → (H ++ (B.map (xI0 H.length) ++ T'))[H.length + k]? = some x := fun k x hk hx => by
  rw [List.getElem?_append_right (by omega),Nat.add_sub_cancel_left,List.getElem?_append_left (by simpa using hk)]; exact hx
 have h' := h.lift3 hp hG
 refine ⟨?_,h'.frzL hf⟩
 rcases h with ⟨rfl,h1,h2⟩ | ⟨k,rfl,hg,hl⟩
 ·exact .inl ⟨rfl,h1⟩
 ·have := (List.getElem?_eq_some_iff.1 hg).1
  rcases h' with ⟨q,_⟩ | ⟨k',q,g1,g2⟩
  ·cases q
  ·cases q
   exact .inr ⟨H.length + k,cs,by omega,by omega,rfl,g1,by omega⟩
theorem OwnS.put {H B T' : Heap} {u : AV} {r : List Nat} (h : OwnS u B r) :
  OwI H.length (H.length + B.length) (H ++ (B ++ T')) (xD9 H.length u) 1 r.length ∧ ∃ z,∀ d,frz (d + 1) (H ++ (B ++ T')) (xD9 H.length u) = some (sw z r) := by
 rcases h with ⟨rfl,rfl,rfl⟩ | ⟨x,rfl,rfl⟩
 ·exact ⟨.inl ⟨rfl,rfl⟩,true,fun d => rfl⟩
 ·have hg : (H ++ ([Blk.cells false false (w64 (r ++ x))] ++ T'))[H.length + 0]? = some (Blk.cells false false (w64 (r ++ x))) := by
   rw [List.getElem?_append_right (by omega),Nat.add_sub_cancel_left]; rfl
  have hl : (w64 (r ++ x)).length = r.length + x.length := by rw [xAh,List.length_append]
  refine ⟨.inr ⟨H.length + 0,_,by omega,by simp,rfl,hg,by omega⟩,false,fun d => ?_⟩
  show frz (d + 1) _ (.own false (H.length + 0) 0 r.length 1) = _
  have ht : ((w64 (r ++ x)).drop 0).take (r.length * 1) = w64 r := by rw [List.drop_zero,Nat.mul_one,← xGH,List.take_left' (xAh r)]
  simp only [frz,hg]
  rw [if_pos (by omega),ht,xGA]
  rfl
theorem xV6 {p x q R : Heap} (h : p ++ x = q) (e : ∃ T,R = q ++ T) : ∃ T,R = p ++ (x ++ T) := by
 subst h; obtain ⟨T,rfl⟩ := e
 exact ⟨T,List.append_assoc ..⟩
theorem xYT {p x q R : Heap} (h : p ++ x = q) (e : ∃ T,R = q ++ T) : ∃ T,R = p ++ T := by
 obtain ⟨T,h⟩ := xV6 h e; exact ⟨_,h⟩
theorem yCc {p q R : Heap} {x : Blk} (h : p ++ [x] = q) (e : ∃ T,R = q ++ T) : R[p.length]? = some x := by
 subst h; obtain ⟨T,rfl⟩ := e
 rw [List.append_assoc,List.getElem?_append_right (Nat.le_refl _),Nat.sub_self]; rfl
theorem yCd {p R : Heap} {i : Nat} {x : Blk} (e : ∃ T,R = p ++ T) (h : p[i]? = some x) : R[i]? = some x := by
 obtain ⟨T,rfl⟩ := e; exact xAu h
theorem yIv {x y : Int} {p q r : AV} (h1 : AV.isCell p = true) (h2 : AV.isCell q = true) (h3 : AV.isCell r = true) : ([AV.int .i64 x,.int .i64 y,p,q,r]).all AV.isCell = true := by
 simp only [List.all_cons,List.all_nil,h1,h2,h3,Bool.and_true]; rfl
structure Lw (n m : Aut) (G : Heap) : Prop where
 b0 : G[0]? = some (.cells false false n.cells)
 b1 : G[1]? = some (.cells false false m.cells)
theorem Lw.ext {n m : Aut} {G R : Heap} (h : Lw n m G) (e : ∃ T,R = G ++ T) : Lw n m R := ⟨yCd e h.b0,yCd e h.b1⟩
theorem Lw.stay {n m : Aut} {G R : Heap} {lo hi : Nat} (h : Lw n m G) (e : Stay lo hi G R) (hl : 1 < lo) : Lw n m R := ⟨e.get (.inl (by omega)) h.b0,e.get (.inl (by omega)) h.b1⟩
set_option maxHeartbeats 4000000 in
theorem yBb {n m X : Aut} {zt z1 : Bool} {t tr : List Lf} {G B1 B2 B3 : Heap} {u1 u2 vt : AV} {ra rb : List Nat} {e f g r : Int} {zq zp : Bool} {bb : Bool}
  (htr : List.take (tr.length * 3) (lfs t) = lfs tr) (htm : min ((t.length : Nat) : Int) 40 = (tr.length : Nat)) (htt : tr.length ≤ t.length)
  (hr : r < 2) (hr0 : 0 ≤ r) (hI : Lw n m G) (h12 : L.pcall 12 [n.av] = some m.av)
  (h16 : xCG L 16 [m.av,tw z1 tr] = some (.tup [u1,.int .i64 e],B1)) (O1 : OwnS u1 B1 ra) (l1 : ra.length ≤ 64) (h17 : L.pcall 17 [m.av,tw z1 tr] = some (.tup [sw zq ra,.int .i64 e]))
  (h18 : L.pcall 18 [m.av,tw z1 tr] = some (.tup [.bool bb,.int .i64 e])) (h19 : L.pcall 19 [m.av,tw z1 tr] = some (.tup [.bool bb,.int .i64 e]))
  (h20 : xCG L 20 [m.av] = some (.tup [u2,.int .i64 f],B2)) (O2 : OwnS u2 B2 rb) (l2 : rb.length ≤ 64) (h21 : L.pcall 21 [m.av] = some (.tup [sw zp rb,.int .i64 f]))
  (h22 : xJi L 22 [m.av] = some (.tup [vt,.int .i64 g],B3)) (O3 : OwA B3 vt X.vars X.states X.st X.fi X.rl) (h23 : L.pcall 23 [m.av] = some (.tup [X.av,.int .i64 g]))
  (x1 : X.st.length < 1000000) (x2 : X.fi.length < 1000000) (x3 : X.rl.length < 1000000)
  (sm : L.pcall 25 [m.av,m.av] = some (.bool true)) :
  ∃ G',L.loop xNV xZn ⟨xNW (.sl zt t.length (lfs t)) (.ptr 0 0) (.bool false) (.ptr 1 0) (.sl z1 tr.length (lfs tr)) (.int .i64 r),G⟩ = L.loop xNV xZn ⟨xNW (.sl zt t.length (lfs t)) (.ptr 0 0) (.bool false) (.ptr 1 0) (.sl z1 tr.length (lfs tr)) (.int .i64 (r + 1)),G'⟩ ∧ Lw n m G' := by
 obtain ⟨t1,t2,t3,rfl,ot1,ot2,ot3⟩ := O3
 obtain ⟨w1,g1⟩ : ∃ X,xD9 G.length u1 = X := ⟨_,rfl⟩
 obtain ⟨G1,e1⟩ : ∃ X,G ++ B1 = X := ⟨_,rfl⟩
 obtain ⟨w2,g2⟩ : ∃ X,xD9 G1.length u2 = X := ⟨_,rfl⟩
 obtain ⟨G2,e2⟩ : ∃ X,G1 ++ B2 = X := ⟨_,rfl⟩
 obtain ⟨Bl3,l3⟩ : ∃ X,B3.map (xI0 G2.length) = X := ⟨_,rfl⟩
 obtain ⟨G3,e3⟩ : ∃ X,G2 ++ Bl3 = X := ⟨_,rfl⟩
 obtain ⟨y1,g3⟩ : ∃ X,xCJ G2.length t1 = X := ⟨_,rfl⟩
 obtain ⟨y2,g4⟩ : ∃ X,xCJ G2.length t2 = X := ⟨_,rfl⟩
 obtain ⟨y3,g5⟩ : ∃ X,xCJ G2.length t3 = X := ⟨_,rfl⟩
 obtain ⟨G4,e4⟩ : ∃ Y,G3 ++ [Blk.cells false false [.int .i64 X.vars,.int .i64 X.states,y1,y2,y3]] = Y := ⟨_,rfl⟩
 obtain ⟨G5,e5⟩ : ∃ Y,G4 ++ [Blk.cells false false X.cells] = Y := ⟨_,rfl⟩
 have n5 : ∃ T,G5 = G5 ++ T := ⟨[],by simp⟩
 have n4 := xYT e5 n5
 have n3 := xYT e4 n4
 have n2 := xYT e3 n3
 have n1 := xYT e2 n2
 have n0 := xYT e1 n1
 have k0 : ∃ T,G = G ++ T := ⟨[],by simp⟩
 have tr1 : ∀ {p x q : Heap},(∃ T,p = G ++ T) → p ++ x = q → ∃ T,q = G ++ T := fun {p x q} h e => by
  obtain ⟨T,rfl⟩ := h; exact ⟨T ++ x,by rw [← e,List.append_assoc]⟩
 have k1 := tr1 k0 e1
 have k2 := tr1 k1 e2
 have k3 := tr1 k2 e3
 have k4 := tr1 k3 e4
 have I5 := hI.ext n0
 have len1 : 1 < G.length := (List.getElem?_eq_some_iff.1 hI.b1).1
 have s1 : G1.length = G.length + B1.length := by rw [← e1,List.length_append]
 have s2 : G2.length = G1.length + B2.length := by rw [← e2,List.length_append]
 have s3 : G3.length = G2.length + B3.length := by rw [← e3,← l3,List.length_append,List.length_map]
 have s4 : G4.length = G3.length + 1 := by rw [← e4,List.length_append]; rfl
 have s5 : G5.length = G4.length + 1 := by rw [← e5,List.length_append]; rfl
 obtain ⟨o1,zk1,f1⟩ : OwI G.length G1.length G5 w1 1 ra.length ∧ ∃ z,∀ d,frz (d + 1) G5 w1 = some (sw z ra) := by
  obtain ⟨T,rfl⟩ := xV6 e1 n1
  rw [← g1,s1]; exact O1.put
 obtain ⟨o2,zk2,f2⟩ : OwI G1.length G2.length G5 w2 1 rb.length ∧ ∃ z,∀ d,frz (d + 1) G5 w2 = some (sw z rb) := by
  obtain ⟨T,rfl⟩ := xV6 e2 n2
  rw [← g2,s2]; exact O2.put
 obtain ⟨oy1,zy1,fy1⟩ : OwI G2.length G3.length G5 y1 1 X.st.length ∧ ∃ z,∀ d,frz (d + 1) G5 y1 = some (.sl z X.st.length (xD8 X.st)) := by
  obtain ⟨T,rfl⟩ := xV6 e3 n3
  rw [← g3,s3,← l3]; exact ot1.put (xLy _) (fun d H => xDz d H _)
 obtain ⟨oy2,zy2,fy2⟩ : OwI G2.length G3.length G5 y2 1 X.fi.length ∧ ∃ z,∀ d,frz (d + 1) G5 y2 = some (.sl z X.fi.length (xD8 X.fi)) := by
  obtain ⟨T,rfl⟩ := xV6 e3 n3
  rw [← g4,s3,← l3]; exact ot2.put (xLy _) (fun d H => xDz d H _)
 obtain ⟨oy3,zy3,fy3⟩ : OwI G2.length G3.length G5 y3 5 X.rl.length ∧ ∃ z,∀ d,frz (d + 1) G5 y3 = some (.sl z X.rl.length (rls X.rl)) := by
  obtain ⟨T,rfl⟩ := xV6 e3 n3
  rw [← g5,s3,← l3]; exact ot3.put (xOD _) (fun d H => xFt d H _)
 have z3 := yCc e4 n4
 have z4 := yCc e5 n5
 obtain ⟨G6,i1,K1⟩ := xYR o1 (by omega)
 have S1 := K1.stay o1
 obtain ⟨G7,i2,K2⟩ := xYR (o2.stay S1) (by omega)
 have S2 := K2.stay (o2.stay S1)
 have L6 := S1.len
 have L7 := S2.len
 have z7 := S2.get (.inr (by omega)) (S1.get (.inr (by omega)) z3)
 obtain ⟨G8,i3,S3⟩ := yD4 (x := .int .i64 X.vars) (y := .int .i64 X.states) rfl rfl ((oy1.stay S1).stay S2) ((oy2.stay S1).stay S2) ((oy3.stay S1).stay S2) x1 x2 x3 (by omega)
 refine ⟨G8,?_,((I5.stay S1 (by omega)).stay S2 (by omega)).stay S3 (by omega)⟩
 have sc := xLv (Aut.mk X.vars X.states zy1 X.st zy2 X.fi zy3 X.rl) (by show X.st.length < _; omega) (by show X.fi.length < _; omega) (by show X.rl.length < _; omega) X.z1 X.z2 X.z3
 exact xV5 htr htm htt hr hr0 h12 h16 h17 h18 h19 h20 h21 h22 h23 (xSN _ _ ra (by omega)) (xSN _ _ rb (by omega)) sc sm (yBa z1 zt tr (by have := htm; omega))
  g1 e1 g2 e2 g3 g4 g5 l3 e3 e4 e5 (yIv oy1.cell oy2.cell oy3.cell)
  hI.b1 (hI.ext k1).b1 (hI.ext k2).b1 (hI.ext k4).b1 I5.b1 I5.b0 z3 z4 (f1 5) (f2 5) (fy1 4) (fy2 4) (fy3 4) i1 i2 z7 i3
structure P16 (a : AV) (z : Bool) (t : List Lf) : Prop where
 h : ∃ u B r e z' bb,xCG L 16 [a,tw z t] = some (.tup [u,.int .i64 e],B) ∧ OwnS u B r ∧ r.length ≤ 64 ∧ L.pcall 17 [a,tw z t] = some (.tup [sw z' r,.int .i64 e]) ∧
  L.pcall 18 [a,tw z t] = some (.tup [.bool bb,.int .i64 e]) ∧ L.pcall 19 [a,tw z t] = some (.tup [.bool bb,.int .i64 e])
structure P20 (a : AV) : Prop where
 h : ∃ u B r f z',xCG L 20 [a] = some (.tup [u,.int .i64 f],B) ∧ OwnS u B r ∧ r.length ≤ 64 ∧ L.pcall 21 [a] = some (.tup [sw z' r,.int .i64 f])
structure P22 (a : AV) : Prop where
 h : ∃ v B X g,xJi L 22 [a] = some (.tup [v,.int .i64 g],B) ∧ OwA B v (Aut.vars X) X.states X.st X.fi X.rl ∧ L.pcall 23 [a] = some (.tup [X.av,.int .i64 g]) ∧ X.st.length < 1000000 ∧ X.fi.length < 1000000 ∧ X.rl.length < 1000000
structure Cut (n : Aut) : Prop where
 st : n.st.length < 1000
 fi : n.fi.length < 1000
 rl : n.rl.length < 1000
 u8 : ∀ e ∈ n.rl,e.p < 256 ∧ e.n < 256
section
variable {n : Aut}
theorem Cut.ty (h : Cut n) : TyA n := ⟨by have := h.st; omega,by have := h.fi; omega,by have := h.rl; omega,h.u8⟩
theorem Valid.nat (h : Valid n) : ∃ s : Nat,n.states = (s : Nat) ∧ s ≤ 64 := ⟨n.states.toNat,by have := h.s0; omega,by have := h.s64; omega⟩
theorem Valid.rls (h : Valid n) (hc : Cut n) {s : Nat} (hs : n.states = (s : Nat)) : RlS s n.rl := ⟨fun u hu => by
 have h1 := h.rule u hu
 have h2 := hc.u8 u hu
 omega⟩
theorem Valid.stS (h : Valid n) {s : Nat} (hs : n.states = (s : Nat)) : ∀ q ∈ n.st,0 ≤ q ∧ q < (s : Int) := fun q hq => by
 have := xIM h.st q hq; omega
theorem Valid.fiS (h : Valid n) {s : Nat} (hs : n.states = (s : Nat)) : ∀ q ∈ n.fi,0 ≤ q ∧ q < (s : Int) := fun q hq => by
 have := xIM h.fi q hq; omega
theorem yCe {w : Nat} (hw : w < 18446744073709551616) (j : Nat) : (decide (j < 64) && w.testBit j) = w.testBit j := by
 by_cases c : j < 64
 ·simp [c]
 ·have : w.testBit j = false := Nat.testBit_lt_two_pow (Nat.lt_of_lt_of_le hw (Nat.pow_le_pow_right (n := 2) (by decide) (by omega : 64 ≤ j)))
  simp [this]
theorem yHv : OwnS (.sl true 0 []) [] [] := .inl ⟨rfl,rfl,rfl⟩
theorem p16 (hc : Cut n) (z : Bool) (t : List Lf) (ht : t.length < 1000) (hx : ∀ e ∈ t,e.x < 256) : P16 n.av z t := by
 have hT := hc.ty
 have hb := yDw n z t hT (by omega) hx
 have h15 := xJd n hT.st hT.fi hT.rl hT.u8
 by_cases c : xMU n t = 0
 ·obtain ⟨hV,h31,hlab,T,hF⟩ := bothE_zero.1 c
  rw [c] at hb
  rw [chkE_zero.2 hV] at h15
  have h49 := xX8 (z := z) (by omega) hx hT.rl (hV.ok hT) hT.st hV.sts hF
  have hw := yDu (xLw n.st 0 (by omega) hV.sts) (hV.ok hT) T
  obtain ⟨v,hv⟩ : ∃ v : Nat,n.vars = (v : Nat) := ⟨n.vars.toNat,by have := hV.v0; omega⟩
  have hvt : n.vars.toNat = v := by omega
  have h50 := xVd z t v (by have := hV.v3; omega) (by omega) hx
  have ht0 : xSy t v = 0 := by
   have := c
   unfold xMU at this
   rw [if_pos (chkE_zero.2 hV),hvt] at this
   exact this
  rw [ht0,← hv] at h50
  obtain ⟨s,hs,hs64⟩ := hV.nat
  obtain ⟨k,K,q1,q2,q3,q4⟩ := yFx (z := z) hs hs64 (by have := hc.st; omega) (by have := hc.rl; omega) (hV.stS hs) (hV.rls hc hs) (by omega) hx hF
  have q3' := q3
  obtain ⟨zz,r',m1,m2⟩ := yFC (B := K) (by omega)
  rw [q3] at m1
  have hf54 := xQk n.z2 n.fi hT.fi hV.fis
  have hfl := xLw n.fi 0 (by omega) hV.fis
  obtain ⟨u,B,r,o1,o2,o3⟩ := yD9 hw hb h49
  obtain ⟨b,a1,a2⟩ := yEb hw hfl hb h49 hf54
  generalize ev (xIT 0 n.st) n.rl T = w at *
  have hr : r = r' := CanS.uniq (o3.congr (fun j => (yCe hw j).trans (q4 j).symm)) m2
  subst hr
  have h19 := yD7 (z := z) (t := t) (by have := hc.fi; omega) hs64 q3 (hV.fiS hs) h15 h50 q1 q2
  have hbb : (n.fi.any fun q => K.getD q.toNat false) = b := by
   rw [Bool.eq_iff_iff,a2,List.any_eq_true]
   have h0 : ∀ q ∈ n.fi,0 ≤ q := fun q hq => (hV.fis q hq).1
   constructor
   ·rintro ⟨q,g1,g2⟩
    refine ⟨q.toNat,by rw [← q4]; exact g2,?_⟩
    rw [xKj _ _ _ h0,Nat.zero_testBit,Bool.false_or,List.contains_iff_mem,Int.toNat_of_nonneg (h0 q g1)]
    exact g1
   ·rintro ⟨j,g1,g2⟩
    rw [xKj _ _ _ h0,Nat.zero_testBit,Bool.false_or,List.contains_iff_mem] at g2
    exact ⟨_,g2,by rw [Int.toNat_natCast,q4]; exact g1⟩
  rw [hbb] at h19
  exact ⟨u,B,r,0,zz,b,o1,o2,m2.2.1,yD5 h15 h50 q1 q2 m1,a1,h19⟩
 ·have e17 : L.pcall 17 [n.av,tw z t] = some (.tup [.sl true 0 [],.int .i64 (xMU n t)]) ∧ L.pcall 19 [n.av,tw z t] = some (.tup [.bool false,.int .i64 (xMU n t)]) := by
   by_cases c1 : xKJ n = 0
   ·have hV := chkE_zero.1 c1
    obtain ⟨v,hv⟩ : ∃ v : Nat,n.vars = (v : Nat) := ⟨n.vars.toNat,by have := hV.v0; omega⟩
    have hvt : n.vars.toNat = v := by omega
    have h50 := xVd z t v (by have := hV.v3; omega) (by omega) hx
    have he : xMU n t = xSy t v := by unfold xMU; rw [if_pos c1,hvt]
    rw [he] at c ⊢
    rw [← hv] at h50
    rw [c1] at h15
    exact ⟨xY0 c h15 h50,xY2 c h15 h50⟩
   ·have he : xMU n t = xKJ n := by unfold xMU; rw [if_neg c1]
    rw [he]
    exact ⟨xYZ c1 h15,xY1 c1 h15⟩
  exact ⟨_,_,[],xMU n t,true,false,yBh c hb,yHv,by simp,e17.1,yBj c hb,e17.2⟩
theorem p20 (hc : Cut n) : P20 n.av := by
 have hT := hc.ty
 have h14 := xJp n hT.st hT.fi hT.rl hT.u8
 have h15 := xJd n hT.st hT.fi hT.rl hT.u8
 by_cases c : xKJ n = 0
 ·have hV := chkE_zero.1 c
  rw [c] at h14 h15
  obtain ⟨w,w1,w2,w3,w4,w5⟩ := xPH hT.rl (hV.ok hT) hT.st hV.sts
  obtain ⟨u,B,r,o1,o2,o3⟩ := yEa w2 h14 w1
  obtain ⟨s,hs,hs64⟩ := hV.nat
  have h56 := xYX n hs hs64 (by have := hc.st; omega) (by have := hc.rl; omega) (hV.stS hs) (hV.rls hc hs)
  have hl := xNu s n
  have hbit := xSS (hV.rls hc hs) (hV.stS hs) w3 w4 w5
  obtain ⟨zz,r',m1,m2⟩ := yFC (B := xJ5 s n) (by omega)
  rw [hl] at m1
  have hr : r = r' := CanS.uniq (o3.congr (fun j => (yCe w2 j).trans (hbit j).symm)) m2
  subst hr
  exact ⟨u,B,r,0,zz,o1,o2,m2.2.1,yD6 h15 h56 m1⟩
 ·exact ⟨_,_,[],xKJ n,true,yBi c h14,yHv,by simp,yBd c h15⟩
theorem yIw {v : AV} {G : Heap} {a s : Int} {st fi : List Int} {rl : List Rl} (h : OwA G v a s st fi rl) (e : Int) : xJ4 (.tup [v,.int .i64 e]) = true := by
 obtain ⟨f1,f2,f3,rfl,h1,h2,h3⟩ := h
 show ([AV.agg [.int .i64 a,.int .i64 s,f1,f2,f3],.int .i64 e]).all xJ3 = true
 simp only [List.all_cons,List.all_nil,xJ3,h1.rel,h2.rel,h3.rel,Bool.and_true]
 rfl
def yIx : Aut := ⟨0,0,true,[],true,[],true,[]⟩
theorem p22 (hc : Cut n) : P22 n.av := by
 have hT := hc.ty
 have h14 := xJp n hT.st hT.fi hT.rl hT.u8
 have h15 := xJd n hT.st hT.fi hT.rl hT.u8
 by_cases c : xKJ n = 0
 ·have hV := chkE_zero.1 c
  obtain ⟨s,hs,hs64⟩ := hV.nat
  have hts : n.states.toNat = s := by omega
  obtain ⟨S,w,v,G,hU,t1,t2⟩ := yEc hT c
  rw [hts] at t2
  rw [c] at h15
  have hK := xY7 (hV.rls hc hs) (hV.stS hs) (hV.fiS hs) hU
  obtain ⟨z1,z2,z3,h23⟩ := yFD n hs hs64 (by have := hc.st; omega) (by have := hc.fi; omega) (by have := hc.rl; omega) (hV.stS hs) (hV.fiS hs) (hV.rls hc hs) h15 rfl
  generalize xV7 s n (xJ5 s n) = K at *
  have e1 := xTJ (K := K) (hV.stS hs)
  have e2 := xTJ (K := K) (hV.fiS hs)
  have e3 := xZb (K := K) (hV.rls hc hs)
  have hf : (fun j => K.getD j false) = fun j => w.testBit j := funext hK
  rw [hf] at e1 e2 e3 h23
  rw [e1,e2,e3] at t2
  have l1 := yCh K (rks (fun j => w.testBit j) s) n.st
  have l2 := yCh K (rks (fun j => w.testBit j) s) n.fi
  have l3 := yEe K (rks (fun j => w.testBit j) s) n.rl
  have c1 := hc.st
  have c2 := hc.fi
  have c3 := hc.rl
  exact ⟨v,G,_,0,xOh t1 (yIw t2 0),t2,h23,by show (fl K _ n.st).length < _; omega,by show (fl K _ n.fi).length < _; omega,by show (flR K _ n.rl).length < _; omega⟩
 ·obtain ⟨G,h22⟩ := xV9 c h14
  exact ⟨yFE,G,yIx,xKJ n,xOh h22 rfl,⟨_,_,_,rfl,.inl ⟨rfl,rfl,rfl⟩,.inl ⟨rfl,rfl,rfl⟩,.inl ⟨rfl,rfl,rfl⟩⟩,xV8 c h15,by decide,by decide,by decide⟩
end
theorem xPK {n m : Aut} {zt z1 : Bool} {t tr : List Lf} {G : Heap} {r : Int} (hC : Cut m) (h12 : L.pcall 12 [n.av] = some m.av) (hx : ∀ e ∈ tr,e.x < 256)
  (htr : List.take (tr.length * 3) (lfs t) = lfs tr) (htm : min ((t.length : Nat) : Int) 40 = (tr.length : Nat)) (htt : tr.length ≤ t.length) (hr : r < 2) (hr0 : 0 ≤ r) (hI : Lw n m G) :
  ∃ G',L.loop xNV xZn ⟨xNW (.sl zt t.length (lfs t)) (.ptr 0 0) (.bool false) (.ptr 1 0) (.sl z1 tr.length (lfs tr)) (.int .i64 r),G⟩ =
   L.loop xNV xZn ⟨xNW (.sl zt t.length (lfs t)) (.ptr 0 0) (.bool false) (.ptr 1 0) (.sl z1 tr.length (lfs tr)) (.int .i64 (r + 1)),G'⟩ ∧ Lw n m G' := by
 have hT := hC.ty
 have sm := xLv m hT.st hT.fi hT.rl m.z1 m.z2 m.z3
 obtain ⟨u1,B1,ra,e,zq,bb,a1,a2,a3,a4,a5,a6⟩ := (p16 hC z1 tr (by have := htm; omega) hx).h
 obtain ⟨u2,B2,rb,f,zp,b1,b2,b3,b4⟩ := (p20 hC).h
 obtain ⟨v,B3,X,g,c1,c2,c3,c4,c5,c6⟩ := (p22 hC).h
 exact yBb htr htm htt hr hr0 hI h12 a1 a2 a3 a4 a5 a6 b1 b2 b3 b4 c1 c2 c3 c4 c5 c6 sm
set_option maxRecDepth 20000 in
set_option maxHeartbeats 4000000 in
theorem yIy (n : Aut) (hb : ∀ e ∈ n.rl,e.p < 256 ∧ e.n < 256) (z : Bool) (t : List Lf) (hx : ∀ e ∈ t,e.x < 256) : L.pcall 3 [n.av,tw z t] = some (.bool true) := by
 have hkk := k16
 have h12 := xYa n
 have hC : Cut (cpA (fwA n)) := ⟨by show (n.st.take 70).length < _; rw [List.length_take]; omega,by show (n.fi.take 70).length < _; rw [List.length_take]; omega,by show (n.rl.take 520).length < _; rw [List.length_take]; omega,fun e he => hb e (List.mem_of_mem_take he)⟩
 have hT := hC.ty
 have h14 := xJp _ hT.st hT.fi hT.rl hT.u8
 have h15 := xJd _ hT.st hT.fi hT.rl hT.u8
 generalize cpA (fwA n) = A at *
 have htm : min ((t.length : Nat) : Int) 40 = ((t.take 40).length : Nat) := by rw [List.length_take]; omega
 have htt : (t.take 40).length ≤ t.length := by rw [List.length_take]; omega
 have htr : List.take ((t.take 40).length * 3) (lfs t) = lfs (t.take 40) := by
  unfold lfs
  rw [xMt (enc := xTD) (k := 3) (fun _ => rfl),xNp]
 have c13 := yE4 z (t.take 40) (by omega)
 have hx1 : ∀ e ∈ t.take 40,e.x < 256 := fun e he => hx e (List.mem_of_mem_take he)
 generalize t.take 40 = tr at *
 generalize (tr.length == 0) = z1 at *
 obtain ⟨G1,r1,i1⟩ := xPK (zt := z) (z1 := z1) (r := 0) (G := [.cells false false n.cells,.cells false false A.cells]) hC h12 hx1 htr htm htt (by omega) (by omega) ⟨rfl,rfl⟩
 obtain ⟨G2,r2,i2⟩ := xPK (zt := z) (z1 := z1) (r := 1) hC h12 hx1 htr htm htt (by omega) (by omega) i1
 have r3 : L.loop xNV xZn ⟨xNW (.sl z t.length (lfs t)) (.ptr 0 0) (.bool false) (.ptr 1 0) (.sl z1 tr.length (lfs tr)) (.int .i64 2),G2⟩ = some (.exit 0,⟨xNW (.sl z t.length (lfs t)) (.ptr 0 0) (.bool false) (.ptr 1 0) (.sl z1 tr.length (lfs tr)) (.int .i64 2),G2⟩) := by
  rw [yEz]
  simp (maxSteps := 30000000) (disch := first | assumption | omega | (simp only [WL,AV.isCell,xAb,xAa] <;> omega) | rfl | decide) only [xZO,WB,↓reduceIte,yCM]
 rw [show (0 : Int) + 1 = 1 from rfl] at r1
 rw [show (1 : Int) + 1 = 2 from rfl] at r2
 rw [r2,r3] at r1
 clear hC hT i1 i2 r2 r3
 unfold Aut.av Aut.cells at h12 h14 h15
 unfold Aut.cells at r1
 unfold tw at c13 ⊢
 unfold Aut.av Aut.cells
 rw [a3p,a3,xAd]
 simp (maxSteps := 30000000) (disch := first | assumption | omega | (simp only [WL,AV.isCell,xAb,xAa] <;> omega) | rfl | decide) only [WB,Nat.reduceAdd,Nat.reduceSub,AV.cells,AV.isCell,↓reduceIte,h12,xE0,xAJ,htm,Nat.reduceMul,htr,c13,xAm,h14,h15,yCM,r1,hkk]
end Go.Abs.Tree
