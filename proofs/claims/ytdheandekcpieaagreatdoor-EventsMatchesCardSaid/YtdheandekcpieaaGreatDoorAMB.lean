/- Conditions: always,event,equal. -/
import Derived.Test.YtdheandekcpieaaGreatDoorAbsBun
import Derived.Test.YtdheandekcpieaaGreatDoorAMA
namespace Go.Abs.Events
open Go Go.Abs
set_option maxHeartbeats 8000000
set_option linter.unusedSimpArgs false
set_option linter.unusedVariables false
theorem xGM {l : List Int} {k : Nat} (h : k < l.length) : xAB (List.take 1 (List.drop k l)) = [AV.int .i64 (l.getD k 0)] := by
 rw [List.drop_eq_getElem_cons h,List.take_succ_cons,List.take_zero]
 simp [xAB,List.getD_eq_getElem?_getD,List.getElem?_eq_getElem h]
structure Ev where
 name : Int
 z : Bool
 args : List Int
def tvs (t : Int) (s : Nat) : Int := tv t (s / 64) (s / 8 % 8) (s % 8)
theorem xOx {a b c : Nat} (ha : a < 8) (hb : b < 8) (hc : c < 8) (t : Int) : tvs t (64 * a + (8 * b + c)) = tv t a b c := by
 unfold tvs
 rw [show (64 * a + (8 * b + c)) / 64 = a by omega,show (64 * a + (8 * b + c)) / 8 % 8 = b by omega,show (64 * a + (8 * b + c)) % 8 = c by omega]
def mat (s : Nat) : List Int → List Int → Bool
 | t :: ts,v :: vs => tvs t s == v && mat s ts vs
 | _,_ => true
theorem xUJ (G0 : Heap) : xOA (.func 105 []) G0 (fun _ => true) := by
 intro G ia ib ic a b c _ _ _ _ _ _ _
 refine ⟨G,?_,.refl _ _⟩
 rw [yD5,a105,xAu]
 simp (disch := omega) only [WB,Nat.reduceSub]
section
variable {G : Heap} {n : Nd} {e : Ev} {ia ib ic a b c xb sb sp : Nat} {rest : List AV}
theorem xWX (G0 : Heap) (h2 : n.args.length = 2) (hok : ∀ t ∈ n.args,0 ≤ t ∧ t ≤ 10) (gn : G0[xb]? = some (.cells false false n.c)) :
  xOA (.func 107 [.ptr xb 0]) G0 (fun s => tvs (n.args.getD 0 0) s == tvs (n.args.getD 1 0) s) := by
 intro G ia ib ic a b c hk ha hb hc ga gb gc
 have gn' := hk.get (xA4 gn) gn
 have hnv : xA2 n.z n.args = .sl n.z n.args.length (xAB n.args) := rfl
 unfold Nd.c at gn'
 have m0 : n.args.getD 0 0 ∈ n.args := by rw [List.getD_eq_getElem?_getD,List.getElem?_eq_getElem (by omega)]; exact List.getElem_mem _
 have m1 : n.args.getD 1 0 ∈ n.args := by rw [List.getD_eq_getElem?_getD,List.getElem?_eq_getElem (by omega)]; exact List.getElem_mem _
 have hv0 := xUS (a := a) (b := b) (c := c) (hok _ m0).2 (hok _ m0).1
 have hv1 := yAi (hok _ m1).2 (hok _ m1).1 (ga := ga) (gb := gb) (gc := gc)
 refine ⟨G,?_,.refl _ _⟩
 show L.icall _ _ _ = some (.bool (tvs (n.args.getD 0 0) (64 * a + (8 * b + c)) == tvs (n.args.getD 1 0) (64 * a + (8 * b + c))),G)
 rw [xOx ha hb hc,xOx ha hb hc]
 rw [hnv] at gn'
 rw [h2] at gn'
 have hat0 : xAB (List.take 1 n.args) = [AV.int .i64 (n.args.getD 0 0)] := xGM (k := 0) (by omega)
 have hat1 : xAB (List.take 1 (List.drop 1 n.args)) = [AV.int .i64 (n.args.getD 1 0)] := xGM (by omega)
 generalize n.args.getD 0 0 = t0 at *
 generalize n.args.getD 1 0 = t1 at *
 have hbe : (tv t0 a b c == tv t1 a b c) = decide (tv t0 a b c = tv t1 a b c) := by
  rw [Bool.eq_iff_iff]; simp
 rw [hbe]
 rw [yD6,yDQ,xAu]
 by_cases c1 : tv t0 a b c = tv t1 a b c
 ·simp only [c1,decide_true]
  rw [c1] at hv0
  simp (maxSteps := 30000000) (disch := first|exact D2|fail) only [WB,Nat.reduceAdd,Nat.reduceSub,gn',W2,hat0,ga,gb,gc,hv0,xAA,xAm,↓reduceIte,hat1,xAn,hv1]
 ·simp only [c1,decide_false]
  simp (maxSteps := 30000000) (disch := first|exact D2|fail) only [WB,Nat.reduceAdd,Nat.reduceSub,gn',W2,hat0,ga,gb,gc,hv0,xAA,xAm,↓reduceIte,hat1,xAn,hv1,c1]
end
def tQ (q : Q) : List AV := w64 (tw q)
def fQ : Q := fun _ => false
abbrev rT (l : List Q) : List AV := rows tQ l
theorem xQh (q : Q) : (tQ q).length = 8 := by rw [tQ,xAV,xAd]
theorem xAf (l : List Q) : (rT l).length = l.length * 8 := xEK (enc := tQ) (k := 8) xQh l
theorem xNi {l : List Q} {i : Nat} (h : i < l.length) : List.take 8 (List.drop (i * 8) (rT l)) = w64 (tw (l.getD i fQ)) := by
 rw [xFp (enc := tQ) (k := 8) xQh,List.drop_eq_getElem_cons h]
 have : rows tQ (l[i] :: l.drop (i + 1)) = tQ l[i] ++ rows tQ (l.drop (i + 1)) := rfl
 rw [this,List.take_append_of_le_length (by simp [xQh]),List.take_of_length_le (by simp [xQh]),List.getD_eq_getElem?_getD,List.getElem?_eq_getElem h]
 rfl
def stC (e : Ev) (dv : AV) (was : Q) (fb : AV) : List AV := .int .i64 e.name :: xA2 e.z e.args :: dv :: (w64 (tw was) ++ [fb])
theorem xOy (e : Ev) (dv : AV) (was : Q) (fb : AV) : List.take 8 (List.drop 3 (stC e dv was fb)) = w64 (tw was) := by
 show List.take 8 (w64 (tw was) ++ [fb]) = _
 rw [List.take_append_of_le_length (by rw [xAV,xAd]; omega),List.take_of_length_le (by rw [xAV,xAd]; omega)]
theorem xDf (e : Ev) (dv : AV) (was : Q) (fb : AV) : (stC e dv was fb).length = 12 := by
 simp [stC,xAV,xAd]
theorem yEs : tw (fun _ => false) = List.replicate 8 0 := by
 unfold tw
 simp only [xGN]
 rfl
theorem yEt : ([.int .u64 0,.int .u64 0,.int .u64 0,.int .u64 0,.int .u64 0,.int .u64 0,.int .u64 0,.int .u64 0] : List AV) = w64 (List.replicate 8 0) := rfl
theorem yFf : xCb fQ = .agg [.int .u64 0,.int .u64 0,.int .u64 0,.int .u64 0,.int .u64 0,.int .u64 0,.int .u64 0,.int .u64 0] := by
 unfold xCb fQ
 rw [yEs]; rfl
theorem xUK {G : Heap} {o : Nat} (q : Q) : wrK G o 0 (w64 (tw q)) (some (.cells false false [.int .u64 0,.int .u64 0,.int .u64 0,.int .u64 0,.int .u64 0,.int .u64 0,.int .u64 0,.int .u64 0])) = some (G.set o (.cells false false (w64 (tw q)))) := by
 rw [yEt]
 exact xGy (by rw [xAd]; rfl)
abbrev z8 : Blk := .cells false false [.int .u64 0,.int .u64 0,.int .u64 0,.int .u64 0,.int .u64 0,.int .u64 0,.int .u64 0,.int .u64 0]
theorem tk8 (q : Q) : List.take 8 (tw q) = tw q := List.take_of_length_le (by rw [xAd]; omega)
section
variable {G : Heap} {n : Nd} {e : Ev} {s d : Nat} {qs : List Q} {was : Q} {fb dv : AV}
def Done (G : Heap) (dv : AV) (qs : List Q) : Prop := (qs = [] ∧ dv = .sl true 0 []) ∨ ∃ d,dv = .own false d 0 qs.length 8 ∧ G[d]? = some (.cells false false (rT qs)) ∧ qs ≠ []
theorem Done.own {A : Nat} (h : Done G dv qs) (hA : A < qs.length) : ∃ d,dv = .own false d 0 qs.length 8 ∧ G[d]? = some (.cells false false (rT qs)) := by
 rcases h with ⟨rfl,_⟩ | ⟨d,h1,h2,_⟩
 ·simp at hA
 ·exact ⟨d,h1,h2⟩
theorem D3 {p : Prop} (h : p := by first | assumption | omega | (simp only [WL,AV.isCell,xAd,xAf] <;> omega) | rfl | decide) : p := h
theorem yGe (gs : G[s]? = some (.cells false false (stC e dv was fb))) :
  ∃ G',L.icall (.func 86 []) [.ptr s 0,.agg n.c] G = some (xCb was,G') ∧ Kp G.length G G' := by
 have ls := xA4 gs
 have hl := xDf e dv was fb
 have hwas := xOy e dv was fb
 have hw := xUK (G := G ++ [.cells false false n.c,z8]) (o := G.length + 1) was
 have htk := tk8 was
 refine ⟨G ++ [.cells false false n.c,.cells false false (w64 (tw was))],?_,Kp.app G _⟩
 generalize stC e dv was fb = C at *
 unfold xCb
 unfold Nd.c at hw ⊢
 have hnv : xA2 n.z n.args = .sl n.z n.args.length (xAB n.args) := rfl
 rw [hnv] at hw ⊢
 rw [yFO,a86,xAu]
 simp (maxSteps := 30000000) (disch := first|exact D3|fail) only [WB,Nat.reduceAdd,Nat.reduceSub,AV.cells,AV.isCell,↓reduceIte,xAS,gs,hwas,W2,xAd,xH6,hw,xUQ,xAJ,htk]
theorem yGf (gs : G[s]? = some (.cells false false (stC e dv was fb))) (hd : Done G dv qs) {A : Nat} (hA : A < qs.length) (ha : n.a = (A : Nat)) :
  ∃ G',L.icall (.func 88 []) [.ptr s 0,.agg n.c] G = some (xCb (fun j => (qs.getD A fQ) j || was j),G') ∧ Kp G.length G G' := by
 obtain ⟨d,rfl,gd⟩ := hd.own hA
 have ls := xA4 gs
 have ld := xA4 gd
 have hl := xDf e (.own false d 0 qs.length 8) was fb
 have hwas := xOy e (.own false d 0 qs.length 8) was fb
 have hdv : List.take 1 (List.drop 2 (stC e (.own false d 0 qs.length 8) was fb)) = [.own false d 0 qs.length 8] := rfl
 have e1 := yAp (qs.getD A fQ) was
 generalize (fun j => (qs.getD A fQ) j || was j) = q at *
 have hw := xUK (G := G ++ [.cells false false n.c,z8]) (o := G.length + 1) q
 have htk := tk8 q
 refine ⟨G ++ [.cells false false n.c,.cells false false (w64 (tw q))],?_,Kp.app G _⟩
 generalize stC e (.own false d 0 qs.length 8) was fb = C at *
 unfold xCb at e1 ⊢
 unfold Nd.c at hw ⊢
 have hnv : xA2 n.z n.args = .sl n.z n.args.length (xAB n.args) := rfl
 rw [hnv,ha] at hw ⊢
 rw [yFQ,a88,xAu]
 simp (maxSteps := 30000000) (disch := first|exact D3|fail) only [WB,Nat.reduceAdd,Nat.reduceSub,AV.cells,AV.isCell,↓reduceIte,xAS,gs,hdv,xBq,gd,xNi,xAn,hwas,W2,e1,xAA,xAd,xH6,hw,xUQ,xAJ,htk]
theorem yGg (gs : G[s]? = some (.cells false false (stC e dv was fb))) (hd : Done G dv qs) {A B : Nat} (hA : A < qs.length) (ha : n.a = (A : Nat)) (hB : B < qs.length) (hb : n.b = (B : Nat)) :
  ∃ G',L.icall (.func 87 []) [.ptr s 0,.agg n.c] G = some (xCb (fun j => (qs.getD B fQ) j || ((qs.getD A fQ) j && was j)),G') ∧ Kp G.length G G' := by
 obtain ⟨d,rfl,gd⟩ := hd.own hA
 have ls := xA4 gs
 have ld := xA4 gd
 have hl := xDf e (.own false d 0 qs.length 8) was fb
 have hwas := xOy e (.own false d 0 qs.length 8) was fb
 have hdv : List.take 1 (List.drop 2 (stC e (.own false d 0 qs.length 8) was fb)) = [.own false d 0 qs.length 8] := rfl
 have e0 := xYf (qs.getD A fQ) was
 have e1 := yAp (qs.getD B fQ) (fun j => (qs.getD A fQ) j && was j)
 generalize (fun j => (qs.getD B fQ) j || ((qs.getD A fQ) j && was j)) = q at *
 generalize (fun j => (qs.getD A fQ) j && was j) = q1 at *
 have hw := xUK (G := G ++ [.cells false false n.c,z8]) (o := G.length + 1) q
 have htk := tk8 q
 refine ⟨G ++ [.cells false false n.c,.cells false false (w64 (tw q))],?_,Kp.app G _⟩
 generalize stC e (.own false d 0 qs.length 8) was fb = C at *
 unfold xCb at e0 e1 ⊢
 unfold Nd.c at hw ⊢
 have hnv : xA2 n.z n.args = .sl n.z n.args.length (xAB n.args) := rfl
 rw [hnv,ha,hb] at hw ⊢
 rw [yFP,a87,xAu]
 simp (maxSteps := 30000000) (disch := first|exact D3|fail) only [WB,Nat.reduceAdd,Nat.reduceSub,AV.cells,AV.isCell,↓reduceIte,xAS,gs,hdv,xBq,gd,xNi,hwas,W2,e0,xAA,xAn,e1,xAd,xH6,hw,xUQ,xAJ,htk]
end
section
variable {G : Heap} {n : Nd} {e : Ev} {ia ib ic a b c xb sb : Nat} {rest : List AV}
theorem xWY (hz : n.args.length = e.args.length) (h2 : n.args.length ≤ 100) (hok : ∀ t ∈ n.args,0 ≤ t ∧ t ≤ 10) (ha : a < 8) (hb : b < 8) (hc : c < 8) (gx : G[sb]? = some (.cells false false [.vptr (.int .i64 e.name :: xA2 e.z e.args :: rest) 0]))
  (ga : G[ia]? = some (.cells false false [.int .i64 (a : Nat)])) (gb : G[ib]? = some (.cells false false [.int .i64 (b : Nat)])) (gc : G[ic]? = some (.cells false false [.int .i64 (c : Nat)])) : ∀ k i,i + k = n.args.length →
  ∃ i' : Nat,L.loop xFQ xM7 ⟨xEF (.func 121 [.ptr ia 0,.ptr ib 0,.ptr ic 0]) (.ptr sb 0) (.bool false) (.sl n.z n.args.length (xAB n.args)) (.int .i64 (n.args.length : Nat)) (.int .i64 (i : Nat)),G⟩ =
   some (if mat (64 * a + (8 * b + c)) (n.args.drop i) (e.args.drop i) = true then (.exit 0,⟨xEF (.func 121 [.ptr ia 0,.ptr ib 0,.ptr ic 0]) (.ptr sb 0) (.bool false) (.sl n.z n.args.length (xAB n.args)) (.int .i64 (n.args.length : Nat)) (.int .i64 (i' : Nat)),G⟩)
    else (.ret,⟨xEF (.func 121 [.ptr ia 0,.ptr ib 0,.ptr ic 0]) (.ptr sb 0) (.bool false) (.sl n.z n.args.length (xAB n.args)) (.int .i64 (n.args.length : Nat)) (.int .i64 (i' : Nat)),G⟩)) := by
 intro k
 induction k with
 | zero =>
  intro i hi
  obtain rfl : i = n.args.length := by omega
  refine ⟨n.args.length,?_⟩
  rw [if_pos (by rw [List.drop_length]; rfl),xOl]
  simp (maxSteps := 30000000) (disch := first|exact D3|fail) only [xHT,WB,↓reduceIte,xHU]
 | succ k ih =>
  intro i hi
  have hlt : (i : Int) < (n.args.length : Nat) := by omega
  have hl1 : i < n.args.length := by omega
  have hl2 : i < e.args.length := by omega
  obtain ⟨i',ih'⟩ := ih (i + 1) (by omega)
  have hm : n.args.getD i 0 ∈ n.args := by rw [List.getD_eq_getElem?_getD,List.getElem?_eq_getElem hl1]; exact List.getElem_mem hl1
  have hv := xUS (a := a) (b := b) (c := c) (hok _ hm).2 (hok _ hm).1
  have em : mat (64 * a + (8 * b + c)) (n.args.drop i) (e.args.drop i) = (tv (n.args.getD i 0) a b c == e.args.getD i 0 && mat (64 * a + (8 * b + c)) (n.args.drop (i + 1)) (e.args.drop (i + 1))) := by
   rw [List.drop_eq_getElem_cons hl1,List.drop_eq_getElem_cons hl2]
   show (tvs _ _ == _ && _) = _
   rw [xOx ha hb hc,List.getD_eq_getElem?_getD,List.getElem?_eq_getElem hl1,List.getD_eq_getElem?_getD,List.getElem?_eq_getElem hl2]
   rfl
  rw [em]
  have hev : xA2 e.z e.args = .sl e.z e.args.length (xAB e.args) := rfl
  generalize hN : n.args.getD i 0 = t at *
  generalize hE : e.args.getD i 0 = v at *
  by_cases c1 : tv t a b c = v
  ·have cb : (tv t a b c == v) = true := by simpa using c1
   simp only [cb,Bool.true_and]
   refine ⟨i',?_⟩
   rw [xOl]
   simp (maxSteps := 30000000) (disch := first|exact D3|fail) only [xHT,WB,hlt,↓reduceIte,W2,hN,ga,gb,gc,hv,c1,xAA,xAm,gx,hev,hE,xAn,xHU,ih']
  ·have cb : (tv t a b c == v) = false := by simpa using c1
   simp only [cb,Bool.false_and,Bool.false_eq_true,if_false]
   refine ⟨i,?_⟩
   rw [xOl]
   simp (maxSteps := 30000000) (disch := first|exact D3|fail) only [xHT,WB,hlt,↓reduceIte,W2,hN,ga,gb,gc,hv,xAA,xAm,gx,hev,hE,xAn,c1,xHU]
theorem xUL (G0 : Heap) (hz : n.args.length = e.args.length) (h2 : n.args.length ≤ 100) (hok : ∀ t ∈ n.args,0 ≤ t ∧ t ≤ 10) (gx : G0[sb]? = some (.cells false false [.vptr (.int .i64 e.name :: xA2 e.z e.args :: rest) 0])) (gn : G0[xb]? = some (.cells false false n.c)) :
  xOA (.func 106 [.ptr xb 0,.ptr sb 0]) G0 (fun s => mat s n.args e.args) := by
 intro G ia ib ic a b c hk ha hb hc ga gb gc
 have gx' := hk.get (xA4 gx) gx
 have gn' := hk.get (xA4 gn) gn
 obtain ⟨i',e1⟩ := xWY (n := n) (e := e) hz h2 hok ha hb hc gx' ga gb gc n.args.length 0 (by omega)
 simp only [List.drop_zero] at e1
 have e1' : L.loop xFQ xM7 ⟨xEF (.func 121 [.ptr ia 0,.ptr ib 0,.ptr ic 0]) (.ptr sb 0) (.bool false) (.sl n.z n.args.length (xAB n.args)) (.int .i64 (n.args.length : Nat)) (.int .i64 0),G⟩ = _ := e1
 have hnv : xA2 n.z n.args = .sl n.z n.args.length (xAB n.args) := rfl
 unfold Nd.c at gn'
 refine ⟨G,?_,.refl _ _⟩
 cases hm : mat (64 * a + (8 * b + c)) n.args e.args with
 | true =>
  rw [hm] at e1'
  simp only [if_true] at e1'
  rw [yBK,yDc,xAu]
  simp (maxSteps := 30000000) (disch := first|exact D3|fail) only [WB,Nat.reduceAdd,Nat.reduceSub,gn',hnv,xHU,e1',↓reduceIte,hm]
 | false =>
  rw [hm] at e1'
  simp only [Bool.false_eq_true,if_false] at e1'
  rw [yBK,yDc,xAu]
  simp (maxSteps := 30000000) (disch := first|exact D3|fail) only [WB,Nat.reduceAdd,Nat.reduceSub,gn',hnv,xHU,e1',hm]
end
section
variable {n : Nd} {e : Ev} {qs : List Q} {was : Q} {fb dv : AV} {z : Bool}
theorem yEu (C : List AV) : L.pcall 79 [.vptr C 0,.agg n.c] = some (xCb (fun _ => true)) := by
 obtain ⟨G1,e1,k1⟩ := xK4 (xUJ [.cells false false n.c,z8])
 have gz : G1[1]? = some z8 := by rw [k1.2 1 (by simp)]; rfl
 have hw := xUK (G := G1) (o := 1) (fun _ => true)
 have gq : (G1.set 1 (.cells false false (w64 (tw fun _ => true))))[1]? = some (.cells false false (w64 (tw fun _ => true))) := xEJ (xA4 gz)
 have htk := tk8 (fun _ => true)
 unfold xCb at e1 ⊢
 unfold Nd.c at e1 ⊢
 have hnv : xA2 n.z n.args = .sl n.z n.args.length (xAB n.args) := rfl
 rw [hnv] at e1 ⊢
 rw [yFI,a79,xAa]
 simp (disch := first | assumption | omega | rfl | decide) only [WB,Nat.reduceAdd,Nat.reduceSub,AV.cells,AV.isCell,↓reduceIte,e1,W2,xAd,gz,hw,gq,xAJ,htk]
theorem xWZ (hne : n.name ≠ e.name ∨ n.args.length ≠ e.args.length) : L.pcall 80 [.vptr (stC e dv was fb) 0,.agg n.c] = some (xCb fQ) := by
 rw [yFf]
 have hnv : xA2 n.z n.args = .sl n.z n.args.length (xAB n.args) := rfl
 have hev : xA2 e.z e.args = .sl e.z e.args.length (xAB e.args) := rfl
 unfold stC
 unfold Nd.c
 rw [yE8,a80,xAa]
 by_cases c1 : n.name = e.name
 ·have c2 : ¬ ((n.args.length : Nat) : Int) = ((e.args.length : Nat) : Int) := by
   intro h; rcases hne with h' | h'
   ·exact h' c1
   ·exact h' (by omega)
  simp (maxSteps := 30000000) (disch := first|exact D3|fail) only [hev,c1,hnv,WB,Nat.reduceAdd,Nat.reduceSub,AV.cells,AV.isCell,↓reduceIte,xAn,c2]
 ·simp (maxSteps := 30000000) (disch := first|exact D3|fail) only [hev,hnv,WB,Nat.reduceAdd,Nat.reduceSub,AV.cells,AV.isCell,↓reduceIte,c1,xAn]
theorem xUM (h1 : n.name = e.name) (hz : n.args.length = e.args.length) (h2 : n.args.length ≤ 100) (hok : ∀ t ∈ n.args,0 ≤ t ∧ t ≤ 10) :
  L.pcall 80 [.vptr (stC e dv was fb) 0,.agg n.c] = some (xCb (fun j => mat j n.args e.args)) := by
 obtain ⟨G1,e1,k1⟩ := xK4 (xUL (xb := 1) (sb := 0) (n := n) (e := e) (rest := dv :: (w64 (tw was) ++ [fb])) [.cells false false [.vptr (stC e dv was fb) 0],.cells false false n.c,z8] hz h2 hok rfl rfl)
 have gz : G1[2]? = some z8 := by rw [k1.2 2 (by simp)]; rfl
 have hw := xUK (G := G1) (o := 2) (fun j => mat j n.args e.args)
 have gq : (G1.set 2 (.cells false false (w64 (tw fun j => mat j n.args e.args))))[2]? = some (.cells false false (w64 (tw fun j => mat j n.args e.args))) := xEJ (xA4 gz)
 have htk := tk8 (fun j => mat j n.args e.args)
 have hnv : xA2 n.z n.args = .sl n.z n.args.length (xAB n.args) := rfl
 have hev : xA2 e.z e.args = .sl e.z e.args.length (xAB e.args) := rfl
 unfold stC at e1 ⊢
 unfold xCb at e1 ⊢
 unfold Nd.c at e1 ⊢
 rw [hnv,hev] at e1 ⊢
 have hze : (((n.args.length : Nat) : Int) = ((e.args.length : Nat) : Int)) = True := eq_true (by omega)
 have hne : (n.name = e.name) = True := eq_true h1
 rw [yE8,a80,xAa]
 simp (maxSteps := 30000000) (disch := first|exact D3|fail) only [WB,Nat.reduceAdd,Nat.reduceSub,AV.cells,AV.isCell,↓reduceIte,hne,xAn,hze,e1,W2,xAd,gz,hw,gq,xAJ,htk]
theorem yEv (C : List AV) (h2 : n.args.length = 2) (hok : ∀ t ∈ n.args,0 ≤ t ∧ t ≤ 10) : L.pcall 81 [.vptr C 0,.agg n.c] = some (xCb (fun j => tvs (n.args.getD 0 0) j == tvs (n.args.getD 1 0) j)) := by
 obtain ⟨G1,e1,k1⟩ := xK4 (xWX (xb := 0) (n := n) [.cells false false n.c,z8] h2 hok rfl)
 generalize (fun s => tvs (n.args.getD 0 0) s == tvs (n.args.getD 1 0) s) = q at *
 have gz : G1[1]? = some z8 := by rw [k1.2 1 (by simp)]; rfl
 have hw := xUK (G := G1) (o := 1) q
 have gq : (G1.set 1 (.cells false false (w64 (tw q))))[1]? = some (.cells false false (w64 (tw q))) := xEJ (xA4 gz)
 have htk := tk8 q
 unfold xCb at e1 ⊢
 unfold Nd.c at e1 ⊢
 have hnv : xA2 n.z n.args = .sl n.z n.args.length (xAB n.args) := rfl
 rw [hnv] at e1 ⊢
 rw [yFJ,a81,xAa]
 simp (maxSteps := 30000000) (disch := first|exact D3|fail) only [WB,Nat.reduceAdd,Nat.reduceSub,AV.cells,AV.isCell,↓reduceIte,e1,W2,xAd,gz,hw,gq,xAJ,htk]
theorem yEw {A : Nat} (hA : A < qs.length) (ha : n.a = (A : Nat)) : L.pcall 82 [.vptr (stC e (.sl z qs.length (rT qs)) was fb) 0,.agg n.c] = some (xCb (fun j => !(qs.getD A fQ) j)) := by
 obtain ⟨G1,e1,k1⟩ := xOC (yEF (qs.getD A fQ) fQ) [.cells false false n.c,z8]
 rw [yFf] at e1
 generalize (fun j => !(qs.getD A fQ) j) = q at *
 have gz : G1[1]? = some z8 := by rw [k1.2 1 (by simp)]; rfl
 have hw := xUK (G := G1) (o := 1) q
 have gq : (G1.set 1 (.cells false false (w64 (tw q))))[1]? = some (.cells false false (w64 (tw q))) := xEJ (xA4 gz)
 have htk := tk8 q
 unfold stC
 unfold xCb at e1 ⊢
 unfold Nd.c at e1 ⊢
 have hnv : xA2 n.z n.args = .sl n.z n.args.length (xAB n.args) := rfl
 rw [hnv,ha] at e1 ⊢
 rw [yFK,a82,xAa]
 simp (maxSteps := 30000000) (disch := first|exact D3|fail) only [WB,Nat.reduceAdd,Nat.reduceSub,AV.cells,AV.isCell,↓reduceIte,xNi,xAn,e1,W2,xAd,gz,hw,gq,xAJ,htk]
theorem yEx {A B : Nat} (hA : A < qs.length) (ha : n.a = (A : Nat)) (hB : B < qs.length) (hb : n.b = (B : Nat)) : L.pcall 83 [.vptr (stC e (.sl z qs.length (rT qs)) was fb) 0,.agg n.c] = some (xCb (fun j => (qs.getD A fQ) j && (qs.getD B fQ) j)) := by
 have e1 := xYf (qs.getD A fQ) (qs.getD B fQ)
 generalize (fun j => (qs.getD A fQ) j && (qs.getD B fQ) j) = q at *
 have hw := xUK (G := [.cells false false n.c,z8]) (o := 1) q
 have htk := tk8 q
 unfold stC
 unfold xCb at e1 ⊢
 unfold Nd.c at hw ⊢
 have hnv : xA2 n.z n.args = .sl n.z n.args.length (xAB n.args) := rfl
 rw [hnv,ha,hb] at hw ⊢
 rw [yFL,a83,xAa]
 simp (maxSteps := 30000000) (disch := first|exact D3|fail) only [WB,Nat.reduceAdd,Nat.reduceSub,AV.cells,AV.isCell,↓reduceIte,xNi,xAn,W2,e1,xAA,xAd,hw,xAJ,htk]
theorem yEy {A B : Nat} (hA : A < qs.length) (ha : n.a = (A : Nat)) (hB : B < qs.length) (hb : n.b = (B : Nat)) : L.pcall 84 [.vptr (stC e (.sl z qs.length (rT qs)) was fb) 0,.agg n.c] = some (xCb (fun j => (qs.getD A fQ) j || (qs.getD B fQ) j)) := by
 have e1 := yAp (qs.getD A fQ) (qs.getD B fQ)
 generalize (fun j => (qs.getD A fQ) j || (qs.getD B fQ) j) = q at *
 have hw := xUK (G := [.cells false false n.c,z8]) (o := 1) q
 have htk := tk8 q
 unfold stC
 unfold xCb at e1 ⊢
 unfold Nd.c at hw ⊢
 have hnv : xA2 n.z n.args = .sl n.z n.args.length (xAB n.args) := rfl
 rw [hnv,ha,hb] at hw ⊢
 rw [yFM,a84,xAa]
 simp (maxSteps := 30000000) (disch := first|exact D3|fail) only [WB,Nat.reduceAdd,Nat.reduceSub,AV.cells,AV.isCell,↓reduceIte,xNi,xAn,W2,e1,xAA,xAd,hw,xAJ,htk]
theorem yEz {A x : Nat} (hA : A < qs.length) (ha : n.a = (A : Nat)) (hx : x = 8 ∨ x = 9 ∨ x = 10) (hxe : n.x = (x : Nat)) : L.pcall 85 [.vptr (stC e (.sl z qs.length (rT qs)) was fb) 0,.agg n.c] = some (xCb (exQ x (qs.getD A fQ))) := by
 have e1 := yAs (p := qs.getD A fQ) hx
 generalize exQ x (qs.getD A fQ) = q at *
 have hw := xUK (G := [.cells false false n.c,z8]) (o := 1) q
 have htk := tk8 q
 unfold stC
 unfold xCb at e1 ⊢
 unfold Nd.c at hw ⊢
 have hnv : xA2 n.z n.args = .sl n.z n.args.length (xAB n.args) := rfl
 rw [hnv,ha,hxe] at hw ⊢
 rw [yFN,a85,xAa]
 simp (maxSteps := 30000000) (disch := first|exact D3|fail) only [WB,Nat.reduceAdd,Nat.reduceSub,AV.cells,AV.isCell,↓reduceIte,xNi,xAn,W2,e1,xAA,xAd,hw,xAJ,htk]
end
def tmp (op : Nat) : Bool := op == 8 || op == 9 || op == 10
def evN (n : Nd) (e : Ev) (qs : List Q) (was : Q) : Q :=
 if n.op = 1 then fun _ => true
 else if n.op = 2 then (if n.name = e.name ∧ n.args.length = e.args.length then fun j => mat j n.args e.args else fQ)
 else if n.op = 3 then fun j => tvs (n.args.getD 0 0) j == tvs (n.args.getD 1 0) j
 else if n.op = 4 then fun j => !(qs.getD n.a.toNat fQ) j
 else if n.op = 5 then fun j => (qs.getD n.a.toNat fQ) j && (qs.getD n.b.toNat fQ) j
 else if n.op = 6 then fun j => (qs.getD n.a.toNat fQ) j || (qs.getD n.b.toNat fQ) j
 else if n.op = 7 then exQ n.x.toNat (qs.getD n.a.toNat fQ)
 else if n.op = 8 then was
 else if n.op = 9 then fun j => (qs.getD n.b.toNat fQ) j || ((qs.getD n.a.toNat fQ) j && was j)
 else fun j => (qs.getD n.a.toNat fQ) j || was j
structure Vn (i : Nat) (n : Nd) : Prop where
 op : 1 ≤ n.op ∧ n.op ≤ 10
 al : n.args.length ≤ 100
 ar : ∀ t ∈ n.args,0 ≤ t ∧ t ≤ 10
 eq : n.op = 3 → n.args.length = 2
 ex : n.op = 7 → n.x = 8 ∨ n.x = 9 ∨ n.x = 10
 ca : 1 ≤ chn n.op → 0 ≤ n.a ∧ n.a < i
 cb : chn n.op = 2 → 0 ≤ n.b ∧ n.b < i
def xEI (n : Nd) (qs : List Q) (q : Q) : Q := if n.op = 8 then qs.getD n.a.toNat fQ else q
def xCv (e : Ev) : List Nd → List Q → List (List Nat) → List Q × List (List Nat)
 | [],qs,_ => (qs,[])
 | n :: fs,qs,ws => if tmp n.op = true then
   let q := evN n e qs (qOf (ws.headD []))
   let r := xCv e fs (qs ++ [q]) ws.tail
   (r.1,bsQ (xEI n qs q) :: r.2)
  else xCv e fs (qs ++ [evN n e qs fQ]) ws
theorem yCB (d : Nat) (H : Heap) : ∀ l : List Q,(rT l).mapM (frz d H) = some (rT l) := by
 intro l
 have : rT l = w64 (l.flatMap tw) := by
  induction l with
  | nil => rfl
  | cons q l ih =>
   show tQ q ++ rT l = _
   rw [ih]
   simp [tQ,w64]
 rw [this]
 exact xH9 d H _
theorem mapM_append' {f : AV → Option AV} : ∀ {a b a' b' : List AV},a.mapM f = some a' → b.mapM f = some b' → (a ++ b).mapM f = some (a' ++ b')
 | [],b,a',b',h1,h2 => by simp at h1; subst h1; simpa using h2
 | x :: a,b,a',b',h1,h2 => by
  rw [List.mapM_cons] at h1
  simp only [Option.bind_eq_bind,Option.bind_eq_some_iff,Option.pure_def,Option.some.injEq] at h1
  obtain ⟨y,hy,a1,ha,rfl⟩ := h1
  rw [List.cons_append,List.mapM_cons,hy,mapM_append' ha h2]
  rfl
theorem xUN (d : Nat) (H : Heap) (e : Ev) {dv dv' : AV} (was : Q) (b : Bool) (h : frz d H dv = some dv') : (stC e dv was (.bool b)).mapM (frz d H) = some (stC e dv' was (.bool b)) := by
 have h1 : ([.int .i64 e.name,xA2 e.z e.args,dv] : List AV).mapM (frz d H) = some [.int .i64 e.name,xA2 e.z e.args,dv'] := by
  simp [List.mapM_cons,xDO,xA2,xEl,h]
 have h2 : ([.bool b] : List AV).mapM (frz d H) = some [.bool b] := by simp [List.mapM_cons,xFa]
 show List.mapM _ ([.int .i64 e.name,xA2 e.z e.args,dv] ++ (w64 (tw was) ++ [.bool b])) = some ([.int .i64 e.name,xA2 e.z e.args,dv'] ++ (w64 (tw was) ++ [.bool b]))
 exact mapM_append' h1 (mapM_append' (xH9 d H _) h2)
def xOz : List (AV × AV) := [(.int .u8 1,.func 79 []),(.int .u8 2,.func 80 []),(.int .u8 3,.func 81 []),(.int .u8 4,.func 82 []),(.int .u8 5,.func 83 []),(.int .u8 6,.func 84 []),(.int .u8 7,.func 85 []),(.int .u8 8,.func 86 []),(.int .u8 9,.func 87 []),(.int .u8 10,.func 88 [])]
theorem yEA (G : Heap) : L.icall (.func 56 []) [] G = some (.mp G.length,G ++ [.mp xOz]) := by
 rw [yFA,a56,xAu]
 unfold xOz
 simp (disch := omega) only [WB,WM,↓reduceIte,xBq,xVU,xBG,xCj,xCF,Int.reduceBEq]
theorem xUO {op : Nat} (h : 1 ≤ op ∧ op ≤ 10) : xIg (.int .u8 (op : Nat)) xOz = some (some (.func (78 + op) [])) := by
 have : op = 1 ∨ op = 2 ∨ op = 3 ∨ op = 4 ∨ op = 5 ∨ op = 6 ∨ op = 7 ∨ op = 8 ∨ op = 9 ∨ op = 10 := by omega
 rcases this with rfl | rfl | rfl | rfl | rfl | rfl | rfl | rfl | rfl | rfl <;> rfl
section
variable {n : Nd} {e : Ev} {qs : List Q} {was : Q} {fb dv : AV} {z : Bool} {i : Nat}
theorem xAF {a : Int} {i : Nat} (h : 0 ≤ a ∧ a < i) : a = (a.toNat : Nat) ∧ a.toNat < i := by omega
theorem evp (hv : Vn qs.length n) (ht : tmp n.op = false) : L.pcall (78 + n.op) [.vptr (stC e (.sl z qs.length (rT qs)) was fb) 0,.agg n.c] = some (xCb (evN n e qs fQ)) := by
 have ho := hv.op
 have h8 : n.op ≠ 8 := fun h => by rw [h] at ht; cases ht
 have h9 : n.op ≠ 9 := fun h => by rw [h] at ht; cases ht
 have h10 : n.op ≠ 10 := fun h => by rw [h] at ht; cases ht
 have : n.op = 1 ∨ n.op = 2 ∨ n.op = 3 ∨ n.op = 4 ∨ n.op = 5 ∨ n.op = 6 ∨ n.op = 7 := by omega
 unfold evN
 rcases this with h | h | h | h | h | h | h <;> rw [h]
 ·exact yEu _
 ·by_cases c : n.name = e.name ∧ n.args.length = e.args.length
  ·simp only [if_pos c]
   exact xUM c.1 c.2 hv.al hv.ar
  ·simp only [if_neg c]
   exact xWZ (by
    by_cases c1 : n.name = e.name
    ·exact .inr fun c2 => c ⟨c1,c2⟩
    ·exact .inl c1)
 ·exact yEv _ (hv.eq h) hv.ar
 ·have ha := xAF (hv.ca (by rw [h]; decide))
  have := yEw (n := n) (e := e) (was := was) (fb := fb) (qs := qs) (z := z) ha.2 ha.1
  show L.pcall 82 _ = some (xCb fun j => !(qs.getD n.a.toNat fQ) j)
  exact this
 ·have ha := xAF (hv.ca (by rw [h]; decide))
  have hb := xAF (hv.cb (by rw [h]; decide))
  exact yEx ha.2 ha.1 hb.2 hb.1
 ·have ha := xAF (hv.ca (by rw [h]; decide))
  have hb := xAF (hv.cb (by rw [h]; decide))
  exact yEy ha.2 ha.1 hb.2 hb.1
 ·have ha := xAF (hv.ca (by rw [h]; decide))
  have hx := hv.ex h
  simp only [Nat.reduceEqDiff,if_false,if_true]
  exact yEz (x := n.x.toNat) ha.2 ha.1 (by omega) (by omega)
theorem evt {G : Heap} {s : Nat} (gs : G[s]? = some (.cells false false (stC e dv was fb))) (hd : Done G dv qs) (hv : Vn qs.length n) (ht : tmp n.op = true) : ∃ G',L.icall (.func (78 + n.op) []) [.ptr s 0,.agg n.c] G = some (xCb (evN n e qs was),G') ∧ Kp G.length G G' := by
 have : n.op = 8 ∨ n.op = 9 ∨ n.op = 10 := by unfold tmp at ht; simp at ht; omega
 unfold evN
 rcases this with h | h | h <;> rw [h]
 ·exact yGe gs
 ·have ha := xAF (hv.ca (by rw [h]; decide))
  have hb := xAF (hv.cb (by rw [h]; decide))
  exact yGg gs hd ha.2 ha.1 hb.2 hb.1
 ·have ha := xAF (hv.ca (by rw [h]; decide))
  exact yGf gs hd ha.2 ha.1
end
theorem xQi (R : Rec) (F : List AV) (H : Heap) (ks : List Nat) (c : Bool) (z : AV) (x k : Arg) : xBj R F H (.mlook ks c z x k) = xNs H (xAc R F H (.mlook ks c z x k)) := xFJ _ rfl
theorem xK3 (l : List Nat) : (w64 l).all xAm = true := by simp [w64,xAm]
theorem yAd {op : Nat} (h : 1 ≤ op ∧ op ≤ 10) : L.pcall 57 [.int .u8 (op : Nat)] = some (.bool (tmp op)) := by
 have : op = 1 ∨ op = 2 ∨ op = 3 ∨ op = 4 ∨ op = 5 ∨ op = 6 ∨ op = 7 ∨ op = 8 ∨ op = 9 ∨ op = 10 := by omega
 rcases this with rfl | rfl | rfl | rfl | rfl | rfl | rfl | rfl | rfl | rfl <;> (rw [yFB,a57,xAa]; simp (disch := omega) only [WB,Nat.reduceSub,Int.reduceEq,↓reduceIte,tmp,Nat.reduceBEq])
structure SI (e : Ev) (fz : Bool) (fs : List Nd) (m mp s sb : Nat) (G : Heap) (st : List Nat) (qs : List Q) (dv : AV) : Prop where
 gm : G[m]? = some (.cells false false [.sl fz fs.length (nds fs),.own false sb 0 st.length 1])
 gb : G[sb]? = some (.cells false false (bs st))
 gp : G[mp]? = some (.mp xOz)
 gs : ∃ was,G[s]? = some (.cells false false (stC e dv was (.bool false)))
 gd : (qs = [] ∧ dv = .sl true 0 []) ∨ ∃ d,dv = .own false d 0 qs.length 8 ∧ G[d]? = some (.cells false false (rT qs)) ∧ qs ≠ [] ∧ s < d
 o1 : m < mp
 o2 : sb < mp
 o3 : m ≠ sb
 o4 : mp < s
theorem SI.done {e : Ev} {fz : Bool} {fs : List Nd} {m mp s sb : Nat} {G : Heap} {st : List Nat} {qs : List Q} {dv : AV} (h : SI e fz fs m mp s sb G st qs dv) : Done G dv qs :=
 h.gd.imp id fun ⟨d,h1,h2,h3,_⟩ => ⟨d,h1,h2,h3⟩
abbrev F22 (m mp s : Nat) (fz : Bool) (fs : List Nd) (at_ i : Nat) : List AV := xMO (.ptr m 0) (.mp mp) (.ptr s 0) (.int .i64 (at_ : Nat)) (.sl fz fs.length (nds fs)) (.int .i64 (fs.length : Nat)) (.int .i64 (i : Nat))
section
variable {e : Ev} {fz : Bool} {fs : List Nd} {m mp s sb at_ i : Nat} {G : Heap} {st : List Nat} {qs : List Q} {dv : AV} {n : Nd}
theorem xUP (qs : List Q) (q : Q) : rT qs ++ w64 (tw q) = rT (qs ++ [q]) := by simp [rows,tQ]
theorem yCC (q : Q) : w64 (tw q) = rT [q] := by simp [rows,tQ]
theorem D4 {p : Prop} (h : p := by first | assumption | omega | (simp only [WL,AV.isCell,xAd,xAf,xAb] <;> omega) | rfl | decide) : p := h
theorem yCD (h : SI e fz fs m mp s sb G st qs dv) (hi : qs.length = i) (hlt : i < fs.length) (hlen : fs.length ≤ 1000) (hn : fs.getD i nd0 = n) (hv : Vn qs.length n) (ht : tmp n.op = false) :
  ∃ G' dv',L.loop xEo xKD ⟨F22 m mp s fz fs at_ i,G⟩ = L.loop xEo xKD ⟨F22 m mp s fz fs at_ (i + 1),G'⟩ ∧ SI e fz fs m mp s sb G' st (qs ++ [evN n e qs fQ]) dv' ∧ Kp mp G G' := by
 obtain ⟨gm,gb,gp,⟨was,gs⟩,gd,o1,o2,o3,o4⟩ := h
 have hltI : ((i : Nat) : Int) < (fs.length : Nat) := by omega
 have h51 := yAd hv.op
 rw [ht] at h51
 have hf := xUO hv.op
 have lm := xA4 gm
 have lb := xA4 gb
 have lp := xA4 gp
 have ls := xA4 gs
 have hnv : xA2 n.z n.args = .sl n.z n.args.length (xAB n.args) := rfl
 rcases gd with ⟨rfl,rfl⟩ | ⟨d,rfl,gd,hq,hsd⟩
 ·have hp := evp (e := e) (qs := []) (was := was) (fb := .bool false) (z := true) hv ht
  generalize evN n e [] fQ = q at *
  have hfz := xUN 5 (G ++ [.cells false false n.c]) e was false (show frz 5 (G ++ [.cells false false n.c]) (.sl true 0 []) = some (.sl true 0 []) from xEl _ _ _ _)
  have hl := xDf e (.sl true 0 []) was (.bool false)
  have hdv : List.take 1 (List.drop 2 (stC e (.sl true 0 []) was (.bool false))) = [.sl true 0 []] := rfl
  have hput : List.take 2 (stC e (.sl true 0 []) was (.bool false)) ++ .own false (G.length + 1) 0 1 8 :: List.drop 3 (stC e (.sl true 0 []) was (.bool false)) = stC e (.own false (G.length + 1) 0 1 8) was (.bool false) := rfl
  change L.pcall (78 + n.op) [.vptr (stC e (.sl true 0 []) was (.bool false)) 0,.agg n.c] = _ at hp
  refine ⟨G.set s (.cells false false (stC e (.own false (G.length + 1) 0 1 8) was (.bool false))) ++ [.cells false false n.c,.cells false false (w64 (tw q))],.own false (G.length + 1) 0 1 8,?_,⟨?_,?_,?_,⟨was,?_⟩,.inr ⟨G.length + 1,rfl,?_,by simp,by omega⟩,o1,o2,o3,o4⟩,?_⟩
  ·generalize stC e (.own false (G.length + 1) 0 1 8) was (.bool false) = C2 at *
   generalize stC e (.sl true 0 []) was (.bool false) = C at *
   unfold xCb at hp
   unfold Nd.c at hp hfz ⊢
   rw [hnv] at hp hfz ⊢
   have htk := tk8 q
   have hcq := xBt (tw q)
   have hsc := xK3 (tw q)
   rw [xMP]
   simp (maxSteps := 30000000) (disch := first|exact D4|fail) only [xHE,WB,hltI,↓reduceIte,xAs,Nd.c,hn,hnv,AV.cells,AV.isCell,Nat.reduceAdd,xBq,xBG,h51,xAA,xAm,xAS,gs,hdv,xQi,WM,gp,hf,hfz,hp,hsc,xAn,W2,xAd,Nat.reduceMul,hcq,Nat.reduceBEq,hput,xDp,xJu]
  ·rw [xAS (by simpa using lm),xBH (by omega)]; exact gm
  ·rw [xAS (by simpa using lb),xBH (by omega)]; exact gb
  ·rw [xAS (by simpa using lp),xBH (by omega)]; exact gp
  ·rw [xAS (by simpa using ls),xEJ ls]
  ·rw [xH6 (by simp)]
   show some _ = _
   rw [yCC]; rfl
  ·exact (Kp.set (by omega)).trans (Kp.appB _ _ (by simp; omega))
 ·have hp := evp (e := e) (qs := qs) (was := was) (fb := .bool false) (z := false) hv ht
  generalize evN n e qs fQ = q at *
  have ld := xA4 gd
  have hfd : frz 5 (G ++ [.cells false false n.c]) (.own false d 0 qs.length 8) = some (.sl false qs.length (rT qs)) := by
   have hl8 := xAf qs
   rw [xAR,xAS ld,gd,xFI (by omega),List.drop_zero,List.take_of_length_le (by omega),yCB]
   rfl
  have hfz := xUN 5 (G ++ [.cells false false n.c]) e was false hfd
  have hl := xDf e (.own false d 0 qs.length 8) was (.bool false)
  have hdv : List.take 1 (List.drop 2 (stC e (.own false d 0 qs.length 8) was (.bool false))) = [.own false d 0 qs.length 8] := rfl
  have hput : List.take 2 (stC e (.own false d 0 qs.length 8) was (.bool false)) ++ .own false (G.length + 1) 0 (qs.length + 1) 8 :: List.drop 3 (stC e (.own false d 0 qs.length 8) was (.bool false)) = stC e (.own false (G.length + 1) 0 (qs.length + 1) 8) was (.bool false) := rfl
  have hsn := xUP qs q
  have hl8 := xAf qs
  have htka : List.take (qs.length * 8) (rT qs) = rT qs := List.take_of_length_le (by omega)
  have hmd : m ≠ d := by omega
  refine ⟨(G.set d .dead).set s (.cells false false (stC e (.own false (G.length + 1) 0 (qs.length + 1) 8) was (.bool false))) ++ [.cells false false n.c,.cells false false (rT (qs ++ [q]))],.own false (G.length + 1) 0 (qs.length + 1) 8,?_,⟨?_,?_,?_,⟨was,?_⟩,.inr ⟨G.length + 1,by simp,?_,by simp,by omega⟩,o1,o2,o3,o4⟩,?_⟩
  ·generalize stC e (.own false (G.length + 1) 0 (qs.length + 1) 8) was (.bool false) = C2 at *
   generalize stC e (.own false d 0 qs.length 8) was (.bool false) = C at *
   generalize stC e (.sl false qs.length (rT qs)) was (.bool false) = C3 at *
   unfold xCb at hp
   unfold Nd.c at hp hfz ⊢
   rw [hnv] at hp hfz ⊢
   have htk := tk8 q
   have hcq := xBt (tw q)
   have hsc := xK3 (tw q)
   have hnd : s ≠ d := by omega
   rw [xMP]
   simp (maxSteps := 30000000) (disch := first|exact D4|fail) only [xHE,WB,hltI,↓reduceIte,xAs,Nd.c,hn,hnv,AV.cells,AV.isCell,Nat.reduceAdd,xBq,xBG,h51,xAA,xAm,xAS,gs,hdv,xQi,WM,gp,hf,hfz,hp,hsc,xAn,W2,xAd,Nat.reduceMul,hcq,gd,Nat.reduceBEq,xDp,htka,hsn,xBH,hput,xJu]
  ·rw [xAS (by simpa using lm),xBH (by omega),xBH (by omega)]; exact gm
  ·rw [xAS (by simpa using lb),xBH (by omega),xBH (by omega)]; exact gb
  ·rw [xAS (by simpa using lp),xBH (by omega),xBH (by omega)]; exact gp
  ·rw [xAS (by simpa using ls),xEJ (by simpa using ls)]
  ·rw [xH6 (by simp)]; rfl
  ·exact ((Kp.set (by omega)).trans (Kp.set (by omega))).trans (Kp.appB _ _ (by simp; omega))
end
section
variable {e : Ev} {fz : Bool} {fs : List Nd} {m mp s sb at_ i : Nat} {G : Heap} {st : List Nat} {qs : List Q} {dv : AV} {n : Nd}
theorem yAe (e : Ev) (dv : AV) (was was' : Q) (fb : AV) : List.take 3 (stC e dv was fb) ++ (w64 (tw was') ++ List.drop 11 (stC e dv was fb)) = stC e dv was' fb := by
 have : List.drop 11 (stC e dv was fb) = [fb] := by
  show List.drop 8 (w64 (tw was) ++ [fb]) = _
  rw [List.drop_append_of_le_length (by rw [xAV,xAd]; omega),List.drop_of_length_le (by rw [xAV,xAd]; omega)]
  rfl
 rw [this]; rfl
theorem yCE (h : SI e fz fs m mp s sb G st qs dv) (hi : qs.length = i) (hlt : i < fs.length) (hlen : fs.length ≤ 1000) (hn : fs.getD i nd0 = n) (hv : Vn qs.length n) (ht : tmp n.op = true)
  (hat : at_ + 64 ≤ st.length) (hst : st.length ≤ 100000) (hb : ∀ x ∈ st,x < 256) :
  ∃ G' dv',L.loop xEo xKD ⟨F22 m mp s fz fs at_ i,G⟩ = L.loop xEo xKD ⟨F22 m mp s fz fs (at_ + 64) (i + 1),G'⟩ ∧
   SI e fz fs m mp s sb G' (xLd st at_ (xEI n qs (evN n e qs (qOf ((st.drop at_).take 64)))) 64) (qs ++ [evN n e qs (qOf ((st.drop at_).take 64))]) dv' ∧ Kt mp sb G G' := by
 obtain ⟨gm,gb,gp,⟨was,gs⟩,gd,o1,o2,o3,o4⟩ := h
 have hltI : ((i : Nat) : Int) < (fs.length : Nat) := by omega
 have h51 := yAd hv.op
 rw [ht] at h51
 have hf := xUO hv.op
 have lm := xA4 gm
 have lb := xA4 gb
 have lp := xA4 gp
 have ls := xA4 gs
 have hnv : xA2 n.z n.args = .sl n.z n.args.length (xAB n.args) := rfl
 have hch : 1 ≤ chn n.op := by
  have : n.op = 8 ∨ n.op = 9 ∨ n.op = 10 := by unfold tmp at ht; simp at ht; omega
  rcases this with h | h | h <;> rw [h] <;> decide
 have hA := xAF (hv.ca hch)
 rcases gd with ⟨rfl,rfl⟩ | ⟨d,rfl,gd,hq,hsd⟩
 ·simp at hA
 have ld := xA4 gd
 have hrow : ((st.drop at_).take 64).length = 64 := by simp; omega
 have hrb : ∀ x ∈ (st.drop at_).take 64,x < 256 := fun x hx => hb x (List.mem_of_mem_drop (List.mem_of_mem_take hx))
 have h56 := yCT (z := false) hrow hrb
 generalize qOf ((st.drop at_).take 64) = w at *
 have hput3 := yAe e (.own false d 0 qs.length 8) was w (.bool false)
 have hl := xDf e (.own false d 0 qs.length 8) was (.bool false)
 have gsW : (G.set s (.cells false false (stC e (.own false d 0 qs.length 8) w (.bool false))) ++ [.cells false false n.c])[s]? = some (.cells false false (stC e (.own false d 0 qs.length 8) w (.bool false))) := by
  rw [xAS (by simpa using ls),xEJ ls]
 have gdW : (G.set s (.cells false false (stC e (.own false d 0 qs.length 8) w (.bool false))) ++ [.cells false false n.c])[d]? = some (.cells false false (rT qs)) := by
  rw [xAS (by simpa using ld),xBH (by omega)]; exact gd
 obtain ⟨G1,e1,k1⟩ := evt gsW (.inr ⟨d,rfl,gdW,hq⟩) hv ht
 have hkeep : xEI n qs (evN n e qs w) = xEI n qs (evN n e qs w) := rfl
 generalize evN n e qs w = q at *
 have len1 := k1.1
 simp only [List.length_append,List.length_cons,List.length_nil,List.length_set] at len1 k1
 have gm1 : G1[m]? = some (.cells false false [.sl fz fs.length (nds fs),.own false sb 0 st.length 1]) := by rw [k1.2 m (by omega),xAS (by simpa using lm),xBH (by omega)]; exact gm
 have gb1 : G1[sb]? = some (.cells false false (bs st)) := by rw [k1.2 sb (by omega),xAS (by simpa using lb),xBH (by omega)]; exact gb
 have gp1 : G1[mp]? = some (.mp xOz) := by rw [k1.2 mp (by omega),xAS (by simpa using lp),xBH (by omega)]; exact gp
 have gs1 : G1[s]? = some (.cells false false (stC e (.own false d 0 qs.length 8) w (.bool false))) := by rw [k1.2 s (by omega)]; exact gsW
 have gd1 : G1[d]? = some (.cells false false (rT qs)) := by rw [k1.2 d (by omega)]; exact gdW
 have gn1 : G1[G.length]? = some (.cells false false n.c) := by rw [k1.2 _ (by omega),xBq (by simp)]; rfl
 have hl1 := xDf e (.own false d 0 qs.length 8) w (.bool false)
 have hdv : List.take 1 (List.drop 2 (stC e (.own false d 0 qs.length 8) w (.bool false))) = [.own false d 0 qs.length 8] := rfl
 have hput : List.take 2 (stC e (.own false d 0 qs.length 8) w (.bool false)) ++ .own false (G1.length + 1) 0 (qs.length + 1) 8 :: List.drop 3 (stC e (.own false d 0 qs.length 8) w (.bool false)) = stC e (.own false (G1.length + 1) 0 (qs.length + 1) 8) w (.bool false) := rfl
 have hsn := xUP qs q
 have hl8 := xAf qs
 have hl9 := xAf (qs ++ [q])
 rw [List.length_append,List.length_cons,List.length_nil] at hl9
 have htka : List.take (qs.length * 8) (rT qs) = rT qs := List.take_of_length_le (by omega)
 have htk := tk8 q
 have hcq := xBt (tw q)
 have hsc := xK3 (tw w)
 have hcw := xBt (tw w)
 have hnd : s ≠ d := by omega
 have hbl : (bs st).length = st.length := xBE st
 have hz := xUK (G := G1 ++ [z8]) (o := G1.length) q
 have hbd : xBh st.length (some (.int .i64 (at_ : Nat))) (some (.int .i64 ((at_ : Int) + 64))) (some (.int .i64 ((at_ : Int) + 64))) = some (at_,at_ + 64) := by
  have h1 : (0 : Int) ≤ (at_ : Int) + 64 := by omega
  have h2 : ((at_ : Int) + 64).toNat = at_ + 64 := by omega
  simp only [xBh,xBn,h1,if_true,h2,Int.natCast_nonneg,Int.toNat_natCast]
  rw [if_pos ⟨by omega,hat⟩,if_pos ⟨Nat.le_refl _,hat⟩]
 by_cases c8 : n.op = 8
 ·have c8' : (((n.op : Nat) : Int) = 8) = True := eq_true (by omega)
  have hk : xEI n qs q = qs.getD n.a.toNat fQ := if_pos c8
  rw [hk]
  clear hk hkeep
  generalize n.a.toNat = A at *
  have hA2 : A < (qs ++ [q]).length := by simp; omega
  have hgA : (qs ++ [q]).getD A fQ = qs.getD A fQ := by
   rw [List.getD_eq_getElem?_getD,List.getElem?_append_left hA.2,List.getD_eq_getElem?_getD]
  have hrA := xNi hA2
  rw [hgA] at hrA
  generalize qs.getD A fQ = k at *
  have htkk := tk8 k
  have hck := xBt (tw k)
  have haN := hA.1
  have hl2 := xDf e (.own false (G1.length + 1) 0 (qs.length + 1) 8) w (.bool false)
  have hdv2 : List.take 1 (List.drop 2 (stC e (.own false (G1.length + 1) 0 (qs.length + 1) 8) w (.bool false))) = [.own false (G1.length + 1) 0 (qs.length + 1) 8] := rfl
  have hz2 := xGy (G := ((G1.set d .dead).set s (.cells false false (stC e (.own false (G1.length + 1) 0 (qs.length + 1) 8) w (.bool false)))) ++ [.cells false false (w64 (tw q)),.cells false false (rT (qs ++ [q]))]) (o := G1.length) (z := false) (l := tw k) (l' := tw q) (by rw [xAd,xAd])
  rw [xBG (by simp)] at hz2
  simp only [List.set_cons_zero] at hz2
  have X : (((G1.set d .dead).set s (.cells false false (stC e (.own false (G1.length + 1) 0 (qs.length + 1) 8) w (.bool false)))) ++ [.cells false false (w64 (tw k)),.cells false false (rT (qs ++ [q]))])[sb]? = some (.cells false false (bs st)) := by
   rw [xAS (by simp; omega),xBH (by omega),xBH (by omega)]; exact gb1
  have h57 := xUX (q := k) hat X
  rw [xDp (by simp; omega)] at h57
  simp only [List.append_assoc,List.cons_append,List.nil_append] at h57
  refine ⟨((G1.set d .dead).set s (.cells false false (stC e (.own false (G1.length + 1) 0 (qs.length + 1) 8) w (.bool false)))).set sb (.cells false false (bs (xLd st at_ k 64))) ++ [.cells false false (w64 (tw k)),.cells false false (rT (qs ++ [q])),.cells false false (w64 (tw k))],.own false (G1.length + 1) 0 (qs.length + 1) 8,?_,⟨?_,?_,?_,⟨w,?_⟩,.inr ⟨G1.length + 1,by simp,?_,by simp,by omega⟩,o1,o2,o3,o4⟩,?_⟩
  ·generalize stC e (.own false (G1.length + 1) 0 (qs.length + 1) 8) w (.bool false) = C2 at *
   generalize stC e (.own false d 0 qs.length 8) w (.bool false) = C1 at *
   generalize stC e (.own false d 0 qs.length 8) was (.bool false) = C at *
   unfold xCb at e1 h56 h57
   unfold Nd.c at e1 gn1
   rw [hnv,haN] at e1 gn1
   rw [xMP]
   simp (maxSteps := 30000000) (disch := first|exact D4|fail) only [xHE,WB,hltI,↓reduceIte,xAs,Nd.c,hn,hnv,haN,AV.cells,AV.isCell,Nat.reduceAdd,xBq,xBG,h51,xAA,xAm,xAS,gm,hbd,Nat.add_sub_cancel_left,xAR,gb,h56,hsc,W2,xAd,gs,hput3,xDp,WM,xBH,gp,hf,e1,hz,gs1,hdv,xAn,xAJ,htk,Nat.reduceMul,hcq,gd1,Nat.reduceBEq,htka,hsn,hput,gn1,c8',xEJ,hdv2,xH6,hrA,hz2,htkk,h57,xJu]
   rfl
  ·rw [xAS (by simp; omega),xBH (by omega),xBH (by omega),xBH (by omega),xK5 k hat (by omega)]; exact gm1
  ·rw [xAS (by simp; omega),xEJ (by simp; omega)]
  ·rw [xAS (by simp; omega),xBH (by omega),xBH (by omega),xBH (by omega)]; exact gp1
  ·rw [xAS (by simp; omega),xBH (by omega),xEJ (by simp; omega)]
  ·rw [xH6 (by simp)]; rfl
  ·have q1 : Kt mp sb G G1 := ((Kp.set (by omega)).trans ((Kp.appB _ _ (by simp; omega)).trans (k1.low (by omega)))).kt
   have q2 : Kt mp sb G1 ((G1.set d .dead).set s (.cells false false (stC e (.own false (G1.length + 1) 0 (qs.length + 1) 8) w (.bool false)))) := ((Kp.set (by omega)).trans (Kp.set (by omega))).kt
   exact (q1.trans q2).trans (Kt.set.trans (Kp.appB _ _ (by simp; omega)).kt)
 ·have c8' : ¬ ((n.op : Nat) : Int) = 8 := by omega
  have hk : xEI n qs q = q := if_neg c8
  rw [hk]
  have X : (((G1.set d .dead).set s (.cells false false (stC e (.own false (G1.length + 1) 0 (qs.length + 1) 8) w (.bool false)))) ++ [.cells false false (w64 (tw q)),.cells false false (rT (qs ++ [q]))])[sb]? = some (.cells false false (bs st)) := by
   rw [xAS (by simp; omega),xBH (by omega),xBH (by omega)]; exact gb1
  have h57 := xUX (q := q) hat X
  rw [xDp (by simp; omega)] at h57
  simp only [List.append_assoc,List.cons_append,List.nil_append] at h57
  refine ⟨((G1.set d .dead).set s (.cells false false (stC e (.own false (G1.length + 1) 0 (qs.length + 1) 8) w (.bool false)))).set sb (.cells false false (bs (xLd st at_ q 64))) ++ [.cells false false (w64 (tw q)),.cells false false (rT (qs ++ [q])),.cells false false (w64 (tw q))],.own false (G1.length + 1) 0 (qs.length + 1) 8,?_,⟨?_,?_,?_,⟨w,?_⟩,.inr ⟨G1.length + 1,by simp,?_,by simp,by omega⟩,o1,o2,o3,o4⟩,?_⟩
  ·generalize stC e (.own false (G1.length + 1) 0 (qs.length + 1) 8) w (.bool false) = C2 at *
   generalize stC e (.own false d 0 qs.length 8) w (.bool false) = C1 at *
   generalize stC e (.own false d 0 qs.length 8) was (.bool false) = C at *
   unfold xCb at e1 h56 h57
   unfold Nd.c at e1 gn1
   rw [hnv] at e1 gn1
   rw [xMP]
   simp (maxSteps := 30000000) (disch := first|exact D4|fail) only [xHE,WB,hltI,↓reduceIte,xAs,Nd.c,hn,hnv,AV.cells,AV.isCell,Nat.reduceAdd,xBq,xBG,h51,xAA,xAm,xAS,gm,hbd,Nat.add_sub_cancel_left,xAR,gb,h56,hsc,W2,xAd,gs,hput3,xDp,WM,xBH,gp,hf,e1,hz,gs1,hdv,xAn,xAJ,htk,Nat.reduceMul,hcq,gd1,Nat.reduceBEq,htka,hsn,hput,gn1,c8',h57,xJu]
   rfl
  ·rw [xAS (by simp; omega),xBH (by omega),xBH (by omega),xBH (by omega),xK5 q hat (by omega)]; exact gm1
  ·rw [xAS (by simp; omega),xEJ (by simp; omega)]
  ·rw [xAS (by simp; omega),xBH (by omega),xBH (by omega),xBH (by omega)]; exact gp1
  ·rw [xAS (by simp; omega),xBH (by omega),xEJ (by simp; omega)]
  ·rw [xH6 (by simp)]; rfl
  ·have q1 : Kt mp sb G G1 := ((Kp.set (by omega)).trans ((Kp.appB _ _ (by simp; omega)).trans (k1.low (by omega)))).kt
   have q2 : Kt mp sb G1 ((G1.set d .dead).set s (.cells false false (stC e (.own false (G1.length + 1) 0 (qs.length + 1) 8) w (.bool false)))) := ((Kp.set (by omega)).trans (Kp.set (by omega))).kt
   exact (q1.trans q2).trans (Kt.set.trans (Kp.appB _ _ (by simp; omega)).kt)
end
end Go.Abs.Events
