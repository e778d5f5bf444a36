/- EqualBytes,EqualBools,Save,Load. -/
import Derived.Test.YtdheandekcpieaaDoorAbsBun
import Derived.Test.YtdheandekcpieaaDoorAMD
namespace Go.Abs.Events
open Go Go.Abs
set_option linter.unusedSimpArgs false
set_option linter.unusedVariables false
theorem xIk {α : Type} {a : List α} {d : α} {i : Nat} (h : i < a.length) : a.drop i = a.getD i d :: a.drop (i + 1) := by
 rw [List.drop_eq_getElem_cons h,List.getD_eq_getElem?_getD,List.getElem?_eq_getElem h]; rfl
theorem xOx {α : Type} {a b : List α} (h : a.length = b.length) (d : α) {i : Nat} (hi : i < a.length) : (a.drop i = b.drop i) ↔ (a.getD i d = b.getD i d ∧ a.drop (i + 1) = b.drop (i + 1)) := by
 rw [xIk (d := d) hi,xIk (d := d) (show i < b.length by omega)]
 simp
section
variable {o1 o2 : Nat} {a b : List Nat} {H : Heap} {f1 f2 z1 z2 : Bool}
theorem yC6 (h1 : H[o1]? = some (.cells f1 z1 (bs a))) (h2 : H[o2]? = some (.cells f2 z2 (bs b))) (hl : a.length = b.length) (hm : a.length < 1099511627776) : ∀ e i,i + e = a.length →
  ∃ j : Nat,L.loop xJB xTR ⟨xE5 (.own false o1 0 a.length 1) (.own false o2 0 b.length 1) (.bool false) (.int .i64 (i : Nat)),H⟩ =
   some (if a.drop i = b.drop i then (.exit 0,⟨xE5 (.own false o1 0 a.length 1) (.own false o2 0 b.length 1) (.bool false) (.int .i64 (a.length : Nat)),H⟩)
    else (.ret,⟨xE5 (.own false o1 0 a.length 1) (.own false o2 0 b.length 1) (.bool false) (.int .i64 (j : Nat)),H⟩)) := by
 intro e
 induction e with
 | zero =>
  intro i h
  obtain rfl : i = a.length := by omega
  refine ⟨0,?_⟩
  rw [if_pos (by rw [List.drop_length,hl,List.drop_length]),xJC]
  simp (maxSteps := 30000000) (disch := first | assumption | omega | (simp only [WZ,AV.isCell] <;> omega) | rfl | decide) only [xEi,WB,↓reduceIte,xDo]
 | succ e ih =>
  intro i h
  have hlt : (i : Int) < (a.length : Nat) := by omega
  obtain ⟨j,ih'⟩ := ih (i + 1) (by omega)
  rw [← hl] at ih' ⊢
  have hd := xOx hl (0 : Nat) (show i < a.length by omega)
  by_cases c : a.getD i 0 = b.getD i 0
  ·refine ⟨j,?_⟩
   have hd' : (a.drop i = b.drop i) ↔ (a.drop (i + 1) = b.drop (i + 1)) := hd.trans ⟨fun h => h.2,fun h => ⟨c,h⟩⟩
   rw [xJC]
   by_cases e : a.drop (i + 1) = b.drop (i + 1)
   ·rw [if_pos e] at ih'
    rw [if_pos (hd'.2 e)]
    simp (maxSteps := 30000000) (disch := first | assumption | omega | (simp only [WZ,AV.isCell] <;> omega) | rfl | decide) only [xEi,WB,hlt,↓reduceIte,h1,c,xAh,h2,xDo,ih']
   ·rw [if_neg e] at ih'
    rw [if_neg (fun h => e (hd'.1 h))]
    simp (maxSteps := 30000000) (disch := first | assumption | omega | (simp only [WZ,AV.isCell] <;> omega) | rfl | decide) only [xEi,WB,hlt,↓reduceIte,h1,c,xAh,h2,xDo,ih']
  ·refine ⟨i,?_⟩
   have c' : (((a.getD i 0 : Nat) : Int) = ((b.getD i 0 : Nat) : Int)) = False := eq_false (by omega)
   rw [if_neg (fun h => c (hd.1 h).1),xJC]
   simp (maxSteps := 30000000) (disch := first | assumption | omega | (simp only [WZ,AV.isCell] <;> omega) | rfl | decide) only [xEi,WB,hlt,↓reduceIte,h1,xAh,h2,c',xDo]
theorem yDL (h1 : H[o1]? = some (.cells f1 z1 (bs a))) (h2 : H[o2]? = some (.cells f2 z2 (bs b))) (hm : a.length < 1099511627776) : L.icall (.func 25 []) [.own false o1 0 a.length 1,.own false o2 0 b.length 1] H = some (.bool (decide (a = b)),H) := by
 by_cases hl : a.length = b.length
 ·obtain ⟨j,h⟩ := yC6 h1 h2 hl hm a.length 0 (by omega)
  simp only [Int.natCast_zero,List.drop_zero] at h
  rw [yBV,a25,xAm]
  by_cases c : a = b
  ·rw [if_pos c] at h
   rw [decide_eq_true c]
   rw [← hl] at h ⊢
   simp (disch := omega) only [WB,Nat.reduceAdd,Nat.reduceSub,↓reduceIte,xDo,h]
  ·rw [if_neg c] at h
   rw [decide_eq_false c]
   rw [← hl] at h ⊢
   simp (disch := omega) only [WB,Nat.reduceAdd,Nat.reduceSub,↓reduceIte,xDo,h]
 ·have hl' : (((a.length : Nat) : Int) = ((b.length : Nat) : Int)) = False := eq_false (by omega)
  rw [decide_eq_false (fun e => hl (by rw [e])),yBV,a25,xAm]
  simp (disch := omega) only [WB,Nat.reduceAdd,Nat.reduceSub,hl',↓reduceIte]
end
theorem yC7 {z1 z2 : Bool} {a b : List Bool} {H : Heap} (hl : a.length = b.length) (hm : a.length < 1099511627776) : ∀ e i,i + e = a.length →
  ∃ j : Nat,L.loop xMZ xV6 ⟨xJR (.sl z1 a.length (bls a)) (.sl z2 b.length (bls b)) (.bool false) (.int .i64 (i : Nat)),H⟩ =
   some (if a.drop i = b.drop i then (.exit 0,⟨xJR (.sl z1 a.length (bls a)) (.sl z2 b.length (bls b)) (.bool false) (.int .i64 (a.length : Nat)),H⟩)
    else (.ret,⟨xJR (.sl z1 a.length (bls a)) (.sl z2 b.length (bls b)) (.bool false) (.int .i64 (j : Nat)),H⟩)) := by
 intro e
 induction e with
 | zero =>
  intro i h
  obtain rfl : i = a.length := by omega
  refine ⟨0,?_⟩
  rw [if_pos (by rw [List.drop_length,hl,List.drop_length]),xT2]
  simp (maxSteps := 30000000) (disch := first | assumption | omega | (simp only [WZ,AV.isCell] <;> omega) | rfl | decide) only [xJQ,WB,↓reduceIte,xJS]
 | succ e ih =>
  intro i h
  have hlt : (i : Int) < (a.length : Nat) := by omega
  obtain ⟨j,ih'⟩ := ih (i + 1) (by omega)
  rw [← hl] at ih' ⊢
  have hd := xOx hl false (show i < a.length by omega)
  generalize hx : a.getD i false = x at *
  generalize hy : b.getD i false = y at *
  by_cases c : x = y
  ·subst c
   refine ⟨j,?_⟩
   have hd' : (a.drop i = b.drop i) ↔ (a.drop (i + 1) = b.drop (i + 1)) := hd.trans ⟨fun h => h.2,fun h => ⟨rfl,h⟩⟩
   have hbx : (x == x) = true := by cases x <;> rfl
   rw [xT2]
   by_cases e : a.drop (i + 1) = b.drop (i + 1)
   ·rw [if_pos e] at ih'
    rw [if_pos (hd'.2 e)]
    simp (maxSteps := 30000000) (disch := first | assumption | omega | (simp only [WZ,AV.isCell] <;> omega) | rfl | decide) only [xJQ,WB,hlt,↓reduceIte,xFZ,hx,xAh,hy,xJS,ih']
   ·rw [if_neg e] at ih'
    rw [if_neg (fun h => e (hd'.1 h))]
    simp (maxSteps := 30000000) (disch := first | assumption | omega | (simp only [WZ,AV.isCell] <;> omega) | rfl | decide) only [xJQ,WB,hlt,↓reduceIte,xFZ,hx,xAh,hy,xJS,ih']
  ·refine ⟨i,?_⟩
   have c' : (x == y) = false := by simpa using c
   rw [if_neg (fun h => c (hd.1 h).1),xT2]
   simp (maxSteps := 30000000) (disch := first | assumption | omega | (simp only [WZ,AV.isCell] <;> omega) | rfl | decide) only [xJQ,WB,hlt,↓reduceIte,xFZ,hx,xAh,hy,xJS]
   rw [if_pos c]
theorem yEl {z1 z2 : Bool} {a b : List Bool} (hm : a.length < 1099511627776) : L.pcall 36 [.sl z1 a.length (bls a),.sl z2 b.length (bls b)] = some (.bool (decide (a = b))) := by
 by_cases hl : a.length = b.length
 ·obtain ⟨j,h⟩ := yC7 (z1 := z1) (z2 := z2) (H := []) hl hm a.length 0 (by omega)
  simp only [Int.natCast_zero,List.drop_zero] at h
  rw [yDA,a36,xAb]
  by_cases c : a = b
  ·rw [if_pos c] at h
   rw [decide_eq_true c]
   rw [← hl] at h ⊢
   simp (disch := omega) only [WB,Nat.reduceAdd,Nat.reduceSub,↓reduceIte,xJS,h]
  ·rw [if_neg c] at h
   rw [decide_eq_false c]
   rw [← hl] at h ⊢
   simp (disch := omega) only [WB,Nat.reduceAdd,Nat.reduceSub,↓reduceIte,xJS,h]
 ·have hl' : (((a.length : Nat) : Int) = ((b.length : Nat) : Int)) = False := eq_false (by omega)
  rw [decide_eq_false (fun e => hl (by rw [e])),yDA,a36,xAb]
  simp (disch := omega) only [WB,Nat.reduceAdd,Nat.reduceSub,hl',↓reduceIte]
def by8 (w : List Nat) : List UInt8 := w.map UInt8.ofNat
theorem xIj : ∀ {w : List Nat},(∀ x ∈ w,x < 256) → xIt (bs w) = some (by8 w)
 | [],_ => rfl
 | n :: l,h => by
  have hn := h n (by simp)
  have ih := xIj (w := l) (fun x hx => h x (by simp [hx]))
  have e : bs (n :: l) = .int .u8 (n : Nat) :: bs l := rfl
  rw [e,xIt,ih]
  simp [by8]
theorem xCj (l : List Nat) : List.take l.length (bs l) = bs l := List.take_of_length_le (by rw [xAz]; omega)
theorem xY4 {o1 o2 n : Nat} {a : List Nat} {H : Heap} {f1 f2 z1 z2 : Bool} (h1 : H[o1]? = some (.cells f1 z1 (bs a))) (h2 : H[o2]? = some (.cells f2 z2 (bs a))) (hn : a.length = n) (ha : ∀ x ∈ a,x < 256) : L.icall (.func 62 []) [.own false o1 0 n 1,.own false o2 0 n 1] H = some (.bool true,H) := by
 subst hn
 have hu := xIj ha
 have hbl := xAz a
 have hbt := xCj a
 rw [yDD,a62,xAm]
 simp (disch := omega) only [WB,Nat.reduceAdd,Nat.reduceSub,xUJ,h1,hbt,xFW,hu,xKh,h2,xAH,xAA]
section
variable {m sb n : Nat} {G : Heap} {st : List Nat} {f : AV}
set_option maxHeartbeats 1000000 in
theorem xUM (gb : G[sb]? = some (.cells false false (bs st))) (hn : st.length = n) (h0 : 0 < n) (hl : n < 1099511627776) :
  L.icall (.func 60 []) [.own false sb 0 n 1] G = some (.own false (G.length + 1) 0 n 1,G ++ [.dead,.cells false false (bs st)]) := by
 subst hn
 have hbt := xCj st
 have hbl := xAz st
 have lb := xA7 gb
 rw [yD8,a60,xAm]
 simp (disch := omega) only [WB,Nat.reduceSub,↓reduceIte,AV.cells,xAI,gb,hbt,xBD,xBX]
set_option maxHeartbeats 1000000 in
theorem xNt (gm : G[m]? = some (.cells false false [f,.own false sb 0 n 1])) (gb : G[sb]? = some (.cells false false (bs st))) (hn : st.length = n) (h0 : 0 < n) (hl : n < 1099511627776) :
  L.icall (.func 24 []) [.ptr m 0] G = some (.own false (G.length + 1) 0 n 1,G ++ [.dead,.cells false false (bs st)]) := by
 have h60 := xUM gb hn h0 hl
 rw [yDU,a24,xAm]
 simp (maxSteps := 30000000) (disch := first | assumption | omega | (simp only [WZ,AV.isCell] <;> omega) | rfl | decide) only [WB,Nat.reduceSub,xEC,xGI,↓reduceIte,gm,h60]
end
section
variable {fs : List Nd} {ws : List (List Nat)} {h ob : Nat} {G : Heap}
set_option maxHeartbeats 4000000 in
theorem yBb (hc : chk fs = 0) (hw : ∀ j,j < fs.length → WN (fs.getD j nd0)) (hr : Rows fs ws) (gb : G[ob]? = some (.cells false false (bs (h :: ws.flatten)))) (hh : h = 1 ∨ (h = 0 ∧ ws = zr (nT fs))) :
  ∃ (G' : Heap) (m sb : Nat),L.icall (.func 29 []) [.sl false fs.length (nds fs),.own false ob 0 (64 * ws.length + 1) 1] G = some (.tup [.ptr m 0,.int .i64 0],G') ∧ Mo false fs m sb G' ws h ∧ Kp G.length G G' ∧ G.length ≤ m ∧ G.length ≤ sb := by
 obtain ⟨G1,m,sb,e1,m1,k1,b1,b2⟩ := xRu hc hw G
 obtain ⟨h0,hlen,-⟩ := xIx hc
 have hrl : ws.length = nT fs := hr.1
 have hfl := hr.flen
 have hzl : (zr (nT fs)).length = nT fs := by simp [zr]
 have hnl := xRt fs
 obtain ⟨gm,gb1,ne,-,-⟩ := m1
 rw [hzl,← hrl] at gm
 have lob := xA7 gb
 have gob : G1[ob]? = some (.cells false false (bs (h :: ws.flatten))) := by rw [k1.2 ob lob]; exact gb
 have hst : (h :: ws.flatten).length = 64 * ws.length + 1 := by rw [List.length_cons,hfl]
 have h60 := xUM gob hst (by omega) (by omega)
 have lm := xA7 gm
 have lsb := xA7 gb1
 have lo1 := xA7 gob
 have hbt : List.take 1 (bs (h :: ws.flatten)) = [.int .u8 (h : Nat)] := rfl
 have hput : [AV.sl false fs.length (nds fs),.own false (G1.length + 1) 0 (64 * ws.length + 1) 1] = [AV.sl false fs.length (nds fs),.own false (G1.length + 1) 0 (64 * ws.length + 1) 1] := rfl
 refine ⟨G1.set m (.cells false false [.sl false fs.length (nds fs),.own false (G1.length + 1) 0 (64 * ws.length + 1) 1]) ++ [.dead,.cells false false (bs (h :: ws.flatten))],m,G1.length + 1,?_,⟨?_,?_,by omega,hr,by omega⟩,?_,b1,by have := k1.1; omega⟩
 ·rcases hh with rfl | ⟨rfl,hz⟩
  ·have hbl := xAz (1 :: ws.flatten)
   rw [hst] at hbl
   generalize bs (1 :: ws.flatten) = L1 at *
   rw [xXn,a29,xAm]
   simp (maxSteps := 30000000) (disch := first | assumption | omega | (simp only [WZ,AV.isCell] <;> omega) | rfl | decide) only [WB,Nat.reduceAdd,Nat.reduceSub,e1,↓reduceIte,gm,gob,hbt,Int.reduceEq,h60,AV.cells,xAI,xDs]
  ·have hbl := xAz (0 :: ws.flatten)
   rw [hst] at hbl
   rw [← hz] at gb1
   have h62 := xY4 gob gb1 hst (by
    intro x hx
    rcases List.mem_cons.1 hx with rfl | hx
    ·omega
    ·obtain ⟨w,hw1,hx⟩ := List.mem_flatten.1 hx
     exact (hr.2 w hw1).2 x hx)
   generalize bs (0 :: ws.flatten) = L1 at *
   rw [xXn,a29,xAm]
   simp (maxSteps := 30000000) (disch := first | assumption | omega | (simp only [WZ,AV.isCell] <;> omega) | rfl | decide) only [WB,Nat.reduceAdd,Nat.reduceSub,e1,↓reduceIte,gm,gob,hbt,Int.reduceLT,h62,h60,AV.cells,xAI,xDs]
 ·rw [xAI (by simpa using lm),xEm lm]
 ·rw [List.getElem?_append_right (by simp),List.length_set]; simp
 ·exact k1.trans ((Kp.set b1).trans (Kp.appB _ _ (by simp; exact k1.1)))
set_option maxHeartbeats 4000000 in
theorem xKj {n : Nat} (hc : chk fs = 0) (hw : ∀ j,j < fs.length → WN (fs.getD j nd0)) (hn : n ≠ 64 * nT fs + 1) :
  ∃ (G' : Heap),L.icall (.func 29 []) [.sl false fs.length (nds fs),.own false ob 0 n 1] G = some (.tup [.nilp,.int .i64 2],G') ∧ Kp G.length G G' := by
 obtain ⟨G1,m,sb,e1,m1,k1,b1,b2⟩ := xRu hc hw G
 obtain ⟨gm,gb1,ne,-,-⟩ := m1
 have hzl : (zr (nT fs)).length = nT fs := by simp [zr]
 rw [hzl] at gm
 have hn' : ¬ ((n : Nat) : Int) = ((64 * nT fs + 1 : Nat) : Int) := by omega
 refine ⟨G1,?_,k1⟩
 rw [xXn,a29,xAm]
 simp (maxSteps := 30000000) (disch := first | assumption | omega | (simp only [WZ,AV.isCell] <;> omega) | rfl | decide) only [WB,Nat.reduceAdd,Nat.reduceSub,e1,↓reduceIte,gm,hn']
end
def E5 (p q : Q) : Prop := ∀ j,j < 512 → p j = q j
def EL (ps qs : List Q) : Prop := ps.length = qs.length ∧ ∀ i,E5 (ps.getD i fQ) (qs.getD i fQ)
theorem E5.refl (p : Q) : E5 p p := fun _ _ => rfl
theorem EL.nil : EL [] [] := ⟨rfl,fun _ => .refl _⟩
theorem EL.snoc {ps qs : List Q} {p q : Q} (h : EL ps qs) (hp : E5 p q) : EL (ps ++ [p]) (qs ++ [q]) := by
 refine ⟨by simp [h.1],fun i => ?_⟩
 by_cases c : i < ps.length
 ·rw [List.getD_eq_getElem?_getD,List.getElem?_append_left c,List.getD_eq_getElem?_getD,List.getElem?_append_left (h.1 ▸ c),← List.getD_eq_getElem?_getD,← List.getD_eq_getElem?_getD]
  exact h.2 i
 ·rw [List.getD_eq_getElem?_getD,List.getElem?_append_right (by omega),List.getD_eq_getElem?_getD,List.getElem?_append_right (by have := h.1; omega),← h.1]
  by_cases c2 : i - ps.length = 0
  ·rw [c2]; exact hp
  ·rw [List.getElem?_eq_none (by simp; omega),List.getElem?_eq_none (by simp; omega)]; exact .refl _
theorem xY5 {x : Nat} {p q : Q} (h : E5 p q) : E5 (exQ x p) (exQ x q) := by
 intro j hj
 unfold exQ oQ
 rw [Bool.eq_iff_iff,List.any_eq_true,List.any_eq_true]
 constructor
 ·rintro ⟨s,hs,hc⟩
  refine ⟨s,hs,?_⟩
  rw [← h s (List.mem_range.1 hs)]; exact hc
 ·rintro ⟨s,hs,hc⟩
  refine ⟨s,hs,?_⟩
  rw [h s (List.mem_range.1 hs)]; exact hc
theorem xUN {n : Nd} {e : Ev} {qs qs' : List Q} {was was' : Q} (h : EL qs qs') (hw : E5 was was') : E5 (evN n e qs was) (evN n e qs' was') := by
 have ha := h.2 n.a.toNat
 have hb := h.2 n.b.toNat
 unfold evN
 split
 ·exact .refl _
 split
 ·exact .refl _
 split
 ·exact .refl _
 split
 ·intro j hj
  simp only [ha j hj]
 split
 ·intro j hj
  simp only [ha j hj,hb j hj]
 split
 ·intro j hj
  simp only [ha j hj,hb j hj]
 split
 ·exact xY5 ha
 split
 ·exact hw
 split
 ·intro j hj
  simp only [ha j hj,hb j hj,hw j hj]
 ·intro j hj
  simp only [ha j hj,hw j hj]
def xIl (e : Ev) : List Nd → List Q → List Q → List Q × List Q
 | [],qs,_ => (qs,[])
 | n :: fs,qs,ms => if tmp n.op = true then
   let q := evN n e qs (ms.headD fQ)
   let r := xIl e fs (qs ++ [q]) ms.tail
   (r.1,xDj n qs q :: r.2)
  else xIl e fs (qs ++ [evN n e qs fQ]) ms
theorem xY6 : E5 (qOf []) fQ := by
 intro j _
 show ((([] : List Nat).getD (j / 8) 0)).testBit (j % 8) = false
 simp
theorem xFe (e : Ev) : ∀ (fs : List Nd) (qs qs' : List Q) (ms : List Q),EL qs qs' → EL (xAM e fs qs (ms.map bsQ)).1 (xIl e fs qs' ms).1 ∧ (xAM e fs qs (ms.map bsQ)).2 = (xIl e fs qs' ms).2.map bsQ
 | [],qs,qs',ms,h => ⟨h,rfl⟩
 | n :: fs,qs,qs',ms,h => by
  rw [xAM,xIl]
  split
  ·have hw : E5 (qOf ((ms.map bsQ).headD [])) (ms.headD fQ) := by
    cases ms with
    | nil => exact xY6
    | cons m ms => exact xZJ m
   have hq := xUN (n := n) (e := e) h hw
   have ht : (ms.map bsQ).tail = ms.tail.map bsQ := by cases ms <;> rfl
   have ih := xFe e fs _ _ ms.tail (h.snoc hq)
   rw [ht]
   refine ⟨ih.1,?_⟩
   have hk : bsQ (xDj n qs (evN n e qs (qOf ((ms.map bsQ).headD [])))) = bsQ (xDj n qs' (evN n e qs' (ms.headD fQ))) := by
    refine xOI ?_
    unfold xDj
    split
    ·exact h.2 _
    ·exact hq
   rw [List.map_cons,← ih.2,← hk]
  ·exact xFe e fs _ _ ms (h.snoc (xUN h (.refl _)))
def vQL (fs : List Nd) : List Ev → List Q → List Bool
 | [],_ => []
 | e :: es,ms => ((xIl e fs [] ms).1.getD (fs.length - 1) fQ) 0 :: vQL fs es (xIl e fs [] ms).2
theorem xUO (fs : List Nd) (e : Ev) (ms : List Q) : xF0 fs e (ms.map bsQ) = ((xIl e fs [] ms).1.getD (fs.length - 1) fQ) 0 := (xFe e fs [] [] ms .nil).1.2 _ 0 (by omega)
theorem yC8 (fs : List Nd) : ∀ (es : List Ev) (ms : List Q),vL fs es (ms.map bsQ) = vQL fs es ms
 | [],_ => rfl
 | e :: es,ms => by
  rw [vL,vQL,xUO,(xFe e fs [] [] ms .nil).2,yC8 fs es]
theorem xQi : bsQ fQ = List.replicate 64 0 := by decide +kernel
theorem yC9 (c : Nat) : zr c = (List.replicate c fQ).map bsQ := by
 unfold zr
 rw [List.map_replicate,xQi]
def e1 (name : Int) (a : Int) : Ev := ⟨name,false,[a]⟩
def e0 (name : Int) : Ev := ⟨name,true,[]⟩
def fA : List Nd := [⟨2,1,false,[8],0,0,0⟩,⟨2,0,false,[8],0,0,0⟩,⟨10,0,true,[],0,1,0⟩,⟨4,0,true,[],0,2,0⟩,⟨5,0,true,[],0,0,3⟩,⟨7,0,true,[],8,4,0⟩]
def fB : List Nd := [⟨2,2,true,[],0,0,0⟩,⟨4,0,true,[],0,0,0⟩,⟨2,0,false,[1],0,0,0⟩,⟨9,0,true,[],0,1,2⟩]
def fC : List Nd := [⟨2,0,false,[9,9],0,0,0⟩,⟨7,0,true,[],9,0,0⟩,⟨8,0,true,[],0,1,0⟩]
theorem yBZ : chk fA = 0 := by decide +kernel
theorem yEm : chk fB = 0 := by decide +kernel
theorem yEn : chk fC = 0 := by decide +kernel
theorem yEo : chk [⟨2,0,false,[8],0,0,0⟩] = 11 := by decide +kernel
def lA : List Ev := [e1 0 3,e1 1 3,e1 1 4,e1 0 4,e1 1 4]
def lB : List Ev := [e1 0 1,e0 1,e0 2,e1 0 2]
def lC : List Ev := [⟨0,false,[2,2]⟩,⟨0,false,[1,2]⟩,e0 1]
set_option maxRecDepth 100000 in
theorem vA : vQL fA lA [fQ] = [false,false,true,false,false] := by decide +kernel
theorem vB : vQL fB lB [fQ] = [true,true,false,false] := by decide +kernel
theorem vC : vQL fC lC [fQ] = [false,true,false] := by decide +kernel
def qA : Q := (xIl (e1 0 3) fA [] [fQ]).2.headD fQ
theorem sA : ((xIl (e1 0 3) fA [] [fQ]).1.getD 5 fQ) 0 = false := by decide +kernel
theorem sA2 : bsQ qA = List.replicate 24 0 ++ List.replicate 8 255 ++ List.replicate 32 0 := by decide +kernel
theorem xY7 (n : Int) (z : Bool) (k : Nat) (cs : List AV) : L.pcall 47 [.int .i64 n,.sl z k cs] = some (.agg [.int .i64 n,.sl z k cs]) := by
 rw [yD1,a47,xAb]
 simp (maxSteps := 30000000) (disch := first | assumption | omega | (simp only [WZ,AV.isCell] <;> omega) | rfl | decide) only [WB,Nat.reduceAdd,Nat.reduceSub,AV.cells,AV.isCell,↓reduceIte,Nat.reduceLeDiff]
theorem xK7 {s : ByteArray} {v a e : AV} (h : L.pcall 12 [.str s] = some (.tup [v,a,e])) (hv : frz 6 [] v = some v) : L.pcall 39 [.str s] = some v := by
 rw [yDY,a39,xAb]
 simp (disch := omega) only [WB,Nat.reduceSub,h,xAy,xAl,hv]
theorem xK8 {s : ByteArray} {n e : Int} (h : L.pcall 12 [.str s] = some (.tup [.sl true 0 [],.int .i64 n,.int .i64 e])) : L.pcall 48 [.str s,.int .i64 n,.int .i64 e] = some (.bool true) := by
 rw [yD2,a48,xAb]
 simp (disch := omega) only [WB,Nat.reduceAdd,Nat.reduceSub,h,xAy,xAl,↓reduceIte]
theorem xOy {s : ByteArray} {fs : List Nd} {l : List Ev} {w : List Bool} (h : L.pcall 39 [.str s] = some (.sl false fs.length (nds fs))) (hc : chk fs = 0) (hw : ∀ j,j < fs.length → WN (fs.getD j nd0)) (hl : l.length ≤ 64) (ho : l.all xIy = true) (hn : nT fs = 1)
  (hv : vQL fs l [fQ] = w) : L.pcall 46 [.str s,.sl false l.length (evs l),.sl false w.length (bls w)] = some (.bool true) := by
 have h35 := yBn hc hw false l hl
 rw [if_pos ho,hn,yC9,List.replicate_one,yC8,hv] at h35
 have hlw : l.length = w.length := by
  rw [← hv]
  have := xUT fs l ([fQ].map bsQ)
  rw [yC8] at this
  exact this.symm
 have h36 := yEl (z1 := l.isEmpty) (z2 := false) (a := w) (b := w) (by omega)
 rw [decide_eq_true rfl] at h36
 rw [hlw] at h35
 rw [hlw]
 generalize bls w = W at *
 generalize evs l = E at *
 rw [yD0,a46,xAb]
 simp (disch := omega) only [WB,Nat.reduceAdd,Nat.reduceSub,h,xAy,xAl,↓reduceIte,h35,h36]
theorem yEp : L.pcall 12 [.str ⟨#[40,101,120,105,115,116,115,32,120,32,40,97,110,100,32,40,97,116,32,98,32,120,41,32,40,110,111,116,32,40,111,110,99,101,32,40,97,116,32,97,32,120,41,41,41,41,41]⟩] = some (.tup [.sl false fA.length (nds fA),.int .i64 0,.int .i64 0]) := xC2 rfl (by kernel_rfl)
theorem yDM : L.pcall 39 [.str ⟨#[40,101,120,105,115,116,115,32,120,32,40,97,110,100,32,40,97,116,32,98,32,120,41,32,40,110,111,116,32,40,111,110,99,101,32,40,97,116,32,97,32,120,41,41,41,41,41]⟩] = some (.sl false fA.length (nds fA)) := xK7 yEp (xGh _ _ _ _)
theorem wnA : ∀ j,j < fA.length → WN (fA.getD j nd0) := by unfold WN; decide
theorem yEq : L.pcall 46 [.str ⟨#[40,101,120,105,115,116,115,32,120,32,40,97,110,100,32,40,97,116,32,98,32,120,41,32,40,110,111,116,32,40,111,110,99,101,32,40,97,116,32,97,32,120,41,41,41,41,41]⟩,.sl false 5 [.int .i64 0,.sl false 1 [.int .i64 3],.int .i64 1,.sl false 1 [.int .i64 3],.int .i64 1,.sl false 1 [.int .i64 4],.int .i64 0,.sl false 1 [.int .i64 4],.int .i64 1,.sl false 1 [.int .i64 4]],.sl false 5 [.bool false,.bool false,.bool true,.bool false,.bool false]] = some (.bool true) :=
 xOy (l := lA) yDM yBZ wnA (by decide) (by decide) (by decide) vA
theorem yEr : L.pcall 12 [.str ⟨#[40,115,105,110,99,101,32,40,110,111,116,32,40,97,116,32,99,41,41,32,40,97,116,32,97,32,49,41,41]⟩] = some (.tup [.sl false fB.length (nds fB),.int .i64 0,.int .i64 0]) := xC2 rfl (by kernel_rfl)
theorem yEs : L.pcall 39 [.str ⟨#[40,115,105,110,99,101,32,40,110,111,116,32,40,97,116,32,99,41,41,32,40,97,116,32,97,32,49,41,41]⟩] = some (.sl false fB.length (nds fB)) := xK7 yEr (xGh _ _ _ _)
theorem wnB : ∀ j,j < fB.length → WN (fB.getD j nd0) := by unfold WN; decide
theorem yEt : L.pcall 46 [.str ⟨#[40,115,105,110,99,101,32,40,110,111,116,32,40,97,116,32,99,41,41,32,40,97,116,32,97,32,49,41,41]⟩,.sl false 4 [.int .i64 0,.sl false 1 [.int .i64 1],.int .i64 1,.sl true 0 [],.int .i64 2,.sl true 0 [],.int .i64 0,.sl false 1 [.int .i64 2]],.sl false 4 [.bool true,.bool true,.bool false,.bool false]] = some (.bool true) :=
 xOy (l := lB) yEs yEm wnB (by decide) (by decide) (by decide) vB
theorem yEu : L.pcall 12 [.str ⟨#[40,112,114,101,118,105,111,117,115,32,40,101,120,105,115,116,115,32,121,32,40,97,116,32,97,32,121,32,121,41,41,41]⟩] = some (.tup [.sl false fC.length (nds fC),.int .i64 0,.int .i64 0]) := xC2 rfl (by kernel_rfl)
theorem yEv : L.pcall 39 [.str ⟨#[40,112,114,101,118,105,111,117,115,32,40,101,120,105,115,116,115,32,121,32,40,97,116,32,97,32,121,32,121,41,41,41]⟩] = some (.sl false fC.length (nds fC)) := xK7 yEu (xGh _ _ _ _)
theorem wnC : ∀ j,j < fC.length → WN (fC.getD j nd0) := by unfold WN; decide
theorem yEw : L.pcall 46 [.str ⟨#[40,112,114,101,118,105,111,117,115,32,40,101,120,105,115,116,115,32,121,32,40,97,116,32,97,32,121,32,121,41,41,41]⟩,.sl false 3 [.int .i64 0,.sl false 2 [.int .i64 2,.int .i64 2],.int .i64 0,.sl false 2 [.int .i64 1,.int .i64 2],.int .i64 1,.sl true 0 []],.sl false 3 [.bool false,.bool true,.bool false]] = some (.bool true) :=
 xOy (l := lC) yEv yEn wnC (by decide) (by decide) (by decide) vC
theorem yEx : L.pcall 48 [.str ⟨#[40,97,116,32,97,32,120,41]⟩,.int .i64 0,.int .i64 11] = some (.bool true) := xK8 (xC2 rfl (by kernel_rfl))
theorem yEy : L.pcall 48 [.str ⟨#[40,97,116,32,97,32,56,41]⟩,.int .i64 6,.int .i64 1] = some (.bool true) := xK8 (xC2 rfl (by kernel_rfl))
theorem yEz : L.pcall 48 [.str ⟨#[40,61,32,120,41]⟩,.int .i64 4,.int .i64 2] = some (.bool true) := xK8 (xC2 rfl (by kernel_rfl))
theorem yEA : L.pcall 48 [.str ⟨#[40,111,110,99,101,32,116,114,117,101]⟩,.int .i64 10,.int .i64 3] = some (.bool true) := xK8 (xC2 rfl (by kernel_rfl))
def stA : List Nat := 1 :: (List.replicate 24 0 ++ List.replicate 8 255 ++ List.replicate 32 0)
theorem yEB : xIy (e1 0 3) = true := by decide
theorem yEC : xIy (e1 0 8) = false := by decide
section
variable {o m : Nat} {G : Heap}
abbrev F17 (m o i : Nat) : List AV := xJw (.bool false) (.str ⟨#[40,101,120,105,115,116,115,32,120,32,40,97,110,100,32,40,97,116,32,98,32,120,41,32,40,110,111,116,32,40,111,110,99,101,32,40,97,116,32,97,32,120,41,41,41,41,41]⟩) (.ptr m 0) (.own false o 0 65 1) (.int .i64 (i : Nat))
theorem yBc (go : G[o]? = some (.cells false false (bs stA))) : ∀ k i,i + k = 33 → 25 ≤ i → L.loop xJv xTJ ⟨F17 m o i,G⟩ = some (.exit 0,⟨F17 m o 33,G⟩) := by
 have hlen : stA.length = 65 := by decide
 have hat : ∀ i,i < 33 → 25 ≤ i → stA.getD i 0 = 255 := by decide
 generalize stA = st at *
 intro k
 induction k with
 | zero =>
  intro i hi h25
  obtain rfl : i = 33 := by omega
  rw [xXf]
  simp (maxSteps := 30000000) (disch := first | assumption | omega | (simp only [WZ,AV.isCell] <;> omega) | rfl | decide) only [xPS,WB,↓reduceIte,xTK]
  rfl
 | succ k ih =>
  intro i hi h25
  have ih' := ih (i + 1) (by omega) (by omega)
  have hlt : ((i : Nat) : Int) < 33 := by omega
  have hv := hat i (by omega) h25
  rw [xXf]
  simp (maxSteps := 30000000) (disch := first | assumption | omega | (simp only [WZ,AV.isCell] <;> omega) | rfl | decide) only [xPS,WB,hlt,↓reduceIte,go,hv,xTK,ih']
end
theorem yED : (xAM (e1 0 3) fA [] (zr 1)).2 = [bsQ qA] := by
 rw [yC9,List.replicate_one,(xFe (e1 0 3) fA [] [] [fQ] .nil).2]
 have : (xIl (e1 0 3) fA [] [fQ]).2 = [qA] := rfl
 rw [this]; rfl
theorem yDa : xF0 fA (e1 0 3) (zr 1) = false := by
 rw [yC9,List.replicate_one]
 exact (xUO fA (e1 0 3) [fQ]).trans sA
set_option maxRecDepth 100000 in
set_option maxHeartbeats 8000000 in
theorem xY8 : L.pcall 17 [] = some (.bool true) := by
 have h46A := yEq
 have h46B := yEt
 have h46C := yEw
 have hA := yDM
 have g0 := yEx
 have g1 := yEy
 have g2 := yEz
 have g3 := yEA
 obtain ⟨G1,m,sb,e19,m1,-,-,-⟩ := xRu yBZ wnA []
 have hnA : nT fA = 1 := by decide
 rw [hnA] at m1
 obtain ⟨G2,e22,m2,k2⟩ := xFh m1 (by decide) (by decide) (xIx yBZ).2.2 yEB
 change L.icall (.func 22 []) [.ptr m 0,evA (e1 0 3)] G1 = some (.tup [.bool (xF0 fA (e1 0 3) (zr 1)),.int .i64 0],G2) at e22
 rw [yDa] at e22
 rw [yED] at m2
 have hst : (1 :: ([bsQ qA] : List (List Nat)).flatten) = stA := by
  rw [sA2]; rfl
 have gm2 := m2.gm
 have gb2 := m2.gb
 rw [hst] at gb2
 have gm2' : G2[m]? = some (.cells false false [.sl false fA.length (nds fA),.own false sb 0 65 1]) := gm2
 have h24 := xNt gm2' gb2 (by decide) (by decide) (by decide)
 have go : (G2 ++ [.dead,.cells false false (bs stA)])[G2.length + 1]? = some (.cells false false (bs stA)) := by rw [List.getElem?_append_right (by omega)]; simp
 have e17 := yBc (m := m) go 8 25 rfl (by omega)
 have lm := xA7 gm2
 have lb := xA7 gb2
 obtain ⟨G3,e29,k3⟩ := xKj (ob := G2.length + 1) (n := 64) (G := G2 ++ [.dead,.cells false false (bs stA)]) yBZ wnA (by decide)
 have m3 : Mo false fA m sb G3 [bsQ qA] 1 := ⟨by rw [k3.2 m (by simp; omega),xAI lm]; exact m2.gm,by rw [k3.2 sb (by simp; omega),xAI lb]; exact m2.gb,m2.ne,m2.rw,m2.h0⟩
 obtain ⟨G4,e22b,k4⟩ := xF1 m3 (by decide) yEC
 have e22n := xRv (e := e0 0) (G := G4)
 have l3 := k3.1
 have l4 := k4.1
 simp only [List.length_append,List.length_cons,List.length_nil] at l3
 have gm5 : (G4 ++ [.cells false false [.int .i64 0,.sl true 0 []]])[m]? = some (.cells false false [.sl false fA.length (nds fA),.own false sb 0 65 1]) := by
  rw [xAI (by omega),k4.2 m (by omega)]; exact m3.gm
 have gb5 : (G4 ++ [.cells false false [.int .i64 0,.sl true 0 []]])[sb]? = some (.cells false false (bs stA)) := by
  rw [xAI (by omega),k4.2 sb (by omega),← hst]; exact m3.gb
 have go5 : (G4 ++ [.cells false false [.int .i64 0,.sl true 0 []]])[G2.length + 1]? = some (.cells false false (bs stA)) := by
  rw [xAI (by omega),k4.2 _ (by omega),k3.2 _ (by simp)]; exact go
 have h24b := xNt gm5 gb5 (by decide) (by decide) (by decide)
 have l5 : (G4 ++ [Blk.cells false false [.int .i64 0,.sl true 0 []]]).length = G4.length + 1 := by simp
 have h25 := yDL (a := stA) (b := stA) (o1 := (G4 ++ [Blk.cells false false [.int .i64 0,.sl true 0 []]]).length + 1) (o2 := G2.length + 1) (f1 := false) (z1 := false) (f2 := false) (z2 := false)
  (H := (G4 ++ [.cells false false [.int .i64 0,.sl true 0 []]]) ++ [.dead,.cells false false (bs stA)]) (by rw [List.getElem?_append_right (by omega)]; simp) (by rw [List.getElem?_append_left (by rw [l5]; omega)]; exact go5) (by decide)
 have hd : decide (stA = stA) = true := decide_eq_true rfl
 rw [hd] at h25
 have h34 : L.pcall 34 [.sl false 1 [.int .u8 2,.int .i64 0,.sl false 1 [.int .i64 8],.int .i64 0,.int .i64 0,.int .i64 0]] = some (.int .i64 11) := by
  have := xOz false [⟨2,0,false,[8],0,0,0⟩] (by simp)
  rw [yEo] at this
  exact this
 have hl65 : stA.length = 65 := by decide
 have q0 : stA.getD 0 0 = 1 := by decide
 have q24 : stA.getD 24 0 = 0 := by decide
 have q33 : stA.getD 33 0 = 0 := by decide
 unfold evA at e22 e22b e22n
 have e22' : L.icall (.func 22 []) [.ptr m 0,.agg [.int .i64 0,.sl false 1 [.int .i64 3]]] G1 = some (.tup [.bool false,.int .i64 0],G2) := e22
 have e22b' : L.icall (.func 22 []) [.ptr m 0,.agg [.int .i64 0,.sl false 1 [.int .i64 8]]] G3 = some (.tup [.bool false,.int .i64 1],G4) := e22b
 have e22n' : L.icall (.func 22 []) [.nilp,.agg [.int .i64 0,.sl true 0 []]] G4 = some (.tup [.bool false,.int .i64 12],G4 ++ [.cells false false [.int .i64 0,.sl true 0 []]]) := e22n
 have e17' : L.loop xJv xTJ ⟨xJw (.bool false) (.str ⟨#[40,101,120,105,115,116,115,32,120,32,40,97,110,100,32,40,97,116,32,98,32,120,41,32,40,110,111,116,32,40,111,110,99,101,32,40,97,116,32,97,32,120,41,41,41,41,41]⟩) (.ptr m 0) (.own false (G2.length + 1) 0 65 1) (.int .i64 25),G2 ++ [.dead,.cells false false (bs stA)]⟩ = some (.exit 0,⟨xJw (.bool false) (.str ⟨#[40,101,120,105,115,116,115,32,120,32,40,97,110,100,32,40,97,116,32,98,32,120,41,32,40,110,111,116,32,40,111,110,99,101,32,40,97,116,32,97,32,120,41,41,41,41,41]⟩) (.ptr m 0) (.own false (G2.length + 1) 0 65 1) (.int .i64 33),G2 ++ [.dead,.cells false false (bs stA)]⟩) := e17
 have h25' : L.icall (.func 25 []) [.own false ((G4 ++ [Blk.cells false false [.int .i64 0,.sl true 0 []]]).length + 1) 0 65 1,.own false (G2.length + 1) 0 65 1] _ = _ := h25
 generalize hG5 : G4 ++ [Blk.cells false false [.int .i64 0,.sl true 0 []]] = G5 at *
 clear e22 e22b e22n e17 h25 hst hd
 generalize stA = st at *
 generalize fA.length = nA at *
 generalize nds fA = cA at *
 rw [yDS,a17,xAb]
 simp (maxSteps := 30000000) (disch := first | assumption | omega | (simp only [WZ,AV.isCell] <;> omega) | rfl | decide) only [WB,AV.cells,↓reduceIte,AV.isCell,xY7,xAy,xAl,Nat.reduceAdd,Nat.reduceMul,Nat.reduceLeDiff,h46A,h46B,h46C,hA,e19,e22',h24,xKk,q0,Int.reduceToNat,q24,q33,xTK,e17',h34,g0,g1,g2,g3,xAh,e29,e22b',e22n',h24b,h25']
end Go.Abs.Events
