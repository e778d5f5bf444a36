/- EqualBytes,EqualBools,Save,Load. -/
import Derived.Test.YtdheandekcpieaaGreatDoorAbsBun
import Derived.Test.YtdheandekcpieaaGreatDoorAMD
import Derived.Test.YtdheandekcpieaaGreatDoorAbsIn
namespace Go.Abs.Events
open Go Go.Abs
set_option maxHeartbeats 8000000
set_option linter.unusedSimpArgs false
set_option linter.unusedVariables false
theorem xB9 {α : Type} {a : List α} {d : α} {i : Nat} (h : i < a.length) : a.drop i = a.getD i d :: a.drop (i + 1) := by
 rw [List.drop_eq_getElem_cons h,List.getD_eq_getElem?_getD,List.getElem?_eq_getElem h]; rfl
theorem xUx {α : Type} {a b : List α} (h : a.length = b.length) (d : α) {i : Nat} (hi : i < a.length) : (a.drop i = b.drop i) ↔ (a.getD i d = b.getD i d ∧ a.drop (i + 1) = b.drop (i + 1)) := by
 rw [xB9 (d := d) hi,xB9 (d := d) (show i < b.length by omega)]
 simp
section
variable {o1 o2 : Nat} {a b : List Nat} {H : Heap} {f1 f2 z1 z2 : Bool}
theorem yEo (h1 : H[o1]? = some (.cells f1 z1 (bs a))) (h2 : H[o2]? = some (.cells f2 z2 (bs b))) (hl : a.length = b.length) (hm : a.length < 1099511627776) : ∀ e i,i + e = a.length →
  ∃ j : Nat,L.loop xM0 xWp ⟨xJR (.own false o1 0 a.length 1) (.own false o2 0 b.length 1) (.bool false) (.int .i64 (i : Nat)),H⟩ =
   some (if a.drop i = b.drop i then (.exit 0,⟨xJR (.own false o1 0 a.length 1) (.own false o2 0 b.length 1) (.bool false) (.int .i64 (a.length : Nat)),H⟩)
    else (.ret,⟨xJR (.own false o1 0 a.length 1) (.own false o2 0 b.length 1) (.bool false) (.int .i64 (j : Nat)),H⟩)) := by
 intro e
 induction e with
 | zero =>
  intro i h
  obtain rfl : i = a.length := by omega
  refine ⟨0,?_⟩
  rw [if_pos (by rw [List.drop_length,hl,List.drop_length]),xT1]
  simp (maxSteps := 30000000) (disch := first|exact D5|fail) only [xJQ,WB,↓reduceIte,xJS]
 | succ e ih =>
  intro i h
  have hlt : (i : Int) < (a.length : Nat) := by omega
  obtain ⟨j,ih'⟩ := ih (i + 1) (by omega)
  rw [← hl] at ih' ⊢
  have hd := xUx hl (0 : Nat) (show i < a.length by omega)
  by_cases c : a.getD i 0 = b.getD i 0
  ·refine ⟨j,?_⟩
   have hd' : (a.drop i = b.drop i) ↔ (a.drop (i + 1) = b.drop (i + 1)) := hd.trans ⟨fun h => h.2,fun h => ⟨c,h⟩⟩
   rw [xT1]
   by_cases e : a.drop (i + 1) = b.drop (i + 1)
   ·rw [if_pos e] at ih'
    rw [if_pos (hd'.2 e)]
    simp (maxSteps := 30000000) (disch := first|exact D5|fail) only [xJQ,WB,hlt,↓reduceIte,h1,c,xAn,h2,xJS,ih']
   ·rw [if_neg e] at ih'
    rw [if_neg (fun h => e (hd'.1 h))]
    simp (maxSteps := 30000000) (disch := first|exact D5|fail) only [xJQ,WB,hlt,↓reduceIte,h1,c,xAn,h2,xJS,ih']
  ·refine ⟨i,?_⟩
   have c' : (((a.getD i 0 : Nat) : Int) = ((b.getD i 0 : Nat) : Int)) = False := eq_false (by omega)
   rw [if_neg (fun h => c (hd.1 h).1),xT1]
   simp (maxSteps := 30000000) (disch := first|exact D5|fail) only [xJQ,WB,hlt,↓reduceIte,h1,xAn,h2,c',xJS]
theorem yFU (h1 : H[o1]? = some (.cells f1 z1 (bs a))) (h2 : H[o2]? = some (.cells f2 z2 (bs b))) (hm : a.length < 1099511627776) : L.icall (.func 45 []) [.own false o1 0 a.length 1,.own false o2 0 b.length 1] H = some (.bool (decide (a = b)),H) := by
 by_cases hl : a.length = b.length
 ·obtain ⟨j,h⟩ := yEo h1 h2 hl hm a.length 0 (by omega)
  simp only [Int.natCast_zero,List.drop_zero] at h
  rw [yE6,a45,xAu]
  by_cases c : a = b
  ·rw [if_pos c] at h
   rw [decide_eq_true c]
   rw [← hl] at h ⊢
   simp (disch := omega) only [WB,Nat.reduceAdd,Nat.reduceSub,↓reduceIte,xJS,h]
  ·rw [if_neg c] at h
   rw [decide_eq_false c]
   rw [← hl] at h ⊢
   simp (disch := omega) only [WB,Nat.reduceAdd,Nat.reduceSub,↓reduceIte,xJS,h]
 ·have hl' : (((a.length : Nat) : Int) = ((b.length : Nat) : Int)) = False := eq_false (by omega)
  rw [decide_eq_false (fun e => hl (by rw [e])),yE6,a45,xAu]
  simp (disch := omega) only [WB,Nat.reduceAdd,Nat.reduceSub,hl',↓reduceIte]
end
theorem yEp {z1 z2 : Bool} {a b : List Bool} {H : Heap} (hl : a.length = b.length) (hm : a.length < 1099511627776) : ∀ e i,i + e = a.length →
  ∃ j : Nat,L.loop xMM xWo ⟨xJm (.sl z1 a.length (bls a)) (.sl z2 b.length (bls b)) (.bool false) (.int .i64 (i : Nat)),H⟩ =
   some (if a.drop i = b.drop i then (.exit 0,⟨xJm (.sl z1 a.length (bls a)) (.sl z2 b.length (bls b)) (.bool false) (.int .i64 (a.length : Nat)),H⟩)
    else (.ret,⟨xJm (.sl z1 a.length (bls a)) (.sl z2 b.length (bls b)) (.bool false) (.int .i64 (j : Nat)),H⟩)) := by
 intro e
 induction e with
 | zero =>
  intro i h
  obtain rfl : i = a.length := by omega
  refine ⟨0,?_⟩
  rw [if_pos (by rw [List.drop_length,hl,List.drop_length]),xTF]
  simp (maxSteps := 30000000) (disch := first|exact D5|fail) only [xJl,WB,↓reduceIte,xJn]
 | succ e ih =>
  intro i h
  have hlt : (i : Int) < (a.length : Nat) := by omega
  obtain ⟨j,ih'⟩ := ih (i + 1) (by omega)
  rw [← hl] at ih' ⊢
  have hd := xUx hl false (show i < a.length by omega)
  generalize hx : a.getD i false = x at *
  generalize hy : b.getD i false = y at *
  by_cases c : x = y
  ·subst c
   refine ⟨j,?_⟩
   have hd' : (a.drop i = b.drop i) ↔ (a.drop (i + 1) = b.drop (i + 1)) := hd.trans ⟨fun h => h.2,fun h => ⟨rfl,h⟩⟩
   have hbx : (x == x) = true := by cases x <;> rfl
   rw [xTF]
   by_cases e : a.drop (i + 1) = b.drop (i + 1)
   ·rw [if_pos e] at ih'
    rw [if_pos (hd'.2 e)]
    simp (maxSteps := 30000000) (disch := first|exact D5|fail) only [xJl,WB,hlt,↓reduceIte,xDe,hx,xAn,hy,xJn,ih']
   ·rw [if_neg e] at ih'
    rw [if_neg (fun h => e (hd'.1 h))]
    simp (maxSteps := 30000000) (disch := first|exact D5|fail) only [xJl,WB,hlt,↓reduceIte,xDe,hx,xAn,hy,xJn,ih']
  ·refine ⟨i,?_⟩
   have c' : (x == y) = false := by simpa using c
   rw [if_neg (fun h => c (hd.1 h).1),xTF]
   simp (maxSteps := 30000000) (disch := first|exact D5|fail) only [xJl,WB,hlt,↓reduceIte,xDe,hx,xAn,hy,xJn]
   rw [if_pos c]
theorem yFd {z1 z2 : Bool} {a b : List Bool} (hm : a.length < 1099511627776) : L.pcall 15 [.sl z1 a.length (bls a),.sl z2 b.length (bls b)] = some (.bool (decide (a = b))) := by
 by_cases hl : a.length = b.length
 ·obtain ⟨j,h⟩ := yEp (z1 := z1) (z2 := z2) (H := []) hl hm a.length 0 (by omega)
  simp only [Int.natCast_zero,List.drop_zero] at h
  rw [yE1,a15,xAa]
  by_cases c : a = b
  ·rw [if_pos c] at h
   rw [decide_eq_true c]
   rw [← hl] at h ⊢
   simp (disch := omega) only [WB,Nat.reduceAdd,Nat.reduceSub,↓reduceIte,xJn,h]
  ·rw [if_neg c] at h
   rw [decide_eq_false c]
   rw [← hl] at h ⊢
   simp (disch := omega) only [WB,Nat.reduceAdd,Nat.reduceSub,↓reduceIte,xJn,h]
 ·have hl' : (((a.length : Nat) : Int) = ((b.length : Nat) : Int)) = False := eq_false (by omega)
  rw [decide_eq_false (fun e => hl (by rw [e])),yE1,a15,xAa]
  simp (disch := omega) only [WB,Nat.reduceAdd,Nat.reduceSub,hl',↓reduceIte]
theorem xWN (l : List Nat) : List.take l.length (bs l) = bs l := List.take_of_length_le (by rw [xBE]; omega)
section
variable {m sb n : Nat} {G : Heap} {st : List Nat} {f : AV}
theorem xZJ (gb : G[sb]? = some (.cells false false (bs st))) (hn : st.length = n) (h0 : 0 < n) (hl : n < 1099511627776) :
  L.icall (.func 60 []) [.own false sb 0 n 1] G = some (.own false (G.length + 1) 0 n 1,G ++ [.dead,.cells false false (bs st)]) := by
 subst hn
 have hbt := xWN st
 have hbl := xBE st
 have lb := xA4 gb
 rw [yFE,a60,xAu]
 simp (disch := omega) only [WB,Nat.reduceSub,↓reduceIte,AV.cells,xAS,gb,hbt,xBq,xBG]
theorem xX7 (gm : G[m]? = some (.cells false false [f,.own false sb 0 n 1])) (gb : G[sb]? = some (.cells false false (bs st))) (hn : st.length = n) (h0 : 0 < n) (hl : n < 1099511627776) :
  L.icall (.func 25 []) [.ptr m 0] G = some (.own false (G.length + 1) 0 n 1,G ++ [.dead,.cells false false (bs st)]) := by
 have h60 := xZJ gb hn h0 hl
 rw [yFr,a25,xAu]
 simp (maxSteps := 30000000) (disch := first|exact D5|fail) only [WB,Nat.reduceSub,xK0,xK1,↓reduceIte,gm,h60]
end
section
variable {fs : List Nd} {ws : List (List Nat)} {h ob : Nat} {G : Heap}
theorem xRb {n : Nat} (hc : chk fs = 0) (hw : ∀ j,j < fs.length → WN (fs.getD j nd0)) (hn : n ≠ 64 * nT fs + 1) :
  ∃ (G' : Heap),L.icall (.func 44 []) [.sl false fs.length (nds fs),.own false ob 0 n 1] G = some (.tup [.nilp,.int .i64 2],G') ∧ Kp G.length G G' := by
 obtain ⟨G1,m,sb,e1,m1,k1,b1,b2⟩ := xWR hc hw G
 obtain ⟨gm,gb1,ne,-,-⟩ := m1
 have hzl : (zr (nT fs)).length = nT fs := by simp [zr]
 rw [hzl] at gm
 have hn' : ¬ ((n : Nat) : Int) = ((64 * nT fs + 1 : Nat) : Int) := by omega
 refine ⟨G1,?_,k1⟩
 rw [yFz,a44,xAu]
 simp (maxSteps := 30000000) (disch := first|exact D5|fail) only [WB,Nat.reduceAdd,Nat.reduceSub,e1,↓reduceIte,gm,hn']
end
def E5 (p q : Q) : Prop := ∀ j,j < 512 → p j = q j
def EL (ps qs : List Q) : Prop := ps.length = qs.length ∧ ∀ i,E5 (ps.getD i fQ) (qs.getD i fQ)
theorem E5.refl (p : Q) : E5 p p := fun _ _ => rfl
theorem EL.nil : EL [] [] := ⟨rfl,fun _ => .refl _⟩
theorem EL.snoc {ps qs : List Q} {p q : Q} (h : EL ps qs) (hp : E5 p q) : EL (ps ++ [p]) (qs ++ [q]) := by
 refine ⟨by simp [h.1],fun i => ?_⟩
 by_cases c : i < ps.length
 ·rw [List.getD_eq_getElem?_getD,List.getElem?_append_left c,List.getD_eq_getElem?_getD,List.getElem?_append_left (h.1 ▸ c),← List.getD_eq_getElem?_getD,← List.getD_eq_getElem?_getD]
  exact h.2 i
 ·rw [List.getD_eq_getElem?_getD,List.getElem?_append_right (by omega),List.getD_eq_getElem?_getD,List.getElem?_append_right (by have := h.1; omega),← h.1]
  by_cases c2 : i - ps.length = 0
  ·rw [c2]; exact hp
  ·rw [List.getElem?_eq_none (by simp; omega),List.getElem?_eq_none (by simp; omega)]; exact .refl _
theorem xZK {x : Nat} {p q : Q} (h : E5 p q) : E5 (exQ x p) (exQ x q) := by
 intro j hj
 unfold exQ oQ
 rw [Bool.eq_iff_iff,List.any_eq_true,List.any_eq_true]
 constructor
 ·rintro ⟨s,hs,hc⟩
  refine ⟨s,hs,?_⟩
  rw [← h s (List.mem_range.1 hs)]; exact hc
 ·rintro ⟨s,hs,hc⟩
  refine ⟨s,hs,?_⟩
  rw [h s (List.mem_range.1 hs)]; exact hc
theorem xUy {n : Nd} {e : Ev} {qs qs' : List Q} {was was' : Q} (h : EL qs qs') (hw : E5 was was') : E5 (evN n e qs was) (evN n e qs' was') := by
 have ha := h.2 n.a.toNat
 have hb := h.2 n.b.toNat
 unfold evN
 split
 ·exact .refl _
 split
 ·exact .refl _
 split
 ·exact .refl _
 split
 ·intro j hj
  simp only [ha j hj]
 split
 ·intro j hj
  simp only [ha j hj,hb j hj]
 split
 ·intro j hj
  simp only [ha j hj,hb j hj]
 split
 ·exact xZK ha
 split
 ·exact hw
 split
 ·intro j hj
  simp only [ha j hj,hb j hj,hw j hj]
 ·intro j hj
  simp only [ha j hj,hw j hj]
def xEH (e : Ev) : List Nd → List Q → List Q → List Q × List Q
 | [],qs,_ => (qs,[])
 | n :: fs,qs,ms => if tmp n.op = true then
   let q := evN n e qs (ms.headD fQ)
   let r := xEH e fs (qs ++ [q]) ms.tail
   (r.1,xEI n qs q :: r.2)
  else xEH e fs (qs ++ [evN n e qs fQ]) ms
theorem xZL : E5 (qOf []) fQ := by
 intro j _
 show ((([] : List Nat).getD (j / 8) 0)).testBit (j % 8) = false
 simp
theorem xFm (e : Ev) : ∀ (fs : List Nd) (qs qs' : List Q) (ms : List Q),EL qs qs' → EL (xCv e fs qs (ms.map bsQ)).1 (xEH e fs qs' ms).1 ∧ (xCv e fs qs (ms.map bsQ)).2 = (xEH e fs qs' ms).2.map bsQ
 | [],qs,qs',ms,h => ⟨h,rfl⟩
 | n :: fs,qs,qs',ms,h => by
  rw [xCv,xEH]
  split
  ·have hw : E5 (qOf ((ms.map bsQ).headD [])) (ms.headD fQ) := by
    cases ms with
    | nil => exact xZL
    | cons m ms => exact yAt m
   have hq := xUy (n := n) (e := e) h hw
   have ht : (ms.map bsQ).tail = ms.tail.map bsQ := by cases ms <;> rfl
   have ih := xFm e fs _ _ ms.tail (h.snoc hq)
   rw [ht]
   refine ⟨ih.1,?_⟩
   have hk : bsQ (xEI n qs (evN n e qs (qOf ((ms.map bsQ).headD [])))) = bsQ (xEI n qs' (evN n e qs' (ms.headD fQ))) := by
    refine yAu ?_
    unfold xEI
    split
    ·exact h.2 _
    ·exact hq
   rw [List.map_cons,← ih.2,← hk]
  ·exact xFm e fs _ _ ms (h.snoc (xUy h (.refl _)))
def vQL (fs : List Nd) : List Ev → List Q → List Bool
 | [],_ => []
 | e :: es,ms => ((xEH e fs [] ms).1.getD (fs.length - 1) fQ) 0 :: vQL fs es (xEH e fs [] ms).2
theorem xUz (fs : List Nd) (e : Ev) (ms : List Q) : xOu fs e (ms.map bsQ) = ((xEH e fs [] ms).1.getD (fs.length - 1) fQ) 0 := (xFm e fs [] [] ms .nil).1.2 _ 0 (by omega)
theorem yDj (fs : List Nd) : ∀ (es : List Ev) (ms : List Q),vL fs es (ms.map bsQ) = vQL fs es ms
 | [],_ => rfl
 | e :: es,ms => by
  rw [vL,vQL,xUz,(xFm e fs [] [] ms .nil).2,yDj fs es]
theorem xWO : bsQ fQ = List.replicate 64 0 := by decide +kernel
theorem yDk (c : Nat) : zr c = (List.replicate c fQ).map bsQ := by
 unfold zr
 rw [List.map_replicate,xWO]
def e1 (name : Int) (a : Int) : Ev := ⟨name,false,[a]⟩
def e0 (name : Int) : Ev := ⟨name,true,[]⟩
def fA : List Nd := [⟨2,1,false,[8],0,0,0⟩,⟨2,0,false,[8],0,0,0⟩,⟨10,0,true,[],0,1,0⟩,⟨4,0,true,[],0,2,0⟩,⟨5,0,true,[],0,0,3⟩,⟨7,0,true,[],8,4,0⟩]
def fB : List Nd := [⟨2,2,true,[],0,0,0⟩,⟨4,0,true,[],0,0,0⟩,⟨2,0,false,[1],0,0,0⟩,⟨9,0,true,[],0,1,2⟩]
def fC : List Nd := [⟨2,0,false,[9,9],0,0,0⟩,⟨7,0,true,[],9,0,0⟩,⟨8,0,true,[],0,1,0⟩]
theorem yDl : chk fA = 0 := by decide +kernel
theorem yFV : chk fB = 0 := by decide +kernel
theorem yFW : chk fC = 0 := by decide +kernel
theorem yFX : chk [⟨2,0,false,[8],0,0,0⟩] = 11 := by decide +kernel
def lA : List Ev := [e1 0 3,e1 1 3,e1 1 4,e1 0 4,e1 1 4]
def lB : List Ev := [e1 0 1,e0 1,e0 2,e1 0 2]
def lC : List Ev := [⟨0,false,[2,2]⟩,⟨0,false,[1,2]⟩,e0 1]
set_option maxRecDepth 100000 in
theorem vA : vQL fA lA [fQ] = [false,false,true,false,false] := by decide +kernel
theorem vB : vQL fB lB [fQ] = [true,true,false,false] := by decide +kernel
theorem vC : vQL fC lC [fQ] = [false,true,false] := by decide +kernel
def qA : Q := (xEH (e1 0 3) fA [] [fQ]).2.headD fQ
theorem sA : ((xEH (e1 0 3) fA [] [fQ]).1.getD 5 fQ) 0 = false := by decide +kernel
theorem sA2 : bsQ qA = List.replicate 24 0 ++ List.replicate 8 255 ++ List.replicate 32 0 := by decide +kernel
theorem xZM (n : Int) (z : Bool) (k : Nat) (cs : List AV) : L.pcall 41 [.int .i64 n,.sl z k cs] = some (.agg [.int .i64 n,.sl z k cs]) := by
 rw [yFw,a41,xAa]
 simp (maxSteps := 30000000) (disch := first|exact D5|fail) only [WB,Nat.reduceAdd,Nat.reduceSub,AV.cells,AV.isCell,↓reduceIte,Nat.reduceLeDiff]
theorem xKW {s : ByteArray} {v a e : AV} (h : L.pcall 22 [.str s] = some (.tup [v,a,e])) (hv : frz 6 [] v = some v) : L.pcall 42 [.str s] = some v := by
 rw [yFx,a42,xAa]
 simp (disch := omega) only [WB,Nat.reduceSub,h,xAA,xAm,hv]
theorem xKX {s : ByteArray} {n e : Int} (h : L.pcall 22 [.str s] = some (.tup [.sl true 0 [],.int .i64 n,.int .i64 e])) : L.pcall 43 [.str s,.int .i64 n,.int .i64 e] = some (.bool true) := by
 rw [yFy,a43,xAa]
 simp (disch := omega) only [WB,Nat.reduceAdd,Nat.reduceSub,h,xAA,xAm,↓reduceIte]
theorem xOs {s : ByteArray} {fs : List Nd} {l : List Ev} {w : List Bool} (h : L.pcall 42 [.str s] = some (.sl false fs.length (nds fs))) (hc : chk fs = 0) (hw : ∀ j,j < fs.length → WN (fs.getD j nd0)) (hl : l.length ≤ 64) (ho : l.all xEN = true) (hn : nT fs = 1)
  (hv : vQL fs l [fQ] = w) : L.pcall 40 [.str s,.sl false l.length (evs l),.sl false w.length (bls w)] = some (.bool true) := by
 have h35 := yCu hc hw false l hl
 rw [if_pos ho,hn,yDk,List.replicate_one,yDj,hv] at h35
 have hlw : l.length = w.length := by
  rw [← hv]
  have := xQd fs l ([fQ].map bsQ)
  rw [yDj] at this
  exact this.symm
 have h36 := yFd (z1 := l.isEmpty) (z2 := false) (a := w) (b := w) (by omega)
 rw [decide_eq_true rfl] at h36
 rw [hlw] at h35
 rw [hlw]
 generalize bls w = W at *
 generalize evs l = E at *
 rw [yFv,a40,xAa]
 simp (disch := omega) only [WB,Nat.reduceAdd,Nat.reduceSub,h,xAA,xAm,↓reduceIte,h35,h36]
theorem yFY : L.pcall 22 [.str ⟨#[40,101,120,105,115,116,115,32,120,32,40,97,110,100,32,40,97,116,32,98,32,120,41,32,40,110,111,116,32,40,111,110,99,101,32,40,97,116,32,97,32,120,41,41,41,41,41]⟩] = some (.tup [.sl false fA.length (nds fA),.int .i64 0,.int .i64 0]) := xCC rfl (by kernel_rfl)
theorem yFe : L.pcall 42 [.str ⟨#[40,101,120,105,115,116,115,32,120,32,40,97,110,100,32,40,97,116,32,98,32,120,41,32,40,110,111,116,32,40,111,110,99,101,32,40,97,116,32,97,32,120,41,41,41,41,41]⟩] = some (.sl false fA.length (nds fA)) := xKW yFY (xEl _ _ _ _)
theorem wnA : ∀ j,j < fA.length → WN (fA.getD j nd0) := by unfold WN; decide
theorem yFZ : L.pcall 40 [.str ⟨#[40,101,120,105,115,116,115,32,120,32,40,97,110,100,32,40,97,116,32,98,32,120,41,32,40,110,111,116,32,40,111,110,99,101,32,40,97,116,32,97,32,120,41,41,41,41,41]⟩,.sl false 5 [.int .i64 0,.sl false 1 [.int .i64 3],.int .i64 1,.sl false 1 [.int .i64 3],.int .i64 1,.sl false 1 [.int .i64 4],.int .i64 0,.sl false 1 [.int .i64 4],.int .i64 1,.sl false 1 [.int .i64 4]],.sl false 5 [.bool false,.bool false,.bool true,.bool false,.bool false]] = some (.bool true) :=
 xOs (l := lA) yFe yDl wnA (by decide) (by decide) (by decide) vA
theorem yF0 : L.pcall 22 [.str ⟨#[40,115,105,110,99,101,32,40,110,111,116,32,40,97,116,32,99,41,41,32,40,97,116,32,97,32,49,41,41]⟩] = some (.tup [.sl false fB.length (nds fB),.int .i64 0,.int .i64 0]) := xCC rfl (by kernel_rfl)
theorem yF1 : L.pcall 42 [.str ⟨#[40,115,105,110,99,101,32,40,110,111,116,32,40,97,116,32,99,41,41,32,40,97,116,32,97,32,49,41,41]⟩] = some (.sl false fB.length (nds fB)) := xKW yF0 (xEl _ _ _ _)
theorem wnB : ∀ j,j < fB.length → WN (fB.getD j nd0) := by unfold WN; decide
theorem yF2 : L.pcall 40 [.str ⟨#[40,115,105,110,99,101,32,40,110,111,116,32,40,97,116,32,99,41,41,32,40,97,116,32,97,32,49,41,41]⟩,.sl false 4 [.int .i64 0,.sl false 1 [.int .i64 1],.int .i64 1,.sl true 0 [],.int .i64 2,.sl true 0 [],.int .i64 0,.sl false 1 [.int .i64 2]],.sl false 4 [.bool true,.bool true,.bool false,.bool false]] = some (.bool true) :=
 xOs (l := lB) yF1 yFV wnB (by decide) (by decide) (by decide) vB
theorem yF3 : L.pcall 22 [.str ⟨#[40,112,114,101,118,105,111,117,115,32,40,101,120,105,115,116,115,32,121,32,40,97,116,32,97,32,121,32,121,41,41,41]⟩] = some (.tup [.sl false fC.length (nds fC),.int .i64 0,.int .i64 0]) := xCC rfl (by kernel_rfl)
theorem yF4 : L.pcall 42 [.str ⟨#[40,112,114,101,118,105,111,117,115,32,40,101,120,105,115,116,115,32,121,32,40,97,116,32,97,32,121,32,121,41,41,41]⟩] = some (.sl false fC.length (nds fC)) := xKW yF3 (xEl _ _ _ _)
theorem wnC : ∀ j,j < fC.length → WN (fC.getD j nd0) := by unfold WN; decide
theorem yF5 : L.pcall 40 [.str ⟨#[40,112,114,101,118,105,111,117,115,32,40,101,120,105,115,116,115,32,121,32,40,97,116,32,97,32,121,32,121,41,41,41]⟩,.sl false 3 [.int .i64 0,.sl false 2 [.int .i64 2,.int .i64 2],.int .i64 0,.sl false 2 [.int .i64 1,.int .i64 2],.int .i64 1,.sl true 0 []],.sl false 3 [.bool false,.bool true,.bool false]] = some (.bool true) :=
 xOs (l := lC) yF4 yFW wnC (by decide) (by decide) (by decide) vC
theorem yF6 : L.pcall 43 [.str ⟨#[40,97,116,32,97,32,120,41]⟩,.int .i64 0,.int .i64 11] = some (.bool true) := xKX (xCC rfl (by kernel_rfl))
theorem yF7 : L.pcall 43 [.str ⟨#[40,97,116,32,97,32,56,41]⟩,.int .i64 6,.int .i64 1] = some (.bool true) := xKX (xCC rfl (by kernel_rfl))
theorem yF8 : L.pcall 43 [.str ⟨#[40,61,32,120,41]⟩,.int .i64 4,.int .i64 2] = some (.bool true) := xKX (xCC rfl (by kernel_rfl))
theorem yF9 : L.pcall 43 [.str ⟨#[40,111,110,99,101,32,116,114,117,101]⟩,.int .i64 10,.int .i64 3] = some (.bool true) := xKX (xCC rfl (by kernel_rfl))
def stA : List Nat := 1 :: (List.replicate 24 0 ++ List.replicate 8 255 ++ List.replicate 32 0)
theorem yGa : xEN (e1 0 3) = true := by decide
theorem yGb : xEN (e1 0 8) = false := by decide
section
variable {o m : Nat} {G : Heap}
abbrev F17 (m o i : Nat) : List AV := xJt (.bool false) (.str ⟨#[40,101,120,105,115,116,115,32,120,32,40,97,110,100,32,40,97,116,32,98,32,120,41,32,40,110,111,116,32,40,111,110,99,101,32,40,97,116,32,97,32,120,41,41,41,41,41]⟩) (.ptr m 0) (.own false o 0 65 1) (.int .i64 (i : Nat))
theorem yCj (go : G[o]? = some (.cells false false (bs stA))) : ∀ k i,i + k = 33 → 25 ≤ i → L.loop xJs xTK ⟨F17 m o i,G⟩ = some (.exit 0,⟨F17 m o 33,G⟩) := by
 have hlen : stA.length = 65 := by decide
 have hat : ∀ i,i < 33 → 25 ≤ i → stA.getD i 0 = 255 := by decide
 generalize stA = st at *
 intro k
 induction k with
 | zero =>
  intro i hi h25
  obtain rfl : i = 33 := by omega
  rw [xXT]
  simp (maxSteps := 30000000) (disch := first|exact D5|fail) only [xPN,WB,↓reduceIte,xTL]
  rfl
 | succ k ih =>
  intro i hi h25
  have ih' := ih (i + 1) (by omega) (by omega)
  have hlt : ((i : Nat) : Int) < 33 := by omega
  have hv := hat i (by omega) h25
  rw [xXT]
  simp (maxSteps := 30000000) (disch := first|exact D5|fail) only [xPN,WB,hlt,↓reduceIte,go,hv,xTL,ih']
end
theorem yGc : (xCv (e1 0 3) fA [] (zr 1)).2 = [bsQ qA] := by
 rw [yDk,List.replicate_one,(xFm (e1 0 3) fA [] [] [fQ] .nil).2]
 have : (xEH (e1 0 3) fA [] [fQ]).2 = [qA] := rfl
 rw [this]; rfl
theorem yEq : xOu fA (e1 0 3) (zr 1) = false := by
 rw [yDk,List.replicate_one]
 exact (xUz fA (e1 0 3) [fQ]).trans sA
set_option maxRecDepth 100000 in
theorem xZN : L.pcall 19 [] = some (.bool true) := by
 have h46A := yFZ
 have h46B := yF2
 have h46C := yF5
 have hA := yFe
 have g0 := yF6
 have g1 := yF7
 have g2 := yF8
 have g3 := yF9
 obtain ⟨G1,m,sb,e19,m1,-,-,-⟩ := xWR yDl wnA []
 have hnA : nT fA = 1 := by decide
 rw [hnA] at m1
 obtain ⟨G2,e22,m2,k2⟩ := xNh m1 (by decide) (by decide) (xIk yDl).2.2 yGa
 change L.icall (.func 24 []) [.ptr m 0,evA (e1 0 3)] G1 = some (.tup [.bool (xOu fA (e1 0 3) (zr 1)),.int .i64 0],G2) at e22
 rw [yEq] at e22
 rw [yGc] at m2
 have hst : (1 :: ([bsQ qA] : List (List Nat)).flatten) = stA := by
  rw [sA2]; rfl
 have gm2 := m2.gm
 have gb2 := m2.gb
 rw [hst] at gb2
 have gm2' : G2[m]? = some (.cells false false [.sl false fA.length (nds fA),.own false sb 0 65 1]) := gm2
 have h24 := xX7 gm2' gb2 (by decide) (by decide) (by decide)
 have go : (G2 ++ [.dead,.cells false false (bs stA)])[G2.length + 1]? = some (.cells false false (bs stA)) := by rw [List.getElem?_append_right (by omega)]; simp
 have e17 := yCj (m := m) go 8 25 rfl (by omega)
 have lm := xA4 gm2
 have lb := xA4 gb2
 obtain ⟨G3,e29,k3⟩ := xRb (ob := G2.length + 1) (n := 64) (G := G2 ++ [.dead,.cells false false (bs stA)]) yDl wnA (by decide)
 have m3 : Mo false fA m sb G3 [bsQ qA] 1 := ⟨by rw [k3.2 m (by simp; omega),xAS lm]; exact m2.gm,by rw [k3.2 sb (by simp; omega),xAS lb]; exact m2.gb,m2.ne,m2.rw,m2.h0⟩
 obtain ⟨G4,e22b,k4⟩ := xJ7 m3 (by decide) yGb
 have e22n := xRc (e := e0 0) (G := G4)
 have l3 := k3.1
 have l4 := k4.1
 simp only [List.length_append,List.length_cons,List.length_nil] at l3
 have gm5 : (G4 ++ [.cells false false [.int .i64 0,.sl true 0 []]])[m]? = some (.cells false false [.sl false fA.length (nds fA),.own false sb 0 65 1]) := by
  rw [xAS (by omega),k4.2 m (by omega)]; exact m3.gm
 have gb5 : (G4 ++ [.cells false false [.int .i64 0,.sl true 0 []]])[sb]? = some (.cells false false (bs stA)) := by
  rw [xAS (by omega),k4.2 sb (by omega),← hst]; exact m3.gb
 have go5 : (G4 ++ [.cells false false [.int .i64 0,.sl true 0 []]])[G2.length + 1]? = some (.cells false false (bs stA)) := by
  rw [xAS (by omega),k4.2 _ (by omega),k3.2 _ (by simp)]; exact go
 have h24b := xX7 gm5 gb5 (by decide) (by decide) (by decide)
 have l5 : (G4 ++ [Blk.cells false false [.int .i64 0,.sl true 0 []]]).length = G4.length + 1 := by simp
 have h25 := yFU (a := stA) (b := stA) (o1 := (G4 ++ [Blk.cells false false [.int .i64 0,.sl true 0 []]]).length + 1) (o2 := G2.length + 1) (f1 := false) (z1 := false) (f2 := false) (z2 := false)
  (H := (G4 ++ [.cells false false [.int .i64 0,.sl true 0 []]]) ++ [.dead,.cells false false (bs stA)]) (by rw [List.getElem?_append_right (by omega)]; simp) (by rw [List.getElem?_append_left (by rw [l5]; omega)]; exact go5) (by decide)
 have hd : decide (stA = stA) = true := decide_eq_true rfl
 rw [hd] at h25
 have h34 : L.pcall 7 [.sl false 1 [.int .u8 2,.int .i64 0,.sl false 1 [.int .i64 8],.int .i64 0,.int .i64 0,.int .i64 0]] = some (.int .i64 11) := by
  have := xH3 false [⟨2,0,false,[8],0,0,0⟩] (by simp)
  rw [yFX] at this
  exact this
 have hl65 : stA.length = 65 := by decide
 have q0 : stA.getD 0 0 = 1 := by decide
 have q24 : stA.getD 24 0 = 0 := by decide
 have q33 : stA.getD 33 0 = 0 := by decide
 unfold evA at e22 e22b e22n
 have e22' : L.icall (.func 24 []) [.ptr m 0,.agg [.int .i64 0,.sl false 1 [.int .i64 3]]] G1 = some (.tup [.bool false,.int .i64 0],G2) := e22
 have e22b' : L.icall (.func 24 []) [.ptr m 0,.agg [.int .i64 0,.sl false 1 [.int .i64 8]]] G3 = some (.tup [.bool false,.int .i64 1],G4) := e22b
 have e22n' : L.icall (.func 24 []) [.nilp,.agg [.int .i64 0,.sl true 0 []]] G4 = some (.tup [.bool false,.int .i64 12],G4 ++ [.cells false false [.int .i64 0,.sl true 0 []]]) := e22n
 have e17' : L.loop xJs xTK ⟨xJt (.bool false) (.str ⟨#[40,101,120,105,115,116,115,32,120,32,40,97,110,100,32,40,97,116,32,98,32,120,41,32,40,110,111,116,32,40,111,110,99,101,32,40,97,116,32,97,32,120,41,41,41,41,41]⟩) (.ptr m 0) (.own false (G2.length + 1) 0 65 1) (.int .i64 25),G2 ++ [.dead,.cells false false (bs stA)]⟩ = some (.exit 0,⟨xJt (.bool false) (.str ⟨#[40,101,120,105,115,116,115,32,120,32,40,97,110,100,32,40,97,116,32,98,32,120,41,32,40,110,111,116,32,40,111,110,99,101,32,40,97,116,32,97,32,120,41,41,41,41,41]⟩) (.ptr m 0) (.own false (G2.length + 1) 0 65 1) (.int .i64 33),G2 ++ [.dead,.cells false false (bs stA)]⟩) := e17
 have h25' : L.icall (.func 45 []) [.own false ((G4 ++ [Blk.cells false false [.int .i64 0,.sl true 0 []]]).length + 1) 0 65 1,.own false (G2.length + 1) 0 65 1] _ = _ := h25
 generalize hG5 : G4 ++ [Blk.cells false false [.int .i64 0,.sl true 0 []]] = G5 at *
 clear e22 e22b e22n e17 h25 hst hd
 generalize stA = st at *
 generalize fA.length = nA at *
 generalize nds fA = cA at *
 rw [yFq,a19,xAa]
 simp (maxSteps := 30000000) (disch := first|exact D5|fail) only [WB,AV.cells,↓reduceIte,AV.isCell,xZM,xAA,xAm,Nat.reduceAdd,Nat.reduceMul,Nat.reduceLeDiff,h46A,h46B,h46C,hA,e19,e22',h24,xH6,q0,Int.reduceToNat,q24,q33,xTL,e17',h34,g0,g1,g2,g3,xAn,e29,e22b',e22n',h24b,h25']
theorem xP7 {α : Type} {f : α → AV} {P : α → Prop} : ∀ (cs : List AV),(∀ x ∈ cs,∃ a,x = f a ∧ P a) → ∃ l : List α,cs = l.map f ∧ ∀ a ∈ l,P a
 | [],_ => ⟨[],rfl,by simp⟩
 | x :: cs,h => by
  obtain ⟨a,rfl,ha⟩ := h x (by simp)
  obtain ⟨l,rfl,hl⟩ := xP7 cs (fun x hx => h x (by simp [hx]))
  exact ⟨a :: l,rfl,by simp; exact ⟨ha,hl⟩⟩
theorem xP8 {a : AV} (h : Fit (.sl [.int .i64]) a) : ∃ (z : Bool) (l : List Int),a = xA2 z l ∧ (z = true → l = []) := by
 obtain ⟨z,cs,rfl,hz,_,hf⟩ := xZR h
 obtain ⟨l,rfl,_⟩ := xP7 (f := fun n : Int => AV.int .i64 n) (P := fun _ => True) cs (fun x hx => by obtain ⟨n,rfl,_⟩ := xF3 (hf x hx); exact ⟨n,rfl,trivial⟩)
 exact ⟨z,l,by simp [xA2,xAB],by simpa using hz⟩
abbrev xZO : List CS := [.int .u8,.int .i64,.sl [.int .i64],.int .i64,.int .i64,.int .i64]
abbrev CEv : List CS := [.int .i64,.sl [.int .i64]]
def yCk : TS := ⟨false,[.sl xZO]⟩
def xX8 : TS := ⟨false,[.sl CEv]⟩
theorem xOt {α : Type} {f : α → List AV} {P : α → Prop} : ∀ (rs : List (List AV)),(∀ r ∈ rs,∃ a,r = f a ∧ P a) → ∃ l : List α,rs = l.map f ∧ ∀ a ∈ l,P a
 | [],_ => ⟨[],rfl,by simp⟩
 | x :: cs,h => by
  obtain ⟨a,rfl,ha⟩ := h x (by simp)
  obtain ⟨l,rfl,hl⟩ := xOt cs (fun x hx => h x (by simp [hx]))
  exact ⟨a :: l,rfl,by simp; exact ⟨ha,hl⟩⟩
theorem xZP {a : AV} (h : Fit (.sl xZO) a) : ∃ (z : Bool) (l : List Nd),a = .sl z l.length (nds l) := by
 cases h with
 | nil => exact ⟨true,[],rfl⟩
 | @sl _ rs hn hl hr =>
  obtain ⟨l,rfl,-⟩ := xOt (f := Nd.c) (P := fun _ => True) rs (fun r hr' => by
   have hfa : FitAll xZO r := ⟨hl r hr',hr r hr'⟩
   obtain ⟨a1,cs,rfl,h1,h'⟩ := xBB hfa
   obtain ⟨a2,cs,rfl,h2,h'⟩ := xBB h'
   obtain ⟨a23,cs,rfl,h3,h'⟩ := xBB h'
   obtain ⟨a20,cs,rfl,h4,h'⟩ := xBB h'
   obtain ⟨a21,cs,rfl,h5,h'⟩ := xBB h'
   obtain ⟨a9996,cs,rfl,h6,h'⟩ := xBB h'
   obtain rfl := xJ4 h'
   obtain ⟨o,rfl,-⟩ := yCl h1
   obtain ⟨nm,rfl,-⟩ := xF3 h2
   obtain ⟨z,l,rfl,-⟩ := xP8 h3
   obtain ⟨x,rfl,-⟩ := xF3 h4
   obtain ⟨a,rfl,-⟩ := xF3 h5
   obtain ⟨b,rfl,-⟩ := xF3 h6
   exact ⟨⟨o,nm,z,l,x,a,b⟩,rfl,trivial⟩)
  exact ⟨false,l,by simp [rows,List.flatMap]⟩
theorem xZQ {a : AV} (h : Fit (.sl CEv) a) : ∃ (z : Bool) (l : List Ev),a = .sl z l.length (evs l) ∧ l.length ≤ 9223372036854775807 := by
 cases h with
 | nil => exact ⟨true,[],rfl,by simp⟩
 | @sl _ rs hn hl hr =>
  obtain ⟨l,rfl,-⟩ := xOt (f := evC) (P := fun _ => True) rs (fun r hr' => by
   have hfa : FitAll CEv r := ⟨hl r hr',hr r hr'⟩
   obtain ⟨a1,cs,rfl,h1,h'⟩ := xBB hfa
   obtain ⟨a2,cs,rfl,h2,h'⟩ := xBB h'
   obtain rfl := xJ4 h'
   obtain ⟨nm,rfl,-⟩ := xF3 h1
   obtain ⟨z,l,rfl,-⟩ := xP8 h2
   exact ⟨⟨nm,z,l⟩,rfl,trivial⟩)
  have hm : maxLen ≤ 9223372036854775807 := by decide
  refine ⟨false,l,by simp [rows,List.flatMap],?_⟩
  rw [List.length_map] at hn
  omega
end Go.Abs.Events
