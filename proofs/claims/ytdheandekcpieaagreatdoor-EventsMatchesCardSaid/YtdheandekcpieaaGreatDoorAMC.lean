/- A step: all its rounds; a valid event. -/
import Derived.Test.YtdheandekcpieaaGreatDoorAbsBun
import Derived.Test.YtdheandekcpieaaGreatDoorAMB
namespace Go.Abs.Events
open Go Go.Abs
set_option maxHeartbeats 8000000
set_option linter.unusedSimpArgs false
set_option linter.unusedVariables false
theorem xYd (q : Q) : ∀ x ∈ bsQ q,x < 256 := by
 intro x hx
 unfold bsQ at hx
 rw [List.mem_map] at hx
 obtain ⟨i,_,rfl⟩ := hx
 exact yCQ q i
def Rows (fs : List Nd) (ws : List (List Nat)) : Prop := ws.length = (fs.filter fun n => tmp n.op).length ∧ ∀ w ∈ ws,w.length = 64 ∧ ∀ x ∈ w,x < 256
theorem Rows.cons_f {n : Nd} {fs : List Nd} {ws : List (List Nat)} (h : Rows (n :: fs) ws) (ht : tmp n.op = false) : Rows fs ws := by
 refine ⟨?_,h.2⟩
 have := h.1
 rwa [List.filter_cons,ht] at this
theorem Rows.cons_t {n : Nd} {fs : List Nd} {ws : List (List Nat)} (h : Rows (n :: fs) ws) (ht : tmp n.op = true) : ∃ w ws',ws = w :: ws' ∧ Rows fs ws' ∧ w.length = 64 ∧ ∀ x ∈ w,x < 256 := by
 have h1 := h.1
 rw [List.filter_cons,ht,if_pos rfl] at h1
 cases ws with
 | nil => cases h1
 | cons w ws' =>
  refine ⟨w,ws',rfl,⟨by simpa using h1,fun v hv => h.2 v (List.mem_cons_of_mem _ hv)⟩,?_⟩
  exact h.2 w List.mem_cons_self
theorem xH5 (e : Ev) : ∀ (fs : List Nd) (qs : List Q) (ws : List (List Nat)),(xCv e fs qs ws).1.length = qs.length + fs.length
 | [],qs,ws => rfl
 | n :: fs,qs,ws => by
  rw [xCv]
  split
  ·show (xCv e fs _ _).1.length = _
   rw [xH5]; simp; omega
  ·rw [xH5]; simp; omega
theorem xF4 (e : Ev) : ∀ (fs : List Nd) (qs : List Q) (ws : List (List Nat)),Rows fs (xCv e fs qs ws).2
 | [],qs,ws => ⟨rfl,fun w hw => by cases hw⟩
 | n :: fs,qs,ws => by
  rw [xCv]
  split
  ·rename_i ht
   have ih := xF4 e fs (qs ++ [evN n e qs (qOf (ws.headD []))]) ws.tail
   refine ⟨?_,?_⟩
   ·rw [List.filter_cons,ht,if_pos rfl]
    show _ + 1 = _ + 1
    rw [ih.1]
   ·intro w hw
    rcases List.mem_cons.1 hw with rfl | hw
    ·exact ⟨xF5 _,xYd _⟩
    ·exact ih.2 w hw
  ·rename_i ht
   have ih := xF4 e fs (qs ++ [evN n e qs fQ]) ws
   have : tmp n.op = false := by simpa using ht
   exact ⟨by rw [List.filter_cons,this]; exact ih.1,ih.2⟩
theorem xWS (pre w : List Nat) (r : List Nat) (q : Q) (hw : w.length = 64) : xLd (pre ++ (w ++ r)) pre.length q 64 = (pre ++ bsQ q) ++ r := by
 unfold xLd
 rw [List.take_append_of_le_length (Nat.le_refl _),List.take_of_length_le (Nat.le_refl _),List.take_of_length_le (by rw [xF5]; omega)]
 congr 1
 rw [← List.append_assoc,List.drop_append_of_le_length (by simp [hw]),List.drop_of_length_le (by simp [hw])]
 rfl
section
variable {e : Ev} {fz : Bool} {fs : List Nd} {m mp s sb : Nat}
theorem yCx (hlen : fs.length ≤ 1000) (hV : ∀ j,j < fs.length → Vn j (fs.getD j nd0)) : ∀ (rest : List Nd) (i at_ : Nat) (G : Heap) (pre : List Nat) (ws : List (List Nat)) (qs : List Q) (dv : AV),
  SI e fz fs m mp s sb G (pre ++ ws.flatten) qs dv → qs.length = i → fs.drop i = rest → i ≤ fs.length → pre.length = at_ → Rows rest ws → (∀ x ∈ pre,x < 256) → (pre ++ ws.flatten).length ≤ 100000 →
  ∃ G' dv' at',L.loop xEo xKD ⟨F22 m mp s fz fs at_ i,G⟩ = some (.exit 0,⟨F22 m mp s fz fs at' fs.length,G'⟩) ∧
   SI e fz fs m mp s sb G' (pre ++ (xCv e rest qs ws).2.flatten) (xCv e rest qs ws).1 dv' ∧ Kt mp sb G G' := by
 intro rest
 induction rest with
 | nil =>
  intro i at_ G pre ws qs dv h hi hd hle hp hr hb hL
  obtain rfl : i = fs.length := by
   have := congrArg List.length hd
   simp at this; omega
  have hw : ws = [] := List.eq_nil_of_length_eq_zero (by simpa using hr.1)
  subst hw
  refine ⟨G,dv,at_,?_,h,.refl _ _ _⟩
  rw [xMP]
  simp (disch := omega) only [xHE,WB,↓reduceIte,xJu]
 | cons n rest ih =>
  intro i at_ G pre ws qs dv h hi hd hle hp hr hb hL
  have hlt : i < fs.length := by
   have := congrArg List.length hd
   simp at this; omega
  have hd' : fs.drop (i + 1) = rest := by rw [← List.drop_drop,hd]; rfl
  have hn : fs.getD i nd0 = n := by
   rw [List.drop_eq_getElem_cons hlt] at hd
   rw [List.getD_eq_getElem?_getD,List.getElem?_eq_getElem hlt]
   exact (List.cons.inj hd).1
  have hv := hV i hlt
  rw [hn,← hi] at hv
  cases ht : tmp n.op with
  | false =>
   obtain ⟨G1,dv1,e1,h1,k1⟩ := yCD (at_ := at_) h hi hlt hlen hn hv ht
   obtain ⟨G2,dv2,at2,e2,h2,k2⟩ := ih (i + 1) at_ G1 pre ws (qs ++ [evN n e qs fQ]) dv1 h1 (by simp [hi]) hd' hlt hp (hr.cons_f ht) hb hL
   refine ⟨G2,dv2,at2,e1.trans e2,?_,k1.kt.trans k2⟩
   rw [xCv,ht]
   exact h2
  | true =>
   obtain ⟨w,ws',rfl,hr',hw,hwb⟩ := hr.cons_t ht
   rw [List.flatten_cons] at h hL
   have hst : ∀ x ∈ pre ++ (w ++ ws'.flatten),x < 256 := by
    intro x hx
    rcases List.mem_append.1 hx with hx | hx
    ·exact hb x hx
    rcases List.mem_append.1 hx with hx | hx
    ·exact hwb x hx
    ·obtain ⟨v,hv,hx⟩ := List.mem_flatten.1 hx
     exact (hr'.2 v hv).2 x hx
   have hrow : ((pre ++ (w ++ ws'.flatten)).drop at_).take 64 = w := by
    rw [← hp,List.drop_append_of_le_length (Nat.le_refl _),List.drop_of_length_le (Nat.le_refl _),List.nil_append,List.take_append_of_le_length (by omega),List.take_of_length_le (by omega)]
   obtain ⟨G1,dv1,e1,h1,k1⟩ := yCE (at_ := at_) h hi hlt hlen hn hv ht (by rw [List.length_append,List.length_append]; omega) hL hst
   rw [hrow] at h1
   have hput : xLd (pre ++ (w ++ ws'.flatten)) at_ (xEI n qs (evN n e qs (qOf w))) 64 = (pre ++ bsQ (xEI n qs (evN n e qs (qOf w)))) ++ ws'.flatten := by
    rw [← hp]; exact xWS _ _ _ _ hw
   rw [hput] at h1
   obtain ⟨G2,dv2,at2,e2,h2,k2⟩ := ih (i + 1) (at_ + 64) G1 (pre ++ bsQ (xEI n qs (evN n e qs (qOf w)))) ws' (qs ++ [evN n e qs (qOf w)]) dv1 h1 (by simp [hi]) hd' hlt (by rw [List.length_append,xF5,hp]) hr'
    (by
     intro x hx
     rcases List.mem_append.1 hx with hx | hx
     ·exact hb x hx
     ·exact xYd _ x hx)
    (by
     rw [List.length_append,List.length_append,xF5]
     rw [List.length_append,List.length_append] at hL
     omega)
   refine ⟨G2,dv2,at2,e1.trans e2,?_,k1.trans k2⟩
   rw [xCv,ht]
   simp only [if_true]
   show SI e fz fs m mp s sb G2 (pre ++ (bsQ _ ++ _)) _ dv2
   rw [← List.append_assoc]
   exact h2
end
def wi (lo hi : Int) (l : List Int) : Bool := l.all fun x => decide (lo ≤ x) && decide (x ≤ hi)
theorem yCy {lo hi : Int} {z : Bool} {l : List Int} {p1 p2 : Nat} {G : Heap} (hl : l.length ≤ 1000) (g1 : G[p1]? = some (.cells false false [.int .i64 lo])) (g2 : G[p2]? = some (.cells false false [.int .i64 hi])) : ∀ k i,i + k = l.length → ∃ i' : Nat,
  L.loop xF2 xNd ⟨xEG (.sl z l.length (xAB l)) (.func 90 [.ptr p1 0,.ptr p2 0]) (.int .i64 0) (.int .i64 (l.length : Nat)) (.int .i64 (i : Nat)),G⟩ =
   some (if wi lo hi (l.drop i) = true then (.exit 0,⟨xEG (.sl z l.length (xAB l)) (.func 90 [.ptr p1 0,.ptr p2 0]) (.int .i64 0) (.int .i64 (l.length : Nat)) (.int .i64 (i' : Nat)),G⟩)
    else (.ret,⟨xEG (.sl z l.length (xAB l)) (.func 90 [.ptr p1 0,.ptr p2 0]) (.int .i64 (i' : Nat)) (.int .i64 (l.length : Nat)) (.int .i64 (i' : Nat)),G⟩)) := by
 intro k
 induction k with
 | zero =>
  intro i hi
  obtain rfl : i = l.length := by omega
  refine ⟨l.length,?_⟩
  rw [if_pos (by rw [List.drop_length]; rfl),xOq]
  simp (maxSteps := 30000000) (disch := first|exact D4|fail) only [xHX,WB,↓reduceIte,xHY]
 | succ k ih =>
  intro i hi'
  have hlt : (i : Int) < (l.length : Nat) := by omega
  have hl1 : i < l.length := by omega
  obtain ⟨i',ih'⟩ := ih (i + 1) (by omega)
  have em : wi lo hi (l.drop i) = ((decide (lo ≤ l.getD i 0) && decide (l.getD i 0 ≤ hi)) && wi lo hi (l.drop (i + 1))) := by
   rw [List.drop_eq_getElem_cons hl1,List.getD_eq_getElem?_getD,List.getElem?_eq_getElem hl1]
   rfl
  rw [em]
  generalize hN : l.getD i 0 = x at *
  have h102 : L.icall (.func 90 [.ptr p1 0,.ptr p2 0]) [.int .i64 x] G = some (.bool (!(decide (lo ≤ x) && decide (x ≤ hi))),G) := by
   by_cases c1 : x < lo
   ·have c2 : ¬ lo ≤ x := by omega
    rw [yD3,a90,xAu]
    simp (maxSteps := 30000000) (disch := first|exact D4|fail) only [WB,Nat.reduceAdd,Nat.reduceSub,g1,c1,↓reduceIte,c2]
   ·have c2 : lo ≤ x := by omega
    by_cases c3 : hi < x
    ·have c4 : ¬ x ≤ hi := by omega
     rw [yD3,a90,xAu]
     simp (maxSteps := 30000000) (disch := first|exact D4|fail) only [WB,Nat.reduceAdd,Nat.reduceSub,g1,c1,↓reduceIte,g2,c3,c2,c4]
    ·have c4 : x ≤ hi := by omega
     rw [yD3,a90,xAu]
     simp (maxSteps := 30000000) (disch := first|exact D4|fail) only [WB,Nat.reduceAdd,Nat.reduceSub,g1,c1,↓reduceIte,g2,c3,c2,c4]
  cases hb : (decide (lo ≤ x) && decide (x ≤ hi)) with
  | true =>
   rw [hb] at h102
   simp only [Bool.true_and]
   refine ⟨i',?_⟩
   rw [xOq]
   simp (maxSteps := 30000000) (disch := first|exact D4|fail) only [xHX,WB,hlt,↓reduceIte,W2,hN,h102,xHY,ih']
  | false =>
   rw [hb] at h102
   simp only [Bool.false_and,Bool.false_eq_true,if_false]
   refine ⟨i,?_⟩
   rw [xOq]
   simp (maxSteps := 30000000) (disch := first|exact D4|fail) only [xHX,WB,hlt,↓reduceIte,W2,hN,h102,xHY]
theorem xCI (lo hi : Int) (z : Bool) {l : List Int} (hl : l.length ≤ 1000) : L.pcall 61 [.int .i64 lo,.int .i64 hi,.sl z l.length (xAB l)] = some (.bool (wi lo hi l)) := by
 obtain ⟨i',e1⟩ := yCy (lo := lo) (hi := hi) (z := z) (l := l) (p1 := 0) (p2 := 1) (G := [.cells false false [.int .i64 lo],.cells false false [.int .i64 hi]]) hl rfl rfl l.length 0 (by omega)
 have e1' : L.loop xF2 xNd ⟨xEG (.sl z l.length (xAB l)) (.func 90 [.ptr 0 0,.ptr 1 0]) (.int .i64 0) (.int .i64 (l.length : Nat)) (.int .i64 0),[.cells false false [.int .i64 lo],.cells false false [.int .i64 hi]]⟩ = _ := e1
 rw [List.drop_zero] at e1'
 have h119 : L.icall (.func 113 []) [.sl z l.length (xAB l),.func 90 [.ptr 0 0,.ptr 1 0]] [.cells false false [.int .i64 lo],.cells false false [.int .i64 hi]] = some (.int .i64 (if wi lo hi l = true then -1 else (i' : Nat)),[.cells false false [.int .i64 lo],.cells false false [.int .i64 hi]]) := by
  cases hw : wi lo hi l with
  | true =>
   rw [hw] at e1'
   simp only [if_true] at e1' ⊢
   rw [yBL,yDd,xAu]
   simp (disch := omega) only [Int.reduceNeg,WB,Nat.reduceAdd,Nat.reduceSub,xHY,e1',↓reduceIte]
  | false =>
   rw [hw] at e1'
   simp only [Bool.false_eq_true,if_false] at e1' ⊢
   rw [yBL,yDd,xAu]
   simp (disch := omega) only [Int.reduceNeg,WB,Nat.reduceAdd,Nat.reduceSub,xHY,e1']
 have h101 : L.icall (.func 89 []) [.sl z l.length (xAB l),.func 90 [.ptr 0 0,.ptr 1 0]] [.cells false false [.int .i64 lo],.cells false false [.int .i64 hi]] = some (.bool (!wi lo hi l),[.cells false false [.int .i64 lo],.cells false false [.int .i64 hi]]) := by
  cases hw : wi lo hi l with
  | true =>
   rw [hw] at h119
   simp only [if_true] at h119
   have : ¬ ((0 : Int) ≤ -1) := by omega
   rw [yE9,a89,xAu]
   simp (disch := omega) only [WB,Nat.reduceAdd,Nat.reduceSub,h119,Int.reduceNeg,this]
  | false =>
   rw [hw] at h119
   simp only [Bool.false_eq_true,if_false] at h119
   have : (0 : Int) ≤ (i' : Nat) := by omega
   rw [yE9,a89,xAu]
   simp (disch := omega) only [WB,Nat.reduceAdd,Nat.reduceSub,h119,this]
 rw [yFF,a61,xAa]
 simp (disch := omega) only [WB,Nat.reduceAdd,Nat.reduceSub,AV.cells,AV.isCell,↓reduceIte,h101,Bool.not_not]
def xEN (e : Ev) : Bool := wi 0 7 [e.name] && decide (e.args.length ≤ 2) && wi 0 7 e.args
theorem xUG (e : Ev) : L.pcall 55 [.agg [.int .i64 e.name,xA2 e.z e.args]] = some (.bool (xEN e)) := by
 have w1 := xCI 0 7 false (l := [e.name]) (by simp)
 have hev : xA2 e.z e.args = .sl e.z e.args.length (xAB e.args) := rfl
 have w1' : L.pcall 61 [.int .i64 0,.int .i64 7,.sl false 1 [.int .i64 e.name]] = _ := w1
 unfold xEN
 rw [hev]
 cases h1 : wi 0 7 [e.name] with
 | false =>
  rw [h1] at w1'
  rw [yD1,a55,xAa]
  simp (maxSteps := 30000000) (disch := first|exact D4|fail) only [WB,Nat.reduceSub,AV.cells,AV.isCell,↓reduceIte,w1',xAA,xAm]
 | true =>
  rw [h1] at w1'
  by_cases h2 : e.args.length ≤ 2
  ·have h2' : ((e.args.length : Nat) : Int) ≤ 2 := by omega
   have w2 := xCI 0 7 e.z (l := e.args) (by omega)
   rw [yD1,a55,xAa]
   simp (maxSteps := 30000000) (disch := first|exact D4|fail) only [WB,Nat.reduceSub,AV.cells,AV.isCell,↓reduceIte,w1',xAA,xAm,h2',w2,h2]
  ·have h2' : ¬ ((e.args.length : Nat) : Int) ≤ 2 := by omega
   rw [yD1,a55,xAa]
   simp (maxSteps := 30000000) (disch := first|exact D4|fail) only [WB,Nat.reduceSub,AV.cells,AV.isCell,↓reduceIte,w1',xAA,xAm,h2',h2]
def xWT (neg : Bool) : AV → Option AV
 | .ptr _ _ => some (.bool (false != neg))
 | .nilp => some (.bool (true != neg))
 | _ => none
theorem xK0 (R : Rec) (F : List AV) (H : Heap) (neg : Bool) (x : Arg) : xAc R F H (.pnil neg x) = xC0 H (xWT neg (opv F x)) := by
 show (match opv F x with | .ptr _ _ => some (AV.bool (false != neg),H) | .nilp => some (AV.bool (true != neg),H) | _ => none) = _
 unfold xWT xC0
 cases opv F x <;> rfl
theorem xK1 (k o : Nat) : xWT false (.ptr k o) = some (.bool false) := rfl
theorem xUH : xWT false .nilp = some (.bool true) := rfl
def evA (e : Ev) : AV := .agg [.int .i64 e.name,xA2 e.z e.args]
structure Mo (fz : Bool) (fs : List Nd) (m sb : Nat) (G : Heap) (ws : List (List Nat)) (h0 : Nat) : Prop where
 gm : G[m]? = some (.cells false false [.sl fz fs.length (nds fs),.own false sb 0 (64 * ws.length + 1) 1])
 gb : G[sb]? = some (.cells false false (bs (h0 :: ws.flatten)))
 ne : m ≠ sb
 rw : Rows fs ws
 h0 : h0 < 256
theorem Rows.flen {fs : List Nd} {ws : List (List Nat)} (h : Rows fs ws) : ws.flatten.length = 64 * ws.length := by
 have := h.2
 clear h
 induction ws with
 | nil => rfl
 | cons w ws ih =>
  rw [List.flatten_cons,List.length_append,(this w List.mem_cons_self).1,ih fun v hv => this v (List.mem_cons_of_mem _ hv),List.length_cons]; omega
theorem Rows.le {fs : List Nd} {ws : List (List Nat)} (h : Rows fs ws) : ws.length ≤ fs.length := by rw [h.1]; exact List.length_filter_le _ _
section
variable {e : Ev} {fz : Bool} {fs : List Nd} {m sb : Nat} {G : Heap} {ws : List (List Nat)} {h0 : Nat}
theorem xRc : L.icall (.func 24 []) [.nilp,evA e] G = some (.tup [.bool false,.int .i64 12],G ++ [.cells false false [.int .i64 e.name,xA2 e.z e.args]]) := by
 have hev : xA2 e.z e.args = .sl e.z e.args.length (xAB e.args) := rfl
 unfold evA
 rw [yD0,a24,xAu]
 simp (disch := omega) only [hev,WB,Nat.reduceAdd,Nat.reduceSub,AV.cells,AV.isCell,↓reduceIte,xK0,xUH]
theorem xJ7 (h : Mo fz fs m sb G ws h0) (hf : 0 < fs.length) (he : xEN e = false) : ∃ G',L.icall (.func 24 []) [.ptr m 0,evA e] G = some (.tup [.bool false,.int .i64 1],G') ∧ Kp G.length G G' := by
 obtain ⟨gm,gb,ne,hr,h0l⟩ := h
 have lm := xA4 gm
 have hev : xA2 e.z e.args = .sl e.z e.args.length (xAB e.args) := rfl
 have hv := xUG e
 rw [he] at hv
 have hfn : ¬ ((fs.length : Nat) : Int) = 0 := by omega
 have gm' : (G ++ [.cells false false [.int .i64 e.name,xA2 e.z e.args]])[m]? = some (.cells false false [.sl fz fs.length (nds fs),.own false sb 0 (64 * ws.length + 1) 1]) := by rw [xAS lm]; exact gm
 refine ⟨G ++ [.cells false false [.int .i64 e.name,xA2 e.z e.args]],?_,.app _ _⟩
 unfold evA
 rw [hev] at *
 rw [yD0,a24,xAu]
 simp (maxSteps := 30000000) (disch := first|exact D4|fail) only [WB,Nat.reduceAdd,Nat.reduceSub,AV.cells,AV.isCell,↓reduceIte,xK0,xK1,xAS,gm,hfn,xBq,hv,xAA,xAm]
theorem xNh (h : Mo fz fs m sb G ws h0) (hf : 0 < fs.length) (hlen : fs.length ≤ 1000) (hV : ∀ j,j < fs.length → Vn j (fs.getD j nd0)) (he : xEN e = true) :
  ∃ G',L.icall (.func 24 []) [.ptr m 0,evA e] G = some (.tup [.bool (((xCv e fs [] ws).1.getD (fs.length - 1) fQ) 0),.int .i64 0],G') ∧ Mo fz fs m sb G' (xCv e fs [] ws).2 1 ∧ Kt G.length sb G G' := by
 obtain ⟨gm,gb,ne,hr,h0l⟩ := h
 have lm := xA4 gm
 have lb := xA4 gb
 have hfl := hr.flen
 have hle := hr.le
 have hev : xA2 e.z e.args = .sl e.z e.args.length (xAB e.args) := rfl
 have hv := xUG e
 rw [he] at hv
 have hfn : ¬ ((fs.length : Nat) : Int) = 0 := by omega
 have hmap := yEA (G ++ [.cells false false [.int .i64 e.name,xA2 e.z e.args]])
 rw [List.length_append,List.length_singleton] at hmap
 generalize hG1 : G.set sb (.cells false false (bs (1 :: ws.flatten))) ++ [.cells false false [.int .i64 e.name,xA2 e.z e.args],.mp xOz,.cells false false (stC e (.sl true 0 []) fQ (.bool false))] = G1 at *
 have hgen : ∀ k,k < G.length → k ≠ sb → G1[k]? = G[k]? := by
  intro k hk hne
  rw [← hG1,xAS (by simpa using hk),xBH (by omega)]
 have hsi : SI e fz fs m (G.length + 1) (G.length + 2) sb G1 ([1] ++ ws.flatten) [] (.sl true 0 []) := by
  refine ⟨?_,?_,?_,⟨fQ,?_⟩,.inl ⟨rfl,rfl⟩,by omega,by omega,ne,by omega⟩
  ·rw [hgen m lm ne,gm,List.length_append,hfl,List.length_singleton,Nat.add_comm]
  ·rw [← hG1,xAS (by simpa using lb),xEJ lb]; rfl
  ·rw [← hG1,xH6 (by simp)]; simp
  ·rw [← hG1,xH6 (by simp)]; simp
 obtain ⟨G2,dv,at',e1,h1,k1⟩ := yCx hlen hV fs 0 1 G1 [1] ws [] (.sl true 0 []) hsi rfl rfl (by omega) rfl hr (by simp) (by rw [List.length_append,hfl,List.length_singleton]; omega)
 have hq := xH5 e fs [] ws
 have hrw := xF4 e fs [] ws
 have hrf := hrw.flen
 generalize (xCv e fs [] ws).2 = ws2 at *
 generalize (xCv e fs [] ws).1 = qs2 at *
 simp only [List.length_nil,Nat.zero_add] at hq
 obtain ⟨gm2,gb2,gp2,⟨was2,gs2⟩,gd2,-,-,-,-⟩ := h1
 rcases gd2 with ⟨rfl,-⟩ | ⟨d,rfl,gd2,-,-⟩
 ·simp at hq; omega
 have e1' : L.loop xEo xKD ⟨xMO (.ptr m 0) (.mp (G.length + 1)) (.ptr (G.length + 2) 0) (.int .i64 1) (.sl fz fs.length (nds fs)) (.int .i64 (fs.length : Nat)) (.int .i64 0),G1⟩ = _ := e1
 have hrA : List.take 8 (List.drop ((fs.length - 1) * 8) (rT qs2)) = w64 (tw (qs2.getD (fs.length - 1) fQ)) := xNi (by omega)
 have hsub : ((fs.length : Nat) : Int) - 1 = ((fs.length - 1 : Nat) : Int) := by omega
 have hl8 := xAf qs2
 have hl := xDf e (.own false d 0 qs2.length 8) was2 (.bool false)
 have hdv : List.take 1 (List.drop 2 (stC e (.own false d 0 qs2.length 8) was2 (.bool false))) = [.own false d 0 qs2.length 8] := rfl
 have hfq : w64 (tw fQ) = [.int .u64 0,.int .u64 0,.int .u64 0,.int .u64 0,.int .u64 0,.int .u64 0,.int .u64 0,.int .u64 0] := by
  have : tw fQ = List.replicate 8 0 := by
   unfold tw fQ
   simp only [xGN]
   rfl
  rw [this]; rfl
 have hst : stC e (.sl true 0 []) fQ (.bool false) = [.int .i64 e.name,.sl e.z e.args.length (xAB e.args),.sl true 0 [],.int .u64 0,.int .u64 0,.int .u64 0,.int .u64 0,.int .u64 0,.int .u64 0,.int .u64 0,.int .u64 0,.bool false] := by
  unfold stC
  rw [hfq]; rfl
 rw [hst] at hG1
 have gm1 := hgen m lm ne
 rw [gm] at gm1
 have hG2 : List.set G sb (.cells false false (.int .u8 1 :: bs ws.flatten)) ++ [.cells false false [.int .i64 e.name,.sl e.z e.args.length (xAB e.args)],.mp xOz,.cells false false [.int .i64 e.name,.sl e.z e.args.length (xAB e.args),.sl true 0 [],.int .u64 0,.int .u64 0,.int .u64 0,.int .u64 0,.int .u64 0,.int .u64 0,.int .u64 0,.int .u64 0,.bool false]] = G1 := hG1
 have hb1 : bs (List.set (h0 :: ws.flatten) 0 1) = bs (1 :: ws.flatten) := rfl
 refine ⟨G2,?_,⟨?_,gb2,ne,hrw,by omega⟩,?_⟩
 ·generalize qs2.getD (fs.length - 1) fQ = q at *
  rw [hq] at gs2 hl hdv hl8
  have hd1 : xDq .and .u64 (((tw q).getD 0 0 : Nat) : Int) 1 = ((q 0).toNat : Nat) := by
   have := yCL q (a := 0) (k := 0) (by omega)
   rw [xRd q (by omega)]
   simpa [wrd] using this
  have hr1 : List.take 1 (List.drop ((fs.length - 1) * 8) (rT qs2)) = [AV.int .u64 ((tw q).getD 0 0 : Nat)] := by
   have : List.take 1 (List.take 8 (List.drop ((fs.length - 1) * 8) (rT qs2))) = List.take 1 (List.drop ((fs.length - 1) * 8) (rT qs2)) := by rw [List.take_take]; rfl
   rw [← this,hrA]
   exact yAh (l := tw q) (k := 0) (by rw [xAd]; omega)
  generalize (tw q).getD 0 0 = w0 at *
  have hne : (!decide ((((q 0).toNat : Nat) : Int) = 0)) = q 0 := by cases q 0 <;> rfl
  generalize stC e (.own false d 0 fs.length 8) was2 (.bool false) = C at *
  unfold evA
  rw [hev] at *
  rw [yD0,a24,xAu]
  simp (maxSteps := 30000000) (disch := first|exact D4|fail) only [WB,Nat.reduceAdd,Nat.reduceSub,AV.cells,AV.isCell,↓reduceIte,xK0,xK1,xAS,gm,hfn,xBq,hv,xAA,xAm,hmap,Nat.reduceLeDiff,gb,xDp,hG2,gm1,xJu,e1',gs2,hdv,xAn,hsub,WA,gd2,hr1,hd1,hne]
 ·rw [gm2,List.length_append,hrf,List.length_singleton,Nat.add_comm]
 ·refine ⟨?_,fun b hb hbn => ?_⟩
  ·have := k1.1
   rw [← hG1] at this
   simp only [List.length_append,List.length_set] at this
   omega
  ·rw [k1.2 b (by omega) hbn,hgen b hb hbn]
end
def fnm (op : Nat) : ByteArray :=
 if op = 1 then ⟨#[116,114,117,101]⟩ else if op = 2 then ⟨#[97,116]⟩ else if op = 3 then ⟨#[61]⟩ else if op = 4 then ⟨#[110,111,116]⟩ else if op = 5 then ⟨#[97,110,100]⟩
 else if op = 6 then ⟨#[111,114]⟩ else if op = 7 then ⟨#[101,120,105,115,116,115]⟩ else if op = 8 then ⟨#[112,114,101,118,105,111,117,115]⟩
 else if op = 9 then ⟨#[115,105,110,99,101]⟩ else if op = 10 then ⟨#[111,110,99,101]⟩ else ⟨#[]⟩
def foC (op : Nat) : List AV := [.str (fnm op),.int .i64 (chn op : Nat),.int .i64 (flo op : Nat),.int .i64 (fhi op : Nat),.bool (decide (op = 2)),.bool (decide (op = 7))]
set_option maxHeartbeats 4000000
theorem xZ0 : L.pcall 33 [.int .u8 (1 : Nat)] = some (.agg (foC 1)) := by
 rw [xUf,a33,xAa]
 simp (disch := omega) only [WB,Nat.reduceSub,AV.cells,AV.isCell,↓reduceIte,Nat.reduceAdd,Nat.reduceLeDiff]
 rfl
theorem xZ1 : L.pcall 33 [.int .u8 (2 : Nat)] = some (.agg (foC 2)) := by
 rw [xUf,a33,xAa]
 simp (disch := omega) only [WB,Nat.reduceSub,AV.cells,AV.isCell,↓reduceIte,Int.reduceEq,Nat.reduceAdd,Nat.reduceLeDiff]
 rfl
theorem xZ2 : L.pcall 33 [.int .u8 (3 : Nat)] = some (.agg (foC 3)) := by
 rw [xUf,a33,xAa]
 simp (disch := omega) only [WB,Nat.reduceSub,AV.cells,AV.isCell,↓reduceIte,Int.reduceEq,Nat.reduceAdd,Nat.reduceLeDiff]
 rfl
theorem xZ3 : L.pcall 33 [.int .u8 (4 : Nat)] = some (.agg (foC 4)) := by
 rw [xUf,a33,xAa]
 simp (disch := omega) only [WB,Nat.reduceSub,AV.cells,AV.isCell,↓reduceIte,Int.reduceEq,Nat.reduceAdd,Nat.reduceLeDiff,xHI,xHJ,xFe,Int.reduceLT,WA,Nat.reduceMul]
 rfl
theorem xZ4 : L.pcall 33 [.int .u8 (5 : Nat)] = some (.agg (foC 5)) := by
 rw [xUf,a33,xAa]
 simp (disch := first | assumption | omega | rfl | decide) only [WB,Nat.reduceSub,AV.cells,AV.isCell,↓reduceIte,Int.reduceEq,Nat.reduceAdd,Nat.reduceLeDiff,xHI,xHJ,xFe,Int.reduceLT,WA,Nat.reduceMul]
 rfl
theorem xZ5 : L.pcall 33 [.int .u8 (6 : Nat)] = some (.agg (foC 6)) := by
 rw [xUf,a33,xAa]
 simp (disch := first | assumption | omega | rfl | decide) only [WB,Nat.reduceSub,AV.cells,AV.isCell,↓reduceIte,Int.reduceEq,Nat.reduceAdd,Nat.reduceLeDiff,xHI,xHJ,xFe,Int.reduceLT,WA,Nat.reduceMul,Int.reduceAdd,Int.reduceToNat]
 rfl
theorem xZ6 : L.pcall 33 [.int .u8 (7 : Nat)] = some (.agg (foC 7)) := by
 rw [xUf,a33,xAa]
 simp (disch := omega) only [WB,Nat.reduceSub,AV.cells,AV.isCell,↓reduceIte,Int.reduceEq,Nat.reduceAdd,Nat.reduceLeDiff]
 rfl
theorem xZ7 : L.pcall 33 [.int .u8 (8 : Nat)] = some (.agg (foC 8)) := by
 rw [xUf,a33,xAa]
 simp (disch := first | assumption | omega | rfl | decide) only [WB,Nat.reduceSub,AV.cells,AV.isCell,↓reduceIte,Int.reduceEq,Nat.reduceAdd,Nat.reduceLeDiff,xHI,xHJ,xFe,Int.reduceLT,WA,Nat.reduceMul,Int.reduceAdd,Int.reduceToNat]
 rfl
theorem xZ8 : L.pcall 33 [.int .u8 (9 : Nat)] = some (.agg (foC 9)) := by
 rw [xUf,a33,xAa]
 simp (disch := first | assumption | omega | rfl | decide) only [WB,Nat.reduceSub,AV.cells,AV.isCell,↓reduceIte,Int.reduceEq,Nat.reduceAdd,Nat.reduceLeDiff,xHI,xHJ,xFe,Int.reduceLT,WA,Nat.reduceMul,Int.reduceAdd,Int.reduceToNat]
 rfl
theorem xWU : L.pcall 33 [.int .u8 (10 : Nat)] = some (.agg (foC 10)) := by
 rw [xUf,a33,xAa]
 simp (disch := first | assumption | omega | rfl | decide) only [WB,Nat.reduceSub,AV.cells,AV.isCell,↓reduceIte,Int.reduceEq,Nat.reduceAdd,Nat.reduceLeDiff,xHI,xHJ,xFe,Int.reduceLT,WA,Nat.reduceMul,Int.reduceAdd,Int.reduceToNat]
 rfl
theorem xWV {op : Nat} (h : op = 0 ∨ 10 < op) : L.pcall 33 [.int .u8 (op : Nat)] = some (.agg (foC op)) := by
 have n1 : ¬ (((op : Nat) : Int) = 1) := by omega
 have n2 : ¬ (((op : Nat) : Int) = 2) := by omega
 have n3 : ¬ (((op : Nat) : Int) = 3) := by omega
 have n7 : ¬ (((op : Nat) : Int) = 7) := by omega
 have n4 : ¬ ((4 : Int) = ((op : Nat) : Int)) := by omega
 have n5 : ¬ ((5 : Int) = ((op : Nat) : Int)) := by omega
 have n6 : ¬ ((6 : Int) = ((op : Nat) : Int)) := by omega
 have n8 : ¬ ((8 : Int) = ((op : Nat) : Int)) := by omega
 have n9 : ¬ ((9 : Int) = ((op : Nat) : Int)) := by omega
 have n10 : ¬ ((10 : Int) = ((op : Nat) : Int)) := by omega
 have hf : foC op = [.str ⟨#[]⟩,.int .i64 0,.int .i64 0,.int .i64 0,.bool false,.bool false] := by
  unfold foC fnm chn flo fhi
  have m1 : op ≠ 1 := by omega
  have m2 : op ≠ 2 := by omega
  have m3 : op ≠ 3 := by omega
  have m4 : op ≠ 4 := by omega
  have m5 : op ≠ 5 := by omega
  have m6 : op ≠ 6 := by omega
  have m7 : op ≠ 7 := by omega
  have m8 : op ≠ 8 := by omega
  have m9 : op ≠ 9 := by omega
  have m10 : op ≠ 10 := by omega
  simp [m1,m2,m3,m4,m5,m6,m7,m8,m9,m10]
 rw [hf]
 rw [xUf,a33,xAa]
 simp (disch := first | assumption | omega | rfl | decide) only [WB,Nat.reduceSub,AV.cells,AV.isCell,↓reduceIte,n1,n2,n3,n7,Nat.reduceAdd,Nat.reduceLeDiff,xHI,xHJ,xFe,Int.reduceLT,WA,Nat.reduceMul,n4,n5,Int.reduceAdd,Int.reduceToNat,n6,n8,n9,n10]
theorem xCP (op : Nat) : L.pcall 33 [.int .u8 (op : Nat)] = some (.agg (foC op)) := by
 by_cases h : op = 0 ∨ 10 < op
 ·exact xWV h
 have : op = 1 ∨ op = 2 ∨ op = 3 ∨ op = 4 ∨ op = 5 ∨ op = 6 ∨ op = 7 ∨ op = 8 ∨ op = 9 ∨ op = 10 := by omega
 rcases this with rfl | rfl | rfl | rfl | rfl | rfl | rfl | rfl | rfl | rfl
 ·exact xZ0
 ·exact xZ1
 ·exact xZ2
 ·exact xZ3
 ·exact xZ4
 ·exact xZ5
 ·exact xZ6
 ·exact xZ7
 ·exact xZ8
 ·exact xWU
def szN (n : Nd) (os : List Nat) : Nat :=
 if chn n.op = 0 then (if n.a = 0 ∧ n.b = 0 then 1 else 0)
 else if os.length = 0 ∨ os.getD (os.length - 1) 0 = 0 then 0
 else if chn n.op = 1 then (if n.a = (os.length - 1 : Nat) ∧ n.b = 0 then 1 + os.getD (os.length - 1) 0 else 0)
 else if os.length - os.getD (os.length - 1) 0 = 0 ∨ os.getD (os.length - os.getD (os.length - 1) 0 - 1) 0 = 0 then 0
 else if n.a = (os.length - os.getD (os.length - 1) 0 - 1 : Nat) ∧ n.b = (os.length - 1 : Nat) then 1 + os.getD (os.length - 1) 0 + os.getD (os.length - os.getD (os.length - 1) 0 - 1) 0 else 0
def szs : List Nd → List Nat → List Nat
 | [],os => os
 | n :: fs,os => szs fs (os ++ [szN n os])
theorem xDS : ∀ (fs : List Nd) (os : List Nat),(szs fs os).length = os.length + fs.length
 | [],os => rfl
 | n :: fs,os => by rw [szs,xDS]; simp; omega
theorem xAG (op : Nat) : chn op = 0 ∨ chn op = 1 ∨ chn op = 2 := by
 unfold chn
 split
 ·exact .inr (.inl rfl)
 ·split
  ·exact .inr (.inr rfl)
  ·exact .inl rfl
theorem xUI (n : Nd) {os : List Nat} (h : ∀ k,k < os.length → os.getD k 0 ≤ k + 1) : szN n os ≤ os.length + 1 := by
 unfold szN
 split
 ·split <;> omega
 split
 ·omega
 rename_i h1
 rw [not_or] at h1
 have a1 := h (os.length - 1) (by omega)
 split
 ·split <;> omega
 split
 ·omega
 rename_i h2
 rw [not_or] at h2
 have a2 := h (os.length - os.getD (os.length - 1) 0 - 1) (by omega)
 split <;> omega
theorem xK2 {n : Nd} {os : List Nat} (h : ∀ k,k < os.length → os.getD k 0 ≤ k + 1) : ∀ k,k < (os ++ [szN n os]).length → (os ++ [szN n os]).getD k 0 ≤ k + 1 := by
 intro k hk
 rw [List.length_append,List.length_singleton] at hk
 by_cases c : k < os.length
 ·rw [List.getD_eq_getElem?_getD,List.getElem?_append_left c,← List.getD_eq_getElem?_getD]; exact h k c
 ·obtain rfl : k = os.length := by omega
  rw [List.getD_eq_getElem?_getD,List.getElem?_append_right (Nat.le_refl _)]
  simpa using xUI n h
section
variable {l : List Nat} {f n c j ob N v : Nat} {a b : Int} {G : Heap} {s4 s5 s13 s14 s15 : AV}
abbrev FI (ob N : Nat) (s4 s5 s13 s14 s15 : AV) (n f : Nat) (a b : Int) (c j : Nat) : List AV := xMQ (.own false ob 0 N 1) s4 s5 (.int .i64 (n : Nat)) (.int .i64 (f : Nat)) (.int .i64 a) (.int .i64 b) s13 s14 s15 (.int .i64 (c : Nat)) (.int .i64 (j : Nat))
theorem xOw (hj : j = c) : L.loop xDP xIi ⟨FI ob N s4 s5 s13 s14 s15 n f a b c j,G⟩ = some (.exit 2,⟨FI ob N s4 s5 s13 s14 s15 n f a b c j,G⟩) := by
 subst hj
 rw [xPO]
 simp (disch := omega) only [xJv,WB,↓reduceIte,xGr]
theorem xQe (hj : j < c) : L.loop xDP xIi ⟨FI ob N s4 s5 s13 s14 s15 n 0 a b c j,G⟩ = some (.exit 2,⟨FI ob N s4 s5 s13 s14 s15 0 0 a b c j,G⟩) := by
 have hj' : ((j : Nat) : Int) < (c : Nat) := by omega
 rw [xPO]
 simp (disch := omega) only [xJv,WB,hj',↓reduceIte,Nat.reduceEqDiff,xGr]
 rfl
theorem xQf (hj : j < c) (go : G[ob]? = some (.cells false false (xAU l))) (hN : l.length = N) (h1 : 1 ≤ f) (h2 : f ≤ N) (h3 : N ≤ 1000) (hv : l.getD (f - 1) 0 = 0) :
  L.loop xDP xIi ⟨FI ob N s4 s5 s13 s14 s15 n f a b c j,G⟩ = some (.exit 2,⟨FI ob N s4 s5 s13 s14 s15 0 f a b c j,G⟩) := by
 have hj' : ((j : Nat) : Int) < (c : Nat) := by omega
 have hf0 : ¬ ((f : Nat) : Int) = 0 := by omega
 have hf1 : ((f : Nat) : Int) - 1 = ((f - 1 : Nat) : Int) := by omega
 rw [xPO]
 simp (maxSteps := 30000000) (disch := first|exact D4|fail) only [xJv,WB,hj',↓reduceIte,hf0,hf1,go,hv,Nat.reduceEqDiff,xGr]
 rfl
theorem xYe (hj : j < c) (go : G[ob]? = some (.cells false false (xAU l))) (hN : l.length = N) (h1 : 1 ≤ f) (h2 : f ≤ N) (h3 : N ≤ 1000) (hv : l.getD (f - 1) 0 = v) (hv0 : v ≠ 0) (hvf : v ≤ f) (hn : n ≤ 1000) (hc : c ≤ 2) :
  L.loop xDP xIi ⟨FI ob N s4 s5 s13 s14 s15 n f a b c j,G⟩ = L.loop xDP xIi ⟨FI ob N s4 s5 s13 s14 s15 (n + v) (f - v) ((f - 1 : Nat)) a c (j + 1),G⟩ := by
 have hj' : ((j : Nat) : Int) < (c : Nat) := by omega
 have hf0 : ¬ ((f : Nat) : Int) = 0 := by omega
 have hf1 : ((f : Nat) : Int) - 1 = ((f - 1 : Nat) : Int) := by omega
 have hvi : ¬ ((v : Nat) : Int) = 0 := by omega
 have hfv : ((f : Nat) : Int) - ((v : Nat) : Int) = ((f - v : Nat) : Int) := by omega
 rw [xPO]
 simp (maxSteps := 30000000) (disch := first|exact D4|fail) only [xJv,WB,hj',↓reduceIte,hf0,hf1,go,hv,hvi,hfv,xGr]
theorem xZ9 {n : Nd} {os : List Nat} {i : Nat} (go : G[ob]? = some (.cells false false (xAU l))) (hN : l.length = N) (h3 : N ≤ 1000) (hi : os.length = i) (hiN : i < N) (hl : ∀ k,k < i → l.getD k 0 = os.getD k 0)
  (hI : ∀ k,k < os.length → os.getD k 0 ≤ k + 1) :
  ∃ (nn ff jj : Nat) (aa bb : Int),L.loop xDP xIi ⟨FI ob N s4 s5 s13 s14 s15 1 i 0 0 (chn n.op) 0,G⟩ = some (.exit 2,⟨FI ob N s4 s5 s13 s14 s15 nn ff aa bb (chn n.op) jj,G⟩) ∧
   szN n os = (if 0 < nn ∧ n.a = aa ∧ n.b = bb then nn else 0) ∧ nn ≤ 1001 := by
 unfold szN
 rw [hi]
 have hc2 : chn n.op ≤ 2 := by rcases xAG n.op with h | h | h <;> omega
 generalize chn n.op = c at *
 by_cases c0 : c = 0
 ·subst c0
  exact ⟨1,i,0,0,0,xOw rfl,by simp,by omega⟩
 rw [if_neg c0]
 by_cases h1 : i = 0
 ·subst h1
  exact ⟨0,0,0,0,0,xQe (by omega),by simp,by omega⟩
 have el := hl (i - 1) (by omega)
 have ol := hI (i - 1) (by omega)
 generalize os.getD (i - 1) 0 = v at *
 by_cases h2 : v = 0
 ·subst h2
  exact ⟨0,i,0,0,0,xQf (by omega) go hN (by omega) (by omega) h3 el,by simp [h1],by omega⟩
 rw [if_neg (by omega)]
 have e1 := xYe (n := 1) (f := i) (j := 0) (c := c) (a := 0) (b := 0) (s4 := s4) (s5 := s5) (s13 := s13) (s14 := s14) (s15 := s15) (by omega) go hN (by omega) (by omega) h3 el h2 (by omega) (by omega) hc2
 by_cases c1 : c = 1
 ·subst c1
  rw [if_pos rfl]
  refine ⟨1 + v,i - v,1,_,_,e1.trans (xOw rfl),?_,by omega⟩
  by_cases q : n.a = ((i - 1 : Nat) : Int) ∧ n.b = 0
  ·rw [if_pos q,if_pos ⟨by omega,q⟩]
  ·rw [if_neg q,if_neg fun q' => q q'.2]
 rw [if_neg c1]
 by_cases h4 : i - v = 0
 ·rw [h4] at e1
  refine ⟨0,0,1,_,_,e1.trans (xQe (by omega)),?_,by omega⟩
  rw [if_pos (.inl h4)]; simp
 have el2 := hl (i - v - 1) (by omega)
 have ol2 := hI (i - v - 1) (by omega)
 generalize os.getD (i - v - 1) 0 = w at *
 by_cases h5 : w = 0
 ·subst h5
  refine ⟨0,i - v,1,_,_,e1.trans (xQf (by omega) go hN (by omega) (by omega) h3 el2),?_,by omega⟩
  simp
 rw [if_neg (by omega)]
 have e2 := xYe (n := 1 + v) (f := i - v) (j := 0 + 1) (c := c) (a := ((i - 1 : Nat) : Int)) (b := 0) (s4 := s4) (s5 := s5) (s13 := s13) (s14 := s14) (s15 := s15) (by omega) go hN (by omega) (by omega) h3 el2 h5 (by omega) (by omega) hc2
 refine ⟨1 + v + w,i - v - w,0 + 1 + 1,_,_,e1.trans (e2.trans (xOw (by omega))),?_,by omega⟩
 by_cases q : n.a = ((i - v - 1 : Nat) : Int) ∧ n.b = ((i - 1 : Nat) : Int)
 ·rw [if_pos q,if_pos ⟨by omega,q⟩]
 ·rw [if_neg q,if_neg fun q' => q q'.2]
end
section
variable {fz : Bool} {fs : List Nd} {os : List Nat} {i ob : Nat} {G : Heap} {n : Nd}
abbrev F66 (ob : Nat) (fz : Bool) (fs : List Nd) (i : Nat) : List AV := xMR (.own false ob 0 fs.length 1) (.sl fz fs.length (nds fs)) (.int .i64 (fs.length : Nat)) (.int .i64 (i : Nat))
theorem yAa (hlen : fs.length ≤ 64) (hi : os.length = i) (hlt : i < fs.length) (hn : fs.getD i nd0 = n) (hI : ∀ k,k < os.length → os.getD k 0 ≤ k + 1)
  (go : G[ob]? = some (.cells false false (xAU (os ++ List.replicate (fs.length - i) 0)))) :
  ∃ G',L.loop xGs xOg ⟨F66 ob fz fs i,G⟩ = L.loop xGs xOg ⟨F66 ob fz fs (i + 1),G'⟩ ∧ G'[ob]? = some (.cells false false (xAU ((os ++ [szN n os]) ++ List.replicate (fs.length - (i + 1)) 0))) := by
 have hltI : ((i : Nat) : Int) < (fs.length : Nat) := by omega
 have lo := xA4 go
 have h68 := xCP n.op
 have hll : (os ++ List.replicate (fs.length - i) 0).length = fs.length := by simp; omega
 have xNt : ∀ k,k < i → (os ++ List.replicate (fs.length - i) 0).getD k 0 = os.getD k 0 := by
  intro k hk
  rw [List.getD_eq_getElem?_getD,List.getElem?_append_left (by omega),List.getD_eq_getElem?_getD]
 have go1 : (G ++ [.cells false false n.c])[ob]? = some (.cells false false (xAU (os ++ List.replicate (fs.length - i) 0))) := by rw [xAS lo]; exact go
 obtain ⟨nn,ff,jj,aa,bb,e1,hs,hnn⟩ := xZ9 (n := n) (s4 := .int .i64 (i : Nat)) (s5 := .ptr G.length 0) (s13 := .sl fz fs.length (nds fs)) (s14 := .int .i64 (fs.length : Nat)) (s15 := .int .i64 (i : Nat)) go1 hll (by omega) hi hlt xNt hI
 have hnv : xA2 n.z n.args = .sl n.z n.args.length (xAB n.args) := rfl
 have hrep : List.replicate (fs.length - i) 0 = 0 :: List.replicate (fs.length - (i + 1)) 0 := by
  rw [show fs.length - i = (fs.length - (i + 1)) + 1 by omega]; rfl
 unfold Nd.c at e1 go1
 rw [hnv] at e1 go1
 have e1' : L.loop xDP xIi ⟨xMQ (.own false ob 0 fs.length 1) (.int .i64 (i : Nat)) (.ptr G.length 0) (.int .i64 1) (.int .i64 (i : Nat)) (.int .i64 0) (.int .i64 0) (.sl fz fs.length (nds fs)) (.int .i64 (fs.length : Nat)) (.int .i64 (i : Nat)) (.int .i64 (chn n.op : Nat)) (.int .i64 0),G ++ [.cells false false [.int .u8 (n.op : Nat),.int .i64 n.name,.sl n.z n.args.length (xAB n.args),.int .i64 n.x,.int .i64 n.a,.int .i64 n.b]]⟩ = _ := e1
 have hch : List.take 1 (List.drop 1 (foC n.op)) = [.int .i64 (chn n.op : Nat)] := rfl
 have hfl : (foC n.op).length = 6 := rfl
 generalize foC n.op = C at *
 rw [hs]
 by_cases q1 : 0 < nn
 ·have q1' : (0 : Int) < (nn : Nat) := by omega
  by_cases q2 : n.a = aa
  ·have q2' := eq_true q2
   by_cases q3 : n.b = bb
   ·have q3' := eq_true q3
    rw [if_pos ⟨q1,q2,q3⟩]
    have hset : (os ++ List.replicate (fs.length - i) 0).set i nn = (os ++ [nn]) ++ List.replicate (fs.length - (i + 1)) 0 := by
     rw [hrep,List.set_append_right _ _ (by omega),hi,Nat.sub_self,List.set_cons_zero,List.append_assoc]; rfl
    refine ⟨G.set ob (.cells false false (xAU ((os ++ [nn]) ++ List.replicate (fs.length - (i + 1)) 0))) ++ [.cells false false n.c],?_,?_⟩
    ·unfold Nd.c
     generalize os ++ List.replicate (fs.length - i) 0 = l at *
     generalize (os ++ [nn]) ++ List.replicate (fs.length - (i + 1)) 0 = l2 at *
     rw [hnv]
     rw [xMS]
     simp (maxSteps := 30000000) (disch := first|exact D4|fail) only [xHF,WB,hltI,↓reduceIte,xAs,Nd.c,hn,hnv,AV.cells,AV.isCell,Nat.reduceAdd,xBq,xBG,h68,xAA,hch,xGr,e1',q1',q2',q3',xAS,go,hset,xDp,xJw]
    ·rw [xAS (by simpa using lo),xEJ lo]
   ·rw [if_neg fun q => q3 q.2.2]
    refine ⟨G ++ [.cells false false n.c],?_,?_⟩
    ·unfold Nd.c
     generalize os ++ List.replicate (fs.length - i) 0 = l at *
     rw [hnv]
     rw [xMS]
     simp (maxSteps := 30000000) (disch := first|exact D4|fail) only [xHF,WB,hltI,↓reduceIte,xAs,Nd.c,hn,hnv,AV.cells,AV.isCell,Nat.reduceAdd,xBq,xBG,h68,xAA,hch,xGr,e1',q1',q2',q3,xJw]
    ·rw [xAS lo,go,hrep,List.append_assoc]; rfl
  ·rw [if_neg fun q => q2 q.2.1]
   refine ⟨G ++ [.cells false false n.c],?_,?_⟩
   ·unfold Nd.c
    generalize os ++ List.replicate (fs.length - i) 0 = l at *
    rw [hnv]
    rw [xMS]
    simp (maxSteps := 30000000) (disch := first|exact D4|fail) only [xHF,WB,hltI,↓reduceIte,xAs,Nd.c,hn,hnv,AV.cells,AV.isCell,Nat.reduceAdd,xBq,xBG,h68,xAA,hch,xGr,e1',q1',q2,xJw]
   ·rw [xAS lo,go,hrep,List.append_assoc]; rfl
 ·have q1' : ¬ (0 : Int) < (nn : Nat) := by omega
  rw [if_neg fun q => q1 q.1]
  refine ⟨G ++ [.cells false false n.c],?_,?_⟩
  ·unfold Nd.c
   generalize os ++ List.replicate (fs.length - i) 0 = l at *
   rw [hnv]
   rw [xMS]
   simp (maxSteps := 30000000) (disch := first|exact D4|fail) only [xHF,WB,hltI,↓reduceIte,xAs,Nd.c,hn,hnv,AV.cells,AV.isCell,Nat.reduceAdd,xBq,xBG,h68,xAA,hch,xGr,e1',q1',xJw]
  ·rw [xAS lo,go,hrep,List.append_assoc]; rfl
theorem yCz (hlen : fs.length ≤ 64) : ∀ (rest : List Nd) (i : Nat) (os : List Nat) (G : Heap),fs.drop i = rest → os.length = i → i ≤ fs.length → (∀ k,k < os.length → os.getD k 0 ≤ k + 1) →
  G[ob]? = some (.cells false false (xAU (os ++ List.replicate (fs.length - i) 0))) →
  ∃ G',L.loop xGs xOg ⟨F66 ob fz fs i,G⟩ = some (.exit 0,⟨F66 ob fz fs fs.length,G'⟩) ∧ G'[ob]? = some (.cells false false (xAU (szs rest os))) := by
 intro rest
 induction rest with
 | nil =>
  intro i os G hd hi hle hI go
  obtain rfl : i = fs.length := by
   have := congrArg List.length hd
   simp at this; omega
  refine ⟨G,?_,by simpa [szs] using go⟩
  rw [xMS]
  simp (disch := omega) only [xHF,WB,↓reduceIte,xJw]
 | cons n rest ih =>
  intro i os G hd hi hle hI go
  have hlt : i < fs.length := by
   have := congrArg List.length hd
   simp at this; omega
  have hd' : fs.drop (i + 1) = rest := by rw [← List.drop_drop,hd]; rfl
  have hn : fs.getD i nd0 = n := by
   rw [List.drop_eq_getElem_cons hlt] at hd
   rw [List.getD_eq_getElem?_getD,List.getElem?_eq_getElem hlt]
   exact (List.cons.inj hd).1
  obtain ⟨G1,e1,g1⟩ := yAa (fz := fz) hlen hi hlt hn hI go
  obtain ⟨G2,e2,g2⟩ := ih (i + 1) (os ++ [szN n os]) G1 hd' (by simp [hi]) hlt (xK2 hI) g1
  exact ⟨G2,e1.trans e2,g2⟩
theorem yAb (hlen : fs.length ≤ 64) : L.pcall 27 [.sl fz fs.length (nds fs)] = some (.sl false fs.length (xAU (szs fs []))) := by
 obtain ⟨G2,e1,g1⟩ := yCz (fz := fz) (ob := 0) hlen fs 0 [] [.cells false false (xAU (List.replicate fs.length 0))] rfl rfl (by omega) (by simp) rfl
 have e1' : L.loop xGs xOg ⟨xMR (.own false 0 0 fs.length 1) (.sl fz fs.length (nds fs)) (.int .i64 (fs.length : Nat)) (.int .i64 0),[.cells false false (xAU (List.replicate fs.length 0))]⟩ = _ := e1
 have hl2 := xDS fs []
 simp only [List.length_nil,Nat.zero_add] at hl2
 have hr := xUg fs.length
 have h1 : (0 : Int) ≤ (fs.length : Nat) := by omega
 have htk : xAU (List.take fs.length (szs fs [])) = xAU (szs fs []) := by rw [List.take_of_length_le (by omega)]
 generalize szs fs [] = l at *
 rw [yFs,a27,xAa]
 simp (maxSteps := 30000000) (disch := first|exact D4|fail) only [WB,Nat.reduceSub,hr,xJw,e1',↓reduceIte,xAR,g1,htk]
end
def xWW (neg : Bool) : AV → AV → Option AV
 | .str a,.str b => some (.bool ((a.toList == b.toList) != neg))
 | _,_ => none
theorem xAH (R : Rec) (F : List AV) (H : Heap) (neg : Bool) (x y : Arg) : xAc R F H (.sbeq neg x y) = xC0 H (xWW neg (opv F x) (opv F y)) := by
 show (match opv F x,opv F y with | .str a,.str b => some (AV.bool ((a.toList == b.toList) != neg),H) | _,_ => none) = _
 unfold xWW xC0
 cases opv F x <;> cases opv F y <;> rfl
theorem xAC (a b : ByteArray) : xWW false (.str a) (.str b) = some (.bool (a.toList == b.toList)) := by
 show some (AV.bool ((a.toList == b.toList) != false)) = _
 rw [Bool.bne_false]
def yAM (n : Nd) (size : Nat) : Bool := (!decide (n.op = 2) && decide (¬ n.name = 0)) || (!decide (n.op = 7) && decide (¬ n.x = 0)) || decide (size = 0) || decide (n.args.length < flo n.op) || decide (fhi n.op < n.args.length)
def yAN (n : Nd) : Bool := !wi 0 7 [n.name] || (decide (n.op = 7) && !wi 8 10 [n.x]) || !wi 0 10 n.args
def xGL (n : Nd) (size : Nat) : Nat := if ((fnm n.op).toList == (⟨#[]⟩ : ByteArray).toList) = true then 6 else if yAM n size = true then 2 else if yAN n = true then 1 else 0
theorem xQg (op : Nat) : fhi op ≤ 2 := by unfold fhi; split <;> omega
theorem yCA (op : Nat) : flo op ≤ 2 := by unfold flo; split <;> omega
theorem yAc (n : Nd) (size : Nat) : L.pcall 28 [.agg n.c,.int .i64 (size : Nat)] = some (.int .i64 (xGL n size : Nat)) := by
 have h68 := xCP n.op
 have hnv : xA2 n.z n.args = .sl n.z n.args.length (xAB n.args) := rfl
 have w1 := xCI 0 7 false (l := [n.name]) (by simp)
 have w2 := xCI 8 10 false (l := [n.x]) (by simp)
 have w1' : L.pcall 61 [.int .i64 0,.int .i64 7,.sl false 1 [.int .i64 n.name]] = _ := w1
 have w2' : L.pcall 61 [.int .i64 8,.int .i64 10,.sl false 1 [.int .i64 n.x]] = _ := w2
 have hhi := xQg n.op
 have hlo := yCA n.op
 unfold xGL yAM yAN
 unfold foC at h68
 unfold Nd.c
 rw [hnv]
 clear w1 w2
 generalize decide (n.op = 2) = nb at *
 generalize decide (n.op = 7) = bb at *
 generalize wi 0 7 [n.name] = b1 at *
 generalize wi 8 10 [n.x] = b2 at *
 generalize fnm n.op = nm at *
 generalize fhi n.op = hi at *
 generalize flo n.op = lo at *
 generalize chn n.op = ch at *
 cases hnm : (nm.toList == (⟨#[]⟩ : ByteArray).toList) with
 | true =>
  simp only [if_true]
  rw [xEM,a28,xAa]
  simp (maxSteps := 30000000) (disch := first|exact D4|fail) only [WB,Nat.reduceAdd,Nat.reduceSub,AV.cells,AV.isCell,↓reduceIte,h68,xAA,xAm,xAH,xAC,hnm]
 | false =>
  simp only [Bool.false_eq_true,if_false]
  cases nb with
  | true =>
   cases bb with
   | true =>
    by_cases c5 : size = 0
    ·have d5 : ((size : Nat) : Int) = 0 := by omega
     subst c5
     simp only [if_true,if_false,Bool.not_true,Bool.not_false,Bool.true_and,Bool.false_and,Bool.or_true,Bool.true_or,Bool.or_false,Bool.false_or,decide_true,decide_false,not_false_eq_true,not_true_eq_false,Bool.false_eq_true]
     rw [xEM,a28,xAa]
     simp (maxSteps := 30000000) (disch := first|exact D4|fail) only [WB,Nat.reduceAdd,Nat.reduceSub,AV.cells,AV.isCell,↓reduceIte,h68,xAA,xAm,xAH,xAC,hnm]
    have d5 : ¬ ((size : Nat) : Int) = 0 := by omega
    by_cases c6 : n.args.length < lo
    ·have d6 : ((n.args.length : Nat) : Int) < (lo : Nat) := by omega
     simp only [c5,c6,if_true,if_false,Bool.not_true,Bool.not_false,Bool.true_and,Bool.false_and,Bool.or_true,Bool.true_or,Bool.or_false,Bool.false_or,decide_true,decide_false,not_false_eq_true,not_true_eq_false,Bool.false_eq_true]
     rw [xEM,a28,xAa]
     simp (maxSteps := 30000000) (disch := first|exact D4|fail) only [WB,Nat.reduceAdd,Nat.reduceSub,AV.cells,AV.isCell,↓reduceIte,h68,xAA,xAm,xAH,xAC,hnm,d5,d6]
    have d6 : ¬ ((n.args.length : Nat) : Int) < (lo : Nat) := by omega
    by_cases c7 : hi < n.args.length
    ·have d7 : ((hi : Nat) : Int) < (n.args.length : Nat) := by omega
     simp only [c5,c6,c7,if_true,if_false,Bool.not_true,Bool.not_false,Bool.true_and,Bool.false_and,Bool.or_true,Bool.true_or,Bool.or_false,Bool.false_or,decide_true,decide_false,not_false_eq_true,not_true_eq_false,Bool.false_eq_true]
     rw [xEM,a28,xAa]
     simp (maxSteps := 30000000) (disch := first|exact D4|fail) only [WB,Nat.reduceAdd,Nat.reduceSub,AV.cells,AV.isCell,↓reduceIte,h68,xAA,xAm,xAH,xAC,hnm,d5,d6,d7]
    have d7 : ¬ ((hi : Nat) : Int) < (n.args.length : Nat) := by omega
    have w3 := xCI 0 10 n.z (l := n.args) (by omega)
    generalize wi 0 10 n.args = b3 at *
    cases b1 with
    | false =>
     simp only [c5,c6,c7,if_true,if_false,Bool.not_true,Bool.not_false,Bool.true_and,Bool.false_and,Bool.or_true,Bool.true_or,Bool.or_false,Bool.false_or,decide_true,decide_false,not_false_eq_true,not_true_eq_false,Bool.false_eq_true]
     rw [xEM,a28,xAa]
     simp (maxSteps := 30000000) (disch := first|exact D4|fail) only [WB,Nat.reduceAdd,Nat.reduceSub,AV.cells,AV.isCell,↓reduceIte,h68,xAA,xAm,xAH,xAC,hnm,d5,d6,d7,w1']
    | true =>
     cases b2 with
     | false =>
      simp only [c5,c6,c7,if_true,if_false,Bool.not_true,Bool.not_false,Bool.true_and,Bool.false_and,Bool.or_true,Bool.true_or,Bool.or_false,Bool.false_or,decide_true,decide_false,not_false_eq_true,not_true_eq_false,Bool.false_eq_true]
      rw [xEM,a28,xAa]
      simp (maxSteps := 30000000) (disch := first|exact D4|fail) only [WB,Nat.reduceAdd,Nat.reduceSub,AV.cells,AV.isCell,↓reduceIte,h68,xAA,xAm,xAH,xAC,hnm,d5,d6,d7,w1',w2']
     | true =>
      cases b3 with
      | false =>
       simp only [c5,c6,c7,if_true,if_false,Bool.not_true,Bool.not_false,Bool.true_and,Bool.false_and,Bool.or_true,Bool.true_or,Bool.or_false,Bool.false_or,decide_true,decide_false,not_false_eq_true,not_true_eq_false,Bool.false_eq_true]
       rw [xEM,a28,xAa]
       simp (maxSteps := 30000000) (disch := first|exact D4|fail) only [WB,Nat.reduceAdd,Nat.reduceSub,AV.cells,AV.isCell,↓reduceIte,h68,xAA,xAm,xAH,xAC,hnm,d5,d6,d7,w1',w2',w3]
      | true =>
       simp only [c5,c6,c7,if_true,if_false,Bool.not_true,Bool.not_false,Bool.true_and,Bool.false_and,Bool.or_true,Bool.true_or,Bool.or_false,Bool.false_or,decide_true,decide_false,not_false_eq_true,not_true_eq_false,Bool.false_eq_true]
       rw [xEM,a28,xAa]
       simp (maxSteps := 30000000) (disch := first|exact D4|fail) only [WB,Nat.reduceAdd,Nat.reduceSub,AV.cells,AV.isCell,↓reduceIte,h68,xAA,xAm,xAH,xAC,hnm,d5,d6,d7,w1',w2',w3]
   | false =>
    by_cases c4 : n.x = 0
    ·have z4 := eq_true c4
     by_cases c5 : size = 0
     ·have d5 : ((size : Nat) : Int) = 0 := by omega
      subst c5
      simp only [z4,if_true,if_false,Bool.not_true,Bool.not_false,Bool.true_and,Bool.false_and,Bool.or_true,Bool.true_or,Bool.or_false,Bool.false_or,decide_true,decide_false,not_false_eq_true,not_true_eq_false,Bool.false_eq_true]
      rw [xEM,a28,xAa]
      simp (maxSteps := 30000000) (disch := first|exact D4|fail) only [WB,Nat.reduceAdd,Nat.reduceSub,AV.cells,AV.isCell,↓reduceIte,h68,xAA,xAm,xAH,xAC,hnm,z4]
     have d5 : ¬ ((size : Nat) : Int) = 0 := by omega
     by_cases c6 : n.args.length < lo
     ·have d6 : ((n.args.length : Nat) : Int) < (lo : Nat) := by omega
      simp only [z4,c5,c6,if_true,if_false,Bool.not_true,Bool.not_false,Bool.true_and,Bool.false_and,Bool.or_true,Bool.true_or,Bool.or_false,Bool.false_or,decide_true,decide_false,not_false_eq_true,not_true_eq_false,Bool.false_eq_true]
      rw [xEM,a28,xAa]
      simp (maxSteps := 30000000) (disch := first|exact D4|fail) only [WB,Nat.reduceAdd,Nat.reduceSub,AV.cells,AV.isCell,↓reduceIte,h68,xAA,xAm,xAH,xAC,hnm,z4,d5,d6]
     have d6 : ¬ ((n.args.length : Nat) : Int) < (lo : Nat) := by omega
     by_cases c7 : hi < n.args.length
     ·have d7 : ((hi : Nat) : Int) < (n.args.length : Nat) := by omega
      simp only [z4,c5,c6,c7,if_true,if_false,Bool.not_true,Bool.not_false,Bool.true_and,Bool.false_and,Bool.or_true,Bool.true_or,Bool.or_false,Bool.false_or,decide_true,decide_false,not_false_eq_true,not_true_eq_false,Bool.false_eq_true]
      rw [xEM,a28,xAa]
      simp (maxSteps := 30000000) (disch := first|exact D4|fail) only [WB,Nat.reduceAdd,Nat.reduceSub,AV.cells,AV.isCell,↓reduceIte,h68,xAA,xAm,xAH,xAC,hnm,z4,d5,d6,d7]
     have d7 : ¬ ((hi : Nat) : Int) < (n.args.length : Nat) := by omega
     have w3 := xCI 0 10 n.z (l := n.args) (by omega)
     generalize wi 0 10 n.args = b3 at *
     cases b1 with
     | false =>
      simp only [z4,c5,c6,c7,if_true,if_false,Bool.not_true,Bool.not_false,Bool.true_and,Bool.false_and,Bool.or_true,Bool.true_or,Bool.or_false,Bool.false_or,decide_true,decide_false,not_false_eq_true,not_true_eq_false,Bool.false_eq_true]
      rw [xEM,a28,xAa]
      simp (maxSteps := 30000000) (disch := first|exact D4|fail) only [WB,Nat.reduceAdd,Nat.reduceSub,AV.cells,AV.isCell,↓reduceIte,h68,xAA,xAm,xAH,xAC,hnm,z4,d5,d6,d7,w1']
     | true =>
      cases b3 with
      | false =>
       simp only [z4,c5,c6,c7,if_true,if_false,Bool.not_true,Bool.not_false,Bool.true_and,Bool.false_and,Bool.or_true,Bool.true_or,Bool.or_false,Bool.false_or,decide_true,decide_false,not_false_eq_true,not_true_eq_false,Bool.false_eq_true]
       rw [xEM,a28,xAa]
       simp (maxSteps := 30000000) (disch := first|exact D4|fail) only [WB,Nat.reduceAdd,Nat.reduceSub,AV.cells,AV.isCell,↓reduceIte,h68,xAA,xAm,xAH,xAC,hnm,z4,d5,d6,d7,w1',w3]
      | true =>
       simp only [z4,c5,c6,c7,if_true,if_false,Bool.not_true,Bool.not_false,Bool.true_and,Bool.false_and,Bool.or_true,Bool.true_or,Bool.or_false,Bool.false_or,decide_true,decide_false,not_false_eq_true,not_true_eq_false,Bool.false_eq_true]
       rw [xEM,a28,xAa]
       simp (maxSteps := 30000000) (disch := first|exact D4|fail) only [WB,Nat.reduceAdd,Nat.reduceSub,AV.cells,AV.isCell,↓reduceIte,h68,xAA,xAm,xAH,xAC,hnm,z4,d5,d6,d7,w1',w3]
    ·have c4' := c4
     simp only [c4,if_true,if_false,Bool.not_true,Bool.not_false,Bool.true_and,Bool.false_and,Bool.or_true,Bool.true_or,Bool.or_false,Bool.false_or,decide_true,decide_false,not_false_eq_true,not_true_eq_false,Bool.false_eq_true]
     rw [xEM,a28,xAa]
     simp (maxSteps := 30000000) (disch := first|exact D4|fail) only [WB,Nat.reduceAdd,Nat.reduceSub,AV.cells,AV.isCell,↓reduceIte,h68,xAA,xAm,xAH,xAC,hnm,c4]
  | false =>
   by_cases c3 : n.name = 0
   ·have z3 := eq_true c3
    cases bb with
    | true =>
     by_cases c5 : size = 0
     ·have d5 : ((size : Nat) : Int) = 0 := by omega
      subst c5
      simp only [z3,if_true,if_false,Bool.not_true,Bool.not_false,Bool.true_and,Bool.false_and,Bool.or_true,Bool.true_or,Bool.or_false,Bool.false_or,decide_true,decide_false,not_false_eq_true,not_true_eq_false,Bool.false_eq_true]
      rw [xEM,a28,xAa]
      simp (maxSteps := 30000000) (disch := first|exact D4|fail) only [WB,Nat.reduceAdd,Nat.reduceSub,AV.cells,AV.isCell,↓reduceIte,h68,xAA,xAm,xAH,xAC,hnm,z3]
     have d5 : ¬ ((size : Nat) : Int) = 0 := by omega
     by_cases c6 : n.args.length < lo
     ·have d6 : ((n.args.length : Nat) : Int) < (lo : Nat) := by omega
      simp only [z3,c5,c6,if_true,if_false,Bool.not_true,Bool.not_false,Bool.true_and,Bool.false_and,Bool.or_true,Bool.true_or,Bool.or_false,Bool.false_or,decide_true,decide_false,not_false_eq_true,not_true_eq_false,Bool.false_eq_true]
      rw [xEM,a28,xAa]
      simp (maxSteps := 30000000) (disch := first|exact D4|fail) only [WB,Nat.reduceAdd,Nat.reduceSub,AV.cells,AV.isCell,↓reduceIte,h68,xAA,xAm,xAH,xAC,hnm,z3,d5,d6]
     have d6 : ¬ ((n.args.length : Nat) : Int) < (lo : Nat) := by omega
     by_cases c7 : hi < n.args.length
     ·have d7 : ((hi : Nat) : Int) < (n.args.length : Nat) := by omega
      simp only [z3,c5,c6,c7,if_true,if_false,Bool.not_true,Bool.not_false,Bool.true_and,Bool.false_and,Bool.or_true,Bool.true_or,Bool.or_false,Bool.false_or,decide_true,decide_false,not_false_eq_true,not_true_eq_false,Bool.false_eq_true]
      rw [xEM,a28,xAa]
      simp (maxSteps := 30000000) (disch := first|exact D4|fail) only [WB,Nat.reduceAdd,Nat.reduceSub,AV.cells,AV.isCell,↓reduceIte,h68,xAA,xAm,xAH,xAC,hnm,z3,d5,d6,d7]
     have d7 : ¬ ((hi : Nat) : Int) < (n.args.length : Nat) := by omega
     have w3 := xCI 0 10 n.z (l := n.args) (by omega)
     generalize wi 0 10 n.args = b3 at *
     cases b1 with
     | false =>
      simp only [z3,c5,c6,c7,if_true,if_false,Bool.not_true,Bool.not_false,Bool.true_and,Bool.false_and,Bool.or_true,Bool.true_or,Bool.or_false,Bool.false_or,decide_true,decide_false,not_false_eq_true,not_true_eq_false,Bool.false_eq_true]
      rw [xEM,a28,xAa]
      simp (maxSteps := 30000000) (disch := first|exact D4|fail) only [WB,Nat.reduceAdd,Nat.reduceSub,AV.cells,AV.isCell,↓reduceIte,h68,xAA,xAm,xAH,xAC,hnm,z3,d5,d6,d7,w1']
     | true =>
      cases b2 with
      | false =>
       simp only [z3,c5,c6,c7,if_true,if_false,Bool.not_true,Bool.not_false,Bool.true_and,Bool.false_and,Bool.or_true,Bool.true_or,Bool.or_false,Bool.false_or,decide_true,decide_false,not_false_eq_true,not_true_eq_false,Bool.false_eq_true]
       rw [xEM,a28,xAa]
       simp (maxSteps := 30000000) (disch := first|exact D4|fail) only [WB,Nat.reduceAdd,Nat.reduceSub,AV.cells,AV.isCell,↓reduceIte,h68,xAA,xAm,xAH,xAC,hnm,z3,d5,d6,d7,w1',w2']
      | true =>
       cases b3 with
       | false =>
        simp only [z3,c5,c6,c7,if_true,if_false,Bool.not_true,Bool.not_false,Bool.true_and,Bool.false_and,Bool.or_true,Bool.true_or,Bool.or_false,Bool.false_or,decide_true,decide_false,not_false_eq_true,not_true_eq_false,Bool.false_eq_true]
        rw [xEM,a28,xAa]
        simp (maxSteps := 30000000) (disch := first|exact D4|fail) only [WB,Nat.reduceAdd,Nat.reduceSub,AV.cells,AV.isCell,↓reduceIte,h68,xAA,xAm,xAH,xAC,hnm,z3,d5,d6,d7,w1',w2',w3]
       | true =>
        simp only [z3,c5,c6,c7,if_true,if_false,Bool.not_true,Bool.not_false,Bool.true_and,Bool.false_and,Bool.or_true,Bool.true_or,Bool.or_false,Bool.false_or,decide_true,decide_false,not_false_eq_true,not_true_eq_false,Bool.false_eq_true]
        rw [xEM,a28,xAa]
        simp (maxSteps := 30000000) (disch := first|exact D4|fail) only [WB,Nat.reduceAdd,Nat.reduceSub,AV.cells,AV.isCell,↓reduceIte,h68,xAA,xAm,xAH,xAC,hnm,z3,d5,d6,d7,w1',w2',w3]
    | false =>
     by_cases c4 : n.x = 0
     ·have z4 := eq_true c4
      by_cases c5 : size = 0
      ·have d5 : ((size : Nat) : Int) = 0 := by omega
       subst c5
       simp only [z3,z4,if_true,if_false,Bool.not_true,Bool.not_false,Bool.true_and,Bool.false_and,Bool.or_true,Bool.true_or,Bool.or_false,Bool.false_or,decide_true,decide_false,not_false_eq_true,not_true_eq_false,Bool.false_eq_true]
       rw [xEM,a28,xAa]
       simp (maxSteps := 30000000) (disch := first|exact D4|fail) only [WB,Nat.reduceAdd,Nat.reduceSub,AV.cells,AV.isCell,↓reduceIte,h68,xAA,xAm,xAH,xAC,hnm,z3,z4]
      have d5 : ¬ ((size : Nat) : Int) = 0 := by omega
      by_cases c6 : n.args.length < lo
      ·have d6 : ((n.args.length : Nat) : Int) < (lo : Nat) := by omega
       simp only [z3,z4,c5,c6,if_true,if_false,Bool.not_true,Bool.not_false,Bool.true_and,Bool.false_and,Bool.or_true,Bool.true_or,Bool.or_false,Bool.false_or,decide_true,decide_false,not_false_eq_true,not_true_eq_false,Bool.false_eq_true]
       rw [xEM,a28,xAa]
       simp (maxSteps := 30000000) (disch := first|exact D4|fail) only [WB,Nat.reduceAdd,Nat.reduceSub,AV.cells,AV.isCell,↓reduceIte,h68,xAA,xAm,xAH,xAC,hnm,z3,z4,d5,d6]
      have d6 : ¬ ((n.args.length : Nat) : Int) < (lo : Nat) := by omega
      by_cases c7 : hi < n.args.length
      ·have d7 : ((hi : Nat) : Int) < (n.args.length : Nat) := by omega
       simp only [z3,z4,c5,c6,c7,if_true,if_false,Bool.not_true,Bool.not_false,Bool.true_and,Bool.false_and,Bool.or_true,Bool.true_or,Bool.or_false,Bool.false_or,decide_true,decide_false,not_false_eq_true,not_true_eq_false,Bool.false_eq_true]
       rw [xEM,a28,xAa]
       simp (maxSteps := 30000000) (disch := first|exact D4|fail) only [WB,Nat.reduceAdd,Nat.reduceSub,AV.cells,AV.isCell,↓reduceIte,h68,xAA,xAm,xAH,xAC,hnm,z3,z4,d5,d6,d7]
      have d7 : ¬ ((hi : Nat) : Int) < (n.args.length : Nat) := by omega
      have w3 := xCI 0 10 n.z (l := n.args) (by omega)
      generalize wi 0 10 n.args = b3 at *
      cases b1 with
      | false =>
       simp only [z3,z4,c5,c6,c7,if_true,if_false,Bool.not_true,Bool.not_false,Bool.true_and,Bool.false_and,Bool.or_true,Bool.true_or,Bool.or_false,Bool.false_or,decide_true,decide_false,not_false_eq_true,not_true_eq_false,Bool.false_eq_true]
       rw [xEM,a28,xAa]
       simp (maxSteps := 30000000) (disch := first|exact D4|fail) only [WB,Nat.reduceAdd,Nat.reduceSub,AV.cells,AV.isCell,↓reduceIte,h68,xAA,xAm,xAH,xAC,hnm,z3,z4,d5,d6,d7,w1']
      | true =>
       cases b3 with
       | false =>
        simp only [z3,z4,c5,c6,c7,if_true,if_false,Bool.not_true,Bool.not_false,Bool.true_and,Bool.false_and,Bool.or_true,Bool.true_or,Bool.or_false,Bool.false_or,decide_true,decide_false,not_false_eq_true,not_true_eq_false,Bool.false_eq_true]
        rw [xEM,a28,xAa]
        simp (maxSteps := 30000000) (disch := first|exact D4|fail) only [WB,Nat.reduceAdd,Nat.reduceSub,AV.cells,AV.isCell,↓reduceIte,h68,xAA,xAm,xAH,xAC,hnm,z3,z4,d5,d6,d7,w1',w3]
       | true =>
        simp only [z3,z4,c5,c6,c7,if_true,if_false,Bool.not_true,Bool.not_false,Bool.true_and,Bool.false_and,Bool.or_true,Bool.true_or,Bool.or_false,Bool.false_or,decide_true,decide_false,not_false_eq_true,not_true_eq_false,Bool.false_eq_true]
        rw [xEM,a28,xAa]
        simp (maxSteps := 30000000) (disch := first|exact D4|fail) only [WB,Nat.reduceAdd,Nat.reduceSub,AV.cells,AV.isCell,↓reduceIte,h68,xAA,xAm,xAH,xAC,hnm,z3,z4,d5,d6,d7,w1',w3]
     ·have c4' := c4
      simp only [z3,c4,if_true,if_false,Bool.not_true,Bool.not_false,Bool.true_and,Bool.false_and,Bool.or_true,Bool.true_or,Bool.or_false,Bool.false_or,decide_true,decide_false,not_false_eq_true,not_true_eq_false,Bool.false_eq_true]
      rw [xEM,a28,xAa]
      simp (maxSteps := 30000000) (disch := first|exact D4|fail) only [WB,Nat.reduceAdd,Nat.reduceSub,AV.cells,AV.isCell,↓reduceIte,h68,xAA,xAm,xAH,xAC,hnm,z3,c4]
   ·have c3' := c3
    simp only [c3,if_true,if_false,Bool.not_true,Bool.not_false,Bool.true_and,Bool.false_and,Bool.or_true,Bool.true_or,Bool.or_false,Bool.false_or,decide_true,decide_false,not_false_eq_true,not_true_eq_false,Bool.false_eq_true]
    rw [xEM,a28,xAa]
    simp (maxSteps := 30000000) (disch := first|exact D4|fail) only [WB,Nat.reduceAdd,Nat.reduceSub,AV.cells,AV.isCell,↓reduceIte,h68,xAA,xAm,xAH,xAC,hnm,c3]
end Go.Abs.Events
