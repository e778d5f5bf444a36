/- states: the nodes' loop. -/
import Derived.Test.YtijmhicopfphnaaDoorAbsBun
import Derived.Test.YtijmhicopfphnaaDoorAML
import Derived.Test.YtijmhicopfphnaaDoorAbsIn
namespace Go.Abs.Tree
open Go Go.Abs
set_option linter.unusedSimpArgs false
set_option linter.unusedVariables false
def ev (E : Nat) (rl : List Rl) : BT → Nat
 | .nil => E
 | .node x l r => toM (ev E rl l) (ev E rl r) x 0 rl
theorem yCO {E : Nat} {rl : List Rl} (hE : E < 18446744073709551616) (hb : xQM rl) : ∀ T,ev E rl T < 18446744073709551616
 | .nil => hE
 | .node x l r => yBh _ _ _ _ _ (by omega) hb
def Pop (E : Nat) (c : Int) (st : List Nat) (v : Nat) (st' : List Nat) : Prop := c < 0 ∧ v = E ∧ st = st' ∨ ¬ c < 0 ∧ st = st' ++ [v]
structure Inv (n : Aut) (E : Nat) (G : Heap) (st : List Nat) : Prop where
 g0 : G[0]? = some (.cells false false n.cells)
 g1 : G[1]? = some (.cells false false [.int .u64 (E : Nat)])
 own : ∃ v,G[2]? = some (.cells false false [v]) ∧ OwnG G v st
theorem Inv.app {n : Aut} {E : Nat} {G : Heap} {st : List Nat} (h : Inv n E G st) (X : Heap) : Inv n E (G ++ X) st := by
 obtain ⟨v,h2,h3⟩ := h.own
 exact ⟨xA8 h.g0,xA8 h.g1,v,xA8 h2,h3.app X⟩
theorem xXa {n : Aut} {E : Nat} {G : Heap} {st st' : List Nat} {v : Nat} {c : Int} (hI : Inv n E G st) (hp : Pop E c st v st') (hl : st.length < 1099511627776) :
  ∃ G',L.icall (.func 82 [.ptr 1 0,.ptr 2 0]) [.int .i64 c] G = some (.int .u64 (v : Nat),G') ∧ Inv n E G' st' ∧ ∀ b,2 < b → G'[b]? = G[b]? := by
 rcases hp with ⟨hc,rfl,rfl⟩ | ⟨hc,rfl⟩
 ·exact ⟨G,xZH hc hI.g1,hI,fun _ _ => rfl⟩
 ·obtain ⟨w,h2,hO⟩ := hI.own
  obtain ⟨w',h3,h4⟩ := xZI hc h2 hO (by simp at hl; omega)
  refine ⟨_,h3,⟨?_,?_,w',?_,h4⟩,fun b hb => ?_⟩
  ·rw [List.getElem?_set_ne (by omega)]; exact hI.g0
  ·rw [List.getElem?_set_ne (by omega)]; exact hI.g1
  ·rw [List.getElem?_set_self (List.getElem?_eq_some_iff.1 h2).1]
  ·rw [List.getElem?_set_ne (by omega)]
noncomputable abbrev LN (z : Bool) (t : List Lf) (i : Nat) (G : Heap) := L.loop xND xYR ⟨xKr (tw z t) (.ptr 0 0) (.ptr 1 0) (.ptr 2 0) (.int .i64 (i : Nat)) (.func 82 [.ptr 1 0,.ptr 2 0]),G⟩
theorem xXb (z : Bool) (t : List Lf) (G : Heap) : LN z t 0 G = some (.exit 0,⟨xKr (tw z t) (.ptr 0 0) (.ptr 1 0) (.ptr 2 0) (.int .i64 0) (.func 82 [.ptr 1 0,.ptr 2 0]),G⟩) := by
 unfold LN
 rw [yAb]
 simp (maxSteps := 30000000) (disch := first | assumption | omega | (simp only [WL,AV.isCell,xAb,xAa] <;> omega) | rfl | decide) only [↓reduceIte,WB,xAW,xAd,xAV,xAm,xAl,AV.cells,AV.isCell,xAc,xAi,xAj,W2,xAe,xAf,xAh,Nat.reduceAdd,Nat.reduceSub,Nat.reduceLeDiff,Nat.reduceMul,Int.reduceAdd,Int.reduceSub,Int.reduceMul,Int.reduceLT,Int.reduceLE,Int.reduceEq,Int.reduceToNat,Int.reduceNeg,Nat.reduceEqDiff,Nat.reduceBEq,Nat.reduceLT,xAb,xAJ,xAv,xAw,xAa,xAs,xIl,xIm]
set_option maxHeartbeats 4000000 in
theorem xT6 {z : Bool} {t : List Lf} {n : Aut} {E : Nat} (ht : t.length < 1099511627776) (hx : ∀ e ∈ t,e.x < 256) (hl : n.rl.length < 1099511627776) (hb : xQM n.rl) {i : Nat} (hi : i < t.length) {G : Heap} {st st1 st2 : List Nat} {l r : Nat} (hI : Inv n E G st)
  (hs : st.length + i < t.length) (hL : l < 18446744073709551616) (hR : r < 18446744073709551616) (p1 : Pop E (t.getD i f0).l st l st1) (p2 : Pop E (t.getD i f0).r st1 r st2) :
  ∃ G',LN z t (i + 1) G = LN z t i G' ∧ Inv n E G' (st2 ++ [toM l r (t.getD i f0).x 0 n.rl]) := by
 have hm := hx _ (xHC hi)
 have l1 : st1.length ≤ st.length := by
  rcases p1 with ⟨_,_,h⟩ | ⟨_,h⟩
  ·rw [h]; omega
  ·rw [h]; simp
 have l2 : st2.length ≤ st1.length := by
  rcases p2 with ⟨_,_,h⟩ | ⟨_,h⟩
  ·rw [h]; omega
  ·rw [h]; simp
 obtain ⟨Ga,a1,a2,a3⟩ := xXa (hI.app [.cells false false (xQK (t.getD i f0))]) p1 (by omega)
 obtain ⟨Gb,b1,b2,b3⟩ := xXa a2 p2 (by omega)
 have lenG : 2 < G.length := by
  obtain ⟨v,h,_⟩ := hI.own
  exact (List.getElem?_eq_some_iff.1 h).1
 have lf0 : (G ++ [.cells false false (xQK (t.getD i f0))])[G.length]? = some (Blk.cells false false (xQK (t.getD i f0))) := by simp
 have lfa : Ga[G.length]? = some (Blk.cells false false (xQK (t.getD i f0))) := by rw [a3 _ lenG]; exact lf0
 have lfb : Gb[G.length]? = some (Blk.cells false false (xQK (t.getD i f0))) := by rw [b3 _ lenG]; exact lfa
 obtain ⟨X,hloop⟩ := xJw (s1 := tw z t) (s2 := .ptr 0 0) (s5 := .ptr 1 0) (s6 := .ptr 2 0) (s7 := .int .i64 (i : Nat)) (s8 := .func 82 [.ptr 1 0,.ptr 2 0]) (z := n.z3) hl hb hL hR hm n.rl.length 0 0 Gb (by omega) (by omega) lfb
 have hd := b2.app X
 have hg0 := b2.g0
 simp only [Int.natCast_zero,List.drop_zero] at hloop
 generalize Gb ++ X = Gd at *
 generalize hv : toM l r (t.getD i f0).x 0 n.rl = to at *
 obtain ⟨v,d2,dO⟩ := hd.own
 have len2 := (List.getElem?_eq_some_iff.1 d2).1
 have fin : ∃ G',(∀ H0,H0 = Gd → True) ∧ Inv n E G' (st2 ++ [to]) ∧ ((v = .sl true 0 [] ∧ G' = (Gd ++ [Blk.cells false false [.int .u64 (to : Nat)]]).set 2 (.cells false false [.own false Gd.length 0 1 1])) ∨
   ∃ k r',2 < k ∧ v = .own false k 0 st2.length 1 ∧ Gd[k]? = some (.cells false false (w64 (st2 ++ r'))) ∧ G' = (Gd.set k Blk.dead ++ [Blk.cells false false (w64 (st2 ++ [to]))]).set 2 (.cells false false [.own false Gd.length 0 (st2.length + 1) 1])) := by
  rcases dO with ⟨rfl,rfl⟩ | ⟨k,r',k2,rfl,hk⟩
  ·refine ⟨_,fun _ _ => trivial,⟨?_,?_,.own false Gd.length 0 1 1,?_,.inr ⟨Gd.length,[],len2,rfl,?_⟩⟩,.inl ⟨rfl,rfl⟩⟩
   ·rw [List.getElem?_set_ne (by omega)]; exact xA8 hd.g0
   ·rw [List.getElem?_set_ne (by omega)]; exact xA8 hd.g1
   ·rw [List.getElem?_set_self (by simp; omega)]
   ·rw [List.getElem?_set_ne (by omega)]; simp [w64]
  ·refine ⟨_,fun _ _ => trivial,⟨?_,?_,.own false Gd.length 0 (st2.length + 1) 1,?_,.inr ⟨Gd.length,[],len2,by simp,?_⟩⟩,.inr ⟨k,r',k2,rfl,hk,rfl⟩⟩
   ·rw [List.getElem?_set_ne (by omega)]; exact xA8 (by rw [List.getElem?_set_ne (by omega)]; exact hd.g0)
   ·rw [List.getElem?_set_ne (by omega)]; exact xA8 (by rw [List.getElem?_set_ne (by omega)]; exact hd.g1)
   ·rw [List.getElem?_set_self (by simp; omega)]
   ·rw [List.getElem?_set_ne (by omega)]; simp
 obtain ⟨G',-,hI',hcase⟩ := fin
 refine ⟨G',?_,hI'⟩
 have hlt : (0 : Int) < ((i + 1 : Nat) : Int) := by omega
 have hi1 : ((i + 1 : Nat) : Int) - 1 = (i : Nat) := by omega
 have hn0 : i = 0 → LN z t i G' = some (.exit 0,⟨xKr (tw z t) (.ptr 0 0) (.ptr 1 0) (.ptr 2 0) (.int .i64 (i : Nat)) (.func 82 [.ptr 1 0,.ptr 2 0]),G'⟩) := by
  rintro rfl
  exact xXb z t G'
 simp only [xQK] at a1 lf0 lfa lfb
 unfold LN
 rw [yAb]
 rcases hcase with ⟨rfl,e⟩ | ⟨k,r',k2,rfl,hk,e⟩
 ·have d3 := xA8 (X := [Blk.cells false false [.int .u64 (to : Nat)]]) d2
  by_cases c : i = 0
  ·have c' : (((i : Nat) : Int) = 0) = True := eq_true (by omega)
   have hn0 := hn0 c
   unfold LN at hn0
   rw [e] at hn0 ⊢
   simp (maxSteps := 30000000) (disch := first | assumption | omega | (simp only [WL,AV.isCell,xAb,xAa] <;> omega) | rfl | decide) only [↓reduceIte,WB,xAW,xAd,xAV,xAm,xAl,AV.cells,AV.isCell,xAc,xAi,xAj,W2,xAe,xAf,xAh,Nat.reduceAdd,Nat.reduceSub,Nat.reduceLeDiff,Nat.reduceMul,Int.reduceAdd,Int.reduceSub,Int.reduceMul,Int.reduceLT,Int.reduceLE,Int.reduceEq,Int.reduceToNat,Int.reduceNeg,Nat.reduceEqDiff,Nat.reduceBEq,Nat.reduceLT,xAb,xAJ,xAv,xAw,xAa,xAs,xIl,xIm,xF9,hlt,hi1,a1,b1,lf0,lfa,lfb,hg0,hloop,d2,d3,c',hn0]
  ·have c' : (((i : Nat) : Int) = 0) = False := eq_false (by omega)
   rw [e]
   simp (maxSteps := 30000000) (disch := first | assumption | omega | (simp only [WL,AV.isCell,xAb,xAa] <;> omega) | rfl | decide) only [↓reduceIte,WB,xAW,xAd,xAV,xAm,xAl,AV.cells,AV.isCell,xAc,xAi,xAj,W2,xAe,xAf,xAh,Nat.reduceAdd,Nat.reduceSub,Nat.reduceLeDiff,Nat.reduceMul,Int.reduceAdd,Int.reduceSub,Int.reduceMul,Int.reduceLT,Int.reduceLE,Int.reduceEq,Int.reduceToNat,Int.reduceNeg,Nat.reduceEqDiff,Nat.reduceBEq,Nat.reduceLT,xAb,xAJ,xAv,xAw,xAa,xAs,xIl,xIm,xF9,hlt,hi1,a1,b1,lf0,lfa,lfb,hg0,hloop,d2,d3,c']
 ·have htk : List.take st2.length (st2 ++ r') = st2 := by simp
  have hsn : w64 st2 ++ [AV.int .u64 (to : Nat)] = w64 (st2 ++ [to]) := xSZ ..
  have d3 := xA8 (X := [Blk.cells false false (w64 (st2 ++ [to]))]) (show (Gd.set k Blk.dead)[2]? = _ from by rw [List.getElem?_set_ne (by omega)]; exact d2)
  by_cases c : i = 0
  ·have c' : (((i : Nat) : Int) = 0) = True := eq_true (by omega)
   have hn0 := hn0 c
   unfold LN at hn0
   rw [e] at hn0 ⊢
   simp (maxSteps := 30000000) (disch := first | assumption | omega | (simp only [WL,AV.isCell,xAb,xAa] <;> omega) | rfl | decide) only [↓reduceIte,WB,xAW,xAd,xAV,xAm,xAl,AV.cells,AV.isCell,xAc,xAi,xAj,W2,xAe,xAf,xAh,Nat.reduceAdd,Nat.reduceSub,Nat.reduceLeDiff,Nat.reduceMul,Int.reduceAdd,Int.reduceSub,Int.reduceMul,Int.reduceLT,Int.reduceLE,Int.reduceEq,Int.reduceToNat,Int.reduceNeg,Nat.reduceEqDiff,Nat.reduceBEq,Nat.reduceLT,xAb,xAJ,xAv,xAw,xAa,xAs,xIl,xIm,xF9,hlt,hi1,a1,b1,lf0,lfa,lfb,hg0,hloop,d2,d3,hk,htk,hsn,c',hn0]
  ·have c' : (((i : Nat) : Int) = 0) = False := eq_false (by omega)
   rw [e]
   simp (maxSteps := 30000000) (disch := first | assumption | omega | (simp only [WL,AV.isCell,xAb,xAa] <;> omega) | rfl | decide) only [↓reduceIte,WB,xAW,xAd,xAV,xAm,xAl,AV.cells,AV.isCell,xAc,xAi,xAj,W2,xAe,xAf,xAh,Nat.reduceAdd,Nat.reduceSub,Nat.reduceLeDiff,Nat.reduceMul,Int.reduceAdd,Int.reduceSub,Int.reduceMul,Int.reduceLT,Int.reduceLE,Int.reduceEq,Int.reduceToNat,Int.reduceNeg,Nat.reduceEqDiff,Nat.reduceBEq,Nat.reduceLT,xAb,xAJ,xAv,xAw,xAa,xAs,xIl,xIm,xF9,hlt,hi1,a1,b1,lf0,lfa,lfb,hg0,hloop,d2,d3,hk,htk,hsn,c']
theorem Pop.len {E : Nat} {c : Int} {st st' : List Nat} {v : Nat} (h : Pop E c st v st') : st'.length ≤ st.length := by
 rcases h with ⟨_,_,h⟩ | ⟨_,h⟩
 ·rw [h]; omega
 ·rw [h]; simp
theorem yCP {z : Bool} {t : List Lf} {n : Aut} {E : Nat} (ht : t.length < 1099511627776) (hx : ∀ e ∈ t,e.x < 256) (hl : n.rl.length < 1099511627776) (hb : xQM n.rl) (hE : E < 18446744073709551616) {c : Int} {m k : Nat} {T : BT} (h : Sub t c m T k) :
  ∀ G st,Inv n E G st → st.length + k ≤ t.length → ∃ G' st',LN z t k G = LN z t m G' ∧ Inv n E G' st' ∧ st'.length + m ≤ t.length ∧ Pop E c st' (ev E n.rl T) st := by
 induction h with
 | none m => exact fun G st hI hs => ⟨G,st,rfl,hI,hs,.inl ⟨by omega,rfl,rfl⟩⟩
 | @some m k q l r hm hL hR ihl ihr =>
  intro G st hI hs
  obtain ⟨G1,st1,e1,i1,s1,p1⟩ := ihr G st hI hs
  obtain ⟨G2,st2,e2,i2,s2,p2⟩ := ihl G1 st1 i1 s1
  obtain ⟨G',e3,i3⟩ := xT6 (z := z) ht hx hl hb hm i2 (by omega) (yCO hE hb l) (yCO hE hb r) p2 p1
  have a1 := p1.len
  have a2 := p2.len
  exact ⟨G',_,e1.trans (e2.trans e3),i3,by simp; omega,.inr ⟨by omega,rfl⟩⟩
theorem xXc {z : Bool} {t : List Lf} {n : Aut} (ht : t.length < 1099511627776) (hx : ∀ e ∈ t,e.x < 256) (hl : n.rl.length < 1099511627776) (hb : xQM n.rl) (hn : n.st.length < 1099511627776) (hq : ∀ q ∈ n.st,0 ≤ q ∧ q < 64) {T : BT} (hF : Formed t T) :
  L.pcall 49 [n.av,tw z t] = some (.int .u64 (ev (xCW 0 n.st) n.rl T : Nat)) := by
 have hw := xMt n.z1 n.st hn hq
 have hE := xFk n.st 0 (by omega) hq
 generalize xCW 0 n.st = E at *
 have hI : Inv n E [.cells false false n.cells,.cells false false [.int .u64 (E : Nat)],.cells false false [.sl true 0 []]] [] := ⟨rfl,rfl,_,rfl,.inl ⟨rfl,rfl⟩⟩
 rcases hF with ⟨rfl,rfl⟩ | ⟨h31,hS⟩
 ·have h := xXb z [] [.cells false false n.cells,.cells false false [.int .u64 (E : Nat)],.cells false false [.sl true 0 []]]
  unfold LN at h
  simp only [Int.natCast_zero,List.length_nil] at h
  rw [yFZ,a49,xAu]
  simp (maxSteps := 30000000) (disch := first | assumption | omega | (simp only [WL,AV.isCell,xAb,xAa] <;> omega) | rfl | decide) only [↓reduceIte,WB,xAW,xAd,xAV,xAm,xAl,AV.cells,AV.isCell,xAc,xAi,xAj,W2,xAe,xAf,xAh,Nat.reduceAdd,Nat.reduceSub,Nat.reduceLeDiff,Nat.reduceMul,Int.reduceAdd,Int.reduceSub,Int.reduceMul,Int.reduceLT,Int.reduceLE,Int.reduceEq,Int.reduceToNat,Int.reduceNeg,Nat.reduceEqDiff,Nat.reduceBEq,Nat.reduceLT,xAb,xAJ,xAv,xAw,xAa,xAs,xIm,hw,h]
  rfl
 ·obtain ⟨G',st',e1,i1,s1,p1⟩ := yCP (z := z) ht hx hl hb hE hS _ [] hI (by simp)
  rw [xXb] at e1
  unfold LN at e1
  rcases p1 with ⟨h,_⟩ | ⟨_,rfl⟩
  ·omega
  ·have hpos : ¬ t.length = 0 := by
    intro h0
    cases hS with
    | some hm _ _ => omega
   have hpos' : (((t.length : Nat) : Int) = 0) = False := eq_false (by omega)
   obtain ⟨v,d2,dO⟩ := i1.own
   rcases dO with ⟨_,h⟩ | ⟨k,r',k2,rfl,hk⟩
   ·simp at h
   ·simp only [List.nil_append,List.cons_append,List.length_cons,List.length_nil,Nat.zero_add] at d2 hk
    rw [yFZ,a49,xAu]
    simp (maxSteps := 30000000) (disch := first | assumption | omega | (simp only [WL,AV.isCell,xAb,xAa] <;> omega) | rfl | decide) only [↓reduceIte,WB,xAW,xAd,xAV,xAm,xAl,AV.cells,AV.isCell,xAc,xAi,xAj,W2,xAe,xAf,xAh,Nat.reduceAdd,Nat.reduceSub,Nat.reduceLeDiff,Nat.reduceMul,Int.reduceAdd,Int.reduceSub,Int.reduceMul,Int.reduceLT,Int.reduceLE,Int.reduceEq,Int.reduceToNat,Int.reduceNeg,Nat.reduceEqDiff,Nat.reduceBEq,Nat.reduceLT,xAb,xAJ,xAv,xAw,xAa,xAs,xIm,hw,e1,hpos',d2,hk]
structure TyA (n : Aut) : Prop where
 st : n.st.length < 1099511627776
 fi : n.fi.length < 1099511627776
 rl : n.rl.length < 1099511627776
 u8 : ∀ e ∈ n.rl,e.p < 256 ∧ e.n < 256
structure Valid (n : Aut) : Prop where
 v0 : 0 ≤ n.vars
 v3 : n.vars ≤ 3
 s0 : 0 ≤ n.states
 s64 : n.states ≤ 64
 rl : n.rl.length ≤ 512
 st : xJx n.states (-1) n.st = true
 fi : xJx n.states (-1) n.fi = true
 ru : xDc n.states n.vars.toNat n.rl = 0
theorem chkE_zero {n : Aut} : xPS n = 0 ↔ Valid n := by
 have g : ∀ l,xCR n.states l = 0 ↔ xJx n.states (-1) l = true := fun l => by unfold xCR; split <;> simp_all
 unfold xPS
 constructor
 ·intro h
  split at h
  ·omega
  ·split at h
   ·omega
   ·split at h
    ·omega
    ·split at h
     ·rename_i c1 c2 c3 c4
      exact ⟨by omega,by omega,by omega,by omega,by omega,(g _).1 c4.1,(g _).1 c4.2,h⟩
     ·omega
 ·rintro ⟨v0,v3,s0,s64,rl,st,fi,ru⟩
  rw [if_neg (by omega),if_neg (by omega),if_neg (by omega),if_pos ⟨(g _).2 st,(g _).2 fi⟩,ru]
theorem xEk {s : Int} : ∀ {l : List Int} {last : Int},xJx s last l = true → ∀ q ∈ l,last < q ∧ q < s
 | [],_,_,q,h => by simp at h
 | a :: t,last,h,q,hq => by
  unfold xJx at h
  split at h
  ·cases h
  ·rcases List.mem_cons.1 hq with rfl | hq
   ·omega
   ·have := xEk h q hq
    omega
theorem xLK {s : Int} {v : Nat} : ∀ {l : List Rl},xDc s v l = 0 → ∀ e ∈ l,xHr s v e = 0
 | [],_,e,h => by simp at h
 | a :: t,h,e,he => by
  unfold xDc at h
  split at h
  ·rcases List.mem_cons.1 he with rfl | he
   ·assumption
   ·exact xLK h e he
  ·contradiction
theorem Valid.sts {n : Aut} (h : Valid n) : ∀ q ∈ n.st,0 ≤ q ∧ q < 64 := fun q hq => by
 have := xEk h.st q hq
 have := h.s64
 omega
theorem Valid.fis {n : Aut} (h : Valid n) : ∀ q ∈ n.fi,0 ≤ q ∧ q < 64 := fun q hq => by
 have := xEk h.fi q hq
 have := h.s64
 omega
theorem Valid.rule {n : Aut} (h : Valid n) : ∀ e ∈ n.rl,(0 ≤ e.l ∧ e.l < n.states) ∧ (0 ≤ e.r ∧ e.r < n.states) ∧ (0 ≤ e.t ∧ e.t < n.states) := fun e he => by
 have h1 := xLK h.ru e he
 unfold xHr at h1
 split at h1
 ·omega
 ·omega
theorem Valid.ok {n : Aut} (h : Valid n) (hT : TyA n) : xQM n.rl := fun e he => by
 have h1 := h.rule e he
 have h2 := h.s64
 have h3 := hT.u8 e he
 omega
theorem yEv {a b : Nat} : a &&& b ≠ 0 ↔ ∃ j,a.testBit j = true ∧ b.testBit j = true := by
 constructor
 ·intro h
  obtain ⟨j,hj⟩ := Nat.exists_testBit_ne_of_ne h
  rw [Nat.zero_testBit,Nat.testBit_and] at hj
  exact ⟨j,by simpa using hj⟩
 ·rintro ⟨j,h1,h2⟩ h
  have : (a &&& b).testBit j = true := by rw [Nat.testBit_and,h1,h2]; rfl
  rw [h,Nat.zero_testBit] at this
  cases this
theorem xBw (l : List Rl) : (rls l).all xAM = true := by
 induction l with
 | nil => rfl
 | cons e l ih =>
  have : rls (e :: l) = xCe e ++ rls l := rfl
  rw [this,List.all_append,ih]; rfl
theorem xAx (d : Nat) (H : Heap) (l : List Rl) : (rls l).mapM (frz d H) = some (rls l) := by
 induction l with
 | nil => rfl
 | cons e l ih =>
  have : rls (e :: l) = .int .i64 e.l :: .int .i64 e.r :: .int .i64 e.t :: .int .u8 (e.p : Nat) :: .int .u8 (e.n : Nat) :: rls l := rfl
  rw [this]
  simp only [List.mapM_cons,xFK,ih]
  rfl
theorem xAy (d : Nat) (H : Heap) (l : List Rl) : (rls l).flatMap (bor d H) = [] := by
 induction l with
 | nil => rfl
 | cons e l ih =>
  have : rls (e :: l) = .int .i64 e.l :: .int .i64 e.r :: .int .i64 e.t :: .int .u8 (e.p : Nat) :: .int .u8 (e.n : Nat) :: rls l := rfl
  rw [this]
  simp only [List.flatMap_cons,xE1,ih]
  rfl
theorem xAQ (d : Nat) (H : Heap) (l : List Lf) : (lfs l).mapM (frz d H) = some (lfs l) := by
 induction l with
 | nil => rfl
 | cons e l ih =>
  have : lfs (e :: l) = .int .u8 (e.x : Nat) :: .int .i64 e.l :: .int .i64 e.r :: lfs l := rfl
  rw [this]
  simp only [List.mapM_cons,xFK,ih]
  rfl
theorem xAR (d : Nat) (H : Heap) (l : List Lf) : (lfs l).flatMap (bor d H) = [] := by
 induction l with
 | nil => rfl
 | cons e l ih =>
  have : lfs (e :: l) = .int .u8 (e.x : Nat) :: .int .i64 e.l :: .int .i64 e.r :: lfs l := rfl
  rw [this]
  simp only [List.flatMap_cons,xE1,ih]
  rfl
theorem xHA {α : Type} (k : Nat) (l : List α) : List.take (l.take k).length l = l.take k := by
 rw [List.length_take]
 rcases Nat.le_total k l.length with h | h
 ·rw [Nat.min_eq_left h]
 ·rw [Nat.min_eq_right h,List.take_of_length_le h,List.take_of_length_le (Nat.le_refl _)]
theorem yBe (z : Bool) (l : List Int) (hl : l.length < 1099511627776) : L.pcall 69 [iw z l] = some (iw (l.length == 0) l) := by
 rw [yHc,a69,xAu]
 simp (maxSteps := 30000000) (disch := first | assumption | omega | (simp only [WL,AV.isCell,xAb,xAa] <;> omega) | rfl | decide) only [↓reduceIte,WB,xAW,xAd,xAV,xAm,xAl,AV.cells,AV.isCell,xAc,xAi,xAj,xAz,xAA,xAB,xAC,xAD,xAE,xAX,xAF,xAG,xAn,xAH,xAo,xAp,xAI,xAq,xAr,xAk,Nat.reduceDiv,Nat.reduceMod,WP,xAT,xAM,xBm,xBl,xBk,xAP,xAS,xAN,W2,xAe,xAf,xAh,Nat.reduceAdd,Nat.reduceSub,Nat.reduceLeDiff,Nat.reduceMul,Int.reduceAdd,Int.reduceSub,Int.reduceMul,Int.reduceLT,Int.reduceLE,Int.reduceEq,Int.reduceToNat,Int.reduceNeg,Nat.reduceEqDiff,Nat.reduceBEq,Nat.reduceLT,xAb,xAa,xAx,xAy,xAQ,xAR,xBw,xBA]
theorem yEw (z : Bool) (l : List Rl) (hl : l.length < 1099511627776) : L.pcall 70 [.sl z l.length (rls l)] = some (.sl (l.length == 0) l.length (rls l)) := by
 have htk : List.take (l.length * 5) (rls l) = rls l := List.take_of_length_le (by rw [xAa]; omega)
 rw [yHe,a70,xAu]
 simp (maxSteps := 30000000) (disch := first | assumption | omega | (simp only [WL,AV.isCell,xAb,xAa] <;> omega) | rfl | decide) only [↓reduceIte,WB,xAW,xAd,xAV,xAm,xAl,AV.cells,AV.isCell,xAc,xAi,xAj,xAz,xAA,xAB,xAC,xAD,xAE,xAX,xAF,xAG,xAn,xAH,xAo,xAp,xAI,xAq,xAr,xAk,Nat.reduceDiv,Nat.reduceMod,WP,xAT,xAM,xBm,xBl,xBk,xAP,xAS,xAN,W2,xAe,xAf,xAh,Nat.reduceAdd,Nat.reduceSub,Nat.reduceLeDiff,Nat.reduceMul,Int.reduceAdd,Int.reduceSub,Int.reduceMul,Int.reduceLT,Int.reduceLE,Int.reduceEq,Int.reduceToNat,Int.reduceNeg,Nat.reduceEqDiff,Nat.reduceBEq,Nat.reduceLT,xAb,xAa,xAx,xAy,xAQ,xAR,xBw,xBA,htk]
theorem yCQ (z : Bool) (l : List Rl) (hl : l.length < 1099511627776) : xBB L 70 [.sl z l.length (rls l)] = some (.own (l.length == 0) 0 0 l.length 5,[.cells false (l.length == 0) (rls l)]) := by
 have htk : List.take (l.length * 5) (rls l) = rls l := List.take_of_length_le (by rw [xAa]; omega)
 rw [xBF,yHf,a70,xBf]
 simp (maxSteps := 30000000) (disch := first | assumption | omega | (simp only [WL,AV.isCell,xAb,xAa] <;> omega) | rfl | decide) only [↓reduceIte,WB,xAW,xAd,xAV,xAm,xAl,AV.cells,AV.isCell,xAc,xAi,xAj,xAz,xAA,xAB,xAC,xAD,xAE,xAX,xAF,xAG,xAn,xAH,xAo,xAp,xAI,xAq,xAr,xAk,Nat.reduceDiv,Nat.reduceMod,WP,xAT,xAM,xBm,xBl,xBk,xAP,xAS,xAN,W2,xAe,xAf,xAh,Nat.reduceAdd,Nat.reduceSub,Nat.reduceLeDiff,Nat.reduceMul,Int.reduceAdd,Int.reduceSub,Int.reduceMul,Int.reduceLT,Int.reduceLE,Int.reduceEq,Int.reduceToNat,Int.reduceNeg,Nat.reduceEqDiff,Nat.reduceBEq,Nat.reduceLT,xAb,xAa,xAx,xAy,xAQ,xAR,xBw,xBA,htk]
theorem xXd (z : Bool) (l : List Int) (hl : l.length < 1099511627776) : xBB L 69 [iw z l] = some (.own (l.length == 0) 0 0 l.length 1,[.cells false (l.length == 0) (xBW l)]) := by
 have htk : List.take l.length l = l := List.take_length
 rw [xBF,yHd,a69,xBf]
 simp (maxSteps := 30000000) (disch := first | assumption | omega | (simp only [WL,AV.isCell,xAb,xAa] <;> omega) | rfl | decide) only [↓reduceIte,WB,xAW,xAd,xAV,xAm,xAl,AV.cells,AV.isCell,xAc,xAi,xAj,xAz,xAA,xAB,xAC,xAD,xAE,xAX,xAF,xAG,xAn,xAH,xAo,xAp,xAI,xAq,xAr,xAk,Nat.reduceDiv,Nat.reduceMod,WP,xAT,xAM,xBm,xBl,xBk,xAP,xAS,xAN,W2,xAe,xAf,xAh,Nat.reduceAdd,Nat.reduceSub,Nat.reduceLeDiff,Nat.reduceMul,Int.reduceAdd,Int.reduceSub,Int.reduceMul,Int.reduceLT,Int.reduceLE,Int.reduceEq,Int.reduceToNat,Int.reduceNeg,Nat.reduceEqDiff,Nat.reduceBEq,Nat.reduceLT,xAb,xAa,xAx,xAy,xAQ,xAR,xBw,xBA,htk]
abbrev cpA (n : Aut) : Aut := ⟨n.vars,n.states,n.st.length == 0,n.st,n.fi.length == 0,n.fi,n.rl.length == 0,n.rl⟩
theorem yEx (n : Aut) (h1 : n.st.length < 1099511627776) (h2 : n.fi.length < 1099511627776) (h3 : n.rl.length < 1099511627776) : L.pcall 33 [n.av] = some (cpA n).av := by
 have k1 := yBe n.z1 n.st h1
 have k2 := yBe n.z2 n.fi h2
 have k3 := yEw n.z3 n.rl h3
 have k4 := yCQ n.z3 n.rl h3
 have htk : List.take (n.rl.length * 5) (rls n.rl) = rls n.rl := List.take_of_length_le (by rw [xAa]; omega)
 have k5 := xXd n.z1 n.st h1
 have k6 := xXd n.z2 n.fi h2
 have t1 : List.take n.st.length n.st = n.st := List.take_length
 have t2 : List.take n.fi.length n.fi = n.fi := List.take_length
 rw [yGZ,a33,xAu]
 simp (maxSteps := 30000000) (disch := first | assumption | omega | (simp only [WL,AV.isCell,xAb,xAa] <;> omega) | rfl | decide) only [↓reduceIte,WB,xAW,xAd,xAV,xAm,xAl,AV.cells,AV.isCell,xAc,xAi,xAj,xAz,xAA,xAB,xAC,xAD,xAE,xAX,xAF,xAG,xAn,xAH,xAo,xAp,xAI,xAq,xAr,xAk,Nat.reduceDiv,Nat.reduceMod,WP,xAT,xAM,xBm,xBl,xBk,xAP,xAS,xAN,W2,xAe,xAf,xAh,Nat.reduceAdd,Nat.reduceSub,Nat.reduceLeDiff,Nat.reduceMul,Int.reduceAdd,Int.reduceSub,Int.reduceMul,Int.reduceLT,Int.reduceLE,Int.reduceEq,Int.reduceToNat,Int.reduceNeg,Nat.reduceEqDiff,Nat.reduceBEq,Nat.reduceLT,xAb,xAa,xAx,xAy,xAQ,xAR,xBw,xBA,k1,k2,k3,k4,k5,k6,t1,t2,htk]
theorem yEy (z : Bool) (l : List Lf) (hl : l.length < 1099511627776) : L.pcall 13 [tw z l] = some (tw (l.length == 0) l) := by
 have htk : List.take (l.length * 3) (lfs l) = lfs l := List.take_of_length_le (by rw [xAb]; omega)
 rw [yGS,a13,xAu]
 simp (maxSteps := 30000000) (disch := first | assumption | omega | (simp only [WL,AV.isCell,xAb,xAa] <;> omega) | rfl | decide) only [↓reduceIte,WB,xAW,xAd,xAV,xAm,xAl,AV.cells,AV.isCell,xAc,xAi,xAj,xAz,xAA,xAB,xAC,xAD,xAE,xAX,xAF,xAG,xAn,xAH,xAo,xAp,xAI,xAq,xAr,xAk,Nat.reduceDiv,Nat.reduceMod,WP,xAT,xAM,xBm,xBl,xBk,xAP,xAS,xAN,W2,xAe,xAf,xAh,Nat.reduceAdd,Nat.reduceSub,Nat.reduceLeDiff,Nat.reduceMul,Int.reduceAdd,Int.reduceSub,Int.reduceMul,Int.reduceLT,Int.reduceLE,Int.reduceEq,Int.reduceToNat,Int.reduceNeg,Nat.reduceEqDiff,Nat.reduceBEq,Nat.reduceLT,xAb,xAa,xAx,xAy,xAQ,xAR,xBw,htk]
abbrev yFM : TS := ⟨true,[.int .i64,.int .i64,.sl [.int .i64],.sl [.int .i64],.sl [.int .i64,.int .i64,.int .i64,.int .u8,.int .u8]]⟩
abbrev yEz : TS := ⟨false,[.sl [.int .u8,.int .i64,.int .i64]]⟩
theorem xPM : ∀ (cs : List AV),(∀ x ∈ cs,Fit (.int .i64) x) → ∃ l : List Int,cs = xBW l
 | [],_ => ⟨[],rfl⟩
 | a :: cs,h => by
  obtain ⟨n,rfl,_⟩ := xE6 (h a (by simp))
  obtain ⟨l,rfl⟩ := xPM cs (fun x hx => h x (by simp [hx]))
  exact ⟨n :: l,rfl⟩
theorem yBf {a : AV} (h : Fit (.sl [.int .i64]) a) : ∃ z l,a = iw z l ∧ (z = true → l = []) := by
 obtain ⟨z,cs,rfl,hz,hl,hf⟩ := yCU h
 obtain ⟨l,rfl⟩ := xPM cs hf
 exact ⟨z,l,by rw [xBE],fun e => List.map_eq_nil_iff.1 (hz e)⟩
theorem xXe : ∀ (rs : List (List AV)),(∀ r ∈ rs,r.length = 5) → (∀ r ∈ rs,∀ (i : Nat) (c : CS) (a : AV),([.int .i64,.int .i64,.int .i64,.int .u8,.int .u8] : List CS)[i]? = some c → r[i]? = some a → Fit c a) →
  ∃ l : List Rl,rs.flatten = rls l ∧ l.length = rs.length ∧ ∀ e ∈ l,e.p < 256 ∧ e.n < 256
 | [],_,_ => ⟨[],rfl,rfl,by simp⟩
 | r :: rs,hl,hf => by
  obtain ⟨l,h1,h2,h3⟩ := xXe rs (fun r hr => hl r (by simp [hr])) (fun r hr => hf r (by simp [hr]))
  have hr := hl r (by simp)
  match r,hr with
  | [x0,x1,x2,x3,x4],_ =>
   have hfr := hf [x0,x1,x2,x3,x4] (by simp)
   obtain ⟨a,rfl,_⟩ := xE6 (hfr 0 _ _ rfl rfl)
   obtain ⟨b,rfl,_⟩ := xE6 (hfr 1 _ _ rfl rfl)
   obtain ⟨c,rfl,_⟩ := xE6 (hfr 2 _ _ rfl rfl)
   obtain ⟨p,rfl,hp⟩ := xXi (hfr 3 _ _ rfl rfl)
   obtain ⟨n,rfl,hn⟩ := xXi (hfr 4 _ _ rfl rfl)
   refine ⟨⟨a,b,c,p,n⟩ :: l,?_,by simp [h2],?_⟩
   ·rw [List.flatten_cons,h1]; rfl
   ·intro e he
    rcases List.mem_cons.1 he with rfl | he
    ·exact ⟨hp,hn⟩
    ·exact h3 e he
theorem yCR {a : AV} (h : Fit (.sl [.int .i64,.int .i64,.int .i64,.int .u8,.int .u8]) a) : ∃ z l,a = .sl z l.length (rls l) ∧ ∀ e ∈ l,e.p < 256 ∧ e.n < 256 := by
 cases h with
 | nil => exact ⟨true,[],rfl,by simp⟩
 | @sl _ rs hn hl hr =>
  obtain ⟨l,h1,h2,h3⟩ := xXe rs hl hr
  exact ⟨false,l,by rw [h1,h2],h3⟩
theorem xXf : ∀ (rs : List (List AV)),(∀ r ∈ rs,r.length = 3) → (∀ r ∈ rs,∀ (i : Nat) (c : CS) (a : AV),([.int .u8,.int .i64,.int .i64] : List CS)[i]? = some c → r[i]? = some a → Fit c a) →
  ∃ l : List Lf,rs.flatten = lfs l ∧ l.length = rs.length ∧ ∀ e ∈ l,e.x < 256
 | [],_,_ => ⟨[],rfl,rfl,by simp⟩
 | r :: rs,hl,hf => by
  obtain ⟨l,h1,h2,h3⟩ := xXf rs (fun r hr => hl r (by simp [hr])) (fun r hr => hf r (by simp [hr]))
  have hr := hl r (by simp)
  match r,hr with
  | [x0,x1,x2],_ =>
   have hfr := hf [x0,x1,x2] (by simp)
   obtain ⟨p,rfl,hp⟩ := xXi (hfr 0 _ _ rfl rfl)
   obtain ⟨a,rfl,_⟩ := xE6 (hfr 1 _ _ rfl rfl)
   obtain ⟨b,rfl,_⟩ := xE6 (hfr 2 _ _ rfl rfl)
   refine ⟨⟨p,a,b⟩ :: l,?_,by simp [h2],?_⟩
   ·rw [List.flatten_cons,h1]; rfl
   ·intro e he
    rcases List.mem_cons.1 he with rfl | he
    ·exact hp
    ·exact h3 e he
theorem xZD {a : AV} (h : Fit (.sl [.int .u8,.int .i64,.int .i64]) a) : ∃ z l,a = tw z l ∧ ∀ e ∈ l,e.x < 256 := by
 cases h with
 | nil => exact ⟨true,[],rfl,by simp⟩
 | @sl _ rs hn hl hr =>
  obtain ⟨l,h1,h2,h3⟩ := xXf rs hl hr
  exact ⟨false,l,by unfold tw; rw [h1,h2],h3⟩
theorem yCS {a : AV} (h : xUk yFM a) : ∃ n : Aut,a = n.av ∧ ∀ e ∈ n.rl,e.p < 256 ∧ e.n < 256 := by
 obtain ⟨cs,rfl,h'⟩ := xXj h
 obtain ⟨a1,cs,rfl,h1,h'⟩ := xDy h'
 obtain ⟨a2,cs,rfl,h2,h'⟩ := xDy h'
 obtain ⟨a3,cs,rfl,h3,h'⟩ := xDy h'
 obtain ⟨a4,cs,rfl,h4,h'⟩ := xDy h'
 obtain ⟨a5,cs,rfl,h5,h'⟩ := xDy h'
 obtain rfl := xT9 h'
 obtain ⟨v,rfl,_⟩ := xE6 h1
 obtain ⟨s,rfl,_⟩ := xE6 h2
 obtain ⟨z1,st,rfl,_⟩ := yBf h3
 obtain ⟨z2,fi,rfl,_⟩ := yBf h4
 obtain ⟨z3,rl,rfl,hb⟩ := yCR h5
 exact ⟨⟨v,s,z1,st,z2,fi,z3,rl⟩,rfl,hb⟩
theorem xFy {l : List Int} {z z' : Bool} {s4 : AV} {H : Heap} (hl : l.length < 1099511627776) : ∀ d i,i + d = l.length →
  L.loop xN6 xY4 ⟨xN7 (iw z l) (iw z' l) s4 (.int .i64 (i : Nat)),H⟩ = some (.exit 0,⟨xN7 (iw z l) (iw z' l) s4 (.int .i64 (l.length : Nat)),H⟩)
 | 0,i,h => by
  obtain rfl : i = l.length := by omega
  rw [yAi]
  simp (maxSteps := 30000000) (disch := first | assumption | omega | (simp only [WL,AV.isCell,xAa] <;> omega) | rfl | decide) only [↓reduceIte,WB,xAW,xAd,xAV,xAm,xAl,AV.cells,AV.isCell,xAc,xAi,xAj,W2,xAe,xAf,xAh,Nat.reduceAdd,Nat.reduceSub,Nat.reduceLeDiff,Nat.reduceMul,Int.reduceAdd,Int.reduceSub,Int.reduceMul,Int.reduceLT,Int.reduceLE,Int.reduceEq,Int.reduceToNat,Int.reduceNeg,Nat.reduceEqDiff,Nat.reduceBEq,Nat.reduceLT,xAa,xAs,xAx,xAy,xRw,xVp]
 | d + 1,i,h => by
  have hlt : (i : Int) < (l.length : Nat) := by omega
  have ih := xFy (z := z) (z' := z') (s4 := s4) (H := H) hl d (i + 1) (by omega)
  rw [yAi]
  simp (maxSteps := 30000000) (disch := first | assumption | omega | (simp only [WL,AV.isCell,xAa] <;> omega) | rfl | decide) only [↓reduceIte,WB,xAW,xAd,xAV,xAm,xAl,AV.cells,AV.isCell,xAc,xAi,xAj,W2,xAe,xAf,xAh,Nat.reduceAdd,Nat.reduceSub,Nat.reduceLeDiff,Nat.reduceMul,Int.reduceAdd,Int.reduceSub,Int.reduceMul,Int.reduceLT,Int.reduceLE,Int.reduceEq,Int.reduceToNat,Int.reduceNeg,Nat.reduceEqDiff,Nat.reduceBEq,Nat.reduceLT,xAa,xAs,xAx,xAy,xRw,xVp,hlt,ih]
theorem xPN (z z' : Bool) (l : List Int) (hl : l.length < 1099511627776) : L.pcall 60 [iw z l,iw z' l] = some (.bool true) := by
 have ih := fun s4 => xFy (z := z) (z' := z') (s4 := s4) (H := []) hl l.length 0 (by omega)
 simp only [Int.natCast_zero] at ih
 rw [yHa,a60,xAu]
 simp (maxSteps := 30000000) (disch := first | assumption | omega | (simp only [WL,AV.isCell,xAa] <;> omega) | rfl | decide) only [↓reduceIte,WB,xAW,xAd,xAV,xAm,xAl,AV.cells,AV.isCell,xAc,xAi,xAj,W2,xAe,xAf,xAh,Nat.reduceAdd,Nat.reduceSub,Nat.reduceLeDiff,Nat.reduceMul,Int.reduceAdd,Int.reduceSub,Int.reduceMul,Int.reduceLT,Int.reduceLE,Int.reduceEq,Int.reduceToNat,Int.reduceNeg,Nat.reduceEqDiff,Nat.reduceBEq,Nat.reduceLT,xAa,xAs,xAx,xAy,xVp,ih]
theorem xGp {l : List Rl} {z z' : Bool} {s4 : AV} {H : Heap} (hl : l.length < 1099511627776) : ∀ d i,i + d = l.length →
  L.loop xN8 xY5 ⟨xN9 (.sl z l.length (rls l)) (.sl z' l.length (rls l)) s4 (.int .i64 (i : Nat)),H⟩ = some (.exit 0,⟨xN9 (.sl z l.length (rls l)) (.sl z' l.length (rls l)) s4 (.int .i64 (l.length : Nat)),H⟩)
 | 0,i,h => by
  obtain rfl : i = l.length := by omega
  rw [yAj]
  simp (maxSteps := 30000000) (disch := first | assumption | omega | (simp only [WL,AV.isCell,xAa] <;> omega) | rfl | decide) only [↓reduceIte,WB,xAW,xAd,xAV,xAm,xAl,AV.cells,AV.isCell,xAc,xAi,xAj,W2,xAe,xAf,xAh,Nat.reduceAdd,Nat.reduceSub,Nat.reduceLeDiff,Nat.reduceMul,Int.reduceAdd,Int.reduceSub,Int.reduceMul,Int.reduceLT,Int.reduceLE,Int.reduceEq,Int.reduceToNat,Int.reduceNeg,Nat.reduceEqDiff,Nat.reduceBEq,Nat.reduceLT,xAa,xAs,xAx,xAy,xRx,xVq]
 | d + 1,i,h => by
  have hlt : (i : Int) < (l.length : Nat) := by omega
  have ih := xGp (z := z) (z' := z') (s4 := s4) (H := H) hl d (i + 1) (by omega)
  rw [yAj]
  simp (maxSteps := 30000000) (disch := first | assumption | omega | (simp only [WL,AV.isCell,xAa] <;> omega) | rfl | decide) only [↓reduceIte,WB,xAW,xAd,xAV,xAm,xAl,AV.cells,AV.isCell,xAc,xAi,xAj,W2,xAe,xAf,xAh,Nat.reduceAdd,Nat.reduceSub,Nat.reduceLeDiff,Nat.reduceMul,Int.reduceAdd,Int.reduceSub,Int.reduceMul,Int.reduceLT,Int.reduceLE,Int.reduceEq,Int.reduceToNat,Int.reduceNeg,Nat.reduceEqDiff,Nat.reduceBEq,Nat.reduceLT,xAa,xAs,xAx,xAy,xRx,xVq,hlt,xCd,eq1,beq_self_eq_true,Bool.and_true,bne_self_eq_false,ih]
theorem xZE (z z' : Bool) (l : List Rl) (hl : l.length < 1099511627776) : L.pcall 61 [.sl z l.length (rls l),.sl z' l.length (rls l)] = some (.bool true) := by
 have ih := fun s4 => xGp (z := z) (z' := z') (s4 := s4) (H := []) hl l.length 0 (by omega)
 simp only [Int.natCast_zero] at ih
 rw [yHb,a61,xAu]
 simp (maxSteps := 30000000) (disch := first | assumption | omega | (simp only [WL,AV.isCell,xAa] <;> omega) | rfl | decide) only [↓reduceIte,WB,xAW,xAd,xAV,xAm,xAl,AV.cells,AV.isCell,xAc,xAi,xAj,W2,xAe,xAf,xAh,Nat.reduceAdd,Nat.reduceSub,Nat.reduceLeDiff,Nat.reduceMul,Int.reduceAdd,Int.reduceSub,Int.reduceMul,Int.reduceLT,Int.reduceLE,Int.reduceEq,Int.reduceToNat,Int.reduceNeg,Nat.reduceEqDiff,Nat.reduceBEq,Nat.reduceLT,xAa,xAs,xAx,xAy,xVq,ih]
theorem xSU (n : Aut) (h1 : n.st.length < 1099511627776) (h2 : n.fi.length < 1099511627776) (h3 : n.rl.length < 1099511627776) (z1 z2 z3 : Bool) : L.pcall 25 [n.av,(Aut.mk n.vars n.states z1 n.st z2 n.fi z3 n.rl).av] = some (.bool true) := by
 have g1 := xPN n.z1 z1 n.st h1
 have g2 := xPN n.z2 z2 n.fi h2
 have g3 := xZE n.z3 z3 n.rl h3
 rw [yGW,a25,xAu]
 simp (maxSteps := 30000000) (disch := first | assumption | omega | (simp only [WL,AV.isCell,xAa] <;> omega) | rfl | decide) only [↓reduceIte,WB,xAW,xAd,xAV,xAm,xAl,AV.cells,AV.isCell,xAc,xAi,xAj,W2,xAe,xAf,xAh,Nat.reduceAdd,Nat.reduceSub,Nat.reduceLeDiff,Nat.reduceMul,Int.reduceAdd,Int.reduceSub,Int.reduceMul,Int.reduceLT,Int.reduceLE,Int.reduceEq,Int.reduceToNat,Int.reduceNeg,Nat.reduceEqDiff,Nat.reduceBEq,Nat.reduceLT,xAa,xAs,xAx,xAy,g1,g2,g3]
abbrev fwA (n : Aut) : Aut := ⟨n.vars,n.states,n.z1,n.st.take 70,n.z2,n.fi.take 70,n.z3,n.rl.take 520⟩
theorem yFN (n : Aut) : L.pcall 12 [n.av] = some (cpA (fwA n)).av := by
 have h := yEx (fwA n) (by simp; omega) (by simp; omega) (by simp; omega)
 have e1 : min ((n.st.length : Nat) : Int) 70 = ((n.st.take 70).length : Nat) := by rw [List.length_take]; omega
 have e2 : min ((n.fi.length : Nat) : Int) 70 = ((n.fi.take 70).length : Nat) := by rw [List.length_take]; omega
 have e3 : min ((n.rl.length : Nat) : Int) 520 = ((n.rl.take 520).length : Nat) := by rw [List.length_take]; omega
 have t1 : List.take (n.st.take 70).length n.st = n.st.take 70 := xHA ..
 have t2 : List.take (n.fi.take 70).length n.fi = n.fi.take 70 := xHA ..
 have t3 : List.take ((n.rl.take 520).length * 5) (rls n.rl) = rls (n.rl.take 520) := by
  unfold rls
  rw [xJE (enc := xCe) (k := 5) (fun _ => rfl)]
  rw [xHA]
 have l1 : (n.st.take 70).length ≤ n.st.length := by rw [List.length_take]; omega
 have l2 : (n.fi.take 70).length ≤ n.fi.length := by rw [List.length_take]; omega
 have l3 : (n.rl.take 520).length ≤ n.rl.length := by rw [List.length_take]; omega
 have c1 : (n.st.take 70).length ≤ 70 := by rw [List.length_take]; omega
 have c2 : (n.fi.take 70).length ≤ 70 := by rw [List.length_take]; omega
 have c3 : (n.rl.take 520).length ≤ 520 := by rw [List.length_take]; omega
 dsimp only [fwA,cpA,Aut.av,Aut.cells,iw] at h ⊢
 generalize n.st.take 70 = st at *
 generalize n.fi.take 70 = fi at *
 generalize n.rl.take 520 = rl at *
 rw [yGR,a12,xAu]
 simp (maxSteps := 30000000) (disch := first | assumption | omega | (simp only [WL,AV.isCell,xAb,xAa] <;> omega) | rfl | decide) only [↓reduceIte,WB,xAW,xAd,xAV,xAm,xAl,AV.cells,AV.isCell,xAc,xAi,xAj,xAz,xAA,xAB,xAC,xAD,xAE,xAX,xAF,xAG,xAn,xAH,xAo,xAp,xAI,xAq,xAr,xAk,Nat.reduceDiv,Nat.reduceMod,WP,xAT,xAM,xBm,xBl,xBk,xAP,xAS,xAN,W2,xAe,xAf,xAh,Nat.reduceAdd,Nat.reduceSub,Nat.reduceLeDiff,Nat.reduceMul,Int.reduceAdd,Int.reduceSub,Int.reduceMul,Int.reduceLT,Int.reduceLE,Int.reduceEq,Int.reduceToNat,Int.reduceNeg,Nat.reduceEqDiff,Nat.reduceBEq,Nat.reduceLT,xAb,xAa,xAx,xAy,xAQ,xAR,xBw,xBA,e1,e2,e3,t1,t2,t3,h]
theorem xD7 {t : List Lf} {c : Int} {m n : Nat} {T : BT} (h : Sub t c m T n) : (c = -1 ∧ n = m ∧ T = .nil) ∨ (c = (m : Int) ∧ m < t.length) := by
 cases h with
 | none m => exact .inl ⟨rfl,rfl,rfl⟩
 | some hm _ _ => exact .inr ⟨rfl,hm⟩
theorem yEA {z : Bool} {t : List Lf} (ht : t.length < 1099511627776) {c : Int} {m n : Nat} {T : BT} (h : Sub t c m T n) : 0 ≤ c → L.pcall 96 [tw z t,.int .i64 (m : Nat)] = some (.int .i64 (n : Nat)) := by
 induction h with
 | none m => intro h; omega
 | @some m k n l r hm hl hr ihl ihr =>
  intro _
  have first : LP z t [] (t.getD m f0).l (t.getD m f0).r (.int .i64 0) ((m + 1 : Nat) : Int) 0 = LP z t [] (t.getD m f0).l (t.getD m f0).r (.int .i64 0) ((k : Nat) : Int) 1 := by
   rcases xD7 hl with ⟨e1,e2,_⟩ | ⟨e1,e2⟩
   ·subst e2
    exact yE4 _ (.inl ⟨rfl,rfl⟩) e1
   ·exact yE5 (m + 1) k (.inl ⟨rfl,rfl⟩) e1 e2 (ihl (by omega))
  have second : LP z t [] (t.getD m f0).l (t.getD m f0).r (.int .i64 0) ((k : Nat) : Int) 1 = LP z t [] (t.getD m f0).l (t.getD m f0).r (.int .i64 0) ((n : Nat) : Int) 2 := by
   rcases xD7 hr with ⟨e1,e2,_⟩ | ⟨e1,e2⟩
   ·subst e2
    exact yE4 _ (.inr ⟨rfl,rfl⟩) e1
   ·exact yE5 k n (.inr ⟨rfl,rfl⟩) e1 e2 (ihr (by omega))
  exact xMs ht hm (by rw [first,second]; exact yFO _)
open Classical in
noncomputable def xDa (t : List Lf) : Bool := decide (∃ T,Formed t T)
open Classical in
theorem formedB_iff {t : List Lf} : xDa t = true ↔ ∃ T,Formed t T := by unfold xDa; rw [decide_eq_true_eq]
theorem xT7 (z : Bool) {t : List Lf} {T : BT} (ht : t.length < 1099511627776) (h : Formed t T) : L.pcall 75 [tw z t] = some (.bool true) := by
 have e : (((t.length : Nat) : Int) ≤ 31) = (t.length ≤ 31) := propext ⟨fun h => by omega,fun h => by omega⟩
 rcases h with ⟨rfl,rfl⟩ | ⟨h31,hS⟩
 ·have h0' : (((([] : List Lf).length : Nat) : Int) = 0) = True := eq_true (by simp)
  rw [yB8,a75,xAu]
  simp (maxSteps := 30000000) (disch := first | assumption | omega | (simp only [WL,AV.isCell,xAb,xAa] <;> omega) | rfl | decide) only [↓reduceIte,WB,xAW,xAd,xAV,xAm,xAl,AV.cells,AV.isCell,xAc,xAi,xAj,W2,xAe,xAf,xAh,Nat.reduceAdd,Nat.reduceSub,Nat.reduceLeDiff,Nat.reduceMul,Int.reduceAdd,Int.reduceSub,Int.reduceMul,Int.reduceLT,Int.reduceLE,Int.reduceEq,Int.reduceToNat,Int.reduceNeg,Nat.reduceEqDiff,Nat.reduceBEq,Nat.reduceLT,xAb,xAa,h0']
 ·have q := yEA (z := z) ht hS (by omega)
  have hpos : ¬ t.length = 0 := by
   intro h0
   rcases xD7 hS with ⟨h,_⟩ | ⟨_,h⟩ <;> omega
  have h0' : (((t.length : Nat) : Int) = 0) = False := eq_false (by omega)
  have h2 : (((t.length : Nat) : Int) = (t.length : Nat)) = True := eq_true rfl
  simp only [Int.natCast_zero] at q
  rw [yB8,a75,xAu]
  simp (maxSteps := 30000000) (disch := first | assumption | omega | (simp only [WL,AV.isCell,xAb,xAa] <;> omega) | rfl | decide) only [↓reduceIte,WB,xAW,xAd,xAV,xAm,xAl,AV.cells,AV.isCell,xAc,xAi,xAj,W2,xAe,xAf,xAh,Nat.reduceAdd,Nat.reduceSub,Nat.reduceLeDiff,Nat.reduceMul,Int.reduceAdd,Int.reduceSub,Int.reduceMul,Int.reduceLT,Int.reduceLE,Int.reduceEq,Int.reduceToNat,Int.reduceNeg,Nat.reduceEqDiff,Nat.reduceBEq,Nat.reduceLT,xAb,xAa,h0',e,h31,q,h2]
theorem xXg (z : Bool) (t : List Lf) (ht : t.length < 1099511627776) : L.pcall 75 [tw z t] = some (.bool (xDa t)) := by
 cases h : xDa t with
 | true =>
  obtain ⟨T,hT⟩ := formedB_iff.1 h
  exact xT7 z ht hT
 | false =>
  rcases xXl z t ht with q | ⟨_,q⟩
  ·exact q
  ·rw [formedB_iff.2 q] at h; cases h
def xT8 (t : List Lf) (v : Nat) : Bool := t.all fun e => decide (e.x >>> v = 0)
theorem labOk_iff {t : List Lf} {v : Nat} : xT8 t v = true ↔ ∀ e ∈ t,e.x >>> v = 0 := by simp [xT8]
noncomputable def xPO (t : List Lf) (v : Nat) : Int := if 31 < t.length then 4 else if xT8 t v = true then (if xDa t = true then 0 else 2) else 1
theorem xXh (z : Bool) (t : List Lf) (v : Nat) (hv : v ≤ 3) (hl : t.length < 1099511627776) (hx : ∀ e ∈ t,e.x < 256) :
  L.pcall 81 [tw z t,.int .i64 (v : Nat)] = some (.int .i64 (xPO t v)) := by
 have hv3 : ¬ ((3 : Int) < (v : Nat)) := by omega
 have e31 : ((31 : Int) < (t.length : Nat)) = (31 < t.length) := propext ⟨fun h => by omega,fun h => by omega⟩
 have q := xXg z t hl
 unfold xPO
 by_cases c : 31 < t.length
 ·rw [if_pos c,yEX,a81,xAu]
  simp (maxSteps := 30000000) (disch := first | assumption | omega | (simp only [WL,AV.isCell,xAb,xAa] <;> omega) | rfl | decide) only [↓reduceIte,WB,xAW,xAd,xAV,xAm,xAl,AV.cells,AV.isCell,xAc,xAi,xAj,W2,xAe,xAf,xAh,Nat.reduceAdd,Nat.reduceSub,Nat.reduceLeDiff,Nat.reduceMul,Int.reduceAdd,Int.reduceSub,Int.reduceMul,Int.reduceLT,Int.reduceLE,Int.reduceEq,Int.reduceToNat,Int.reduceNeg,Nat.reduceEqDiff,Nat.reduceBEq,Nat.reduceLT,xAb,xAa,hv3,e31,c]
 ·rw [if_neg c]
  obtain ⟨H',i',g⟩ := xSV (z := z) (s4 := .int .i64 0) hv hl hx t.length 0 [] (by omega)
  simp only [Int.natCast_zero,List.drop_zero] at g
  rcases g with ⟨g1,g⟩ | ⟨g1,g⟩
  ·rw [if_pos (labOk_iff.2 g1)]
   cases hf : xDa t with
   | false =>
    rw [hf] at q
    rw [if_neg (by simp),yEX,a81,xAu]
    simp (maxSteps := 30000000) (disch := first | assumption | omega | (simp only [WL,AV.isCell,xAb,xAa] <;> omega) | rfl | decide) only [↓reduceIte,WB,xAW,xAd,xAV,xAm,xAl,AV.cells,AV.isCell,xAc,xAi,xAj,W2,xAe,xAf,xAh,Nat.reduceAdd,Nat.reduceSub,Nat.reduceLeDiff,Nat.reduceMul,Int.reduceAdd,Int.reduceSub,Int.reduceMul,Int.reduceLT,Int.reduceLE,Int.reduceEq,Int.reduceToNat,Int.reduceNeg,Nat.reduceEqDiff,Nat.reduceBEq,Nat.reduceLT,xAb,xAa,xIr,hv3,e31,c,g,q]
   | true =>
    rw [hf] at q
    rw [if_pos rfl,yEX,a81,xAu]
    simp (maxSteps := 30000000) (disch := first | assumption | omega | (simp only [WL,AV.isCell,xAb,xAa] <;> omega) | rfl | decide) only [↓reduceIte,WB,xAW,xAd,xAV,xAm,xAl,AV.cells,AV.isCell,xAc,xAi,xAj,W2,xAe,xAf,xAh,Nat.reduceAdd,Nat.reduceSub,Nat.reduceLeDiff,Nat.reduceMul,Int.reduceAdd,Int.reduceSub,Int.reduceMul,Int.reduceLT,Int.reduceLE,Int.reduceEq,Int.reduceToNat,Int.reduceNeg,Nat.reduceEqDiff,Nat.reduceBEq,Nat.reduceLT,xAb,xAa,xIr,hv3,e31,c,g,q]
  ·rw [if_neg (fun h => g1 (labOk_iff.1 h)),yEX,a81,xAu]
   simp (maxSteps := 30000000) (disch := first | assumption | omega | (simp only [WL,AV.isCell,xAb,xAa] <;> omega) | rfl | decide) only [↓reduceIte,WB,xAW,xAd,xAV,xAm,xAl,AV.cells,AV.isCell,xAc,xAi,xAj,W2,xAe,xAf,xAh,Nat.reduceAdd,Nat.reduceSub,Nat.reduceLeDiff,Nat.reduceMul,Int.reduceAdd,Int.reduceSub,Int.reduceMul,Int.reduceLT,Int.reduceLE,Int.reduceEq,Int.reduceToNat,Int.reduceNeg,Nat.reduceEqDiff,Nat.reduceBEq,Nat.reduceLT,xAb,xAa,xIr,hv3,e31,c,g,q]
noncomputable def xGQ (n : Aut) (t : List Lf) : Int := if xPS n = 0 then xPO t n.vars.toNat else xPS n
theorem bothE_zero {n : Aut} {t : List Lf} : xGQ n t = 0 ↔ Valid n ∧ t.length ≤ 31 ∧ (∀ e ∈ t,e.x >>> n.vars.toNat = 0) ∧ ∃ T,Formed t T := by
 unfold xGQ xPO
 rw [← chkE_zero,← labOk_iff,← formedB_iff]
 by_cases c : xPS n = 0
 ·rw [if_pos c]
  by_cases c1 : 31 < t.length
  ·rw [if_pos c1]
   exact ⟨fun h => by omega,fun h => by omega⟩
  ·rw [if_neg c1]
   cases xT8 t n.vars.toNat <;> cases xDa t <;> simp [c] <;> omega
 ·rw [if_neg c]
  exact ⟨fun h => (c h).elim,fun h => (c h.1).elim⟩
theorem yCT (n : Aut) (z : Bool) (t : List Lf) (hT : TyA n) (ht : t.length < 1099511627776) (hx : ∀ e ∈ t,e.x < 256) :
  L.pcall 47 [n.av,tw z t] = some (.int .i64 (xGQ n t)) := by
 have h1 := xGq n hT.st hT.fi hT.rl hT.u8
 unfold xGQ
 by_cases c : xPS n = 0
 ·have hV := chkE_zero.1 c
  obtain ⟨v,hv⟩ : ∃ v : Nat,n.vars = (v : Nat) := ⟨n.vars.toNat,by have := hV.v0; omega⟩
  have htv : n.vars.toNat = v := by omega
  have h2 := xXh z t v (by have := hV.v3; omega) ht hx
  rw [c] at h1
  rw [if_pos c,htv,yFX,a47,xAu]
  rw [← hv] at h2
  simp (maxSteps := 30000000) (disch := first | assumption | omega | (simp only [WL,AV.isCell,xAb,xAa] <;> omega) | rfl | decide) only [↓reduceIte,WB,xAW,xAd,xAV,xAm,xAl,AV.cells,AV.isCell,xAc,xAi,xAj,W2,xAe,xAf,xAh,Nat.reduceAdd,Nat.reduceSub,Nat.reduceLeDiff,Nat.reduceMul,Int.reduceAdd,Int.reduceSub,Int.reduceMul,Int.reduceLT,Int.reduceLE,Int.reduceEq,Int.reduceToNat,Int.reduceNeg,Nat.reduceEqDiff,Nat.reduceBEq,Nat.reduceLT,xAb,xAa,h1,h2]
 ·rw [if_neg c,yFX,a47,xAu]
  simp (maxSteps := 30000000) (disch := first | assumption | omega | (simp only [WL,AV.isCell,xAb,xAa] <;> omega) | rfl | decide) only [↓reduceIte,WB,xAW,xAd,xAV,xAm,xAl,AV.cells,AV.isCell,xAc,xAi,xAj,W2,xAe,xAf,xAh,Nat.reduceAdd,Nat.reduceSub,Nat.reduceLeDiff,Nat.reduceMul,Int.reduceAdd,Int.reduceSub,Int.reduceMul,Int.reduceLT,Int.reduceLE,Int.reduceEq,Int.reduceToNat,Int.reduceNeg,Nat.reduceEqDiff,Nat.reduceBEq,Nat.reduceLT,xAb,xAa,h1,c]
end Go.Abs.Tree
