/- states: the nodes' loop. -/
import Derived.Test.YtijmhicopfphnaaDoorAbsBun
import Derived.Test.YtijmhicopfphnaaDoorAML
import Derived.Test.YtijmhicopfphnaaDoorAbsIn
namespace Go.Abs.Tree
open Go Go.Abs
set_option linter.unusedSimpArgs false
set_option linter.unusedVariables false
def ev (E : Nat) (rl : List Rl) : BT → Nat
 | .nil => E
 | .node x l r => toM (ev E rl l) (ev E rl r) x 0 rl
theorem yDu {E : Nat} {rl : List Rl} (hE : E < 18446744073709551616) (hb : xTF rl) : ∀ T,ev E rl T < 18446744073709551616
 | .nil => hE
 | .node x l r => yB2 _ _ _ _ _ (by omega) hb
def Pop (E : Nat) (c : Int) (st : List Nat) (v : Nat) (st' : List Nat) : Prop := c < 0 ∧ v = E ∧ st = st' ∨ ¬ c < 0 ∧ st = st' ++ [v]
structure Inv (n : Aut) (E : Nat) (G : Heap) (st : List Nat) : Prop where
 g0 : G[0]? = some (.cells false false n.cells)
 g1 : G[1]? = some (.cells false false [.int .u64 (E : Nat)])
 own : ∃ v,G[2]? = some (.cells false false [v]) ∧ OwnG G v st
theorem Inv.app {n : Aut} {E : Nat} {G : Heap} {st : List Nat} (h : Inv n E G st) (X : Heap) : Inv n E (G ++ X) st := by
 obtain ⟨v,h2,h3⟩ := h.own
 exact ⟨xAu h.g0,xAu h.g1,v,xAu h2,h3.app X⟩
theorem xX6 {n : Aut} {E : Nat} {G : Heap} {st st' : List Nat} {v : Nat} {c : Int} (hI : Inv n E G st) (hp : Pop E c st v st') (hl : st.length < 1099511627776) :
  ∃ G',L.icall (.func 82 [.ptr 1 0,.ptr 2 0]) [.int .i64 c] G = some (.int .u64 (v : Nat),G') ∧ Inv n E G' st' ∧ ∀ b,2 < b → G'[b]? = G[b]? := by
 rcases hp with ⟨hc,rfl,rfl⟩ | ⟨hc,rfl⟩
 ·exact ⟨G,yAI hc hI.g1,hI,fun _ _ => rfl⟩
 ·obtain ⟨w,h2,hO⟩ := hI.own
  obtain ⟨w',h3,h4⟩ := yAJ hc h2 hO (by simp at hl; omega)
  refine ⟨_,h3,⟨?_,?_,w',?_,h4⟩,fun b hb => ?_⟩
  ·rw [List.getElem?_set_ne (by omega)]; exact hI.g0
  ·rw [List.getElem?_set_ne (by omega)]; exact hI.g1
  ·rw [List.getElem?_set_self (List.getElem?_eq_some_iff.1 h2).1]
  ·rw [List.getElem?_set_ne (by omega)]
noncomputable abbrev LN (z : Bool) (t : List Lf) (i : Nat) (G : Heap) := L.loop xRA yAb ⟨xPb (tw z t) (.ptr 0 0) (.ptr 1 0) (.ptr 2 0) (.int .i64 (i : Nat)) (.func 82 [.ptr 1 0,.ptr 2 0]),G⟩
theorem xX7 (z : Bool) (t : List Lf) (G : Heap) : LN z t 0 G = some (.exit 0,⟨xPb (tw z t) (.ptr 0 0) (.ptr 1 0) (.ptr 2 0) (.int .i64 0) (.func 82 [.ptr 1 0,.ptr 2 0]),G⟩) := by
 unfold LN
 rw [yBC]
 simp (disch := omega) only [xN3,WB,↓reduceIte,xN4]
set_option maxHeartbeats 4000000 in
theorem xVP {z : Bool} {t : List Lf} {n : Aut} {E : Nat} (ht : t.length < 1099511627776) (hx : ∀ e ∈ t,e.x < 256) (hl : n.rl.length < 1099511627776) (hb : xTF n.rl) {i : Nat} (hi : i < t.length) {G : Heap} {st st1 st2 : List Nat} {l r : Nat} (hI : Inv n E G st)
  (hs : st.length + i < t.length) (hL : l < 18446744073709551616) (hR : r < 18446744073709551616) (p1 : Pop E (t.getD i f0).l st l st1) (p2 : Pop E (t.getD i f0).r st1 r st2) :
  ∃ G',LN z t (i + 1) G = LN z t i G' ∧ Inv n E G' (st2 ++ [toM l r (t.getD i f0).x 0 n.rl]) := by
 have hm := hx _ (xNr hi)
 have l1 : st1.length ≤ st.length := by
  rcases p1 with ⟨_,_,h⟩ | ⟨_,h⟩
  ·rw [h]; omega
  ·rw [h]; simp
 have l2 : st2.length ≤ st1.length := by
  rcases p2 with ⟨_,_,h⟩ | ⟨_,h⟩
  ·rw [h]; omega
  ·rw [h]; simp
 obtain ⟨Ga,a1,a2,a3⟩ := xX6 (hI.app [.cells false false (xTD (t.getD i f0))]) p1 (by omega)
 obtain ⟨Gb,b1,b2,b3⟩ := xX6 a2 p2 (by omega)
 have lenG : 2 < G.length := by
  obtain ⟨v,h,_⟩ := hI.own
  exact (List.getElem?_eq_some_iff.1 h).1
 have lf0 : (G ++ [.cells false false (xTD (t.getD i f0))])[G.length]? = some (Blk.cells false false (xTD (t.getD i f0))) := by simp
 have lfa : Ga[G.length]? = some (Blk.cells false false (xTD (t.getD i f0))) := by rw [a3 _ lenG]; exact lf0
 have lfb : Gb[G.length]? = some (Blk.cells false false (xTD (t.getD i f0))) := by rw [b3 _ lenG]; exact lfa
 obtain ⟨X,hloop⟩ := xOn (s1 := tw z t) (s2 := .ptr 0 0) (s5 := .ptr 1 0) (s6 := .ptr 2 0) (s7 := .int .i64 (i : Nat)) (s8 := .func 82 [.ptr 1 0,.ptr 2 0]) (z := n.z3) hl hb hL hR hm n.rl.length 0 0 Gb (by omega) (by omega) lfb
 have hd := b2.app X
 have hg0 := b2.g0
 simp only [Int.natCast_zero,List.drop_zero] at hloop
 generalize Gb ++ X = Gd at *
 generalize hv : toM l r (t.getD i f0).x 0 n.rl = to at *
 obtain ⟨v,d2,dO⟩ := hd.own
 have len2 := (List.getElem?_eq_some_iff.1 d2).1
 have fin : ∃ G',(∀ H0,H0 = Gd → True) ∧ Inv n E G' (st2 ++ [to]) ∧ ((v = .sl true 0 [] ∧ G' = (Gd ++ [Blk.cells false false [.int .u64 (to : Nat)]]).set 2 (.cells false false [.own false Gd.length 0 1 1])) ∨
   ∃ k r',2 < k ∧ v = .own false k 0 st2.length 1 ∧ Gd[k]? = some (.cells false false (w64 (st2 ++ r'))) ∧ G' = (Gd.set k Blk.dead ++ [Blk.cells false false (w64 (st2 ++ [to]))]).set 2 (.cells false false [.own false Gd.length 0 (st2.length + 1) 1])) := by
  rcases dO with ⟨rfl,rfl⟩ | ⟨k,r',k2,rfl,hk⟩
  ·refine ⟨_,fun _ _ => trivial,⟨?_,?_,.own false Gd.length 0 1 1,?_,.inr ⟨Gd.length,[],len2,rfl,?_⟩⟩,.inl ⟨rfl,rfl⟩⟩
   ·rw [List.getElem?_set_ne (by omega)]; exact xAu hd.g0
   ·rw [List.getElem?_set_ne (by omega)]; exact xAu hd.g1
   ·rw [List.getElem?_set_self (by simp; omega)]
   ·rw [List.getElem?_set_ne (by omega)]; simp [w64]
  ·refine ⟨_,fun _ _ => trivial,⟨?_,?_,.own false Gd.length 0 (st2.length + 1) 1,?_,.inr ⟨Gd.length,[],len2,by simp,?_⟩⟩,.inr ⟨k,r',k2,rfl,hk,rfl⟩⟩
   ·rw [List.getElem?_set_ne (by omega)]; exact xAu (by rw [List.getElem?_set_ne (by omega)]; exact hd.g0)
   ·rw [List.getElem?_set_ne (by omega)]; exact xAu (by rw [List.getElem?_set_ne (by omega)]; exact hd.g1)
   ·rw [List.getElem?_set_self (by simp; omega)]
   ·rw [List.getElem?_set_ne (by omega)]; simp
 obtain ⟨G',-,hI',hcase⟩ := fin
 refine ⟨G',?_,hI'⟩
 have hlt : (0 : Int) < ((i + 1 : Nat) : Int) := by omega
 have hi1 : ((i + 1 : Nat) : Int) - 1 = (i : Nat) := by omega
 have hn0 : i = 0 → LN z t i G' = some (.exit 0,⟨xPb (tw z t) (.ptr 0 0) (.ptr 1 0) (.ptr 2 0) (.int .i64 (i : Nat)) (.func 82 [.ptr 1 0,.ptr 2 0]),G'⟩) := by
  rintro rfl
  exact xX7 z t G'
 simp only [xTD] at a1 lf0 lfa lfb
 unfold LN
 rw [yBC]
 rcases hcase with ⟨rfl,e⟩ | ⟨k,r',k2,rfl,hk,e⟩
 ·have d3 := xAu (X := [Blk.cells false false [.int .u64 (to : Nat)]]) d2
  by_cases c : i = 0
  ·have c' : (((i : Nat) : Int) = 0) = True := eq_true (by omega)
   have hn0 := hn0 c
   unfold LN at hn0
   rw [e] at hn0 ⊢
   simp (maxSteps := 30000000) (disch := first | assumption | omega | (simp only [WL,AV.isCell,xAb,xAa] <;> omega) | rfl | decide) only [xN3,WB,hlt,↓reduceIte,hi1,xHy,AV.cells,AV.isCell,Nat.reduceAdd,lf0,a1,lfa,b1,hg0,xMh,hloop,d2,Nat.reduceBEq,d3,c',Nat.reduceEqDiff,xN4,hn0]
  ·have c' : (((i : Nat) : Int) = 0) = False := eq_false (by omega)
   rw [e]
   simp (maxSteps := 30000000) (disch := first | assumption | omega | (simp only [WL,AV.isCell,xAb,xAa] <;> omega) | rfl | decide) only [xN3,WB,hlt,↓reduceIte,hi1,xHy,AV.cells,AV.isCell,Nat.reduceAdd,lf0,a1,lfa,b1,hg0,xMh,hloop,d2,Nat.reduceBEq,d3,c',xN4]
 ·have htk : List.take st2.length (st2 ++ r') = st2 := by simp
  have hsn : w64 st2 ++ [AV.int .u64 (to : Nat)] = w64 (st2 ++ [to]) := xUQ ..
  have d3 := xAu (X := [Blk.cells false false (w64 (st2 ++ [to]))]) (show (Gd.set k Blk.dead)[2]? = _ from by rw [List.getElem?_set_ne (by omega)]; exact d2)
  by_cases c : i = 0
  ·have c' : (((i : Nat) : Int) = 0) = True := eq_true (by omega)
   have hn0 := hn0 c
   unfold LN at hn0
   rw [e] at hn0 ⊢
   simp (maxSteps := 30000000) (disch := first | assumption | omega | (simp only [WL,AV.isCell,xAb,xAa] <;> omega) | rfl | decide) only [xN3,WB,hlt,↓reduceIte,hi1,xHy,AV.cells,AV.isCell,Nat.reduceAdd,lf0,a1,lfa,b1,hg0,xMh,hloop,d2,hk,Nat.reduceBEq,xDy,htk,hsn,d3,c',Nat.reduceEqDiff,xN4,hn0]
  ·have c' : (((i : Nat) : Int) = 0) = False := eq_false (by omega)
   rw [e]
   simp (maxSteps := 30000000) (disch := first | assumption | omega | (simp only [WL,AV.isCell,xAb,xAa] <;> omega) | rfl | decide) only [xN3,WB,hlt,↓reduceIte,hi1,xHy,AV.cells,AV.isCell,Nat.reduceAdd,lf0,a1,lfa,b1,hg0,xMh,hloop,d2,hk,Nat.reduceBEq,xDy,htk,hsn,d3,c',xN4]
theorem Pop.len {E : Nat} {c : Int} {st st' : List Nat} {v : Nat} (h : Pop E c st v st') : st'.length ≤ st.length := by
 rcases h with ⟨_,_,h⟩ | ⟨_,h⟩
 ·rw [h]; omega
 ·rw [h]; simp
theorem yDv {z : Bool} {t : List Lf} {n : Aut} {E : Nat} (ht : t.length < 1099511627776) (hx : ∀ e ∈ t,e.x < 256) (hl : n.rl.length < 1099511627776) (hb : xTF n.rl) (hE : E < 18446744073709551616) {c : Int} {m k : Nat} {T : BT} (h : Sub t c m T k) :
  ∀ G st,Inv n E G st → st.length + k ≤ t.length → ∃ G' st',LN z t k G = LN z t m G' ∧ Inv n E G' st' ∧ st'.length + m ≤ t.length ∧ Pop E c st' (ev E n.rl T) st := by
 induction h with
 | none m => exact fun G st hI hs => ⟨G,st,rfl,hI,hs,.inl ⟨by omega,rfl,rfl⟩⟩
 | @some m k q l r hm hL hR ihl ihr =>
  intro G st hI hs
  obtain ⟨G1,st1,e1,i1,s1,p1⟩ := ihr G st hI hs
  obtain ⟨G2,st2,e2,i2,s2,p2⟩ := ihl G1 st1 i1 s1
  obtain ⟨G',e3,i3⟩ := xVP (z := z) ht hx hl hb hm i2 (by omega) (yDu hE hb l) (yDu hE hb r) p2 p1
  have a1 := p1.len
  have a2 := p2.len
  exact ⟨G',_,e1.trans (e2.trans e3),i3,by simp; omega,.inr ⟨by omega,rfl⟩⟩
theorem xX8 {z : Bool} {t : List Lf} {n : Aut} (ht : t.length < 1099511627776) (hx : ∀ e ∈ t,e.x < 256) (hl : n.rl.length < 1099511627776) (hb : xTF n.rl) (hn : n.st.length < 1099511627776) (hq : ∀ q ∈ n.st,0 ≤ q ∧ q < 64) {T : BT} (hF : Formed t T) :
  L.pcall 49 [n.av,tw z t] = some (.int .u64 (ev (xIT 0 n.st) n.rl T : Nat)) := by
 have hw := xQk n.z1 n.st hn hq
 have hE := xLw n.st 0 (by omega) hq
 generalize xIT 0 n.st = E at *
 have hI : Inv n E [.cells false false n.cells,.cells false false [.int .u64 (E : Nat)],.cells false false [.sl true 0 []]] [] := ⟨rfl,rfl,_,rfl,.inl ⟨rfl,rfl⟩⟩
 rcases hF with ⟨rfl,rfl⟩ | ⟨h31,hS⟩
 ·have h := xX7 z [] [.cells false false n.cells,.cells false false [.int .u64 (E : Nat)],.cells false false [.sl true 0 []]]
  unfold LN at h
  simp only [Int.natCast_zero,List.length_nil] at h
  rw [yGU,a49,xAd]
  simp (maxSteps := 30000000) (disch := first | assumption | omega | (simp only [WL,AV.isCell,xAb,xAa] <;> omega) | rfl | decide) only [WB,Nat.reduceAdd,Nat.reduceSub,AV.cells,AV.isCell,↓reduceIte,hw,xE0,xAJ,xN4,h]
  rfl
 ·obtain ⟨G',st',e1,i1,s1,p1⟩ := yDv (z := z) ht hx hl hb hE hS _ [] hI (by simp)
  rw [xX7] at e1
  unfold LN at e1
  rcases p1 with ⟨h,_⟩ | ⟨_,rfl⟩
  ·omega
  ·have hpos : ¬ t.length = 0 := by
    intro h0
    cases hS with
    | some hm _ _ => omega
   have hpos' : (((t.length : Nat) : Int) = 0) = False := eq_false (by omega)
   obtain ⟨v,d2,dO⟩ := i1.own
   rcases dO with ⟨_,h⟩ | ⟨k,r',k2,rfl,hk⟩
   ·simp at h
   ·simp only [List.nil_append,List.cons_append,List.length_cons,List.length_nil,Nat.zero_add] at d2 hk
    rw [yGU,a49,xAd]
    simp (maxSteps := 30000000) (disch := first | assumption | omega | (simp only [WL,AV.isCell,xAb,xAa] <;> omega) | rfl | decide) only [WB,Nat.reduceAdd,Nat.reduceSub,AV.cells,AV.isCell,↓reduceIte,hw,xE0,xAJ,xN4,e1,hpos',d2,hk,xDy,W2]
structure TyA (n : Aut) : Prop where
 st : n.st.length < 1099511627776
 fi : n.fi.length < 1099511627776
 rl : n.rl.length < 1099511627776
 u8 : ∀ e ∈ n.rl,e.p < 256 ∧ e.n < 256
structure Valid (n : Aut) : Prop where
 v0 : 0 ≤ n.vars
 v3 : n.vars ≤ 3
 s0 : 0 ≤ n.states
 s64 : n.states ≤ 64
 rl : n.rl.length ≤ 512
 st : xOo n.states (-1) n.st = true
 fi : xOo n.states (-1) n.fi = true
 ru : xJj n.states n.vars.toNat n.rl = 0
theorem chkE_zero {n : Aut} : xKJ n = 0 ↔ Valid n := by
 have g : ∀ l,xIP n.states l = 0 ↔ xOo n.states (-1) l = true := fun l => by unfold xIP; split <;> simp_all
 unfold xKJ
 constructor
 ·intro h
  split at h
  ·omega
  ·split at h
   ·omega
   ·split at h
    ·omega
    ·split at h
     ·rename_i c1 c2 c3 c4
      exact ⟨by omega,by omega,by omega,by omega,by omega,(g _).1 c4.1,(g _).1 c4.2,h⟩
     ·omega
 ·rintro ⟨v0,v3,s0,s64,rl,st,fi,ru⟩
  rw [if_neg (by omega),if_neg (by omega),if_neg (by omega),if_pos ⟨(g _).2 st,(g _).2 fi⟩,ru]
theorem xIM {s : Int} : ∀ {l : List Int} {last : Int},xOo s last l = true → ∀ q ∈ l,last < q ∧ q < s
 | [],_,_,q,h => by simp at h
 | a :: t,last,h,q,hq => by
  unfold xOo at h
  split at h
  ·cases h
  ·rcases List.mem_cons.1 hq with rfl | hq
   ·omega
   ·have := xIM h q hq
    omega
theorem xPC {s : Int} {v : Nat} : ∀ {l : List Rl},xJj s v l = 0 → ∀ e ∈ l,xNf s v e = 0
 | [],_,e,h => by simp at h
 | a :: t,h,e,he => by
  unfold xJj at h
  split at h
  ·rcases List.mem_cons.1 he with rfl | he
   ·assumption
   ·exact xPC h e he
  ·contradiction
theorem Valid.sts {n : Aut} (h : Valid n) : ∀ q ∈ n.st,0 ≤ q ∧ q < 64 := fun q hq => by
 have := xIM h.st q hq
 have := h.s64
 omega
theorem Valid.fis {n : Aut} (h : Valid n) : ∀ q ∈ n.fi,0 ≤ q ∧ q < 64 := fun q hq => by
 have := xIM h.fi q hq
 have := h.s64
 omega
theorem Valid.rule {n : Aut} (h : Valid n) : ∀ e ∈ n.rl,(0 ≤ e.l ∧ e.l < n.states) ∧ (0 ≤ e.r ∧ e.r < n.states) ∧ (0 ≤ e.t ∧ e.t < n.states) := fun e he => by
 have h1 := xPC h.ru e he
 unfold xNf at h1
 split at h1
 ·omega
 ·omega
theorem Valid.ok {n : Aut} (h : Valid n) (hT : TyA n) : xTF n.rl := fun e he => by
 have h1 := h.rule e he
 have h2 := h.s64
 have h3 := hT.u8 e he
 omega
theorem yE1 {a b : Nat} : a &&& b ≠ 0 ↔ ∃ j,a.testBit j = true ∧ b.testBit j = true := by
 constructor
 ·intro h
  obtain ⟨j,hj⟩ := Nat.exists_testBit_ne_of_ne h
  rw [Nat.zero_testBit,Nat.testBit_and] at hj
  exact ⟨j,by simpa using hj⟩
 ·rintro ⟨j,h1,h2⟩ h
  have : (a &&& b).testBit j = true := by rw [Nat.testBit_and,h1,h2]; rfl
  rw [h,Nat.zero_testBit] at this
  cases this
theorem xOl (l : List Rl) : (rls l).all xEb = true := by
 induction l with
 | nil => rfl
 | cons e l ih =>
  have : rls (e :: l) = xGI e ++ rls l := rfl
  rw [this,List.all_append,ih]; rfl
theorem xFt (d : Nat) (H : Heap) (l : List Rl) : (rls l).mapM (frz d H) = some (rls l) := by
 induction l with
 | nil => rfl
 | cons e l ih =>
  have : rls (e :: l) = .int .i64 e.l :: .int .i64 e.r :: .int .i64 e.t :: .int .u8 (e.p : Nat) :: .int .u8 (e.n : Nat) :: rls l := rfl
  rw [this]
  simp only [List.mapM_cons,xBQ,ih]
  rfl
theorem xHo (d : Nat) (H : Heap) (l : List Rl) : (rls l).flatMap (bor d H) = [] := by
 induction l with
 | nil => rfl
 | cons e l ih =>
  have : rls (e :: l) = .int .i64 e.l :: .int .i64 e.r :: .int .i64 e.t :: .int .u8 (e.p : Nat) :: .int .u8 (e.n : Nat) :: rls l := rfl
  rw [this]
  simp only [List.flatMap_cons,xCK,ih]
  rfl
theorem xHD (d : Nat) (H : Heap) (l : List Lf) : (lfs l).mapM (frz d H) = some (lfs l) := by
 induction l with
 | nil => rfl
 | cons e l ih =>
  have : lfs (e :: l) = .int .u8 (e.x : Nat) :: .int .i64 e.l :: .int .i64 e.r :: lfs l := rfl
  rw [this]
  simp only [List.mapM_cons,xBQ,ih]
  rfl
theorem xHQ (d : Nat) (H : Heap) (l : List Lf) : (lfs l).flatMap (bor d H) = [] := by
 induction l with
 | nil => rfl
 | cons e l ih =>
  have : lfs (e :: l) = .int .u8 (e.x : Nat) :: .int .i64 e.l :: .int .i64 e.r :: lfs l := rfl
  rw [this]
  simp only [List.flatMap_cons,xCK,ih]
  rfl
theorem xNp {α : Type} (k : Nat) (l : List α) : List.take (l.take k).length l = l.take k := by
 rw [List.length_take]
 rcases Nat.le_total k l.length with h | h
 ·rw [Nat.min_eq_left h]
 ·rw [Nat.min_eq_right h,List.take_of_length_le h,List.take_of_length_le (Nat.le_refl _)]
theorem yB0 (z : Bool) (l : List Int) (hl : l.length < 1099511627776) : L.pcall 69 [iw z l] = some (iw (l.length == 0) l) := by
 rw [yIc,a69,xAd]
 simp (maxSteps := 30000000) (disch := first | assumption | omega | (simp only [WL,AV.isCell,xAb,xAa] <;> omega) | rfl | decide) only [WB,Nat.reduceSub,xDT,W2]
theorem yE2 (z : Bool) (l : List Rl) (hl : l.length < 1099511627776) : L.pcall 70 [.sl z l.length (rls l)] = some (.sl (l.length == 0) l.length (rls l)) := by
 have htk : List.take (l.length * 5) (rls l) = rls l := List.take_of_length_le (by rw [xAa]; omega)
 rw [yIe,a70,xAd]
 simp (maxSteps := 30000000) (disch := first | assumption | omega | (simp only [WL,AV.isCell,xAb,xAa] <;> omega) | rfl | decide) only [WB,Nat.reduceSub,xDT,htk,xFt]
theorem xX9 (z : Bool) (l : List Rl) (hl : l.length < 1099511627776) : xCG L 70 [.sl z l.length (rls l)] = some (.own (l.length == 0) 0 0 l.length 5,[.cells false (l.length == 0) (rls l)]) := by
 have htk : List.take (l.length * 5) (rls l) = rls l := List.take_of_length_le (by rw [xAa]; omega)
 rw [xBI,yIf,a70,xAp]
 simp (maxSteps := 30000000) (disch := first | assumption | omega | (simp only [WL,AV.isCell,xAb,xAa] <;> omega) | rfl | decide) only [WB,Nat.reduceSub,WP,xOl,↓reduceIte]
theorem xQi (z : Bool) (l : List Int) (hl : l.length < 1099511627776) : xCG L 69 [iw z l] = some (.own (l.length == 0) 0 0 l.length 1,[.cells false (l.length == 0) (xD8 l)]) := by
 have htk : List.take l.length l = l := List.take_length
 rw [xBI,yId,a69,xAp]
 simp (maxSteps := 30000000) (disch := first | assumption | omega | (simp only [WL,AV.isCell,xAb,xAa] <;> omega) | rfl | decide) only [WB,Nat.reduceSub,WP,↓reduceIte]
abbrev cpA (n : Aut) : Aut := ⟨n.vars,n.states,n.st.length == 0,n.st,n.fi.length == 0,n.fi,n.rl.length == 0,n.rl⟩
theorem yE3 (n : Aut) (h1 : n.st.length < 1099511627776) (h2 : n.fi.length < 1099511627776) (h3 : n.rl.length < 1099511627776) : L.pcall 33 [n.av] = some (cpA n).av := by
 have k1 := yB0 n.z1 n.st h1
 have k2 := yB0 n.z2 n.fi h2
 have k3 := yE2 n.z3 n.rl h3
 have k4 := xX9 n.z3 n.rl h3
 have htk : List.take (n.rl.length * 5) (rls n.rl) = rls n.rl := List.take_of_length_le (by rw [xAa]; omega)
 have k5 := xQi n.z1 n.st h1
 have k6 := xQi n.z2 n.fi h2
 have t1 : List.take n.st.length n.st = n.st := List.take_length
 have t2 : List.take n.fi.length n.fi = n.fi := List.take_length
 rw [yHX,a33,xAd]
 simp (maxSteps := 30000000) (disch := first | assumption | omega | (simp only [WL,AV.isCell,xAb,xAa] <;> omega) | rfl | decide) only [WB,Nat.reduceSub,AV.cells,AV.isCell,↓reduceIte,WP,xGO,xEb,k5,xCY,xD9,xCJ,xJ4,xJ3,xJD,xGK,k6,k4,xOl,Nat.reduceAdd,Nat.reduceLeDiff,xDT,W2,t1,t2,htk,xFt]
theorem yE4 (z : Bool) (l : List Lf) (hl : l.length < 1099511627776) : L.pcall 13 [tw z l] = some (tw (l.length == 0) l) := by
 have htk : List.take (l.length * 3) (lfs l) = lfs l := List.take_of_length_le (by rw [xAb]; omega)
 rw [yHQ,a13,xAd]
 simp (maxSteps := 30000000) (disch := first | assumption | omega | (simp only [WL,AV.isCell,xAb,xAa] <;> omega) | rfl | decide) only [WB,Nat.reduceSub,xDT,htk,xHD]
theorem xLL {l : List Int} {z z' : Bool} {s4 : AV} {H : Heap} (hl : l.length < 1099511627776) : ∀ d i,i + d = l.length →
  L.loop xR3 yAo ⟨xR4 (iw z l) (iw z' l) s4 (.int .i64 (i : Nat)),H⟩ = some (.exit 0,⟨xR4 (iw z l) (iw z' l) s4 (.int .i64 (l.length : Nat)),H⟩)
 | 0,i,h => by
  obtain rfl : i = l.length := by omega
  rw [yBJ]
  simp (maxSteps := 30000000) (disch := first | assumption | omega | (simp only [WL,AV.isCell,xAa] <;> omega) | rfl | decide) only [xUo,WB,↓reduceIte,xXu]
 | d + 1,i,h => by
  have hlt : (i : Int) < (l.length : Nat) := by omega
  have ih := xLL (z := z) (z' := z') (s4 := s4) (H := H) hl d (i + 1) (by omega)
  rw [yBJ]
  simp (maxSteps := 30000000) (disch := first | assumption | omega | (simp only [WL,AV.isCell,xAa] <;> omega) | rfl | decide) only [xUo,WB,hlt,↓reduceIte,W2,xAm,xXu,ih]
theorem xSx (z z' : Bool) (l : List Int) (hl : l.length < 1099511627776) : L.pcall 60 [iw z l,iw z' l] = some (.bool true) := by
 have ih := fun s4 => xLL (z := z) (z' := z') (s4 := s4) (H := []) hl l.length 0 (by omega)
 simp only [Int.natCast_zero] at ih
 rw [yIa,a60,xAd]
 simp (disch := omega) only [WB,Nat.reduceAdd,Nat.reduceSub,↓reduceIte,xXu,ih]
theorem xMr {l : List Rl} {z z' : Bool} {s4 : AV} {H : Heap} (hl : l.length < 1099511627776) : ∀ d i,i + d = l.length →
  L.loop xR5 yAp ⟨xR6 (.sl z l.length (rls l)) (.sl z' l.length (rls l)) s4 (.int .i64 (i : Nat)),H⟩ = some (.exit 0,⟨xR6 (.sl z l.length (rls l)) (.sl z' l.length (rls l)) s4 (.int .i64 (l.length : Nat)),H⟩)
 | 0,i,h => by
  obtain rfl : i = l.length := by omega
  rw [yBK]
  simp (maxSteps := 30000000) (disch := first | assumption | omega | (simp only [WL,AV.isCell,xAa] <;> omega) | rfl | decide) only [xUp,WB,↓reduceIte,xXv]
 | d + 1,i,h => by
  have hlt : (i : Int) < (l.length : Nat) := by omega
  have ih := xMr (z := z) (z' := z') (s4 := s4) (H := H) hl d (i + 1) (by omega)
  rw [yBK]
  simp (maxSteps := 30000000) (disch := first | assumption | omega | (simp only [WL,AV.isCell,xAa] <;> omega) | rfl | decide) only [xUp,WB,hlt,↓reduceIte,xCF,xAm,xHC,eq1,bne_self_eq_false,xXv,ih]
theorem yAG (z z' : Bool) (l : List Rl) (hl : l.length < 1099511627776) : L.pcall 61 [.sl z l.length (rls l),.sl z' l.length (rls l)] = some (.bool true) := by
 have ih := fun s4 => xMr (z := z) (z' := z') (s4 := s4) (H := []) hl l.length 0 (by omega)
 simp only [Int.natCast_zero] at ih
 rw [yIb,a61,xAd]
 simp (disch := omega) only [WB,Nat.reduceAdd,Nat.reduceSub,↓reduceIte,xXv,ih]
theorem xLv (n : Aut) (h1 : n.st.length < 1099511627776) (h2 : n.fi.length < 1099511627776) (h3 : n.rl.length < 1099511627776) (z1 z2 z3 : Bool) : L.pcall 25 [n.av,(Aut.mk n.vars n.states z1 n.st z2 n.fi z3 n.rl).av] = some (.bool true) := by
 have g1 := xSx n.z1 z1 n.st h1
 have g2 := xSx n.z2 z2 n.fi h2
 have g3 := yAG n.z3 z3 n.rl h3
 rw [yHU,a25,xAd]
 simp (maxSteps := 30000000) (disch := first | assumption | omega | (simp only [WL,AV.isCell,xAa] <;> omega) | rfl | decide) only [WB,Nat.reduceAdd,Nat.reduceSub,AV.cells,AV.isCell,↓reduceIte,g1,xE0,xAJ,g2,g3]
abbrev fwA (n : Aut) : Aut := ⟨n.vars,n.states,n.z1,n.st.take 70,n.z2,n.fi.take 70,n.z3,n.rl.take 520⟩
theorem xYa (n : Aut) : L.pcall 12 [n.av] = some (cpA (fwA n)).av := by
 have h := yE3 (fwA n) (by simp; omega) (by simp; omega) (by simp; omega)
 have e1 : min ((n.st.length : Nat) : Int) 70 = ((n.st.take 70).length : Nat) := by rw [List.length_take]; omega
 have e2 : min ((n.fi.length : Nat) : Int) 70 = ((n.fi.take 70).length : Nat) := by rw [List.length_take]; omega
 have e3 : min ((n.rl.length : Nat) : Int) 520 = ((n.rl.take 520).length : Nat) := by rw [List.length_take]; omega
 have t1 : List.take (n.st.take 70).length n.st = n.st.take 70 := xNp ..
 have t2 : List.take (n.fi.take 70).length n.fi = n.fi.take 70 := xNp ..
 have t3 : List.take ((n.rl.take 520).length * 5) (rls n.rl) = rls (n.rl.take 520) := by
  unfold rls
  rw [xMt (enc := xGI) (k := 5) (fun _ => rfl)]
  rw [xNp]
 have l1 : (n.st.take 70).length ≤ n.st.length := by rw [List.length_take]; omega
 have l2 : (n.fi.take 70).length ≤ n.fi.length := by rw [List.length_take]; omega
 have l3 : (n.rl.take 520).length ≤ n.rl.length := by rw [List.length_take]; omega
 have c1 : (n.st.take 70).length ≤ 70 := by rw [List.length_take]; omega
 have c2 : (n.fi.take 70).length ≤ 70 := by rw [List.length_take]; omega
 have c3 : (n.rl.take 520).length ≤ 520 := by rw [List.length_take]; omega
 dsimp only [fwA,cpA,Aut.av,Aut.cells,iw] at h ⊢
 generalize n.st.take 70 = st at *
 generalize n.fi.take 70 = fi at *
 generalize n.rl.take 520 = rl at *
 rw [yHP,a12,xAd]
 simp (maxSteps := 30000000) (disch := first | assumption | omega | (simp only [WL,AV.isCell,xAb,xAa] <;> omega) | rfl | decide) only [WB,Nat.reduceSub,AV.cells,AV.isCell,↓reduceIte,e1,W2,t1,Nat.reduceAdd,e2,t2,e3,Nat.reduceMul,t3,h,xE0,xAJ]
set_option maxHeartbeats 4000000 in
theorem xYb (z1 z2 : Bool) (a b : List Int) (ha : a.length < 1099511627776) (hb : b.length < 1099511627776) (h0 : 0 < a.length + b.length) :
  xCG L 67 [.sl false 2 [iw z1 a,iw z2 b]] = some (.own false 0 0 (a ++ b).length 1,[.cells false false (xD8 (a ++ b))]) := by
 have hn0 : (0 : Int) < ((a.length + b.length : Nat) : Int) := by omega
 have hz : (a.length + b.length == 0) = false := by rw [beq_eq_false_iff_ne]; omega
 have hl3 : (a ++ b).length = a.length + b.length := by simp
 have htk : List.take (a.length + b.length) (a ++ b) = a ++ b := List.take_of_length_le (by omega)
 rw [xBI,yGX,a67,xAp,hl3]
 simp (maxSteps := 30000000) (disch := first | assumption | omega | (simp only [WL,AV.isCell,xAb,xAa] <;> omega) | rfl | decide) only [WB,Nat.reduceSub,yBL,yBM,xUq,Int.reduceLT,↓reduceIte,Int.reduceAdd,yG3,a91,Nat.reduceAdd,hn0,hz,xDG,yBN,yBO,xUs,W2,WP]
theorem xYc (z1 z2 : Bool) : xCG L 67 [.sl false 2 [.sl z1 0 [],.sl z2 0 []]] = some (.own true 0 0 0 1,[.cells false true []]) := by
 rw [xBI,yGX,a67,xAp]
 simp (maxSteps := 30000000) (disch := first | assumption | omega | (simp only [WL,AV.isCell,xAb,xAa] <;> omega) | rfl | decide) only [WB,Nat.reduceSub,yBL,yBM,xUq,Int.reduceLT,↓reduceIte,Int.reduceAdd,yG3,a91,Nat.reduceAdd,yBN,yBO,xUs,WP]
set_option maxHeartbeats 4000000 in
theorem xYd (z1 z2 : Bool) (a b : List Rl) (ha : a.length < 1099511627776) (hb : b.length < 1099511627776) (h0 : 0 < a.length + b.length) :
  xCG L 68 [.sl false 2 [.sl z1 a.length (rls a),.sl z2 b.length (rls b)]] = some (.own false 0 0 (a ++ b).length 5,[.cells false false (rls (a ++ b))]) := by
 have ta : List.take (a.length * 5) (rls a) = rls a := List.take_of_length_le (by rw [xAa]; omega)
 have tb : List.take (b.length * 5) (rls b) = rls b := List.take_of_length_le (by rw [xAa]; omega)
 have hn0 : (0 : Int) < ((a.length + b.length : Nat) : Int) := by omega
 have hz : (a.length + b.length == 0) = false := by rw [beq_eq_false_iff_ne]; omega
 have hl3 : (a ++ b).length = a.length + b.length := by simp
 have app : rls a ++ rls b = rls (a ++ b) := xKA ..
 have htk : List.take ((a.length + b.length) * 5) (rls (a ++ b)) = rls (a ++ b) := List.take_of_length_le (by rw [xAa,hl3]; omega)
 rw [xBI,yGY,a68,xAp,hl3]
 simp (maxSteps := 30000000) (disch := first | assumption | omega | (simp only [WL,AV.isCell,xAb,xAa] <;> omega) | rfl | decide) only [WB,Nat.reduceSub,yBP,yBQ,xUu,Int.reduceLT,↓reduceIte,Int.reduceAdd,yG4,a92,Nat.reduceAdd,hn0,Nat.reduceMul,hz,yBR,yBS,xUw,ta,app,WP,xOl]
theorem xYe (z1 z2 : Bool) : xCG L 68 [.sl false 2 [.sl z1 0 [],.sl z2 0 []]] = some (.own true 0 0 0 5,[.cells false true []]) := by
 rw [xBI,yGY,a68,xAp]
 simp (maxSteps := 30000000) (disch := first | assumption | omega | (simp only [WL,AV.isCell,xAb,xAa] <;> omega) | rfl | decide) only [WB,Nat.reduceSub,yBP,yBQ,xUu,Int.reduceLT,↓reduceIte,Int.reduceAdd,yG4,a92,Nat.reduceAdd,yBR,yBS,xUw,Nat.reduceMul,WP]
theorem xKi {t : List Lf} {c : Int} {m n : Nat} {T : BT} (h : Sub t c m T n) : (c = -1 ∧ n = m ∧ T = .nil) ∨ (c = (m : Int) ∧ m < t.length) := by
 cases h with
 | none m => exact .inl ⟨rfl,rfl,rfl⟩
 | some hm _ _ => exact .inr ⟨rfl,hm⟩
theorem yE5 {z : Bool} {t : List Lf} (ht : t.length < 1099511627776) {c : Int} {m n : Nat} {T : BT} (h : Sub t c m T n) : 0 ≤ c → L.pcall 96 [tw z t,.int .i64 (m : Nat)] = some (.int .i64 (n : Nat)) := by
 induction h with
 | none m => intro h; omega
 | @some m k n l r hm hl hr ihl ihr =>
  intro _
  have first : LP z t [] (t.getD m f0).l (t.getD m f0).r (.int .i64 0) ((m + 1 : Nat) : Int) 0 = LP z t [] (t.getD m f0).l (t.getD m f0).r (.int .i64 0) ((k : Nat) : Int) 1 := by
   rcases xKi hl with ⟨e1,e2,_⟩ | ⟨e1,e2⟩
   ·subst e2
    exact yFY _ (.inl ⟨rfl,rfl⟩) e1
   ·exact yFZ (m + 1) k (.inl ⟨rfl,rfl⟩) e1 e2 (ihl (by omega))
  have second : LP z t [] (t.getD m f0).l (t.getD m f0).r (.int .i64 0) ((k : Nat) : Int) 1 = LP z t [] (t.getD m f0).l (t.getD m f0).r (.int .i64 0) ((n : Nat) : Int) 2 := by
   rcases xKi hr with ⟨e1,e2,_⟩ | ⟨e1,e2⟩
   ·subst e2
    exact yFY _ (.inr ⟨rfl,rfl⟩) e1
   ·exact yFZ k n (.inr ⟨rfl,rfl⟩) e1 e2 (ihr (by omega))
  exact xQj ht hm (by rw [first,second]; exact yGz _)
open Classical in
noncomputable def xJh (t : List Lf) : Bool := decide (∃ T,Formed t T)
open Classical in
theorem formedB_iff {t : List Lf} : xJh t = true ↔ ∃ T,Formed t T := by unfold xJh; rw [decide_eq_true_eq]
theorem xVQ (z : Bool) {t : List Lf} {T : BT} (ht : t.length < 1099511627776) (h : Formed t T) : L.pcall 75 [tw z t] = some (.bool true) := by
 have e : (((t.length : Nat) : Int) ≤ 31) = (t.length ≤ 31) := propext ⟨fun h => by omega,fun h => by omega⟩
 rcases h with ⟨rfl,rfl⟩ | ⟨h31,hS⟩
 ·have h0' : (((([] : List Lf).length : Nat) : Int) = 0) = True := eq_true (by simp)
  rw [yDe,a75,xAd]
  simp (disch := omega) only [WB,Nat.reduceSub,↓reduceIte]
 ·have q := yE5 (z := z) ht hS (by omega)
  have hpos : ¬ t.length = 0 := by
   intro h0
   rcases xKi hS with ⟨h,_⟩ | ⟨_,h⟩ <;> omega
  have h0' : (((t.length : Nat) : Int) = 0) = False := eq_false (by omega)
  have h2 : (((t.length : Nat) : Int) = (t.length : Nat)) = True := eq_true rfl
  simp only [Int.natCast_zero] at q
  rw [yDe,a75,xAd]
  simp (disch := omega) only [WB,Nat.reduceSub,h0',↓reduceIte,e,h31,q,xE0,xAJ]
theorem xYf (z : Bool) (t : List Lf) (ht : t.length < 1099511627776) : L.pcall 75 [tw z t] = some (.bool (xJh t)) := by
 cases h : xJh t with
 | true =>
  obtain ⟨T,hT⟩ := formedB_iff.1 h
  exact xVQ z ht hT
 | false =>
  rcases xYi z t ht with q | ⟨_,q⟩
  ·exact q
  ·rw [formedB_iff.2 q] at h; cases h
def xVR (t : List Lf) (v : Nat) : Bool := t.all fun e => decide (e.x >>> v = 0)
theorem labOk_iff {t : List Lf} {v : Nat} : xVR t v = true ↔ ∀ e ∈ t,e.x >>> v = 0 := by simp [xVR]
noncomputable def xSy (t : List Lf) (v : Nat) : Int := if 31 < t.length then 4 else if xVR t v = true then (if xJh t = true then 0 else 2) else 1
theorem xYg (z : Bool) (t : List Lf) (v : Nat) (hv : v ≤ 3) (hl : t.length < 1099511627776) (hx : ∀ e ∈ t,e.x < 256) :
  L.pcall 81 [tw z t,.int .i64 (v : Nat)] = some (.int .i64 (xSy t v)) := by
 have hv3 : ¬ ((3 : Int) < (v : Nat)) := by omega
 have e31 : ((31 : Int) < (t.length : Nat)) = (31 < t.length) := propext ⟨fun h => by omega,fun h => by omega⟩
 have q := xYf z t hl
 unfold xSy
 by_cases c : 31 < t.length
 ·rw [if_pos c,yFU,a81,xAd]
  simp (disch := omega) only [WB,Nat.reduceAdd,Nat.reduceSub,↓reduceIte,hv3,e31,c]
 ·rw [if_neg c]
  obtain ⟨H',i',g⟩ := xUN (z := z) (s4 := .int .i64 0) hv hl hx t.length 0 [] (by omega)
  simp only [Int.natCast_zero,List.drop_zero] at g
  rcases g with ⟨g1,g⟩ | ⟨g1,g⟩
  ·rw [if_pos (labOk_iff.2 g1)]
   cases hf : xJh t with
   | false =>
    rw [hf] at q
    rw [if_neg (by simp),yFU,a81,xAd]
    simp (disch := omega) only [WB,Nat.reduceAdd,Nat.reduceSub,↓reduceIte,hv3,e31,c,xOb,g,q,xE0,xAJ]
   | true =>
    rw [hf] at q
    rw [if_pos rfl,yFU,a81,xAd]
    simp (disch := omega) only [WB,Nat.reduceAdd,Nat.reduceSub,↓reduceIte,hv3,e31,c,xOb,g,q,xE0,xAJ]
  ·rw [if_neg (fun h => g1 (labOk_iff.1 h)),yFU,a81,xAd]
   simp (disch := omega) only [WB,Nat.reduceAdd,Nat.reduceSub,↓reduceIte,hv3,e31,c,xOb,g]
noncomputable def xMU (n : Aut) (t : List Lf) : Int := if xKJ n = 0 then xSy t n.vars.toNat else xKJ n
theorem bothE_zero {n : Aut} {t : List Lf} : xMU n t = 0 ↔ Valid n ∧ t.length ≤ 31 ∧ (∀ e ∈ t,e.x >>> n.vars.toNat = 0) ∧ ∃ T,Formed t T := by
 unfold xMU xSy
 rw [← chkE_zero,← labOk_iff,← formedB_iff]
 by_cases c : xKJ n = 0
 ·rw [if_pos c]
  by_cases c1 : 31 < t.length
  ·rw [if_pos c1]
   exact ⟨fun h => by omega,fun h => by omega⟩
  ·rw [if_neg c1]
   cases xVR t n.vars.toNat <;> cases xJh t <;> simp [c] <;> omega
 ·rw [if_neg c]
  exact ⟨fun h => (c h).elim,fun h => (c h.1).elim⟩
theorem yDw (n : Aut) (z : Bool) (t : List Lf) (hT : TyA n) (ht : t.length < 1099511627776) (hx : ∀ e ∈ t,e.x < 256) :
  L.pcall 47 [n.av,tw z t] = some (.int .i64 (xMU n t)) := by
 have h1 := xJp n hT.st hT.fi hT.rl hT.u8
 unfold xMU
 by_cases c : xKJ n = 0
 ·have hV := chkE_zero.1 c
  obtain ⟨v,hv⟩ : ∃ v : Nat,n.vars = (v : Nat) := ⟨n.vars.toNat,by have := hV.v0; omega⟩
  have htv : n.vars.toNat = v := by omega
  have h2 := xYg z t v (by have := hV.v3; omega) ht hx
  rw [c] at h1
  rw [if_pos c,htv,yGS,a47,xAd]
  rw [← hv] at h2
  simp (maxSteps := 30000000) (disch := first | assumption | omega | (simp only [WL,AV.isCell,xAb,xAa] <;> omega) | rfl | decide) only [WB,Nat.reduceAdd,Nat.reduceSub,AV.cells,AV.isCell,↓reduceIte,h1,xE0,xAJ,h2]
 ·rw [if_neg c,yGS,a47,xAd]
  simp (maxSteps := 30000000) (disch := first | assumption | omega | (simp only [WL,AV.isCell,xAb,xAa] <;> omega) | rfl | decide) only [WB,Nat.reduceAdd,Nat.reduceSub,AV.cells,AV.isCell,↓reduceIte,h1,xE0,xAJ,c]
end Go.Abs.Tree
