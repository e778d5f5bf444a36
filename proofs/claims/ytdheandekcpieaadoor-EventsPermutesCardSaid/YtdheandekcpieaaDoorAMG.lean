/- What a formula means at a time; a monitor answers it. -/
import Derived.Test.YtdheandekcpieaaDoorAME
import Derived.Test.YtdheandekcpieaaDoorAMF
import Derived.Test.YtdheandekcpieaaDoorAbsBun
import Derived.Test.YtdheandekcpieaaDoorAMD
namespace Go.Abs.Events
open Go Go.Abs
set_option linter.unusedSimpArgs false
set_option linter.unusedVariables false
def evF (n : Nd) (e : Ev) (A B was : Q) : Q :=
 if n.op = 1 then fun _ => true
 else if n.op = 2 then (if n.name = e.name ∧ n.args.length = e.args.length then fun j => mat j n.args e.args else fQ)
 else if n.op = 3 then fun j => tvs (n.args.getD 0 0) j == tvs (n.args.getD 1 0) j
 else if n.op = 4 then fun j => !A j
 else if n.op = 5 then fun j => A j && B j
 else if n.op = 6 then fun j => A j || B j
 else if n.op = 7 then exQ n.x.toNat A
 else if n.op = 8 then was
 else if n.op = 9 then fun j => B j || (A j && was j)
 else fun j => A j || was j
theorem yBP (n : Nd) (e : Ev) (qs : List Q) (was : Q) : evN n e qs was = evF n e (qs.getD n.a.toNat fQ) (qs.getD n.b.toNat fQ) was := rfl
def xO4 (n : Nd) (E : List Ev) (A B : Nat → Q) : Nat → Q
 | 0 => fQ
 | t + 1 => if n.op = 8 then A t else evF n (E.getD t ev0) (A t) (B t) (xO4 n E A B t)
def sem (fs : List Nd) (E : List Ev) : Nat → Nat → Nat → Q
 | 0,_,_ => fQ
 | k + 1,i,t => evF (fs.getD i nd0) (E.getD t ev0) (sem fs E k (fs.getD i nd0).a.toNat t) (sem fs E k (fs.getD i nd0).b.toNat t) (xO4 (fs.getD i nd0) E (sem fs E k (fs.getD i nd0).a.toNat) (sem fs E k (fs.getD i nd0).b.toNat) t)
section
variable {n : Nd} {e : Ev} {A B w : Q}
theorem yCC (h : n.op = 1) : evF n e A B w = fun _ => true := by unfold evF; simp only [h,Nat.reduceEqDiff,if_true,if_false]
theorem yCD (h : n.op = 2) : evF n e A B w = (if n.name = e.name ∧ n.args.length = e.args.length then fun j => mat j n.args e.args else fQ) := by unfold evF; simp only [h,Nat.reduceEqDiff,if_true,if_false]
theorem yCE (h : n.op = 3) : evF n e A B w = fun j => tvs (n.args.getD 0 0) j == tvs (n.args.getD 1 0) j := by unfold evF; simp only [h,Nat.reduceEqDiff,if_true,if_false]
theorem yCF (h : n.op = 4) : evF n e A B w = fun j => !A j := by unfold evF; simp only [h,Nat.reduceEqDiff,if_true,if_false]
theorem yCG (h : n.op = 5) : evF n e A B w = fun j => A j && B j := by unfold evF; simp only [h,Nat.reduceEqDiff,if_true,if_false]
theorem yCH (h : n.op = 6) : evF n e A B w = fun j => A j || B j := by unfold evF; simp only [h,Nat.reduceEqDiff,if_true,if_false]
theorem yCI (h : n.op = 7) : evF n e A B w = exQ n.x.toNat A := by unfold evF; simp only [h,Nat.reduceEqDiff,if_true,if_false]
theorem yCJ (h : n.op = 8) : evF n e A B w = w := by unfold evF; simp only [h,Nat.reduceEqDiff,if_true,if_false]
theorem yCK (h : n.op = 9) : evF n e A B w = fun j => B j || (A j && w j) := by unfold evF; simp only [h,Nat.reduceEqDiff,if_true,if_false]
theorem xZL (h : n.op = 10) : evF n e A B w = fun j => A j || w j := by unfold evF; simp only [h,Nat.reduceEqDiff,if_true,if_false]
end
theorem xU1 {n : Nd} {e : Ev} {A A' B B' w w' : Q} (ho : 1 ≤ n.op ∧ n.op ≤ 10) (ha : 1 ≤ chn n.op → A = A') (hb : chn n.op = 2 → B = B') (hw : tmp n.op = true → w = w') : evF n e A B w = evF n e A' B' w' := by
 have : n.op = 1 ∨ n.op = 2 ∨ n.op = 3 ∨ n.op = 4 ∨ n.op = 5 ∨ n.op = 6 ∨ n.op = 7 ∨ n.op = 8 ∨ n.op = 9 ∨ n.op = 10 := by omega
 unfold evF
 rcases this with h | h | h | h | h | h | h | h | h | h <;> rw [h] at ha hb hw ⊢ <;> simp [chn,tmp] at ha hb hw ⊢ <;> simp [*]
theorem xS3 {n : Nd} {E : List Ev} {A A' B B' : Nat → Q} (ho : 1 ≤ n.op ∧ n.op ≤ 10) (ha : 1 ≤ chn n.op → A = A') (hb : chn n.op = 2 → B = B') (ht : tmp n.op = true) : ∀ t,xO4 n E A B t = xO4 n E A' B' t
 | 0 => rfl
 | t + 1 => by
  have hc : 1 ≤ chn n.op := by
   unfold tmp at ht
   simp at ht
   rcases ht with (h | h) | h <;> rw [h] <;> decide
  rw [xO4,xO4]
  have h1 := ha hc
  have ih := xS3 (E := E) ho ha hb ht t
  subst h1
  rw [xU1 ho (fun _ => rfl) (fun h => congrFun (hb h) t) (fun _ => ih)]
section
variable {fs : List Nd} {E : List Ev}
theorem xGu (hV : ∀ j,j < fs.length → Vn j (fs.getD j nd0)) : ∀ (k i m : Nat),i < k → i < m → i < fs.length → sem fs E k i = sem fs E m i
 | 0,_,_,h,_,_ => absurd h (by omega)
 | k + 1,i,0,_,h,_ => absurd h (by omega)
 | k + 1,i,m + 1,h1,h2,hi => by
  have hv := hV i hi
  have ha : 1 ≤ chn (fs.getD i nd0).op → sem fs E k (fs.getD i nd0).a.toNat = sem fs E m (fs.getD i nd0).a.toNat := fun h => by
   have := hv.ca h
   exact xGu hV k _ m (by omega) (by omega) (by omega)
  have hb : chn (fs.getD i nd0).op = 2 → sem fs E k (fs.getD i nd0).b.toNat = sem fs E m (fs.getD i nd0).b.toNat := fun h => by
   have := hv.cb h
   exact xGu hV k _ m (by omega) (by omega) (by omega)
  funext t
  rw [sem,sem]
  exact xU1 hv.op (fun h => congrFun (ha h) t) (fun h => congrFun (hb h) t) (fun h => xS3 hv.op ha hb h t)
def S (fs : List Nd) (E : List Ev) (i t : Nat) : Q := sem fs E (i + 1) i t
def W (fs : List Nd) (E : List Ev) (i t : Nat) : Q := xO4 (fs.getD i nd0) E (S fs E (fs.getD i nd0).a.toNat) (S fs E (fs.getD i nd0).b.toNat) t
theorem xO5 {f : Nat → Q} {i a : Nat} (h : a < i) : ((List.range i).map f).getD a fQ = f a := by
 rw [List.getD_eq_getElem?_getD,List.getElem?_map,List.getElem?_range h]; rfl
theorem yCL (hV : ∀ j,j < fs.length → Vn j (fs.getD j nd0)) {i : Nat} (hi : i < fs.length) (t : Nat) : S fs E i t = evF (fs.getD i nd0) (E.getD t ev0) (S fs E (fs.getD i nd0).a.toNat t) (S fs E (fs.getD i nd0).b.toNat t) (W fs E i t) := by
 have hv := hV i hi
 have ha : 1 ≤ chn (fs.getD i nd0).op → sem fs E i (fs.getD i nd0).a.toNat = S fs E (fs.getD i nd0).a.toNat := fun h => by
  have := hv.ca h
  exact xGu hV _ _ _ (by omega) (by omega) (by omega)
 have hb : chn (fs.getD i nd0).op = 2 → sem fs E i (fs.getD i nd0).b.toNat = S fs E (fs.getD i nd0).b.toNat := fun h => by
  have := hv.cb h
  exact xGu hV _ _ _ (by omega) (by omega) (by omega)
 show sem fs E (i + 1) i t = _
 rw [sem]
 exact xU1 hv.op (fun h => congrFun (ha h) t) (fun h => congrFun (hb h) t) (fun h => xS3 hv.op ha hb h t)
theorem S_N (hV : ∀ j,j < fs.length → Vn j (fs.getD j nd0)) {i : Nat} (hi : i < fs.length) (t : Nat) (w : Q) (hw : tmp (fs.getD i nd0).op = true → w = W fs E i t) : evN (fs.getD i nd0) (E.getD t ev0) ((List.range i).map fun a => S fs E a t) w = S fs E i t := by
 have hv := hV i hi
 rw [yCL hV hi,yBP]
 refine xU1 hv.op (fun h => ?_) (fun h => ?_) hw
 ·have := hv.ca h
  exact xO5 (by omega)
 ·have := hv.cb h
  exact xO5 (by omega)
def tlR : List Nd → Nat → List Nat
 | [],_ => []
 | n :: r,p => if tmp n.op = true then p :: tlR r (p + 1) else tlR r (p + 1)
theorem xS4 : ∀ (l : List Nd) (p : Nat),(tlR l p).length = nT l
 | [],_ => rfl
 | n :: r,p => by
  have ih := xS4 r (p + 1)
  unfold nT at ih ⊢
  rw [tlR,List.filter_cons]
  split <;> simp [ih]
theorem xMm {α : Type} {l r : List α} {p : Nat} {n d : α} (h : l.drop p = n :: r) : l.getD p d = n ∧ p < l.length ∧ l.drop (p + 1) = r := by
 have hp : p < l.length := by
  by_cases c : p < l.length
  ·exact c
  ·rw [List.drop_eq_nil_of_le (by omega)] at h; cases h
 rw [List.drop_eq_getElem_cons hp] at h
 have h1 := (List.cons.inj h).1
 have h2 := (List.cons.inj h).2
 exact ⟨by rw [List.getD_eq_getElem?_getD,List.getElem?_eq_getElem hp]; exact h1,hp,h2⟩
theorem xMn (hV : ∀ j,j < fs.length → Vn j (fs.getD j nd0)) (t : Nat) : ∀ (rest : List Nd) (p : Nat),fs.drop p = rest → p ≤ fs.length →
  xEx (E.getD t ev0) rest ((List.range p).map fun a => S fs E a t) ((tlR rest p).map fun i => W fs E i t) = ((List.range fs.length).map fun a => S fs E a t,(tlR rest p).map fun i => W fs E i (t + 1))
 | [],p,h,hp => by
  have : fs.length ≤ p := by
   by_cases c : fs.length ≤ p
   ·exact c
   ·rw [List.drop_eq_getElem_cons (by omega)] at h; cases h
  rw [show p = fs.length by omega]; rfl
 | n :: r,p,h,hp => by
  obtain ⟨h1,h2,h3⟩ := xMm (d := nd0) h
  have ih := xMn hV t r (p + 1) h3 (by omega)
  rw [List.range_succ,List.map_append] at ih
  rw [xEx]
  by_cases c : tmp n.op = true
  ·rw [if_pos c,tlR,if_pos c]
   have hq := S_N (E := E) hV h2 t (W fs E p t) (fun _ => rfl)
   rw [h1] at hq
   show (_,_ :: _) = _
   rw [List.map_cons,List.headD_cons,List.tail_cons,hq]
   have ih' : xEx (E.getD t ev0) r ((List.range p).map (fun a => S fs E a t) ++ [S fs E p t]) ((tlR r (p + 1)).map fun i => W fs E i t) = _ := ih
   rw [ih',List.map_cons]
   have hk : xEw n ((List.range p).map fun a => S fs E a t) (S fs E p t) = W fs E p (t + 1) := by
    have hv := hV p h2
    unfold xEw W
    rw [h1] at hv ⊢
    rw [xO4]
    by_cases c8 : n.op = 8
    ·rw [if_pos c8,if_pos c8,xO5]
     have := hv.ca (by rw [c8]; decide)
     omega
    ·rw [if_neg c8,if_neg c8,yCL hV h2,h1]
     unfold W
     rw [h1]
   rw [hk]
  ·rw [if_neg c,tlR,if_neg c]
   have hq := S_N (E := E) hV h2 t fQ (fun h => by rw [h1] at h; exact absurd h c)
   rw [h1] at hq
   rw [hq]
   exact ih
theorem xWd (hV : ∀ j,j < fs.length → Vn j (fs.getD j nd0)) (h0 : 0 < fs.length) : ∀ (es : List Ev) (t : Nat),E.drop t = es →
  vQL fs es ((tlR fs 0).map fun i => W fs E i t) = (List.range' t es.length).map fun t => S fs E (fs.length - 1) t 0
 | [],_,_ => rfl
 | e :: es,t,h => by
  obtain ⟨h1,h2,h3⟩ := xMm (d := ev0) h
  have hs := xMn (E := E) hV t fs 0 rfl (by omega)
  rw [h1] at hs
  have hs' : xEx e fs [] ((tlR fs 0).map fun i => W fs E i t) = _ := hs
  rw [vQL,hs',List.length_cons,List.range'_succ,List.map_cons]
  show _ :: vQL fs es ((tlR fs 0).map fun i => W fs E i (t + 1)) = _
  rw [xWd hV h0 es (t + 1) h3,xO5 (by omega)]
theorem xXB (hV : ∀ j,j < fs.length → Vn j (fs.getD j nd0)) (h0 : 0 < fs.length) (E : List Ev) : vQL fs E (List.replicate (nT fs) fQ) = (List.range E.length).map fun t => S fs E (fs.length - 1) t 0 := by
 have h := xWd (E := E) hV h0 E 0 rfl
 have hz : ((tlR fs 0).map fun i => W fs E i 0) = List.replicate (nT fs) fQ := by
  rw [← xS4 fs 0]
  exact List.map_const' (l := tlR fs 0) (b := fQ)
 rw [hz] at h
 rw [h,List.range_eq_range']
theorem xWe (hV : ∀ j,j < fs.length → Vn j (fs.getD j nd0)) (h0 : 0 < fs.length) (E : List Ev) : vL fs E (zr (nT fs)) = (List.range E.length).map fun t => S fs E (fs.length - 1) t 0 := by
 rw [yAV,yAU,xXB hV h0]
end
def agr (bd j j' : Nat) : Prop := ∀ x,8 ≤ x → x ≤ 10 → bd.testBit (x - 8) = true → dg x j = dg x j'
def dep (bd : Nat) (q : Q) : Prop := ∀ j j',j < 512 → j' < 512 → agr bd j j' → q j = q j'
theorem xE8 {x a v : Nat} (hx : x = 8 ∨ x = 9 ∨ x = 10) (ha : a < 512) (hv : v < 8) : dg x (wth x a v) = v := by
 unfold wth dg
 rcases hx with rfl | rfl | rfl <;> simp <;> omega
theorem xE9 {x y a v : Nat} (hx : x = 8 ∨ x = 9 ∨ x = 10) (hy : y = 8 ∨ y = 9 ∨ y = 10) (hne : y ≠ x) (ha : a < 512) (hv : v < 8) : dg y (wth x a v) = dg y a := by
 unfold wth dg
 rcases hx with rfl | rfl | rfl <;> rcases hy with rfl | rfl | rfl <;> simp at hne ⊢ <;> omega
theorem xS5 {bd x j j' v : Nat} (hx : x = 8 ∨ x = 9 ∨ x = 10) (hj : j < 512) (hj' : j' < 512) (hv : v < 8) (h : agr bd j j') : agr (bd ||| 2 ^ (x - 8)) (wth x j v) (wth x j' v) := by
 intro y h8 h10 hb
 by_cases c : y = x
 ·rw [c,xE8 hx hj hv,xE8 hx hj' hv]
 ·rw [xE9 hx (by omega) c hj hv,xE9 hx (by omega) c hj' hv]
  refine h y h8 h10 ?_
  rw [Nat.testBit_or,Nat.testBit_two_pow] at hb
  have : ¬ x - 8 = y - 8 := by omega
  simpa [this] using hb
theorem xZM {bd x : Nat} {q : Q} (hx : x = 8 ∨ x = 9 ∨ x = 10) (h : dep (bd ||| 2 ^ (x - 8)) q) : dep bd (exQ x q) := by
 intro j j' hj hj' ha
 rw [← xPv hx q hj,← xPv hx q hj']
 unfold avQ
 rw [Bool.eq_iff_iff,List.any_eq_true,List.any_eq_true]
 constructor
 ·rintro ⟨v,hv,hq⟩
  have hv8 := List.mem_range.1 hv
  exact ⟨v,hv,by rw [← h _ _ (xEf hj hv8) (xEf hj' hv8) (xS5 hx hj hj' hv8 ha)]; exact hq⟩
 ·rintro ⟨v,hv,hq⟩
  have hv8 := List.mem_range.1 hv
  exact ⟨v,hv,by rw [h _ _ (xEf hj hv8) (xEf hj' hv8) (xS5 hx hj hj' hv8 ha)]; exact hq⟩
theorem xO6 {t : Int} (h : t < 8) (s : Nat) : tvs t s = t := by unfold tvs tv; rw [if_pos h]
theorem xO7 {t : Int} (h : 8 ≤ t) (h2 : t ≤ 10) (s : Nat) : tvs t s = (dg t.toNat s : Nat) := by
 have : t = 8 ∨ t = 9 ∨ t = 10 := by omega
 rcases this with rfl | rfl | rfl <;> rfl
theorem xNq {bd j j' : Nat} {t : Int} (h10 : t ≤ 10) (ha : agr bd j j') (hb : (decide (8 ≤ t) && !(bd.testBit (t.toNat - 8))) = false) : tvs t j = tvs t j' := by
 by_cases c : 8 ≤ t
 ·rw [xO7 c h10,xO7 c h10,ha t.toNat (by omega) (by omega) (by simpa [c] using hb)]
 ·rw [xO6 (by omega),xO6 (by omega)]
theorem xS6 {bd j j' : Nat} (ha : agr bd j j') : ∀ (l vs : List Int),(∀ t ∈ l,0 ≤ t ∧ t ≤ 10) → xMo bd l = false → mat j l vs = mat j' l vs
 | [],_,_,_ => rfl
 | _ :: _,[],_,_ => rfl
 | t :: l,v :: vs,hl,ho => by
  have ho' : ((decide (8 ≤ t) && !(bd.testBit (t.toNat - 8))) || xMo bd l) = false := ho
  rw [Bool.or_eq_false_iff] at ho'
  rw [mat,mat,xNq (hl t List.mem_cons_self).2 ha ho'.1,xS6 ha l vs (fun t ht => hl t (List.mem_cons_of_mem _ ht)) ho'.2]
theorem xS7 {bd : Nat} {l : List Int} (h : xMo bd l = false) {i : Nat} (hi : i < l.length) : (decide (8 ≤ l.getD i 0) && !(bd.testBit ((l.getD i 0).toNat - 8))) = false := by
 unfold xMo at h
 rw [List.any_eq_false] at h
 have hm : l.getD i 0 ∈ l := by rw [List.getD_eq_getElem?_getD,List.getElem?_eq_getElem hi]; exact List.getElem_mem hi
 simpa using h _ hm
section
variable {fs : List Nd} {E : List Ev}
theorem xS8 {i bd : Nat} {n : Nd} {e : Ev} {A B w : Q} (hv : Vn i n) (ho : xMo bd n.args = false) (hA : 1 ≤ chn n.op → dep (bnd n bd) A) (hB : chn n.op = 2 → dep (bnd n bd) B) (hw : tmp n.op = true → dep bd w) : dep bd (evF n e A B w) := by
 have hn : n.op ≠ 7 → bnd n bd = bd := fun h => by unfold bnd; rw [if_neg h]
 have : n.op = 1 ∨ n.op = 2 ∨ n.op = 3 ∨ n.op = 4 ∨ n.op = 5 ∨ n.op = 6 ∨ n.op = 7 ∨ n.op = 8 ∨ n.op = 9 ∨ n.op = 10 := by have := hv.op; omega
 unfold evF
 rcases this with h | h | h | h | h | h | h | h | h | h
 ·rw [if_pos h]; intro j j' _ _ _; rfl
 ·rw [if_neg (by omega),if_pos h]
  split
  ·intro j j' _ _ ha
   exact xS6 ha _ _ hv.ar ho
  ·intro j j' _ _ _; rfl
 ·rw [if_neg (by omega),if_neg (by omega),if_pos h]
  intro j j' _ _ ha
  have h2 := hv.eq h
  have h0 := xS7 ho (i := 0) (by omega)
  have h1 := xS7 ho (i := 1) (by omega)
  have m : ∀ i,i < n.args.length → n.args.getD i 0 ≤ 10 := fun i hi => (hv.ar _ (by rw [List.getD_eq_getElem?_getD,List.getElem?_eq_getElem hi]; exact List.getElem_mem hi)).2
  show (tvs (n.args.getD 0 0) j == tvs (n.args.getD 1 0) j) = (tvs (n.args.getD 0 0) j' == tvs (n.args.getD 1 0) j')
  rw [xNq (m 0 (by omega)) ha h0,xNq (m 1 (by omega)) ha h1]
 ·rw [if_neg (by omega),if_neg (by omega),if_neg (by omega),if_pos h]
  have hA := hA (by rw [h]; decide)
  rw [hn (by omega)] at hA
  intro j j' hj hj' ha
  show (!A j) = !A j'
  rw [hA j j' hj hj' ha]
 ·rw [if_neg (by omega),if_neg (by omega),if_neg (by omega),if_neg (by omega),if_pos h]
  have hA := hA (by rw [h]; decide)
  have hB := hB (by rw [h]; decide)
  rw [hn (by omega)] at hA hB
  intro j j' hj hj' ha
  show (A j && B j) = (A j' && B j')
  rw [hA j j' hj hj' ha,hB j j' hj hj' ha]
 ·rw [if_neg (by omega),if_neg (by omega),if_neg (by omega),if_neg (by omega),if_neg (by omega),if_pos h]
  have hA := hA (by rw [h]; decide)
  have hB := hB (by rw [h]; decide)
  rw [hn (by omega)] at hA hB
  intro j j' hj hj' ha
  show (A j || B j) = (A j' || B j')
  rw [hA j j' hj hj' ha,hB j j' hj hj' ha]
 ·rw [if_neg (by omega),if_neg (by omega),if_neg (by omega),if_neg (by omega),if_neg (by omega),if_neg (by omega),if_pos h]
  have hA := hA (by rw [h]; decide)
  have hx := hv.ex h
  refine xZM (by omega) ?_
  unfold bnd at hA
  rw [if_pos h] at hA
  exact hA
 ·rw [if_neg (by omega),if_neg (by omega),if_neg (by omega),if_neg (by omega),if_neg (by omega),if_neg (by omega),if_neg (by omega),if_pos h]
  exact hw (by rw [h]; decide)
 ·rw [if_neg (by omega),if_neg (by omega),if_neg (by omega),if_neg (by omega),if_neg (by omega),if_neg (by omega),if_neg (by omega),if_neg (by omega),if_pos h]
  have hA := hA (by rw [h]; decide)
  have hB := hB (by rw [h]; decide)
  have hw := hw (by rw [h]; decide)
  rw [hn (by omega)] at hA hB
  intro j j' hj hj' ha
  show (B j || (A j && w j)) = (B j' || (A j' && w j'))
  rw [hA j j' hj hj' ha,hB j j' hj hj' ha,hw j j' hj hj' ha]
 ·rw [if_neg (by omega),if_neg (by omega),if_neg (by omega),if_neg (by omega),if_neg (by omega),if_neg (by omega),if_neg (by omega),if_neg (by omega),if_neg (by omega)]
  have hA := hA (by rw [h]; decide)
  have hw := hw (by rw [h]; decide)
  rw [hn (by omega)] at hA
  intro j j' hj hj' ha
  show (A j || w j) = (A j' || w j')
  rw [hA j j' hj hj' ha,hw j j' hj hj' ha]
theorem xO8 {i bd : Nat} {n : Nd} {A B : Nat → Q} (hv : Vn i n) (ho : xMo bd n.args = false) (hA : 1 ≤ chn n.op → ∀ t,dep (bnd n bd) (A t)) (hB : chn n.op = 2 → ∀ t,dep (bnd n bd) (B t)) (ht : tmp n.op = true) : ∀ t,dep bd (xO4 n E A B t)
 | 0 => fun _ _ _ _ _ => rfl
 | t + 1 => by
  rw [xO4]
  by_cases c : n.op = 8
  ·rw [if_pos c]
   have := hA (by rw [c]; decide) t
   unfold bnd at this
   rw [if_neg (by omega)] at this
   exact this
  ·rw [if_neg c]
   exact xS8 hv ho (fun h => hA h t) (fun h => hB h t) (fun _ => xO8 hv ho hA hB ht t)
theorem xNr (hV : ∀ j,j < fs.length → Vn j (fs.getD j nd0)) : ∀ (k i bd t : Nat),i < fs.length → opn fs k i bd = false → dep bd (sem fs E k i t)
 | 0,_,_,_,_,_ => fun _ _ _ _ _ => rfl
 | k + 1,i,bd,t,hi,ho => by
  have hv := hV i hi
  rw [opn] at ho
  rw [Bool.or_eq_false_iff,Bool.or_eq_false_iff] at ho
  have hA : 1 ≤ chn (fs.getD i nd0).op → ∀ t,dep (bnd (fs.getD i nd0) bd) (sem fs E k (fs.getD i nd0).a.toNat t) := fun h t => by
   have := hv.ca h
   exact xNr hV k _ _ t (by omega) (by have q := ho.2.1; rw [decide_eq_true (show 0 < chn (fs.getD i nd0).op from h),Bool.true_and] at q; exact q)
  have hB : chn (fs.getD i nd0).op = 2 → ∀ t,dep (bnd (fs.getD i nd0) bd) (sem fs E k (fs.getD i nd0).b.toNat t) := fun h t => by
   have := hv.cb h
   exact xNr hV k _ _ t (by omega) (by have q := ho.2.2; rw [decide_eq_true (show 1 < chn (fs.getD i nd0).op by omega),Bool.true_and] at q; exact q)
  rw [sem]
  exact xS8 hv ho.1 (fun h => hA h t) (fun h => hB h t) (fun h => xO8 hv ho.1 hA hB h t)
theorem xQe (hV : ∀ j,j < fs.length → Vn j (fs.getD j nd0)) (h0 : 0 < fs.length) (ho : opn fs fs.length (fs.length - 1) 0 = false) (t : Nat) {j j' : Nat} (hj : j < 512) (hj' : j' < 512) : S fs E (fs.length - 1) t j = S fs E (fs.length - 1) t j' := by
 have h := xNr (E := E) hV fs.length (fs.length - 1) 0 t (by omega) ho
 unfold S
 rw [show fs.length - 1 + 1 = fs.length by omega]
 exact h j j' hj hj' (fun x _ _ hb => by rw [Nat.zero_testBit] at hb; cases hb)
end
def swI (a b : Nat) (t : Int) : Int := if t = a then b else if t = b then a else t
def swN (a b n : Nat) : Nat := if n = a then b else if n = b then a else n
def piJ (a b j : Nat) : Nat := 64 * swN a b (j / 64) + 8 * swN a b (j / 8 % 8) + swN a b (j % 8)
def pN (a b : Nat) (n : Nd) : Nd := { n with args := n.args.map (swI a b) }
def pE (a b : Nat) (e : Ev) : Ev := { e with args := e.args.map (swI a b) }
section
variable {a b : Nat}
theorem xDO (ha : a < 8) (hb : b < 8) {n : Nat} (h : n < 8) : swN a b n < 8 := by
 unfold swN; split
 ·exact hb
 split
 ·exact ha
 ·exact h
theorem xWf (n : Nat) : swN a b (swN a b n) = n := by
 unfold swN
 by_cases h1 : n = a
 ·subst h1
  by_cases h2 : b = n
  ·simp [h2]
  ·simp [h2]
 ·by_cases h2 : n = b
  ·subst h2; simp [h1]
  ·simp [h1,h2]
theorem xWg (n : Int) : swI a b (swI a b n) = n := by
 unfold swI
 by_cases h1 : n = a
 ·subst h1
  by_cases h2 : (b : Int) = a
  ·simp [h2]
  ·simp [h2]
 ·by_cases h2 : n = b
  ·subst h2; simp [h1]
  ·simp [h1,h2]
theorem xS9 {u v : Int} : swI a b u = swI a b v ↔ u = v := by
 constructor
 ·intro h
  have := congrArg (swI a b) h
  rwa [xWg,xWg] at this
 ·intro h; rw [h]
theorem yBQ (n : Nat) : swI a b (n : Int) = ((swN a b n : Nat) : Int) := by
 unfold swI swN
 by_cases h1 : n = a
 ·simp [h1]
 ·by_cases h2 : n = b
  ·have h3 : ¬ (n : Int) = a := by omega
   have h4 : ¬ b = a := by omega
   simp [h1,h2,h4]
  ·have h3 : ¬ (n : Int) = a := by omega
   have h4 : ¬ (n : Int) = b := by omega
   rw [if_neg h3,if_neg h4,if_neg h1,if_neg h2]
theorem xWh (ha : a < 8) (hb : b < 8) {t : Int} (h : 8 ≤ t) : swI a b t = t := by
 unfold swI
 rw [if_neg (by omega),if_neg (by omega)]
theorem xZN (ha : a < 8) (hb : b < 8) (hi : Int) (h7 : 7 ≤ hi) (t : Int) : (0 ≤ swI a b t ∧ swI a b t ≤ hi) ↔ (0 ≤ t ∧ t ≤ hi) := by
 unfold swI
 split
 ·omega
 split <;> omega
theorem xZO (ha : a < 8) (hb : b < 8) (t : Int) : 8 ≤ swI a b t ↔ 8 ≤ t := by
 unfold swI
 split
 ·omega
 split <;> omega
theorem xEe (ha : a < 8) (hb : b < 8) {j : Nat} (hj : j < 512) : piJ a b j < 512 := by
 have h1 := xDO ha hb (n := j / 64) (by omega)
 have h2 := xDO ha hb (n := j / 8 % 8) (by omega)
 have h3 := xDO ha hb (n := j % 8) (by omega)
 unfold piJ; omega
theorem xTa (ha : a < 8) (hb : b < 8) {x j : Nat} (hx : x = 8 ∨ x = 9 ∨ x = 10) (hj : j < 512) : dg x (piJ a b j) = swN a b (dg x j) := by
 have h1 := xDO ha hb (n := j / 64) (by omega)
 have h2 := xDO ha hb (n := j / 8 % 8) (by omega)
 have h3 := xDO ha hb (n := j % 8) (by omega)
 unfold piJ dg
 rcases hx with rfl | rfl | rfl
 ·rw [if_pos rfl,if_pos rfl]; omega
 ·simp only [Nat.reduceEqDiff,if_false,if_true]; omega
 ·simp only [Nat.reduceEqDiff,if_false]; omega
theorem xWi {j j' : Nat} (hj : j < 512) (hj' : j' < 512) (h : ∀ x,x = 8 ∨ x = 9 ∨ x = 10 → dg x j = dg x j') : j = j' := by
 have h8 := h 8 (by omega)
 have h9 := h 9 (by omega)
 have h10 := h 10 (by omega)
 unfold dg at h8 h9 h10
 simp at h8 h9 h10
 omega
theorem yBR (ha : a < 8) (hb : b < 8) {j : Nat} (hj : j < 512) : piJ a b (piJ a b j) = j := by
 refine xWi (xEe ha hb (xEe ha hb hj)) hj fun x hx => ?_
 rw [xTa ha hb hx (xEe ha hb hj),xTa ha hb hx hj,xWf]
theorem xWj (ha : a < 8) (hb : b < 8) {x j v : Nat} (hx : x = 8 ∨ x = 9 ∨ x = 10) (hj : j < 512) (hv : v < 8) : wth x (piJ a b j) (swN a b v) = piJ a b (wth x j v) := by
 have hv' := xDO ha hb hv
 refine xWi (xEf (xEe ha hb hj) hv') (xEe ha hb (xEf hj hv)) fun y hy => ?_
 rw [xTa ha hb hy (xEf hj hv)]
 by_cases c : y = x
 ·rw [c,xE8 hx (xEe ha hb hj) hv',xE8 hx hj hv]
 ·rw [xE9 hx hy c (xEe ha hb hj) hv',xE9 hx hy c hj hv,xTa ha hb hy hj]
theorem xTb (ha : a < 8) (hb : b < 8) {t : Int} {j : Nat} (h : t ≤ 10) (hj : j < 512) : tvs (swI a b t) (piJ a b j) = swI a b (tvs t j) := by
 by_cases c : 8 ≤ t
 ·rw [xWh ha hb c,xO7 c h,xO7 c h,xTa ha hb (by omega) hj,yBQ]
 ·have : ¬ 8 ≤ swI a b t := fun q => c ((xZO ha hb t).1 q)
  rw [xO6 (by omega),xO6 (by omega)]
theorem xWk (ha : a < 8) (hb : b < 8) {j : Nat} (hj : j < 512) : ∀ (l vs : List Int),(∀ t ∈ l,0 ≤ t ∧ t ≤ 10) → mat (piJ a b j) (l.map (swI a b)) (vs.map (swI a b)) = mat j l vs
 | [],_,_ => rfl
 | _ :: _,[],_ => rfl
 | t :: l,v :: vs,h => by
  rw [List.map_cons,List.map_cons,mat,mat,xTb ha hb (h t List.mem_cons_self).2 hj,xWk ha hb hj l vs (fun t ht => h t (List.mem_cons_of_mem _ ht))]
  congr 1
  rw [Bool.eq_iff_iff,beq_iff_eq,beq_iff_eq,xS9]
def eqv (a b : Nat) (p q : Q) : Prop := ∀ j,j < 512 → p (piJ a b j) = q j
theorem xZP (ha : a < 8) (hb : b < 8) {x : Nat} {p q : Q} (hx : x = 8 ∨ x = 9 ∨ x = 10) (h : eqv a b p q) : eqv a b (exQ x p) (exQ x q) := by
 intro j hj
 rw [← xPv hx _ hj,← xPv hx _ (xEe ha hb hj)]
 unfold avQ
 rw [Bool.eq_iff_iff,List.any_eq_true,List.any_eq_true]
 constructor
 ·rintro ⟨v,hv,hq⟩
  have hv8 := List.mem_range.1 hv
  refine ⟨swN a b v,List.mem_range.2 (xDO ha hb hv8),?_⟩
  rw [← h _ (xEf hj (xDO ha hb hv8)),← xWj ha hb hx hj (xDO ha hb hv8),xWf]
  exact hq
 ·rintro ⟨v,hv,hq⟩
  have hv8 := List.mem_range.1 hv
  refine ⟨swN a b v,List.mem_range.2 (xDO ha hb hv8),?_⟩
  rw [xWj ha hb hx hj hv8,h _ (xEf hj hv8)]
  exact hq
theorem xTc (ha : a < 8) (hb : b < 8) {i : Nat} {n : Nd} {e : Ev} {A A' B B' w w' : Q} (hv : Vn i n) (hA : 1 ≤ chn n.op → eqv a b A' A) (hB : chn n.op = 2 → eqv a b B' B) (hw : tmp n.op = true → eqv a b w' w) : eqv a b (evF (pN a b n) (pE a b e) A' B' w') (evF n e A B w) := by
 have : n.op = 1 ∨ n.op = 2 ∨ n.op = 3 ∨ n.op = 4 ∨ n.op = 5 ∨ n.op = 6 ∨ n.op = 7 ∨ n.op = 8 ∨ n.op = 9 ∨ n.op = 10 := by have := hv.op; omega
 rcases this with h | h | h | h | h | h | h | h | h | h
 ·rw [yCC (n := pN a b n) h,yCC h]; intro j _; rfl
 ·rw [yCD (n := pN a b n) h,yCD h]
  have hl : (pN a b n).args.length = n.args.length := List.length_map _
  have hl' : (pE a b e).args.length = e.args.length := List.length_map _
  have hn : (pN a b n).name = n.name := rfl
  have he : (pE a b e).name = e.name := rfl
  rw [hl,hl',hn,he]
  by_cases c : n.name = e.name ∧ n.args.length = e.args.length
  ·rw [if_pos c,if_pos c]
   intro j hj
   exact xWk ha hb hj _ _ hv.ar
  ·rw [if_neg c,if_neg c]
   intro j _; rfl
 ·rw [yCE (n := pN a b n) h,yCE h]
  have h2 := hv.eq h
  have m : ∀ i,i < n.args.length → n.args.getD i 0 ≤ 10 := fun i hi => (hv.ar _ (by rw [List.getD_eq_getElem?_getD,List.getElem?_eq_getElem hi]; exact List.getElem_mem hi)).2
  have g : ∀ i,i < n.args.length → (pN a b n).args.getD i 0 = swI a b (n.args.getD i 0) := fun i hi => by
   show (n.args.map (swI a b)).getD i 0 = _
   rw [List.getD_eq_getElem?_getD,List.getElem?_map,List.getD_eq_getElem?_getD,List.getElem?_eq_getElem hi]; rfl
  intro j hj
  show (tvs ((pN a b n).args.getD 0 0) (piJ a b j) == tvs ((pN a b n).args.getD 1 0) (piJ a b j)) = (tvs (n.args.getD 0 0) j == tvs (n.args.getD 1 0) j)
  rw [g 0 (by omega),g 1 (by omega),xTb ha hb (m 0 (by omega)) hj,xTb ha hb (m 1 (by omega)) hj,Bool.eq_iff_iff,beq_iff_eq,beq_iff_eq,xS9]
 ·rw [yCF (n := pN a b n) h,yCF h]
  have hA := hA (by rw [h]; decide)
  intro j hj
  show (!A' (piJ a b j)) = !A j
  rw [hA j hj]
 ·rw [yCG (n := pN a b n) h,yCG h]
  have hA := hA (by rw [h]; decide)
  have hB := hB (by rw [h]; decide)
  intro j hj
  show (A' (piJ a b j) && B' (piJ a b j)) = (A j && B j)
  rw [hA j hj,hB j hj]
 ·rw [yCH (n := pN a b n) h,yCH h]
  have hA := hA (by rw [h]; decide)
  have hB := hB (by rw [h]; decide)
  intro j hj
  show (A' (piJ a b j) || B' (piJ a b j)) = (A j || B j)
  rw [hA j hj,hB j hj]
 ·rw [yCI (n := pN a b n) h,yCI h]
  have hA := hA (by rw [h]; decide)
  have hx := hv.ex h
  exact xZP ha hb (x := n.x.toNat) (by omega) hA
 ·rw [yCJ (n := pN a b n) h,yCJ h]
  exact hw (by rw [h]; decide)
 ·rw [yCK (n := pN a b n) h,yCK h]
  have hA := hA (by rw [h]; decide)
  have hB := hB (by rw [h]; decide)
  have hw := hw (by rw [h]; decide)
  intro j hj
  show (B' (piJ a b j) || (A' (piJ a b j) && w' (piJ a b j))) = (B j || (A j && w j))
  rw [hA j hj,hB j hj,hw j hj]
 ·rw [xZL (n := pN a b n) h,xZL h]
  have hA := hA (by rw [h]; decide)
  have hw := hw (by rw [h]; decide)
  intro j hj
  show (A' (piJ a b j) || w' (piJ a b j)) = (A j || w j)
  rw [hA j hj,hw j hj]
theorem xTd (E : List Ev) (t : Nat) : (E.map (pE a b)).getD t ev0 = pE a b (E.getD t ev0) := by
 rw [List.getD_eq_getElem?_getD,List.getElem?_map,List.getD_eq_getElem?_getD]
 cases E[t]? <;> rfl
theorem xNs (fs : List Nd) (i : Nat) : (fs.map (pN a b)).getD i nd0 = pN a b (fs.getD i nd0) := by
 rw [List.getD_eq_getElem?_getD,List.getElem?_map,List.getD_eq_getElem?_getD]
 cases fs[i]? <;> rfl
theorem xO9 (ha : a < 8) (hb : b < 8) {i : Nat} {n : Nd} {E : List Ev} {A A' B B' : Nat → Q} (hv : Vn i n) (hA : 1 ≤ chn n.op → ∀ t,eqv a b (A' t) (A t)) (hB : chn n.op = 2 → ∀ t,eqv a b (B' t) (B t)) (ht : tmp n.op = true) : ∀ t,eqv a b (xO4 (pN a b n) (E.map (pE a b)) A' B' t) (xO4 n E A B t)
 | 0 => fun _ _ => rfl
 | t + 1 => by
  rw [xO4,xO4]
  have ho : (pN a b n).op = n.op := rfl
  rw [ho]
  by_cases c : n.op = 8
  ·rw [if_pos c,if_pos c]
   exact hA (by rw [c]; decide) t
  ·rw [if_neg c,if_neg c,xTd]
   exact xTc ha hb hv (fun h => hA h t) (fun h => hB h t) (fun _ => xO9 ha hb hv hA hB ht t)
theorem xNt (ha : a < 8) (hb : b < 8) {fs : List Nd} {E : List Ev} (hV : ∀ j,j < fs.length → Vn j (fs.getD j nd0)) : ∀ (k i t : Nat),i < fs.length → eqv a b (sem (fs.map (pN a b)) (E.map (pE a b)) k i t) (sem fs E k i t)
 | 0,_,_,_ => fun _ _ => rfl
 | k + 1,i,t,hi => by
  have hv := hV i hi
  rw [sem,sem,xNs,xTd]
  have hA : 1 ≤ chn (fs.getD i nd0).op → ∀ t,eqv a b (sem (fs.map (pN a b)) (E.map (pE a b)) k (fs.getD i nd0).a.toNat t) (sem fs E k (fs.getD i nd0).a.toNat t) := fun h t => by
   have := hv.ca h
   exact xNt ha hb hV k _ t (by omega)
  have hB : chn (fs.getD i nd0).op = 2 → ∀ t,eqv a b (sem (fs.map (pN a b)) (E.map (pE a b)) k (fs.getD i nd0).b.toNat t) (sem fs E k (fs.getD i nd0).b.toNat t) := fun h t => by
   have := hv.cb h
   exact xNt ha hb hV k _ t (by omega)
  exact xTc ha hb hv (fun h => hA h t) (fun h => hB h t) (fun h => xO9 ha hb hv hA hB h t)
theorem yBS (n : Nd) (os : List Nat) : szN (pN a b n) os = szN n os := rfl
theorem xZQ : ∀ (fs : List Nd) (os : List Nat),szs (fs.map (pN a b)) os = szs fs os
 | [],_ => rfl
 | n :: fs,os => by
  rw [List.map_cons,szs,szs,yBS,xZQ fs]
theorem yCM (ha : a < 8) (hb : b < 8) (hi : Int) (h7 : 7 ≤ hi) (l : List Int) : wi 0 hi (l.map (swI a b)) = wi 0 hi l := by
 rw [Bool.eq_iff_iff,wi_iff,wi_iff]
 constructor
 ·intro h t ht
  exact (xZN ha hb hi h7 t).1 (h _ (List.mem_map.2 ⟨t,ht,rfl⟩))
 ·intro h t ht
  obtain ⟨u,hu,rfl⟩ := List.mem_map.1 ht
  exact (xZN ha hb hi h7 u).2 (h u hu)
theorem xZR (ha : a < 8) (hb : b < 8) (bd : Nat) (l : List Int) : xMo bd (l.map (swI a b)) = xMo bd l := by
 unfold xMo
 rw [List.any_map]
 congr 1
 funext t
 show (decide (8 ≤ swI a b t) && !(bd.testBit ((swI a b t).toNat - 8))) = (decide (8 ≤ t) && !(bd.testBit (t.toNat - 8)))
 by_cases c : 8 ≤ t
 ·rw [xWh ha hb c]
 ·rw [decide_eq_false (fun q => c ((xZO ha hb t).1 q)),decide_eq_false c]; rfl
theorem xZS (ha : a < 8) (hb : b < 8) (n : Nd) (s : Nat) : xPk (pN a b n) s = xPk n s := by
 have h1 : xYJ (pN a b n) s = xYJ n s := by
  unfold xYJ
  have : (pN a b n).args.length = n.args.length := List.length_map _
  rw [this]; rfl
 have h2 : xYK (pN a b n) = xYK n := by
  unfold xYK
  have : wi 0 10 (pN a b n).args = wi 0 10 n.args := yCM ha hb 10 (by decide) _
  rw [this]; rfl
 unfold xPk
 rw [h1,h2]; rfl
theorem xWl (ha : a < 8) (hb : b < 8) : ∀ (fs : List Nd) (ss : List Nat),xH5 (fs.map (pN a b)) ss = xH5 fs ss
 | [],_ => rfl
 | _ :: _,[] => rfl
 | n :: fs,s :: ss => by rw [List.map_cons,xH5,xH5,xZS ha hb,xWl ha hb fs ss]
theorem xXC (ha : a < 8) (hb : b < 8) (fs : List Nd) : ∀ k i bd,opn (fs.map (pN a b)) k i bd = opn fs k i bd
 | 0,_,_ => rfl
 | k + 1,i,bd => by
  rw [opn,opn,xNs,xXC ha hb fs k,xXC ha hb fs k]
  have : xMo bd (pN a b (fs.getD i nd0)).args = xMo bd (fs.getD i nd0).args := xZR ha hb bd _
  rw [this]; rfl
theorem xZT (ha : a < 8) (hb : b < 8) (fs : List Nd) : chk (fs.map (pN a b)) = chk fs := by
 unfold chk
 rw [List.length_map,xZQ,xWl ha hb,xXC ha hb]
theorem xZU (ha : a < 8) (hb : b < 8) (e : Ev) : xDl (pE a b e) = xDl e := by
 unfold xDl
 have h1 : wi 0 7 (pE a b e).args = wi 0 7 e.args := yCM ha hb 7 (by decide) _
 have h2 : (pE a b e).args.length = e.args.length := List.length_map _
 rw [h1,h2]; rfl
theorem xU2 {fs : List Nd} (h : chk fs = 0) : opn fs fs.length (fs.length - 1) 0 = false := by
 unfold chk at h
 split at h
 ·cases h
 split at h
 ·cases h
 split at h
 ·split at h
  ·split at h
   ·cases h
   ·rename_i q; simpa using q
  ·cases h
 ·rename_i q; exact absurd h q
theorem yDm (ha : a < 8) (hb : b < 8) {fs : List Nd} (hc : chk fs = 0) (E : List Ev) : vL (fs.map (pN a b)) (E.map (pE a b)) (zr (nT (fs.map (pN a b)))) = vL fs E (zr (nT fs)) := by
 obtain ⟨h0,-,hV⟩ := xNv hc
 have hc' : chk (fs.map (pN a b)) = 0 := by rw [xZT ha hb]; exact hc
 obtain ⟨h0',-,hV'⟩ := xNv hc'
 rw [xWe hV' h0',xWe hV h0,List.length_map,List.length_map]
 refine List.map_congr_left fun t ht => ?_
 have hz : piJ a b (piJ a b 0) = 0 := yBR ha hb (by decide)
 have h1 := xNt ha hb (E := E) hV (fs.length - 1 + 1) (fs.length - 1) t (by omega) (piJ a b 0) (xEe ha hb (by decide))
 rw [hz] at h1
 have h2 := xQe (E := E) hV h0 (xU2 hc) t (xEe ha hb (by decide : 0 < 512)) (by decide : 0 < 512)
 exact h1.trans h2
end
def shf (b : Nat) {α : Type} (lo : List (α × Nat)) : List (α × Nat) := lo.map fun p => (p.1,b + p.2)
theorem xTe (b : Nat) {α : Type} (lo : List (α × Nat)) : (shf b lo).map (·.1) = lo.map (·.1) := by simp [shf]
theorem xXD (b : Nat) {α : Type} (lo : List (α × Nat)) : (shf b lo).length = lo.length := by simp [shf]
theorem xTf (b : Nat) (l : List Int) : (xAJ l).map (xCa b) = xAJ l := by simp [xAJ,xCa]
theorem xU3 (l : List Int) : (xAJ l).all xG0 = true := by simp [xAJ,xG0,xBx]
theorem xQf (b : Nat) (l : List Int) : xB0 b (xGv l) = xGv l := by
 unfold xB0 xGv
 simp only [xU3,if_true,xTf]
section
variable {α : Type} {c : α → Nat → List AV} {ar : α → List Int} {G : Heap} {o : Nat} {lo : List (α × Nat)}
theorem xXE (b : Nat) (hc : ∀ a k,(c a k).map (xCa b) = c a (b + k)) (lo : List (α × Nat)) : (ons c lo).map (xCa b) = ons c (shf b lo) := by
 induction lo with
 | nil => rfl
 | cons p lo ih =>
  show (c p.1 p.2 ++ ons c lo).map (xCa b) = c p.1 (b + p.2) ++ ons c (shf b lo)
  rw [List.map_append,hc,ih]
theorem xXF (hr : ∀ a k,(c a k).all xG0 = true) (lo : List (α × Nat)) : (ons c lo).all xG0 = true := by
 induction lo with
 | nil => rfl
 | cons p lo ih =>
  show (c p.1 p.2 ++ ons c lo).all xG0 = true
  rw [List.all_append,hr,ih]; rfl
theorem Ow.lift (h : Ow c ar G o lo) (H T : Heap) (hc : ∀ a k,(c a k).map (xCa H.length) = c a (H.length + k)) (hr : ∀ a k,(c a k).all xG0 = true) : Ow c ar (H ++ G.map (xB0 H.length) ++ T) (H.length + o) (shf H.length lo) := by
 have hg : ∀ {k : Nat} {x : Blk},G[k]? = some x → (H ++ G.map (xB0 H.length) ++ T)[H.length + k]? = some (xB0 H.length x) := by
  intro k x hx
  have lk := xBs hx
  rw [List.getElem?_append_left (by simp; omega),List.getElem?_append_right (by omega),show H.length + k - H.length = k by omega,List.getElem?_map,hx]; rfl
 refine ⟨?_,?_,?_,?_⟩
 ·rw [hg h.go]
  unfold xB0
  simp only [xXF hr,if_true,xXE _ hc]
 ·intro q; have := congrArg List.length q; rw [xXD] at this; exact h.ne (List.eq_nil_of_length_eq_zero this)
 ·intro p hp
  unfold shf at hp
  obtain ⟨q,hq,rfl⟩ := List.mem_map.1 hp
  obtain ⟨q1,q2⟩ := h.bl q hq
  refine ⟨by show H.length + q.2 ≠ H.length + o; omega,?_⟩
  show (H ++ G.map (xB0 H.length) ++ T)[H.length + q.2]? = _
  rw [hg q2,xQf]
 ·have : (shf H.length lo).map (·.2) = (lo.map (·.2)).map (H.length + ·) := by simp [shf]
  rw [this]
  have hn := h.nd
  generalize lo.map (·.2) = ks at *
  have hn := xPg hn
  refine xVb fun i j hij hj => ?_
  rw [List.length_map] at hj
  have := hn i j hij hj
  rw [List.getElem?_map,List.getElem?_map,List.getElem?_eq_getElem (by omega : i < ks.length),List.getElem?_eq_getElem hj]
  rw [List.getElem?_eq_getElem (by omega : i < ks.length),List.getElem?_eq_getElem hj] at this
  intro e
  apply this
  simpa using e
theorem Ow.keep (h : Ow c ar G o lo) {G' : Heap} (ho : G'[o]? = G[o]?) (hb : ∀ p ∈ lo,G'[p.2]? = G[p.2]?) : Ow c ar G' o lo :=
 ⟨ho.trans h.go,h.ne,fun p hp => ⟨(h.bl p hp).1,(hb p hp).trans (h.bl p hp).2⟩,h.nd⟩
end
theorem xQg (b : Nat) (n : Nd) (k : Nat) : (xBn n k).map (xCa b) = xBn n (b + k) := rfl
theorem xTg (n : Nd) (k : Nat) : (xBn n k).all xG0 = true := rfl
theorem xU4 (b : Nat) (e : Ev) (k : Nat) : (evO e k).map (xCa b) = evO e (b + k) := rfl
theorem xXG (e : Ev) (k : Nat) : (evO e k).all xG0 = true := rfl
section
variable {a b o : Nat} {l : List Int} {z0 : Bool}
def swL (a b : Nat) (l : List Int) (i : Nat) : List Int := (l.take i).map (swI a b) ++ l.drop i
theorem xTh (l : List Int) {i : Nat} (h : i ≤ l.length) : (swL a b l i).length = l.length := by simp [swL]; omega
theorem xWm {i : Nat} (h : i < l.length) : (swL a b l i).getD i 0 = l.getD i 0 := by
 unfold swL
 rw [List.getD_eq_getElem?_getD,List.getElem?_append_right (by simp; omega),List.getElem?_drop,List.getD_eq_getElem?_getD]
 congr 2
 simp; omega
theorem xTi {i : Nat} (h : i < l.length) : (swL a b l i).set i (swI a b (l.getD i 0)) = swL a b l (i + 1) := by
 unfold swL
 have hl : ((l.take i).map (swI a b)).length = i := by simp; omega
 rw [List.set_append_right _ _ (by omega),hl,Nat.sub_self,List.drop_eq_getElem_cons h,List.set_cons_zero,List.getD_eq_getElem?_getD,List.getElem?_eq_getElem h,List.take_succ_eq_append_getElem h,List.map_append,List.append_assoc]
 rfl
theorem xU5 {i : Nat} (h : i < l.length) (hs : swI a b (l.getD i 0) = l.getD i 0) : swL a b l i = swL a b l (i + 1) := by
 rw [← xTi h,hs,← xWm (a := a) (b := b) h]
 apply List.ext_getElem?
 intro j
 rw [List.getElem?_set]
 split
 ·rename_i e
  subst e
  have := xTh (a := a) (b := b) l (Nat.le_of_lt h)
  rw [if_pos (by omega),List.getD_eq_getElem?_getD,List.getElem?_eq_getElem (by omega)]; rfl
 ·rfl
theorem xU6 : swL a b l 0 = l := by simp [swL]
theorem xXH : swL a b l l.length = l.map (swI a b) := by simp [swL]
abbrev F37 (a b : Nat) (o : Nat) (l : List Int) (i : Nat) : List AV := xL3 (.own (l.length == 0) o 0 l.length 1) (.int .i64 (a : Nat)) (.int .i64 (b : Nat)) (.int .i64 (i : Nat))
set_option maxHeartbeats 4000000 in
theorem xZV (hl : l.length ≤ 100000) : ∀ k i,i + k = l.length → ∀ G : Heap,G[o]? = some (.cells false (l.length == 0) (xAJ (swL a b l i))) →
  L.loop xJf xSI ⟨F37 a b o l i,G⟩ = some (.exit 0,⟨F37 a b o l l.length,G.set o (.cells false (l.length == 0) (xAJ (l.map (swI a b))))⟩) := by
 intro k
 induction k with
 | zero =>
  intro i hi G go
  obtain rfl : i = l.length := by omega
  have xBN : G.set o (.cells false (l.length == 0) (xAJ (l.map (swI a b)))) = G := by
   obtain ⟨hk,hx⟩ := List.getElem?_eq_some_iff.1 go
   rw [← xXH,← hx,List.set_getElem_self]
  rw [xBN,xOU]
  simp (maxSteps := 30000000) (disch := first | assumption | omega | (simp only [WZ,AV.isCell] <;> omega) | rfl | decide) only [xJe,WB,↓reduceIte,xL4]
 | succ k ih =>
  intro i hi G go
  have hlt : i < l.length := by omega
  have hltI : ((i : Nat) : Int) < (l.length : Nat) := by omega
  have lo := xBs go
  have hz : (l.length == 0) = false := by rw [beq_eq_false_iff_ne]; omega
  have hlen := xTh (a := a) (b := b) l (Nat.le_of_lt hlt)
  have hat := xWm (a := a) (b := b) hlt
  have hs := xTi (a := a) (b := b) hlt
  have e1 := ih (i + 1) (by omega) (G.set o (.cells false (l.length == 0) (xAJ (swL a b l (i + 1))))) (xFa lo)
  rw [List.set_set] at e1
  by_cases ca : l.getD i 0 = a
  ·have hsw : swI a b (l.getD i 0) = b := by unfold swI; rw [if_pos ca]
   rw [hsw] at hs
   unfold F37 at e1 ⊢; rw [hz] at go e1 ⊢
   generalize swL a b l (i + 1) = l2 at *
   generalize swL a b l i = l1 at *
   have hput : xAJ (List.take i l1) ++ (AV.int .i64 ((b : Nat) : Int) :: xAJ (List.drop (i + 1) l1)) = xAJ l2 := by rw [← hs]; exact xMu (by omega)
   have ca' : (l.getD i 0 = ((a : Nat) : Int)) = True := eq_true ca
   rw [xOU]
   simp (maxSteps := 30000000) (disch := first | assumption | omega | (simp only [WZ,AV.isCell] <;> omega) | rfl | decide) only [xJe,WB,hltI,↓reduceIte,go,W2,hat,ca',AV.cells,hput,xL4,e1]
  ·by_cases cb : l.getD i 0 = b
   ·have hsw : swI a b (l.getD i 0) = a := by unfold swI; rw [if_neg ca,if_pos cb]
    rw [hsw] at hs
    unfold F37 at e1 ⊢; rw [hz] at go e1 ⊢
    generalize swL a b l (i + 1) = l2 at *
    generalize swL a b l i = l1 at *
    have hput : xAJ (List.take i l1) ++ (AV.int .i64 ((a : Nat) : Int) :: xAJ (List.drop (i + 1) l1)) = xAJ l2 := by rw [← hs]; exact xMu (by omega)
    have ca' : (l.getD i 0 = ((a : Nat) : Int)) = False := eq_false ca
    have cb' : (l.getD i 0 = ((b : Nat) : Int)) = True := eq_true cb
    rw [xOU]
    simp (maxSteps := 30000000) (disch := first | assumption | omega | (simp only [WZ,AV.isCell] <;> omega) | rfl | decide) only [xJe,WB,hltI,↓reduceIte,go,W2,hat,ca',cb',AV.cells,hput,xL4,e1]
   ·have hsw : swI a b (l.getD i 0) = l.getD i 0 := by unfold swI; rw [if_neg ca,if_neg cb]
    have hsm := xU5 hlt hsw
    have xBN : G.set o (.cells false (l.length == 0) (xAJ (swL a b l (i + 1)))) = G := by
     obtain ⟨hk,hx⟩ := List.getElem?_eq_some_iff.1 go
     rw [← hsm,← hx,List.set_getElem_self]
    have e2 := ih (i + 1) (by omega) G (by rw [← hsm]; exact go)
    clear e1 xBN
    unfold F37 at e2 ⊢; rw [hz] at go e2 ⊢
    generalize swL a b l (i + 1) = l2 at *
    generalize swL a b l i = l1 at *
    have ca' : (l.getD i 0 = ((a : Nat) : Int)) = False := eq_false ca
    have cb' : (l.getD i 0 = ((b : Nat) : Int)) = False := eq_false cb
    rw [xOU]
    simp (maxSteps := 30000000) (disch := first | assumption | omega | (simp only [WZ,AV.isCell] <;> omega) | rfl | decide) only [xJe,WB,hltI,↓reduceIte,go,W2,hat,ca',cb',xL4,e2]
theorem xJs {G : Heap} (go : G[o]? = some (xGv l)) (hl : l.length ≤ 100000) : L.icall (.func 37 []) [xQo o l,.int .i64 (a : Nat),.int .i64 (b : Nat)] G = some (.tup [],G.set o (xGv (l.map (swI a b)))) := by
 have e1 := xZV (a := a) (b := b) (o := o) hl l.length 0 (by omega) G (by rw [xU6]; exact go)
 have e1' : L.loop xJf xSI ⟨xL3 (.own (l.length == 0) o 0 l.length 1) (.int .i64 (a : Nat)) (.int .i64 (b : Nat)) (.int .i64 0),G⟩ = _ := e1
 unfold xGv xQo
 rw [List.length_map]
 rw [yCY,a37,xAo]
 simp (maxSteps := 30000000) (disch := first | assumption | omega | (simp only [WZ,AV.isCell] <;> omega) | rfl | decide) only [WB,Nat.reduceAdd,Nat.reduceSub,xL4,e1',↓reduceIte]
end
def shO (e : Ev) : Ev := { e with z := (xCj e.args).isEmpty,args := xCj e.args }
def GeO (G : Heap) (v : AV) (lo : List (Ev × Nat)) : Prop := (lo = [] ∧ v = .sl true 0 []) ∨ ∃ o,v = .own false o 0 lo.length 2 ∧ Ow evO Ev.args G o lo
section
variable {l : List Ev} {z : Bool} {N : Nat}
abbrev F21 (z : Bool) (l : List Ev) (N : Nat) (v : AV) (i : Nat) : List AV := xLT (.sl z l.length (evs l)) (.int .i64 (N : Nat)) v (.int .i64 (i : Nat))
set_option maxHeartbeats 4000000 in
theorem xZW (hN : l.length ≤ N) (hN2 : N ≤ 1000) : ∀ k i,i + k = l.length → ∀ (G : Heap) (v : AV) (lo : List (Ev × Nat)),lo.length = i → GeO G v lo → ∃ (G' : Heap) (v' : AV) (lo' : List (Ev × Nat)),
  L.loop xI3 xSB ⟨F21 z l N v i,G⟩ = some (.exit 0,⟨F21 z l N v' l.length,G'⟩) ∧ GeO G' v' lo' ∧ lo'.map (·.1) = lo.map (·.1) ++ (l.drop i).map shO := by
 intro k
 induction k with
 | zero =>
  intro i hi G v lo ho hg
  obtain rfl : i = l.length := by omega
  refine ⟨G,v,lo,?_,hg,by simp⟩
  rw [xSC]
  simp (maxSteps := 30000000) (disch := first | assumption | omega | (simp only [WZ,AV.isCell] <;> omega) | rfl | decide) only [xLS,WB,↓reduceIte,xLU]
 | succ k ih =>
  intro i hi G v lo ho hg
  have hlt : i < l.length := by omega
  have hltI : ((i : Nat) : Int) < (l.length : Nat) := by omega
  have hltN : ((i : Nat) : Int) < (N : Nat) := by omega
  have em : (l.drop i).map shO = shO (l.getD i ev0) :: (l.drop (i + 1)).map shO := by
   rw [List.drop_eq_getElem_cons hlt,List.getD_eq_getElem?_getD,List.getElem?_eq_getElem hlt]
   rfl
  rw [em]
  generalize hn : l.getD i ev0 = e at *
  have hev : xBL e.z e.args = .sl e.z e.args.length (xAJ e.args) := rfl
  have h49 := xTt e.z (l := xCj e.args) (by simp [xCj]; omega)
  have hcl : (xCj e.args).length = min e.args.length 4 := by simp [xCj,Nat.min_comm]
  have hmin : min ((e.args.length : Nat) : Int) 4 = ((xCj e.args).length : Nat) := by rw [hcl]; omega
  have hbd : xA4 e.args.length none (some (.int .i64 ((xCj e.args).length : Nat))) none = some (0,(xCj e.args).length) := by
   rw [xDL (Int.natCast_nonneg _) (by rw [hcl]; omega)]
   simp
  have htk : xAJ (List.take (xCj e.args).length e.args) = xAJ (xCj e.args) := by
   congr 1
   rw [hcl]
   unfold xCj
   by_cases c : e.args.length ≤ 4
   ·rw [Nat.min_eq_left c,List.take_of_length_le (Nat.le_refl _),List.take_of_length_le c]
   ·rw [Nat.min_eq_right (by omega)]
  have hC : ∀ k,evO (shO e) k = [.int .i64 e.name,.own ((xCj e.args).length == 0) k 0 (xCj e.args).length 1] := fun _ => rfl
  have hBk : xGv (shO e).args = .cells false ((xCj e.args).length == 0) (xAJ (xCj e.args)) := rfl
  rcases hg with ⟨rfl,rfl⟩ | ⟨o,rfl,hw⟩
  ·obtain ⟨G',v',lo',e1,g1,m1⟩ := ih (i + 1) (by omega) (G ++ [.cells false false (evO (shO e) (G.length + 1)),xGv (shO e).args,.cells false false (evO (shO e) (G.length + 1)),.cells false false (evO (shO e) (G.length + 1))]) (.own false (G.length + 3) 0 1 2) [(shO e,G.length + 1)] (by simp at ho ⊢; omega)
    (.inr ⟨G.length + 3,rfl,Ow.one _ _ _⟩)
   refine ⟨G',v',lo',?_,g1,by simpa using m1⟩
   rw [hC,hBk] at e1
   generalize xCj e.args = l4 at *
   rw [xSC]
   simp (maxSteps := 30000000) (disch := first | assumption | omega | (simp only [WZ,AV.isCell] <;> omega) | rfl | decide) only [xLS,WB,hltI,↓reduceIte,hltN,xJt,evC,hn,hev,AV.cells,AV.isCell,Nat.reduceAdd,xCS,xEA,hmin,hbd,W2,htk,WP,h49,xBM,xES,xCa,Nat.reduceMul,xKm,Nat.reduceBEq,xLU,e1]
  ·have lob := xBs hw.go
   obtain ⟨G',v',lo',e1,g1,m1⟩ := ih (i + 1) (by omega) (G.set o .dead ++ [.cells false false (evO (shO e) (G.length + 1)),xGv (shO e).args,.cells false false (evO (shO e) (G.length + 1)),.cells false false (ons evO (lo ++ [(shO e,G.length + 1)]))]) (.own false (G.length + 3) 0 (lo.length + 1) 2) (lo ++ [(shO e,G.length + 1)]) (by simp; omega)
    (.inr ⟨G.length + 3,by simp,hw.snoc _ _ _⟩)
   refine ⟨G',v',lo',?_,g1,by simpa using m1⟩
   have hNN : ons evO lo ++ evO (shO e) (G.length + 1) = ons evO (lo ++ [(shO e,G.length + 1)]) := xTr _ _ _
   rw [hC,hBk] at e1
   rw [hC] at hNN
   have hnl := xDa xFM lo
   have hnt := xD4 xFM lo
   have go := hw.go
   clear hw
   generalize ons evO (lo ++ [(shO e,G.length + 1)]) = L2 at *
   generalize ons evO lo = L1 at *
   generalize xCj e.args = l4 at *
   have hi70 : i ≤ 1000 := by omega
   rw [ho] at *
   rw [xSC]
   simp (maxSteps := 30000000) (disch := first | assumption | omega | (simp only [WZ,AV.isCell] <;> omega) | rfl | decide) only [xLS,WB,hltI,↓reduceIte,hltN,xJt,evC,hn,hev,AV.cells,AV.isCell,Nat.reduceAdd,xCS,xEA,hmin,hbd,W2,htk,WP,h49,xBM,xES,xCa,Nat.reduceMul,xKm,xA3,go,Nat.reduceBEq,xMA,hnt,hNN,xLU,e1]
theorem xU7 (z : Bool) (hN : l.length ≤ N) (hN2 : N ≤ 1000) : ∃ (G' : Heap) (v' : AV) (lo' : List (Ev × Nat)),xB5 L 21 [.sl z l.length (evs l),.int .i64 (N : Nat)] = some (v',G') ∧ GeO G' v' lo' ∧ lo'.map (·.1) = l.map shO := by
 obtain ⟨G',v',lo',e1,g1,m1⟩ := xZW (z := z) hN hN2 l.length 0 (by omega) [] (.sl true 0 []) [] rfl (.inl ⟨rfl,rfl⟩)
 have e1' : L.loop xI3 xSB ⟨xLT (.sl z l.length (evs l)) (.int .i64 (N : Nat)) (.sl true 0 []) (.int .i64 0),[]⟩ = _ := e1
 refine ⟨G',v',lo',xLM ?_ ?_,g1,m1⟩
 ·rcases g1 with ⟨rfl,rfl⟩ | ⟨o,rfl,hw⟩
  ·rw [yCt,a21,xAo]
   simp (maxSteps := 30000000) (disch := first | assumption | omega | (simp only [WZ,AV.isCell] <;> omega) | rfl | decide) only [WB,Nat.reduceAdd,Nat.reduceSub,xLU,e1',↓reduceIte]
  ·rw [yCt,a21,xAo]
   simp (maxSteps := 30000000) (disch := first | assumption | omega | (simp only [WZ,AV.isCell] <;> omega) | rfl | decide) only [WB,Nat.reduceAdd,Nat.reduceSub,xLU,e1',↓reduceIte]
 ·rcases g1 with ⟨rfl,rfl⟩ | ⟨o,rfl,hw⟩ <;> rfl
end
theorem xTj {α : Type} {c : α → Nat → List AV} {w j : Nat} (hw : ∀ a k,(c a k).length = w) (hj : j < w) {lo : List (α × Nat)} {i : Nat} {p : α × Nat} (h : lo[i]? = some p) : List.take 1 (List.drop (i * w + j) (ons c lo)) = List.take 1 (List.drop j (c p.1 p.2)) := by
 obtain ⟨hi,rfl⟩ := List.getElem?_eq_some_iff.1 h
 have hd : List.drop (i * w) (ons c lo) = ons c (lo.drop i) := xDR (fun p => hw p.1 p.2) i lo
 rw [← List.drop_drop,hd,List.drop_eq_getElem_cons hi]
 show List.take 1 (List.drop j (c lo[i].1 lo[i].2 ++ _)) = _
 have hl := hw lo[i].1 lo[i].2
 rw [List.drop_append_of_le_length (by omega),List.take_append_of_le_length (by rw [List.length_drop]; omega)]
theorem xHR {α : Type} {lo : List (α × Nat)} {i : Nat} {p : α × Nat} (h : lo[i]? = some p) (x : α) : (lo.set i (x,p.2)).map (·.2) = lo.map (·.2) := by
 rw [List.map_set]
 have : (lo.map (·.2))[i]? = some p.2 := by rw [List.getElem?_map,h]; rfl
 obtain ⟨hk,hx⟩ := List.getElem?_eq_some_iff.1 this
 show List.set _ i p.2 = _
 rw [← hx,List.set_getElem_self]
section
variable {a b : Nat} {V v8 v13 v14 : AV}
abbrev F90 (V v13 v14 : AV) (a b i : Nat) : List AV := xQa V (.int .i64 (a : Nat)) (.int .i64 (b : Nat)) v13 v14 (.int .i64 (i : Nat))
def xNu {α : Type} (f : α → α) (l : List α) (i : Nat) : List α := (l.take i).map f ++ l.drop i
theorem xPa {α : Type} (f : α → α) {l : List α} {i : Nat} {x : α} (h : l[i]? = some x) : (xNu f l i).set i (f x) = xNu f l (i + 1) := by
 obtain ⟨hi,rfl⟩ := List.getElem?_eq_some_iff.1 h
 unfold xNu
 have hl : ((l.take i).map f).length = i := by simp; omega
 rw [List.set_append_right _ _ (by omega),hl,Nat.sub_self,List.drop_eq_getElem_cons hi,List.set_cons_zero,List.take_succ_eq_append_getElem hi,List.map_append,List.append_assoc]
 rfl
theorem xTk {α : Type} (f : α → α) {l : List α} {i : Nat} {x : α} (h : l[i]? = some x) : (xNu f l i)[i]? = some x := by
 obtain ⟨hi,rfl⟩ := List.getElem?_eq_some_iff.1 h
 unfold xNu
 have hl : ((l.take i).map f).length = i := by simp; omega
 rw [List.getElem?_append_right (by omega),hl,Nat.sub_self,List.getElem?_drop]
 simp
set_option maxHeartbeats 4000000 in
theorem xWn {o : Nat} {F : List Nd} (hal : ∀ n ∈ F,n.args.length ≤ 1000) (hF : F.length ≤ 1000) : ∀ k i,i + k = F.length → ∀ (G : Heap) (lo : List (Nd × Nat)),Ow xBn Nd.args G o lo → lo.map (·.1) = xNu (pN a b) F i →
  ∃ (G' : Heap) (lo' : List (Nd × Nat)),L.loop xNe xYH ⟨F90 V (.own false o 0 F.length 6) v14 a b i,G⟩ = some (.exit 0,⟨F90 V (.own false o 0 F.length 6) v14 a b F.length,G'⟩) ∧
   Ow xBn Nd.args G' o lo' ∧ lo'.map (·.1) = F.map (pN a b) ∧ lo'.map (·.2) = lo.map (·.2) ∧ ∀ x,(∀ p ∈ lo,x ≠ p.2) → G'[x]? = G[x]? := by
 intro k
 induction k with
 | zero =>
  intro i hi G lo hw hm
  obtain rfl : i = F.length := by omega
  refine ⟨G,lo,?_,hw,by rw [hm]; simp [xNu],rfl,fun _ _ => rfl⟩
  rw [xZq]
  simp (maxSteps := 30000000) (disch := first | assumption | omega | (simp only [WZ,AV.isCell] <;> omega) | rfl | decide) only [xUS,WB,↓reduceIte,xUT]
 | succ k ih =>
  intro i hi G lo hw hm
  have hlt : i < F.length := by omega
  have hltI : ((i : Nat) : Int) < (F.length : Nat) := by omega
  have hFi : F[i]? = some F[i] := List.getElem?_eq_getElem hlt
  have hlen : lo.length = F.length := by
   have := congrArg List.length hm
   simp [xNu] at this; omega
  have hli : i < lo.length := by omega
  have hpi : lo[i]? = some lo[i] := List.getElem?_eq_getElem hli
  have hp1 : lo[i].1 = F[i] := by
   have := xTk (pN a b) hFi
   rw [← hm,List.getElem?_map,hpi] at this
   exact Option.some.inj this
  have hbl := hw.bl lo[i] (List.getElem_mem hli)
  rw [hp1] at hbl
  have h37 := xJs (a := a) (b := b) hbl.2 (by have := hal F[i] (List.getElem_mem hlt); omega)
  have hput := hw.put hpi (pN a b F[i]) (by rw [hp1]; exact List.length_map _) (by
   show xBn (pN a b F[i]) lo[i].2 = xBn lo[i].1 lo[i].2
   rw [hp1]
   unfold xBn xQo
   have : (pN a b F[i]).args.length = F[i].args.length := List.length_map _
   rw [this]; rfl)
  obtain ⟨G',lo',e1,w1,m1,q1,k1⟩ := ih (i + 1) (by omega) (G.set lo[i].2 (xGv (F[i].args.map (swI a b)))) (lo.set i (pN a b F[i],lo[i].2)) hput (by rw [List.map_set,hm]; exact xPa (pN a b) hFi)
  refine ⟨G',lo',?_,w1,m1,by rw [q1,xHR hpi],fun x hx => ?_⟩
  ·have hfl := xTj (j := 2) xBv (by decide) hpi
   rw [hp1] at hfl
   have hfl : List.take 1 (List.drop (i * 6 + 2) (ons xBn lo)) = [xQo lo[i].2 F[i].args] := hfl
   have hnl := xDa xBv lo
   have go := hw.go
   rw [hlen] at hnl
   have h37 : L.icall (.func 37 []) [.own (F[i].args.length == 0) lo[i].2 0 F[i].args.length 1,.int .i64 (a : Nat),.int .i64 (b : Nat)] G = _ := h37
   unfold xQo at hfl
   clear hw hput
   generalize ons xBn lo = L1 at *
   generalize xGv (F[i].args.map (swI a b)) = B2 at *
   generalize F[i].args.length = m at *
   generalize lo[i].2 = kk at *
   rw [xZq]
   simp (maxSteps := 30000000) (disch := first | assumption | omega | (simp only [WZ,AV.isCell] <;> omega) | rfl | decide) only [xUS,WB,hltI,↓reduceIte,go,hfl,h37,xUT,e1]
  ·rw [k1 x (fun p hp => ?_),xB2 (Ne.symm (hx _ (List.getElem_mem hli)))]
   rcases List.mem_or_eq_of_mem_set hp with hp | rfl
   ·exact hx p hp
   ·exact hx lo[i] (List.getElem_mem hli)
abbrev F91 (V v13 v14 : AV) (a b i : Nat) : List AV := xSw V (.int .i64 (a : Nat)) (.int .i64 (b : Nat)) v13 v14 (.int .i64 (i : Nat))
set_option maxHeartbeats 4000000 in
theorem xZX {o : Nat} {F : List Ev} (hal : ∀ n ∈ F,n.args.length ≤ 1000) (hF : F.length ≤ 1000) : ∀ k i,i + k = F.length → ∀ (G : Heap) (lo : List (Ev × Nat)),Ow evO Ev.args G o lo → lo.map (·.1) = xNu (pE a b) F i →
  ∃ (G' : Heap) (lo' : List (Ev × Nat)),L.loop xQb xZr ⟨F91 V v13 (.own false o 0 F.length 2) a b i,G⟩ = some (.exit 2,⟨F91 V v13 (.own false o 0 F.length 2) a b F.length,G'⟩) ∧
   Ow evO Ev.args G' o lo' ∧ lo'.map (·.1) = F.map (pE a b) ∧ lo'.map (·.2) = lo.map (·.2) ∧ ∀ x,(∀ p ∈ lo,x ≠ p.2) → G'[x]? = G[x]? := by
 intro k
 induction k with
 | zero =>
  intro i hi G lo hw hm
  obtain rfl : i = F.length := by omega
  refine ⟨G,lo,?_,hw,by rw [hm]; simp [xNu],rfl,fun _ _ => rfl⟩
  rw [xXr]
  simp (maxSteps := 30000000) (disch := first | assumption | omega | (simp only [WZ,AV.isCell] <;> omega) | rfl | decide) only [xSv,WB,↓reduceIte,xUU]
 | succ k ih =>
  intro i hi G lo hw hm
  have hlt : i < F.length := by omega
  have hltI : ((i : Nat) : Int) < (F.length : Nat) := by omega
  have hFi : F[i]? = some F[i] := List.getElem?_eq_getElem hlt
  have hlen : lo.length = F.length := by
   have := congrArg List.length hm
   simp [xNu] at this; omega
  have hli : i < lo.length := by omega
  have hpi : lo[i]? = some lo[i] := List.getElem?_eq_getElem hli
  have hp1 : lo[i].1 = F[i] := by
   have := xTk (pE a b) hFi
   rw [← hm,List.getElem?_map,hpi] at this
   exact Option.some.inj this
  have hbl := hw.bl lo[i] (List.getElem_mem hli)
  rw [hp1] at hbl
  have h37 := xJs (a := a) (b := b) hbl.2 (by have := hal F[i] (List.getElem_mem hlt); omega)
  have hput := hw.put hpi (pE a b F[i]) (by rw [hp1]; exact List.length_map _) (by
   show evO (pE a b F[i]) lo[i].2 = evO lo[i].1 lo[i].2
   rw [hp1]
   unfold evO xQo
   have : (pE a b F[i]).args.length = F[i].args.length := List.length_map _
   rw [this]; rfl)
  obtain ⟨G',lo',e1,w1,m1,q1,k1⟩ := ih (i + 1) (by omega) (G.set lo[i].2 (xGv (F[i].args.map (swI a b)))) (lo.set i (pE a b F[i],lo[i].2)) hput (by rw [List.map_set,hm]; exact xPa (pE a b) hFi)
  refine ⟨G',lo',?_,w1,m1,by rw [q1,xHR hpi],fun x hx => ?_⟩
  ·have hfl := xTj (j := 1) xFM (by decide) hpi
   rw [hp1] at hfl
   have hfl : List.take 1 (List.drop (i * 2 + 1) (ons evO lo)) = [xQo lo[i].2 F[i].args] := hfl
   have hnl := xDa xFM lo
   have go := hw.go
   rw [hlen] at hnl
   have h37 : L.icall (.func 37 []) [.own (F[i].args.length == 0) lo[i].2 0 F[i].args.length 1,.int .i64 (a : Nat),.int .i64 (b : Nat)] G = _ := h37
   unfold xQo at hfl
   clear hw hput
   generalize ons evO lo = L1 at *
   generalize xGv (F[i].args.map (swI a b)) = B2 at *
   generalize F[i].args.length = m at *
   generalize lo[i].2 = kk at *
   rw [xXr]
   simp (maxSteps := 30000000) (disch := first | assumption | omega | (simp only [WZ,AV.isCell] <;> omega) | rfl | decide) only [xSv,WB,hltI,↓reduceIte,go,hfl,h37,xUU,e1]
  ·rw [k1 x (fun p hp => ?_),xB2 (Ne.symm (hx _ (List.getElem_mem hli)))]
   rcases List.mem_or_eq_of_mem_set hp with hp | rfl
   ·exact hx p hp
   ·exact hx lo[i] (List.getElem_mem hli)
end
end Go.Abs.Events
