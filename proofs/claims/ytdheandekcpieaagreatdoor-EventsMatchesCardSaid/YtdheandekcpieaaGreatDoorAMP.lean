/- What a formula means at a time; a monitor answers it. -/
import Derived.Test.YtdheandekcpieaaGreatDoorAME
import Derived.Test.YtdheandekcpieaaGreatDoorAbsPars
import Derived.Lib.Join
import Derived.Test.YtdheandekcpieaaGreatDoorAbsBun
namespace Go.Abs.Events
open Go Go.Abs
set_option maxHeartbeats 8000000
set_option linter.unusedSimpArgs false
set_option linter.unusedVariables false
def evF (n : Nd) (e : Ev) (A B was : Q) : Q :=
 if n.op = 1 then fun _ => true
 else if n.op = 2 then (if n.name = e.name ∧ n.args.length = e.args.length then fun j => mat j n.args e.args else fQ)
 else if n.op = 3 then fun j => tvs (n.args.getD 0 0) j == tvs (n.args.getD 1 0) j
 else if n.op = 4 then fun j => !A j
 else if n.op = 5 then fun j => A j && B j
 else if n.op = 6 then fun j => A j || B j
 else if n.op = 7 then exQ n.x.toNat A
 else if n.op = 8 then was
 else if n.op = 9 then fun j => B j || (A j && was j)
 else fun j => A j || was j
theorem yEN (n : Nd) (e : Ev) (qs : List Q) (was : Q) : evN n e qs was = evF n e (qs.getD n.a.toNat fQ) (qs.getD n.b.toNat fQ) was := rfl
def xLf (n : Nd) (E : List Ev) (A B : Nat → Q) : Nat → Q
 | 0 => fQ
 | t + 1 => if n.op = 8 then A t else evF n (E.getD t ev0) (A t) (B t) (xLf n E A B t)
def sem (fs : List Nd) (E : List Ev) : Nat → Nat → Nat → Q
 | 0,_,_ => fQ
 | k + 1,i,t => evF (fs.getD i nd0) (E.getD t ev0) (sem fs E k (fs.getD i nd0).a.toNat t) (sem fs E k (fs.getD i nd0).b.toNat t) (xLf (fs.getD i nd0) E (sem fs E k (fs.getD i nd0).a.toNat) (sem fs E k (fs.getD i nd0).b.toNat) t)
section
variable {n : Nd} {e : Ev} {A B w : Q}
theorem yGr (h : n.op = 1) : evF n e A B w = fun _ => true := by unfold evF; simp only [h,Nat.reduceEqDiff,if_true,if_false]
theorem yGs (h : n.op = 2) : evF n e A B w = (if n.name = e.name ∧ n.args.length = e.args.length then fun j => mat j n.args e.args else fQ) := by unfold evF; simp only [h,Nat.reduceEqDiff,if_true,if_false]
theorem yGt (h : n.op = 3) : evF n e A B w = fun j => tvs (n.args.getD 0 0) j == tvs (n.args.getD 1 0) j := by unfold evF; simp only [h,Nat.reduceEqDiff,if_true,if_false]
theorem yGu (h : n.op = 4) : evF n e A B w = fun j => !A j := by unfold evF; simp only [h,Nat.reduceEqDiff,if_true,if_false]
theorem yGv (h : n.op = 5) : evF n e A B w = fun j => A j && B j := by unfold evF; simp only [h,Nat.reduceEqDiff,if_true,if_false]
theorem yGw (h : n.op = 6) : evF n e A B w = fun j => A j || B j := by unfold evF; simp only [h,Nat.reduceEqDiff,if_true,if_false]
theorem yGx (h : n.op = 7) : evF n e A B w = exQ n.x.toNat A := by unfold evF; simp only [h,Nat.reduceEqDiff,if_true,if_false]
theorem yGy (h : n.op = 8) : evF n e A B w = w := by unfold evF; simp only [h,Nat.reduceEqDiff,if_true,if_false]
theorem yFh (h : n.op = 9) : evF n e A B w = fun j => B j || (A j && w j) := by unfold evF; simp only [h,Nat.reduceEqDiff,if_true,if_false]
theorem yCV (h : n.op = 10) : evF n e A B w = fun j => A j || w j := by unfold evF; simp only [h,Nat.reduceEqDiff,if_true,if_false]
end
theorem xXa {n : Nd} {e : Ev} {A A' B B' w w' : Q} (ho : 1 ≤ n.op ∧ n.op ≤ 10) (ha : 1 ≤ chn n.op → A = A') (hb : chn n.op = 2 → B = B') (hw : tmp n.op = true → w = w') : evF n e A B w = evF n e A' B' w' := by
 have : n.op = 1 ∨ n.op = 2 ∨ n.op = 3 ∨ n.op = 4 ∨ n.op = 5 ∨ n.op = 6 ∨ n.op = 7 ∨ n.op = 8 ∨ n.op = 9 ∨ n.op = 10 := by omega
 unfold evF
 rcases this with h | h | h | h | h | h | h | h | h | h <;> rw [h] at ha hb hw ⊢ <;> simp [chn,tmp] at ha hb hw ⊢ <;> simp [*]
theorem xU3 {n : Nd} {E : List Ev} {A A' B B' : Nat → Q} (ho : 1 ≤ n.op ∧ n.op ≤ 10) (ha : 1 ≤ chn n.op → A = A') (hb : chn n.op = 2 → B = B') (ht : tmp n.op = true) : ∀ t,xLf n E A B t = xLf n E A' B' t
 | 0 => rfl
 | t + 1 => by
  have hc : 1 ≤ chn n.op := by
   unfold tmp at ht
   simp at ht
   rcases ht with (h | h) | h <;> rw [h] <;> decide
  rw [xLf,xLf]
  have h1 := ha hc
  have ih := xU3 (E := E) ho ha hb ht t
  subst h1
  rw [xXa ho (fun _ => rfl) (fun h => congrFun (hb h) t) (fun _ => ih)]
section
variable {fs : List Nd} {E : List Ev}
theorem xGO (hV : ∀ j,j < fs.length → Vn j (fs.getD j nd0)) : ∀ (k i m : Nat),i < k → i < m → i < fs.length → sem fs E k i = sem fs E m i
 | 0,_,_,h,_,_ => absurd h (by omega)
 | k + 1,i,0,_,h,_ => absurd h (by omega)
 | k + 1,i,m + 1,h1,h2,hi => by
  have hv := hV i hi
  have ha : 1 ≤ chn (fs.getD i nd0).op → sem fs E k (fs.getD i nd0).a.toNat = sem fs E m (fs.getD i nd0).a.toNat := fun h => by
   have := hv.ca h
   exact xGO hV k _ m (by omega) (by omega) (by omega)
  have hb : chn (fs.getD i nd0).op = 2 → sem fs E k (fs.getD i nd0).b.toNat = sem fs E m (fs.getD i nd0).b.toNat := fun h => by
   have := hv.cb h
   exact xGO hV k _ m (by omega) (by omega) (by omega)
  funext t
  rw [sem,sem]
  exact xXa hv.op (fun h => congrFun (ha h) t) (fun h => congrFun (hb h) t) (fun h => xU3 hv.op ha hb h t)
def S (fs : List Nd) (E : List Ev) (i t : Nat) : Q := sem fs E (i + 1) i t
def W (fs : List Nd) (E : List Ev) (i t : Nat) : Q := xLf (fs.getD i nd0) E (S fs E (fs.getD i nd0).a.toNat) (S fs E (fs.getD i nd0).b.toNat) t
theorem xQp {f : Nat → Q} {i a : Nat} (h : a < i) : ((List.range i).map f).getD a fQ = f a := by
 rw [List.getD_eq_getElem?_getD,List.getElem?_map,List.getElem?_range h]; rfl
theorem yEO (hV : ∀ j,j < fs.length → Vn j (fs.getD j nd0)) {i : Nat} (hi : i < fs.length) (t : Nat) : S fs E i t = evF (fs.getD i nd0) (E.getD t ev0) (S fs E (fs.getD i nd0).a.toNat t) (S fs E (fs.getD i nd0).b.toNat t) (W fs E i t) := by
 have hv := hV i hi
 have ha : 1 ≤ chn (fs.getD i nd0).op → sem fs E i (fs.getD i nd0).a.toNat = S fs E (fs.getD i nd0).a.toNat := fun h => by
  have := hv.ca h
  exact xGO hV _ _ _ (by omega) (by omega) (by omega)
 have hb : chn (fs.getD i nd0).op = 2 → sem fs E i (fs.getD i nd0).b.toNat = S fs E (fs.getD i nd0).b.toNat := fun h => by
  have := hv.cb h
  exact xGO hV _ _ _ (by omega) (by omega) (by omega)
 show sem fs E (i + 1) i t = _
 rw [sem]
 exact xXa hv.op (fun h => congrFun (ha h) t) (fun h => congrFun (hb h) t) (fun h => xU3 hv.op ha hb h t)
theorem S_N (hV : ∀ j,j < fs.length → Vn j (fs.getD j nd0)) {i : Nat} (hi : i < fs.length) (t : Nat) (w : Q) (hw : tmp (fs.getD i nd0).op = true → w = W fs E i t) : evN (fs.getD i nd0) (E.getD t ev0) ((List.range i).map fun a => S fs E a t) w = S fs E i t := by
 have hv := hV i hi
 rw [yEO hV hi,yEN]
 refine xXa hv.op (fun h => ?_) (fun h => ?_) hw
 ·have := hv.ca h
  exact xQp (by omega)
 ·have := hv.cb h
  exact xQp (by omega)
def tlR : List Nd → Nat → List Nat
 | [],_ => []
 | n :: r,p => if tmp n.op = true then p :: tlR r (p + 1) else tlR r (p + 1)
theorem xU4 : ∀ (l : List Nd) (p : Nat),(tlR l p).length = nT l
 | [],_ => rfl
 | n :: r,p => by
  have ih := xU4 r (p + 1)
  unfold nT at ih ⊢
  rw [tlR,List.filter_cons]
  split <;> simp [ih]
theorem xNo {α : Type} {l r : List α} {p : Nat} {n d : α} (h : l.drop p = n :: r) : l.getD p d = n ∧ p < l.length ∧ l.drop (p + 1) = r := by
 have hp : p < l.length := by
  by_cases c : p < l.length
  ·exact c
  ·rw [List.drop_eq_nil_of_le (by omega)] at h; cases h
 rw [List.drop_eq_getElem_cons hp] at h
 have h1 := (List.cons.inj h).1
 have h2 := (List.cons.inj h).2
 exact ⟨by rw [List.getD_eq_getElem?_getD,List.getElem?_eq_getElem hp]; exact h1,hp,h2⟩
theorem xNp (hV : ∀ j,j < fs.length → Vn j (fs.getD j nd0)) (t : Nat) : ∀ (rest : List Nd) (p : Nat),fs.drop p = rest → p ≤ fs.length →
  xEH (E.getD t ev0) rest ((List.range p).map fun a => S fs E a t) ((tlR rest p).map fun i => W fs E i t) = ((List.range fs.length).map fun a => S fs E a t,(tlR rest p).map fun i => W fs E i (t + 1))
 | [],p,h,hp => by
  have : fs.length ≤ p := by
   by_cases c : fs.length ≤ p
   ·exact c
   ·rw [List.drop_eq_getElem_cons (by omega)] at h; cases h
  rw [show p = fs.length by omega]; rfl
 | n :: r,p,h,hp => by
  obtain ⟨h1,h2,h3⟩ := xNo (d := nd0) h
  have ih := xNp hV t r (p + 1) h3 (by omega)
  rw [List.range_succ,List.map_append] at ih
  rw [xEH]
  by_cases c : tmp n.op = true
  ·rw [if_pos c,tlR,if_pos c]
   have hq := S_N (E := E) hV h2 t (W fs E p t) (fun _ => rfl)
   rw [h1] at hq
   show (_,_ :: _) = _
   rw [List.map_cons,List.headD_cons,List.tail_cons,hq]
   have ih' : xEH (E.getD t ev0) r ((List.range p).map (fun a => S fs E a t) ++ [S fs E p t]) ((tlR r (p + 1)).map fun i => W fs E i t) = _ := ih
   rw [ih',List.map_cons]
   have hk : xEI n ((List.range p).map fun a => S fs E a t) (S fs E p t) = W fs E p (t + 1) := by
    have hv := hV p h2
    unfold xEI W
    rw [h1] at hv ⊢
    rw [xLf]
    by_cases c8 : n.op = 8
    ·rw [if_pos c8,if_pos c8,xQp]
     have := hv.ca (by rw [c8]; decide)
     omega
    ·rw [if_neg c8,if_neg c8,yEO hV h2,h1]
     unfold W
     rw [h1]
   rw [hk]
  ·rw [if_neg c,tlR,if_neg c]
   have hq := S_N (E := E) hV h2 t fQ (fun h => by rw [h1] at h; exact absurd h c)
   rw [h1] at hq
   rw [hq]
   exact ih
theorem xYh (hV : ∀ j,j < fs.length → Vn j (fs.getD j nd0)) (h0 : 0 < fs.length) : ∀ (es : List Ev) (t : Nat),E.drop t = es →
  vQL fs es ((tlR fs 0).map fun i => W fs E i t) = (List.range' t es.length).map fun t => S fs E (fs.length - 1) t 0
 | [],_,_ => rfl
 | e :: es,t,h => by
  obtain ⟨h1,h2,h3⟩ := xNo (d := ev0) h
  have hs := xNp (E := E) hV t fs 0 rfl (by omega)
  rw [h1] at hs
  have hs' : xEH e fs [] ((tlR fs 0).map fun i => W fs E i t) = _ := hs
  rw [vQL,hs',List.length_cons,List.range'_succ,List.map_cons]
  show _ :: vQL fs es ((tlR fs 0).map fun i => W fs E i (t + 1)) = _
  rw [xYh hV h0 es (t + 1) h3,xQp (by omega)]
theorem yAD (hV : ∀ j,j < fs.length → Vn j (fs.getD j nd0)) (h0 : 0 < fs.length) (E : List Ev) : vQL fs E (List.replicate (nT fs) fQ) = (List.range E.length).map fun t => S fs E (fs.length - 1) t 0 := by
 have h := xYh (E := E) hV h0 E 0 rfl
 have hz : ((tlR fs 0).map fun i => W fs E i 0) = List.replicate (nT fs) fQ := by
  rw [← xU4 fs 0]
  exact List.map_const' (l := tlR fs 0) (b := fQ)
 rw [hz] at h
 rw [h,List.range_eq_range']
theorem yCW (hV : ∀ j,j < fs.length → Vn j (fs.getD j nd0)) (h0 : 0 < fs.length) (E : List Ev) : vL fs E (zr (nT fs)) = (List.range E.length).map fun t => S fs E (fs.length - 1) t 0 := by
 rw [yDk,yDj,yAD hV h0]
end
end Go.Abs.Events
/- The text of a formula,in plain words; formulas as trees. -/
namespace Go.Abs.Events
set_option linter.unusedSimpArgs false
set_option linter.unusedVariables false
def spB (t : Int) : UInt8 := if t = 8 then 120 else if t = 9 then 121 else if t = 10 then 122 else UInt8.ofNat (48 + t.toNat)
def nmB (t : Int) : UInt8 := UInt8.ofNat (97 + t.toNat)
def wrp (op : Nat) (s : List UInt8) : List UInt8 := if op = 1 then s else 40 :: (s ++ [41])
def hdW (n : Nd) : List (List UInt8) := opB n.op :: ((if n.op = 2 then [[nmB n.name]] else []) ++ ((if n.op = 7 then [[spB n.x]] else []) ++ n.args.map fun t => [spB t]))
inductive Tr where
 | t0 (n : Nd)
 | t1 (n : Nd) (a : Tr)
 | t2 (n : Nd) (a b : Tr)
def Tr.sz : Tr → Nat
 | .t0 _ => 1
 | .t1 _ a => a.sz + 1
 | .t2 _ a b => a.sz + b.sz + 1
def Tr.tt : Tr → List UInt8
 | .t0 n => wrp n.op (Lib.join (hdW n ++ []) [32])
 | .t1 n a => wrp n.op (Lib.join (hdW n ++ [a.tt]) [32])
 | .t2 n a b => wrp n.op (Lib.join (hdW n ++ [a.tt,b.tt]) [32])
def Tr.nd (p : Nat) : Tr → List Nd
 | .t0 n => [⟨n.op,n.name,n.args.isEmpty,n.args,n.x,0,0⟩]
 | .t1 n a => a.nd p ++ [⟨n.op,n.name,n.args.isEmpty,n.args,n.x,((p + a.sz : Nat) : Int) - 1,0⟩]
 | .t2 n a b => a.nd p ++ b.nd (p + a.sz) ++ [⟨n.op,n.name,n.args.isEmpty,n.args,n.x,((p + a.sz : Nat) : Int) - 1,((p + a.sz + b.sz : Nat) : Int) - 1⟩]
structure Hd (n : Nd) : Prop where
 op : 1 ≤ n.op ∧ n.op ≤ 10
 nm : 0 ≤ n.name ∧ n.name ≤ 7
 nm0 : n.op ≠ 2 → n.name = 0
 x : n.op = 7 → 8 ≤ n.x ∧ n.x ≤ 10
 x0 : n.op ≠ 7 → n.x = 0
 lo : flo n.op ≤ n.args.length
 hi : n.args.length ≤ fhi n.op
 ar : ∀ t ∈ n.args,0 ≤ t ∧ t ≤ 10
def Tr.ok : Tr → Prop
 | .t0 n => Hd n ∧ chn n.op = 0
 | .t1 n a => Hd n ∧ chn n.op = 1 ∧ a.ok
 | .t2 n a b => Hd n ∧ chn n.op = 2 ∧ a.ok ∧ b.ok
theorem Tr.sz_pos : ∀ t : Tr,1 ≤ t.sz
 | .t0 n => Nat.le_refl _
 | .t1 n a => by unfold Tr.sz; omega
 | .t2 n a b => by unfold Tr.sz; omega
end Go.Abs.Events
/- The parser reads a tree's text. -/
namespace Go.Abs.Events
set_option linter.unusedSimpArgs false
set_option linter.unusedVariables false
def jt (T : List (List UInt8)) : List UInt8 := Lib.joinTail [32] T
def aT (us : List Int) : List UInt8 := us.flatMap fun t => [32,spB t]
theorem xYi : jt [] = [] := rfl
theorem xU5 (a : List UInt8) : jt [a] = 32 :: a := by simp [jt,Lib.joinTail]
theorem yCX (a b : List UInt8) : jt [a,b] = 32 :: (a ++ 32 :: b) := by simp [jt,Lib.joinTail]
theorem xQq (a b : List (List UInt8)) : jt (a ++ b) = jt a ++ jt b := by simp [jt,Lib.joinTail]
theorem xU6 : ∀ us : List Int,jt (us.map fun t => [spB t]) = aT us
 | [] => rfl
 | t :: us => by
  rw [List.map_cons,show ([spB t] :: us.map fun t => [spB t]) = [[spB t]] ++ us.map fun t => [spB t] from rfl,xQq,xU6 us,xU5]; rfl
theorem xNq (n : Nd) (T : List (List UInt8)) : Lib.join (hdW n ++ T) [32] = opB n.op ++ ((if n.op = 2 then [32,nmB n.name] else []) ++ ((if n.op = 7 then [32,spB n.x] else []) ++ (aT n.args ++ jt T))) := by
 unfold hdW
 rw [List.cons_append,Lib.join_cons]
 congr 1
 show jt _ = _
 rw [xQq,xQq,xQq,xU6,List.append_assoc,List.append_assoc]
 congr 1
 ·split <;> rfl
 congr 1
 split <;> rfl
theorem xU7 (t : Int) (us : List Int) : aT (t :: us) = 32 :: spB t :: aT us := rfl
def Nd.w (n : Nd) (a b : Int) : Nd := ⟨n.op,n.name,n.args.isEmpty,n.args,n.x,a,b⟩
abbrev zS (b : List UInt8) : AV := .str ⟨b.toArray⟩
def sts (l : List (List UInt8)) : List AV := l.map zS
theorem xAX (l : List (List UInt8)) : (sts l).length = l.length := by simp [sts]
theorem xBc (l : List (List UInt8)) : List.take l.length (sts l) = sts l := List.take_of_length_le (by rw [xAX]; omega)
theorem xCc (a b : List (List UInt8)) : sts a ++ sts b = sts (a ++ b) := by simp [sts]
theorem xFq (a : List (List UInt8)) (b : List UInt8) : sts a ++ [zS b] = sts (a ++ [b]) := by simp [sts]
def yEP (H : Heap) (v : AV) (lo hi : Option AV) : Option (AV × Heap) := match v with
 | .str s => (xBh s.size lo hi none).map fun (l,h) => (.str (s.extract l h),H)
 | _ => none
theorem xCZ {R : Rec} {F : List AV} {H : Heap} (x : Arg) (lo hi : Option Arg) : xAc R F H (.sslice x lo hi) = yEP H (opv F x) (lo.map (opv F)) (hi.map (opv F)) := rfl
def xQr (H : Heap) (v w : AV) : Option (AV × Heap) := match v,w with
 | .str s,.str t => if s.size + t.size ≤ 9223372036854775807 then some (.str ⟨⟨s.data.toList ++ t.data.toList⟩⟩,H) else none
 | _,_ => none
theorem xCx {R : Rec} {F : List AV} {H : Heap} (x y : Arg) : xAc R F H (.sadd x y) = xQr H (opv F x) (opv F y) := rfl
theorem xDW {a b : List UInt8} (H : Heap) (ha : a.length ≤ 1000000) (hb : b.length ≤ 1000000) : xQr H (zS a) (zS b) = some (zS (a ++ b),H) := by
 unfold xQr
 simp only
 rw [if_pos (by show a.toArray.size + b.toArray.size ≤ _; simp; omega)]
theorem xU8 {t : Int} (H : Heap) (h0 : 0 ≤ t) (h1 : t ≤ 10) : yEP H (.str ⟨#[48,49,50,51,52,53,54,55,120,121,122]⟩) (some (.int .i64 t)) (some (.int .i64 (t + 1))) = some (zS [spB t],H) := by
 have h : t = 0 ∨ t = 1 ∨ t = 2 ∨ t = 3 ∨ t = 4 ∨ t = 5 ∨ t = 6 ∨ t = 7 ∨ t = 8 ∨ t = 9 ∨ t = 10 := by omega
 rcases h with rfl | rfl | rfl | rfl | rfl | rfl | rfl | rfl | rfl | rfl | rfl <;> rfl
theorem xU9 {t : Int} (H : Heap) (h0 : 0 ≤ t) (h1 : t ≤ 7) : yEP H (.str ⟨#[97,98,99,100,101,102,103,104]⟩) (some (.int .i64 t)) (some (.int .i64 (t + 1))) = some (zS [nmB t],H) := by
 have h : t = 0 ∨ t = 1 ∨ t = 2 ∨ t = 3 ∨ t = 4 ∨ t = 5 ∨ t = 6 ∨ t = 7 := by omega
 rcases h with rfl | rfl | rfl | rfl | rfl | rfl | rfl | rfl <;> rfl
section
variable {s5 s7 s8 s19 s20 s21 : AV} {ts : List Int} {z : Bool} {B : Nat}
theorem xEL (har : ∀ t ∈ ts,0 ≤ t ∧ t ≤ 10) (hl : ts.length ≤ 100) : ∀ k i,i + k = ts.length → ∀ (G : Heap) (ow m : Nat) (W : List (List UInt8)),B ≤ ow → B ≤ G.length → W.length = m → m + k ≤ 1000 → G[ow]? = some (.cells false false (sts W)) →
  ∃ (G' : Heap) (ow' : Nat),L.loop xMF xWn ⟨xMG s5 s7 s8 (.own false ow 0 m 1) s19 s20 s21 (.sl z ts.length (xAB ts)) (.int .i64 (ts.length : Nat)) (.int .i64 (i : Nat)),G⟩ =
   some (.exit 2,⟨xMG s5 s7 s8 (.own false ow' 0 (m + k) 1) s19 s20 s21 (.sl z ts.length (xAB ts)) (.int .i64 (ts.length : Nat)) (.int .i64 (ts.length : Nat)),G'⟩) ∧
   B ≤ ow' ∧ G'[ow']? = some (.cells false false (sts (W ++ (ts.drop i).map fun t => [spB t]))) ∧ Kp B G G' := by
 intro k
 induction k with
 | zero =>
  intro i hi G ow m W hB hG hW hm go
  obtain rfl : i = ts.length := by omega
  refine ⟨G,ow,?_,hB,by simpa using go,.refl _ _⟩
  rw [xXR]
  simp (maxSteps := 30000000) (disch := first|exact D5|fail) only [xPJ,WB,↓reduceIte,xFb]
 | succ k ih =>
  intro i hi G ow m W hB hG hW hm go
  have hlt : i < ts.length := by omega
  have hltI : ((i : Nat) : Int) < (ts.length : Nat) := by omega
  have em : ts.drop i = ts.getD i 0 :: ts.drop (i + 1) := xB9 hlt
  have hm' : ts.getD i 0 ∈ ts := by rw [List.getD_eq_getElem?_getD,List.getElem?_eq_getElem hlt]; exact List.getElem_mem hlt
  have hr := har _ hm'
  rw [em]
  generalize hN : ts.getD i 0 = t at *
  have lo := xA4 go
  have hnl := xAX W
  have hnt := xBc W
  have happ := xFq W [spB t]
  rw [hW] at hnl hnt
  obtain ⟨G',ow',e1,b1,g1,k1⟩ := ih (i + 1) (by omega) (G.set ow .dead ++ [.cells false false (sts (W ++ [[spB t]]))]) G.length (m + 1) (W ++ [[spB t]]) (by omega) (by simp; omega) (by simp [hW]) (by omega)
   (by rw [List.getElem?_append_right (by simp),List.length_set,Nat.sub_self]; rfl)
  refine ⟨G',ow',?_,b1,by simpa using g1,((Kp.set hB).trans (Kp.appB _ _ (by simpa using hG))).trans k1⟩
  have hs := fun H => xU8 H hr.1 hr.2
  rw [show m + (k + 1) = m + 1 + k by omega]
  generalize sts (W ++ [[spB t]]) = L2 at *
  generalize sts W = L1 at *
  rw [xXR]
  simp (maxSteps := 30000000) (disch := first|exact D5|fail) only [xPJ,WB,hltI,↓reduceIte,W2,hN,xCZ,hs,AV.cells,AV.isCell,go,Nat.reduceBEq,hnt,happ,xFb,e1]
end
theorem xYj (op : Nat) : AV.str (fnm op) = zS (opB op) := by
 unfold fnm opB
 repeat' split
 all_goals rfl
def xAD (n : Nd) : List Nat := if chn n.op = 2 then [n.a.toNat,n.b.toNat] else if chn n.op = 1 then [n.a.toNat] else []
theorem xCJ (n : Nd) : (xAD n).length = chn n.op := by
 unfold xAD
 rcases xAG n.op with h | h | h <;> simp [h]
def tx (fs : List Nd) : Nat → Nat → List UInt8
 | 0,_ => []
 | k + 1,i => wrp (fs.getD i nd0).op (Lib.join (hdW (fs.getD i nd0) ++ (xAD (fs.getD i nd0)).map (tx fs k)) [32])
def txt (fs : List Nd) (i : Nat) : List UInt8 := tx fs (i + 1) i
theorem xK7 {n : Nd} {i : Nat} (h : Vn i n) : ∀ j ∈ xAD n,j < i := by
 intro j hj
 have ha := h.ca
 have hb := h.cb
 unfold xAD at hj
 split at hj
 ·rename_i e
  have := ha (by omega)
  have := hb e
  rcases List.mem_cons.1 hj with rfl | hj
  ·omega
  ·obtain rfl := List.mem_singleton.1 hj; omega
 ·split at hj
  ·rename_i e
   have := ha (by omega)
   obtain rfl := List.mem_singleton.1 hj; omega
  ·cases hj
theorem yAE {fs : List Nd} (hV : ∀ j,j < fs.length → Vn j (fs.getD j nd0)) : ∀ i,i < fs.length → ∀ k,i < k → tx fs k i = txt fs i := by
 intro i
 induction i using Nat.strongRecOn with
 | _ i ih =>
  intro hi k hk
  obtain ⟨k,rfl⟩ : ∃ k',k = k' + 1 := ⟨k - 1,by omega⟩
  unfold txt tx
  congr 3
  refine List.map_congr_left fun j hj => ?_
  have hj' := xK7 (hV i hi) j hj
  rw [ih j hj' (by omega) k (by omega),ih j hj' (by omega) i (by omega)]
theorem xVa {fs : List Nd} (hV : ∀ j,j < fs.length → Vn j (fs.getD j nd0)) {i : Nat} (hi : i < fs.length) : txt fs i = wrp (fs.getD i nd0).op (Lib.join (hdW (fs.getD i nd0) ++ (xAD (fs.getD i nd0)).map (txt fs)) [32]) := by
 conv => lhs; unfold txt tx
 congr 3
 exact List.map_congr_left fun j hj => yAE hV j (by have := xK7 (hV i hi) j hj; omega) i (xK7 (hV i hi) j hj)
inductive Bk (os : List Nat) : Nat → List Nat → Prop
 | nil : Bk os 0 []
 | snoc {i j : Nat} {S : List Nat} (h : Bk os i S) (hj : i ≤ j) (hs : os.getD j 0 = j + 1 - i) : Bk os (j + 1) (S ++ [j])
theorem Bk.inv {os : List Nat} {i : Nat} {S : List Nat} (h : Bk os i S) : (i = 0 ∧ S = []) ∨ ∃ j i' S',i = j + 1 ∧ S = S' ++ [j] ∧ Bk os i' S' ∧ i' ≤ j ∧ os.getD j 0 = j + 1 - i' := by
 cases h with
 | nil => exact .inl ⟨rfl,rfl⟩
 | snoc h hj hs => exact .inr ⟨_,_,_,rfl,rfl,h,hj,hs⟩
theorem Bk.lt {os : List Nat} {i : Nat} {S : List Nat} (h : Bk os i S) : ∀ j ∈ S,j < i := by
 induction h with
 | nil => intro j hj; cases hj
 | snoc h hj hs ih =>
  intro k hk
  rcases List.mem_append.1 hk with hk | hk
  ·have := ih k hk; omega
  ·obtain rfl := List.mem_singleton.1 hk; omega
theorem Bk.len {os : List Nat} {i : Nat} {S : List Nat} (h : Bk os i S) : S.length ≤ i := by
 induction h with
 | nil => simp
 | snoc h hj hs ih => simp; omega
theorem Bk.app {os : List Nat} {i : Nat} {S : List Nat} (x : Nat) (h : Bk os i S) : i ≤ os.length → Bk (os ++ [x]) i S := by
 induction h with
 | nil => exact fun _ => .nil
 | @snoc i j S h hj hs ih =>
  intro hl
  refine .snoc (ih (by omega)) hj ?_
  rw [List.getD_eq_getElem?_getD,List.getElem?_append_left (by omega),← List.getD_eq_getElem?_getD]
  exact hs
theorem Bk.top {os : List Nat} {i : Nat} {S : List Nat} (h : Bk os i S) (hi : 0 < i) : ∃ S',S = S' ++ [i - 1] ∧ Bk os (i - os.getD (i - 1) 0) S' ∧ os.getD (i - 1) 0 ≤ i ∧ 0 < os.getD (i - 1) 0 := by
 rcases h.inv with ⟨rfl,rfl⟩ | ⟨j,i',S',rfl,rfl,h',hj,hs⟩
 ·omega
 ·refine ⟨S',by simp,?_,?_,?_⟩
  ·rw [Nat.add_sub_cancel,hs,show j + 1 - (j + 1 - i') = i' by omega]; exact h'
  ·rw [Nat.add_sub_cancel,hs]; omega
  ·rw [Nat.add_sub_cancel,hs]; omega
theorem xCy (os : List Nat) (x : Nat) : (os ++ [x]).getD os.length 0 = x := by
 rw [List.getD_eq_getElem?_getD,List.getElem?_append_right (Nat.le_refl _),Nat.sub_self]; rfl
theorem Bk.step {os : List Nat} {S : List Nat} {n : Nd} (h : Bk os os.length S) (hz : szN n os ≠ 0) :
  ∃ S',S = S' ++ xAD n ∧ Bk (os ++ [szN n os]) (os.length + 1) (S' ++ [os.length]) ∧ szN n os = 1 + ((xAD n).map fun j => os.getD j 0).sum := by
 rcases xAG n.op with hc | hc | hc
 ·have hk : xAD n = [] := by unfold xAD; rw [hc]; rfl
  have hs : szN n os = 1 := by
   unfold szN at hz ⊢
   rw [if_pos hc] at hz ⊢
   split at hz
   ·rename_i q; rw [if_pos q]
   ·exact absurd rfl hz
  refine ⟨S,by rw [hk,List.append_nil],.snoc (h.app _ (Nat.le_refl _)) (Nat.le_refl _) ?_,by rw [hk,hs]; rfl⟩
  rw [xCy,hs]; omega
 ·have hs0 := hz
  unfold szN at hz
  rw [if_neg (by omega)] at hz
  split at hz
  ·exact absurd rfl hz
  rename_i h1
  rw [not_or] at h1
  split at hz
  case isFalse => exact absurd rfl hz
  rename_i h2
  obtain ⟨S',rfl,h',hle,hpos⟩ := h.top (by omega)
  have hk : xAD n = [os.length - 1] := by unfold xAD; rw [if_neg (by omega),if_pos hc,h2.1]; rfl
  have hs : szN n os = 1 + os.getD (os.length - 1) 0 := by
   unfold szN
   rw [if_neg (by omega),if_neg (by rw [not_or]; exact h1),if_pos hc,if_pos h2]
  refine ⟨S',by rw [hk],.snoc (h'.app _ (by omega)) (by omega) ?_,by rw [hk,hs]; rfl⟩
  rw [xCy,hs]; omega
 ·unfold szN at hz
  rw [if_neg (by omega)] at hz
  split at hz
  ·exact absurd rfl hz
  rename_i h1
  rw [not_or] at h1
  rw [if_neg (by omega)] at hz
  split at hz
  ·exact absurd rfl hz
  rename_i h2
  rw [not_or] at h2
  split at hz
  case isFalse => exact absurd rfl hz
  rename_i h3
  obtain ⟨S',rfl,h',hle,hpos⟩ := h.top (by omega)
  obtain ⟨S'',rfl,h'',hle',hpos'⟩ := h'.top (by omega)
  have hk : xAD n = [os.length - os.getD (os.length - 1) 0 - 1,os.length - 1] := by unfold xAD; rw [if_pos hc,h3.1,h3.2]; rfl
  have hs : szN n os = 1 + os.getD (os.length - 1) 0 + os.getD (os.length - os.getD (os.length - 1) 0 - 1) 0 := by
   unfold szN
   rw [if_neg (by omega),if_neg (by rw [not_or]; exact h1),if_neg (by omega),if_neg (by rw [not_or]; exact h2),if_pos h3]
  refine ⟨S'',by rw [hk]; simp,.snoc (h''.app _ (by omega)) (by omega) ?_,by rw [hk,hs]; simp; omega⟩
  rw [xCy,hs]; omega
abbrev xIl : Prop := ∀ W : List (List UInt8),1 ≤ W.length → W.length ≤ 1000 → (Lib.join W [32]).length ≤ 1000000 → L.pcall 34 [.sl false W.length (sts W),.str ⟨#[32]⟩] = some (zS (Lib.join W [32]))
abbrev F38 (fz : Bool) (fs : List Nd) (v : AV) (i : Nat) : List AV := xHA v (.sl fz fs.length (nds fs)) (.int .i64 (fs.length : Nat)) (.int .i64 (i : Nat))
theorem xDX (d : Nat) (H : Heap) : ∀ l : List (List UInt8),(sts l).mapM (frz (d + 1) H) = some (sts l)
 | [] => rfl
 | b :: l => by
  have : sts (b :: l) = zS b :: sts l := rfl
  rw [this,List.mapM_cons,xDX d H l]
  rfl
section
variable {fz : Bool} {fs : List Nd} {n : Nd} {i : Nat}
theorem xVb (hJ : xIl) (hl : fs.length ≤ 64) (hlt : i < fs.length) (hn : fs.getD i nd0 = n) (hv : Vn i n) (h1 : n.op ≠ 1) (h2 : n.op ≠ 2) (h7 : n.op ≠ 7) {S' : List Nat} (hS : S'.length ≤ 64)
  (hjl : (Lib.join (hdW n ++ (xAD n).map (txt fs)) [32]).length ≤ 100000) (ht : txt fs i = wrp n.op (Lib.join (hdW n ++ (xAD n).map (txt fs)) [32])) {o : Nat} {G : Heap}
  (go : G[o]? = some (.cells false false (sts ((S' ++ xAD n).map (txt fs))))) :
  ∃ G' o',L.loop xBk xCa ⟨F38 fz fs (.own false o 0 (S' ++ xAD n).length 1) i,G⟩ = L.loop xBk xCa ⟨F38 fz fs (.own false o' 0 (S'.length + 1) 1) (i + 1),G'⟩ ∧ G'[o']? = some (.cells false false (sts ((S' ++ [i]).map (txt fs)))) := by
 have hltI : ((i : Nat) : Int) < (fs.length : Nat) := by omega
 have hf := xCP n.op
 unfold foC at hf
 have b2 : decide (n.op = 2) = false := by simp [h2]
 have b7 : decide (n.op = 7) = false := by simp [h7]
 rw [b2,b7] at hf
 have lo := xA4 go
 obtain ⟨G1,ow,e1,b1,g1,k1⟩ := xEL (s5 := .own false o 0 (S' ++ xAD n).length 1) (s7 := .ptr G.length 0) (s8 := .ptr (G.length + 1) 0) (s19 := .sl fz fs.length (nds fs)) (s20 := .int .i64 (fs.length : Nat)) (s21 := .int .i64 (i : Nat)) (z := n.z) (B := G.length + 2) hv.ar hv.al n.args.length 0 (by omega)
  (G ++ [.cells false false n.c,.cells false false [.str (fnm n.op),.int .i64 (chn n.op : Nat),.int .i64 (flo n.op : Nat),.int .i64 (fhi n.op : Nat),.bool false,.bool false],.cells false false (sts [opB n.op])]) (G.length + 2) 1 [opB n.op] (by omega) (by simp) rfl (by have := hv.al; omega)
  (by rw [List.getElem?_append_right (by omega),show G.length + 2 - G.length = 2 by omega]; rfl)
 have hx1 : G1[G.length]? = some (.cells false false n.c) := by rw [k1.2 _ (by omega),List.getElem?_append_right (Nat.le_refl _),Nat.sub_self]; rfl
 have hx2 : G1[G.length + 1]? = some (.cells false false [.str (fnm n.op),.int .i64 (chn n.op : Nat),.int .i64 (flo n.op : Nat),.int .i64 (fhi n.op : Nat),.bool false,.bool false]) := by rw [k1.2 _ (by omega),List.getElem?_append_right (by omega),show G.length + 1 - G.length = 1 by omega]; rfl
 have go1 : G1[o]? = some (.cells false false (sts ((S' ++ xAD n).map (txt fs)))) := by rw [k1.2 _ (by omega),List.getElem?_append_left lo]; exact go
 have lo1 := xA4 go1
 have hlen := k1.1
 have low := xA4 g1
 have hnv : xA2 n.z n.args = .sl n.z n.args.length (xAB n.args) := rfl
 have hkl := xCJ n
 have hWl : (hdW n ++ (xAD n).map (txt fs)).length = 1 + n.args.length + chn n.op := by unfold hdW; rw [if_neg h2,if_neg h7]; simp [hkl]; omega
 have hJ' := hJ _ (by rw [hWl]; omega) (by rw [hWl,← hkl]; have := hv.al; have := xAG n.op; omega) (Nat.le_trans hjl (by decide))
 have hg1 : [opB n.op] ++ (n.args.drop 0).map (fun t => [spB t]) = hdW n := by unfold hdW; rw [if_neg h2,if_neg h7]; rfl
 rw [hg1] at g1
 have hh1 := xAX (hdW n)
 have hWl1 : (hdW n).length = 1 + n.args.length := by unfold hdW; rw [if_neg h2,if_neg h7]; simp; omega
 have hh2 := xBc (hdW n)
 rw [hWl1] at hh1 hh2
 have happ1 := xCc (hdW n) ((xAD n).map (txt fs))
 have hlw := xAX (hdW n ++ (xAD n).map (txt fs))
 have htw := xBc (hdW n ++ (xAD n).map (txt fs))
 rw [hWl] at hJ' hlw htw
 have htl := xAX ((S' ++ xAD n).map (txt fs))
 have htk : List.take S'.length (sts ((S' ++ xAD n).map (txt fs))) = sts (S'.map (txt fs)) := by
  rw [List.map_append,← xCc,List.take_left' (by simp [xAX])]
 have htd : List.drop S'.length (sts ((S' ++ xAD n).map (txt fs))) = sts ((xAD n).map (txt fs)) := by
  rw [List.map_append,← xCc,List.drop_left' (by simp [xAX])]
 have hkt := xBc ((xAD n).map (txt fs))
 rw [List.length_map,hkl] at hkt
 have happ2 := xFq (S'.map (txt fs)) (txt fs i)
 rw [show S'.map (txt fs) ++ [txt fs i] = (S' ++ [i]).map (txt fs) by simp] at happ2
 have hSl : (S' ++ xAD n).length = S'.length + chn n.op := by rw [List.length_append,hkl]
 rw [List.length_map,hSl] at htl
 rw [hSl] at e1 ⊢
 have hsub : ((S'.length + chn n.op : Nat) : Int) - (chn n.op : Nat) = (S'.length : Nat) := by omega
 have hsubN : S'.length + chn n.op - S'.length = chn n.op := by omega
 have hle : S'.length ≤ S'.length + chn n.op := by omega
 have hfr := fun d H => xDX d H (hdW n ++ (xAD n).map (txt fs))
 have hwr : wrp n.op (Lib.join (hdW n ++ (xAD n).map (txt fs)) [32]) = 40 :: (Lib.join (hdW n ++ (xAD n).map (txt fs)) [32] ++ [41]) := by unfold wrp; rw [if_neg h1]
 rw [hwr] at ht
 rw [ht] at happ2
 have hs1 : ∀ H,xQr H (zS [40]) (zS (Lib.join (hdW n ++ (xAD n).map (txt fs)) [32])) = some (zS (40 :: Lib.join (hdW n ++ (xAD n).map (txt fs)) [32]),H) := fun H => xDW (a := [40]) H (by decide) (by omega)
 have hs2 : ∀ H,xQr H (zS (40 :: Lib.join (hdW n ++ (xAD n).map (txt fs)) [32])) (zS [41]) = some (zS (40 :: (Lib.join (hdW n ++ (xAD n).map (txt fs)) [32] ++ [41])),H) := fun H => xDW (b := [41]) H (by simp; omega) (by decide)
 have hc1 : (((n.op : Nat) : Int) = 1) = False := by simp; omega
 have hbd := xAG n.op
 have hal := hv.al
 have hwd : sts [opB n.op] = [.str (fnm n.op)] := by rw [xYj]; rfl
 rw [hwd,show ((0 : Nat) : Int) = 0 from rfl] at e1
 generalize Lib.join (hdW n ++ (xAD n).map (txt fs)) [32] = J at *
 generalize sts (hdW n ++ (xAD n).map (txt fs)) = LW at *
 generalize sts (hdW n) = LH at *
 generalize sts ((xAD n).map (txt fs)) = LK at *
 generalize sts ((S' ++ xAD n).map (txt fs)) = LT at *
 generalize sts ((S' ++ [i]).map (txt fs)) = LN at *
 generalize sts (S'.map (txt fs)) = LS at *
 clear hJ hg1 hwr ht hkl hWl
 generalize S'.length = a at *
 refine ⟨List.set (List.set G1 ow Blk.dead ++ [Blk.cells false false LW]) o Blk.dead ++ [Blk.cells false false LN],G1.length + 1,?_,by rw [List.getElem?_append_right (by simp)]; simp⟩
 unfold Nd.c at e1 hx1
 rw [hnv] at e1 hx1
 rw [xGp]
 simp (maxSteps := 30000000) (disch := first|exact D5|fail) only [xEm,WB,hltI,↓reduceIte,xAs,Nd.c,hn,hnv,AV.cells,AV.isCell,Nat.reduceAdd,xBq,xBG,hf,xAA,xAm,xH6,xUQ,xFb,e1,hx2,hsub,hsubN,go1,htd,hkt,g1,hh2,happ1,xAR,htw,hfr,hJ',xAS,xBH,hx1,hc1,xCx,hs1,hs2,Nat.reduceBEq,xDp,htk,happ2,xFc]
theorem xVc (hJ : xIl) (hl : fs.length ≤ 64) (hlt : i < fs.length) (hn : fs.getD i nd0 = n) (hv : Vn i n) (h1 : n.op ≠ 1) (h2 : n.op ≠ 2) (h7 : n.op ≠ 7) (hk : xAD n = [])
  (hjl : (Lib.join (hdW n) [32]).length ≤ 100000) (ht : txt fs i = wrp n.op (Lib.join (hdW n) [32])) {G : Heap} :
  ∃ G' o',L.loop xBk xCa ⟨F38 fz fs (.sl true 0 []) i,G⟩ = L.loop xBk xCa ⟨F38 fz fs (.own false o' 0 1 1) (i + 1),G'⟩ ∧ G'[o']? = some (.cells false false (sts [txt fs i])) := by
 have hltI : ((i : Nat) : Int) < (fs.length : Nat) := by omega
 have hf := xCP n.op
 unfold foC at hf
 have b2 : decide (n.op = 2) = false := by simp [h2]
 have b7 : decide (n.op = 7) = false := by simp [h7]
 rw [b2,b7] at hf
 have hc0 : chn n.op = 0 := by rw [← xCJ,hk]; rfl
 rw [hc0,show ((0 : Nat) : Int) = 0 from rfl] at hf
 obtain ⟨G1,ow,e1,b1,g1,k1⟩ := xEL (s5 := .sl true 0 []) (s7 := .ptr G.length 0) (s8 := .ptr (G.length + 1) 0) (s19 := .sl fz fs.length (nds fs)) (s20 := .int .i64 (fs.length : Nat)) (s21 := .int .i64 (i : Nat)) (z := n.z) (B := G.length + 2) hv.ar hv.al n.args.length 0 (by omega)
  (G ++ [.cells false false n.c,.cells false false [.str (fnm n.op),.int .i64 0,.int .i64 (flo n.op : Nat),.int .i64 (fhi n.op : Nat),.bool false,.bool false],.cells false false (sts [opB n.op])]) (G.length + 2) 1 [opB n.op] (by omega) (by simp) rfl (by have := hv.al; omega)
  (by rw [List.getElem?_append_right (by omega),show G.length + 2 - G.length = 2 by omega]; rfl)
 have hx1 : G1[G.length]? = some (.cells false false n.c) := by rw [k1.2 _ (by omega),List.getElem?_append_right (Nat.le_refl _),Nat.sub_self]; rfl
 have hx2 : G1[G.length + 1]? = some (.cells false false [.str (fnm n.op),.int .i64 0,.int .i64 (flo n.op : Nat),.int .i64 (fhi n.op : Nat),.bool false,.bool false]) := by rw [k1.2 _ (by omega),List.getElem?_append_right (by omega),show G.length + 1 - G.length = 1 by omega]; rfl
 have hlen := k1.1
 have low := xA4 g1
 have hnv : xA2 n.z n.args = .sl n.z n.args.length (xAB n.args) := rfl
 have hWl : (hdW n).length = 1 + n.args.length := by unfold hdW; rw [if_neg h2,if_neg h7]; simp; omega
 have hJ' := hJ _ (by rw [hWl]; omega) (by rw [hWl]; have := hv.al; omega) (Nat.le_trans hjl (by decide))
 have hg1 : [opB n.op] ++ (n.args.drop 0).map (fun t => [spB t]) = hdW n := by unfold hdW; rw [if_neg h2,if_neg h7]; rfl
 rw [hg1] at g1
 have hh1 := xAX (hdW n)
 have hWl1 : (hdW n).length = 1 + n.args.length := by unfold hdW; rw [if_neg h2,if_neg h7]; simp; omega
 have hh2 := xBc (hdW n)
 rw [hWl1] at hh1 hh2
 rw [hWl] at hJ'
 have happ2 : sts [txt fs i] = [zS (txt fs i)] := rfl
 rw [happ2]
 have hfr := fun d H => xDX d H (hdW n)
 have hwr : wrp n.op (Lib.join (hdW n) [32]) = 40 :: (Lib.join (hdW n) [32] ++ [41]) := by unfold wrp; rw [if_neg h1]
 rw [hwr] at ht
 rw [ht]
 have hs1 : ∀ H,xQr H (zS [40]) (zS (Lib.join (hdW n) [32])) = some (zS (40 :: Lib.join (hdW n) [32]),H) := fun H => xDW (a := [40]) H (by decide) (by omega)
 have hs2 : ∀ H,xQr H (zS (40 :: Lib.join (hdW n) [32])) (zS [41]) = some (zS (40 :: (Lib.join (hdW n) [32] ++ [41])),H) := fun H => xDW (b := [41]) H (by simp; omega) (by decide)
 have hc1 : (((n.op : Nat) : Int) = 1) = False := by simp; omega
 have hbd := xAG n.op
 have hal := hv.al
 have hwd : sts [opB n.op] = [.str (fnm n.op)] := by rw [xYj]; rfl
 rw [hwd,show ((0 : Nat) : Int) = 0 from rfl] at e1
 generalize Lib.join (hdW n) [32] = J at *
 generalize sts (hdW n) = LH at *
 clear hJ hg1 hwr ht hWl
 refine ⟨List.set G1 ow Blk.dead ++ [Blk.cells false false LH,Blk.cells false false [zS (40 :: (J ++ [41]))]],G1.length + 1,?_,by rw [List.getElem?_append_right (by simp)]; simp⟩
 unfold Nd.c at e1 hx1
 rw [hnv] at e1 hx1
 rw [xGp]
 simp (maxSteps := 30000000) (disch := first|exact D5|fail) only [xEm,WB,hltI,↓reduceIte,xAs,Nd.c,hn,hnv,AV.cells,AV.isCell,Nat.reduceAdd,xBq,xBG,hf,xAA,xAm,xH6,xUQ,xFb,e1,hx2,g1,hh2,xAR,hfr,hJ',xAS,xBH,hx1,hc1,xCx,hs1,hs2,Nat.reduceBEq,xFc]
theorem xVd (hJ : xIl) (hl : fs.length ≤ 64) (hlt : i < fs.length) (hn : fs.getD i nd0 = n) (hv : Vn i n) (h1 : n.op = 1) {S' : List Nat} (hS : S'.length ≤ 64)
  (hjl : (Lib.join (hdW n ++ (xAD n).map (txt fs)) [32]).length ≤ 100000) (ht : txt fs i = wrp n.op (Lib.join (hdW n ++ (xAD n).map (txt fs)) [32])) {o : Nat} {G : Heap}
  (go : G[o]? = some (.cells false false (sts ((S' ++ xAD n).map (txt fs))))) :
  ∃ G' o',L.loop xBk xCa ⟨F38 fz fs (.own false o 0 (S' ++ xAD n).length 1) i,G⟩ = L.loop xBk xCa ⟨F38 fz fs (.own false o' 0 (S'.length + 1) 1) (i + 1),G'⟩ ∧ G'[o']? = some (.cells false false (sts ((S' ++ [i]).map (txt fs)))) := by
 have h2 : n.op ≠ 2 := by omega
 have h7 : n.op ≠ 7 := by omega
 have hltI : ((i : Nat) : Int) < (fs.length : Nat) := by omega
 have hf := xCP n.op
 unfold foC at hf
 have b2 : decide (n.op = 2) = false := by simp [h2]
 have b7 : decide (n.op = 7) = false := by simp [h7]
 rw [b2,b7] at hf
 have lo := xA4 go
 obtain ⟨G1,ow,e1,b1,g1,k1⟩ := xEL (s5 := .own false o 0 (S' ++ xAD n).length 1) (s7 := .ptr G.length 0) (s8 := .ptr (G.length + 1) 0) (s19 := .sl fz fs.length (nds fs)) (s20 := .int .i64 (fs.length : Nat)) (s21 := .int .i64 (i : Nat)) (z := n.z) (B := G.length + 2) hv.ar hv.al n.args.length 0 (by omega)
  (G ++ [.cells false false n.c,.cells false false [.str (fnm n.op),.int .i64 (chn n.op : Nat),.int .i64 (flo n.op : Nat),.int .i64 (fhi n.op : Nat),.bool false,.bool false],.cells false false (sts [opB n.op])]) (G.length + 2) 1 [opB n.op] (by omega) (by simp) rfl (by have := hv.al; omega)
  (by rw [List.getElem?_append_right (by omega),show G.length + 2 - G.length = 2 by omega]; rfl)
 have hx1 : G1[G.length]? = some (.cells false false n.c) := by rw [k1.2 _ (by omega),List.getElem?_append_right (Nat.le_refl _),Nat.sub_self]; rfl
 have hx2 : G1[G.length + 1]? = some (.cells false false [.str (fnm n.op),.int .i64 (chn n.op : Nat),.int .i64 (flo n.op : Nat),.int .i64 (fhi n.op : Nat),.bool false,.bool false]) := by rw [k1.2 _ (by omega),List.getElem?_append_right (by omega),show G.length + 1 - G.length = 1 by omega]; rfl
 have go1 : G1[o]? = some (.cells false false (sts ((S' ++ xAD n).map (txt fs)))) := by rw [k1.2 _ (by omega),List.getElem?_append_left lo]; exact go
 have lo1 := xA4 go1
 have hlen := k1.1
 have low := xA4 g1
 have hnv : xA2 n.z n.args = .sl n.z n.args.length (xAB n.args) := rfl
 have hkl := xCJ n
 have hWl : (hdW n ++ (xAD n).map (txt fs)).length = 1 + n.args.length + chn n.op := by unfold hdW; rw [if_neg h2,if_neg h7]; simp [hkl]; omega
 have hJ' := hJ _ (by rw [hWl]; omega) (by rw [hWl,← hkl]; have := hv.al; have := xAG n.op; omega) (Nat.le_trans hjl (by decide))
 have hg1 : [opB n.op] ++ (n.args.drop 0).map (fun t => [spB t]) = hdW n := by unfold hdW; rw [if_neg h2,if_neg h7]; rfl
 rw [hg1] at g1
 have hh1 := xAX (hdW n)
 have hWl1 : (hdW n).length = 1 + n.args.length := by unfold hdW; rw [if_neg h2,if_neg h7]; simp; omega
 have hh2 := xBc (hdW n)
 rw [hWl1] at hh1 hh2
 have happ1 := xCc (hdW n) ((xAD n).map (txt fs))
 have hlw := xAX (hdW n ++ (xAD n).map (txt fs))
 have htw := xBc (hdW n ++ (xAD n).map (txt fs))
 rw [hWl] at hJ' hlw htw
 have htl := xAX ((S' ++ xAD n).map (txt fs))
 have htk : List.take S'.length (sts ((S' ++ xAD n).map (txt fs))) = sts (S'.map (txt fs)) := by
  rw [List.map_append,← xCc,List.take_left' (by simp [xAX])]
 have htd : List.drop S'.length (sts ((S' ++ xAD n).map (txt fs))) = sts ((xAD n).map (txt fs)) := by
  rw [List.map_append,← xCc,List.drop_left' (by simp [xAX])]
 have hkt := xBc ((xAD n).map (txt fs))
 rw [List.length_map,hkl] at hkt
 have happ2 := xFq (S'.map (txt fs)) (txt fs i)
 rw [show S'.map (txt fs) ++ [txt fs i] = (S' ++ [i]).map (txt fs) by simp] at happ2
 have hSl : (S' ++ xAD n).length = S'.length + chn n.op := by rw [List.length_append,hkl]
 rw [List.length_map,hSl] at htl
 rw [hSl] at e1 ⊢
 have hsub : ((S'.length + chn n.op : Nat) : Int) - (chn n.op : Nat) = (S'.length : Nat) := by omega
 have hsubN : S'.length + chn n.op - S'.length = chn n.op := by omega
 have hle : S'.length ≤ S'.length + chn n.op := by omega
 have hfr := fun d H => xDX d H (hdW n ++ (xAD n).map (txt fs))
 have hwr : wrp n.op (Lib.join (hdW n ++ (xAD n).map (txt fs)) [32]) = Lib.join (hdW n ++ (xAD n).map (txt fs)) [32] := by unfold wrp; rw [if_pos h1]
 rw [hwr] at ht
 rw [ht] at happ2
 have hc1 : (((n.op : Nat) : Int) = 1) = True := by simp; omega
 have hbd := xAG n.op
 have hal := hv.al
 have hwd : sts [opB n.op] = [.str (fnm n.op)] := by rw [xYj]; rfl
 rw [hwd,show ((0 : Nat) : Int) = 0 from rfl] at e1
 generalize Lib.join (hdW n ++ (xAD n).map (txt fs)) [32] = J at *
 generalize sts (hdW n ++ (xAD n).map (txt fs)) = LW at *
 generalize sts (hdW n) = LH at *
 generalize sts ((xAD n).map (txt fs)) = LK at *
 generalize sts ((S' ++ xAD n).map (txt fs)) = LT at *
 generalize sts ((S' ++ [i]).map (txt fs)) = LN at *
 generalize sts (S'.map (txt fs)) = LS at *
 clear hJ hg1 hwr ht hkl hWl
 generalize S'.length = a at *
 refine ⟨List.set (List.set G1 ow Blk.dead ++ [Blk.cells false false LW]) o Blk.dead ++ [Blk.cells false false LN],G1.length + 1,?_,by rw [List.getElem?_append_right (by simp)]; simp⟩
 unfold Nd.c at e1 hx1
 rw [hnv] at e1 hx1
 rw [xGp]
 simp (maxSteps := 30000000) (disch := first|exact D5|fail) only [xEm,WB,hltI,↓reduceIte,xAs,Nd.c,hn,hnv,AV.cells,AV.isCell,Nat.reduceAdd,xBq,xBG,hf,xAA,xAm,xH6,xUQ,xFb,e1,hx2,hsub,hsubN,go1,htd,hkt,g1,hh2,happ1,xAR,htw,hfr,hJ',xAS,xBH,hx1,hc1,Nat.reduceBEq,xDp,htk,happ2,xFc]
theorem xVe (hJ : xIl) (hl : fs.length ≤ 64) (hlt : i < fs.length) (hn : fs.getD i nd0 = n) (hv : Vn i n) (h1 : n.op = 1) (hk : xAD n = [])
  (hjl : (Lib.join (hdW n) [32]).length ≤ 100000) (ht : txt fs i = wrp n.op (Lib.join (hdW n) [32])) {G : Heap} :
  ∃ G' o',L.loop xBk xCa ⟨F38 fz fs (.sl true 0 []) i,G⟩ = L.loop xBk xCa ⟨F38 fz fs (.own false o' 0 1 1) (i + 1),G'⟩ ∧ G'[o']? = some (.cells false false (sts [txt fs i])) := by
 have h2 : n.op ≠ 2 := by omega
 have h7 : n.op ≠ 7 := by omega
 have hltI : ((i : Nat) : Int) < (fs.length : Nat) := by omega
 have hf := xCP n.op
 unfold foC at hf
 have b2 : decide (n.op = 2) = false := by simp [h2]
 have b7 : decide (n.op = 7) = false := by simp [h7]
 rw [b2,b7] at hf
 have hc0 : chn n.op = 0 := by rw [← xCJ,hk]; rfl
 rw [hc0,show ((0 : Nat) : Int) = 0 from rfl] at hf
 obtain ⟨G1,ow,e1,b1,g1,k1⟩ := xEL (s5 := .sl true 0 []) (s7 := .ptr G.length 0) (s8 := .ptr (G.length + 1) 0) (s19 := .sl fz fs.length (nds fs)) (s20 := .int .i64 (fs.length : Nat)) (s21 := .int .i64 (i : Nat)) (z := n.z) (B := G.length + 2) hv.ar hv.al n.args.length 0 (by omega)
  (G ++ [.cells false false n.c,.cells false false [.str (fnm n.op),.int .i64 0,.int .i64 (flo n.op : Nat),.int .i64 (fhi n.op : Nat),.bool false,.bool false],.cells false false (sts [opB n.op])]) (G.length + 2) 1 [opB n.op] (by omega) (by simp) rfl (by have := hv.al; omega)
  (by rw [List.getElem?_append_right (by omega),show G.length + 2 - G.length = 2 by omega]; rfl)
 have hx1 : G1[G.length]? = some (.cells false false n.c) := by rw [k1.2 _ (by omega),List.getElem?_append_right (Nat.le_refl _),Nat.sub_self]; rfl
 have hx2 : G1[G.length + 1]? = some (.cells false false [.str (fnm n.op),.int .i64 0,.int .i64 (flo n.op : Nat),.int .i64 (fhi n.op : Nat),.bool false,.bool false]) := by rw [k1.2 _ (by omega),List.getElem?_append_right (by omega),show G.length + 1 - G.length = 1 by omega]; rfl
 have hlen := k1.1
 have low := xA4 g1
 have hnv : xA2 n.z n.args = .sl n.z n.args.length (xAB n.args) := rfl
 have hWl : (hdW n).length = 1 + n.args.length := by unfold hdW; rw [if_neg h2,if_neg h7]; simp; omega
 have hJ' := hJ _ (by rw [hWl]; omega) (by rw [hWl]; have := hv.al; omega) (Nat.le_trans hjl (by decide))
 have hg1 : [opB n.op] ++ (n.args.drop 0).map (fun t => [spB t]) = hdW n := by unfold hdW; rw [if_neg h2,if_neg h7]; rfl
 rw [hg1] at g1
 have hh1 := xAX (hdW n)
 have hWl1 : (hdW n).length = 1 + n.args.length := by unfold hdW; rw [if_neg h2,if_neg h7]; simp; omega
 have hh2 := xBc (hdW n)
 rw [hWl1] at hh1 hh2
 rw [hWl] at hJ'
 have happ2 : sts [txt fs i] = [zS (txt fs i)] := rfl
 rw [happ2]
 have hfr := fun d H => xDX d H (hdW n)
 have hwr : wrp n.op (Lib.join (hdW n) [32]) = Lib.join (hdW n) [32] := by unfold wrp; rw [if_pos h1]
 rw [hwr] at ht
 rw [ht]
 have hc1 : (((n.op : Nat) : Int) = 1) = True := by simp; omega
 have hbd := xAG n.op
 have hal := hv.al
 have hwd : sts [opB n.op] = [.str (fnm n.op)] := by rw [xYj]; rfl
 rw [hwd,show ((0 : Nat) : Int) = 0 from rfl] at e1
 generalize Lib.join (hdW n) [32] = J at *
 generalize sts (hdW n) = LH at *
 clear hJ hg1 hwr ht hWl
 refine ⟨List.set G1 ow Blk.dead ++ [Blk.cells false false LH,Blk.cells false false [zS J]],G1.length + 1,?_,by rw [List.getElem?_append_right (by simp)]; simp⟩
 unfold Nd.c at e1 hx1
 rw [hnv] at e1 hx1
 rw [xGp]
 simp (maxSteps := 30000000) (disch := first|exact D5|fail) only [xEm,WB,hltI,↓reduceIte,xAs,Nd.c,hn,hnv,AV.cells,AV.isCell,Nat.reduceAdd,xBq,xBG,hf,xAA,xAm,xH6,xUQ,xFb,e1,hx2,g1,hh2,xAR,hfr,hJ',xAS,xBH,hx1,hc1,Nat.reduceBEq,xFc]
theorem xVf (hJ : xIl) (hl : fs.length ≤ 64) (hlt : i < fs.length) (hn : fs.getD i nd0 = n) (hv : Vn i n) (h2 : n.op = 2) (hnm : 0 ≤ n.name ∧ n.name ≤ 7) {S' : List Nat} (hS : S'.length ≤ 64)
  (hjl : (Lib.join (hdW n ++ (xAD n).map (txt fs)) [32]).length ≤ 100000) (ht : txt fs i = wrp n.op (Lib.join (hdW n ++ (xAD n).map (txt fs)) [32])) {o : Nat} {G : Heap}
  (go : G[o]? = some (.cells false false (sts ((S' ++ xAD n).map (txt fs))))) :
  ∃ G' o',L.loop xBk xCa ⟨F38 fz fs (.own false o 0 (S' ++ xAD n).length 1) i,G⟩ = L.loop xBk xCa ⟨F38 fz fs (.own false o' 0 (S'.length + 1) 1) (i + 1),G'⟩ ∧ G'[o']? = some (.cells false false (sts ((S' ++ [i]).map (txt fs)))) := by
 have h1 : n.op ≠ 1 := by omega
 have h7 : n.op ≠ 7 := by omega
 have hsl := fun H => xU9 H hnm.1 hnm.2
 have hltI : ((i : Nat) : Int) < (fs.length : Nat) := by omega
 have hf := xCP n.op
 unfold foC at hf
 have b2 : decide (n.op = 2) = true := by simp [h2]
 have b7 : decide (n.op = 7) = false := by simp [h7,h2]
 rw [b2,b7] at hf
 have lo := xA4 go
 obtain ⟨G1,ow,e1,b1,g1,k1⟩ := xEL (s5 := .own false o 0 (S' ++ xAD n).length 1) (s7 := .ptr G.length 0) (s8 := .ptr (G.length + 1) 0) (s19 := .sl fz fs.length (nds fs)) (s20 := .int .i64 (fs.length : Nat)) (s21 := .int .i64 (i : Nat)) (z := n.z) (B := G.length + 2) hv.ar hv.al n.args.length 0 (by omega)
  (G ++ [.cells false false n.c,.cells false false [.str (fnm n.op),.int .i64 (chn n.op : Nat),.int .i64 (flo n.op : Nat),.int .i64 (fhi n.op : Nat),.bool true,.bool false],.dead,.cells false false (sts [opB n.op,[nmB n.name]])]) (G.length + 3) 2 [opB n.op,[nmB n.name]] (by omega) (by simp) rfl (by have := hv.al; omega)
  (by rw [List.getElem?_append_right (by omega),show G.length + 3 - G.length = 3 by omega]; rfl)
 have hx1 : G1[G.length]? = some (.cells false false n.c) := by rw [k1.2 _ (by omega),List.getElem?_append_right (Nat.le_refl _),Nat.sub_self]; rfl
 have hx2 : G1[G.length + 1]? = some (.cells false false [.str (fnm n.op),.int .i64 (chn n.op : Nat),.int .i64 (flo n.op : Nat),.int .i64 (fhi n.op : Nat),.bool true,.bool false]) := by rw [k1.2 _ (by omega),List.getElem?_append_right (by omega),show G.length + 1 - G.length = 1 by omega]; rfl
 have go1 : G1[o]? = some (.cells false false (sts ((S' ++ xAD n).map (txt fs)))) := by rw [k1.2 _ (by omega),List.getElem?_append_left lo]; exact go
 have lo1 := xA4 go1
 have hlen := k1.1
 have low := xA4 g1
 have hnv : xA2 n.z n.args = .sl n.z n.args.length (xAB n.args) := rfl
 have hkl := xCJ n
 have hWl : (hdW n ++ (xAD n).map (txt fs)).length = 2 + n.args.length + chn n.op := by unfold hdW; rw [if_pos h2,if_neg h7]; simp [hkl]; omega
 have hJ' := hJ _ (by rw [hWl]; omega) (by rw [hWl,← hkl]; have := hv.al; have := xAG n.op; omega) (Nat.le_trans hjl (by decide))
 have hg1 : [opB n.op,[nmB n.name]] ++ (n.args.drop 0).map (fun t => [spB t]) = hdW n := by unfold hdW; rw [if_pos h2,if_neg h7]; rfl
 rw [hg1] at g1
 have hh1 := xAX (hdW n)
 have hWl1 : (hdW n).length = 2 + n.args.length := by unfold hdW; rw [if_pos h2,if_neg h7]; simp; omega
 have hh2 := xBc (hdW n)
 rw [hWl1] at hh1 hh2
 have happ1 := xCc (hdW n) ((xAD n).map (txt fs))
 have hlw := xAX (hdW n ++ (xAD n).map (txt fs))
 have htw := xBc (hdW n ++ (xAD n).map (txt fs))
 rw [hWl] at hJ' hlw htw
 have htl := xAX ((S' ++ xAD n).map (txt fs))
 have htk : List.take S'.length (sts ((S' ++ xAD n).map (txt fs))) = sts (S'.map (txt fs)) := by
  rw [List.map_append,← xCc,List.take_left' (by simp [xAX])]
 have htd : List.drop S'.length (sts ((S' ++ xAD n).map (txt fs))) = sts ((xAD n).map (txt fs)) := by
  rw [List.map_append,← xCc,List.drop_left' (by simp [xAX])]
 have hkt := xBc ((xAD n).map (txt fs))
 rw [List.length_map,hkl] at hkt
 have happ2 := xFq (S'.map (txt fs)) (txt fs i)
 rw [show S'.map (txt fs) ++ [txt fs i] = (S' ++ [i]).map (txt fs) by simp] at happ2
 have hSl : (S' ++ xAD n).length = S'.length + chn n.op := by rw [List.length_append,hkl]
 rw [List.length_map,hSl] at htl
 rw [hSl] at e1 ⊢
 have hsub : ((S'.length + chn n.op : Nat) : Int) - (chn n.op : Nat) = (S'.length : Nat) := by omega
 have hsubN : S'.length + chn n.op - S'.length = chn n.op := by omega
 have hle : S'.length ≤ S'.length + chn n.op := by omega
 have hfr := fun d H => xDX d H (hdW n ++ (xAD n).map (txt fs))
 have hwr : wrp n.op (Lib.join (hdW n ++ (xAD n).map (txt fs)) [32]) = 40 :: (Lib.join (hdW n ++ (xAD n).map (txt fs)) [32] ++ [41]) := by unfold wrp; rw [if_neg h1]
 rw [hwr] at ht
 rw [ht] at happ2
 have hs1 : ∀ H,xQr H (zS [40]) (zS (Lib.join (hdW n ++ (xAD n).map (txt fs)) [32])) = some (zS (40 :: Lib.join (hdW n ++ (xAD n).map (txt fs)) [32]),H) := fun H => xDW (a := [40]) H (by decide) (by omega)
 have hs2 : ∀ H,xQr H (zS (40 :: Lib.join (hdW n ++ (xAD n).map (txt fs)) [32])) (zS [41]) = some (zS (40 :: (Lib.join (hdW n ++ (xAD n).map (txt fs)) [32] ++ [41])),H) := fun H => xDW (b := [41]) H (by simp; omega) (by decide)
 have hc1 : (((n.op : Nat) : Int) = 1) = False := by simp; omega
 have hbd := xAG n.op
 have hal := hv.al
 have hwd : sts [opB n.op,[nmB n.name]] = [.str (fnm n.op),zS [nmB n.name]] := by rw [xYj]; rfl
 rw [hwd,show ((0 : Nat) : Int) = 0 from rfl] at e1
 generalize Lib.join (hdW n ++ (xAD n).map (txt fs)) [32] = J at *
 generalize sts (hdW n ++ (xAD n).map (txt fs)) = LW at *
 generalize sts (hdW n) = LH at *
 generalize sts ((xAD n).map (txt fs)) = LK at *
 generalize sts ((S' ++ xAD n).map (txt fs)) = LT at *
 generalize sts ((S' ++ [i]).map (txt fs)) = LN at *
 generalize sts (S'.map (txt fs)) = LS at *
 clear hJ hg1 hwr ht hkl hWl
 generalize S'.length = a at *
 refine ⟨List.set (List.set G1 ow Blk.dead ++ [Blk.cells false false LW]) o Blk.dead ++ [Blk.cells false false LN],G1.length + 1,?_,by rw [List.getElem?_append_right (by simp)]; simp⟩
 unfold Nd.c at e1 hx1
 rw [hnv] at e1 hx1
 rw [xGp]
 simp (maxSteps := 30000000) (disch := first|exact D5|fail) only [xEm,WB,hltI,↓reduceIte,xAs,Nd.c,hn,hnv,AV.cells,AV.isCell,Nat.reduceAdd,xBq,xBG,hf,xAA,xAm,xH6,xUQ,xCZ,hsl,Nat.reduceBEq,xFb,e1,hx2,hsub,hsubN,go1,htd,hkt,g1,hh2,happ1,xAR,htw,hfr,hJ',xAS,xBH,hx1,hc1,xCx,hs1,hs2,xDp,htk,happ2,xFc]
theorem xVg (hJ : xIl) (hl : fs.length ≤ 64) (hlt : i < fs.length) (hn : fs.getD i nd0 = n) (hv : Vn i n) (h2 : n.op = 2) (hnm : 0 ≤ n.name ∧ n.name ≤ 7) (hk : xAD n = [])
  (hjl : (Lib.join (hdW n) [32]).length ≤ 100000) (ht : txt fs i = wrp n.op (Lib.join (hdW n) [32])) {G : Heap} :
  ∃ G' o',L.loop xBk xCa ⟨F38 fz fs (.sl true 0 []) i,G⟩ = L.loop xBk xCa ⟨F38 fz fs (.own false o' 0 1 1) (i + 1),G'⟩ ∧ G'[o']? = some (.cells false false (sts [txt fs i])) := by
 have h1 : n.op ≠ 1 := by omega
 have h7 : n.op ≠ 7 := by omega
 have hsl := fun H => xU9 H hnm.1 hnm.2
 have hltI : ((i : Nat) : Int) < (fs.length : Nat) := by omega
 have hf := xCP n.op
 unfold foC at hf
 have b2 : decide (n.op = 2) = true := by simp [h2]
 have b7 : decide (n.op = 7) = false := by simp [h7,h2]
 rw [b2,b7] at hf
 have hc0 : chn n.op = 0 := by rw [← xCJ,hk]; rfl
 rw [hc0,show ((0 : Nat) : Int) = 0 from rfl] at hf
 obtain ⟨G1,ow,e1,b1,g1,k1⟩ := xEL (s5 := .sl true 0 []) (s7 := .ptr G.length 0) (s8 := .ptr (G.length + 1) 0) (s19 := .sl fz fs.length (nds fs)) (s20 := .int .i64 (fs.length : Nat)) (s21 := .int .i64 (i : Nat)) (z := n.z) (B := G.length + 2) hv.ar hv.al n.args.length 0 (by omega)
  (G ++ [.cells false false n.c,.cells false false [.str (fnm n.op),.int .i64 0,.int .i64 (flo n.op : Nat),.int .i64 (fhi n.op : Nat),.bool true,.bool false],.dead,.cells false false (sts [opB n.op,[nmB n.name]])]) (G.length + 3) 2 [opB n.op,[nmB n.name]] (by omega) (by simp) rfl (by have := hv.al; omega)
  (by rw [List.getElem?_append_right (by omega),show G.length + 3 - G.length = 3 by omega]; rfl)
 have hx1 : G1[G.length]? = some (.cells false false n.c) := by rw [k1.2 _ (by omega),List.getElem?_append_right (Nat.le_refl _),Nat.sub_self]; rfl
 have hx2 : G1[G.length + 1]? = some (.cells false false [.str (fnm n.op),.int .i64 0,.int .i64 (flo n.op : Nat),.int .i64 (fhi n.op : Nat),.bool true,.bool false]) := by rw [k1.2 _ (by omega),List.getElem?_append_right (by omega),show G.length + 1 - G.length = 1 by omega]; rfl
 have hlen := k1.1
 have low := xA4 g1
 have hnv : xA2 n.z n.args = .sl n.z n.args.length (xAB n.args) := rfl
 have hWl : (hdW n).length = 2 + n.args.length := by unfold hdW; rw [if_pos h2,if_neg h7]; simp; omega
 have hJ' := hJ _ (by rw [hWl]; omega) (by rw [hWl]; have := hv.al; omega) (Nat.le_trans hjl (by decide))
 have hg1 : [opB n.op,[nmB n.name]] ++ (n.args.drop 0).map (fun t => [spB t]) = hdW n := by unfold hdW; rw [if_pos h2,if_neg h7]; rfl
 rw [hg1] at g1
 have hh1 := xAX (hdW n)
 have hWl1 : (hdW n).length = 2 + n.args.length := by unfold hdW; rw [if_pos h2,if_neg h7]; simp; omega
 have hh2 := xBc (hdW n)
 rw [hWl1] at hh1 hh2
 rw [hWl] at hJ'
 have happ2 : sts [txt fs i] = [zS (txt fs i)] := rfl
 rw [happ2]
 have hfr := fun d H => xDX d H (hdW n)
 have hwr : wrp n.op (Lib.join (hdW n) [32]) = 40 :: (Lib.join (hdW n) [32] ++ [41]) := by unfold wrp; rw [if_neg h1]
 rw [hwr] at ht
 rw [ht]
 have hs1 : ∀ H,xQr H (zS [40]) (zS (Lib.join (hdW n) [32])) = some (zS (40 :: Lib.join (hdW n) [32]),H) := fun H => xDW (a := [40]) H (by decide) (by omega)
 have hs2 : ∀ H,xQr H (zS (40 :: Lib.join (hdW n) [32])) (zS [41]) = some (zS (40 :: (Lib.join (hdW n) [32] ++ [41])),H) := fun H => xDW (b := [41]) H (by simp; omega) (by decide)
 have hc1 : (((n.op : Nat) : Int) = 1) = False := by simp; omega
 have hbd := xAG n.op
 have hal := hv.al
 have hwd : sts [opB n.op,[nmB n.name]] = [.str (fnm n.op),zS [nmB n.name]] := by rw [xYj]; rfl
 rw [hwd,show ((0 : Nat) : Int) = 0 from rfl] at e1
 generalize Lib.join (hdW n) [32] = J at *
 generalize sts (hdW n) = LH at *
 clear hJ hg1 hwr ht hWl
 refine ⟨List.set G1 ow Blk.dead ++ [Blk.cells false false LH,Blk.cells false false [zS (40 :: (J ++ [41]))]],G1.length + 1,?_,by rw [List.getElem?_append_right (by simp)]; simp⟩
 unfold Nd.c at e1 hx1
 rw [hnv] at e1 hx1
 rw [xGp]
 simp (maxSteps := 30000000) (disch := first|exact D5|fail) only [xEm,WB,hltI,↓reduceIte,xAs,Nd.c,hn,hnv,AV.cells,AV.isCell,Nat.reduceAdd,xBq,xBG,hf,xAA,xAm,xH6,xUQ,xCZ,hsl,Nat.reduceBEq,xFb,e1,hx2,g1,hh2,xAR,hfr,hJ',xAS,xBH,hx1,hc1,xCx,hs1,hs2,xFc]
theorem xVh (hJ : xIl) (hl : fs.length ≤ 64) (hlt : i < fs.length) (hn : fs.getD i nd0 = n) (hv : Vn i n) (h7 : n.op = 7) {S' : List Nat} (hS : S'.length ≤ 64)
  (hjl : (Lib.join (hdW n ++ (xAD n).map (txt fs)) [32]).length ≤ 100000) (ht : txt fs i = wrp n.op (Lib.join (hdW n ++ (xAD n).map (txt fs)) [32])) {o : Nat} {G : Heap}
  (go : G[o]? = some (.cells false false (sts ((S' ++ xAD n).map (txt fs))))) :
  ∃ G' o',L.loop xBk xCa ⟨F38 fz fs (.own false o 0 (S' ++ xAD n).length 1) i,G⟩ = L.loop xBk xCa ⟨F38 fz fs (.own false o' 0 (S'.length + 1) 1) (i + 1),G'⟩ ∧ G'[o']? = some (.cells false false (sts ((S' ++ [i]).map (txt fs)))) := by
 have h1 : n.op ≠ 1 := by omega
 have h2 : n.op ≠ 2 := by omega
 have hx0 := hv.ex h7
 have hsl := fun H => xU8 (t := n.x) H (by omega) (by omega)
 have hltI : ((i : Nat) : Int) < (fs.length : Nat) := by omega
 have hf := xCP n.op
 unfold foC at hf
 have b2 : decide (n.op = 2) = false := by simp [h2]
 have b7 : decide (n.op = 7) = true := by simp [h7]
 rw [b2,b7] at hf
 have lo := xA4 go
 obtain ⟨G1,ow,e1,b1,g1,k1⟩ := xEL (s5 := .own false o 0 (S' ++ xAD n).length 1) (s7 := .ptr G.length 0) (s8 := .ptr (G.length + 1) 0) (s19 := .sl fz fs.length (nds fs)) (s20 := .int .i64 (fs.length : Nat)) (s21 := .int .i64 (i : Nat)) (z := n.z) (B := G.length + 2) hv.ar hv.al n.args.length 0 (by omega)
  (G ++ [.cells false false n.c,.cells false false [.str (fnm n.op),.int .i64 (chn n.op : Nat),.int .i64 (flo n.op : Nat),.int .i64 (fhi n.op : Nat),.bool false,.bool true],.dead,.cells false false (sts [opB n.op,[spB n.x]])]) (G.length + 3) 2 [opB n.op,[spB n.x]] (by omega) (by simp) rfl (by have := hv.al; omega)
  (by rw [List.getElem?_append_right (by omega),show G.length + 3 - G.length = 3 by omega]; rfl)
 have hx1 : G1[G.length]? = some (.cells false false n.c) := by rw [k1.2 _ (by omega),List.getElem?_append_right (Nat.le_refl _),Nat.sub_self]; rfl
 have hx2 : G1[G.length + 1]? = some (.cells false false [.str (fnm n.op),.int .i64 (chn n.op : Nat),.int .i64 (flo n.op : Nat),.int .i64 (fhi n.op : Nat),.bool false,.bool true]) := by rw [k1.2 _ (by omega),List.getElem?_append_right (by omega),show G.length + 1 - G.length = 1 by omega]; rfl
 have go1 : G1[o]? = some (.cells false false (sts ((S' ++ xAD n).map (txt fs)))) := by rw [k1.2 _ (by omega),List.getElem?_append_left lo]; exact go
 have lo1 := xA4 go1
 have hlen := k1.1
 have low := xA4 g1
 have hnv : xA2 n.z n.args = .sl n.z n.args.length (xAB n.args) := rfl
 have hkl := xCJ n
 have hWl : (hdW n ++ (xAD n).map (txt fs)).length = 2 + n.args.length + chn n.op := by unfold hdW; rw [if_neg h2,if_pos h7]; simp [hkl]; omega
 have hJ' := hJ _ (by rw [hWl]; omega) (by rw [hWl,← hkl]; have := hv.al; have := xAG n.op; omega) (Nat.le_trans hjl (by decide))
 have hg1 : [opB n.op,[spB n.x]] ++ (n.args.drop 0).map (fun t => [spB t]) = hdW n := by unfold hdW; rw [if_neg h2,if_pos h7]; rfl
 rw [hg1] at g1
 have hh1 := xAX (hdW n)
 have hWl1 : (hdW n).length = 2 + n.args.length := by unfold hdW; rw [if_neg h2,if_pos h7]; simp; omega
 have hh2 := xBc (hdW n)
 rw [hWl1] at hh1 hh2
 have happ1 := xCc (hdW n) ((xAD n).map (txt fs))
 have hlw := xAX (hdW n ++ (xAD n).map (txt fs))
 have htw := xBc (hdW n ++ (xAD n).map (txt fs))
 rw [hWl] at hJ' hlw htw
 have htl := xAX ((S' ++ xAD n).map (txt fs))
 have htk : List.take S'.length (sts ((S' ++ xAD n).map (txt fs))) = sts (S'.map (txt fs)) := by
  rw [List.map_append,← xCc,List.take_left' (by simp [xAX])]
 have htd : List.drop S'.length (sts ((S' ++ xAD n).map (txt fs))) = sts ((xAD n).map (txt fs)) := by
  rw [List.map_append,← xCc,List.drop_left' (by simp [xAX])]
 have hkt := xBc ((xAD n).map (txt fs))
 rw [List.length_map,hkl] at hkt
 have happ2 := xFq (S'.map (txt fs)) (txt fs i)
 rw [show S'.map (txt fs) ++ [txt fs i] = (S' ++ [i]).map (txt fs) by simp] at happ2
 have hSl : (S' ++ xAD n).length = S'.length + chn n.op := by rw [List.length_append,hkl]
 rw [List.length_map,hSl] at htl
 rw [hSl] at e1 ⊢
 have hsub : ((S'.length + chn n.op : Nat) : Int) - (chn n.op : Nat) = (S'.length : Nat) := by omega
 have hsubN : S'.length + chn n.op - S'.length = chn n.op := by omega
 have hle : S'.length ≤ S'.length + chn n.op := by omega
 have hfr := fun d H => xDX d H (hdW n ++ (xAD n).map (txt fs))
 have hwr : wrp n.op (Lib.join (hdW n ++ (xAD n).map (txt fs)) [32]) = 40 :: (Lib.join (hdW n ++ (xAD n).map (txt fs)) [32] ++ [41]) := by unfold wrp; rw [if_neg h1]
 rw [hwr] at ht
 rw [ht] at happ2
 have hs1 : ∀ H,xQr H (zS [40]) (zS (Lib.join (hdW n ++ (xAD n).map (txt fs)) [32])) = some (zS (40 :: Lib.join (hdW n ++ (xAD n).map (txt fs)) [32]),H) := fun H => xDW (a := [40]) H (by decide) (by omega)
 have hs2 : ∀ H,xQr H (zS (40 :: Lib.join (hdW n ++ (xAD n).map (txt fs)) [32])) (zS [41]) = some (zS (40 :: (Lib.join (hdW n ++ (xAD n).map (txt fs)) [32] ++ [41])),H) := fun H => xDW (b := [41]) H (by simp; omega) (by decide)
 have hc1 : (((n.op : Nat) : Int) = 1) = False := by simp; omega
 have hbd := xAG n.op
 have hal := hv.al
 have hwd : sts [opB n.op,[spB n.x]] = [.str (fnm n.op),zS [spB n.x]] := by rw [xYj]; rfl
 rw [hwd,show ((0 : Nat) : Int) = 0 from rfl] at e1
 generalize Lib.join (hdW n ++ (xAD n).map (txt fs)) [32] = J at *
 generalize sts (hdW n ++ (xAD n).map (txt fs)) = LW at *
 generalize sts (hdW n) = LH at *
 generalize sts ((xAD n).map (txt fs)) = LK at *
 generalize sts ((S' ++ xAD n).map (txt fs)) = LT at *
 generalize sts ((S' ++ [i]).map (txt fs)) = LN at *
 generalize sts (S'.map (txt fs)) = LS at *
 clear hJ hg1 hwr ht hkl hWl
 generalize S'.length = a at *
 refine ⟨List.set (List.set G1 ow Blk.dead ++ [Blk.cells false false LW]) o Blk.dead ++ [Blk.cells false false LN],G1.length + 1,?_,by rw [List.getElem?_append_right (by simp)]; simp⟩
 unfold Nd.c at e1 hx1
 rw [hnv] at e1 hx1
 rw [xGp]
 simp (maxSteps := 30000000) (disch := first|exact D5|fail) only [xEm,WB,hltI,↓reduceIte,xAs,Nd.c,hn,hnv,AV.cells,AV.isCell,Nat.reduceAdd,xBq,xBG,hf,xAA,xAm,xH6,xUQ,xCZ,hsl,Nat.reduceBEq,xFb,e1,hx2,hsub,hsubN,go1,htd,hkt,g1,hh2,happ1,xAR,htw,hfr,hJ',xAS,xBH,hx1,hc1,xCx,hs1,hs2,xDp,htk,happ2,xFc]
end
def GS (fs : List Nd) (G : Heap) (v : AV) (S : List Nat) : Prop := (S = [] ∧ v = .sl true 0 []) ∨ ∃ o,v = .own false o 0 S.length 1 ∧ G[o]? = some (.cells false false (sts (S.map (txt fs)))) ∧ S ≠ []
theorem xVi {n : Nd} {s : Nat} (h : xGL n s = 0) : s ≠ 0 ∧ n.args.length ≤ 2 ∧ (0 ≤ n.name ∧ n.name ≤ 7) := by
 unfold xGL at h
 split at h
 ·cases h
 split at h
 ·cases h
 rename_i h1
 split at h
 ·cases h
 rename_i h2
 unfold yAM at h1
 unfold yAN at h2
 simp only [Bool.or_eq_true,Bool.and_eq_true,not_or,not_and,Bool.not_eq_true',decide_eq_true_eq,decide_eq_false_iff_not,Bool.not_eq_true,Bool.not_eq_false,Bool.not_eq_eq_eq_not,Bool.not_false,Bool.not_true] at h1 h2
 obtain ⟨⟨⟨⟨q1,q2⟩,q3⟩,q4⟩,q5⟩ := h1
 obtain ⟨⟨r1,r2⟩,r3⟩ := h2
 have hhi := xQg n.op
 have q5' : ¬ fhi n.op < n.args.length := by simpa using q5
 have := wi_iff.1 (show wi 0 7 [n.name] = true by simpa using r1) n.name (by simp)
 exact ⟨by simpa using q3,by omega,this⟩
theorem xVj (op : Nat) : (opB op).length ≤ 8 := by
 unfold opB
 repeat' split
 all_goals decide
theorem xQs (a b : List (List UInt8)) : Lib.lens (a ++ b) = Lib.lens a + Lib.lens b := by simp [Lib.lens]
theorem xVk {α : Type} (l : List α) (f : α → UInt8) : Lib.lens (l.map fun t => [f t]) = l.length := by
 unfold Lib.lens
 rw [List.map_map]
 induction l with
 | nil => rfl
 | cons a l ih => simp [ih] at *; omega
theorem yAF {l : List Nat} {f : Nat → List UInt8} {g : Nat → Nat} (h : ∀ j ∈ l,(f j).length ≤ 20 * g j) : Lib.lens (l.map f) ≤ 20 * (l.map g).sum := by
 induction l with
 | nil => simp [Lib.lens]
 | cons a l ih =>
  have h1 := h a List.mem_cons_self
  have h2 := ih fun j hj => h j (List.mem_cons_of_mem _ hj)
  simp only [Lib.lens,List.map_cons,List.sum_cons] at h2 ⊢
  omega
theorem xK8 {n : Nd} {T : List (List UInt8)} (ha : n.args.length ≤ 2) (hT : T.length ≤ 2) : (Lib.join (hdW n ++ T) [32]).length ≤ 16 + Lib.lens T := by
 unfold hdW
 rw [List.cons_append,Lib.join_length,← List.cons_append]
 rw [show opB n.op :: ((if n.op = 2 then [[nmB n.name]] else []) ++ ((if n.op = 7 then [[spB n.x]] else []) ++ n.args.map fun t => [spB t])) = [opB n.op] ++ ((if n.op = 2 then [[nmB n.name]] else []) ++ ((if n.op = 7 then [[spB n.x]] else []) ++ n.args.map fun t => [spB t])) from rfl]
 simp only [xQs,xVk,List.length_append,List.length_map]
 have h1 : Lib.lens [opB n.op] ≤ 8 := by have := xVj n.op; simp [Lib.lens]; omega
 have h2 : Lib.lens (if n.op = 2 then [[nmB n.name]] else []) = (if n.op = 2 then [[nmB n.name]] else []).length := by split <;> rfl
 have h3 : Lib.lens (if n.op = 7 then [[spB n.x]] else []) = (if n.op = 7 then [[spB n.x]] else []).length := by split <;> rfl
 have h4 : (if n.op = 2 then [[nmB n.name]] else []).length + (if n.op = 7 then [[spB n.x]] else []).length ≤ 1 := by
  by_cases c : n.op = 2
  ·rw [if_pos c,if_neg (by omega)]; simp
  ·rw [if_neg c]; split <;> simp
 rw [h2,h3]
 simp only [List.length_singleton]
 omega
theorem xQt (op : Nat) (s : List UInt8) : (wrp op s).length ≤ s.length + 2 := by unfold wrp; split <;> simp
section
variable {fz : Bool} {fs : List Nd}
theorem yAG (hJ : xIl) (hl : fs.length ≤ 64) (hV : ∀ j,j < fs.length → Vn j (fs.getD j nd0)) : ∀ k i,i + k = fs.length → ∀ (G : Heap) (v : AV) (S os : List Nat),os.length = i → Bk os i S → GS fs G v S → szs (fs.drop i) os = szs fs [] → xEr (fs.drop i) ((szs fs []).drop i) = 0 →
  (∀ j,j < i → (txt fs j).length ≤ 20 * os.getD j 0) → (∀ j,j < i → os.getD j 0 ≤ j + 1) →
  ∃ G' v' S',L.loop xBk xCa ⟨F38 fz fs v i,G⟩ = some (.exit 0,⟨F38 fz fs v' fs.length,G'⟩) ∧ GS fs G' v' S' ∧ Bk (szs fs []) fs.length S' := by
 intro k
 induction k with
 | zero =>
  intro i hi G v S os ho hB hg he hc hT hI
  obtain rfl : i = fs.length := by omega
  rw [List.drop_length] at he
  have he' : os = szs fs [] := he
  refine ⟨G,v,S,?_,hg,he' ▸ hB⟩
  rw [xGp]
  simp (disch := omega) only [xEm,WB,↓reduceIte,xFc]
 | succ k ih =>
  intro i hi G v S os ho hB hg he hc hT hI
  have hlt : i < fs.length := by omega
  have em : fs.drop i = fs.getD i nd0 :: fs.drop (i + 1) := xB9 hlt
  have hv := hV i hlt
  rw [em] at he hc
  rw [← he,← ho,xKY,ho] at hc
  have hte := xVa hV hlt
  generalize hn : fs.getD i nd0 = n at *
  have hcN : xGL n (szN n os) = 0 := by
   unfold xEr at hc
   split at hc
   ·assumption
   ·exact hc
  have hcL : xEr (fs.drop (i + 1)) ((szs fs []).drop (i + 1)) = 0 := by
   unfold xEr at hc
   rw [if_pos hcN] at hc
   rw [← he,szs]
   simpa [ho] using hc
  obtain ⟨hs0,ha2,hnm⟩ := xVi hcN
  obtain ⟨S',rfl,hB',hsz⟩ := Bk.step (n := n) (ho.symm ▸ hB) hs0
  rw [ho] at hB'
  have hkl := xCJ n
  have hch := xAG n.op
  have hkT : Lib.lens ((xAD n).map (txt fs)) ≤ 20 * ((xAD n).map fun j => os.getD j 0).sum := yAF fun j hj => hT j (xK7 hv j hj)
  have hjl := xK8 (n := n) (T := (xAD n).map (txt fs)) ha2 (by rw [List.length_map,hkl]; omega)
  have hle : szN n os ≤ i + 1 := by rw [← ho]; exact xUI n fun k hk => hI k (by omega)
  have hjl' : (Lib.join (hdW n ++ (xAD n).map (txt fs)) [32]).length ≤ 100000 := by omega
  have hS' : S'.length ≤ 64 := by have := hB.len; rw [List.length_append] at this; omega
  have next : ∀ (G1 : Heap) (o : Nat),G1[o]? = some (.cells false false (sts ((S' ++ [i]).map (txt fs)))) →
    ∃ G' v' Sf,L.loop xBk xCa ⟨F38 fz fs (.own false o 0 (S'.length + 1) 1) (i + 1),G1⟩ = some (.exit 0,⟨F38 fz fs v' fs.length,G'⟩) ∧ GS fs G' v' Sf ∧ Bk (szs fs []) fs.length Sf := by
   intro G1 o go
   refine ih (i + 1) (by omega) G1 (.own false o 0 (S'.length + 1) 1) (S' ++ [i]) (os ++ [szN n os]) (by simp [ho]) hB' (.inr ⟨o,by simp,go,by simp⟩) (by rw [← he,szs]) hcL (fun j hj => ?_) (fun j hj => ?_)
   ·by_cases c : j < i
    ·rw [List.getD_eq_getElem?_getD,List.getElem?_append_left (by omega),← List.getD_eq_getElem?_getD]; exact hT j c
    ·obtain rfl : j = i := by omega
     rw [← ho,xCy,ho,hte]
     have := xQt n.op (Lib.join (hdW n ++ (xAD n).map (txt fs)) [32])
     omega
   ·by_cases c : j < i
    ·rw [List.getD_eq_getElem?_getD,List.getElem?_append_left (by omega),← List.getD_eq_getElem?_getD]; exact hI j c
    ·obtain rfl : j = i := by omega
     rw [← ho,xCy,ho]; exact hle
  rcases hg with ⟨hS0,rfl⟩ | ⟨o,rfl,go,hne⟩
  ·obtain ⟨rfl,hk0⟩ := List.append_eq_nil_iff.1 hS0
   have hx7 : n.op ≠ 7 := by
    intro e
    have : chn n.op = 0 := by rw [← hkl,hk0]; rfl
    rw [e] at this; cases this
   have hjl0 : (Lib.join (hdW n) [32]).length ≤ 100000 := by rw [hk0] at hjl'; simpa using hjl'
   have hte0 : txt fs i = wrp n.op (Lib.join (hdW n) [32]) := by rw [hk0] at hte; simpa using hte
   have : ∃ G' o',L.loop xBk xCa ⟨F38 fz fs (.sl true 0 []) i,G⟩ = L.loop xBk xCa ⟨F38 fz fs (.own false o' 0 1 1) (i + 1),G'⟩ ∧ G'[o']? = some (.cells false false (sts [txt fs i])) := by
    by_cases c1 : n.op = 1
    ·exact xVe hJ hl hlt hn hv c1 hk0 hjl0 hte0
    by_cases c2 : n.op = 2
    ·exact xVg hJ hl hlt hn hv c2 hnm hk0 hjl0 hte0
    ·exact xVc hJ hl hlt hn hv c1 c2 hx7 hk0 hjl0 hte0
   obtain ⟨G1,o,e1,g1⟩ := this
   obtain ⟨G',v',S2,e2,r⟩ := next G1 o g1
   exact ⟨G',v',S2,e1.trans e2,r⟩
  ·have : ∃ G' o',L.loop xBk xCa ⟨F38 fz fs (.own false o 0 (S' ++ xAD n).length 1) i,G⟩ = L.loop xBk xCa ⟨F38 fz fs (.own false o' 0 (S'.length + 1) 1) (i + 1),G'⟩ ∧ G'[o']? = some (.cells false false (sts ((S' ++ [i]).map (txt fs)))) := by
    by_cases c1 : n.op = 1
    ·exact xVd hJ hl hlt hn hv c1 hS' hjl' hte go
    by_cases c2 : n.op = 2
    ·exact xVf hJ hl hlt hn hv c2 hnm hS' hjl' hte go
    by_cases c7 : n.op = 7
    ·exact xVh hJ hl hlt hn hv c7 hS' hjl' hte go
    ·exact xVb hJ hl hlt hn hv c1 c2 c7 hS' hjl' hte go
   obtain ⟨G1,o,e1,g1⟩ := this
   obtain ⟨G',v',S2,e2,r⟩ := next G1 o g1
   exact ⟨G',v',S2,e1.trans e2,r⟩
def fmt (fs : List Nd) : List UInt8 := if chk fs = 0 then txt fs (fs.length - 1) else []
theorem xXb (hJ : xIl) (h47 : fs.length < 1000) : L.pcall 10 [.sl fz fs.length (nds fs)] = some (.tup [zS (fmt fs),.int .i64 (chk fs : Nat)]) := by
 have h34 := xH3 fz fs h47
 unfold fmt
 by_cases hc : chk fs = 0
 ·obtain ⟨h0,hl,hV⟩ := xIk hc
  rw [hc] at h34 ⊢
  rw [if_pos rfl]
  unfold chk at hc
  rw [if_neg (by omega),if_neg (by omega)] at hc
  split at hc
  case isFalse q => exact absurd hc q
  rename_i hcl
  split at hc
  case isFalse => cases hc
  rename_i hlast
  obtain ⟨G',v',S',e1,g1,b1⟩ := yAG (fz := fz) hJ hl hV fs.length 0 (by omega) [] (.sl true 0 []) [] [] rfl .nil (.inl ⟨rfl,rfl⟩) rfl (by simpa using hcl) (by intro j hj; omega) (by intro j hj; omega)
  have e1' : L.loop xBk xCa ⟨xHA (.sl true 0 []) (.sl fz fs.length (nds fs)) (.int .i64 (fs.length : Nat)) (.int .i64 0),[]⟩ = _ := e1
  obtain ⟨S2,rfl,h2,-,-⟩ := b1.top h0
  rw [hlast,Nat.sub_self] at h2
  have hS2 : S2 = [] := by
   rcases h2.inv with ⟨_,e⟩ | ⟨j,_,_,e,_⟩
   ·exact e
   ·omega
  subst hS2
  rcases g1 with ⟨e,_⟩ | ⟨o,rfl,go,hne⟩
  ·simp at e
  have go' : G'[o]? = some (.cells false false [zS (txt fs (fs.length - 1))]) := go
  have e1'' : L.loop xBk xCa ⟨xHA (.sl true 0 []) (.sl fz fs.length (nds fs)) (.int .i64 (fs.length : Nat)) (.int .i64 0),[]⟩ = some (.exit 0,⟨xHA (.own false o 0 1 1) (.sl fz fs.length (nds fs)) (.int .i64 (fs.length : Nat)) (.int .i64 (fs.length : Nat)),G'⟩) := e1'
  rw [yEY,a10,xAa]
  simp (maxSteps := 30000000) (disch := first|exact D5|fail) only [WB,Nat.reduceSub,h34,xAA,xAm,↓reduceIte,xFc,e1'',go']
 ·rw [if_neg hc]
  have hcI : (((chk fs : Nat) : Int) = 0) = False := by simp; omega
  rw [yEY,a10,xAa]
  simp (maxSteps := 30000000) (disch := first|exact D5|fail) only [WB,Nat.reduceSub,h34,xAA,xAm,↓reduceIte,hcI]
end
theorem xVl {n : Nd} {s : Nat} (h : xGL n s = 0) : Hd n ∧ s ≠ 0 := by
 unfold xGL at h
 split at h
 ·cases h
 rename_i h0
 split at h
 ·cases h
 rename_i h1
 split at h
 ·cases h
 rename_i h2
 have ho := xYa (by simpa using h0)
 unfold yAM at h1
 unfold yAN at h2
 simp only [Bool.or_eq_true,Bool.and_eq_true,not_or,not_and,Bool.not_eq_true',decide_eq_true_eq,decide_eq_false_iff_not,Bool.not_eq_true,Bool.not_eq_false,Bool.not_eq_eq_eq_not,Bool.not_false,Bool.not_true] at h1 h2
 obtain ⟨⟨⟨⟨q1,q2⟩,q3⟩,q4⟩,q5⟩ := h1
 obtain ⟨⟨r1,r2⟩,r3⟩ := h2
 have q4' : ¬ n.args.length < flo n.op := by simpa using q4
 have q5' : ¬ fhi n.op < n.args.length := by simpa using q5
 have hnm := wi_iff.1 (show wi 0 7 [n.name] = true by simpa using r1) n.name (by simp)
 refine ⟨⟨ho,hnm,fun e => ?_,fun e => wi_iff.1 (show wi 8 10 [n.x] = true by simpa using r2 e) n.x (by simp),fun e => ?_,by omega,by omega,wi_iff.1 (by simpa using r3)⟩,by simpa using q3⟩
 ·simpa using q1 e
 ·simpa using q2 e
theorem xK9 : ∀ (fs : List Nd) (os : List Nat),xEr fs ((szs fs os).drop os.length) = 0 → ∀ j,j < fs.length →
  xGL (fs.getD j nd0) (szN (fs.getD j nd0) ((szs fs os).take (os.length + j))) = 0 ∧ (szs fs os).getD (os.length + j) 0 = szN (fs.getD j nd0) ((szs fs os).take (os.length + j))
 | [],os,_,j,hj => by simp at hj
 | n :: fs,os,h,j,hj => by
  rw [xKY] at h
  unfold xEr at h
  split at h
  case isFalse q => exact absurd h q
  rename_i hc
  have hsz : szs (n :: fs) os = szs fs (os ++ [szN n os]) := rfl
  cases j with
  | zero =>
   have h1 := xGJ (n :: fs) os
   have h2 := xGJ fs (os ++ [szN n os])
   rw [Nat.add_zero,h1]
   refine ⟨hc,?_⟩
   have h3 : (szs (n :: fs) os).getD os.length 0 = ((szs (n :: fs) os).take (os.length + 1)).getD os.length 0 := by
    rw [List.getD_eq_getElem?_getD,List.getD_eq_getElem?_getD,List.getElem?_take_of_lt (by omega)]
   rw [h3,hsz]
   rw [List.length_append,List.length_singleton] at h2
   rw [h2,xCy]
   rfl
  | succ j =>
   have := xK9 fs (os ++ [szN n os]) h j (by simpa using hj)
   rw [hsz,show os.length + (j + 1) = (os ++ [szN n os]).length + j by simp; omega]
   exact this
theorem xYk : ∀ (fs : List Nd) (os : List Nat),(∀ k,k < os.length → os.getD k 0 ≤ k + 1) → ∀ k,k < (szs fs os).length → (szs fs os).getD k 0 ≤ k + 1
 | [],os,h => h
 | n :: fs,os,h => by
  refine xYk fs (os ++ [szN n os]) fun k hk => ?_
  rw [List.length_append,List.length_singleton] at hk
  by_cases c : k < os.length
  ·rw [List.getD_eq_getElem?_getD,List.getElem?_append_left c,← List.getD_eq_getElem?_getD]; exact h k c
  ·obtain rfl : k = os.length := by omega
   rw [xCy]; exact xUI n h
theorem xVm {n : Nd} {a b : Int} (hz : n.z = n.args.isEmpty) (ha : n.a = a) (hb : n.b = b) : n = ⟨n.op,n.name,n.args.isEmpty,n.args,n.x,a,b⟩ := by
 obtain ⟨op,name,z,args,x,a',b'⟩ := n
 simp only at hz ha hb ⊢
 rw [hz,ha,hb]
theorem xF8 {fs : List Nd} {p k m : Nat} : (fs.drop p).take (k + m) = (fs.drop p).take k ++ (fs.drop (p + k)).take m := by
 rw [List.take_add,List.drop_drop]
theorem xXc {fs : List Nd} {p : Nat} (h : p < fs.length) : (fs.drop p).take 1 = [fs.getD p nd0] := by
 rw [xB9 h]; rfl
theorem yEQ (n : Nd) (a : Tr) (p : Nat) : (Tr.t1 n a).nd p = a.nd p ++ [⟨n.op,n.name,n.args.isEmpty,n.args,n.x,((p + a.sz : Nat) : Int) - 1,0⟩] := rfl
theorem yER (n : Nd) (a b : Tr) (p : Nat) : (Tr.t2 n a b).nd p = a.nd p ++ b.nd (p + a.sz) ++ [⟨n.op,n.name,n.args.isEmpty,n.args,n.x,((p + a.sz : Nat) : Int) - 1,((p + a.sz + b.sz : Nat) : Int) - 1⟩] := rfl
theorem yCY {fs : List Nd} (hc : xEr fs (szs fs []) = 0) (hz : ∀ n ∈ fs,n.z = n.args.isEmpty) (hV : ∀ j,j < fs.length → Vn j (fs.getD j nd0)) (hI : ∀ j,j < fs.length → (szs fs []).getD j 0 ≤ j + 1) : ∀ j,j < fs.length →
  ∃ t : Tr,t.ok ∧ t.sz = (szs fs []).getD j 0 ∧ (fs.drop (j + 1 - t.sz)).take t.sz = t.nd (j + 1 - t.sz) ∧ txt fs j = t.tt := by
 intro j
 induction j using Nat.strongRecOn with
 | _ j ih =>
  intro hj
  have hall := xK9 fs [] (by simpa using hc) j hj
  simp only [List.length_nil,Nat.zero_add] at hall
  obtain ⟨h1,h2⟩ := hall
  obtain ⟨hd,hs0⟩ := xVl h1
  have hlen : ((szs fs []).take j).length = j := by rw [List.length_take,xDS]; simp; omega
  have hgd : ∀ i,i < j → ((szs fs []).take j).getD i 0 = (szs fs []).getD i 0 := fun i hi => by
   rw [List.getD_eq_getElem?_getD,List.getElem?_take_of_lt hi,← List.getD_eq_getElem?_getD]
  have hte := xVa hV hj
  have hm : fs.getD j nd0 ∈ fs := by rw [List.getD_eq_getElem?_getD,List.getElem?_eq_getElem hj]; exact List.getElem_mem hj
  have hzn := hz _ hm
  have hone := xXc hj
  generalize hn : fs.getD j nd0 = n at *
  have hsz := h2
  rcases xAG n.op with c | c | c
  ·unfold szN at h2 hs0
   rw [if_pos c] at h2 hs0
   split at h2
   case isFalse q => rw [if_neg q] at hs0; exact absurd rfl hs0
   rename_i q
   refine ⟨.t0 n,⟨hd,c⟩,h2.symm,?_,?_⟩
   ·show (fs.drop (j + 1 - 1)).take 1 = _
    rw [Nat.add_sub_cancel,hone]
    unfold Tr.nd
    rw [← xVm hzn q.1 q.2]
   ·rw [hte]
    unfold xAD
    rw [if_neg (by omega),if_neg (by omega)]; rfl
  ·unfold szN at h2 hs0
   rw [if_neg (by omega)] at h2 hs0
   rw [hlen] at h2 hs0
   split at h2
   ·rename_i q; rw [if_pos q] at hs0; exact absurd rfl hs0
   rename_i q
   rw [if_neg q] at hs0
   rw [not_or] at q
   rw [if_pos c] at hs0
   split at h2
   case isFalse q2 => rw [if_neg q2] at hs0; exact absurd rfl hs0
   rename_i q2
   rw [hgd (j - 1) (by omega)] at h2
   obtain ⟨a,ha1,ha2,ha3,ha4⟩ := ih (j - 1) (by omega) (by omega)
   have hle := hI (j - 1) (by omega)
   have hap := a.sz_pos
   refine ⟨.t1 n a,⟨hd,c,ha1⟩,?_,?_,?_⟩
   ·show a.sz + 1 = _
    rw [h2,ha2]; omega
   ·show (fs.drop (j + 1 - (a.sz + 1))).take (a.sz + 1) = (Tr.t1 n a).nd (j + 1 - (a.sz + 1))
    rw [show j + 1 - (a.sz + 1) = j - 1 + 1 - a.sz by omega,xF8,ha3,show j - 1 + 1 - a.sz + a.sz = j by omega,hone,yEQ]
    rw [← xVm hzn (by rw [q2.1]; omega) q2.2]
   ·rw [hte]
    unfold xAD
    rw [if_neg (by omega),if_pos c,q2.1]
    show wrp n.op (Lib.join (hdW n ++ [txt fs (j - 1)]) [32]) = _
    rw [ha4]; rfl
  ·unfold szN at h2 hs0
   rw [if_neg (by omega)] at h2 hs0
   rw [hlen] at h2 hs0
   split at h2
   ·rename_i q; rw [if_pos q] at hs0; exact absurd rfl hs0
   rename_i q
   rw [if_neg q] at hs0
   rw [not_or] at q
   rw [if_neg (by omega)] at h2 hs0
   split at h2
   ·rename_i q'; rw [if_pos q'] at hs0; exact absurd rfl hs0
   rename_i q'
   rw [if_neg q'] at hs0
   rw [not_or] at q'
   split at h2
   case isFalse q2 => rw [if_neg q2] at hs0; exact absurd rfl hs0
   rename_i q2
   rw [hgd (j - 1) (by omega)] at h2 q2 q'
   obtain ⟨b,hb1,hb2,hb3,hb4⟩ := ih (j - 1) (by omega) (by omega)
   have hbp := b.sz_pos
   rw [← hb2] at h2 q2 q'
   rw [hgd (j - b.sz - 1) (by omega)] at h2 q'
   obtain ⟨a,ha1,ha2,ha3,ha4⟩ := ih (j - b.sz - 1) (by omega) (by omega)
   have hap := a.sz_pos
   have hle := hI (j - 1) (by omega)
   have hle2 := hI (j - b.sz - 1) (by omega)
   refine ⟨.t2 n a b,⟨hd,c,ha1,hb1⟩,?_,?_,?_⟩
   ·show a.sz + b.sz + 1 = _
    rw [h2,ha2]; omega
   ·show (fs.drop (j + 1 - (a.sz + b.sz + 1))).take (a.sz + b.sz + 1) = (Tr.t2 n a b).nd (j + 1 - (a.sz + b.sz + 1))
    rw [show j + 1 - (a.sz + b.sz + 1) = j - b.sz - 1 + 1 - a.sz by omega,xF8,xF8,ha3,show j - b.sz - 1 + 1 - a.sz + a.sz = j - 1 + 1 - b.sz by omega,hb3,show j - b.sz - 1 + 1 - a.sz + (a.sz + b.sz) = j by omega,hone,yER]
    rw [← xVm hzn (by rw [q2.1]; omega) (by rw [q2.2]; omega),show j - b.sz - 1 + 1 - a.sz + a.sz = j - 1 + 1 - b.sz by omega]
   ·rw [hte]
    unfold xAD
    rw [if_pos c,q2.1,q2.2]
    show wrp n.op (Lib.join (hdW n ++ [txt fs (j - b.sz - 1),txt fs (j - 1)]) [32]) = _
    rw [ha4,hb4]; rfl
theorem xLa {n : Nd} (h : Hd n) : n.args.length ≤ 2 := by
 have h1 := h.hi
 have h2 := xQg n.op
 omega
theorem yAH {op : Nat} (h1 : 1 ≤ op) (h2 : op ≤ 10) : 1 ≤ (opB op).length := by
 have h : op = 1 ∨ op = 2 ∨ op = 3 ∨ op = 4 ∨ op = 5 ∨ op = 6 ∨ op = 7 ∨ op = 8 ∨ op = 9 ∨ op = 10 := by omega
 rcases h with rfl | rfl | rfl | rfl | rfl | rfl | rfl | rfl | rfl | rfl <;> decide
theorem xOD {n : Nd} (h : Hd n) (T : List (List UInt8)) : 1 + Lib.lens T ≤ (Lib.join (hdW n ++ T) [32]).length := by
 have h1 := yAH h.op.1 h.op.2
 unfold hdW
 rw [List.cons_append,Lib.join_length,← List.cons_append]
 rw [show opB n.op :: ((if n.op = 2 then [[nmB n.name]] else []) ++ ((if n.op = 7 then [[spB n.x]] else []) ++ n.args.map fun t => [spB t])) = [opB n.op] ++ ((if n.op = 2 then [[nmB n.name]] else []) ++ ((if n.op = 7 then [[spB n.x]] else []) ++ n.args.map fun t => [spB t])) from rfl]
 simp only [xQs]
 have h2 : 1 ≤ Lib.lens [opB n.op] := by simp [Lib.lens]; omega
 omega
theorem xVn (op : Nat) (s : List UInt8) : s.length ≤ (wrp op s).length := by unfold wrp; split <;> simp <;> omega
theorem xXd : ∀ t : Tr,t.ok → t.tt.length ≤ 20 * t.sz ∧ t.sz ≤ t.tt.length
 | .t0 n,⟨hd,hc⟩ => by
  have h1 := xK8 (n := n) (T := []) (xLa hd) (by simp)
  have h2 := xQt n.op (Lib.join (hdW n ++ []) [32])
  have h3 := xOD hd []
  have h4 := xVn n.op (Lib.join (hdW n ++ []) [32])
  have h5 : Lib.lens [] = 0 := rfl
  unfold Tr.tt Tr.sz
  omega
 | .t1 n a,⟨hd,hc,ha⟩ => by
  have ih := xXd a ha
  have h1 := xK8 (n := n) (T := [a.tt]) (xLa hd) (by simp)
  have h2 := xQt n.op (Lib.join (hdW n ++ [a.tt]) [32])
  have h3 := xOD hd [a.tt]
  have h4 := xVn n.op (Lib.join (hdW n ++ [a.tt]) [32])
  have h5 : Lib.lens [a.tt] = a.tt.length := by simp [Lib.lens]
  unfold Tr.tt Tr.sz
  omega
 | .t2 n a b,⟨hd,hc,ha,hb⟩ => by
  have ih := xXd a ha
  have ih2 := xXd b hb
  have h1 := xK8 (n := n) (T := [a.tt,b.tt]) (xLa hd) (by simp)
  have h2 := xQt n.op (Lib.join (hdW n ++ [a.tt,b.tt]) [32])
  have h3 := xOD hd [a.tt,b.tt]
  have h4 := xVn n.op (Lib.join (hdW n ++ [a.tt,b.tt]) [32])
  have h5 : Lib.lens [a.tt,b.tt] = a.tt.length + b.tt.length := by simp [Lib.lens]
  unfold Tr.tt Tr.sz
  omega
theorem xNr : ∀ W : List (List UInt8),xIe (sts W) = some W
 | [] => rfl
 | b :: W => by
  have : sts (b :: W) = zS b :: sts W := rfl
  rw [this]
  show (xIe (sts W)).map (b :: ·) = _
  rw [xNr W]; rfl
theorem xXe : xIl := by
 intro W h1 h2 h3
 refine xCC rfl ?_
 show (if W.length = (sts W).length ∧ W.length ≤ 1000 ∧ 1 ≤ (⟨#[32]⟩ : ByteArray).size ∧ (⟨#[32]⟩ : ByteArray).size ≤ 1000 then (xIe (sts W)).bind fun l => if (Lib.join l [32]).length ≤ 1000000000 then some (AV.str ⟨(Lib.join l [32]).toArray⟩) else none else none) = _
 rw [if_pos ⟨(xAX W).symm,h2,by decide,by decide⟩,xNr]
 show (if (Lib.join W [32]).length ≤ 1000000000 then _ else none) = _
 rw [if_pos (by omega)]
theorem xOE (fz : Bool) {fs : List Nd} (h : fs.length < 1000) : L.pcall 10 [.sl fz fs.length (nds fs)] = some (.tup [zS (fmt fs),.int .i64 (chk fs : Nat)]) := xXb xXe h
end Go.Abs.Events
