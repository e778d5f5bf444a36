/- A tree's nodes pass Check; what they mean. -/
import Derived.Test.YtdheandekcpieaaDoorAMP
import Derived.Test.YtdheandekcpieaaDoorAMW
import Derived.Test.YtdheandekcpieaaDoorAbsBun
import Derived.Test.YtdheandekcpieaaDoorAMQ
namespace Go.Abs.Events
open Go Go.Abs
set_option maxHeartbeats 4000000
set_option linter.unusedSimpArgs false
set_option linter.unusedVariables false
def Tr.zs : Tr → List Nat
 | .t0 _ => [1]
 | .t1 _ a => a.zs ++ [a.sz + 1]
 | .t2 _ a b => a.zs ++ b.zs ++ [a.sz + b.sz + 1]
def Tr.op : Tr → Nat → Bool
 | .t0 n,bd => xKt bd n.args
 | .t1 n a,bd => xKt bd n.args || a.op (bnd n bd)
 | .t2 n a b,bd => xKt bd n.args || (a.op (bnd n bd) || b.op (bnd n bd))
def nOp (op : Nat) : Nd := ⟨op,0,true,[],0,0,0⟩
def exN (x : Int) : Nd := ⟨7,0,true,[],x,0,0⟩
def atN (nm t : Int) : Nd := ⟨2,nm,false,[t],0,0,0⟩
def T1 (s : Tr) : Tr := .t1 (nOp 10) s
def NY : Tr := .t1 (nOp 4) (.t1 (exN 9) (.t0 (atN 0 9)))
def CC (t : Int) : Tr := .t2 (nOp 5) (.t0 (atN 1 t)) (.t2 (nOp 9) NY (.t0 (atN 0 t)))
def X1 : Tr := .t1 (exN 8) (CC 8)
section
variable {E : List Ev}
end
theorem tt1 (n : Nd) (a : Tr) (h1 : n.op ≠ 1) : (Tr.t1 n a).tt = 40 :: (opB n.op ++ ((if n.op = 2 then [32,nmB n.name] else []) ++ ((if n.op = 7 then [32,spB n.x] else []) ++ (aT n.args ++ 32 :: a.tt))) ++ [41]) := by
 show wrp n.op (Lib.join (hdW n ++ [a.tt]) [32]) = _
 unfold wrp
 rw [if_neg h1,xH3,xWY]
theorem tt2 (n : Nd) (a b : Tr) (h1 : n.op ≠ 1) : (Tr.t2 n a b).tt = 40 :: (opB n.op ++ ((if n.op = 2 then [32,nmB n.name] else []) ++ ((if n.op = 7 then [32,spB n.x] else []) ++ (aT n.args ++ 32 :: (a.tt ++ 32 :: b.tt)))) ++ [41]) := by
 show wrp n.op (Lib.join (hdW n ++ [a.tt,b.tt]) [32]) = _
 unfold wrp
 rw [if_neg h1,xH3,xZ1]
theorem xXL {c : UInt8} (h : nmsB.contains c = true) : c = nmB (nmsB.idxOf c : Nat) ∧ nmsB.idxOf c ≤ 7 := by
 have := xPn (p := fun c => !nmsB.contains c || (c == nmB (nmsB.idxOf c : Nat) && decide (nmsB.idxOf c ≤ 7))) (by decide +kernel) c
 rw [h] at this
 simpa using this
theorem xXM {c : UInt8} (h : vrsB.contains c = true) : c = spB (8 + vrsB.idxOf c : Nat) ∧ vrsB.idxOf c ≤ 2 := by
 have := xPn (p := fun c => !vrsB.contains c || (c == spB (8 + vrsB.idxOf c : Nat) && decide (vrsB.idxOf c ≤ 2))) (by decide +kernel) c
 rw [h] at this
 simpa using this
theorem xXN {c : UInt8} (h : splB.contains c = true) : c = spB (splB.idxOf c : Nat) ∧ splB.idxOf c ≤ 10 := by
 have := xPn (p := fun c => !splB.contains c || (c == spB (splB.idxOf c : Nat) && decide (splB.idxOf c ≤ 10))) (by decide +kernel) c
 rw [h] at this
 simpa using this
theorem xHJ : ∀ (k least : Nat) (r : List UInt8) (us : List Int) (r' : List UInt8),least ≤ k → xCs k least r = .ok us r' → r = aT us ++ r' ∧ us.length ≤ k ∧ least ≤ us.length ∧ ∀ t ∈ us,0 ≤ t ∧ t ≤ 10
 | 0,least,r,us,r',hl,h => by
  cases h
  exact ⟨rfl,Nat.le_refl _,hl,fun t ht => by cases ht⟩
 | k + 1,least,r,us,r',hl,h => by
  unfold xCs at h
  split at h
  ·rename_i hs
   cases h
   exact ⟨rfl,Nat.zero_le _,by omega,fun t ht => by cases ht⟩
  ·obtain ⟨t,q,h1,h2⟩ := xAB h
   obtain ⟨c,rfl,hm,rfl⟩ := xCN h1
   obtain ⟨vs,q2,h3,h4⟩ := xAB h2
   cases h4
   obtain ⟨i1,i2,i3,i4⟩ := xHJ k (least - 1) q vs _ (by omega) h3
   obtain ⟨s1,s2⟩ := xXN hm
   refine ⟨?_,by simpa using i2,by simp; omega,?_⟩
   ·rw [xXZ,← s1,i1]; rfl
   ·intro u hu
    rcases List.mem_cons.1 hu with rfl | hu
    ·omega
    ·exact i4 u hu
theorem xWI {w : List UInt8} {ins : Bool} {op : Nat} (h : pop w ins = some op) : opB op = w := by
 unfold pop at h
 have h1 := List.find?_some h
 simp only [Bool.and_eq_true,beq_iff_eq] at h1
 exact h1.1
theorem tt0 (n : Nd) (h1 : n.op ≠ 1) : (Tr.t0 n).tt = 40 :: (opB n.op ++ ((if n.op = 2 then [32,nmB n.name] else []) ++ ((if n.op = 7 then [32,spB n.x] else []) ++ (aT n.args ++ []))) ++ [41]) := by
 show wrp n.op (Lib.join (hdW n ++ []) [32]) = _
 unfold wrp
 rw [if_neg h1,xH3,xZ0]
theorem xFj : ∀ (k many : Nat) (l : List Nd) (r : List UInt8) (m' : Nat) (l' : List Nd) (r' : List UInt8),xCh k many l r = .ok (m',l') r' → ∃ t : Tr,t.ok ∧ r = t.tt ++ r' ∧ l' = l ++ t.nd l.length ∧ m' = many + t.sz := by
 intro k
 induction k with
 | zero => intro many l r m' l' r' hp; cases hp
 | succ k ih =>
  intro many l r m' l' r' hp
  unfold xCh at hp
  obtain ⟨c,q0,h1,hp⟩ := xAB hp
  obtain ⟨q0',rfl,rfl,hcs⟩ := xCE h1
  split at hp
  ·cases hp
  rename_i hmany
  obtain ⟨op,r1,hname,hp⟩ := xAB hp
  obtain ⟨nm,r2,hnm,hp⟩ := xAB hp
  obtain ⟨x,r3,hx,hp⟩ := xAB hp
  obtain ⟨us,r4,has,hp⟩ := xAB hp
  obtain ⟨p,r5,hA,hp⟩ := xAB hp
  obtain ⟨q,r6,hB,hp⟩ := xAB hp
  obtain ⟨u,r7,hI,hp⟩ := xAB hp
  have hm1 : q.1 = m' ∧ q.2 ++ [⟨op,nm,us.isEmpty,us,x,if 1 ≤ chn op then (p.2.length : Int) - 1 else 0,if chn op = 2 then (q.2.length : Int) - 1 else 0⟩] = l' ∧ r7 = r' := by cases hp; exact ⟨rfl,rfl,rfl⟩
  clear hp
  obtain ⟨rfl,rfl,rfl⟩ := hm1
  obtain ⟨c2,q2,hr2,hc2,hpop,hr1⟩ := xIa hname
  obtain ⟨ho1,ho10,hins⟩ := xOk hpop
  have hop := xWI hpop
  have hpre := xIb (if c = 40 then (c :: q0').tail else c :: q0')
  rw [← hop] at hpre hr1
  rw [← hr1] at hpre
  have hN : r1 = (if op = 2 then [32,nmB (nm : Nat)] else []) ++ r2 ∧ nm ≤ 7 ∧ (op ≠ 2 → nm = 0) := by
   by_cases c2 : op = 2
   ·rw [if_pos c2] at hnm ⊢
    obtain ⟨d,rfl,hm,rfl⟩ := xCN hnm
    obtain ⟨s1,s2⟩ := xXL hm
    exact ⟨by rw [← s1]; rfl,s2,fun e => absurd c2 e⟩
   ·rw [if_neg c2] at hnm ⊢
    cases hnm
    exact ⟨rfl,by omega,fun _ => rfl⟩
  have hV : r2 = (if op = 7 then [32,spB (x : Nat)] else []) ++ r3 ∧ (op = 7 → 8 ≤ x ∧ x ≤ 10) ∧ (op ≠ 7 → x = 0) := by
   by_cases c2 : op = 7
   ·rw [if_pos c2] at hx ⊢
    obtain ⟨v,q',hx1,hx2⟩ := xAB hx
    cases hx2
    obtain ⟨d,rfl,hm,rfl⟩ := xCN hx1
    obtain ⟨s1,s2⟩ := xXM hm
    exact ⟨by rw [← s1]; rfl,fun _ => by omega,fun e => absurd c2 e⟩
   ·rw [if_neg c2] at hx ⊢
    cases hx
    exact ⟨rfl,fun e => absurd e c2,fun _ => rfl⟩
  have hfl : flo op ≤ fhi op := by
   unfold flo fhi
   by_cases c3 : op = 3
   ·rw [if_pos c3,if_pos (.inr c3)]; exact Nat.le_refl _
   ·rw [if_neg c3]; omega
  obtain ⟨a1,a2,a3,a4⟩ := xHJ _ _ _ _ _ hfl has
  have hd : Hd ⟨op,(nm : Nat),us.isEmpty,us,(x : Nat),0,0⟩ := ⟨⟨ho1,ho10⟩,⟨by simp,by show ((nm : Nat) : Int) ≤ 7; omega⟩,fun e => by show ((nm : Nat) : Int) = 0; rw [hN.2.2 e]; rfl,fun e => by have := hV.2.1 e; show 8 ≤ ((x : Nat) : Int) ∧ ((x : Nat) : Int) ≤ 10; omega,fun e => by show ((x : Nat) : Int) = 0; rw [hV.2.2 e]; rfl,a3,a2,a4⟩
  by_cases c4 : c = 40
  ·have hne : op ≠ 1 := by
    intro e
    rw [e,c4] at hins
    cases hins
   rw [if_pos c4] at hpre hI
   have hr := xBx hI
   have hpre' : q0' = opB op ++ r1 := hpre
   rcases xBF op with c0 | c0 | c0
   ·rw [if_neg (by omega)] at hA
    cases hA
    rw [if_neg (by omega)] at hB
    cases hB
    refine ⟨.t0 ⟨op,(nm : Nat),us.isEmpty,us,(x : Nat),0,0⟩,⟨hd,c0⟩,?_,?_,rfl⟩
    ·rw [tt0 _ hne,hpre',hN.1,hV.1,a1,hr,c4]
     simp
    ·rw [if_neg (by omega),if_neg (by omega)]
     rfl
   ·rw [if_pos (by omega)] at hA
    obtain ⟨w,q',hA1,hA2⟩ := xAB hA
    have hA3 := xBx hA1
    rw [if_neg (by omega)] at hB
    cases hB
    obtain ⟨a,b1,b2,b3,b4⟩ := ih _ _ _ p.1 p.2 _ hA2
    refine ⟨.t1 ⟨op,(nm : Nat),us.isEmpty,us,(x : Nat),0,0⟩ a,⟨hd,c0,b1⟩,?_,?_,?_⟩
    ·rw [tt1 _ _ hne,hpre',hN.1,hV.1,a1,hA3,b2,hr,c4]
     simp
    ·rw [if_pos (by omega),if_neg (by omega),b3,xX1,List.length_append,a.nd_len,List.append_assoc]
    ·rw [b4]; show _ = many + (a.sz + 1); omega
   ·rw [if_pos (by omega)] at hA
    obtain ⟨w,q',hA1,hA2⟩ := xAB hA
    have hA3 := xBx hA1
    rw [if_pos c0] at hB
    obtain ⟨w2,q2',hB1,hB2⟩ := xAB hB
    have hB3 := xBx hB1
    obtain ⟨a,b1,b2,b3,b4⟩ := ih _ _ _ p.1 p.2 _ hA2
    obtain ⟨b,d1,d2,d3,d4⟩ := ih _ _ _ q.1 q.2 _ hB2
    refine ⟨.t2 ⟨op,(nm : Nat),us.isEmpty,us,(x : Nat),0,0⟩ a b,⟨hd,c0,b1,d1⟩,?_,?_,?_⟩
    ·rw [tt2 _ _ _ hne,hpre',hN.1,hV.1,a1,hA3,b2,hB3,d2,hr,c4]
     simp
    ·rw [if_pos (by omega),if_pos c0,d3,b3,xX2,List.length_append,List.length_append,b.nd_len,a.nd_len,List.append_assoc,List.append_assoc,List.length_append,a.nd_len,List.append_assoc]
    ·rw [d4,b4]; show _ = many + (a.sz + b.sz + 1); omega
  ·have hc : (c == 40) = false := by simpa using c4
   have h1 : op = 1 := by
    rw [hc] at hins
    simpa using hins
   rw [if_neg c4] at hpre hI
   cases hI
   subst h1
   have hu : us = [] := List.eq_nil_of_length_eq_zero (Nat.le_zero.1 a2)
   subst hu
   rw [if_neg (by decide)] at hA
   cases hA
   rw [if_neg (by decide)] at hB
   cases hB
   refine ⟨.t0 ⟨1,(nm : Nat),true,[],(x : Nat),0,0⟩,⟨hd,rfl⟩,?_,?_,rfl⟩
   ·rw [hpre,hN.1,hV.1,a1]
    rfl
   ·rfl
theorem xXO : ∀ (t : Tr),t.ok → ∀ (p j : Nat),j < t.sz → Vn (p + j) ((t.nd p).getD j nd0) := by
 have hv : ∀ {n : Nd} (hd : Hd n) (i : Nat) (a b : Int),(1 ≤ chn n.op → 0 ≤ a ∧ a < i) → (chn n.op = 2 → 0 ≤ b ∧ b < i) → Vn i ⟨n.op,n.name,n.args.isEmpty,n.args,n.x,a,b⟩ := by
  intro n hd i a b ha hb
  have h1 := xX3 hd
  have h2 := hd.lo
  have h3 := hd.hi
  refine ⟨hd.op,by show n.args.length ≤ 100; omega,hd.ar,fun e => ?_,fun e => ?_,ha,hb⟩
  ·have e' : n.op = 3 := e
   rw [e'] at h2 h3
   exact Nat.le_antisymm h3 h2
  ·have := hd.x e
   show n.x = 8 ∨ n.x = 9 ∨ n.x = 10
   omega
 intro t
 induction t with
 | t0 n =>
  intro h p j hj
  obtain rfl : j = 0 := by unfold Tr.sz at hj; omega
  exact hv h.1 p 0 0 (fun e => by rw [h.2] at e; omega) (fun e => by rw [h.2] at e; omega)
 | t1 n a iha =>
  intro h p j hj
  have hp := a.sz_pos
  have hs : j < a.sz + 1 := hj
  rw [xX1,List.getD_eq_getElem?_getD]
  by_cases c : j < a.sz
  ·rw [List.getElem?_append_left (by rw [a.nd_len]; exact c),← List.getD_eq_getElem?_getD]
   exact iha h.2.2 p j c
  ·obtain rfl : j = a.sz := by omega
   rw [List.getElem?_append_right (by rw [a.nd_len]; exact Nat.le_refl _),a.nd_len,Nat.sub_self]
   exact hv h.1 _ _ _ (fun _ => by omega) (fun e => by rw [h.2.1] at e; omega)
 | t2 n a b iha ihb =>
  intro h p j hj
  have hp := a.sz_pos
  have hq := b.sz_pos
  have hs : j < a.sz + b.sz + 1 := hj
  rw [xX2,List.getD_eq_getElem?_getD]
  by_cases c : j < a.sz
  ·rw [List.getElem?_append_left (by rw [List.length_append,a.nd_len]; omega),List.getElem?_append_left (by rw [a.nd_len]; exact c),← List.getD_eq_getElem?_getD]
   exact iha h.2.2.1 p j c
  ·by_cases c2 : j < a.sz + b.sz
   ·rw [List.getElem?_append_left (by rw [List.length_append,a.nd_len,b.nd_len]; omega),List.getElem?_append_right (by rw [a.nd_len]; omega),a.nd_len,← List.getD_eq_getElem?_getD]
    have := ihb h.2.2.2 (p + a.sz) (j - a.sz) (by omega)
    rwa [show p + a.sz + (j - a.sz) = p + j by omega] at this
   ·obtain rfl : j = a.sz + b.sz := by omega
    rw [List.getElem?_append_right (by rw [List.length_append,a.nd_len,b.nd_len]; exact Nat.le_refl _),List.length_append,a.nd_len,b.nd_len,Nat.sub_self]
    exact hv h.1 _ _ _ (fun _ => by omega) (fun _ => by omega)
end Go.Abs.Events
/- Parse,where nothing panics: what the interpreter says of it. -/
namespace Go.Abs.Events
open Go Go.Abs Go.Proofs
set_option linter.unusedSimpArgs false
set_option linter.unusedVariables false
theorem xPm {G : Heap} {X : Nat → Prop} {lv : AV} (d : Nat) : ∀ ps : List (Nd × AV),(∀ p ∈ ps,PA1 G X lv p.1.args p.2) → (∀ p ∈ ps,p.1.z = p.1.args.isEmpty) → (ps.flatMap xIf).mapM (frz (d + 1) G) = some (nds (ps.map Prod.fst))
 | [],_,_ => rfl
 | p :: ps,h,hz => by
  have ih := xPm d ps (fun q hq => h q (List.mem_cons_of_mem _ hq)) fun q hq => hz q (List.mem_cons_of_mem _ hq)
  have hp := h p List.mem_cons_self
  have hzp := hz p List.mem_cons_self
  have e : frz (d + 1) G p.2 = some (xBW p.1.z p.1.args) := by
   rcases hp with ⟨h1,h2⟩ | ⟨k,h1,h2,h3,_⟩
   ·rw [h2,hzp,h1]; exact xDY _ _ _ _
   ·rw [h1,hzp]
    have hne : p.1.args.isEmpty = false := by
     cases ha : p.1.args with
     | nil => exact absurd ha h3
     | cons _ _ => rfl
    rw [hne,xCi,h2,xB1 (by rw [xD0]; omega),List.drop_zero,Nat.mul_one,xEj,xFc]
    rfl
  rw [List.flatMap_cons,List.map_cons]
  refine mapM_append' (b' := nds (ps.map Prod.fst)) (a' := p.1.c) ?_ ih
  show [.int .u8 (p.1.op : Nat),.int .i64 p.1.name,p.2,.int .i64 p.1.x,.int .i64 p.1.a,.int .i64 p.1.b].mapM (frz (d + 1) G) = _
  simp only [List.mapM_cons,List.mapM_nil,xCV,e]
  rfl
theorem xGK {G : Heap} {X : Nat → Prop} {ol n : Nat} {l : List Nd} (d : Nat) (h : PL G X (.own false ol 0 n 6) l) (hz : ∀ x ∈ l,x.z = x.args.isEmpty) : frz (d + 2) G (.own false ol 0 n 6) = some (.sl false l.length (nds l)) ∧ n = l.length ∧ l ≠ [] := by
 obtain ⟨ps,rfl,h2,h3⟩ := h
 rcases h3 with ⟨_,h3⟩ | ⟨ol',h3,g2,g3,g4⟩
 ·cases h3
 ·cases h3
  have hr := xPm d ps h2 fun p hp => hz _ (List.mem_map_of_mem hp)
  refine ⟨?_,by simp,by simpa using g3⟩
  rw [xCi,g2,xB1 (by rw [xK0]; omega),List.drop_zero,List.take_of_length_le (by rw [xK0]; omega),hr,List.length_map]
  rfl
abbrev F12 (S : List UInt8) (v7 v8 v9 : AV) : List AV := zS S :: .tup [] :: .ptr 0 0 :: .ptr 1 0 :: .ptr 2 0 :: .tup [] :: .tup [] :: v7 :: v8 :: v9 :: List.replicate 29 (.tup [])
abbrev H12 : Heap := [.cells false false [.sl true 0 []],.cells false false [.int .i64 0],.cells false false [.int .i64 0]]
theorem xKA {R : Rec} (S : List UInt8) : xAx R pA1 ⟨[zS S] ++ List.replicate (39 - [zS S].length) (.tup []),[]⟩ = some ⟨F12 S (.tup []) (.tup []) (.tup []),H12⟩ := rfl
set_option maxRecDepth 100000 in
theorem xNV (S : List UInt8) : xAx L1 pA2 ⟨F12 S (.tup []) (.tup []) (.tup []),H12⟩ = some ⟨F12 S (zS S) (.int .i64 (S.length : Nat)) (.bool (decide (4096 < (S.length : Int)))),H12⟩ := by
 have hsz : (⟨S.toArray⟩ : ByteArray).size = S.length := by simp [ByteArray.size]
 unfold pA2
 simp only [F12,List.replicate]
 simp (disch := omega) only [WB,WA,hsz]
set_option maxRecDepth 100000 in
theorem xQr (C : Nat → List AV → Heap → Option (Nat × AV × Heap)) {S : List UInt8} (hS : 4096 < S.length) : ∃ r H',xBA L1 C [zS S] [] = some (r,H') ∧ frz frzN H' r = some (.tup [.sl true 0 [],.int .i64 0,.int .i64 4]) := by
 have hlt : decide ((4096 : Int) < (S.length : Nat)) = true := by simp; omega
 have h2 := xNV S
 rw [hlt] at h2
 refine ⟨.tup [.sl true 0 [],.int .i64 0,.int .i64 4],[.cells false false [.sl true 0 []],.cells false false [.int .i64 0],.cells false false [.int .i64 4]],?_,rfl⟩
 unfold xBA
 rw [xKA]
 dsimp only
 rw [h2]
 rfl
theorem xSN (S : List UInt8) (b : Bool) : run L1 pR1 ⟨(F12 S (zS S) (.int .i64 (S.length : Nat)) (.bool b)).set 10 .any,H12⟩ = some (.normal,⟨zS S :: .tup [] :: .ptr 0 0 :: .ptr 1 0 :: .ptr 2 0 :: .ptr 3 0 :: .tup [] :: zS S :: .int .i64 (S.length : Nat) :: .bool b :: .any :: zS S :: .agg [zS S,.int .i64 0,.sl true 0 [],.int .i64 0] :: .ptr 3 0 :: List.replicate 25 (.tup []),H12 ++ [rdB S 0 (.sl true 0 []) 0]⟩) := rfl
end Go.Abs.Events
/- Parse,where nothing panics: the walk behind formula. -/
namespace Go.Abs.Events
open Go Go.Abs Go.Proofs
set_option linter.unusedSimpArgs false
set_option linter.unusedVariables false
abbrev FZ (S : List UInt8) (b : Bool) (v14 v6 v15 : AV) : List AV := zS S :: .tup [] :: .ptr 0 0 :: .ptr 1 0 :: .ptr 2 0 :: .ptr 3 0 :: v6 :: zS S :: .int .i64 (S.length : Nat) :: .bool b :: .any :: zS S :: .agg [zS S,.int .i64 0,.sl true 0 [],.int .i64 0] :: .ptr 3 0 :: v14 :: v15 :: List.replicate 23 (.tup [])
theorem ex_of' {r : Option (AExit × St)} {F1 : List AV} {G1 : Heap} {P : List AV → Prop} (h : r = some (.ret,⟨F1,G1⟩)) (hp : P F1) : ∃ F',r = some (.ret,⟨F',G1⟩) ∧ P F' := ⟨F1,h,hp⟩
structure FR (F : List AV) : Prop where
 r2 : F.getD 2 .any = .ptr 0 0
 r3 : F.getD 3 .any = .ptr 1 0
 r4 : F.getD 4 .any = .ptr 2 0
section
variable {S : List UInt8} {b : Bool} {G G' : Heap} {v : AV} {at_ ol n many : Nat} {l : List Nd} {c0 c1 c2 : AV}
set_option maxRecDepth 100000 in
theorem xSO (h : L1.icall (.func 41 []) [.ptr 3 0] G = some (v,G')) : run L1 pR2 ⟨FZ S b (.tup []) (.tup []) (.tup []),G⟩ = some (.normal,⟨FZ S b (.ptr 3 0) v v,G'⟩) := by
 unfold pR2
 simp only [FZ,List.replicate]
 simp (disch := omega) only [WB,h]
set_option maxRecDepth 100000 in
theorem xVd (h : RD G 3 S at_ (.own false ol 0 n 6) many) (g0 : G[0]? = some (.cells false false [c0])) (g1 : G[1]? = some (.cells false false [c1])) (g2 : G[2]? = some (.cells false false [c2])) (hlt : at_ < S.length) :
  ∃ F',run L1 pR3 ⟨FZ S b (.ptr 3 0) v v,G⟩ = some (.ret,⟨F',List.set (List.set (G.set 0 (.cells false false [.sl true 0 []])) 1 (.cells false false [.int .i64 (at_ : Nat)])) 2 (.cells false false [.int .i64 5])⟩) ∧ FR F' := by
 have hsz : (⟨S.toArray⟩ : ByteArray).size = S.length := by simp [ByteArray.size]
 have hc : (((at_ : Nat) : Int) < (S.length : Nat)) = True := by simp; omega
 unfold RD at h
 have l0 := xAp g0
 have l1 := xAp g1
 have l2 := xAp g2
 have l3 := xAp h
 unfold pR3
 simp only [FZ,List.replicate]
 apply ex_of'
 ·simp (maxSteps := 30000000) (disch := first|exact D5|fail) only [WB,h,WA,hsz,hc,↓reduceIte,xAh,AV.cells,g0,xBB,g1,g2,xUy,Nat.reduceAdd,Nat.reduceLeDiff]
  rfl
 ·constructor <;> rfl
set_option maxRecDepth 100000 in
theorem xVe (h : RD G 3 S at_ (.own false ol 0 n 6) many) (g0 : G[0]? = some (.cells false false [c0])) (g1 : G[1]? = some (.cells false false [c1])) (g2 : G[2]? = some (.cells false false [c2])) (hge : ¬ at_ < S.length)
  (hf : frz 6 G (.own false ol 0 n 6) = some (.sl false n (nds l))) (h42 : L1.pcall 42 [.sl false n (nds l),.int .i64 ((n - 1 : Nat) : Int),.int .u64 0] = some (.bool true)) :
  ∃ F',run L1 pR3 ⟨FZ S b (.ptr 3 0) (.int .i64 ((n - 1 : Nat) : Int)) (.int .i64 ((n - 1 : Nat) : Int)),G⟩ = some (.ret,⟨F',List.set (List.set (G.set 0 (.cells false false [.sl true 0 []])) 1 (.cells false false [.int .i64 0])) 2 (.cells false false [.int .i64 11])⟩) ∧ FR F' := by
 have hsz : (⟨S.toArray⟩ : ByteArray).size = S.length := by simp [ByteArray.size]
 have hc : (((at_ : Nat) : Int) < (S.length : Nat)) = False := by simp; omega
 unfold RD at h
 have l0 := xAp g0
 have l1 := xAp g1
 have l2 := xAp g2
 have l3 := xAp h
 generalize ((n - 1 : Nat) : Int) = w at *
 unfold pR3
 simp only [FZ,List.replicate]
 apply ex_of'
 ·simp (maxSteps := 30000000) (disch := first|exact D5|fail) only [WB,h,WA,hsz,hc,↓reduceIte,hf,h42,xAN,xAt,AV.cells,g0,xBB,g1,g2]
  rfl
 ·constructor <;> rfl
set_option maxRecDepth 100000 in
theorem xWJ (h : RD G 3 S at_ (.own false ol 0 n 6) many) (g0 : G[0]? = some (.cells false false [c0])) (g1 : G[1]? = some (.cells false false [c1])) (g2 : G[2]? = some (.cells false false [c2])) (hge : ¬ at_ < S.length)
  (hf : frz 6 G (.own false ol 0 n 6) = some (.sl false n (nds l))) (h42 : L1.pcall 42 [.sl false n (nds l),.int .i64 ((n - 1 : Nat) : Int),.int .u64 0] = some (.bool false)) :
  ∃ F',run L1 pR3 ⟨FZ S b (.ptr 3 0) (.int .i64 ((n - 1 : Nat) : Int)) (.int .i64 ((n - 1 : Nat) : Int)),G⟩ = some (.ret,⟨F',List.set (List.set (G.set 0 (.cells false false [.own false ol 0 n 6])) 1 (.cells false false [.int .i64 0])) 2 (.cells false false [.int .i64 0])⟩) ∧ FR F' := by
 have hsz : (⟨S.toArray⟩ : ByteArray).size = S.length := by simp [ByteArray.size]
 have hc : (((at_ : Nat) : Int) < (S.length : Nat)) = False := by simp; omega
 unfold RD at h
 have l0 := xAp g0
 have l1 := xAp g1
 have l2 := xAp g2
 have l3 := xAp h
 generalize ((n - 1 : Nat) : Int) = w at *
 unfold pR3
 simp only [FZ,List.replicate]
 apply ex_of'
 ·simp (maxSteps := 30000000) (disch := first|exact D5|fail) only [WB,h,WA,hsz,hc,↓reduceIte,hf,h42,xAN,xAt,AV.cells,g0,xBB,g1,g2]
  rfl
 ·constructor <;> rfl
end
end Go.Abs.Events
/- Parse,where nothing panics: as the plain parser says. -/
namespace Go.Abs.Events
open Go Go.Abs Go.Proofs
set_option linter.unusedSimpArgs false
set_option linter.unusedVariables false
theorem xZj : ∀ (t : Tr) (p : Nat),∀ n ∈ t.nd p,n.z = n.args.isEmpty
 | .t0 n,p,m,hm => by
  obtain rfl := List.mem_singleton.1 hm
  rfl
 | .t1 n a,p,m,hm => by
  rw [xX1] at hm
  rcases List.mem_append.1 hm with hm | hm
  ·exact xZj a p m hm
  ·obtain rfl := List.mem_singleton.1 hm
   rfl
 | .t2 n a b,p,m,hm => by
  rw [xX2] at hm
  rcases List.mem_append.1 hm with hm | hm
  ·rcases List.mem_append.1 hm with hm | hm
   ·exact xZj a p m hm
   ·exact xZj b _ m hm
  ·obtain rfl := List.mem_singleton.1 hm
   rfl
theorem xZR {F : List AV} {G : Heap} {a b c : AV} (hF : FR F) (g0 : G[0]? = some (.cells false false [a])) (g1 : G[1]? = some (.cells false false [b])) (g2 : G[2]? = some (.cells false false [c])) : xA2 xWV ⟨F,G⟩ = some (.tup [a,b,c]) := by
 have k2 := hF.r2
 have k3 := hF.r3
 have k4 := hF.r4
 have e2 : rd G (.ptr 0 0) 1 = some [a] := by simp [rd,g0]
 have e3 : rd G (.ptr 1 0) 1 = some [b] := by simp [rd,g1]
 have e4 : rd G (.ptr 2 0) 1 = some [c] := by simp [rd,g2]
 show (xNJ _ _).map AV.tup = _
 simp only [xWV,xNJ,xQP,k2,k3,k4,e2,e3,e4]
 rfl
theorem yBp {G : Heap} (h : 3 < G.length) (A B C : Blk) : (List.set (List.set (G.set 0 A) 1 B) 2 C)[0]? = some A ∧ (List.set (List.set (G.set 0 A) 1 B) 2 C)[1]? = some B ∧ (List.set (List.set (G.set 0 A) 1 B) 2 C)[2]? = some C := by
 refine ⟨?_,?_,?_⟩
 ·rw [List.getElem?_set_ne (by decide),List.getElem?_set_ne (by decide),List.getElem?_set_self (by omega)]
 ·rw [List.getElem?_set_ne (by decide),List.getElem?_set_self (by simp; omega)]
 ·rw [List.getElem?_set_self (by simp; omega)]
theorem xVf (C : Nat → List AV → Heap → Option (Nat × AV × Heap)) {S : List UInt8} (hS : S.length ≤ 4096) {p : Nat × List Nd} {r' : List UInt8} (hp : xCh (S.length + 1) 0 [] S = .ok p r') : ∃ r H',xBA L1 C [zS S] [] = some (r,H') ∧ frz frzN H' r = some (.tup [.sl (parse S).1.isEmpty (parse S).1.length (nds (parse S).1),.int .i64 ((parse S).2.1 : Nat),.int .i64 ((parse S).2.2 : Nat)]) := by
 obtain ⟨m',l⟩ := p
 have hlt : decide ((4096 : Int) < (S.length : Nat)) = false := by simp; omega
 have h2 := xNV S
 rw [hlt] at h2
 have hRD : RD (H12 ++ [rdB S 0 (.sl true 0 []) 0]) 3 S 0 (.sl true 0 []) 0 := rfl
 obtain ⟨G,at',ol,e41,hR,hd,hal,hPL,hlm,hm64,hl0,hol,hK⟩ := xFp (rb := 3) hS (S.length + 1) 0 [] S m' l r' _ 0 (.sl true 0 []) (fun b => b < 4) hRD rfl (Nat.zero_le _) ⟨[],rfl,fun p hp => (by cases hp),.inl ⟨rfl,rfl⟩⟩ (by decide) (fun b hb => hb) (Nat.le_refl _) (by omega) hp
 obtain ⟨t,t1,t2,t3,t4⟩ := xFj _ _ _ _ _ _ _ hp
 rw [List.nil_append] at t3
 have hz : ∀ x ∈ l,x.z = x.args.isEmpty := fun x hx => by rw [t3] at hx; exact xZj t _ x hx
 have hlm' : l.length ≤ m' := by simpa using hlm
 obtain ⟨hf,hn,hne⟩ := xGK 4 hPL hz
 have hV : ∀ j,j < l.length → Vn j (l.getD j nd0) := fun j hj => by
  have hj' : j < t.sz := by rw [t3,t.nd_len] at hj; exact hj
  have := xXO t t1 0 j hj'
  rw [Nat.zero_add] at this
  rw [t3]; exact this
 have h42 := xSV (fz := false) (fs := l) (by omega) hV l.length (l.length - 1) 0 (by omega) (by omega) (by omega)
 have lo := xAp (show G[3]? = some _ from hR)
 have g0 : G[0]? = some (.cells false false [.sl true 0 []]) := (hK.2 0 (by show 0 < 4; decide) (by decide) (fun o m e => by cases e)).trans rfl
 have g1 : G[1]? = some (.cells false false [.int .i64 0]) := (hK.2 1 (by show 1 < 4; decide) (by decide) (fun o m e => by cases e)).trans rfl
 have g2 : G[2]? = some (.cells false false [.int .i64 0]) := (hK.2 2 (by show 2 < 4; decide) (by decide) (fun o m e => by cases e)).trans rfl
 have hat : S.length - r'.length = at' ∨ r' = [] := by
  by_cases c : r' = []
  ·exact .inr c
  ·left
   have := congrArg List.length hd
   rw [List.length_drop] at this
   have h3 : 0 < r'.length := List.length_pos_iff.2 c
   omega
 have key : ∀ {F' : List AV} {v : AV} (G' : Heap) (_ : True),run L1 pR3 ⟨FZ S false (.ptr 3 0) (.int .i64 ((l.length - 1 : Nat) : Int)) (.int .i64 ((l.length - 1 : Nat) : Int)),G⟩ = some (.ret,⟨F',G'⟩) → xA2 xWV ⟨F',G'⟩ = some v → xBA L1 C [zS S] [] = some (v,G') := by
  intro F' v G' _ h3 hres
  have hrun : run L1 pR ⟨(F12 S (zS S) (.int .i64 (S.length : Nat)) (.bool false)).set 10 .any,H12⟩ = some (.ret,⟨F',G'⟩) := by
   unfold pR
   rw [xAw,xSN,xAl,xAw]
   have := xSO (S := S) (b := false) e41
   rw [show (zS S :: .tup [] :: .ptr 0 0 :: .ptr 1 0 :: .ptr 2 0 :: .ptr 3 0 :: .tup [] :: zS S :: .int .i64 (S.length : Nat) :: .bool false :: .any :: zS S :: .agg [zS S,.int .i64 0,.sl true 0 [],.int .i64 0] :: .ptr 3 0 :: List.replicate 25 (.tup []) : List AV) = FZ S false (.tup []) (.tup []) (.tup []) from rfl,this,xAl]
   exact h3
  unfold xBA
  rw [xKA]
  dsimp only
  rw [h2]
  show (if 10 < _ then xCe L1 C _ else none) = _
  rw [if_pos (by simp)]
  unfold xCe
  dsimp only
  rw [hrun]
  dsimp only
  rw [hres]; rfl
 have hpa : parse S = if r' ≠ [] then ([],S.length - r'.length,5) else if Go.Abs.Events.opn l l.length (l.length - 1) 0 = true then ([],0,11) else (l,0,0) := by
  unfold parse
  rw [if_neg (by omega),hp]
 have hl3 : 3 < List.length G := lo
 by_cases c : r' = []
 ·rw [if_neg (fun q => q c)] at hpa
  have hge : ¬ at' < S.length := by
   have := congrArg List.length hd
   rw [List.length_drop,c] at this
   simp at this; omega
  cases ho : Go.Abs.Events.opn l l.length (l.length - 1) 0 with
  | true =>
   rw [ho] at h42 hpa
   rw [if_pos rfl] at hpa
   obtain ⟨F',e3,f3⟩ := xVe (b := false) hR g0 g1 g2 hge hf h42
   obtain ⟨n0,n1,n2⟩ := yBp hl3 (.cells false false [.sl true 0 []]) (.cells false false [.int .i64 0]) (.cells false false [.int .i64 11])
   refine ⟨_,_,key _ trivial e3 (xZR f3 n0 n1 n2),?_⟩
   rw [hpa]; rfl
  | false =>
   rw [ho] at h42 hpa
   rw [if_neg (by simp)] at hpa
   obtain ⟨F',e3,f3⟩ := xWJ (b := false) hR g0 g1 g2 hge hf h42
   obtain ⟨n0,n1,n2⟩ := yBp hl3 (.cells false false [.own false ol 0 l.length 6]) (.cells false false [.int .i64 0]) (.cells false false [.int .i64 0])
   refine ⟨_,_,key _ trivial e3 (xZR f3 n0 n1 n2),?_⟩
   rw [hpa]
   have hne' : l.isEmpty = false := by
    cases hl : l with
    | nil => exact absurd hl hne
    | cons _ _ => rfl
   have hPL' : PL (List.set (List.set (G.set 0 (.cells false false [.own false ol 0 l.length 6])) 1 (.cells false false [.int .i64 0])) 2 (.cells false false [.int .i64 0])) (fun b => b < 4) (.own false ol 0 l.length 6) l := hPL.keep fun b hb hn => by
    have : ¬ b < 4 := hn
    rw [List.getElem?_set_ne (by omega),List.getElem?_set_ne (by omega),List.getElem?_set_ne (by omega)]
   have hf' := (xGK 3 hPL' hz).1
   show (([AV.own false ol 0 l.length 6,.int .i64 0,.int .i64 0] : List AV).mapM (frz 5 _)).map AV.tup = _
   simp only [List.mapM_cons,List.mapM_nil,xCV,hf',hne']
   rfl
 ·rw [if_pos c] at hpa
  have h3 : 0 < r'.length := List.length_pos_iff.2 c
  have hdl := congrArg List.length hd
  rw [List.length_drop] at hdl
  obtain ⟨F',e3,f3⟩ := xVd (b := false) (v := .int .i64 ((l.length - 1 : Nat) : Int)) hR g0 g1 g2 (by omega)
  obtain ⟨n0,n1,n2⟩ := yBp hl3 (.cells false false [.sl true 0 []]) (.cells false false [.int .i64 (at' : Nat)]) (.cells false false [.int .i64 5])
  refine ⟨_,_,key _ trivial e3 (xZR f3 n0 n1 n2),?_⟩
  rw [hpa,show S.length - r'.length = at' by omega]; rfl
end Go.Abs.Events
