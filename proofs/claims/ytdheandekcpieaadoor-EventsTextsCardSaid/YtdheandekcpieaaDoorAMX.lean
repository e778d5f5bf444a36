/- Parse with a result of the caller's own. -/
import Derived.Test.YtdheandekcpieaaDoorAMV
import Derived.Test.YtdheandekcpieaaDoorAS7
import Derived.Test.YtdheandekcpieaaDoorAbsBun
import Derived.Test.YtdheandekcpieaaDoorAMR
import Derived.Test.YtdheandekcpieaaDoorAME
import Derived.Test.YtdheandekcpieaaDoorAMP
import Derived.Test.YtdheandekcpieaaDoorAbsLaw2
import Derived.LaidLaws
import Derived.Handed
namespace Go.Abs.Events
open Go Go.Abs Go.Proofs
set_option maxHeartbeats 8000000
set_option linter.unusedSimpArgs false
set_option linter.unusedVariables false
theorem xNb {S : List UInt8} {l : List Nd} {a e : Nat} (h : parse S = (l,a,e)) (hne : l ≠ []) : S.length ≤ 4096 ∧ a = 0 ∧ e = 0 ∧ Go.Abs.Events.opn l l.length (l.length - 1) 0 = false ∧ ∃ m,xCh (S.length + 1) 0 [] S = .ok (m,l) [] := by
 unfold parse at h
 split at h
 ·cases h; exact absurd rfl hne
 ·rename_i hl
  split at h
  ·cases h; exact absurd rfl hne
  ·rename_i m l' r hp
   split at h
   ·cases h; exact absurd rfl hne
   ·rename_i hr
    split at h
    ·cases h; exact absurd rfl hne
    ·rename_i ho
     cases h
     refine ⟨by omega,rfl,rfl,by simpa using ho,m,?_⟩
     rw [hp]
     congr 1
     exact Classical.not_not.1 hr
theorem xT2 (C : Nat → List AV → Heap → Option (Nat × AV × Heap)) {S : List UInt8} {l : List Nd} {a e : Nat} (h : parse S = (l,a,e)) (hne : l ≠ []) : ∃ ol H',xBA L1 C [zS S] [] = some (.tup [.own false ol 0 l.length 6,.int .i64 0,.int .i64 0],H') ∧ PL H' (fun b => b < 4) (.own false ol 0 l.length 6) l ∧ (∀ x ∈ l,x.z = x.args.isEmpty) ∧ l.length ≤ 64 ∧ ∀ j,j < l.length → Vn j (l.getD j nd0) := by
 obtain ⟨hS,rfl,rfl,ho,m',hp⟩ := xNb h hne
 have hlt : decide ((4096 : Int) < (S.length : Nat)) = false := by simp; omega
 have h2 := xNV S
 rw [hlt] at h2
 have hRD : RD (H12 ++ [rdB S 0 (.sl true 0 []) 0]) 3 S 0 (.sl true 0 []) 0 := rfl
 obtain ⟨G,at',ol,e41,hR,hd,hal,hPL,hlm,hm64,hl0,hol,hK⟩ := xFp (rb := 3) hS (S.length + 1) 0 [] S m' l [] _ 0 (.sl true 0 []) (fun b => b < 4) hRD rfl (Nat.zero_le _) ⟨[],rfl,fun p hp => (by cases hp),.inl ⟨rfl,rfl⟩⟩ (by decide) (fun b hb => hb) (Nat.le_refl _) (by omega) hp
 obtain ⟨t,t1,t2,t3,t4⟩ := xFj _ _ _ _ _ _ _ hp
 rw [List.nil_append] at t3
 have hz : ∀ x ∈ l,x.z = x.args.isEmpty := fun x hx => by rw [t3] at hx; exact xZj t _ x hx
 have hlm' : l.length ≤ m' := by simpa using hlm
 obtain ⟨hf,hn,hne⟩ := xGK 4 hPL hz
 have hV : ∀ j,j < l.length → Vn j (l.getD j nd0) := fun j hj => by
  have hj' : j < t.sz := by rw [t3,t.nd_len] at hj; exact hj
  have := xXO t t1 0 j hj'
  rw [Nat.zero_add] at this
  rw [t3]; exact this
 have h42 := xSV (fz := false) (fs := l) (by omega) hV l.length (l.length - 1) 0 (by omega) (by omega) (by omega)
 have lo := xAp (show G[3]? = some _ from hR)
 have g0 : G[0]? = some (.cells false false [.sl true 0 []]) := (hK.2 0 (by show 0 < 4; decide) (by decide) (fun o m e => by cases e)).trans rfl
 have g1 : G[1]? = some (.cells false false [.int .i64 0]) := (hK.2 1 (by show 1 < 4; decide) (by decide) (fun o m e => by cases e)).trans rfl
 have g2 : G[2]? = some (.cells false false [.int .i64 0]) := (hK.2 2 (by show 2 < 4; decide) (by decide) (fun o m e => by cases e)).trans rfl
 have hl3 : 3 < List.length G := lo
 have hge : ¬ at' < S.length := by
  have := congrArg List.length hd
  rw [List.length_drop] at this
  simp at this; omega
 rw [ho] at h42
 obtain ⟨F',e3,f3⟩ := xWJ (b := false) hR g0 g1 g2 hge hf h42
 obtain ⟨n0,n1,n2⟩ := yBp hl3 (.cells false false [.own false ol 0 l.length 6]) (.cells false false [.int .i64 0]) (.cells false false [.int .i64 0])
 have hrun : ∀ G3 : Heap,run L1 pR3 ⟨FZ S false (.ptr 3 0) (.int .i64 ((l.length - 1 : Nat) : Int)) (.int .i64 ((l.length - 1 : Nat) : Int)),G⟩ = some (.ret,⟨F',G3⟩) → run L1 pR ⟨(F12 S (zS S) (.int .i64 (S.length : Nat)) (.bool false)).set 10 .any,H12⟩ = some (.ret,⟨F',G3⟩) := by
  intro G3 e3
  unfold pR
  rw [xAw,xSN,xAl,xAw]
  have := xSO (S := S) (b := false) e41
  rw [show (zS S :: .tup [] :: .ptr 0 0 :: .ptr 1 0 :: .ptr 2 0 :: .ptr 3 0 :: .tup [] :: zS S :: .int .i64 (S.length : Nat) :: .bool false :: .any :: zS S :: .agg [zS S,.int .i64 0,.sl true 0 [],.int .i64 0] :: .ptr 3 0 :: List.replicate 25 (.tup []) : List AV) = FZ S false (.tup []) (.tup []) (.tup []) from rfl,this,xAl]
  exact e3
 have hres := xZR f3 n0 n1 n2
 refine ⟨ol,List.set (List.set (G.set 0 (.cells false false [.own false ol 0 l.length 6])) 1 (.cells false false [.int .i64 0])) 2 (.cells false false [.int .i64 0]),?_,hPL.keep fun b hb hn => ?_,hz,by omega,hV⟩
 ·unfold xBA
  rw [xKA]
  dsimp only
  rw [h2]
  show (if 10 < _ then xCe L1 C _ else none) = _
  rw [if_pos (by simp)]
  unfold xCe
  dsimp only
  rw [hrun _ e3]
  dsimp only
  rw [hres]; rfl
 ·have : ¬ b < 4 := hn
  rw [List.getElem?_set_ne (by omega),List.getElem?_set_ne (by omega),List.getElem?_set_ne (by omega)]
def yCZ (T : List UInt8) (vB : AV × Heap) : Prop := ∀ n im io w vs,Sim (xAn Tryd.prog) im io [] w → Reps im io [zS T] vs → CallsIn (Fw none) n Tryd.prog 12 vs.toArray w (xIg (xAn Tryd.prog) im io w vB.1 vB.2)
theorem xVR {T : List UInt8} {v : AV} {H' : Heap} (h : xBA L1 (fun _ _ _ => none) [zS T] [] = some (v,H')) : yCZ T (v,H') := fun n im io w vs hs hr => by
 have hRL := xLh prog1Ok
 exact Ev.parse hRL.1 hRL.2 xHb h n im io w vs hs hr
noncomputable def R3 (T : List UInt8) (vB : AV × Heap) : Rec where
 pcall := L.pcall
 icall f args H := open Classical in if f = .func 12 [] ∧ args = [zS T] ∧ H = [] then some vB else L.icall f args H
 loop := L.loop
theorem yAR (T : List UInt8) (vB : AV × Heap) : (R3 T vB).icall (.func 12 []) [zS T] [] = some vB := if_pos ⟨rfl,rfl,rfl⟩
theorem xT3 {T : List UInt8} {vB : AV × Heap} {f : AV} {args : List AV} {H : Heap} (hf : f ≠ .func 12 []) : (R3 T vB).icall f args H = L.icall f args H := if_neg fun h => hf h.1
end Go.Abs.Events
/- The law Texts: nodes of an own list,the terms overwritten,the law's loop. -/
namespace Go.Abs.Events
open Go Go.Abs Go.Proofs
set_option linter.unusedSimpArgs false
set_option linter.unusedVariables false
theorem yDD (caps args : List AV) (H : Heap) : L.icall (.func 15 caps) args H = xAS L a15 (args ++ caps) H := xAk rfl caps args H
theorem yDE (caps args : List AV) (H : Heap) : L.icall (.func 16 caps) args H = xAS L a16 (args ++ caps) H := xAk rfl caps args H
abbrev RP (ps : List (Nd × AV)) : List AV := rows xIf ps
theorem xT4 (ps : List (Nd × AV)) : ps.flatMap xIf = RP ps := by simp [RP,rows,List.flatMap]
theorem yC0 (p : Nd × AV) : (xIf p).length = 6 := rfl
theorem xPY (ps : List (Nd × AV)) : (RP ps).length = ps.length * 6 := xDp yC0 ps
theorem xYW (ps : List (Nd × AV)) : List.take (ps.length * 6) (RP ps) = RP ps := by rw [← xPY,List.take_length]
theorem yC1 {ps : List (Nd × AV)} {i : Nat} (h : i < ps.length) : List.take 6 (List.drop (i * 6) (RP ps)) = xIf ps[i] := by
 rw [show List.drop (i * 6) (RP ps) = RP (ps.drop i) from xDX yC0 i ps,List.drop_eq_getElem_cons h]
 show List.take 6 (xIf ps[i] ++ _) = _
 exact List.take_left' (yC0 _)
theorem yAS (ps : List (Nd × AV)) (p : Nd × AV) : RP ps ++ xIf p = RP (ps ++ [p]) := by
 show rows _ ps ++ _ = rows _ (ps ++ [p])
 rw [← xU3]; simp [rows]
def AvP (av : AV) : Prop := av = .sl true 0 [] ∨ ∃ k n,av = .own false k 0 n 1
def GrP (B : Nat) (G : Heap) (v : AV) (ps : List (Nd × AV)) : Prop := (ps = [] ∧ v = .sl true 0 []) ∨ ∃ ob,B ≤ ob ∧ v = .own false ob 0 ps.length 6 ∧ G[ob]? = some (.cells false false (RP ps)) ∧ ps ≠ []
theorem xYX {B o N : Nat} {ps : List (Nd × AV)} (hoB : o < B) (hN : ps.length = N) (hl : N ≤ 1000) (hav : ∀ p ∈ ps,AvP p.2) : ∀ k i,i + k = N → ∀ (G : Heap) (v : AV),B ≤ G.length → G[o]? = some (.cells false false (RP ps)) → GrP B G v (ps.take i) → ∃ (G' : Heap) (v' : AV),
  L.loop xEx xKC ⟨xD2 (.own false o 0 N 6) v (.int .i64 (i : Nat)),G⟩ = some (.exit 0,⟨xD2 (.own false o 0 N 6) v' (.int .i64 (N : Nat)),G'⟩) ∧ GrP B G' v' ps ∧ Kp B G G' := by
 intro k
 induction k with
 | zero =>
  intro i hi G v hB go hg
  obtain rfl : i = N := by omega
  rw [List.take_of_length_le (by omega)] at hg
  refine ⟨G,v,?_,hg,.refl _ _⟩
  rw [xFk]
  simp (maxSteps := 30000000) (disch := first|exact D5|fail) only [xD1,WB,↓reduceIte,xC5]
 | succ k ih =>
  intro i hi G v hB go hg
  have hlt : i < ps.length := by omega
  have hltI : ((i : Nat) : Int) < (N : Nat) := by omega
  have lo1 := xAp go
  have htake : ps.take (i + 1) = ps.take i ++ [ps[i]] := by rw [List.take_succ_eq_append_getElem hlt]
  have hat := yC1 hlt
  have hol := xPY ps
  rw [hN] at hol
  have hno : xIf ps[i] = [.int .u8 (ps[i].1.op : Nat),.int .i64 ps[i].1.name,ps[i].2,.int .i64 ps[i].1.x,.int .i64 ps[i].1.a,.int .i64 ps[i].1.b] := rfl
  have hap := hav ps[i] (List.getElem_mem hlt)
  rcases hg with ⟨ht0,rfl⟩ | ⟨ob,hob,rfl,gob,hne⟩
  ·have hi0 : i = 0 := by
    have := congrArg List.length ht0
    rw [List.length_take] at this
    have this : min i ps.length = 0 := this
    omega
   obtain ⟨G',v',e1,g1,k1⟩ := ih (i + 1) (by omega) (G ++ [.cells false false (xIf ps[i]),.cells false false (xIf ps[i])]) (.own false (G.length + 1) 0 1 6) (by simp; omega) (by rw [xA1 lo1]; exact go)
    (.inr ⟨G.length + 1,by omega,by rw [htake,ht0]; rfl,by rw [List.getElem?_append_right (by omega),show G.length + 1 - G.length = 1 by omega,htake,ht0]; simp [RP,rows],by rw [htake]; exact List.append_ne_nil_of_right_ne_nil _ (List.cons_ne_nil _ _)⟩)
   refine ⟨G',v',?_,g1,(Kp.appB _ _ hB).trans k1⟩
   rw [hno] at e1 hat
   clear htake ih
   generalize RP ps = L0 at *
   generalize ps[i].2 = av at *
   rcases hap with rfl | ⟨ka,n,rfl⟩
   ·rw [xFk]
    simp (maxSteps := 30000000) (disch := first|exact D5|fail) only [xD1,WB,hltI,↓reduceIte,go,hat,AV.cells,Nat.reduceAdd,Nat.reduceMul,AV.isCell,xBT,Nat.reduceBEq,xC5,e1]
   ·rw [xFk]
    simp (maxSteps := 30000000) (disch := first|exact D5|fail) only [xD1,WB,hltI,↓reduceIte,go,hat,AV.cells,Nat.reduceAdd,Nat.reduceMul,AV.isCell,xBT,Nat.reduceBEq,xC5,e1]
  ·have lob := xAp gob
   have hll : (ps.take i).length = i := by rw [List.length_take]; omega
   have happ := yAS (ps.take i) ps[i]
   have hnl := xPY (ps.take i)
   have hnt := xYW (ps.take i)
   rw [hll] at hnl hnt
   obtain ⟨G',v',e1,g1,k1⟩ := ih (i + 1) (by omega) (G.set ob .dead ++ [.cells false false (xIf ps[i]),.cells false false (RP (ps.take i ++ [ps[i]]))]) (.own false (G.length + 1) 0 (i + 1) 6) (by simp; omega) (by rw [xA1 (by simpa using lo1),xBB (by omega)]; exact go)
    (.inr ⟨G.length + 1,by omega,by rw [List.length_take,Nat.min_eq_left (by omega)],by rw [List.getElem?_append_right (by simp),List.length_set,show G.length + 1 - G.length = 1 by omega,htake]; rfl,by rw [htake]; exact List.append_ne_nil_of_right_ne_nil _ (List.cons_ne_nil _ _)⟩)
   refine ⟨G',v',?_,g1,((Kp.set hob).trans (Kp.appB _ _ (by simpa using hB))).trans k1⟩
   rw [hno] at e1 hat happ
   rw [hll]
   clear htake ih
   generalize RP (ps.take i ++ [ps[i]]) = L2 at *
   generalize RP (ps.take i) = L1 at *
   generalize RP ps = L0 at *
   generalize ps[i].2 = av at *
   rcases hap with rfl | ⟨ka,n,rfl⟩
   ·rw [xFk]
    simp (maxSteps := 30000000) (disch := first|exact D5|fail) only [xD1,WB,hltI,↓reduceIte,go,hat,AV.cells,Nat.reduceAdd,Nat.reduceMul,AV.isCell,xBT,xA1,gob,Nat.reduceBEq,xEm,hnt,happ,xC5,e1]
   ·rw [xFk]
    simp (maxSteps := 30000000) (disch := first|exact D5|fail) only [xD1,WB,hltI,↓reduceIte,go,hat,AV.cells,Nat.reduceAdd,Nat.reduceMul,AV.isCell,xBT,xA1,gob,Nat.reduceBEq,xEm,hnt,happ,xC5,e1]
theorem xVS {G : Heap} {o N : Nat} {ps : List (Nd × AV)} (hN : ps.length = N) (hl : N ≤ 1000) (hne : ps ≠ []) (hav : ∀ p ∈ ps,AvP p.2) (go : G[o]? = some (.cells false false (RP ps))) : ∃ (G' : Heap) (ob : Nat),L.icall (.func 15 []) [.own false o 0 N 6] G = some (.own false ob 0 N 6,G') ∧ G'[ob]? = some (.cells false false (RP ps)) ∧ Kp G.length G G' ∧ G.length ≤ ob := by
 obtain ⟨G',v',e1,g1,k1⟩ := xYX (B := G.length) (xAp go) hN hl hav N 0 (by omega) G (.sl true 0 []) (Nat.le_refl _) go (.inl ⟨rfl,rfl⟩)
 have e1' : L.loop xEx xKC ⟨xD2 (.own false o 0 N 6) (.sl true 0 []) (.int .i64 0),G⟩ = _ := e1
 rcases g1 with ⟨h,-⟩ | ⟨ob,hob,rfl,gob,-⟩
 ·exact absurd h hne
 ·rw [hN] at e1'
  refine ⟨G',ob,?_,gob,k1,hob⟩
  rw [yDD,a15,xAj]
  simp (disch := omega) only [WB,Nat.reduceSub,xC5,e1',↓reduceIte]
theorem xVT (G : Heap) : L.icall (.func 15 []) [.sl true 0 []] G = some (.sl true 0 [],G) := by
 have e1 : L.loop xEx xKC ⟨xD2 (.sl true 0 []) (.sl true 0 []) (.int .i64 0),G⟩ = some (.exit 0,⟨xD2 (.sl true 0 []) (.sl true 0 []) (.int .i64 0),G⟩) := by
  rw [xFk]
  simp (disch := omega) only [xD1,WB,↓reduceIte,xC5]
 rw [yDD,a15,xAj]
 simp (disch := omega) only [WB,Nat.reduceSub,xC5,e1,↓reduceIte]
theorem xYY {o N : Nat} (hl : N ≤ 100000) : ∀ k i,i + k = N → ∀ (G : Heap) (l1 : List Int),l1.length = N → G[o]? = some (.cells false false (xAG l1)) → ∃ l2 : List Int,l2.length = N ∧
  L.loop xHL xQy ⟨xGm (.own false o 0 N 1) (.int .i64 (i : Nat)),G⟩ = some (.exit 0,⟨xGm (.own false o 0 N 1) (.int .i64 (N : Nat)),G.set o (.cells false false (xAG l2))⟩) := by
 intro k
 induction k with
 | zero =>
  intro i hi G l1 h1 go
  obtain rfl : i = N := by omega
  have hset : G.set o (.cells false false (xAG l1)) = G := by
   obtain ⟨hk,hx⟩ := List.getElem?_eq_some_iff.1 go
   rw [← hx,List.set_getElem_self]
  refine ⟨l1,h1,?_⟩
  rw [hset,xS1]
  simp (maxSteps := 30000000) (disch := first|exact D5|fail) only [xMB,Int.reduceNeg,WB,↓reduceIte,xMC]
 | succ k ih =>
  intro i hi G l1 h1 go
  have hlt : i < N := by omega
  have hltI : ((i : Nat) : Int) < (N : Nat) := by omega
  have lo := xAp go
  have hlen : (xAG l1).length = N := by simp [xAG,h1]
  have hput : xAG (List.take i l1) ++ (AV.int .i64 (-77) :: xAG (List.drop (i + 1) l1)) = xAG (l1.set i (-77)) := by
   rw [List.set_eq_take_append_cons_drop,if_pos (by omega)]; simp [xAG]
  obtain ⟨l2,h2,e1⟩ := ih (i + 1) (by omega) (G.set o (.cells false false (xAG (l1.set i (-77))))) (l1.set i (-77)) (by simpa using h1) (xDD lo)
  rw [List.set_set] at e1
  refine ⟨l2,h2,?_⟩
  generalize l1.set i (-77) = l3 at *
  rw [xS1]
  simp (maxSteps := 30000000) (disch := first|exact D5|fail) only [xMB,Int.reduceNeg,WB,hltI,↓reduceIte,AV.cells,go,W2,hput,xMC,e1]
theorem xYZ {G : Heap} {o : Nat} {l : List Int} (go : G[o]? = some (.cells false false (xAG l))) (hl : l.length ≤ 100000) : ∃ l2 : List Int,l2.length = l.length ∧ L.icall (.func 16 []) [.own false o 0 l.length 1] G = some (.tup [],G.set o (.cells false false (xAG l2))) := by
 obtain ⟨l2,h2,e1⟩ := xYY (o := o) hl l.length 0 (by omega) G l rfl go
 have e1' : L.loop xHL xQy ⟨xGm (.own false o 0 l.length 1) (.int .i64 0),G⟩ = _ := e1
 refine ⟨l2,h2,?_⟩
 rw [yDE,a16,xAj]
 simp (disch := omega) only [WB,Nat.reduceSub,xMC,e1',↓reduceIte]
theorem xY0 (G : Heap) : L.icall (.func 16 []) [.sl true 0 []] G = some (.tup [],G) := by
 have e1 : L.loop xHL xQy ⟨xGm (.sl true 0 []) (.int .i64 0),G⟩ = some (.exit 0,⟨xGm (.sl true 0 []) (.int .i64 0),G⟩) := by
  rw [xS1]
  simp (disch := omega) only [xMB,Int.reduceNeg,WB,↓reduceIte,xMC]
 rw [yDE,a16,xAj]
 simp (disch := omega) only [WB,Nat.reduceSub,xMC,e1,↓reduceIte]
end Go.Abs.Events
/- The law Texts: the law's loop. -/
namespace Go.Abs.Events
open Go Go.Abs Go.Proofs
set_option linter.unusedSimpArgs false
set_option linter.unusedVariables false
def AvG (G : Heap) (o : Nat) (av : AV) : Prop := av = .sl true 0 [] ∨ ∃ k l,av = .own false k 0 (l : List Int).length 1 ∧ G[k]? = some (.cells false false (xAG l)) ∧ l.length ≤ 1000 ∧ k ≠ o
theorem AvG.set {G : Heap} {o : Nat} {av : AV} (h : AvG G o av) (B : Blk) : AvG (G.set o B) o av := by
 rcases h with h | ⟨k,l,h1,h2,h3,h4⟩
 ·exact .inl h
 ·exact .inr ⟨k,l,h1,by rw [xBB (Ne.symm h4)]; exact h2,h3,h4⟩
theorem AvG.put {G : Heap} {o k : Nat} {av : AV} {l l2 : List Int} (h : AvG G o av) (hk : G[k]? = some (.cells false false (xAG l))) (hl : l2.length = l.length) : AvG (G.set k (.cells false false (xAG l2))) o av := by
 rcases h with h | ⟨k',l',h1,h2,h3,h4⟩
 ·exact .inl h
 ·by_cases c : k' = k
  ·subst c
   rw [hk] at h2
   have hn : l.length = l'.length := by
    have := congrArg (fun b => match b with | some (Blk.cells _ _ cs) => cs.length | _ => 0) h2
    simpa [xAG] using this
   exact .inr ⟨k',l2,by rw [h1,hl,hn],xDD (xAp hk),by omega,h4⟩
  ·exact .inr ⟨k',l',h1,by rw [xBB (Ne.symm c)]; exact h2,h3,h4⟩
set_option maxRecDepth 100000 in
theorem yC2 {o N : Nat} {s0 s6 : AV} {ps : List (Nd × AV)} (hN : ps.length = N) (hl : N ≤ 1000) : ∀ k i,i + k = N → ∀ (G : Heap) (Z : List AV),Z.length = i * 6 → G[o]? = some (.cells false false (Z ++ RP (ps.drop i))) → (∀ p ∈ ps,AvG G o p.2) →
  ∃ G' : Heap,L.loop xMA xXU ⟨xHK s0 (.own false o 0 N 6) s6 (.int .i64 (i : Nat)),G⟩ = some (.exit 0,⟨xHK s0 (.own false o 0 N 6) s6 (.int .i64 (N : Nat)),G'⟩) := by
 intro k
 induction k with
 | zero =>
  intro i hi G Z hZ go hb
  obtain rfl : i = N := by omega
  refine ⟨G,?_⟩
  rw [xVp]
  simp (maxSteps := 30000000) (disch := first|exact D5|fail) only [xQw,WB,↓reduceIte,xQx]
 | succ k ih =>
  intro i hi G Z hZ go hb
  have hlt : i < ps.length := by omega
  have hltI : ((i : Nat) : Int) < (N : Nat) := by omega
  have hdr : ps.drop i = ps[i] :: ps.drop (i + 1) := List.drop_eq_getElem_cons hlt
  rw [hdr] at go
  have lo1 := xAp go
  have hap := hb ps[i] (List.getElem_mem hlt)
  have hcl : RP (ps[i] :: ps.drop (i + 1)) = xIf ps[i] ++ RP (ps.drop (i + 1)) := rfl
  have hno : xIf ps[i] = [.int .u8 (ps[i].1.op : Nat),.int .i64 ps[i].1.name,ps[i].2,.int .i64 ps[i].1.x,.int .i64 ps[i].1.a,.int .i64 ps[i].1.b] := rfl
  have hrl := xPY (ps.drop (i + 1))
  rw [List.length_drop] at hrl
  rw [hcl,hno] at go
  generalize ps[i].2 = av at *
  generalize hR : RP (ps.drop (i + 1)) = R at *
  generalize (AV.int .u8 (ps[i].1.op : Nat)) = c0 at *
  generalize (AV.int .i64 ps[i].1.name) = c1 at *
  generalize (AV.int .i64 ps[i].1.x) = c3 at *
  generalize (AV.int .i64 ps[i].1.a) = c4 at *
  generalize (AV.int .i64 ps[i].1.b) = c5 at *
  have hlen : (Z ++ ([c0,c1,av,c3,c4,c5] ++ R)).length = N * 6 := by
   rw [List.length_append,hZ,List.length_append,hrl]; simp; omega
  have hst : List.take (i * 6 + 1) (Z ++ ([c0,c1,av,c3,c4,c5] ++ R)) ++ (AV.int .i64 77 :: List.drop (i * 6 + 2) (Z ++ ([c0,c1,av,c3,c4,c5] ++ R))) = Z ++ ([c0,.int .i64 77,av,c3,c4,c5] ++ R) := by
   rw [← hZ,List.take_length_add_append,List.drop_length_add_append,List.append_assoc]; rfl
  have hlen2 : (Z ++ ([c0,.int .i64 77,av,c3,c4,c5] ++ R)).length = N * 6 := by
   rw [List.length_append,hZ,List.length_append,hrl]; simp; omega
  have hfl : List.take 1 (List.drop (i * 6 + 2) (Z ++ ([c0,.int .i64 77,av,c3,c4,c5] ++ R))) = [av] := by
   rw [← hZ,List.drop_length_add_append]; rfl
  have hZ' : (Z ++ [c0,.int .i64 77,av,c3,c4,c5]).length = (i + 1) * 6 := by rw [List.length_append,hZ]; simp; omega
  have hsp : Z ++ ([c0,.int .i64 77,av,c3,c4,c5] ++ R) = (Z ++ [c0,.int .i64 77,av,c3,c4,c5]) ++ R := by rw [List.append_assoc]
  rcases hap with rfl | ⟨ka,l,rfl,ga,hla,hka⟩
  ·obtain ⟨G',e1⟩ := ih (i + 1) (by omega) (G.set o (.cells false false (Z ++ ([c0,.int .i64 77,.sl true 0 [],c3,c4,c5] ++ R)))) (Z ++ [c0,.int .i64 77,.sl true 0 [],c3,c4,c5]) hZ' (by rw [xDD lo1,hsp,hR]) (fun p hp => (hb p hp).set _)
   refine ⟨G',?_⟩
   have h16 := xY0 (G.set o (.cells false false (Z ++ ([c0,.int .i64 77,.sl true 0 [],c3,c4,c5] ++ R))))
   clear ih hb hsp hcl
   generalize Z ++ ([c0,.int .i64 77,.sl true 0 [],c3,c4,c5] ++ R) = C2 at *
   generalize Z ++ ([c0,c1,.sl true 0 [],c3,c4,c5] ++ R) = C1 at *
   rw [xVp]
   simp (maxSteps := 30000000) (disch := first|exact D5|fail) only [xQw,WB,hltI,↓reduceIte,AV.cells,go,hst,xDD,hfl,h16,xQx,e1]
  ·have lk := xAp ga
   have ga2 : (G.set o (.cells false false (Z ++ ([c0,.int .i64 77,.own false ka 0 l.length 1,c3,c4,c5] ++ R))))[ka]? = some (.cells false false (xAG l)) := by rw [xBB (Ne.symm hka)]; exact ga
   obtain ⟨l2,hl2,h16⟩ := xYZ ga2 (by omega)
   obtain ⟨G',e1⟩ := ih (i + 1) (by omega) (List.set (G.set o (.cells false false (Z ++ ([c0,.int .i64 77,.own false ka 0 l.length 1,c3,c4,c5] ++ R)))) ka (.cells false false (xAG l2))) (Z ++ [c0,.int .i64 77,.own false ka 0 l.length 1,c3,c4,c5]) hZ' (by rw [xBB hka,xDD lo1,hsp,hR]) (fun p hp => ((hb p hp).set _).put ga2 hl2)
   refine ⟨G',?_⟩
   clear ih hb hsp hcl
   generalize Z ++ ([c0,.int .i64 77,.own false ka 0 l.length 1,c3,c4,c5] ++ R) = C2 at *
   generalize Z ++ ([c0,c1,.own false ka 0 l.length 1,c3,c4,c5] ++ R) = C1 at *
   rw [xVp]
   simp (maxSteps := 30000000) (disch := first|exact D5|fail) only [xQw,WB,hltI,↓reduceIte,AV.cells,go,hst,xDD,hfl,h16,xQx,e1]
theorem yAT {G : Heap} {s0 s6 : AV} : L.loop xMA xXU ⟨xHK s0 (.sl true 0 []) s6 (.int .i64 0),G⟩ = some (.exit 0,⟨xHK s0 (.sl true 0 []) s6 (.int .i64 0),G⟩) := by
 rw [xVp]
 simp (disch := omega) only [xQw,WB,↓reduceIte,xQx]
theorem xY1 (v : AV) : xGA 0 v = v := by cases v <;> simp [xGA]
theorem xT5 {fz z : Bool} {cs : List AV} (h : cs.all xIy = true) : xCI 0 (.cells fz z cs) = .cells fz z cs := by
 unfold xCI
 dsimp only
 rw [if_pos h]
 congr 1
 conv => rhs; rw [← List.map_id cs]
 exact List.map_congr_left fun v _ => xY1 v
theorem xVU (l : List Int) : (xAG l).all xIy = true := by simp [xAG,xIy,xCr]
theorem xW7 : ∀ {ps : List (Nd × AV)},(∀ p ∈ ps,AvP p.2) → (RP ps).all xIy = true
 | [],_ => rfl
 | p :: ps,h => by
  have ih := xW7 (ps := ps) fun q hq => h q (List.mem_cons_of_mem _ hq)
  have hp := h p List.mem_cons_self
  show (xIf p ++ RP ps).all xIy = true
  rw [List.all_append,ih,Bool.and_true]
  rcases hp with e | ⟨k,n,e⟩ <;> (unfold xIf; rw [e]; rfl)
end Go.Abs.Events
/- The law Texts: the walk. -/
namespace Go.Abs.Events
open Go Go.Abs Go.Proofs
set_option linter.unusedSimpArgs false
set_option linter.unusedVariables false
theorem yAU {S : List UInt8} (H : Heap) : xX0 H (zS S) none (some (.int .i64 (min (S.length : Int) 900))) = some (zS (S.take 900),H) := by
 have e : min (S.length : Int) 900 = ((min S.length 900 : Nat) : Int) := by omega
 rw [e,xSU H (Nat.min_le_left _ _)]
 congr 3
 rw [Nat.min_comm,← List.take_take,List.take_length]
theorem yAV {R : Rec} {T : List UInt8} {v : AV} {B : Heap} (h : R.icall (.func 12 []) [zS T] [] = some (v,B)) (hr : xRq v = true) (hv : xCH 0 v = v) (ids : List Nat) : xZP [] ids (xDz R 12 [zS T]) = some (v,B.map (xCI 0)) := by
 rw [xSE h hr,xSD]
 have : fzIds [] ids = [] := List.length_eq_zero_iff.1 (xCK ids [])
 rw [this]
 show some (xCH 0 v,[] ++ B.map (xCI 0)) = _
 rw [hv,List.nil_append]
theorem xNc {R : Rec} (hRl : R.loop = L.loop) (scr : List Nat) (b : ACode) (F : List AV) (H : Heap) : run R (.loop scr b) ⟨F,H⟩ = R.loop scr b ⟨xAu scr F,H⟩ := by
 show R.loop scr b ⟨F,H⟩ = R.loop scr b ⟨xAu scr F,H⟩
 rw [hRl]
 exact xGJ scr b F H
section
variable {R : Rec} {S T : List UInt8} {ol ob n : Nat} {NL : List AV} {B G2 G3 : Heap}
set_option maxRecDepth 100000 in
theorem yAW (hRl : R.loop = L.loop) (hT : S.take 900 = T) (h12 : R.icall (.func 12 []) [zS T] [] = some (.tup [.own false ol 0 n 6,.int .i64 0,.int .i64 0],B)) (h13 : R.pcall 13 [zS T] = some (.tup [.sl false n NL,.int .i64 0,.int .i64 0]))
  (h15 : R.icall (.func 15 []) [.own false ol 0 n 6] (List.map (xCI 0) B) = some (.own false ob 0 n 6,G2)) (hfz : frz 6 G2 (.own false ob 0 n 6) = some (.sl false n NL)) (h14 : R.pcall 14 [.sl false n NL,.sl false n NL] = some (.bool true))
  (hlp : R.loop xMA xXU ⟨xHK (zS T) (.own false ol 0 n 6) (.sl false n NL) (.int .i64 0),G2⟩ = some (.exit 0,⟨xHK (zS T) (.own false ol 0 n 6) (.sl false n NL) (.int .i64 (n : Nat)),G3⟩))
  (h12d : R.pcall 12 [zS T] = some (.tup [.sl false n NL,.int .i64 0,.int .i64 0])) (h15d : R.pcall 15 [.sl false n NL] = some (.sl false n NL)) (hk : R.pcall 17 [] = some (.bool true)) : xAE R a3 [zS S] = some (.bool true) := by
 have hsl := fun H => yAU (S := S) H
 rw [hT] at hsl
 have hsz : (⟨S.toArray⟩ : ByteArray).size = S.length := by simp [ByteArray.size]
 have hrl := fun scr b F H => xNc hRl scr b F H
 have hw := yAV h12 rfl (by show AV.tup [.own false (0 + ol) 0 n 6,.int .i64 0,.int .i64 0] = _; rw [Nat.zero_add])
 generalize List.map (xCI 0) B = G1 at *
 rw [a3,xAe]
 simp (disch := omega) only [WB,Nat.reduceSub,WA,hsz,xBS,hsl,xMm,xGj,hw,h13,xAN,xAt,↓reduceIte,h15,hfz,h14,hrl,xQx,hlp,h12d,h15d,hk]
set_option maxRecDepth 100000 in
theorem yAX {a e : Nat} (hRl : R.loop = L.loop) (hT : S.take 900 = T) (h12 : R.icall (.func 12 []) [zS T] [] = some (.tup [.sl true 0 [],.int .i64 (a : Nat),.int .i64 (e : Nat)],[])) (h13 : R.pcall 13 [zS T] = some (.tup [.sl true 0 [],.int .i64 (a : Nat),.int .i64 (e : Nat)]))
  (h15 : R.icall (.func 15 []) [.sl true 0 []] [] = some (.sl true 0 [],[])) (h14 : R.pcall 14 [.sl true 0 [],.sl true 0 []] = some (.bool true))
  (hlp : R.loop xMA xXU ⟨xHK (zS T) (.sl true 0 []) (.sl true 0 []) (.int .i64 0),[]⟩ = some (.exit 0,⟨xHK (zS T) (.sl true 0 []) (.sl true 0 []) (.int .i64 0),[]⟩))
  (h12d : R.pcall 12 [zS T] = some (.tup [.sl true 0 [],.int .i64 (a : Nat),.int .i64 (e : Nat)])) (h15d : R.pcall 15 [.sl true 0 []] = some (.sl true 0 [])) (hk : R.pcall 17 [] = some (.bool true)) : xAE R a3 [zS S] = some (.bool true) := by
 have hsl := fun H => yAU (S := S) H
 rw [hT] at hsl
 have hsz : (⟨S.toArray⟩ : ByteArray).size = S.length := by simp [ByteArray.size]
 have hrl := fun scr b F H => xNc hRl scr b F H
 have hw := yAV h12 rfl rfl
 rw [List.map_nil] at hw
 generalize ((a : Nat) : Int) = av at *
 generalize ((e : Nat) : Int) = ev at *
 rw [a3,xAe]
 simp (disch := omega) only [WB,Nat.reduceSub,WA,hsz,xBS,hsl,xMm,xGj,hw,h13,xAN,xAt,↓reduceIte,h15,h14,hrl,xQx,hlp,h12d,h15d,hk]
end
end Go.Abs.Events
/- The law Texts,whole. -/
namespace Go.Abs.Events
open Go Go.Abs Go.Proofs
set_option linter.unusedSimpArgs false
set_option linter.unusedVariables false
theorem xQF {im : Im} {io : Io} {w w' : World} {v : AV} {e : Ending} (hs : Sim (xAn Tryd.prog) im io [] w) (h : xDN im w v e w') : xIg (xAn Tryd.prog) im io w v [] e w' := by
 have hio : io = noIo := funext fun id => hs.fresh id (Nat.zero_le _)
 subst hio
 obtain ⟨x,im',rfl,h1,h2,h3,h4,h5⟩ := h
 refine ⟨x,im',noIo,rfl,⟨h1,.refl _,h4.os,h4.tape,h4.output,h4.size,fun b hb _ => h4.block b hb,fun b hb => .inl hb,fun b o hb => ?_⟩,Sim.empty h2,h5⟩
 rcases h3 b o hb with q | q
 ·exact .inl q
 ·exact .inr (.inr q)
theorem xVV {chk : Code → ACode → Bool} {im : Im} {io : Io} {w : World} (hs : Sim chk im io [] w) : io = noIo := funext fun id => hs.fresh id (Nat.zero_le _)
theorem xT6 {T : List UInt8} : yCZ T (.tup [.sl (parse T).1.isEmpty (parse T).1.length (nds (parse T).1),.int .i64 ((parse T).2.1 : Nat),.int .i64 ((parse T).2.2 : Nat)],[]) := fun n im io w vs hs hr => by
 have hio := xVV hs
 have h := xHc (S := T) (by rfl) im w vs ⟨hs.imw,hs.glob⟩ (by rw [← hio]; exact hr)
 exact (show CallsIn Fence.wide n Tryd.prog 12 vs.toArray w _ from callsIn_wide.2 h).mono fun e w' hp => xQF hs hp
theorem yAY {T : List UInt8} {vB : AV × Heap} (h : yCZ T vB) : RecOk (xAn Tryd.prog) Tryd.prog (R3 T vB) ∧ LoopOk Tryd.prog (R3 T vB) := by
 have hL := xLh progOk
 refine ⟨⟨hL.1.enters,hL.1.pcall,?_,?_,?_,?_⟩,⟨hL.2.loop⟩⟩
 ·intro f caps args H r H' hc vs w
  by_cases hf : AV.func f caps = .func 12 [] ∧ args = [zS T] ∧ H = []
  ·have : f = 12 := by have := hf.1; cases this; rfl
   subst this
   exact xPs vs w
  ·have : (R3 T vB).icall (.func f caps) args H = L.icall (.func f caps) args H := if_neg hf
   rw [this] at hc
   exact hL.1.ienters f caps args H r H' hc vs w
 ·intro f caps args H r H' hc n im io w vs hs hr
  by_cases hf : AV.func f caps = .func 12 [] ∧ args = [zS T] ∧ H = []
  ·have e : (R3 T vB).icall (.func f caps) args H = some vB := if_pos hf
   rw [e] at hc
   cases hc
   obtain ⟨hf1,rfl,rfl⟩ := hf
   cases hf1
   rw [List.append_nil] at hr
   exact h n im io w vs hs hr
  ·have : (R3 T vB).icall (.func f caps) args H = L.icall (.func f caps) args H := if_neg hf
   rw [this] at hc
   exact hL.1.icall f caps args H r H' hc n im io w vs hs hr
 ·intro l args H r H' hc
  have : (R3 T vB).icall (.yield l) args H = L.icall (.yield l) args H := if_neg fun q => by cases q.1
  rw [this] at hc
  exact hL.1.round l args H r H' hc
 ·intro f args H r H' hc
  by_cases hf : f = .func 12 [] ∧ args = [zS T] ∧ H = []
  ·exact .inl ⟨12,[],hf.1⟩
  ·have : (R3 T vB).icall f args H = L.icall f args H := if_neg hf
   rw [this] at hc
   exact hL.1.other f args H r H' hc
theorem xVW (S : List UInt8) : ∃ R,RecOk (xAn Tryd.prog) Tryd.prog R ∧ LoopOk Tryd.prog R ∧ xAE R a3 [zS S] = some (.bool true) := by
 generalize hT : S.take 900 = T
 have h13 := xV2 T
 have h12 := xX5 (s := T) (by rfl)
 have hk := xYa
 cases hp : parse T with
 | mk l ae =>
  obtain ⟨a,e⟩ := ae
  by_cases hne : l = []
  ·subst hne
   have hv := xT6 (T := T)
   rw [hp] at h13 h12 hv
   have hR := yAY hv
   refine ⟨_,hR.1,hR.2,yAX (R := R3 T _) rfl hT (yAR T _) h13 ?_ (yA2 (z1 := true) (z2 := true) (fs := []) (by simp) (fun j hj => by cases hj)) yAT h12 (xT7 true [] (by simp)) hk⟩
   rw [xT3 (by intro q; cases q)]
   exact xVT []
  ·obtain ⟨ol,B,hrun,hPL,hz,hl64,hV⟩ := xT2 (fun _ _ _ => none) hp hne
   obtain ⟨-,rfl,rfl,-,-⟩ := xNb hp hne
   have hem : l.isEmpty = false := by
    cases hq : l with
    | nil => exact absurd hq hne
    | cons _ _ => rfl
   rw [hp] at h13 h12
   dsimp only at h13 h12
   rw [hem] at h13 h12
   have hR := yAY (xVR hrun)
   obtain ⟨ps,rfl,hPA,hls⟩ := hPL
   have hps : ps ≠ [] := by rintro rfl; exact hne rfl
   have hav : ∀ p ∈ ps,AvP p.2 := fun p hpm => by
    rcases hPA p hpm with q | ⟨k,q,_⟩
    ·exact .inl q.2
    ·exact .inr ⟨k,_,q⟩
   obtain ⟨ol',e1,g2,-,-⟩ : ∃ ol',AV.own false ol 0 (ps.map Prod.fst).length 6 = .own false ol' 0 ps.length 6 ∧ B[ol']? = some (.cells false false (ps.flatMap xIf)) ∧ ps ≠ [] ∧ ¬ ol' < 4 := by
    rcases hls with ⟨q,_⟩ | q
    ·exact absurd q hps
    ·exact q
   obtain rfl : ol = ol' := by injection e1
   rw [xT4] at g2
   have hlen : (ps.map Prod.fst).length = ps.length := List.length_map ..
   have hargs : ∀ p ∈ ps,p.1.args.length ≤ 100 := fun p hpm => by
    obtain ⟨j,hj⟩ := List.mem_iff_getElem?.1 (List.mem_map_of_mem (f := Prod.fst) hpm)
    have hjl := (List.getElem?_eq_some_iff.1 hj).1
    have := (hV j hjl).al
    rw [List.getD_eq_getElem?_getD,hj] at this
    exact this
   have m2 : (B.map (xCI 0))[ol]? = some (.cells false false (RP ps)) := by
    rw [List.getElem?_map,g2]
    show some (xCI 0 _) = _
    rw [xT5 (xW7 hav)]
   have mk : ∀ (k : Nat) (us : List Int),B[k]? = some (Blk.cells false false (xAG us)) → (B.map (xCI 0))[k]? = some (Blk.cells false false (xAG us)) := fun k us q => by
    rw [List.getElem?_map,q]
    show some (xCI 0 _) = _
    rw [xT5 (xVU us)]
   obtain ⟨G2,ob,h15,go2,k2,hob⟩ := xVS (ps := ps) rfl (by omega) hps hav m2
   have hPL2 : PL G2 (fun _ => False) (.own false ob 0 ps.length 6) (ps.map Prod.fst) := by
    refine ⟨ps,rfl,fun p hpm => ?_,.inr ⟨ob,rfl,by rw [xT4]; exact go2,hps,fun q => q⟩⟩
    rcases hPA p hpm with q | ⟨k,q1,q2,q3,_⟩
    ·exact .inl q
    ·have hkl := xAp (mk k _ q2)
     exact .inr ⟨k,q1,(k2.2 k hkl).trans (mk k _ q2),q3,fun q => q,fun o m e => by cases e; omega⟩
   have hfz := (xGK 4 hPL2 hz).1
   rw [hlen] at hfz
   have hol := xAp m2
   obtain ⟨G3,hlp⟩ := yC2 (s0 := zS T) (s6 := .sl false ps.length (nds (ps.map Prod.fst))) (ps := ps) (o := ol) (N := ps.length) rfl (by omega) ps.length 0 (by omega) G2 [] rfl (by rw [List.nil_append,List.drop_zero,k2.2 ol hol]; exact m2) (fun p hpm => by
    rcases hPA p hpm with q | ⟨k,q1,q2,q3,_,q5⟩
    ·exact .inl q.2
    ·have hkl := xAp (mk k _ q2)
     have := hargs p hpm
     exact .inr ⟨k,p.1.args,q1,(k2.2 k hkl).trans (mk k _ q2),by omega,q5 ol _ rfl⟩)
   have h14 := yA2 (z1 := false) (z2 := false) (fs := ps.map Prod.fst) (by omega) (fun j hj => by have := (hV j hj).al; omega)
   have h15d := xT7 false (ps.map Prod.fst) (by omega)
   rw [hem] at h15d
   rw [hlen] at h13 h12 h14 h15d hrun
   rw [hlen] at hR
   refine ⟨_,hR.1,hR.2,yAW (R := R3 T _) rfl hT (yAR T _) h13 ?_ hfz h14 hlp h12 h15d hk⟩
   rw [xT3 (by intro q; cases q)]
   exact h15
theorem xY2 {a : AV} (h : Fit .str a) : ∃ S : List UInt8,a = zS S := by
 cases h with
 | @str s _ => exact ⟨s.data.toList,rfl⟩
def yC3 : TS := ⟨false,[.str]⟩
theorem yEL (avs : List AV) (h : xLc [yC3] avs) : ∃ R,RecOk (xAn Tryd.prog) Tryd.prog R ∧ LoopOk Tryd.prog R ∧ xAE R a3 avs = some (.bool true) := by
 obtain ⟨v1,avs,rfl,f1,h⟩ := xQC h
 obtain rfl := xTu h
 obtain ⟨S,rfl⟩ := xY2 (xVv f1)
 exact xVW S
end Go.Abs.Events
/- AbsLaw3's road,from what a law's calls do; the law Texts by it. -/
namespace Go.Abs
set_option linter.unusedVariables false
set_option linter.unusedSimpArgs false
open Go.ChangeShapes Go.WideShapes Go.ChangeAt Go.RowKit
theorem xGC {C : Checked} {os : Os} {f : FuncId} {fn : Func} {s : ChangeSpec} {apart fresh handsOn again : Bool} {H : Type} {enc : TypeId × Value → H} {d : Nat} {Ts : List TS} {tb : TypeId} {X : World → Prop} (hX : ∀ w w' : World,w.heap = w'.heap → X w → X w') (hXg : ∀ W,X W → GlobOk (xIn W))
  (own : ownKnob C.prog.godebug = none) (started : os.Started) (noInit : C.prog.inits.idxOf? f = none) (hfn : C.prog.funcs[f]? = some fn)
  (witness : ∃ (w : World) (tape : Tape) (i : Input),w.os = os ∧ (w.forCall tape i).Shaped C.prog ∧ i.vars = [] ∧ Input.okWide C.prog (w.forCall tape i) .any w.heap.size f i ∧
   ((s.pre enc C.prog fn [] apart (w.forCall tape i).memory i.args ∧ X (w.forCall tape i).memory) ∧ sizedMet enc C.prog fn (OpenSpec.ofChange s) apart (w.forCall tape i).memory i.args) ∧ ({} : Assume).holds C.prog (lone (Frame.enter C.prog f i.args .normal) [] (w.forCall tape i)))
  (hl : laidOutB C.prog = true) (hr : ∀ t ∈ fn.params.toList,C.prog.readableRec t = true ∧ t < C.prog.types.size) (hT : fn.params.toList.map (xZp C.prog d) = Ts.map some)
  (hvars : s.vars = []) (hspec : ∀ ds : List (DataW H),ds.length = fn.params.toList.length → s.fn H ds = { results := [.lit (.bool true)],args := ds })
  (hres : fn.resultTypes = #[tb]) (htb : C.prog.underlying tb = some .bool) (hlaw : ∀ avs,xLc Ts avs → Sized C.prog fn.params.toList avs → ∀ (w : World) (vs : List Value),Reps (xIn w) noIo avs vs → GlobOk (xIn w) → Calls C.prog f vs.toArray w (fun e w' => e = .returned (.bool true) ∧ Below w.heap.size w w')) :
  ReturnsInHanded {} C os f .any (fun w args => (s.pre enc C.prog fn [] apart w args ∧ X w) ∧ sizedMet enc C.prog fn (OpenSpec.ofChange s) apart w args) (s.post enc C.prog fn apart fresh handsOn again) := by
 refine returnsInHanded_of_change_and (C := C) (X := fun w _ => X w) (fun w w' _ hh h => hX w w' hh h) own started noInit hfn witness ?_
 intro W base args ds gs before hval hW hcnd hsz hXW _
 have hW' := hW
 obtain ⟨p,q,hA,hV,rfl,hfz,hnd⟩ := hW
 rw [hvars] at hV
 obtain ⟨rfl,rfl⟩ := trodVars_none hV
 obtain ⟨avs,h1,h2,h3⟩ := xOp hT (fun j t v ht hv => hval j t v (by simpa using ht) (by simpa using hv)) hA
 have hsp := hspec ds h3
 have hc := hlaw avs h1 (xIm hA h2 hsz) W _ h2 (hXg W hXW)
 rw [Array.toArray_toList] at hc
 refine hc.mono fun e W' ⟨he,hb⟩ => ?_
 subst he
 refine ⟨_,rfl,xJ7 (pa := p) (pv := []) hW' hb ?_ ?_ ?_ rfl ?_⟩
 ·intro b sp hd
  rw [List.append_nil,hsp,hres]
  exact trodAll_cons_mk (shut_bool htb true) trodAll_mk0
 ·intro sp hs
  rw [List.append_nil,hsp]
  refine xLd hl hr hA (fun x hx => hb.same (hW'.lt x (by simp [hx]))) (fun x hx => hs x (by simp [hx]))
 ·intro sp hs
  rw [List.append_nil,hsp,hvars]
  exact rfl
 ·exact ok_one hres rfl (okWide_bool_mk htb true)
end Go.Abs
namespace Go.Abs.Events
open Go Go.Abs Go.Proofs Go.RowKit
theorem law3_calls (avs : List AV) (h : xLc [yC3] avs) (w : World) (vs : List Value) (hr : Reps (xIn w) noIo avs vs) (hg : GlobOk (xIn w)) : Calls Tryd.prog 3 vs.toArray w (fun e w' => e = .returned (.bool true) ∧ Below w.heap.size w w') := by
 obtain ⟨R,hR,hL,hb⟩ := yEL avs h
 obtain ⟨fn,g1,g2⟩ := progOk.ok 3 a3 rfl
 have := xOq hR hL progOk.mixed g1 g2 hb ⟨fun b o hb => hb,hg⟩ hr 0
 refine (this.mono ?_).calls (fun k => xXm none k)
 rintro e w' ⟨x,im',rfl,h2,h3,h4,h5,h6⟩
 cases h6
 exact ⟨rfl,h5⟩
end Go.Abs.Events
