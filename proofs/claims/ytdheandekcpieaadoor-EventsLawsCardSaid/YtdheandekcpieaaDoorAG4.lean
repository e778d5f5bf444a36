/- The law Laws. -/
import Derived.Test.YtdheandekcpieaaDoorAbsBun
import Derived.Test.YtdheandekcpieaaDoorAG3
namespace Go.Abs.Events
open Go Go.Abs
set_option maxHeartbeats 16000000
set_option linter.unusedSimpArgs false
set_option linter.unusedVariables false
theorem yDl {a b c : List UInt8} (ha : a.length ≤ 10000) (hb : b.length ≤ 10000) (hc : c.length ≤ 10000) : ∃ u1,(∀ H,xEM H (zS a) (zS b) = some (u1,H)) ∧ (∀ H,xEM H u1 (zS c) = some (zS (a ++ b ++ c),H)) :=
 ⟨_,fun H => xBc H (by omega) (by omega),fun H => xBc H (by simp; omega) (by omega)⟩
theorem yGR {a b c d e : List UInt8} (ha : a.length ≤ 1000) (hb : b.length ≤ 10000) (hc : c.length ≤ 1000) (hd : d.length ≤ 10000) (he : e.length ≤ 1000) : ∃ u1 u2 u3,(∀ H,xEM H (zS a) (zS b) = some (u1,H)) ∧ (∀ H,xEM H u1 (zS c) = some (u2,H)) ∧ (∀ H,xEM H u2 (zS d) = some (u3,H)) ∧ (∀ H,xEM H u3 (zS e) = some (zS (a ++ b ++ c ++ d ++ e),H)) :=
 ⟨_,_,_,fun H => xBc H (by omega) (by omega),fun H => xBc H (by simp; omega) (by omega),fun H => xBc H (by simp; omega) (by omega),fun H => xBc H (by simp; omega) (by omega)⟩
theorem yGS {a b c d e f g : List UInt8} (ha : a.length ≤ 1000) (hb : b.length ≤ 10000) (hc : c.length ≤ 1000) (hd : d.length ≤ 10000) (he : e.length ≤ 1000) (hf : f.length ≤ 10000) (hg : g.length ≤ 1000) : ∃ u1 u2 u3 u4 u5,(∀ H,xEM H (zS a) (zS b) = some (u1,H)) ∧ (∀ H,xEM H u1 (zS c) = some (u2,H)) ∧ (∀ H,xEM H u2 (zS d) = some (u3,H)) ∧ (∀ H,xEM H u3 (zS e) = some (u4,H)) ∧ (∀ H,xEM H u4 (zS f) = some (u5,H)) ∧ (∀ H,xEM H u5 (zS g) = some (zS (a ++ b ++ c ++ d ++ e ++ f ++ g),H)) :=
 ⟨_,_,_,_,_,fun H => xBc H (by omega) (by omega),fun H => xBc H (by simp; omega) (by omega),fun H => xBc H (by simp; omega) (by omega),fun H => xBc H (by simp; omega) (by omega),fun H => xBc H (by simp; omega) (by omega),fun H => xBc H (by simp; omega) (by omega)⟩
theorem xRI {T : Tr} (h : T.ok) (hz : T.sz ≤ 64) (ho : T.op 0 = false) (z : Bool) (l : List Ev) (hl : l.length ≤ 9223372036854775807) : ∃ f : AV,L.pcall 39 [zS T.tt] = some f ∧ L.pcall 33 [f,.sl z l.length (evs l),.int .i64 12] = some (.tup [.sl (xBo 12 l).isEmpty (xBo 12 l).length (bls (VV T l)),.sl (xBo 12 l).isEmpty (xBo 12 l).length (evs (xBo 12 l)),.bool true]) ∧ ∃ n cs,f = .sl false n cs :=
 ⟨_,xVw h hz ho,yAV h hz ho z l hl,_,_,rfl⟩
theorem xLL {fs : List Nd} (h : chk (xCs fs) = 0) : ∃ T : Tr,T.ok ∧ T.sz ≤ 15 ∧ T.op 0 = false ∧ L.pcall 38 [.sl (xCL fs).isEmpty (xCs fs).length (nds (xCs fs))] = some (.tup [zS T.tt,.int .i64 0]) := by
 obtain ⟨T,h1,h2,h3,h4⟩ := yAX h
 have hl := xEy fs
 have := xE6 (xCL fs).isEmpty (fs := xCs fs) (by omega)
 rw [h,h4] at this
 exact ⟨T,h1,h2,h3,this⟩
theorem xG4 {fs : List Nd} (h : chk (xCs fs) ≠ 0) : ∃ s : AV,L.pcall 38 [.sl (xCL fs).isEmpty (xCs fs).length (nds (xCs fs))] = some (.tup [s,.int .i64 (chk (xCs fs) : Nat)]) ∧ ∃ b,s = zS b := by
 have hl := xEy fs
 exact ⟨_,xE6 (xCL fs).isEmpty (fs := xCs fs) (by omega),_,rfl⟩
section
variable {z1 z2 zl : Bool} {fs gs : List Nd} {l : List Ev}
set_option maxRecDepth 100000 in
theorem xRJ (h : chk (xCs fs) ≠ 0) : L.pcall 11 [.sl z1 fs.length (nds fs),.sl z2 gs.length (nds gs),.sl zl l.length (evs l)] = some (.bool true) := by
 have h18a := xRE z1 fs
 have h18b := xRE z2 gs
 have hk := xOO
 have hnla := xAc (xCL fs)
 have hnlb := xAc (xCL gs)
 have hmina := xEz fs
 have hminb := xEz gs
 have hbda := xGB fs
 have hbdb := xGB gs
 have htka := xGC fs
 have htkb := xGC gs
 obtain ⟨sa,h38a,ba,rfl⟩ := xG4 h
 obtain ⟨sb,h38b,bb,rfl⟩ : ∃ s : AV,L.pcall 38 [.sl (xCL gs).isEmpty (xCs gs).length (nds (xCs gs))] = some (.tup [s,.int .i64 (chk (xCs gs) : Nat)]) ∧ ∃ b,s = zS b := by
  have hl := xEy gs
  exact ⟨_,xE6 (xCL gs).isEmpty (fs := xCs gs) (by omega),_,rfl⟩
 have hc : ¬ (((chk (xCs fs) : Nat) : Int) = 0) := by omega
 generalize ((chk (xCs gs) : Nat) : Int) = cb at *
 generalize ((chk (xCs fs) : Nat) : Int) = ca at *
 generalize (xCL fs).isEmpty = ea at *
 generalize (xCL gs).isEmpty = eb at *
 generalize nds (xCs fs) = Na at *
 generalize nds (xCs gs) = Nb at *
 generalize nds (xCL fs) = Ma at *
 generalize nds (xCL gs) = Mb at *
 generalize (xCs fs).length = na at *
 generalize (xCs gs).length = nb' at *
 generalize (xCL fs).length = ma at *
 generalize (xCL gs).length = mb at *
 rw [yEh,a11,xAd]
 simp (disch := omega) only [WB,Nat.reduceAdd,Nat.reduceSub,h18a,xAI,xAs,↓reduceIte,h18b,hmina,hbda,Nat.reduceMul,htka,hminb,hbdb,htkb,xAm,h38a,h38b,hc,hk]
set_option maxRecDepth 100000 in
theorem xRK (h0 : chk (xCs fs) = 0) (h : chk (xCs gs) ≠ 0) : L.pcall 11 [.sl z1 fs.length (nds fs),.sl z2 gs.length (nds gs),.sl zl l.length (evs l)] = some (.bool true) := by
 have h18a := xRE z1 fs
 have h18b := xRE z2 gs
 have hk := xOO
 have hnla := xAc (xCL fs)
 have hnlb := xAc (xCL gs)
 have hmina := xEz fs
 have hminb := xEz gs
 have hbda := xGB fs
 have hbdb := xGB gs
 have htka := xGC fs
 have htkb := xGC gs
 obtain ⟨sb,h38b,bb,rfl⟩ := xG4 h
 obtain ⟨S,-,-,-,h38a⟩ := xLL h0
 have hc : ¬ (((chk (xCs gs) : Nat) : Int) = 0) := by omega
 generalize ((chk (xCs gs) : Nat) : Int) = cb at *
 generalize (xCL fs).isEmpty = ea at *
 generalize (xCL gs).isEmpty = eb at *
 generalize nds (xCs fs) = Na at *
 generalize nds (xCs gs) = Nb at *
 generalize nds (xCL fs) = Ma at *
 generalize nds (xCL gs) = Mb at *
 generalize (xCs fs).length = na at *
 generalize (xCs gs).length = nb' at *
 generalize (xCL fs).length = ma at *
 generalize (xCL gs).length = mb at *
 rw [yEh,a11,xAd]
 simp (disch := omega) only [WB,Nat.reduceAdd,Nat.reduceSub,h18a,xAI,xAs,↓reduceIte,h18b,hmina,hbda,Nat.reduceMul,htka,hminb,hbdb,htkb,xAm,h38a,h38b,hc,hk]
set_option maxRecDepth 100000 in
theorem xXi (h0 : chk (xCs fs) = 0) (h : chk (xCs gs) = 0) (hl : l.length ≤ 9223372036854775807) : L.pcall 11 [.sl z1 fs.length (nds fs),.sl z2 gs.length (nds gs),.sl zl l.length (evs l)] = some (.bool true) := by
 have h18a := xRE z1 fs
 have h18b := xRE z2 gs
 have hk := xOO
 have hnla := xAc (xCL fs)
 have hnlb := xAc (xCL gs)
 have hmina := xEz fs
 have hminb := xEz gs
 have hbda := xGB fs
 have hbdb := xGB gs
 have htka := xGC fs
 have htkb := xGC gs
 obtain ⟨S,S1,S2,S3,h38a⟩ := xLL h0
 obtain ⟨T,T1',T2',T3',h38b⟩ := xLL h
 have lS := (xLK S S1).1
 have lT := (xLK T T1').1
 have z3 : (T3 S T).sz = S.sz + T.sz + 1 := rfl
 have z4 : (T4 S T).sz = T.sz + (S.sz + ((T3 S T).sz + 1) + 1) + 1 := rfl
 have l3 := (xLK (T3 S T) (xYT S1 T1')).1
 obtain ⟨f1,p1,v1,n1,c1,rfl⟩ := xRI (yDo S1) (by show S.sz + 1 ≤ 64; omega) (yDt S3) zl l hl
 obtain ⟨f2,p2,v2,n2,c2,rfl⟩ := xRI (yDp S1) (by show 1 + S.sz + 1 ≤ 64; omega) (yDu S3) zl l hl
 obtain ⟨f3,p3,v3,n3,c3,rfl⟩ := xRI (xYT S1 T1') (by omega) (yBk S3 T3') zl l hl
 obtain ⟨f4,p4,v4,n4,c4,rfl⟩ := xRI (yDq S1 T1') (by omega) (yDv S3 T3') zl l hl
 obtain ⟨f5,p5,v5,n5,c5,rfl⟩ := xRI yDs (by decide) yDw zl l hl
 obtain ⟨f6,p6,v6,n6,c6,rfl⟩ := xRI (xYV 7 (by decide)) (by decide) yDx zl l hl
 rw [← yFb] at v2
 rw [← yFc] at v4
 rw [← yGT] at v6
 have k1 := yDh (z1 := (xBo 12 l).isEmpty) (z2 := (xBo 12 l).isEmpty) (a := VV (T1 S) l) (b := VV (T1 S) l) (by rw [xQR]; have := xEr 12 l; omega)
 have k3 := yDh (z1 := (xBo 12 l).isEmpty) (z2 := (xBo 12 l).isEmpty) (a := VV (T3 S T) l) (b := VV (T3 S T) l) (by rw [xQR]; have := xEr 12 l; omega)
 have k5 := yDh (z1 := (xBo 12 l).isEmpty) (z2 := (xBo 12 l).isEmpty) (a := VV X1 l) (b := VV X1 l) (by rw [xQR]; have := xEr 12 l; omega)
 rw [xQR,decide_eq_true rfl] at k1 k3 k5
 obtain ⟨a1,e1,e2⟩ := yDl (a := [40,111,110,99,101,32]) (b := S.tt) (c := [41]) (by decide) (by omega) (by decide)
 rw [← yDC] at e2
 obtain ⟨a2,e3,e4⟩ := yDl (a := [40,115,105,110,99,101,32,116,114,117,101,32]) (b := S.tt) (c := [41]) (by decide) (by omega) (by decide)
 rw [← yDD] at e4
 obtain ⟨b1,b2,b3,e5,e6,e7,e8⟩ := yGR (a := [40,115,105,110,99,101,32]) (b := S.tt) (c := [32]) (d := T.tt) (e := [41]) (by decide) (by omega) (by decide) (by omega) (by decide)
 rw [← yDE] at e8
 obtain ⟨d1,d2,d3,d4,d5,e9,e10,e11,e12,e13,e14⟩ := yGS (a := [40,111,114,32]) (b := T.tt) (c := [32,40,97,110,100,32]) (d := S.tt) (e := [32,40,112,114,101,118,105,111,117,115,32]) (f := (T3 S T).tt) (g := [41,41,41]) (by decide) (by omega) (by decide) (by omega) (by decide) (by omega) (by decide)
 rw [← yDF] at e14
 have hob : ∀ H,xWP H (.str ⟨(40 :: 115 :: 105 :: 110 :: 99 :: 101 :: 32 :: 40 :: 110 :: 111 :: 116 :: 32 :: 40 :: 101 :: 120 :: 105 :: 115 :: 116 :: 115 :: 32 :: 121 :: 32 :: 40 :: 97 :: 116 :: 32 :: 97 :: 32 :: 121 :: 41 :: 41 :: 41 :: 32 :: 40 :: 97 :: 116 :: 32 :: 97 :: 32 :: 120 :: 41 :: 41 :: []).toArray⟩) none (some (.int .i64 39)) = some (zS xVC,H) := fun H => rfl
 have hsz : (⟨(40 :: 115 :: 105 :: 110 :: 99 :: 101 :: 32 :: 40 :: 110 :: 111 :: 116 :: 32 :: 40 :: 101 :: 120 :: 105 :: 115 :: 116 :: 115 :: 32 :: 121 :: 32 :: 40 :: 97 :: 116 :: 32 :: 97 :: 32 :: 121 :: 41 :: 41 :: 41 :: 32 :: 40 :: 97 :: 116 :: 32 :: 97 :: 32 :: 120 :: 41 :: 41 :: []).toArray⟩ : ByteArray).size = 42 := rfl
 obtain ⟨g1,e15,e16⟩ := yDl (a := [40,97,110,100,32,40,97,116,32,98,32,48,41,32]) (b := xVC) (c := [48,41,41,41]) (by decide) (by decide) (by decide)
 rw [← yFf] at e16
 obtain ⟨g2,e17,e18⟩ := yDl (a := [40,101,120,105,115,116,115,32,120,32,40,97,110,100,32,40,97,116,32,98,32,120,41,32]) (b := (40 :: 115 :: 105 :: 110 :: 99 :: 101 :: 32 :: 40 :: 110 :: 111 :: 116 :: 32 :: 40 :: 101 :: 120 :: 105 :: 115 :: 116 :: 115 :: 32 :: 121 :: 32 :: 40 :: 97 :: 116 :: 32 :: 97 :: 32 :: 121 :: 41 :: 41 :: 41 :: 32 :: 40 :: 97 :: 116 :: 32 :: 97 :: 32 :: 120 :: 41 :: 41 :: [])) (c := [41,41]) (by decide) (by decide) (by decide)
 rw [← yFg] at e18
 have hlp : ∀ H,L.loop xKb xT8 ⟨xIx (.sl zl l.length (evs l)) (.str ⟨(40 :: 115 :: 105 :: 110 :: 99 :: 101 :: 32 :: 40 :: 110 :: 111 :: 116 :: 32 :: 40 :: 101 :: 120 :: 105 :: 115 :: 116 :: 115 :: 32 :: 121 :: 32 :: 40 :: 97 :: 116 :: 32 :: 97 :: 32 :: 121 :: 41 :: 41 :: 41 :: 32 :: 40 :: 97 :: 116 :: 32 :: 97 :: 32 :: 120 :: 41 :: 41 :: []).toArray⟩) (zS (DD 0).tt) (.int .i64 1),H⟩ = some (.exit 0,⟨xIx (.sl zl l.length (evs l)) (.str ⟨(40 :: 115 :: 105 :: 110 :: 99 :: 101 :: 32 :: 40 :: 110 :: 111 :: 116 :: 32 :: 40 :: 101 :: 120 :: 105 :: 115 :: 116 :: 115 :: 32 :: 121 :: 32 :: 40 :: 97 :: 116 :: 32 :: 97 :: 32 :: 121 :: 41 :: 41 :: 41 :: 32 :: 40 :: 97 :: 116 :: 32 :: 97 :: 32 :: 120 :: 41 :: 41 :: []).toArray⟩) (zS (DD 7).tt) (.int .i64 8),H⟩) := fun H => yC4 7 0 rfl H
 generalize bls (VV (T1 S) l) = W1 at *
 generalize bls (VV (T3 S T) l) = W3 at *
 generalize bls (VV X1 l) = W5 at *
 generalize evs (xBo 12 l) = EG at *
 generalize (xBo 12 l).isEmpty = ge at *
 generalize (xBo 12 l).length = gn at *
 generalize evs l = EL at *
 generalize l.length = ln at *
 generalize zS (DD 0).tt = y7 at *
 generalize zS xVC = y8 at *
 generalize (xCL fs).isEmpty = ea at *
 generalize (xCL gs).isEmpty = eb at *
 generalize nds (xCs fs) = Na at *
 generalize nds (xCs gs) = Nb at *
 generalize nds (xCL fs) = Ma at *
 generalize nds (xCL gs) = Mb at *
 generalize (xCs fs).length = na at *
 generalize (xCs gs).length = nb' at *
 generalize (xCL fs).length = ma at *
 generalize (xCL gs).length = mb at *
 rw [yEh,a11,xAd]
 simp (disch := omega) only [WB,Nat.reduceAdd,Nat.reduceSub,h18a,xAI,xAs,↓reduceIte,h18b,hmina,hbda,Nat.reduceMul,htka,hminb,hbdb,htkb,xAm,h38a,h38b,xE1,e5,e6,e7,e8,e1,e2,p1,v1,e3,e4,p2,v2,p3,v3,e9,e10,e11,e12,e13,e14,p4,v4,k1,k3,WA,hsz,Int.reduceSub,xCd,hob,e15,e16,xT9,hlp,e17,e18,p5,v5,p6,v6,k5,hk]
end
theorem law11 (avs : List AV) (h : xNV [xWW,xWW,xYo] avs) : L.pcall 11 avs = some (.bool true) := by
 obtain ⟨v1,avs,rfl,f1,h⟩ := xGu h
 obtain ⟨v2,avs,rfl,f2,h⟩ := xGu h
 obtain ⟨v3,avs,rfl,f3,h⟩ := xGu h
 obtain rfl := xUQ h
 obtain ⟨z1,fs,rfl⟩ := xUP (xLy f1)
 obtain ⟨z2,gs,rfl⟩ := xUP (xLy f2)
 obtain ⟨zl,l,rfl,hl⟩ := xZ1 (xLy f3)
 by_cases h0 : chk (xCs fs) = 0
 ·by_cases h1 : chk (xCs gs) = 0
  ·exact xXi h0 h1 hl
  ·exact xRK h0 h1
 ·exact xRJ h0
end Go.Abs.Events
