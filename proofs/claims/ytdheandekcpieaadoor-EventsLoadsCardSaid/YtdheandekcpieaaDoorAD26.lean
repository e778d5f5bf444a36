/- The law Loads. -/
import Derived.Test.YtdheandekcpieaaDoorAbsBun
import Derived.Test.YtdheandekcpieaaDoorAMJ
namespace Go.Abs.Events
open Go Go.Abs
set_option linter.unusedSimpArgs false
set_option linter.unusedVariables false
theorem xWb (fs : List Nd) : (xGp fs).length ≤ 70 := by
 unfold xGp
 rw [List.length_map,List.length_take]; omega
theorem xUq (fs : List Nd) : ∀ j,j < (xGp fs).length → ∃ n,(xGp fs).getD j nd0 = xLb n := by
 intro j hj
 have hm : (xGp fs).getD j nd0 ∈ xGp fs := by rw [List.getD_eq_getElem?_getD,List.getElem?_eq_getElem hj]; exact List.getElem_mem hj
 unfold xGp at hm
 obtain ⟨n,-,hn⟩ := List.mem_map.1 hm
 exact ⟨n,hn.symm⟩
theorem xYH (fs : List Nd) : ∀ j,j < (xGp fs).length → WN ((xGp fs).getD j nd0) := by
 intro j hj
 obtain ⟨n,hn⟩ := xUq fs j hj
 rw [hn]; rfl
theorem xYI (fs : List Nd) : ∀ j,j < (xGp fs).length → ((xGp fs).getD j nd0).args.length ≤ 1000 := by
 intro j hj
 obtain ⟨n,hn⟩ := xUq fs j hj
 rw [hn]
 show (xDY n.args).length ≤ 1000
 unfold xDY
 rw [List.length_take]; omega
theorem xRa {α : Type} {l : List α} (h : l.length ≠ 0) : l.isEmpty = false := by
 cases l with
 | nil => exact absurd rfl h
 | cons _ _ => rfl
set_option maxHeartbeats 8000000 in
theorem xYJ (z : Bool) (fs : List Nd) (zb : Bool) (b : List Nat) (hbb : ∀ x ∈ b,x < 256) (hbl : b.length ≤ 9223372036854775807) (zl : Bool) (l : List Ev) (hl : l.length ≤ 9223372036854775807) :
  L.pcall 5 [.sl z fs.length (nds fs),.sl zb b.length (bs b),.sl zl l.length (evs l)] = some (.bool true) := by
 have h18 := yDb z fs
 have hk := xY8
 have hFl := xWb fs
 have hwn := xYH fs
 have h31 := xYW (z1 := (xGp fs).isEmpty) (z2 := (xGp fs).isEmpty) (fs := xGp fs) (by omega) (xYI fs)
 have h15 := xIf (xGp fs).isEmpty (xGp fs) (by omega)
 have hz0 : (xGp fs).length ≠ 0 → (xGp fs).isEmpty = false := xRa
 generalize hfe : (xGp fs).isEmpty = ze at *
 generalize xGp fs = F at *
 have hBl : (b.take (min b.length 5000)).length = min b.length 5000 := by rw [List.length_take]; omega
 have hBb : ∀ x ∈ b.take (min b.length 5000),x < 256 := fun x hx => hbb x (List.mem_of_mem_take hx)
 have hmin : min ((b.length : Nat) : Int) 5000 = (((b.take (min b.length 5000)).length : Nat) : Int) := by rw [hBl]; omega
 have hbd : xBa b.length none (some (.int .i64 ((b.take (min b.length 5000)).length : Nat))) none = some (0,(b.take (min b.length 5000)).length) := by
  rw [xDT (Int.natCast_nonneg _) (by rw [hBl]; omega)]
  simp
 have htk : bs (List.take (b.take (min b.length 5000)).length b) = bs (b.take (min b.length 5000)) := by rw [hBl]
 have hB5 : (b.take (min b.length 5000)).length ≤ 5000 := by omega
 generalize b.take (min b.length 5000) = B at *
 by_cases hB0 : B.length = 0
 ·obtain rfl := List.eq_nil_of_length_eq_zero hB0
  have hmin : min ((b.length : Nat) : Int) 5000 = 0 := hmin
  have hbd : xBa b.length none (some (.int .i64 0)) none = some (0,0) := hbd
  have h28 : L.icall (.func 28 []) [.sl zb 0 []] [] = some (.own true 0 0 0 1,[.cells false true []]) := xRd zb []
  obtain ⟨G1,e29,k1⟩ := xOp (o := 0) (G := [.cells false true []]) hwn ze hz0 (by omega)
  have e30 := xNl (o := 0) (G := G1) (z := ze) (fs := F) (by omega)
  have hne : ldc F [] ≠ 0 := by
   unfold ldc
   split
   ·rw [if_neg (by simp)]; decide
   ·assumption
  have hni : ¬ ((ldc F [] : Nat) : Int) = 0 := by omega
  generalize ldc F [] = c at *
  rw [a5p,a5,xAb]
  simp (maxSteps := 30000000) (disch := first | assumption | omega | (simp only [WZ,AV.isCell] <;> omega) | rfl | decide) only [WB,Nat.reduceAdd,Nat.reduceSub,h18,xAy,xAl,↓reduceIte,hmin,hbd,xAh,h28,e29,h15,e30,xEC,xIn,hni,h31,hk]
 ·have h28 : L.icall (.func 28 []) [.sl zb B.length (bs B)] [] = some (.own false 0 0 B.length 1,[.cells false false (bs B)]) := yAL (l := B) zb [] (by omega) (by omega)
  have go : ([.cells false false (bs B)] : Heap)[0]? = some (.cells false false (bs B)) := rfl
  by_cases hc : ldc F B = 0
  ·have hck : chk F = 0 := by
    by_cases hck : chk F = 0
    ·exact hck
    ·unfold ldc at hc; rw [if_neg hck] at hc; exact absurd hc hck
   obtain ⟨h0,hlen,hV⟩ := xIx hck
   obtain rfl := hz0 (by omega)
   obtain ⟨G1,m,sb,e29,m1,hB,k1,b1,b2⟩ := xRr (o := 0) (G := [.cells false false (bs B)]) hwn false hz0 (by omega) hBb go hc
   have g1 : G1[0]? = some (.cells false false (bs B)) := (k1.2 _ (by simp)).trans go
   have e30 := xUy (z := false) (o := 0) (G := G1) (fs := F) (by omega) (show B.length ≤ 100000 by omega) (by omega) g1
   rw [hc] at e30
   have e30 : L.icall (.func 30 []) [.sl false F.length (nds F),.own false 0 0 B.length 1] G1 = some (.int .i64 0,G1) := e30
   have e28 := xRe g1 (by omega) (by omega)
   have lm := xA7 m1.gm
   have lb := xA7 m1.gb
   have hwl := m1.rw.flen
   have hle := m1.rw.le
   have hst : (B.getD 0 0 :: (xNm (nT F) (B.drop 1)).flatten).length = 64 * (xNm (nT F) (B.drop 1)).length + 1 := by rw [List.length_cons,hwl]
   have hBn : B.length = 64 * (xNm (nT F) (B.drop 1)).length + 1 := by rw [← hst,← hB]
   have m2 : Mo false F m sb (G1 ++ [.cells false false (bs B)]) (xNm (nT F) (B.drop 1)) (B.getD 0 0) := ⟨by rw [xAI lm]; exact m1.gm,by rw [xAI lb]; exact m1.gb,m1.ne,m1.rw,m1.h0⟩
   have e24 := xNt m2.gm m2.gb hst (by omega) (by omega)
   rw [← hB] at e24
   have lG : (G1 ++ [Blk.cells false false (bs B)]).length = G1.length + 1 := by simp
   have l0 := xA7 g1
   have e25 := yDL (f1 := false) (f2 := false) (z1 := false) (z2 := false) (H := (G1 ++ [Blk.cells false false (bs B)]) ++ [Blk.dead,Blk.cells false false (bs B)]) (o1 := (G1 ++ [Blk.cells false false (bs B)]).length + 1) (o2 := G1.length) (a := B) (b := B)
    (by rw [List.getElem?_append_right (by omega)]; simp) (by rw [xAI (by simp)]; simp) (by omega)
   rw [decide_eq_true rfl] at e25
   have e27 := yAN (G := (G1 ++ [Blk.cells false false (bs B)]) ++ [Blk.dead,Blk.cells false false (bs B)]) (o := 0) (l := B) (by rw [xAI (by simp),xAI l0]; exact g1) (by omega)
   rw [← hBn] at e24
   simp only [List.append_assoc,List.cons_append,List.nil_append] at e24 e25 e27
   have hm0 : 0 ≠ m := by have : 1 ≤ m := by simpa using b1
                          omega
   have hs0 : 0 ≠ sb := by have : 1 ≤ sb := by simpa using b2
                           omega
   have mE : Mo false F m sb (((G1 ++ [Blk.cells false false (bs B)]) ++ [Blk.dead,Blk.cells false false (bs B)]).set 0 (Blk.cells false false (bs (ovr B B.length)))) (xNm (nT F) (B.drop 1)) (B.getD 0 0) :=
    ⟨by rw [xBO (by exact hm0),xAI (by simp; omega)]; exact m2.gm,by rw [xBO (by exact hs0),xAI (by simp; omega)]; exact m2.gb,m1.ne,m1.rw,m1.h0⟩
   obtain ⟨G2,v2,e2⟩ := xUs (zl := zl) (so := G1.length) h0 hlen hV hl (by omega) (by omega) (min l.length 5) 0 (by omega) _ mE (by rw [xBO (by show 0 ≠ G1.length; omega),xAI (by simp),List.getElem?_append_right (Nat.le_refl _),Nat.sub_self,← hB]; rfl)
   rw [← hBn] at e2
   have e2' : L.loop xE4 xQ5 ⟨xTF (.sl zl l.length (evs l)) (.bool false) (.sl false F.length (nds F)) (.ptr m 0) (.own false G1.length 0 B.length 1) (.int .i64 0),_⟩ = _ := e2
   have e27 : L.icall (.func 27 []) [.own false 0 0 B.length 1] _ = some (.tup [],_) := e27
   have hset : ((G1 ++ [Blk.cells false false (bs B)]) ++ [Blk.dead,Blk.cells false false (bs B)]).set 0 (Blk.cells false false (bs (ovr B B.length))) = G1.set 0 (Blk.cells false false (bs (ovr B B.length))) ++ [Blk.cells false false (bs B),Blk.dead,Blk.cells false false (bs B)] := by
    rw [List.append_assoc,List.set_append_left _ _ l0]; rfl
   rw [hset] at e2'
   rw [lG] at e24 e25
   rw [hc] at *
   clear hB hst hBn
   generalize bs (ovr B B.length) = OV at *
   generalize bs B = BB at *
   rw [a5p,a5,xAb]
   simp (maxSteps := 30000000) (disch := first | assumption | omega | (simp only [WZ,AV.isCell] <;> omega) | rfl | decide) only [WB,Nat.reduceAdd,Nat.reduceSub,h18,xAy,xAl,↓reduceIte,hmin,hbd,htk,xAh,h28,e29,h15,e30,xEC,xGI,h31,e28,e24,e25,e27,xDs,xOb,e2',hk]
  ·obtain ⟨G1,e29,k1⟩ := xRq (o := 0) (G := [.cells false false (bs B)]) hwn ze hz0 (by omega) (by omega) hBb go hc
   have g1 : G1[0]? = some (.cells false false (bs B)) := (k1.2 _ (by simp)).trans go
   have e30 := xUy (z := ze) (o := 0) (G := G1) (fs := F) (by omega) (show B.length ≤ 100000 by omega) (by omega) g1
   have hni : ¬ ((ldc F B : Nat) : Int) = 0 := by omega
   generalize ldc F B = c at *
   rw [a5p,a5,xAb]
   simp (maxSteps := 30000000) (disch := first | assumption | omega | (simp only [WZ,AV.isCell] <;> omega) | rfl | decide) only [WB,Nat.reduceAdd,Nat.reduceSub,h18,xAy,xAl,↓reduceIte,hmin,hbd,htk,xAh,h28,e29,h15,e30,xEC,xIn,hni,h31,hk]
def xXu : TS := ⟨false,[.sl [.int .u8]]⟩
theorem law5 (avs : List AV) (h : xNz [yA2,xXu,xXy] avs) : L.pcall 5 avs = some (.bool true) := by
 obtain ⟨v1,avs,rfl,f1,h⟩ := xFY h
 obtain ⟨v2,avs,rfl,f2,h⟩ := xFY h
 obtain ⟨v3,avs,rfl,f3,h⟩ := xFY h
 obtain rfl := xUL h
 obtain ⟨z,fs,rfl⟩ := xYU (xK6 f1)
 obtain ⟨zb,b,rfl,-,hb,hbb⟩ := xWj (xK6 f2)
 obtain ⟨zl,l,rfl,hl⟩ := xYV (xK6 f3)
 have hm : maxLen ≤ 9223372036854775807 := by decide
 exact xYJ z fs zb b hbb (by omega) zl l hl
end Go.Abs.Events
