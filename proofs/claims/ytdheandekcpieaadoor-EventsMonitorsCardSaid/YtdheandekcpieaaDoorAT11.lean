/- The law Monitors. -/
import Derived.Test.YtdheandekcpieaaDoorAbsBun
import Derived.Test.YtdheandekcpieaaDoorAMJ
namespace Go.Abs.Events
open Go Go.Abs
set_option linter.unusedSimpArgs false
set_option linter.unusedVariables false
def xRg (b : Nat) {α : Type} (lo : List (α × Nat)) : List (α × Nat) := lo.map fun p => (p.1,b + p.2)
theorem xXv (b : Nat) {α : Type} (lo : List (α × Nat)) : (xRg b lo).map (·.1) = lo.map (·.1) := by simp [xRg]
theorem xXw (b : Nat) {α : Type} (lo : List (α × Nat)) : (xRg b lo).length = lo.length := by simp [xRg]
theorem xSq (b : Nat) (l : List Int) : (xAv l).map (xCL b) = xAv l := by simp [xAv,xCL]
theorem xVo (l : List Int) : (xAv l).all xJm = true := by simp [xAv,xJm,xBN]
theorem xPw (b : Nat) (l : List Int) : xB7 b (xOr l) = xOr l := by
 unfold xB7 xOr
 simp only [xVo,if_true,xSq]
section
variable {α : Type} {c : α → Nat → List AV} {ar : α → List Int} {G : Heap} {o : Nat} {lo : List (α × Nat)}
theorem xXx (b : Nat) (hc : ∀ a k,(c a k).map (xCL b) = c a (b + k)) (lo : List (α × Nat)) : (ons c lo).map (xCL b) = ons c (xRg b lo) := by
 induction lo with
 | nil => rfl
 | cons p lo ih =>
  show (c p.1 p.2 ++ ons c lo).map (xCL b) = c p.1 (b + p.2) ++ ons c (xRg b lo)
  rw [List.map_append,hc,ih]
theorem xXy (hr : ∀ a k,(c a k).all xJm = true) (lo : List (α × Nat)) : (ons c lo).all xJm = true := by
 induction lo with
 | nil => rfl
 | cons p lo ih =>
  show (c p.1 p.2 ++ ons c lo).all xJm = true
  rw [List.all_append,hr,ih]; rfl
theorem Ow.liftG (h : Ow c ar G o lo) (H T : Heap) (hc : ∀ a k,(c a k).map (xCL H.length) = c a (H.length + k)) (hr : ∀ a k,(c a k).all xJm = true) : Ow c ar (H ++ G.map (xB7 H.length) ++ T) (H.length + o) (xRg H.length lo) := by
 have hg : ∀ {k : Nat} {x : Blk},G[k]? = some x → (H ++ G.map (xB7 H.length) ++ T)[H.length + k]? = some (xB7 H.length x) := by
  intro k x hx
  have lk := xAQ hx
  rw [List.getElem?_append_left (by simp; omega),List.getElem?_append_right (by omega),show H.length + k - H.length = k by omega,List.getElem?_map,hx]; rfl
 refine ⟨?_,?_,?_,?_⟩
 ·rw [hg h.go]
  unfold xB7
  simp only [xXy hr,if_true,xXx _ hc]
 ·intro q; have := congrArg List.length q; rw [xXw] at this; exact h.ne (List.eq_nil_of_length_eq_zero this)
 ·intro p hp
  unfold xRg at hp
  obtain ⟨q,hq,rfl⟩ := List.mem_map.1 hp
  obtain ⟨q1,q2⟩ := h.bl q hq
  refine ⟨by show H.length + q.2 ≠ H.length + o; omega,?_⟩
  show (H ++ G.map (xB7 H.length) ++ T)[H.length + q.2]? = _
  rw [hg q2,xPw]
 ·have : (xRg H.length lo).map (·.2) = (lo.map (·.2)).map (H.length + ·) := by simp [xRg]
  rw [this]
  have hn := h.nd
  generalize lo.map (·.2) = ks at *
  have hn := xRs hn
  refine xXE fun i j hij hj => ?_
  rw [List.length_map] at hj
  have := hn i j hij hj
  rw [List.getElem?_map,List.getElem?_map,List.getElem?_eq_getElem (by omega : i < ks.length),List.getElem?_eq_getElem hj]
  rw [List.getElem?_eq_getElem (by omega : i < ks.length),List.getElem?_eq_getElem hj] at this
  intro e
  apply this
  simpa using e
end
theorem Ow.liftM {G : Heap} {o : Nat} {lo : List (Nd × Nat)} (h : Ow xAG Nd.args G o lo) : Ow xAG Nd.args (G.map (xB7 0)) o (xRg 0 lo) := by
 have := h.liftG [] [] (fun _ _ => rfl) (fun _ _ => rfl)
 rw [List.append_nil,List.nil_append] at this
 have e : ([] : Heap).length + o = o := Nat.zero_add o
 rw [e] at this
 exact this
section
variable {fs : List Nd}
theorem xVp (fs : List Nd) : (xI2 fs).length ≤ 70 := by
 unfold xI2
 rw [List.length_map,List.length_take]; omega
theorem xXz (fs : List Nd) : ∀ j,j < (xI2 fs).length → WN ((xI2 fs).getD j nd0) := by
 intro j hj
 have hm : (xI2 fs).getD j nd0 ∈ xI2 fs := by rw [List.getD_eq_getElem?_getD,List.getElem?_eq_getElem hj]; exact List.getElem_mem hj
 exact xVW fs _ hm
set_option maxHeartbeats 4000000 in
theorem xSr {o : Nat} {lo : List (Nd × Nat)} {F : List Nd} {G : Heap} (ho : Ow xAG Nd.args G o lo) (hlo : lo.map (·.1) = F) (hz : ∀ n ∈ F,n.z = n.args.isEmpty) (hlen : F.length < 1000) (h : chk F ≠ 0) :
  L.icall (.func 19 []) [.own false o 0 F.length 6] G = some (.tup [.nilp,.int .i64 (chk F : Nat)],G) := by
 have h34 := xI0 false F hlen
 have h' : ¬ ((chk F : Nat) : Int) = 0 := by omega
 have hll : lo.length = F.length := by rw [← hlo,List.length_map]
 have hol := xCP xAO lo
 have hot := xDD xAO lo
 rw [hll] at hol hot
 have hfz : frz 6 G (.own false o 0 F.length 6) = some (.sl false F.length (nds F)) := by
  rw [xAU,ho.go,xBv (by rw [hol]; omega),List.drop_zero,hot,ho.frz (e := Nd.c) 4 fun p hp => xFU (hz _ (by rw [← hlo]; exact List.mem_map.2 ⟨p,hp,rfl⟩)) (ho.bl p hp).2,hlo]; rfl
 generalize chk F = c at *
 rw [yDP,a19,xAm]
 simp (maxSteps := 30000000) (disch := first|exact D6|fail) only [WB,Nat.reduceSub,hfz,h34,xAD,xAn,↓reduceIte,h']
theorem xY4 {o : Nat} {lo : List (Nd × Nat)} {F : List Nd} {G : Heap} (ho : Ow xAG Nd.args G o lo) (hlo : lo.map (·.1) = F) (hz : ∀ n ∈ F,n.z = n.args.isEmpty) : frz 6 G (.own false o 0 F.length 6) = some (.sl false F.length (nds F)) := by
 have hll : lo.length = F.length := by rw [← hlo,List.length_map]
 have hol := xCP xAO lo
 have hot := xDD xAO lo
 rw [hll] at hol hot
 rw [xAU,ho.go,xBv (by rw [hol]; omega),List.drop_zero,hot,ho.frz (e := Nd.c) 4 fun p hp => xFU (hz _ (by rw [← hlo]; exact List.mem_map.2 ⟨p,hp,rfl⟩)) (ho.bl p hp).2,hlo]; rfl
set_option maxRecDepth 100000 in
set_option maxHeartbeats 16000000 in
theorem yAh (z : Bool) (fs : List Nd) (zl : Bool) (l : List Ev) (hl : l.length ≤ 9223372036854775807) :
  L.pcall 4 [.sl z fs.length (nds fs),.sl zl l.length (evs l)] = some (.bool true) := by
 have h18 := yE5 z fs
 have hk := yAy
 have hFl := xVp fs
 have hwn := xXz fs
 have hz := xVW fs
 obtain ⟨Gf,vf,lf,ef,gf,mf⟩ := yDc z fs
 have h20 := xVB (xI2 fs).isEmpty (xI2 fs) (by omega)
 have h15e := xPx (xI2 fs).isEmpty (xI2 fs) (by omega)
 generalize xI2 fs = F at *
 rcases gf with ⟨rfl,rfl⟩ | ⟨of,rfl,hwf⟩
 ·-- nothing comes in
  have hF0 : F = [] := mf.symm
  subst hF0
  have e19 := xVS true [] (by decide) (by decide) ([] ++ Gf.map (xB7 0))
  have h20 : L.pcall 20 [.sl true 0 []] = some (.int .i64 3) := h20
  have e19 : L.icall (.func 19 []) [.sl true 0 []] (Gf.map (xB7 0)) = some (.tup [.nilp,.int .i64 3],Gf.map (xB7 0)) := e19
  have e15 : L.icall (.func 15 []) [.sl true 0 []] (Gf.map (xB7 0)) = some (.sl true 0 [],Gf.map (xB7 0)) := by
   rw [yFz,a15,xAm]
   simp (maxSteps := 30000000) (disch := first|exact D6|fail) only [WB,Nat.reduceSub,xEL,xIt,xFC,↓reduceIte]
  generalize hG0 : Gf.map (xB7 0) = G0 at *
  rw [a4p,a4,xAb]
  simp (maxSteps := 30000000) (disch := first|exact D6|fail) only [WB,Nat.reduceAdd,Nat.reduceSub,xFA,xCW,ef,xFB,xB6,xEY,xCL,hG0,e19,e15,h20,xAD,xAn,↓reduceIte,xEo,xI6,Int.reduceEq,hk]
 ·have hfl : lf.length = F.length := by rw [← mf,List.length_map]
  have hF0 : 0 < F.length := by
   rw [← hfl]; exact List.length_pos_iff.2 hwf.ne
  have hem : F.isEmpty = false := xRk hF0
  rw [hem] at h18 h20 h15e
  rw [hfl] at ef
  have hf0 : Ow xAG Nd.args (Gf.map (xB7 0)) of (xRg 0 lf) := hwf.liftM
  have hmf : (xRg 0 lf).map (·.1) = F := by rw [xXv,mf]
  generalize hG0 : Gf.map (xB7 0) = G0 at *
  generalize xRg 0 lf = lo at *
  clear hwf
  generalize of = o at *
  have hll : lo.length = F.length := by rw [← hmf,List.length_map]
  by_cases hc : chk F = 0
  ·obtain ⟨-,hlen,hV⟩ := xL9 hc
   obtain ⟨G1,m,sb,e19,m1,k1,bm,bs1⟩ := yC9 (G := G0) hf0 hmf hz hc hwn
   have hf1 : Ow xAG Nd.args G1 o lo := ⟨(k1.2 o (xAQ hf0.go)).trans hf0.go,hf0.ne,fun p hp => ⟨(hf0.bl p hp).1,(k1.2 _ (xAQ (hf0.bl p hp).2)).trans (hf0.bl p hp).2⟩,hf0.nd⟩
   obtain ⟨G2,ob,e15,hf2,k2,bo⟩ := xRm (N := F.length) hf1 hll (by omega)
   have hfz := xY4 hf2 hmf hz
   rw [hc] at h20
   have h20 : L.pcall 20 [.sl false F.length (nds F)] = some (.int .i64 0) := h20
   have hf3 : Ow xAG Nd.args G2 o lo := ⟨(k2.2 o (xAQ hf1.go)).trans hf1.go,hf1.ne,fun p hp => ⟨(hf1.bl p hp).1,(k2.2 _ (xAQ (hf1.bl p hp).2)).trans (hf1.bl p hp).2⟩,hf1.nd⟩
   obtain ⟨G3,e40,k3⟩ := yCB (s0 := .sl z fs.length (nds fs)) (s1 := .sl zl l.length (evs l)) (s6 := .ptr m 0) (o := o) (lo := lo) (by omega) (fun p hp => by
     have hpm : p.1 ∈ F := by rw [← hmf]; exact List.mem_map.2 ⟨p,hp,rfl⟩
     obtain ⟨j,hj⟩ := List.mem_iff_getElem?.1 hpm
     have hjl := (List.getElem?_eq_some_iff.1 hj).1
     have := (hV j hjl).al
     rw [List.getD_eq_getElem?_getD,hj] at this
     have : p.1.args.length ≤ 100 := this
     omega) lo.length 0 (by omega) G2 [] rfl (by rw [List.drop_zero]; exact hf3.go) (by rw [List.drop_zero]; exact hf3.bl) (by rw [List.drop_zero]; exact hf3.nd)
   rw [hll] at e40
   have e40' : L.loop xSk yCg ⟨xSl (.sl z fs.length (nds fs)) (.sl zl l.length (evs l)) (.own false o 0 F.length 6) (.ptr m 0) (.int .i64 0),G2⟩ = _ := e40
   have lo0 := xAQ hf0.go
   have hkeep : ∀ b,G0.length ≤ b → b < G1.length → G3[b]? = G1[b]? := by
    intro b h1 h2
    rw [k3 b (by omega) (fun p hp => by have := xAQ (hf0.bl p hp).2; omega),k2.2 b h2]
   have m3 : Mo false F m sb G3 (xAJ F []) (min ([] : List Ev).length 1) := by
    rw [xVs]
    exact ⟨by rw [hkeep m bm (xAQ m1.gm)]; exact m1.gm,by rw [hkeep sb bs1 (xAQ m1.gb)]; exact m1.gb,m1.ne,m1.rw,m1.h0⟩
   obtain ⟨G4,E,v,e41,m4,s4,hE10⟩ := yCC (zl := zl) (l := l) hc hl (min l.length 10) 0 (by omega) G3 [] (.sl true 0 []) m3 (.inl ⟨rfl,rfl⟩) (by simp) rfl
   have e41' : L.loop xIs xWy ⟨xSm (.sl zl l.length (evs l)) .any (.sl false F.length (nds F)) (.ptr m 0) (.sl true 0 []) (.int .i64 0),G3⟩ = _ := e41
   have hl2 : (xAJ F E).length = nT F := m4.rw.1
   have hst : (min E.length 1 :: (xAJ F E).flatten).length = 64 * nT F + 1 := by rw [List.length_cons,m4.rw.flen,hl2]
   have hstB : stB F E = min E.length 1 :: (xAJ F E).flatten := rfl
   have hwl := m4.rw.le
   have gm4 := m4.gm
   rw [hl2] at gm4 hwl
   have h24 := xOq gm4 m4.gb hst (by omega) (by omega)
   have h26 := fun zt => xPM (zf := false) (zt := zt) (E := E) hc (by omega)
   rw [hstB,hst] at h26
   have h25 := fun (X : Heap) (hX : X[G4.length + 1]? = some (.cells false false (bs (min E.length 1 :: (xAJ F E).flatten)))) => yAo (z2 := false) (o1 := G4.length + 1) (a := min E.length 1 :: (xAJ F E).flatten) (b := min E.length 1 :: (xAJ F E).flatten) (f1 := false) (z1 := false) (H := X) hX (by omega)
   rw [hst] at h25
   have hdt : decide ((min E.length 1 :: (xAJ F E).flatten) = (min E.length 1 :: (xAJ F E).flatten)) = true := decide_eq_true rfl
   rw [hdt] at h25
   have hfr1 := fun d H => xI3 d H E
   have hbo1 := fun d H => xI4 d H E
   have hevl := xCd E
   have hevt : List.take (E.length * 2) (evs E) = evs E := xDE E
   clear hdt hst hstB
   rcases s4 with ⟨hE0,rfl⟩ | ⟨os,fz,rfl,go,hEn,ho1,ho2⟩
   ·subst hE0
    have h26 : L.pcall 26 [.sl false F.length (nds F),.sl true 0 []] = _ := h26 true
    have h25 := h25 (G4 ++ [.dead,.cells false false (bs (min ([] : List Ev).length 1 :: (xAJ F []).flatten))]) (by rw [List.getElem?_append_right (by omega),show G4.length + 1 - G4.length = 1 by omega]; rfl)
    generalize bs (min ([] : List Ev).length 1 :: (xAJ F []).flatten) = ST at *
    rw [a4p,a4,xAb]
    simp (maxSteps := 30000000) (disch := first|exact D6|fail) only [WB,Nat.reduceAdd,Nat.reduceSub,xFA,xCW,ef,xFB,xB6,xEY,xCL,hG0,e19,e15,hfz,h20,xAD,xAn,↓reduceIte,xEo,xFV,xXp,e40',h18,xLN,e41',h24,h15e,h26,h25,hk]
   ·have loo := xAQ go
    have hfzs : frz 6 (G4 ++ [.dead,.cells false false (bs (min E.length 1 :: (xAJ F E).flatten))]) (.own false os 0 E.length 2) = some (.sl false E.length (evs E)) := by
     rw [xAU,xAC loo,go,xBv (by rw [hevl]; omega),List.drop_zero,hevt,hfr1]; rfl
    have hbos : bor 6 (G4 ++ [.dead,.cells false false (bs (min E.length 1 :: (xAJ F E).flatten))]) (.own false os 0 E.length 2) = [os] := by
     rw [xCN,xAC loo,go,xDj,List.drop_zero,hevt,hbo1]
    have hml := xLa (f := xBM) (X := [.dead,.cells false false (bs (min E.length 1 :: (xAJ F E).flatten))]) loo
    have h26 := h26 false
    have h25 := h25 (List.modify G4 os xBM ++ [.dead,.cells false false (bs (min E.length 1 :: (xAJ F E).flatten))]) (by rw [List.getElem?_append_right (by rw [List.length_modify]; omega),List.length_modify,show G4.length + 1 - G4.length = 1 by omega]; rfl)
    generalize bs (min E.length 1 :: (xAJ F E).flatten) = ST at *
    generalize evs E = EV at *
    generalize List.modify G4 os xBM = G5 at *
    rw [a4p,a4,xAb]
    simp (maxSteps := 30000000) (disch := first|exact D6|fail) only [WB,Nat.reduceAdd,Nat.reduceSub,xFA,xCW,ef,xFB,xB6,xEY,xCL,hG0,e19,e15,hfz,h20,xAD,xAn,↓reduceIte,xEo,xFV,xXp,e40',h18,xLN,e41',h24,h15e,hfzs,h26,hbos,hml,h25,hk]
  ·have e19 := xSr (G := G0) hf0 hmf hz (by omega) hc
   obtain ⟨G2,ob,e15,hf2,-,-⟩ := xRm (N := F.length) hf0 hll (by omega)
   have hfz := xY4 hf2 hmf hz
   have hci : ¬ ((chk F : Nat) : Int) = 0 := by omega
   generalize chk F = c at *
   rw [a4p,a4,xAb]
   simp (maxSteps := 30000000) (disch := first|exact D6|fail) only [WB,Nat.reduceAdd,Nat.reduceSub,xFA,xCW,ef,xFB,xB6,xEY,xCL,hG0,e19,e15,hfz,h20,xAD,xAn,↓reduceIte,xEo,xI6,hci,hk]
theorem law4 (avs : List AV) (h : xOE [yCW,xY7] avs) : L.pcall 4 avs = some (.bool true) := by
 obtain ⟨v1,avs,rfl,f1,h⟩ := xLc h
 obtain ⟨v2,avs,rfl,f2,h⟩ := xLc h
 obtain rfl := xVD h
 obtain ⟨z,fs,rfl⟩ := yAA (xRp f1)
 obtain ⟨zl,l,rfl,hl⟩ := yAB (xRp f2)
 exact yAh z fs zl l hl
end
end Go.Abs.Events
