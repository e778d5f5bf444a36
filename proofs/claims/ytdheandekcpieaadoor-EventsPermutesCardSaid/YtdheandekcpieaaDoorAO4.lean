/- The law Permutes. -/
import Derived.Test.YtdheandekcpieaaDoorAbsBun
import Derived.Test.YtdheandekcpieaaDoorAMG
namespace Go.Abs.Events
open Go Go.Abs
set_option linter.unusedSimpArgs false
set_option linter.unusedVariables false
theorem xZH (l : List Int) : xCj (xCj l) = xCj l := by
 unfold xCj
 rw [List.take_take]; rfl
theorem xZI (n : Nd) : xGj (xGj n) = xGj n := by
 unfold xGj
 show Nd.mk _ _ (xCj (xCj n.args)).isEmpty (xCj (xCj n.args)) _ _ _ = _
 rw [xZH]
theorem xXx (fs : List Nd) : xEz (inL fs) = inL fs := by
 have hl := xFQ fs
 unfold xEz
 rw [List.take_of_length_le (by omega)]
 unfold inL xEz
 rw [← List.map_take,List.map_map]
 exact List.map_congr_left fun n _ => xZI n
theorem xXy {e : Ev} (h : xDl e = true) : e.args.length ≤ 2 := by
 unfold xDl at h
 simp only [Bool.and_eq_true,decide_eq_true_eq] at h
 exact h.1.2
theorem xO3 {e : Ev} (h : xDl e = true) : (shO e).args = e.args := by
 have := xXy h
 exact List.take_of_length_le (by omega)
theorem xWc (n : Nd) {e : Ev} (h : xDl e = true) (qs : List Q) (w : Q) : evN n (shO e) qs w = evN n e qs w := by
 unfold evN
 rw [xO3 h]; rfl
theorem xKg {e : Ev} (h : xDl e = true) : ∀ (fs : List Nd) (qs : List Q) (ws : List (List Nat)),xBT (shO e) fs qs ws = xBT e fs qs ws
 | [],_,_ => rfl
 | n :: fs,qs,ws => by
  rw [xBT,xBT,xWc n h,xWc n h]
  simp only [xKg h fs]
theorem xZJ (fs : List Nd) : ∀ (es : List Ev) (ws : List (List Nat)),es.all xDl = true → vL fs (es.map shO) ws = vL fs es ws
 | [],_,_ => rfl
 | e :: es,ws,h => by
  rw [List.all_cons,Bool.and_eq_true] at h
  rw [List.map_cons,vL,vL,xKg h.1,xZJ fs es _ h.2]
  unfold xMp
  rw [xKg h.1]
theorem xXz {e : Ev} (h : xDl e = true) : xDl (shO e) = true := by
 unfold xDl at h ⊢
 have h2 := xO3 (e := e) h
 rw [h2]; exact h
theorem yBN {a b : Nat} (ha : a < 8) (hb : b < 8) {es : List Ev} (h : es.all xDl = true) : ((es.map shO).map (pE a b)).all xDl = true := by
 rw [List.all_eq_true] at h ⊢
 intro x hx
 obtain ⟨y,hy,rfl⟩ := List.mem_map.1 hx
 obtain ⟨u,hu,rfl⟩ := List.mem_map.1 hy
 rw [xZU ha hb]; exact xXz (h u hu)
theorem yBO {a b : Nat} {n : Nd} (h : WN n) : WN (pN a b n) := by
 unfold WN at h ⊢
 show n.z = (n.args.map (swI a b)).isEmpty
 rw [h]; cases n.args <;> rfl
theorem yCB (x : Int) : ∃ A : Nat,A < 8 ∧ (x.tmod 8 + 8).tmod 8 = (A : Nat) ∧ -8 < x.tmod 8 ∧ x.tmod 8 < 8 := by
 have h1 : -8 < x.tmod 8 := by have := Int.lt_tmod_of_pos x (show (0 : Int) < 8 by decide); omega
 have h2 : x.tmod 8 < 8 := Int.tmod_lt_of_pos x (by decide)
 have h3 : (0 : Int) ≤ x.tmod 8 + 8 := by omega
 refine ⟨((x.tmod 8 + 8).tmod 8).toNat,?_,?_,h1,h2⟩
 ·have := Int.tmod_lt_of_pos (x.tmod 8 + 8) (show (0 : Int) < 8 by decide)
  have := Int.tmod_nonneg 8 h3
  omega
 ·have := Int.tmod_nonneg 8 h3
  omega
theorem xS1 {α : Type} {l : List α} (h : 0 < l.length) : l.isEmpty = false := by
 cases l with
 | nil => simp at h
 | cons _ _ => rfl
theorem xS2 {α β : Type} (f : α → β) (l : List α) : (l.map f).isEmpty = l.isEmpty := by cases l <;> rfl
set_option maxHeartbeats 8000000 in
theorem xXA (z : Bool) (fs : List Nd) (zl : Bool) (l : List Ev) (hl : l.length ≤ 9223372036854775807) (x y : Int) :
  L.pcall 9 [.sl z fs.length (nds fs),.sl zl l.length (evs l),.agg [.int .i64 x,.int .i64 y]] = some (.bool true) := by
 have h18 := yBU z fs
 have h33 := xYC fs zl l hl
 have hk := xYy
 have hnl := xAe (xEz fs)
 have hmin := yAG fs
 have hbd := yCi fs
 have htk := yCj fs
 unfold inV at h33
 have hgl := xGp 12 l
 have hgo := xTw 12 l
 have hil := xFQ fs
 have hin := xXx fs
 obtain ⟨a,ha,ea,ex1,ex2⟩ := yCB x
 obtain ⟨b,hb,eb,ey1,ey2⟩ := yCB y
 generalize hfe : (xEz fs).isEmpty = ze at *
 have hz0 : ∀ h : (inL fs).length ≠ 0,ze = false := fun h => by rw [← hfe]; exact yCR h
 have hwn := xWw fs
 generalize inL fs = F at *
 generalize xCc 12 l = V at *
 by_cases hc : chk F = 0
 ·obtain ⟨h0,hlen,hV⟩ := xNv hc
  obtain rfl := hz0 (by omega)
  rw [if_pos hc,decide_eq_true hc] at h33
  obtain ⟨Gf,vf,lf,ef,gf,mf⟩ := xZ9 false F
  rw [hin] at mf
  obtain ⟨of,rfl,hwf⟩ : ∃ o,vf = .own false o 0 lf.length 6 ∧ Ow xBn Nd.args Gf o lf := by
   rcases gf with ⟨rfl,-⟩ | h
   ·have := congrArg List.length mf; simp at this; omega
   ·exact h
  have hfl : lf.length = F.length := by rw [← mf,List.length_map]
  rw [hfl] at ef
  obtain ⟨Gs,vs,ls,es,gs,ms⟩ := xU7 (l := V) (N := 12) V.isEmpty hgl (by decide)
  have es : xB5 L 21 [.sl V.isEmpty V.length (evs V),.int .i64 12] = some (vs,Gs) := es
  have hal : ∀ n ∈ F,n.args.length ≤ 1000 := by
   intro n hn
   rw [List.mem_iff_getElem] at hn
   obtain ⟨j,hj,rfl⟩ := hn
   have := (hV j hj).al
   rw [List.getD_eq_getElem?_getD,List.getElem?_eq_getElem hj] at this
   have : F[j].args.length ≤ 100 := this
   omega
  have hvp := yDm ha hb hc (V.map shO)
  rw [xZJ F V _ hgo] at hvp
  have hcp : chk (F.map (pN a b)) = 0 := by rw [xZT ha hb]; exact hc
  have hwp : ∀ j,j < (F.map (pN a b)).length → WN ((F.map (pN a b)).getD j nd0) := by
   intro j hj
   rw [xNs]; exact yBO (hwn j (by simpa using hj))
  have hFz : ∀ n ∈ F.map (pN a b),n.z = n.args.isEmpty := by
   intro n hn
   rw [List.mem_iff_getElem] at hn
   obtain ⟨j,hj,rfl⟩ := hn
   have := hwp j hj
   rw [List.getD_eq_getElem?_getD,List.getElem?_eq_getElem hj] at this
   exact this
  have h35 := xPf hcp hwp V.isEmpty ((V.map shO).map (pE a b)) (by simp; omega)
  rw [if_pos (yBN ha hb hgo),hvp] at h35
  simp only [List.length_map,xS2] at h35
  have h36 := yCP (z1 := V.isEmpty) (z2 := V.isEmpty) (a := vL F V (zr (nT F))) (b := vL F V (zr (nT F))) (by rw [xJu]; omega)
  rw [decide_eq_true rfl,xJu] at h36
  have hf0 : ∀ (bx : Blk) (T : Heap),Ow xBn Nd.args (bx :: (Gf.map (xB0 1) ++ T)) (1 + of) (shf 1 lf) := fun bx T => hwf.lift [bx] T (xQg _) xTg
  have hpz : ∀ p ∈ shf 1 lf,p.2 < Gf.length + 1 := by
   intro p hp
   unfold shf at hp
   obtain ⟨q,hq,rfl⟩ := List.mem_map.1 hp
   have := xBs (hwf.bl q hq).2
   show 1 + q.2 < _
   omega
  have hoz : 1 + of < Gf.length + 1 := by have := xBs hwf.go; omega
  have hmf : (shf 1 lf).map (·.1) = xNu (pN a b) F 0 := by rw [xTe,mf]; simp [xNu]
  rcases gs with ⟨rfl,rfl⟩ | ⟨os,rfl,hws⟩
  ·have hV0 : V = [] := by
    have := congrArg List.length ms; simp at this
    exact List.eq_nil_of_length_eq_zero (by omega)
   subst hV0
   obtain ⟨G1,l1,e1,w1,m1,-,-⟩ := xWn (a := a) (b := b) (V := .sl true 0 []) (v14 := .sl true 0 []) hal (by omega) F.length 0 (by omega) _ _ (hf0 (.cells false false [.int .i64 x,.int .i64 y]) (Gs.map (xB0 (Gf.length + 1)))) hmf
   have e1' : L.loop xNe xYH ⟨xQa (.sl true 0 []) (.int .i64 (a : Nat)) (.int .i64 (b : Nat)) (.own false (1 + of) 0 F.length 6) (.sl true 0 []) (.int .i64 0),_⟩ = _ := e1
   have go := w1.go
   have hfr : (ons xBn l1).mapM (frz 5 G1) = some (nds (F.map (pN a b))) := GnO.wn w1 hFz m1 4
   have hl1 : l1.length = F.length := by have := congrArg List.length m1; simpa using this
   have hol := xDa xBv l1
   have hot := xD4 xBv l1
   rw [hl1] at hol hot
   clear w1 hf0 hwf
   generalize ons xBn l1 = L1 at *
   have h33' : L.pcall 33 [.sl false F.length (nds F),.sl zl l.length (evs l),.int .i64 12] = some (.tup [.sl true 0 [],.sl true 0 [],.bool true]) := h33
   have es' : xB5 L 21 [.sl true 0 [],.int .i64 12] = some (.sl true 0 [],Gs) := es
   have h35' : L.pcall 35 [.sl false F.length (nds (F.map (pN a b))),.sl true 0 []] = some (.tup [.sl true 0 [],.int .i64 0]) := h35
   have h36' : L.pcall 36 [.sl true 0 [],.sl true 0 []] = some (.bool true) := h36
   generalize nds (F.map (pN a b)) = L2 at *
   rw [a9p,a9,xAb]
   simp (maxSteps := 30000000) (disch := first | assumption | omega | (simp only [WZ,AV.isCell] <;> omega) | rfl | decide) only [WB,Nat.reduceAdd,Nat.reduceSub,AV.cells,AV.isCell,↓reduceIte,h18,xAQ,xAv,hmin,hbd,Nat.reduceMul,htk,h33',WA,ea,eb,xAq,xLK,xGa,ef,xLL,xBM,xES,xCa,es',List.length_map,xUT,e1',xUU,xXr,xSv,xBS,go,hot,hfr,h35',xJ0,h36',hk]
  ·have hsl : ls.length = V.length := by
    have := congrArg List.length ms; simpa using this
   have hV0 : 0 < V.length := by
    have := hws.ne
    rw [← hsl]; exact List.length_pos_iff.2 this
   have hVe : V.isEmpty = false := xS1 hV0
   rw [hVe] at h33 h35 h36 es
   rw [hsl] at es
   have hmV : (shf (Gf.length + 1) ls).map (·.1) = xNu (pE a b) (V.map shO) 0 := by rw [xTe,ms]; simp [xNu]
   obtain ⟨G1,l1,e1,w1,m1,q1,k1⟩ := xWn (a := a) (b := b) (V := .sl false V.length (bls (vL F V (zr (nT F))))) (v14 := .own false (Gf.length + 1 + os) 0 V.length 2) hal (by omega) F.length 0 (by omega) _ _ (hf0 (.cells false false [.int .i64 x,.int .i64 y]) (Gs.map (xB0 (Gf.length + 1)))) hmf
   have hs0 : Ow evO Ev.args (.cells false false [.int .i64 x,.int .i64 y] :: (Gf.map (xB0 1) ++ Gs.map (xB0 (Gf.length + 1)))) (Gf.length + 1 + os) (shf (Gf.length + 1) ls) := by
    have := hws.lift (Blk.cells false false [.int .i64 x,.int .i64 y] :: Gf.map (xB0 1)) [] (by rw [List.length_cons,List.length_map]; exact xU4 _) xXG
    rw [List.append_nil,List.length_cons,List.length_map] at this
    exact this
   have hpm : ∀ p ∈ shf (Gf.length + 1) ls,Gf.length + 1 ≤ p.2 := by
    intro p hp
    unfold shf at hp
    obtain ⟨q,hq,rfl⟩ := List.mem_map.1 hp
    show _ ≤ Gf.length + 1 + q.2
    omega
   have hs1 := hs0.keep (G' := G1) (k1 _ fun p hp => by have := hpz p hp; omega) (fun r hr => k1 _ fun p hp => by have := hpz p hp; have := hpm r hr; omega)
   have hsal : ∀ e ∈ V.map shO,e.args.length ≤ 1000 := by
    intro e he
    obtain ⟨u,-,rfl⟩ := List.mem_map.1 he
    show (xCj u.args).length ≤ 1000
    unfold xCj
    rw [List.length_take]; omega
   have hVl : (V.map shO).length = V.length := List.length_map _
   obtain ⟨G2,l2,e2,w2,m2,-,k2⟩ := xZX (a := a) (b := b) (V := .sl false V.length (bls (vL F V (zr (nT F))))) (v13 := .own false (1 + of) 0 F.length 6) hsal (by omega) (V.map shO).length 0 (by omega) _ _ hs1 hmV
   rw [hVl] at e2
   have w1' := w1.keep (G' := G2) (k2 _ fun p hp => by have := hpm p hp; omega) (fun r hr => k2 _ fun p hp => by
    have h1 := hpm p hp
    have h2 : r.2 ∈ (shf 1 lf).map (·.2) := by rw [← q1]; exact List.mem_map.2 ⟨r,hr,rfl⟩
    obtain ⟨q,hq,hqe⟩ := List.mem_map.1 h2
    have := hpz q hq
    omega)
   have e1' : L.loop xNe xYH ⟨xQa (.sl false V.length (bls (vL F V (zr (nT F))))) (.int .i64 (a : Nat)) (.int .i64 (b : Nat)) (.own false (1 + of) 0 F.length 6) (.own false (Gf.length + 1 + os) 0 V.length 2) (.int .i64 0),_⟩ = _ := e1
   have e2' : L.loop xQb xZr ⟨xSw (.sl false V.length (bls (vL F V (zr (nT F))))) (.int .i64 (a : Nat)) (.int .i64 (b : Nat)) (.own false (1 + of) 0 F.length 6) (.own false (Gf.length + 1 + os) 0 V.length 2) (.int .i64 0),_⟩ = _ := e2
   have go1 := w1'.go
   have hfr1 : (ons xBn l1).mapM (frz 5 G2) = some (nds (F.map (pN a b))) := GnO.wn w1' hFz m1 4
   have hl1 : l1.length = F.length := by have := congrArg List.length m1; simpa using this
   have hol1 := xDa xBv l1
   have hot1 := xD4 xBv l1
   rw [hl1] at hol1 hot1
   have go2 := w2.go
   have hfr2 : (ons evO l2).mapM (frz 5 G2) = some (evs ((V.map shO).map (pE a b))) := by
    rw [w2.frz (e := evC) 4 fun p hp => xXR (by
     have h1 : p.1 ∈ (V.map shO).map (pE a b) := by rw [← m2]; exact List.mem_map.2 ⟨p,hp,rfl⟩
     obtain ⟨u,hu,hue⟩ := List.mem_map.1 h1
     obtain ⟨t,-,rfl⟩ := List.mem_map.1 hu
     rw [← hue]
     show (xCj t.args).isEmpty = ((xCj t.args).map _).isEmpty
     rw [xS2]) (w2.bl p hp).2,m2]
   have hl2 : l2.length = V.length := by have := congrArg List.length m2; simpa using this
   have hol2 := xDa xFM l2
   have hot2 := xD4 xFM l2
   rw [hl2] at hol2 hot2
   clear w1 w1' w2 hf0 hwf hs0 hs1
   generalize ons xBn l1 = L1 at *
   generalize ons evO l2 = L2 at *
   generalize nds (F.map (pN a b)) = L3 at *
   generalize evs ((V.map shO).map (pE a b)) = L4 at *
   generalize bls (vL F V (zr (nT F))) = BW at *
   rw [a9p,a9,xAb]
   simp (maxSteps := 30000000) (disch := first | assumption | omega | (simp only [WZ,AV.isCell] <;> omega) | rfl | decide) only [WB,Nat.reduceAdd,Nat.reduceSub,AV.cells,AV.isCell,↓reduceIte,h18,xAQ,xAv,hmin,hbd,Nat.reduceMul,htk,h33,WA,ea,eb,xAq,xLK,xGa,ef,xLL,xBM,xES,xCa,es,List.length_map,xUT,e1',xUU,e2',xBS,go1,hot1,hfr1,go2,hot2,hfr2,h35,xJ0,h36,hk]
 ·rw [if_neg hc,decide_eq_false hc] at h33
  rw [a9p,a9,xAb]
  simp (maxSteps := 30000000) (disch := first | assumption | omega | (simp only [WZ,AV.isCell] <;> omega) | rfl | decide) only [WB,Nat.reduceAdd,Nat.reduceSub,AV.cells,AV.isCell,↓reduceIte,h18,xAQ,xAv,hmin,hbd,Nat.reduceMul,htk,h33,hk]
def xZK : TS := ⟨true,[.int .i64,.int .i64]⟩
theorem law9 (avs : List AV) (h : xMB [yAF,xWv,xZK] avs) : L.pcall 9 avs = some (.bool true) := by
 obtain ⟨v1,avs,rfl,f1,h⟩ := xFS h
 obtain ⟨v2,avs,rfl,f2,h⟩ := xFS h
 obtain ⟨v3,avs,rfl,f3,h⟩ := xFS h
 obtain rfl := xTW h
 obtain ⟨z,fs,rfl⟩ := xYA (xPy f1)
 obtain ⟨zl,l,rfl,hl⟩ := xYB (xPy f2)
 obtain ⟨cs,rfl,hfa⟩ := xTV f3
 obtain ⟨a1,cs,rfl,h1,h'⟩ := xAZ hfa
 obtain ⟨a2,cs,rfl,h2,h'⟩ := xAZ h'
 obtain rfl := xFR h'
 obtain ⟨x,rfl,-⟩ := xDS h1
 obtain ⟨y,rfl,-⟩ := xDS h2
 exact xXA z fs zl l hl x y
end Go.Abs.Events
