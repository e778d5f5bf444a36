/- The reference's After,whole. -/
import Derived.Test.YtdheandekcpieaaDoorAbsBun
import Derived.Test.YtdheandekcpieaaDoorAMI
namespace Go.Abs.Events
open Go Go.Abs
set_option linter.unusedSimpArgs false
set_option linter.unusedVariables false
section
variable {e : Ev} {eb : Nat} {st : List Nat} {z zf : Bool} {fs : List Nd}
set_option maxRecDepth 100000 in
theorem xYK (hlen : fs.length ≤ 64) (hV : ∀ j,j < fs.length → Vn j (fs.getD j nd0)) (hb : ∀ x ∈ st,x < 256) (hst : st.length ≤ 10000) : ∀ (rest : List Nd) (i at_ oo : Nat) (G : Heap) (pre : List Nat) (ws : List (List Nat)) (qs : List Q) (v8 : AV) (out : List Nat),
  AI e eb G qs v8 oo out → qs.length = i → fs.drop i = rest → i ≤ fs.length → pre.length = at_ → Rows rest ws → st = pre ++ ws.flatten → out.length ≤ 64 * i + 1 →
  ∃ G' v8' oo' at',L.loop xEj xKN ⟨xWd zf fs z st eb v8 oo out at_ i,G⟩ = some (.exit 0,⟨xWd zf fs z st eb v8' oo' (out ++ (xAM e rest qs ws).2.flatten) at' fs.length,G'⟩) ∧
   AI e eb G' (xAM e rest qs ws).1 v8' oo' (out ++ (xAM e rest qs ws).2.flatten) := by
 intro rest
 induction rest with
 | nil =>
  intro i at_ oo G pre ws qs v8 out h hi hd hle hp hr hs ho
  obtain rfl : i = fs.length := by
   have := congrArg List.length hd
   simp at this; omega
  have hnil : out ++ (xAM e [] qs ws).2.flatten = out := by simp [xAM]
  refine ⟨G,v8,oo,at_,?_⟩
  rw [hnil]
  refine ⟨?_,h⟩
  rw [xMV]
  simp (disch := omega) only [xHU,WB,↓reduceIte,xJN]
 | cons n rest ih =>
  intro i at_ oo G pre ws qs v8 out h hi hd hle hp hr hs ho
  have hlt : i < fs.length := by
   have := congrArg List.length hd
   simp at this; omega
  have hd' : fs.drop (i + 1) = rest := by rw [← List.drop_drop,hd]; rfl
  have hn : fs.getD i nd0 = n := by
   rw [List.drop_eq_getElem_cons hlt] at hd
   rw [List.getD_eq_getElem?_getD,List.getElem?_eq_getElem hlt]
   exact (List.cons.inj hd).1
  have hv := hV i hlt
  rw [hn,← hi] at hv
  cases ht : tmp n.op with
  | false =>
   obtain ⟨G1,v1,e1,h1⟩ := xRf (zf := zf) (fs := fs) (z := z) (st := st) (at_ := at_) h hv (by omega) hi hlt hn ht hb
   obtain ⟨G2,v2,oo2,at2,e2,h2⟩ := ih (i + 1) at_ oo G1 pre ws (qs ++ [evN n e qs fQ]) v1 out h1 (by simp [hi]) hd' hlt hp (hr.cons_f ht) hs (by omega)
   refine ⟨G2,v2,oo2,at2,?_⟩
   rw [xAM,ht]
   exact ⟨e1.trans e2,h2⟩
  | true =>
   obtain ⟨w,ws',rfl,hr',hw,hwb⟩ := hr.cons_t ht
   rw [List.flatten_cons] at hs
   have hrow : (st.drop at_).take 64 = w := by
    rw [hs,← hp,List.drop_append_of_le_length (Nat.le_refl _),List.drop_of_length_le (Nat.le_refl _),List.nil_append,List.take_append_of_le_length (by omega),List.take_of_length_le (by omega)]
   have hat : at_ + 64 ≤ st.length := by rw [hs,List.length_append,List.length_append]; omega
   obtain ⟨G1,v1,oo1,e1,h1⟩ := xRg (zf := zf) (fs := fs) (z := z) (st := st) (at_ := at_) h hv (by omega) hi hlt hn ht hb hat (by omega) (by omega)
   rw [hrow] at e1 h1
   obtain ⟨G2,v2,oo2,at2,e2,h2⟩ := ih (i + 1) (at_ + 64) oo1 G1 (pre ++ w) ws' (qs ++ [evN n e qs (qOf w)]) v1 (out ++ bsQ (xDj n qs (evN n e qs (qOf w)))) h1 (by simp [hi]) hd' hlt (by rw [List.length_append,hw,hp]) hr' (by rw [List.append_assoc]; exact hs)
    (by rw [List.length_append,xDk]; omega)
   refine ⟨G2,v2,oo2,at2,?_⟩
   rw [xAM,ht]
   simp only [if_true,List.headD_cons,List.tail_cons,List.flatten_cons]
   rw [← List.append_assoc]
   exact ⟨e1.trans e2,h2⟩
end
set_option maxRecDepth 100000 in
set_option maxHeartbeats 4000000 in
theorem xUr {e : Ev} {z zf : Bool} {fs : List Nd} {ws : List (List Nat)} {h : Nat} (h0 : 0 < fs.length) (hlen : fs.length ≤ 64) (hV : ∀ j,j < fs.length → Vn j (fs.getD j nd0)) (hr : Rows fs ws) (hh : h < 256) :
  L.pcall 32 [.sl zf fs.length (nds fs),.sl z (64 * ws.length + 1) (bs (h :: ws.flatten)),.agg (evC e)] = some (.tup [.sl false (64 * ws.length + 1) (bs (1 :: (xAM e fs [] ws).2.flatten)),.bool (xF0 fs e ws)]) := by
 have hfl := hr.flen
 have hle := hr.le
 have hstl : (h :: ws.flatten).length = 64 * ws.length + 1 := by rw [List.length_cons,hfl]
 have hb : ∀ x ∈ h :: ws.flatten,x < 256 := by
  intro x hx
  rcases List.mem_cons.1 hx with rfl | hx
  ·exact hh
  ·obtain ⟨w,hw,hx⟩ := List.mem_flatten.1 hx
   exact (hr.2 w hw).2 x hx
 obtain ⟨G2,v2,oo2,at2,e1,hai⟩ := xYK (e := e) (eb := 0) (st := h :: ws.flatten) (z := z) (zf := zf) hlen hV hb (by omega) fs 0 1 1 [.cells false false (evC e),.cells false false (bs [1])] [h] ws [] (.sl true 0 []) [1] ⟨rfl,.inl ⟨rfl,rfl⟩,rfl,by omega⟩ rfl rfl (by omega) rfl hr rfl (by simp)
 have hq := xFg e fs [] ws
 have hrw := xCr e fs [] ws
 have hrf := hrw.flen
 have hlastb : xF0 fs e ws = ((xAM e fs [] ws).1.getD (fs.length - 1) fQ) 0 := rfl
 have hl2 : (xAM e fs [] ws).2.length = ws.length := by rw [hrw.1,hr.1]
 have hob : ([1] ++ (xAM e fs [] ws).2.flatten).length = 64 * ws.length + 1 := by rw [List.length_append,hrf,hl2,List.length_singleton]; omega
 rw [hlastb]
 obtain ⟨ge,gr,go,-⟩ := hai
 have e1' : L.loop xEj xKN ⟨xMU (.sl zf fs.length (nds fs)) (.sl z (h :: ws.flatten).length (bs (h :: ws.flatten))) (.ptr 0 0) (.sl true 0 []) (.own false 1 0 1 1) (.int .i64 1) (.int .i64 0),[.cells false false (evC e),.cells false false [.int .u8 1]]⟩ = _ := e1
 rw [hstl] at e1'
 have hfr := fun d H => xNj d H ([1] ++ (xAM e fs [] ws).2.flatten)
 have hbt := xCj ([1] ++ (xAM e fs [] ws).2.flatten)
 have hbl := xAz ([1] ++ (xAM e fs [] ws).2.flatten)
 unfold xWd at e1'
 rw [hob] at e1' hbt hbl
 generalize (xAM e fs [] ws).1 = qs2 at *
 change _ = some (AV.tup [.sl false (64 * ws.length + 1) (bs ([1] ++ (xAM e fs [] ws).2.flatten)),_])
 generalize bs ([1] ++ (xAM e fs [] ws).2.flatten) = OUT at *
 generalize bs (h :: ws.flatten) = ST at *
 simp only [List.length_nil,Nat.zero_add] at hq
 rcases gr with ⟨rfl,-⟩ | ⟨ro,rfl,gr,hne,-,-⟩
 ·simp at hq; omega
 have hra := xDV (qs := qs2) (k := fs.length - 1) (by omega)
 have hrl := xCM qs2
 have haa := xEl (qs2.getD (fs.length - 1) fQ) (i := 0) (by omega)
 have hla : (bls (rl (qs2.getD (fs.length - 1) fQ))).length = 512 := by rw [xAF,xAS]
 unfold RW at hra
 rw [List.drop_zero] at haa
 rw [hq] at *
 have hsub : ((fs.length : Nat) : Int) - 1 = ((fs.length - 1 : Nat) : Int) := by omega
 have hlt1 : fs.length - 1 < fs.length := by omega
 generalize (qs2.getD (fs.length - 1) fQ) 0 = b at *
 generalize bls (rl (qs2.getD (fs.length - 1) fQ)) = RL at *
 generalize rws qs2 = RS at *
 unfold evC at e1' ⊢
 rw [yDX,a32,xAb]
 simp (disch := omega) only [WB,Nat.reduceAdd,Nat.reduceSub,AV.cells,AV.isCell,↓reduceIte,xJN,e1',hsub,gr,hra,haa,xAh,xBh,go,hbt,hfr]
 exact if_pos rfl
theorem yCX {G : Heap} {j k : Nat} {f : Blk → Blk} (h : j ≠ k) : (List.modify G j f)[k]? = G[k]? := by rw [List.getElem?_modify]; simp [h]
theorem modify_length' (G : Heap) (j : Nat) (f : Blk → Blk) : (List.modify G j f).length = G.length := by simp
theorem xK2 {l : List Ev} {i : Nat} (h : i ≤ l.length) : List.drop (i * 2) (evs l) = evs (l.drop i) := by
 have h2 : evs l = evs (l.take i) ++ evs (l.drop i) := by rw [xZf,List.take_append_drop]
 have h3 : (evs (l.take i)).length = i * 2 := by rw [xDX]; simp; omega
 rw [h2,List.drop_append_of_le_length (by omega),List.drop_of_length_le (by omega)]; rfl
section
variable {F : List Nd} {l : List Ev} {zl : Bool} {m sb : Nat} {v : AV}
abbrev F5 (l : List Ev) (zl : Bool) (F : List Nd) (m : Nat) (v : AV) (i : Nat) : List AV := xTF (.sl zl l.length (evs l)) (.bool false) (.sl false F.length (nds F)) (.ptr m 0) v (.int .i64 (i : Nat))
set_option maxHeartbeats 4000000 in
theorem xKc {G : Heap} {ws : List (List Nat)} {h i : Nat} (hm : Mo false F m sb G ws h) (h0 : 0 < F.length) (hl : l.length ≤ 9223372036854775807) (hlt : i < l.length) (h5 : i < 5) (hb : xIy (shE (l.getD i ev0)) = false) :
  ∃ G',L.loop xE4 xQ5 ⟨F5 l zl F m v i,G⟩ = L.loop xE4 xQ5 ⟨F5 l zl F m v (i + 1),G'⟩ ∧ Mo false F m sb G' ws h ∧ Kp G.length G G' := by
 have lm := xA7 hm.gm
 have lb := xA7 hm.gb
 have hltI : ((i : Nat) : Int) < (l.length : Nat) := by omega
 have h5I : ((i : Nat) : Int) < 5 := by omega
 have hdl : (l.drop i).length = l.length - i := by simp
 have h21 := xOs (l := l.drop i) (z := zl) (by omega)
 have hg : (l.drop i).getD 0 ev0 = l.getD i ev0 := by rw [List.getD_eq_getElem?_getD,List.getElem?_drop,List.getD_eq_getElem?_getD,Nat.add_zero]
 rw [hg,hdl] at h21
 have hbd : xBa l.length (some (.int .i64 (i : Nat))) none none = some (i,l.length) := by
  rw [xHC (Int.natCast_nonneg _) (by omega)]; rfl
 have hdr : List.take ((l.length - i) * 2) (List.drop (i * 2) (evs l)) = evs (l.drop i) := by
  rw [xK2 (by omega),← hdl,xLc]
 generalize shE (l.getD i ev0) = e at *
 have hm1 : Mo false F m sb (G ++ [.cells false false (evC e)]) ws h := ⟨by rw [xAI lm]; exact hm.gm,by rw [xAI lb]; exact hm.gb,hm.ne,hm.rw,hm.h0⟩
 obtain ⟨G1,e1,k1⟩ := xF1 hm1 h0 hb
 refine ⟨G1,?_,⟨by rw [k1.2 m (by simp; omega)]; exact hm1.gm,by rw [k1.2 sb (by simp; omega)]; exact hm1.gb,hm.ne,hm.rw,hm.h0⟩,(Kp.app _ _).trans (k1.low (by simp))⟩
 have hnv : xA3 e.z e.args = .sl e.z e.args.length (xAE e.args) := rfl
 unfold evA at e1
 unfold evC at e1 h21
 rw [hnv] at e1 h21
 rw [xQ6]
 simp (maxSteps := 30000000) (disch := first | assumption | omega | (simp only [WZ,AV.isCell] <;> omega) | rfl | decide) only [xME,WB,hltI,↓reduceIte,h5I,hbd,hdr,h21,xAy,xAl,Nat.reduceMul,AV.cells,AV.isCell,Nat.reduceAdd,xBD,xBX,e1,Int.reduceEq,xOb]
end
section
variable {F : List Nd} {l : List Ev} {zl zs : Bool} {m sb : Nat}
set_option maxHeartbeats 4000000 in
theorem xOo {G : Heap} {ws : List (List Nat)} {h i : Nat} (hm : Mo false F m sb G ws h) (h0 : 0 < F.length) (hlen : F.length ≤ 64) (hV : ∀ j,j < F.length → Vn j (F.getD j nd0)) (hl : l.length ≤ 9223372036854775807) (hlt : i < l.length) (h5 : i < 5) (hb : xIy (shE (l.getD i ev0)) = true) :
  ∃ G',L.loop xE4 xQ5 ⟨F5 l zl F m (.sl zs (64 * ws.length + 1) (bs (h :: ws.flatten))) i,G⟩ = L.loop xE4 xQ5 ⟨F5 l zl F m (.sl false (64 * ws.length + 1) (bs (1 :: (xAM (shE (l.getD i ev0)) F [] ws).2.flatten))) (i + 1),G'⟩ ∧
   Mo false F m sb G' (xAM (shE (l.getD i ev0)) F [] ws).2 1 := by
 have lm := xA7 hm.gm
 have lb := xA7 hm.gb
 have hltI : ((i : Nat) : Int) < (l.length : Nat) := by omega
 have h5I : ((i : Nat) : Int) < 5 := by omega
 have hdl : (l.drop i).length = l.length - i := by simp
 have h21 := xOs (l := l.drop i) (z := zl) (by omega)
 have hg : (l.drop i).getD 0 ev0 = l.getD i ev0 := by rw [List.getD_eq_getElem?_getD,List.getElem?_drop,List.getD_eq_getElem?_getD,Nat.add_zero]
 rw [hg,hdl] at h21
 have hbd : xBa l.length (some (.int .i64 (i : Nat))) none none = some (i,l.length) := by
  rw [xHC (Int.natCast_nonneg _) (by omega)]; rfl
 have hdr : List.take ((l.length - i) * 2) (List.drop (i * 2) (evs l)) = evs (l.drop i) := by
  rw [xK2 (by omega),← hdl,xLc]
 generalize shE (l.getD i ev0) = e at *
 have hm1 : Mo false F m sb (G ++ [.cells false false (evC e)]) ws h := ⟨by rw [xAI lm]; exact hm.gm,by rw [xAI lb]; exact hm.gb,hm.ne,hm.rw,hm.h0⟩
 obtain ⟨G2,e1,m2,k2⟩ := xFh hm1 h0 (by omega) hV hb
 change L.icall (.func 22 []) [.ptr m 0,evA e] _ = some (.tup [.bool (xF0 F e ws),.int .i64 0],G2) at e1
 have h32 := xUr (e := e) (z := zs) (zf := F.isEmpty) h0 hlen hV hm.rw hm.h0
 have h15 := xIf false F (by omega)
 have ge2 : G2[G.length]? = some (.cells false false (evC e)) := by
  rw [k2.2 G.length (by simp) (by omega),List.getElem?_append_right (Nat.le_refl _),Nat.sub_self]; rfl
 have hrw := xCr e F [] ws
 have hl2 : (xAM e F [] ws).2.length = ws.length := by rw [hrw.1,hm.rw.1]
 have hst : (1 :: (xAM e F [] ws).2.flatten).length = 64 * ws.length + 1 := by rw [List.length_cons,hrw.flen,hl2]
 have hwl := hm.rw.le
 have gm2 := m2.gm
 rw [hl2] at gm2
 have h24 := xNt gm2 m2.gb hst (by omega) (by omega)
 have h25 := yAP (z2 := false) (o1 := G2.length + 1) (a := 1 :: (xAM e F [] ws).2.flatten) (b := 1 :: (xAM e F [] ws).2.flatten) (f1 := false) (z1 := false) (H := G2 ++ [.dead,.cells false false (bs (1 :: (xAM e F [] ws).2.flatten))]) (by rw [List.getElem?_append_right (by omega)]; simp) (by omega)
 rw [decide_eq_true rfl,hst] at h25
 refine ⟨G2 ++ [.dead,.cells false false (bs (1 :: (xAM e F [] ws).2.flatten))],?_,⟨by rw [xAI (xA7 m2.gm)]; exact m2.gm,by rw [xAI (xA7 m2.gb)]; exact m2.gb,m2.ne,m2.rw,m2.h0⟩⟩
 have hnv : xA3 e.z e.args = .sl e.z e.args.length (xAE e.args) := rfl
 unfold evA at e1
 unfold evC at e1 h21 h32 ge2
 rw [hnv] at e1 h21 h32 ge2
 unfold F5
 generalize xF0 F e ws = b at *
 generalize bs (1 :: (xAM e F [] ws).2.flatten) = ST2 at *
 generalize bs (h :: ws.flatten) = ST at *
 rw [xQ6]
 simp (maxSteps := 30000000) (disch := first | assumption | omega | (simp only [WZ,AV.isCell] <;> omega) | rfl | decide) only [xME,WB,hltI,↓reduceIte,h5I,hbd,hdr,h21,xAy,xAl,Nat.reduceMul,AV.cells,AV.isCell,Nat.reduceAdd,xBD,xBX,e1,h15,ge2,h32,xAh,h24,h25,xOb]
end
section
variable {F : List Nd} {l : List Ev} {zl zs : Bool} {m sb : Nat}
set_option maxHeartbeats 4000000 in
theorem xRb {G : Heap} {ws : List (List Nat)} {h i so : Nat} (gso : G[so]? = some (.cells false false (bs (h :: ws.flatten)))) (so1 : so ≠ m) (so2 : so ≠ sb) (hm : Mo false F m sb G ws h) (h0 : 0 < F.length) (hlen : F.length ≤ 64) (hV : ∀ j,j < F.length → Vn j (F.getD j nd0)) (hl : l.length ≤ 9223372036854775807) (hlt : i < l.length) (h5 : i < 5) (hb : xIy (shE (l.getD i ev0)) = true) :
  ∃ G',L.loop xE4 xQ5 ⟨F5 l zl F m (.own false so 0 (64 * ws.length + 1) 1) i,G⟩ = L.loop xE4 xQ5 ⟨F5 l zl F m (.sl false (64 * ws.length + 1) (bs (1 :: (xAM (shE (l.getD i ev0)) F [] ws).2.flatten))) (i + 1),G'⟩ ∧
   Mo false F m sb G' (xAM (shE (l.getD i ev0)) F [] ws).2 1 := by
 have lm := xA7 hm.gm
 have lb := xA7 hm.gb
 have hltI : ((i : Nat) : Int) < (l.length : Nat) := by omega
 have h5I : ((i : Nat) : Int) < 5 := by omega
 have hdl : (l.drop i).length = l.length - i := by simp
 have h21 := xOs (l := l.drop i) (z := zl) (by omega)
 have hg : (l.drop i).getD 0 ev0 = l.getD i ev0 := by rw [List.getD_eq_getElem?_getD,List.getElem?_drop,List.getD_eq_getElem?_getD,Nat.add_zero]
 rw [hg,hdl] at h21
 have hbd : xBa l.length (some (.int .i64 (i : Nat))) none none = some (i,l.length) := by
  rw [xHC (Int.natCast_nonneg _) (by omega)]; rfl
 have hdr : List.take ((l.length - i) * 2) (List.drop (i * 2) (evs l)) = evs (l.drop i) := by
  rw [xK2 (by omega),← hdl,xLc]
 generalize shE (l.getD i ev0) = e at *
 have hm1 : Mo false F m sb (G ++ [.cells false false (evC e)]) ws h := ⟨by rw [xAI lm]; exact hm.gm,by rw [xAI lb]; exact hm.gb,hm.ne,hm.rw,hm.h0⟩
 obtain ⟨G2,e1,m2,k2⟩ := xFh hm1 h0 (by omega) hV hb
 change L.icall (.func 22 []) [.ptr m 0,evA e] _ = some (.tup [.bool (xF0 F e ws),.int .i64 0],G2) at e1
 have h32 := xUr (e := e) (z := false) (zf := F.isEmpty) h0 hlen hV hm.rw hm.h0
 have h15 := xIf false F (by omega)
 have lso := xA7 gso
 have gso2 : G2[so]? = some (.cells false false (bs (h :: ws.flatten))) := by rw [k2.2 so (by simp; omega) so2,xAI lso]; exact gso
 have hbl0 := xAz (h :: ws.flatten)
 have hbt0 := xCj (h :: ws.flatten)
 have hfr0 := fun d H => xNj d H (h :: ws.flatten)
 have hbo0 : ∀ (d : Nat) (H : Heap),(bs (h :: ws.flatten)).flatMap (bor d H) = [] := fun d H => by simp only [yAJ]
 have hst0 : (h :: ws.flatten).length = 64 * ws.length + 1 := by rw [List.length_cons,hm.rw.flen]
 rw [hst0] at hbl0 hbt0
 have ge2 : (List.modify G2 so xCy)[G.length]? = some (.cells false false (evC e)) := by
  rw [yCX (by omega),k2.2 G.length (by simp) (by omega),List.getElem?_append_right (Nat.le_refl _),Nat.sub_self]; rfl
 have hrw := xCr e F [] ws
 have hl2 : (xAM e F [] ws).2.length = ws.length := by rw [hrw.1,hm.rw.1]
 have hst : (1 :: (xAM e F [] ws).2.flatten).length = 64 * ws.length + 1 := by rw [List.length_cons,hrw.flen,hl2]
 have hwl := hm.rw.le
 have m2 : Mo false F m sb (List.modify G2 so xCy) (xAM e F [] ws).2 1 := ⟨by rw [yCX so1]; exact m2.gm,by rw [yCX so2]; exact m2.gb,m2.ne,m2.rw,m2.h0⟩
 have hml := modify_length' G2 so xCy
 have gm2 := m2.gm
 rw [hl2] at gm2
 have h24 := xNt gm2 m2.gb hst (by omega) (by omega)
 have h25 := yAP (z2 := false) (o1 := (List.modify G2 so xCy).length + 1) (a := 1 :: (xAM e F [] ws).2.flatten) (b := 1 :: (xAM e F [] ws).2.flatten) (f1 := false) (z1 := false) (H := List.modify G2 so xCy ++ [.dead,.cells false false (bs (1 :: (xAM e F [] ws).2.flatten))]) (by rw [List.getElem?_append_right (by omega)]; simp) (by omega)
 rw [decide_eq_true rfl,hst] at h25
 refine ⟨List.modify G2 so xCy ++ [.dead,.cells false false (bs (1 :: (xAM e F [] ws).2.flatten))],?_,⟨by rw [xAI (xA7 m2.gm)]; exact m2.gm,by rw [xAI (xA7 m2.gb)]; exact m2.gb,m2.ne,m2.rw,m2.h0⟩⟩
 have hnv : xA3 e.z e.args = .sl e.z e.args.length (xAE e.args) := rfl
 unfold evA at e1
 unfold evC at e1 h21 h32 ge2
 rw [hnv] at e1 h21 h32 ge2
 unfold F5
 rw [hml] at h24 h25
 generalize xF0 F e ws = b at *
 generalize bs (1 :: (xAM e F [] ws).2.flatten) = ST2 at *
 generalize bs (h :: ws.flatten) = ST at *
 rw [xQ6]
 simp (maxSteps := 30000000) (disch := first | assumption | omega | (simp only [WZ,AV.isCell] <;> omega) | rfl | decide) only [xME,WB,hltI,↓reduceIte,h5I,hbd,hdr,h21,xAy,xAl,Nat.reduceMul,AV.cells,AV.isCell,Nat.reduceAdd,xBD,xBX,e1,xHG,gso2,hbt0,hbo0,xBh,hfr0,h15,ge2,h32,xAh,h24,h25,xOb]
end
section
variable {F : List Nd} {l : List Ev} {zl : Bool} {m : Nat}
theorem yDK (G : Heap) (v : AV) : L.loop xE4 xQ5 ⟨F5 l zl F m v (min l.length 5),G⟩ = some (.exit 0,⟨F5 l zl F m v (min l.length 5),G⟩) := by
 by_cases c : l.length < 5
 ·rw [Nat.min_eq_left (by omega),xQ6]
  simp (disch := omega) only [xME,WB,↓reduceIte,xOb]
 ·rw [Nat.min_eq_right (by omega)]
  by_cases c2 : l.length = 5
  ·have c3 : ¬ ((5 : Int) < (l.length : Nat)) := by omega
   rw [xQ6]
   simp (disch := omega) only [xME,WB,c3,↓reduceIte,xOb]
   rfl
  ·have c3 : ((5 : Int) < (l.length : Nat)) := by omega
   rw [xQ6]
   simp (disch := omega) only [xME,WB,c3,↓reduceIte,xOb]
   rfl
theorem xRc (h0 : 0 < F.length) (hlen : F.length ≤ 64) (hV : ∀ j,j < F.length → Vn j (F.getD j nd0)) (hl : l.length ≤ 9223372036854775807) : ∀ (k i : Nat),i + k = min l.length 5 → ∀ (G : Heap) (sb h : Nat) (ws : List (List Nat)) (zs : Bool),Mo false F m sb G ws h →
  ∃ G' v',L.loop xE4 xQ5 ⟨F5 l zl F m (.sl zs (64 * ws.length + 1) (bs (h :: ws.flatten))) i,G⟩ = some (.exit 0,⟨F5 l zl F m v' (min l.length 5),G'⟩) := by
 intro k
 induction k with
 | zero =>
  intro i hi G sb h ws zs hm
  obtain rfl : i = min l.length 5 := by omega
  exact ⟨G,_,yDK G _⟩
 | succ k ih =>
  intro i hi G sb h ws zs hm
  cases hb : xIy (shE (l.getD i ev0)) with
  | false =>
   obtain ⟨G1,e1,m1,-⟩ := xKc (zl := zl) (v := .sl zs (64 * ws.length + 1) (bs (h :: ws.flatten))) hm h0 hl (show i < l.length by omega) (by omega) hb
   obtain ⟨G2,v2,e2⟩ := ih (i + 1) (by omega) G1 sb h ws zs m1
   exact ⟨G2,v2,e1.trans e2⟩
  | true =>
   obtain ⟨G1,e1,m1⟩ := xOo (zl := zl) (zs := zs) hm h0 hlen hV hl (show i < l.length by omega) (by omega) hb
   have hl2 : (xAM (shE (l.getD i ev0)) F [] ws).2.length = ws.length := by rw [m1.rw.1,hm.rw.1]
   obtain ⟨G2,v2,e2⟩ := ih (i + 1) (by omega) G1 sb 1 _ false m1
   rw [hl2] at e2
   exact ⟨G2,v2,e1.trans e2⟩
theorem xUs (h0 : 0 < F.length) (hlen : F.length ≤ 64) (hV : ∀ j,j < F.length → Vn j (F.getD j nd0)) (hl : l.length ≤ 9223372036854775807) {sb so h : Nat} {ws : List (List Nat)} (so1 : so ≠ m) (so2 : so ≠ sb) : ∀ (k i : Nat),i + k = min l.length 5 → ∀ (G : Heap),Mo false F m sb G ws h → G[so]? = some (.cells false false (bs (h :: ws.flatten))) →
  ∃ G' v',L.loop xE4 xQ5 ⟨F5 l zl F m (.own false so 0 (64 * ws.length + 1) 1) i,G⟩ = some (.exit 0,⟨F5 l zl F m v' (min l.length 5),G'⟩) := by
 intro k
 induction k with
 | zero =>
  intro i hi G hm gso
  obtain rfl : i = min l.length 5 := by omega
  exact ⟨G,_,yDK G _⟩
 | succ k ih =>
  intro i hi G hm gso
  cases hb : xIy (shE (l.getD i ev0)) with
  | false =>
   obtain ⟨G1,e1,m1,k1⟩ := xKc (zl := zl) (v := .own false so 0 (64 * ws.length + 1) 1) hm h0 hl (show i < l.length by omega) (by omega) hb
   obtain ⟨G2,v2,e2⟩ := ih (i + 1) (by omega) G1 m1 (by rw [k1.2 so (xA7 gso)]; exact gso)
   exact ⟨G2,v2,e1.trans e2⟩
  | true =>
   obtain ⟨G1,e1,m1⟩ := xRb (zl := zl) gso so1 so2 hm h0 hlen hV hl (show i < l.length by omega) (by omega) hb
   have hl2 : (xAM (shE (l.getD i ev0)) F [] ws).2.length = ws.length := by rw [m1.rw.1,hm.rw.1]
   obtain ⟨G2,v2,e2⟩ := xRc (zl := zl) h0 hlen hV hl k (i + 1) (by omega) G1 sb 1 _ false m1
   rw [hl2] at e2
   exact ⟨G2,v2,e1.trans e2⟩
end
section
variable {o : Nat} {G : Heap} {fs : List Nd} {z : Bool}
set_option maxHeartbeats 4000000 in
theorem xNl (hf : fs.length < 1000) : L.icall (.func 30 []) [.sl z fs.length (nds fs),.own true o 0 0 1] G = some (.int .i64 (ldc fs [] : Nat),G) := by
 have h20 := xUx z fs hf
 unfold ldc
 by_cases hc : chk fs = 0
 ·obtain ⟨h0,hlen,-⟩ := xIx hc
  rw [if_pos hc,if_neg (by simp)]
  rw [hc] at h20
  have h20 : L.pcall 20 [.sl z fs.length (nds fs)] = some (.int .i64 0) := h20
  have e1 := xXx (z := z) (fs := fs) (b := .own true o 0 0 1) (G := G) hlen fs.length 0 (by omega) 0 (by simp [nT])
  have e1' : L.loop xHS xQ8 ⟨xJF (.sl z fs.length (nds fs)) (.own true o 0 0 1) (.int .i64 0) (.int .i64 0),G⟩ = _ := e1
  have hnl := xRt fs
  generalize hcn : nT fs = c at *
  have hmul : (64 : Int) * ((c : Nat) : Int) = ((64 * c : Nat) : Int) := by omega
  have hadd : (1 : Int) + ((64 * c : Nat) : Int) = ((64 * c + 1 : Nat) : Int) := by omega
  have d1 : ¬ (0 : Int) = ((64 * c + 1 : Nat) : Int) := by omega
  have d2 : ¬ (0 : Int) = ((1 + 64 * c : Nat) : Int) := by omega
  rw [xYC,a30,xAm]
  simp (disch := omega) only [WB,Nat.reduceAdd,Nat.reduceSub,h20,xAy,xAl,↓reduceIte,xGl,e1',hmul,hadd,d1]
  try rfl
 ·rw [if_neg hc]
  have hci : ¬ ((chk fs : Nat) : Int) = 0 := by omega
  generalize chk fs = c at *
  rw [xYC,a30,xAm]
  simp (disch := omega) only [WB,Nat.reduceAdd,Nat.reduceSub,h20,xAy,xAl,↓reduceIte,hci]
set_option maxHeartbeats 4000000 in
theorem xOp (hw : ∀ j,j < fs.length → WN (fs.getD j nd0)) (fz : Bool) (hfz : fs.length ≠ 0 → fz = false) (hf : fs.length < 1000) :
  ∃ G',L.icall (.func 29 []) [.sl fz fs.length (nds fs),.own true o 0 0 1] G = some (.tup [.nilp,.int .i64 (ldc fs [] : Nat)],G') ∧ Kp G.length G G' := by
 unfold ldc
 by_cases hc : chk fs = 0
 ·obtain ⟨h0,hlen,-⟩ := xIx hc
  obtain rfl := hfz (by omega)
  rw [if_pos hc,if_neg (by simp)]
  obtain ⟨G1,m,sb,e1,m1,k1,b1,b2⟩ := xRu hc hw G
  obtain ⟨gm,gb1,ne,-,-⟩ := m1
  have hzl : (zr (nT fs)).length = nT fs := by simp [zr]
  rw [hzl] at gm
  have hn' : ¬ (0 : Int) = ((64 * nT fs + 1 : Nat) : Int) := by omega
  refine ⟨G1,?_,k1⟩
  rw [xXn,a29,xAm]
  simp (maxSteps := 30000000) (disch := first | assumption | omega | (simp only [WZ,AV.isCell] <;> omega) | rfl | decide) only [WB,Nat.reduceAdd,Nat.reduceSub,e1,↓reduceIte,gm,hn']
  try rfl
 ·rw [if_neg hc]
  have e1 := xNu fz fs hf hc G
  have hci : ¬ ((chk fs : Nat) : Int) = 0 := by omega
  refine ⟨G,?_,.refl _ _⟩
  generalize chk fs = c at *
  rw [xXn,a29,xAm]
  simp (maxSteps := 30000000) (disch := first | assumption | omega | (simp only [WZ,AV.isCell] <;> omega) | rfl | decide) only [WB,Nat.reduceAdd,Nat.reduceSub,e1,hci,↓reduceIte]
end
end Go.Abs.Events
