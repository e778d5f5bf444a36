/- make and append. -/
import Derived.Test.YtijmhicopfphnaaDoorAbsOp4
namespace Go.Abs
set_option linter.unusedVariables false
set_option linter.unusedSimpArgs false
open Go.RowKit
section
variable {chk : Code → ACode → Bool} {P : Program} {o : Oper} {a : Act} {im : Im} {io : Io} {H H' : Heap} {w : World} {F : List AV} {R : Rec} {v : AV}
theorem xK4 {t n : Nat} {i : TypeInfo} (hi : P.info? t = some i) (h : bytesOf P t = some n) : i.bytes = n := by
 simpa [bytesOf,hi] using h
theorem xLS {t : Nat} {i : TypeInfo} {z : Value} (hi : P.info? t = some i) (h : xK6 P t = some z) : i.zero = some z := by
 simpa [xK6,hi] using h
theorem xQT {fz : Bool} {z : List AV} {bytes : Nat} {l c : Arg} (hc : xAI P o (.mkslice fz z bytes l c) = true) (hs : Sim chk im io H w) (hF : FRep im io F a) (h : xAc R F H (.mkslice fz z bytes l c) = some (v,H')) :
  Good chk P o a im io w v H' := by
 simp only [xAI] at hc
 simp only [xAc] at h
 split at hc
 case h_2 => cases hc
 rename_i t l' c' ho
 split at hc
 case h_2 => cases hc
 rename_i e he
 split at hc
 case h_2 => cases hc
 rename_i zv hz
 simp only [Bool.and_eq_true,beq_iff_eq] at hc
 obtain ⟨⟨⟨⟨h1,h2⟩,h3⟩,h4⟩,h5⟩ := hc
 have hu := xGN he
 obtain ⟨hz1,hz2⟩ := xJt (im := im) (io := io) h1
 obtain ⟨i,hi,hsz⟩ := xMd h2
 have hby := xK4 hi h3
 have hzo := xLS hi hz
 have r1 := xAj h4 hF
 have r2 := xAj h5 hF
 split at h
 case h_2 => cases h
 rename_i kl ln kc cn e1 e2
 split at h
 case isFalse => cases h
 rename_i hb
 obtain ⟨b1,b2,b3,b4,_⟩ := hb
 unfold xFr at b3 b4
 rw [e1] at r1
 rw [e2] at r2
 generalize hv1 : a.eval l' = cv1 at r1
 generalize hv2 : a.eval c' = cv2 at r2
 cases r1
 cases r2
 have hrun := run_make (P := P) w t e i zv hu hi hzo kl kc ln cn b1 b2 (by rw [hby,Int.mul_comm]; omega) (by omega)
 have hpos : cn.toNat * i.size = cn.toNat * z.length := by rw [hsz]
 have hln : ln.toNat ≤ cn.toNat := by omega
 obtain ⟨im',io',s1,s2,s3⟩ := xNl (cap := cn.toNat) hs (Pushed.alloc w (.cells (madeCells zv.cells (cn.toNat * z.length)) e)) rfl (xK5 hz1 ln.toNat) (fun c hcm => hz2 c (xLp z _ c hcm))
  (fun i v hv => xIU hz1 ln.toNat cn.toNat hln i v hv) hln (by rw [size_madeCells]; exact Nat.le_refl _) h
 exact ⟨im',io',_,_,.inl (by simp [execOp,ho,hv1,hv2,hrun,hpos]),s1,s2,s3⟩
theorem xTb {t' e' : TypeId} (hu : P.underlying t' = some (.slice e')) {es m cap : Nat} {ad : Option Addr} {vs : List Value} {ys : List AV} (hl : vs.length = m * es) (hr : Reps im io ys vs) (hk : ∀ c ∈ ys,AV.isCell c = true)
  (h : vs = [] ∨ ∃ b off,ad = some ⟨b,off,none⟩ ∧ yCD w b off vs) : Src P es t' (.slice ad m cap) m vs w :=
 ⟨.inl ⟨e',hu⟩,fun _ => rfl,xNQ hl h w rfl,xNQ hl h w.drew rfl,hl,xNm hr hk⟩
theorem append_nil {fz : Bool} {t t' e e' ty : TypeId} {i : TypeInfo} {z : Value} {es bytes m cap : Nat} {ad : Option Addr} {vs : List Value} {ys : List AV} (hu : P.underlying t = some (.slice e)) (hu' : P.underlying t' = some (.slice e'))
  (hi : P.info? e = some i) (hz : i.zero = some z) (hes : i.size = es) (hby : i.bytes = bytes) (hpos : 0 < es) (hzs : z.cells.size = es) (hs : Sim chk im io H w)
  (hl : vs.length = m * es) (hr : Reps im io ys vs) (hk : ∀ c ∈ ys,AV.isCell c = true) (hsrc : vs = [] ∨ ∃ b off,ad = some ⟨b,off,none⟩ ∧ yCD w b off vs)
  (hroom : m * bytes ≤ xFr) (hm : m ≤ xFr) (h : xLr fz (m == 0) m es ys H = some (v,H')) :
  ∃ im' io' w' x,(Builtin.append_ #[t,t'] ty #[.slice none 0 0,.slice ad m cap]).run P w = .ok x w' ∧ Step im io w im' io' w' ∧ Sim chk im' io' H' w' ∧ Rep im' io' v x := by
 unfold xFr at hroom hm
 by_cases h0 : m = 0
 ·subst h0
  have hv0 : vs = [] := by simpa using hl
  have hy0 : ys = [] := by have := hr.1; rw [hv0] at this; exact List.length_eq_zero_iff.1 this.symm
  subst hy0
  obtain ⟨im',io',s1,s2,s3⟩ := xTY hs (by simpa using h)
  refine ⟨im',io',w,.slice none 0 0,?_,s1,s2,s3⟩
  have hf := xNQ (P := P) (cap := cap) hl hsrc w rfl
  simp [Builtin.append_,run_underlying hu,run_underlying hu',sizeOf,typeInfo,hi,Builtin.lenOf,hes,hf]
 ·have hmz : (m == 0) = false := by simpa using h0
  rw [hmz] at h
  have hrun := run_append_grow_src (P := P) w t t' ty e i z hu hi hz none 0 0 [] (by rfl) (.slice ad m cap) m vs (by rw [hes]; exact xTb hu' hl hr hk hsrc) (by omega) (by omega)
   (growslice_fits (by omega) (by rw [hby,Nat.zero_add]; omega))
  have hge : 0 + m ≤ grownCap w (0 + m) 0 e := grownCap_ge w (0 + m) 0 e
  obtain ⟨im',io',s1,s2,s3⟩ := xNl (cap := grownCap w (0 + m) 0 e) hs (Pushed.drew w (.cells (([] ++ vs).toArray ++ Builtin.zeroCells z.cells (grownCap w (0 + m) 0 e - (0 + m))) e)) rfl hr hk
   (fun i v hv => by
    have hlt : i < vs.length := (List.getElem?_eq_some_iff.1 hv).1
    rw [Array.getElem?_append_left (by simpa using hlt)]
    simpa using hv)
   (by omega) (by
    have hzc : (Builtin.zeroCells z.cells (grownCap w (0 + m) 0 e - (0 + m))).size = (grownCap w (0 + m) 0 e - (0 + m)) * es := by rw [size_zeroCells,hzs]
    simp only [List.nil_append,Array.size_append,List.size_toArray,hzc,hl]
    rw [← Nat.add_mul]
    exact Nat.mul_le_mul_right _ (by omega)) h
  refine ⟨im',io',_,_,hrun,s1,s2,?_⟩
  rw [Nat.zero_add] at s3 ⊢
  exact s3
theorem xWx {b : Nat} {c c' : Array Value} {t : TypeId} {cs' : List AV} {vs' : List Value} {id : Nat} (hs : Sim chk im io H w) (hio : io id = some (b,c.size)) (him : im b = none) {fr : Nat × Nat} (hfr : yBr c.size fr) (hc : w.heap[b]? = some (.cells c t fr))
  (hfree : ∀ (j : Nat) (bj : Blk) (sj : Nat),H[j]? = some bj → bj.live = true → io j = some (b,sj) → False) (hsz : c'.size = c.size) (hr : Reps im io cs' vs') (hk : ∀ c ∈ cs',AV.isCell c = true)
  (hc' : ∀ (i : Nat) (v : Value),vs'[i]? = some v → c'[i]? = some v) :
  Sim chk im (upd io H.length (b,c.size)) (H ++ [.cells false false cs']) (w.setRow b c') ∧ Step im io w im (upd io H.length (b,c.size)) (w.setRow b c') := by
 have hn : io H.length = none := hs.fresh _ (Nat.le_refl _)
 have hle : IoLe io (upd io H.length (b,c.size)) := fun i x hi => by
  rw [xDU]
  ·exact hi
  ·rintro rfl; rw [hn] at hi; cases hi
 have hown : ∀ b',Own (upd io H.length (b,c.size)) b' → Own io b' := fun b' ⟨i,sz,hi⟩ => by
  by_cases e : i = H.length
  ·subst e; rw [xGm] at hi; cases hi; exact ⟨id,_,hio⟩
  ·rw [xDU _ _ e] at hi; exact ⟨i,sz,hi⟩
 have hnew := setRow_heap w b c c' t _ hc
 refine ⟨⟨fun i hi => ?_,fun i bi hH => ?_,fun i j bi bj b' si sj hi hj li lj hbi hbj => ?_,fun b' o' hb' => ?_,fun b' ho => by rw [xKr]; exact hs.inb b' (hown b' ho),hs.glob⟩,
  ⟨.refl _,hle,rfl,rfl,rfl,by rw [xKr]; exact Nat.le_refl _,fun b' hb' ho => ?_,fun b' hb' => .inl (hown b' hb'),fun _ _ h => .inl h⟩⟩
 ·simp at hi
  rw [xDU _ _ (by omega)]; exact hs.fresh i (by omega)
 ·by_cases e : i < H.length
  ·rw [List.getElem?_append_left e] at hH
   have hold := hs.blk i bi hH
   refine hold.mono (.refl _) hle (fun e' => by rw [xDU _ _ (by omega)]; exact e') (fun b' sz hio' hnd => ⟨xIc w b _ ?_,fun e => e⟩)
   rintro rfl
   cases bi with
   | dead => exact hnd rfl
   | mp es => exact hfree i _ _ hH rfl hio'
   | loop st pend F ps asg body => exact hfree i _ _ hH rfl hio'
   | cells fz' z' cs'' =>
    cases fz' with
    | false => exact hfree i _ _ hH rfl hio'
    | true =>
     obtain ⟨_,c2,t2,_,_,_,_,g3,_⟩ := xH3 hold hio'
     rw [him] at g3; cases g3
  ·have e' : i = H.length := by
    have := (List.getElem?_eq_some_iff.1 hH).1
    simp at this; omega
   subst e'
   simp at hH
   subst hH
   refine .inr ⟨rfl,b,c',t,fr,by rw [hsz]; exact hfr,by rw [hsz]; exact xGm _ _ _,hnew,him,fun k cv hcv => ?_⟩
   obtain ⟨v,hv,hrv⟩ := hr.get hcv
   exact ⟨v,hc' k v hv,hrv.mono (.refl _) hle,hk _ (List.mem_of_getElem? hcv)⟩
 ·have key : ∀ (k : Nat) (bk : Blk) (sk : Nat),(H ++ [Blk.cells false false cs'])[k]? = some bk → upd io H.length (b,c.size) k = some (b',sk) → (H[k]? = some bk ∧ io k = some (b',sk)) ∨ (k = H.length ∧ b' = b) := by
   intro k bk sk hk' hbk
   by_cases e : k < H.length
   ·rw [List.getElem?_append_left e] at hk'
    rw [xDU _ _ (by omega)] at hbk
    exact .inl ⟨hk',hbk⟩
   ·have e' : k = H.length := by
     have := (List.getElem?_eq_some_iff.1 hk').1
     simp at this; omega
    subst e'
    rw [xGm] at hbk; cases hbk
    exact .inr ⟨rfl,rfl⟩
  rcases key i bi si hi hbi with ⟨h1,h2⟩ | ⟨h1,h2⟩ <;> rcases key j bj sj hj hbj with ⟨g1,g2⟩ | ⟨g1,g2⟩
  ·exact hs.inj i j bi bj b' si sj h1 g1 li lj h2 g2
  ·subst g2; exact (hfree i bi si h1 li h2).elim
  ·subst h2; exact (hfree j bj sj g1 lj g2).elim
  ·omega
 ·have hne : b' ≠ b := by rintro rfl; rw [him] at hb'; cases hb'
  rw [xIc w b _ hne]; exact hs.imw _ _ hb'
 ·have hne : b' ≠ b := by rintro rfl; exact ho ⟨id,_,hio⟩
  exact xIc w b _ hne
theorem xKB {cs : List AV} {c : Array Value} (h : Reps im io cs (c.toList.take cs.length)) {n : Nat} (hn : n ≤ cs.length) : Reps im io (cs.take n) (c.toList.take n) := by
 have := h.take n
 rwa [List.take_take,Nat.min_eq_left hn] at this
theorem xTc {fz : Bool} {es bytes : Nat} {x y : Arg} (hc : xAI P o (.append fz es bytes x y) = true) (hs : Sim chk im io H w) (hF : FRep im io F a) (h : xAc R F H (.append fz es bytes x y) = some (v,H')) : Good chk P o a im io w v H' := by
 simp only [xAI] at hc
 simp only [xAc] at h
 split at hc
 case h_2 => cases hc
 rename_i xs ts ho
 split at hc
 case h_2 => cases hc
 rename_i x' y' t t' hxs hts
 have hxs' : xs = #[x',y'] := by rw [← Array.toList_inj]; simpa using hxs
 have hts' : ts = #[t,t'] := by rw [← Array.toList_inj]; simpa using hts
 subst hxs'; subst hts'
 simp only [Bool.and_eq_true,Option.isSome_iff_exists] at hc
 obtain ⟨⟨⟨hx,hy⟩,⟨e',he'⟩⟩,hc⟩ := hc
 split at hc
 case h_2 => cases hc
 rename_i e he
 simp only [Bool.and_eq_true,beq_iff_eq,decide_eq_true_eq] at hc
 obtain ⟨⟨⟨h1,h2⟩,hpos⟩,hzz⟩ := hc
 split at hzz
 case h_2 => cases hzz
 rename_i z hz
 have hzs : z.cells.size = es := by simpa using hzz
 have hu := xGN he
 have hu' := xGN he'
 obtain ⟨i,hi,hsz⟩ := xMd h1
 have hby := xK4 hi h2
 have hzo := xLS hi hz
 have rx := xAj hx hF
 have ry := xAj hy hF
 split at h
 case h_1 => cases h
 rename_i m ys hsrc
 obtain ⟨ad,cap,vs,hvy,hl,hr,hk,hlies,_⟩ := xWI hs hsrc ry
 have fin : ∀ {xv : Value} {im' io' w'} {x0 : Value},a.eval x' = x0 → (Builtin.append_ #[t,t'] o.type #[x0,.slice ad m cap]).run P w = .ok xv w' → Step im io w im' io' w' → Sim chk im' io' H' w' → Rep im' io' v xv → Good chk P o a im io w v H' := by
  intro xv im' io' w' x0 hx0 hrun s1 s2 s3
  exact ⟨im',io',w',xv,.inl (by simp [execOp,ho,resolve,invoke,builtin,hx0,hvy,hrun]),s1,s2,s3⟩
 have nilcase : ∀ {fz' : Bool},a.eval x' = .slice none 0 0 → m * bytes ≤ xFr → m ≤ xFr → xLr fz' (m == 0) m es ys H = some (v,H') → Good chk P o a im io w v H' := by
  intro fz' hx0 hb1 hb2 hnew
  obtain ⟨im',io',w',xv,q1,q2,q3,q4⟩ := append_nil (cap := cap) (ty := o.type) hu hu' hi hzo hsz hby hpos hzs hs hl hr hk hlies hb1 hb2 hnew
  exact fin hx0 q1 q2 q3 q4
 split at h
 ·rename_i n0 cs0 e1
  split at h
  case isFalse => cases h
  rename_i hb
  rw [e1] at rx
  generalize hv : a.eval x' = cv at rx
  cases rx
  exact nilcase hv hb.1 hb.2 h
 ·rename_i zf id off n es' e1
  split at h
  case h_2 => cases h
  rename_i z' cs hH
  split at h
  case isFalse => cases h
  rename_i hb
  obtain ⟨rfl,rfl,hle,hb1,hb2⟩ := hb
  cases h
  rw [e1] at rx
  generalize hv : a.eval x' = cv at rx
  unfold xFr at hb1 hb2
  cases rx with
  | own0 hne => exact absurd rfl hne
  | ownz =>
   have hkill := hs.kill id
   have hnew : xLr false (m == 0) m es' ys (H.set id .dead) = some (.own (m == 0) H.length 0 m es',H.set id .dead ++ [.cells false (m == 0) ys]) := by simp [xLr]
   obtain ⟨im',io',w',xv,q1,q2,q3,q4⟩ := append_nil (cap := cap) (ty := o.type) hu hu' hi hzo hsz hby hpos hzs hkill hl hr hk hlies (by unfold xFr; rw [Nat.zero_add] at hb1; exact hb1) (by unfold xFr; omega) hnew
   have e3 : (true && m == 0) = (m == 0) := rfl
   simp only [Nat.zero_mul,List.take_zero,List.nil_append,Nat.zero_add,e3] at fin ⊢
   exact fin hv q1 q2 q3 q4
  | own hio hcap hszz =>
   rename_i b sz capx
   obtain ⟨hz',c,tt,fr,hfr,g1,g2,g3,g4,g5,g6⟩ := xH3 (hs.blk id _ hH) hio
   have him : im b = none := g3
   have e3 : (false && m == 0) = false := rfl
   rw [e3]
   rw [e3] at fin
   have hkill := hs.kill id
   have hpre := xKB g4 hle
   have hrs : Reps im io (cs.take (n * es') ++ ys) (c.toList.take (n * es') ++ vs) := hpre.append hr
   have hks : ∀ c ∈ cs.take (n * es') ++ ys,AV.isCell c = true := fun c hcm => by
    rcases List.mem_append.1 hcm with q | q
    ·exact g6 c (List.mem_of_mem_take q)
    ·exact hk c q
   have hpl : (c.toList.take (n * es')).length = n * es' := by simp; omega
   have hlen2 : (H.set id .dead).length = H.length := by simp
   by_cases hroom : n + m ≤ capx
   ·have hfit : n * es' + vs.length ≤ c.size := by
     rw [hl,← Nat.add_mul]
     have : (n + m) * es' ≤ capx * es' := Nat.mul_le_mul_right _ hroom
     omega
    have hst := xHW (P := P) b (n * es') tt fr vs 0 c w g2 hfr (by omega) (xNm hr hk)
    simp only [Nat.add_zero] at hst
    have S := xTb (P := P) (cap := cap) hu' hl hr hk hlies
    have hrun : (Builtin.append_ #[t,t'] o.type #[.slice (some ⟨b,0,none⟩) n capx,.slice ad m cap]).run P w = .ok (.slice (some ⟨b,0,none⟩) (n + m) capx) (w.setRow b (c.toList.take (n * es') ++ vs ++ c.toList.drop (n * es' + vs.length)).toArray) := by
     simp [Builtin.append_,run_underlying hu,run_underlying hu',sizeOf,typeInfo,hi,S.len,hroom,hsz,S.cells,Addr.add_lit,hst]
    have hsize : ((c.toList.take (n * es') ++ vs ++ c.toList.drop (n * es' + vs.length)).toArray).size = c.size := by
     simp
     omega
    obtain ⟨s1,s2⟩ := xWx hkill (b := b) (c := c) (c' := (c.toList.take (n * es') ++ vs ++ c.toList.drop (n * es' + vs.length)).toArray) (t := tt) (id := id) (by rw [← g1]; exact hio) him hfr g2
     (fun j bj sj hj lj hbj => by
      rw [List.getElem?_set] at hj
      split at hj
      ·split at hj
       ·cases hj; cases lj
       ·cases hj
      ·rename_i hne
       exact hne (hs.inj id j _ bj b _ sj hH hj rfl lj hio hbj)) hsize hrs hks
     (fun k u hu' => by
      have hlt := (List.getElem?_eq_some_iff.1 hu').1
      rw [← Array.getElem?_toList,List.toList_toArray,List.getElem?_append_left hlt]; exact hu')
    rw [hlen2] at s1 s2
    exact fin hv hrun s2 s1 (.own (xGm _ _ _) hroom (by
     have : capx * es' ≤ c.size := by omega
     omega))
   ·have holds : (Builtin.firstCells i.size n (.slice (some ⟨b,0,none⟩) n capx)).run P w.drew = .ok (c.toList.take (n * es')).toArray w.drew := by
     rw [hsz]
     exact run_firstCells_some w.drew es' n ⟨b,0,none⟩ n capx _ hpl (fun j u hj => by
      rw [Addr.add_lit,Nat.zero_add]
      have hlt : j < n * es' := by have := (List.getElem?_eq_some_iff.1 hj).1; omega
      rw [List.getElem?_take_of_lt hlt,Array.getElem?_toList] at hj
      have := xId (w := w) g2 j
      rw [hj] at this
      simpa using this)
    have hrun := run_append_grow_src (P := P) w t t' o.type e i z hu hi hzo (some ⟨b,0,none⟩) n capx (c.toList.take (n * es')) holds (.slice ad m cap) m vs (by rw [hsz]; exact xTb hu' hl hr hk hlies) (by omega) (by omega)
     (growslice_fits (by omega) (by rw [hby]; omega))
    have hge : n + m ≤ grownCap w (n + m) capx e := grownCap_ge w (n + m) capx e
    obtain ⟨s1,s2⟩ := xMe hkill (Pushed.drew w (.cells ((c.toList.take (n * es') ++ vs).toArray ++ Builtin.zeroCells z.cells (grownCap w (n + m) capx e - (n + m))) e)) (.inl rfl) hrs hks
     (fun k u hu' => by
      have hlt := (List.getElem?_eq_some_iff.1 hu').1
      rw [Array.getElem?_append_left (by simpa using hlt)]
      simpa using hu')
    rw [hlen2] at s1 s2
    refine fin hv hrun s2 s1 (.own (xGm _ _ _) hge ?_)
    have hzc : (Builtin.zeroCells z.cells (grownCap w (n + m) capx e - (n + m))).size = (grownCap w (n + m) capx e - (n + m)) * es' := by rw [size_zeroCells,hzs]
    simp only [Array.size_append,List.size_toArray,List.length_append,hpl,hl,hzc]
    rw [← Nat.add_mul,← Nat.add_mul,Nat.zero_add]
    exact Nat.mul_le_mul_right _ (by omega)
 ·cases h
end
end Go.Abs
