/- Code,loops,ranges over functions. -/
import Derived.Test.YtijmhicopfphnaaDoorAbsLate
namespace Go.Abs
set_option linter.unusedVariables false
set_option linter.unusedSimpArgs false
open Go.RowKit
def xAV (P : Program) : Code → ACode → Bool
 | _,.stuck => true
 | c,.fzs _ b => xAV P c b
 | .skip,.skip => true
 | .label _,.label => true
 | .region _ ops draw,.region aops => !draw && xJO P ops aops
 | .region _ ops draw,.draw m aops => draw && xKV [] [] P ops [] m aops && xNK m aops
 | .region _ ops draw,.drawl ls m aops => draw && xKV [] [] P ops ls m aops && xNK m aops
 | .region _ ops draw,.drawh hs als ls m aops => draw && xKV hs als P ops ls m aops
 | .region _ ops draw,.drawp als ls m aops => draw && (xKV [] als P ops ls m aops || (als.isEmpty && xPU P ops ls m aops))
 | .seq a b,.seq x y => xAV P a x && xAV P b y
 | .cond c a b,.cond z x y => xBq c z && xAV P a x && xAV P b y
 | .block i b,.block j y => i == j && xAV P b y
 | .loop b,.loop _ y => xAV P b y
 | .exit i,.exit j => i == j
 | .scope b,.scope y => xAV P b y
 | .ret,.ret => true
 | _,_ => false
def yBl : AExit → Exit
 | .normal => .normal
 | .exit i => .exit i
 | .ret => .ret
def yBm (D : Nat) : Deferred := { target := .collected D,args := #[] }
abbrev Mk := Nat × List Deferred
def MarksOk (B : Mk) (im : Im) (io : Io) (w : World) (ds : List Deferred) : Prop :=
 ∃ Ds : List Nat,ds = Ds.map yBm ++ B.2 ∧ Ds.Nodup ∧ ∀ D ∈ Ds,B.1 ≤ D ∧ w.heap[D]? = some (.deferred (some [])) ∧ ¬ Own io D ∧ im D = none
def xNB (F : Fence) (n : Nat) (P : Program) (c : Code) (Q : Exit → Act → World → Prop) (a : Act) (w : World) : Prop :=
 ∀ (b : Frame) (k : List Item) (cs : List Frame),b.roundOf = F.round → F.fn b.fn → F.room (cs.length + 1 + n) →
  ∃ e a' w',Q e a' w' ∧ ArrivesIn (Machine.fenced P F) P (lone (b.atR a (.code c :: .inLoop c :: k)) cs w) b k cs e a' w'
section
variable {P : Program} {o : Oper} {a : Act} {im im' : Im} {io io' : Io} {H H' : Heap} {w w' : World} {F : List AV} {R : Rec} {v : AV}
theorem yCo {G : Fence} {n : Nat} {c : Code} {Q : Exit → Act → World → Prop} (h : xNB G n P c Q a w) : (Code.loop c).wpIn G n P Q a w := by
 intro b k cs hro hb hr
 obtain ⟨e,a',w',hq,harr⟩ := h b k cs hro hb hr
 exact ⟨e,a',w',hq,.of_steps (.one (fenced_calm hb hr rfl) stepR_loop) harr⟩
theorem xPS {G : Fence} {n : Nat} {c : Code} {Q : Exit → Act → World → Prop} (h : c.wpIn G n P (Exit.then (xNB G n P c Q) Q) a w) : xNB G n P c Q a w := by
 intro b k cs hro hb hr
 obtain ⟨e,a₁,w₁,hq,harr⟩ := h b (.inLoop c :: k) cs hro hb hr
 cases e with
 | normal =>
  obtain ⟨e₂,a₂,w₂,hq₂,harr₂⟩ := hq b k cs hro hb hr
  exact ⟨e₂,a₂,w₂,hq₂,.of_steps (StepsIn.trans harr (.one (fenced_calm hb hr rfl) stepR_inLoop)) harr₂⟩
 | exit id => exact ⟨_,a₁,w₁,hq,.pass (x := .inLoop c) rfl (fun _ _ => .inl (by simp)) harr⟩
 | goto l => exact ⟨_,a₁,w₁,hq,.pass (x := .inLoop c) rfl (fun _ _ => .inl (by simp)) harr⟩
 | ret => exact ⟨_,a₁,w₁,hq,.pass (x := .inLoop c) rfl (fun _ _ => .inl (by simp)) harr⟩
 | panic ch => exact ⟨_,a₁,w₁,hq,.pass (x := .inLoop c) rfl (fun _ _ => .inl (by simp)) harr⟩
 | outgrown => exact ⟨_,a₁,w₁,hq,.pass (x := .inLoop c) rfl (fun _ _ => .inl (by simp)) harr⟩
theorem xS0 {G : Fence} {n : Nat} {c : Code} {Q Q' : Exit → Act → World → Prop} (h : xNB G n P c Q a w) (hq : ∀ e a w,Q e a w → Q' e a w) : xNB G n P c Q' a w :=
 fun b k cs hro hb hr => let ⟨e,a',w',q,r⟩ := h b k cs hro hb hr; ⟨e,a',w',hq _ _ _ q,r⟩
theorem xIQ {b : Frame} {c : Code} {k : List Item} {cs : List Frame} : step P (lone (b.atR a (.code (.scope c) :: k)) cs w) = .next (lone (b.atR a (.code c :: .inScope c :: k)) cs w) :=
 step_lone_go (by simp [stepG,stepG.exec,Frame.atR])
theorem xPT {b : Frame} {c : Code} {k : List Item} {cs : List Frame} : step P (lone (b.atR a (.inScope c :: k)) cs w) = .next (lone (b.atR a k) cs w) :=
 step_lone_go (by simp [stepG,stepG.exec,Frame.atR])
theorem xVj {G : Fence} {n : Nat} {c : Code} {Q : Exit → Act → World → Prop} (h : c.wpIn G n P (Exit.noGoto Q) a w) : (Code.scope c).wpIn G n P Q a w := by
 intro b k cs hro hb hr
 have h0 : (lone (b.atR a (.code (.scope c) :: k)) cs w).fenced P G := fenced_calm hb hr rfl
 obtain ⟨e,a₁,w₁,hq,harr⟩ := h b (.inScope c :: k) cs hro hb hr
 cases e with
 | normal => exact ⟨.normal,a₁,w₁,hq,.head h0 xIQ (StepsIn.trans harr (.one (fenced_calm hb hr rfl) xPT))⟩
 | exit id =>
  have hx : exitTo id (.inScope c :: k) = exitTo id k := by simp [exitTo]
  exact ⟨.exit id,a₁,w₁,hq,fun k' hk => .head h0 xIQ (harr.1 k' (by rw [hx]; exact hk)),
   fun hr' hk => let ⟨k₁,h1,h2⟩ := harr.2 hr' (by rw [hx]; exact hk); ⟨k₁,h1,.head h0 xIQ h2⟩⟩
 | goto l => exact hq.elim
 | ret => exact ⟨_,a₁,w₁,hq,.of_steps (.one h0 xIQ) harr⟩
 | panic ch => exact ⟨_,a₁,w₁,hq,.of_steps (.one h0 xIQ) harr⟩
 | outgrown => exact ⟨_,a₁,w₁,hq,.of_steps (.one h0 xIQ) harr⟩
theorem MarksOk.step {B : Mk} {ds : List Deferred} (h : MarksOk B im io w ds) (hs : Step im io w im' io' w') : MarksOk B im' io' w' ds := by
 obtain ⟨Ds,h1,h2,h3⟩ := h
 refine ⟨Ds,h1,h2,fun D hD => ?_⟩
 obtain ⟨g1,g2,g3,g4⟩ := h3 D hD
 have hlt : D < w.heap.size := (Array.getElem?_eq_some_iff.1 g2).1
 refine ⟨g1,by rw [hs.stay D hlt g3]; exact g2,fun ho => ?_,?_⟩
 ·rcases hs.ownNew D ho with q | q
  ·exact g3 q
  ·omega
 ·cases e : im' D with
  | none => rfl
  | some o =>
   rcases hs.imNew D o e with q | q | q
   ·rw [g4] at q; cases q
   ·exact (g3 q).elim
   ·omega
def CPost (P : Program) (B : Mk) (im : Im) (io : Io) (w : World) (e : AExit) (s' : St) : Exit → Act → World → Prop := fun e' a' w' =>
 e' = yBl e ∧ ∃ im' io',Step im io w im' io' w' ∧ Sim (xAV P) im' io' s'.H w' ∧ FRep im' io' s'.F a' ∧ MarksOk B im' io' w' a'.defers
theorem CPost.later {B : Mk} {e : AExit} {s' : St} {e' : Exit} {a' : Act} {w2 : World} (hs : Step im io w im' io' w') (h : CPost P B im' io' w' e s' e' a' w2) : CPost P B im io w e s' e' a' w2 := by
 obtain ⟨h1,im2,io2,h2,h3⟩ := h
 exact ⟨h1,im2,io2,hs.trans h2,h3⟩
structure LoopOk (P : Program) (R : Rec) : Prop where
 loop : ∀ scr b s e s',R.loop scr b s = some (e,s') → ∀ code (r : Option Nat) n (B : Mk),xAV P code b = true → (r = none ∨ b.noRange = true) → ∀ im io a w,Sim (xAV P) im io s.H w → FRep im io s.F a → MarksOk B im io w a.defers → B.1 ≤ w.heap.size →
  xNB (Fw r) n P code (CPost P B im io w e s') a w
theorem Reps.clear {cs : List AV} {vs : List Value} (h : Reps im io cs vs) (i : Nat) : Reps im io (cs.set i .any) vs := by
 refine ⟨by simp [h.1],fun j c v h1 h2 => ?_⟩
 rw [List.getElem?_set] at h1
 split at h1
 ·split at h1
  ·cases h1; exact .any _
  ·cases h1
 ·exact h.2 j c v h1 h2
theorem FRep.clear {F : List AV} (h : FRep im io F a) : ∀ (scr : List Nat),FRep im io (xAH scr F) a := by
 intro scr
 unfold xAH
 induction scr generalizing F with
 | nil => exact h
 | cons i scr ih => exact ih (Reps.clear h i)
theorem putObj_size (w : World) (r : Nat) (o : Obj) : (w.putObj r o).heap.size = w.heap.size := World.putObj_size
theorem Sim.putFree {chk : Code → ACode → Bool} {b : Nat} (h : Sim chk im io H w) (o : Obj) (hfree : ∀ (j : Nat) (bj : Blk) (sj : Nat),H[j]? = some bj → bj.live = true → io j = some (b,sj) → False) (him : im b = none) : Sim chk im io H (w.putObj b o) where
 fresh := h.fresh
 blk id bl hH := by
  have hold := h.blk id bl hH
  refine hold.mono (.refl _) (.refl _) (fun e => e) (fun b' sz hio hnd => ⟨World.putObj_heap_other ?_,fun e => e⟩)
  rintro rfl
  cases bl with
  | dead => exact hnd rfl
  | mp es => exact hfree id _ _ hH rfl hio
  | loop st pend F ps asg body => exact hfree id _ _ hH rfl hio
  | cells fz' z' cs'' =>
   cases fz' with
   | false => exact hfree id _ _ hH rfl hio
   | true =>
    obtain ⟨_,c2,t2,_,_,_,_,g3,_⟩ := xH3 hold hio
    rw [him] at g3; cases g3
 inj := h.inj
 imw b' o' hb := by
  have hne : b' ≠ b := by rintro rfl; rw [him] at hb; cases hb
  rw [World.putObj_heap_other hne]; exact h.imw _ _ hb
 inb b' ho := by rw [putObj_size]; exact h.inb b' ho
 glob := h.glob
theorem Step.putOwn {b : Nat} (o : Obj) (ho : Own io b) : Step im io w im io (w.putObj b o) :=
 ⟨.refl _,.refl _,rfl,rfl,rfl,by rw [putObj_size]; exact Nat.le_refl _,fun b' _ hno => World.putObj_heap_other (by rintro rfl; exact hno ho),fun _ h => .inl h,fun _ _ h => .inl h⟩
theorem xNk {chk : Code → ACode → Bool} {l b sz : Nat} {st : Nat} {pend : Option AExit} {F0 : List AV} {ps : List Nat} {asg body : ACode} (h : Sim chk im io H w) (hH : H[l]? = some (.loop st pend F0 ps asg body)) (hio : io l = some (b,sz)) {r : Loop} (hr : w.heap[b]? = some (.loop r))
  {st' : Nat} {pend' : Option AExit} {state : LoopState} {pc : Option Code} (hst : state = (if st' = 0 then .ready else if st' = 1 then .busy else .done)) (hp : pc = pend'.map fun | .normal => Code.skip | .exit i => .exit i | .ret => .ret) :
  Sim chk im io (H.set l (.loop st' pend' F0 ps asg body)) (w.putObj b (.loop { r with state := state,pending := pc })) ∧ Step im io w im io (w.putObj b (.loop { r with state := state,pending := pc })) := by
 have hlt : l < H.length := (List.getElem?_eq_some_iff.1 hH).1
 obtain ⟨b',h1,h2,r',h3,h4,h5,h6,h7,h8,h9⟩ := h.blk l _ hH
 rw [hio] at h1; cases h1
 rw [hr] at h3; cases h3
 have hbl : b < w.heap.size := (Array.getElem?_eq_some_iff.1 hr).1
 refine ⟨⟨fun i hi => h.fresh i (by simpa using hi),fun i bi hi => ?_,fun i j bi bj b' si sj hi hj li lj hbi hbj => ?_,fun b' o' hb' => ?_,fun b' hb' => by rw [putObj_size]; exact h.inb b' hb',h.glob⟩,Step.putOwn _ ⟨l,_,hio⟩⟩
 ·rw [List.getElem?_set] at hi
  split at hi
  ·rename_i e
   subst e
   cases hi
   exact ⟨b,hio,h2,_,World.putObj_heap_same hbl,hst,h5,h6,h7,hp,h9⟩
  ·rename_i e
   have hold := h.blk i bi hi
   refine hold.mono (.refl _) (.refl _) (fun e => e) (fun b' sz' hio' hnd => ⟨World.putObj_heap_other ?_,fun e => e⟩)
   rintro rfl
   cases bi with
   | dead => exact hnd rfl
   | mp es2 => exact e (h.inj l i _ _ _ _ _ hH hi rfl rfl hio hio')
   | loop st2 pend2 F2 ps2 asg2 body2 => exact e (h.inj l i _ _ _ _ _ hH hi rfl rfl hio hio')
   | cells fz' z' cs' =>
    cases fz' with
    | false => exact e (h.inj l i _ _ _ _ _ hH hi rfl rfl hio hio')
    | true =>
     obtain ⟨_,c2,t2,_,_,_,_,g3,_⟩ := xH3 hold hio'
     rw [h2] at g3; cases g3
 ·have key : ∀ (k : Nat) (bk : Blk),(H.set l (.loop st' pend' F0 ps asg body))[k]? = some bk → bk.live = true → ∃ bk' : Blk,H[k]? = some bk' ∧ bk'.live = true := by
   intro k bk hk' lk'
   rw [List.getElem?_set] at hk'
   split at hk'
   ·rename_i e; subst e; exact ⟨_,hH,rfl⟩
   ·exact ⟨bk,hk',lk'⟩
  obtain ⟨bi',e1,e2⟩ := key i bi hi li
  obtain ⟨bj',e3,e4⟩ := key j bj hj lj
  exact h.inj i j bi' bj' b' si sj e1 e3 e2 e4 hbi hbj
 ·have hne : b' ≠ b := by rintro rfl; rw [h2] at hb'; cases hb'
  rw [World.putObj_heap_other hne]; exact h.imw _ _ hb'
theorem xJ7 (hR : RecOk (xAV P) P R) (hL : LoopOk P R) (hmix : P.follows .mixedOrders = true) : ∀ (c : Code) (code : ACode) (s s' : St) (e : AExit) (r : Option Nat) (n : Nat) (B : Mk),xAV P c code = true → (r = none ∨ code.noRange = true) → run R code s = some (e,s') →
  ∀ im io a w,Sim (xAV P) im io s.H w → FRep im io s.F a → MarksOk B im io w a.defers → B.1 ≤ w.heap.size → c.wpIn (Fw r) n P (CPost P B im io w e s') a w := by
 intro c code
 induction code generalizing c with
 | stuck => intro s s' e r n B _ _ h; simp [run] at h
 | skip =>
  intro s s' e r n B hc _ h im io a w hs hF hm _
  cases c <;> simp [xAV] at hc
  simp only [run] at h; cases h
  exact wpIn_skip ⟨rfl,im,io,.refl _ _ _,hs,hF,hm⟩
 | label =>
  intro s s' e r n B hc _ h im io a w hs hF hm _
  cases c <;> simp [xAV] at hc
  simp only [run] at h; cases h
  exact wpIn_label ⟨rfl,im,io,.refl _ _ _,hs,hF,hm⟩
 | exit i =>
  intro s s' e r n B hc _ h im io a w hs hF hm _
  cases c <;> simp [xAV] at hc
  subst hc
  simp only [run] at h; cases h
  exact wpIn_exit ⟨rfl,im,io,.refl _ _ _,hs,hF,hm⟩
 | ret =>
  intro s s' e r n B hc _ h im io a w hs hF hm _
  cases c <;> simp [xAV] at hc
  simp only [run] at h; cases h
  exact wpIn_ret ⟨rfl,im,io,.refl _ _ _,hs,hF,hm⟩
 | region aops =>
  intro s s' e r n B hc _ h im io a w hs hF hm _
  cases c <;> simp [xAV] at hc
  rename_i id ops draw
  obtain ⟨rfl,hc⟩ := hc
  simp only [run,Option.map_eq_some_iff,Prod.mk.injEq] at h
  obtain ⟨s1,h1,rfl,rfl⟩ := h
  refine xWr hR hc h1 hs hF ?_
  intro im' io' a' w' t1 t2 t3 t4
  exact ⟨rfl,im',io',t1,t2,t3,by rw [t4]; exact hm.step t1⟩
 | draw m aops =>
  intro s s' e r n B hc _ h im io a w hs hF hm _
  cases c <;> simp [xAV] at hc
  rename_i id ops draw
  obtain ⟨⟨rfl,hc⟩,hpl⟩ := hc
  simp only [run] at h
  split at h
  ·cases h
  rename_i s1 h1
  simp only [Option.map_eq_some_iff,Prod.mk.injEq] at h
  obtain ⟨s2,h2,rfl,rfl⟩ := h
  refine xWp hR hmix hc hpl (by rfl) h1 h2 hs hF ?_
  intro im' io' a' w' t1 t2 t3 t4
  exact ⟨rfl,im',io',t1,t2,t3,by rw [t4]; exact hm.step t1⟩
 | drawl ls m aops =>
  intro s s' e r n B hc _ h im io a w hs hF hm _
  cases c <;> simp [xAV] at hc
  rename_i id ops draw
  obtain ⟨⟨rfl,hc⟩,hpl⟩ := hc
  simp only [run] at h
  split at h
  ·cases h
  rename_i s1 h1
  split at h
  case h_2 => cases h
  rename_i s2 h2
  split at h
  case isFalse => cases h
  rename_i hls
  cases h
  refine xWp hR hmix hc hpl hls h1 h2 hs hF ?_
  intro im' io' a' w' t1 t2 t3 t4
  exact ⟨rfl,im',io',t1,t2,t3,by rw [t4]; exact hm.step t1⟩
 | fz ss b ih =>
  intro s s' e r n B hc
  cases c <;> simp [xAV] at hc
 | fzs i b ih =>
  intro s s' e r n B hc hnr h im io a w hsim hF hm hB
  have hc' : xAV P c b = true := by
   unfold xAV at hc
   cases c <;> exact hc
  have nr1 : r = none ∨ b.noRange = true := hnr.imp_right (fun q => by simpa [ACode.noRange] using q)
  simp only [run] at h
  split at h
  case h_2 => cases h
  rename_i v hv
  obtain ⟨im1,e1,e2,e3,e4⟩ := xVD (yEi s.H (s.F.getD i .any)) hsim
  have hst : Step im io w im1 io w := Step.fz e1 e3
  have hrv : Rep im1 io v (a.tmps.getD i undef) := (xZJ hsim e1 _ v _ hv (hF.getD i) e4).mono (.refl _) (IoLe.none _)
  have hF1 : FRep im1 io (s.F.set i v) a := (hF.mono e1 (.refl _)).setSame i hrv
  refine wpIn_mono (ih c _ s' e r n B hc' nr1 h im1 io a w e2 hF1 (hm.step hst) hB) ?_
  rintro e' a1 w1 ⟨rfl,im2,io2,t1,t2,t3,t4⟩
  exact ⟨rfl,im2,io2,hst.trans t1,t2,t3,t4⟩
 | hole b ih =>
  intro s s' e r n B hc
  cases c <;> simp [xAV] at hc
 | drawt σ als ls m aops =>
  intro s s' e r n B hc
  cases c <;> simp [xAV] at hc
 | drawh hs als ls m aops =>
  intro s s' e r n B hc _ h im io a w hsim hF hm _
  cases c <;> simp [xAV] at hc
  rename_i id ops draw
  obtain ⟨rfl,hc⟩ := hc
  simp only [run] at h
  split at h
  ·cases h
  rename_i s1 pl h1
  split at h
  case h_2 => cases h
  rename_i s2 h2
  split at h
  case isFalse => cases h
  rename_i hls
  cases h
  refine xTQ hR hmix hc hls.1 h1 h2 hls.2 hsim hF ?_
  intro im' io' a' w' t1 t2 t3 t4
  exact ⟨rfl,im',io',t1,t2,t3,by rw [t4]; exact hm.step t1⟩
 | drawp als ls m aops =>
  intro s s' e r n B hc _ h im io a w hs hF hm _
  cases c <;> simp [xAV] at hc
  rename_i id ops draw
  obtain ⟨rfl,hc⟩ := hc
  simp only [run] at h
  split at h
  ·cases h
  rename_i s1 pl h1
  split at h
  case h_2 => cases h
  rename_i s2 h2
  split at h
  case isFalse => cases h
  rename_i hls
  cases h
  rcases hc with hc | ⟨rfl,hc⟩
  ·refine xTR hR hmix hc hls h1 h2 hs hF ?_
   intro im' io' a' w' t1 t2 t3 t4
   exact ⟨rfl,im',io',t1,t2,t3,by rw [t4]; exact hm.step t1⟩
  ·refine yCp hR hmix hc hls h1 h2 hs hF ?_
   intro im' io' a' w' t1 t2 t3 t4
   exact ⟨rfl,im',io',t1,t2,t3,by rw [t4]; exact hm.step t1⟩
 | seq x y ihx ihy =>
  intro s s' e r n B hc hnr h im io a w hs hF hm hB
  cases c <;> simp [xAV] at hc
  rename_i c1 c2
  obtain ⟨hc1,hc2⟩ := hc
  have nr1 : r = none ∨ x.noRange = true := hnr.imp_right (fun q => by simp [ACode.noRange] at q; exact q.1)
  have nr2 : r = none ∨ y.noRange = true := hnr.imp_right (fun q => by simp [ACode.noRange] at q; exact q.2)
  simp only [run] at h
  refine wpIn_seq ?_
  split at h
  ·rename_i s1 h1
   refine wpIn_mono (ihx c1 s s1 .normal r n B hc1 nr1 h1 im io a w hs hF hm hB) ?_
   rintro e' a1 w1 ⟨rfl,im1,io1,t1,t2,t3,t4⟩
   refine wpIn_mono (ihy c2 s1 s' e r n B hc2 nr2 h im1 io1 a1 w1 t2 t3 t4 (Nat.le_trans hB t1.size)) ?_
   intro e' a2 w2 hp
   exact hp.later t1
  ·rename_i hne
   refine wpIn_mono (ihx c1 s s' e r n B hc1 nr1 h im io a w hs hF hm hB) ?_
   intro e' a1 w1 hp
   have he := hp.1
   cases e with
   | normal => exact absurd h (hne _)
   | exit i => subst he; exact hp
   | ret => subst he; exact hp
 | cond z x y ihx ihy =>
  intro s s' e r n B hc hnr h im io a w hs hF hm hB
  cases c <;> simp [xAV] at hc
  rename_i zc c1 c2
  obtain ⟨⟨hz,hc1⟩,hc2⟩ := hc
  have nr1 : r = none ∨ x.noRange = true := hnr.imp_right (fun q => by simp [ACode.noRange] at q; exact q.1)
  have nr2 : r = none ∨ y.noRange = true := hnr.imp_right (fun q => by simp [ACode.noRange] at q; exact q.2)
  simp only [run] at h
  split at h
  ·rename_i t ht
   have hr := xAj hz hF
   rw [ht] at hr
   generalize hv : a.eval zc = cv at hr
   cases hr
   refine wpIn_cond hv ?_
   cases t
   ·exact ihy c2 s s' e r n B hc2 nr2 h im io a w hs hF hm hB
   ·exact ihx c1 s s' e r n B hc1 nr1 h im io a w hs hF hm hB
  ·cases h
 | block i x ihx =>
  intro s s' e r n B hc hnr h im io a w hs hF hm hB
  cases c <;> simp [xAV] at hc
  rename_i j c1
  obtain ⟨rfl,hc1⟩ := hc
  have nr1 : r = none ∨ x.noRange = true := hnr.imp_right (fun q => by simpa [ACode.noRange] using q)
  simp only [run] at h
  refine wpIn_block ?_
  split at h
  ·rename_i k s1 h1
   refine wpIn_mono (ihx c1 s s1 (.exit k) r n B hc1 nr1 h1 im io a w hs hF hm hB) ?_
   rintro e' a1 w1 ⟨rfl,hp⟩
   simp only [yBl,Exit.inBlock]
   by_cases hk : k = j
   ·rw [if_pos hk] at h ⊢
    cases h
    exact ⟨rfl,hp⟩
   ·rw [if_neg hk] at h ⊢
    cases h
    exact ⟨rfl,hp⟩
  ·rename_i hne
   refine wpIn_mono (ihx c1 s s' e r n B hc1 nr1 h im io a w hs hF hm hB) ?_
   intro e' a1 w1 hp
   have he := hp.1
   cases e with
   | normal => subst he; exact hp
   | exit k => exact absurd h (hne _ _)
   | ret => subst he; exact hp
 | scope x ihx =>
  intro s s' e r n B hc hnr h im io a w hs hF hm hB
  cases c <;> simp [xAV] at hc
  rename_i c1
  have nr1 : r = none ∨ x.noRange = true := hnr.imp_right (fun q => by simpa [ACode.noRange] using q)
  simp only [run] at h
  refine xVj (wpIn_mono (ihx c1 s s' e r n B hc nr1 h im io a w hs hF hm hB) ?_)
  intro e' a1 w1 hp
  have he := hp.1
  cases e <;> (subst he; exact hp)
 | loop scr x ihx =>
  intro s s' e r n B hc hnr h im io a w hs hF hm hB
  cases c <;> simp [xAV] at hc
  rename_i c1
  have nr1 : r = none ∨ x.noRange = true := hnr.imp_right (fun q => by simpa [ACode.noRange] using q)
  simp only [run] at h
  exact yCo (hL.loop scr x s e s' h c1 r n B hc nr1 im io a w hs hF hm hB)
 | range z qs x y ihx ihy =>
  intro s s' e r n B hc
  cases c <;> simp [xAV] at hc
end
end Go.Abs
