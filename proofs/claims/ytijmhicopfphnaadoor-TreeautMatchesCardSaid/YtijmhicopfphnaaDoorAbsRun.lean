/- Code,loops,ranges over functions. -/
import Derived.Test.YtijmhicopfphnaaDoorAbsLate
namespace Go.Abs
set_option linter.unusedVariables false
set_option linter.unusedSimpArgs false
open Go.RowKit
def xA4 (P : Program) : Code → ACode → Bool
 | _,.stuck => true
 | c,.fz _ b => xA4 P c b
 | c,.fzs _ b => xA4 P c b
 | c,.hole b => xA4 P c b
 | .skip,.skip => true
 | .label _,.label => true
 | .region _ ops draw,.region aops => !draw && xCQ P ops aops
 | .region _ ops draw,.draw m aops => draw && xEI [] [] P ops [] m aops && xHV m aops
 | .region _ ops draw,.drawl ls m aops => draw && xEI [] [] P ops ls m aops && xHV m aops
 | .region _ ops draw,.drawh hs als ls m aops => draw && xEI hs als P ops ls m aops
 | .region _ ops draw,.drawp als ls m aops => draw && (xEI [] als P ops ls m aops || (als.isEmpty && xL1 P ops ls m aops))
 | .region _ ops draw,.drawt σ als ls m aops => draw && xQg σ als P ops ls m aops
 | .seq a b,.seq x y => xA4 P a x && xA4 P b y
 | .cond c a b,.cond z x y => xA2 c z && xA4 P a x && xA4 P b y
 | .block i b,.block j y => i == j && xA4 P b y
 | .loop b,.loop _ y => xA4 P b y
 | .rangeFunc f ps a b,.range z qs x y => xA2 f z && ps.toList == qs && xA4 P a x && xA4 P b y && x.noRange && y.noRange
 | .exit i,.exit j => i == j
 | .scope b,.scope y => xA4 P b y
 | .ret,.ret => true
 | _,_ => false
def xZZ : AExit → Exit
 | .normal => .normal
 | .exit i => .exit i
 | .ret => .ret
def xGT (D : Nat) : Deferred := { target := .collected D,args := #[] }
abbrev Mk := Nat × List Deferred
def MarksOk (B : Mk) (im : Im) (io : Io) (w : World) (ds : List Deferred) : Prop :=
 ∃ Ds : List Nat,ds = Ds.map xGT ++ B.2 ∧ Ds.Nodup ∧ ∀ D ∈ Ds,B.1 ≤ D ∧ w.heap[D]? = some (.deferred (some [])) ∧ ¬ Own io D ∧ im D = none
def xHL (F : Fence) (n : Nat) (P : Program) (c : Code) (Q : Exit → Act → World → Prop) (a : Act) (w : World) : Prop :=
 ∀ (b : Frame) (k : List Item) (cs : List Frame),b.roundOf = F.round → F.fn b.fn → F.room (cs.length + 1 + n) →
  ∃ e a' w',Q e a' w' ∧ ArrivesIn (Machine.fenced P F) P (lone (b.atR a (.code c :: .inLoop c :: k)) cs w) b k cs e a' w'
section
variable {P : Program} {o : Oper} {a : Act} {im im' : Im} {io io' : Io} {H H' : Heap} {w w' : World} {F : List AV} {R : Rec} {v : AV}
theorem yBw {G : Fence} {n : Nat} {c : Code} {Q : Exit → Act → World → Prop} (h : xHL G n P c Q a w) : (Code.loop c).wpIn G n P Q a w := by
 intro b k cs hro hb hr
 obtain ⟨e,a',w',hq,harr⟩ := h b k cs hro hb hr
 exact ⟨e,a',w',hq,.of_steps (.one (fenced_calm hb hr rfl) stepR_loop) harr⟩
theorem xLZ {G : Fence} {n : Nat} {c : Code} {Q : Exit → Act → World → Prop} (h : c.wpIn G n P (Exit.then (xHL G n P c Q) Q) a w) : xHL G n P c Q a w := by
 intro b k cs hro hb hr
 obtain ⟨e,a₁,w₁,hq,harr⟩ := h b (.inLoop c :: k) cs hro hb hr
 cases e with
 | normal =>
  obtain ⟨e₂,a₂,w₂,hq₂,harr₂⟩ := hq b k cs hro hb hr
  exact ⟨e₂,a₂,w₂,hq₂,.of_steps (StepsIn.trans harr (.one (fenced_calm hb hr rfl) stepR_inLoop)) harr₂⟩
 | exit id => exact ⟨_,a₁,w₁,hq,.pass (x := .inLoop c) rfl (fun _ _ => .inl (by simp)) harr⟩
 | goto l => exact ⟨_,a₁,w₁,hq,.pass (x := .inLoop c) rfl (fun _ _ => .inl (by simp)) harr⟩
 | ret => exact ⟨_,a₁,w₁,hq,.pass (x := .inLoop c) rfl (fun _ _ => .inl (by simp)) harr⟩
 | panic ch => exact ⟨_,a₁,w₁,hq,.pass (x := .inLoop c) rfl (fun _ _ => .inl (by simp)) harr⟩
 | outgrown => exact ⟨_,a₁,w₁,hq,.pass (x := .inLoop c) rfl (fun _ _ => .inl (by simp)) harr⟩
theorem xQe {G : Fence} {n : Nat} {c : Code} {Q Q' : Exit → Act → World → Prop} (h : xHL G n P c Q a w) (hq : ∀ e a w,Q e a w → Q' e a w) : xHL G n P c Q' a w :=
 fun b k cs hro hb hr => let ⟨e,a',w',q,r⟩ := h b k cs hro hb hr; ⟨e,a',w',hq _ _ _ q,r⟩
theorem xCS {b : Frame} {c : Code} {k : List Item} {cs : List Frame} : step P (lone (b.atR a (.code (.scope c) :: k)) cs w) = .next (lone (b.atR a (.code c :: .inScope c :: k)) cs w) :=
 step_lone_go (by simp [stepG,stepG.exec,Frame.atR])
theorem xL0 {b : Frame} {c : Code} {k : List Item} {cs : List Frame} : step P (lone (b.atR a (.inScope c :: k)) cs w) = .next (lone (b.atR a k) cs w) :=
 step_lone_go (by simp [stepG,stepG.exec,Frame.atR])
theorem xTt {G : Fence} {n : Nat} {c : Code} {Q : Exit → Act → World → Prop} (h : c.wpIn G n P (Exit.noGoto Q) a w) : (Code.scope c).wpIn G n P Q a w := by
 intro b k cs hro hb hr
 have h0 : (lone (b.atR a (.code (.scope c) :: k)) cs w).fenced P G := fenced_calm hb hr rfl
 obtain ⟨e,a₁,w₁,hq,harr⟩ := h b (.inScope c :: k) cs hro hb hr
 cases e with
 | normal => exact ⟨.normal,a₁,w₁,hq,.head h0 xCS (StepsIn.trans harr (.one (fenced_calm hb hr rfl) xL0))⟩
 | exit id =>
  have hx : exitTo id (.inScope c :: k) = exitTo id k := by simp [exitTo]
  exact ⟨.exit id,a₁,w₁,hq,fun k' hk => .head h0 xCS (harr.1 k' (by rw [hx]; exact hk)),
   fun hr' hk => let ⟨k₁,h1,h2⟩ := harr.2 hr' (by rw [hx]; exact hk); ⟨k₁,h1,.head h0 xCS h2⟩⟩
 | goto l => exact hq.elim
 | ret => exact ⟨_,a₁,w₁,hq,.of_steps (.one h0 xCS) harr⟩
 | panic ch => exact ⟨_,a₁,w₁,hq,.of_steps (.one h0 xCS) harr⟩
 | outgrown => exact ⟨_,a₁,w₁,hq,.of_steps (.one h0 xCS) harr⟩
theorem MarksOk.step {B : Mk} {ds : List Deferred} (h : MarksOk B im io w ds) (hs : Step im io w im' io' w') : MarksOk B im' io' w' ds := by
 obtain ⟨Ds,h1,h2,h3⟩ := h
 refine ⟨Ds,h1,h2,fun D hD => ?_⟩
 obtain ⟨g1,g2,g3,g4⟩ := h3 D hD
 have hlt : D < w.heap.size := (Array.getElem?_eq_some_iff.1 g2).1
 refine ⟨g1,by rw [hs.stay D hlt g3]; exact g2,fun ho => ?_,?_⟩
 ·rcases hs.ownNew D ho with q | q
  ·exact g3 q
  ·omega
 ·cases e : im' D with
  | none => rfl
  | some o =>
   rcases hs.imNew D o e with q | q | q
   ·rw [g4] at q; cases q
   ·exact (g3 q).elim
   ·omega
def CPost (P : Program) (B : Mk) (im : Im) (io : Io) (w : World) (e : AExit) (s' : St) : Exit → Act → World → Prop := fun e' a' w' =>
 e' = xZZ e ∧ ∃ im' io',Step im io w im' io' w' ∧ Sim (xA4 P) im' io' s'.H w' ∧ FRep im' io' s'.F a' ∧ MarksOk B im' io' w' a'.defers
theorem CPost.later {B : Mk} {e : AExit} {s' : St} {e' : Exit} {a' : Act} {w2 : World} (hs : Step im io w im' io' w') (h : CPost P B im' io' w' e s' e' a' w2) : CPost P B im io w e s' e' a' w2 := by
 obtain ⟨h1,im2,io2,h2,h3⟩ := h
 exact ⟨h1,im2,io2,hs.trans h2,h3⟩
structure LoopOk (P : Program) (R : Rec) : Prop where
 loop : ∀ scr b s e s',R.loop scr b s = some (e,s') → ∀ code (r : Option Nat) n (B : Mk),xA4 P code b = true → (r = none ∨ b.noRange = true) → ∀ im io a w,Sim (xA4 P) im io s.H w → FRep im io s.F a → MarksOk B im io w a.defers → B.1 ≤ w.heap.size →
  xHL (Fw r) n P code (CPost P B im io w e s') a w
theorem Reps.clear {cs : List AV} {vs : List Value} (h : Reps im io cs vs) (i : Nat) : Reps im io (cs.set i .any) vs := by
 refine ⟨by simp [h.1],fun j c v h1 h2 => ?_⟩
 rw [List.getElem?_set] at h1
 split at h1
 ·split at h1
  ·cases h1; exact .any _
  ·cases h1
 ·exact h.2 j c v h1 h2
theorem FRep.clear {F : List AV} (h : FRep im io F a) : ∀ (scr : List Nat),FRep im io (xBd scr F) a := by
 intro scr
 unfold xBd
 induction scr generalizing F with
 | nil => exact h
 | cons i scr ih => exact ih (Reps.clear h i)
theorem putObj_size (w : World) (r : Nat) (o : Obj) : (w.putObj r o).heap.size = w.heap.size := World.putObj_size
theorem Sim.putFree {chk : Code → ACode → Bool} {b : Nat} (h : Sim chk im io H w) (o : Obj) (hfree : ∀ (j : Nat) (bj : Blk) (sj : Nat),H[j]? = some bj → bj.live = true → io j = some (b,sj) → False) (him : im b = none) : Sim chk im io H (w.putObj b o) where
 fresh := h.fresh
 blk id bl hH := by
  have hold := h.blk id bl hH
  refine hold.mono (.refl _) (.refl _) (fun e => e) (fun b' sz hio hnd => ⟨World.putObj_heap_other ?_,fun e => e⟩)
  rintro rfl
  cases bl with
  | dead => exact hnd rfl
  | mp es => exact hfree id _ _ hH rfl hio
  | loop st pend F ps asg body => exact hfree id _ _ hH rfl hio
  | cells fz' z' cs'' =>
   cases fz' with
   | false => exact hfree id _ _ hH rfl hio
   | true =>
    obtain ⟨_,c2,t2,_,_,_,_,g3,_⟩ := xCl hold hio
    rw [him] at g3; cases g3
 inj := h.inj
 imw b' o' hb := by
  have hne : b' ≠ b := by rintro rfl; rw [him] at hb; cases hb
  rw [World.putObj_heap_other hne]; exact h.imw _ _ hb
 inb b' ho := by rw [putObj_size]; exact h.inb b' ho
 glob := h.glob
theorem Step.putOwn {b : Nat} (o : Obj) (ho : Own io b) : Step im io w im io (w.putObj b o) :=
 ⟨.refl _,.refl _,rfl,rfl,rfl,by rw [putObj_size]; exact Nat.le_refl _,fun b' _ hno => World.putObj_heap_other (by rintro rfl; exact hno ho),fun _ h => .inl h,fun _ _ h => .inl h⟩
theorem xHw {chk : Code → ACode → Bool} {l b sz : Nat} {st : Nat} {pend : Option AExit} {F0 : List AV} {ps : List Nat} {asg body : ACode} (h : Sim chk im io H w) (hH : H[l]? = some (.loop st pend F0 ps asg body)) (hio : io l = some (b,sz)) {r : Loop} (hr : w.heap[b]? = some (.loop r))
  {st' : Nat} {pend' : Option AExit} {state : LoopState} {pc : Option Code} (hst : state = (if st' = 0 then .ready else if st' = 1 then .busy else .done)) (hp : pc = pend'.map fun | .normal => Code.skip | .exit i => .exit i | .ret => .ret) :
  Sim chk im io (H.set l (.loop st' pend' F0 ps asg body)) (w.putObj b (.loop { r with state := state,pending := pc })) ∧ Step im io w im io (w.putObj b (.loop { r with state := state,pending := pc })) := by
 have hlt : l < H.length := (List.getElem?_eq_some_iff.1 hH).1
 obtain ⟨b',h1,h2,r',h3,h4,h5,h6,h7,h8,h9⟩ := h.blk l _ hH
 rw [hio] at h1; cases h1
 rw [hr] at h3; cases h3
 have hbl : b < w.heap.size := (Array.getElem?_eq_some_iff.1 hr).1
 refine ⟨⟨fun i hi => h.fresh i (by simpa using hi),fun i bi hi => ?_,fun i j bi bj b' si sj hi hj li lj hbi hbj => ?_,fun b' o' hb' => ?_,fun b' hb' => by rw [putObj_size]; exact h.inb b' hb',h.glob⟩,Step.putOwn _ ⟨l,_,hio⟩⟩
 ·rw [List.getElem?_set] at hi
  split at hi
  ·rename_i e
   subst e
   cases hi
   exact ⟨b,hio,h2,_,World.putObj_heap_same hbl,hst,h5,h6,h7,hp,h9⟩
  ·rename_i e
   have hold := h.blk i bi hi
   refine hold.mono (.refl _) (.refl _) (fun e => e) (fun b' sz' hio' hnd => ⟨World.putObj_heap_other ?_,fun e => e⟩)
   rintro rfl
   cases bi with
   | dead => exact hnd rfl
   | mp es2 => exact e (h.inj l i _ _ _ _ _ hH hi rfl rfl hio hio')
   | loop st2 pend2 F2 ps2 asg2 body2 => exact e (h.inj l i _ _ _ _ _ hH hi rfl rfl hio hio')
   | cells fz' z' cs' =>
    cases fz' with
    | false => exact e (h.inj l i _ _ _ _ _ hH hi rfl rfl hio hio')
    | true =>
     obtain ⟨_,c2,t2,_,_,_,_,g3,_⟩ := xCl hold hio'
     rw [h2] at g3; cases g3
 ·have key : ∀ (k : Nat) (bk : Blk),(H.set l (.loop st' pend' F0 ps asg body))[k]? = some bk → bk.live = true → ∃ bk' : Blk,H[k]? = some bk' ∧ bk'.live = true := by
   intro k bk hk' lk'
   rw [List.getElem?_set] at hk'
   split at hk'
   ·rename_i e; subst e; exact ⟨_,hH,rfl⟩
   ·exact ⟨bk,hk',lk'⟩
  obtain ⟨bi',e1,e2⟩ := key i bi hi li
  obtain ⟨bj',e3,e4⟩ := key j bj hj lj
  exact h.inj i j bi' bj' b' si sj e1 e3 e2 e4 hbi hbj
 ·have hne : b' ≠ b := by rintro rfl; rw [h2] at hb'; cases hb'
  rw [World.putObj_heap_other hne]; exact h.imw _ _ hb'
theorem xTu {chk : Code → ACode → Bool} (h : Sim chk im io H w) {F0 : List AV} {ps : List Nat} {asg body : ACode} {r : Loop} (hst : r.state = .ready) (hps : r.params = ps.toArray) (ha : chk r.assign asg = true) (hb : chk r.body body = true) (hp : r.pending = none) (hF : Reps im io F0 r.tmps.toList) :
  Sim chk im (upd io H.length (w.heap.size,0)) (H ++ [.loop 0 none F0 ps asg body]) (w.alloc (.loop r)) ∧ Step im io w im (upd io H.length (w.heap.size,0)) (w.alloc (.loop r)) := by
 have hpz := Pushed.alloc w (.loop r)
 have hn : io H.length = none := h.fresh _ (Nat.le_refl _)
 have hle : IoLe io (upd io H.length (w.heap.size,0)) := fun i x hi => by
  rw [xBc]
  ·exact hi
  ·rintro rfl; rw [hn] at hi; cases hi
 have hown : ∀ b,Own (upd io H.length (w.heap.size,0)) b → Own io b ∨ b = w.heap.size := fun b ⟨id,sz,hi⟩ => by
  by_cases e : id = H.length
  ·subst e; rw [xBr] at hi; cases hi; exact .inr rfl
  ·rw [xBc _ _ e] at hi; exact .inl ⟨id,sz,hi⟩
 have him : im w.heap.size = none := by
  cases e : im w.heap.size with
  | none => rfl
  | some o' => have := (Array.getElem?_eq_some_iff.1 (h.imw _ _ e)).1; omega
 refine ⟨⟨fun id hid => ?_,fun id b hH => ?_,fun i j bi bj b si sj hi hj li lj hbi hbj => ?_,fun b o' hb => ?_,fun b ho => ?_,h.glob⟩,
  ⟨.refl _,hle,hpz.os,hpz.tape,hpz.output,by rw [hpz.size]; omega,fun b hb _ => hpz.old hb,fun b hb => ?_,fun _ _ h => .inl h⟩⟩
 ·simp at hid
  rw [xBc _ _ (by omega)]; exact h.fresh id (by omega)
 ·by_cases e : id < H.length
  ·rw [List.getElem?_append_left e] at hH
   exact (h.blk id b hH).mono (.refl _) hle (fun e' => by rw [xBc _ _ (by omega)]; exact e') (fun b sz hio _ => ⟨hpz.old (h.inb b ⟨id,sz,hio⟩),fun e => e⟩)
  ·have e' : id = H.length := by
    have := (List.getElem?_eq_some_iff.1 hH).1
    simp at this; omega
   subst e'
   simp at hH
   subst hH
   exact ⟨w.heap.size,xBr _ _ _,him,r,hpz.new,hst,hps,ha,hb,hp,hF.mono (.refl _) hle⟩
 ·have key : ∀ (k : Nat) (bk : Blk) (sk : Nat),(H ++ [Blk.loop 0 none F0 ps asg body])[k]? = some bk → upd io H.length (w.heap.size,0) k = some (b,sk) → (k < H.length ∧ H[k]? = some bk ∧ io k = some (b,sk)) ∨ (k = H.length ∧ b = w.heap.size) := by
   intro k bk sk hk' hbk
   by_cases e : k < H.length
   ·rw [List.getElem?_append_left e] at hk'
    rw [xBc _ _ (by omega)] at hbk
    exact .inl ⟨e,hk',hbk⟩
   ·have e' : k = H.length := by
     have := (List.getElem?_eq_some_iff.1 hk').1
     simp at this; omega
    subst e'
    rw [xBr] at hbk; cases hbk
    exact .inr ⟨rfl,rfl⟩
  rcases key i bi si hi hbi with ⟨_,h1,h2⟩ | ⟨h1,h2⟩ <;> rcases key j bj sj hj hbj with ⟨_,g1,g2⟩ | ⟨g1,g2⟩
  ·exact h.inj i j bi bj b si sj h1 g1 li lj h2 g2
  ·have := h.inb b ⟨i,si,h2⟩; omega
  ·have := h.inb b ⟨j,sj,g2⟩; omega
  ·omega
 ·have := h.imw b o' hb
  rw [hpz.old (Array.getElem?_eq_some_iff.1 this).1]; exact this
 ·rw [hpz.size]
  rcases hown b ho with h1 | h1
  ·have := h.inb b h1; omega
  ·omega
 ·rcases hown b hb with h1 | h1
  ·exact .inl h1
  ·exact .inr (by omega)
theorem xDT (hR : RecOk (xA4 P) P R) (hL : LoopOk P R) (hmix : P.follows .mixedOrders = true) : ∀ (c : Code) (code : ACode) (s s' : St) (e : AExit) (r : Option Nat) (n : Nat) (B : Mk),xA4 P c code = true → (r = none ∨ code.noRange = true) → run R code s = some (e,s') →
  ∀ im io a w,Sim (xA4 P) im io s.H w → FRep im io s.F a → MarksOk B im io w a.defers → B.1 ≤ w.heap.size → c.wpIn (Fw r) n P (CPost P B im io w e s') a w := by
 intro c code
 induction code generalizing c with
 | stuck => intro s s' e r n B _ _ h; simp [run] at h
 | skip =>
  intro s s' e r n B hc _ h im io a w hs hF hm _
  cases c <;> simp [xA4] at hc
  simp only [run] at h; cases h
  exact wpIn_skip ⟨rfl,im,io,.refl _ _ _,hs,hF,hm⟩
 | label =>
  intro s s' e r n B hc _ h im io a w hs hF hm _
  cases c <;> simp [xA4] at hc
  simp only [run] at h; cases h
  exact wpIn_label ⟨rfl,im,io,.refl _ _ _,hs,hF,hm⟩
 | exit i =>
  intro s s' e r n B hc _ h im io a w hs hF hm _
  cases c <;> simp [xA4] at hc
  subst hc
  simp only [run] at h; cases h
  exact wpIn_exit ⟨rfl,im,io,.refl _ _ _,hs,hF,hm⟩
 | ret =>
  intro s s' e r n B hc _ h im io a w hs hF hm _
  cases c <;> simp [xA4] at hc
  simp only [run] at h; cases h
  exact wpIn_ret ⟨rfl,im,io,.refl _ _ _,hs,hF,hm⟩
 | region aops =>
  intro s s' e r n B hc _ h im io a w hs hF hm _
  cases c <;> simp [xA4] at hc
  rename_i id ops draw
  obtain ⟨rfl,hc⟩ := hc
  simp only [run,Option.map_eq_some_iff,Prod.mk.injEq] at h
  obtain ⟨s1,h1,rfl,rfl⟩ := h
  refine xUA hR hc h1 hs hF ?_
  intro im' io' a' w' t1 t2 t3 t4
  exact ⟨rfl,im',io',t1,t2,t3,by rw [t4]; exact hm.step t1⟩
 | draw m aops =>
  intro s s' e r n B hc _ h im io a w hs hF hm _
  cases c <;> simp [xA4] at hc
  rename_i id ops draw
  obtain ⟨⟨rfl,hc⟩,hpl⟩ := hc
  simp only [run] at h
  split at h
  ·cases h
  rename_i s1 h1
  simp only [Option.map_eq_some_iff,Prod.mk.injEq] at h
  obtain ⟨s2,h2,rfl,rfl⟩ := h
  refine xUy hR hmix hc hpl (by rfl) h1 h2 hs hF ?_
  intro im' io' a' w' t1 t2 t3 t4
  exact ⟨rfl,im',io',t1,t2,t3,by rw [t4]; exact hm.step t1⟩
 | drawl ls m aops =>
  intro s s' e r n B hc _ h im io a w hs hF hm _
  cases c <;> simp [xA4] at hc
  rename_i id ops draw
  obtain ⟨⟨rfl,hc⟩,hpl⟩ := hc
  simp only [run] at h
  split at h
  ·cases h
  rename_i s1 h1
  split at h
  case h_2 => cases h
  rename_i s2 h2
  split at h
  case isFalse => cases h
  rename_i hls
  cases h
  refine xUy hR hmix hc hpl hls h1 h2 hs hF ?_
  intro im' io' a' w' t1 t2 t3 t4
  exact ⟨rfl,im',io',t1,t2,t3,by rw [t4]; exact hm.step t1⟩
 | fz ss b ih =>
  intro s s' e r n B hc hnr h im io a w hsim hF hm hB
  have hc' : xA4 P c b = true := by
   unfold xA4 at hc
   cases c <;> exact hc
  have nr1 : r = none ∨ b.noRange = true := hnr.imp_right (fun q => by simpa [ACode.noRange] using q)
  simp only [run] at h
  obtain ⟨im1,e1,e2,e3,_⟩ := xQA (ss.flatMap fun i => bor frzN s.H (s.F.getD i .any)) hsim
  have hst : Step im io w im1 io w := Step.fz e1 e3
  refine wpIn_mono (ih c _ s' e r n B hc' nr1 h im1 io a w e2 (hF.mono e1 (.refl _)) (hm.step hst) hB) ?_
  rintro e' a1 w1 ⟨rfl,im2,io2,t1,t2,t3,t4⟩
  exact ⟨rfl,im2,io2,hst.trans t1,t2,t3,t4⟩
 | fzs i b ih =>
  intro s s' e r n B hc hnr h im io a w hsim hF hm hB
  have hc' : xA4 P c b = true := by
   unfold xA4 at hc
   cases c <;> exact hc
  have nr1 : r = none ∨ b.noRange = true := hnr.imp_right (fun q => by simpa [ACode.noRange] using q)
  simp only [run] at h
  split at h
  case h_2 => cases h
  rename_i v hv
  obtain ⟨im1,e1,e2,e3,e4⟩ := xQA (yDf s.H (s.F.getD i .any)) hsim
  have hst : Step im io w im1 io w := Step.fz e1 e3
  have hrv : Rep im1 io v (a.tmps.getD i undef) := (xYy hsim e1 _ v _ hv (hF.getD i) e4).mono (.refl _) (IoLe.none _)
  have hF1 : FRep im1 io (s.F.set i v) a := (hF.mono e1 (.refl _)).setSame i hrv
  refine wpIn_mono (ih c _ s' e r n B hc' nr1 h im1 io a w e2 hF1 (hm.step hst) hB) ?_
  rintro e' a1 w1 ⟨rfl,im2,io2,t1,t2,t3,t4⟩
  exact ⟨rfl,im2,io2,hst.trans t1,t2,t3,t4⟩
 | hole b ih =>
  intro s s' e r n B hc hnr h im io a w hsim hF hm hB
  have hc' : xA4 P c b = true := by
   unfold xA4 at hc
   cases c <;> exact hc
  have nr1 : r = none ∨ b.noRange = true := hnr.imp_right (fun q => by simpa [ACode.noRange] using q)
  simp only [run] at h
  exact ih c _ s' e r n B hc' nr1 h im io a w (xYf hsim) hF hm hB
 | drawt σ als ls m aops =>
  intro s s' e r n B hc _ h im io a w hsim hF hm _
  cases c <;> simp [xA4] at hc
  rename_i id ops draw
  obtain ⟨rfl,hc⟩ := hc
  simp only [run] at h
  split at h
  ·cases h
  rename_i s1 pl h1
  split at h
  case isFalse => cases h
  rename_i htw
  split at h
  case h_2 => cases h
  rename_i s2 h2
  split at h
  case isFalse => cases h
  rename_i hls
  cases h
  refine yDj hR hmix hc hls h1 h2 (xYh htw h2) hsim hF ?_
  intro im' io' a' w' t1 t2 t3 t4
  exact ⟨rfl,im',io',t1,t2,t3,by rw [t4]; exact hm.step t1⟩
 | drawh hs als ls m aops =>
  intro s s' e r n B hc _ h im io a w hsim hF hm _
  cases c <;> simp [xA4] at hc
  rename_i id ops draw
  obtain ⟨rfl,hc⟩ := hc
  simp only [run] at h
  split at h
  ·cases h
  rename_i s1 pl h1
  split at h
  case h_2 => cases h
  rename_i s2 h2
  split at h
  case isFalse => cases h
  rename_i hls
  cases h
  refine xQ1 hR hmix hc hls.1 h1 h2 hls.2 hsim hF ?_
  intro im' io' a' w' t1 t2 t3 t4
  exact ⟨rfl,im',io',t1,t2,t3,by rw [t4]; exact hm.step t1⟩
 | drawp als ls m aops =>
  intro s s' e r n B hc _ h im io a w hs hF hm _
  cases c <;> simp [xA4] at hc
  rename_i id ops draw
  obtain ⟨rfl,hc⟩ := hc
  simp only [run] at h
  split at h
  ·cases h
  rename_i s1 pl h1
  split at h
  case h_2 => cases h
  rename_i s2 h2
  split at h
  case isFalse => cases h
  rename_i hls
  cases h
  rcases hc with hc | ⟨rfl,hc⟩
  ·refine xQ2 hR hmix hc hls h1 h2 hs hF ?_
   intro im' io' a' w' t1 t2 t3 t4
   exact ⟨rfl,im',io',t1,t2,t3,by rw [t4]; exact hm.step t1⟩
  ·refine yBx hR hmix hc hls h1 h2 hs hF ?_
   intro im' io' a' w' t1 t2 t3 t4
   exact ⟨rfl,im',io',t1,t2,t3,by rw [t4]; exact hm.step t1⟩
 | seq x y ihx ihy =>
  intro s s' e r n B hc hnr h im io a w hs hF hm hB
  cases c <;> simp [xA4] at hc
  rename_i c1 c2
  obtain ⟨hc1,hc2⟩ := hc
  have nr1 : r = none ∨ x.noRange = true := hnr.imp_right (fun q => by simp [ACode.noRange] at q; exact q.1)
  have nr2 : r = none ∨ y.noRange = true := hnr.imp_right (fun q => by simp [ACode.noRange] at q; exact q.2)
  simp only [run] at h
  refine wpIn_seq ?_
  split at h
  ·rename_i s1 h1
   refine wpIn_mono (ihx c1 s s1 .normal r n B hc1 nr1 h1 im io a w hs hF hm hB) ?_
   rintro e' a1 w1 ⟨rfl,im1,io1,t1,t2,t3,t4⟩
   refine wpIn_mono (ihy c2 s1 s' e r n B hc2 nr2 h im1 io1 a1 w1 t2 t3 t4 (Nat.le_trans hB t1.size)) ?_
   intro e' a2 w2 hp
   exact hp.later t1
  ·rename_i hne
   refine wpIn_mono (ihx c1 s s' e r n B hc1 nr1 h im io a w hs hF hm hB) ?_
   intro e' a1 w1 hp
   have he := hp.1
   cases e with
   | normal => exact absurd h (hne _)
   | exit i => subst he; exact hp
   | ret => subst he; exact hp
 | cond z x y ihx ihy =>
  intro s s' e r n B hc hnr h im io a w hs hF hm hB
  cases c <;> simp [xA4] at hc
  rename_i zc c1 c2
  obtain ⟨⟨hz,hc1⟩,hc2⟩ := hc
  have nr1 : r = none ∨ x.noRange = true := hnr.imp_right (fun q => by simp [ACode.noRange] at q; exact q.1)
  have nr2 : r = none ∨ y.noRange = true := hnr.imp_right (fun q => by simp [ACode.noRange] at q; exact q.2)
  simp only [run] at h
  split at h
  ·rename_i t ht
   have hr := xAt hz hF
   rw [ht] at hr
   generalize hv : a.eval zc = cv at hr
   cases hr
   refine wpIn_cond hv ?_
   cases t
   ·exact ihy c2 s s' e r n B hc2 nr2 h im io a w hs hF hm hB
   ·exact ihx c1 s s' e r n B hc1 nr1 h im io a w hs hF hm hB
  ·cases h
 | block i x ihx =>
  intro s s' e r n B hc hnr h im io a w hs hF hm hB
  cases c <;> simp [xA4] at hc
  rename_i j c1
  obtain ⟨rfl,hc1⟩ := hc
  have nr1 : r = none ∨ x.noRange = true := hnr.imp_right (fun q => by simpa [ACode.noRange] using q)
  simp only [run] at h
  refine wpIn_block ?_
  split at h
  ·rename_i k s1 h1
   refine wpIn_mono (ihx c1 s s1 (.exit k) r n B hc1 nr1 h1 im io a w hs hF hm hB) ?_
   rintro e' a1 w1 ⟨rfl,hp⟩
   simp only [xZZ,Exit.inBlock]
   by_cases hk : k = j
   ·rw [if_pos hk] at h ⊢
    cases h
    exact ⟨rfl,hp⟩
   ·rw [if_neg hk] at h ⊢
    cases h
    exact ⟨rfl,hp⟩
  ·rename_i hne
   refine wpIn_mono (ihx c1 s s' e r n B hc1 nr1 h im io a w hs hF hm hB) ?_
   intro e' a1 w1 hp
   have he := hp.1
   cases e with
   | normal => subst he; exact hp
   | exit k => exact absurd h (hne _ _)
   | ret => subst he; exact hp
 | scope x ihx =>
  intro s s' e r n B hc hnr h im io a w hs hF hm hB
  cases c <;> simp [xA4] at hc
  rename_i c1
  have nr1 : r = none ∨ x.noRange = true := hnr.imp_right (fun q => by simpa [ACode.noRange] using q)
  simp only [run] at h
  refine xTt (wpIn_mono (ihx c1 s s' e r n B hc nr1 h im io a w hs hF hm hB) ?_)
  intro e' a1 w1 hp
  have he := hp.1
  cases e <;> (subst he; exact hp)
 | loop scr x ihx =>
  intro s s' e r n B hc hnr h im io a w hs hF hm hB
  cases c <;> simp [xA4] at hc
  rename_i c1
  have nr1 : r = none ∨ x.noRange = true := hnr.imp_right (fun q => by simpa [ACode.noRange] using q)
  simp only [run] at h
  exact yBw (hL.loop scr x s e s' h c1 r n B hc nr1 im io a w hs hF hm hB)
 | range z qs x y ihx ihy =>
  intro s s' e r n B hc hnr h im io a w hs hF hm hB
  cases c <;> simp [xA4] at hc
  rename_i zc ps c1 c2
  obtain ⟨⟨⟨⟨⟨hz,hps⟩,hc1⟩,hc2⟩,_⟩,_⟩ := hc
  obtain rfl : r = none := by
   rcases hnr with q | q
   ·exact q
   ·simp [ACode.noRange] at q
  simp only [run] at h
  split at h
  case h_2 => cases h
  rename_i g caps hg
  split at h
  case h_2 => cases h
  rename_i rv H1 hcall
  split at h
  case h_2 => cases h
  rename_i st pend F2 ps2 asg2 body2 hH1
  split at h
  ·cases h
  rename_i hst
  simp only [Option.some.injEq,Prod.mk.injEq] at h
  obtain ⟨rfl,rfl⟩ := h
  have hr := xAt (im := im) (io := io) hz hF
  rw [hg] at hr
  generalize hv : a.eval zc = cv at hr
  cases hr with
  | func hl hcc =>
   rename_i ws
   refine wpIn_rangeFunc ?_
   intro fn _
   have p1 := Pushed.alloc w (.deferred (some []))
   have hs1 : Sim (xA4 P) im io s.H (w.alloc (.deferred (some []))) := hs.world (by rw [p1.size]; omega) (fun b hb => p1.old hb)
   have st1 : Step im io w im io (w.alloc (.deferred (some []))) := Step.world rfl rfl rfl (by rw [p1.size]; omega) (fun b hb => p1.old hb)
   obtain ⟨a1,a2⟩ := xTu hs1 (F0 := s.F) (ps := qs) (asg := x) (body := y) (r := { state := .ready,pending := none,fn,tmps := a.tmps,params := ps,assign := c1,body := c2,defers := w.heap.size }) rfl (by rw [← hps]) hc1 hc2 rfl hF
   have hsz : (w.alloc (.deferred (some []))).heap.size = w.heap.size + 1 := p1.size
   rw [hsz] at a1 a2
   have hio2 : IoLe io (upd io s.H.length (w.heap.size + 1,0)) := a2.io_le
   have hrep : Reps im (upd io s.H.length (w.heap.size + 1,0)) ([AV.yield s.H.length] ++ caps) ([Value.func (.yield (w.heap.size + 1)) #[] #[]] ++ ws) :=
    Reps.append (.cons (.yield (xBr _ _ _)) .nil) (Reps.mono (.refl _) hio2 ⟨hl,hcc⟩)
   have hci := hR.icall _ _ _ _ _ _ hcall (n - 1) im _ _ _ a1 hrep
   have hent := hR.ienters _ _ _ _ _ _ hcall
   refine ⟨w.heap.size + 1,[xGT w.heap.size],(w.alloc (.deferred (some []))).alloc (.loop { state := .ready,pending := none,fn,tmps := a.tmps,params := ps,assign := c1,body := c2,defers := w.heap.size }),
    { target := .fn (.func g) ws.toArray,args := #[.func (.yield (w.heap.size + 1)) #[] #[]] },((w.alloc (.deferred (some []))).alloc (.loop { state := .ready,pending := none,fn,tmps := a.tmps,params := ps,assign := c1,body := c2,defers := w.heap.size })),g,#[.func (.yield (w.heap.size + 1)) #[] #[]] ++ ws.toArray,((w.alloc (.deferred (some []))).alloc (.loop { state := .ready,pending := none,fn,tmps := a.tmps,params := ps,assign := c1,body := c2,defers := w.heap.size })),run_enterLoop_outer _ _ _ _ _,?_,fun _ _ => trivial,?_,fun hd => by simp [Fw] at hd,?_⟩
   ·simp only [resolve,hv]
    simp [Deferred.ofValue,Act.eval]
   ·simp only [invoke]
    exact hent _ _
   ·have e0 : ([Value.func (.yield (w.heap.size + 1)) #[] #[]] ++ ws).toArray = #[.func (.yield (w.heap.size + 1)) #[] #[]] ++ ws.toArray := by simp
    rw [e0] at hci
    refine hci.mono ?_
    rintro e' w3 ⟨xv,im3,io3,rfl,t1,t2,t3⟩
    have hlio : io3 s.H.length = some (w.heap.size + 1,0) := t1.io_le _ _ (xBr _ _ _)
    obtain ⟨b',k1,k2,rr,k3,k4,k5,k6,k7,k8,k9⟩ := t2.blk _ _ hH1
    rw [hlio] at k1; cases k1
    have hbusy : rr.state ≠ .busy := by
     rw [k4]
     by_cases q0 : st = 0
     ·simp [q0]
     ·simp [q0,hst]
    have hend := run_endLoop (P := P) k3 hbusy
    have hkill := t2.kill s.H.length
    have hsim : Sim (xA4 P) im3 io3 (H1.set s.H.length .dead) (w3.putObj (w.heap.size + 1) (.loop { rr with state := .exhausted })) := by
     refine hkill.putFree _ ?_ k2
     intro j bj sj hj lj hbj
     rw [List.getElem?_set] at hj
     split at hj
     ·split at hj
      ·cases hj; cases lj
      ·cases hj
     ·rename_i hne
      exact hne (t2.inj s.H.length j _ bj _ _ sj hH1 hj rfl lj hlio hbj)
    have hstep : Step im io w im3 io3 (w3.putObj (w.heap.size + 1) (.loop { rr with state := .exhausted })) := (st1.trans (a2.trans t1)).trans (Step.putOwn _ ⟨_,_,hlio⟩)
    have hF3 : FRep im3 io3 s.F { a with defers := [xGT w.heap.size] ++ a.defers } := hF.mono hstep.im_le hstep.io_le
    have hmarks : MarksOk B im3 io3 (w3.putObj (w.heap.size + 1) (.loop { rr with state := .exhausted })) ([xGT w.heap.size] ++ a.defers) := by
     obtain ⟨Ds,d1,d2,d3⟩ := hm
     have hold := (show MarksOk B im io w a.defers from ⟨Ds,d1,d2,d3⟩)
     have hnewD : MarksOk B im (upd io s.H.length (w.heap.size + 1,0)) ((w.alloc (.deferred (some []))).alloc (.loop { state := .ready,pending := none,fn,tmps := a.tmps,params := ps,assign := c1,body := c2,defers := w.heap.size })) ([xGT w.heap.size] ++ a.defers) := by
      obtain ⟨Ds',d1',d2',d3'⟩ := hold.step (st1.trans a2)
      have hnotin : w.heap.size ∉ Ds := fun hmem => by
       have := (Array.getElem?_eq_some_iff.1 (d3 _ hmem).2.1).1; omega
      refine ⟨w.heap.size :: Ds,by rw [d1]; rfl,List.nodup_cons.2 ⟨hnotin,d2⟩,fun D hD => ?_⟩
      rcases List.mem_cons.1 hD with q | q
      ·subst q
       refine ⟨hB,?_,?_,?_⟩
       ·have q2 := (Pushed.alloc (w.alloc (.deferred (some []))) (.loop { state := .ready,pending := none,fn,tmps := a.tmps,params := ps,assign := c1,body := c2,defers := w.heap.size })).old (b := w.heap.size) (by rw [hsz]; omega)
        rw [q2]; exact p1.new
       ·rintro ⟨i,sz,hi⟩
        by_cases q3 : i = s.H.length
        ·subst q3; rw [xBr] at hi; simp only [Option.some.injEq,Prod.mk.injEq] at hi; omega
        ·rw [xBc _ _ q3] at hi
         have := hs.inb _ ⟨i,sz,hi⟩; omega
       ·cases q4 : im w.heap.size with
        | none => rfl
        | some o' => have := (Array.getElem?_eq_some_iff.1 (hs.imw _ _ q4)).1; omega
      ·have q2 := hold.step (st1.trans a2)
       obtain ⟨Ds2,g1,g2,g3⟩ := q2
       have : Ds2 = Ds := by
        rw [d1] at g1
        replace g1 := List.append_cancel_right g1
        have inj : Function.Injective xGT := fun a b hab => by
         have := congrArg (fun d => d.target) hab
         simp [xGT] at this
         exact this
        exact (List.map_inj_right (fun a b hab => inj hab)).1 g1.symm
       subst this
       exact g3 D q
     exact (hnewD.step t1).step (Step.putOwn _ ⟨_,_,hlio⟩)
    generalize w3.putObj (w.heap.size + 1) (.loop { rr with state := .exhausted }) = W3 at hend hsim hstep hmarks
    refine ⟨rr.pending,W3,hend,?_⟩
    rw [k8]
    cases pend with
    | none => exact ⟨rfl,im3,io3,hstep,hsim,hF3,hmarks⟩
    | some pe =>
     cases pe with
     | normal => exact wpIn_skip ⟨rfl,im3,io3,hstep,hsim,hF3,hmarks⟩
     | exit i => exact wpIn_exit ⟨rfl,im3,io3,hstep,hsim,hF3,hmarks⟩
     | ret => exact wpIn_ret ⟨rfl,im3,io3,hstep,hsim,hF3,hmarks⟩
end
end Go.Abs
