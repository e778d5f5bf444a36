/- Functions: from the interpreter's answer to the model's call. -/
import Derived.Test.YtijmhicopfphnaaDoorAbsRun
namespace Go.Abs
set_option linter.unusedVariables false
set_option linter.unusedSimpArgs false
open Go.RowKit
def xMA (P : Program) : ResultVar → ARes → Bool
 | .tmp t,.tmp u => t == u
 | .cell t ty,.cell u g n => t == u && xNR P ty == some n && xOG P ty == some g
 | _,_ => false
def xKN (P : Program) : List ResultVar → List ARes → Bool
 | [],[] => true
 | x :: xs,y :: ys => xMA P x y && xKN P xs ys
 | _,_ => false
def xKO (P : Program) (fn : Func) (af : AFunc) : Bool :=
 (match fn.body with | some c => xAV P c af.code | none => false) && fn.ntmps == af.ntmps && xKN P fn.results.toList af.results && fn.name != "runtime.NumGoroutine"
section
variable {P : Program} {a : Act} {im im' : Im} {io io' : Io} {H H' : Heap} {w w' : World} {F : List AV} {R : Rec} {v : AV} {chk : Code → ACode → Bool}
def xNA (tmps : Array Value) : ResultVar → Sem Value
 | .tmp t => pure (tmps.getD t undef)
 | .cell b t => do loadVar t (← asAddr (tmps.getD b undef))
theorem xVh (fn : Func) (tmps : Array Value) : results fn tmps = (do
  let vs ← fn.results.mapM (xNA tmps)
  pure (if h : vs.size = 1 then vs[0] else .tuple vs)) := by
 have e : (fun x : ResultVar => (match x with
  | .tmp t => pure (tmps.getD t undef)
  | .cell a t => do loadVar t (← asAddr (tmps.getD a undef)) : Sem Value)) = xNA tmps := by
  funext x; cases x <;> rfl
 rw [← e]; rfl
theorem yCk {x : ResultVar} {y : ARes} {s : St} (hc : xMA P x y = true) (hs : Sim chk im io s.H w) (hF : FRep im io s.F a) (h : xWM s y = some v) :
  ∃ z,(xNA a.tmps x).run P w = .ok z w ∧ Rep im io v z := by
 cases x with
 | tmp t => cases y with
  | tmp u =>
   simp only [xMA,beq_iff_eq] at hc
   subst hc
   simp only [xWM,Option.some.injEq] at h
   subst h
   exact ⟨_,rfl,hF.getD _⟩
  | cell => simp [xMA] at hc
 | cell b t => cases y with
  | tmp u => simp [xMA] at hc
  | cell u g n =>
   simp only [xMA,Bool.and_eq_true,beq_iff_eq] at hc
   obtain ⟨⟨rfl,h1⟩,h2⟩ := hc
   simp only [xWM] at h
   split at h
   ·rename_i cs hrd
    obtain ⟨bb,off,vs,hx,hl,hrs,hlies,hk⟩ := xT2 hs hrd (hF.getD b)
    obtain ⟨m1,m2⟩ := xTj h hrs hk
    obtain ⟨l1,l2⟩ := xKC h1 h2 hl hlies
    cases g with
    | true => exact ⟨.agg vs.toArray,by simp only [xNA,hx,asAddr,Sem.run_bind,Sem.run_pure,Result.andThen,l1 rfl],m1 rfl⟩
    | false =>
     obtain ⟨x,e1,e2⟩ := m2 rfl
     exact ⟨x,by simp only [xNA,hx,asAddr,Sem.run_bind,Sem.run_pure,Result.andThen,l2 rfl x e1],e2⟩
   ·cases h
theorem xSZ {s : St} (hs : Sim chk im io s.H w) (hF : FRep im io s.F a) : ∀ {l : List ResultVar} {rs : List ARes} {us : List AV},xKN P l rs = true → xVG s rs = some us →
  ∃ zs,(l.mapM (xNA a.tmps)).run P w = .ok zs w ∧ Reps im io us zs ∧ us.length = rs.length
 | [],[],us,_,h => by
  simp only [xVG,Option.some.injEq] at h
  subst h
  exact ⟨[],by simp,.nil,rfl⟩
 | [],_ :: _,_,hc,_ => by simp [xKN] at hc
 | _ :: _,[],_,hc,_ => by simp [xKN] at hc
 | x :: xs,y :: ys,us,hc,h => by
  simp only [xKN,Bool.and_eq_true] at hc
  simp only [xVG] at h
  split at h
  ·cases h
  rename_i u hu
  simp only [Option.map_eq_some_iff] at h
  obtain ⟨us',h1,rfl⟩ := h
  obtain ⟨z,e1,e2⟩ := yCk hc.1 hs hF hu
  obtain ⟨zs,e3,e4,e5⟩ := xSZ hs hF hc.2 h1
  exact ⟨z :: zs,by simp [List.mapM_cons,e1,e3,Result.andThen],.cons e2 e4,by simp [e5]⟩
theorem xVi {fn : Func} {rs : List ARes} {s : St} (hc : xKN P fn.results.toList rs = true) (hs : Sim chk im io s.H w) (hF : FRep im io s.F a) (h : xHX rs s = some v) :
  ∃ z,(results fn a.tmps).run P w = .ok z w ∧ Rep im io v z := by
 have hk : ∃ us,xVG s rs = some us ∧ (us.length = 1 → us = [v]) ∧ (us.length ≠ 1 → v = .tup us) := by
  unfold xHX at h
  split at h
  ·rename_i r
   exact ⟨[v],by simp [xVG,h],fun _ => rfl,fun q => absurd rfl q⟩
  ·rename_i hne
   simp only [Option.map_eq_some_iff] at h
   obtain ⟨us,h1,rfl⟩ := h
   refine ⟨us,h1,fun q => ?_,fun _ => rfl⟩
   obtain ⟨zs,_,_,e⟩ := xSZ hs hF hc h1
   rw [q] at e
   match rs,e with
   | [r],_ => exact absurd rfl (hne r)
 obtain ⟨us,h1,h2,h3⟩ := hk
 obtain ⟨zs,e1,e2,e3⟩ := xSZ hs hF hc h1
 have hrun : (fn.results.mapM (xNA a.tmps)).run P w = .ok zs.toArray w := by
  have : fn.results = fn.results.toList.toArray := by simp
  rw [this,List.mapM_toArray]
  simp only [← bind_pure_comp,Sem.run_bind,e1,Result.andThen,Sem.run_pure]
 rw [xVh]
 simp only [Sem.run_bind,hrun,Result.andThen,Sem.run_pure]
 by_cases hl : zs.length = 1
 ·obtain ⟨z,rfl⟩ := List.length_eq_one_iff.1 hl
  have hu := h2 (by rw [← e2.1]; rfl)
  subst hu
  exact ⟨z,by simp,e2.2 0 _ _ rfl rfl⟩
 ·have hu := h3 (by rw [← e2.1]; exact hl)
  subst hu
  refine ⟨.tuple zs.toArray,by simp [hl],.tup e2.1 e2.2⟩
theorem Step.putMark {D : Nat} (h : Step im io w im' io' w') (hD : w.heap.size ≤ D) (o : Obj) : Step im io w im' io' (w'.putObj D o) :=
 ⟨h.im_le,h.io_le,h.os,h.tape,h.output,by rw [putObj_size]; exact h.size,fun b hb ho => by rw [World.putObj_heap_other (by omega)]; exact h.stay b hb ho,h.ownNew,h.imNew⟩
theorem xQE {fn : Func} {rs : List ARes} {s : St} {r : Option Nat} {n : Nat} (hc : xKN P fn.results.toList rs = true) (hF : FRep im' io' s.F a) (h : xHX rs s = some v) :
  ∀ (Ds : List Nat) (w' : World),Step im io w im' io' w' → Sim chk im' io' s.H w' → Ds.Nodup → (∀ D ∈ Ds,w.heap.size ≤ D ∧ w'.heap[D]? = some (.deferred (some [])) ∧ ¬ Own io' D ∧ im' D = none) →
   LeavesInM (Fw r) n P fn a.tmps (xVt chk im io w v s.H) (Ds.map yBm) .returning w' := by
 intro Ds
 induction Ds with
 | nil =>
  intro w' hst hs _ _
  obtain ⟨z,h1,h2⟩ := xVi hc hs hF h
  exact ⟨z,h1,z,im',io',rfl,hst,hs,h2⟩
 | cons D Ds ih =>
  intro w' hst hs hnd hm
  obtain ⟨g1,g2,g3,g4⟩ := hm D (List.mem_cons_self ..)
  refine ⟨by simp,.inl ⟨D,_,rfl,run_takeDeferred g2,?_⟩⟩
  refine ih _ (hst.putMark g1 _) (hs.putFree _ (fun j bj sj _ _ hj => g3 ⟨j,sj,hj⟩) g4) (List.nodup_cons.1 hnd).2 (fun D' hD' => ?_)
  obtain ⟨k1,k2,k3,k4⟩ := hm D' (List.mem_cons_of_mem _ hD')
  have hne : D' ≠ D := fun e => (List.nodup_cons.1 hnd).1 (e ▸ hD')
  exact ⟨k1,by rw [World.putObj_heap_other hne]; exact k2,k3,k4⟩
theorem xPQ (n : Nat) : Reps im io (List.replicate n (.tup [])) (List.replicate n undef) := by
 refine ⟨by simp,fun i c v h1 h2 => ?_⟩
 simp [List.getElem?_replicate] at h1 h2
 obtain ⟨_,rfl⟩ := h1
 obtain ⟨_,rfl⟩ := h2
 exact Rep.tup (vs := []) rfl (fun i c v h => by simp at h)
theorem xWc (hR : RecOk (xAV P) P R) (hL : LoopOk P R) (hmix : P.follows .mixedOrders = true) {f : Nat} {fn : Func} {af : AFunc} (hf : P.funcs[f]? = some fn) (hc : xKO P fn af = true)
  {args : List AV} {vs : List Value} (h : xGp R af args H = some (v,H')) (hs : Sim (xAV P) im io H w) (hr : Reps im io args vs) (n : Nat) :
  CallsIn (Fw none) n P f vs.toArray w (xVt (xAV P) im io w v H') := by
 simp only [xKO,Bool.and_eq_true,beq_iff_eq] at hc
 obtain ⟨⟨⟨hc1,hc2⟩,hc3⟩,_⟩ := hc
 cases hb : fn.body with
 | none => rw [hb] at hc1; cases hc1
 | some c =>
  rw [hb] at hc1
  simp only at hc1
  refine callsIn_of_wp_marks hf hb trivial ?_
  have hF : FRep im io (xQZ af args H).F { tmps := vs.toArray ++ Array.replicate (fn.ntmps - vs.toArray.size) undef,defers := [] } := by
   show Reps _ _ _ _
   have e : (vs.toArray ++ Array.replicate (fn.ntmps - vs.toArray.size) undef).toList = vs ++ List.replicate (fn.ntmps - args.length) undef := by
    simp [hr.1]
   rw [e,hc2]
   exact hr.append (xPQ _)
  have hm : MarksOk (w.heap.size,[]) im io w [] := ⟨[],rfl,List.nodup_nil,fun D hD => by cases hD⟩
  unfold xGp at h
  split at h
  ·rename_i s hrun
   simp only [Option.map_eq_some_iff,Prod.mk.injEq] at h
   obtain ⟨v',h1,rfl,rfl⟩ := h
   refine wpIn_mono (xJ7 hR hL hmix c af.code _ _ _ none n (w.heap.size,[]) hc1 (.inl rfl) hrun im io _ w hs hF hm (Nat.le_refl _)) ?_
   rintro e' a1 w1 ⟨rfl,im1,io1,t1,t2,t3,Ds,d1,d2,d3⟩
   show LeavesInM _ _ _ _ _ _ _ _ _
   rw [d1,List.append_nil]
   exact xQE hc3 t3 h1 Ds w1 t1 t2 d2 d3
  ·rename_i s hrun
   simp only [Option.map_eq_some_iff,Prod.mk.injEq] at h
   obtain ⟨v',h1,rfl,rfl⟩ := h
   refine wpIn_mono (xJ7 hR hL hmix c af.code _ _ _ none n (w.heap.size,[]) hc1 (.inl rfl) hrun im io _ w hs hF hm (Nat.le_refl _)) ?_
   rintro e' a1 w1 ⟨rfl,im1,io1,t1,t2,t3,Ds,d1,d2,d3⟩
   show LeavesInM _ _ _ _ _ _ _ _ _
   rw [d1,List.append_nil]
   exact xQE hc3 t3 h1 Ds w1 t1 t2 d2 d3
  ·cases h
theorem xZs (hR : RecOk (xAV P) P R) (hL : LoopOk P R) (hmix : P.follows .mixedOrders = true) {f : Nat} {fn : Func} {af : AFunc} (hf : P.funcs[f]? = some fn) (hc : xKO P fn af = true)
  {args : List AV} {vs : List Value} (h : xBK R af args = some v) (him : yBo im w) (hr : Reps im xKI args vs) (n : Nat) :
  CallsIn (Fw none) n P f vs.toArray w (xWt im w v) := by
 unfold xBK at h
 split at h
 case h_2 => cases h
 rename_i r H1 hb
 refine (xWc hR hL hmix hf hc hb (Sim.empty him) hr n).mono ?_
 rintro e w1 ⟨x,im1,io1,rfl,t1,t2,t3⟩
 obtain ⟨im2,a1,a2,a3,a4⟩ := xVD (bor frzN H1 r) t2
 have hown : ∀ b,Own io1 b → w.heap.size ≤ b := fun b ho => (t1.ownNew b ho).elim (fun ⟨_,_,q⟩ => by cases q) id
 refine ⟨x,im2,rfl,t1.im_le.trans a1,a2.imin,fun b o hb' => ?_,⟨t1.os,t1.tape,t1.output,t1.size,fun b hb' => t1.stay b hb' (fun ⟨_,_,q⟩ => by cases q)⟩,xLT t2 a1 frzN r v x h t3 a4⟩
 rcases a3 b o hb' with q | q
 ·rcases t1.imNew b o q with q | ⟨_,_,q⟩ | q
  ·exact .inl q
  ·cases q
  ·exact .inr q
 ·exact .inr (hown b q)
theorem xQF {f : Nat} {fn : Func} {af : AFunc} (hf : P.funcs[f]? = some fn) (hc : xKO P fn af = true) (vs : Array Value) (w : World) : (callFunc f vs).run P w = .ok (.enter f vs) w := by
 simp only [xKO,Bool.and_eq_true,bne_iff_ne] at hc
 obtain ⟨⟨⟨hc1,_⟩,_⟩,hne⟩ := hc
 cases e : fn.body with
 | none => rw [e] at hc1; cases hc1
 | some c => simp [callFunc,hf,e,hne,Result.andThen]
theorem xTN : ∀ (ps : List Nat) (args : List AV) (vs : List Value) (F : List AV) (ts : Array Value),Reps im io args vs → Reps im io F ts.toList →
  Reps im io ((ps.zip args).foldl (fun F (p,v) => F.set p v) F) ((ps.zip vs).foldl (fun tmps (t,a) => tmps.setIfInBounds t a) ts).toList
 | [],_,_,_,_,_,hF => by simpa using hF
 | p :: ps,[],vs,F,ts,hr,hF => by
  have : vs = [] := List.eq_nil_of_length_eq_zero hr.1
  subst this; simpa using hF
 | p :: ps,c :: args,vs,F,ts,hr,hF => by
  match vs,hr with
  | x :: vs,hr =>
   simp only [List.zip_cons_cons,List.foldl_cons]
   refine xTN ps args vs _ _ ⟨by simpa using hr.1,fun i c v h1 h2 => hr.2 (i + 1) c v (by simpa using h1) (by simpa using h2)⟩ ?_
   rw [Array.toList_setIfInBounds]
   exact Reps.set hF p (hr.2 0 _ _ rfl rfl)
theorem xPR (hR : RecOk (xAV P) P R) (hL : LoopOk P R) (hmix : P.follows .mixedOrders = true) {l : Nat} {args : List AV} {vs : List Value} (h : xOV R l args H = some (v,H')) (n : Nat) {b sz : Nat}
  (hs : Sim (xAV P) im io H w) (hr : Reps im io args vs) (hio : io l = some (b,sz)) :
  ∃ fn tmps assign body,(Instr.yield b vs.toArray).run P w = .ok (.round b fn tmps assign body) w ∧ RoundIn (Fw none) n P b fn tmps assign body w (xVt (xAV P) im io w v H') := by
 unfold xOV at h
 split at h
 case h_2 => cases h
 rename_i pend F0 ps asg body hH
 split at h
 case isFalse => cases h
 rename_i hcond
 obtain ⟨hlen,na,nb⟩ := hcond
 split at h
 case h_2 => cases h
 rename_i s1 hr1
 split at h
 case h_2 => cases h
 rename_i pend1 F1 ps1 asg1 body1 hH1
 split at h
 case h_2 => cases h
 rename_i e s2 hr2
 split at h
 case h_2 => cases h
 rename_i pend2 F2 ps2 asg2 body2 hH2
 simp only [Option.some.injEq] at h
 obtain ⟨b',k1,k2,r,k3,k4,k5,k6,k7,k8,k9⟩ := hs.blk _ _ hH
 rw [hio] at k1; cases k1
 have hsz : vs.toArray.size = r.params.size := by simp [k5,hr.1,hlen]
 refine ⟨r.fn,_,r.assign,r.body,run_yield k3 hsz,roundIn_of_wpIn trivial ?_⟩
 have hF0 : FRep im io ((ps.zip args).foldl (fun F (p,v) => F.set p v) F0) { tmps := (r.params.zip vs.toArray).foldl (fun tmps (t,a) => tmps.setIfInBounds t a) r.tmps,defers := [] } := by
  have := xTN ps args vs F0 r.tmps hr k9
  show Reps _ _ _ _
  have e : (r.params.zip vs.toArray).foldl (fun tmps (t,a) => tmps.setIfInBounds t a) r.tmps = (ps.zip vs).foldl (fun tmps (t,a) => tmps.setIfInBounds t a) r.tmps := by
   rw [k5,← Array.foldl_toList]; simp
  rw [e]; exact this
 have hm : MarksOk (w.heap.size,[]) im io w [] := ⟨[],rfl,List.nodup_nil,fun D hD => by cases hD⟩
 have e1 : (Fw none).inRound b = Fw (some b) := rfl
 rw [e1]
 refine wpIn_mono (xJ7 hR hL hmix r.assign asg _ _ _ (some b) n (w.heap.size,[]) k6 (.inr na) hr1 im io _ w hs hF0 hm (Nat.le_refl _)) ?_
 rintro e' a1 w1 ⟨rfl,im1,io1,t1,t2,t3,t4⟩
 show ∃ w₂,_ ∧ _
 have hio1 := t1.io_le _ _ hio
 obtain ⟨b',q1,q2,r1,q3,q4,q5,q6,q7,q8,q9⟩ := t2.blk _ _ hH1
 rw [hio1] at q1; cases q1
 refine ⟨_,run_beginRound q3 (by rw [q4]; rfl),?_⟩
 obtain ⟨s3,st3⟩ := xNk t2 hH1 hio1 q3 (st' := 1) (pend' := pend1) (state := .busy) (pc := r1.pending) rfl q8
 have r3 : ({ r1 with state := .busy } : Loop) = { r1 with state := .busy,pending := r1.pending } := rfl
 rw [← r3] at s3 st3
 refine wpIn_mono (xJ7 hR hL hmix r.body body _ _ _ (some b) n (w.heap.size,[]) k7 (.inr nb) hr2 im1 io1 _ _ s3 (t3.mono (.refl _) (.refl _)) (t4.step st3) (Nat.le_trans t1.size st3.size)) ?_
 rintro e' a2 w2 ⟨rfl,im2,io2,u1,u2,u3,u4⟩
 have hio2 := u1.io_le _ _ hio1
 obtain ⟨b',p1,p2,r2,p3,p4,p5,p6,p7,p8,p9⟩ := u2.blk _ _ hH2
 rw [hio2] at p1; cases p1
 have hst := (t1.trans st3).trans u1
 cases e with
 | normal =>
  obtain ⟨s4,st4⟩ := xNk u2 hH2 hio2 p3 (st' := 0) (pend' := none) (state := .ready) (pc := none) rfl rfl
  simp only [Prod.mk.injEq] at h
  obtain ⟨rfl,rfl⟩ := h
  exact ⟨_,_,run_endRound none p3,_,im2,io2,rfl,hst.trans st4,s4,.bool⟩
 | exit i =>
  obtain ⟨s4,st4⟩ := xNk u2 hH2 hio2 p3 (st' := 2) (pend' := some (.exit i)) (state := .done) (pc := some (.exit i)) rfl rfl
  simp only [Prod.mk.injEq] at h
  obtain ⟨rfl,rfl⟩ := h
  exact ⟨_,_,run_endRound (some (.exit i)) p3,_,im2,io2,rfl,hst.trans st4,s4,.bool⟩
 | ret =>
  obtain ⟨s4,st4⟩ := xNk u2 hH2 hio2 p3 (st' := 2) (pend' := some .ret) (state := .done) (pc := some .ret) rfl rfl
  simp only [Prod.mk.injEq] at h
  obtain ⟨rfl,rfl⟩ := h
  exact ⟨_,_,run_endRound (some .ret) p3,_,im2,io2,rfl,hst.trans st4,s4,.bool⟩
theorem yCl (hR : RecOk (xAV P) P R) (hL : LoopOk P R) (hmix : P.follows .mixedOrders = true) {scr : List Nat} {b : ACode} {s s' : St} {e : AExit} (h : xNU R scr b s = some (e,s')) {code : Code} {r : Option Nat} {n : Nat} {B : Mk}
  (hc : xAV P code b = true) (hnr : r = none ∨ b.noRange = true) (hs : Sim (xAV P) im io s.H w) (hF : FRep im io s.F a) (hm : MarksOk B im io w a.defers) (hB : B.1 ≤ w.heap.size) :
  xNB (Fw r) n P code (CPost P B im io w e s') a w := by
 unfold xNU at h
 refine xPS ?_
 split at h
 ·rename_i s1 h1
  refine wpIn_mono (xJ7 hR hL hmix code b _ _ _ r n B hc hnr h1 im io a w hs (hF.clear scr) hm hB) ?_
  rintro e' a1 w1 ⟨rfl,im1,io1,t1,t2,t3,t4⟩
  exact xS0 (hL.loop scr b s1 e s' h code r n B hc hnr im1 io1 a1 w1 t2 t3 t4 (Nat.le_trans hB t1.size)) (fun e a w hp => hp.later t1)
 ·rename_i e1 s1 hne h1
  simp only [Option.some.injEq,Prod.mk.injEq] at h
  obtain ⟨rfl,rfl⟩ := h
  refine wpIn_mono (xJ7 hR hL hmix code b _ _ _ r n B hc hnr h1 im io a w hs (hF.clear scr) hm hB) ?_
  rintro e' a1 w1 ⟨he,im1,io1,t1,t2,t3,t4⟩
  have hp : CPost P B im io w e1 ⟨xAH scr s1.F,s1.H⟩ e' a1 w1 := ⟨he,im1,io1,t1,t2,t3.clear scr,t4⟩
  cases e1 with
  | normal => exact (hne rfl).elim
  | exit i => subst he; exact hp
  | ret => subst he; exact hp
 ·cases h
structure ProgOk (P : Program) (prog : Nat → Option AFunc) : Prop where
 mixed : P.follows .mixedOrders = true
 ok : ∀ f af,prog f = some af → ∃ fn,P.funcs[f]? = some fn ∧ xKO P fn af = true
 prim : ∀ f g args v,yCE f = some g → g args = some v → prog f = none → (∀ (vs : Array Value) w,(callFunc f vs).run P w = .ok (.enter f vs) w) ∧ ∀ im w vs,yBo im w → Reps im xKI args vs → Calls P f vs.toArray w (xWt im w v)
theorem ProgOk.primA {P : Program} {prog : Nat → Option AFunc} (hp : ProgOk P prog) {f : Nat} {args : List AV} {v : AV} (h : primA f args = some v) (hn : prog f = none) : (∀ (vs : Array Value) w,(callFunc f vs).run P w = .ok (.enter f vs) w) ∧ ∀ n im w vs,yBo im w → Reps im xKI args vs → CallsIn (Fw none) n P f vs.toArray w (xWt im w v) := by
 unfold Go.Abs.primA at h
 split at h
 ·rename_i g hg
  obtain ⟨h1,h2⟩ := hp.prim f g args v hg h hn
  exact ⟨h1,fun n im w vs a b => (show CallsIn Fence.wide n P f vs.toArray w (xWt im w v) from callsIn_wide.2 (h2 im w vs a b))⟩
 ·cases h
theorem yCm : RecOk (xAV P) P Rec.none ∧ LoopOk P Rec.none :=
 ⟨⟨fun _ _ _ h => (by cases h),fun _ _ _ h => (by cases h),fun _ _ _ _ _ _ h => (by cases h),fun _ _ _ _ _ _ h => (by cases h),fun _ _ _ _ _ h => (by cases h),fun _ _ _ _ _ h => (by cases h)⟩,⟨fun _ _ _ _ _ h => (by cases h)⟩⟩
theorem yCn {prog : Nat → Option AFunc} (hp : ProgOk P prog) (hR : RecOk (xAV P) P R) (hL : LoopOk P R) : RecOk (xAV P) P (xJE prog R) ∧ LoopOk P (xJE prog R) := by
 refine ⟨⟨?_,?_,?_,?_,?_,?_⟩,⟨?_⟩⟩
 ·intro f args r h vs w
  simp only [xJE] at h
  split at h
  ·rename_i af haf
   obtain ⟨fn,h1,h2⟩ := hp.ok f af haf
   exact xQF h1 h2 vs w
  ·rename_i hn
   exact (hp.primA h hn).1 vs w
 ·intro f args r h n im w vs h1 h2
  simp only [xJE] at h
  split at h
  ·rename_i af haf
   obtain ⟨fn,g1,g2⟩ := hp.ok f af haf
   exact xZs hR hL hp.mixed g1 g2 h h1 h2 n
  ·rename_i hn
   exact (hp.primA h hn).2 n im w vs h1 h2
 ·intro f caps args H r H' h vs w
  simp only [xJE,xKd] at h
  split at h
  ·rename_i af haf
   obtain ⟨fn,h1,h2⟩ := hp.ok f af haf
   exact xQF h1 h2 vs w
  ·cases h
 ·intro f caps args H r H' h n im io w vs h1 h2
  simp only [xJE,xKd] at h
  split at h
  ·rename_i af haf
   obtain ⟨fn,g1,g2⟩ := hp.ok f af haf
   exact xWc hR hL hp.mixed g1 g2 h h1 h2 n
  ·cases h
 ·intro l args H r H' h n im io w vs b sz h1 h2 h3
  simp only [xJE,xKd] at h
  exact xPR hR hL hp.mixed h n h1 h2 h3
 ·intro f args H r H' h
  simp only [xJE] at h
  unfold xKd at h
  split at h
  ·exact .inl ⟨_,_,rfl⟩
  ·exact .inr ⟨_,rfl⟩
  ·cases h
 ·intro scr b s e s' h code r n B hc hnr im io a w hs hF hm hB
  exact yCl hR hL hp.mixed h hc hnr hs hF hm hB
theorem xL3 {prog : Nat → Option AFunc} (hp : ProgOk P prog) : ∀ n,RecOk (xAV P) P (fix prog n) ∧ LoopOk P (fix prog n)
 | 0 => yCm
 | n + 1 => yCn hp (xL3 hp n).1 (xL3 hp n).2
end
end Go.Abs
