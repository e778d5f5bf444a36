/- The interpreter's table (strings.IndexByte,strings.TrimLeft,Parse on the texts of the chapter's examples) is true of the program. -/
import Derived.Test.YtdheandekcpieaaDoorAMT
import Derived.Test.YtdheandekcpieaaDoorAMO
import Derived.Test.YtdheandekcpieaaDoorAbsLim
set_option linter.unusedVariables false
set_option linter.unusedSimpArgs false
set_option maxRecDepth 100000
namespace Go.Proofs
open Go.RowKit Go.Abs Go.Abs.Events
theorem aprogOk (f : Nat) (af : AFunc) (h : xAq f = some af) : ∃ fn,Tryd.prog.funcs[f]? = some fn ∧ xDb Tryd.prog fn af = true := by
 unfold xAq at h
 split at h
 all_goals first
  | (cases h; done)
  | (cases h; exact xQV (by kernel_rfl))
theorem prog1Ok : ProgOk Tryd.prog prog1 where
 mixed := by kernel_rfl
 ok f af h := by
  unfold prog1 at h
  split at h
  ·rename_i hf
   subst hf
   cases h
   exact xQV (by kernel_rfl)
  ·exact aprogOk f af h
 prim f g args v hp hg hn := by
  by_cases h98 : f = 98
  ·subst h98
   rw [xSW] at hp
   cases hp
   exact ⟨xPq,fun im w vs => Ev.idxOk args v hg im w vs⟩
  by_cases h99 : f = 99
  ·subst h99
   rw [xSX] at hp
   cases hp
   exact ⟨xPr,fun im w vs => Ev.trimOk args v hg im w vs⟩
  by_cases h69 : f = 69
  ·subst h69
   rw [xSY] at hp
   cases hp
   exact ⟨xPt,fun im w vs => Ev.joinOk args v hg im w vs⟩
  by_cases h12 : f = 12
  ·subst h12
   simp [prog1] at hn
  ·rw [xJs h98 h99 h69 h12] at hp
   cases hp
theorem xLM {P : Program} {im : Im} {w : World} {r v : AV} {H' : Heap} {e : Ending} {w' : World} (hf : frz frzN H' r = some v) (h : xIg (xAn P) im noIo w r H' e w') : xDN im w v e w' := by
 obtain ⟨x,im1,io1,rfl,t1,t2,t3⟩ := h
 obtain ⟨im2,a1,a2,a3,a4⟩ := xQh (bor frzN H' r) t2
 have hown : ∀ b,Own io1 b → w.heap.size ≤ b := fun b ho => (t1.ownNew b ho).elim (fun ⟨_,_,q⟩ => by cases q) id
 refine ⟨x,im2,rfl,t1.im_le.trans a1,a2.imin,fun b o hb' => ?_,⟨t1.os,t1.tape,t1.output,t1.size,fun b hb' => t1.stay b hb' (fun ⟨_,_,q⟩ => by cases q)⟩,xFF t2 a1 frzN r v x hf t3 a4⟩
 rcases a3 b o hb' with q | q
 ·rcases t1.imNew b o q with q | ⟨_,_,q⟩ | q
  ·exact .inl q
  ·cases q
  ·exact .inr q
 ·exact .inr (hown b q)
theorem xHb {P : Program} : xEl P fun _ _ _ => none := fun _ _ _ _ _ _ h => by cases h
theorem Ev.parseLim {S : List UInt8} {v : AV} (h : ∃ r H',xBA L1 (fun _ _ _ => none) [zS S] [] = some (r,H') ∧ frz frzN H' r = some v) (im : Im) (w : World) (vs : List Value) (hI : xK9 im w) (hr : Reps im noIo [zS S] vs) : Calls Tryd.prog 12 vs.toArray w (xDN im w v) := by
 obtain ⟨r,H,h1,h2⟩ := h
 have hRL := xLh prog1Ok
 have h3 := Ev.parse hRL.1 hRL.2 xHb h1 0 im noIo w vs (Sim.empty hI) hr
 exact (callsIn_wide.1 (show CallsIn Fence.wide 0 Tryd.prog 12 vs.toArray w _ from h3)).mono fun e w' hp => xLM h2 hp
theorem hP1 : P1 := ⟨(xLh prog1Ok).1,(xLh prog1Ok).2,prog1Ok.mixed⟩
theorem xHc {S : List UInt8} (h : pnp S = true) (im : Im) (w : World) (vs : List Value) (hI : xK9 im w) (hr : Reps im noIo [zS S] vs) : Calls Tryd.prog 12 vs.toArray w (xDN im w (.tup [.sl (parse S).1.isEmpty (parse S).1.length (nds (parse S).1),.int .i64 ((parse S).2.1 : Nat),.int .i64 ((parse S).2.2 : Nat)])) := by
 by_cases hl : 4096 < S.length
 ·have hp : parse S = ([],0,4) := by
   unfold parse
   rw [if_pos hl]
  rw [hp]
  exact Ev.parseLim (xQr _ hl) im w vs hI hr
 cases hpf : xCh (S.length + 1) 0 [] S with
 | ok p r' => exact Ev.parseLim (xVf _ (by omega) hpf) im w vs hI hr
 | bad rr e =>
  obtain ⟨G',ht,r,H,h1,h2⟩ := xRF hP1 (by omega) hpf
  have hp : parse S = ([],S.length - rr.length,e) := by
   unfold parse
   rw [if_neg hl,hpf]
  rw [hp]
  have hRL := yBC hP1
  have h3 := Ev.parse hRL.1 hRL.2 (xT0 ht) h1 0 im noIo w vs (Sim.empty hI) hr
  exact (callsIn_wide.1 (show CallsIn Fence.wide 0 Tryd.prog 12 vs.toArray w _ from h3)).mono fun e w' hp => xLM h2 hp
theorem Ev.primOk (f : Nat) (g : List AV → Option AV) (args : List AV) (v : AV) (hp : xKp f = some g) (hg : g args = some v) (hn : xAq f = none) :
  (∀ (vs : Array Value) w,(callFunc f vs).run Tryd.prog w = .ok (.enter f vs) w) ∧ ∀ im w vs,xK9 im w → Reps im noIo args vs → Calls Tryd.prog f vs.toArray w (xDN im w v) := by
 by_cases h98 : f = 98
 ·subst h98
  rw [xSW] at hp
  cases hp
  exact ⟨xPq,fun im w vs => Ev.idxOk args v hg im w vs⟩
 by_cases h99 : f = 99
 ·subst h99
  rw [xSX] at hp
  cases hp
  exact ⟨xPr,fun im w vs => Ev.trimOk args v hg im w vs⟩
 by_cases h69 : f = 69
 ·subst h69
  rw [xSY] at hp
  cases hp
  exact ⟨xPt,fun im w vs => Ev.joinOk args v hg im w vs⟩
 by_cases h12 : f = 12
 ·subst h12
  refine ⟨xPs,fun im w vs hI hr => ?_⟩
  rw [xXT] at hp
  cases hp
  dsimp only at hg
  split at hg
  case h_2 => cases hg
  rename_i s
  split at hg
  case isFalse => cases hg
  rename_i hnp
  cases hg
  obtain ⟨⟨l⟩⟩ := s
  exact xHc hnp im w vs hI hr
 ·rw [xJs h98 h99 h69 h12] at hp
  cases hp
end Go.Proofs
namespace Go.Abs.Events
theorem progOk : ProgOk Go.Proofs.Tryd.prog xAq where
 mixed := by kernel_rfl
 prim := Go.Proofs.Ev.primOk
 ok := Go.Proofs.aprogOk
end Go.Abs.Events
