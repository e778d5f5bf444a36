/- Calls: what the interpreter's calls say of the model's. -/
import Derived.Test.YtijmhicopfphnaaDoorAbsPriv
namespace Go.Abs
set_option linter.unusedVariables false
set_option linter.unusedSimpArgs false
open Go.RowKit
def Fw (r : Option Nat) : Fence := { fn := fun _ => True,depth := none,alive := false,round := r }
theorem yCz (r : Option Nat) (n : Nat) : (Fw r).room n := fun d hd => by simp [Fw] at hd
def yBo (im : Im) (w : World) : Prop := (∀ b o,im b = some o → w.heap[b]? = some o) ∧ GlobOk im
theorem Sim.imin {chk : Code → ACode → Bool} {im : Im} {io : Io} {H : Heap} {w : World} (h : Sim chk im io H w) : yBo im w := ⟨h.imw,h.glob⟩
def xWt (im : Im) (w : World) (r : AV) (e : Ending) (w' : World) : Prop :=
 ∃ x im',e = .returned x ∧ ImLe im im' ∧ yBo im' w' ∧ (∀ b o,im' b = some o → im b = some o ∨ w.heap.size ≤ b) ∧ Below w.heap.size w w' ∧ Rep im' xKI r x
def xVt (chk : Code → ACode → Bool) (im : Im) (io : Io) (w : World) (r : AV) (H' : Heap) (e : Ending) (w' : World) : Prop :=
 ∃ x im' io',e = .returned x ∧ Step im io w im' io' w' ∧ Sim chk im' io' H' w' ∧ Rep im' io' r x
structure RecOk (chk : Code → ACode → Bool) (P : Program) (R : Rec) : Prop where
 enters : ∀ f args r,R.pcall f args = some r → ∀ (vs : Array Value) w,(callFunc f vs).run P w = .ok (.enter f vs) w
 pcall : ∀ f args r,R.pcall f args = some r → ∀ n im w vs,yBo im w → Reps im xKI args vs → CallsIn (Fw none) n P f vs.toArray w (xWt im w r)
 ienters : ∀ f caps args H r H',R.icall (.func f caps) args H = some (r,H') → ∀ (vs : Array Value) w,(callFunc f vs).run P w = .ok (.enter f vs) w
 icall : ∀ f caps args H r H',R.icall (.func f caps) args H = some (r,H') → ∀ n im io w vs,Sim chk im io H w → Reps im io (args ++ caps) vs → CallsIn (Fw none) n P f vs.toArray w (xVt chk im io w r H')
 round : ∀ l args H r H',R.icall (.yield l) args H = some (r,H') → ∀ n im io w vs b sz,Sim chk im io H w → Reps im io args vs → io l = some (b,sz) →
  ∃ fn tmps assign body,(Instr.yield b vs.toArray).run P w = .ok (.round b fn tmps assign body) w ∧ RoundIn (Fw none) n P b fn tmps assign body w (xVt chk im io w r H')
 other : ∀ f args H r H',R.icall f args H = some (r,H') → (∃ g caps,f = .func g caps) ∨ ∃ l,f = .yield l
section
variable {chk : Code → ACode → Bool} {P : Program} {o : Oper} {a : Act} {im : Im} {io : Io} {H H' : Heap} {w : World} {F : List AV} {R : Rec} {v : AV}
theorem xNM {im im' : Im} {io io' : Io} {r : AV} {x : Value} (hs : xAJ r = true) (h : Rep im io r x) : Rep im' io' r x := by
 cases r <;> simp [xAJ] at hs
 all_goals cases h
 ·exact .int
 ·exact .bool
 ·exact .str
 ·exact .nilp
 ·exact .nilf
theorem xZw {im im' : Im} {io io' : Io} {r : AV} {x : Value} (hs : xE0 r = true) (h : Rep im io r x) : Rep im' io' r x := by
 cases r
 case agg cs =>
  simp only [xE0,List.all_eq_true] at hs
  cases h with
  | agg h1 h2 h3 => exact .agg h1 (fun i c v a b => xNM (hs c (List.mem_of_getElem? a)) (h2 i c v a b)) h3
 case tup cs =>
  simp only [xE0,List.all_eq_true] at hs
  cases h with
  | tup h1 h2 => exact .tup h1 (fun i c v a b => xNM (hs c (List.mem_of_getElem? a)) (h2 i c v a b))
 all_goals exact xNM hs h
theorem Sim.im_grow {im' : Im} {B : Nat} (h : Sim chk im io H w) (hle : ImLe im im') (hin : yBo im' w) (hnew : ∀ b o,im' b = some o → im b = some o ∨ B ≤ b) (hB : ∀ b,Own io b → b < B) : Sim chk im' io H w where
 fresh := h.fresh
 blk id b hH := (h.blk id b hH).mono hle (.refl _) (fun e => e) (fun b sz hio _ => ⟨rfl,fun e => by
  cases e' : im' b with
  | none => rfl
  | some o =>
   rcases hnew b o e' with h1 | h1
   ·rw [e] at h1; cases h1
   ·have := hB b ⟨id,sz,hio⟩; omega⟩)
 inj := h.inj
 imw := hin.1
 inb := h.inb
 glob := hin.2
theorem Below.same {w w' : World} (h : Below w.heap.size w w') : ∀ b,b < w.heap.size → w'.heap[b]? = w.heap[b]? := h.block
def yF5 (chk : Code → ACode → Bool) (im : Im) (io : Io) (w : World) (F : List AV) (dst : Option Nat) (v : AV) (H' : Heap) (a : Act) (ds : List Deferred) : Act → World → Prop := fun a' w' =>
 ∃ im' io',Step im io w im' io' w' ∧ Sim chk im' io' H' w' ∧ FRep im' io' (putA F dst v) a' ∧ a'.defers = ds ∧ ∃ x,a' = a.put dst x
theorem xNN {op : AOp} (hc : xAI P o op = true) : ∀ c,o.op ≠ .defer c := by
 intro c h
 cases op <;> simp [xAI,h] at hc
theorem xEY (a : Act) (dst : Option Nat) (x : Value) : (a.put dst x).defers = a.defers := by cases dst <;> rfl
theorem xQK (hR : RecOk chk P R) {f : Nat} {args : List AV} {vs : List Value} {r : AV} (h : xHG R f args H = some (r,H')) (hs : Sim chk im io H w) (hr : Reps im io args vs) (n : Nat) :
  (∀ (vs : Array Value) w,(callFunc f vs).run P w = .ok (.enter f vs) w) ∧
  CallsIn (Fw none) n P f vs.toArray w (fun e w' => ∃ x im',e = .returned x ∧ Step im io w im' io w' ∧ Sim chk im' io H' w' ∧ Rep im' io r x) := by
 unfold xHG at h
 split at h
 ·cases h
 rename_i args' hm
 split at h
 ·cases h
 rename_i r' hp
 cases h
 refine ⟨hR.enters f args' r hp,?_⟩
 obtain ⟨im1,a1,a2,a3,a4⟩ := xVD (args.flatMap (bor frzN H)) hs
 obtain ⟨g1,g2⟩ := xIV hm
 have hrs : Reps im1 xKI args' vs := by
  refine ⟨by rw [hr.1,g1],fun i c x hc hx => ?_⟩
  have hi : i < args.length := by have := (List.getElem?_eq_some_iff.1 hc).1; omega
  obtain ⟨y,e1,e2⟩ := g2 i args[i] (List.getElem?_eq_getElem hi)
  rw [hc] at e1; cases e1
  exact xLT hs a1 frzN args[i] c x e2 (hr.2 i _ x (List.getElem?_eq_getElem hi) hx) (a4.sub fun j hj => List.mem_flatMap.2 ⟨args[i],List.getElem_mem hi,hj⟩)
 refine (hR.pcall f args' r hp n im1 w vs a2.imin hrs).mono ?_
 rintro e w' ⟨x,im2,rfl,b1,b2,b3,b4,b5⟩
 by_cases hsc : xE0 r = true
 ·rw [if_pos hsc]
  exact ⟨x,im,rfl,Step.world b4.os b4.tape b4.output b4.size b4.block,hs.world b4.size b4.block,xZw hsc b5⟩
 ·rw [if_neg hsc]
  have hs' := a2.world b4.size b4.block
  refine ⟨x,im2,rfl,?_,hs'.im_grow b1 b2 b3 (fun b ho => hs.inb b ho),b5.mono (.refl _) (IoLe.none _)⟩
  exact ⟨a1.trans b1,.refl _,b4.os,b4.tape,b4.output,b4.size,fun b hb _ => b4.block b hb,fun _ h => .inl h,fun b o hb => by
   rcases b3 b o hb with q | q
   ·exact (a3 b o q).elim .inl (fun z => .inr (.inl z))
   ·exact .inr (.inr q)⟩
theorem Sim.empty (h : yBo im w) : Sim chk im xKI [] w where
 fresh _ _ := rfl
 blk id b hH := by simp at hH
 inj i j bi bj b si sj hi := by simp at hi
 imw := h.1
 inb b := fun ⟨_,_,h⟩ => by cases h
 glob := h.2
theorem xK0 : ∀ (ids : List Nat) (H : Heap),(fzIds H ids).length = H.length
 | [],H => rfl
 | i :: ids,H => by
  show (fzIds (H.modify i xGg) ids).length = _
  rw [xK0 ids]; simp
theorem xTS (hR : RecOk chk P R) {f : Nat} {args args' : List AV} {vs : List Value} {v0 : AV} {B : List Blk} (hm : args.mapM (frz frzN H) = some args') (h : xCG R f args' = some (v0,B)) (hs : Sim chk im io H w) (hr : Reps im io args vs) (n : Nat) :
  (∀ (vs : Array Value) w,(callFunc f vs).run P w = .ok (.enter f vs) w) ∧
  CallsIn (Fw none) n P f vs.toArray w (fun e w' => ∃ x im' io',e = .returned x ∧ Step im io w im' io' w' ∧ Sim chk im' io' (fzIds H (args.flatMap (bor frzN H)) ++ B) w' ∧ Rep im' io' (xCY H.length v0) x) := by
 unfold xCG at h
 split at h
 case h_2 => cases h
 rename_i r Hc hcall
 simp only [Option.map_eq_some_iff,Prod.mk.injEq] at h
 obtain ⟨⟨v1,Bp⟩,hcomp,e1,e2⟩ := h
 simp only at e1 e2
 subst e1; subst e2
 refine ⟨hR.ienters _ _ _ _ _ _ hcall,?_⟩
 obtain ⟨im1,a1,a2,a3,a4⟩ := xVD (args.flatMap (bor frzN H)) hs
 obtain ⟨g1,g2⟩ := xIV hm
 have hrs : Reps im1 xKI args' vs := by
  refine ⟨by rw [hr.1,g1],fun i c x hc hx => ?_⟩
  have hi : i < args.length := by have := (List.getElem?_eq_some_iff.1 hc).1; omega
  obtain ⟨y,e1,e2⟩ := g2 i args[i] (List.getElem?_eq_getElem hi)
  rw [hc] at e1; cases e1
  exact xLT hs a1 frzN args[i] c x e2 (hr.2 i _ x (List.getElem?_eq_getElem hi) hx) (a4.sub fun j hj => List.mem_flatMap.2 ⟨args[i],List.getElem_mem hi,hj⟩)
 refine (hR.icall f [] args' [] r Hc hcall n im1 xKI w vs (Sim.empty a2.imin) (by rw [List.append_nil]; exact hrs)).mono ?_
 rintro e w' ⟨x,im2,io2,rfl,b1,b2,b3⟩
 obtain ⟨m1,m2,m3⟩ := xVu hcomp b3
 have hsize : ∀ b,Own io2 b → w.heap.size ≤ b := fun b ho => (b1.ownNew b ho).elim (fun ⟨_,_,q⟩ => by cases q) id
 have hno : ∀ b,Own io2 b → ¬ Own io b ∧ w.heap.size ≤ b := fun b ho => ⟨fun ho' => by have := hs.inb b ho'; have := hsize b ho; omega,hsize b ho⟩
 have hst : ∀ b,b < w.heap.size → w'.heap[b]? = w.heap[b]? := fun b hb => b1.stay b hb (fun ⟨_,_,q⟩ => by cases q)
 have him : ∀ b o,im2 b = some o → im1 b = some o ∨ w.heap.size ≤ b := fun b o hb => by
  rcases b1.imNew b o hb with q | ⟨_,_,q⟩ | q
  ·exact .inl q
  ·cases q
  ·exact .inr q
 have hs2 := (a2.world b1.size hst).im_grow b1.im_le b2.imin him (fun b ho => hs.inb b ho)
 have hp := xZz m1 b2 hno
 have hadd := hs2.addAll hp
 rw [xK0] at hadd
 refine ⟨x,im2,_,rfl,?_,hadd,xQN (fun k y hk => by rw [xJm]; exact hk) m3 m2⟩
 refine ⟨a1.trans b1.im_le,xP1 hs.fresh,b1.os,b1.tape,b1.output,b1.size,fun b hb _ => hst b hb,fun b ho => ?_,fun b o hb => ?_⟩
 ·rcases xMa ho with q | ⟨k,s,q⟩
  ·exact .inl q
  ·obtain ⟨_,_,_,_,_,_,_,_,_,_,q⟩ := hp.own q
   exact .inr q
 ·rcases him b o hb with q | q
  ·rcases a3 b o q with q | q
   ·exact .inl q
   ·exact .inr (.inl q)
  ·exact .inr (.inr q)
theorem xWu (hR : RecOk chk P R) {f : Nat} {args args' : List AV} {vs : List Value} {v0 : AV} {B : Heap} (hm : args.mapM (frz frzN H) = some args') (h : xJi R f args' = some (v0,B)) (hs : Sim chk im io H w) (hr : Reps im io args vs) (n : Nat) :
  (∀ (vs : Array Value) w,(callFunc f vs).run P w = .ok (.enter f vs) w) ∧
  CallsIn (Fw none) n P f vs.toArray w (fun e w' => ∃ x im' io',e = .returned x ∧ Step im io w im' io' w' ∧ Sim chk im' io' (fzIds H (args.flatMap (bor frzN H)) ++ B.map (xI0 H.length)) w' ∧ Rep im' io' (xCY H.length v0) x) := by
 unfold xJi at h
 split at h
 case h_2 => cases h
 rename_i r Hc hcall
 split at h
 case isFalse => cases h
 rename_i hrel
 cases h
 refine ⟨hR.ienters _ _ _ _ _ _ hcall,?_⟩
 obtain ⟨im1,a1,a2,a3,a4⟩ := xVD (args.flatMap (bor frzN H)) hs
 obtain ⟨g1,g2⟩ := xIV hm
 have hrs : Reps im1 xKI args' vs := by
  refine ⟨by rw [hr.1,g1],fun i c x hc hx => ?_⟩
  have hi : i < args.length := by have := (List.getElem?_eq_some_iff.1 hc).1; omega
  obtain ⟨y,e1,e2⟩ := g2 i args[i] (List.getElem?_eq_getElem hi)
  rw [hc] at e1; cases e1
  exact xLT hs a1 frzN args[i] c x e2 (hr.2 i _ x (List.getElem?_eq_getElem hi) hx) (a4.sub fun j hj => List.mem_flatMap.2 ⟨args[i],List.getElem_mem hi,hj⟩)
 refine (hR.icall f [] args' [] v0 B hcall n im1 xKI w vs (Sim.empty a2.imin) (by rw [List.append_nil]; exact hrs)).mono ?_
 rintro e w' ⟨x,im2,io2,rfl,b1,b2,b3⟩
 have hsize : ∀ b,Own io2 b → w.heap.size ≤ b := fun b ho => (b1.ownNew b ho).elim (fun ⟨_,_,q⟩ => by cases q) id
 have hno : ∀ b,Own io2 b → ¬ Own io b := fun b ho ho' => by have := hs.inb b ho'; have := hsize b ho; omega
 have hst : ∀ b,b < w.heap.size → w'.heap[b]? = w.heap[b]? := fun b hb => b1.stay b hb (fun ⟨_,_,q⟩ => by cases q)
 have him : ∀ b o,im2 b = some o → im1 b = some o ∨ w.heap.size ≤ b := fun b o hb => by
  rcases b1.imNew b o hb with q | ⟨_,_,q⟩ | q
  ·exact .inl q
  ·cases q
  ·exact .inr q
 have hs2 := (a2.world b1.size hst).im_grow b1.im_le b2.imin him (fun b ho => hs.inb b ho)
 have hadd := hs2.join b2 hno
 rw [xK0] at hadd
 refine ⟨x,im2,_,rfl,?_,hadd,xWv (fun k y hk => by rw [xIm]; exact hk) hrel b3⟩
 refine ⟨a1.trans b1.im_le,xQO hs.fresh,b1.os,b1.tape,b1.output,b1.size,fun b hb _ => hst b hb,fun b ho => ?_,fun b o hb => ?_⟩
 ·rcases xOP ho with q | q
  ·exact .inl q
  ·exact .inr (hsize b q)
 ·rcases him b o hb with q | q
  ·rcases a3 b o q with q | q
   ·exact .inl q
   ·exact .inr (.inl q)
  ·exact .inr (.inr q)
theorem xK1 {xs : Array Operand} {f : FuncId} {ts : Array TypeId} {t : TypeId} : resolve a.eval { callee := .value (.func f),args := xs,argTypes := ts } t = pure { target := .fn (.func f) #[],args := xs.map a.eval } := by
 simp [resolve,Act.eval,Deferred.ofValue]
theorem xPZ (hR : RecOk chk P R) {op : AOp} {r : Option Nat} {n : Nat} (hc : xAI P o op = true) (hs : Sim chk im io H w) (hF : FRep im io F a) (h : xAc R F H op = some (v,H')) (Q : Exit → Act → World → Prop) :
  o.wpIn (Fw r) n P a w (yF5 chk im io w F o.dst v H' a a.defers) Q := by
 refine ⟨fun f _ => trivial,?_⟩
 rw [Oper.semAt_eq _ _ _ (xNN hc)]
 by_cases hp : op.plain = true
 ·obtain ⟨im',io',w',x,hrun,s1,s2,s3⟩ := yCA hp hc hs hF h
  rcases hrun with hrun | ⟨hrun,rfl⟩
  ·rw [hrun]
   exact ⟨im',io',s1,s2,(hF.mono s1.im_le s1.io_le).put _ s3,xEY _ _ _,_,rfl⟩
  ·rw [hrun]
   exact ⟨im',io',s1,s2,(hF.mono s1.im_le s1.io_le).put _ s3,xEY _ _ _,_,rfl⟩
 ·cases op <;> simp [AOp.plain] at hp
  case call f args =>
   simp only [xAI] at hc
   simp only [xAc] at h
   split at hc
   case h_2 => cases hc
   rename_i g xs ts ho
   simp only [Bool.and_eq_true,beq_iff_eq] at hc
   obtain ⟨rfl,hargs⟩ := hc
   have hr := xGd (im := im) (io := io) hF hargs
   obtain ⟨hent,hcall⟩ := xQK hR h hs hr (n - 1)
   have hrun : (execOp a.eval o).run P w = .ok (.enter f (xs.map a.eval)) w := by
    simp only [execOp,ho,xK1,Sem.run_bind,Sem.run_pure,Result.andThen,invoke,Array.append_empty]
    exact hent _ _
   rw [hrun,Oper.uponIn_enter]
   refine ⟨fun hd => by simp [Fw] at hd,?_⟩
   have e : (xs.toList.map a.eval).toArray = xs.map a.eval := by rw [← Array.toList_inj]; simp
   rw [e] at hcall
   have hcall' : CallsIn (Fw r) (n - 1) P f (xs.map a.eval) w _ := ⟨trivial,hcall.2⟩
   refine hcall'.mono ?_
   rintro e w' ⟨x,im',rfl,s1,s2,s3⟩
   exact ⟨im',io,s1,s2,(hF.mono s1.im_le s1.io_le).put _ s3,xEY _ _ _,_,rfl⟩
  case ocall f args =>
   simp only [xAI] at hc
   simp only [xAc] at h
   split at hc
   case h_2 => cases hc
   rename_i g xs ts ho
   simp only [Bool.and_eq_true,beq_iff_eq] at hc
   obtain ⟨rfl,hargs⟩ := hc
   have hr := xGd (im := im) (io := io) hF hargs
   split at h
   ·cases h
   rename_i args' hm
   split at h
   ·cases h
   rename_i v0 B hoc
   simp only [Option.some.injEq,Prod.mk.injEq] at h
   obtain ⟨rfl,rfl⟩ := h
   obtain ⟨hent,hcall⟩ := xTS hR hm hoc hs hr (n - 1)
   have hrun : (execOp a.eval o).run P w = .ok (.enter f (xs.map a.eval)) w := by
    simp only [execOp,ho,xK1,Sem.run_bind,Sem.run_pure,Result.andThen,invoke,Array.append_empty]
    exact hent _ _
   rw [hrun,Oper.uponIn_enter]
   refine ⟨fun hd => by simp [Fw] at hd,?_⟩
   have e : (xs.toList.map a.eval).toArray = xs.map a.eval := by rw [← Array.toList_inj]; simp
   rw [e] at hcall
   have hcall' : CallsIn (Fw r) (n - 1) P f (xs.map a.eval) w _ := ⟨trivial,hcall.2⟩
   refine hcall'.mono ?_
   rintro e w' ⟨x,im',io',rfl,s1,s2,s3⟩
   exact ⟨im',io',s1,s2,(hF.mono s1.im_le s1.io_le).put _ s3,xEY _ _ _,_,rfl⟩
  case ocallw f args =>
   simp only [xAI] at hc
   simp only [xAc] at h
   split at hc
   case h_2 => cases hc
   rename_i g xs ts ho
   simp only [Bool.and_eq_true,beq_iff_eq] at hc
   obtain ⟨rfl,hargs⟩ := hc
   have hr := xGd (im := im) (io := io) hF hargs
   split at h
   ·cases h
   rename_i args' hm
   split at h
   ·cases h
   rename_i v0 B hoc
   simp only [Option.some.injEq,Prod.mk.injEq] at h
   obtain ⟨rfl,rfl⟩ := h
   obtain ⟨hent,hcall⟩ := xWu hR hm hoc hs hr (n - 1)
   have hrun : (execOp a.eval o).run P w = .ok (.enter f (xs.map a.eval)) w := by
    simp only [execOp,ho,xK1,Sem.run_bind,Sem.run_pure,Result.andThen,invoke,Array.append_empty]
    exact hent _ _
   rw [hrun,Oper.uponIn_enter]
   refine ⟨fun hd => by simp [Fw] at hd,?_⟩
   have e : (xs.toList.map a.eval).toArray = xs.map a.eval := by rw [← Array.toList_inj]; simp
   rw [e] at hcall
   have hcall' : CallsIn (Fw r) (n - 1) P f (xs.map a.eval) w _ := ⟨trivial,hcall.2⟩
   refine hcall'.mono ?_
   rintro e w' ⟨x,im',io',rfl,s1,s2,s3⟩
   exact ⟨im',io',s1,s2,(hF.mono s1.im_le s1.io_le).put _ s3,xEY _ _ _,_,rfl⟩
  case ofcall f args =>
   simp only [xAI] at hc
   simp only [xAc] at h
   split at hc
   case h_2 => cases hc
   rename_i g xs ts ho
   simp only [Bool.and_eq_true] at hc
   obtain ⟨hf,hargs⟩ := hc
   have hr := xGd (im := im) (io := io) hF hargs
   have hfr := xAj (im := im) (io := io) hf hF
   split at h
   case h_2 => cases h
   rename_i fn caps hfn
   rw [hfn] at hfr
   generalize hv : a.eval g = gv at hfr
   cases hfr with
   | func hl hcc =>
    rename_i ws
    split at h
    ·cases h
    rename_i args' hm
    split at h
    ·cases h
    rename_i v0 B hoc
    simp only [Option.some.injEq,Prod.mk.injEq] at h
    obtain ⟨rfl,rfl⟩ := h
    obtain ⟨hent,hcall⟩ := xTS hR hm hoc hs (hr.append ⟨hl,hcc⟩) (n - 1)
    have hrun : (execOp a.eval o).run P w = .ok (.enter fn (xs.map a.eval ++ ws.toArray)) w := by
     simp only [execOp,ho,resolve,hv,Deferred.ofValue,Sem.run_bind,Sem.run_pure,Result.andThen,invoke,Array.empty_append]
     exact hent _ _
    rw [hrun,Oper.uponIn_enter]
    refine ⟨fun hd => by simp [Fw] at hd,?_⟩
    have e : (xs.toList.map a.eval ++ ws).toArray = xs.map a.eval ++ ws.toArray := by rw [← Array.toList_inj]; simp
    rw [e] at hcall
    have hcall' : CallsIn (Fw r) (n - 1) P fn (xs.map a.eval ++ ws.toArray) w _ := ⟨trivial,hcall.2⟩
    refine hcall'.mono ?_
    rintro e w' ⟨x,im',io',rfl,s1,s2,s3⟩
    exact ⟨im',io',s1,s2,(hF.mono s1.im_le s1.io_le).put _ s3,xEY _ _ _,_,rfl⟩
  case fcall f args =>
   simp only [xAI] at hc
   simp only [xAc] at h
   split at hc
   case h_2 => cases hc
   rename_i g xs ts ho
   simp only [Bool.and_eq_true] at hc
   obtain ⟨hf,hargs⟩ := hc
   have hr := xGd (im := im) (io := io) hF hargs
   have hfr := xAj (im := im) (io := io) hf hF
   split at h
   case h_2 => cases h
   rename_i fn caps hfn
   rw [hfn] at hfr
   generalize hv : a.eval g = gv at hfr
   cases hfr with
   | func hl hcc =>
    rename_i ws
    obtain ⟨hent,hcall⟩ := xQK hR h hs (hr.append ⟨hl,hcc⟩) (n - 1)
    have hrun : (execOp a.eval o).run P w = .ok (.enter fn (xs.map a.eval ++ ws.toArray)) w := by
     simp only [execOp,ho,resolve,hv,Deferred.ofValue,Sem.run_bind,Sem.run_pure,Result.andThen,invoke,Array.empty_append]
     exact hent _ _
    rw [hrun,Oper.uponIn_enter]
    refine ⟨fun hd => by simp [Fw] at hd,?_⟩
    have e : (xs.toList.map a.eval ++ ws).toArray = xs.map a.eval ++ ws.toArray := by rw [← Array.toList_inj]; simp
    rw [e] at hcall
    have hcall' : CallsIn (Fw r) (n - 1) P fn (xs.map a.eval ++ ws.toArray) w _ := ⟨trivial,hcall.2⟩
    refine hcall'.mono ?_
    rintro e w' ⟨x,im',rfl,s1,s2,s3⟩
    exact ⟨im',io,s1,s2,(hF.mono s1.im_le s1.io_le).put _ s3,xEY _ _ _,_,rfl⟩
  case bcall f args =>
   simp only [xAI] at hc
   simp only [xAc] at h
   split at hc
   case h_2 => cases hc
   rename_i g xs ts ho
   simp only [Bool.and_eq_true] at hc
   obtain ⟨hf,hargs⟩ := hc
   have hr := xGd (im := im) (io := io) hF hargs
   have hfr := xAj (im := im) (io := io) hf hF
   split at h
   case h_2 => cases h
   rename_i fn first hfn
   rw [hfn] at hfr
   generalize hv : a.eval g = gv at hfr
   cases hfr with
   | bfunc hl hcc =>
    rename_i ws
    have hfirst : Reps im io first ws := ⟨hl,hcc⟩
    have hcall := hR.icall _ _ _ _ _ _ h (n - 1) im io w _ hs ((hfirst.append hr).append .nil)
    have hent := hR.ienters _ _ _ _ _ _ h
    have hrun : (execOp a.eval o).run P w = .ok (.enter fn (ws.toArray ++ xs.map a.eval)) w := by
     simp only [execOp,ho,resolve,hv,Deferred.ofValue,Sem.run_bind,Sem.run_pure,Result.andThen,invoke,Array.append_empty]
     exact hent _ _
    rw [hrun,Oper.uponIn_enter]
    refine ⟨fun hd => by simp [Fw] at hd,?_⟩
    have e : ((ws ++ xs.toList.map a.eval) ++ []).toArray = ws.toArray ++ xs.map a.eval := by rw [← Array.toList_inj]; simp
    rw [e] at hcall
    have hcall' : CallsIn (Fw r) (n - 1) P fn (ws.toArray ++ xs.map a.eval) w _ := ⟨trivial,hcall.2⟩
    refine hcall'.mono ?_
    rintro e w' ⟨x,im',io',rfl,s1,s2,s3⟩
    exact ⟨im',io',s1,s2,(hF.mono s1.im_le s1.io_le).put _ s3,xEY _ _ _,_,rfl⟩
  case icall f args =>
   simp only [xAI] at hc
   simp only [xAc] at h
   split at hc
   case h_2 => cases hc
   rename_i g xs ts ho
   simp only [Bool.and_eq_true] at hc
   obtain ⟨hf,hargs⟩ := hc
   have hr := xGd (im := im) (io := io) hF hargs
   have hfr := xAj (im := im) (io := io) hf hF
   rcases hR.other _ _ _ _ _ h with ⟨fn,caps,hfn⟩ | ⟨l,hl⟩
   ·rw [hfn] at h hfr
    generalize hv : a.eval g = gv at hfr
    cases hfr with
    | func hl hcc =>
     rename_i ws
     have hcall := hR.icall _ _ _ _ _ _ h (n - 1) im io w _ hs (hr.append ⟨hl,hcc⟩)
     have hent := hR.ienters _ _ _ _ _ _ h
     have hrun : (execOp a.eval o).run P w = .ok (.enter fn (xs.map a.eval ++ ws.toArray)) w := by
      simp only [execOp,ho,resolve,hv,Deferred.ofValue,Sem.run_bind,Sem.run_pure,Result.andThen,invoke,Array.empty_append]
      exact hent _ _
     rw [hrun,Oper.uponIn_enter]
     refine ⟨fun hd => by simp [Fw] at hd,?_⟩
     have e : (xs.toList.map a.eval ++ ws).toArray = xs.map a.eval ++ ws.toArray := by rw [← Array.toList_inj]; simp
     rw [e] at hcall
     have hcall' : CallsIn (Fw r) (n - 1) P fn (xs.map a.eval ++ ws.toArray) w _ := ⟨trivial,hcall.2⟩
     refine hcall'.mono ?_
     rintro e w' ⟨x,im',io',rfl,s1,s2,s3⟩
     exact ⟨im',io',s1,s2,(hF.mono s1.im_le s1.io_le).put _ s3,xEY _ _ _,_,rfl⟩
   ·rw [hl] at h hfr
    generalize hv : a.eval g = gv at hfr
    cases hfr with
    | yield hio =>
     rename_i b sz
     obtain ⟨fn,tmps,assign,body,hy,hround⟩ := hR.round _ _ _ _ _ h (n - 1) im io w _ b sz hs hr hio
     have e : (xs.toList.map a.eval).toArray = xs.map a.eval := by rw [← Array.toList_inj]; simp
     rw [e] at hy
     have hrun : (execOp a.eval o).run P w = .ok (.round b fn tmps assign body) w := by
      simp only [execOp,ho,resolve,hv,Deferred.ofValue,Sem.run_bind,Sem.run_pure,Result.andThen,invoke,Array.empty_append]
      exact hy
     rw [hrun,Oper.uponIn_round]
     refine ⟨fun hd => by simp [Fw] at hd,?_⟩
     have hround' : RoundIn (Fw r) (n - 1) P b fn tmps assign body w (xVt chk im io w v H') := ⟨trivial,hround.2⟩
     refine hround'.mono ?_
     rintro e w' ⟨x,im',io',rfl,s1,s2,s3⟩
     exact ⟨im',io',s1,s2,(hF.mono s1.im_le s1.io_le).put _ s3,xEY _ _ _,_,rfl⟩
end
end Go.Abs
