/- Runs that end in a panic,step by step. -/
import Derived.Test.YtdheandekcpieaaDoorAbsThrow
namespace Go.Abs
set_option linter.unusedVariables false
set_option linter.unusedSimpArgs false
open Go.RowKit
def Thr (P : Program) (g : Nat) (args : List AV) (H : Heap) (T : Nat) (v : AV) (H' : Heap) : Prop :=
 (∀ (vs : Array Value) w,(callFunc g vs).run P w = .ok (.enter g vs) w) ∧
  ∀ n im io w vs,Sim (xAn P) im io H w → Reps im io args vs → CallsIn (Fw none) n P g vs.toArray w (xXY P im io w T v H')
inductive TR (P : Program) (R : Rec) : TCode → St → Nat → AV → St → Prop
 | leaf {c : TCode} {s s' : St} {T : Nat} {v : AV} (n : Nat) {C : Nat → List AV → Heap → Option (Nat × AV × Heap)} (hC : xEl P C) (hl : ∀ c1,xEk P (.loop c1) c = false) (h : xBD R C n c s = some (T,v,s')) : TR P R c s T v s'
 | seqL {x : ACode} {a b : TCode} {s s' : St} {T : Nat} {v : AV} (h : TR P R a s T v s') : TR P R (.seq x a b) s T v s'
 | seqR {x : ACode} {a b : TCode} {s s1 s' : St} {T : Nat} {v : AV} (hx : run R x s = some (.normal,s1)) (h : TR P R b s1 T v s') : TR P R (.seq x a b) s T v s'
 | condT {c : Arg} {a b : TCode} {s s' : St} {T : Nat} {v : AV} (hc : opv s.F c = .bool true) (h : TR P R a s T v s') : TR P R (.cond c a b) s T v s'
 | condF {c : Arg} {a b : TCode} {s s' : St} {T : Nat} {v : AV} (hc : opv s.F c = .bool false) (h : TR P R b s T v s') : TR P R (.cond c a b) s T v s'
 | block {b : TCode} {s s' : St} {T : Nat} {v : AV} (h : TR P R b s T v s') : TR P R (.block b) s T v s'
 | scope {b : TCode} {s s' : St} {T : Nat} {v : AV} (h : TR P R b s T v s') : TR P R (.scope b) s T v s'
 | loop {scr : List Nat} {x : ACode} {b : TCode} {s s' : St} {T : Nat} {v : AV} (h : TR P R b ⟨xAu scr s.F,s.H⟩ T v s') : TR P R (.loop scr x b) s T v s'
 | loopN {scr : List Nat} {x : ACode} {b : TCode} {s s1 s' : St} {T : Nat} {v : AV} (hx : run R x ⟨xAu scr s.F,s.H⟩ = some (.normal,s1)) (h : TR P R (.loop scr x b) s1 T v s') : TR P R (.loop scr x b) s T v s'
section
variable {P : Program} {R : Rec}
noncomputable def one (g0 : Nat) (a0 : List AV) (H0 : Heap) (r : Nat × AV × Heap) : Nat → List AV → Heap → Option (Nat × AV × Heap) := fun g a H =>
 open Classical in if g = g0 ∧ a = a0 ∧ H = H0 then some r else none
theorem xK4 (g : Nat) (a : List AV) (H : Heap) (r : Nat × AV × Heap) : one g a H r g a H = some r := if_pos ⟨rfl,rfl,rfl⟩
theorem xT0 {g : Nat} {a : List AV} {H H' : Heap} {T : Nat} {v : AV} (h : Thr P g a H T v H') : xEl P (one g a H (T,v,H')) := by
 intro g1 a1 H1 T1 v1 H1' h1
 unfold one at h1
 split at h1
 ·rename_i hc
  obtain ⟨rfl,rfl,rfl⟩ := hc
  cases h1
  exact h
 ·cases h1
theorem xYV {pre : List AOper} {g : Nat} {args : List Arg} {s s1 : St} {T : Nat} {v : AV} {H' : Heap} (h : xAx R pre s = some s1) (ht : Thr P g (args.map (opv s1.F)) s1.H T v H') : TR P R (.call pre g args) s T v ⟨s1.F,H'⟩ := by
 refine .leaf 1 (xT0 ht) (fun _ => rfl) ?_
 simp only [xBD,h,xK4,Option.map_some]
theorem xVP {pre : List AOper} {g : Nat} {args : List Arg} {s s1 : St} {pl : List Pr} {T : Nat} {v : AV} {H' : Heap} (h : xAD R pre s = some (s1,pl)) (ht : Thr P g (args.map (opv s1.F)) s.H T v H') : TR P R (.dcall pre g args) s T v ⟨List.replicate s.F.length .any,H'⟩ := by
 refine .leaf 1 (xT0 ht) (fun _ => rfl) ?_
 simp only [xBD,h,xK4,Option.map_some]
theorem yAP {pre : List AOper} {t T : Nat} {x : Arg} {s s1 : St} (h : xAx R pre s = some s1) (ht : t < s1.F.length) (hs : xAN (opv s1.F x) = true) : TR P R (.thr pre t T x) s T (opv s1.F x) ⟨s1.F.set t .any,s1.H⟩ := by
 refine .leaf 1 (C := fun _ _ _ => none) (fun _ _ _ _ _ _ h => by cases h) (fun _ => rfl) ?_
 simp only [xBD,h,ht,hs,and_self,if_true]
theorem xT1 (hR : RecOk (xAn P) P R) (hL : LoopOk P R) (hmix : P.follows .mixedOrders = true) {code : TCode} {s s' : St} {T : Nat} {v : AV} (h : TR P R code s T v s') : ∀ (c : Code) (n : Nat) (B : Mk),xEk P c code = true →
  ∀ im io a w,Sim (xAn P) im io s.H w → FRep im io s.F a → MarksOk B im io w a.defers → B.1 ≤ w.heap.size → c.wpIn (Fw none) n P (TPost P B im io w T v s') a w ∧ ∀ c1,c = .loop c1 → xE0 (Fw none) n P c1 (TPost P B im io w T v s') a w := by
 induction h with
 | leaf n hC hl h =>
  intro c m B hc im io a w hs hF hm hB
  exact ⟨xJY hR hL hmix hC n c _ _ _ _ _ m B hc h im io a w hs hF hm hB,fun c1 e => by rw [e,hl c1] at hc; cases hc⟩
 | seqL h ih =>
  intro c n B hc im io a w hs hF hm hB
  cases c <;> simp [xEk] at hc
  obtain ⟨⟨hc0,hc1⟩,hc2⟩ := hc
  refine ⟨?_,fun c1 e => by cases e⟩
  refine wpIn_seq (wpIn_mono (ih _ n B hc1 im io a w hs hF hm hB).1 ?_)
  rintro e' a1 w1 ⟨y,im1,io1,rfl,hp⟩
  exact ⟨y,im1,io1,rfl,hp⟩
 | seqR hx h ih =>
  intro c n B hc im io a w hs hF hm hB
  cases c <;> simp [xEk] at hc
  obtain ⟨⟨hc0,hc1⟩,hc2⟩ := hc
  refine ⟨?_,fun c1 e => by cases e⟩
  refine wpIn_seq (wpIn_mono (xBt hR hL hmix _ _ _ _ .normal none n B hc0 (.inl rfl) hx im io a w hs hF hm hB) ?_)
  rintro e' a1 w1 ⟨rfl,im1,io1,t1,t2,t3,t4⟩
  refine wpIn_mono (ih _ n B hc2 im1 io1 a1 w1 t2 t3 t4 (Nat.le_trans hB t1.size)).1 ?_
  intro e' a2 w2 hp
  exact hp.later t1
 | condT hz h ih =>
  intro c n B hc im io a w hs hF hm hB
  cases c <;> simp [xEk] at hc
  obtain ⟨⟨hz0,hc1⟩,hc2⟩ := hc
  have hr := xAi hz0 hF
  rw [hz] at hr
  generalize hv : a.eval _ = cv at hr
  cases hr
  exact ⟨wpIn_cond hv (ih _ n B hc1 im io a w hs hF hm hB).1,fun c1 e => by cases e⟩
 | condF hz h ih =>
  intro c n B hc im io a w hs hF hm hB
  cases c <;> simp [xEk] at hc
  obtain ⟨⟨hz0,hc1⟩,hc2⟩ := hc
  have hr := xAi hz0 hF
  rw [hz] at hr
  generalize hv : a.eval _ = cv at hr
  cases hr
  exact ⟨wpIn_cond hv (ih _ n B hc2 im io a w hs hF hm hB).1,fun c1 e => by cases e⟩
 | block h ih =>
  intro c n B hc im io a w hs hF hm hB
  cases c <;> simp [xEk] at hc
  refine ⟨?_,fun c1 e => by cases e⟩
  refine wpIn_block (wpIn_mono (ih _ n B hc im io a w hs hF hm hB).1 ?_)
  rintro e' a1 w1 ⟨y,im1,io1,rfl,hp⟩
  exact ⟨y,im1,io1,rfl,hp⟩
 | scope h ih =>
  intro c n B hc im io a w hs hF hm hB
  cases c <;> simp [xEk] at hc
  refine ⟨?_,fun c1 e => by cases e⟩
  refine xIo (wpIn_mono (ih _ n B hc im io a w hs hF hm hB).1 ?_)
  rintro e' a1 w1 ⟨y,im1,io1,rfl,hp⟩
  exact ⟨y,im1,io1,rfl,hp⟩
 | loop h ih =>
  intro c n B hc im io a w hs hF hm hB
  cases c <;> simp [xEk] at hc
  obtain ⟨hc0,hc1⟩ := hc
  refine (fun hk => ⟨xJ8 hk,fun c1 e => by cases e; exact hk⟩) (xCm ?_)
  refine wpIn_mono (ih _ n B hc1 im io a w hs (hF.clear _) hm hB).1 ?_
  rintro e' a1 w1 ⟨y,im1,io1,rfl,hp⟩
  exact ⟨y,im1,io1,rfl,hp⟩
 | loopN hx h ih =>
  intro c n B hc im io a w hs hF hm hB
  have hcc := hc
  cases c <;> simp [xEk] at hc
  obtain ⟨hc0,hc1⟩ := hc
  refine (fun hk => ⟨xJ8 hk,fun c1 e => by cases e; exact hk⟩) (xCm ?_)
  refine wpIn_mono (xBt hR hL hmix _ _ _ _ .normal none n B hc0 (.inl rfl) hx im io a w hs (hF.clear _) hm hB) ?_
  rintro e' a1 w1 ⟨rfl,im1,io1,t1,t2,t3,t4⟩
  exact xEF ((ih _ n B hcc im1 io1 a1 w1 t2 t3 t4 (Nat.le_trans hB t1.size)).2 _ rfl) (fun e a w hp => TPost.later t1 hp)
theorem xVQ (hR : RecOk (xAn P) P R) (hL : LoopOk P R) (hmix : P.follows .mixedOrders = true) {code : TCode} {s s' : St} {T : Nat} {v : AV} (h : TR P R code s T v s') (c : Code) (n : Nat) (B : Mk) (hc : xEk P c code = true) (im : Im) (io : Io) (a : Act) (w : World) (hs : Sim (xAn P) im io s.H w) (hF : FRep im io s.F a) (hm : MarksOk B im io w a.defers) (hB : B.1 ≤ w.heap.size) : c.wpIn (Fw none) n P (TPost P B im io w T v s') a w :=
 (xT1 hR hL hmix h c n B hc im io a w hs hF hm hB).1
theorem yAQ (hR : RecOk (xAn P) P R) (hL : LoopOk P R) (hmix : P.follows .mixedOrders = true) {f : Nat} {tf : TFunc} (hc : xKQ P f tf = true) {args : List AV} {H : Heap} {T : Nat} {v : AV} {s' : St}
  (h : TR P R tf.code ⟨args ++ List.replicate (tf.ntmps - args.length) (.tup []),H⟩ T v s') : Thr P f args H T v s'.H := by
 unfold xKQ at hc
 split at hc
 case h_2 => cases hc
 rename_i fn hf
 simp only [Bool.and_eq_true,beq_iff_eq,bne_iff_ne] at hc
 obtain ⟨⟨hc1,hc2⟩,hne⟩ := hc
 split at hc1
 case h_2 => cases hc1
 rename_i c hb
 refine ⟨fun vs w => by simp [callFunc,hf,hb,hne,Result.andThen],fun n' im io w vs hs hr => ?_⟩
 refine callsIn_of_wp_marks hf hb trivial ?_
 have hF : FRep im io (args ++ List.replicate (tf.ntmps - args.length) (.tup [])) { tmps := vs.toArray ++ Array.replicate (fn.ntmps - vs.toArray.size) undef,defers := [] } := by
  show Reps _ _ _ _
  have e : (vs.toArray ++ Array.replicate (fn.ntmps - vs.toArray.size) undef).toList = vs ++ List.replicate (fn.ntmps - args.length) undef := by
   simp [hr.1]
  rw [e,hc2]
  exact hr.append (xDc _)
 have hm : MarksOk (w.heap.size,[]) im io w [] := ⟨[],rfl,List.nodup_nil,fun D hD => by cases hD⟩
 refine wpIn_mono (xVQ hR hL hmix h c n' (w.heap.size,[]) hc1 im io _ w hs hF hm (Nat.le_refl _)) ?_
 rintro e' a1 w1 ⟨y,im1,io1,rfl,t1,t2,t3,t5,t6,Ds,d1,d2,d3⟩
 show LeavesInM _ _ _ _ _ _ _ _ _
 rw [d1,List.append_nil]
 exact xM2 t1 t2 Ds w1 t3 t5 d2 d3
end
end Go.Abs
