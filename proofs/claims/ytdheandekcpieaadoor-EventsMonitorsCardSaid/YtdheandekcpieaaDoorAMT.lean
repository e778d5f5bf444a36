/- The parser's functions,where they panic; Parse on given texts. -/
import Derived.Test.YtdheandekcpieaaDoorAMS
import Derived.Test.YtdheandekcpieaaDoorAProg
import Derived.Test.YtdheandekcpieaaDoorAbsFast
import Derived.Test.YtdheandekcpieaaDoorAbsLim
set_option linter.unusedVariables false
set_option linter.unusedSimpArgs false
namespace Go.Proofs
open Go.RowKit Go.Abs Go.Abs.Events
def TCode.isNo : TCode → Bool
 | .no => true
 | _ => false
def xP5 (thr : List Nat) : List AOper → List AOper → Option (List AOper × Nat × List Arg)
 | _,[] => none
 | pre,o :: rest => match o.op with
  | .icall (.c (.func g [])) args => if thr.contains g then some (pre.reverse,g,args) else xP5 thr (o :: pre) rest
  | _ => xP5 thr (o :: pre) rest
def toT (thr : List Nat) : ACode → List TCode → TCode × List TCode
 | .seq a b,l =>
  let p := toT thr a l
  let q := toT thr b p.2
  (if TCode.isNo p.1 && TCode.isNo q.1 then .no else .seq a p.1 q.1,q.2)
 | .cond c a b,l =>
  let p := toT thr a l
  let q := toT thr b p.2
  (if TCode.isNo p.1 && TCode.isNo q.1 then .no else .cond c p.1 q.1,q.2)
 | .block _ b,l => let p := toT thr b l; (if TCode.isNo p.1 then .no else .block p.1,p.2)
 | .scope b,l => let p := toT thr b l; (if TCode.isNo p.1 then .no else .scope p.1,p.2)
 | .region ops,l => match xP5 thr [] ops with
  | some (pre,g,args) => (.call pre g args,l)
  | none => (.no,l)
 | .loop s b,l => let p := toT thr b l; (if TCode.isNo p.1 then .no else .loop s b p.1,p.2)
 | .drawh _ _ _ _ ops,t :: l => match xP5 thr [] ops with
  | some _ => (t,l)
  | none => (.no,t :: l)
 | .stuck,t :: l => (t,l)
 | _,l => (.no,l)
def zW : List AV := [.int .i64 0,.int .i64 0]
def t70 : TFunc := ⟨53,(toT [] a70.code [
 .thr [⟨some 18,.mov (.t 0),none⟩,⟨some 19,.nilchk (.t 18),none⟩,⟨some 20,.faddr 1 (.t 19),none⟩,⟨some 21,.load false 1 (.t 20),none⟩,⟨some 22,.build zW [(0,1,.t 21),(1,1,.c (.int .i64 3))],none⟩] 23 82 (.t 22),
 .thr [⟨some 37,.mov (.t 0),none⟩,⟨some 38,.nilchk (.t 37),none⟩,⟨some 39,.faddr 1 (.t 38),none⟩,⟨some 40,.load false 1 (.t 39),none⟩,⟨some 41,.mov (.t 2),none⟩,⟨some 42,.build zW [(0,1,.t 40),(1,1,.t 41)],none⟩] 43 82 (.t 42)]).1⟩
def t71 : TFunc := ⟨59,(toT [70] a71.code [
 .thr [⟨some 53,.mov (.t 0),none⟩,⟨some 54,.nilchk (.t 53),none⟩,⟨some 55,.faddr 1 (.t 54),none⟩,⟨some 56,.load false 1 (.t 55),none⟩,⟨some 57,.build zW [(0,1,.t 56),(1,1,.c (.int .i64 6))],none⟩] 58 82 (.t 57)]).1⟩
def t72 : TFunc := ⟨21,(toT [70,73] a72.code []).1⟩
def t73 : TFunc := ⟨14,(toT [70] a73.code []).1⟩
def t41 : TFunc := ⟨134,(toT [70,71,72,73,41] a41.code [
 .thr [⟨some 14,.mov (.t 0),none⟩,⟨some 15,.nilchk (.t 14),none⟩,⟨some 16,.faddr 1 (.t 15),none⟩,⟨some 17,.load false 1 (.t 16),none⟩,⟨some 18,.build zW [(0,1,.t 17),(1,1,.c (.int .i64 4))],none⟩] 19 82 (.t 18),
 .dcall [⟨some 92,.faddr 2 (.t 4),none⟩,⟨some 93,.load false 1 (.t 92),none⟩,⟨some 94,.mov (.t 0),none⟩] 72 [.t 94,.c (.str ⟨#[48,49,50,51,52,53,54,55,120,121,122]⟩)]]).1⟩
def tp : Nat → Option TFunc
 | 41 => some t41
 | 70 => some t70
 | 71 => some t71
 | 72 => some t72
 | 73 => some t73
 | _ => none
theorem yD2 : ∀ f tf,tp f = some tf → xL3 Tryd.prog f tf = true := by
 intro f tf h
 unfold tp at h
 split at h
 ·cases h; kernel_rfl
 ·cases h; kernel_rfl
 ·cases h; kernel_rfl
 ·cases h; kernel_rfl
 ·cases h; kernel_rfl
 ·cases h
def xO6 (f : Nat) : Option AFunc := if f = 12 then some ⟨39,.stuck,xY1⟩ else xAj f
end Go.Proofs
/- Parse on given texts: a form that the kernel can run. -/
set_option linter.unusedVariables false
set_option linter.unusedSimpArgs false
namespace Go.Proofs
open Go.RowKit Go.Abs Go.Abs.Events
noncomputable def xGc (R : Rec) (C : Nat → List AV → Heap → Option (Nat × AV × Heap)) (s2 : St) : Option (AV × Heap) :=
 match xXj R pR ⟨s2.F.set 10 .any,s2.H⟩ with
 | some (.ret,s3) => (xA3 xY1 s3).map fun v => (v,s3.H)
 | _ => match xCw R C 10000 tR ⟨s2.F.set 10 .any,s2.H⟩ with
  | some (T,.agg [.int .i64 a,.int .i64 e],s3) => if T = 82 then (match run R xRf ⟨xVn (s2.F.getD 2 .any) (s2.F.getD 3 .any) (s2.F.getD 4 .any) s3.H,s3.H ++ [.cells false false [.int .i64 a,.int .i64 e]]⟩ with
    | some (.normal,s4) => (xA3 xY1 ⟨s3.F,s4.H⟩).map fun v => (v,s4.H)
    | _ => none) else none
  | _ => none
theorem xLH (R : Rec) (C : Nat → List AV → Heap → Option (Nat × AV × Heap)) (s2 : St) : xGc R C s2 = xFQ R C s2 := by
 unfold xGc xFQ
 rw [xO9]
 rfl
noncomputable def xH0 (R : Rec) (C : Nat → List AV → Heap → Option (Nat × AV × Heap)) (args : List AV) (H : Heap) : Option (AV × Heap) :=
 match xE1 R pA1 ⟨args ++ List.replicate (39 - args.length) (.tup []),H⟩ with
 | none => none
 | some s1 => match xE1 R pA2 s1 with
  | none => none
  | some s2 => match s2.F.getD 9 .any with
   | .bool true => (match xAr R pA3 s2 with
    | some s3 => (xA3 xY1 s3).map fun v => (v,s3.H)
    | none => none)
   | .bool false => if 10 < s2.F.length then xGc R C s2 else none
   | _ => none
theorem xMZ (R : Rec) (C : Nat → List AV → Heap → Option (Nat × AV × Heap)) (args : List AV) (H : Heap) : xH0 R C args H = xFR R C args H := by
 unfold xH0 xFR
 simp only [xEA,xLH]
 rfl
theorem xTq (R : Rec) : xZ0 [] R = R := rfl
theorem xP6 (prog : Nat → Option AFunc) : ∀ n,yB9 prog [] n = fix prog n
 | 0 => rfl
 | n + 1 => by rw [yB9,fix,xP6 prog n,xTq]
noncomputable def xCf (n m : Nat) (s : ByteArray) (v : AV) : Bool := match xH0 (yB7 xO6 [] n) (xK7 (yB7 xO6 [] n) tp m) [.str s] [] with
 | some (r,H) => (match frz frzN H r with
  | some v' => xJn 100 v v'
  | none => false)
 | none => false
theorem xO7 {n m : Nat} {s : ByteArray} {v : AV} (h : xCf n m s v = true) : ∃ r H,xFR (fix xO6 n) (xK7 (fix xO6 n) tp m) [.str s] [] = some (r,H) ∧ frz frzN H r = some v := by
 unfold xCf at h
 rw [xTJ,xP6,xMZ] at h
 split at h
 case h_2 => cases h
 rename_i r H e
 split at h
 case h_2 => cases h
 rename_i v' e'
 exact ⟨r,H,e,by rw [xQd 100 v v' h]; exact e'⟩
end Go.Proofs
/- The interpreter's table (strings.IndexByte,strings.TrimLeft,Parse on the texts of the chapter's examples) is true. -/
set_option linter.unusedVariables false
set_option linter.unusedSimpArgs false
set_option maxRecDepth 100000
namespace Go.Proofs
open Go.RowKit Go.Abs Go.Abs.Events
theorem Ev.t0 : xCf 300 40 ⟨#[40,101,120,105,115,116,115,32,120,32,40,97,110,100,32,40,97,116,32,98,32,120,41,32,40,110,111,116,32,40,111,110,99,101,32,40,97,116,32,97,32,120,41,41,41,41,41]⟩ (.tup [.sl false 6 [.int .u8 2,.int .i64 1,.sl false 1 [.int .i64 8],.int .i64 0,.int .i64 0,.int .i64 0,.int .u8 2,.int .i64 0,.sl false 1 [.int .i64 8],.int .i64 0,.int .i64 0,.int .i64 0,.int .u8 10,.int .i64 0,.sl true 0 [],.int .i64 0,.int .i64 1,.int .i64 0,.int .u8 4,.int .i64 0,.sl true 0 [],.int .i64 0,.int .i64 2,.int .i64 0,.int .u8 5,.int .i64 0,.sl true 0 [],.int .i64 0,.int .i64 0,.int .i64 3,.int .u8 7,.int .i64 0,.sl true 0 [],.int .i64 8,.int .i64 4,.int .i64 0],.int .i64 0,.int .i64 0]) = true := by kernel_rfl
theorem Ev.t1 : xCf 300 40 ⟨#[40,115,105,110,99,101,32,40,110,111,116,32,40,97,116,32,99,41,41,32,40,97,116,32,97,32,49,41,41]⟩ (.tup [.sl false 4 [.int .u8 2,.int .i64 2,.sl true 0 [],.int .i64 0,.int .i64 0,.int .i64 0,.int .u8 4,.int .i64 0,.sl true 0 [],.int .i64 0,.int .i64 0,.int .i64 0,.int .u8 2,.int .i64 0,.sl false 1 [.int .i64 1],.int .i64 0,.int .i64 0,.int .i64 0,.int .u8 9,.int .i64 0,.sl true 0 [],.int .i64 0,.int .i64 1,.int .i64 2],.int .i64 0,.int .i64 0]) = true := by kernel_rfl
theorem Ev.t2 : xCf 300 40 ⟨#[40,112,114,101,118,105,111,117,115,32,40,101,120,105,115,116,115,32,121,32,40,97,116,32,97,32,121,32,121,41,41,41]⟩ (.tup [.sl false 3 [.int .u8 2,.int .i64 0,.sl false 2 [.int .i64 9,.int .i64 9],.int .i64 0,.int .i64 0,.int .i64 0,.int .u8 7,.int .i64 0,.sl true 0 [],.int .i64 9,.int .i64 0,.int .i64 0,.int .u8 8,.int .i64 0,.sl true 0 [],.int .i64 0,.int .i64 1,.int .i64 0],.int .i64 0,.int .i64 0]) = true := by kernel_rfl
theorem Ev.t3 : xCf 300 40 ⟨#[40,97,116,32,97,32,120,41]⟩ (.tup [.sl true 0 [],.int .i64 0,.int .i64 11]) = true := by kernel_rfl
theorem Ev.t4 : xCf 300 40 ⟨#[40,97,116,32,97,32,56,41]⟩ (.tup [.sl true 0 [],.int .i64 6,.int .i64 1]) = true := by kernel_rfl
theorem Ev.t5 : xCf 300 40 ⟨#[40,61,32,120,41]⟩ (.tup [.sl true 0 [],.int .i64 4,.int .i64 2]) = true := by kernel_rfl
theorem Ev.t6 : xCf 300 40 ⟨#[40,111,110,99,101,32,116,114,117,101]⟩ (.tup [.sl true 0 [],.int .i64 10,.int .i64 3]) = true := by kernel_rfl
theorem Ev.idxOk (args : List AV) (v : AV) (h : (match args with | [.str s,.int .u8 c] => some (AV.int .i64 (Lib.indexByte s.data.toList c.toNat.toUInt8)) | _ => none) = some v) (im : Im) (w : World) (vs : List Value) (hI : xOB im w) (hr : Reps im xC4 args vs) : Calls Tryd.prog 98 vs.toArray w (xG9 im w v) := by
 split at h
 case h_2 => cases h
 cases h
 exact Ev.idx im w vs _ _ hI hr
theorem Ev.trimOk (args : List AV) (v : AV) (h : (match args with | [.str s,.str t] => if t.data.toList.all (fun b => decide (b.toNat < 128)) && decide (t.size < 4294967281) then some (AV.str ⟨(Lib.trimLeftS s.data.toList t.data.toList).toArray⟩) else none | _ => none) = some v) (im : Im) (w : World) (vs : List Value) (hI : xOB im w) (hr : Reps im xC4 args vs) : Calls Tryd.prog 99 vs.toArray w (xG9 im w v) := by
 split at h
 case h_2 => cases h
 split at h
 case isFalse => cases h
 rename_i hc
 cases h
 simp only [Bool.and_eq_true,List.all_eq_true,decide_eq_true_eq] at hc
 exact Ev.trim im w vs _ _ hc.1 hc.2 hI hr
theorem xTr : xLE 98 = some (fun args => match args with | [.str s,.int .u8 c] => some (AV.int .i64 (Lib.indexByte s.data.toList c.toNat.toUInt8)) | _ => none) := rfl
theorem xTs : xLE 99 = some (fun args => match args with | [.str s,.str t] => if t.data.toList.all (fun b => decide (b.toNat < 128)) && decide (t.size < 4294967281) then some (AV.str ⟨(Lib.trimLeftS s.data.toList t.data.toList).toArray⟩) else none | _ => none) := rfl
theorem xJM {f : Nat} (h1 : f ≠ 98) (h2 : f ≠ 99) (h3 : f ≠ 12) : xLE f = none := by
 unfold xLE
 rw [if_neg h1,if_neg h2,if_neg h3]
theorem xP7 (vs : Array Value) (w : World) : (callFunc 98 vs).run Tryd.prog w = .ok (.enter 98 vs) w := by simp [callFunc,Tryd.func98,Tryd.f98,Result.andThen]
theorem xP8 (vs : Array Value) (w : World) : (callFunc 99 vs).run Tryd.prog w = .ok (.enter 99 vs) w := by simp [callFunc,Tryd.func99,Tryd.f99,Result.andThen]
theorem xW2 (vs : Array Value) (w : World) : (callFunc 12 vs).run Tryd.prog w = .ok (.enter 12 vs) w := by simp [callFunc,Tryd.func12,Tryd.f12,Result.andThen]
end Go.Proofs
/- The interpreter's table (strings.IndexByte,strings.TrimLeft,Parse on the texts of the chapter's examples) is true of the program. -/
set_option linter.unusedVariables false
set_option linter.unusedSimpArgs false
set_option maxRecDepth 100000
namespace Go.Proofs
open Go.RowKit Go.Abs Go.Abs.Events
theorem aprogOk (f : Nat) (af : AFunc) (h : xAj f = some af) : ∃ fn,Tryd.prog.funcs[f]? = some fn ∧ xDp Tryd.prog fn af = true := by
 unfold xAj at h
 split at h
 all_goals first
  | (cases h; done)
  | (cases h; exact xSE (by kernel_rfl))
theorem prog1Ok : ProgOk Tryd.prog xO6 where
 mixed := by kernel_rfl
 ok f af h := by
  unfold xO6 at h
  split at h
  ·rename_i hf
   subst hf
   cases h
   exact xSE (by kernel_rfl)
  ·exact aprogOk f af h
 prim f g args v hp hg hn := by
  by_cases h98 : f = 98
  ·subst h98
   rw [xTr] at hp
   cases hp
   exact ⟨xP7,fun im w vs => Ev.idxOk args v hg im w vs⟩
  by_cases h99 : f = 99
  ·subst h99
   rw [xTs] at hp
   cases hp
   exact ⟨xP8,fun im w vs => Ev.trimOk args v hg im w vs⟩
  by_cases h12 : f = 12
  ·subst h12
   simp [xO6] at hn
  ·rw [xJM h98 h99 h12] at hp
   cases hp
theorem xTt {P : Program} {im : Im} {w : World} {r v : AV} {H' : Heap} {e : Ending} {w' : World} (hf : frz frzN H' r = some v) (h : xMB (xAi P) im xC4 w r H' e w') : xG9 im w v e w' := by
 obtain ⟨x,im1,io1,rfl,t1,t2,t3⟩ := h
 obtain ⟨im2,a1,a2,a3,a4⟩ := xMQ (bor frzN H' r) t2
 have hown : ∀ b,Own io1 b → w.heap.size ≤ b := fun b ho => (t1.ownNew b ho).elim (fun ⟨_,_,q⟩ => by cases q) id
 refine ⟨x,im2,rfl,t1.im_le.trans a1,a2.imin,fun b o hb' => ?_,⟨t1.os,t1.tape,t1.output,t1.size,fun b hb' => t1.stay b hb' (fun ⟨_,_,q⟩ => by cases q)⟩,xEW t2 a1 frzN r v x hf t3 a4⟩
 rcases a3 b o hb' with q | q
 ·rcases t1.imNew b o q with q | ⟨_,_,q⟩ | q
  ·exact .inl q
  ·cases q
  ·exact .inr q
 ·exact .inr (hown b q)
theorem Ev.parseTo {n m : Nat} {s : ByteArray} {v : AV} (h : xCf n m s v = true) (im : Im) (w : World) (vs : List Value) (hI : xOB im w) (hr : Reps im xC4 [.str s] vs) : Calls Tryd.prog 12 vs.toArray w (xG9 im w v) := by
 obtain ⟨r,H,h1,h2⟩ := xO7 h
 have hRL := xEF prog1Ok n
 have hC := xXu hRL.1 hRL.2 prog1Ok.mixed yD2 m
 have h3 := Ev.parse hRL.1 hRL.2 hC h1 0 im xC4 w vs (Sim.empty hI) hr
 exact (callsIn_wide.1 (show CallsIn Fence.wide 0 Tryd.prog 12 vs.toArray w _ from h3)).mono fun e w' hp => xTt h2 hp
theorem Ev.primOk (f : Nat) (g : List AV → Option AV) (args : List AV) (v : AV) (hp : xLE f = some g) (hg : g args = some v) (hn : xAj f = none) :
  (∀ (vs : Array Value) w,(callFunc f vs).run Tryd.prog w = .ok (.enter f vs) w) ∧ ∀ im w vs,xOB im w → Reps im xC4 args vs → Calls Tryd.prog f vs.toArray w (xG9 im w v) := by
 by_cases h98 : f = 98
 ·subst h98
  rw [xTr] at hp
  cases hp
  exact ⟨xP7,fun im w vs => Ev.idxOk args v hg im w vs⟩
 by_cases h99 : f = 99
 ·subst h99
  rw [xTs] at hp
  cases hp
  exact ⟨xP8,fun im w vs => Ev.trimOk args v hg im w vs⟩
 by_cases h12 : f = 12
 ·subst h12
  refine ⟨xW2,fun im w vs hI hr => ?_⟩
  have h0 : xLE 12 = some g := hp
  unfold xLE at h0
  rw [if_neg (by decide),if_neg (by decide),if_pos rfl] at h0
  cases h0
  dsimp only at hg
  split at hg
  case h_2 => cases hg
  rename_i s
  obtain ⟨⟨l⟩⟩ := s
  simp only at hg
  repeat' (split at hg)
  all_goals first
   | (rename_i hs; subst hs; cases hg; first | exact Ev.parseTo Ev.t0 im w vs hI hr | exact Ev.parseTo Ev.t1 im w vs hI hr | exact Ev.parseTo Ev.t2 im w vs hI hr | exact Ev.parseTo Ev.t3 im w vs hI hr | exact Ev.parseTo Ev.t4 im w vs hI hr | exact Ev.parseTo Ev.t5 im w vs hI hr | exact Ev.parseTo Ev.t6 im w vs hI hr)
   | cases hg
 ·rw [xJM h98 h99 h12] at hp
  cases hp
end Go.Proofs
namespace Go.Abs.Events
theorem progOk : ProgOk Go.Proofs.Tryd.prog xAj where
 mixed := by kernel_rfl
 prim := Go.Proofs.Ev.primOk
 ok := Go.Proofs.aprogOk
end Go.Abs.Events
