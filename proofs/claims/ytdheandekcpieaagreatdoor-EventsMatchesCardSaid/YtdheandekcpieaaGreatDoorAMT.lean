/- The parser's functions,where they panic; Parse on given texts. -/
import Derived.Test.YtdheandekcpieaaGreatDoorAMS
import Derived.Test.YtdheandekcpieaaGreatDoorAProg
import Derived.Test.YtdheandekcpieaaGreatDoorAbsFast
import Derived.Test.YtdheandekcpieaaGreatDoorAbsLim
set_option linter.unusedVariables false
set_option linter.unusedSimpArgs false
namespace Go.Proofs
open Go.RowKit Go.Abs Go.Abs.Events
def TCode.isNo : TCode → Bool
 | .no => true
 | _ => false
def xOS (thr : List Nat) : List AOper → List AOper → Option (List AOper × Nat × List Arg)
 | _,[] => none
 | pre,o :: rest => match o.op with
  | .icall (.c (.func g [])) args => if thr.contains g then some (pre.reverse,g,args) else xOS thr (o :: pre) rest
  | _ => xOS thr (o :: pre) rest
def toT (thr : List Nat) : ACode → List TCode → TCode × List TCode
 | .seq a b,l =>
  let p := toT thr a l
  let q := toT thr b p.2
  (if TCode.isNo p.1 && TCode.isNo q.1 then .no else .seq a p.1 q.1,q.2)
 | .cond c a b,l =>
  let p := toT thr a l
  let q := toT thr b p.2
  (if TCode.isNo p.1 && TCode.isNo q.1 then .no else .cond c p.1 q.1,q.2)
 | .block _ b,l => let p := toT thr b l; (if TCode.isNo p.1 then .no else .block p.1,p.2)
 | .scope b,l => let p := toT thr b l; (if TCode.isNo p.1 then .no else .scope p.1,p.2)
 | .region ops,l => match xOS thr [] ops with
  | some (pre,g,args) => (.call pre g args,l)
  | none => (.no,l)
 | .loop s b,l => let p := toT thr b l; (if TCode.isNo p.1 then .no else .loop s b p.1,p.2)
 | .drawh _ _ _ _ ops,t :: l => match xOS thr [] ops with
  | some _ => (t,l)
  | none => (.no,t :: l)
 | .stuck,t :: l => (t,l)
 | _,l => (.no,l)
def zW : List AV := [.int .i64 0,.int .i64 0]
def t70 : TFunc := ⟨53,(toT [] a74.code [
 .thr [⟨some 18,.mov (.t 0),none⟩,⟨some 19,.nilchk (.t 18),none⟩,⟨some 20,.faddr 1 (.t 19),none⟩,⟨some 21,.load false 1 (.t 20),none⟩,⟨some 22,.build zW [(0,1,.t 21),(1,1,.c (.int .i64 3))],none⟩] 23 102 (.t 22),
 .thr [⟨some 37,.mov (.t 0),none⟩,⟨some 38,.nilchk (.t 37),none⟩,⟨some 39,.faddr 1 (.t 38),none⟩,⟨some 40,.load false 1 (.t 39),none⟩,⟨some 41,.mov (.t 2),none⟩,⟨some 42,.build zW [(0,1,.t 40),(1,1,.t 41)],none⟩] 43 102 (.t 42)]).1⟩
def t71 : TFunc := ⟨59,(toT [74] a75.code [
 .thr [⟨some 53,.mov (.t 0),none⟩,⟨some 54,.nilchk (.t 53),none⟩,⟨some 55,.faddr 1 (.t 54),none⟩,⟨some 56,.load false 1 (.t 55),none⟩,⟨some 57,.build zW [(0,1,.t 56),(1,1,.c (.int .i64 6))],none⟩] 58 102 (.t 57)]).1⟩
def t72 : TFunc := ⟨21,(toT [74,77] a76.code []).1⟩
def t73 : TFunc := ⟨14,(toT [74] a77.code []).1⟩
def t41 : TFunc := ⟨134,(toT [74,75,76,77,53] a53.code [
 .thr [⟨some 14,.mov (.t 0),none⟩,⟨some 15,.nilchk (.t 14),none⟩,⟨some 16,.faddr 1 (.t 15),none⟩,⟨some 17,.load false 1 (.t 16),none⟩,⟨some 18,.build zW [(0,1,.t 17),(1,1,.c (.int .i64 4))],none⟩] 19 102 (.t 18),
 .dcall [⟨some 92,.faddr 2 (.t 4),none⟩,⟨some 93,.load false 1 (.t 92),none⟩,⟨some 94,.mov (.t 0),none⟩] 76 [.t 94,.c (.str ⟨#[48,49,50,51,52,53,54,55,120,121,122]⟩)]]).1⟩
def tp : Nat → Option TFunc
 | 53 => some t41
 | 74 => some t70
 | 75 => some t71
 | 76 => some t72
 | 77 => some t73
 | _ => none
theorem yDs : ∀ f tf,tp f = some tf → xKS Tryz.prog f tf = true := by
 intro f tf h
 unfold tp at h
 split at h
 ·cases h; kernel_rfl
 ·cases h; kernel_rfl
 ·cases h; kernel_rfl
 ·cases h; kernel_rfl
 ·cases h; kernel_rfl
 ·cases h
def xNX (f : Nat) : Option AFunc := if f = 22 then some ⟨39,.stuck,xX2⟩ else xAk f
end Go.Proofs
/- Parse on given texts: a form that the kernel can run. -/
set_option linter.unusedVariables false
set_option linter.unusedSimpArgs false
namespace Go.Proofs
open Go.RowKit Go.Abs Go.Abs.Events
noncomputable def xFG (R : Rec) (C : Nat → List AV → Heap → Option (Nat × AV × Heap)) (s2 : St) : Option (AV × Heap) :=
 match xWh R pR ⟨s2.F.set 10 .any,s2.H⟩ with
 | some (.ret,s3) => (xA1 xX2 s3).map fun v => (v,s3.H)
 | _ => match xCl R C 10000 tR ⟨s2.F.set 10 .any,s2.H⟩ with
  | some (T,.agg [.int .i64 a,.int .i64 e],s3) => if T = 102 then (match run R xP3 ⟨xUj (s2.F.getD 2 .any) (s2.F.getD 3 .any) (s2.F.getD 4 .any) s3.H,s3.H ++ [.cells false false [.int .i64 a,.int .i64 e]]⟩ with
    | some (.normal,s4) => (xA1 xX2 ⟨s3.F,s4.H⟩).map fun v => (v,s4.H)
    | _ => none) else none
  | _ => none
theorem xKx (R : Rec) (C : Nat → List AV → Heap → Option (Nat × AV × Heap)) (s2 : St) : xFG R C s2 = xFk R C s2 := by
 unfold xFG xFk
 rw [xN0]
 rfl
noncomputable def xHc (R : Rec) (C : Nat → List AV → Heap → Option (Nat × AV × Heap)) (args : List AV) (H : Heap) : Option (AV × Heap) :=
 match xED R pA1 ⟨args ++ List.replicate (39 - args.length) (.tup []),H⟩ with
 | none => none
 | some s1 => match xED R pA2 s1 with
  | none => none
  | some s2 => match s2.F.getD 9 .any with
   | .bool true => (match xAy R pA3 s2 with
    | some s3 => (xA1 xX2 s3).map fun v => (v,s3.H)
    | none => none)
   | .bool false => if 10 < s2.F.length then xFG R C s2 else none
   | _ => none
theorem xLS (R : Rec) (C : Nat → List AV → Heap → Option (Nat × AV × Heap)) (args : List AV) (H : Heap) : xHc R C args H = xFl R C args H := by
 unfold xHc xFl
 simp only [xD8,xKx]
 rfl
theorem xR4 (R : Rec) : xY8 [] R = R := rfl
theorem xOT (prog : Nat → Option AFunc) : ∀ n,yBq prog [] n = fix prog n
 | 0 => rfl
 | n + 1 => by rw [yBq,fix,xOT prog n,xR4]
noncomputable def xB1 (n m : Nat) (s : ByteArray) (v : AV) : Bool := match xHc (yBo xNX [] n) (xJZ (yBo xNX [] n) tp m) [.str s] [] with
 | some (r,H) => (match frz frzN H r with
  | some v' => xIh 100 v v'
  | none => false)
 | none => false
theorem xNY {n m : Nat} {s : ByteArray} {v : AV} (h : xB1 n m s v = true) : ∃ r H,xFl (fix xNX n) (xJZ (fix xNX n) tp m) [.str s] [] = some (r,H) ∧ frz frzN H r = some v := by
 unfold xB1 at h
 rw [xSo,xOT,xLS] at h
 split at h
 case h_2 => cases h
 rename_i r H e
 split at h
 case h_2 => cases h
 rename_i v' e'
 exact ⟨r,H,e,by rw [xO1 100 v v' h]; exact e'⟩
end Go.Proofs
/- The interpreter's table,its entries but Parse: strings.IndexByte,strings.TrimLeft,strings.Join; Parse on three texts. -/
set_option linter.unusedVariables false
set_option linter.unusedSimpArgs false
set_option maxRecDepth 100000
namespace Go.Proofs
open Go.RowKit Go.Abs Go.Abs.Events
theorem Ev.t0 : xB1 300 40 ⟨#[40,101,120,105,115,116,115,32,120,32,40,97,110,100,32,40,97,116,32,98,32,120,41,32,40,110,111,116,32,40,111,110,99,101,32,40,97,116,32,97,32,120,41,41,41,41,41]⟩ (.tup [.sl false 6 [.int .u8 2,.int .i64 1,.sl false 1 [.int .i64 8],.int .i64 0,.int .i64 0,.int .i64 0,.int .u8 2,.int .i64 0,.sl false 1 [.int .i64 8],.int .i64 0,.int .i64 0,.int .i64 0,.int .u8 10,.int .i64 0,.sl true 0 [],.int .i64 0,.int .i64 1,.int .i64 0,.int .u8 4,.int .i64 0,.sl true 0 [],.int .i64 0,.int .i64 2,.int .i64 0,.int .u8 5,.int .i64 0,.sl true 0 [],.int .i64 0,.int .i64 0,.int .i64 3,.int .u8 7,.int .i64 0,.sl true 0 [],.int .i64 8,.int .i64 4,.int .i64 0],.int .i64 0,.int .i64 0]) = true := by kernel_rfl
theorem Ev.t1 : xB1 300 40 ⟨#[40,115,105,110,99,101,32,40,110,111,116,32,40,97,116,32,99,41,41,32,40,97,116,32,97,32,49,41,41]⟩ (.tup [.sl false 4 [.int .u8 2,.int .i64 2,.sl true 0 [],.int .i64 0,.int .i64 0,.int .i64 0,.int .u8 4,.int .i64 0,.sl true 0 [],.int .i64 0,.int .i64 0,.int .i64 0,.int .u8 2,.int .i64 0,.sl false 1 [.int .i64 1],.int .i64 0,.int .i64 0,.int .i64 0,.int .u8 9,.int .i64 0,.sl true 0 [],.int .i64 0,.int .i64 1,.int .i64 2],.int .i64 0,.int .i64 0]) = true := by kernel_rfl
theorem Ev.t2 : xB1 300 40 ⟨#[40,112,114,101,118,105,111,117,115,32,40,101,120,105,115,116,115,32,121,32,40,97,116,32,97,32,121,32,121,41,41,41]⟩ (.tup [.sl false 3 [.int .u8 2,.int .i64 0,.sl false 2 [.int .i64 9,.int .i64 9],.int .i64 0,.int .i64 0,.int .i64 0,.int .u8 7,.int .i64 0,.sl true 0 [],.int .i64 9,.int .i64 0,.int .i64 0,.int .u8 8,.int .i64 0,.sl true 0 [],.int .i64 0,.int .i64 1,.int .i64 0],.int .i64 0,.int .i64 0]) = true := by kernel_rfl
theorem Ev.t3 : xB1 300 40 ⟨#[40,97,116,32,97,32,120,41]⟩ (.tup [.sl true 0 [],.int .i64 0,.int .i64 11]) = true := by kernel_rfl
theorem Ev.t4 : xB1 300 40 ⟨#[40,97,116,32,97,32,56,41]⟩ (.tup [.sl true 0 [],.int .i64 6,.int .i64 1]) = true := by kernel_rfl
theorem Ev.t5 : xB1 300 40 ⟨#[40,61,32,120,41]⟩ (.tup [.sl true 0 [],.int .i64 4,.int .i64 2]) = true := by kernel_rfl
theorem Ev.t6 : xB1 300 40 ⟨#[40,111,110,99,101,32,116,114,117,101]⟩ (.tup [.sl true 0 [],.int .i64 10,.int .i64 3]) = true := by kernel_rfl
theorem Ev.idxOk (args : List AV) (v : AV) (h : (match args with | [.str s,.int .u8 c] => some (AV.int .i64 (Lib.indexByte s.data.toList c.toNat.toUInt8)) | _ => none) = some v) (im : Im) (w : World) (vs : List Value) (hI : xLq im w) (hr : Reps im xCE args vs) : Calls Tryz.prog 95 vs.toArray w (xEy im w v) := by
 split at h
 case h_2 => cases h
 cases h
 exact Ev.idx im w vs _ _ hI hr
theorem Ev.trimOk (args : List AV) (v : AV) (h : (match args with | [.str s,.str t] => if t.data.toList.all (fun b => decide (b.toNat < 128)) && decide (t.size < 4294967281) then some (AV.str ⟨(Lib.trimLeftS s.data.toList t.data.toList).toArray⟩) else none | _ => none) = some v) (im : Im) (w : World) (vs : List Value) (hI : xLq im w) (hr : Reps im xCE args vs) : Calls Tryz.prog 96 vs.toArray w (xEy im w v) := by
 split at h
 case h_2 => cases h
 split at h
 case isFalse => cases h
 rename_i hc
 cases h
 simp only [Bool.and_eq_true,List.all_eq_true,decide_eq_true_eq] at hc
 exact Ev.trim im w vs _ _ hc.1 hc.2 hI hr
theorem xR5 : xIf 95 = some (fun args => match args with | [.str s,.int .u8 c] => some (AV.int .i64 (Lib.indexByte s.data.toList c.toNat.toUInt8)) | _ => none) := rfl
theorem xR6 : xIf 96 = some (fun args => match args with | [.str s,.str t] => if t.data.toList.all (fun b => decide (b.toNat < 128)) && decide (t.size < 4294967281) then some (AV.str ⟨(Lib.trimLeftS s.data.toList t.data.toList).toArray⟩) else none | _ => none) := rfl
theorem xR7 : xIf 34 = some (fun args => match args with | [.sl _ n cs,.str t] => if n = cs.length ∧ n ≤ 1000 ∧ 1 ≤ t.size ∧ t.size ≤ 1000 then (xIe cs).bind fun l => if (Lib.join l t.data.toList).length ≤ 1000000000 then some (AV.str ⟨(Lib.join l t.data.toList).toArray⟩) else none else none | _ => none) := rfl
theorem xIG {f : Nat} (h1 : f ≠ 95) (h2 : f ≠ 96) (h3 : f ≠ 34) (h4 : f ≠ 22) : xIf f = none := by
 unfold xIf
 rw [if_neg h1,if_neg h2,if_neg h3,if_neg h4]
theorem xOU (vs : Array Value) (w : World) : (callFunc 95 vs).run Tryz.prog w = .ok (.enter 95 vs) w := by simp [callFunc,Tryz.func95,Tryz.f95,Result.andThen]
theorem xOV (vs : Array Value) (w : World) : (callFunc 96 vs).run Tryz.prog w = .ok (.enter 96 vs) w := by simp [callFunc,Tryz.func96,Tryz.f96,Result.andThen]
theorem xV0 (vs : Array Value) (w : World) : (callFunc 22 vs).run Tryz.prog w = .ok (.enter 22 vs) w := by simp [callFunc,Tryz.func22,Tryz.f22,Result.andThen]
theorem xOW (vs : Array Value) (w : World) : (callFunc 34 vs).run Tryz.prog w = .ok (.enter 34 vs) w := by simp [callFunc,Tryz.func34,Tryz.f34,Result.andThen]
theorem xIH : ∀ {cs : List AV} {l : List (List UInt8)},xIe cs = some l → cs.length = l.length ∧ ∀ j,j < l.length → cs[j]? = some (.str ⟨(l.getD j []).toArray⟩)
 | [],l,h => by
  have : l = [] := by simpa [xIe] using h.symm
  subst this; exact ⟨rfl,fun j hj => by simp at hj⟩
 | c :: cs,l,h => by
  unfold xIe at h
  split at h
  ·rename_i e; cases e
  ·rename_i s cs' e
   cases e
   simp only [Option.map_eq_some_iff] at h
   obtain ⟨l',h,rfl⟩ := h
   obtain ⟨h1,h2⟩ := xIH h
   refine ⟨by simp [h1],fun j hj => ?_⟩
   cases j with
   | zero => simp
   | succ j => simpa using h2 j (by simpa using hj)
  ·cases h
theorem Ev.joinOk (args : List AV) (v : AV) (hg : (match args with | [.sl _ n cs,.str t] => if n = cs.length ∧ n ≤ 1000 ∧ 1 ≤ t.size ∧ t.size ≤ 1000 then (xIe cs).bind fun l => if (Lib.join l t.data.toList).length ≤ 1000000000 then some (AV.str ⟨(Lib.join l t.data.toList).toArray⟩) else none else none | _ => none) = some v) (im : Im) (w : World) (vs : List Value) (hI : xLq im w) (hr : Reps im xCE args vs) : Calls Tryz.prog 34 vs.toArray w (xEy im w v) := by
 split at hg
 case h_2 => cases hg
 rename_i z n cs t
 split at hg
 case isFalse => cases hg
 rename_i hn
 simp only [Option.bind_eq_some_iff] at hg
 obtain ⟨l,hl,hg⟩ := hg
 split at hg
 case isFalse => cases hg
 rename_i hle
 cases hg
 obtain ⟨c1,c3⟩ := xIH hl
 obtain ⟨xs,hxl,hmap,hxs⟩ : ∃ xs : List ByteArray,xs.length = l.length ∧ xs.map (·.data.toList) = l ∧ ∀ j,j < l.length → xs[j]? = some ⟨(l.getD j []).toArray⟩ := by
  refine ⟨l.map fun b => (⟨b.toArray⟩ : ByteArray),by simp,?_,fun j hj => ?_⟩
  ·rw [List.map_map]
   exact List.map_id'' (fun _ => rfl) l
  ·rw [List.getElem?_map,List.getElem?_eq_getElem hj,List.getD_eq_getElem?_getD,List.getElem?_eq_getElem hj]
   rfl
 have fin : ∀ {e : Ending} {w' : World},(e = .returned (.string ⟨(Lib.join (xs.map (·.data.toList)) t.data.toList).toArray⟩) ∧ Below w.heap.size w w') → xEy im w (.str ⟨(Lib.join l t.data.toList).toArray⟩) e w' := by
  rintro e w' ⟨rfl,hb⟩
  refine ⟨_,im,rfl,ImLe.refl _,⟨fun b o hbo => ?_,hI.2⟩,fun b o hbo => .inl hbo,hb,?_⟩
  ·have := hI.1 b o hbo
   have hlt : b < w.heap.size := (Array.getElem?_eq_some_iff.1 this).1
   rw [hb.block b hlt]; exact this
  ·rw [hmap]; exact .str
 obtain ⟨hlen,hr⟩ := hr
 match vs,hlen with
 | [x,y],_ =>
  have hx := hr 0 _ x rfl rfl
  have hy := hr 1 _ y rfl rfl
  cases hy
  have nil : l = [] → ∀ (a : Option Addr) (c : Nat),Calls Tryz.prog 34 #[.slice a 0 c,.string t] w (xEy im w (.str ⟨(Lib.join l t.data.toList).toArray⟩)) := fun e a c => by
   refine (Tx.join_none a c t w).mono fun e' w' h => fin ⟨?_,h.2 ▸ Below.refl _ _⟩
   rw [h.1,hmap,e]; rfl
  cases hx with
  | slz => exact nil (List.eq_nil_of_length_eq_zero (by simpa using c1.symm)) _ _
  | sl0 => exact nil (List.eq_nil_of_length_eq_zero (by simpa using c1.symm)) _ _
  | sl hrow hl' hcap hc hk =>
   obtain ⟨c,tt,fr,g1,g2⟩ := hrow
   have hw := hI.1 _ _ g1
   have hnl : n = xs.length := by omega
   subst hnl
   refine (Tx.join _ _ _ xs t w (fun j s hj => ?_) (Array.getElem?_eq_some_iff.1 hw).1 hn.2.1 (by omega) hn.2.2.1 hn.2.2.2 (by rw [hmap]; exact hle)).mono fun e w' h => fin h
   have hj' : j < l.length := by
    have := (List.getElem?_eq_some_iff.1 hj).1
    omega
   have e1 := c3 j hj'
   have es : s = ⟨(l.getD j []).toArray⟩ := by
    rw [hxs j hj'] at hj
    exact (Option.some.inj hj).symm
   subst es
   have hjl : j < _ := Nat.lt_of_lt_of_eq (show j < cs.length by omega) hl'.symm
   have u1 := List.getElem?_eq_getElem hjl
   have u2 := hc j _ _ e1 u1
   have := g2 j _ u1
   generalize (_ : List Value)[j] = u at u2 this
   cases u2
   rw [Lib.cell_of_heap hw]
   exact this
end Go.Proofs
/- The interpreter's table (strings.IndexByte,strings.TrimLeft,Parse on the texts of the chapter's examples) is true of the program. -/
set_option linter.unusedVariables false
set_option linter.unusedSimpArgs false
set_option maxRecDepth 100000
namespace Go.Proofs
open Go.RowKit Go.Abs Go.Abs.Events
theorem aprogOk (f : Nat) (af : AFunc) (h : xAk f = some af) : ∃ fn,Tryz.prog.funcs[f]? = some fn ∧ xC3 Tryz.prog fn af = true := by
 unfold xAk at h
 split at h
 all_goals first
  | (cases h; done)
  | (cases h; exact xRk (by kernel_rfl))
theorem prog1Ok : ProgOk Tryz.prog xNX where
 mixed := by kernel_rfl
 ok f af h := by
  unfold xNX at h
  split at h
  ·rename_i hf
   subst hf
   cases h
   exact xRk (by kernel_rfl)
  ·exact aprogOk f af h
 prim f g args v hp hg hn := by
  by_cases h98 : f = 95
  ·subst h98
   rw [xR5] at hp
   cases hp
   exact ⟨xOU,fun im w vs => Ev.idxOk args v hg im w vs⟩
  by_cases h99 : f = 96
  ·subst h99
   rw [xR6] at hp
   cases hp
   exact ⟨xOV,fun im w vs => Ev.trimOk args v hg im w vs⟩
  by_cases h69 : f = 34
  ·subst h69
   rw [xR7] at hp
   cases hp
   exact ⟨xOW,fun im w vs => Ev.joinOk args v hg im w vs⟩
  by_cases h12 : f = 22
  ·subst h12
   simp [xNX] at hn
  ·rw [xIG h98 h99 h69 h12] at hp
   cases hp
theorem xR8 {P : Program} {im : Im} {w : World} {r v : AV} {H' : Heap} {e : Ending} {w' : World} (hf : frz frzN H' r = some v) (h : xLr (xAl P) im xCE w r H' e w') : xEy im w v e w' := by
 obtain ⟨x,im1,io1,rfl,t1,t2,t3⟩ := h
 obtain ⟨im2,a1,a2,a23,a20⟩ := xLI (bor frzN H' r) t2
 have hown : ∀ b,Own io1 b → w.heap.size ≤ b := fun b ho => (t1.ownNew b ho).elim (fun ⟨_,_,q⟩ => by cases q) id
 refine ⟨x,im2,rfl,t1.im_le.trans a1,a2.imin,fun b o hb' => ?_,⟨t1.os,t1.tape,t1.output,t1.size,fun b hb' => t1.stay b hb' (fun ⟨_,_,q⟩ => by cases q)⟩,xEA t2 a1 frzN r v x hf t3 a20⟩
 rcases a23 b o hb' with q | q
 ·rcases t1.imNew b o q with q | ⟨_,_,q⟩ | q
  ·exact .inl q
  ·cases q
  ·exact .inr q
 ·exact .inr (hown b q)
theorem Ev.parseTo {n m : Nat} {s : ByteArray} {v : AV} (h : xB1 n m s v = true) (im : Im) (w : World) (vs : List Value) (hI : xLq im w) (hr : Reps im xCE [.str s] vs) : Calls Tryz.prog 22 vs.toArray w (xEy im w v) := by
 obtain ⟨r,H,h1,h2⟩ := xNY h
 have hRL := xEe prog1Ok n
 have hC := xWt hRL.1 hRL.2 prog1Ok.mixed yDs m
 have h3 := Ev.parse hRL.1 hRL.2 hC h1 0 im xCE w vs (Sim.empty hI) hr
 exact (callsIn_wide.1 (show CallsIn Fence.wide 0 Tryz.prog 22 vs.toArray w _ from h3)).mono fun e w' hp => xR8 h2 hp
theorem Ev.primOk (f : Nat) (g : List AV → Option AV) (args : List AV) (v : AV) (hp : xIf f = some g) (hg : g args = some v) (hn : xAk f = none) :
  (∀ (vs : Array Value) w,(callFunc f vs).run Tryz.prog w = .ok (.enter f vs) w) ∧ ∀ im w vs,xLq im w → Reps im xCE args vs → Calls Tryz.prog f vs.toArray w (xEy im w v) := by
 by_cases h98 : f = 95
 ·subst h98
  rw [xR5] at hp
  cases hp
  exact ⟨xOU,fun im w vs => Ev.idxOk args v hg im w vs⟩
 by_cases h99 : f = 96
 ·subst h99
  rw [xR6] at hp
  cases hp
  exact ⟨xOV,fun im w vs => Ev.trimOk args v hg im w vs⟩
 by_cases h69 : f = 34
 ·subst h69
  rw [xR7] at hp
  cases hp
  exact ⟨xOW,fun im w vs => Ev.joinOk args v hg im w vs⟩
 by_cases h12 : f = 22
 ·subst h12
  refine ⟨xV0,fun im w vs hI hr => ?_⟩
  have h0 : xIf 22 = some g := hp
  unfold xIf at h0
  rw [if_neg (by decide),if_neg (by decide),if_neg (by decide),if_pos rfl] at h0
  cases h0
  dsimp only at hg
  split at hg
  case h_2 => cases hg
  rename_i s
  obtain ⟨⟨l⟩⟩ := s
  simp only at hg
  repeat' (split at hg)
  all_goals first
   | (rename_i hs; subst hs; cases hg; first | exact Ev.parseTo Ev.t0 im w vs hI hr | exact Ev.parseTo Ev.t1 im w vs hI hr | exact Ev.parseTo Ev.t2 im w vs hI hr | exact Ev.parseTo Ev.t3 im w vs hI hr | exact Ev.parseTo Ev.t4 im w vs hI hr | exact Ev.parseTo Ev.t5 im w vs hI hr | exact Ev.parseTo Ev.t6 im w vs hI hr)
   | cases hg
 ·rw [xIG h98 h99 h69 h12] at hp
  cases hp
end Go.Proofs
namespace Go.Abs.Events
theorem progOk : ProgOk Go.Proofs.Tryz.prog xAk where
 mixed := by kernel_rfl
 prim := Go.Proofs.Ev.primOk
 ok := Go.Proofs.aprogOk
end Go.Abs.Events
