/- The parser's functions,where they panic; Parse on given texts. -/
import Derived.Test.YtdheandekcpieaaDoorAMS
import Derived.Test.YtdheandekcpieaaDoorAProg
set_option linter.unusedVariables false
set_option linter.unusedSimpArgs false
namespace Go.Proofs
open Go.RowKit Go.Abs Go.Abs.Events
def TCode.isNo : TCode → Bool
 | .no => true
 | _ => false
def xPp (thr : List Nat) : List AOper → List AOper → Option (List AOper × Nat × List Arg)
 | _,[] => none
 | pre,o :: rest => match o.op with
  | .icall (.c (.func g [])) args => if thr.contains g then some (pre.reverse,g,args) else xPp thr (o :: pre) rest
  | _ => xPp thr (o :: pre) rest
def toT (thr : List Nat) : ACode → List TCode → TCode × List TCode
 | .seq a b,l =>
  let p := toT thr a l
  let q := toT thr b p.2
  (if TCode.isNo p.1 && TCode.isNo q.1 then .no else .seq a p.1 q.1,q.2)
 | .cond c a b,l =>
  let p := toT thr a l
  let q := toT thr b p.2
  (if TCode.isNo p.1 && TCode.isNo q.1 then .no else .cond c p.1 q.1,q.2)
 | .block _ b,l => let p := toT thr b l; (if TCode.isNo p.1 then .no else .block p.1,p.2)
 | .scope b,l => let p := toT thr b l; (if TCode.isNo p.1 then .no else .scope p.1,p.2)
 | .region ops,l => match xPp thr [] ops with
  | some (pre,g,args) => (.call pre g args,l)
  | none => (.no,l)
 | .loop s b,l => let p := toT thr b l; (if TCode.isNo p.1 then .no else .loop s b p.1,p.2)
 | .drawh _ _ _ _ ops,t :: l => match xPp thr [] ops with
  | some _ => (t,l)
  | none => (.no,t :: l)
 | .stuck,t :: l => (t,l)
 | _,l => (.no,l)
def zW : List AV := [.int .i64 0,.int .i64 0]
def t70 : TFunc := ⟨53,(toT [] a70.code [
 .thr [⟨some 18,.mov (.t 0),none⟩,⟨some 19,.nilchk (.t 18),none⟩,⟨some 20,.faddr 1 (.t 19),none⟩,⟨some 21,.load false 1 (.t 20),none⟩,⟨some 22,.build zW [(0,1,.t 21),(1,1,.c (.int .i64 3))],none⟩] 23 82 (.t 22),
 .thr [⟨some 37,.mov (.t 0),none⟩,⟨some 38,.nilchk (.t 37),none⟩,⟨some 39,.faddr 1 (.t 38),none⟩,⟨some 40,.load false 1 (.t 39),none⟩,⟨some 41,.mov (.t 2),none⟩,⟨some 42,.build zW [(0,1,.t 40),(1,1,.t 41)],none⟩] 43 82 (.t 42)]).1⟩
def t71 : TFunc := ⟨59,(toT [70] a71.code [
 .thr [⟨some 53,.mov (.t 0),none⟩,⟨some 54,.nilchk (.t 53),none⟩,⟨some 55,.faddr 1 (.t 54),none⟩,⟨some 56,.load false 1 (.t 55),none⟩,⟨some 57,.build zW [(0,1,.t 56),(1,1,.c (.int .i64 6))],none⟩] 58 82 (.t 57)]).1⟩
def t72 : TFunc := ⟨21,(toT [70,73] a72.code []).1⟩
def t73 : TFunc := ⟨14,(toT [70] a73.code []).1⟩
def t41 : TFunc := ⟨134,(toT [70,71,72,73,41] a41.code [
 .thr [⟨some 14,.mov (.t 0),none⟩,⟨some 15,.nilchk (.t 14),none⟩,⟨some 16,.faddr 1 (.t 15),none⟩,⟨some 17,.load false 1 (.t 16),none⟩,⟨some 18,.build zW [(0,1,.t 17),(1,1,.c (.int .i64 4))],none⟩] 19 82 (.t 18),
 .dcall [⟨some 92,.faddr 2 (.t 4),none⟩,⟨some 93,.load false 1 (.t 92),none⟩,⟨some 94,.mov (.t 0),none⟩] 72 [.t 94,.c (.str ⟨#[48,49,50,51,52,53,54,55,120,121,122]⟩)]]).1⟩
def tp : Nat → Option TFunc
 | 41 => some t41
 | 70 => some t70
 | 71 => some t71
 | 72 => some t72
 | 73 => some t73
 | _ => none
theorem yBV : ∀ f tf,tp f = some tf → xKQ Tryd.prog f tf = true := by
 intro f tf h
 unfold tp at h
 split at h
 ·cases h; kernel_rfl
 ·cases h; kernel_rfl
 ·cases h; kernel_rfl
 ·cases h; kernel_rfl
 ·cases h; kernel_rfl
 ·cases h
def prog1 (f : Nat) : Option AFunc := if f = 12 then some ⟨39,.stuck,xWV⟩ else xAq f
end Go.Proofs
/- The interpreter's table,its entries but Parse: strings.IndexByte,strings.TrimLeft,strings.Join. -/
set_option linter.unusedVariables false
set_option linter.unusedSimpArgs false
set_option maxRecDepth 100000
namespace Go.Proofs
open Go.RowKit Go.Abs Go.Abs.Events
theorem Ev.idxOk (args : List AV) (v : AV) (h : (match args with | [.str s,.int .u8 c] => some (AV.int .i64 (Lib.indexByte s.data.toList c.toNat.toUInt8)) | _ => none) = some v) (im : Im) (w : World) (vs : List Value) (hI : xK9 im w) (hr : Reps im noIo args vs) : Calls Tryd.prog 98 vs.toArray w (xDN im w v) := by
 split at h
 case h_2 => cases h
 cases h
 exact Ev.idx im w vs _ _ hI hr
theorem Ev.trimOk (args : List AV) (v : AV) (h : (match args with | [.str s,.str t] => if t.data.toList.all (fun b => decide (b.toNat < 128)) && decide (t.size < 4294967281) then some (AV.str ⟨(Lib.trimLeftS s.data.toList t.data.toList).toArray⟩) else none | _ => none) = some v) (im : Im) (w : World) (vs : List Value) (hI : xK9 im w) (hr : Reps im noIo args vs) : Calls Tryd.prog 99 vs.toArray w (xDN im w v) := by
 split at h
 case h_2 => cases h
 split at h
 case isFalse => cases h
 rename_i hc
 cases h
 simp only [Bool.and_eq_true,List.all_eq_true,decide_eq_true_eq] at hc
 exact Ev.trim im w vs _ _ hc.1 hc.2 hI hr
theorem xSW : xKp 98 = some (fun args => match args with | [.str s,.int .u8 c] => some (AV.int .i64 (Lib.indexByte s.data.toList c.toNat.toUInt8)) | _ => none) := rfl
theorem xSX : xKp 99 = some (fun args => match args with | [.str s,.str t] => if t.data.toList.all (fun b => decide (b.toNat < 128)) && decide (t.size < 4294967281) then some (AV.str ⟨(Lib.trimLeftS s.data.toList t.data.toList).toArray⟩) else none | _ => none) := rfl
theorem xSY : xKp 69 = some (fun args => match args with | [.sl _ n cs,.str t] => if n = cs.length ∧ n ≤ 1000 ∧ 1 ≤ t.size ∧ t.size ≤ 1000 then (xNH cs).bind fun l => if (Lib.join l t.data.toList).length ≤ 1000000000 then some (AV.str ⟨(Lib.join l t.data.toList).toArray⟩) else none else none | _ => none) := rfl
theorem xXT : xKp 12 = some (fun args => match args with | [.str s] => if pnp s.data.toList = true then some (AV.tup [.sl (parse s.data.toList).1.isEmpty (parse s.data.toList).1.length ((parse s.data.toList).1.flatMap fun n => [.int .u8 (n.op : Nat),.int .i64 n.name,.sl n.z n.args.length (n.args.map (AV.int .i64)),.int .i64 n.x,.int .i64 n.a,.int .i64 n.b]),.int .i64 ((parse s.data.toList).2.1 : Nat),.int .i64 ((parse s.data.toList).2.2 : Nat)]) else none | _ => none) := rfl
theorem xJs {f : Nat} (h1 : f ≠ 98) (h2 : f ≠ 99) (h3 : f ≠ 69) (h4 : f ≠ 12) : xKp f = none := by
 unfold xKp
 rw [if_neg h1,if_neg h2,if_neg h3,if_neg h4]
theorem xPq (vs : Array Value) (w : World) : (callFunc 98 vs).run Tryd.prog w = .ok (.enter 98 vs) w := by simp [callFunc,Tryd.func98,Tryd.f98,Result.andThen]
theorem xPr (vs : Array Value) (w : World) : (callFunc 99 vs).run Tryd.prog w = .ok (.enter 99 vs) w := by simp [callFunc,Tryd.func99,Tryd.f99,Result.andThen]
theorem xPs (vs : Array Value) (w : World) : (callFunc 12 vs).run Tryd.prog w = .ok (.enter 12 vs) w := by simp [callFunc,Tryd.func12,Tryd.f12,Result.andThen]
theorem xPt (vs : Array Value) (w : World) : (callFunc 69 vs).run Tryd.prog w = .ok (.enter 69 vs) w := by simp [callFunc,Tryd.func69,Tryd.f69,Result.andThen]
theorem xJt : ∀ {cs : List AV} {l : List (List UInt8)},xNH cs = some l → cs.length = l.length ∧ ∀ j,j < l.length → cs[j]? = some (.str ⟨(l.getD j []).toArray⟩)
 | [],l,h => by
  have : l = [] := by simpa [xNH] using h.symm
  subst this; exact ⟨rfl,fun j hj => by simp at hj⟩
 | c :: cs,l,h => by
  unfold xNH at h
  split at h
  ·rename_i e; cases e
  ·rename_i s cs' e
   cases e
   simp only [Option.map_eq_some_iff] at h
   obtain ⟨l',h,rfl⟩ := h
   obtain ⟨h1,h2⟩ := xJt h
   refine ⟨by simp [h1],fun j hj => ?_⟩
   cases j with
   | zero => simp
   | succ j => simpa using h2 j (by simpa using hj)
  ·cases h
theorem Ev.joinOk (args : List AV) (v : AV) (hg : (match args with | [.sl _ n cs,.str t] => if n = cs.length ∧ n ≤ 1000 ∧ 1 ≤ t.size ∧ t.size ≤ 1000 then (xNH cs).bind fun l => if (Lib.join l t.data.toList).length ≤ 1000000000 then some (AV.str ⟨(Lib.join l t.data.toList).toArray⟩) else none else none | _ => none) = some v) (im : Im) (w : World) (vs : List Value) (hI : xK9 im w) (hr : Reps im noIo args vs) : Calls Tryd.prog 69 vs.toArray w (xDN im w v) := by
 split at hg
 case h_2 => cases hg
 rename_i z n cs t
 split at hg
 case isFalse => cases hg
 rename_i hn
 simp only [Option.bind_eq_some_iff] at hg
 obtain ⟨l,hl,hg⟩ := hg
 split at hg
 case isFalse => cases hg
 rename_i hle
 cases hg
 obtain ⟨c1,c3⟩ := xJt hl
 obtain ⟨xs,hxl,hmap,hxs⟩ : ∃ xs : List ByteArray,xs.length = l.length ∧ xs.map (·.data.toList) = l ∧ ∀ j,j < l.length → xs[j]? = some ⟨(l.getD j []).toArray⟩ := by
  refine ⟨l.map fun b => (⟨b.toArray⟩ : ByteArray),by simp,?_,fun j hj => ?_⟩
  ·rw [List.map_map]
   exact List.map_id'' (fun _ => rfl) l
  ·rw [List.getElem?_map,List.getElem?_eq_getElem hj,List.getD_eq_getElem?_getD,List.getElem?_eq_getElem hj]
   rfl
 have fin : ∀ {e : Ending} {w' : World},(e = .returned (.string ⟨(Lib.join (xs.map (·.data.toList)) t.data.toList).toArray⟩) ∧ Below w.heap.size w w') → xDN im w (.str ⟨(Lib.join l t.data.toList).toArray⟩) e w' := by
  rintro e w' ⟨rfl,hb⟩
  refine ⟨_,im,rfl,ImLe.refl _,⟨fun b o hbo => ?_,hI.2⟩,fun b o hbo => .inl hbo,hb,?_⟩
  ·have := hI.1 b o hbo
   have hlt : b < w.heap.size := (Array.getElem?_eq_some_iff.1 this).1
   rw [hb.block b hlt]; exact this
  ·rw [hmap]; exact .str
 obtain ⟨hlen,hr⟩ := hr
 match vs,hlen with
 | [x,y],_ =>
  have hx := hr 0 _ x rfl rfl
  have hy := hr 1 _ y rfl rfl
  cases hy
  have nil : l = [] → ∀ (a : Option Addr) (c : Nat),Calls Tryd.prog 69 #[.slice a 0 c,.string t] w (xDN im w (.str ⟨(Lib.join l t.data.toList).toArray⟩)) := fun e a c => by
   refine (Tx.join_none a c t w).mono fun e' w' h => fin ⟨?_,h.2 ▸ Below.refl _ _⟩
   rw [h.1,hmap,e]; rfl
  cases hx with
  | slz => exact nil (List.eq_nil_of_length_eq_zero (by simpa using c1.symm)) _ _
  | sl0 => exact nil (List.eq_nil_of_length_eq_zero (by simpa using c1.symm)) _ _
  | sl hrow hl' hcap hc hk =>
   obtain ⟨c,tt,fr,g1,g2⟩ := hrow
   have hw := hI.1 _ _ g1
   have hnl : n = xs.length := by omega
   subst hnl
   refine (Tx.join _ _ _ xs t w (fun j s hj => ?_) (Array.getElem?_eq_some_iff.1 hw).1 hn.2.1 (by omega) hn.2.2.1 hn.2.2.2 (by rw [hmap]; exact hle)).mono fun e w' h => fin h
   have hj' : j < l.length := by
    have := (List.getElem?_eq_some_iff.1 hj).1
    omega
   have e1 := c3 j hj'
   have es : s = ⟨(l.getD j []).toArray⟩ := by
    rw [hxs j hj'] at hj
    exact (Option.some.inj hj).symm
   subst es
   have hjl : j < _ := Nat.lt_of_lt_of_eq (show j < cs.length by omega) hl'.symm
   have u1 := List.getElem?_eq_getElem hjl
   have u2 := hc j _ _ e1 u1
   have := g2 j _ u1
   generalize (_ : List Value)[j] = u at u2 this
   cases u2
   rw [Lib.cell_of_heap hw]
   exact this
end Go.Proofs
