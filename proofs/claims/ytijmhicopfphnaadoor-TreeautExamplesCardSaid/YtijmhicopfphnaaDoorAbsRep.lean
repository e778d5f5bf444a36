/- How abstract values stand for values of the model,and how a step keeps that. -/
import Derived.Test.YtijmhicopfphnaaDoorAbsDef
import Derived.WalkKit
import Derived.CallsIn
import Derived.OrdersIn
import Derived.RangeFuncIn
import Derived.RangeFuncLeaves
import Derived.RangeFuncRecord
namespace Go.Abs
set_option linter.unusedVariables false
set_option linter.unusedSimpArgs false
open Go.RowKit
abbrev Im := Nat → Option Obj
abbrev Io := Nat → Option (Nat × Nat)
def RowAt (im : Im) (b o : Nat) (vs : List Value) : Prop :=
 ∃ c t fr,im b = some (.cells c t fr) ∧ ∀ i v,vs[i]? = some v → c[o + i]? = some v
def xKI : Io := fun _ => none
inductive Rep (im : Im) : Io → AV → Value → Prop
 | any {io : Io} (v : Value) : Rep im io .any v
 | int {io : Io} {k : IntKind} {n : Int} : Rep im io (.int k n) (.int k n)
 | bool {io : Io} {b : Bool} : Rep im io (.bool b) (.bool b)
 | str {io : Io} {s : ByteArray} : Rep im io (.str s) (.string s)
 | ptr {io : Io} {id off b sz : Nat} (h : io id = some (b,sz)) : Rep im io (.ptr id off) (.pointer (some ⟨b,off,none⟩))
 | vptr {io : Io} {cs : List AV} {off b o : Nat} {vs : List Value} (hr : RowAt im b o vs) (hl : vs.length = cs.length)
   (hc : ∀ (i : Nat) (c : AV) (v : Value),cs[i]? = some c → vs[i]? = some v → Rep im xKI c v) (hk : ∀ c ∈ cs,c.isCell = true) :
   Rep im io (.vptr cs off) (.pointer (some ⟨b,o + off,none⟩))
 | nilp {io : Io} : Rep im io .nilp (.pointer none)
 | slz {io : Io} : Rep im io (.sl true 0 []) (.slice none 0 0)
 | sl {io : Io} {n : Nat} {cs : List AV} {b o cap : Nat} {vs : List Value} (hr : RowAt im b o vs) (hl : vs.length = cs.length) (hcap : n ≤ cap)
   (hc : ∀ (i : Nat) (c : AV) (v : Value),cs[i]? = some c → vs[i]? = some v → Rep im xKI c v) (hk : ∀ c ∈ cs,c.isCell = true) :
   Rep im io (.sl false n cs) (.slice (some ⟨b,o,none⟩) n cap)
 | sl0 {io : Io} {ad : Addr} {cap : Nat} : Rep im io (.sl false 0 []) (.slice (some ad) 0 cap)
 | ownz {io : Io} {id off es : Nat} : Rep im io (.own true id off 0 es) (.slice none 0 0)
 | own {io : Io} {id off n es b sz cap : Nat} (h : io id = some (b,sz)) (hcap : n ≤ cap) (hsz : off + cap * es ≤ sz) :
   Rep im io (.own false id off n es) (.slice (some ⟨b,off,none⟩) n cap)
 | own0 {io : Io} {id off es : Nat} {ad : Addr} {cap : Nat} (h : off ≠ 0) : Rep im io (.own false id off 0 es) (.slice (some ad) 0 cap)
 | func {io : Io} {f : Nat} {caps : List AV} {vs : List Value} (hl : vs.length = caps.length)
   (hc : ∀ (i : Nat) (c : AV) (v : Value),caps[i]? = some c → vs[i]? = some v → Rep im io c v) : Rep im io (.func f caps) (.func (.func f) #[] vs.toArray)
 | bfunc {io : Io} {f : Nat} {first : List AV} {vs : List Value} (hl : vs.length = first.length)
   (hc : ∀ (i : Nat) (c : AV) (v : Value),first[i]? = some c → vs[i]? = some v → Rep im io c v) : Rep im io (.bfunc f first) (.func (.func f) vs.toArray #[])
 | yield {io : Io} {l b sz : Nat} (h : io l = some (b,sz)) : Rep im io (.yield l) (.func (.yield b) #[] #[])
 | nilf {io : Io} : Rep im io .nilf .nilFunc
 | mp {io : Io} {id b : Nat} (h : io id = some (b,0)) : Rep im io (.mp id) (.map (some b))
 | nilm {io : Io} : Rep im io .nilm (.map none)
 | agg {io : Io} {cs : List AV} {vs : List Value} (hl : vs.length = cs.length)
   (hc : ∀ (i : Nat) (c : AV) (v : Value),cs[i]? = some c → vs[i]? = some v → Rep im io c v) (hk : ∀ c ∈ cs,c.isCell = true) : Rep im io (.agg cs) (.agg vs.toArray)
 | tup {io : Io} {cs : List AV} {vs : List Value} (hl : vs.length = cs.length)
   (hc : ∀ (i : Nat) (c : AV) (v : Value),cs[i]? = some c → vs[i]? = some v → Rep im io c v) : Rep im io (.tup cs) (.tuple vs.toArray)
def Reps (im : Im) (io : Io) (cs : List AV) (vs : List Value) : Prop :=
 vs.length = cs.length ∧ ∀ (i : Nat) (c : AV) (v : Value),cs[i]? = some c → vs[i]? = some v → Rep im io c v
def ImLe (im im' : Im) : Prop := ∀ b o,im b = some o → im' b = some o
def IoLe (io io' : Io) : Prop := ∀ i x,io i = some x → io' i = some x
theorem ImLe.refl (im : Im) : ImLe im im := fun _ _ h => h
theorem IoLe.refl (io : Io) : IoLe io io := fun _ _ h => h
theorem ImLe.trans {a b c : Im} (h : ImLe a b) (k : ImLe b c) : ImLe a c := fun _ _ x => k _ _ (h _ _ x)
theorem IoLe.trans {a b c : Io} (h : IoLe a b) (k : IoLe b c) : IoLe a c := fun _ _ x => k _ _ (h _ _ x)
theorem IoLe.none (io : Io) : IoLe xKI io := fun _ _ h => by cases h
theorem RowAt.mono {im im' : Im} (h : ImLe im im') {b o : Nat} {vs : List Value} (hr : RowAt im b o vs) : RowAt im' b o vs := by
 obtain ⟨c,t,fr,h1,h2⟩ := hr
 exact ⟨c,t,fr,h _ _ h1,h2⟩
theorem Rep.mono {im im' : Im} (him : ImLe im im') {io : Io} {v : AV} {x : Value} (h : Rep im io v x) : ∀ {io' : Io},IoLe io io' → Rep im' io' v x := by
 induction h with
 | any v => intro io' _; exact .any v
 | int => intro io' _; exact .int
 | bool => intro io' _; exact .bool
 | str => intro io' _; exact .str
 | ptr h => intro io' hio; exact .ptr (hio _ _ h)
 | vptr hr hl hc hk ih => intro io' hio; exact .vptr (hr.mono him) hl (fun i c v h1 h2 => ih i c v h1 h2 (IoLe.refl _)) hk
 | nilp => intro io' _; exact .nilp
 | slz => intro io' _; exact .slz
 | sl hr hl hcap hc hk ih => intro io' hio; exact .sl (hr.mono him) hl hcap (fun i c v h1 h2 => ih i c v h1 h2 (IoLe.refl _)) hk
 | sl0 => intro io' _; exact .sl0
 | ownz => intro io' _; exact .ownz
 | own h hcap hsz => intro io' hio; exact .own (hio _ _ h) hcap hsz
 | own0 h => intro io' _; exact .own0 h
 | func hl hc ih => intro io' hio; exact .func hl (fun i c v h1 h2 => ih i c v h1 h2 hio)
 | bfunc hl hc ih => intro io' hio; exact .bfunc hl (fun i c v h1 h2 => ih i c v h1 h2 hio)
 | yield h => intro io' hio; exact .yield (hio _ _ h)
 | nilf => intro io' _; exact .nilf
 | mp h => intro io' hio; exact .mp (hio _ _ h)
 | nilm => intro io' _; exact .nilm
 | agg hl hc hk ih => intro io' hio; exact .agg hl (fun i c v h1 h2 => ih i c v h1 h2 hio) hk
 | tup hl hc ih => intro io' hio; exact .tup hl (fun i c v h1 h2 => ih i c v h1 h2 hio)
theorem Reps.mono {im im' : Im} (him : ImLe im im') {io io' : Io} (hio : IoLe io io') {cs : List AV} {vs : List Value} (h : Reps im io cs vs) : Reps im' io' cs vs :=
 ⟨h.1,fun i c v h1 h2 => (h.2 i c v h1 h2).mono him hio⟩
theorem Reps.nil {im : Im} {io : Io} : Reps im io [] [] := ⟨rfl,fun i c v h => by simp at h⟩
theorem Reps.cons {im : Im} {io : Io} {c : AV} {v : Value} {cs : List AV} {vs : List Value} (h : Rep im io c v) (hs : Reps im io cs vs) : Reps im io (c :: cs) (v :: vs) := by
 refine ⟨by simp [hs.1],fun i c' v' h1 h2 => ?_⟩
 cases i with
 | zero => simp at h1 h2; subst h1; subst h2; exact h
 | succ i => simp at h1 h2; exact hs.2 i c' v' h1 h2
theorem Reps.append {im : Im} {io : Io} {cs cs' : List AV} {vs vs' : List Value} (h : Reps im io cs vs) (h' : Reps im io cs' vs') : Reps im io (cs ++ cs') (vs ++ vs') := by
 refine ⟨by simp [h.1,h'.1],fun i c v h1 h2 => ?_⟩
 by_cases hi : i < cs.length
 ·rw [List.getElem?_append_left hi] at h1
  rw [List.getElem?_append_left (by rw [h.1]; exact hi)] at h2
  exact h.2 i c v h1 h2
 ·rw [List.getElem?_append_right (by omega)] at h1
  rw [List.getElem?_append_right (by rw [h.1]; omega),h.1] at h2
  exact h'.2 _ c v h1 h2
theorem Reps.take {im : Im} {io : Io} {cs : List AV} {vs : List Value} (h : Reps im io cs vs) (n : Nat) : Reps im io (cs.take n) (vs.take n) := by
 refine ⟨by simp [h.1],fun i c v h1 h2 => ?_⟩
 by_cases hi : i < n
 ·rw [List.getElem?_take_of_lt hi] at h1 h2; exact h.2 i c v h1 h2
 ·rw [List.getElem?_take_eq_none (by omega)] at h1; cases h1
theorem Reps.drop {im : Im} {io : Io} {cs : List AV} {vs : List Value} (h : Reps im io cs vs) (n : Nat) : Reps im io (cs.drop n) (vs.drop n) := by
 refine ⟨by simp [h.1],fun i c v h1 h2 => ?_⟩
 rw [List.getElem?_drop] at h1 h2
 exact h.2 _ c v h1 h2
theorem Reps.get {im : Im} {io : Io} {cs : List AV} {vs : List Value} (h : Reps im io cs vs) {i : Nat} {c : AV} (hc : cs[i]? = some c) : ∃ v,vs[i]? = some v ∧ Rep im io c v := by
 have hi : i < cs.length := (List.getElem?_eq_some_iff.1 hc).1
 exact ⟨vs[i]'(by rw [h.1]; exact hi),List.getElem?_eq_getElem _,h.2 i c _ hc (List.getElem?_eq_getElem _)⟩
def GlobOk (im : Im) : Prop := ∀ g cs,xVE g = some cs → ∃ vs : List Value,RowAt im g 0 vs ∧ vs.length = cs.length ∧ (∀ (i : Nat) (c : AV) (v : Value),cs[i]? = some c → vs[i]? = some v → Rep im xKI c v) ∧ ∀ c ∈ cs,c.isCell = true
theorem GlobOk.mono {im im' : Im} (h : GlobOk im) (hle : ImLe im im') : GlobOk im' := by
 intro g cs hg
 obtain ⟨vs,h1,h2,h3,h4⟩ := h g cs hg
 exact ⟨vs,h1.mono hle,h2,fun i c v a b => (h3 i c v a b).mono hle (IoLe.refl _),h4⟩
def yBr (n : Nat) (fr : Nat × Nat) : Prop := fr = (0,0) ∨ n ≤ fr.1
def BlkOk (im : Im) (io : Io) (w : World) (chk : Code → ACode → Bool) (id : Nat) : Blk → Prop
 | .dead => True
 | .cells fz z cs => (z = true ∧ io id = none ∧ cs = []) ∨ (z = false ∧ ∃ b c t fr,yBr c.size fr ∧ io id = some (b,c.size) ∧ w.heap[b]? = some (.cells c t fr) ∧
   im b = (if fz then some (.cells c t fr) else none) ∧ (∀ (i : Nat) (cv : AV),cs[i]? = some cv → ∃ v,c[i]? = some v ∧ Rep im io cv v ∧ cv.isCell = true))
 | .mp es => ∃ b m clk,io id = some (b,0) ∧ im b = none ∧ w.heap[b]? = some (.map m clk) ∧ m.size = es.length ∧
   (∀ (i : Nat) (e : AV × AV),es[i]? = some e → ∃ x,m[i]? = some x ∧ Rep im io e.1 x.key ∧ Rep im io e.2 x.val) ∧ clk = m.size ∧ ∀ (i : Nat) x,m[i]? = some x → x.born = i
 | .loop st pend F ps asg body => ∃ b,io id = some (b,0) ∧ im b = none ∧ ∃ r : Loop,w.heap[b]? = some (.loop r) ∧
   r.state = (if st = 0 then .ready else if st = 1 then .busy else .done) ∧ r.params = ps.toArray ∧ chk r.assign asg = true ∧ chk r.body body = true ∧
   r.pending = (pend.map fun | .normal => Code.skip | .exit i => .exit i | .ret => .ret) ∧ Reps im io F r.tmps.toList
def Blk.live : Blk → Bool
 | .dead => false
 | .cells fz _ _ => !fz
 | .mp _ => true
 | .loop .. => true
def Own (io : Io) (b : Nat) : Prop := ∃ id sz,io id = some (b,sz)
structure Sim (chk : Code → ACode → Bool) (im : Im) (io : Io) (H : Heap) (w : World) : Prop where
 fresh : ∀ id,H.length ≤ id → io id = none
 blk : ∀ id b,H[id]? = some b → BlkOk im io w chk id b
 inj : ∀ i j bi bj b si sj,H[i]? = some bi → H[j]? = some bj → bi.live = true → bj.live = true → io i = some (b,si) → io j = some (b,sj) → i = j
 imw : ∀ b o,im b = some o → w.heap[b]? = some o
 inb : ∀ b,Own io b → b < w.heap.size
 glob : GlobOk im
structure Step (im : Im) (io : Io) (w : World) (im' : Im) (io' : Io) (w' : World) : Prop where
 im_le : ImLe im im'
 io_le : IoLe io io'
 os : w'.os = w.os
 tape : w'.tape = w.tape
 output : w'.output = w.output
 size : w.heap.size ≤ w'.heap.size
 stay : ∀ b,b < w.heap.size → ¬ Own io b → w'.heap[b]? = w.heap[b]?
 ownNew : ∀ b,Own io' b → Own io b ∨ w.heap.size ≤ b
 imNew : ∀ b o,im' b = some o → im b = some o ∨ Own io b ∨ w.heap.size ≤ b
theorem Step.refl (im : Im) (io : Io) (w : World) : Step im io w im io w :=
 ⟨.refl _,.refl _,rfl,rfl,rfl,Nat.le_refl _,fun _ _ _ => rfl,fun _ h => .inl h,fun _ _ h => .inl h⟩
theorem Step.trans {im im' im'' : Im} {io io' io'' : Io} {w w' w'' : World} (h : Step im io w im' io' w') (k : Step im' io' w' im'' io'' w'') : Step im io w im'' io'' w'' where
 im_le := h.im_le.trans k.im_le
 io_le := h.io_le.trans k.io_le
 os := k.os.trans h.os
 tape := k.tape.trans h.tape
 output := k.output.trans h.output
 size := Nat.le_trans h.size k.size
 stay b hb ho := by
  rw [k.stay b (Nat.lt_of_lt_of_le hb h.size) (fun ho' => by
   rcases h.ownNew b ho' with h1 | h1
   ·exact ho h1
   ·omega)]
  exact h.stay b hb ho
 ownNew b hb := by
  rcases k.ownNew b hb with h1 | h1
  ·exact h.ownNew b h1
  ·exact .inr (Nat.le_trans h.size h1)
 imNew b o hb := by
  rcases k.imNew b o hb with h1 | h1 | h1
  ·exact h.imNew b o h1
  ·rcases h.ownNew b h1 with h2 | h2
   ·exact .inr (.inl h2)
   ·exact .inr (.inr h2)
  ·exact .inr (.inr (Nat.le_trans h.size h1))
def FRep (im : Im) (io : Io) (F : List AV) (a : Act) : Prop := Reps im io F a.tmps.toList
theorem FRep.getD {im : Im} {io : Io} {F : List AV} {a : Act} (h : FRep im io F a) (i : Nat) : Rep im io (F.getD i .any) (a.tmps.getD i undef) := by
 by_cases hi : i < F.length
 ·obtain ⟨v,hv,hr⟩ := h.get (List.getElem?_eq_getElem hi)
  have e1 : F.getD i .any = F[i] := by simp [List.getD,List.getElem?_eq_getElem hi]
  have e2 : a.tmps.getD i undef = v := by
   rw [Array.getElem?_toList] at hv
   rw [Array.getD_eq_getD_getElem?,hv]
   rfl
  rw [e1,e2]
  exact hr
 ·have e1 : F.getD i .any = .any := by simp [List.getD,List.getElem?_eq_none (Nat.le_of_not_lt hi)]
  rw [e1]
  exact .any _
theorem Reps.set {im : Im} {io : Io} {cs : List AV} {vs : List Value} (h : Reps im io cs vs) (i : Nat) {c : AV} {v : Value} (hv : Rep im io c v) : Reps im io (cs.set i c) (vs.set i v) := by
 refine ⟨by simp [h.1],fun j c' v' h1 h2 => ?_⟩
 rw [List.getElem?_set] at h1 h2
 split at h1
 ·rename_i e
  subst e
  split at h1
  ·rename_i hlt
   rw [if_pos rfl,if_pos (by rw [h.1]; exact hlt)] at h2
   cases h1; cases h2; exact hv
  ·cases h1
 ·rename_i e
  rw [if_neg e] at h2
  exact h.2 j c' v' h1 h2
theorem FRep.put {im : Im} {io : Io} {F : List AV} {a : Act} (h : FRep im io F a) (dst : Option Nat) {v : AV} {x : Value} (hv : Rep im io v x) : FRep im io (putA F dst v) (a.put dst x) := by
 cases dst with
 | none => exact h
 | some d =>
  show Reps im io (F.set d v) (a.tmps.setIfInBounds d x).toList
  rw [Array.toList_setIfInBounds]
  exact Reps.set h d hv
theorem FRep.setSame {im : Im} {io : Io} {F : List AV} {a : Act} (h : FRep im io F a) (i : Nat) {v : AV} (hv : Rep im io v (a.tmps.getD i undef)) : FRep im io (F.set i v) a := by
 have := Reps.set (i := i) h hv
 have e : a.tmps.toList.set i (a.tmps.getD i undef) = a.tmps.toList := by
  apply List.ext_getElem?
  intro j
  rw [List.getElem?_set]
  split
  ·rename_i q
   subst q
   by_cases hi : i < a.tmps.toList.length
   ·rw [if_pos hi,Array.getD_eq_getD_getElem?,← Array.getElem?_toList,List.getElem?_eq_getElem hi]; rfl
   ·rw [if_neg hi,List.getElem?_eq_none (by omega)]
  ·rfl
 show Reps im io (F.set i v) a.tmps.toList
 rw [← e]; exact this
theorem FRep.mono {im im' : Im} {io io' : Io} {F : List AV} {a : Act} (h : FRep im io F a) (him : ImLe im im') (hio : IoLe io io') : FRep im' io' F a := Reps.mono him hio h
end Go.Abs
