/- A new block that is laid at a place kept free for it. -/
import Derived.Test.YtijmhicopfphnaaDoorAbsOp5
namespace Go.Abs
set_option linter.unusedVariables false
set_option linter.unusedSimpArgs false
open Go.RowKit
theorem Rep.keep {im0 im : Im} {c : AV} {io io' io'' : Io} {v0 : Value} (h : Rep im0 io c v0) : ∀ {v : Value},(∀ id x,io id = some x → ∀ y,io' id = some y → io'' id = some y) → Rep im io' c v → Rep im io'' c v := by
 induction h with
 | any v => intro v k h; exact .any v
 | int => intro v k h; cases h; exact .int
 | bool => intro v k h; cases h; exact .bool
 | str => intro v k h; cases h; exact .str
 | ptr h0 => intro v k h; cases h with | ptr h => exact .ptr (k _ _ h0 _ h)
 | vptr _ _ _ _ _ => intro v k h; cases h with | vptr hr hl hc hk => exact .vptr hr hl hc hk
 | nilp => intro v k h; cases h; exact .nilp
 | slz =>
  intro v k h
  cases h with
  | slz => exact .slz
 | sl _ _ _ _ _ _ =>
  intro v k h
  cases h with
  | sl hr hl hcap hc hk => exact .sl hr hl hcap hc hk
  | sl0 => exact .sl0
 | sl0 =>
  intro v k h
  cases h with
  | sl hr hl hcap hc hk => exact .sl hr hl hcap hc hk
  | sl0 => exact .sl0
 | ownz => intro v k h; cases h; exact .ownz
 | own h0 _ _ =>
  intro v k h
  cases h with
  | own h hcap hsz => exact .own (k _ _ h0 _ h) hcap hsz
  | own0 h => exact .own0 h
 | own0 h0 =>
  intro v k h
  cases h with
  | own h hcap hsz => exact .own0 h0
  | own0 h => exact .own0 h
 | func hl0 hc0 ih =>
  intro v k h
  cases h with
  | func hl hc =>
   refine .func hl (fun i c v h1 h2 => ?_)
   obtain ⟨hi,_⟩ := List.getElem?_eq_some_iff.1 h1
   exact ih i c _ h1 (List.getElem?_eq_getElem (by omega)) k (hc i c v h1 h2)
 | bfunc hl0 hc0 ih =>
  intro v k h
  cases h with
  | bfunc hl hc =>
   refine .bfunc hl (fun i c v h1 h2 => ?_)
   obtain ⟨hi,_⟩ := List.getElem?_eq_some_iff.1 h1
   exact ih i c _ h1 (List.getElem?_eq_getElem (by omega)) k (hc i c v h1 h2)
 | yield h0 => intro v k h; cases h with | yield h => exact .yield (k _ _ h0 _ h)
 | nilf => intro v k h; cases h; exact .nilf
 | mp h0 => intro v k h; cases h with | mp h => exact .mp (k _ _ h0 _ h)
 | nilm => intro v k h; cases h; exact .nilm
 | agg hl0 hc0 hk0 ih =>
  intro v k h
  cases h with
  | agg hl hc hk =>
   refine .agg hl (fun i c v h1 h2 => ?_) hk
   obtain ⟨hi,_⟩ := List.getElem?_eq_some_iff.1 h1
   exact ih i c _ h1 (List.getElem?_eq_getElem (by omega)) k (hc i c v h1 h2)
 | tup hl0 hc0 ih =>
  intro v k h
  cases h with
  | tup hl hc =>
   refine .tup hl (fun i c v h1 h2 => ?_)
   obtain ⟨hi,_⟩ := List.getElem?_eq_some_iff.1 h1
   exact ih i c _ h1 (List.getElem?_eq_getElem (by omega)) k (hc i c v h1 h2)
def yF6 (io : Io) : Blk → Prop
 | .dead => True
 | .cells _ _ cs => ∀ (i : Nat) (c : AV),cs[i]? = some c → ∃ im0 v0,Rep im0 io c v0
 | .mp es => ∀ (i : Nat) (e : AV × AV),es[i]? = some e → (∃ im0 v0,Rep im0 io e.1 v0) ∧ ∃ im0 v0,Rep im0 io e.2 v0
 | .loop _ _ F _ _ _ => ∀ (i : Nat) (c : AV),F[i]? = some c → ∃ im0 v0,Rep im0 io c v0
theorem BlkOk.keep {im : Im} {io io' io'' : Io} {w : World} {chk : Code → ACode → Bool} {id id' : Nat} {b : Blk} (hn : yF6 io b) (k : ∀ id x,io id = some x → ∀ y,io' id = some y → io'' id = some y) (he : io'' id' = io' id) (h : BlkOk im io' w chk id b) : BlkOk im io'' w chk id' b := by
 cases b with
 | dead => trivial
 | cells fz z cs =>
  rcases h with ⟨h1,h2,h3⟩ | ⟨h1,b,c,t,fr,h2,h3,h4,h5,h⟩
  ·exact .inl ⟨h1,by rw [he]; exact h2,h3⟩
  ·refine .inr ⟨h1,b,c,t,fr,h2,by rw [he]; exact h3,h4,h5,fun i cv hcv => ?_⟩
   obtain ⟨v,q1,hr,q2⟩ := h i cv hcv
   obtain ⟨_,_,h0⟩ := hn i cv hcv
   exact ⟨v,q1,h0.keep k hr,q2⟩
 | mp es =>
  obtain ⟨b,m,clk,h1,h2,h3,h4,h,h5,h6⟩ := h
  refine ⟨b,m,clk,by rw [he]; exact h1,h2,h3,h4,fun i e hi => ?_,h5,h6⟩
  obtain ⟨x,q1,r1,r2⟩ := h i e hi
  obtain ⟨⟨_,_,n1⟩,⟨_,_,n2⟩⟩ := hn i e hi
  exact ⟨x,q1,n1.keep k r1,n2.keep k r2⟩
 | loop st pend F ps asg body =>
  obtain ⟨b,h1,h2,r,h3,h4,h5,h6,h7,h8,h⟩ := h
  refine ⟨b,by rw [he]; exact h1,h2,r,h3,h4,h5,h6,h7,h8,h.1,fun i c v hc hv => ?_⟩
  obtain ⟨_,_,h0⟩ := hn i c hc
  exact h0.keep k (h.2 i c v hc hv)
section
variable {chk : Code → ACode → Bool} {P : Program} {o : Oper} {a : Act} {im : Im} {io : Io} {H H' : Heap} {w : World} {F : List AV} {R : Rec} {v : AV}
theorem xQS {es bytes : Nat} {x y : Arg} (hc : xAI P o (.appendh es bytes x y) = true) (hs : Sim chk im io H w) (hF : FRep im io F a) (h : xAc R F H (.appendh es bytes x y) = some (v,H')) : Good chk P o a im io w v H' := by simp [xAI] at hc
end
end Go.Abs
