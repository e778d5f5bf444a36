/- A new block that is laid at a place kept free for it. -/
import Derived.Test.YtijmhicopfphnaaDoorAbsOp5
namespace Go.Abs
set_option linter.unusedVariables false
set_option linter.unusedSimpArgs false
open Go.RowKit
theorem Rep.keep {im0 im : Im} {c : AV} {io io' io'' : Io} {v0 : Value} (h : Rep im0 io c v0) : ∀ {v : Value},(∀ id x,io id = some x → ∀ y,io' id = some y → io'' id = some y) → Rep im io' c v → Rep im io'' c v := by
 induction h with
 | any v => intro v k h; exact .any v
 | int => intro v k h; cases h; exact .int
 | bool => intro v k h; cases h; exact .bool
 | str => intro v k h; cases h; exact .str
 | ptr h0 => intro v k h; cases h with | ptr h => exact .ptr (k _ _ h0 _ h)
 | vptr _ _ _ _ _ => intro v k h; cases h with | vptr hr hl hc hk => exact .vptr hr hl hc hk
 | nilp => intro v k h; cases h; exact .nilp
 | slz =>
  intro v k h
  cases h with
  | slz => exact .slz
 | sl _ _ _ _ _ _ =>
  intro v k h
  cases h with
  | sl hr hl hcap hc hk => exact .sl hr hl hcap hc hk
  | sl0 => exact .sl0
 | sl0 =>
  intro v k h
  cases h with
  | sl hr hl hcap hc hk => exact .sl hr hl hcap hc hk
  | sl0 => exact .sl0
 | ownz => intro v k h; cases h; exact .ownz
 | own h0 _ _ =>
  intro v k h
  cases h with
  | own h hcap hsz => exact .own (k _ _ h0 _ h) hcap hsz
  | own0 h => exact .own0 h
 | own0 h0 =>
  intro v k h
  cases h with
  | own h hcap hsz => exact .own0 h0
  | own0 h => exact .own0 h
 | func hl0 hc0 ih =>
  intro v k h
  cases h with
  | func hl hc =>
   refine .func hl (fun i c v h1 h2 => ?_)
   obtain ⟨hi,_⟩ := List.getElem?_eq_some_iff.1 h1
   exact ih i c _ h1 (List.getElem?_eq_getElem (by omega)) k (hc i c v h1 h2)
 | bfunc hl0 hc0 ih =>
  intro v k h
  cases h with
  | bfunc hl hc =>
   refine .bfunc hl (fun i c v h1 h2 => ?_)
   obtain ⟨hi,_⟩ := List.getElem?_eq_some_iff.1 h1
   exact ih i c _ h1 (List.getElem?_eq_getElem (by omega)) k (hc i c v h1 h2)
 | yield h0 => intro v k h; cases h with | yield h => exact .yield (k _ _ h0 _ h)
 | nilf => intro v k h; cases h; exact .nilf
 | mp h0 => intro v k h; cases h with | mp h => exact .mp (k _ _ h0 _ h)
 | nilm => intro v k h; cases h; exact .nilm
 | agg hl0 hc0 hk0 ih =>
  intro v k h
  cases h with
  | agg hl hc hk =>
   refine .agg hl (fun i c v h1 h2 => ?_) hk
   obtain ⟨hi,_⟩ := List.getElem?_eq_some_iff.1 h1
   exact ih i c _ h1 (List.getElem?_eq_getElem (by omega)) k (hc i c v h1 h2)
 | tup hl0 hc0 ih =>
  intro v k h
  cases h with
  | tup hl hc =>
   refine .tup hl (fun i c v h1 h2 => ?_)
   obtain ⟨hi,_⟩ := List.getElem?_eq_some_iff.1 h1
   exact ih i c _ h1 (List.getElem?_eq_getElem (by omega)) k (hc i c v h1 h2)
def xUG (io : Io) : Blk → Prop
 | .dead => True
 | .cells _ _ cs => ∀ (i : Nat) (c : AV),cs[i]? = some c → ∃ im0 v0,Rep im0 io c v0
 | .mp es => ∀ (i : Nat) (e : AV × AV),es[i]? = some e → (∃ im0 v0,Rep im0 io e.1 v0) ∧ ∃ im0 v0,Rep im0 io e.2 v0
 | .loop _ _ F _ _ _ => ∀ (i : Nat) (c : AV),F[i]? = some c → ∃ im0 v0,Rep im0 io c v0
theorem BlkOk.named {im : Im} {io : Io} {w : World} {chk : Code → ACode → Bool} {id : Nat} {b : Blk} (h : BlkOk im io w chk id b) : xUG io b := by
 cases b with
 | dead => trivial
 | cells fz z cs =>
  rcases h with ⟨_,_,rfl⟩ | ⟨_,b,c,t,fr,_,_,_,_,h⟩
  ·intro i c hc; simp at hc
  ·intro i cv hcv
   obtain ⟨v,_,hr,_⟩ := h i cv hcv
   exact ⟨_,_,hr⟩
 | mp es =>
  obtain ⟨b,m,clk,_,_,_,_,h,_⟩ := h
  intro i e he
  obtain ⟨x,_,h1,h2⟩ := h i e he
  exact ⟨⟨_,_,h1⟩,⟨_,_,h2⟩⟩
 | loop st pend F ps asg body =>
  obtain ⟨b,_,_,r,_,_,_,_,_,_,h⟩ := h
  intro i c hc
  obtain ⟨v,_,hr⟩ := h.get hc
  exact ⟨_,_,hr⟩
theorem BlkOk.keep {im : Im} {io io' io'' : Io} {w : World} {chk : Code → ACode → Bool} {id id' : Nat} {b : Blk} (hn : xUG io b) (k : ∀ id x,io id = some x → ∀ y,io' id = some y → io'' id = some y) (he : io'' id' = io' id) (h : BlkOk im io' w chk id b) : BlkOk im io'' w chk id' b := by
 cases b with
 | dead => trivial
 | cells fz z cs =>
  rcases h with ⟨h1,h2,h3⟩ | ⟨h1,b,c,t,fr,h2,h3,h4,h5,h⟩
  ·exact .inl ⟨h1,by rw [he]; exact h2,h3⟩
  ·refine .inr ⟨h1,b,c,t,fr,h2,by rw [he]; exact h3,h4,h5,fun i cv hcv => ?_⟩
   obtain ⟨v,q1,hr,q2⟩ := h i cv hcv
   obtain ⟨_,_,h0⟩ := hn i cv hcv
   exact ⟨v,q1,h0.keep k hr,q2⟩
 | mp es =>
  obtain ⟨b,m,clk,h1,h2,h3,h4,h,h5,h6⟩ := h
  refine ⟨b,m,clk,by rw [he]; exact h1,h2,h3,h4,fun i e hi => ?_,h5,h6⟩
  obtain ⟨x,q1,r1,r2⟩ := h i e hi
  obtain ⟨⟨_,_,n1⟩,⟨_,_,n2⟩⟩ := hn i e hi
  exact ⟨x,q1,n1.keep k r1,n2.keep k r2⟩
 | loop st pend F ps asg body =>
  obtain ⟨b,h1,h2,r,h3,h4,h5,h6,h7,h8,h⟩ := h
  refine ⟨b,by rw [he]; exact h1,h2,r,h3,h4,h5,h6,h7,h8,h.1,fun i c v hc hv => ?_⟩
  obtain ⟨_,_,h0⟩ := hn i c hc
  exact h0.keep k (h.2 i c v hc hv)
def xER (h L : Nat) (io : Io) : Io := fun i => if i = h then io L else if i = L then none else io i
theorem xYp {chk : Code → ACode → Bool} {im im' : Im} {io io' : Io} {H H' : Heap} {w w' : World} {h : Nat} {fz : Bool} {b : Blk}
  (hs : Sim chk im io H w) (hs' : Sim chk im' io' H' w') (hstep : Step im io w im' io' w') (hh : H[h]? = some (.cells fz true []))
  (hl : H'.length = H.length + 1) (hb : H'[H.length]? = some b) (hbn : xUG io b) (hold : ∀ i,i < H.length → H'[i]? = H[i]? ∨ H'[i]? = some .dead) :
  Step im io w im' (xER h H.length io') w' ∧ Sim chk im' (xER h H.length io') ((H'.take H.length).set h b) w' := by
 have hhl := (List.getElem?_eq_some_iff.1 hh).1
 have hnone : io h = none := by
  rcases hs.blk h _ hh with ⟨_,q,_⟩ | ⟨q,_⟩
  ·exact q
  ·cases q
 have k : ∀ id x,io id = some x → ∀ y,io' id = some y → xER h H.length io' id = some y := by
  intro id x hx y hy
  have h1 : id ≠ h := by rintro rfl; rw [hnone] at hx; cases hx
  have h2 : id ≠ H.length := by rintro rfl; rw [hs.fresh _ (Nat.le_refl _)] at hx; cases hx
  simp only [xER,if_neg h1,if_neg h2]; exact hy
 have own : ∀ q,Own (xER h H.length io') q → Own io' q := by
  rintro q ⟨id,sz,e⟩
  simp only [xER] at e
  split at e
  ·exact ⟨_,_,e⟩
  ·split at e
   ·cases e
   ·exact ⟨_,_,e⟩
 have from' : ∀ i c,((H'.take H.length).set h b)[i]? = some c → ∃ j,H'[j]? = some c ∧ xER h H.length io' i = io' j ∧ xUG io c ∧ (i = h ∧ j = H.length ∨ i ≠ h ∧ j = i ∧ i < H.length) := by
  intro i c hc
  rw [List.getElem?_set] at hc
  split at hc
  ·rename_i e
   subst e
   split at hc
   ·cases hc
    exact ⟨H.length,hb,by simp [xER],hbn,.inl ⟨rfl,rfl⟩⟩
   ·cases hc
  ·rename_i e
   have hi : i < H.length := by
    have := (List.getElem?_eq_some_iff.1 hc).1
    simp at this; omega
   rw [List.getElem?_take_of_lt hi] at hc
   refine ⟨i,hc,by simp only [xER]; rw [if_neg (Ne.symm e),if_neg (by omega)],?_,.inr ⟨Ne.symm e,rfl,hi⟩⟩
   rcases hold i hi with q | q
   ·rw [q] at hc
    exact (hs.blk i _ hc).named
   ·rw [q] at hc; cases hc; trivial
 refine ⟨⟨hstep.im_le,fun i x hx => k i x hx x (hstep.io_le i x hx),hstep.os,hstep.tape,hstep.output,hstep.size,hstep.stay,fun q hq => hstep.ownNew q (own q hq),hstep.imNew⟩,?_⟩
 refine ⟨fun id hid => ?_,fun id c hc => ?_,fun i j bi bj b' si sj hi hj li lj ei ej => ?_,hs'.imw,fun q hq => hs'.inb q (own q hq),hs'.glob⟩
 ·have hid' : H.length ≤ id := by
   simp at hid; omega
  simp only [xER]
  rw [if_neg (by omega)]
  split
  ·rfl
  ·exact hs'.fresh _ (by omega)
 ·obtain ⟨j,h1,h2,h3,_⟩ := from' id c hc
  exact (hs'.blk j c h1).keep h3 k h2
 ·obtain ⟨i',p1,p2,_,p3⟩ := from' i bi hi
  obtain ⟨j',q1,q2,_,q3⟩ := from' j bj hj
  have := hs'.inj i' j' bi bj b' si sj p1 q1 li lj (by rw [← p2]; exact ei) (by rw [← q2]; exact ej)
  omega
theorem xCC (k : Option Nat) (H : Heap) : (xCG k H).length = H.length := by cases k <;> simp [xCG]
theorem xUH (k : Option Nat) (H : Heap) (i : Nat) : (xCG k H)[i]? = H[i]? ∨ (xCG k H)[i]? = some .dead := by
 cases k with
 | none => exact .inl rfl
 | some j =>
  simp only [xCG,List.getElem?_set]
  split
  ·split
   ·exact .inr rfl
   ·rename_i e q; subst e; exact .inl (by rw [List.getElem?_eq_none (by omega)])
  ·exact .inl rfl
theorem xUI {b : Blk} (h : isHole b = true) : b = .cells true true [] := by
 unfold isHole at h
 split at h
 ·rfl
 ·cases h
theorem xGK : ∀ {H : Heap} {h : Nat},xF4 H = some h → H[h]? = some (.cells true true [])
 | [],_,e => by cases e
 | b :: H,h,e => by
  simp only [xF4] at e
  split at e
  ·rename_i i hi
   cases e
   simpa using xGK hi
  ·split at e
   ·rename_i hb
    cases e
    rw [xUI hb]; rfl
   ·cases e
theorem xH0 {R : Rec} {F : List AV} {H : Heap} {es bytes : Nat} {x y : Arg} : xAg R F H (.append false es bytes x y) = (xTT H es bytes (opv F x) (opv F y)).map fun r => (.own r.1 H.length 0 r.2.1 es,xCG r.2.2.2 H ++ [.cells false r.1 r.2.2.1]) := by
 simp only [xAg,xTT]
 cases src H es (opv F y) with
 | none => rfl
 | some p =>
  obtain ⟨m,ys⟩ := p
  simp only
  cases opv F x with
  | sl z n cs =>
   cases z with
   | false => rfl
   | true =>
    simp only
    split <;> rfl
  | own z id off n es' =>
   simp only
   cases H[id]? with
   | none => rfl
   | some b =>
    cases b with
    | cells fz z' cs =>
     cases fz with
     | true => rfl
     | false =>
      simp only
      split <;> rfl
    | _ => rfl
  | _ => rfl
theorem xTH {chk : Code → ACode → Bool} {im : Im} {io : Io} {H : Heap} {w : World} {es bytes : Nat} {xv yv : AV} {y : Value} {r : Bool × Nat × List AV × Option Nat} (hs : Sim chk im io H w) (hr : Rep im io yv y) (h : xTT H es bytes xv yv = some r) : xUG io (.cells false r.1 r.2.2.1) := by
 unfold xTT at h
 split at h
 ·cases h
 rename_i m ys hsrc
 obtain ⟨ad,cap,vs,_,hl,hrs,_⟩ := xH5 hs hsrc hr
 have hys : ∀ (i : Nat) (c : AV),ys[i]? = some c → ∃ im0 v0,Rep im0 io c v0 := by
  intro i c hc
  obtain ⟨v,_,h⟩ := hrs.get hc
  exact ⟨_,_,h⟩
 split at h
 ·split at h
  ·cases h; exact hys
  ·cases h
 ·split at h
  ·rename_i z id off n es' _ zz cs hid
   split at h
   ·cases h
    intro i c hc
    by_cases q : i < (cs.take (n * es)).length
    ·rw [List.getElem?_append_left q] at hc
     have hlt : i < n * es := by simp at q; omega
     rw [List.getElem?_take_of_lt hlt] at hc
     exact (hs.blk id _ hid).named i c hc
    ·rw [List.getElem?_append_right (by omega)] at hc
     exact hys _ c hc
   ·cases h
  ·cases h
 ·cases h
section
variable {chk : Code → ACode → Bool} {P : Program} {o : Oper} {a : Act} {im : Im} {io : Io} {H H' : Heap} {w : World} {F : List AV} {R : Rec} {v : AV}
theorem xMY {es bytes : Nat} {x y : Arg} (hc : xA3 P o (.appendh es bytes x y) = true) (hs : Sim chk im io H w) (hF : FRep im io F a) (h : xAg R F H (.appendh es bytes x y) = some (v,H')) : Good chk P o a im io w v H' := by
 have hc' : xA3 P o (.append false es bytes x y) = true := by simpa only [xA3] using hc
 have hy : ∃ y0,Rep im io (opv F y) y0 := by
  simp only [xA3] at hc
  split at hc
  case h_2 => cases hc
  split at hc
  case h_2 => cases hc
  simp only [Bool.and_eq_true] at hc
  exact ⟨_,xAt hc.1.1.2 hF⟩
 obtain ⟨y0,hy⟩ := hy
 simp only [xAg] at h
 split at h
 ·cases h
 rename_i hh hhole
 obtain ⟨⟨z,n,cs,k⟩,hB,e⟩ := Option.map_eq_some_iff.1 h
 have hex : xAg R F H (.append false es bytes x y) = some (.own z H.length 0 n es,xCG k H ++ [.cells false z cs]) := by rw [xH0,hB]; rfl
 cases e
 obtain ⟨im',io',w',xv,hrun,hst,hs',hr⟩ := xH1 hc' hs hF hex
 have hl : (xCG k H).length = H.length := xCC k H
 have key := xYp (b := .cells false z cs) hs hs' hst (xGK hhole) (by simp [hl]) (by rw [List.getElem?_append_right (by omega),hl]; simp) (xTH hs hy hB) (fun i hi => by
  rw [List.getElem?_append_left (by omega)]
  exact xUH k H i)
 refine ⟨im',_,w',xv,hrun,key.1,?_,?_⟩
 ·have e : (xCG k H ++ [Blk.cells false z cs]).take H.length = xCG k H := by rw [← hl,List.take_left]
  have := key.2
  rwa [e] at this
 ·cases hr with
  | ownz => exact .ownz
  | own h1 h2 h3 => exact .own (by simp only [xER,if_true]; exact h1) h2 h3
  | own0 hz => exact (hz rfl).elim
end
end Go.Abs
