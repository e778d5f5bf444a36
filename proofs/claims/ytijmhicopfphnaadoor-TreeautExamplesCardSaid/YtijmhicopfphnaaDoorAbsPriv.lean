/- Blocks that are nobody's yet,and how they become the abstract heap's. -/
import Derived.Test.YtijmhicopfphnaaDoorAbsOp6
namespace Go.Abs
set_option linter.unusedVariables false
set_option linter.unusedSimpArgs false
section
variable {chk : Code → ACode → Bool} {im im' : Im} {io io' : Io} {H H' : Heap} {w w' : World} {v : AV} {x : Value}
theorem xJP {im : Im} {io io' : Io} {v : AV} {x : Value} (hd : xEb v = true) (h : Rep im io v x) : Rep im io' v x := by
 cases v with
 | int k n => cases h; exact .int
 | bool b => cases h; exact .bool
 | str s => cases h; exact .str
 | nilp => cases h; exact .nilp
 | nilf => cases h; exact .nilf
 | sl z n cs =>
  cases h with
  | slz => exact .slz
  | sl h1 h2 h3 h4 h5 => exact .sl h1 h2 h3 h4 h5
  | sl0 => exact .sl0
 | func f cs =>
  cases cs with
  | nil => cases h with
   | func h1 h2 => exact .func h1 (fun i c v q => by simp at q)
  | cons c cs => cases hd
 | _ => cases hd
def xKb (ios : List (Option (Nat × Nat))) : Io := fun k => (ios[k]?).join
def xP0 (io : Io) (L : Nat) (ios : List (Option (Nat × Nat))) : Io := fun i => if i < L then io i else xKb ios (i - L)
theorem xKq {L : Nat} {ios : List (Option (Nat × Nat))} {i : Nat} (h : i < L) : xP0 io L ios i = io i := if_pos h
theorem xJm {L : Nat} {ios : List (Option (Nat × Nat))} (k : Nat) : xP0 io L ios (L + k) = xKb ios k := by
 unfold xP0
 rw [if_neg (by omega),Nat.add_sub_cancel_left]
theorem ioAt_some {ios : List (Option (Nat × Nat))} {k : Nat} {y : Nat × Nat} : xKb ios k = some y ↔ ios[k]? = some (some y) := by
 unfold xKb
 cases ios[k]? with
 | none => simp
 | some z => simp [Option.join]
structure PrivB (B0 : Nat) (im : Im) (io : Io) (w : World) (B : List Blk) (ios : List (Option (Nat × Nat))) : Prop where
 len : ios.length = B.length
 blk : ∀ k bk,B[k]? = some bk → (bk = .cells false true [] ∧ xKb ios k = none) ∨ ∃ cs b c t fr,yBr c.size fr ∧ bk = .cells false false cs ∧ xKb ios k = some (b,c.size) ∧ w.heap[b]? = some (.cells c t fr) ∧ im b = none ∧ ¬ Own io b ∧ B0 ≤ b ∧
  (∀ (i : Nat) (cv : AV),cs[i]? = some cv → ∃ u,c[i]? = some u ∧ Rep im xKI cv u ∧ cv.isCell = true)
 inj : ∀ k l b s s',xKb ios k = some (b,s) → xKb ios l = some (b,s') → k = l
theorem PrivB.own {B0 : Nat} {B : List Blk} {ios : List (Option (Nat × Nat))} (h : PrivB B0 im io w B ios) {k b s : Nat} (hk : xKb ios k = some (b,s)) :
  ∃ cs c t fr,yBr c.size fr ∧ B[k]? = some (.cells false false cs) ∧ s = c.size ∧ w.heap[b]? = some (.cells c t fr) ∧ im b = none ∧ ¬ Own io b ∧ B0 ≤ b := by
 have hk' := ioAt_some.1 hk
 have hlt := (List.getElem?_eq_some_iff.1 hk').1
 rw [h.len] at hlt
 have hB : B[k]? = some B[k] := List.getElem?_eq_getElem hlt
 rcases h.blk k _ hB with ⟨_,e⟩ | ⟨cs,b',c,t,fr,hfr,e1,e2,e3,e4,e5,e6,_⟩
 ·rw [hk] at e; cases e
 ·rw [hk] at e2; cases e2
  exact ⟨cs,c,t,fr,hfr,by rw [hB,e1],rfl,e3,e4,e5,e6⟩
theorem PrivB.step {B0 : Nat} {B : List Blk} {ios : List (Option (Nat × Nat))} (h : PrivB B0 im io w B ios) (hs : Step im io w im' io' w') : PrivB B0 im' io' w' B ios where
 len := h.len
 blk k bk hk := by
  rcases h.blk k bk hk with e | ⟨cs,b,c,t,fr,hfr,e1,e2,e3,e4,e5,e6,e7⟩
  ·exact .inl e
  ·have hlt : b < w.heap.size := (Array.getElem?_eq_some_iff.1 e3).1
   refine .inr ⟨cs,b,c,t,fr,hfr,e1,e2,by rw [hs.stay b hlt e5]; exact e3,?_,fun ho => ?_,e6,fun i cv hi => ?_⟩
   ·cases e : im' b with
    | none => rfl
    | some o =>
     rcases hs.imNew b o e with q | q | q
     ·rw [e4] at q; cases q
     ·exact (e5 q).elim
     ·omega
   ·rcases hs.ownNew b ho with q | q
    ·exact e5 q
    ·omega
   ·obtain ⟨u,q1,q2,q3⟩ := e7 i cv hi
    exact ⟨u,q1,q2.mono hs.im_le (.refl _),q3⟩
 inj := h.inj
theorem xP1 {L : Nat} {ios : List (Option (Nat × Nat))} (hf : ∀ id,L ≤ id → io id = none) : IoLe io (xP0 io L ios) := fun i y hi => by
 have : i < L := by
  rcases Nat.lt_or_ge i L with q | q
  ·exact q
  ·rw [hf i q] at hi; cases hi
 rw [xKq this]; exact hi
theorem xMa {L : Nat} {ios : List (Option (Nat × Nat))} {b : Nat} (h : Own (xP0 io L ios) b) : Own io b ∨ ∃ k s,xKb ios k = some (b,s) := by
 obtain ⟨id,sz,hi⟩ := h
 by_cases e : id < L
 ·rw [xKq e] at hi; exact .inl ⟨id,sz,hi⟩
 ·rw [show id = L + (id - L) by omega,xJm] at hi
  exact .inr ⟨_,_,hi⟩
theorem Sim.addAll {B0 : Nat} {B : List Blk} {ios : List (Option (Nat × Nat))} (h : Sim chk im io H w) (hp : PrivB B0 im io w B ios) : Sim chk im (xP0 io H.length ios) (H ++ B) w := by
 have hle : IoLe io (xP0 io H.length ios) := xP1 h.fresh
 have key : ∀ i bi,(H ++ B)[i]? = some bi → (i < H.length ∧ H[i]? = some bi) ∨ ∃ k,i = H.length + k ∧ B[k]? = some bi := by
  intro i bi hi
  by_cases e : i < H.length
  ·rw [List.getElem?_append_left e] at hi; exact .inl ⟨e,hi⟩
  ·rw [List.getElem?_append_right (by omega)] at hi
   exact .inr ⟨i - H.length,by omega,hi⟩
 refine ⟨fun id hid => ?_,fun id bk hH => ?_,fun i j bi bj b si sj hi hj li lj hbi hbj => ?_,h.imw,fun b ho => ?_,h.glob⟩
 ·simp at hid
  rw [show id = H.length + (id - H.length) by omega,xJm]
  unfold xKb
  rw [List.getElem?_eq_none (by rw [hp.len]; omega)]; rfl
 ·rcases key id bk hH with ⟨e,hb⟩ | ⟨k,rfl,hb⟩
  ·exact (h.blk id bk hb).mono (.refl _) hle (fun e' => by rw [xKq e]; exact e') (fun b sz hio _ => ⟨rfl,fun e => e⟩)
  ·rcases hp.blk k bk hb with ⟨rfl,e⟩ | ⟨cs,b,c,t,fr,hfr,rfl,e2,e3,e4,e5,e6,e7⟩
   ·exact .inl ⟨rfl,by rw [xJm]; exact e,rfl⟩
   ·refine .inr ⟨rfl,b,c,t,fr,hfr,by rw [xJm]; exact e2,e3,e4,fun i cv hi => ?_⟩
    obtain ⟨u,q1,q2,q3⟩ := e7 i cv hi
    exact ⟨u,q1,q2.mono (.refl _) (IoLe.none _),q3⟩
 ·rcases key i bi hi with ⟨e1,h1⟩ | ⟨k,rfl,h1⟩ <;> rcases key j bj hj with ⟨e2,h2⟩ | ⟨l,rfl,h2⟩
  ·rw [xKq e1] at hbi
   rw [xKq e2] at hbj
   exact h.inj i j bi bj b si sj h1 h2 li lj hbi hbj
  ·rw [xKq e1] at hbi
   rw [xJm] at hbj
   obtain ⟨_,_,_,_,_,_,_,_,_,q,_⟩ := hp.own hbj
   exact (q ⟨i,si,hbi⟩).elim
  ·rw [xJm] at hbi
   rw [xKq e2] at hbj
   obtain ⟨_,_,_,_,_,_,_,_,_,q,_⟩ := hp.own hbi
   exact (q ⟨j,sj,hbj⟩).elim
  ·rw [xJm] at hbi hbj
   rw [hp.inj k l b si sj hbi hbj]
 ·rcases xMa ho with q | ⟨k,s,q⟩
  ·exact h.inb b q
  ·obtain ⟨_,c,t,_,_,_,_,e,_⟩ := hp.own q
   exact (Array.getElem?_eq_some_iff.1 e).1
theorem xOL {v : AV} (h : xEb v = true) (base : Nat) : xCJ base v = v := by
 cases v <;> first | rfl | cases h
theorem xK2 (v : AV) (base : Nat) : (xCJ base v).isCell = v.isCell := by cases v <;> rfl
theorem xOM {v : AV} (h : xJD v = true) : (∃ id off,v = .ptr id off) ∨ (∃ z id off n es,v = .own z id off n es) ∨ xEb v = true := by
 cases v <;> first | exact .inl ⟨_,_,rfl⟩ | exact .inr (.inl ⟨_,_,_,_,_,rfl⟩) | exact .inr (.inr h)
theorem xON {v : AV} (h : xJ3 v = true) : (∃ cs,v = .agg cs ∧ cs.all xJD = true) ∨ (xJD v = true ∧ ∀ base,xD9 base v = xCJ base v) := by
 cases v <;> first | exact .inl ⟨_,rfl,h⟩ | exact .inr ⟨h,fun _ => rfl⟩
theorem xOO {v : AV} (h : xJ4 v = true) : (∃ vs,v = .tup vs ∧ vs.all xJ3 = true) ∨ (xJ3 v = true ∧ ∀ base,xCY base v = xD9 base v) := by
 cases v <;> first | exact .inl ⟨_,rfl,h⟩ | exact .inr ⟨h,fun _ => rfl⟩
theorem xQL {ios : List (Option (Nat × Nat))} {base : Nat} (hio : ∀ k y,xKb ios k = some y → io (base + k) = some y) (hr : xJD v = true) (h : Rep im (xKb ios) v x) : Rep im io (xCJ base v) x := by
 rcases xOM hr with ⟨id,off,rfl⟩ | ⟨z,id,off,n,es,rfl⟩ | hd
 ·cases h with
  | ptr h => exact .ptr (hio _ _ h)
 ·cases h with
  | ownz => exact .ownz
  | own h h1 h2 => exact .own (hio _ _ h) h1 h2
  | own0 h => exact .own0 h
 ·rw [xOL hd]
  exact xJP hd h
theorem xQM {ios : List (Option (Nat × Nat))} {base : Nat} (hio : ∀ k y,xKb ios k = some y → io (base + k) = some y) (hr : xJ3 v = true) (h : Rep im (xKb ios) v x) : Rep im io (xD9 base v) x := by
 rcases xON hr with ⟨cs,rfl,hr⟩ | ⟨hr,e⟩
 ·have hr := List.all_eq_true.1 hr
  cases h with
  | agg h1 h2 h3 =>
   refine .agg (by simp [h1]) (fun i c v hc hv => ?_) (fun c hc => ?_)
   ·rw [List.getElem?_map] at hc
    simp only [Option.map_eq_some_iff] at hc
    obtain ⟨c0,e1,rfl⟩ := hc
    exact xQL hio (hr c0 (List.mem_of_getElem? e1)) (h2 i c0 v e1 hv)
   ·obtain ⟨c0,e1,rfl⟩ := List.mem_map.1 hc
    rw [xK2]; exact h3 c0 e1
 ·rw [e]; exact xQL hio hr h
theorem xQN {ios : List (Option (Nat × Nat))} {base : Nat} (hio : ∀ k y,xKb ios k = some y → io (base + k) = some y) (hr : xJ4 v = true) (h : Rep im (xKb ios) v x) : Rep im io (xCY base v) x := by
 rcases xOO hr with ⟨vs,rfl,hr⟩ | ⟨hr,e⟩
 ·have hr := List.all_eq_true.1 hr
  cases h with
  | tup h1 h2 =>
   refine .tup (by simp [h1]) (fun i c v hc hv => ?_)
   rw [List.getElem?_map] at hc
   simp only [Option.map_eq_some_iff] at hc
   obtain ⟨c0,e1,rfl⟩ := hc
   exact xQM hio (hr c0 (List.mem_of_getElem? e1)) (h2 i c0 v e1 hv)
 ·rw [e]; exact xQM hio hr h
def xM1 (io : Io) (L : Nat) (io2 : Io) : Io := fun i => if i < L then io i else io2 (i - L)
theorem xJA {io2 : Io} {L : Nat} {i : Nat} (h : i < L) : xM1 io L io2 i = io i := if_pos h
theorem xIm {io2 : Io} {L : Nat} (k : Nat) : xM1 io L io2 (L + k) = io2 k := by
 unfold xM1
 rw [if_neg (by omega),Nat.add_sub_cancel_left]
theorem xQO {io2 : Io} {L : Nat} (hf : ∀ id,L ≤ id → io id = none) : IoLe io (xM1 io L io2) := fun i y hi => by
 have : i < L := by
  rcases Nat.lt_or_ge i L with q | q
  ·exact q
  ·rw [hf i q] at hi; cases hi
 rw [xJA this]; exact hi
theorem xOP {io2 : Io} {L b : Nat} (h : Own (xM1 io L io2) b) : Own io b ∨ Own io2 b := by
 obtain ⟨id,sz,hi⟩ := h
 by_cases e : id < L
 ·rw [xJA e] at hi; exact .inl ⟨id,sz,hi⟩
 ·rw [show id = L + (id - L) by omega,xIm] at hi
  exact .inr ⟨_,_,hi⟩
theorem xNO {io2 : Io} {base : Nat} (hio : ∀ k y,io2 k = some y → io (base + k) = some y) (hr : xJD v = true) (h : Rep im io2 v x) : Rep im io (xCJ base v) x := by
 rcases xOM hr with ⟨id,off,rfl⟩ | ⟨z,id,off,n,es,rfl⟩ | hd
 ·cases h with
  | ptr h => exact .ptr (hio _ _ h)
 ·cases h with
  | ownz => exact .ownz
  | own h h1 h2 => exact .own (hio _ _ h) h1 h2
  | own0 h => exact .own0 h
 ·rw [xOL hd]
  exact xJP hd h
theorem xQP {io2 : Io} {base : Nat} (hio : ∀ k y,io2 k = some y → io (base + k) = some y) (hr : xJ3 v = true) (h : Rep im io2 v x) : Rep im io (xD9 base v) x := by
 rcases xON hr with ⟨cs,rfl,hr⟩ | ⟨hr,e⟩
 ·have hr := List.all_eq_true.1 hr
  cases h with
  | agg h1 h2 h3 =>
   refine .agg (by simp [h1]) (fun i c v hc hv => ?_) (fun c hc => ?_)
   ·rw [List.getElem?_map] at hc
    simp only [Option.map_eq_some_iff] at hc
    obtain ⟨c0,e1,rfl⟩ := hc
    exact xNO hio (hr c0 (List.mem_of_getElem? e1)) (h2 i c0 v e1 hv)
   ·obtain ⟨c0,e1,rfl⟩ := List.mem_map.1 hc
    rw [xK2]; exact h3 c0 e1
 ·rw [e]; exact xNO hio hr h
theorem xWv {io2 : Io} {base : Nat} (hio : ∀ k y,io2 k = some y → io (base + k) = some y) (hr : xJ4 v = true) (h : Rep im io2 v x) : Rep im io (xCY base v) x := by
 rcases xOO hr with ⟨vs,rfl,hr⟩ | ⟨hr,e⟩
 ·have hr := List.all_eq_true.1 hr
  cases h with
  | tup h1 h2 =>
   refine .tup (by simp [h1]) (fun i c v hc hv => ?_)
   rw [List.getElem?_map] at hc
   simp only [Option.map_eq_some_iff] at hc
   obtain ⟨c0,e1,rfl⟩ := hc
   exact xQP hio (hr c0 (List.mem_of_getElem? e1)) (h2 i c0 v e1 hv)
 ·rw [e]; exact xQP hio hr h
theorem xOQ (base : Nat) (b : Blk) (h : (xI0 base b).live = true) : b.live = true := by
 cases b with
 | cells fz z cs =>
  by_cases e : cs.all xJD = true
  ·simp only [xI0,e,if_true] at h; exact h
  ·simp only [xI0,e,Bool.false_eq_true,if_false] at h; cases h
 | _ => cases h
theorem Sim.join {io2 : Io} {H2 : Heap} (h : Sim chk im io H w) (h2 : Sim chk im io2 H2 w) (hno : ∀ b,Own io2 b → ¬ Own io b) :
  Sim chk im (xM1 io H.length io2) (H ++ H2.map (xI0 H.length)) w := by
 have hle : IoLe io (xM1 io H.length io2) := xQO h.fresh
 have hmv : ∀ k y,io2 k = some y → xM1 io H.length io2 (H.length + k) = some y := fun k y e => by rw [xIm]; exact e
 have key : ∀ i bi,(H ++ H2.map (xI0 H.length))[i]? = some bi → (i < H.length ∧ H[i]? = some bi) ∨ ∃ k b2,i = H.length + k ∧ H2[k]? = some b2 ∧ bi = xI0 H.length b2 := by
  intro i bi hi
  by_cases e : i < H.length
  ·rw [List.getElem?_append_left e] at hi; exact .inl ⟨e,hi⟩
  ·rw [List.getElem?_append_right (by omega),List.getElem?_map] at hi
   simp only [Option.map_eq_some_iff] at hi
   obtain ⟨b2,e1,e2⟩ := hi
   exact .inr ⟨i - H.length,b2,by omega,e1,e2.symm⟩
 refine ⟨fun id hid => ?_,fun id bk hH => ?_,fun i j bi bj b si sj hi hj li lj hbi hbj => ?_,h.imw,fun b ho => ?_,h.glob⟩
 ·simp at hid
  rw [show id = H.length + (id - H.length) by omega,xIm]
  exact h2.fresh _ (by omega)
 ·rcases key id bk hH with ⟨e,hb⟩ | ⟨k,b2,rfl,hb,rfl⟩
  ·exact (h.blk id bk hb).mono (.refl _) hle (fun e' => by rw [xJA e]; exact e') (fun b sz hio _ => ⟨rfl,fun e => e⟩)
  ·have hB := h2.blk k b2 hb
   cases b2 with
   | dead => trivial
   | mp es => trivial
   | loop st pend F ps asg body => trivial
   | cells fz z cs =>
    by_cases hr : cs.all xJD = true
    case neg =>
     simp only [xI0,hr,Bool.false_eq_true,if_false]
     trivial
    simp only [xI0,hr,if_true]
    rcases hB with ⟨g1,g2,g3⟩ | ⟨g1,b,c,t,fr,hfr,g2,g3,g4,g5⟩
    ·subst g3
     exact .inl ⟨g1,by rw [xIm]; exact g2,rfl⟩
    ·refine .inr ⟨g1,b,c,t,fr,hfr,by rw [xIm]; exact g2,g3,g4,fun i cv hi => ?_⟩
     rw [List.getElem?_map] at hi
     simp only [Option.map_eq_some_iff] at hi
     obtain ⟨c0,e1,rfl⟩ := hi
     obtain ⟨u,q1,q2,q3⟩ := g5 i c0 e1
     exact ⟨u,q1,xNO hmv (List.all_eq_true.1 hr _ (List.mem_of_getElem? e1)) q2,by rw [xK2]; exact q3⟩
 ·rcases key i bi hi with ⟨e1,h1⟩ | ⟨k,b2,rfl,h1,rfl⟩ <;> rcases key j bj hj with ⟨e2,h3⟩ | ⟨l,b3,rfl,h3,rfl⟩
  ·rw [xJA e1] at hbi
   rw [xJA e2] at hbj
   exact h.inj i j bi bj b si sj h1 h3 li lj hbi hbj
  ·rw [xJA e1] at hbi
   rw [xIm] at hbj
   exact (hno b ⟨_,_,hbj⟩ ⟨_,_,hbi⟩).elim
  ·rw [xIm] at hbi
   rw [xJA e2] at hbj
   exact (hno b ⟨_,_,hbi⟩ ⟨_,_,hbj⟩).elim
  ·rw [xIm] at hbi hbj
   rw [h2.inj k l b2 b3 b si sj h1 h3 (xOQ _ _ li) (xOQ _ _ lj) hbi hbj]
 ·rcases xOP ho with q | q
  ·exact h.inb b q
  ·exact h2.inb b q
structure Met (H' : Heap) (B : List (Nat × Blk)) : Prop where
 blk : ∀ (k : Nat) (p : Nat × Blk),B[k]? = some p → ∃ z cs,p.2 = .cells false z cs ∧ H'[p.1]? = some (.cells false z cs) ∧ cs.all xEb = true
 inj : ∀ (k l : Nat) (p q : Nat × Blk),B[k]? = some p → B[l]? = some q → p.1 = q.1 → k = l
def xK3 (io' : Io) (B : List (Nat × Blk)) : List (Option (Nat × Nat)) := B.map fun p => io' p.1
theorem xKc {io' : Io} {B : List (Nat × Blk)} {k : Nat} {p : Nat × Blk} (h : B[k]? = some p) : xKb (xK3 io' B) k = io' p.1 := by
 simp [xKb,xK3,h,Option.join]
theorem xTT {io' : Io} {B B' : List (Nat × Blk)} (h : B <+: B') : IoLe (xKb (xK3 io' B)) (xKb (xK3 io' B')) := by
 intro k y hk
 have hk' := ioAt_some.1 hk
 have hlt := (List.getElem?_eq_some_iff.1 hk').1
 simp only [xK3,List.length_map] at hlt
 have h1 : B[k]? = some B[k] := List.getElem?_eq_getElem hlt
 have h2 : B'[k]? = some B[k] := by
  obtain ⟨C,rfl⟩ := h
  rw [List.getElem?_append_left hlt]; exact h1
 rw [xKc h1] at hk
 rw [xKc h2]; exact hk
theorem xS8 (H : Heap) (v : AV) (B : List (Nat × Blk)) : (∃ z id off n es,v = .own z id off n es) ∨ xLB H v B = if xEb v = true then some (v,B) else none := by
 cases v <;> first | exact .inl ⟨_,_,_,_,_,rfl⟩ | exact .inr rfl
theorem xS9 (H : Heap) (v : AV) (B : List (Nat × Blk)) : (∃ cs,v = .agg cs) ∨ xMf H v B = xLB H v B := by
 cases v <;> first | exact .inl ⟨_,rfl⟩ | exact .inr rfl
theorem xP2 (H : Heap) (v : AV) : (∃ vs,v = .tup vs) ∨ xJ2 H v = xMf H v [] := by
 cases v <;> first | exact .inl ⟨_,rfl⟩ | exact .inr rfl
theorem xTU {B B' : List (Nat × Blk)} {v v' : AV} (hm : Met H' B) (h : xLB H' v B = some (v',B')) (hr : Rep im' io' v x) : Met H' B' ∧ B <+: B' ∧ Rep im' (xKb (xK3 io' B')) v' x ∧ xJD v' = true ∧ v'.isCell = v.isCell := by
 have dat : ∀ {u : AV},xEb u = true → (if xEb u = true then some (u,B) else none) = some (v',B') → Rep im' io' u x → Met H' B' ∧ B <+: B' ∧ Rep im' (xKb (xK3 io' B')) v' x ∧ xJD v' = true ∧ v'.isCell = u.isCell := by
  intro u hd he hu
  rw [if_pos hd] at he; cases he
  refine ⟨hm,List.prefix_refl _,xJP hd hu,?_,rfl⟩
  cases v' <;> first | rfl | exact hd
 rcases xS8 H' v B with ⟨z,id,off,n,es,rfl⟩ | e
 ·simp only [xLB] at h
  split at h
  ·rename_i k hk
   cases h
   obtain ⟨hlt,h1,_⟩ := List.findIdx?_eq_some_iff_getElem.1 hk
   have hB : B[k]? = some B[k] := List.getElem?_eq_getElem hlt
   have hid : B[k].1 = id := by simpa using h1
   refine ⟨hm,List.prefix_refl _,?_,rfl,rfl⟩
   have hio : xKb (xK3 io' B) k = io' id := by rw [xKc hB,hid]
   cases hr with
   | ownz => exact .ownz
   | own g1 g2 g3 => exact .own (by rw [hio]; exact g1) g2 g3
   | own0 g => exact .own0 g
  ·rename_i hk
   split at h
   case h_2 => cases h
   rename_i z' cs hH
   split at h
   case isFalse => cases h
   rename_i hd
   cases h
   have hnew : ∀ (k : Nat) (p : Nat × Blk),B[k]? = some p → p.1 ≠ id := by
    intro k p hp he
    have := List.findIdx?_eq_none_iff.1 hk p (List.mem_of_getElem? hp)
    simp [he] at this
   have hlast : (B ++ [(id,Blk.cells false z' cs)])[B.length]? = some (id,.cells false z' cs) := by simp
   have hcase : ∀ (k : Nat) (p : Nat × Blk),(B ++ [(id,Blk.cells false z' cs)])[k]? = some p → (B[k]? = some p) ∨ (k = B.length ∧ p = (id,.cells false z' cs)) := by
    intro k p hp
    by_cases e : k < B.length
    ·rw [List.getElem?_append_left e] at hp; exact .inl hp
    ·have : k = B.length := by
      have := (List.getElem?_eq_some_iff.1 hp).1
      simp at this; omega
     subst this
     rw [hlast] at hp; cases hp
     exact .inr ⟨rfl,rfl⟩
   refine ⟨⟨fun k p hp => ?_,fun k l p q hp hq e => ?_⟩,List.prefix_append _ _,?_,rfl,rfl⟩
   ·rcases hcase k p hp with hp | ⟨rfl,rfl⟩
    ·exact hm.blk k p hp
    ·exact ⟨z',cs,rfl,hH,hd⟩
   ·rcases hcase k p hp with hp | ⟨rfl,rfl⟩ <;> rcases hcase l q hq with hq | ⟨rfl,rfl⟩
    ·exact hm.inj k l p q hp hq e
    ·exact (hnew k p hp e).elim
    ·exact (hnew l q hq e.symm).elim
    ·rfl
   ·have hio : xKb (xK3 io' (B ++ [(id,Blk.cells false z' cs)])) B.length = io' id := xKc hlast
    cases hr with
    | ownz => exact .ownz
    | own g1 g2 g3 => exact .own (by rw [hio]; exact g1) g2 g3
    | own0 g => exact .own0 g
 ·rw [e] at h
  by_cases q : xEb v = true
  ·exact dat q h hr
  ·rw [if_neg q] at h; cases h
theorem xTV : ∀ {vs vs' : List AV} {xs : List Value} {B B' : List (Nat × Blk)},Met H' B → xNS H' vs B = some (vs',B') → Reps im' io' vs xs →
  Met H' B' ∧ B <+: B' ∧ Reps im' (xKb (xK3 io' B')) vs' xs ∧ vs'.all xJD = true ∧ (∀ c' ∈ vs',∃ c ∈ vs,c'.isCell = c.isCell)
 | [],vs',xs,B,B',hm,h,hr => by
  simp only [xNS] at h; cases h
  have : xs = [] := List.eq_nil_of_length_eq_zero hr.1
  subst this
  exact ⟨hm,List.prefix_refl _,.nil,rfl,fun c' h => by simp at h⟩
 | v :: vs,vs',xs,B,B',hm,h,hr => by
  simp only [xNS] at h
  split at h
  ·cases h
  rename_i v1 B1 h1
  simp only [Option.map_eq_some_iff] at h
  obtain ⟨⟨vs2,B2⟩,h2,e⟩ := h
  cases e
  match xs,hr with
  | x :: xs,hr =>
   have hx := hr.2 0 _ _ rfl rfl
   have hxs : Reps im' io' vs xs := ⟨by simpa using hr.1,fun i c v q1 q2 => hr.2 (i + 1) c v (by simpa using q1) (by simpa using q2)⟩
   obtain ⟨m1,p1,r1,l1,c1⟩ := xTU hm h1 hx
   obtain ⟨m2,p2,r2,l2,c2⟩ := xTV m1 h2 hxs
   refine ⟨m2,p1.trans p2,.cons (r1.mono (.refl _) (xTT p2)) r2,by simp [l1,l2],fun c' hc' => ?_⟩
   rcases List.mem_cons.1 hc' with rfl | hc'
   ·exact ⟨v,List.mem_cons_self ..,c1⟩
   ·obtain ⟨c,q1,q2⟩ := c2 c' hc'
    exact ⟨c,List.mem_cons_of_mem _ q1,q2⟩
theorem xZx {v : AV} (h : xJD v = true) : xJ3 v = true := by
 cases v <;> first | exact h | cases h
theorem xTW {B B' : List (Nat × Blk)} {v v' : AV} (hm : Met H' B) (h : xMf H' v B = some (v',B')) (hr : Rep im' io' v x) : Met H' B' ∧ B <+: B' ∧ Rep im' (xKb (xK3 io' B')) v' x ∧ xJ3 v' = true := by
 rcases xS9 H' v B with ⟨cs,rfl⟩ | e
 ·simp only [xMf] at h
  split at h
  case isFalse => cases h
  rename_i hcell
  simp only [Option.map_eq_some_iff] at h
  obtain ⟨⟨cs2,B2⟩,h2,e⟩ := h
  cases e
  cases hr with
  | agg g1 g2 g3 =>
   obtain ⟨m,p,r,l,c⟩ := xTV hm h2 (xs := _) ⟨g1,g2⟩
   refine ⟨m,p,.agg r.1 r.2 (fun c' hc' => ?_),l⟩
   obtain ⟨c0,q1,q2⟩ := c c' hc'
   rw [q2]; exact g3 c0 q1
 ·rw [e] at h
  obtain ⟨m,p,r,l,_⟩ := xTU hm h hr
  exact ⟨m,p,r,xZx l⟩
theorem xQQ : ∀ {vs vs' : List AV} {xs : List Value} {B B' : List (Nat × Blk)},Met H' B → xK9 H' vs B = some (vs',B') → Reps im' io' vs xs →
  Met H' B' ∧ B <+: B' ∧ Reps im' (xKb (xK3 io' B')) vs' xs ∧ vs'.all xJ3 = true
 | [],vs',xs,B,B',hm,h,hr => by
  simp only [xK9] at h; cases h
  have : xs = [] := List.eq_nil_of_length_eq_zero hr.1
  subst this
  exact ⟨hm,List.prefix_refl _,.nil,rfl⟩
 | v :: vs,vs',xs,B,B',hm,h,hr => by
  simp only [xK9] at h
  split at h
  ·cases h
  rename_i v1 B1 h1
  simp only [Option.map_eq_some_iff] at h
  obtain ⟨⟨vs2,B2⟩,h2,e⟩ := h
  cases e
  match xs,hr with
  | x :: xs,hr =>
   have hx := hr.2 0 _ _ rfl rfl
   have hxs : Reps im' io' vs xs := ⟨by simpa using hr.1,fun i c v q1 q2 => hr.2 (i + 1) c v (by simpa using q1) (by simpa using q2)⟩
   obtain ⟨m1,p1,r1,l1⟩ := xTW hm h1 hx
   obtain ⟨m2,p2,r2,l2⟩ := xQQ m1 h2 hxs
   exact ⟨m2,p1.trans p2,.cons (r1.mono (.refl _) (xTT p2)) r2,by simp [l1,l2]⟩
theorem xZy {v : AV} (h : xJ3 v = true) : xJ4 v = true := by
 cases v <;> first | exact h | cases h
theorem xVu {B' : List (Nat × Blk)} {v v' : AV} (h : xJ2 H' v = some (v',B')) (hr : Rep im' io' v x) : Met H' B' ∧ Rep im' (xKb (xK3 io' B')) v' x ∧ xJ4 v' = true := by
 have m0 : Met H' [] := ⟨fun k p hp => by simp at hp,fun k l p q hp => by simp at hp⟩
 rcases xP2 H' v with ⟨vs,rfl⟩ | e
 ·simp only [xJ2,Option.map_eq_some_iff] at h
  obtain ⟨⟨vs2,B2⟩,h2,e⟩ := h
  cases e
  cases hr with
  | tup g1 g2 =>
   obtain ⟨m,_,r,l⟩ := xQQ m0 h2 (xs := _) ⟨g1,g2⟩
   exact ⟨m,.tup r.1 r.2,l⟩
 ·rw [e] at h
  obtain ⟨m,_,r,l⟩ := xTW m0 h hr
  exact ⟨m,r,xZy l⟩
theorem xZz {B0 : Nat} {B : List (Nat × Blk)} (hm : Met H' B) (hs : Sim chk im' io' H' w') (hno : ∀ b,Own io' b → ¬ Own io b ∧ B0 ≤ b) : PrivB B0 im' io w' (B.map (·.2)) (xK3 io' B) where
 len := by simp [xK3]
 blk k bk hk := by
  rw [List.getElem?_map] at hk
  simp only [Option.map_eq_some_iff] at hk
  obtain ⟨p,hp,rfl⟩ := hk
  obtain ⟨z,cs,e1,e2,e3⟩ := hm.blk k p hp
  rw [xKc hp,e1]
  rcases hs.blk _ _ e2 with ⟨g1,g2,g3⟩ | ⟨g1,b,c,t,fr,hfr,g2,g3,g4,g5⟩
  ·subst g1; subst g3
   exact .inl ⟨rfl,g2⟩
  ·subst g1
   obtain ⟨n1,n2⟩ := hno b ⟨_,_,g2⟩
   refine .inr ⟨cs,b,c,t,fr,hfr,rfl,g2,g3,g4,n1,n2,fun i cv hi => ?_⟩
   obtain ⟨u,q1,q2,q3⟩ := g5 i cv hi
   exact ⟨u,q1,xJP (List.all_eq_true.1 e3 _ (List.mem_of_getElem? hi)) q2,q3⟩
 inj k l b s s' hk hl := by
  have get : ∀ {k : Nat} {y : Nat × Nat},xKb (xK3 io' B) k = some y → ∃ p,B[k]? = some p ∧ io' p.1 = some y := by
   intro k y hk
   have hlt := (List.getElem?_eq_some_iff.1 (ioAt_some.1 hk)).1
   simp only [xK3,List.length_map] at hlt
   have hB : B[k]? = some B[k] := List.getElem?_eq_getElem hlt
   rw [xKc hB] at hk
   exact ⟨_,hB,hk⟩
  obtain ⟨p,p1,p2⟩ := get hk
  obtain ⟨q,q1,q2⟩ := get hl
  obtain ⟨z,cs,e1,e2,_⟩ := hm.blk k p p1
  obtain ⟨z',cs',g1,g2,_⟩ := hm.blk l q q1
  exact hm.inj k l p q p1 q1 (hs.inj _ _ _ _ b s s' e2 g2 rfl rfl p2 q2)
theorem xZA {B : List Blk} (hs : Sim chk im' io' B w') (hd : xLa B = true) (hno : ∀ b,Own io' b → ¬ Own io b ∧ w.heap.size ≤ b) :
  PrivB w.heap.size im' io w' B ((List.range B.length).map io') ∧ ∀ k,xKb ((List.range B.length).map io') k = io' k := by
 have hat : ∀ k,xKb ((List.range B.length).map io') k = io' k := by
  intro k
  by_cases hk : k < B.length
  ·simp [xKb,List.getElem?_map,List.getElem?_range hk,Option.join]
  ·rw [hs.fresh k (by omega)]
   unfold xKb
   rw [List.getElem?_eq_none (by simp; omega)]; rfl
 have hdat : ∀ (k : Nat) (bk : Blk),B[k]? = some bk → ∃ z cs,bk = Blk.cells false z cs ∧ List.all cs xEb = true := by
  intro k bk hk
  have := List.all_eq_true.1 hd _ (List.mem_of_getElem? hk)
  split at this
  ·exact ⟨_,_,rfl,this⟩
  ·cases this
 refine ⟨⟨by simp,fun k bk hk => ?_,fun k l b s s' hk hl => ?_⟩,hat⟩
 ·obtain ⟨z,cs,rfl,e3⟩ := hdat k bk hk
  rw [hat]
  rcases hs.blk _ _ hk with ⟨g1,g2,g3⟩ | ⟨g1,b,c,t,fr,hfr,g2,g3,g4,g5⟩
  ·subst g1; subst g3
   exact .inl ⟨rfl,g2⟩
  ·subst g1
   obtain ⟨n1,n2⟩ := hno b ⟨_,_,g2⟩
   refine .inr ⟨cs,b,c,t,fr,hfr,rfl,g2,g3,g4,n1,n2,fun i cv hi => ?_⟩
   obtain ⟨u,q1,q2,q3⟩ := g5 i cv hi
   exact ⟨u,q1,xJP (List.all_eq_true.1 e3 _ (List.mem_of_getElem? hi)) q2,q3⟩
 ·rw [hat] at hk hl
  have lt_of : ∀ {k : Nat} {y : Nat × Nat},io' k = some y → k < B.length := by
   intro k y h
   rcases Nat.lt_or_ge k B.length with q | q
   ·exact q
   ·rw [hs.fresh k q] at h; cases h
  have l1 := lt_of hk
  have l2 := lt_of hl
  obtain ⟨z,cs,e1,_⟩ := hdat k _ (List.getElem?_eq_getElem l1)
  obtain ⟨z',cs',e2,_⟩ := hdat l _ (List.getElem?_eq_getElem l2)
  exact hs.inj k l _ _ b s s' (List.getElem?_eq_getElem l1) (List.getElem?_eq_getElem l2) (by rw [e1]; rfl) (by rw [e2]; rfl) hk hl
theorem xWw {im : Im} {io io' : Io} {v : AV} {x : Value} (hd : xGO v = true) (h : Rep im io v x) : Rep im io' v x := by
 have e : (∃ cs,v = .agg cs) ∨ (∃ f caps,v = .func f caps) ∨ xGO v = xEb v := by cases v <;> first | exact .inl ⟨_,rfl⟩ | exact .inr (.inl ⟨_,_,rfl⟩) | exact .inr (.inr rfl)
 rcases e with ⟨cs,rfl⟩ | ⟨f,caps,rfl⟩ | e
 ·simp only [xGO,List.all_eq_true] at hd
  cases h with
  | agg h1 h2 h3 => exact .agg h1 (fun i c v q1 q2 => xJP (hd c (List.mem_of_getElem? q1)) (h2 i c v q1 q2)) h3
 ·simp only [xGO,List.all_eq_true] at hd
  cases h with
  | func h1 h2 =>
   refine .func h1 (fun i c v q1 q2 => ?_)
   have hc := hd c (List.mem_of_getElem? q1)
   have hr := h2 i c v q1 q2
   cases c
   case vptr cs off => cases hr with | vptr g1 g2 g3 g4 => exact .vptr g1 g2 g3 g4
   all_goals exact xJP hc hr
 ·rw [e] at hd; exact xJP hd h
end
end Go.Abs
