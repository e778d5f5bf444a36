/- Maps; strings and rows of bytes. -/
import Derived.Test.YtdkbhidfiplncaaAbsOp7
import Derived.MapKept
import Derived.Laws.BytesString
import Derived.Lib.ConvBytes
namespace Go.Abs
set_option linter.unusedVariables false
set_option linter.unusedSimpArgs false
open Go.RowKit Go.MapKept
section
variable {chk : Code → ACode → Bool} {P : Program} {o : Oper} {a : Act} {im : Im} {io : Io} {H H' : xAc} {w : World} {F : List AV} {R : Rec} {v : AV}
theorem putObj_size' (b : Nat) (o : Obj) : (w.putObj b o).heap.size = w.heap.size := by simp [World.putObj]
theorem yAP (h : Sim chk im io H w) :
  Sim chk im (upd io H.length (w.heap.size,0)) (H ++ [.mp []]) (w.alloc (.map #[] 0)) ∧ Step im io w im (upd io H.length (w.heap.size,0)) (w.alloc (.map #[] 0)) := by
 have hpz := Pushed.alloc w (.map #[] 0)
 have hn : io H.length = none := h.fresh _ (Nat.le_refl _)
 have hle : IoLe io (upd io H.length (w.heap.size,0)) := fun i x hi => by
  rw [xAu]
  ·exact hi
  ·rintro rfl; rw [hn] at hi; cases hi
 have hown : ∀ b,Own (upd io H.length (w.heap.size,0)) b → Own io b ∨ b = w.heap.size := fun b ⟨id,sz,hi⟩ => by
  by_cases e : id = H.length
  ·subst e; rw [xAI] at hi; cases hi; exact .inr rfl
  ·rw [xAu _ _ e] at hi; exact .inl ⟨id,sz,hi⟩
 have him : im w.heap.size = none := by
  cases e : im w.heap.size with
  | none => rfl
  | some o' => have := (Array.getElem?_eq_some_iff.1 (h.imw _ _ e)).1; omega
 refine ⟨⟨fun id hid => ?_,fun id b hH => ?_,fun i j bi bj b si sj hi hj li lj hbi hbj => ?_,fun b o' hb => ?_,fun b ho => ?_,h.glob⟩,
  ⟨.refl _,hle,hpz.os,hpz.tape,hpz.output,by rw [hpz.size]; omega,fun b hb _ => hpz.old hb,fun b hb => ?_,fun _ _ h => .inl h⟩⟩
 ·simp at hid
  rw [xAu _ _ (by omega)]; exact h.fresh id (by omega)
 ·by_cases e : id < H.length
  ·rw [List.getElem?_append_left e] at hH
   exact (h.blk id b hH).mono (.refl _) hle (fun e' => by rw [xAu _ _ (by omega)]; exact e') (fun b sz hio _ => ⟨hpz.old (h.inb b ⟨id,sz,hio⟩),fun e => e⟩)
  ·have e' : id = H.length := by
    have := (List.getElem?_eq_some_iff.1 hH).1
    simp at this; omega
   subst e'
   simp at hH
   subst hH
   exact ⟨w.heap.size,#[],0,xAI _ _ _,him,hpz.new,rfl,fun i e he => by simp at he⟩
 ·have key : ∀ (k : Nat) (bk : Blk) (sk : Nat),(H ++ [Blk.mp []])[k]? = some bk → upd io H.length (w.heap.size,0) k = some (b,sk) → (k < H.length ∧ H[k]? = some bk ∧ io k = some (b,sk)) ∨ (k = H.length ∧ b = w.heap.size) := by
   intro k bk sk hk' hbk
   by_cases e : k < H.length
   ·rw [List.getElem?_append_left e] at hk'
    rw [xAu _ _ (by omega)] at hbk
    exact .inl ⟨e,hk',hbk⟩
   ·have e' : k = H.length := by
     have := (List.getElem?_eq_some_iff.1 hk').1
     simp at this; omega
    subst e'
    rw [xAI] at hbk; cases hbk
    exact .inr ⟨rfl,rfl⟩
  rcases key i bi si hi hbi with ⟨_,h1,h2⟩ | ⟨h1,h2⟩ <;> rcases key j bj sj hj hbj with ⟨_,g1,g2⟩ | ⟨g1,g2⟩
  ·exact h.inj i j bi bj b si sj h1 g1 li lj h2 g2
  ·have := h.inb b ⟨i,si,h2⟩; omega
  ·have := h.inb b ⟨j,sj,g2⟩; omega
  ·omega
 ·have := h.imw b o' hb
  rw [hpz.old (Array.getElem?_eq_some_iff.1 this).1]; exact this
 ·rw [hpz.size]
  rcases hown b ho with h1 | h1
  ·have := h.inb b h1; omega
  ·omega
 ·rcases hown b hb with h1 | h1
  ·exact .inl h1
  ·exact .inr (by omega)
theorem yGb {l b sz : Nat} {es es' : List (AV × AV)} (h : Sim chk im io H w) (hH : H[l]? = some (.mp es)) (hio : io l = some (b,sz)) {m' : Array MapEntry} {clk : Nat}
  (hsz : m'.size = es'.length) (hr : ∀ (i : Nat) (e : AV × AV),es'[i]? = some e → ∃ x,m'[i]? = some x ∧ Rep im io e.1 x.key ∧ Rep im io e.2 x.val) :
  Sim chk im io (H.set l (.mp es')) (w.putObj b (.map m' clk)) ∧ Step im io w im io (w.putObj b (.map m' clk)) := by
 have hlt : l < H.length := (List.getElem?_eq_some_iff.1 hH).1
 obtain ⟨b',m,clk0,h1,h2,h3,h4,h5⟩ := h.blk l _ hH
 rw [hio] at h1; cases h1
 have hbl : b < w.heap.size := (Array.getElem?_eq_some_iff.1 h3).1
 refine ⟨⟨fun i hi => h.fresh i (by simpa using hi),fun i bi hi => ?_,fun i j bi bj b' si sj hi hj li lj hbi hbj => ?_,fun b' o' hb' => ?_,fun b' hb' => by rw [putObj_size']; exact h.inb b' hb',h.glob⟩,
  ⟨.refl _,.refl _,rfl,rfl,rfl,by rw [putObj_size']; exact Nat.le_refl _,fun b' _ hno => World.putObj_heap_other (by rintro rfl; exact hno ⟨l,_,hio⟩),fun _ h => .inl h,fun _ _ h => .inl h⟩⟩
 ·rw [List.getElem?_set] at hi
  split at hi
  ·rename_i e
   subst e
   cases hi
   exact ⟨b,m',clk,hio,h2,World.putObj_heap_same hbl,hsz,hr⟩
  ·rename_i e
   have hold := h.blk i bi hi
   refine hold.mono (.refl _) (.refl _) (fun e => e) (fun b' sz' hio' hnd => ⟨World.putObj_heap_other ?_,fun e => e⟩)
   rintro rfl
   cases bi with
   | dead => exact hnd rfl
   | mp es2 => exact e (h.inj l i _ _ _ _ _ hH hi rfl rfl hio hio')
   | loop st2 pend2 F2 ps2 asg2 body2 => exact e (h.inj l i _ _ _ _ _ hH hi rfl rfl hio hio')
   | cells fz' z' cs' =>
    cases fz' with
    | false => exact e (h.inj l i _ _ _ _ _ hH hi rfl rfl hio hio')
    | true =>
     obtain ⟨_,c2,t2,_,_,_,_,g3,_⟩ := xBz hold hio'
     rw [h2] at g3; cases g3
 ·have key : ∀ (k : Nat) (bk : Blk),(H.set l (.mp es'))[k]? = some bk → bk.live = true → ∃ bk' : Blk,H[k]? = some bk' ∧ bk'.live = true := by
   intro k bk hk' lk'
   rw [List.getElem?_set] at hk'
   split at hk'
   ·rename_i e; subst e; exact ⟨_,hH,rfl⟩
   ·exact ⟨bk,hk',lk'⟩
  obtain ⟨bi',e1,e2⟩ := key i bi hi li
  obtain ⟨bj',e3,e4⟩ := key j bj hj lj
  exact h.inj i j bi' bj' b' si sj e1 e3 e2 e4 hbi hbj
 ·have hne : b' ≠ b := by rintro rfl; rw [h2] at hb'; cases hb'
  rw [World.putObj_heap_other hne]; exact h.imw _ _ hb'
theorem xUW (hc : xAs P o .mkmap = true) (hs : Sim chk im io H w) (hF : FRep im io F a) (h : xAb R F H .mkmap = some (v,H')) : Good chk P o a im io w v H' := by
 simp only [xAs] at hc
 simp only [xAb] at h
 cases h
 split at hc
 case h_2 => cases hc
 rename_i t ho
 obtain ⟨s1,s2⟩ := yAP hs
 exact ⟨im,_,_,.map (some w.heap.size),.inl (by simp [execOp,ho,Instr.makeMap]),s2,s1,.mp (xAI _ _ _)⟩
theorem xLd {k : AV} : ∀ {es : List (AV × AV)} {r : Option AV},xFO k es = some r →
  (∃ j e,es[j]? = some e ∧ xDJ k e.1 = some true ∧ (∀ (i : Nat) e',i < j → es[i]? = some e' → xDJ k e'.1 = some false) ∧ r = some e.2) ∨
  ((∀ (i : Nat) e',es[i]? = some e' → xDJ k e'.1 = some false) ∧ r = none)
 | [],r,h => by
  cases h
  exact .inr ⟨fun i e' h => by simp at h,rfl⟩
 | (k',v) :: es,r,h => by
  simp only [xFO] at h
  split at h
  ·rename_i q
   cases h
   exact .inl ⟨0,(k',v),rfl,q,fun i e' h => by omega,rfl⟩
  ·rename_i q
   have tl : ∀ (i : Nat) e',((k',v) :: es)[i]? = some e' → (i = 0 ∧ e' = (k',v)) ∨ ∃ i',i = i' + 1 ∧ es[i']? = some e' := by
    intro i e' h
    cases i with
    | zero => simp at h; exact .inl ⟨rfl,h.symm⟩
    | succ i => simp at h; exact .inr ⟨i,rfl,h⟩
   rcases xLd h with ⟨j,e,h1,h2,h3,h4⟩ | ⟨h1,h2⟩
   ·refine .inl ⟨j + 1,e,by simpa using h1,h2,fun i e' hi he => ?_,h4⟩
    rcases tl i e' he with ⟨_,rfl⟩ | ⟨i',rfl,h5⟩
    ·exact q
    ·exact h3 i' e' (by omega) h5
   ·refine .inr ⟨fun i e' he => ?_,h2⟩
    rcases tl i e' he with ⟨_,rfl⟩ | ⟨i',rfl,h5⟩
    ·exact q
    ·exact h1 i' e' h5
  ·cases h
theorem xPW {k v : AV} : ∀ {es es' : List (AV × AV)},xTU k v es = some es' →
  (∃ j e,es[j]? = some e ∧ xDJ k e.1 = some true ∧ (∀ (i : Nat) e',i < j → es[i]? = some e' → xDJ k e'.1 = some false) ∧ es' = es.set j (k,v)) ∨
  ((∀ (i : Nat) e',es[i]? = some e' → xDJ k e'.1 = some false) ∧ es' = es ++ [(k,v)])
 | [],es',h => by
  cases h
  exact .inr ⟨fun i e' h => by simp at h,rfl⟩
 | (k',v') :: es,es',h => by
  simp only [xTU] at h
  split at h
  ·rename_i q
   cases h
   exact .inl ⟨0,(k',v'),rfl,q,fun i e' h => by omega,rfl⟩
  ·rename_i q
   simp only [Option.map_eq_some_iff] at h
   obtain ⟨es1,h,rfl⟩ := h
   have tl : ∀ (i : Nat) e',((k',v') :: es)[i]? = some e' → (i = 0 ∧ e' = (k',v')) ∨ ∃ i',i = i' + 1 ∧ es[i']? = some e' := by
    intro i e' h
    cases i with
    | zero => simp at h; exact .inl ⟨rfl,h.symm⟩
    | succ i => simp at h; exact .inr ⟨i,rfl,h⟩
   rcases xPW h with ⟨j,e,h1,h2,h3,rfl⟩ | ⟨h1,rfl⟩
   ·refine .inl ⟨j + 1,e,by simpa using h1,h2,fun i e' hi he => ?_,rfl⟩
    rcases tl i e' he with ⟨_,rfl⟩ | ⟨i',rfl,h5⟩
    ·exact q
    ·exact h3 i' e' (by omega) h5
   ·refine .inr ⟨fun i e' he => ?_,rfl⟩
    rcases tl i e' he with ⟨_,rfl⟩ | ⟨i',rfl,h5⟩
    ·exact q
    ·exact h1 i' e' h5
  ·cases h
theorem xLe {d : TypeDesc} {x : Value} : ∀ {l : List MapEntry} {j i0 : Nat} {e : MapEntry},l[j]? = some e → Instr.sameNow d x e.key = some true → (∀ (i : Nat) e',i < j → l[i]? = some e' → Instr.sameNow d x e'.key = some false) →
  Instr.findNow d x l i0 = some (some (i0 + j,e.val))
 | [],j,i0,e,h,_,_ => by simp at h
 | e0 :: l,0,i0,e,h,h1,_ => by
  simp at h; subst h
  simp [Instr.findNow,h1]
 | e0 :: l,j + 1,i0,e,h,h1,h2 => by
  have q := h2 0 e0 (by omega) rfl
  simp only [Instr.findNow,q]
  rw [xLe (i0 := i0 + 1) (by simpa using h) h1 (fun i e' hi he => h2 (i + 1) e' (by omega) (by simpa using he))]
  congr 3
  omega
theorem xLf {d : TypeDesc} {x : Value} : ∀ {l : List MapEntry} {i0 : Nat},(∀ (i : Nat) e',l[i]? = some e' → Instr.sameNow d x e'.key = some false) → Instr.findNow d x l i0 = some none
 | [],_,_ => rfl
 | e0 :: l,i0,h => by
  simp only [Instr.findNow,h 0 e0 rfl]
  exact xLf (fun i e' he => h (i + 1) e' (by simpa using he))
theorem xPX {s t : ByteArray} (h : (s.data.toList == t.data.toList) = true) : s = t := by
 obtain ⟨⟨x⟩⟩ := s
 obtain ⟨⟨y⟩⟩ := t
 simp at h
 subst h
 rfl
theorem xMb {kt : TypeId} {ks : List Nat} {d : TypeDesc} (hd : P.underlying kt = some d) (hk : xVz P kt ks = true) {k k' : AV} {x x' : Value} (hf : xBJ ks k = true) (r : Rep im io k x) (r' : Rep im io k' x') {b : Bool} (h : xDJ k k' = some b) :
  Instr.sameNow d x x' = some b ∧ (b = true → x = x') := by
 unfold xVz at hk
 rw [hd] at hk
 split at hk
 ·rename_i ki hh
  cases hh
  obtain rfl : ks = [0] := by simpa using hk
  cases k <;> simp [xBJ] at hf
  cases r
  cases k' <;> simp [xDJ,xP8] at h
  cases r'
  obtain ⟨rfl,h⟩ := h
  subst h
  exact ⟨by simp [Instr.sameNow],fun e => by simp at e; rw [e]⟩
 ·rename_i hh
  cases hh
  obtain rfl : ks = [1] := by simpa using hk
  cases k <;> simp [xBJ] at hf
  rename_i s
  cases r
  cases k' <;> simp [xDJ,xP8] at h
  rename_i t
  cases r'
  have e2 : (s == t) = b := by
   rw [← h]
   rw [Bool.eq_iff_iff,bytes_beq]
   constructor
   ·rintro rfl; simp
   ·intro q; exact xPX (by simpa using q)
  exact ⟨by simp [Instr.sameNow,e2],fun e => by subst e; rw [bytes_beq] at e2; rw [e2]⟩
 ·cases hk
theorem xFb {kt : TypeId} {ks : List Nat} {d : TypeDesc} (hd : P.underlying kt = some d) (hk : xVz P kt ks = true) {k : AV} {x : Value} (hf : xBJ ks k = true) (r : Rep im io k x) (e : Bool) (n : Nat) : (Instr.checkKey e (n + 1) kt x).run P w = .ok () w := by
 unfold xVz at hk
 rw [hd] at hk
 unfold Instr.checkKey
 simp only [Sem.run_bind,run_underlying hd,Result.andThen]
 split at hk
 ·rename_i ki hh; cases hh
  obtain rfl : ks = [0] := by simpa using hk
  cases k <;> simp [xBJ] at hf
  cases r; rfl
 ·rename_i hh; cases hh
  obtain rfl : ks = [1] := by simpa using hk
  cases k <;> simp [xBJ] at hf
  cases r; rfl
 ·cases hk
def xLg (im : Im) (io : Io) (es : List (AV × AV)) (m : Array MapEntry) : Prop := m.size = es.length ∧ ∀ (i : Nat) (e : AV × AV),es[i]? = some e → ∃ x,m[i]? = some x ∧ Rep im io e.1 x.key ∧ Rep im io e.2 x.val
theorem xPY {kt : TypeId} {ks : List Nat} {d : TypeDesc} (hd : P.underlying kt = some d) (hk : xVz P kt ks = true) {k : AV} {x : Value} (hf : xBJ ks k = true) (r : Rep im io k x) {es : List (AV × AV)} {m : Array MapEntry} (hm : xLg im io es m)
  {j : Nat} {e : AV × AV} (h1 : es[j]? = some e) (h2 : xDJ k e.1 = some true) (h3 : ∀ (i : Nat) e',i < j → es[i]? = some e' → xDJ k e'.1 = some false) :
  ∃ y,m[j]? = some y ∧ Rep im io e.2 y.val ∧ y.key = x ∧ (Instr.findKey kt x m.toList).run P w = .ok (some (j,y.val)) w := by
 obtain ⟨y,g1,g2,g3⟩ := hm.2 j e h1
 obtain ⟨q1,q2⟩ := xMb hd hk hf r g2 h2
 refine ⟨y,g1,g3,(q2 rfl).symm,run_findKey hd ?_⟩
 have := xLe (d := d) (x := x) (l := m.toList) (j := j) (i0 := 0) (e := y) (by rw [Array.getElem?_toList]; exact g1) q1 (fun i e' hi he => by
  rw [Array.getElem?_toList] at he
  have hlt : i < es.length := by have := (List.getElem?_eq_some_iff.1 h1).1; omega
  obtain ⟨y',p1,p2,p3⟩ := hm.2 i es[i] (List.getElem?_eq_getElem hlt)
  rw [he] at p1; cases p1
  exact (xMb hd hk hf r p2 (h3 i _ hi (List.getElem?_eq_getElem hlt))).1)
 rwa [Nat.zero_add] at this
theorem xLh {kt : TypeId} {ks : List Nat} {d : TypeDesc} (hd : P.underlying kt = some d) (hk : xVz P kt ks = true) {k : AV} {x : Value} (hf : xBJ ks k = true) (r : Rep im io k x) {es : List (AV × AV)} {m : Array MapEntry} (hm : xLg im io es m)
  (h3 : ∀ (i : Nat) e',es[i]? = some e' → xDJ k e'.1 = some false) : (Instr.findKey kt x m.toList).run P w = .ok none w := by
 refine run_findKey hd (xLf fun i e' he => ?_)
 rw [Array.getElem?_toList] at he
 have hlt : i < es.length := by have := (Array.getElem?_eq_some_iff.1 he).1; have := hm.1; omega
 obtain ⟨y',p1,p2,p3⟩ := hm.2 i es[i] (List.getElem?_eq_getElem hlt)
 rw [he] at p1; cases p1
 exact (xMb hd hk hf r p2 (h3 i _ (List.getElem?_eq_getElem hlt))).1
theorem xPZ {kt : TypeId} {ks : List Nat} (hk : xVz P kt ks = true) : ∃ d,P.underlying kt = some d := by
 unfold xVz at hk
 cases h : P.underlying kt with
 | none => rw [h] at hk; cases hk
 | some d => exact ⟨d,rfl⟩
theorem xP0 {kt : TypeId} {ks : List Nat} (hk : xVz P kt ks = true) {k : AV} {x : Value} (hf : xBJ ks k = true) (r : Rep im io k x) : (Instr.keyThatStays x x).run P w = .ok x w := by
 have : Instr.sameBits 10000 x x = true := by
  unfold xBJ at hf
  split at hf
  ·cases r; simp [Instr.sameBits]
  ·cases r; simp [Instr.sameBits,bytes_beq]
  ·cases hf
 simp [Instr.keyThatStays,this]
theorem xXV {x : AV} {y : Value} {es : List (AV × AV)} (hs : Sim chk im io H w) (h : xU7 H x = some es) (r : Rep im io x y) :
  (y = .map none ∧ es = []) ∨ ∃ b m clk,y = .map (some b) ∧ w.heap[b]? = some (.map m clk) ∧ xLg im io es m := by
 unfold xU7 at h
 split at h
 ·cases h; cases r; exact .inl ⟨rfl,rfl⟩
 ·rename_i id
  split at h
  ·rename_i es' hH
   cases h
   obtain ⟨b,m,clk,h1,h2,h3,h4,h5⟩ := hs.blk id _ hH
   cases r with
   | mp hio => rw [h1] at hio; cases hio; exact .inr ⟨b,m,clk,rfl,h3,h4,h5⟩
  ·cases h
 ·cases h
theorem xUX {ks : List Nat} {comma : Bool} {z : AV} {x k : Arg} (hc : xAs P o (.mlook ks comma z x k) = true) (hs : Sim chk im io H w) (hF : FRep im io F a) (h : xAb R F H (.mlook ks comma z x k) = some (v,H')) : Good chk P o a im io w v H' := by
 simp only [xAs] at hc
 simp only [xAb] at h
 split at hc
 case h_2 => cases hc
 rename_i t x' k' c' ho
 split at hc
 case h_2 => cases hc
 rename_i kt et hu
 simp only [Bool.and_eq_true,beq_iff_eq] at hc
 obtain ⟨⟨⟨⟨h1,h2⟩,rfl⟩,h3⟩,h4⟩ := hc
 split at h2
 case h_2 => cases h2
 rename_i zv hz
 have rz : Rep im io z zv := xRd h2
 have r1 := xAg h3 hF
 have r2 := xAg h4 hF
 obtain ⟨d,hd⟩ := xPZ h1
 split at h
 case isFalse => cases h
 rename_i hf
 split at h
 ·cases h
 rename_i es he
 have hzr := xCV (w := w) hz
 have tup2 : ∀ {p : AV} {q : Value} {b : Bool},Rep im io p q → Rep im io (.tup [p,.bool b]) (.tuple #[q,.bool b]) := fun hp => by
  rename_i p q b
  have := Rep.tup (im := im) (io := io) (cs := [p,.bool b]) (vs := [q,.bool b]) rfl (Reps.cons hp (Reps.cons .bool .nil)).2
  exact this
 have fin : ∀ {y : Value},(Instr.lookup t (a.eval x') (a.eval k') c').run P w = .ok y w → Rep im io v y → H' = H → Good chk P o a im io w v H' := by
  intro y hrun hr e
  subst e
  exact .same hs (by simp [execOp,ho,hrun]) hr
 have body : ∀ (m : Array MapEntry),xLg im io es m → (∀ {y : Value},(do
   Instr.checkKey m.isEmpty 10000 kt (a.eval k')
   let (v,ok) ← match ← Instr.findKey kt (a.eval k') m.toList with
    | some (_,v) => pure (v,true)
    | none => pure (← zeroValue et,false)
   pure (if c' then .tuple #[v,.bool ok] else v) : Sem Value).run P w = .ok y w → (Instr.lookup t (a.eval x') (a.eval k') c').run P w = .ok y w) → Good chk P o a im io w v H' := by
  intro m hm hrun
  rcases hfa : xFO (opv F k) es with _ | r
  ·rw [hfa] at h; cases h
  ·rw [hfa] at h
   rcases xLd hfa with ⟨j,e,p1,p2,p3,rfl⟩ | ⟨p1,rfl⟩
   ·obtain ⟨y,q1,q2,q3,q4⟩ := xPY (w := w) hd h1 hf r2 hm p1 p2 p3
    simp only [Option.some.injEq,Prod.mk.injEq] at h
    obtain ⟨rfl,rfl⟩ := h
    refine fin (hrun (y := if c' then .tuple #[y.val,.bool true] else y.val) ?_) ?_ rfl
    ·simp [Result.andThen,xFb (w := w) hd h1 hf r2,q4]
    ·cases c' with
     | true => exact tup2 q2
     | false => exact q2
   ·have q4 := xLh (w := w) hd h1 hf r2 hm p1
    simp only [Option.some.injEq,Prod.mk.injEq] at h
    obtain ⟨rfl,rfl⟩ := h
    refine fin (hrun (y := if c' then .tuple #[zv,.bool false] else zv) ?_) ?_ rfl
    ·simp [Result.andThen,xFb (w := w) hd h1 hf r2,q4,hzr]
    ·cases c' with
     | true => exact tup2 rz
     | false => exact rz
 rcases xXV hs he r1 with ⟨hy,rfl⟩ | ⟨b,m,clk,hy,hb,hm⟩
 ·refine body #[] ⟨rfl,fun i e h => by simp at h⟩ (fun {y} hrun => ?_)
  simp only [Instr.lookup,hy,Sem.run_bind,run_underlying hu,Result.andThen,Sem.run_pure] at hrun ⊢
  exact hrun
 ·refine body m hm (fun {y} hrun => ?_)
  simp only [Instr.lookup,hy,Sem.run_bind,run_underlying hu,Result.andThen,Sem.run_pure,MapKept.run_getObj_map hb] at hrun ⊢
  exact hrun
theorem xXW {ks : List Nat} {m k x : Arg} (hc : xAs P o (.mupd ks m k x) = true) (hs : Sim chk im io H w) (hF : FRep im io F a) (h : xAb R F H (.mupd ks m k x) = some (v,H')) : Good chk P o a im io w v H' := by
 obtain ⟨t,m',k',x',ho,hc⟩ : ∃ t m' k' x',(o.op = .mapUpdate t m' k' x' ∨ o.op = .insert t m' k' x') ∧ (match P.underlying t with
   | some (.map kt _) => xVz P kt ks && xAp m' m && xAp k' k && xAp x' x
   | _ => false) = true := by
  simp only [xAs] at hc
  split at hc
  ·rename_i t m' k' x' ho
   exact ⟨t,m',k',x',.inl ho,hc⟩
  ·rename_i t m' k' x' ho
   exact ⟨t,m',k',x',.inr ho,hc⟩
  ·cases hc
 simp only [xAb] at h
 split at hc
 case h_2 => cases hc
 rename_i kt et hu
 simp only [Bool.and_eq_true] at hc
 obtain ⟨⟨⟨h1,h2⟩,h3⟩,h4⟩ := hc
 have r1 := xAg h2 hF
 have r2 := xAg h3 hF
 have r3 := xAg h4 hF
 obtain ⟨d,hd⟩ := xPZ h1
 split at h
 case isFalse => cases h
 rename_i hf
 split at h
 case h_2 => cases h
 rename_i id e1
 split at h
 case h_2 => cases h
 rename_i es hH
 simp only [Option.map_eq_some_iff,Prod.mk.injEq] at h
 obtain ⟨es',hup,rfl,rfl⟩ := h
 rw [e1] at r1
 generalize hv : a.eval m' = cv at r1
 cases r1 with
 | mp hio =>
  rename_i b
  obtain ⟨b',m0,clk,g1,g2,g3,g4,g5⟩ := hs.blk id _ hH
  rw [hio] at g1; cases g1
  have hm : xLg im io es m0 := ⟨g4,g5⟩
  have fin : ∀ {m1 : Array MapEntry} {c1 : Nat},(Instr.mapUpdate t (.map (some b)) (a.eval k') (a.eval x')).run P w = .ok () (w.putObj b (.map m1 c1)) → xLg im io es' m1 → Good chk P o a im io w (.tup []) (H.set id (.mp es')) := by
   intro m1 c1 hrun hm1
   obtain ⟨s1,s2⟩ := yGb hs hH hio (m' := m1) (clk := c1) hm1.1 hm1.2
   exact ⟨im,io,_,undef,.inr ⟨by rcases ho with ho | ho <;> simp [execOp,ho,hv,hrun],rfl⟩,s2,s1,.tup (vs := []) rfl (fun i c v h => by simp at h)⟩
  have hput : ∀ o',{ w with heap := w.heap.setIfInBounds b o' } = w.putObj b o' := fun o' => rfl
  rcases xPW hup with ⟨j,e,p1,p2,p3,rfl⟩ | ⟨p1,rfl⟩
  ·obtain ⟨y,q1,q2,q3,q4⟩ := xPY (w := w) hd h1 hf r2 hm p1 p2 p3
   have hky : ((m0[j]?).map (·.key)).getD (a.eval k') = a.eval k' := by rw [q1]; exact q3
   have hkk := xP0 (w := w) h1 hf r2
   refine fin (m1 := m0.modify j fun e => { e with key := a.eval k',val := a.eval x' }) (c1 := clk) ?_ ⟨by simp [g4],fun i e' he => ?_⟩
   ·simp [Instr.mapUpdate,run_underlying hu,MapKept.run_getObj_map g3,xFb (w := w) hd h1 hf r2,q4,hky,hkk,MapKept.run_setObj_map _ g3,Result.andThen,hput]
   ·rw [List.getElem?_set] at he
    rw [Array.getElem?_modify]
    split at he
    ·rename_i e0
     subst e0
     split at he
     ·cases he
      rw [if_pos rfl,q1]
      exact ⟨_,rfl,r2,r3⟩
     ·cases he
    ·rename_i e0
     rw [if_neg e0]
     exact g5 i e' he
  ·have q4 := xLh (w := w) hd h1 hf r2 hm p1
   refine fin (m1 := m0.push { key := a.eval k',val := a.eval x',born := clk }) (c1 := clk + 1) ?_ ⟨by simp [g4],fun i e' he => ?_⟩
   ·simp [Instr.mapUpdate,run_underlying hu,MapKept.run_getObj_map g3,xFb (w := w) hd h1 hf r2,q4,MapKept.run_setObj_map _ g3,Result.andThen,hput]
   ·rw [Array.getElem?_push]
    by_cases e0 : i < es.length
    ·rw [List.getElem?_append_left e0] at he
     rw [if_neg (by omega)]
     exact g5 i e' he
    ·have e1 : i = es.length := by
      have := (List.getElem?_eq_some_iff.1 he).1
      simp at this; omega
     subst e1
     simp at he
     subst he
     rw [if_pos g4.symm]
     exact ⟨_,rfl,r2,r3⟩
theorem xXX {x : Arg} (hc : xAs P o (.mlen x) = true) (hs : Sim chk im io H w) (hF : FRep im io F a) (h : xAb R F H (.mlen x) = some (v,H')) : Good chk P o a im io w v H' := by
 simp only [xAs] at hc
 simp only [xAb] at h
 split at hc
 case h_2 => cases hc
 rename_i xs ts ho
 split at hc
 case h_2 => cases hc
 rename_i x' t hxs hts
 split at hc
 case h_2 => cases hc
 rename_i kt et hu
 have r1 := xAg hc hF
 simp only [Option.map_eq_some_iff,Prod.mk.injEq] at h
 obtain ⟨es,he,rfl,rfl⟩ := h
 have hx : xs = #[x'] := by rw [← Array.toList_inj]; simpa using hxs
 have ht : ts[0]? = some t := by rw [← Array.getElem?_toList,hts]; rfl
 subst hx
 rcases xXV hs he r1 with ⟨hy,rfl⟩ | ⟨b,m,clk,hy,hb,hm⟩
 ·refine .same hs (x := .int .i64 0) ?_ .int
  simp [execOp,ho,resolve,invoke,builtin,Builtin.len_,ht,hy,run_underlying hu,goInt]
 ·refine .same hs (x := .int .i64 (es.length : Nat)) ?_ .int
  simp [execOp,ho,resolve,invoke,builtin,Builtin.len_,ht,hy,run_underlying hu,goInt,MapKept.run_getObj_map hb,Result.andThen,hm.1]
theorem xXY {neg : Bool} {x : Arg} (hc : xAs P o (.mnil neg x) = true) (hs : Sim chk im io H w) (hF : FRep im io F a) (h : xAb R F H (.mnil neg x) = some (v,H')) : Good chk P o a im io w v H' := by
 simp only [xAs] at hc
 simp only [xAb] at h
 split at hc
 case h_2 => cases hc
 rename_i op' t x' yt ho
 simp only [Bool.and_eq_true,beq_iff_eq] at hc
 obtain ⟨⟨hop,h2⟩,hu⟩ := hc
 split at hu
 case h_2 => cases hu
 rename_i kt et hu'
 have r1 := xAg h2 hF
 have run : ∀ (r : Option Nat),a.eval x' = .map r → (execOp a.eval o).run P w = .ok (.value (.bool (r.isNone != neg))) w := fun r hv => by
  have hz : a.eval (.const (.map none)) = .map none := rfl
  cases neg <;> simp only [if_true,Bool.false_eq_true,if_false] at hop <;> subst hop <;> cases r <;>
   simp [execOp,ho,hv,hz,eqGuard,binOp,Go.run_equal_map_nil w t kt et _ hu']
 split at h
 ·rename_i e1
  cases h
  rw [e1] at r1
  generalize hv : a.eval x' = cv at r1 run
  cases r1
  exact .same hs (run _ rfl) .bool
 ·rename_i id e1
  cases h
  rw [e1] at r1
  generalize hv : a.eval x' = cv at r1 run
  cases r1
  exact .same hs (run _ rfl) .bool
 ·cases h
theorem xXZ {x y : Arg} (hc : xAs P o (.sadd x y) = true) (hs : Sim chk im io H w) (hF : FRep im io F a) (h : xAb R F H (.sadd x y) = some (v,H')) : Good chk P o a im io w v H' := by
 simp only [xAs] at hc
 simp only [xAb] at h
 split at hc
 case h_2 => cases hc
 rename_i op t x' y' yt ho
 simp only [Bool.and_eq_true,beq_iff_eq] at hc
 obtain ⟨⟨⟨rfl,hu⟩,h1⟩,h2⟩ := hc
 have r1 := xAg h1 hF
 have r2 := xAg h2 hF
 split at h
 case h_2 => cases h
 rename_i s t' e1 e2
 split at h
 case isFalse => cases h
 rename_i hsz
 cases h
 rw [e1] at r1
 rw [e2] at r2
 generalize hv1 : a.eval x' = c1 at r1
 generalize hv2 : a.eval y' = c2 at r2
 cases r1
 cases r2
 have hst : s ++ t' = ⟨⟨s.data.toList ++ t'.data.toList⟩⟩ := by
  obtain ⟨⟨x⟩⟩ := s
  obtain ⟨⟨y⟩⟩ := t'
  ext1
  simp
 have hmx : ¬ (IntKind.i64.max < ((s.size + t'.size : Nat) : Int)) := by
  have : IntKind.i64.max = 9223372036854775807 := by decide
  omega
 refine .same hs (x := .string (s ++ t')) ?_ (by rw [← hst]; exact .str)
 simp [execOp,ho,hv1,hv2,eqGuard,binOp,Op.stringOp]
 omega
theorem xII : ∀ {cs : List AV} {vs : List Value} {bs : List UInt8},xJs cs = some bs → Reps im io cs vs → ∃ ns : List Int,vs = ns.map (Value.int .u8 ·) ∧ bs = ns.map fun n => UInt8.ofNat n.toNat
 | [],vs,bs,h,hr => by
  cases h
  obtain rfl : vs = [] := List.length_eq_zero_iff.1 hr.1
  exact ⟨[],rfl,rfl⟩
 | c :: cs,vs,bs,h,hr => by
  unfold xJs at h
  split at h
  ·rename_i e; cases e
  ·rename_i n cs' e
   cases e
   simp only [Option.map_eq_some_iff] at h
   obtain ⟨bs',h,rfl⟩ := h
   match vs,hr with
   | [],hr => have := hr.1; simp at this
   | v :: vs,hr =>
    have r0 := hr.2 0 _ v rfl rfl
    cases r0
    obtain ⟨ns,rfl,rfl⟩ := xII h ⟨by simpa using hr.1,fun i c u h1 h2 => hr.2 (i + 1) c u h1 h2⟩
    exact ⟨n :: ns,rfl,rfl⟩
  ·cases h
theorem xLi : ∀ (ns : List Int) (s : ByteArray),ns.foldl (fun r n => r.push (UInt8.ofNat n.toNat)) s = ⟨⟨s.data.toList ++ ns.map fun n => UInt8.ofNat n.toNat⟩⟩
 | [],s => by
  obtain ⟨⟨x⟩⟩ := s
  simp
 | n :: ns,s => by
  rw [List.foldl_cons,xLi ns]
  obtain ⟨⟨x⟩⟩ := s
  simp [ByteArray.push]
theorem xX0 {x : Arg} (hc : xAs P o (.bstr x) = true) (hs : Sim chk im io H w) (hF : FRep im io F a) (h : xAb R F H (.bstr x) = some (v,H')) : Good chk P o a im io w v H' := by
 simp only [xAs] at hc
 simp only [xAb] at h
 split at hc
 case h_2 => cases hc
 rename_i s t y ho
 split at hc
 case h_2 => cases hc
 rename_i e hu1 hu2
 split at hc
 case h_2 => cases hc
 rename_i hu3
 have r1 := xAg hc hF
 split at h
 case h_2 => cases h
 rename_i n cs hsrc
 simp only [Option.map_eq_some_iff,Prod.mk.injEq] at h
 obtain ⟨bs,hb,rfl,rfl⟩ := h
 obtain ⟨ad,cap,vs,hvy,hl,hr,hk,hlies,hn0⟩ := xP7 hs hsrc r1
 obtain ⟨ns,rfl,rfl⟩ := xII hb hr
 cases ad with
 | none =>
  obtain rfl := hn0 rfl
  have : ns = [] := by simpa using hl
  subst this
  refine .same hs (x := .string .empty) ?_ .str
  simp [execOp,ho,hvy,convert,run_underlying hu1,run_underlying hu2,run_underlying hu3,Result.andThen,Conv.bytesToString]
 | some ad =>
  refine .same hs (x := .string ⟨⟨ns.map fun n => UInt8.ofNat n.toNat⟩⟩) ?_ .str
  have hload : (loadCells ad n).run P w = .ok (ns.map (Value.int .u8 ·)).toArray w := by
   rcases hlies with e0 | ⟨b,off,e0,hlies⟩
   ·have : ns = [] := by simpa using e0
    subst this
    obtain rfl : n = 0 := by simpa using hl.symm
    rfl
   ·cases e0
    have := xCw (P := P) hlies
    rw [hl,Nat.mul_one] at this
    exact this
  have hb := run_bytesToString (P := P) w ad n cap ns hload
  rw [xLi] at hb
  have hcv := run_convert_bytes_string (P := P) w s t e (some ad) n cap hu1 hu3 hu2
  rw [hb] at hcv
  simp [execOp,ho,hvy,hcv,Result.andThen]
theorem xP1 (w : World) (e : TypeId) (s : ByteArray) : Pushed w (Lib.bytesWorld w e s) (.cells (Lib.bytesCells w e s) e ((Lib.bytesCells w e s).size,(Lib.bytesCells w e s).size + 1)) := by
 refine ⟨rfl,rfl,rfl,?_⟩
 apply Array.ext_getElem?
 intro i
 rw [Array.getElem?_push]
 split
 ·rename_i e0
  subst e0
  exact Lib.bytesWorld_at_new w e s
 ·rename_i e0
  by_cases h : i < w.heap.size
  ·exact Lib.bytesWorld_at_old w e s i h
  ·rw [Array.getElem?_eq_none (show (Lib.bytesWorld w e s).heap.size ≤ i by rw [Lib.bytesWorld_size]; omega),Array.getElem?_eq_none (by omega)]
theorem xQ2 {fz : Bool} {x : Arg} (hc : xAs P o (.sbytes fz x) = true) (hs : Sim chk im io H w) (hF : FRep im io F a) (h : xAb R F H (.sbytes fz x) = some (v,H')) : Good chk P o a im io w v H' := by
 simp only [xAs] at hc
 simp only [xAb] at h
 split at hc
 case h_2 => cases hc
 rename_i s t y ho
 split at hc
 case h_2 => cases hc
 rename_i e hu1 hu2
 split at hc
 case h_2 => cases hc
 rename_i hu3
 have r1 := xAg hc hF
 split at h
 case h_2 => cases h
 rename_i s0 e1
 rw [e1] at r1
 generalize hv : a.eval y = cv at r1
 cases r1
 have hge : s0.size ≤ grownCap w s0.size 0 e := grownCap_ge w s0.size 0 e
 have hsize : (Lib.bytesCells w e s0).size = grownCap w s0.size 0 e := by
  simp only [Lib.bytesCells,Array.size_append,Array.size_map,Array.size_replicate]
  show s0.size + _ = _
  omega
 have hrun := Lib.run_convert_string_bytes (P := P) w s t e s0 hu1 hu2 hu3
 have hr : Reps im io (xBv s0) (s0.data.toList.map fun b => Value.int .u8 b.toNat) := by
  refine ⟨by simp [xBv],fun i c u h1 h2 => ?_⟩
  simp only [xBv,List.getElem?_map,Option.map_eq_some_iff] at h1 h2
  obtain ⟨b1,g1,rfl⟩ := h1
  obtain ⟨b2,g2,rfl⟩ := h2
  rw [g1] at g2; cases g2
  exact .int
 obtain ⟨im',io',s1,s2,s3⟩ := xIJ (cap := grownCap w s0.size 0 e) hs (xP1 w e s0) (.inr (Nat.le_refl _)) rfl hr
  (fun c hcm => by simp only [xBv,List.mem_map] at hcm; obtain ⟨b,_,rfl⟩ := hcm; rfl)
  (fun i u hu => by
   have hlt := (List.getElem?_eq_some_iff.1 hu).1
   have hlt' : i < s0.data.size := by simpa using hlt
   simp only [Lib.bytesCells]
   rw [Array.getElem?_append_left (by simpa using hlt')]
   simp at hu ⊢
   exact hu) hge (by rw [hsize]; omega) h
 exact ⟨im',io',_,_,.inl (by simp [execOp,ho,hv,hrun,Result.andThen]),s1,s2,s3⟩
end
end Go.Abs
