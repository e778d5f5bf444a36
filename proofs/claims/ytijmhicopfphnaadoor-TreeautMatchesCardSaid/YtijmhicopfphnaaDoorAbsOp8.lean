/- Maps; strings and rows of bytes. -/
import Derived.Test.YtijmhicopfphnaaDoorAbsOp7
import Derived.MapKept
import Derived.ChangeKeysEq
import Derived.WideKeyRuns
import Derived.Laws.BytesString
import Derived.Lib.ConvBytes
namespace Go.Abs
set_option linter.unusedVariables false
set_option linter.unusedSimpArgs false
open Go.RowKit Go.MapKept
section
variable {chk : Code → ACode → Bool} {P : Program} {o : Oper} {a : Act} {im : Im} {io : Io} {H H' : Heap} {w : World} {F : List AV} {R : Rec} {v : AV}
theorem putObj_size' (b : Nat) (o : Obj) : (w.putObj b o).heap.size = w.heap.size := by simp [World.putObj]
theorem xYB (h : Sim chk im io H w) :
  Sim chk im (upd io H.length (w.heap.size,0)) (H ++ [.mp []]) (w.alloc (.map #[] 0)) ∧ Step im io w im (upd io H.length (w.heap.size,0)) (w.alloc (.map #[] 0)) := by
 have hpz := Pushed.alloc w (.map #[] 0)
 have hn : io H.length = none := h.fresh _ (Nat.le_refl _)
 have hle : IoLe io (upd io H.length (w.heap.size,0)) := fun i x hi => by
  rw [xBc]
  ·exact hi
  ·rintro rfl; rw [hn] at hi; cases hi
 have hown : ∀ b,Own (upd io H.length (w.heap.size,0)) b → Own io b ∨ b = w.heap.size := fun b ⟨id,sz,hi⟩ => by
  by_cases e : id = H.length
  ·subst e; rw [xBr] at hi; cases hi; exact .inr rfl
  ·rw [xBc _ _ e] at hi; exact .inl ⟨id,sz,hi⟩
 have him : im w.heap.size = none := by
  cases e : im w.heap.size with
  | none => rfl
  | some o' => have := (Array.getElem?_eq_some_iff.1 (h.imw _ _ e)).1; omega
 refine ⟨⟨fun id hid => ?_,fun id b hH => ?_,fun i j bi bj b si sj hi hj li lj hbi hbj => ?_,fun b o' hb => ?_,fun b ho => ?_,h.glob⟩,
  ⟨.refl _,hle,hpz.os,hpz.tape,hpz.output,by rw [hpz.size]; omega,fun b hb _ => hpz.old hb,fun b hb => ?_,fun _ _ h => .inl h⟩⟩
 ·simp at hid
  rw [xBc _ _ (by omega)]; exact h.fresh id (by omega)
 ·by_cases e : id < H.length
  ·rw [List.getElem?_append_left e] at hH
   exact (h.blk id b hH).mono (.refl _) hle (fun e' => by rw [xBc _ _ (by omega)]; exact e') (fun b sz hio _ => ⟨hpz.old (h.inb b ⟨id,sz,hio⟩),fun e => e⟩)
  ·have e' : id = H.length := by
    have := (List.getElem?_eq_some_iff.1 hH).1
    simp at this; omega
   subst e'
   simp at hH
   subst hH
   exact ⟨w.heap.size,#[],0,xBr _ _ _,him,hpz.new,rfl,fun i e he => by simp at he,rfl,fun i x hx => by simp at hx⟩
 ·have key : ∀ (k : Nat) (bk : Blk) (sk : Nat),(H ++ [Blk.mp []])[k]? = some bk → upd io H.length (w.heap.size,0) k = some (b,sk) → (k < H.length ∧ H[k]? = some bk ∧ io k = some (b,sk)) ∨ (k = H.length ∧ b = w.heap.size) := by
   intro k bk sk hk' hbk
   by_cases e : k < H.length
   ·rw [List.getElem?_append_left e] at hk'
    rw [xBc _ _ (by omega)] at hbk
    exact .inl ⟨e,hk',hbk⟩
   ·have e' : k = H.length := by
     have := (List.getElem?_eq_some_iff.1 hk').1
     simp at this; omega
    subst e'
    rw [xBr] at hbk; cases hbk
    exact .inr ⟨rfl,rfl⟩
  rcases key i bi si hi hbi with ⟨_,h1,h2⟩ | ⟨h1,h2⟩ <;> rcases key j bj sj hj hbj with ⟨_,g1,g2⟩ | ⟨g1,g2⟩
  ·exact h.inj i j bi bj b si sj h1 g1 li lj h2 g2
  ·have := h.inb b ⟨i,si,h2⟩; omega
  ·have := h.inb b ⟨j,sj,g2⟩; omega
  ·omega
 ·have := h.imw b o' hb
  rw [hpz.old (Array.getElem?_eq_some_iff.1 this).1]; exact this
 ·rw [hpz.size]
  rcases hown b ho with h1 | h1
  ·have := h.inb b h1; omega
  ·omega
 ·rcases hown b hb with h1 | h1
  ·exact .inl h1
  ·exact .inr (by omega)
theorem xUZ {l b sz : Nat} {es es' : List (AV × AV)} (h : Sim chk im io H w) (hH : H[l]? = some (.mp es)) (hio : io l = some (b,sz)) {m' : Array MapEntry} {clk : Nat}
  (hsz : m'.size = es'.length) (hr : ∀ (i : Nat) (e : AV × AV),es'[i]? = some e → ∃ x,m'[i]? = some x ∧ Rep im io e.1 x.key ∧ Rep im io e.2 x.val) (hb6 : clk = m'.size ∧ ∀ (i : Nat) x,m'[i]? = some x → x.born = i) :
  Sim chk im io (H.set l (.mp es')) (w.putObj b (.map m' clk)) ∧ Step im io w im io (w.putObj b (.map m' clk)) := by
 have hlt : l < H.length := (List.getElem?_eq_some_iff.1 hH).1
 obtain ⟨b',m,clk0,h1,h2,h3,h4,h5,_⟩ := h.blk l _ hH
 rw [hio] at h1; cases h1
 have hbl : b < w.heap.size := (Array.getElem?_eq_some_iff.1 h3).1
 refine ⟨⟨fun i hi => h.fresh i (by simpa using hi),fun i bi hi => ?_,fun i j bi bj b' si sj hi hj li lj hbi hbj => ?_,fun b' o' hb' => ?_,fun b' hb' => by rw [putObj_size']; exact h.inb b' hb',h.glob⟩,
  ⟨.refl _,.refl _,rfl,rfl,rfl,by rw [putObj_size']; exact Nat.le_refl _,fun b' _ hno => World.putObj_heap_other (by rintro rfl; exact hno ⟨l,_,hio⟩),fun _ h => .inl h,fun _ _ h => .inl h⟩⟩
 ·rw [List.getElem?_set] at hi
  split at hi
  ·rename_i e
   subst e
   cases hi
   exact ⟨b,m',clk,hio,h2,World.putObj_heap_same hbl,hsz,hr,hb6⟩
  ·rename_i e
   have hold := h.blk i bi hi
   refine hold.mono (.refl _) (.refl _) (fun e => e) (fun b' sz' hio' hnd => ⟨World.putObj_heap_other ?_,fun e => e⟩)
   rintro rfl
   cases bi with
   | dead => exact hnd rfl
   | mp es2 => exact e (h.inj l i _ _ _ _ _ hH hi rfl rfl hio hio')
   | loop st2 pend2 F2 ps2 asg2 body2 => exact e (h.inj l i _ _ _ _ _ hH hi rfl rfl hio hio')
   | cells fz' z' cs' =>
    cases fz' with
    | false => exact e (h.inj l i _ _ _ _ _ hH hi rfl rfl hio hio')
    | true =>
     obtain ⟨_,c2,t2,_,_,_,_,g3,_⟩ := xCl hold hio'
     rw [h2] at g3; cases g3
 ·have key : ∀ (k : Nat) (bk : Blk),(H.set l (.mp es'))[k]? = some bk → bk.live = true → ∃ bk' : Blk,H[k]? = some bk' ∧ bk'.live = true := by
   intro k bk hk' lk'
   rw [List.getElem?_set] at hk'
   split at hk'
   ·rename_i e; subst e; exact ⟨_,hH,rfl⟩
   ·exact ⟨bk,hk',lk'⟩
  obtain ⟨bi',e1,e2⟩ := key i bi hi li
  obtain ⟨bj',e3,e4⟩ := key j bj hj lj
  exact h.inj i j bi' bj' b' si sj e1 e3 e2 e4 hbi hbj
 ·have hne : b' ≠ b := by rintro rfl; rw [h2] at hb'; cases hb'
  rw [World.putObj_heap_other hne]; exact h.imw _ _ hb'
theorem xTW (hc : xA3 P o .mkmap = true) (hs : Sim chk im io H w) (hF : FRep im io F a) (h : xAg R F H .mkmap = some (v,H')) : Good chk P o a im io w v H' := by
 simp only [xA3] at hc
 simp only [xAg] at h
 cases h
 split at hc
 case h_2 => cases hc
 rename_i t ho
 obtain ⟨s1,s2⟩ := xYB hs
 exact ⟨im,_,_,.map (some w.heap.size),.inl (by simp [execOp,ho,Instr.makeMap]),s2,s1,.mp (xBr _ _ _)⟩
theorem xJ6 {k : AV} : ∀ {es : List (AV × AV)} {r : Option AV},xTS k es = some r →
  (∃ j e,es[j]? = some e ∧ xC3 k e.1 = some true ∧ (∀ (i : Nat) e',i < j → es[i]? = some e' → xC3 k e'.1 = some false) ∧ r = some e.2) ∨
  ((∀ (i : Nat) e',es[i]? = some e' → xC3 k e'.1 = some false) ∧ r = none)
 | [],r,h => by
  cases h
  exact .inr ⟨fun i e' h => by simp at h,rfl⟩
 | (k',v) :: es,r,h => by
  simp only [xTS] at h
  split at h
  ·rename_i q
   cases h
   exact .inl ⟨0,(k',v),rfl,q,fun i e' h => by omega,rfl⟩
  ·rename_i q
   have tl : ∀ (i : Nat) e',((k',v) :: es)[i]? = some e' → (i = 0 ∧ e' = (k',v)) ∨ ∃ i',i = i' + 1 ∧ es[i']? = some e' := by
    intro i e' h
    cases i with
    | zero => simp at h; exact .inl ⟨rfl,h.symm⟩
    | succ i => simp at h; exact .inr ⟨i,rfl,h⟩
   rcases xJ6 h with ⟨j,e,h1,h2,h3,h4⟩ | ⟨h1,h2⟩
   ·refine .inl ⟨j + 1,e,by simpa using h1,h2,fun i e' hi he => ?_,h4⟩
    rcases tl i e' he with ⟨_,rfl⟩ | ⟨i',rfl,h5⟩
    ·exact q
    ·exact h3 i' e' (by omega) h5
   ·refine .inr ⟨fun i e' he => ?_,h2⟩
    rcases tl i e' he with ⟨_,rfl⟩ | ⟨i',rfl,h5⟩
    ·exact q
    ·exact h1 i' e' h5
  ·cases h
theorem xM5 {k v : AV} : ∀ {es es' : List (AV × AV)},yDs k v es = some es' →
  (∃ j e,es[j]? = some e ∧ xC3 k e.1 = some true ∧ (∀ (i : Nat) e',i < j → es[i]? = some e' → xC3 k e'.1 = some false) ∧ es' = es.set j (k,v)) ∨
  ((∀ (i : Nat) e',es[i]? = some e' → xC3 k e'.1 = some false) ∧ es' = es ++ [(k,v)])
 | [],es',h => by
  cases h
  exact .inr ⟨fun i e' h => by simp at h,rfl⟩
 | (k',v') :: es,es',h => by
  simp only [yDs] at h
  split at h
  ·rename_i q
   cases h
   exact .inl ⟨0,(k',v'),rfl,q,fun i e' h => by omega,rfl⟩
  ·rename_i q
   simp only [Option.map_eq_some_iff] at h
   obtain ⟨es1,h,rfl⟩ := h
   have tl : ∀ (i : Nat) e',((k',v') :: es)[i]? = some e' → (i = 0 ∧ e' = (k',v')) ∨ ∃ i',i = i' + 1 ∧ es[i']? = some e' := by
    intro i e' h
    cases i with
    | zero => simp at h; exact .inl ⟨rfl,h.symm⟩
    | succ i => simp at h; exact .inr ⟨i,rfl,h⟩
   rcases xM5 h with ⟨j,e,h1,h2,h3,rfl⟩ | ⟨h1,rfl⟩
   ·refine .inl ⟨j + 1,e,by simpa using h1,h2,fun i e' hi he => ?_,rfl⟩
    rcases tl i e' he with ⟨_,rfl⟩ | ⟨i',rfl,h5⟩
    ·exact q
    ·exact h3 i' e' (by omega) h5
   ·refine .inr ⟨fun i e' he => ?_,rfl⟩
    rcases tl i e' he with ⟨_,rfl⟩ | ⟨i',rfl,h5⟩
    ·exact q
    ·exact h1 i' e' h5
  ·cases h
theorem xJ7 {d : TypeDesc} {x : Value} : ∀ {l : List MapEntry} {j i0 : Nat} {e : MapEntry},l[j]? = some e → Instr.sameNow d x e.key = some true → (∀ (i : Nat) e',i < j → l[i]? = some e' → Instr.sameNow d x e'.key = some false) →
  Instr.findNow d x l i0 = some (some (i0 + j,e.val))
 | [],j,i0,e,h,_,_ => by simp at h
 | e0 :: l,0,i0,e,h,h1,_ => by
  simp at h; subst h
  simp [Instr.findNow,h1]
 | e0 :: l,j + 1,i0,e,h,h1,h2 => by
  have q := h2 0 e0 (by omega) rfl
  simp only [Instr.findNow,q]
  rw [xJ7 (i0 := i0 + 1) (by simpa using h) h1 (fun i e' hi he => h2 (i + 1) e' (by omega) (by simpa using he))]
  congr 3
  omega
theorem xJ8 {d : TypeDesc} {x : Value} : ∀ {l : List MapEntry} {i0 : Nat},(∀ (i : Nat) e',l[i]? = some e' → Instr.sameNow d x e'.key = some false) → Instr.findNow d x l i0 = some none
 | [],_,_ => rfl
 | e0 :: l,i0,h => by
  simp only [Instr.findNow,h 0 e0 rfl]
  exact xJ8 (fun i e' he => h (i + 1) e' (by simpa using he))
theorem xM6 {s t : ByteArray} (h : (s.data.toList == t.data.toList) = true) : s = t := by
 obtain ⟨⟨x⟩⟩ := s
 obtain ⟨⟨y⟩⟩ := t
 simp at h
 subst h
 rfl
theorem xDq {t : TypeId} {k : Nat} (h : xX6 P t k = true) : P.plainKey t = true := by
 unfold xX6 at h
 unfold Program.plainKey
 split at h
 ·rename_i hu; rw [hu]
 ·rename_i hu; rw [hu]
 ·cases h
theorem xD2 {t : TypeId} {k : Nat} (h : xX6 P t k = true) {c e : AV} {x y : Value} (hf : xFG k c = true) (r : Rep im io c x) (r' : Rep im io e y) {b : Bool} (hb : xD0 c e = some b) (n : Nat) :
  (Op.equalIn (n + 1) t x y).run P w = .ok b w ∧ (b = true → x = y) ∧ (∀ q,P.underlying t = some q → Instr.sameNow q x y = some b) ∧ (∀ m z,(Instr.checkKey z (m + 1) t x).run P w = .ok () w) ∧ ∀ m,Instr.sameBits m x x = true := by
 unfold xX6 at h
 split at h
 ·rename_i ki hu
  obtain rfl : k = 0 := by simpa using h
  cases c <;> simp [xFG] at hf
  cases r
  cases e <;> simp [xD0] at hb
  cases r'
  obtain ⟨rfl,hb⟩ := hb
  subst hb
  exact ⟨Go.run_equalIn_int w n _ _ _ _ _ hu,fun e => by simp at e; rw [e],fun q hq => by rw [hu] at hq; cases hq; simp [Instr.sameNow],fun m z => by simp [Instr.checkKey,run_underlying hu],fun m => by simp [Instr.sameBits]⟩
 ·rename_i hu
  obtain rfl : k = 1 := by simpa using h
  cases c <;> simp [xFG] at hf
  rename_i s
  cases r
  cases e <;> simp [xD0] at hb
  rename_i t2
  cases r'
  have e2 : (s == t2) = b := by
   rw [← hb]
   rw [Bool.eq_iff_iff,bytes_beq]
   constructor
   ·rintro rfl; simp
   ·intro q; exact xM6 (by simpa using q)
  refine ⟨?_,fun e => by subst e; rw [bytes_beq] at e2; rw [e2],fun q hq => by rw [hu] at hq; cases hq; simp [Instr.sameNow,e2],fun m z => by simp [Instr.checkKey,run_underlying hu],fun m => by simp [Instr.sameBits,bytes_beq]⟩
  simp [Op.equalIn,run_underlying hu,Result.andThen,e2]
 ·cases h
theorem xIa {d : Nat} {xs ys : Array Value} : ∀ (fs : List Field) (ks : List Nat) (i : Nat) (cs ds : List AV) (r : Bool),xMe P i fs ks = true → xBZ ks cs = true → xEp cs ds = some r →
  (∀ j c,cs[j]? = some c → ∃ v,xs[i + j]? = some v ∧ Rep im io c v) → (∀ j c,ds[j]? = some c → ∃ v,ys[i + j]? = some v ∧ Rep im io c v) →
  (Op.eqFields (d + 1) xs ys fs).run P w = .ok r w ∧ (r = true → ∀ j,j < cs.length → xs[i + j]? = ys[i + j]?) ∧ cs.length = ds.length
 | [],[],i,[],[],r,_,_,h,_,_ => by simp only [xEp,Option.some.injEq] at h; subst h; exact ⟨rfl,fun _ j hj => by simp at hj,rfl⟩
 | [],[],_,[],_ :: _,_,_,_,h,_,_ => by simp [xEp] at h
 | [],[],_,_ :: _,_,_,_,h,_,_,_ => by simp [xBZ] at h
 | [],_ :: _,_,_,_,_,h,_,_,_,_ => by simp [xMe] at h
 | _ :: _,[],_,_,_,_,h,_,_,_,_ => by simp [xMe] at h
 | _ :: _,_ :: _,_,[],_,_,_,h,_,_,_ => by simp [xBZ] at h
 | _ :: _,_ :: _,_,_ :: _,[],_,_,_,h,_,_ => by simp [xEp] at h
 | f :: fs,k :: ks,i,c :: cs,e :: ds,r,hf,hk,h,hx,hy => by
  simp only [xMe,Bool.and_eq_true,bne_iff_ne,beq_iff_eq] at hf
  obtain ⟨⟨⟨h1,h2⟩,h3⟩,h4⟩ := hf
  simp only [xBZ,Bool.and_eq_true] at hk
  simp only [xEp] at h
  split at h
  case h_2 => cases h
  rename_i b rr hb hr
  cases h
  obtain ⟨v1,g1,k1⟩ := hx 0 c rfl
  obtain ⟨v2,g2,k2⟩ := hy 0 e rfl
  obtain ⟨ih,ih2,ih3⟩ := xIa (d := d) fs ks (i + 1) cs ds rr h4 hk.2 hr (fun j c' hc => by rw [show i + 1 + j = i + (j + 1) by omega]; exact hx (j + 1) c' (by simpa using hc)) (fun j c' hc => by rw [show i + 1 + j = i + (j + 1) by omega]; exact hy (j + 1) c' (by simpa using hc))
  obtain ⟨q1,q2,_,_,_⟩ := xD2 (w := w) h3 hk.1 k1 k2 hb d
  have p1 : (part f.type xs f.offset).run P w = .ok v1 w := run_part_plain w (xDq h3) (by rw [h2]; exact g1)
  have p2 : (part f.type ys f.offset).run P w = .ok v2 w := run_part_plain w (xDq h3) (by rw [h2]; exact g2)
  refine ⟨?_,fun hr j hj => ?_,by simp [ih3]⟩
  ·simp only [Op.eqFields,ne_eq,h1,not_false_eq_true,if_true,Sem.run_bind,p1,p2,q1,Result.andThen]
   cases b
   ·simp
   ·simpa using ih
  ·simp only [Bool.and_eq_true] at hr
   cases j with
   | zero => rw [g1,g2,q2 hr.1]
   | succ j =>
    have := ih2 hr.2 j (by simpa using hj)
    rw [show i + (j + 1) = i + 1 + j by omega]; exact this
theorem xJ9 {d : Nat} {xs ys : Array Value} {e : TypeId} (hc : P.cellsOf e = 1) : ∀ (ks : List Nat) (i : Nat) (cs ds : List AV) (r : Bool),ks.all (xX6 P e) = true → xBZ ks cs = true → xEp cs ds = some r →
  (∀ j c,cs[j]? = some c → ∃ v,xs[i + j]? = some v ∧ Rep im io c v) → (∀ j c,ds[j]? = some c → ∃ v,ys[i + j]? = some v ∧ Rep im io c v) →
  (Op.eqItems (d + 1) e (P.cellsOf e) xs ys (List.range' i ks.length)).run P w = .ok r w ∧ (r = true → ∀ j,j < cs.length → xs[i + j]? = ys[i + j]?) ∧ cs.length = ds.length
 | [],i,[],[],r,_,_,h,_,_ => by simp only [xEp,Option.some.injEq] at h; subst h; exact ⟨rfl,fun _ j hj => by simp at hj,rfl⟩
 | [],_,[],_ :: _,_,_,_,h,_,_ => by simp [xEp] at h
 | [],_,_ :: _,_,_,_,h,_,_,_ => by simp [xBZ] at h
 | _ :: _,_,[],_,_,_,h,_,_,_ => by simp [xBZ] at h
 | _ :: _,_,_ :: _,[],_,_,_,h,_,_ => by simp [xEp] at h
 | k :: ks,i,c :: cs,e' :: ds,r,hf,hk,h,hx,hy => by
  simp only [List.all_cons,Bool.and_eq_true] at hf
  simp only [xBZ,Bool.and_eq_true] at hk
  simp only [xEp] at h
  split at h
  case h_2 => cases h
  rename_i b rr hb hr
  cases h
  obtain ⟨v1,g1,k1⟩ := hx 0 c rfl
  obtain ⟨v2,g2,k2⟩ := hy 0 e' rfl
  obtain ⟨ih,ih2,ih3⟩ := xJ9 (d := d) hc ks (i + 1) cs ds rr hf.2 hk.2 hr (fun j c' hc => by rw [show i + 1 + j = i + (j + 1) by omega]; exact hx (j + 1) c' (by simpa using hc)) (fun j c' hc => by rw [show i + 1 + j = i + (j + 1) by omega]; exact hy (j + 1) c' (by simpa using hc))
  obtain ⟨q1,q2,_,_,_⟩ := xD2 (w := w) hf.1 hk.1 k1 k2 hb d
  have p1 : (part e xs i).run P w = .ok v1 w := run_part_plain w (xDq hf.1) g1
  have p2 : (part e ys i).run P w = .ok v2 w := run_part_plain w (xDq hf.1) g2
  rw [hc] at ih
  refine ⟨?_,fun hr j hj => ?_,by simp [ih3]⟩
  ·simp only [List.length_cons,List.range'_succ,Op.eqItems,hc,Nat.mul_one,Sem.run_bind,p1,p2,q1,Result.andThen_ok]
   cases b
   ·simp
   ·simpa using ih
  ·simp only [Bool.and_eq_true] at hr
   cases j with
   | zero => rw [g1,g2,q2 hr.1]
   | succ j =>
    have := ih2 hr.2 j (by simpa using hj)
    rw [show i + (j + 1) = i + 1 + j by omega]; exact this
theorem xZ7 {vs us : List Value} {n m : Nat} (h1 : vs.length = n) (h2 : us.length = m) (hm : n = m) (h : ∀ j,j < n → vs.toArray[0 + j]? = us.toArray[0 + j]?) : vs = us := by
 apply List.ext_getElem?
 intro j
 by_cases hj : j < n
 ·have := h j hj
  simpa using this
 ·rw [List.getElem?_eq_none (by omega),List.getElem?_eq_none (by omega)]
theorem xF5 {kt : TypeId} {ks : List Nat} (hk : xTO P kt ks = true) {k k' : AV} {x x' : Value} (hf : xCF ks k = true) (r : Rep im io k x) (r' : Rep im io k' x') {b : Bool} (h : xC3 k k' = some b) :
  (b = true → x = x') ∧ (((∃ q,P.underlying kt = some q ∧ Instr.sameNow q x x' = some b) ∧ (match P.underlying kt with | some (.array _ _) | some (.struct _) => true | _ => false) = false) ∨
   ((Op.equal kt x x').run P w = .ok b w ∧ (match P.underlying kt with | some (.array _ _) | some (.struct _) => true | _ => false) = true)) := by
 unfold xTO at hk
 split at hk
 ·rename_i ki hu
  obtain rfl : ks = [0] := by simpa using hk
  cases k <;> simp [xCF] at hf
  cases k' <;> try (simp [xC3,xD0] at h; done)
  obtain ⟨_,q2,q3,_⟩ := xD2 (w := w) (P := P) (t := kt) (k := 0) (by simp [xX6,hu]) rfl r r' (by simpa [xC3] using h) 0
  exact ⟨q2,.inl ⟨⟨_,hu,q3 _ hu⟩,by rw [hu]⟩⟩
 ·rename_i hu
  obtain rfl : ks = [1] := by simpa using hk
  cases k <;> simp [xCF] at hf
  cases k' <;> try (simp [xC3,xD0] at h; done)
  obtain ⟨_,q2,q3,_⟩ := xD2 (w := w) (P := P) (t := kt) (k := 1) (by simp [xX6,hu]) rfl r r' (by simpa [xC3] using h) 0
  exact ⟨q2,.inl ⟨⟨_,hu,q3 _ hu⟩,by rw [hu]⟩⟩
 ·rename_i fs hu
  split at hk
  case h_2 => cases hk
  rename_i ks'
  simp only [Bool.and_eq_true,Bool.not_eq_true'] at hk
  cases k <;> simp [xCF] at hf
  cases k' <;> try (simp [xC3,xD0] at h; done)
  simp only [xC3] at h
  cases r with
  | agg l1 a1 k1 =>
  cases r' with
  | agg l2 a2 k2 =>
  rename_i vs us
  have hfs : P.fieldsOf kt = fs := by simp [Program.fieldsOf,hu]
  obtain ⟨p1,p2,p3⟩ := xIa (P := P) (im := im) (io := io) (w := w) (d := 9998) (xs := vs.toArray) (ys := us.toArray) fs.toList ks' 0 _ _ b hk.1 hf h
   (fun j c hc => by
    obtain ⟨u,q1,q2⟩ := Reps.get (vs := vs) ⟨l1,a1⟩ hc
    exact ⟨u,by simpa using q1,q2⟩)
   (fun j c hc => by
    obtain ⟨u,q1,q2⟩ := Reps.get (vs := us) ⟨l2,a2⟩ hc
    exact ⟨u,by simpa using q1,q2⟩)
  refine ⟨fun e => by rw [xZ7 l1 l2 p3 (p2 e)],.inr ⟨?_,by rw [hu]⟩⟩
  show (Op.equalIn 10000 kt (.agg vs.toArray) (.agg us.toArray)).run P w = .ok b w
  rw [show (10000 : Nat) = 9999 + 1 from rfl,Go.run_equalIn_struct w 9999 kt _ _ (by rw [hfs]; exact hu) hk.2,hfs]
  exact p1
 ·rename_i n e hu
  split at hk
  case h_2 => cases hk
  rename_i ks'
  simp only [Bool.and_eq_true,beq_iff_eq] at hk
  obtain ⟨⟨g1,g2⟩,g3⟩ := hk
  split at g3
  case h_2 => cases g3
  rename_i i hi
  simp only [Bool.and_eq_true,beq_iff_eq] at g3
  cases k <;> simp [xCF] at hf
  cases k' <;> try (simp [xC3,xD0] at h; done)
  simp only [xC3] at h
  cases r with
  | agg l1 a1 k1 =>
  cases r' with
  | agg l2 a2 k2 =>
  rename_i vs us
  obtain ⟨p1,p2,p3⟩ := xJ9 (P := P) (im := im) (io := io) (w := w) (d := 9998) (xs := vs.toArray) (ys := us.toArray) g3.1 ks' 0 _ _ b g2 hf h
   (fun j c hc => by
    obtain ⟨u,q1,q2⟩ := Reps.get (vs := vs) ⟨l1,a1⟩ hc
    exact ⟨u,by simpa using q1,q2⟩)
   (fun j c hc => by
    obtain ⟨u,q1,q2⟩ := Reps.get (vs := us) ⟨l2,a2⟩ hc
    exact ⟨u,by simpa using q1,q2⟩)
  refine ⟨fun e => by rw [xZ7 l1 l2 p3 (p2 e)],.inr ⟨?_,by rw [hu]⟩⟩
  show (Op.equalIn 10000 kt (.agg vs.toArray) (.agg us.toArray)).run P w = .ok b w
  rw [show (10000 : Nat) = 9999 + 1 from rfl,run_equalIn_array w 9999 _ _ hu hi,List.range_eq_range',← g1]
  exact p1
 ·cases hk
theorem xG1 {xs : Array Value} {em : Bool} : ∀ (fs : List Field) (ks : List Nat) (i : Nat) (cs : List AV),xMe P i fs ks = true → xBZ ks cs = true → (∀ j c,cs[j]? = some c → ∃ v,xs[i + j]? = some v ∧ Rep im io c v) →
  (forIn fs PUnit.unit fun f _ => do
   if f.name ≠ "_" then Instr.checkKey em 9999 f.type (← part f.type xs f.offset)
   pure (ForInStep.yield PUnit.unit) : Sem PUnit).run P w = .ok PUnit.unit w
 | [],_,_,_,_,_,_ => by simp
 | _ :: _,[],_,_,h,_,_ => by simp [xMe] at h
 | _ :: _,_ :: _,_,[],_,h,_ => by simp [xBZ] at h
 | f :: fs,k :: ks,i,c :: cs,hf,hk,hx => by
  simp only [xMe,Bool.and_eq_true,bne_iff_ne,beq_iff_eq] at hf
  obtain ⟨⟨⟨h1,h2⟩,h3⟩,h4⟩ := hf
  simp only [xBZ,Bool.and_eq_true] at hk
  obtain ⟨v1,g1,k1⟩ := hx 0 c rfl
  have ih := xG1 (em := em) fs ks (i + 1) cs h4 hk.2 (fun j c' hc => by rw [show i + 1 + j = i + (j + 1) by omega]; exact hx (j + 1) c' (by simpa using hc))
  have hb : ∃ b,xD0 c c = some b := by
   have := hk.1
   cases c <;> simp [xFG] at this <;> simp [xD0]
  obtain ⟨b,hb⟩ := hb
  obtain ⟨_,_,_,q,_⟩ := xD2 (w := w) h3 hk.1 k1 k1 hb 0
  have p1 : (part f.type xs f.offset).run P w = .ok v1 w := run_part_plain w (xDq h3) (by rw [h2]; exact g1)
  rw [List.forIn_cons]
  simp only [Sem.run_bind,ne_eq,h1,not_false_eq_true,if_true,p1,Result.andThen_ok,q 9998 em,Sem.run_pure]
  exact ih
theorem xIb {xs : Array Value} {em : Bool} {e : TypeId} : ∀ (ks : List Nat) (i : Nat) (cs : List AV),ks.all (xX6 P e) = true → xBZ ks cs = true → (∀ j c,cs[j]? = some c → ∃ v,xs[i + j]? = some v ∧ Rep im io c v) → ∀ (hs : (sizeOf e).run P w = .ok 1 w),
  (forIn (List.range' i ks.length) PUnit.unit fun i _ => do
   Instr.checkKey em 9999 e (← part e xs (i * (← sizeOf e)))
   pure (ForInStep.yield PUnit.unit) : Sem PUnit).run P w = .ok PUnit.unit w
 | [],_,_,_,_,_,_ => by simp
 | _ :: _,_,[],_,h,_,_ => by simp [xBZ] at h
 | k :: ks,i,c :: cs,hf,hk,hx,hs => by
  simp only [List.all_cons,Bool.and_eq_true] at hf
  simp only [xBZ,Bool.and_eq_true] at hk
  obtain ⟨v1,g1,k1⟩ := hx 0 c rfl
  have ih := xIb (em := em) ks (i + 1) cs hf.2 hk.2 (fun j c' hc => by rw [show i + 1 + j = i + (j + 1) by omega]; exact hx (j + 1) c' (by simpa using hc)) hs
  have hb : ∃ b,xD0 c c = some b := by
   have := hk.1
   cases c <;> simp [xFG] at this <;> simp [xD0]
  obtain ⟨b,hb⟩ := hb
  obtain ⟨_,_,_,q,_⟩ := xD2 (w := w) hf.1 hk.1 k1 k1 hb 0
  have p1 : (part e xs i).run P w = .ok v1 w := run_part_plain w (xDq hf.1) g1
  rw [List.length_cons,List.range'_succ,List.forIn_cons]
  simp only [Sem.run_bind,hs,Nat.mul_one,p1,Result.andThen_ok,q 9998 em,Sem.run_pure]
  exact ih
theorem xD3 {kt : TypeId} {ks : List Nat} (hk : xTO P kt ks = true) {k : AV} {x : Value} (hf : xCF ks k = true) (r : Rep im io k x) (e : Bool) : (Instr.checkKey e 10000 kt x).run P w = .ok () w := by
 unfold xTO at hk
 rw [show (10000 : Nat) = 9999 + 1 from rfl]
 unfold Instr.checkKey
 split at hk
 ·rename_i ki hu
  obtain rfl : ks = [0] := by simpa using hk
  cases k <;> simp [xCF] at hf
  cases r
  simp only [Sem.run_bind,run_underlying hu,Result.andThen]; rfl
 ·rename_i hu
  obtain rfl : ks = [1] := by simpa using hk
  cases k <;> simp [xCF] at hf
  cases r
  simp only [Sem.run_bind,run_underlying hu,Result.andThen]; rfl
 ·rename_i fs hu
  split at hk
  case h_2 => cases hk
  rename_i ks'
  simp only [Bool.and_eq_true,Bool.not_eq_true'] at hk
  cases k <;> simp [xCF] at hf
  cases r with
  | agg l1 a1 k1 =>
  rename_i vs
  simp only [Sem.run_bind,run_underlying hu,Result.andThen_ok]
  have := xG1 (P := P) (w := w) (im := im) (io := io) (em := e) (xs := vs.toArray) fs.toList ks' 0 _ hk.1 hf (fun j c hc => by
    obtain ⟨u,q1,q2⟩ := Reps.get (vs := vs) ⟨l1,a1⟩ hc
    exact ⟨u,by simpa using q1,q2⟩)
  rw [← Array.forIn_toList]
  simp at this ⊢
  rw [this]; rfl
 ·rename_i n e' hu
  split at hk
  case h_2 => cases hk
  rename_i ks'
  simp only [Bool.and_eq_true,beq_iff_eq] at hk
  obtain ⟨⟨g1,g2⟩,g3⟩ := hk
  split at g3
  case h_2 => cases g3
  rename_i i hi
  simp only [Bool.and_eq_true,beq_iff_eq] at g3
  cases k <;> simp [xCF] at hf
  cases r with
  | agg l1 a1 k1 =>
  rename_i vs
  have hs : (sizeOf e').run P w = .ok 1 w := by rw [run_sizeOf w hi,g3.1]
  have := xIb (P := P) (w := w) (im := im) (io := io) (em := e) (xs := vs.toArray) (e := e') ks' 0 _ g2 hf (fun j c hc => by
    obtain ⟨u,q1,q2⟩ := Reps.get (vs := vs) ⟨l1,a1⟩ hc
    exact ⟨u,by simpa using q1,q2⟩) hs
  simp only [Sem.run_bind,run_underlying hu,Result.andThen_ok]
  simp only [Std.Legacy.Range.forIn_eq_forIn_range',Std.Legacy.Range.size,Nat.sub_zero,Nat.add_one_sub_one,Nat.div_one]
  rw [← g1]
  simp at this ⊢
  rw [this]; rfl
 ·cases hk
def xG2 (im : Im) (io : Io) (es : List (AV × AV)) (m : Array MapEntry) : Prop := m.size = es.length ∧ ∀ (i : Nat) (e : AV × AV),es[i]? = some e → ∃ x,m[i]? = some x ∧ Rep im io e.1 x.key ∧ Rep im io e.2 x.val
theorem xM7 {kt : TypeId} {x : Value} : ∀ {l : List MapEntry} {j i0 : Nat} {e : MapEntry},l[j]? = some e → (Op.equal kt x e.key).run P w = .ok true w → (∀ (i : Nat) e',i < j → l[i]? = some e' → (Op.equal kt x e'.key).run P w = .ok false w) →
  (Instr.findAsking kt x l i0).run P w = .ok (some (i0 + j,e.val)) w
 | [],j,i0,e,h,_,_ => by simp at h
 | e0 :: l,0,i0,e,h,h1,_ => by
  simp at h; subst h
  simp [Instr.findAsking,h1,Result.andThen]
 | e0 :: l,j + 1,i0,e,h,h1,h2 => by
  have q := h2 0 e0 (by omega) rfl
  have ih := xM7 (kt := kt) (x := x) (l := l) (j := j) (i0 := i0 + 1) (by simpa using h) h1 (fun i e' hi he => h2 (i + 1) e' (by omega) (by simpa using he))
  simp only [Instr.findAsking,Sem.run_bind,q,Result.andThen_ok,Bool.false_eq_true,if_false]
  rw [ih,show i0 + 1 + j = i0 + (j + 1) by omega]
theorem xM8 {kt : TypeId} {x : Value} : ∀ {l : List MapEntry} {i0 : Nat},(∀ (i : Nat) e',l[i]? = some e' → (Op.equal kt x e'.key).run P w = .ok false w) → (Instr.findAsking kt x l i0).run P w = .ok none w
 | [],_,_ => rfl
 | e0 :: l,i0,h => by
  have q := h 0 e0 rfl
  have ih := xM8 (kt := kt) (x := x) (l := l) (i0 := i0 + 1) (fun i e' he => h (i + 1) e' (by simpa using he))
  simp only [Instr.findAsking,Sem.run_bind,q,Result.andThen_ok,Bool.false_eq_true,if_false]
  exact ih
theorem xF6 {kt : TypeId} {ks : List Nat} (hk : xTO P kt ks = true) : ∃ d,P.underlying kt = some d := by
 unfold xTO at hk
 cases h : P.underlying kt with
 | none => rw [h] at hk; cases hk
 | some d => exact ⟨d,rfl⟩
theorem xIc {kt : TypeId} {ks : List Nat} (hk : xTO P kt ks = true) {k : AV} {x : Value} (hf : xCF ks k = true) (r : Rep im io k x) {es : List (AV × AV)} {m : Array MapEntry} (hm : xG2 im io es m)
  {j : Nat} {e : AV × AV} (h1 : es[j]? = some e) (h2 : xC3 k e.1 = some true) (h3 : ∀ (i : Nat) e',i < j → es[i]? = some e' → xC3 k e'.1 = some false) :
  ∃ y,m[j]? = some y ∧ Rep im io e.2 y.val ∧ y.key = x ∧ (Instr.findKey kt x m.toList).run P w = .ok (some (j,y.val)) w := by
 obtain ⟨d,hd⟩ := xF6 hk
 obtain ⟨y,g1,g2,g3⟩ := hm.2 j e h1
 obtain ⟨q2,q1⟩ := xF5 (w := w) hk hf r g2 h2
 have each : ∀ (i : Nat) e',i < j → m.toList[i]? = some e' → ∃ k',Rep im io k' e'.key ∧ xC3 k k' = some false := by
  intro i e' hi he
  rw [Array.getElem?_toList] at he
  have hlt : i < es.length := by have := (List.getElem?_eq_some_iff.1 h1).1; omega
  obtain ⟨y',p1,p2,p3⟩ := hm.2 i es[i] (List.getElem?_eq_getElem hlt)
  rw [he] at p1; cases p1
  exact ⟨_,p2,h3 i _ hi (List.getElem?_eq_getElem hlt)⟩
 have hj : m.toList[j]? = some y := by rw [Array.getElem?_toList]; exact g1
 refine ⟨y,g1,g3,(q2 rfl).symm,?_⟩
 rcases q1 with ⟨⟨q,hq,q1⟩,hw⟩ | ⟨q1,hw⟩
 ·refine run_findKey hq ?_
  have := xJ7 (d := q) (x := x) (l := m.toList) (j := j) (i0 := 0) (e := y) hj q1 (fun i e' hi he => by
   obtain ⟨k',p1,p2⟩ := each i e' hi he
   rcases (xF5 (w := w) hk hf r p1 p2).2 with ⟨⟨q',hq',g⟩,_⟩ | ⟨_,hw'⟩
   ·rw [hq] at hq'; cases hq'; exact g
   ·rw [hw] at hw'; cases hw')
  rwa [Nat.zero_add] at this
 ·rw [run_findKey_eq w hw]
  have := xM7 (P := P) (w := w) (kt := kt) (x := x) (l := m.toList) (j := j) (i0 := 0) (e := y) hj q1 (fun i e' hi he => by
   obtain ⟨k',p1,p2⟩ := each i e' hi he
   rcases (xF5 (w := w) hk hf r p1 p2).2 with ⟨_,hw'⟩ | ⟨g,_⟩
   ·rw [hw] at hw'; cases hw'
   ·exact g)
  rwa [Nat.zero_add] at this
theorem xGM {kt : TypeId} {ks : List Nat} (hk : xTO P kt ks = true) {k : AV} {x : Value} (hf : xCF ks k = true) (r : Rep im io k x) {es : List (AV × AV)} {m : Array MapEntry} (hm : xG2 im io es m)
  (h3 : ∀ (i : Nat) e',es[i]? = some e' → xC3 k e'.1 = some false) : (Instr.findKey kt x m.toList).run P w = .ok none w := by
 obtain ⟨d,hd⟩ := xF6 hk
 have each : ∀ (i : Nat) e',m.toList[i]? = some e' → ∃ k',Rep im io k' e'.key ∧ xC3 k k' = some false := by
  intro i e' he
  rw [Array.getElem?_toList] at he
  have hlt : i < es.length := by have := (Array.getElem?_eq_some_iff.1 he).1; have := hm.1; omega
  obtain ⟨y',p1,p2,p3⟩ := hm.2 i es[i] (List.getElem?_eq_getElem hlt)
  rw [he] at p1; cases p1
  exact ⟨_,p2,h3 i _ (List.getElem?_eq_getElem hlt)⟩
 cases hw : (match P.underlying kt with | some (.array _ _) | some (.struct _) => true | _ => false) with
 | false =>
  refine run_findKey hd (xJ8 fun i e' he => ?_)
  obtain ⟨k',p1,p2⟩ := each i e' he
  rcases (xF5 (w := w) hk hf r p1 p2).2 with ⟨⟨q',hq',g⟩,_⟩ | ⟨_,hw'⟩
  ·rw [hd] at hq'; cases hq'; exact g
  ·rw [hw] at hw'; cases hw'
 | true =>
  rw [run_findKey_eq w hw]
  refine xM8 fun i e' he => ?_
  obtain ⟨k',p1,p2⟩ := each i e' he
  rcases (xF5 (w := w) hk hf r p1 p2).2 with ⟨_,hw'⟩ | ⟨g,_⟩
  ·rw [hw] at hw'; cases hw'
  ·exact g
theorem xKa : ∀ {ks : List Nat} {cs : List AV} {vs : List Value},xBZ ks cs = true → vs.length = cs.length → (∀ (j : Nat) c,cs[j]? = some c → ∃ v,vs[j]? = some v ∧ Rep im io c v) → ∀ m,((vs.zip vs).all fun (x,y) => Instr.sameBits m x y) = true
 | _,_,[],_,_,_,_ => rfl
 | [],[],_ :: _,_,h,_,_ => by simp at h
 | [],_ :: _,_,h,_,_,_ => by simp [xBZ] at h
 | _ :: _,[],_,h,_,_,_ => by simp [xBZ] at h
 | k :: ks,c :: cs,v :: vs,h,hl,hr,m => by
  simp only [xBZ,Bool.and_eq_true] at h
  obtain ⟨v',g1,g2⟩ := hr 0 c rfl
  simp at g1
  subst g1
  have ih := xKa (ks := ks) (cs := cs) (vs := vs) h.2 (by simpa using hl) (fun j c' hc => by simpa using hr (j + 1) c' (by simpa using hc)) m
  rw [List.zip_cons_cons,List.all_cons,Bool.and_eq_true]
  refine ⟨?_,ih⟩
  have := h.1
  unfold xFG at this
  split at this
  ·cases g2; simp [Instr.sameBits]
  ·cases g2; simp [Instr.sameBits,bytes_beq]
  ·cases this
theorem xG3 {kt : TypeId} {ks : List Nat} (hk : xTO P kt ks = true) {k : AV} {x : Value} (hf : xCF ks k = true) (r : Rep im io k x) : (Instr.keyThatStays x x).run P w = .ok x w := by
 have : Instr.sameBits 10000 x x = true := by
  unfold xCF at hf
  split at hf
  ·cases r; simp [Instr.sameBits]
  ·cases r; simp [Instr.sameBits,bytes_beq]
  ·cases r with
   | agg l1 a1 k1 =>
   rename_i vs
   have := xKa hf (show vs.length = _ from l1) (fun j c hc => Reps.get (vs := vs) ⟨l1,a1⟩ hc) 9999
   rw [show (10000 : Nat) = 9999 + 1 from rfl]
   simp only [Instr.sameBits,beq_self_eq_true,Bool.true_and]
   exact this
  ·cases hf
 simp [Instr.keyThatStays,this]
theorem xU0 {x : AV} {y : Value} {es : List (AV × AV)} (hs : Sim chk im io H w) (h : yDe H x = some es) (r : Rep im io x y) :
  (y = .map none ∧ es = []) ∨ ∃ b m clk,y = .map (some b) ∧ w.heap[b]? = some (.map m clk) ∧ xG2 im io es m := by
 unfold yDe at h
 split at h
 ·cases h; cases r; exact .inl ⟨rfl,rfl⟩
 ·rename_i id
  split at h
  ·rename_i es' hH
   cases h
   obtain ⟨b,m,clk,h1,h2,h3,h4,h5,_⟩ := hs.blk id _ hH
   cases r with
   | mp hio => rw [h1] at hio; cases hio; exact .inr ⟨b,m,clk,rfl,h3,h4,h5⟩
  ·cases h
 ·cases h
theorem xTX {ks : List Nat} {comma : Bool} {z : AV} {x k : Arg} (hc : xA3 P o (.mlook ks comma z x k) = true) (hs : Sim chk im io H w) (hF : FRep im io F a) (h : xAg R F H (.mlook ks comma z x k) = some (v,H')) : Good chk P o a im io w v H' := by
 simp only [xA3] at hc
 simp only [xAg] at h
 split at hc
 case h_2 => cases hc
 rename_i t x' k' c' ho
 split at hc
 case h_2 => cases hc
 rename_i kt et hu
 simp only [Bool.and_eq_true,beq_iff_eq] at hc
 obtain ⟨⟨⟨⟨h1,h2⟩,rfl⟩,h3⟩,h4⟩ := hc
 split at h2
 case h_2 => cases h2
 rename_i zv hz
 have rz : Rep im io z zv := xMg h2
 have r1 := xAt h3 hF
 have r2 := xAt h4 hF
 obtain ⟨d,hd⟩ := xF6 h1
 split at h
 case isFalse => cases h
 rename_i hf
 split at h
 ·cases h
 rename_i es he
 have hzr := xDl (w := w) hz
 have tup2 : ∀ {p : AV} {q : Value} {b : Bool},Rep im io p q → Rep im io (.tup [p,.bool b]) (.tuple #[q,.bool b]) := fun hp => by
  rename_i p q b
  have := Rep.tup (im := im) (io := io) (cs := [p,.bool b]) (vs := [q,.bool b]) rfl (Reps.cons hp (Reps.cons .bool .nil)).2
  exact this
 have fin : ∀ {y : Value},(Instr.lookup t (a.eval x') (a.eval k') c').run P w = .ok y w → Rep im io v y → H' = H → Good chk P o a im io w v H' := by
  intro y hrun hr e
  subst e
  exact .same hs (by simp [execOp,ho,hrun]) hr
 have body : ∀ (m : Array MapEntry),xG2 im io es m → (∀ {y : Value},(do
   Instr.checkKey m.isEmpty 10000 kt (a.eval k')
   let (v,ok) ← match ← Instr.findKey kt (a.eval k') m.toList with
    | some (_,v) => pure (v,true)
    | none => pure (← zeroValue et,false)
   pure (if c' then .tuple #[v,.bool ok] else v) : Sem Value).run P w = .ok y w → (Instr.lookup t (a.eval x') (a.eval k') c').run P w = .ok y w) → Good chk P o a im io w v H' := by
  intro m hm hrun
  rcases hfa : xTS (opv F k) es with _ | r
  ·rw [hfa] at h; cases h
  ·rw [hfa] at h
   rcases xJ6 hfa with ⟨j,e,p1,p2,p3,rfl⟩ | ⟨p1,rfl⟩
   ·obtain ⟨y,q1,q2,q3,q4⟩ := xIc (w := w) h1 hf r2 hm p1 p2 p3
    simp only [Option.some.injEq,Prod.mk.injEq] at h
    obtain ⟨rfl,rfl⟩ := h
    refine fin (hrun (y := if c' then .tuple #[y.val,.bool true] else y.val) ?_) ?_ rfl
    ·simp [Result.andThen,xD3 (w := w) h1 hf r2,q4]
    ·cases c' with
     | true => exact tup2 q2
     | false => exact q2
   ·have q4 := xGM (w := w) h1 hf r2 hm p1
    simp only [Option.some.injEq,Prod.mk.injEq] at h
    obtain ⟨rfl,rfl⟩ := h
    refine fin (hrun (y := if c' then .tuple #[zv,.bool false] else zv) ?_) ?_ rfl
    ·simp [Result.andThen,xD3 (w := w) h1 hf r2,q4,hzr]
    ·cases c' with
     | true => exact tup2 rz
     | false => exact rz
 rcases xU0 hs he r1 with ⟨hy,rfl⟩ | ⟨b,m,clk,hy,hb,hm⟩
 ·refine body #[] ⟨rfl,fun i e h => by simp at h⟩ (fun {y} hrun => ?_)
  simp only [Instr.lookup,hy,Sem.run_bind,run_underlying hu,Result.andThen,Sem.run_pure] at hrun ⊢
  exact hrun
 ·refine body m hm (fun {y} hrun => ?_)
  simp only [Instr.lookup,hy,Sem.run_bind,run_underlying hu,Result.andThen,Sem.run_pure,MapKept.run_getObj_map hb] at hrun ⊢
  exact hrun
theorem xFH {m : Array MapEntry} {clk j : Nat} {f : MapEntry → MapEntry} (h1 : clk = m.size) (h2 : ∀ (i : Nat) x,m[i]? = some x → x.born = i) (hf : ∀ e,(f e).born = e.born) :
  clk = (m.modify j f).size ∧ ∀ (i : Nat) x,(m.modify j f)[i]? = some x → x.born = i := by
 refine ⟨by simp [h1],fun i x hx => ?_⟩
 rw [Array.getElem?_modify] at hx
 split at hx
 ·rename_i e
  cases hm : m[i]? with
  | none => rw [hm] at hx; cases hx
  | some y =>
   rw [hm] at hx
   cases hx
   rw [hf]
   exact h2 i y hm
 ·exact h2 i x hx
theorem xM9 {m : Array MapEntry} {clk : Nat} {k v : Value} (h1 : clk = m.size) (h2 : ∀ (i : Nat) x,m[i]? = some x → x.born = i) :
  clk + 1 = (m.push { key := k,val := v,born := clk }).size ∧ ∀ (i : Nat) x,(m.push { key := k,val := v,born := clk })[i]? = some x → x.born = i := by
 refine ⟨by simp [h1],fun i x hx => ?_⟩
 rw [Array.getElem?_push] at hx
 split at hx
 ·rename_i e
  cases hx
  simp; omega
 ·exact h2 i x hx
theorem xKb {k z : AV} : ∀ {es : List (AV × AV)} {i0 : Nat} {r : AV × Nat × List (AV × AV)},xUV k z es i0 = some r →
  (∃ j e,es[j]? = some e ∧ xC3 k e.1 = some true ∧ (∀ (i : Nat) e',i < j → es[i]? = some e' → xC3 k e'.1 = some false) ∧ r = (e.2,i0 + j,es.set j (k,e.2))) ∨
  ((∀ (i : Nat) e',es[i]? = some e' → xC3 k e'.1 = some false) ∧ r = (z,i0 + es.length,es ++ [(k,z)]))
 | [],i0,r,h => by
  cases h
  exact .inr ⟨fun i e' h => by simp at h,rfl⟩
 | (k',v') :: es,i0,r,h => by
  simp only [xUV] at h
  split at h
  ·rename_i q
   cases h
   exact .inl ⟨0,(k',v'),rfl,q,fun i e' h => by omega,rfl⟩
  ·rename_i q
   simp only [Option.map_eq_some_iff] at h
   obtain ⟨r1,h,rfl⟩ := h
   have tl : ∀ (i : Nat) e',((k',v') :: es)[i]? = some e' → (i = 0 ∧ e' = (k',v')) ∨ ∃ i',i = i' + 1 ∧ es[i']? = some e' := by
    intro i e' h
    cases i with
    | zero => simp at h; exact .inl ⟨rfl,h.symm⟩
    | succ i => simp at h; exact .inr ⟨i,rfl,h⟩
   rcases xKb h with ⟨j,e,h1,h2,h3,rfl⟩ | ⟨h1,rfl⟩
   ·refine .inl ⟨j + 1,e,by simpa using h1,h2,fun i e' hi he => ?_,?_⟩
    ·rcases tl i e' he with ⟨_,rfl⟩ | ⟨i',rfl,h5⟩
     ·exact q
     ·exact h3 i' e' (by omega) h5
    ·simp; omega
   ·refine .inr ⟨fun i e' he => ?_,?_⟩
    ·rcases tl i e' he with ⟨_,rfl⟩ | ⟨i',rfl,h5⟩
     ·exact q
     ·exact h1 i' e' h5
    ·simp; omega
  ·cases h
theorem xU1 {ks : List Nat} {z : AV} {m k : Arg} (hc : xA3 P o (.ment ks z m k) = true) (hs : Sim chk im io H w) (hF : FRep im io F a) (h : xAg R F H (.ment ks z m k) = some (v,H')) : Good chk P o a im io w v H' := by
 simp only [xA3] at hc
 simp only [xAg] at h
 split at hc
 case h_2 => cases hc
 rename_i t m' k' ho
 split at hc
 case h_2 => cases hc
 rename_i kt et hu
 simp only [Bool.and_eq_true] at hc
 obtain ⟨⟨⟨h1,h2⟩,h3⟩,h4⟩ := hc
 split at h2
 case h_2 => cases h2
 rename_i zv hz
 have rz : Rep im io z zv := xMg h2
 have hzr := xDl (w := w) hz
 have r1 := xAt h3 hF
 have r2 := xAt h4 hF
 split at h
 case isFalse => cases h
 rename_i hf
 split at h
 case h_2 => cases h
 rename_i id e1
 split at h
 case h_2 => cases h
 rename_i es hH
 simp only [Option.map_eq_some_iff,Prod.mk.injEq] at h
 obtain ⟨r,hup,rfl,rfl⟩ := h
 rw [e1] at r1
 generalize hv : a.eval m' = cv at r1
 have tup2 : ∀ {p : AV} {q : Value} {n : Nat},Rep im io p q → Rep im io (.tup [p,.int .i64 (n : Nat)]) (.tuple #[q,goInt (n : Nat)]) := fun hp => by
  rename_i p q n
  have := Rep.tup (im := im) (io := io) (cs := [p,.int .i64 (n : Nat)]) (vs := [q,goInt (n : Nat)]) rfl (Reps.cons hp (Reps.cons .int .nil)).2
  exact this
 cases r1 with
 | mp hio =>
  rename_i b
  obtain ⟨b',m0,clk,g1,g2,g3,g4,g5,g6,g7⟩ := hs.blk id _ hH
  rw [hio] at g1; cases g1
  have hm : xG2 im io es m0 := ⟨g4,g5⟩
  have fin : ∀ {m1 : Array MapEntry} {c1 : Nat} {es' : List (AV × AV)} {u : AV} {y : Value},(c1 = m1.size ∧ ∀ (i : Nat) x,m1[i]? = some x → x.born = i) → (Instr.mapEntry t (.map (some b)) (a.eval k')).run P w = .ok y (w.putObj b (.map m1 c1)) → xG2 im io es' m1 → Rep im io u y → Good chk P o a im io w u (H.set id (.mp es')) := by
   intro m1 c1 es' u y hb6 hrun hm1 hr
   obtain ⟨s1,s2⟩ := xUZ hs hH hio (m' := m1) (clk := c1) hm1.1 hm1.2 hb6
   exact ⟨im,io,_,y,.inl (by simp [execOp,ho,hv,hrun]),s2,s1,hr⟩
  have hput : ∀ o',{ w with heap := w.heap.setIfInBounds b o' } = w.putObj b o' := fun o' => rfl
  rcases xKb hup with ⟨j,e,p1,p2,p3,rfl⟩ | ⟨p1,rfl⟩
  ·obtain ⟨y,q1,q2,q3,q4⟩ := xIc (w := w) h1 hf r2 hm p1 p2 p3
   have hky : ((m0[j]?).map (·.key)).getD (a.eval k') = a.eval k' := by rw [q1]; exact q3
   have hbn : ((m0[j]?).map (·.born)).getD 0 = j := by rw [q1]; exact g7 j y q1
   have hkk := xG3 (w := w) h1 hf r2
   refine fin (m1 := m0.modify j fun e => { e with key := a.eval k' }) (c1 := clk) (y := .tuple #[y.val,goInt (j : Nat)]) (xFH g6 g7 fun _ => rfl) ?_ ⟨by simp [g4],fun i e' he => ?_⟩ (by simpa using tup2 (n := j) q2)
   ·simp [Instr.mapEntry,run_underlying hu,MapKept.run_getObj_map g3,xD3 (w := w) h1 hf r2,q4,hky,hbn,hkk,MapKept.run_setObj_map _ g3,Result.andThen,hput]
    rw [q1]
    show goInt (y.born : Int) = _
    rw [g7 j y q1]
   ·rw [List.getElem?_set] at he
    rw [Array.getElem?_modify]
    split at he
    ·rename_i e0
     subst e0
     split at he
     ·cases he
      rw [if_pos rfl,q1]
      exact ⟨_,rfl,r2,q2⟩
     ·cases he
    ·rename_i e0
     rw [if_neg e0]
     exact g5 i e' he
  ·have q4 := xGM (w := w) h1 hf r2 hm p1
   refine fin (m1 := m0.push { key := a.eval k',val := zv,born := clk }) (c1 := clk + 1) (y := .tuple #[zv,goInt (clk : Nat)]) (xM9 g6 g7) ?_ ⟨by simp [g4],fun i e' he => ?_⟩ (by rw [g6,g4]; simpa using tup2 (n := es.length) rz)
   ·simp [Instr.mapEntry,run_underlying hu,MapKept.run_getObj_map g3,xD3 (w := w) h1 hf r2,q4,hzr,MapKept.run_setObj_map _ g3,Result.andThen,hput]
   ·rw [Array.getElem?_push]
    by_cases e0 : i < es.length
    ·rw [List.getElem?_append_left e0] at he
     rw [if_neg (by omega)]
     exact g5 i e' he
    ·have e1 : i = es.length := by
      have := (List.getElem?_eq_some_iff.1 he).1
      simp at this; omega
     subst e1
     simp at he
     subst he
     rw [if_pos g4.symm]
     exact ⟨_,rfl,r2,rz⟩
theorem xQB {m s x : Arg} (hc : xA3 P o (.mstore m s x) = true) (hs : Sim chk im io H w) (hF : FRep im io F a) (h : xAg R F H (.mstore m s x) = some (v,H')) : Good chk P o a im io w v H' := by
 simp only [xA3] at hc
 simp only [xAg] at h
 split at hc
 case h_2 => cases hc
 rename_i t m' s' x' ho
 simp only [Bool.and_eq_true] at hc
 obtain ⟨⟨h2,h3⟩,h4⟩ := hc
 have r1 := xAt h2 hF
 have r2 := xAt h3 hF
 have r3 := xAt h4 hF
 split at h
 case h_2 => cases h
 rename_i id n e1 e2
 split at h
 case h_2 => cases h
 rename_i es hH
 split at h
 case isFalse => cases h
 rename_i hn
 simp only [Option.map_eq_some_iff,Prod.mk.injEq] at h
 obtain ⟨e,he,rfl,rfl⟩ := h
 rw [e1] at r1
 rw [e2] at r2
 generalize hv : a.eval m' = cv at r1
 generalize hv2 : a.eval s' = cv2 at r2
 cases r2
 cases r1 with
 | mp hio =>
  rename_i b
  obtain ⟨b',m0,clk,g1,g2,g3,g4,g5,g6,g7⟩ := hs.blk id _ hH
  rw [hio] at g1; cases g1
  obtain ⟨j,rfl⟩ : ∃ j : Nat,n = (j : Nat) := ⟨n.toNat,by omega⟩
  rw [Int.toNat_natCast] at he
  obtain ⟨y,q1,q2,q3⟩ := g5 j e he
  have hjm : j < m0.size := (Array.getElem?_eq_some_iff.1 q1).1
  have hfi : m0.findIdx? (fun e => (e.born : Int) == (j : Int)) = some j := by
   rw [Array.findIdx?_eq_some_iff_getElem]
   refine ⟨hjm,?_,fun i hi => ?_⟩
   ·have := g7 j _ (Array.getElem?_eq_getElem hjm)
    simp [this]
   ·have := g7 i _ (Array.getElem?_eq_getElem (by omega))
    simp [this]; omega
  obtain ⟨s1,s2⟩ := xUZ hs hH hio (es' := es.set j (e.1,opv F x)) (m' := m0.modify j fun e => { e with val := a.eval x' }) (clk := clk) (by simp [g4]) (fun i e' he' => by
   rw [List.getElem?_set] at he'
   rw [Array.getElem?_modify]
   split at he'
   ·rename_i e0
    subst e0
    split at he'
    ·cases he'
     rw [if_pos rfl,q1]
     exact ⟨_,rfl,q2,r3⟩
    ·cases he'
   ·rename_i e0
    rw [if_neg e0]
    exact g5 i e' he') (xFH g6 g7 fun _ => rfl)
  have hput : ∀ o',{ w with heap := w.heap.setIfInBounds b o' } = w.putObj b o' := fun o' => rfl
  rw [Int.toNat_natCast]
  exact ⟨im,io,_,undef,.inr ⟨by simp [execOp,ho,hv,hv2,Instr.entryStore,MapKept.run_getObj_map g3,asInt,asIntOf,hfi,MapKept.run_setObj_map _ g3,Result.andThen,hput],rfl⟩,s2,s1,.tup (vs := []) rfl (fun i c v h => by simp at h)⟩
theorem xU2 {ks : List Nat} {m k x : Arg} (hc : xA3 P o (.mupd ks m k x) = true) (hs : Sim chk im io H w) (hF : FRep im io F a) (h : xAg R F H (.mupd ks m k x) = some (v,H')) : Good chk P o a im io w v H' := by
 obtain ⟨t,m',k',x',ho,hc⟩ : ∃ t m' k' x',(o.op = .mapUpdate t m' k' x' ∨ o.op = .insert t m' k' x') ∧ (match P.underlying t with
   | some (.map kt _) => xTO P kt ks && xA2 m' m && xA2 k' k && xA2 x' x
   | _ => false) = true := by
  simp only [xA3] at hc
  split at hc
  ·rename_i t m' k' x' ho
   exact ⟨t,m',k',x',.inl ho,hc⟩
  ·rename_i t m' k' x' ho
   exact ⟨t,m',k',x',.inr ho,hc⟩
  ·cases hc
 simp only [xAg] at h
 split at hc
 case h_2 => cases hc
 rename_i kt et hu
 simp only [Bool.and_eq_true] at hc
 obtain ⟨⟨⟨h1,h2⟩,h3⟩,h4⟩ := hc
 have r1 := xAt h2 hF
 have r2 := xAt h3 hF
 have r3 := xAt h4 hF
 obtain ⟨d,hd⟩ := xF6 h1
 split at h
 case isFalse => cases h
 rename_i hf
 split at h
 case h_2 => cases h
 rename_i id e1
 split at h
 case h_2 => cases h
 rename_i es hH
 simp only [Option.map_eq_some_iff,Prod.mk.injEq] at h
 obtain ⟨es',hup,rfl,rfl⟩ := h
 rw [e1] at r1
 generalize hv : a.eval m' = cv at r1
 cases r1 with
 | mp hio =>
  rename_i b
  obtain ⟨b',m0,clk,g1,g2,g3,g4,g5,g6,g7⟩ := hs.blk id _ hH
  rw [hio] at g1; cases g1
  have hm : xG2 im io es m0 := ⟨g4,g5⟩
  have fin : ∀ {m1 : Array MapEntry} {c1 : Nat},(c1 = m1.size ∧ ∀ (i : Nat) x,m1[i]? = some x → x.born = i) → (Instr.mapUpdate t (.map (some b)) (a.eval k') (a.eval x')).run P w = .ok () (w.putObj b (.map m1 c1)) → xG2 im io es' m1 → Good chk P o a im io w (.tup []) (H.set id (.mp es')) := by
   intro m1 c1 hb6 hrun hm1
   obtain ⟨s1,s2⟩ := xUZ hs hH hio (m' := m1) (clk := c1) hm1.1 hm1.2 hb6
   exact ⟨im,io,_,undef,.inr ⟨by rcases ho with ho | ho <;> simp [execOp,ho,hv,hrun],rfl⟩,s2,s1,.tup (vs := []) rfl (fun i c v h => by simp at h)⟩
  have hput : ∀ o',{ w with heap := w.heap.setIfInBounds b o' } = w.putObj b o' := fun o' => rfl
  rcases xM5 hup with ⟨j,e,p1,p2,p3,rfl⟩ | ⟨p1,rfl⟩
  ·obtain ⟨y,q1,q2,q3,q4⟩ := xIc (w := w) h1 hf r2 hm p1 p2 p3
   have hky : ((m0[j]?).map (·.key)).getD (a.eval k') = a.eval k' := by rw [q1]; exact q3
   have hkk := xG3 (w := w) h1 hf r2
   refine fin (m1 := m0.modify j fun e => { e with key := a.eval k',val := a.eval x' }) (c1 := clk) (xFH g6 g7 fun _ => rfl) ?_ ⟨by simp [g4],fun i e' he => ?_⟩
   ·simp [Instr.mapUpdate,run_underlying hu,MapKept.run_getObj_map g3,xD3 (w := w) h1 hf r2,q4,hky,hkk,MapKept.run_setObj_map _ g3,Result.andThen,hput]
   ·rw [List.getElem?_set] at he
    rw [Array.getElem?_modify]
    split at he
    ·rename_i e0
     subst e0
     split at he
     ·cases he
      rw [if_pos rfl,q1]
      exact ⟨_,rfl,r2,r3⟩
     ·cases he
    ·rename_i e0
     rw [if_neg e0]
     exact g5 i e' he
  ·have q4 := xGM (w := w) h1 hf r2 hm p1
   refine fin (m1 := m0.push { key := a.eval k',val := a.eval x',born := clk }) (c1 := clk + 1) (xM9 g6 g7) ?_ ⟨by simp [g4],fun i e' he => ?_⟩
   ·simp [Instr.mapUpdate,run_underlying hu,MapKept.run_getObj_map g3,xD3 (w := w) h1 hf r2,q4,MapKept.run_setObj_map _ g3,Result.andThen,hput]
   ·rw [Array.getElem?_push]
    by_cases e0 : i < es.length
    ·rw [List.getElem?_append_left e0] at he
     rw [if_neg (by omega)]
     exact g5 i e' he
    ·have e1 : i = es.length := by
      have := (List.getElem?_eq_some_iff.1 he).1
      simp at this; omega
     subst e1
     simp at he
     subst he
     rw [if_pos g4.symm]
     exact ⟨_,rfl,r2,r3⟩
theorem xU3 {x : Arg} (hc : xA3 P o (.mlen x) = true) (hs : Sim chk im io H w) (hF : FRep im io F a) (h : xAg R F H (.mlen x) = some (v,H')) : Good chk P o a im io w v H' := by
 simp only [xA3] at hc
 simp only [xAg] at h
 split at hc
 case h_2 => cases hc
 rename_i xs ts ho
 split at hc
 case h_2 => cases hc
 rename_i x' t hxs hts
 split at hc
 case h_2 => cases hc
 rename_i kt et hu
 have r1 := xAt hc hF
 simp only [Option.map_eq_some_iff,Prod.mk.injEq] at h
 obtain ⟨es,he,rfl,rfl⟩ := h
 have hx : xs = #[x'] := by rw [← Array.toList_inj]; simpa using hxs
 have ht : ts[0]? = some t := by rw [← Array.getElem?_toList,hts]; rfl
 subst hx
 rcases xU0 hs he r1 with ⟨hy,rfl⟩ | ⟨b,m,clk,hy,hb,hm⟩
 ·refine .same hs (x := .int .i64 0) ?_ .int
  simp [execOp,ho,resolve,invoke,builtin,Builtin.len_,ht,hy,run_underlying hu,goInt]
 ·refine .same hs (x := .int .i64 (es.length : Nat)) ?_ .int
  simp [execOp,ho,resolve,invoke,builtin,Builtin.len_,ht,hy,run_underlying hu,goInt,MapKept.run_getObj_map hb,Result.andThen,hm.1]
theorem xU4 {neg : Bool} {x : Arg} (hc : xA3 P o (.mnil neg x) = true) (hs : Sim chk im io H w) (hF : FRep im io F a) (h : xAg R F H (.mnil neg x) = some (v,H')) : Good chk P o a im io w v H' := by
 simp only [xA3] at hc
 simp only [xAg] at h
 split at hc
 case h_2 => cases hc
 rename_i op' t x' yt ho
 simp only [Bool.and_eq_true,beq_iff_eq] at hc
 obtain ⟨⟨hop,h2⟩,hu⟩ := hc
 split at hu
 case h_2 => cases hu
 rename_i kt et hu'
 have r1 := xAt h2 hF
 have run : ∀ (r : Option Nat),a.eval x' = .map r → (execOp a.eval o).run P w = .ok (.value (.bool (r.isNone != neg))) w := fun r hv => by
  have hz : a.eval (.const (.map none)) = .map none := rfl
  cases neg <;> simp only [if_true,Bool.false_eq_true,if_false] at hop <;> subst hop <;> cases r <;>
   simp [execOp,ho,hv,hz,eqGuard,binOp,Go.run_equal_map_nil w t kt et _ hu']
 split at h
 ·rename_i e1
  cases h
  rw [e1] at r1
  generalize hv : a.eval x' = cv at r1 run
  cases r1
  exact .same hs (run _ rfl) .bool
 ·rename_i id e1
  cases h
  rw [e1] at r1
  generalize hv : a.eval x' = cv at r1 run
  cases r1
  exact .same hs (run _ rfl) .bool
 ·cases h
theorem xU5 {neg : Bool} {x : Arg} (hc : xA3 P o (.pnil neg x) = true) (hs : Sim chk im io H w) (hF : FRep im io F a) (h : xAg R F H (.pnil neg x) = some (v,H')) : Good chk P o a im io w v H' := by
 simp only [xA3] at hc
 simp only [xAg] at h
 split at hc
 case h_2 => cases hc
 rename_i op' t x' yt ho
 simp only [Bool.and_eq_true,beq_iff_eq] at hc
 obtain ⟨⟨hop,h2⟩,hu⟩ := hc
 split at hu
 case h_2 => cases hu
 rename_i et hu'
 have hu := beq_iff_eq.mp hu
 subst hu
 have r1 := xAt h2 hF
 have run : ∀ (r : Option Addr),a.eval x' = .pointer r → (execOp a.eval o).run P w = .ok (.value (.bool (r.isNone != neg))) w := fun r hv => by
  have hz : a.eval (.const (.pointer none)) = .pointer none := rfl
  cases neg <;> simp only [if_true,Bool.false_eq_true,if_false] at hop <;> subst hop <;> cases r <;>
   simp [execOp,ho,hv,hz,eqGuard,binOp,Go.run_equal_pointer_nil w t _ hu']
 split at h
 ·rename_i e1
  cases h
  rw [e1] at r1
  generalize hv : a.eval x' = cv at r1 run
  cases r1
  exact .same hs (run _ rfl) .bool
 ·rename_i e1
  cases h
  rw [e1] at r1
  generalize hv : a.eval x' = cv at r1 run
  cases r1
  exact .same hs (run _ rfl) .bool
 ·cases h
theorem xU6 {x y : Arg} (hc : xA3 P o (.sadd x y) = true) (hs : Sim chk im io H w) (hF : FRep im io F a) (h : xAg R F H (.sadd x y) = some (v,H')) : Good chk P o a im io w v H' := by
 simp only [xA3] at hc
 simp only [xAg] at h
 split at hc
 case h_2 => cases hc
 rename_i op t x' y' yt ho
 simp only [Bool.and_eq_true,beq_iff_eq] at hc
 obtain ⟨⟨⟨rfl,hu⟩,h1⟩,h2⟩ := hc
 have r1 := xAt h1 hF
 have r2 := xAt h2 hF
 split at h
 case h_2 => cases h
 rename_i s t' e1 e2
 split at h
 case isFalse => cases h
 rename_i hsz
 cases h
 rw [e1] at r1
 rw [e2] at r2
 generalize hv1 : a.eval x' = c1 at r1
 generalize hv2 : a.eval y' = c2 at r2
 cases r1
 cases r2
 have hst : s ++ t' = ⟨⟨s.data.toList ++ t'.data.toList⟩⟩ := by
  obtain ⟨⟨x⟩⟩ := s
  obtain ⟨⟨y⟩⟩ := t'
  ext1
  simp
 have hmx : ¬ (IntKind.i64.max < ((s.size + t'.size : Nat) : Int)) := by
  have : IntKind.i64.max = 9223372036854775807 := by decide
  omega
 refine .same hs (x := .string (s ++ t')) ?_ (by rw [← hst]; exact .str)
 simp [execOp,ho,hv1,hv2,eqGuard,binOp,Op.stringOp]
 omega
theorem xId : ∀ {cs : List AV} {vs : List Value} {bs : List UInt8},xUW cs = some bs → Reps im io cs vs → ∃ ns : List Int,vs = ns.map (Value.int .u8 ·) ∧ bs = ns.map fun n => UInt8.ofNat n.toNat
 | [],vs,bs,h,hr => by
  cases h
  obtain rfl : vs = [] := List.length_eq_zero_iff.1 hr.1
  exact ⟨[],rfl,rfl⟩
 | c :: cs,vs,bs,h,hr => by
  unfold xUW at h
  split at h
  ·rename_i e; cases e
  ·rename_i n cs' e
   cases e
   simp only [Option.map_eq_some_iff] at h
   obtain ⟨bs',h,rfl⟩ := h
   match vs,hr with
   | [],hr => have := hr.1; simp at this
   | v :: vs,hr =>
    have r0 := hr.2 0 _ v rfl rfl
    cases r0
    obtain ⟨ns,rfl,rfl⟩ := xId h ⟨by simpa using hr.1,fun i c u h1 h2 => hr.2 (i + 1) c u h1 h2⟩
    exact ⟨n :: ns,rfl,rfl⟩
  ·cases h
theorem xKc : ∀ (ns : List Int) (s : ByteArray),ns.foldl (fun r n => r.push (UInt8.ofNat n.toNat)) s = ⟨⟨s.data.toList ++ ns.map fun n => UInt8.ofNat n.toNat⟩⟩
 | [],s => by
  obtain ⟨⟨x⟩⟩ := s
  simp
 | n :: ns,s => by
  rw [List.foldl_cons,xKc ns]
  obtain ⟨⟨x⟩⟩ := s
  simp [ByteArray.push]
theorem xU7 {x : Arg} (hc : xA3 P o (.bstr x) = true) (hs : Sim chk im io H w) (hF : FRep im io F a) (h : xAg R F H (.bstr x) = some (v,H')) : Good chk P o a im io w v H' := by
 simp only [xA3] at hc
 simp only [xAg] at h
 split at hc
 case h_2 => cases hc
 rename_i s t y ho
 split at hc
 case h_2 => cases hc
 rename_i e hu1 hu2
 split at hc
 case h_2 => cases hc
 rename_i hu3
 have r1 := xAt hc hF
 split at h
 case h_2 => cases h
 rename_i n cs hsrc
 simp only [Option.map_eq_some_iff,Prod.mk.injEq] at h
 obtain ⟨bs,hb,rfl,rfl⟩ := h
 obtain ⟨ad,cap,vs,hvy,hl,hr,hk,hlies,hn0⟩ := xH5 hs hsrc r1
 obtain ⟨ns,rfl,rfl⟩ := xId hb hr
 cases ad with
 | none =>
  obtain rfl := hn0 rfl
  have : ns = [] := by simpa using hl
  subst this
  refine .same hs (x := .string .empty) ?_ .str
  simp [execOp,ho,hvy,convert,run_underlying hu1,run_underlying hu2,run_underlying hu3,Result.andThen,Conv.bytesToString]
 | some ad =>
  refine .same hs (x := .string ⟨⟨ns.map fun n => UInt8.ofNat n.toNat⟩⟩) ?_ .str
  have hload : (loadCells ad n).run P w = .ok (ns.map (Value.int .u8 ·)).toArray w := by
   rcases hlies with e0 | ⟨b,off,e0,hlies⟩
   ·have : ns = [] := by simpa using e0
    subst this
    obtain rfl : n = 0 := by simpa using hl.symm
    rfl
   ·cases e0
    have := xDF (P := P) hlies
    rw [hl,Nat.mul_one] at this
    exact this
  have hb := run_bytesToString (P := P) w ad n cap ns hload
  rw [xKc] at hb
  have hcv := run_convert_bytes_string (P := P) w s t e (some ad) n cap hu1 hu3 hu2
  rw [hb] at hcv
  simp [execOp,ho,hvy,hcv,Result.andThen]
theorem xNa (w : World) (e : TypeId) (s : ByteArray) : Pushed w (Lib.bytesWorld w e s) (.cells (Lib.bytesCells w e s) e ((Lib.bytesCells w e s).size,(Lib.bytesCells w e s).size + 1)) := by
 refine ⟨rfl,rfl,rfl,?_⟩
 apply Array.ext_getElem?
 intro i
 rw [Array.getElem?_push]
 split
 ·rename_i e0
  subst e0
  exact Lib.bytesWorld_at_new w e s
 ·rename_i e0
  by_cases h : i < w.heap.size
  ·exact Lib.bytesWorld_at_old w e s i h
  ·rw [Array.getElem?_eq_none (show (Lib.bytesWorld w e s).heap.size ≤ i by rw [Lib.bytesWorld_size]; omega),Array.getElem?_eq_none (by omega)]
theorem xQC {fz : Bool} {x : Arg} (hc : xA3 P o (.sbytes fz x) = true) (hs : Sim chk im io H w) (hF : FRep im io F a) (h : xAg R F H (.sbytes fz x) = some (v,H')) : Good chk P o a im io w v H' := by
 simp only [xA3] at hc
 simp only [xAg] at h
 split at hc
 case h_2 => cases hc
 rename_i s t y ho
 split at hc
 case h_2 => cases hc
 rename_i e hu1 hu2
 split at hc
 case h_2 => cases hc
 rename_i hu3
 have r1 := xAt hc hF
 split at h
 case h_2 => cases h
 rename_i s0 e1
 rw [e1] at r1
 generalize hv : a.eval y = cv at r1
 cases r1
 have hge : s0.size ≤ grownCap w s0.size 0 e := grownCap_ge w s0.size 0 e
 have hsize : (Lib.bytesCells w e s0).size = grownCap w s0.size 0 e := by
  simp only [Lib.bytesCells,Array.size_append,Array.size_map,Array.size_replicate]
  show s0.size + _ = _
  omega
 have hrun := Lib.run_convert_string_bytes (P := P) w s t e s0 hu1 hu2 hu3
 have hr : Reps im io (xDp s0) (s0.data.toList.map fun b => Value.int .u8 b.toNat) := by
  refine ⟨by simp [xDp],fun i c u h1 h2 => ?_⟩
  simp only [xDp,List.getElem?_map,Option.map_eq_some_iff] at h1 h2
  obtain ⟨b1,g1,rfl⟩ := h1
  obtain ⟨b2,g2,rfl⟩ := h2
  rw [g1] at g2; cases g2
  exact .int
 obtain ⟨im',io',s1,s2,s3⟩ := xH2 (cap := grownCap w s0.size 0 e) hs (xNa w e s0) (.inr (Nat.le_refl _)) rfl hr
  (fun c hcm => by simp only [xDp,List.mem_map] at hcm; obtain ⟨b,_,rfl⟩ := hcm; rfl)
  (fun i u hu => by
   have hlt := (List.getElem?_eq_some_iff.1 hu).1
   have hlt' : i < s0.data.size := by simpa using hlt
   simp only [Lib.bytesCells]
   rw [Array.getElem?_append_left (by simpa using hlt')]
   simp at hu ⊢
   exact hu) hge (by rw [hsize]; omega) h
 exact ⟨im',io',_,_,.inl (by simp [execOp,ho,hv,hrun,Result.andThen]),s1,s2,s3⟩
end
end Go.Abs
