/- Maps; strings and rows of bytes. -/
import Derived.Test.YtdheandekcpieaaGreatDoorAbsOp7
import Derived.MapKept
import Derived.ChangeKeysEq
import Derived.WideKeyRuns
import Derived.Laws.BytesString
import Derived.Lib.ConvBytes
namespace Go.Abs
set_option linter.unusedVariables false
set_option linter.unusedSimpArgs false
open Go.RowKit Go.MapKept
section
variable {chk : Code → ACode → Bool} {P : Program} {o : Oper} {a : Act} {im : Im} {io : Io} {H H' : Heap} {w : World} {F : List AV} {R : Rec} {v : AV}
theorem putObj_size' (b : Nat) (o : Obj) : (w.putObj b o).heap.size = w.heap.size := by simp [World.putObj]
theorem xVY (h : Sim chk im io H w) :
  Sim chk im (upd io H.length (w.heap.size,0)) (H ++ [.mp []]) (w.alloc (.map #[] 0)) ∧ Step im io w im (upd io H.length (w.heap.size,0)) (w.alloc (.map #[] 0)) := by
 have hpz := Pushed.alloc w (.map #[] 0)
 have hn : io H.length = none := h.fresh _ (Nat.le_refl _)
 have hle : IoLe io (upd io H.length (w.heap.size,0)) := fun i x hi => by
  rw [xAx]
  ·exact hi
  ·rintro rfl; rw [hn] at hi; cases hi
 have hown : ∀ b,Own (upd io H.length (w.heap.size,0)) b → Own io b ∨ b = w.heap.size := fun b ⟨id,sz,hi⟩ => by
  by_cases e : id = H.length
  ·subst e; rw [xAE] at hi; cases hi; exact .inr rfl
  ·rw [xAx _ _ e] at hi; exact .inl ⟨id,sz,hi⟩
 have him : im w.heap.size = none := by
  cases e : im w.heap.size with
  | none => rfl
  | some o' => have := (Array.getElem?_eq_some_iff.1 (h.imw _ _ e)).1; omega
 refine ⟨⟨fun id hid => ?_,fun id b hH => ?_,fun i j bi bj b si sj hi hj li lj hbi hbj => ?_,fun b o' hb => ?_,fun b ho => ?_,h.glob⟩,
  ⟨.refl _,hle,hpz.os,hpz.tape,hpz.output,by rw [hpz.size]; omega,fun b hb _ => hpz.old hb,fun b hb => ?_,fun _ _ h => .inl h⟩⟩
 ·simp at hid
  rw [xAx _ _ (by omega)]; exact h.fresh id (by omega)
 ·by_cases e : id < H.length
  ·rw [List.getElem?_append_left e] at hH
   exact (h.blk id b hH).mono (.refl _) hle (fun e' => by rw [xAx _ _ (by omega)]; exact e') (fun b sz hio _ => ⟨hpz.old (h.inb b ⟨id,sz,hio⟩),fun e => e⟩)
  ·have e' : id = H.length := by
    have := (List.getElem?_eq_some_iff.1 hH).1
    simp at this; omega
   subst e'
   simp at hH
   subst hH
   exact ⟨w.heap.size,#[],0,xAE _ _ _,him,hpz.new,rfl,fun i e he => by simp at he,rfl,fun i x hx => by simp at hx⟩
 ·have key : ∀ (k : Nat) (bk : Blk) (sk : Nat),(H ++ [Blk.mp []])[k]? = some bk → upd io H.length (w.heap.size,0) k = some (b,sk) → (k < H.length ∧ H[k]? = some bk ∧ io k = some (b,sk)) ∨ (k = H.length ∧ b = w.heap.size) := by
   intro k bk sk hk' hbk
   by_cases e : k < H.length
   ·rw [List.getElem?_append_left e] at hk'
    rw [xAx _ _ (by omega)] at hbk
    exact .inl ⟨e,hk',hbk⟩
   ·have e' : k = H.length := by
     have := (List.getElem?_eq_some_iff.1 hk').1
     simp at this; omega
    subst e'
    rw [xAE] at hbk; cases hbk
    exact .inr ⟨rfl,rfl⟩
  rcases key i bi si hi hbi with ⟨_,h1,h2⟩ | ⟨h1,h2⟩ <;> rcases key j bj sj hj hbj with ⟨_,g1,g2⟩ | ⟨g1,g2⟩
  ·exact h.inj i j bi bj b si sj h1 g1 li lj h2 g2
  ·have := h.inb b ⟨i,si,h2⟩; omega
  ·have := h.inb b ⟨j,sj,g2⟩; omega
  ·omega
 ·have := h.imw b o' hb
  rw [hpz.old (Array.getElem?_eq_some_iff.1 this).1]; exact this
 ·rw [hpz.size]
  rcases hown b ho with h1 | h1
  ·have := h.inb b h1; omega
  ·omega
 ·rcases hown b hb with h1 | h1
  ·exact .inl h1
  ·exact .inr (by omega)
theorem yA2 {l b sz : Nat} {es es' : List (AV × AV)} (h : Sim chk im io H w) (hH : H[l]? = some (.mp es)) (hio : io l = some (b,sz)) {m' : Array MapEntry} {clk : Nat}
  (hsz : m'.size = es'.length) (hr : ∀ (i : Nat) (e : AV × AV),es'[i]? = some e → ∃ x,m'[i]? = some x ∧ Rep im io e.1 x.key ∧ Rep im io e.2 x.val) (hb6 : clk = m'.size ∧ ∀ (i : Nat) x,m'[i]? = some x → x.born = i) :
  Sim chk im io (H.set l (.mp es')) (w.putObj b (.map m' clk)) ∧ Step im io w im io (w.putObj b (.map m' clk)) := by
 have hlt : l < H.length := (List.getElem?_eq_some_iff.1 hH).1
 obtain ⟨b',m,clk0,h1,h2,h3,h4,h5,_⟩ := h.blk l _ hH
 rw [hio] at h1; cases h1
 have hbl : b < w.heap.size := (Array.getElem?_eq_some_iff.1 h3).1
 refine ⟨⟨fun i hi => h.fresh i (by simpa using hi),fun i bi hi => ?_,fun i j bi bj b' si sj hi hj li lj hbi hbj => ?_,fun b' o' hb' => ?_,fun b' hb' => by rw [putObj_size']; exact h.inb b' hb',h.glob⟩,
  ⟨.refl _,.refl _,rfl,rfl,rfl,by rw [putObj_size']; exact Nat.le_refl _,fun b' _ hno => World.putObj_heap_other (by rintro rfl; exact hno ⟨l,_,hio⟩),fun _ h => .inl h,fun _ _ h => .inl h⟩⟩
 ·rw [List.getElem?_set] at hi
  split at hi
  ·rename_i e
   subst e
   cases hi
   exact ⟨b,m',clk,hio,h2,World.putObj_heap_same hbl,hsz,hr,hb6⟩
  ·rename_i e
   have hold := h.blk i bi hi
   refine hold.mono (.refl _) (.refl _) (fun e => e) (fun b' sz' hio' hnd => ⟨World.putObj_heap_other ?_,fun e => e⟩)
   rintro rfl
   cases bi with
   | dead => exact hnd rfl
   | mp es2 => exact e (h.inj l i _ _ _ _ _ hH hi rfl rfl hio hio')
   | loop st2 pend2 F2 ps2 asg2 body2 => exact e (h.inj l i _ _ _ _ _ hH hi rfl rfl hio hio')
   | cells fz' z' cs' =>
    cases fz' with
    | false => exact e (h.inj l i _ _ _ _ _ hH hi rfl rfl hio hio')
    | true =>
     obtain ⟨_,c2,t2,_,_,_,_,g3,_⟩ := xBy hold hio'
     rw [h2] at g3; cases g3
 ·have key : ∀ (k : Nat) (bk : Blk),(H.set l (.mp es'))[k]? = some bk → bk.live = true → ∃ bk' : Blk,H[k]? = some bk' ∧ bk'.live = true := by
   intro k bk hk' lk'
   rw [List.getElem?_set] at hk'
   split at hk'
   ·rename_i e; subst e; exact ⟨_,hH,rfl⟩
   ·exact ⟨bk,hk',lk'⟩
  obtain ⟨bi',e1,e2⟩ := key i bi hi li
  obtain ⟨bj',e3,e4⟩ := key j bj hj lj
  exact h.inj i j bi' bj' b' si sj e1 e3 e2 e4 hbi hbj
 ·have hne : b' ≠ b := by rintro rfl; rw [h2] at hb'; cases hb'
  rw [World.putObj_heap_other hne]; exact h.imw _ _ hb'
theorem xQO (hc : xAp P o .mkmap = true) (hs : Sim chk im io H w) (hF : FRep im io F a) (h : xAc R F H .mkmap = some (v,H')) : Good chk P o a im io w v H' := by
 simp only [xAp] at hc
 simp only [xAc] at h
 cases h
 split at hc
 case h_2 => cases hc
 rename_i t ho
 obtain ⟨s1,s2⟩ := xVY hs
 exact ⟨im,_,_,.map (some w.heap.size),.inl (by simp [execOp,ho,Instr.makeMap]),s2,s1,.mp (xAE _ _ _)⟩
theorem xIy {k : AV} : ∀ {es : List (AV × AV)} {r : Option AV},xIg k es = some r →
  (∃ j e,es[j]? = some e ∧ xCj k e.1 = some true ∧ (∀ (i : Nat) e',i < j → es[i]? = some e' → xCj k e'.1 = some false) ∧ r = some e.2) ∨
  ((∀ (i : Nat) e',es[i]? = some e' → xCj k e'.1 = some false) ∧ r = none)
 | [],r,h => by
  cases h
  exact .inr ⟨fun i e' h => by simp at h,rfl⟩
 | (k',v) :: es,r,h => by
  simp only [xIg] at h
  split at h
  ·rename_i q
   cases h
   exact .inl ⟨0,(k',v),rfl,q,fun i e' h => by omega,rfl⟩
  ·rename_i q
   have tl : ∀ (i : Nat) e',((k',v) :: es)[i]? = some e' → (i = 0 ∧ e' = (k',v)) ∨ ∃ i',i = i' + 1 ∧ es[i']? = some e' := by
    intro i e' h
    cases i with
    | zero => simp at h; exact .inl ⟨rfl,h.symm⟩
    | succ i => simp at h; exact .inr ⟨i,rfl,h⟩
   rcases xIy h with ⟨j,e,h1,h2,h3,h4⟩ | ⟨h1,h2⟩
   ·refine .inl ⟨j + 1,e,by simpa using h1,h2,fun i e' hi he => ?_,h4⟩
    rcases tl i e' he with ⟨_,rfl⟩ | ⟨i',rfl,h5⟩
    ·exact q
    ·exact h3 i' e' (by omega) h5
   ·refine .inr ⟨fun i e' he => ?_,h2⟩
    rcases tl i e' he with ⟨_,rfl⟩ | ⟨i',rfl,h5⟩
    ·exact q
    ·exact h1 i' e' h5
  ·cases h
theorem xLM {k v : AV} : ∀ {es es' : List (AV × AV)},xVU k v es = some es' →
  (∃ j e,es[j]? = some e ∧ xCj k e.1 = some true ∧ (∀ (i : Nat) e',i < j → es[i]? = some e' → xCj k e'.1 = some false) ∧ es' = es.set j (k,v)) ∨
  ((∀ (i : Nat) e',es[i]? = some e' → xCj k e'.1 = some false) ∧ es' = es ++ [(k,v)])
 | [],es',h => by
  cases h
  exact .inr ⟨fun i e' h => by simp at h,rfl⟩
 | (k',v') :: es,es',h => by
  simp only [xVU] at h
  split at h
  ·rename_i q
   cases h
   exact .inl ⟨0,(k',v'),rfl,q,fun i e' h => by omega,rfl⟩
  ·rename_i q
   simp only [Option.map_eq_some_iff] at h
   obtain ⟨es1,h,rfl⟩ := h
   have tl : ∀ (i : Nat) e',((k',v') :: es)[i]? = some e' → (i = 0 ∧ e' = (k',v')) ∨ ∃ i',i = i' + 1 ∧ es[i']? = some e' := by
    intro i e' h
    cases i with
    | zero => simp at h; exact .inl ⟨rfl,h.symm⟩
    | succ i => simp at h; exact .inr ⟨i,rfl,h⟩
   rcases xLM h with ⟨j,e,h1,h2,h3,rfl⟩ | ⟨h1,rfl⟩
   ·refine .inl ⟨j + 1,e,by simpa using h1,h2,fun i e' hi he => ?_,rfl⟩
    rcases tl i e' he with ⟨_,rfl⟩ | ⟨i',rfl,h5⟩
    ·exact q
    ·exact h3 i' e' (by omega) h5
   ·refine .inr ⟨fun i e' he => ?_,rfl⟩
    rcases tl i e' he with ⟨_,rfl⟩ | ⟨i',rfl,h5⟩
    ·exact q
    ·exact h1 i' e' h5
  ·cases h
theorem xIz {d : TypeDesc} {x : Value} : ∀ {l : List MapEntry} {j i0 : Nat} {e : MapEntry},l[j]? = some e → Instr.sameNow d x e.key = some true → (∀ (i : Nat) e',i < j → l[i]? = some e' → Instr.sameNow d x e'.key = some false) →
  Instr.findNow d x l i0 = some (some (i0 + j,e.val))
 | [],j,i0,e,h,_,_ => by simp at h
 | e0 :: l,0,i0,e,h,h1,_ => by
  simp at h; subst h
  simp [Instr.findNow,h1]
 | e0 :: l,j + 1,i0,e,h,h1,h2 => by
  have q := h2 0 e0 (by omega) rfl
  simp only [Instr.findNow,q]
  rw [xIz (i0 := i0 + 1) (by simpa using h) h1 (fun i e' hi he => h2 (i + 1) e' (by omega) (by simpa using he))]
  congr 3
  omega
theorem xIA {d : TypeDesc} {x : Value} : ∀ {l : List MapEntry} {i0 : Nat},(∀ (i : Nat) e',l[i]? = some e' → Instr.sameNow d x e'.key = some false) → Instr.findNow d x l i0 = some none
 | [],_,_ => rfl
 | e0 :: l,i0,h => by
  simp only [Instr.findNow,h 0 e0 rfl]
  exact xIA (fun i e' he => h (i + 1) e' (by simpa using he))
theorem xLN {s t : ByteArray} (h : (s.data.toList == t.data.toList) = true) : s = t := by
 obtain ⟨⟨x⟩⟩ := s
 obtain ⟨⟨y⟩⟩ := t
 simp at h
 subst h
 rfl
theorem xCq {t : TypeId} {k : Nat} (h : xVp P t k = true) : P.plainKey t = true := by
 unfold xVp at h
 unfold Program.plainKey
 split at h
 ·rename_i hu; rw [hu]
 ·rename_i hu; rw [hu]
 ·cases h
theorem xCY {t : TypeId} {k : Nat} (h : xVp P t k = true) {c e : AV} {x y : Value} (hf : xEB k c = true) (r : Rep im io c x) (r' : Rep im io e y) {b : Bool} (hb : xCF c e = some b) (n : Nat) :
  (Op.equalIn (n + 1) t x y).run P w = .ok b w ∧ (b = true → x = y) ∧ (∀ q,P.underlying t = some q → Instr.sameNow q x y = some b) ∧ (∀ m z,(Instr.checkKey z (m + 1) t x).run P w = .ok () w) ∧ ∀ m,Instr.sameBits m x x = true := by
 unfold xVp at h
 split at h
 ·rename_i ki hu
  obtain rfl : k = 0 := by simpa using h
  cases c <;> simp [xEB] at hf
  cases r
  cases e <;> simp [xCF] at hb
  cases r'
  obtain ⟨rfl,hb⟩ := hb
  subst hb
  exact ⟨Go.run_equalIn_int w n _ _ _ _ _ hu,fun e => by simp at e; rw [e],fun q hq => by rw [hu] at hq; cases hq; simp [Instr.sameNow],fun m z => by simp [Instr.checkKey,run_underlying hu],fun m => by simp [Instr.sameBits]⟩
 ·rename_i hu
  obtain rfl : k = 1 := by simpa using h
  cases c <;> simp [xEB] at hf
  rename_i s
  cases r
  cases e <;> simp [xCF] at hb
  rename_i t2
  cases r'
  have e2 : (s == t2) = b := by
   rw [← hb]
   rw [Bool.eq_iff_iff,bytes_beq]
   constructor
   ·rintro rfl; simp
   ·intro q; exact xLN (by simpa using q)
  refine ⟨?_,fun e => by subst e; rw [bytes_beq] at e2; rw [e2],fun q hq => by rw [hu] at hq; cases hq; simp [Instr.sameNow,e2],fun m z => by simp [Instr.checkKey,run_underlying hu],fun m => by simp [Instr.sameBits,bytes_beq]⟩
  simp [Op.equalIn,run_underlying hu,Result.andThen,e2]
 ·cases h
theorem xG9 {d : Nat} {xs ys : Array Value} : ∀ (fs : List Field) (ks : List Nat) (i : Nat) (cs ds : List AV) (r : Bool),xKs P i fs ks = true → xBd ks cs = true → xDl cs ds = some r →
  (∀ j c,cs[j]? = some c → ∃ v,xs[i + j]? = some v ∧ Rep im io c v) → (∀ j c,ds[j]? = some c → ∃ v,ys[i + j]? = some v ∧ Rep im io c v) →
  (Op.eqFields (d + 1) xs ys fs).run P w = .ok r w ∧ (r = true → ∀ j,j < cs.length → xs[i + j]? = ys[i + j]?) ∧ cs.length = ds.length
 | [],[],i,[],[],r,_,_,h,_,_ => by simp only [xDl,Option.some.injEq] at h; subst h; exact ⟨rfl,fun _ j hj => by simp at hj,rfl⟩
 | [],[],_,[],_ :: _,_,_,_,h,_,_ => by simp [xDl] at h
 | [],[],_,_ :: _,_,_,_,h,_,_,_ => by simp [xBd] at h
 | [],_ :: _,_,_,_,_,h,_,_,_,_ => by simp [xKs] at h
 | _ :: _,[],_,_,_,_,h,_,_,_,_ => by simp [xKs] at h
 | _ :: _,_ :: _,_,[],_,_,_,h,_,_,_ => by simp [xBd] at h
 | _ :: _,_ :: _,_,_ :: _,[],_,_,_,h,_,_ => by simp [xDl] at h
 | f :: fs,k :: ks,i,c :: cs,e :: ds,r,hf,hk,h,hx,hy => by
  simp only [xKs,Bool.and_eq_true,bne_iff_ne,beq_iff_eq] at hf
  obtain ⟨⟨⟨h1,h2⟩,h3⟩,h4⟩ := hf
  simp only [xBd,Bool.and_eq_true] at hk
  simp only [xDl] at h
  split at h
  case h_2 => cases h
  rename_i b rr hb hr
  cases h
  obtain ⟨v1,g1,k1⟩ := hx 0 c rfl
  obtain ⟨v2,g2,k2⟩ := hy 0 e rfl
  obtain ⟨ih,ih2,ih3⟩ := xG9 (d := d) fs ks (i + 1) cs ds rr h4 hk.2 hr (fun j c' hc => by rw [show i + 1 + j = i + (j + 1) by omega]; exact hx (j + 1) c' (by simpa using hc)) (fun j c' hc => by rw [show i + 1 + j = i + (j + 1) by omega]; exact hy (j + 1) c' (by simpa using hc))
  obtain ⟨q1,q2,_,_,_⟩ := xCY (w := w) h3 hk.1 k1 k2 hb d
  have p1 : (part f.type xs f.offset).run P w = .ok v1 w := run_part_plain w (xCq h3) (by rw [h2]; exact g1)
  have p2 : (part f.type ys f.offset).run P w = .ok v2 w := run_part_plain w (xCq h3) (by rw [h2]; exact g2)
  refine ⟨?_,fun hr j hj => ?_,by simp [ih3]⟩
  ·simp only [Op.eqFields,ne_eq,h1,not_false_eq_true,if_true,Sem.run_bind,p1,p2,q1,Result.andThen]
   cases b
   ·simp
   ·simpa using ih
  ·simp only [Bool.and_eq_true] at hr
   cases j with
   | zero => rw [g1,g2,q2 hr.1]
   | succ j =>
    have := ih2 hr.2 j (by simpa using hj)
    rw [show i + (j + 1) = i + 1 + j by omega]; exact this
theorem xIB {d : Nat} {xs ys : Array Value} {e : TypeId} (hc : P.cellsOf e = 1) : ∀ (ks : List Nat) (i : Nat) (cs ds : List AV) (r : Bool),ks.all (xVp P e) = true → xBd ks cs = true → xDl cs ds = some r →
  (∀ j c,cs[j]? = some c → ∃ v,xs[i + j]? = some v ∧ Rep im io c v) → (∀ j c,ds[j]? = some c → ∃ v,ys[i + j]? = some v ∧ Rep im io c v) →
  (Op.eqItems (d + 1) e (P.cellsOf e) xs ys (List.range' i ks.length)).run P w = .ok r w ∧ (r = true → ∀ j,j < cs.length → xs[i + j]? = ys[i + j]?) ∧ cs.length = ds.length
 | [],i,[],[],r,_,_,h,_,_ => by simp only [xDl,Option.some.injEq] at h; subst h; exact ⟨rfl,fun _ j hj => by simp at hj,rfl⟩
 | [],_,[],_ :: _,_,_,_,h,_,_ => by simp [xDl] at h
 | [],_,_ :: _,_,_,_,h,_,_,_ => by simp [xBd] at h
 | _ :: _,_,[],_,_,_,h,_,_,_ => by simp [xBd] at h
 | _ :: _,_,_ :: _,[],_,_,_,h,_,_ => by simp [xDl] at h
 | k :: ks,i,c :: cs,e' :: ds,r,hf,hk,h,hx,hy => by
  simp only [List.all_cons,Bool.and_eq_true] at hf
  simp only [xBd,Bool.and_eq_true] at hk
  simp only [xDl] at h
  split at h
  case h_2 => cases h
  rename_i b rr hb hr
  cases h
  obtain ⟨v1,g1,k1⟩ := hx 0 c rfl
  obtain ⟨v2,g2,k2⟩ := hy 0 e' rfl
  obtain ⟨ih,ih2,ih3⟩ := xIB (d := d) hc ks (i + 1) cs ds rr hf.2 hk.2 hr (fun j c' hc => by rw [show i + 1 + j = i + (j + 1) by omega]; exact hx (j + 1) c' (by simpa using hc)) (fun j c' hc => by rw [show i + 1 + j = i + (j + 1) by omega]; exact hy (j + 1) c' (by simpa using hc))
  obtain ⟨q1,q2,_,_,_⟩ := xCY (w := w) hf.1 hk.1 k1 k2 hb d
  have p1 : (part e xs i).run P w = .ok v1 w := run_part_plain w (xCq hf.1) g1
  have p2 : (part e ys i).run P w = .ok v2 w := run_part_plain w (xCq hf.1) g2
  rw [hc] at ih
  refine ⟨?_,fun hr j hj => ?_,by simp [ih3]⟩
  ·simp only [List.length_cons,List.range'_succ,Op.eqItems,hc,Nat.mul_one,Sem.run_bind,p1,p2,q1,Result.andThen_ok]
   cases b
   ·simp
   ·simpa using ih
  ·simp only [Bool.and_eq_true] at hr
   cases j with
   | zero => rw [g1,g2,q2 hr.1]
   | succ j =>
    have := ih2 hr.2 j (by simpa using hj)
    rw [show i + (j + 1) = i + 1 + j by omega]; exact this
theorem xXn {vs us : List Value} {n m : Nat} (h1 : vs.length = n) (h2 : us.length = m) (hm : n = m) (h : ∀ j,j < n → vs.toArray[0 + j]? = us.toArray[0 + j]?) : vs = us := by
 apply List.ext_getElem?
 intro j
 by_cases hj : j < n
 ·have := h j hj
  simpa using this
 ·rw [List.getElem?_eq_none (by omega),List.getElem?_eq_none (by omega)]
theorem xE3 {kt : TypeId} {ks : List Nat} (hk : xRf P kt ks = true) {k k' : AV} {x x' : Value} (hf : xBz ks k = true) (r : Rep im io k x) (r' : Rep im io k' x') {b : Bool} (h : xCj k k' = some b) :
  (b = true → x = x') ∧ (((∃ q,P.underlying kt = some q ∧ Instr.sameNow q x x' = some b) ∧ (match P.underlying kt with | some (.array _ _) | some (.struct _) => true | _ => false) = false) ∨
   ((Op.equal kt x x').run P w = .ok b w ∧ (match P.underlying kt with | some (.array _ _) | some (.struct _) => true | _ => false) = true)) := by
 unfold xRf at hk
 split at hk
 ·rename_i ki hu
  obtain rfl : ks = [0] := by simpa using hk
  cases k <;> simp [xBz] at hf
  cases k' <;> try (simp [xCj,xCF] at h; done)
  obtain ⟨_,q2,q3,_⟩ := xCY (w := w) (P := P) (t := kt) (k := 0) (by simp [xVp,hu]) rfl r r' (by simpa [xCj] using h) 0
  exact ⟨q2,.inl ⟨⟨_,hu,q3 _ hu⟩,by rw [hu]⟩⟩
 ·rename_i hu
  obtain rfl : ks = [1] := by simpa using hk
  cases k <;> simp [xBz] at hf
  cases k' <;> try (simp [xCj,xCF] at h; done)
  obtain ⟨_,q2,q3,_⟩ := xCY (w := w) (P := P) (t := kt) (k := 1) (by simp [xVp,hu]) rfl r r' (by simpa [xCj] using h) 0
  exact ⟨q2,.inl ⟨⟨_,hu,q3 _ hu⟩,by rw [hu]⟩⟩
 ·rename_i fs hu
  split at hk
  case h_2 => cases hk
  rename_i ks'
  simp only [Bool.and_eq_true,Bool.not_eq_true'] at hk
  cases k <;> simp [xBz] at hf
  cases k' <;> try (simp [xCj,xCF] at h; done)
  simp only [xCj] at h
  cases r with
  | agg l1 a1 k1 =>
  cases r' with
  | agg l2 a2 k2 =>
  rename_i vs us
  have hfs : P.fieldsOf kt = fs := by simp [Program.fieldsOf,hu]
  obtain ⟨p1,p2,p3⟩ := xG9 (P := P) (im := im) (io := io) (w := w) (d := 9998) (xs := vs.toArray) (ys := us.toArray) fs.toList ks' 0 _ _ b hk.1 hf h
   (fun j c hc => by
    obtain ⟨u,q1,q2⟩ := Reps.get (vs := vs) ⟨l1,a1⟩ hc
    exact ⟨u,by simpa using q1,q2⟩)
   (fun j c hc => by
    obtain ⟨u,q1,q2⟩ := Reps.get (vs := us) ⟨l2,a2⟩ hc
    exact ⟨u,by simpa using q1,q2⟩)
  refine ⟨fun e => by rw [xXn l1 l2 p3 (p2 e)],.inr ⟨?_,by rw [hu]⟩⟩
  show (Op.equalIn 10000 kt (.agg vs.toArray) (.agg us.toArray)).run P w = .ok b w
  rw [show (10000 : Nat) = 9999 + 1 from rfl,Go.run_equalIn_struct w 9999 kt _ _ (by rw [hfs]; exact hu) hk.2,hfs]
  exact p1
 ·rename_i n e hu
  split at hk
  case h_2 => cases hk
  rename_i ks'
  simp only [Bool.and_eq_true,beq_iff_eq] at hk
  obtain ⟨⟨g1,g2⟩,g3⟩ := hk
  split at g3
  case h_2 => cases g3
  rename_i i hi
  simp only [Bool.and_eq_true,beq_iff_eq] at g3
  cases k <;> simp [xBz] at hf
  cases k' <;> try (simp [xCj,xCF] at h; done)
  simp only [xCj] at h
  cases r with
  | agg l1 a1 k1 =>
  cases r' with
  | agg l2 a2 k2 =>
  rename_i vs us
  obtain ⟨p1,p2,p3⟩ := xIB (P := P) (im := im) (io := io) (w := w) (d := 9998) (xs := vs.toArray) (ys := us.toArray) g3.1 ks' 0 _ _ b g2 hf h
   (fun j c hc => by
    obtain ⟨u,q1,q2⟩ := Reps.get (vs := vs) ⟨l1,a1⟩ hc
    exact ⟨u,by simpa using q1,q2⟩)
   (fun j c hc => by
    obtain ⟨u,q1,q2⟩ := Reps.get (vs := us) ⟨l2,a2⟩ hc
    exact ⟨u,by simpa using q1,q2⟩)
  refine ⟨fun e => by rw [xXn l1 l2 p3 (p2 e)],.inr ⟨?_,by rw [hu]⟩⟩
  show (Op.equalIn 10000 kt (.agg vs.toArray) (.agg us.toArray)).run P w = .ok b w
  rw [show (10000 : Nat) = 9999 + 1 from rfl,run_equalIn_array w 9999 _ _ hu hi,List.range_eq_range',← g1]
  exact p1
 ·cases hk
theorem xGh {xs : Array Value} {em : Bool} : ∀ (fs : List Field) (ks : List Nat) (i : Nat) (cs : List AV),xKs P i fs ks = true → xBd ks cs = true → (∀ j c,cs[j]? = some c → ∃ v,xs[i + j]? = some v ∧ Rep im io c v) →
  (forIn fs PUnit.unit fun f _ => do
   if f.name ≠ "_" then Instr.checkKey em 9999 f.type (← part f.type xs f.offset)
   pure (ForInStep.yield PUnit.unit) : Sem PUnit).run P w = .ok PUnit.unit w
 | [],_,_,_,_,_,_ => by simp
 | _ :: _,[],_,_,h,_,_ => by simp [xKs] at h
 | _ :: _,_ :: _,_,[],_,h,_ => by simp [xBd] at h
 | f :: fs,k :: ks,i,c :: cs,hf,hk,hx => by
  simp only [xKs,Bool.and_eq_true,bne_iff_ne,beq_iff_eq] at hf
  obtain ⟨⟨⟨h1,h2⟩,h3⟩,h4⟩ := hf
  simp only [xBd,Bool.and_eq_true] at hk
  obtain ⟨v1,g1,k1⟩ := hx 0 c rfl
  have ih := xGh (em := em) fs ks (i + 1) cs h4 hk.2 (fun j c' hc => by rw [show i + 1 + j = i + (j + 1) by omega]; exact hx (j + 1) c' (by simpa using hc))
  have hb : ∃ b,xCF c c = some b := by
   have := hk.1
   cases c <;> simp [xEB] at this <;> simp [xCF]
  obtain ⟨b,hb⟩ := hb
  obtain ⟨_,_,_,q,_⟩ := xCY (w := w) h3 hk.1 k1 k1 hb 0
  have p1 : (part f.type xs f.offset).run P w = .ok v1 w := run_part_plain w (xCq h3) (by rw [h2]; exact g1)
  rw [List.forIn_cons]
  simp only [Sem.run_bind,ne_eq,h1,not_false_eq_true,if_true,p1,Result.andThen_ok,q 9998 em,Sem.run_pure]
  exact ih
theorem xHa {xs : Array Value} {em : Bool} {e : TypeId} : ∀ (ks : List Nat) (i : Nat) (cs : List AV),ks.all (xVp P e) = true → xBd ks cs = true → (∀ j c,cs[j]? = some c → ∃ v,xs[i + j]? = some v ∧ Rep im io c v) → ∀ (hs : (sizeOf e).run P w = .ok 1 w),
  (forIn (List.range' i ks.length) PUnit.unit fun i _ => do
   Instr.checkKey em 9999 e (← part e xs (i * (← sizeOf e)))
   pure (ForInStep.yield PUnit.unit) : Sem PUnit).run P w = .ok PUnit.unit w
 | [],_,_,_,_,_,_ => by simp
 | _ :: _,_,[],_,h,_,_ => by simp [xBd] at h
 | k :: ks,i,c :: cs,hf,hk,hx,hs => by
  simp only [List.all_cons,Bool.and_eq_true] at hf
  simp only [xBd,Bool.and_eq_true] at hk
  obtain ⟨v1,g1,k1⟩ := hx 0 c rfl
  have ih := xHa (em := em) ks (i + 1) cs hf.2 hk.2 (fun j c' hc => by rw [show i + 1 + j = i + (j + 1) by omega]; exact hx (j + 1) c' (by simpa using hc)) hs
  have hb : ∃ b,xCF c c = some b := by
   have := hk.1
   cases c <;> simp [xEB] at this <;> simp [xCF]
  obtain ⟨b,hb⟩ := hb
  obtain ⟨_,_,_,q,_⟩ := xCY (w := w) hf.1 hk.1 k1 k1 hb 0
  have p1 : (part e xs i).run P w = .ok v1 w := run_part_plain w (xCq hf.1) g1
  rw [List.length_cons,List.range'_succ,List.forIn_cons]
  simp only [Sem.run_bind,hs,Nat.mul_one,p1,Result.andThen_ok,q 9998 em,Sem.run_pure]
  exact ih
theorem xE4 {kt : TypeId} {ks : List Nat} (hk : xRf P kt ks = true) {k : AV} {x : Value} (hf : xBz ks k = true) (r : Rep im io k x) (e : Bool) : (Instr.checkKey e 10000 kt x).run P w = .ok () w := by
 unfold xRf at hk
 rw [show (10000 : Nat) = 9999 + 1 from rfl]
 unfold Instr.checkKey
 split at hk
 ·rename_i ki hu
  obtain rfl : ks = [0] := by simpa using hk
  cases k <;> simp [xBz] at hf
  cases r
  simp only [Sem.run_bind,run_underlying hu,Result.andThen]; rfl
 ·rename_i hu
  obtain rfl : ks = [1] := by simpa using hk
  cases k <;> simp [xBz] at hf
  cases r
  simp only [Sem.run_bind,run_underlying hu,Result.andThen]; rfl
 ·rename_i fs hu
  split at hk
  case h_2 => cases hk
  rename_i ks'
  simp only [Bool.and_eq_true,Bool.not_eq_true'] at hk
  cases k <;> simp [xBz] at hf
  cases r with
  | agg l1 a1 k1 =>
  rename_i vs
  simp only [Sem.run_bind,run_underlying hu,Result.andThen_ok]
  have := xGh (P := P) (w := w) (im := im) (io := io) (em := e) (xs := vs.toArray) fs.toList ks' 0 _ hk.1 hf (fun j c hc => by
    obtain ⟨u,q1,q2⟩ := Reps.get (vs := vs) ⟨l1,a1⟩ hc
    exact ⟨u,by simpa using q1,q2⟩)
  rw [← Array.forIn_toList]
  simp at this ⊢
  rw [this]; rfl
 ·rename_i n e' hu
  split at hk
  case h_2 => cases hk
  rename_i ks'
  simp only [Bool.and_eq_true,beq_iff_eq] at hk
  obtain ⟨⟨g1,g2⟩,g3⟩ := hk
  split at g3
  case h_2 => cases g3
  rename_i i hi
  simp only [Bool.and_eq_true,beq_iff_eq] at g3
  cases k <;> simp [xBz] at hf
  cases r with
  | agg l1 a1 k1 =>
  rename_i vs
  have hs : (sizeOf e').run P w = .ok 1 w := by rw [run_sizeOf w hi,g3.1]
  have := xHa (P := P) (w := w) (im := im) (io := io) (em := e) (xs := vs.toArray) (e := e') ks' 0 _ g2 hf (fun j c hc => by
    obtain ⟨u,q1,q2⟩ := Reps.get (vs := vs) ⟨l1,a1⟩ hc
    exact ⟨u,by simpa using q1,q2⟩) hs
  simp only [Sem.run_bind,run_underlying hu,Result.andThen_ok]
  simp only [Std.Legacy.Range.forIn_eq_forIn_range',Std.Legacy.Range.size,Nat.sub_zero,Nat.add_one_sub_one,Nat.div_one]
  rw [← g1]
  simp at this ⊢
  rw [this]; rfl
 ·cases hk
def xIC (im : Im) (io : Io) (es : List (AV × AV)) (m : Array MapEntry) : Prop := m.size = es.length ∧ ∀ (i : Nat) (e : AV × AV),es[i]? = some e → ∃ x,m[i]? = some x ∧ Rep im io e.1 x.key ∧ Rep im io e.2 x.val
theorem xLO {kt : TypeId} {x : Value} : ∀ {l : List MapEntry} {j i0 : Nat} {e : MapEntry},l[j]? = some e → (Op.equal kt x e.key).run P w = .ok true w → (∀ (i : Nat) e',i < j → l[i]? = some e' → (Op.equal kt x e'.key).run P w = .ok false w) →
  (Instr.findAsking kt x l i0).run P w = .ok (some (i0 + j,e.val)) w
 | [],j,i0,e,h,_,_ => by simp at h
 | e0 :: l,0,i0,e,h,h1,_ => by
  simp at h; subst h
  simp [Instr.findAsking,h1,Result.andThen]
 | e0 :: l,j + 1,i0,e,h,h1,h2 => by
  have q := h2 0 e0 (by omega) rfl
  have ih := xLO (kt := kt) (x := x) (l := l) (j := j) (i0 := i0 + 1) (by simpa using h) h1 (fun i e' hi he => h2 (i + 1) e' (by omega) (by simpa using he))
  simp only [Instr.findAsking,Sem.run_bind,q,Result.andThen_ok,Bool.false_eq_true,if_false]
  rw [ih,show i0 + 1 + j = i0 + (j + 1) by omega]
theorem xLP {kt : TypeId} {x : Value} : ∀ {l : List MapEntry} {i0 : Nat},(∀ (i : Nat) e',l[i]? = some e' → (Op.equal kt x e'.key).run P w = .ok false w) → (Instr.findAsking kt x l i0).run P w = .ok none w
 | [],_,_ => rfl
 | e0 :: l,i0,h => by
  have q := h 0 e0 rfl
  have ih := xLP (kt := kt) (x := x) (l := l) (i0 := i0 + 1) (fun i e' he => h (i + 1) e' (by simpa using he))
  simp only [Instr.findAsking,Sem.run_bind,q,Result.andThen_ok,Bool.false_eq_true,if_false]
  exact ih
theorem xE5 {kt : TypeId} {ks : List Nat} (hk : xRf P kt ks = true) : ∃ d,P.underlying kt = some d := by
 unfold xRf at hk
 cases h : P.underlying kt with
 | none => rw [h] at hk; cases hk
 | some d => exact ⟨d,rfl⟩
theorem xLQ {kt : TypeId} {ks : List Nat} (hk : xRf P kt ks = true) {k : AV} {x : Value} (hf : xBz ks k = true) (r : Rep im io k x) {es : List (AV × AV)} {m : Array MapEntry} (hm : xIC im io es m)
  {j : Nat} {e : AV × AV} (h1 : es[j]? = some e) (h2 : xCj k e.1 = some true) (h3 : ∀ (i : Nat) e',i < j → es[i]? = some e' → xCj k e'.1 = some false) :
  ∃ y,m[j]? = some y ∧ Rep im io e.2 y.val ∧ y.key = x ∧ (Instr.findKey kt x m.toList).run P w = .ok (some (j,y.val)) w := by
 obtain ⟨d,hd⟩ := xE5 hk
 obtain ⟨y,g1,g2,g3⟩ := hm.2 j e h1
 obtain ⟨q2,q1⟩ := xE3 (w := w) hk hf r g2 h2
 have each : ∀ (i : Nat) e',i < j → m.toList[i]? = some e' → ∃ k',Rep im io k' e'.key ∧ xCj k k' = some false := by
  intro i e' hi he
  rw [Array.getElem?_toList] at he
  have hlt : i < es.length := by have := (List.getElem?_eq_some_iff.1 h1).1; omega
  obtain ⟨y',p1,p2,p3⟩ := hm.2 i es[i] (List.getElem?_eq_getElem hlt)
  rw [he] at p1; cases p1
  exact ⟨_,p2,h3 i _ hi (List.getElem?_eq_getElem hlt)⟩
 have hj : m.toList[j]? = some y := by rw [Array.getElem?_toList]; exact g1
 refine ⟨y,g1,g3,(q2 rfl).symm,?_⟩
 rcases q1 with ⟨⟨q,hq,q1⟩,hw⟩ | ⟨q1,hw⟩
 ·refine run_findKey hq ?_
  have := xIz (d := q) (x := x) (l := m.toList) (j := j) (i0 := 0) (e := y) hj q1 (fun i e' hi he => by
   obtain ⟨k',p1,p2⟩ := each i e' hi he
   rcases (xE3 (w := w) hk hf r p1 p2).2 with ⟨⟨q',hq',g⟩,_⟩ | ⟨_,hw'⟩
   ·rw [hq] at hq'; cases hq'; exact g
   ·rw [hw] at hw'; cases hw')
  rwa [Nat.zero_add] at this
 ·rw [run_findKey_eq w hw]
  have := xLO (P := P) (w := w) (kt := kt) (x := x) (l := m.toList) (j := j) (i0 := 0) (e := y) hj q1 (fun i e' hi he => by
   obtain ⟨k',p1,p2⟩ := each i e' hi he
   rcases (xE3 (w := w) hk hf r p1 p2).2 with ⟨_,hw'⟩ | ⟨g,_⟩
   ·rw [hw] at hw'; cases hw'
   ·exact g)
  rwa [Nat.zero_add] at this
theorem xID {kt : TypeId} {ks : List Nat} (hk : xRf P kt ks = true) {k : AV} {x : Value} (hf : xBz ks k = true) (r : Rep im io k x) {es : List (AV × AV)} {m : Array MapEntry} (hm : xIC im io es m)
  (h3 : ∀ (i : Nat) e',es[i]? = some e' → xCj k e'.1 = some false) : (Instr.findKey kt x m.toList).run P w = .ok none w := by
 obtain ⟨d,hd⟩ := xE5 hk
 have each : ∀ (i : Nat) e',m.toList[i]? = some e' → ∃ k',Rep im io k' e'.key ∧ xCj k k' = some false := by
  intro i e' he
  rw [Array.getElem?_toList] at he
  have hlt : i < es.length := by have := (Array.getElem?_eq_some_iff.1 he).1; have := hm.1; omega
  obtain ⟨y',p1,p2,p3⟩ := hm.2 i es[i] (List.getElem?_eq_getElem hlt)
  rw [he] at p1; cases p1
  exact ⟨_,p2,h3 i _ (List.getElem?_eq_getElem hlt)⟩
 cases hw : (match P.underlying kt with | some (.array _ _) | some (.struct _) => true | _ => false) with
 | false =>
  refine run_findKey hd (xIA fun i e' he => ?_)
  obtain ⟨k',p1,p2⟩ := each i e' he
  rcases (xE3 (w := w) hk hf r p1 p2).2 with ⟨⟨q',hq',g⟩,_⟩ | ⟨_,hw'⟩
  ·rw [hd] at hq'; cases hq'; exact g
  ·rw [hw] at hw'; cases hw'
 | true =>
  rw [run_findKey_eq w hw]
  refine xLP fun i e' he => ?_
  obtain ⟨k',p1,p2⟩ := each i e' he
  rcases (xE3 (w := w) hk hf r p1 p2).2 with ⟨_,hw'⟩ | ⟨g,_⟩
  ·rw [hw] at hw'; cases hw'
  ·exact g
theorem xIE : ∀ {ks : List Nat} {cs : List AV} {vs : List Value},xBd ks cs = true → vs.length = cs.length → (∀ (j : Nat) c,cs[j]? = some c → ∃ v,vs[j]? = some v ∧ Rep im io c v) → ∀ m,((vs.zip vs).all fun (x,y) => Instr.sameBits m x y) = true
 | _,_,[],_,_,_,_ => rfl
 | [],[],_ :: _,_,h,_,_ => by simp at h
 | [],_ :: _,_,h,_,_,_ => by simp [xBd] at h
 | _ :: _,[],_,h,_,_,_ => by simp [xBd] at h
 | k :: ks,c :: cs,v :: vs,h,hl,hr,m => by
  simp only [xBd,Bool.and_eq_true] at h
  obtain ⟨v',g1,g2⟩ := hr 0 c rfl
  simp at g1
  subst g1
  have ih := xIE (ks := ks) (cs := cs) (vs := vs) h.2 (by simpa using hl) (fun j c' hc => by simpa using hr (j + 1) c' (by simpa using hc)) m
  rw [List.zip_cons_cons,List.all_cons,Bool.and_eq_true]
  refine ⟨?_,ih⟩
  have := h.1
  unfold xEB at this
  split at this
  ·cases g2; simp [Instr.sameBits]
  ·cases g2; simp [Instr.sameBits,bytes_beq]
  ·cases this
theorem xLR {kt : TypeId} {ks : List Nat} (hk : xRf P kt ks = true) {k : AV} {x : Value} (hf : xBz ks k = true) (r : Rep im io k x) : (Instr.keyThatStays x x).run P w = .ok x w := by
 have : Instr.sameBits 10000 x x = true := by
  unfold xBz at hf
  split at hf
  ·cases r; simp [Instr.sameBits]
  ·cases r; simp [Instr.sameBits,bytes_beq]
  ·cases r with
   | agg l1 a1 k1 =>
   rename_i vs
   have := xIE hf (show vs.length = _ from l1) (fun j c hc => Reps.get (vs := vs) ⟨l1,a1⟩ hc) 9999
   rw [show (10000 : Nat) = 9999 + 1 from rfl]
   simp only [Instr.sameBits,beq_self_eq_true,Bool.true_and]
   exact this
  ·cases hf
 simp [Instr.keyThatStays,this]
theorem xYI {x : AV} {y : Value} {es : List (AV × AV)} (hs : Sim chk im io H w) (h : xVq H x = some es) (r : Rep im io x y) :
  (y = .map none ∧ es = []) ∨ ∃ b m clk,y = .map (some b) ∧ w.heap[b]? = some (.map m clk) ∧ xIC im io es m := by
 unfold xVq at h
 split at h
 ·cases h; cases r; exact .inl ⟨rfl,rfl⟩
 ·rename_i id
  split at h
  ·rename_i es' hH
   cases h
   obtain ⟨b,m,clk,h1,h2,h3,h4,h5,_⟩ := hs.blk id _ hH
   cases r with
   | mp hio => rw [h1] at hio; cases hio; exact .inr ⟨b,m,clk,rfl,h3,h4,h5⟩
  ·cases h
 ·cases h
theorem xQP {ks : List Nat} {comma : Bool} {z : AV} {x k : Arg} (hc : xAp P o (.mlook ks comma z x k) = true) (hs : Sim chk im io H w) (hF : FRep im io F a) (h : xAc R F H (.mlook ks comma z x k) = some (v,H')) : Good chk P o a im io w v H' := by
 simp only [xAp] at hc
 simp only [xAc] at h
 split at hc
 case h_2 => cases hc
 rename_i t x' k' c' ho
 split at hc
 case h_2 => cases hc
 rename_i kt et hu
 simp only [Bool.and_eq_true,beq_iff_eq] at hc
 obtain ⟨⟨⟨⟨h1,h2⟩,rfl⟩,h3⟩,h4⟩ := hc
 split at h2
 case h_2 => cases h2
 rename_i zv hz
 have rz : Rep im io z zv := xNR h2
 have r1 := xAj h3 hF
 have r2 := xAj h4 hF
 obtain ⟨d,hd⟩ := xE5 h1
 split at h
 case isFalse => cases h
 rename_i hf
 split at h
 ·cases h
 rename_i es he
 have hzr := xCV (w := w) hz
 have tup2 : ∀ {p : AV} {q : Value} {b : Bool},Rep im io p q → Rep im io (.tup [p,.bool b]) (.tuple #[q,.bool b]) := fun hp => by
  rename_i p q b
  have := Rep.tup (im := im) (io := io) (cs := [p,.bool b]) (vs := [q,.bool b]) rfl (Reps.cons hp (Reps.cons .bool .nil)).2
  exact this
 have fin : ∀ {y : Value},(Instr.lookup t (a.eval x') (a.eval k') c').run P w = .ok y w → Rep im io v y → H' = H → Good chk P o a im io w v H' := by
  intro y hrun hr e
  subst e
  exact .same hs (by simp [execOp,ho,hrun]) hr
 have body : ∀ (m : Array MapEntry),xIC im io es m → (∀ {y : Value},(do
   Instr.checkKey m.isEmpty 10000 kt (a.eval k')
   let (v,ok) ← match ← Instr.findKey kt (a.eval k') m.toList with
    | some (_,v) => pure (v,true)
    | none => pure (← zeroValue et,false)
   pure (if c' then .tuple #[v,.bool ok] else v) : Sem Value).run P w = .ok y w → (Instr.lookup t (a.eval x') (a.eval k') c').run P w = .ok y w) → Good chk P o a im io w v H' := by
  intro m hm hrun
  rcases hfa : xIg (opv F k) es with _ | r
  ·rw [hfa] at h; cases h
  ·rw [hfa] at h
   rcases xIy hfa with ⟨j,e,p1,p2,p3,rfl⟩ | ⟨p1,rfl⟩
   ·obtain ⟨y,q1,q2,q3,q4⟩ := xLQ (w := w) h1 hf r2 hm p1 p2 p3
    simp only [Option.some.injEq,Prod.mk.injEq] at h
    obtain ⟨rfl,rfl⟩ := h
    refine fin (hrun (y := if c' then .tuple #[y.val,.bool true] else y.val) ?_) ?_ rfl
    ·simp [Result.andThen,xE4 (w := w) h1 hf r2,q4]
    ·cases c' with
     | true => exact tup2 q2
     | false => exact q2
   ·have q4 := xID (w := w) h1 hf r2 hm p1
    simp only [Option.some.injEq,Prod.mk.injEq] at h
    obtain ⟨rfl,rfl⟩ := h
    refine fin (hrun (y := if c' then .tuple #[zv,.bool false] else zv) ?_) ?_ rfl
    ·simp [Result.andThen,xE4 (w := w) h1 hf r2,q4,hzr]
    ·cases c' with
     | true => exact tup2 rz
     | false => exact rz
 rcases xYI hs he r1 with ⟨hy,rfl⟩ | ⟨b,m,clk,hy,hb,hm⟩
 ·refine body #[] ⟨rfl,fun i e h => by simp at h⟩ (fun {y} hrun => ?_)
  simp only [Instr.lookup,hy,Sem.run_bind,run_underlying hu,Result.andThen,Sem.run_pure] at hrun ⊢
  exact hrun
 ·refine body m hm (fun {y} hrun => ?_)
  simp only [Instr.lookup,hy,Sem.run_bind,run_underlying hu,Result.andThen,Sem.run_pure,MapKept.run_getObj_map hb] at hrun ⊢
  exact hrun
theorem xNU {m : Array MapEntry} {clk j : Nat} {f : MapEntry → MapEntry} (h1 : clk = m.size) (h2 : ∀ (i : Nat) x,m[i]? = some x → x.born = i) (hf : ∀ e,(f e).born = e.born) :
  clk = (m.modify j f).size ∧ ∀ (i : Nat) x,(m.modify j f)[i]? = some x → x.born = i := by
 refine ⟨by simp [h1],fun i x hx => ?_⟩
 rw [Array.getElem?_modify] at hx
 split at hx
 ·rename_i e
  cases hm : m[i]? with
  | none => rw [hm] at hx; cases hx
  | some y =>
   rw [hm] at hx
   cases hx
   rw [hf]
   exact h2 i y hm
 ·exact h2 i x hx
theorem xRT {m : Array MapEntry} {clk : Nat} {k v : Value} (h1 : clk = m.size) (h2 : ∀ (i : Nat) x,m[i]? = some x → x.born = i) :
  clk + 1 = (m.push { key := k,val := v,born := clk }).size ∧ ∀ (i : Nat) x,(m.push { key := k,val := v,born := clk })[i]? = some x → x.born = i := by
 refine ⟨by simp [h1],fun i x hx => ?_⟩
 rw [Array.getElem?_push] at hx
 split at hx
 ·rename_i e
  cases hx
  simp; omega
 ·exact h2 i x hx
theorem xRU {ks : List Nat} {z : AV} {m k : Arg} (hc : xAp P o (.ment ks z m k) = true) (hs : Sim chk im io H w) (hF : FRep im io F a) (h : xAc R F H (.ment ks z m k) = some (v,H')) : Good chk P o a im io w v H' := by simp [xAp] at hc
theorem xNV {m s x : Arg} (hc : xAp P o (.mstore m s x) = true) (hs : Sim chk im io H w) (hF : FRep im io F a) (h : xAc R F H (.mstore m s x) = some (v,H')) : Good chk P o a im io w v H' := by simp [xAp] at hc
theorem xRV {ks : List Nat} {m k x : Arg} (hc : xAp P o (.mupd ks m k x) = true) (hs : Sim chk im io H w) (hF : FRep im io F a) (h : xAc R F H (.mupd ks m k x) = some (v,H')) : Good chk P o a im io w v H' := by
 obtain ⟨t,m',k',x',ho,hc⟩ : ∃ t m' k' x',(o.op = .mapUpdate t m' k' x' ∨ o.op = .insert t m' k' x') ∧ (match P.underlying t with
   | some (.map kt _) => xRf P kt ks && xAt m' m && xAt k' k && xAt x' x
   | _ => false) = true := by
  simp only [xAp] at hc
  split at hc
  ·rename_i t m' k' x' ho
   exact ⟨t,m',k',x',.inl ho,hc⟩
  ·rename_i t m' k' x' ho
   exact ⟨t,m',k',x',.inr ho,hc⟩
  ·cases hc
 simp only [xAc] at h
 split at hc
 case h_2 => cases hc
 rename_i kt et hu
 simp only [Bool.and_eq_true] at hc
 obtain ⟨⟨⟨h1,h2⟩,h3⟩,h4⟩ := hc
 have r1 := xAj h2 hF
 have r2 := xAj h3 hF
 have r3 := xAj h4 hF
 obtain ⟨d,hd⟩ := xE5 h1
 split at h
 case isFalse => cases h
 rename_i hf
 split at h
 case h_2 => cases h
 rename_i id e1
 split at h
 case h_2 => cases h
 rename_i es hH
 simp only [Option.map_eq_some_iff,Prod.mk.injEq] at h
 obtain ⟨es',hup,rfl,rfl⟩ := h
 rw [e1] at r1
 generalize hv : a.eval m' = cv at r1
 cases r1 with
 | mp hio =>
  rename_i b
  obtain ⟨b',m0,clk,g1,g2,g3,g4,g5,g6,g7⟩ := hs.blk id _ hH
  rw [hio] at g1; cases g1
  have hm : xIC im io es m0 := ⟨g4,g5⟩
  have fin : ∀ {m1 : Array MapEntry} {c1 : Nat},(c1 = m1.size ∧ ∀ (i : Nat) x,m1[i]? = some x → x.born = i) → (Instr.mapUpdate t (.map (some b)) (a.eval k') (a.eval x')).run P w = .ok () (w.putObj b (.map m1 c1)) → xIC im io es' m1 → Good chk P o a im io w (.tup []) (H.set id (.mp es')) := by
   intro m1 c1 hb6 hrun hm1
   obtain ⟨s1,s2⟩ := yA2 hs hH hio (m' := m1) (clk := c1) hm1.1 hm1.2 hb6
   exact ⟨im,io,_,undef,.inr ⟨by rcases ho with ho | ho <;> simp [execOp,ho,hv,hrun],rfl⟩,s2,s1,.tup (vs := []) rfl (fun i c v h => by simp at h)⟩
  have hput : ∀ o',{ w with heap := w.heap.setIfInBounds b o' } = w.putObj b o' := fun o' => rfl
  rcases xLM hup with ⟨j,e,p1,p2,p3,rfl⟩ | ⟨p1,rfl⟩
  ·obtain ⟨y,q1,q2,q3,q4⟩ := xLQ (w := w) h1 hf r2 hm p1 p2 p3
   have hky : ((m0[j]?).map (·.key)).getD (a.eval k') = a.eval k' := by rw [q1]; exact q3
   have hkk := xLR (w := w) h1 hf r2
   refine fin (m1 := m0.modify j fun e => { e with key := a.eval k',val := a.eval x' }) (c1 := clk) (xNU g6 g7 fun _ => rfl) ?_ ⟨by simp [g4],fun i e' he => ?_⟩
   ·simp [Instr.mapUpdate,run_underlying hu,MapKept.run_getObj_map g3,xE4 (w := w) h1 hf r2,q4,hky,hkk,MapKept.run_setObj_map _ g3,Result.andThen,hput]
   ·rw [List.getElem?_set] at he
    rw [Array.getElem?_modify]
    split at he
    ·rename_i e0
     subst e0
     split at he
     ·cases he
      rw [if_pos rfl,q1]
      exact ⟨_,rfl,r2,r3⟩
     ·cases he
    ·rename_i e0
     rw [if_neg e0]
     exact g5 i e' he
  ·have q4 := xID (w := w) h1 hf r2 hm p1
   refine fin (m1 := m0.push { key := a.eval k',val := a.eval x',born := clk }) (c1 := clk + 1) (xRT g6 g7) ?_ ⟨by simp [g4],fun i e' he => ?_⟩
   ·simp [Instr.mapUpdate,run_underlying hu,MapKept.run_getObj_map g3,xE4 (w := w) h1 hf r2,q4,MapKept.run_setObj_map _ g3,Result.andThen,hput]
   ·rw [Array.getElem?_push]
    by_cases e0 : i < es.length
    ·rw [List.getElem?_append_left e0] at he
     rw [if_neg (by omega)]
     exact g5 i e' he
    ·have e1 : i = es.length := by
      have := (List.getElem?_eq_some_iff.1 he).1
      simp at this; omega
     subst e1
     simp at he
     subst he
     rw [if_pos g4.symm]
     exact ⟨_,rfl,r2,r3⟩
theorem xRW {x : Arg} (hc : xAp P o (.mlen x) = true) (hs : Sim chk im io H w) (hF : FRep im io F a) (h : xAc R F H (.mlen x) = some (v,H')) : Good chk P o a im io w v H' := by simp [xAp] at hc
theorem xRX {neg : Bool} {x : Arg} (hc : xAp P o (.mnil neg x) = true) (hs : Sim chk im io H w) (hF : FRep im io F a) (h : xAc R F H (.mnil neg x) = some (v,H')) : Good chk P o a im io w v H' := by simp [xAp] at hc
theorem xRY {neg : Bool} {x : Arg} (hc : xAp P o (.pnil neg x) = true) (hs : Sim chk im io H w) (hF : FRep im io F a) (h : xAc R F H (.pnil neg x) = some (v,H')) : Good chk P o a im io w v H' := by
 simp only [xAp] at hc
 simp only [xAc] at h
 split at hc
 case h_2 => cases hc
 rename_i op' t x' yt ho
 simp only [Bool.and_eq_true,beq_iff_eq] at hc
 obtain ⟨⟨hop,h2⟩,hu⟩ := hc
 split at hu
 case h_2 => cases hu
 rename_i et hu'
 have hu := beq_iff_eq.mp hu
 subst hu
 have r1 := xAj h2 hF
 have run : ∀ (r : Option Addr),a.eval x' = .pointer r → (execOp a.eval o).run P w = .ok (.value (.bool (r.isNone != neg))) w := fun r hv => by
  have hz : a.eval (.const (.pointer none)) = .pointer none := rfl
  cases neg <;> simp only [if_true,Bool.false_eq_true,if_false] at hop <;> subst hop <;> cases r <;>
   simp [execOp,ho,hv,hz,eqGuard,binOp,Go.run_equal_pointer_nil w t _ hu']
 split at h
 ·rename_i e1
  cases h
  rw [e1] at r1
  generalize hv : a.eval x' = cv at r1 run
  cases r1
  exact .same hs (run _ rfl) .bool
 ·rename_i e1
  cases h
  rw [e1] at r1
  generalize hv : a.eval x' = cv at r1 run
  cases r1
  exact .same hs (run _ rfl) .bool
 ·cases h
theorem xRZ {x y : Arg} (hc : xAp P o (.sadd x y) = true) (hs : Sim chk im io H w) (hF : FRep im io F a) (h : xAc R F H (.sadd x y) = some (v,H')) : Good chk P o a im io w v H' := by
 simp only [xAp] at hc
 simp only [xAc] at h
 split at hc
 case h_2 => cases hc
 rename_i op t x' y' yt ho
 simp only [Bool.and_eq_true,beq_iff_eq] at hc
 obtain ⟨⟨⟨rfl,hu⟩,h1⟩,h2⟩ := hc
 have r1 := xAj h1 hF
 have r2 := xAj h2 hF
 split at h
 case h_2 => cases h
 rename_i s t' e1 e2
 split at h
 case isFalse => cases h
 rename_i hsz
 cases h
 rw [e1] at r1
 rw [e2] at r2
 generalize hv1 : a.eval x' = c1 at r1
 generalize hv2 : a.eval y' = c2 at r2
 cases r1
 cases r2
 have hst : s ++ t' = ⟨⟨s.data.toList ++ t'.data.toList⟩⟩ := by
  obtain ⟨⟨x⟩⟩ := s
  obtain ⟨⟨y⟩⟩ := t'
  ext1
  simp
 have hmx : ¬ (IntKind.i64.max < ((s.size + t'.size : Nat) : Int)) := by
  have : IntKind.i64.max = 9223372036854775807 := by decide
  omega
 refine .same hs (x := .string (s ++ t')) ?_ (by rw [← hst]; exact .str)
 simp [execOp,ho,hv1,hv2,eqGuard,binOp,Op.stringOp]
 omega
theorem xHb : ∀ {cs : List AV} {vs : List Value} {bs : List UInt8},xRO cs = some bs → Reps im io cs vs → ∃ ns : List Int,vs = ns.map (Value.int .u8 ·) ∧ bs = ns.map fun n => UInt8.ofNat n.toNat
 | [],vs,bs,h,hr => by
  cases h
  obtain rfl : vs = [] := List.length_eq_zero_iff.1 hr.1
  exact ⟨[],rfl,rfl⟩
 | c :: cs,vs,bs,h,hr => by
  unfold xRO at h
  split at h
  ·rename_i e; cases e
  ·rename_i n cs' e
   cases e
   simp only [Option.map_eq_some_iff] at h
   obtain ⟨bs',h,rfl⟩ := h
   match vs,hr with
   | [],hr => have := hr.1; simp at this
   | v :: vs,hr =>
    have r0 := hr.2 0 _ v rfl rfl
    cases r0
    obtain ⟨ns,rfl,rfl⟩ := xHb h ⟨by simpa using hr.1,fun i c u h1 h2 => hr.2 (i + 1) c u h1 h2⟩
    exact ⟨n :: ns,rfl,rfl⟩
  ·cases h
theorem xIF : ∀ (ns : List Int) (s : ByteArray),ns.foldl (fun r n => r.push (UInt8.ofNat n.toNat)) s = ⟨⟨s.data.toList ++ ns.map fun n => UInt8.ofNat n.toNat⟩⟩
 | [],s => by
  obtain ⟨⟨x⟩⟩ := s
  simp
 | n :: ns,s => by
  rw [List.foldl_cons,xIF ns]
  obtain ⟨⟨x⟩⟩ := s
  simp [ByteArray.push]
theorem xR0 {x : Arg} (hc : xAp P o (.bstr x) = true) (hs : Sim chk im io H w) (hF : FRep im io F a) (h : xAc R F H (.bstr x) = some (v,H')) : Good chk P o a im io w v H' := by
 simp only [xAp] at hc
 simp only [xAc] at h
 split at hc
 case h_2 => cases hc
 rename_i s t y ho
 split at hc
 case h_2 => cases hc
 rename_i e hu1 hu2
 split at hc
 case h_2 => cases hc
 rename_i hu3
 have r1 := xAj hc hF
 split at h
 case h_2 => cases h
 rename_i n cs hsrc
 simp only [Option.map_eq_some_iff,Prod.mk.injEq] at h
 obtain ⟨bs,hb,rfl,rfl⟩ := h
 obtain ⟨ad,cap,vs,hvy,hl,hr,hk,hlies,hn0⟩ := xLG hs hsrc r1
 obtain ⟨ns,rfl,rfl⟩ := xHb hb hr
 cases ad with
 | none =>
  obtain rfl := hn0 rfl
  have : ns = [] := by simpa using hl
  subst this
  refine .same hs (x := .string .empty) ?_ .str
  simp [execOp,ho,hvy,convert,run_underlying hu1,run_underlying hu2,run_underlying hu3,Result.andThen,Conv.bytesToString]
 | some ad =>
  refine .same hs (x := .string ⟨⟨ns.map fun n => UInt8.ofNat n.toNat⟩⟩) ?_ .str
  have hload : (loadCells ad n).run P w = .ok (ns.map (Value.int .u8 ·)).toArray w := by
   rcases hlies with e0 | ⟨b,off,e0,hlies⟩
   ·have : ns = [] := by simpa using e0
    subst this
    obtain rfl : n = 0 := by simpa using hl.symm
    rfl
   ·cases e0
    have := xCD (P := P) hlies
    rw [hl,Nat.mul_one] at this
    exact this
  have hb := run_bytesToString (P := P) w ad n cap ns hload
  rw [xIF] at hb
  have hcv := run_convert_bytes_string (P := P) w s t e (some ad) n cap hu1 hu3 hu2
  rw [hb] at hcv
  simp [execOp,ho,hvy,hcv,Result.andThen]
theorem xNW {fz : Bool} {x : Arg} (hc : xAp P o (.sbytes fz x) = true) (hs : Sim chk im io H w) (hF : FRep im io F a) (h : xAc R F H (.sbytes fz x) = some (v,H')) : Good chk P o a im io w v H' := by simp [xAp] at hc
end
end Go.Abs
