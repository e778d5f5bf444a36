/- The interpreter's limit: its equations,and what its answer says of the model's call. -/
import Derived.Test.YtijmhicopfphnaaDoorAbsFix
namespace Go.Abs
set_option linter.unusedVariables false
set_option linter.unusedSimpArgs false
open Go.RowKit
def Ev (p : Nat → Prop) : Prop := ∃ n,∀ m,n ≤ m → p m
theorem Ev.all {p : Nat → Prop} (h : ∀ m,p m) : Ev p := ⟨0,fun m _ => h m⟩
theorem Ev.mono {p q : Nat → Prop} (h : Ev p) (hq : ∀ m,p m → q m) : Ev q := h.imp fun _ hn m hm => hq m (hn m hm)
theorem Ev.mono2 {p q r : Nat → Prop} (h : Ev p) (k : Ev q) (hq : ∀ m,p m → q m → r m) : Ev r := by
 obtain ⟨n,hn⟩ := h
 obtain ⟨n',hn'⟩ := k
 exact ⟨max n n',fun m hm => hq m (hn m (by omega)) (hn' m (by omega))⟩
structure Tends (L : Rec) (Rs : Nat → Rec) : Prop where
 pcall : ∀ f a v,L.pcall f a = some v → Ev fun m => (Rs m).pcall f a = some v
 icall : ∀ f a H v,L.icall f a H = some v → Ev fun m => (Rs m).icall f a H = some v
 loop : ∀ scr b s v,L.loop scr b s = some v → Ev fun m => (Rs m).loop scr b s = some v
section
variable {L : Rec} {Rs : Nat → Rec} (ht : Tends L Rs)
include ht
theorem xJL {f : Nat} {args : List AV} {H : Heap} {r : AV × Heap} (h : xHG L f args H = some r) : Ev fun m => xHG (Rs m) f args H = some r := by
 unfold xHG at h
 split at h
 ·cases h
 rename_i args' hm
 split at h
 ·cases h
 rename_i r' hp
 refine (ht.pcall _ _ _ hp).mono fun m e => ?_
 unfold xHG
 simp only [hm,e]
 exact h
theorem xLZ {F : List AV} {H : Heap} {op : AOp} {r : AV × Heap} (h : xAc L F H op = some r) : Ev fun m => xAc (Rs m) F H op = some r := by
 cases op
 case call f args => exact xJL ht h
 case icall f args => exact ht.icall _ _ _ _ h
 case bcall f args =>
  simp only [xAc] at h ⊢
  split at h
  ·rename_i g first e0
   exact ht.icall _ _ _ _ h
  ·cases h
 case fcall f args =>
  simp only [xAc] at h ⊢
  split at h
  ·exact xJL ht h
  ·cases h
 case ocall f args =>
  simp only [xAc] at h ⊢
  split at h
  ·cases h
  rename_i args' hm
  split at h
  ·cases h
  rename_i v B hoc
  unfold xCG at hoc
  split at hoc
  case h_2 => cases hoc
  rename_i r' H' hic
  refine (ht.icall _ _ _ _ hic).mono fun m e => ?_
  have e2 : xCG (Rs m) f args' = some (v,B) := by
   unfold xCG
   simp only [e]; exact hoc
  simp only [hm,e2]
  exact h
 case ofcall f args =>
  simp only [xAc] at h ⊢
  split at h
  case h_2 => cases h
  rename_i g caps hg
  split at h
  ·cases h
  rename_i args' hm
  split at h
  ·cases h
  rename_i v B hoc
  unfold xCG at hoc
  split at hoc
  case h_2 => cases hoc
  rename_i r' H' hic
  refine (ht.icall _ _ _ _ hic).mono fun m e => ?_
  have e2 : xCG (Rs m) g args' = some (v,B) := by
   unfold xCG
   simp only [e]; exact hoc
  simp only [hm,e2]
  exact h
 case ocallw f args =>
  simp only [xAc] at h ⊢
  split at h
  ·cases h
  rename_i args' hm
  split at h
  ·cases h
  rename_i v B hoc
  unfold xJi at hoc
  split at hoc
  case h_2 => cases hoc
  rename_i r' H' hic
  refine (ht.icall _ _ _ _ hic).mono fun m e => ?_
  have e2 : xJi (Rs m) f args' = some (v,B) := by
   unfold xJi
   simp only [e]; exact hoc
  simp only [hm,e2]
  exact h
 all_goals exact .all fun m => h
theorem xL0 {F : List AV} {H : Heap} {op : AOp} {v : AV} (h : xAO L F H op = some v) : Ev fun m => xAO (Rs m) F H op = some v := by
 cases op
 case call f args =>
  simp only [xAO] at h ⊢
  split at h
  ·rename_i r H1 hp
   refine (xJL ht hp).mono fun m e => ?_
   rw [e]; exact h
  ·cases h
 case fcall f args =>
  simp only [xAO] at h ⊢
  split at h
  case h_2 => cases h
  split at h
  ·rename_i r H1 hp
   refine (xJL ht hp).mono fun m e => ?_
   rw [e]; exact h
  ·cases h
 case append fz es bytes x y =>
  cases fz
  ·exact .all fun m => h
  ·exact .all fun m => h
 case bslice fz z es n parts =>
  cases fz
  ·exact .all fun m => h
  ·exact .all fun m => h
 case mkslice fz z n l c =>
  cases fz
  ·exact .all fun m => h
  ·exact .all fun m => h
 case sbytes fz x =>
  cases fz
  ·exact .all fun m => h
  ·exact .all fun m => h
 case box x =>
  cases x
  ·exact .all fun m => h
  ·exact .all fun m => h
 all_goals exact .all fun m => h
theorem xKM {o : AOper} {s s' : St} (h : xEc L o s = some s') : Ev fun m => xEc (Rs m) o s = some s' := by
 simp only [xEc] at h ⊢
 split at h
 ·cases h
 ·rename_i hw
  exact .all fun m => h
 ·rename_i hw
  simp only [Option.map_eq_some_iff] at h
  obtain ⟨⟨v,H⟩,h1,rfl⟩ := h
  refine (xLZ ht h1).mono fun m e => ?_
  simp [e]
theorem xHI : ∀ {ops : List AOper} {s s' : St},xBJ L ops s = some s' → Ev fun m => xBJ (Rs m) ops s = some s'
 | [],_,_,h => .all fun m => h
 | o :: ops,s,s',h => by
  simp only [xBJ] at h ⊢
  split at h
  ·cases h
  ·rename_i s1 h1
   exact (xKM ht h1).mono2 (xHI h) fun m e1 e2 => by simp only [e1,e2]
theorem xNx (hs : List (Nat × Nat × Nat)) : ∀ (ops : List AOper) (k : Nat) (s : St) {s' : St},xBJ L ops s = some s' → xLC L hs k ops s = true → Ev fun m => xLC (Rs m) hs k ops s = true
 | [],_,_,_,_,h => .all fun m => rfl
 | o :: ops,k,s,s',h,hb => by
  simp only [xBJ] at h
  split at h
  ·cases h
  ·rename_i s1 h1
   simp only [xLC,h1,Bool.and_eq_true] at hb
   refine (xKM ht h1).mono2 (xNx hs ops (k + 1) s1 h hb.2) fun m e1 e2 => ?_
   simp only [xLC,e1,Bool.and_eq_true]
   exact ⟨hb.1,e2⟩
theorem xKl : ∀ {ops : List AOper} {s s' : St},xGh L ops s = some s' → Ev fun m => xGh (Rs m) ops s = some s'
 | [],_,_,h => .all fun m => h
 | o :: ops,s,s',h => by
  simp only [xGh] at h ⊢
  split at h
  ·cases h
  ·rename_i s1 h1
   have h1' : Ev fun m => xCW (Rs m) o s = some s1 := by
    simp only [xCW] at h1 ⊢
    split at h1
    ·cases h1
    ·exact .all fun m => h1
    ·simp only [Option.map_eq_some_iff] at h1
     obtain ⟨v,g1,rfl⟩ := h1
     refine (xL0 ht g1).mono fun m e => ?_
     simp [e]
   exact h1'.mono2 (xKl h) fun m e1 e2 => by simp only [e1,e2]
theorem xNy {o : AOper} {s s1 : St} (h1 : xCW L o s = some s1) : Ev fun m => xCW (Rs m) o s = some s1 := by
 simp only [xCW] at h1 ⊢
 split at h1
 ·cases h1
 ·exact .all fun m => h1
 ·simp only [Option.map_eq_some_iff] at h1
  obtain ⟨v,g1,rfl⟩ := h1
  refine (xL0 ht g1).mono fun m e => ?_
  simp [e]
theorem xSX {F : List AV} {op : AOp} {r : AV × List Blk} (h : xJn L F op = some r) : Ev fun m => xJn (Rs m) F op = some r := by
 unfold xJn at h
 split at h
 case isFalse => cases h
 rename_i hd
 split at h
 case h_2 => cases h
 rename_i v B hex
 refine (xLZ ht hex).mono fun m e => ?_
 unfold xJn
 rw [if_pos hd]
 simp only [e]
 exact h
theorem xIj : ∀ {ops : List AOper} {s : St} {r : St × List Pr},xA6 L ops s = some r → Ev fun m => xA6 (Rs m) ops s = some r
 | [],_,_,h => .all fun m => h
 | o :: ops,s,r,h => by
  simp only [xA6] at h ⊢
  split at h
  ·rename_i hp
   split at h
   ·rename_i t v B hdst hpv
    simp only [Option.map_eq_some_iff] at h
    obtain ⟨r1,h2,e⟩ := h
    exact (xSX ht hpv).mono2 (xIj h2) fun m e1 e2 => by simp only [hp,if_true,hdst,e1,e2,Option.map_some,e]
   ·cases h
  ·rename_i hp
   split at h
   ·cases h
   rename_i s1 h1
   simp only [Option.map_eq_some_iff] at h
   obtain ⟨r1,h2,e⟩ := h
   exact (xNy ht h1).mono2 (xIj h2) fun m e1 e2 => by simp only [hp,if_false,e1,e2,Option.map_some,e,Bool.false_eq_true]
theorem xJ6 : ∀ {c : ACode} {s : St} {r : AExit × St},run L c s = some r → Ev fun m => run (Rs m) c s = some r := by
 intro c
 induction c with
 | region ops =>
  intro s r h
  simp only [run,Option.map_eq_some_iff] at h ⊢
  obtain ⟨s1,h1,rfl⟩ := h
  exact (xHI ht h1).mono fun m e => ⟨s1,e,rfl⟩
 | draw k ops =>
  intro s r h
  simp only [run] at h ⊢
  split at h
  ·cases h
  rename_i s1 h1
  simp only [Option.map_eq_some_iff] at h
  obtain ⟨s2,h2,rfl⟩ := h
  exact (xKl ht h1).mono2 (xHI ht h2) fun m e1 e2 => by simp [e1,e2]
 | drawl ls k ops =>
  intro s r h
  simp only [run] at h ⊢
  split at h
  ·cases h
  rename_i s1 h1
  split at h
  case h_2 => cases h
  rename_i s2 h2
  exact (xKl ht h1).mono2 (xHI ht h2) fun m e1 e2 => by simp only [e1,e2]; exact h
 | fz ss b ih =>
  intro s r h
  simp only [run] at h ⊢
  exact ih h
 | fzs i b ih =>
  intro s r h
  simp only [run] at h ⊢
  split at h
  case h_2 => cases h
  rename_i v hv
  exact (ih h).mono fun m e => by first | exact e | (simp only [run,hv]; exact e) | (simp only [hv]; exact e)
 | hole b ih =>
  intro s r h
  simp only [run] at h ⊢
  exact ih h
 | drawt σ als ls k ops =>
  intro s r h
  simp only [run] at h ⊢
  split at h
  ·cases h
  rename_i s1 pl h1
  split at h
  case isFalse => cases h
  rename_i htw
  split at h
  case h_2 => cases h
  rename_i s2 h2
  exact (xIj ht h1).mono2 (xHI ht h2) fun m e1 e2 => by simp only [e1,e2,if_pos htw]; exact h
 | drawh hs als ls k ops =>
  intro s r h
  simp only [run] at h ⊢
  split at h
  ·cases h
  rename_i s1 pl h1
  split at h
  case h_2 => cases h
  rename_i s2 h2
  split at h
  case isFalse => cases h
  rename_i hh
  have hb := xNx ht hs (ops.drop k) k (xGo als pl s1) h2 hh.2
  have h12 : Ev fun m => xA6 (Rs m) (ops.take k) s = some (s1,pl) ∧ xBJ (Rs m) (ops.drop k) (xGo als pl s1) = some s2 := (xIj ht h1).mono2 (xHI ht h2) fun m e1 e2 => And.intro e1 e2
  refine h12.mono2 hb fun m e e3 => ?_
  simp only [e.1,e.2,if_pos (And.intro hh.1 e3)]
  exact h
 | drawp als ls k ops =>
  intro s r h
  simp only [run] at h ⊢
  split at h
  ·cases h
  rename_i s1 pl h1
  split at h
  case h_2 => cases h
  rename_i s2 h2
  exact (xIj ht h1).mono2 (xHI ht h2) fun m e1 e2 => by simp only [e1,e2]; exact h
 | seq a b iha ihb =>
  intro s r h
  simp only [run] at h ⊢
  split at h
  ·rename_i s1 h1
   exact (iha h1).mono2 (ihb h) fun m e1 e2 => by simp [e1,e2]
  ·rename_i hne
   refine (iha h).mono fun m e1 => ?_
   rw [e1]
   obtain ⟨e,s'⟩ := r
   cases e with
   | normal => exact absurd h (hne _)
   | _ => rfl
 | cond c a b iha ihb =>
  intro s r h
  simp only [run] at h ⊢
  split at h
  ·rename_i t ht'
   cases t
   ·exact (ihb h).mono fun m e => e
   ·exact (iha h).mono fun m e => e
  ·cases h
 | block id b ih =>
  intro s r h
  simp only [run] at h ⊢
  split at h
  ·rename_i i s1 h1
   exact (ih h1).mono fun m e => by simp only [e]; exact h
  ·rename_i hne
   refine (ih h).mono fun m e1 => ?_
   rw [e1]
   obtain ⟨e,s'⟩ := r
   cases e with
   | exit i => exact absurd h (hne _ _)
   | _ => rfl
 | loop scr b ih => intro s r h; exact ht.loop _ _ _ _ h
 | range f ps a b iha ihb =>
  intro s r h
  simp only [run] at h ⊢
  split at h
  case h_2 => cases h
  rename_i g caps hg
  split at h
  case h_2 => cases h
  rename_i v H1 hc
  exact (ht.icall _ _ _ _ hc).mono fun m e => by simp only [e]; exact h
 | scope b ih => intro s r h; exact (ih h).mono fun m e => e
 | _ => intro s r h; exact .all fun m => h
theorem xNz {fn : AFunc} {args : List AV} {H : Heap} {r : AV × Heap} (h : xGp L fn args H = some r) : Ev fun m => xGp (Rs m) fn args H = some r := by
 unfold xGp at h ⊢
 split at h
 ·rename_i s h1; exact (xJ6 ht h1).mono fun m e => by simp only [e]; exact h
 ·rename_i s h1; exact (xJ6 ht h1).mono fun m e => by simp only [e]; exact h
 ·cases h
theorem xQz {fn : AFunc} {args : List AV} {r : AV} (h : xBK L fn args = some r) : Ev fun m => xBK (Rs m) fn args = some r := by
 unfold xBK at h ⊢
 split at h
 ·rename_i r H1 h1; exact (xNz ht h1).mono fun m e => by simp only [e]; exact h
 ·cases h
theorem xQA {l : Nat} {args : List AV} {H : Heap} {r : AV × Heap} (h : xOV L l args H = some r) : Ev fun m => xOV (Rs m) l args H = some r := by
 unfold xOV at h ⊢
 split at h
 case h_2 => cases h
 rename_i pend F0 ps asg body hH
 split at h
 case isFalse => cases h
 rename_i hcond
 split at h
 case h_2 => cases h
 rename_i s1 h1
 split at h
 case h_2 => cases h
 rename_i pend1 F1 ps1 asg1 body1 hH1
 split at h
 case h_2 => cases h
 rename_i e s2 h2
 refine (xJ6 ht h1).mono2 (xJ6 ht h2) fun m e1 e2 => ?_
 simp only [if_pos hcond,e1,hH1,e2]
 exact h
theorem xQB {prog : Nat → Option AFunc} {f : AV} {args : List AV} {H : Heap} {r : AV × Heap} (h : xKd prog L f args H = some r) : Ev fun m => xKd prog (Rs m) f args H = some r := by
 unfold xKd at h ⊢
 split at h
 ·rename_i f caps
  cases hp : prog f with
  | none => rw [hp] at h; cases h
  | some fn =>
   rw [hp] at h
   simp only at h ⊢
   exact xNz ht h
 ·exact xQA ht h
 ·cases h
theorem xSY {scr : List Nat} {b : ACode} {s : St} {r : AExit × St} (h : xNU L scr b s = some r) : Ev fun m => xNU (Rs m) scr b s = some r := by
 unfold xNU at h ⊢
 split at h
 ·rename_i s1 h1
  exact (xJ6 ht h1).mono2 (ht.loop _ _ _ _ h) fun m e1 e2 => by simp only [e1,e2]
 ·rename_i e s1 hne h1
  refine (xJ6 ht h1).mono fun m e1 => ?_
  rw [e1]
  cases e with
  | normal => exact (hne rfl).elim
  | _ => exact h
 ·cases h
theorem xGL (prog : Nat → Option AFunc) : Tends (xJE prog L) (fun m => xJE prog (Rs m)) := by
 refine ⟨fun f a v h => ?_,fun f a H v h => xQB ht h,fun scr b s v h => xSY ht h⟩
 simp only [xJE] at h ⊢
 cases hp : prog f with
 | none => rw [hp] at h; simp only at h ⊢; exact Ev.all fun _ => h
 | some fn =>
  rw [hp] at h
  simp only at h ⊢
  exact xQz ht h
end
noncomputable def xZq {α : Type} (p : Nat → Option α) : Option α := open Classical in
 if h : ∃ v,Ev fun m => p m = some v then some (Classical.choose h) else none
theorem xIW {α : Type} {p : Nat → Option α} {v : α} (h : xZq p = some v) : Ev fun m => p m = some v := by
 unfold xZq at h
 split at h
 ·rename_i hx
  cases h
  exact Classical.choose_spec hx
 ·cases h
theorem xLP {α : Type} {p : Nat → Option α} {v : α} (h : Ev fun m => p m = some v) : xZq p = some v := by
 cases e : xZq p with
 | none =>
  unfold xZq at e
  rw [dif_pos ⟨v,h⟩] at e
  cases e
 | some v' =>
  obtain ⟨n,hn⟩ := h.mono2 (xIW e) (r := fun m => p m = some v ∧ p m = some v') (fun m a b => ⟨a,b⟩)
  obtain ⟨a,b⟩ := hn n (Nat.le_refl _)
  rw [a] at b
  exact b.symm
noncomputable def lim (prog : Nat → Option AFunc) : Rec where
 pcall f a := xZq fun m => (fix prog m).pcall f a
 icall f a H := xZq fun m => (fix prog m).icall f a H
 loop scr b s := xZq fun m => (fix prog m).loop scr b s
theorem xL1 (prog : Nat → Option AFunc) : Tends (lim prog) (fix prog) := ⟨fun _ _ _ h => xIW h,fun _ _ _ _ h => xIW h,fun _ _ _ _ h => xIW h⟩
theorem Ev.shift {p : Nat → Prop} (h : Ev fun m => p (m + 1)) : Ev p := by
 obtain ⟨n,hn⟩ := h
 exact ⟨n + 1,fun m hm => by
  obtain ⟨k,rfl⟩ : ∃ k,m = k + 1 := ⟨m - 1,by omega⟩
  exact hn k (by omega)⟩
variable {prog : Nat → Option AFunc}
theorem xQC {f : Nat} {fn : AFunc} {args : List AV} {v : AV} (hf : prog f = some fn) (h : xBK (lim prog) fn args = some v) : (lim prog).pcall f args = some v := by
 refine xLP (Ev.shift ?_)
 have := (xGL (xL1 prog) prog).pcall f args v (by simp only [xJE,hf]; exact h)
 exact this
theorem xZr {f : Nat} {args : List AV} {v : AV} (hf : prog f = none) (h : primA f args = some v) : (lim prog).pcall f args = some v := by
 refine xLP (Ev.shift ?_)
 have := (xGL (xL1 prog) prog).pcall f args v (by simp only [xJE,hf]; exact h)
 exact this
theorem xQD {f : AV} {args : List AV} {H : Heap} {r : AV × Heap} (h : xKd prog (lim prog) f args H = some r) : (lim prog).icall f args H = some r := by
 refine xLP (Ev.shift ?_)
 exact (xGL (xL1 prog) prog).icall f args H r h
theorem xTM {scr : List Nat} {b : ACode} {s : St} {r : AExit × St} (h : xNU (lim prog) scr b s = some r) : (lim prog).loop scr b s = some r := by
 refine xLP (Ev.shift ?_)
 exact (xGL (xL1 prog) prog).loop scr b s r h
theorem Tends.shift {L : Rec} {Rs : Nat → Rec} (h : Tends L (fun m => Rs (m + 1))) : Tends L Rs :=
 ⟨fun f a v e => Ev.shift (h.pcall f a v e),fun f a H v e => Ev.shift (h.icall f a H v e),fun scr b s v e => Ev.shift (h.loop scr b s v e)⟩
theorem xL2 (prog : Nat → Option AFunc) : ∀ n,Tends (fix prog n) (fix prog)
 | 0 => ⟨fun _ _ _ h => (by cases h),fun _ _ _ _ h => (by cases h),fun _ _ _ _ h => (by cases h)⟩
 | n + 1 => Tends.shift (xGL (xL2 prog n) prog)
theorem yEo {P : Program} (hp : ProgOk P prog) : RecOk (xAV P) P (lim prog) ∧ LoopOk P (lim prog) := by
 have get : ∀ {α : Type} {p : Nat → Option α} {v : α},xZq p = some v → ∃ n,p n = some v := fun h => by
  obtain ⟨n,hn⟩ := xIW h
  exact ⟨n,hn n (Nat.le_refl _)⟩
 refine ⟨⟨?_,?_,?_,?_,?_,?_⟩,⟨?_⟩⟩
 ·intro f args r h; obtain ⟨n,hn⟩ := get h; exact (xL3 hp n).1.enters f args r hn
 ·intro f args r h; obtain ⟨n,hn⟩ := get h; exact (xL3 hp n).1.pcall f args r hn
 ·intro f caps args H r H' h; obtain ⟨n,hn⟩ := get h; exact (xL3 hp n).1.ienters f caps args H r H' hn
 ·intro f caps args H r H' h; obtain ⟨n,hn⟩ := get h; exact (xL3 hp n).1.icall f caps args H r H' hn
 ·intro l args H r H' h; obtain ⟨n,hn⟩ := get h; exact (xL3 hp n).1.round l args H r H' hn
 ·intro f args H r H' h; obtain ⟨n,hn⟩ := get h; exact (xL3 hp n).1.other f args H r H' hn
 ·intro scr b s e s' h; obtain ⟨n,hn⟩ := get h; exact (xL3 hp n).2.loop scr b s e s' hn
def yGJ (P : Program) (f : Nat) (af : AFunc) : Bool := match P.funcs[f]? with
 | some fn => xKO P fn af
 | none => false
theorem yCj {P : Program} {f : Nat} {af : AFunc} (h : yGJ P f af = true) : ∃ fn,P.funcs[f]? = some fn ∧ xKO P fn af = true := by
 unfold yGJ at h
 split at h
 ·rename_i fn hf; exact ⟨fn,hf,h⟩
 ·cases h
def xPP (w : World) : Im := fun b => w.heap[b]?
theorem xVg {P : Program} (hp : ProgOk P prog) {f : Nat} {args : List AV} {b : Bool} (h : (lim prog).pcall f args = some (.bool b)) {w : World} {vs : List Value} (hr : Reps (xPP w) xKI args vs) (hg : GlobOk (xPP w)) :
  Calls P f vs.toArray w (fun e w' => e = .returned (.bool b) ∧ Below w.heap.size w w') := by
 have := (yEo hp).1.pcall f args _ h 0 (xPP w) w vs ⟨fun b o hb => hb,hg⟩ hr
 refine (this.mono ?_).calls (fun k => yCz none k)
 rintro e w' ⟨x,im',rfl,h2,h3,h4,h5,h6⟩
 cases h6
 exact ⟨rfl,h5⟩
end Go.Abs
