/- The interpreter's limit: its equations,and what its answer says of the model's call. -/
import Derived.Test.YtijmhicopfphnaaDoorAbsFix
namespace Go.Abs
set_option linter.unusedVariables false
set_option linter.unusedSimpArgs false
open Go.RowKit
def Ev (p : Nat → Prop) : Prop := ∃ n,∀ m,n ≤ m → p m
theorem Ev.all {p : Nat → Prop} (h : ∀ m,p m) : Ev p := ⟨0,fun m _ => h m⟩
theorem Ev.mono {p q : Nat → Prop} (h : Ev p) (hq : ∀ m,p m → q m) : Ev q := h.imp fun _ hn m hm => hq m (hn m hm)
theorem Ev.mono2 {p q r : Nat → Prop} (h : Ev p) (k : Ev q) (hq : ∀ m,p m → q m → r m) : Ev r := by
 obtain ⟨n,hn⟩ := h
 obtain ⟨n',hn'⟩ := k
 exact ⟨max n n',fun m hm => hq m (hn m (by omega)) (hn' m (by omega))⟩
structure Tends (L : Rec) (Rs : Nat → Rec) : Prop where
 pcall : ∀ f a v,L.pcall f a = some v → Ev fun m => (Rs m).pcall f a = some v
 icall : ∀ f a H v,L.icall f a H = some v → Ev fun m => (Rs m).icall f a H = some v
 loop : ∀ scr b s v,L.loop scr b s = some v → Ev fun m => (Rs m).loop scr b s = some v
section
variable {L : Rec} {Rs : Nat → Rec} (ht : Tends L Rs)
include ht
theorem xDC {f : Nat} {args : List AV} {H : Heap} {r : AV × Heap} (h : xCg L f args H = some r) : Ev fun m => xCg (Rs m) f args H = some r := by
 unfold xCg at h
 split at h
 ·cases h
 rename_i args' hm
 split at h
 ·cases h
 rename_i r' hp
 refine (ht.pcall _ _ _ hp).mono fun m e => ?_
 unfold xCg
 simp only [hm,e]
 exact h
theorem xFP {F : List AV} {H : Heap} {op : AOp} {r : AV × Heap} (h : xAg L F H op = some r) : Ev fun m => xAg (Rs m) F H op = some r := by
 cases op
 case call f args => exact xDC ht h
 case icall f args => exact ht.icall _ _ _ _ h
 case bcall f args =>
  simp only [xAg] at h ⊢
  split at h
  ·rename_i g first e0
   exact ht.icall _ _ _ _ h
  ·cases h
 case fcall f args =>
  simp only [xAg] at h ⊢
  split at h
  ·exact xDC ht h
  ·cases h
 case ocall f args =>
  simp only [xAg] at h ⊢
  split at h
  ·cases h
  rename_i args' hm
  split at h
  ·cases h
  rename_i v B hoc
  unfold xBB at hoc
  split at hoc
  case h_2 => cases hoc
  rename_i r' H' hic
  refine (ht.icall _ _ _ _ hic).mono fun m e => ?_
  have e2 : xBB (Rs m) f args' = some (v,B) := by
   unfold xBB
   simp only [e]; exact hoc
  simp only [hm,e2]
  exact h
 case ofcall f args =>
  simp only [xAg] at h ⊢
  split at h
  case h_2 => cases h
  rename_i g caps hg
  split at h
  ·cases h
  rename_i args' hm
  split at h
  ·cases h
  rename_i v B hoc
  unfold xBB at hoc
  split at hoc
  case h_2 => cases hoc
  rename_i r' H' hic
  refine (ht.icall _ _ _ _ hic).mono fun m e => ?_
  have e2 : xBB (Rs m) g args' = some (v,B) := by
   unfold xBB
   simp only [e]; exact hoc
  simp only [hm,e2]
  exact h
 case ocallw f args =>
  simp only [xAg] at h ⊢
  split at h
  ·cases h
  rename_i args' hm
  split at h
  ·cases h
  rename_i v B hoc
  unfold xDb at hoc
  split at hoc
  case h_2 => cases hoc
  rename_i r' H' hic
  refine (ht.icall _ _ _ _ hic).mono fun m e => ?_
  have e2 : xDb (Rs m) f args' = some (v,B) := by
   unfold xDb
   simp only [e]; exact hoc
  simp only [hm,e2]
  exact h
 all_goals exact .all fun m => h
theorem xFQ {F : List AV} {H : Heap} {op : AOp} {v : AV} (h : xA7 L F H op = some v) : Ev fun m => xA7 (Rs m) F H op = some v := by
 cases op
 case call f args =>
  simp only [xA7] at h ⊢
  split at h
  ·rename_i r H1 hp
   refine (xDC ht hp).mono fun m e => ?_
   rw [e]; exact h
  ·cases h
 case fcall f args =>
  simp only [xA7] at h ⊢
  split at h
  case h_2 => cases h
  split at h
  ·rename_i r H1 hp
   refine (xDC ht hp).mono fun m e => ?_
   rw [e]; exact h
  ·cases h
 case append fz es bytes x y =>
  cases fz
  ·exact .all fun m => h
  ·exact .all fun m => h
 case bslice fz z es n parts =>
  cases fz
  ·exact .all fun m => h
  ·exact .all fun m => h
 case mkslice fz z n l c =>
  cases fz
  ·exact .all fun m => h
  ·exact .all fun m => h
 case sbytes fz x =>
  cases fz
  ·exact .all fun m => h
  ·exact .all fun m => h
 case box x =>
  cases x
  ·exact .all fun m => h
  ·exact .all fun m => h
 all_goals exact .all fun m => h
theorem xEy {o : AOper} {s s' : St} (h : xBt L o s = some s') : Ev fun m => xBt (Rs m) o s = some s' := by
 simp only [xBt] at h ⊢
 split at h
 ·cases h
 ·rename_i hw
  exact .all fun m => h
 ·rename_i hw
  simp only [Option.map_eq_some_iff] at h
  obtain ⟨⟨v,H⟩,h1,rfl⟩ := h
  refine (xFP ht h1).mono fun m e => ?_
  simp [e]
theorem xCi : ∀ {ops : List AOper} {s s' : St},xA9 L ops s = some s' → Ev fun m => xA9 (Rs m) ops s = some s'
 | [],_,_,h => .all fun m => h
 | o :: ops,s,s',h => by
  simp only [xA9] at h ⊢
  split at h
  ·cases h
  ·rename_i s1 h1
   exact (xEy ht h1).mono2 (xCi h) fun m e1 e2 => by simp only [e1,e2]
theorem xHH (hs : List (Nat × Nat × Nat)) : ∀ (ops : List AOper) (k : Nat) (s : St) {s' : St},xA9 L ops s = some s' → xFq L hs k ops s = true → Ev fun m => xFq (Rs m) hs k ops s = true
 | [],_,_,_,_,h => .all fun m => rfl
 | o :: ops,k,s,s',h,hb => by
  simp only [xA9] at h
  split at h
  ·cases h
  ·rename_i s1 h1
   simp only [xFq,h1,Bool.and_eq_true] at hb
   refine (xEy ht h1).mono2 (xHH hs ops (k + 1) s1 h hb.2) fun m e1 e2 => ?_
   simp only [xFq,e1,Bool.and_eq_true]
   exact ⟨hb.1,e2⟩
theorem xEb : ∀ {ops : List AOper} {s s' : St},xBO L ops s = some s' → Ev fun m => xBO (Rs m) ops s = some s'
 | [],_,_,h => .all fun m => h
 | o :: ops,s,s',h => by
  simp only [xBO] at h ⊢
  split at h
  ·cases h
  ·rename_i s1 h1
   have h1' : Ev fun m => xBq (Rs m) o s = some s1 := by
    simp only [xBq] at h1 ⊢
    split at h1
    ·cases h1
    ·exact .all fun m => h1
    ·simp only [Option.map_eq_some_iff] at h1
     obtain ⟨v,g1,rfl⟩ := h1
     refine (xFQ ht g1).mono fun m e => ?_
     simp [e]
   exact h1'.mono2 (xEb h) fun m e1 e2 => by simp only [e1,e2]
theorem xHI {o : AOper} {s s1 : St} (h1 : xBq L o s = some s1) : Ev fun m => xBq (Rs m) o s = some s1 := by
 simp only [xBq] at h1 ⊢
 split at h1
 ·cases h1
 ·exact .all fun m => h1
 ·simp only [Option.map_eq_some_iff] at h1
  obtain ⟨v,g1,rfl⟩ := h1
  refine (xFQ ht g1).mono fun m e => ?_
  simp [e]
theorem xQb {F : List AV} {op : AOp} {r : AV × List Blk} (h : xDh L F op = some r) : Ev fun m => xDh (Rs m) F op = some r := by
 unfold xDh at h
 split at h
 case isFalse => cases h
 rename_i hd
 split at h
 case h_2 => cases h
 rename_i v B hex
 refine (xFP ht hex).mono fun m e => ?_
 unfold xDh
 rw [if_pos hd]
 simp only [e]
 exact h
theorem xCI : ∀ {ops : List AOper} {s : St} {r : St × List Pr},xBa L ops s = some r → Ev fun m => xBa (Rs m) ops s = some r
 | [],_,_,h => .all fun m => h
 | o :: ops,s,r,h => by
  simp only [xBa] at h ⊢
  split at h
  ·rename_i hp
   split at h
   ·rename_i t v B hdst hpv
    simp only [Option.map_eq_some_iff] at h
    obtain ⟨r1,h2,e⟩ := h
    exact (xQb ht hpv).mono2 (xCI h2) fun m e1 e2 => by simp only [hp,if_true,hdst,e1,e2,Option.map_some,e]
   ·cases h
  ·rename_i hp
   split at h
   ·cases h
   rename_i s1 h1
   simp only [Option.map_eq_some_iff] at h
   obtain ⟨r1,h2,e⟩ := h
   exact (xHI ht h1).mono2 (xCI h2) fun m e1 e2 => by simp only [hp,if_false,e1,e2,Option.map_some,e,Bool.false_eq_true]
theorem xDS : ∀ {c : ACode} {s : St} {r : AExit × St},run L c s = some r → Ev fun m => run (Rs m) c s = some r := by
 intro c
 induction c with
 | region ops =>
  intro s r h
  simp only [run,Option.map_eq_some_iff] at h ⊢
  obtain ⟨s1,h1,rfl⟩ := h
  exact (xCi ht h1).mono fun m e => ⟨s1,e,rfl⟩
 | draw k ops =>
  intro s r h
  simp only [run] at h ⊢
  split at h
  ·cases h
  rename_i s1 h1
  simp only [Option.map_eq_some_iff] at h
  obtain ⟨s2,h2,rfl⟩ := h
  exact (xEb ht h1).mono2 (xCi ht h2) fun m e1 e2 => by simp [e1,e2]
 | drawl ls k ops =>
  intro s r h
  simp only [run] at h ⊢
  split at h
  ·cases h
  rename_i s1 h1
  split at h
  case h_2 => cases h
  rename_i s2 h2
  exact (xEb ht h1).mono2 (xCi ht h2) fun m e1 e2 => by simp only [e1,e2]; exact h
 | fz ss b ih =>
  intro s r h
  simp only [run] at h ⊢
  exact ih h
 | fzs i b ih =>
  intro s r h
  simp only [run] at h ⊢
  split at h
  case h_2 => cases h
  rename_i v hv
  exact (ih h).mono fun m e => by first | exact e | (simp only [run,hv]; exact e) | (simp only [hv]; exact e)
 | hole b ih =>
  intro s r h
  simp only [run] at h ⊢
  exact ih h
 | drawt σ als ls k ops =>
  intro s r h
  simp only [run] at h ⊢
  split at h
  ·cases h
  rename_i s1 pl h1
  split at h
  case isFalse => cases h
  rename_i htw
  split at h
  case h_2 => cases h
  rename_i s2 h2
  exact (xCI ht h1).mono2 (xCi ht h2) fun m e1 e2 => by simp only [e1,e2,if_pos htw]; exact h
 | drawh hs als ls k ops =>
  intro s r h
  simp only [run] at h ⊢
  split at h
  ·cases h
  rename_i s1 pl h1
  split at h
  case h_2 => cases h
  rename_i s2 h2
  split at h
  case isFalse => cases h
  rename_i hh
  have hb := xHH ht hs (ops.drop k) k (xBJ als pl s1) h2 hh.2
  have h12 : Ev fun m => xBa (Rs m) (ops.take k) s = some (s1,pl) ∧ xA9 (Rs m) (ops.drop k) (xBJ als pl s1) = some s2 := (xCI ht h1).mono2 (xCi ht h2) fun m e1 e2 => And.intro e1 e2
  refine h12.mono2 hb fun m e e3 => ?_
  simp only [e.1,e.2,if_pos (And.intro hh.1 e3)]
  exact h
 | drawp als ls k ops =>
  intro s r h
  simp only [run] at h ⊢
  split at h
  ·cases h
  rename_i s1 pl h1
  split at h
  case h_2 => cases h
  rename_i s2 h2
  exact (xCI ht h1).mono2 (xCi ht h2) fun m e1 e2 => by simp only [e1,e2]; exact h
 | seq a b iha ihb =>
  intro s r h
  simp only [run] at h ⊢
  split at h
  ·rename_i s1 h1
   exact (iha h1).mono2 (ihb h) fun m e1 e2 => by simp [e1,e2]
  ·rename_i hne
   refine (iha h).mono fun m e1 => ?_
   rw [e1]
   obtain ⟨e,s'⟩ := r
   cases e with
   | normal => exact absurd h (hne _)
   | _ => rfl
 | cond c a b iha ihb =>
  intro s r h
  simp only [run] at h ⊢
  split at h
  ·rename_i t ht'
   cases t
   ·exact (ihb h).mono fun m e => e
   ·exact (iha h).mono fun m e => e
  ·cases h
 | block id b ih =>
  intro s r h
  simp only [run] at h ⊢
  split at h
  ·rename_i i s1 h1
   exact (ih h1).mono fun m e => by simp only [e]; exact h
  ·rename_i hne
   refine (ih h).mono fun m e1 => ?_
   rw [e1]
   obtain ⟨e,s'⟩ := r
   cases e with
   | exit i => exact absurd h (hne _ _)
   | _ => rfl
 | loop scr b ih => intro s r h; exact ht.loop _ _ _ _ h
 | range f ps a b iha ihb =>
  intro s r h
  simp only [run] at h ⊢
  split at h
  case h_2 => cases h
  rename_i g caps hg
  split at h
  case h_2 => cases h
  rename_i v H1 hc
  exact (ht.icall _ _ _ _ hc).mono fun m e => by simp only [e]; exact h
 | scope b ih => intro s r h; exact (ih h).mono fun m e => e
 | _ => intro s r h; exact .all fun m => h
theorem xHJ {fn : AFunc} {args : List AV} {H : Heap} {r : AV × Heap} (h : xB6 L fn args H = some r) : Ev fun m => xB6 (Rs m) fn args H = some r := by
 unfold xB6 at h ⊢
 split at h
 ·rename_i s h1; exact (xDS ht h1).mono fun m e => by simp only [e]; exact h
 ·rename_i s h1; exact (xDS ht h1).mono fun m e => by simp only [e]; exact h
 ·cases h
theorem xME {fn : AFunc} {args : List AV} {r : AV} (h : xBo L fn args = some r) : Ev fun m => xBo (Rs m) fn args = some r := by
 unfold xBo at h ⊢
 split at h
 ·rename_i r H1 h1; exact (xHJ ht h1).mono fun m e => by simp only [e]; exact h
 ·cases h
theorem xMF {l : Nat} {args : List AV} {H : Heap} {r : AV × Heap} (h : xJ5 L l args H = some r) : Ev fun m => xJ5 (Rs m) l args H = some r := by
 unfold xJ5 at h ⊢
 split at h
 case h_2 => cases h
 rename_i pend F0 ps asg body hH
 split at h
 case isFalse => cases h
 rename_i hcond
 split at h
 case h_2 => cases h
 rename_i s1 h1
 split at h
 case h_2 => cases h
 rename_i pend1 F1 ps1 asg1 body1 hH1
 split at h
 case h_2 => cases h
 rename_i e s2 h2
 refine (xDS ht h1).mono2 (xDS ht h2) fun m e1 e2 => ?_
 simp only [if_pos hcond,e1,hH1,e2]
 exact h
theorem xMG {prog : Nat → Option AFunc} {f : AV} {args : List AV} {H : Heap} {r : AV × Heap} (h : xD1 prog L f args H = some r) : Ev fun m => xD1 prog (Rs m) f args H = some r := by
 unfold xD1 at h ⊢
 split at h
 ·rename_i f caps
  cases hp : prog f with
  | none => rw [hp] at h; cases h
  | some fn =>
   rw [hp] at h
   simp only at h ⊢
   exact xHJ ht h
 ·exact xMF ht h
 ·cases h
theorem xQc {scr : List Nat} {b : ACode} {s : St} {r : AExit × St} (h : xH9 L scr b s = some r) : Ev fun m => xH9 (Rs m) scr b s = some r := by
 unfold xH9 at h ⊢
 split at h
 ·rename_i s1 h1
  exact (xDS ht h1).mono2 (ht.loop _ _ _ _ h) fun m e1 e2 => by simp only [e1,e2]
 ·rename_i e s1 hne h1
  refine (xDS ht h1).mono fun m e1 => ?_
  rw [e1]
  cases e with
  | normal => exact (hne rfl).elim
  | _ => exact h
 ·cases h
theorem xB3 (prog : Nat → Option AFunc) : Tends (xDA prog L) (fun m => xDA prog (Rs m)) := by
 refine ⟨fun f a v h => ?_,fun f a H v h => xMG ht h,fun scr b s v h => xQc ht h⟩
 simp only [xDA] at h ⊢
 cases hp : prog f with
 | none => rw [hp] at h; simp only at h ⊢; exact Ev.all fun _ => h
 | some fn =>
  rw [hp] at h
  simp only at h ⊢
  exact xME ht h
end
noncomputable def xYa {α : Type} (p : Nat → Option α) : Option α := open Classical in
 if h : ∃ v,Ev fun m => p m = some v then some (Classical.choose h) else none
theorem xC1 {α : Type} {p : Nat → Option α} {v : α} (h : xYa p = some v) : Ev fun m => p m = some v := by
 unfold xYa at h
 split at h
 ·rename_i hx
  cases h
  exact Classical.choose_spec hx
 ·cases h
theorem xFC {α : Type} {p : Nat → Option α} {v : α} (h : Ev fun m => p m = some v) : xYa p = some v := by
 cases e : xYa p with
 | none =>
  unfold xYa at e
  rw [dif_pos ⟨v,h⟩] at e
  cases e
 | some v' =>
  obtain ⟨n,hn⟩ := h.mono2 (xC1 e) (r := fun m => p m = some v ∧ p m = some v') (fun m a b => ⟨a,b⟩)
  obtain ⟨a,b⟩ := hn n (Nat.le_refl _)
  rw [a] at b
  exact b.symm
noncomputable def lim (prog : Nat → Option AFunc) : Rec where
 pcall f a := xYa fun m => (fix prog m).pcall f a
 icall f a H := xYa fun m => (fix prog m).icall f a H
 loop scr b s := xYa fun m => (fix prog m).loop scr b s
theorem xFR (prog : Nat → Option AFunc) : Tends (lim prog) (fix prog) := ⟨fun _ _ _ h => xC1 h,fun _ _ _ _ h => xC1 h,fun _ _ _ _ h => xC1 h⟩
theorem Ev.shift {p : Nat → Prop} (h : Ev fun m => p (m + 1)) : Ev p := by
 obtain ⟨n,hn⟩ := h
 exact ⟨n + 1,fun m hm => by
  obtain ⟨k,rfl⟩ : ∃ k,m = k + 1 := ⟨m - 1,by omega⟩
  exact hn k (by omega)⟩
variable {prog : Nat → Option AFunc}
theorem xMH {f : Nat} {fn : AFunc} {args : List AV} {v : AV} (hf : prog f = some fn) (h : xBo (lim prog) fn args = some v) : (lim prog).pcall f args = some v := by
 refine xFC (Ev.shift ?_)
 have := (xB3 (xFR prog) prog).pcall f args v (by simp only [xDA,hf]; exact h)
 exact this
theorem xYb {f : Nat} {args : List AV} {v : AV} (hf : prog f = none) (h : primA f args = some v) : (lim prog).pcall f args = some v := by
 refine xFC (Ev.shift ?_)
 have := (xB3 (xFR prog) prog).pcall f args v (by simp only [xDA,hf]; exact h)
 exact this
theorem xMI {f : AV} {args : List AV} {H : Heap} {r : AV × Heap} (h : xD1 prog (lim prog) f args H = some r) : (lim prog).icall f args H = some r := by
 refine xFC (Ev.shift ?_)
 exact (xB3 (xFR prog) prog).icall f args H r h
theorem xQW {scr : List Nat} {b : ACode} {s : St} {r : AExit × St} (h : xH9 (lim prog) scr b s = some r) : (lim prog).loop scr b s = some r := by
 refine xFC (Ev.shift ?_)
 exact (xB3 (xFR prog) prog).loop scr b s r h
theorem Tends.shift {L : Rec} {Rs : Nat → Rec} (h : Tends L (fun m => Rs (m + 1))) : Tends L Rs :=
 ⟨fun f a v e => Ev.shift (h.pcall f a v e),fun f a H v e => Ev.shift (h.icall f a H v e),fun scr b s v e => Ev.shift (h.loop scr b s v e)⟩
theorem xFS (prog : Nat → Option AFunc) : ∀ n,Tends (fix prog n) (fix prog)
 | 0 => ⟨fun _ _ _ h => (by cases h),fun _ _ _ _ h => (by cases h),fun _ _ _ _ h => (by cases h)⟩
 | n + 1 => Tends.shift (xB3 (xFS prog n) prog)
theorem yDi {P : Program} (hp : ProgOk P prog) : RecOk (xA4 P) P (lim prog) ∧ LoopOk P (lim prog) := by
 have get : ∀ {α : Type} {p : Nat → Option α} {v : α},xYa p = some v → ∃ n,p n = some v := fun h => by
  obtain ⟨n,hn⟩ := xC1 h
  exact ⟨n,hn n (Nat.le_refl _)⟩
 refine ⟨⟨?_,?_,?_,?_,?_,?_⟩,⟨?_⟩⟩
 ·intro f args r h; obtain ⟨n,hn⟩ := get h; exact (xFT hp n).1.enters f args r hn
 ·intro f args r h; obtain ⟨n,hn⟩ := get h; exact (xFT hp n).1.pcall f args r hn
 ·intro f caps args H r H' h; obtain ⟨n,hn⟩ := get h; exact (xFT hp n).1.ienters f caps args H r H' hn
 ·intro f caps args H r H' h; obtain ⟨n,hn⟩ := get h; exact (xFT hp n).1.icall f caps args H r H' hn
 ·intro l args H r H' h; obtain ⟨n,hn⟩ := get h; exact (xFT hp n).1.round l args H r H' hn
 ·intro f args H r H' h; obtain ⟨n,hn⟩ := get h; exact (xFT hp n).1.other f args H r H' hn
 ·intro scr b s e s' h; obtain ⟨n,hn⟩ := get h; exact (xFT hp n).2.loop scr b s e s' hn
def yFQ (P : Program) (f : Nat) (af : AFunc) : Bool := match P.funcs[f]? with
 | some fn => xEA P fn af
 | none => false
theorem yBr {P : Program} {f : Nat} {af : AFunc} (h : yFQ P f af = true) : ∃ fn,P.funcs[f]? = some fn ∧ xEA P fn af = true := by
 unfold yFQ at h
 split at h
 ·rename_i fn hf; exact ⟨fn,hf,h⟩
 ·cases h
def xLX (w : World) : Im := fun b => w.heap[b]?
theorem xTq {P : Program} (hp : ProgOk P prog) {f : Nat} {args : List AV} {b : Bool} (h : (lim prog).pcall f args = some (.bool b)) {w : World} {vs : List Value} (hr : Reps (xLX w) xEt args vs) (hg : GlobOk (xLX w)) :
  Calls P f vs.toArray w (fun e w' => e = .returned (.bool b) ∧ Below w.heap.size w w') := by
 have := (yDi hp).1.pcall f args _ h 0 (xLX w) w vs ⟨fun b o hb => hb,hg⟩ hr
 refine (this.mono ?_).calls (fun k => yBH none k)
 rintro e w' ⟨x,im',rfl,h2,h3,h4,h5,h6⟩
 cases h6
 exact ⟨rfl,h5⟩
end Go.Abs
