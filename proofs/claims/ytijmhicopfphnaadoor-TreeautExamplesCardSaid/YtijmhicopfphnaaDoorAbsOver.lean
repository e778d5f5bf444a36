/- xIY runs with known calls put in. -/
import Derived.Test.YtijmhicopfphnaaDoorAbsWalk
namespace Go.Abs
set_option linter.unusedVariables false
set_option linter.unusedSimpArgs false
def xOz : Nat → AV → AV → Bool
 | 0,_,_ => false
 | d + 1,a,b => match a,b with
  | .int k x,.int k' y => decide (k = k') && x == y
  | .bool x,.bool y => x == y
  | .str s,.str t => s.data.toList == t.data.toList
  | .nilp,.nilp => true
  | .nilf,.nilf => true
  | .func f [],.func g [] => f == g
  | .sl z n cs,.sl z' n' cs' => z == z' && n == n' && cs.length == cs'.length && (cs.zip cs').all fun p => xOz d p.1 p.2
  | .agg cs,.agg cs' => cs.length == cs'.length && (cs.zip cs').all fun p => xOz d p.1 p.2
  | .tup cs,.tup cs' => cs.length == cs'.length && (cs.zip cs').all fun p => xOz d p.1 p.2
  | _,_ => false
theorem xMX {d : Nat} (ih : ∀ a b : AV,xOz d a b = true → a = b) : ∀ cs cs' : List AV,cs.length = cs'.length → (cs.zip cs').all (fun p => xOz d p.1 p.2) = true → cs = cs'
 | [],cs',h1,_ => (List.length_eq_zero_iff.1 h1.symm).symm
 | c :: cs,[],h1,_ => by simp at h1
 | c :: cs,c' :: cs',h1,h2 => by
  simp only [List.zip_cons_cons,List.all_cons,Bool.and_eq_true] at h2
  rw [ih c c' h2.1,xMX ih cs cs' (by simpa using h1) h2.2]
theorem xQp : ∀ (d : Nat) (a b : AV),xOz d a b = true → a = b
 | 0,a,b,h => by simp [xOz] at h
 | d + 1,a,b,h => by
  have hl := xMX (xQp d)
  simp only [xOz] at h
  split at h <;> simp only [Bool.and_eq_true,beq_iff_eq,decide_eq_true_eq,reduceCtorEq] at h
  ·obtain ⟨rfl,rfl⟩ := h; rfl
  ·subst h; rfl
  ·rename_i s t
   obtain ⟨⟨s⟩⟩ := s
   obtain ⟨⟨t⟩⟩ := t
   simp only at h
   subst h; rfl
  ·rfl
  ·rfl
  ·subst h; rfl
  ·obtain ⟨⟨⟨rfl,rfl⟩,h1⟩,h2⟩ := h
   rw [hl _ _ h1 h2]
  ·rw [hl _ _ h.1 h.2]
  ·rw [hl _ _ h.1 h.2]
abbrev Known := List (Nat × List AV × AV)
def yA8 : Known → Nat → List AV → Option AV
 | [],_,_ => none
 | (g,as,v) :: r,f,args => if g == f && as.length == args.length && (as.zip args).all (fun p => xOz 8 p.1 p.2) then some v else yA8 r f args
theorem xU5 {prog : Nat → Option AFunc} : ∀ {T : Known},(∀ e ∈ T,(lim prog).pcall e.1 e.2.1 = some e.2.2) → ∀ {f args v},yA8 T f args = some v → (lim prog).pcall f args = some v
 | [],_,f,args,v,h => by cases h
 | (g,as,u) :: r,hT,f,args,v,h => by
  unfold yA8 at h
  split at h
  ·rename_i hc
   simp only [Bool.and_eq_true,beq_iff_eq] at hc
   cases h
   have e := xMX (xQp 8) as args hc.1.2 hc.2
   have := hT _ (List.mem_cons_self)
   rw [← e,← hc.1.1]
   exact this
  ·exact xU5 (fun e he => hT e (List.mem_cons_of_mem _ he)) h
def yD1 (T : Known) (R : Rec) : Rec where
 pcall f args := match yA8 T f args with
  | some v => some v
  | none => R.pcall f args
 icall := R.icall
 loop := R.loop
def yD2 (prog : Nat → Option AFunc) (T : Known) : Nat → Rec
 | 0 => Rec.none
 | n + 1 => yD1 T (xJE prog (yD2 prog T n))
theorem xU6 {prog : Nat → Option AFunc} {T : Known} (hT : ∀ e ∈ T,(lim prog).pcall e.1 e.2.1 = some e.2.2) : ∀ n,Tends (yD2 prog T n) (fun _ => lim prog)
 | 0 => ⟨fun f a v h => (by cases h),fun f a H v h => (by cases h),fun scr b s v h => (by cases h)⟩
 | n + 1 => by
  have ih := xGL (xU6 hT n) prog
  refine ⟨fun f a v h => .all fun _ => ?_,fun f a H v h => .all fun _ => ?_,fun scr b s v h => .all fun _ => ?_⟩
  ·simp only [yD2,yD1] at h
   split at h
   ·rename_i e
    cases h
    exact xU5 hT e
   ·have h2 := (ih.pcall f a v h).const
    simp only [xJE] at h2
    split at h2
    ·rename_i fn hf
     exact xQC hf h2
    ·rename_i hf
     exact xZr hf h2
  ·have h2 := (ih.icall f a H v h).const
   exact xQD h2
  ·have h2 := (ih.loop scr b s v h).const
   exact xTM h2
theorem yA9 {prog : Nat → Option AFunc} {T : Known} (hT : ∀ e ∈ T,(lim prog).pcall e.1 e.2.1 = some e.2.2) {n f : Nat} {args : List AV} {v : AV} (h : (yD2 prog T n).pcall f args = some v) : (lim prog).pcall f args = some v :=
 ((xU6 hT n).pcall f args v h).const
def yCb (prog : Nat → Option AFunc) (T : Known) (n f : Nat) (args : List AV) (v : AV) : Bool := match (yD2 prog T n).pcall f args with
 | some u => xOz 8 u v
 | none => false
theorem xYM {prog : Nat → Option AFunc} {T : Known} (hT : ∀ e ∈ T,(lim prog).pcall e.1 e.2.1 = some e.2.2) {n f : Nat} {args : List AV} {v : AV} (h : yCb prog T n f args v = true) : (lim prog).pcall f args = some v := by
 unfold yCb at h
 split at h
 ·rename_i u e
  rw [yA9 hT e,xQp 8 u v h]
 ·cases h
theorem xE7 {prog : Nat → Option AFunc} {T : Known} (hT : ∀ e ∈ T,(lim prog).pcall e.1 e.2.1 = some e.2.2) {f : Nat} {args : List AV} {v : AV} (h : (lim prog).pcall f args = some v) : ∀ e ∈ (f,args,v) :: T,(lim prog).pcall e.1 e.2.1 = some e.2.2 := by
 intro e he
 rcases List.mem_cons.1 he with rfl | he
 ·exact h
 ·exact hT e he
theorem xYN {prog : Nat → Option AFunc} : ∀ e ∈ ([] : Known),(lim prog).pcall e.1 e.2.1 = some e.2.2 := fun e he => by cases he
end Go.Abs
