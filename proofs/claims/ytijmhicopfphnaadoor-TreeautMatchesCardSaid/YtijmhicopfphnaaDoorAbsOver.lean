/- xCu runs with known calls put in. -/
import Derived.Test.YtijmhicopfphnaaDoorAbsWalk
namespace Go.Abs
set_option linter.unusedVariables false
set_option linter.unusedSimpArgs false
def xJu : Nat → AV → AV → Bool
 | 0,_,_ => false
 | d + 1,a,b => match a,b with
  | .int k x,.int k' y => decide (k = k') && x == y
  | .bool x,.bool y => x == y
  | .str s,.str t => s.data.toList == t.data.toList
  | .nilp,.nilp => true
  | .nilf,.nilf => true
  | .func f [],.func g [] => f == g
  | .sl z n cs,.sl z' n' cs' => z == z' && n == n' && cs.length == cs'.length && (cs.zip cs').all fun p => xJu d p.1 p.2
  | .agg cs,.agg cs' => cs.length == cs'.length && (cs.zip cs').all fun p => xJu d p.1 p.2
  | .tup cs,.tup cs' => cs.length == cs'.length && (cs.zip cs').all fun p => xJu d p.1 p.2
  | _,_ => false
theorem xGP {d : Nat} (ih : ∀ a b : AV,xJu d a b = true → a = b) : ∀ cs cs' : List AV,cs.length = cs'.length → (cs.zip cs').all (fun p => xJu d p.1 p.2) = true → cs = cs'
 | [],cs',h1,_ => (List.length_eq_zero_iff.1 h1.symm).symm
 | c :: cs,[],h1,_ => by simp at h1
 | c :: cs,c' :: cs',h1,h2 => by
  simp only [List.zip_cons_cons,List.all_cons,Bool.and_eq_true] at h2
  rw [ih c c' h2.1,xGP ih cs cs' (by simpa using h1) h2.2]
theorem xMr : ∀ (d : Nat) (a b : AV),xJu d a b = true → a = b
 | 0,a,b,h => by simp [xJu] at h
 | d + 1,a,b,h => by
  have hl := xGP (xMr d)
  simp only [xJu] at h
  split at h <;> simp only [Bool.and_eq_true,beq_iff_eq,decide_eq_true_eq,reduceCtorEq] at h
  ·obtain ⟨rfl,rfl⟩ := h; rfl
  ·subst h; rfl
  ·rename_i s t
   obtain ⟨⟨s⟩⟩ := s
   obtain ⟨⟨t⟩⟩ := t
   simp only at h
   subst h; rfl
  ·rfl
  ·rfl
  ·subst h; rfl
  ·obtain ⟨⟨⟨rfl,rfl⟩,h1⟩,h2⟩ := h
   rw [hl _ _ h1 h2]
  ·rw [hl _ _ h.1 h.2]
  ·rw [hl _ _ h.1 h.2]
abbrev Known := List (Nat × List AV × AV)
def xZB : Known → Nat → List AV → Option AV
 | [],_,_ => none
 | (g,as,v) :: r,f,args => if g == f && as.length == args.length && (as.zip args).all (fun p => xJu 8 p.1 p.2) then some v else xZB r f args
theorem xSS {prog : Nat → Option AFunc} : ∀ {T : Known},(∀ e ∈ T,(lim prog).pcall e.1 e.2.1 = some e.2.2) → ∀ {f args v},xZB T f args = some v → (lim prog).pcall f args = some v
 | [],_,f,args,v,h => by cases h
 | (g,as,u) :: r,hT,f,args,v,h => by
  unfold xZB at h
  split at h
  ·rename_i hc
   simp only [Bool.and_eq_true,beq_iff_eq] at hc
   cases h
   have e := xGP (xMr 8) as args hc.1.2 hc.2
   have := hT _ (List.mem_cons_self)
   rw [← e,← hc.1.1]
   exact this
  ·exact xSS (fun e he => hT e (List.mem_cons_of_mem _ he)) h
def yCM (T : Known) (R : Rec) : Rec where
 pcall f args := match xZB T f args with
  | some v => some v
  | none => R.pcall f args
 icall := R.icall
 loop := R.loop
def yCN (prog : Nat → Option AFunc) (T : Known) : Nat → Rec
 | 0 => Rec.none
 | n + 1 => yCM T (xDA prog (yCN prog T n))
theorem xST {prog : Nat → Option AFunc} {T : Known} (hT : ∀ e ∈ T,(lim prog).pcall e.1 e.2.1 = some e.2.2) : ∀ n,Tends (yCN prog T n) (fun _ => lim prog)
 | 0 => ⟨fun f a v h => (by cases h),fun f a H v h => (by cases h),fun scr b s v h => (by cases h)⟩
 | n + 1 => by
  have ih := xB3 (xST hT n) prog
  refine ⟨fun f a v h => .all fun _ => ?_,fun f a H v h => .all fun _ => ?_,fun scr b s v h => .all fun _ => ?_⟩
  ·simp only [yCN,yCM] at h
   split at h
   ·rename_i e
    cases h
    exact xSS hT e
   ·have h2 := (ih.pcall f a v h).const
    simp only [xDA] at h2
    split at h2
    ·rename_i fn hf
     exact xMH hf h2
    ·rename_i hf
     exact xYb hf h2
  ·have h2 := (ih.icall f a H v h).const
   exact xMI h2
  ·have h2 := (ih.loop scr b s v h).const
   exact xQW h2
theorem xZC {prog : Nat → Option AFunc} {T : Known} (hT : ∀ e ∈ T,(lim prog).pcall e.1 e.2.1 = some e.2.2) {n f : Nat} {args : List AV} {v : AV} (h : (yCN prog T n).pcall f args = some v) : (lim prog).pcall f args = some v :=
 ((xST hT n).pcall f args v h).const
def yBd (prog : Nat → Option AFunc) (T : Known) (n f : Nat) (args : List AV) (v : AV) : Bool := match (yCN prog T n).pcall f args with
 | some u => xJu 8 u v
 | none => false
theorem xW8 {prog : Nat → Option AFunc} {T : Known} (hT : ∀ e ∈ T,(lim prog).pcall e.1 e.2.1 = some e.2.2) {n f : Nat} {args : List AV} {v : AV} (h : yBd prog T n f args v = true) : (lim prog).pcall f args = some v := by
 unfold yBd at h
 split at h
 ·rename_i u e
  rw [xZC hT e,xMr 8 u v h]
 ·cases h
theorem xBD {prog : Nat → Option AFunc} {T : Known} (hT : ∀ e ∈ T,(lim prog).pcall e.1 e.2.1 = some e.2.2) {f : Nat} {args : List AV} {v : AV} (h : (lim prog).pcall f args = some v) : ∀ e ∈ (f,args,v) :: T,(lim prog).pcall e.1 e.2.1 = some e.2.2 := by
 intro e he
 rcases List.mem_cons.1 he with rfl | he
 ·exact h
 ·exact hT e he
theorem xW9 {prog : Nat → Option AFunc} : ∀ e ∈ ([] : Known),(lim prog).pcall e.1 e.2.1 = some e.2.2 := fun e he => by cases he
end Go.Abs
