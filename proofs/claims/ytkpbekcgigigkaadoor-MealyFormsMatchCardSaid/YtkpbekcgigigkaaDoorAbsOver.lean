/- xCp runs with known calls put in. -/
import Derived.Test.YtkpbekcgigigkaaDoorAbsWalk
namespace Go.Abs
set_option linter.unusedVariables false
set_option linter.unusedSimpArgs false
def xJe : Nat → AV → AV → Bool
 | 0,_,_ => false
 | d + 1,a,b => match a,b with
  | .int k x,.int k' y => decide (k = k') && x == y
  | .bool x,.bool y => x == y
  | .str s,.str t => s.data.toList == t.data.toList
  | .nilp,.nilp => true
  | .nilf,.nilf => true
  | .func f [],.func g [] => f == g
  | .sl z n cs,.sl z' n' cs' => z == z' && n == n' && cs.length == cs'.length && (cs.zip cs').all fun p => xJe d p.1 p.2
  | .agg cs,.agg cs' => cs.length == cs'.length && (cs.zip cs').all fun p => xJe d p.1 p.2
  | .tup cs,.tup cs' => cs.length == cs'.length && (cs.zip cs').all fun p => xJe d p.1 p.2
  | _,_ => false
theorem xGs {d : Nat} (ih : ∀ a b : AV,xJe d a b = true → a = b) : ∀ cs cs' : List AV,cs.length = cs'.length → (cs.zip cs').all (fun p => xJe d p.1 p.2) = true → cs = cs'
 | [],cs',h1,_ => (List.length_eq_zero_iff.1 h1.symm).symm
 | c :: cs,[],h1,_ => by simp at h1
 | c :: cs,c' :: cs',h1,h2 => by
  simp only [List.zip_cons_cons,List.all_cons,Bool.and_eq_true] at h2
  rw [ih c c' h2.1,xGs ih cs cs' (by simpa using h1) h2.2]
theorem xMV : ∀ (d : Nat) (a b : AV),xJe d a b = true → a = b
 | 0,a,b,h => by simp [xJe] at h
 | d + 1,a,b,h => by
  have hl := xGs (xMV d)
  simp only [xJe] at h
  split at h <;> simp only [Bool.and_eq_true,beq_iff_eq,decide_eq_true_eq,reduceCtorEq] at h
  ·obtain ⟨rfl,rfl⟩ := h; rfl
  ·subst h; rfl
  ·rename_i s t
   obtain ⟨⟨s⟩⟩ := s
   obtain ⟨⟨t⟩⟩ := t
   simp only at h
   subst h; rfl
  ·rfl
  ·rfl
  ·subst h; rfl
  ·obtain ⟨⟨⟨rfl,rfl⟩,h1⟩,h2⟩ := h
   rw [hl _ _ h1 h2]
  ·rw [hl _ _ h.1 h.2]
  ·rw [hl _ _ h.1 h.2]
abbrev Known := List (Nat × List AV × AV)
def yAn : Known → Nat → List AV → Option AV
 | [],_,_ => none
 | (g,as,v) :: r,f,args => if g == f && as.length == args.length && (as.zip args).all (fun p => xJe 8 p.1 p.2) then some v else yAn r f args
theorem xTa {prog : Nat → Option AFunc} : ∀ {T : Known},(∀ e ∈ T,(lim prog).pcall e.1 e.2.1 = some e.2.2) → ∀ {f args v},yAn T f args = some v → (lim prog).pcall f args = some v
 | [],_,f,args,v,h => by cases h
 | (g,as,u) :: r,hT,f,args,v,h => by
  unfold yAn at h
  split at h
  ·rename_i hc
   simp only [Bool.and_eq_true,beq_iff_eq] at hc
   cases h
   have e := xGs (xMV 8) as args hc.1.2 hc.2
   have := hT _ (List.mem_cons_self)
   rw [← e,← hc.1.1]
   exact this
  ·exact xTa (fun e he => hT e (List.mem_cons_of_mem _ he)) h
def yDt (T : Known) (R : Rec) : Rec where
 pcall f args := match yAn T f args with
  | some v => some v
  | none => R.pcall f args
 icall := R.icall
 loop := R.loop
def yDu (prog : Nat → Option AFunc) (T : Known) : Nat → Rec
 | 0 => Rec.none
 | n + 1 => yDt T (xCX prog (yDu prog T n))
theorem xTb {prog : Nat → Option AFunc} {T : Known} (hT : ∀ e ∈ T,(lim prog).pcall e.1 e.2.1 = some e.2.2) : ∀ n,Tends (yDu prog T n) (fun _ => lim prog)
 | 0 => ⟨fun f a v h => (by cases h),fun f a H v h => (by cases h),fun scr b s v h => (by cases h)⟩
 | n + 1 => by
  have ih := xBo (xTb hT n) prog
  refine ⟨fun f a v h => .all fun _ => ?_,fun f a H v h => .all fun _ => ?_,fun scr b s v h => .all fun _ => ?_⟩
  ·simp only [yDu,yDt] at h
   split at h
   ·rename_i e
    cases h
    exact xTa hT e
   ·have h2 := (ih.pcall f a v h).const
    simp only [xCX] at h2
    split at h2
    ·rename_i fn hf
     exact xNl hf h2
    ·rename_i hf
     exact xRg hf h2
  ·have h2 := (ih.icall f a H v h).const
   exact xNm h2
  ·have h2 := (ih.loop scr b s v h).const
   exact xRh h2
theorem yAo {prog : Nat → Option AFunc} {T : Known} (hT : ∀ e ∈ T,(lim prog).pcall e.1 e.2.1 = some e.2.2) {n f : Nat} {args : List AV} {v : AV} (h : (yDu prog T n).pcall f args = some v) : (lim prog).pcall f args = some v :=
 ((xTb hT n).pcall f args v h).const
def yB8 (prog : Nat → Option AFunc) (T : Known) (n f : Nat) (args : List AV) (v : AV) : Bool := match (yDu prog T n).pcall f args with
 | some u => xJe 8 u v
 | none => false
theorem xXQ {prog : Nat → Option AFunc} {T : Known} (hT : ∀ e ∈ T,(lim prog).pcall e.1 e.2.1 = some e.2.2) {n f : Nat} {args : List AV} {v : AV} (h : yB8 prog T n f args v = true) : (lim prog).pcall f args = some v := by
 unfold yB8 at h
 split at h
 ·rename_i u e
  rw [yAo hT e,xMV 8 u v h]
 ·cases h
theorem xXR {prog : Nat → Option AFunc} : ∀ e ∈ ([] : Known),(lim prog).pcall e.1 e.2.1 = some e.2.2 := fun e he => by cases he
end Go.Abs
