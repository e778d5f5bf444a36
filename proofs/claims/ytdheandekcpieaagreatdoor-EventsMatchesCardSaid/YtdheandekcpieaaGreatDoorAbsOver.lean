/- xGa runs with known calls put in. -/
import Derived.Test.YtdheandekcpieaaGreatDoorAbsWalk
namespace Go.Abs
set_option linter.unusedVariables false
set_option linter.unusedSimpArgs false
def xIh : Nat → AV → AV → Bool
 | 0,_,_ => false
 | d + 1,a,b => match a,b with
  | .int k x,.int k' y => decide (k = k') && x == y
  | .bool x,.bool y => x == y
  | .str s,.str t => s.data.toList == t.data.toList
  | .nilp,.nilp => true
  | .nilf,.nilf => true
  | .func f [],.func g [] => f == g
  | .sl z n cs,.sl z' n' cs' => z == z' && n == n' && cs.length == cs'.length && (cs.zip cs').all fun p => xIh d p.1 p.2
  | .agg cs,.agg cs' => cs.length == cs'.length && (cs.zip cs').all fun p => xIh d p.1 p.2
  | .tup cs,.tup cs' => cs.length == cs'.length && (cs.zip cs').all fun p => xIh d p.1 p.2
  | _,_ => false
theorem xIJ {d : Nat} (ih : ∀ a b : AV,xIh d a b = true → a = b) : ∀ cs cs' : List AV,cs.length = cs'.length → (cs.zip cs').all (fun p => xIh d p.1 p.2) = true → cs = cs'
 | [],cs',h1,_ => (List.length_eq_zero_iff.1 h1.symm).symm
 | c :: cs,[],h1,_ => by simp at h1
 | c :: cs,c' :: cs',h1,h2 => by
  simp only [List.zip_cons_cons,List.all_cons,Bool.and_eq_true] at h2
  rw [ih c c' h2.1,xIJ ih cs cs' (by simpa using h1) h2.2]
theorem xO1 : ∀ (d : Nat) (a b : AV),xIh d a b = true → a = b
 | 0,a,b,h => by simp [xIh] at h
 | d + 1,a,b,h => by
  have hl := xIJ (xO1 d)
  simp only [xIh] at h
  split at h <;> simp only [Bool.and_eq_true,beq_iff_eq,decide_eq_true_eq,reduceCtorEq] at h
  ·obtain ⟨rfl,rfl⟩ := h; rfl
  ·subst h; rfl
  ·rename_i s t
   obtain ⟨⟨s⟩⟩ := s
   obtain ⟨⟨t⟩⟩ := t
   simp only at h
   subst h; rfl
  ·rfl
  ·rfl
  ·subst h; rfl
  ·obtain ⟨⟨⟨rfl,rfl⟩,h1⟩,h2⟩ := h
   rw [hl _ _ h1 h2]
  ·rw [hl _ _ h.1 h.2]
  ·rw [hl _ _ h.1 h.2]
abbrev xSp := List (Nat × List AV × AV)
def yBp : xSp → Nat → List AV → Option AV
 | [],_,_ => none
 | (g,as,v) :: r,f,args => if g == f && as.length == args.length && (as.zip args).all (fun p => xIh 8 p.1 p.2) then some v else yBp r f args
def xY8 (T : xSp) (R : Rec) : Rec where
 pcall f args := match yBp T f args with
  | some v => some v
  | none => R.pcall f args
 icall := R.icall
 loop := R.loop
def yBq (prog : Nat → Option AFunc) (T : xSp) : Nat → Rec
 | 0 => Rec.none
 | n + 1 => xY8 T (xCO prog (yBq prog T n))
end Go.Abs
