/- The reference's nodes; equal formulas; bytes copied and overwritten. -/
import Derived.Test.YtdheandekcpieaaDoorAbsBun
import Derived.Test.YtdheandekcpieaaDoorAME
import Derived.Laws.Strings
namespace Go.Abs.Events
open Go Go.Abs
set_option linter.unusedSimpArgs false
set_option linter.unusedVariables false
section
variable {fs : List Nd} {z : Bool}
end
section
variable {z1 z2 : Bool} {l : List Int}
variable {fs : List Nd}
end
section
variable {fs : List Nd} {z : Bool} {n : Nd}
end
section
variable {fs : List Nd} {z : Bool}
variable {bd p b : Nat} {G : Heap} {s0 : AV} {n : Nd}
end
section
variable {fz : Bool} {fs : List Nd}
end
section
variable {n : Nd} {G : Heap} {p : Nat}
end
section
variable {z zs : Bool} {fs : List Nd} {ss : List Nat}
end
section
variable {z : Bool} {fs : List Nd} {b : AV} {G : Heap}
end
section
variable {o : Nat} {B : List Nat} {G : Heap} {fs : List Nd} {z : Bool}
end
section
variable {fs : List Nd} {B : List Nat} {o : Nat} {G : Heap}
end
def wth (x a v : Nat) : Nat := if x = 8 then v * 64 + a % 64 else if x = 9 then a / 64 * 64 + v * 8 + a % 8 else a / 8 * 8 + v
section
variable {n : Nd} {e : Ev} {G : Heap} {p q a : Nat}
end
section
variable {q : Q} {z : Bool} {ob : Nat} {s0 s1 s5 s8 s9 s10 s11 : AV}
end
theorem xEf {x a v : Nat} (ha : a < 512) (hv : v < 8) : wth x a v < 512 := by
 unfold wth
 split
 ·omega
 ·split <;> omega
theorem yAC {x a v : Nat} (hx : x = 8 ∨ x = 9 ∨ x = 10) (ha : a < 512) (hv : v < 8) : kx x (wth x a v) = kx x a := by
 unfold wth kx
 rcases hx with rfl | rfl | rfl <;> simp <;> omega
theorem yAD {x a s : Nat} (hx : x = 8 ∨ x = 9 ∨ x = 10) (ha : a < 512) (hs : s < 512) (h : kx x a = kx x s) : s = wth x a (dg x s) ∧ dg x s < 8 := by
 refine ⟨?_,yAr hs⟩
 unfold wth dg
 unfold kx at h
 rcases hx with rfl | rfl | rfl <;> simp at h ⊢ <;> omega
def avQ (x : Nat) (q : Q) (a v : Nat) : Bool := (List.range v).any fun w => q (wth x a w)
theorem xPv {x a : Nat} (hx : x = 8 ∨ x = 9 ∨ x = 10) (q : Q) (ha : a < 512) : avQ x q a 8 = exQ x q a := by
 unfold avQ exQ oQ
 rw [Bool.eq_iff_iff,List.any_eq_true,List.any_eq_true]
 constructor
 ·rintro ⟨v,hv,h⟩
  have hv := List.mem_range.1 hv
  refine ⟨wth x a v,List.mem_range.2 (xEf ha hv),?_⟩
  rw [yAC hx ha hv,h]; simp
 ·rintro ⟨s,hs,h⟩
  have hs := List.mem_range.1 hs
  simp only [Bool.and_eq_true,beq_iff_eq] at h
  have := yAD hx ha hs h.2
  refine ⟨dg x s,List.mem_range.2 this.2,?_⟩
  rw [← this.1]; exact h.1
section
variable {q : Q} {qs : List Q} {n : Nd} {G : Heap} {ro rb nb a A x : Nat} {r : List Bool} {s0 s1 s5 s9 s10 s11 : AV}
end
end Go.Abs.Events
