/- Fitting data as lists of numbers. -/
import Derived.Test.YtdheandekcpieaaDoorAbsLaw
import Derived.Test.YtdheandekcpieaaDoorAbsEnc
namespace Go.Abs
set_option linter.unusedVariables false
set_option linter.unusedSimpArgs false
theorem xVv {c : CS} {a : AV} (h : xV8 ⟨false,[c]⟩ a) : Fit c a := by
 unfold xV8 at h
 rw [if_neg (by simp)] at h
 exact h.2 0 c a rfl rfl
theorem xTu {as : List AV} (h : xLc [] as) : as = [] := by
 cases as with
 | nil => rfl
 | cons _ _ => exact h.elim
theorem xQC {T : TS} {Ts : List TS} {as : List AV} (h : xLc (T :: Ts) as) : ∃ a as',as = a :: as' ∧ xV8 T a ∧ xLc Ts as' := by
 cases as with
 | nil => exact h.elim
 | cons a as => exact ⟨a,as,rfl,h.1,h.2⟩
end Go.Abs
