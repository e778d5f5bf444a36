/- Fitting data as lists of numbers. -/
import Derived.Test.YtijmhicopfphnaaDoorAbsLaw
import Derived.Test.YtijmhicopfphnaaDoorAbsEnc
namespace Go.Abs
set_option linter.unusedVariables false
set_option linter.unusedSimpArgs false
theorem xXi {a : AV} (h : Fit (.int .u8) a) : ∃ n : Nat,a = .int .u8 (n : Nat) ∧ n < 256 := by
 cases h with
 | @int k n h1 h2 =>
  have e1 : IntKind.u8.min = 0 := rfl
  have e2 : IntKind.u8.max = 255 := rfl
  rw [e1] at h1; rw [e2] at h2
  exact ⟨n.toNat,by rw [Int.toNat_of_nonneg h1],by omega⟩
theorem xE6 {a : AV} (h : Fit (.int .i64) a) : ∃ n : Int,a = .int .i64 n ∧ -9223372036854775808 ≤ n ∧ n ≤ 9223372036854775807 := by
 cases h with
 | @int k n h1 h2 => exact ⟨n,rfl,h1,h2⟩
theorem xT9 {avs : List AV} (h : FitAll [] avs) : avs = [] := List.length_eq_zero_iff.1 h.1
theorem xDy {c : CS} {cs : List CS} {avs : List AV} (h : FitAll (c :: cs) avs) : ∃ a as,avs = a :: as ∧ Fit c a ∧ FitAll cs as := by
 cases avs with
 | nil => have := h.1; simp at this
 | cons a as => exact ⟨a,as,rfl,h.2 0 c a rfl rfl,by have := h.1; simpa using this,fun i c' a' h1 h2 => h.2 (i + 1) c' a' h1 h2⟩
theorem yCU {c : CS} {a : AV} (h : Fit (.sl [c]) a) : ∃ z cs,a = .sl z cs.length cs ∧ (z = true → cs = []) ∧ cs.length ≤ maxLen ∧ ∀ x ∈ cs,Fit c x := by
 cases h with
 | nil => exact ⟨true,[],rfl,fun _ => rfl,by simp,by simp⟩
 | @sl _ rows hn hl hr =>
  have hlen : rows.flatten.length = rows.length := by rw [xHv rows hl]; simp
  refine ⟨false,rows.flatten,by rw [hlen],by simp,by omega,fun x hx => ?_⟩
  obtain ⟨r,hr',hx⟩ := List.mem_flatten.1 hx
  have h1 := hl r hr'
  match r,h1 with
  | [y],_ =>
   simp at hx
   subst hx
   exact hr [x] hr' 0 c x rfl rfl
theorem xZF {c : CS} {a : AV} (h : xUk ⟨false,[c]⟩ a) : Fit c a := by
 unfold xUk at h
 rw [if_neg (by simp)] at h
 exact h.2 0 c a rfl rfl
theorem xXj {css : List CS} {a : AV} (h : xUk ⟨true,css⟩ a) : ∃ cs,a = .agg cs ∧ FitAll css cs := by
 unfold xUk at h
 rw [if_pos rfl] at h
 exact h
theorem xXk {as : List AV} (h : xQa [] as) : as = [] := by
 cases as with
 | nil => rfl
 | cons _ _ => exact h.elim
theorem xLL {T : TS} {Ts : List TS} {as : List AV} (h : xQa (T :: Ts) as) : ∃ a as',as = a :: as' ∧ xUk T a ∧ xQa Ts as' := by
 cases as with
 | nil => exact h.elim
 | cons a as => exact ⟨a,as,rfl,h.1,h.2⟩
end Go.Abs
