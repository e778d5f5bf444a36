/- The program's functions are what the tables say. -/
import Derived.Test.YtbfnjdhafgnlnaaDoorAProg
namespace Go.Abs.NfaD
open Go Go.Abs
theorem progOk : ProgOk Go.Proofs.Tryd.prog xAS where
 mixed := by kernel_rfl
 prim f g args v h := by simp [yBi] at h
 ok f af h := by
  unfold xAS at h
  split at h
  all_goals first
   | (cases h; done)
   | (cases h; exact yAX (by kernel_rfl))
end Go.Abs.NfaD
