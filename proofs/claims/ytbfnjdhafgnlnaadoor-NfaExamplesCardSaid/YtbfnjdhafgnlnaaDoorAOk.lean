/- The program's functions are what the tables say. -/
import Derived.Test.YtbfnjdhafgnlnaaDoorAProg
namespace Go.Abs.NfaD
open Go Go.Abs
theorem progOk : ProgOk Go.Proofs.Tryd.prog xAV where
  mixed := by kernel_rfl
  prim f g args v h := by simp [xWH] at h
  ok f af h := by
    unfold xAV at h
    split at h
    all_goals first
      | (cases h; done)
      | (cases h; exact xWp (by kernel_rfl))
end Go.Abs.NfaD
