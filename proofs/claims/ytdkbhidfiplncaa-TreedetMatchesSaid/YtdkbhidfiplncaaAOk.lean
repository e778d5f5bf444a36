/- The program's functions are what the tables say. -/
import Derived.Test.YtdkbhidfiplncaaAProg
namespace Go.Abs.Det
open Go Go.Abs
theorem progOk : ProgOk Go.Proofs.Try.prog xAi where
 mixed := by kernel_rfl
 ok f af h := by
  unfold xAi at h
  split at h
  all_goals first
   | (cases h; done)
   | (cases h; exact yDW (by kernel_rfl))
end Go.Abs.Det
