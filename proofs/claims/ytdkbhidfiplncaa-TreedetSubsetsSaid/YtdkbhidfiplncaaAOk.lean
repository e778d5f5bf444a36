/- The program's functions are what the tables say. -/
import Derived.Test.YtdkbhidfiplncaaAProg
namespace Go.Abs.Det
open Go Go.Abs

theorem progOk : ProgOk Go.Proofs.Try.prog xAE where
  mixed := by kernel_rfl
  ok f af h := by
    unfold xAE at h
    split at h
    all_goals first
      | (cases h; done)
      | (cases h; exact xW1 (by kernel_rfl))
end Go.Abs.Det
