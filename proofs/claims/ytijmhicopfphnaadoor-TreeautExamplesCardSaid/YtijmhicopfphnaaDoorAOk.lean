/- The program's functions are what the tables say. -/
import Derived.Test.YtijmhicopfphnaaDoorAProg
namespace Go.Abs.Tree
open Go Go.Abs
theorem progOk : ProgOk Go.Proofs.Tryd.prog xAo where
 mixed := by kernel_rfl
 prim f g args v h := by simp [yCE] at h
 ok f af h := by
  unfold xAo at h
  split at h
  all_goals first
   | (cases h; done)
   | (cases h; exact yCj (by kernel_rfl))
end Go.Abs.Tree
