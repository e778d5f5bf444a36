/- The program's functions are what the tables say. -/
import Derived.Test.YtijmhicopfphnaaDoorAProg
namespace Go.Abs.Tree
open Go Go.Abs
theorem progOk : ProgOk Go.Proofs.Tryd.prog xAU where
 mixed := by kernel_rfl
 prim f g args v h := by simp [yBM] at h
 ok f af h := by
  unfold xAU at h
  split at h
  all_goals first
   | (cases h; done)
   | (cases h; exact yBr (by kernel_rfl))
end Go.Abs.Tree
