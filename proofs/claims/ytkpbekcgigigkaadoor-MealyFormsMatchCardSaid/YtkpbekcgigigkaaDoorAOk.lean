/- The program's functions are what the tables say. -/
import Derived.Test.YtkpbekcgigigkaaDoorAProg
import Derived.Test.YtkpbekcgigigkaaDoorAS3
namespace Go.Abs.Mealy
open Go Go.Abs
theorem progOk : ProgOk Go.Proofs.Tryd.prog xAq where
 mixed := by kernel_rfl
 prim := Go.Proofs.Tx.primOk
 ok f af h := by
  unfold xAq at h
  split at h
  all_goals first
   | (cases h; done)
   | (cases h; exact yCt (by kernel_rfl))
end Go.Abs.Mealy
