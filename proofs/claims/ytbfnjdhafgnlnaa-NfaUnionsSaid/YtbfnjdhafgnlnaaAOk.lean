/- The program's functions are what the tables say. -/
import Derived.Test.YtbfnjdhafgnlnaaAProg
namespace Go.Abs.Nfa
open Go Go.Abs

theorem progOk : ProgOk Go.Proofs.Try.prog xDM where
  mixed := by kernel_rfl
  ok f af h := by
    unfold xDM at h
    split at h
    all_goals first
      | (cases h; done)
      | (cases h; exact xSZ (by kernel_rfl))
end Go.Abs.Nfa
