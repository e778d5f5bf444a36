/- MealyExamples: the closed run. -/
import Derived.Test.YtkpbekcgigigkaaDoorAKX
import Derived.Test.YtkpbekcgigigkaaDoorAbsIn
namespace Go.Abs.Mealy
open Go Go.Abs

theorem law8 (avs : List AV) (h : FitTs [] avs) : (lim aprog).pcall 8 avs = some (.bool true) := by
  cases avs with
  | nil => exact k2
  | cons a l => simp [FitTs] at h
end Go.Abs.Mealy
