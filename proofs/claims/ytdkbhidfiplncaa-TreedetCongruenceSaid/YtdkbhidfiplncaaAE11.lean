/- TreedetCongruence on what fits. -/
import Derived.Test.YtdkbhidfiplncaaAE10
import Derived.Test.YtdkbhidfiplncaaAFit
namespace Go.Abs.Det
open Go Go.Abs

theorem law7t (avs : List AV) (h : FitTs [TDfa] avs) : L.pcall 7 avs = some (.bool true) := by
  obtain ⟨_, r, rfl, h0, h⟩ := fitTs_cons h
  obtain rfl := fitTs_nil h
  obtain ⟨d, rfl⟩ := fit_dfa h0
  exact law7 d
end Go.Abs.Det
