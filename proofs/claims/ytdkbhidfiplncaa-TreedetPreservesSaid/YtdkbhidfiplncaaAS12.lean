/- TreedetPreserves on what fits. -/
import Derived.Test.YtdkbhidfiplncaaAS11
import Derived.Test.YtdkbhidfiplncaaAFit
namespace Go.Abs.Det
open Go Go.Abs

theorem law6t (avs : List AV) (h : FitTs [TDfa, TTr] avs) : L.pcall 6 avs = some (.bool true) := by
  obtain ⟨_, r, rfl, h0, h⟩ := fitTs_cons h
  obtain ⟨_, r, rfl, h1, h⟩ := fitTs_cons h
  obtain rfl := fitTs_nil h
  obtain ⟨d, rfl⟩ := fit_dfa h0
  obtain ⟨z, t, rfl, hx⟩ := fit_tree (fitT_one h1)
  exact law6 d z t hx
end Go.Abs.Det
