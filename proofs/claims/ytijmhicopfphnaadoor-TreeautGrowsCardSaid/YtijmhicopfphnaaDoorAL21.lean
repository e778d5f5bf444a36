/- Law 7 on what fits. -/
import Derived.Test.YtijmhicopfphnaaDoorAL9
import Derived.Test.YtijmhicopfphnaaDoorALF
namespace Go.Abs.Tree
open Go Go.Abs

theorem law7t (avs : List AV) (h : FitTs [TAut, TTree, TN2] avs) : L.pcall 7 avs = some (.bool true) := by
  obtain ⟨_, r, rfl, h0, h⟩ := fitTs_cons h
  obtain ⟨_, r, rfl, h1, h⟩ := fitTs_cons h
  obtain ⟨_, r, rfl, h2, h⟩ := fitTs_cons h
  obtain rfl := fitTs_nil h
  obtain ⟨n, rfl, hb⟩ := fit_aut h0
  obtain ⟨z, t, rfl, hx⟩ := fit_tree (fitT_one h1)
  obtain ⟨p, q, rfl⟩ := fit_n2 h2
  exact law7 n z t p q hb hx
end Go.Abs.Tree
