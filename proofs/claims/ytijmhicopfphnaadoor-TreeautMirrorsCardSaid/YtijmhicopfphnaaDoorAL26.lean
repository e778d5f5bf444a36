/- Law 11 on what fits. -/
import Derived.Test.YtijmhicopfphnaaDoorAL25
import Derived.Test.YtijmhicopfphnaaDoorALF
namespace Go.Abs.Tree
open Go Go.Abs

theorem law11t (avs : List AV) (h : FitTs [TAut, TTree] avs) : L.pcall 11 avs = some (.bool true) := by
  obtain ⟨_, r, rfl, h0, h⟩ := fitTs_cons h
  obtain ⟨_, r, rfl, h1, h⟩ := fitTs_cons h
  obtain rfl := fitTs_nil h
  obtain ⟨n, rfl, hb⟩ := fit_aut h0
  obtain ⟨z, t, rfl, hx⟩ := fit_tree (fitT_one h1)
  exact law11 n z t hb hx
end Go.Abs.Tree
