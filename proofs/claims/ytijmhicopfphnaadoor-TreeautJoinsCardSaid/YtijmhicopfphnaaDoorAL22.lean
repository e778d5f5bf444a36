/- Law 10 on what fits. -/
import Derived.Test.YtijmhicopfphnaaDoorAL20
import Derived.Test.YtijmhicopfphnaaDoorALF
namespace Go.Abs.Tree
open Go Go.Abs

theorem law10t (avs : List AV) (h : FitTs [TAut, TU8, TT2] avs) : L.pcall 10 avs = some (.bool true) := by
  obtain ⟨_, r, rfl, h0, h⟩ := fitTs_cons h
  obtain ⟨_, r, rfl, h1, h⟩ := fitTs_cons h
  obtain ⟨_, r, rfl, h2, h⟩ := fitTs_cons h
  obtain rfl := fitTs_nil h
  obtain ⟨n, rfl, hb⟩ := fit_aut h0
  obtain ⟨x, rfl, hx⟩ := fit_u8 (fitT_one h1)
  obtain ⟨z1, t1, z2, t2, rfl, x1, x2⟩ := fit_t2 h2
  exact law10 n x z1 z2 t1 t2 hb hx x1 x2
end Go.Abs.Tree
