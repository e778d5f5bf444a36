/- A package-level array of bytes that reads as laid lies where the interpreter looks for it. -/
import Derived.Test.YtbfnjdhafgnlnaaDoorAbsLaw3
import Derived.LaidMore
import Derived.OpenShut
import Derived.ChangeArms
namespace Go.Abs
set_option linter.unusedVariables false
set_option linter.unusedSimpArgs false
theorem xWa {P : Program} {W : World} {name : String} {g t e n : Nat} (tab : List Nat) (hg : P.globalNamed name = some g) (ht : (P.globals[g]?).map (·.type) = some t) (hu : P.underlying t = some (.array n e)) (he : P.underlying e = some (.int .u8)) (hc : P.cellsOf e = 1) (hct : P.cellsOf t = n)
  (hgl : ∀ g' cs,xNV g' = some cs → g' = g ∧ cs = tab.map fun (k : Nat) => AV.int .u8 k) (hl : laidMet P [(name,.agg (tab.map fun (k : Nat) => .lit (.int .u8 k)))] W) : GlobOk (xN1 W) := by
 intro g' cs' h'
 obtain ⟨rfl,rfl⟩ := hgl _ _ h'
 obtain ⟨ps,⟨g0,t0,cs0,f0,p0,q0,hg0,ht0,hv0,hd0,_⟩,_⟩ := hl
 obtain rfl := Option.some.inj (hg.symm.trans hg0)
 obtain rfl := Option.some.inj (ht.symm.trans ht0)
 obtain ⟨xs,m1,rfl,hx1,hlen,hn,hel⟩ := DataW.trod_array hu hd0
 simp only [Prod.mk.injEq,DataW.agg.injEq] at hx1
 have htl : tab.length = n := by
  have := congrArg List.length hx1.1
  simp at this
  omega
 have hcell : ∀ (i : Nat),i < n → cs0.toList[i]? = some (.int .u8 (tab.getD i 0 : Nat)) := by
  intro i hi
  have h1 := hel i hi
  rw [hc,Nat.mul_one,List.getElem?_eq_getElem (by omega : i < xs.length)] at h1
  obtain ⟨k,e1,e2,_⟩ := DataW.trod_int he h1
  have e3 : (tab.map fun (k : Nat) => (.lit (.int .u8 k) : DataW Unit))[i]? = (xs.map (·.1))[i]? := by rw [hx1.1]
  rw [List.getElem?_map,List.getElem?_map,List.getElem?_eq_getElem (by omega : i < xs.length),List.getElem?_eq_getElem (by omega : i < tab.length),e2] at e3
  simp only [Option.map_some,Option.some.injEq,DataW.lit.injEq,Lit.int.injEq,true_and] at e3
  have e4 : (cs0.toList.drop i)[0]? = some (.int .u8 k) := by
   have := congrArg (fun l => l[0]?) e1
   simpa [List.getElem?_take] using this
  rw [List.getElem?_drop,Nat.add_zero] at e4
  rw [e4,← e3]
  simp [List.getD,List.getElem?_eq_getElem (by omega : i < tab.length)]
 have hheap : ∃ c t fr,W.heap[g']? = some (.cells c t fr) ∧ c = cs0 := by
  simp only [World.var?,hg,Option.bind_some] at hv0
  split at hv0
  ·rename_i c t fr hh
   exact ⟨c,t,fr,hh,Option.some.inj hv0⟩
  ·cases hv0
 obtain ⟨c,tt,fr,hh,rfl⟩ := hheap
 refine ⟨c.toList,⟨c,tt,fr,hh,fun i v hv => by rw [Nat.zero_add,← Array.getElem?_toList]; exact hv⟩,by rw [hlen,hct]; simp [htl],fun i cv v h1 h2 => ?_,fun cv hcv => ?_⟩
 ·rw [List.getElem?_map,Option.map_eq_some_iff] at h1
  obtain ⟨k,hk,rfl⟩ := h1
  have hi := (List.getElem?_eq_some_iff.1 hk).1
  rw [hcell i (by omega)] at h2
  cases h2
  have : tab.getD i 0 = k := by simp [List.getD,hk]
  rw [this]
  exact .int
 ·obtain ⟨k,_,rfl⟩ := List.mem_map.1 hcv
  rfl
end Go.Abs
