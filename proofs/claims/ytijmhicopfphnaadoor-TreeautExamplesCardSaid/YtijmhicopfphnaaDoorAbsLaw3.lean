/- AbsLaw2's road,where package-level variables read as laid. -/
import Derived.Test.YtijmhicopfphnaaDoorAbsLaw2
import Derived.LaidLaws
import Derived.Handed
namespace Go.Abs
set_option linter.unusedVariables false
set_option linter.unusedSimpArgs false
open Go.ChangeShapes Go.WideShapes Go.ChangeAt Go.RowKit
theorem xNw {C : Checked} {os : Os} {f : FuncId} {fn : Func} {s : ChangeSpec} {apart fresh handsOn again : Bool} {H : Type} {enc : TypeId × Value → H} {xAo : Nat → Option AFunc} {d : Nat} {Ts : List TS} {tb : TypeId} {X : World → Prop} (hX : ∀ w w' : World,w.heap = w'.heap → X w → X w') (hXg : ∀ W,X W → GlobOk (xPP W))
  (own : ownKnob C.prog.godebug = none) (started : os.Started) (noInit : C.prog.inits.idxOf? f = none) (hfn : C.prog.funcs[f]? = some fn)
  (witness : ∃ (w : World) (tape : Tape) (i : Input),w.os = os ∧ (w.forCall tape i).Shaped C.prog ∧ i.vars = [] ∧ Input.okWide C.prog (w.forCall tape i) .any w.heap.size f i ∧
   ((s.pre enc C.prog fn [] apart (w.forCall tape i).memory i.args ∧ X (w.forCall tape i).memory) ∧ sizedMet enc C.prog fn (OpenSpec.ofChange s) apart (w.forCall tape i).memory i.args) ∧ ({} : Assume).holds C.prog (lone (Frame.enter C.prog f i.args .normal) [] (w.forCall tape i)))
  (hp : ProgOk C.prog xAo) (hl : laidOutB C.prog = true) (hr : ∀ t ∈ fn.params.toList,C.prog.readableRec t = true ∧ t < C.prog.types.size) (hT : fn.params.toList.map (yEm C.prog d) = Ts.map some)
  (hvars : s.vars = []) (hspec : ∀ ds : List (DataW H),ds.length = fn.params.toList.length → s.fn H ds = { results := [.lit (.bool true)],args := ds })
  (hres : fn.resultTypes = #[tb]) (htb : C.prog.underlying tb = some .bool) (hlaw : ∀ avs,xWb Ts avs → Sized C.prog fn.params.toList avs → (lim xAo).pcall f avs = some (.bool true)) :
  ReturnsInHanded {} C os f .any (fun w args => (s.pre enc C.prog fn [] apart w args ∧ X w) ∧ sizedMet enc C.prog fn (OpenSpec.ofChange s) apart w args) (s.post enc C.prog fn apart fresh handsOn again) := by
 refine returnsInHanded_of_change_and (C := C) (X := fun w _ => X w) (fun w w' _ hh h => hX w w' hh h) own started noInit hfn witness ?_
 intro W base args ds gs before hval hW hcnd hsz hXW _
 have hW' := hW
 obtain ⟨p,q,hA,hV,rfl,hfz,hnd⟩ := hW
 rw [hvars] at hV
 obtain ⟨rfl,rfl⟩ := trodVars_none hV
 obtain ⟨avs,h1,h2,h3⟩ := xTL hT (fun j t v ht hv => hval j t v (by simpa using ht) (by simpa using hv)) hA
 have hsp := hspec ds h3
 have hc := xVg hp (hlaw avs h1 (xOJ hA h2 hsz)) h2 (hXg W hXW)
 rw [Array.toArray_toList] at hc
 refine hc.mono fun e W' ⟨he,hb⟩ => ?_
 subst he
 refine ⟨_,rfl,xPO (pa := p) (pv := []) hW' hb ?_ ?_ ?_ rfl ?_⟩
 ·intro b sp hd
  rw [List.append_nil,hsp,hres]
  exact trodAll_cons_mk (shut_bool htb true) trodAll_mk0
 ·intro sp hs
  rw [List.append_nil,hsp]
  refine xQy hl hr hA (fun x hx => hb.same (hW'.lt x (by simp [hx]))) (fun x hx => hs x (by simp [hx]))
 ·intro sp hs
  rw [List.append_nil,hsp,hvars]
  exact rfl
 ·exact ok_one hres rfl (okWide_bool_mk htb true)
end Go.Abs
