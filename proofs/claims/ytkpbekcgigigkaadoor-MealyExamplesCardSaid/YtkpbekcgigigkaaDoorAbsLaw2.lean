/- AbsLaw's road, with the bound on the bytes of each slice that comes in. -/
import Derived.Test.YtkpbekcgigigkaaDoorAbsLaw
import Derived.SizedLaws
namespace Go.Abs
set_option linter.unusedVariables false
set_option linter.unusedSimpArgs false
open Go.ChangeShapes Go.WideShapes Go.ChangeAt Go.RowKit

section
variable {H : Type} {enc : TypeId × Value → H} {P : Program} {w : World} {base : Nat} {sp : Nat → Bool} {held : Bool}

theorem arg_sized {t e : TypeId} {z : Bool} {n B : Nat} {cs : List AV} {v : Value} {dd : DataW H} {ps : List MemPlace} (ht : P.underlying t = some (.slice e)) (hr : Rep (imOf w) noIo (.sl z n cs) v)
    (h : DataW.Trod enc P w base sp held t v dd ps) (hw : (dd.weights P t).all (· ≤ B) = true) : n * P.bytesOf e ≤ B := by
  cases hr with
  | slz => rw [Nat.zero_mul]; exact Nat.zero_le _
  | sl0 => rw [Nat.zero_mul]; exact Nat.zero_le _
  | @sl _ _ _ b o cp vs hro hl hcap hc hk =>
    obtain ⟨fuel, h⟩ := h
    have h' : DataW.trod enc P w base sp held fuel t [.slice (some ⟨b, o, none⟩) n cp] = some (dd, ps) := h
    rcases DataW.trod_slice ht h' with ⟨q, -⟩ | ⟨a, len, cap, elems, rest, m, -, q, q2, -, -, -, hlen, -⟩
    · injection q with q _
      injection q with q _ _
      cases q
    · injection q with q _
      injection q with _ q _
      subst q
      injection q2 with q2 _
      subst q2
      unfold DataW.weights at hw
      rw [ht] at hw
      simp only [List.all_cons, Bool.and_eq_true, decide_eq_true_eq, List.length_map] at hw
      exact Nat.le_trans (Nat.mul_le_mul_right _ (by omega)) hw.1

theorem args_sized {B : Nat} {vt : List TypeId} {gs : List (DataW H)} : ∀ {ts : List TypeId} {vs : List Value} {ds : List (DataW H)} {ps : List MemPlace} {avs : List AV}, DataW.TrodAll enc P w base sp held ts vs ds ps → Reps (imOf w) noIo avs vs →
    (DataW.weightsEach P (ts ++ vt) (ds ++ gs)).all (· ≤ B) = true → ∀ (j : Nat) (t e : TypeId) (z : Bool) (n : Nat) (cs : List AV), ts[j]? = some t → P.underlying t = some (.slice e) → avs[j]? = some (.sl z n cs) → n * P.bytesOf e ≤ B
  | [], _, _, _, _, _, _, _, j, t, e, z, n, cs, h1, _, _ => by simp at h1
  | t0 :: ts, vs, ds, ps, avs, h, hr, hw, j, t, e, z, n, cs, h1, h2, h3 => by
    obtain ⟨v, vs, d, ds, p, q, rfl, rfl, rfl, g1, g2⟩ := trodAll_cons h
    have hw' : (d.weights P t0 ++ DataW.weightsEach P (ts ++ vt) (ds ++ gs)).all (· ≤ B) = true := hw
    rw [List.all_append, Bool.and_eq_true] at hw'
    cases avs with
    | nil => simp at h3
    | cons a avs =>
      cases j with
      | zero =>
        simp only [List.getElem?_cons_zero, Option.some.injEq] at h1 h3
        subst h1
        subst h3
        exact arg_sized h2 (hr.2 0 _ v rfl rfl) g1 hw'.1
      | succ j =>
        have hr' : Reps (imOf w) noIo avs vs := ⟨by simpa using hr.1, fun i c v h1 h2 => hr.2 (i + 1) c v h1 h2⟩
        exact args_sized g2 hr' hw'.2 j t e z n cs (by simpa using h1) h2 (by simpa using h3)
end

/-- the sizes that come in -/
def Sized (P : Program) (ts : List TypeId) (avs : List AV) : Prop := ∀ (j : Nat) (t e : TypeId) (z : Bool) (n : Nat) (cs : List AV), ts[j]? = some t → P.underlying t = some (.slice e) → avs[j]? = some (.sl z n cs) → n * P.bytesOf e ≤ reachBytes

def bytesB (P : Program) (ts : List TypeId) (j : Nat) : Bool := match ts[j]? with
  | some t => (match P.underlying t with
    | some (.slice e) => P.bytesOf e == 1
    | _ => false)
  | none => false

theorem Sized.len {P : Program} {ts : List TypeId} {avs : List AV} (h : Sized P ts avs) (j : Nat) (hb : bytesB P ts j = true) (z : Bool) (n : Nat) (cs : List AV) (ha : avs[j]? = some (.sl z n cs)) : n ≤ 140737488355328 := by
  unfold bytesB at hb
  split at hb
  · rename_i t ht
    split at hb
    · rename_i e he
      have := h j t e z n cs ht he ha
      rw [eq_of_beq hb, Nat.mul_one] at this
      exact Nat.le_trans this (by decide)
    · cases hb
  · cases hb

theorem law_lifted_sized {C : Checked} {os : Os} {f : FuncId} {fn : Func} {s : ChangeSpec} {apart fresh handsOn again : Bool} {H : Type} {enc : TypeId × Value → H} {aprog : Nat → Option AFunc} {d : Nat} {Ts : List TS} {tb : TypeId}
    (own : ownKnob C.prog.godebug = none) (started : os.Started) (noInit : C.prog.inits.idxOf? f = none) (hfn : C.prog.funcs[f]? = some fn)
    (witness : ∃ (w : World) (tape : Tape) (i : Input), w.os = os ∧ (w.forCall tape i).Shaped C.prog ∧ i.vars = [] ∧ Input.okWide C.prog (w.forCall tape i) .any w.heap.size f i ∧
      s.pre6 enc C.prog fn [] apart (w.forCall tape i).memory i.args ∧ ({} : Assume).holds C.prog (lone (Frame.enter C.prog f i.args .normal) [] (w.forCall tape i)))
    (hp : ProgOk C.prog aprog) (hl : laidOutB C.prog = true) (hr : ∀ t ∈ fn.params.toList, C.prog.readableRec t = true ∧ t < C.prog.types.size) (hT : fn.params.toList.map (tyOf C.prog d) = Ts.map some)
    (hvars : s.vars = []) (hspec : ∀ ds : List (DataW H), ds.length = fn.params.toList.length → s.fn H ds = { results := [.lit (.bool true)], args := ds })
    (hres : fn.resultTypes = #[tb]) (htb : C.prog.underlying tb = some .bool) (hnog : ∀ g, globs g = none) (hlaw : ∀ avs, FitTs Ts avs → Sized C.prog fn.params.toList avs → (lim aprog).pcall f avs = some (.bool true)) :
    ReturnsInHanded {} C os f .any (s.pre6 enc C.prog fn [] apart) (s.post enc C.prog fn apart fresh handsOn again) := by
  refine returnsInHanded_of_change_sized own started noInit hfn witness ?_
  intro W base args ds gs before hval hW hcnd hsz _
  have hW' := hW
  obtain ⟨p, q, hA, hV, rfl, hfz, hnd⟩ := hW
  rw [hvars] at hV
  obtain ⟨rfl, rfl⟩ := trodVars_none hV
  obtain ⟨avs, h1, h2, h3⟩ := args_fit hT (fun j t v ht hv => hval j t v (by simpa using ht) (by simpa using hv)) hA
  have hsp := hspec ds h3
  have hc := calls_true hp (hlaw avs h1 (args_sized hA h2 hsz)) h2 (fun g cs hg => by rw [hnog] at hg; cases hg)
  rw [Array.toArray_toList] at hc
  refine hc.mono fun e W' ⟨he, hb⟩ => ?_
  subst he
  refine ⟨_, rfl, post_of_below (pa := p) (pv := []) hW' hb ?_ ?_ ?_ rfl ?_⟩
  · intro b sp hd
    rw [List.append_nil, hsp, hres]
    exact trodAll_cons_mk (shut_bool htb true) trodAll_mk0
  · intro sp hs
    rw [List.append_nil, hsp]
    refine args_stay hl hr hA (fun x hx => hb.same (hW'.lt x (by simp [hx]))) (fun x hx => hs x (by simp [hx]))
  · intro sp hs
    rw [List.append_nil, hsp, hvars]
    exact rfl
  · exact ok_one hres rfl (okWide_bool_mk htb true)
end Go.Abs
