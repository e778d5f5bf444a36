/- Regions that draw their order. -/
import Derived.Test.YtbfnjdhafgnlnaaAbsRegion
import Derived.StillTail
namespace Go.Abs
set_option linter.unusedVariables false
set_option linter.unusedSimpArgs false
open Go.RowKit

def xIH (ops : Array Oper) (i d : Nat) : Bool := match ops[i]? with
  | some o => o.after.any fun e => Region.binds .any e && e.on == d
  | none => false

def xOt (ops : Array Oper) (listed : Array Bool) : Prop := ∀ d o, ops[d]? = some o → listed.getD d false = true → ∀ e ∈ o.after, Region.binds .any e = true → listed.getD e.on false = true

def xHa (aops : List AOper) (i : Nat) : Option Nat := (aops[i]?).bind (·.dst)

inductive Bef (ops : Array Oper) : Nat → Nat → Prop
  | one {i d : Nat} (h : xIH ops i d = true) : Bef ops i d
  | more {i e d : Nat} (h : xIH ops i e = true) (k : Bef ops e d) : Bef ops i d

def xIy (ops : Array Oper) : Nat → List (List Nat)
  | 0 => []
  | n + 1 => let r := xIy ops n; r ++ [(List.range n).filter fun d => xIH ops n d || (List.range n).any fun e => xIH ops n e && (r.getD e []).contains d]

def xLr (rs : List (List Nat)) (i d : Nat) : Bool := (rs.getD i []).contains d

theorem xIz (ops : Array Oper) : ∀ n, (xIy ops n).length = n
  | 0 => rfl
  | n + 1 => by simp [xIy, xIz ops n]

theorem xIi (ops : Array Oper) : ∀ n i d, xLr (xIy ops n) i d = true → Bef ops i d
  | 0, i, d, h => by simp [xLr, xIy] at h
  | n + 1, i, d, h => by
    have hl := xIz ops n
    rcases Nat.lt_trichotomy i n with q | q | q
    · refine xIi ops n i d ?_
      simpa [xLr, xIy, List.getD, List.getElem?_append_left (by omega : i < (xIy ops n).length)] using h
    · subst q
      simp only [xLr, xIy, List.getD] at h
      rw [List.getElem?_append_right (by omega), hl, Nat.sub_self] at h
      simp only [List.getElem?_cons_zero, Option.getD_some, List.contains_iff_mem, List.mem_filter, Bool.or_eq_true, List.any_eq_true, Bool.and_eq_true] at h
      rcases h.2 with h1 | ⟨e, _, h1, h2⟩
      · exact .one h1
      · refine .more h1 (xIi ops i e d ?_)
        simp only [xLr, List.getD]
        simpa [List.contains_iff_mem] using h2
    · have hn := xIz ops (n + 1)
      have : (xIy ops (n + 1))[i]? = none := List.getElem?_eq_none (by omega)
      simp only [xLr, List.getD, this, Option.getD_none] at h
      simp at h

def xH7 : AOp → Bool
  | .mov _ | .pick .. | .bin .. | .beq .. | .aeq .. | .un .. | .conv .. | .ext .. | .faddr .. | .field .. | .iaddr .. | .len _ | .cap _ | .isnil .. | .maxi .. | .mini .. | .nilchk _ | .mkfunc .. | .slice .. => true
  | _ => false

def xH2 (aops : List AOper) (i : Nat) : Bool := match aops[i]? with | some ao => xGC ao.op | none => false

def xIR (aops : List AOper) (i : Nat) : List Nat := match aops[i]? with | some ao => ao.reads | none => []

def xSg (m : Nat) (aops : List AOper) (i : Nat) : Bool := match aops[i]? with
  | some ao => xH7 ao.op && ao.reads.all fun t => (List.range m).all fun d => !(xH2 aops d && xHa aops d == some t)
  | none => false

def xIg (aops : List AOper) (i : Nat) : Option (Nat × Nat) := match aops[i]? with
  | some ⟨_, .load _ n (.t p), none⟩ => some (p, n)
  | _ => none

def xI4 (m : Nat) (aops : List AOper) (i : Nat) : Bool := xSg m aops i || match xIg aops i with
  | some (p, _) => ((List.range m).all fun d => !(xH2 aops d && xHa aops d == some p)) && ((List.range aops.length).all fun j => decide (j < i) || xHa aops j != some p)
  | none => false

def xQg (ls : List (Nat × Nat × Nat × Nat)) (aops : List AOper) (k d : Nat) : Bool := match xIg aops d with
  | none => true
  | some (p, n) => match aops[k]? with
    | some ao => xH7 ao.op || (match ao.op with
      | .store n' (.t q) _ => ls.contains (p, n, q, n') && (List.range aops.length).all fun j => decide (j < k) || xHa aops j != some q
      | _ => false)
    | none => false

def xK5 (ls : List (Nat × Nat × Nat × Nat)) (m : Nat) (ops : Array Oper) (aops : List AOper) : Bool :=
  let rs := xIy ops ops.size
  decide (m ≤ ops.size) &&
  ((List.range ops.size).all fun i => match ops[i]? with | some o => o.after.all (fun e => !Region.binds .any e || decide (e.on < i)) | none => false) &&
  ((List.range m).all fun i => (List.range i).all fun j => xHa aops i == none || xHa aops i != xHa aops j) &&
  ((List.range m).all fun i => (xIR aops i).all fun s => (List.range m).all fun d => xHa aops d != some s || xLr rs i d || d == i || xLr rs d i) &&
  ((List.range m).all fun i => match aops[i]? with | some ao => !xGC ao.op || (ao.guard.isNone && ao.dst.isSome) | none => true) &&
  ((List.range (ops.size - m)).all fun k => (List.range (m + k)).all fun d => xLr rs (m + k) d ||
    (decide (d < m) && xI4 m aops d && xQg ls aops (m + k) d && (match xHa aops d with | some t => !(xIR aops (m + k)).contains t && xHa aops (m + k) != some t | none => true))) &&
  ((List.range (ops.size - m)).all fun k => (List.range m).all fun d => match xHa aops (m + k) with | some t => !(xIR aops d).contains t || xLr rs (m + k) d | none => true)

theorem xLP {ops : Array Oper} {listed : Array Bool} (hcl : xOt ops listed) {i d : Nat} (h : Bef ops i d) (hi : ∀ e, xIH ops i e = true → listed.getD e false = true) : listed.getD d false = true := by
  induction h with
  | one h => exact hi _ h
  | more h k ih =>
    refine ih fun e he => ?_
    have := hi _ h
    simp only [xIH] at he
    split at he
    · rename_i o ho
      simp only [Array.any_eq_true, Bool.and_eq_true, beq_iff_eq] at he
      obtain ⟨q, hq, hb, hon⟩ := he
      have := hcl _ o ho this _ (Array.getElem_mem hq) hb
      rwa [hon] at this
    · cases he

theorem xLs {ops : Array Oper} {listed : Array Bool} (hcl : xOt ops listed) {i : Nat} (h : listed.getD i false = true) : ∀ e, xIH ops i e = true → listed.getD e false = true := by
  intro e he
  simp only [xIH] at he
  split at he
  · rename_i o ho
    simp only [Array.any_eq_true, Bool.and_eq_true, beq_iff_eq] at he
    obtain ⟨q, hq, hb, hon⟩ := he
    have := hcl _ o ho h _ (Array.getElem_mem hq) hb
    rwa [hon] at this
  · cases he

theorem xSh {ops : Array Oper} (hlt : ∀ i d, xIH ops i d = true → d < i) {i d : Nat} (h : Bef ops i d) : d < i := by
  induction h with
  | one h => exact hlt _ _ h
  | more h k ih => have := hlt _ _ h; omega

section
variable {chk : Code → ACode → Bool} {P : Program} {o : Oper} {a : Act} {im : Im} {io : Io} {H H' : Heap} {w : World} {F : List AV} {R : Rec} {v : AV}

def xI5 (R : Rec) (H : Heap) (F : List AV) (ao : AOper) (v : AV) : Prop :=
  (xIr F ao.guard = some true ∧ xGa R F H ao.op = some v) ∨ (xIr F ao.guard = some false ∧ v = .tup [])

theorem xJR {ao : AOper} {s s1 : St} (h : xHo R ao s = some s1) : ∃ v, xI5 R s.H s.F ao v ∧ s1 = ⟨xIY s.F ao.dst v, s.H⟩ := by
  unfold xHo at h
  split at h
  · cases h
  · rename_i hw; cases h; exact ⟨_, .inr ⟨hw, rfl⟩, rfl⟩
  · rename_i hw
    simp only [Option.map_eq_some_iff] at h
    obtain ⟨v, h1, rfl⟩ := h
    exact ⟨v, .inl ⟨hw, h1⟩, rfl⟩

def xHM (aops : List AOper) (s : Nat) : Bool := aops.any fun o => o.dst == some s

theorem xHA (F : List AV) (d : Option Nat) (v : AV) : (xIY F d v).length = F.length := by cases d <;> simp [xIY]

theorem xHJ (F : List AV) (d : Option Nat) (v : AV) (s : Nat) : (xIY F d v).getD s .any = if d = some s ∧ s < F.length then v else F.getD s .any := by
  cases d with
  | none => simp [xIY]
  | some d =>
    simp only [xIY, List.getD, List.getElem?_set]
    by_cases e : d = s
    · subst e
      by_cases hl : d < F.length
      · simp [hl]
      · simp [hl]
    · simp [e]

theorem xKq : ∀ (aops : List AOper) (F0 : List AV) (H : Heap) (s1 : St) (pl : List Pr), xG9 R aops ⟨F0, H⟩ = some (s1, pl) → (∀ i j s, i < j → xHa aops i = some s → xHa aops j = some s → False) →
    s1.H = H ∧ s1.F.length = F0.length ∧ pl.length = aops.length ∧ (∀ s, xHM aops s = false → s1.F.getD s .any = F0.getD s .any) ∧
    ∀ i ao, aops[i]? = some ao → ∃ Fi, Fi.length = F0.length ∧ (∀ s, Fi.getD s .any = if xHM (aops.take i) s then s1.F.getD s .any else F0.getD s .any) ∧
      ((xGC ao.op = false ∧ pl[i]? = some none ∧ ∃ v, xI5 R H Fi ao v ∧ (∀ s, ao.dst = some s → s < F0.length → s1.F.getD s .any = v)) ∨
       (xGC ao.op = true ∧ ∃ t v B, ao.dst = some t ∧ xID R Fi ao.op = some (v, B) ∧ pl[i]? = some (some (t, v, B)) ∧ (t < F0.length → s1.F.getD t .any = .any)))
  | [], F0, H, s1, pl, h, _ => by
    simp only [xG9] at h; cases h
    exact ⟨rfl, rfl, rfl, fun _ _ => rfl, fun i ao hi => by simp at hi⟩
  | ao :: rest, F0, H, s1, pl, h, hd => by
    have hrd : ∀ i j s, i < j → xHa rest i = some s → xHa rest j = some s → False := fun i j s hij hi hj => hd (i + 1) (j + 1) s (by omega) (by simpa [xHa] using hi) (by simpa [xHa] using hj)
    have hno : ∀ s, ao.dst = some s → xHM rest s = false := by
      intro s hs
      rw [Bool.eq_false_iff]
      intro hw
      simp only [xHM, List.any_eq_true, beq_iff_eq] at hw
      obtain ⟨o', ho', hds⟩ := hw
      obtain ⟨j, hj, e⟩ := List.mem_iff_getElem.1 ho'
      exact hd 0 (j + 1) s (by omega) (by simp [xHa, hs]) (by simp [xHa, List.getElem?_eq_getElem hj, e, hds])
    have fin : ∀ (v : AV) (e : Pr) (pl' : List Pr), xG9 R rest ⟨xIY F0 ao.dst v, H⟩ = some (s1, pl') → pl = e :: pl' →
        ((xGC ao.op = false ∧ e = none ∧ xI5 R H F0 ao v) ∨ (xGC ao.op = true ∧ ∃ t w B, ao.dst = some t ∧ xID R F0 ao.op = some (w, B) ∧ e = some (t, w, B) ∧ v = .any)) →
        s1.H = H ∧ s1.F.length = F0.length ∧ pl.length = (ao :: rest).length ∧ (∀ s, xHM (ao :: rest) s = false → s1.F.getD s .any = F0.getD s .any) ∧
        ∀ i ao', (ao :: rest)[i]? = some ao' → ∃ Fi, Fi.length = F0.length ∧ (∀ s, Fi.getD s .any = if xHM ((ao :: rest).take i) s then s1.F.getD s .any else F0.getD s .any) ∧
          ((xGC ao'.op = false ∧ pl[i]? = some none ∧ ∃ v, xI5 R H Fi ao' v ∧ (∀ s, ao'.dst = some s → s < F0.length → s1.F.getD s .any = v)) ∨
           (xGC ao'.op = true ∧ ∃ t v B, ao'.dst = some t ∧ xID R Fi ao'.op = some (v, B) ∧ pl[i]? = some (some (t, v, B)) ∧ (t < F0.length → s1.F.getD t .any = .any))) := by
      intro v e pl' h0 hpl hk
      subst hpl
      obtain ⟨e1, e2, e0, e3, e4⟩ := xKq rest _ H s1 pl' h0 hrd
      refine ⟨e1, by rw [e2, xHA], by simp [e0], fun s hs => ?_, fun i ao' hi => ?_⟩
      · simp only [xHM, List.any_cons, Bool.or_eq_false_iff, beq_eq_false_iff_ne, ne_eq] at hs
        rw [e3 s hs.2, xHJ, if_neg (fun q => hs.1 q.1)]
      · cases i with
        | zero =>
          simp at hi; subst hi
          refine ⟨F0, rfl, fun s => by simp [xHM], ?_⟩
          have hval : ∀ s, ao.dst = some s → s < F0.length → s1.F.getD s .any = v := fun s hs hlt => by
            rw [e3 s (hno s hs), xHJ, if_pos ⟨hs, hlt⟩]
          rcases hk with ⟨k1, k2, k3⟩ | ⟨k1, t, w, B, k2, k3, k4, k5⟩
          · exact .inl ⟨k1, by simp [k2], v, k3, hval⟩
          · exact .inr ⟨k1, t, w, B, k2, k3, by simp [k4], fun hlt => by rw [hval t k2 hlt, k5]⟩
        | succ i =>
          simp at hi
          obtain ⟨Fi, g2, g3, g⟩ := e4 i ao' hi
          refine ⟨Fi, by rw [g2, xHA], fun s => ?_, ?_⟩
          · have ew : xHM ((ao :: rest).take (i + 1)) s = (ao.dst == some s || xHM (rest.take i) s) := rfl
            rw [g3 s, ew]
            by_cases hw : xHM (rest.take i) s = true
            · rw [hw]; simp
            · have hw' : xHM (rest.take i) s = false := by simpa using hw
              rw [hw']
              by_cases hs : ao.dst = some s
              · have q1 : (ao.dst == some s) = true := by simp [hs]
                rw [q1]
                simp only [Bool.false_eq_true, if_false, Bool.or_false, if_true]
                rw [xHJ, e3 s (hno s hs), xHJ]
              · have q1 : (ao.dst == some s) = false := by simpa using hs
                rw [q1]
                simp only [Bool.false_eq_true, if_false, Bool.or_false]
                rw [xHJ, if_neg (fun q => hs q.1)]
          · rcases g with ⟨k1, k2, v', k3, k4⟩ | ⟨k1, t, w, B, k2, k3, k4, k5⟩
            · exact .inl ⟨k1, by simpa using k2, v', k3, fun s hs hlt => k4 s hs (by rw [xHA]; exact hlt)⟩
            · exact .inr ⟨k1, t, w, B, k2, k3, by simpa using k4, fun hlt => k5 (by rw [xHA]; exact hlt)⟩
    simp only [xG9] at h
    split at h
    · rename_i hp
      split at h
      · rename_i t v B hdst hpv
        simp only [Option.map_eq_some_iff] at h
        obtain ⟨⟨s2, l2⟩, h2, e⟩ := h
        cases e
        exact fin .any _ l2 (by rw [hdst]; exact h2) rfl (.inr ⟨hp, t, v, B, hdst, hpv, rfl, rfl⟩)
      · cases h
    · rename_i hp
      split at h
      · cases h
      rename_i s' h1
      obtain ⟨v, hv, rfl⟩ := xJR h1
      simp only [Option.map_eq_some_iff] at h
      obtain ⟨⟨s2, l2⟩, h2, e⟩ := h
      cases e
      exact fin v _ l2 h2 rfl (.inl ⟨by simpa using hp, rfl, hv⟩)

def mix (aops : List AOper) (D : Nat → Bool) (F0 Fm : List AV) : List AV :=
  (List.range F0.length).map fun s => if (List.range aops.length).any (fun k => D k && xHa aops k == some s) then Fm.getD s .any else F0.getD s .any

def hit (aops : List AOper) (D : Nat → Bool) (s : Nat) : Bool := (List.range aops.length).any fun k => D k && xHa aops k == some s

theorem xIj (aops : List AOper) (D : Nat → Bool) (F0 Fm : List AV) : (mix aops D F0 Fm).length = F0.length := by simp [mix]

theorem xI6 (aops : List AOper) (D : Nat → Bool) (F0 Fm : List AV) (s : Nat) (hl : Fm.length = F0.length) : (mix aops D F0 Fm).getD s .any = if hit aops D s then Fm.getD s .any else F0.getD s .any := by
  unfold mix hit
  by_cases hs : s < F0.length
  · simp only [List.getD, List.getElem?_map, List.getElem?_range hs, Option.map_some, Option.getD_some]
  · have e1 : F0.getD s .any = .any := by simp [List.getD, List.getElem?_eq_none (Nat.le_of_not_lt hs)]
    have e2 : Fm.getD s .any = .any := by simp [List.getD, List.getElem?_eq_none (by omega : Fm.length ≤ s)]
    rw [e1, e2]
    have : (List.range F0.length)[s]? = none := List.getElem?_eq_none (by simp; omega)
    simp [List.getD, this]

theorem xJk {F F' : List AV} (hl : F.length = F'.length) (h : ∀ s, F.getD s .any = F'.getD s .any) : F = F' := by
  apply List.ext_getElem hl
  intro i h1 h2
  have := h i
  simpa [List.getD, List.getElem?_eq_getElem h1, List.getElem?_eq_getElem h2] using this

theorem xMW (hR : RecOk chk P R) {ops : Array Oper} {ao : AOper} {r : Option Nat} {n i : Nat} {Q : Exit → Act → World → Prop} {K : Act → World → Prop} (hi : ops[i]? = some o) (hd : o.dst = ao.dst) (hc : xG7 P o ao.op = true) (hg : xJm ops o.guard ao.guard = true)
    (hna : xLe ao.op = false) (hs : Sim chk im io H w) (hF : FRep im io F a) (h : xI5 R H F ao v)
    (hK : ∀ im' io' a' w', Step im io w im' io' w' → Sim chk im' io' H w' → FRep im' io' (xIY F ao.dst v) a' → a'.defers = a.defers → (∃ x, a' = a.put ao.dst x) → K a' w') : wpOpIn (Fw r) n P ops Q i K a w := by
  unfold wpOpIn
  simp only [hi]
  rcases h with ⟨hw, h⟩ | ⟨hw, rfl⟩
  · rw [xIo hg hF hw]
    simp only [if_true]
    refine Oper.wpIn_mono ?_ (xMd hR hc hs hF (xQn hna h) Q)
    rintro a' w' ⟨im', io', t1, t2, t3, t4, t5⟩
    rw [hd] at t3 t5
    exact hK im' io' a' w' t1 t2 t3 t4 t5
  · rw [xIo hg hF hw]
    simp only [Bool.false_eq_true, if_false]
    refine ⟨fun f _ => trivial, ?_⟩
    rw [hd]
    exact hK im io _ w (.refl _ _ _) hs (hF.put ao.dst (.tup (vs := []) rfl (fun i c v h => by simp at h))) (xHF _ _ _) ⟨_, rfl⟩


def PrivAt (B0 : Nat) (im : Im) (io : Io) (w : World) (a : Act) (t : Nat) (v : AV) (B : List Blk) (ios : List (Option (Nat × Nat))) : Prop :=
  PrivB B0 im io w B ios ∧ xJ5 v = true ∧ ∀ y, a.tmps.toList[t]? = some y → Rep im (xII ios) v y

theorem PrivAt.step {B0 t : Nat} {v : AV} {B : List Blk} {ios : List (Option (Nat × Nat))} {im' : Im} {io' : Io} {w' : World} {a' : Act} (h : PrivAt B0 im io w a t v B ios) (hs : Step im io w im' io' w') (ha : a'.tmps.toList[t]? = a.tmps.toList[t]?) : PrivAt B0 im' io' w' a' t v B ios :=
  ⟨h.1.step hs, h.2.1, fun y hy => (h.2.2 y (by rw [← ha]; exact hy)).mono hs.im_le (.refl _)⟩

theorem PrivB.low {B0 B1 : Nat} {B : List Blk} {ios : List (Option (Nat × Nat))} (h : PrivB B1 im io w B ios) (hl : B0 ≤ B1) : PrivB B0 im io w B ios where
  len := h.len
  blk k bk hk := by
    rcases h.blk k bk hk with e | ⟨cs, b, c, t, e1, e2, e3, e4, e5, e6, e7⟩
    · exact .inl e
    · exact .inr ⟨cs, b, c, t, e1, e2, e3, e4, e5, by omega, e7⟩
  inj := h.inj

theorem PrivB.notOwn {B0 : Nat} {io' : Io} {B : List Blk} {ios : List (Option (Nat × Nat))} (h : PrivB B0 im io w B ios) (hn : ∀ k b s, xII ios k = some (b, s) → ¬ Own io' b) : PrivB B0 im io' w B ios where
  len := h.len
  blk k bk hk := by
    rcases h.blk k bk hk with e | ⟨cs, b, c, t, e1, e2, e3, e4, e5, e6, e7⟩
    · exact .inl e
    · exact .inr ⟨cs, b, c, t, e1, e2, e3, e4, hn k b _ e2, e6, e7⟩
  inj := h.inj

theorem xMX {a : Act} {dst : Option Nat} {x : Value} {d : Nat} (h : dst ≠ some d) : (a.put dst x).tmps.toList[d]? = a.tmps.toList[d]? := by
  cases dst with
  | none => rfl
  | some e =>
    show (a.tmps.setIfInBounds e x).toList[d]? = _
    rw [Array.toList_setIfInBounds, List.getElem?_set_ne (fun q => h (by rw [q]))]

theorem Reps.setL {cs : List AV} {vs : List Value} (h : Reps im io cs vs) (d : Nat) {v : AV} (hx : ∀ y, vs[d]? = some y → Rep im io v y) : Reps im io (cs.set d v) vs := by
  refine ⟨by simp [h.1], fun j c u h1 h2 => ?_⟩
  rw [List.getElem?_set] at h1
  split at h1
  · rename_i e
    subst e
    split at h1
    · cases h1; exact hx u h2
    · cases h1
  · exact h.2 j c u h1 h2

theorem xK6 {B0 : Nat} : ∀ (l : List Pr) (s : St) (io : Io) (ioss : Nat → List (Option (Nat × Nat))), Sim chk im io s.H w → FRep im io s.F a →
    (∀ i t v B, l[i]? = some (some (t, v, B)) → PrivAt B0 im io w a t v B (ioss i)) →
    (∀ i j x y k k' b z z', i ≠ j → l[i]? = some (some x) → l[j]? = some (some y) → xII (ioss i) k = some (b, z) → xII (ioss j) k' = some (b, z') → False) →
    ∃ io', Sim chk im io' (xGc l s).H w ∧ FRep im io' (xGc l s).F a ∧ IoLe io io' ∧ ∀ b, Own io' b → Own io b ∨ B0 ≤ b
  | [], s, io, ioss, hs, hF, _, _ => ⟨io, hs, hF, .refl _, fun _ h => .inl h⟩
  | none :: rest, s, io, ioss, hs, hF, hp, hd =>
    xK6 rest s io (fun i => ioss (i + 1)) hs hF (fun i t v B hi => hp (i + 1) t v B (by simpa using hi)) (fun i j x y k k' b z z' hij hi hj => hd (i + 1) (j + 1) x y k k' b z z' (by omega) (by simpa using hi) (by simpa using hj))
  | some (t, v, B) :: rest, s, io, ioss, hs, hF, hp, hd => by
    obtain ⟨h1, h2, h3⟩ := hp 0 t v B rfl
    have hs' := hs.addAll h1
    have hle : IoLe io (xMe io s.H.length (ioss 0)) := xMf hs.fresh
    have hF' : FRep im (xMe io s.H.length (ioss 0)) (s.F.set t (xHC s.H.length v)) a :=
      Reps.setL (Reps.mono (.refl _) hle hF) t fun y hy => xM4 (fun k z hk => by rw [xIh]; exact hk) h2 (h3 y hy)
    obtain ⟨io', g1, g2, g3, g4⟩ := xK6 rest ⟨s.F.set t (xHC s.H.length v), s.H ++ B⟩ _ (fun i => ioss (i + 1)) hs' hF'
      (fun i t' v' B' hi => by
        obtain ⟨k1, k2, k3⟩ := hp (i + 1) t' v' B' (by simpa using hi)
        refine ⟨k1.notOwn (fun k b z hk ho => ?_), k2, k3⟩
        rcases xJU ho with q | ⟨k', z', q⟩
        · obtain ⟨_, _, _, _, _, _, _, q', _⟩ := k1.own hk
          exact q' q
        · exact hd (i + 1) 0 (t', v', B') (t, v, B) k k' b z z' (by omega) (by simpa using hi) rfl hk q)
      (fun i j x y k k' b z z' hij hi hj => hd (i + 1) (j + 1) x y k k' b z z' (by omega) (by simpa using hi) (by simpa using hj))
    refine ⟨io', g1, g2, hle.trans g3, fun b hb => ?_⟩
    rcases g4 b hb with q | q
    · rcases xJU q with q2 | ⟨k, z, q2⟩
      · exact .inl q2
      · obtain ⟨_, _, _, _, _, _, _, _, q'⟩ := h1.own q2
        exact .inr q'
    · exact .inr q

theorem xIb {listed : Array Bool} {j : Nat} (h : j < listed.size) : listed.getD j true = listed.getD j false := by
  simp [h]

theorem xS5 {l : List Bool} : ∀ {i : Nat}, i < l.length → l[i]? = some false → (l.set i true).count true = l.count true + 1 := by
  induction l with
  | nil => intro i h; simp at h
  | cons b l ih =>
    intro i h hb
    cases i with
    | zero => simp at hb; subst hb; simp
    | succ i =>
      simp at hb h
      rw [List.set_cons_succ, List.count_cons, List.count_cons, ih h hb]
      omega

theorem xS6 {l : List Bool} : l.count true = l.length → ∀ i, i < l.length → l[i]? = some true := by
  induction l with
  | nil => intro _ i h; simp at h
  | cons b l ih =>
    intro h i hi
    have hle : l.count true ≤ l.length := List.count_le_length
    rw [List.count_cons] at h
    simp at h
    cases b with
    | false => simp at h; omega
    | true =>
      cases i with
      | zero => rfl
      | succ i => simp at hi ⊢; exact by have := ih (by simpa using h) i hi; simpa [List.getElem?_eq_getElem hi] using this

theorem xJl : ∀ (l : List Pr) (s : St), (xGc l s).F.length = s.F.length
  | [], s => rfl
  | none :: rest, s => xJl rest s
  | some (t, v, B) :: rest, s => by simp only [xGc]; rw [xJl rest]; simp

theorem xL8 : ∀ (l : List Pr) (F F' : List AV) (H : Heap), (xGc l ⟨F, H⟩).H = (xGc l ⟨F', H⟩).H
  | [], _, _, _ => rfl
  | none :: rest, F, F', H => xL8 rest F F' H
  | some (t, v, B) :: rest, F, F', H => by simp only [xGc]; exact xL8 rest _ _ _

theorem xJ9 (t : Nat) : ∀ (l : List Pr) (F F' : List AV) (H : Heap), F.length = F'.length → (F.getD t .any = F'.getD t .any ∨ False) → (xGc l ⟨F, H⟩).F.getD t .any = (xGc l ⟨F', H⟩).F.getD t .any
  | [], F, F', H, hl, h => h.elim id False.elim
  | none :: rest, F, F', H, hl, h => xJ9 t rest F F' H hl h
  | some (d, v, B) :: rest, F, F', H, hl, h => by
    simp only [xGc]
    refine xJ9 t rest _ _ _ (by simp [hl]) (.inl ?_)
    have h := h.elim id False.elim
    have e1 := xHJ F (some d) (xHC H.length v) t
    have e2 := xHJ F' (some d) (xHC H.length v) t
    simp only [xIY] at e1 e2
    rw [e1, e2, hl, h]

theorem xH3 (t : Nat) : ∀ (l : List Pr) (s : St), (∀ v B, some (t, v, B) ∉ l) → (xGc l s).F.getD t .any = s.F.getD t .any
  | [], _, _ => rfl
  | none :: rest, s, h => xH3 t rest s (fun v B hm => h v B (List.mem_cons_of_mem _ hm))
  | some (d, v, B) :: rest, s, h => by
    simp only [xGc]
    rw [xH3 t rest _ (fun v' B' hm => h v' B' (List.mem_cons_of_mem _ hm))]
    have e1 := xHJ s.F (some d) (xHC s.H.length v) t
    simp only [xIY] at e1
    rw [e1, if_neg]
    rintro ⟨q, _⟩
    cases q
    exact h v B (List.mem_cons_self ..)

def xL9 (m : Nat) (aops : List AOper) (D : Nat → Bool) (F0 F : List AV) : List AV :=
  (List.range F0.length).map fun t => if (List.range m).any (fun d => !D d && xHa aops d == some t) then F0.getD t .any else F.getD t .any

def yet (m : Nat) (aops : List AOper) (D : Nat → Bool) (t : Nat) : Bool := (List.range m).any fun d => !D d && xHa aops d == some t

theorem xHN (m : Nat) (aops : List AOper) (D : Nat → Bool) (F0 F : List AV) : (xL9 m aops D F0 F).length = F0.length := by simp [xL9]

theorem xIw (m : Nat) (aops : List AOper) (D : Nat → Bool) (F0 F : List AV) (t : Nat) (hl : F.length = F0.length) : (xL9 m aops D F0 F).getD t .any = if yet m aops D t then F0.getD t .any else F.getD t .any := by
  unfold xL9 yet
  by_cases hs : t < F0.length
  · simp only [List.getD, List.getElem?_map, List.getElem?_range hs, Option.map_some, Option.getD_some]
  · have e1 : F0.getD t .any = .any := by simp [List.getD, List.getElem?_eq_none (Nat.le_of_not_lt hs)]
    have e2 : F.getD t .any = .any := by simp [List.getD, List.getElem?_eq_none (by omega : F.length ≤ t)]
    rw [e1, e2]
    have : (List.range F0.length)[t]? = none := List.getElem?_eq_none (by simp; omega)
    simp [List.getD, this]

theorem yet_iff {m : Nat} {aops : List AOper} {D : Nat → Bool} {t : Nat} : yet m aops D t = true ↔ ∃ d, d < m ∧ D d = false ∧ xHa aops d = some t := by
  simp [yet, and_assoc]

theorem xMa {op : AOp} (h : xH7 op = true) (F : List AV) (H H' : Heap) : xGa R F H op = xGa R F H' op := by
  cases op <;> simp only [xH7] at h <;> first | (cases h; done) | skip
  all_goals simp only [xGa, xBw]
  all_goals first
    | rfl
    | simp only [Option.map_map]; rfl
    | (split <;> first | rfl | (simp only [Option.map_map]; rfl) | (split <;> first | rfl | (simp only [Option.map_map]; rfl)))

theorem xLt {op : AOp} (h : xH7 op = true) : xGC op = false := by
  cases op <;> first | rfl | (simp [xH7] at h; done)

theorem xKa : ∀ (l : List Pr) (s : St), ∃ B, (xGc l s).H = s.H ++ B
  | [], s => ⟨[], by simp [xGc]⟩
  | none :: rest, s => xKa rest s
  | some (t, v, B) :: rest, s => by
    simp only [xGc]
    obtain ⟨C, hC⟩ := xKa rest ⟨s.F.set t (xHC s.H.length v), s.H ++ B⟩
    exact ⟨B ++ C, by rw [hC, List.append_assoc]⟩

theorem xI7 {op : AOp} (h : xGC op = false) : xLe op = false := by
  cases op with
  | box x => cases h
  | _ => rfl

theorem xNA {F F' : List AV} {op : AOp} (h : ∀ x ∈ op.args, opv F x = opv F' x) : xID R F op = xID R F' op := by
  unfold xID
  rw [xJn h]
  have e : (op.args.all fun x => xHZ (opv F x)) = op.args.all fun x => xHZ (opv F' x) := by
    rw [Bool.eq_iff_iff]; simp only [List.all_eq_true]
    exact ⟨fun g p hp => by rw [← h p hp]; exact g p hp, fun g p hp => by rw [h p hp]; exact g p hp⟩
  rw [e]

theorem xQh (hR : RecOk chk P R) {ops : Array Oper} {ao : AOper} {r : Option Nat} {n i t : Nat} {B : List Blk} {Q : Exit → Act → World → Prop} {K : Act → World → Prop} (hi : ops[i]? = some o) (hd : o.dst = ao.dst) (hc : xG7 P o ao.op = true) (hg : xJm ops o.guard ao.guard = true)
    (hgn : ao.guard = none) (hdt : ao.dst = some t) (hs : Sim chk im io H w) (hF : FRep im io F a) (h : xID R F ao.op = some (v, B))
    (hK : ∀ im' a' w' x ios, Step im io w im' io w' → Sim chk im' io H w' → a' = a.put (some t) x → PrivAt w.heap.size im' io w' a' t v B ios → K a' w') : wpOpIn (Fw r) n P ops Q i K a w := by
  unfold wpOpIn
  simp only [hi]
  have hw : xIr F ao.guard = some true := by rw [hgn]; rfl
  rw [xIo hg hF hw]
  simp only [if_true]
  unfold xID at h
  split at h
  case isFalse => cases h
  rename_i hdat
  split at h
  case h_2 => cases h
  rename_i v0 B0 hex
  split at h
  case isFalse => cases h
  rename_i hrel
  cases h
  let F1 : List AV := F.map fun c => if xHZ c = true then c else .any
  have xGE : ∀ s, F1.getD s .any = if xHZ (F.getD s .any) = true then F.getD s .any else .any := by
    intro s
    by_cases hlt : s < F.length
    · simp only [F1, List.getD, List.getElem?_map, List.getElem?_eq_getElem hlt, Option.map_some, Option.getD_some]
    · simp only [F1, List.getD, List.getElem?_map, List.getElem?_eq_none (Nat.le_of_not_lt hlt), Option.map_none, Option.getD_none, ite_self]
  have hop : ∀ x ∈ ao.op.args, opv F x = opv F1 x := by
    intro x hx
    have hdx := List.all_eq_true.1 hdat x hx
    cases x with
    | c y => rfl
    | t s =>
      show F.getD s .any = F1.getD s .any
      rw [xGE]; exact (if_pos hdx).symm
  have hF1 : FRep im xKA F1 a := by
    refine ⟨by rw [hF.1]; simp [F1], fun i c x hi hx => ?_⟩
    simp only [F1, List.getElem?_map, Option.map_eq_some_iff] at hi
    obtain ⟨c0, h1, rfl⟩ := hi
    split
    · rename_i hd0
      exact xQq hd0 (hF.2 i c0 x h1 hx)
    · exact .any _
  rw [xJn hop] at hex
  refine Oper.wpIn_mono ?_ (xMd hR hc (Sim.empty hs.imw) hF1 hex Q)
  rintro a' w' ⟨im', io', b1, b2, b3, _, x, rfl⟩
  have hsize : ∀ b, Own io' b → w.heap.size ≤ b := fun b ho => (b1.ownNew b ho).elim (fun ⟨_, _, q⟩ => by cases q) id
  have hno : ∀ b, Own io' b → ¬ Own io b ∧ w.heap.size ≤ b := fun b ho => ⟨fun ho' => by have := hs.inb b ho'; have := hsize b ho; omega, hsize b ho⟩
  have hst : ∀ b, b < w.heap.size → w'.heap[b]? = w.heap[b]? := fun b hb => b1.stay b hb (fun ⟨_, _, q⟩ => by cases q)
  have him : ∀ b o, im' b = some o → im b = some o ∨ w.heap.size ≤ b := fun b o hb => by
    rcases b1.imNew b o hb with q | ⟨_, _, q⟩ | q
    · exact .inl q
    · cases q
    · exact .inr q
  have hs2 := (hs.world b1.size hst).im_grow b1.im_le b2.imw him (fun b ho => hs.inb b ho)
  obtain ⟨hp, hat⟩ := xRr b2 hrel.2 hno
  rw [hd, hdt] at b3 ⊢
  refine hK im' _ w' x _ ⟨b1.im_le, .refl _, b1.os, b1.tape, b1.output, b1.size, fun b hb _ => hst b hb, fun _ h => .inl h, fun b o hb => (him b o hb).imp id .inr⟩ hs2 rfl ⟨hp, hrel.1, fun y hy => ?_⟩
  have e : xII ((List.range B.length).map io') = io' := funext hat
  rw [e]
  have hlt : t < F1.length := by
    have := (List.getElem?_eq_some_iff.1 hy).1
    have hl := b3.1
    simp only [xIY, List.length_set] at hl
    omega
  exact b3.2 t v y (by simp only [xIY]; rw [List.getElem?_set_self hlt]) hy

theorem xQi {H B : Heap} {p : AV} {n : Nat} {cs : List AV} (h : rd H p n = some cs) : rd (H ++ B) p n = some cs := by
  unfold rd at h ⊢
  split at h
  · rename_i id off
    split at h
    · rename_i z1 z2 cs' hb
      have hlt := (List.getElem?_eq_some_iff.1 hb).1
      simp only [List.getElem?_append_left hlt, hb]
      exact h
    · cases h
  · exact h
  · cases h

theorem xOY {H H' : Heap} {p q : AV} {n : Nat} {cs vs : List AV} (h : rd H p n = some cs) (hw : wr H q vs = some H') (hd : xGZ p n q vs.length = true) : rd H' p n = some cs := by
  unfold xGZ at hd
  split at hd
  · rename_i i a j b
    unfold wr at hw
    simp only at hw
    split at hw
    case h_2 => cases hw
    rename_i z cs0 hj
    split at hw
    case isFalse => cases hw
    rename_i hin
    cases hw
    unfold rd at h ⊢
    simp only at h ⊢
    split at h
    case h_2 => cases h
    rename_i z1 z2 cs1 hi
    by_cases e : i = j
    · subst e
      rw [hj] at hi; cases hi
      simp only [bne_self_eq_false, Bool.false_or, Bool.or_eq_true, decide_eq_true_eq] at hd
      have hlt := (List.getElem?_eq_some_iff.1 hj).1
      simp only [List.getElem?_set_self hlt]
      have hlen : (xES cs0 b vs).length = cs0.length := by simp [xES]; omega
      split at h
      case isFalse => cases h
      rename_i hle
      rw [if_pos (by omega)]
      rw [← h]
      congr 1
      apply List.ext_getElem?
      intro k
      simp only [List.getElem?_take, List.getElem?_drop]
      by_cases hk : k < n
      · simp only [hk, if_true, xES]
        rcases hd with hd | hd
        · rw [List.append_assoc, List.getElem?_append_left (by simp; omega), List.getElem?_take_of_lt (by omega)]
        · rw [List.getElem?_append_right (by simp; omega), List.getElem?_drop]
          congr 1
          simp
          omega
      · simp [hk]
    · rw [List.getElem?_set_ne (fun q => e q.symm), hi]
      exact h
  · unfold rd at h ⊢
    simp only at h ⊢
    exact h
  · cases hd

theorem xMb {op : AOp} {F : List AV} {H H' : Heap} {R : Rec} {v : AV} (h : xH7 op = true) (he : xBw R F H op = some (v, H')) : H' = H := by
  cases op <;> simp only [xH7] at h <;> first | (cases h; done) | skip
  all_goals simp only [xBw] at he
  all_goals first
    | (cases he; rfl)
    | (simp only [Option.map_eq_some_iff] at he; obtain ⟨_, _, e⟩ := he; cases e; rfl)
    | (split at he <;> first | (cases he; done) | (cases he; rfl) | (simp only [Option.map_eq_some_iff] at he; obtain ⟨_, _, e⟩ := he; cases e; rfl) | (split at he <;> first | (cases he; done) | (cases he; rfl) | (simp only [Option.map_eq_some_iff] at he; obtain ⟨_, _, e⟩ := he; cases e; rfl)))

theorem xOZ {R : Rec} {F : List AV} {H H' : Heap} {n : Nat} {p x : Arg} {v : AV} (h : xBw R F H (.store n p x) = some (v, H')) : (opv F x).cells.length = n ∧ wr H (opv F p) (opv F x).cells = some H' := by
  simp only [xBw] at h
  by_cases hlen : (opv F x).cells.length = n
  · rw [if_pos hlen] at h
    simp only [Option.map_eq_some_iff, Prod.mk.injEq] at h
    obtain ⟨H3, hw, _, rfl⟩ := h
    exact ⟨hlen, hw⟩
  · rw [if_neg hlen] at h; cases h

theorem xI8 {R : Rec} {t : Nat} : ∀ {ops : List AOper} {s s' : St}, xHn R ops s = some s' → (∀ o ∈ ops, o.dst ≠ some t) → s'.F.getD t .any = s.F.getD t .any
  | [], s, s', h, _ => by simp only [xHn] at h; cases h; rfl
  | o :: rest, s, s', h, hn => by
    simp only [xHn] at h
    split at h
    · cases h
    rename_i s1 h1
    rw [xI8 h (fun o' ho' => hn o' (List.mem_cons_of_mem _ ho'))]
    have hd := hn o (List.mem_cons_self ..)
    unfold xHG at h1
    split at h1
    · cases h1
    · cases h1; simp only; rw [xHJ, if_neg (fun q => hd q.1)]
    · simp only [Option.map_eq_some_iff] at h1
      obtain ⟨⟨v, H⟩, _, rfl⟩ := h1
      simp only; rw [xHJ, if_neg (fun q => hd q.1)]

def xUm (chk : Code → ACode → Bool) (w0 : World) (m : Nat) (N : Nat) (aops : List AOper) (pl : List Pr) (s s1 : St) (D : Nat → Bool) (im : Im) (io : Io) (a : Act) (w : World) : Prop :=
  (∀ j, m ≤ j → j < N → D j = false) ∧ Sim chk im io s.H w ∧ FRep im io (mix (aops.take m) D s.F s1.F) a ∧
  ∃ ioss : Nat → List (Option (Nat × Nat)), (∀ i t v B, pl[i]? = some (some (t, v, B)) → D i = true → PrivAt w0.heap.size im io w a t v B (ioss i)) ∧
    ∀ i j x y k k' b z z', i ≠ j → pl[i]? = some (some x) → pl[j]? = some (some y) → D i = true → D j = true → xII (ioss i) k = some (b, z) → xII (ioss j) k' = some (b, z') → False

def xTC (chk : Code → ACode → Bool) (R : Rec) (m : Nat) (N : Nat) (aops : List AOper) (pl : List Pr) (s s1 s' : St) (D : Nat → Bool) (im : Im) (io : Io) (a : Act) (w : World) : Prop :=
  ∃ k sk, m ≤ k ∧ k ≤ N ∧ (∀ j, j < N → D j = true → j < k) ∧ (∀ j, j < k → D j = false → j < m ∧ xI4 m aops j = true) ∧ xHn R (aops.drop k) sk = some s' ∧
    Sim chk im io sk.H w ∧ FRep im io (xL9 m aops D s.F sk.F) a ∧ sk.F.length = s.F.length ∧
    (∀ t, (∀ j, m ≤ j → j < k → xHa aops j ≠ some t) → sk.F.getD t .any = (xGc pl s1).F.getD t .any) ∧
    ∀ d, d < m → D d = false → ∀ p n, xIg aops d = some (p, n) → ∀ cs, rd s.H (s1.F.getD p .any) n = some cs → rd sk.H (s1.F.getD p .any) n = some cs


theorem xRl (hR : RecOk chk P R) {ops : Array Oper} {aops : List AOper} {r : Option Nat} {n m : Nat} {ls : List (Nat × Nat × Nat × Nat)} {Q : Exit → Act → World → Prop} {s s1 s' : St} {im0 : Im} {io0 : Io} {w0 : World} {ds : List Deferred}
    (hc : xJS P ops aops = true) (hok : xK5 ls m ops aops = true) {pl : List Pr} (hls : ls.all (apart s'.F) = true) (hfree : xG9 R (aops.take m) s = some (s1, pl)) (htail : xHn R (aops.drop m) (xGc pl s1) = some s')
    (hQ : ∀ im' io' a' w', Step im0 io0 w0 im' io' w' → Sim chk im' io' s'.H w' → FRep im' io' s'.F a' → a'.defers = ds → Q .normal a' w') :
    ∀ (fuel : Nat) (listed : Array Bool) (a : Act) (w : World), listed.size = ops.size → fuel + listed.toList.count true = ops.size → xOt ops listed →
      (∃ im io, Step im0 io0 w0 im io w ∧ a.defers = ds ∧ (xUm chk w0 m ops.size aops pl s s1 (fun k => listed.getD k false) im io a w ∨ xTC chk R m ops.size aops pl s s1 s' (fun k => listed.getD k false) im io a w)) →
      wpAnyIn (Fw r) n P .any ops Q fuel listed a w := by
  obtain ⟨hlen, xGE⟩ := xLQ hc
  simp only [xK5, Bool.and_eq_true, decide_eq_true_eq, List.all_eq_true, List.mem_range] at hok
  obtain ⟨⟨⟨⟨⟨⟨hm, hlt⟩, hdist⟩, hreads⟩, halloc⟩, hsink⟩, htw⟩ := hok
  have hone : ∀ i j t, i < m → j < m → xHa aops i = some t → xHa aops j = some t → i = j := by
    intro i j t hi hj h1 h2
    rcases Nat.lt_trichotomy i j with q | q | q
    · have := hdist j hj i q
      rw [h1, h2] at this
      simp at this
    · exact q
    · have := hdist i hi j q
      rw [h1, h2] at this
      simp at this
  have hdsts : ∀ i j t, i < j → xHa (aops.take m) i = some t → xHa (aops.take m) j = some t → False := by
    intro i j t hij hi hj
    have hjm : j < m := by
      rcases Nat.lt_or_ge j m with q | q
      · exact q
      · simp [xHa, List.getElem?_take_eq_none q] at hj
    have hi' : xHa aops i = some t := by simpa [xHa, List.getElem?_take_of_lt (by omega : i < m)] using hi
    have hj' : xHa aops j = some t := by simpa [xHa, List.getElem?_take_of_lt hjm] using hj
    have := hone i j t (by omega) hjm hi' hj'
    omega
  obtain ⟨f1, f2, f0, f3, f45⟩ := xKq (aops.take m) s.F s.H s1 pl hfree hdsts
  have f4 : ∀ i ao, (aops.take m)[i]? = some ao → xGC ao.op = false → ∃ Fi v, xI5 R s.H Fi ao v ∧ Fi.length = s.F.length ∧ (∀ t, Fi.getD t .any = if xHM ((aops.take m).take i) t then s1.F.getD t .any else s.F.getD t .any) ∧ (∀ t, ao.dst = some t → t < s.F.length → s1.F.getD t .any = v) := by
    intro i ao hi hp
    obtain ⟨Fi, g1, g2, g⟩ := f45 i ao hi
    rcases g with ⟨_, _, v, g3, g4⟩ | ⟨g3, _⟩
    · exact ⟨Fi, v, g3, g1, g2, g4⟩
    · rw [hp] at g3; cases g3
  have edge_lt : ∀ (i : Nat) (o : Oper) (e : Edge), ops[i]? = some o → e ∈ o.after → Region.binds .any e = true → e.on < i := by
    intro i o e ho he hb
    have := hlt i (Array.getElem?_eq_some_iff.1 ho).1
    simp only [ho] at this
    have := Array.all_eq_true_iff_forall_mem.1 this e he
    simpa [hb] using this
  have edge_lt2 : ∀ i d, xIH ops i d = true → d < i := by
    intro i d he
    simp only [xIH] at he
    split at he
    · rename_i o ho
      simp only [Array.any_eq_true, Bool.and_eq_true, beq_iff_eq] at he
      obtain ⟨q, hq, hb, hon⟩ := he
      have := edge_lt i o _ ho (Array.getElem_mem hq) hb
      rwa [hon] at this
    · cases he
  have all_of_ready : ∀ listed : Array Bool, listed.size = ops.size → Region.ready .any ops listed = [] → ∀ j, j < ops.size → listed.getD j false = true := by
    intro listed hsz hr j
    induction j using Nat.strongRecOn with
    | _ j ih =>
      intro hj
      cases hcase : listed.getD j false with
      | true => rfl
      | false =>
        exfalso
        have : j ∈ Region.ready .any ops listed := mem_ready.2 ⟨by rw [xIb (by omega)]; exact hcase, ops[j], Array.getElem?_eq_getElem hj, fun e he hb => by
          have h1 := edge_lt j _ e (Array.getElem?_eq_getElem hj) he hb
          exact ih e.on h1 (by omega)⟩
        rw [hr] at this
        cases this
  have late_op : ∀ d, xI4 m aops d = true → ∃ ao, aops[d]? = some ao ∧ (xH7 ao.op = true ∨ ∃ g n p, ao.op = .load g n (.t p) ∧ ao.guard = none ∧ xIg aops d = some (p, n) ∧ ∀ j, j < aops.length → d ≤ j → xHa aops j ≠ some p) ∧ ∀ t ∈ ao.reads, ∀ e, e < m → xH2 aops e = true → xHa aops e ≠ some t := by
    intro d hd
    simp only [xI4, Bool.or_eq_true] at hd
    rcases hd with hd | hd
    · unfold xSg at hd
      split at hd
      · rename_i ao hao
        simp only [Bool.and_eq_true, List.all_eq_true, List.mem_range] at hd
        refine ⟨ao, hao, .inl hd.1, fun t ht e he ha hde => ?_⟩
        have := hd.2 t ht e he
        rw [ha, hde] at this
        simp at this
      · cases hd
    · split at hd
      case h_2 => cases hd
      rename_i p nn hll
      have hll0 := hll
      unfold xIg at hll
      split at hll
      case h_2 => cases hll
      rename_i dst0 g0 n0 p0 hao
      cases hll
      simp only [Bool.and_eq_true, List.all_eq_true, List.mem_range, Bool.or_eq_true, decide_eq_true_eq, bne_iff_ne, ne_eq, Bool.not_eq_true'] at hd
      refine ⟨_, hao, .inr ⟨g0, nn, p, rfl, rfl, hll0, fun j hj hdj => ?_⟩, fun t ht e he ha hde => ?_⟩
      · rcases hd.2 j hj with q | q
        · omega
        · exact q
      · have : t = p := by simpa [AOper.reads, AOp.args, Arg.slot] using ht
        subst this
        have := hd.1 e he
        rw [ha, hde] at this
        simp at this
  have late_notalloc : ∀ d, xI4 m aops d = true → xH2 aops d = false := by
    intro d hd
    obtain ⟨ao, hao, hs, _⟩ := late_op d hd
    rcases hs with hs | ⟨g, n, p, hs, _⟩
    · simp [xH2, hao, xLt hs]
    · simp [xH2, hao, hs, xGC]
  have sinks' : ∀ k d, m ≤ k → k < ops.size → d < k → Bef ops k d ∨ (d < m ∧ xI4 m aops d = true ∧ xQg ls aops k d = true ∧ ∀ t, xHa aops d = some t → t ∉ xIR aops k ∧ xHa aops k ≠ some t) := by
    intro k d hk hkN hd
    have h5 := hsink (k - m) (by omega) d (by omega)
    rw [show m + (k - m) = k by omega] at h5
    simp only [Bool.or_eq_true, Bool.and_eq_true, decide_eq_true_eq] at h5
    rcases h5 with h5 | ⟨⟨⟨h5, h6⟩, h8⟩, h7⟩
    · exact .inl (xIi ops _ _ _ h5)
    · refine .inr ⟨h5, h6, h8, fun t ht => ?_⟩
      rw [ht] at h7
      simp only [Bool.and_eq_true, Bool.not_eq_true', bne_iff_ne, ne_eq] at h7
      exact ⟨by simpa using h7.1, h7.2⟩
  have sinks : ∀ k d, m ≤ k → k < ops.size → d < k → Bef ops k d ∨ (d < m ∧ xI4 m aops d = true ∧ ∀ t, xHa aops d = some t → t ∉ xIR aops k ∧ xHa aops k ≠ some t) := by
    intro k d hk hkN hd
    rcases sinks' k d hk hkN hd with q | ⟨q1, q2, _, q3⟩
    · exact .inl q
    · exact .inr ⟨q1, q2, q3⟩
  have tails : ∀ k d t, m ≤ k → k < ops.size → d < m → xHa aops k = some t → t ∈ xIR aops d → Bef ops k d := by
    intro k d t hk hkN hd hdst ht
    have h5 := htw (k - m) (by omega) d hd
    rw [show m + (k - m) = k by omega, hdst] at h5
    simp only [Bool.or_eq_true, Bool.not_eq_true'] at h5
    rcases h5 with h5 | h5
    · rw [← List.contains_iff_mem] at ht
      rw [ht] at h5; cases h5
    · exact xIi ops _ _ _ h5
  have writers : ∀ i d t, i < m → d < m → t ∈ xIR aops i → xHa aops d = some t → Bef ops i d ∨ d = i ∨ Bef ops d i := by
    intro i d t hi hd ht hdst
    have h5 := hreads i hi t ht d hd
    rw [hdst] at h5
    simp only [bne_self_eq_false, Bool.false_or, Bool.or_eq_true, beq_iff_eq] at h5
    rcases h5 with (h5 | h5) | h5
    · exact .inl (xIi ops _ _ _ h5)
    · exact .inr (.inl h5)
    · exact .inr (.inr (xIi ops _ _ _ h5))
  have takeGet : ∀ (i : Nat) (ao : AOper), (aops.take m)[i]? = some ao → i < m ∧ aops[i]? = some ao := by
    intro i ao h
    by_cases q : i < m
    · rw [List.getElem?_take_of_lt q] at h; exact ⟨q, h⟩
    · rw [List.getElem?_take_eq_none (by omega)] at h; cases h
  have hwr : ∀ (D : Nat → Bool) (t : Nat), hit (aops.take m) D t = true ↔ ∃ d, d < m ∧ D d = true ∧ xHa aops d = some t := by
    intro D t
    simp only [hit, List.any_eq_true, List.mem_range, beq_iff_eq, Bool.and_eq_true]
    constructor
    · rintro ⟨d, hd, h1, h2⟩
      have hdm : d < m := by simp at hd; omega
      exact ⟨d, hdm, h1, by simpa [xHa, List.getElem?_take_of_lt hdm] using h2⟩
    · rintro ⟨d, hd, h1, h2⟩
      exact ⟨d, by simp; omega, h1, by simpa [xHa, List.getElem?_take_of_lt hd] using h2⟩
  have hwrites : ∀ t, xHM (aops.take m) t = true ↔ ∃ d, d < m ∧ xHa aops d = some t := by
    intro t
    simp only [xHM, List.any_eq_true, beq_iff_eq]
    constructor
    · rintro ⟨o', ho', hd⟩
      obtain ⟨j, hj⟩ := List.getElem?_of_mem ho'
      obtain ⟨q1, q2⟩ := takeGet j o' hj
      exact ⟨j, q1, by simp [xHa, q2, hd]⟩
    · rintro ⟨d, hd, h1⟩
      simp only [xHa, Option.bind_eq_some_iff] at h1
      obtain ⟨o', h2, h3⟩ := h1
      exact ⟨o', List.mem_of_getElem? (i := d) (by rw [List.getElem?_take_of_lt hd]; exact h2), h3⟩
  have plAt : ∀ j t v B, pl[j]? = some (some (t, v, B)) → j < m ∧ xH2 aops j = true ∧ xHa aops j = some t := by
    intro j t v B hj
    have hlt : j < (aops.take m).length := by rw [← f0]; exact (List.getElem?_eq_some_iff.1 hj).1
    obtain ⟨q1, q2⟩ := takeGet j _ (List.getElem?_eq_getElem hlt)
    obtain ⟨Fi, _, _, g⟩ := f45 j _ (List.getElem?_eq_getElem hlt)
    rcases g with ⟨_, g, _⟩ | ⟨g1, t', v', B', g2, _, g3, _⟩
    · rw [hj] at g; cases g
    · rw [hj] at g3; cases g3
      refine ⟨q1, ?_, ?_⟩
      · unfold xH2; rw [q2]; exact g1
      · unfold xHa; rw [q2]; exact g2
  have plMem : ∀ t v B, some (t, v, B) ∈ pl → ∃ d, d < m ∧ xH2 aops d = true ∧ xHa aops d = some t := by
    intro t v B hm
    obtain ⟨j, hj⟩ := List.getElem?_of_mem hm
    obtain ⟨q1, q2, q3⟩ := plAt j t v B hj
    exact ⟨j, q1, q2, q3⟩
  have lenF2 : (xGc pl s1).F.length = s.F.length := by rw [xJl, f2]
  have toB : ∀ (D : Nat → Bool) im io a w, (∀ j, j < m → D j = false → xI4 m aops j = true) → Step im0 io0 w0 im io w → xUm chk w0 m ops.size aops pl s s1 D im io a w →
      ∃ io', Step im0 io0 w0 im io' w ∧ xTC chk R m ops.size aops pl s s1 s' D im io' a w := by
    rintro D im io a w hD t1 ⟨h1, h2, h3, ioss, h4, h5⟩
    have allL : ∀ i x, pl[i]? = some (some x) → D i = true := by
      rintro i ⟨t, v, B⟩ hi
      have hlt : i < (aops.take m).length := by rw [← f0]; exact (List.getElem?_eq_some_iff.1 hi).1
      obtain ⟨q1, q2⟩ := takeGet i _ (List.getElem?_eq_getElem hlt)
      cases hq : D i with
      | true => rfl
      | false =>
        have h6 := late_notalloc i (hD i q1 hq)
        obtain ⟨Fi, _, _, g⟩ := f45 i _ (List.getElem?_eq_getElem hlt)
        rcases g with ⟨_, g, _⟩ | ⟨g1, _⟩
        · rw [hi] at g; cases g
        · simp only [xH2, q2, g1] at h6; cases h6
    obtain ⟨io', g1, g2, g3, g4⟩ := xK6 (B0 := w0.heap.size) pl ⟨mix (aops.take m) D s.F s1.F, s.H⟩ io ioss h2 h3
      (fun i t v B hi => h4 i t v B hi (allL i _ hi))
      (fun i j x y k k' b z z' hij hi hj hk hk' => h5 i j x y k k' b z z' hij hi hj (allL i _ hi) (allL j _ hj) hk hk')
    refine ⟨io', ⟨t1.im_le, t1.io_le.trans g3, t1.os, t1.tape, t1.output, t1.size, t1.stay, fun b hb => ?_, t1.imNew⟩, m, xGc pl s1, Nat.le_refl _, hm, fun j hj hDj => ?_, fun j hj hDj => ⟨hj, hD j hj hDj⟩, htail, ?_, ?_, lenF2, fun _ _ => rfl, fun d _ _ p nn _ cs hrd => ?_⟩
    · rcases g4 b hb with q | q
      · exact t1.ownNew b q
      · exact .inr q
    · rcases Nat.lt_or_ge j m with q | q
      · exact q
      · rw [h1 j q hj] at hDj; cases hDj
    · have : (xGc pl s1).H = (xGc pl ⟨mix (aops.take m) D s.F s1.F, s.H⟩).H := by
        obtain ⟨F1, H1⟩ := s1
        simp only at f1
        subst f1
        exact xL8 _ _ _ _
      rw [this]; exact g1
    · have : xL9 m aops D s.F (xGc pl s1).F = (xGc pl ⟨mix (aops.take m) D s.F s1.F, s.H⟩).F := by
        refine xJk (by rw [xHN, xJl, xIj]) (fun t => ?_)
        rw [xIw _ _ _ _ _ _ lenF2]
        by_cases hy : yet m aops D t = true
        · rw [if_pos hy]
          obtain ⟨d, hd, hDd, hdt⟩ := yet_iff.1 hy
          rw [xH3]
          · simp only
            rw [xI6 _ _ _ _ _ f2, if_neg]
            intro hh
            obtain ⟨d', hd', hDd', hdt'⟩ := (hwr D t).1 hh
            have := hone d d' t hd hd' hdt hdt'
            subst this
            rw [hDd] at hDd'; cases hDd'
          · intro v' B' ho
            obtain ⟨e, he, hae, hde⟩ := plMem _ _ _ ho
            have := hone d e t hd he hdt hde
            subst this
            have := late_notalloc d (hD d hd hDd)
            rw [this] at hae; cases hae
        · rw [if_neg hy]
          obtain ⟨F1, H1⟩ := s1
          simp only at f1 f2 f3
          subst f1
          refine xJ9 t _ _ _ _ (by rw [xIj, f2]) ?_
          by_cases hw : xHM (aops.take m) t = true
          · obtain ⟨d, hd, hdt⟩ := (hwrites t).1 hw
            cases hDd : D d with
            | false => exact (hy (yet_iff.2 ⟨d, hd, hDd, hdt⟩)).elim
            | true =>
              left
              rw [xI6 _ _ _ _ _ f2, if_pos ((hwr D t).2 ⟨d, hd, hDd, hdt⟩)]
          · left
            have hw' : xHM (aops.take m) t = false := by simpa using hw
            rw [xI6 _ _ _ _ _ f2, if_neg]
            · exact f3 t hw'
            · intro hh
              obtain ⟨d', hd', _, hdt'⟩ := (hwr D t).1 hh
              exact hw ((hwrites t).2 ⟨d', hd', hdt'⟩)
      rw [this]; exact g2
    · have hH : s1.H = s.H := f1
      have := xKa pl s1
      obtain ⟨B, hB⟩ := this
      rw [hB, hH]
      exact xQi hrd
  have doneB : ∀ (D : Nat → Bool) im io a w, (∀ j, j < ops.size → D j = true) → Step im0 io0 w0 im io w → a.defers = ds → xTC chk R m ops.size aops pl s s1 s' D im io a w → Q .normal a w := by
    rintro D im io a w hall t1 t2 ⟨k, sk, hmk, hkN, g2, g3, g4, g5, g6, g7, g8⟩
    have hk : k = ops.size := by
      rcases Nat.lt_or_ge k ops.size with q | q
      · have := g2 k q (hall k q); omega
      · omega
    rw [List.drop_eq_nil_of_le (by omega)] at g4
    simp only [xHn] at g4; cases g4
    refine hQ im io a w t1 g5 ?_ t2
    have : xL9 m aops D s.F s'.F = s'.F := by
      refine xJk (by rw [xHN, g7]) (fun t => ?_)
      rw [xIw _ _ _ _ _ _ g7, if_neg]
      intro hy
      obtain ⟨d, hd, hDd, _⟩ := yet_iff.1 hy
      rw [hall d (by omega)] at hDd; cases hDd
    rw [this] at g6; exact g6
  have done : ∀ (listed : Array Bool) (a : Act) (w : World), (∀ j, j < ops.size → listed.getD j false = true) →
      (∃ im io, Step im0 io0 w0 im io w ∧ a.defers = ds ∧ (xUm chk w0 m ops.size aops pl s s1 (fun k => listed.getD k false) im io a w ∨ xTC chk R m ops.size aops pl s s1 s' (fun k => listed.getD k false) im io a w)) → Q .normal a w := by
    rintro listed a w hall ⟨im, io, t1, t2, h | h⟩
    · obtain ⟨io', u1, u2⟩ := toB _ im io a w (fun j hj hDj => by rw [hall j (by omega)] at hDj; cases hDj) t1 h
      exact doneB _ im io' a w hall u1 t2 u2
    · exact doneB _ im io a w hall t1 t2 h
  intro fuel
  induction fuel with
  | zero =>
    intro listed a w hsz hcnt hcl hinv
    have hall : ∀ j, j < ops.size → listed.getD j false = true := by
      intro j hj
      have := xS6 (l := listed.toList) (by simpa [hsz] using hcnt) j (by simpa [hsz] using hj)
      rw [Array.getElem?_toList] at this
      rw [Array.getD_eq_getD_getElem?, this]
      rfl
    refine ⟨?_, done listed a w hall hinv⟩
    rw [List.eq_nil_iff_forall_not_mem]
    intro j hj
    obtain ⟨h0, o, ho, _⟩ := mem_ready.1 hj
    have hj' := (Array.getElem?_eq_some_iff.1 ho).1
    rw [xIb (by omega), hall j hj'] at h0
    cases h0
  | succ fuel ih =>
    intro listed a w hsz hcnt hcl hinv
    refine ⟨fun hr => done listed a w (all_of_ready listed hsz hr) hinv, fun i hi => ?_⟩
    obtain ⟨h0, o, ho, hedges⟩ := mem_ready.1 hi
    have hiN := (Array.getElem?_eq_some_iff.1 ho).1
    have h0' : listed.getD i false = false := by rw [← xIb (by omega)]; exact h0
    have hsz' : (listed.setIfInBounds i true).size = ops.size := by simpa using hsz
    have hcnt' : fuel + (listed.setIfInBounds i true).toList.count true = ops.size := by
      rw [Array.toList_setIfInBounds, xS5 (by simp; omega) (by
        rw [Array.getElem?_toList]
        rw [Array.getD_eq_getD_getElem?, Array.getElem?_eq_getElem (by omega)] at h0'
        rw [Array.getElem?_eq_getElem (by omega)]
        simpa using h0')]
      omega
    have hedges2 : ∀ e, xIH ops i e = true → listed.getD e false = true := by
      intro e he
      simp only [xIH, ho, Array.any_eq_true, Bool.and_eq_true, beq_iff_eq] at he
      obtain ⟨q, hq, hb, hon⟩ := he
      have := hedges _ (Array.getElem_mem hq) hb
      rwa [hon] at this
    have hcl' : xOt ops (listed.setIfInBounds i true) := by
      intro d o' ho' hd e he hb
      by_cases q : i = d
      · subst q
        rw [ho] at ho'; cases ho'
        exact getD_set_true (hedges e he hb)
      · rw [getD_set_ne false q] at hd
        exact getD_set_true (hcl d o' ho' hd e he hb)
    have befDone : ∀ d, Bef ops i d → listed.getD d false = true := fun d hd => xLP hcl hd hedges2
    have befNot : ∀ d, Bef ops d i → listed.getD d false = false := fun d hd => by
      cases hq : listed.getD d false with
      | false => rfl
      | true =>
        have := xLP hcl hd (xLs hcl hq)
        rw [h0'] at this; cases this
    have xGd : ∀ d, d ≠ i → (listed.setIfInBounds i true).getD d false = listed.getD d false := fun d hd => getD_set_ne false (fun e => hd e.symm)
    have hseti : (listed.setIfInBounds i true).getD i false = true := by simp [hsz, hiN]
    have hia : i < aops.length := by omega
    obtain ⟨g1, g2, g3⟩ := xGE i o aops[i] ho (List.getElem?_eq_getElem hia)
    have hread_i : xIR aops i = (aops[i]).reads := by simp [xIR, List.getElem?_eq_getElem hia]
    have hdst_i : xHa aops i = (aops[i]).dst := by simp [xHa, List.getElem?_eq_getElem hia]
    have freeAgree : ∀ (Fi : List AV), i < m → (∀ t, Fi.getD t .any = if xHM ((aops.take m).take i) t then s1.F.getD t .any else s.F.getD t .any) → ∀ t, t ∈ (aops[i]).reads →
        Fi.getD t .any = if hit (aops.take m) (fun k => listed.getD k false) t then s1.F.getD t .any else s.F.getD t .any := by
      intro Fi him e3 t ht
      rw [e3 t]
      have key : xHM ((aops.take m).take i) t = hit (aops.take m) (fun k => listed.getD k false) t := by
        rw [Bool.eq_iff_iff, hwr]
        simp only [xHM, List.any_eq_true, beq_iff_eq]
        constructor
        · rintro ⟨o', ho', hds'⟩
          obtain ⟨j, hj⟩ := List.getElem?_of_mem ho'
          have hji : j < i := by
            rcases Nat.lt_or_ge j i with q | q
            · exact q
            · rw [List.getElem?_take_eq_none q] at hj; cases hj
          rw [List.getElem?_take_of_lt hji] at hj
          obtain ⟨q1, q2⟩ := takeGet j o' hj
          have hja : xHa aops j = some t := by simp [xHa, q2, hds']
          rcases writers i j t him q1 (by rw [hread_i]; exact ht) hja with q | q | q
          · exact ⟨j, q1, befDone j q, hja⟩
          · omega
          · have := xSh edge_lt2 q; omega
        · rintro ⟨d, hd, hl, hdt⟩
          rcases writers i d t him hd (by rw [hread_i]; exact ht) hdt with q | q | q
          · have hdi := xSh edge_lt2 q
            simp only [xHa, Option.bind_eq_some_iff] at hdt
            obtain ⟨o', h2, h3⟩ := hdt
            exact ⟨o', List.mem_of_getElem? (i := d) (by rw [List.getElem?_take_of_lt hdi, List.getElem?_take_of_lt hd]; exact h2), h3⟩
          · subst q; rw [h0'] at hl; cases hl
          · rw [befNot d q] at hl; cases hl
      rw [key]
    have stepB : ∀ im io, Step im0 io0 w0 im io w → a.defers = ds → xTC chk R m ops.size aops pl s s1 s' (fun k => listed.getD k false) im io a w → wpOpIn (Fw r) n P ops Q i (wpAnyIn (Fw r) n P .any ops Q fuel (listed.setIfInBounds i true)) a w := by
      rintro im io t1 t2 ⟨k, sk, hmk, hkN, q2, q3, q4, q5, q6, q7, q8, q9⟩
      by_cases him : i < m
      · -- one of the free part comes late
        have hik : i < k := by omega
        obtain ⟨_, hlate⟩ := q3 i hik h0'
        obtain ⟨ao', hao', hslot, hnal⟩ := late_op i hlate
        rw [List.getElem?_eq_getElem hia] at hao'; cases hao'
        obtain ⟨Fi, v, e1, e2, e3, e4⟩ := f4 i aops[i] (by rw [List.getElem?_take_of_lt him, List.getElem?_eq_getElem hia]) (by
          have := late_notalloc i hlate
          simpa [xH2, List.getElem?_eq_getElem hia] using this)
        have hagree : ∀ t, t ∈ (aops[i]).reads → Fi.getD t .any = (xL9 m aops (fun k => listed.getD k false) s.F sk.F).getD t .any := by
          intro t ht
          rw [freeAgree Fi him e3 t ht, xIw _ _ _ _ _ _ q7]
          have hsk : sk.F.getD t .any = s1.F.getD t .any := by
            rw [q8 t, xH3]
            · intro v' B' ho
              obtain ⟨e, he, hae, hde⟩ := plMem _ _ _ ho
              exact hnal t ht e he hae hde
            · intro j hj1 hj2 hjt
              have hb := tails j i t hj1 (by omega) him hjt (by rw [hread_i]; exact ht)
              have := befNot j hb
              have := (q3 j hj2 this).1
              omega
          by_cases hw : xHM (aops.take m) t = true
          · obtain ⟨d, hd, hdt⟩ := (hwrites t).1 hw
            cases hDd : listed.getD d false with
            | true =>
              have hny : ¬ yet m aops (fun k => listed.getD k false) t = true := by
                intro hy
                obtain ⟨d', hd', hDd', hdt'⟩ := yet_iff.1 hy
                have := hone d d' t hd hd' hdt hdt'
                subst this
                rw [hDd] at hDd'; cases hDd'
              rw [if_pos ((hwr _ t).2 ⟨d, hd, hDd, hdt⟩), if_neg hny, hsk]
            | false =>
              have hnh : ¬ hit (aops.take m) (fun k => listed.getD k false) t = true := by
                intro hh
                obtain ⟨d', hd', hDd', hdt'⟩ := (hwr _ t).1 hh
                have := hone d d' t hd hd' hdt hdt'
                subst this
                rw [hDd] at hDd'; cases hDd'
              rw [if_neg hnh, if_pos (yet_iff.2 ⟨d, hd, hDd, hdt⟩)]
          · have hnh : ¬ hit (aops.take m) (fun k => listed.getD k false) t = true := by
              intro hh
              obtain ⟨d', hd', _, hdt'⟩ := (hwr _ t).1 hh
              exact hw ((hwrites t).2 ⟨d', hd', hdt'⟩)
            have hny : ¬ yet m aops (fun k => listed.getD k false) t = true := by
              intro hy
              obtain ⟨d', hd', _, hdt'⟩ := yet_iff.1 hy
              exact hw ((hwrites t).2 ⟨d', hd', hdt'⟩)
            rw [if_neg hnh, if_neg hny, hsk, f3 t (by simpa using hw)]
        have hwant : xIr Fi (aops[i]).guard = xIr (xL9 m aops (fun k => listed.getD k false) s.F sk.F) (aops[i]).guard := by
          refine xKd fun t wv hg => hagree t ?_
          simp [AOper.reads, hg]
        have hFA : xI5 R sk.H (xL9 m aops (fun k => listed.getD k false) s.F sk.F) aops[i] v := by
          rcases hslot with hslot | ⟨g, nn, p, hload, hgn, hll, hnow⟩
          · have hop : xGa R Fi s.H (aops[i]).op = xGa R (xL9 m aops (fun k => listed.getD k false) s.F sk.F) sk.H (aops[i]).op := by
              rw [xMa hslot Fi s.H sk.H]
              refine xLR fun x hx => xJT fun t ht => hagree t ?_
              simp only [AOper.reads, List.mem_append, List.mem_filterMap]
              exact .inl ⟨x, hx, ht⟩
            unfold xI5 at e1 ⊢
            rw [← hwant, ← hop]; exact e1
          · have hread : p ∈ (aops[i]).reads := by simp [AOper.reads, AOp.args, Arg.slot, hload]
            have hFp : Fi.getD p .any = s1.F.getD p .any := by
              rw [e3 p]
              split
              · rfl
              · rename_i hnw
                rw [f3 p]
                rw [Bool.eq_false_iff]
                intro hw
                obtain ⟨d, hd, hdt⟩ := (hwrites p).1 hw
                have hdi : d < i := by
                  rcases Nat.lt_or_ge d i with q | q
                  · exact q
                  · exact (hnow d (by omega) q hdt).elim
                apply hnw
                simp only [xHM, List.any_eq_true, beq_iff_eq]
                simp only [xHa, Option.bind_eq_some_iff] at hdt
                obtain ⟨o', h2, h3⟩ := hdt
                exact ⟨o', List.mem_of_getElem? (i := d) (by rw [List.getElem?_take_of_lt hdi, List.getElem?_take_of_lt hd]; exact h2), h3⟩
            have hFp2 := hagree p hread
            unfold xI5 at e1 ⊢
            rw [← hwant]
            rcases e1 with ⟨w1, e1⟩ | ⟨w1, _⟩
            · refine .inl ⟨w1, ?_⟩
              rw [hload] at e1 ⊢
              simp only [xGa, xBw, opv] at e1 ⊢
              rw [← hFp2]
              cases hrd : rd s.H (Fi.getD p .any) nn with
              | none => rw [hrd] at e1; cases e1
              | some cs =>
                have := q9 i him h0' p nn hll cs (by rw [← hFp]; exact hrd)
                rw [← hFp] at this
                rw [this]; rw [hrd] at e1
                simpa [Option.map_map] using e1
            · rw [hgn] at w1; simp [xIr] at w1
        have hna_i : xLe (aops[i]).op = false := by
          have := late_notalloc i hlate
          exact xI7 (by simpa [xH2, List.getElem?_eq_getElem hia] using this)
        refine xMW hR ho g1 g2 g3 hna_i q5 q6 hFA ?_
        intro im' io' a' w' u1 u2 u3 u4 _
        refine ih _ _ _ hsz' hcnt' hcl' ⟨im', io', t1.trans u1, u4.trans t2, .inr ⟨k, sk, hmk, hkN, fun j hj hDj => ?_, fun j hj hDj => ?_, q4, u2, ?_, q7, q8, fun d hd hDd p nn hl cs hr => q9 d hd (by
          by_cases e : d = i
          · subst e; simp only [hseti] at hDd; cases hDd
          · simpa [xGd d e] using hDd) p nn hl cs hr⟩⟩
        · by_cases e : j = i
          · omega
          · exact q2 j hj (by simpa [xGd j e] using hDj)
        · by_cases e : j = i
          · subst e; simp only [hseti] at hDj; cases hDj
          · exact q3 j hj (by simpa [xGd j e] using hDj)
        · have : xIY (xL9 m aops (fun k => listed.getD k false) s.F sk.F) (aops[i]).dst v = xL9 m aops (fun k => (listed.setIfInBounds i true).getD k false) s.F sk.F := by
            refine xJk (by rw [xHA, xHN, xHN]) (fun t => ?_)
            rw [xHJ, xIw _ _ _ _ _ _ q7, xIw _ _ _ _ _ _ q7, xHN]
            by_cases hdt : (aops[i]).dst = some t
            · have hny : ¬ yet m aops (fun k => (listed.setIfInBounds i true).getD k false) t = true := by
                intro hy
                obtain ⟨d', hd', hDd', hdt'⟩ := yet_iff.1 hy
                have := hone i d' t him hd' (by rw [hdst_i]; exact hdt) hdt'
                subst this
                simp only [hseti] at hDd'; cases hDd'
              rw [if_neg hny]
              have hsk : sk.F.getD t .any = s1.F.getD t .any := by
                rw [q8 t, xH3]
                · intro v' B' ho
                  obtain ⟨e, he, hae, hde⟩ := plMem _ _ _ ho
                  have := hone i e t him he (by rw [hdst_i]; exact hdt) hde
                  subst this
                  rw [late_notalloc i hlate] at hae; cases hae
                · intro j hj1 hj2 hjt
                  rcases sinks j i hj1 (by omega) (by omega) with q | ⟨_, _, q⟩
                  · have := befNot j q
                    have := (q3 j hj2 this).1
                    omega
                  · exact (q t (by rw [hdst_i]; exact hdt)).2 hjt
              by_cases hlt2 : t < s.F.length
              · rw [if_pos ⟨hdt, hlt2⟩, hsk]
                exact (e4 t hdt hlt2).symm
              · rw [if_neg (fun q => hlt2 q.2)]
                have p1 : s.F.getD t .any = .any := by simp [List.getD, List.getElem?_eq_none (Nat.le_of_not_lt hlt2)]
                have p2 : sk.F.getD t .any = .any := by simp [List.getD, List.getElem?_eq_none (by omega : sk.F.length ≤ t)]
                rw [p1, p2]; simp
            · rw [if_neg (fun q => hdt q.1)]
              have : yet m aops (fun k => (listed.setIfInBounds i true).getD k false) t = yet m aops (fun k => listed.getD k false) t := by
                rw [Bool.eq_iff_iff, yet_iff, yet_iff]
                constructor
                · rintro ⟨d, hd, hDd, hdt'⟩
                  by_cases e : d = i
                  · subst e; simp only [hseti] at hDd; cases hDd
                  · exact ⟨d, hd, by simpa [xGd d e] using hDd, hdt'⟩
                · rintro ⟨d, hd, hDd, hdt'⟩
                  by_cases e : d = i
                  · subst e; exact (hdt (by rw [← hdst_i]; exact hdt')).elim
                  · exact ⟨d, hd, by simpa [xGd d e] using hDd, hdt'⟩
              rw [this]
          rw [← this]
          exact u3
      · -- the next of the tail
        have hik : i = k := by
          have hge : k ≤ i := by
            rcases Nat.lt_or_ge i k with q | q
            · have := (q3 i q h0').1; omega
            · exact q
          rcases Nat.lt_or_ge k i with q | q
          · rcases sinks i k (by omega) hiN q with h6 | ⟨h6, _⟩
            · have := q2 k (by omega) (befDone k h6); omega
            · omega
          · omega
        subst hik
        have hyet : ∀ t, (t ∈ (aops[i]).reads ∨ (aops[i]).dst = some t) → ¬ yet m aops (fun k => listed.getD k false) t = true := by
          intro t ht hy
          obtain ⟨d, hd, hDd, hdt⟩ := yet_iff.1 hy
          rcases sinks i d hmk hiN (by omega) with h6 | ⟨_, _, h6⟩
          · have := befDone d h6
            have hDd' : listed.getD d false = false := hDd
            rw [this] at hDd'; cases hDd'
          · obtain ⟨p1, p2⟩ := h6 t hdt
            rcases ht with ht | ht
            · rw [hread_i] at p1; exact p1 ht
            · rw [hdst_i] at p2; exact p2 ht
        have hagree : ∀ t, t ∈ (aops[i]).reads → sk.F.getD t .any = (xL9 m aops (fun k => listed.getD k false) s.F sk.F).getD t .any := fun t ht => by
          rw [xIw _ _ _ _ _ _ q7, if_neg (hyet t (.inl ht))]
        have q40 := q4
        rw [List.drop_eq_getElem_cons hia] at q4
        simp only [xHn] at q4
        split at q4
        · cases q4
        rename_i s2 hs2
        have keep : ∀ (v : AV) (H2 : Heap), xBw R sk.F sk.H (aops[i]).op = some (v, H2) → ∀ d, d < m → listed.getD d false = false → ∀ p nn, xIg aops d = some (p, nn) → ∀ cs, rd sk.H (s1.F.getD p .any) nn = some cs → rd H2 (s1.F.getD p .any) nn = some cs := by
          intro v H2 hex d hd hDd p nn hll cs hrd
          rcases sinks' i d hmk hiN (by omega) with h6 | ⟨_, hlt6, hp, _⟩
          · rw [befDone d h6] at hDd; cases hDd
          · unfold xQg at hp
            rw [hll] at hp
            simp only [List.getElem?_eq_getElem hia, Bool.or_eq_true] at hp
            rcases hp with hp | hp
            · rw [xMb hp hex]; exact hrd
            · split at hp
              case h_2 => cases hp
              rename_i n' q x hopq
              simp only [Bool.and_eq_true, List.all_eq_true, List.mem_range, Bool.or_eq_true, decide_eq_true_eq, bne_iff_ne, ne_eq] at hp
              have hap := List.all_eq_true.1 hls _ (List.contains_iff_mem.1 hp.1)
              simp only [apart] at hap
              have noP : ∀ j, j < aops.length → d ≤ j → xHa aops j ≠ some p := by
                obtain ⟨ao', hao', hk', _⟩ := late_op d hlt6
                rcases hk' with hk' | ⟨g, n2, p2, hload, _, hll2, hnow⟩
                · exfalso
                  unfold xIg at hll
                  rw [hao'] at hll
                  split at hll
                  · rename_i heq
                    cases heq
                    simp [xH7] at hk'
                  · cases hll
                · rw [hll] at hll2; cases hll2
                  exact hnow
              have inDrop : ∀ o ∈ aops.drop i, ∃ j, i ≤ j ∧ j < aops.length ∧ xHa aops j = o.dst := by
                intro o' ho'
                obtain ⟨j, hj⟩ := List.getElem?_of_mem ho'
                rw [List.getElem?_drop] at hj
                exact ⟨i + j, by omega, (List.getElem?_eq_some_iff.1 hj).1, by simp [xHa, hj]⟩
              have hq : s'.F.getD q .any = sk.F.getD q .any := xI8 q40 (fun o' ho' hd' => by
                obtain ⟨j, j1, j2, j3⟩ := inDrop o' ho'
                have hq' := hp.2 j j2
                rcases hq' with q' | q'
                · exact absurd q' (Nat.not_lt.2 j1)
                · exact q' (by rw [j3]; exact hd'))
              have hpp : s'.F.getD p .any = sk.F.getD p .any := xI8 q40 (fun o' ho' hd' => by
                obtain ⟨j, j1, j2, j3⟩ := inDrop o' ho'
                exact noP j j2 (by omega) (by rw [j3]; exact hd'))
              have hp1 : sk.F.getD p .any = s1.F.getD p .any := by
                rw [q8 p (fun j hj1 hj2 => noP j (by omega) (by omega)), xH3]
                intro v' B' ho
                obtain ⟨e, he, hae, hde⟩ := plMem _ _ _ ho
                obtain ⟨ao', hao', _, hnal⟩ := late_op d hlt6
                refine hnal p ?_ e he hae hde
                unfold xIg at hll
                rw [hao'] at hll
                split at hll
                · rename_i heq
                  cases heq; cases hll
                  simp [AOper.reads, AOp.args, Arg.slot]
                · cases hll
              rw [hopq] at hex
              have hex2 := xOZ hex
              obtain ⟨hlen, hw⟩ := hex2
              refine xOY hrd hw ?_
              rw [hlen, ← hp1, ← hpp]
              show xGZ _ _ (sk.F.getD q .any) _ = true
              rw [← hq]
              exact hap
        have hwant : xIr sk.F (aops[i]).guard = xIr (xL9 m aops (fun k => listed.getD k false) s.F sk.F) (aops[i]).guard := by
          refine xKd fun t wv hg => hagree t ?_
          simp [AOper.reads, hg]
        have hop : xBw R sk.F sk.H (aops[i]).op = xBw R (xL9 m aops (fun k => listed.getD k false) s.F sk.F) sk.H (aops[i]).op := by
          refine xJn fun x hx => xJT fun t ht => hagree t ?_
          simp only [AOper.reads, List.mem_append, List.mem_filterMap]
          exact .inl ⟨x, hx, ht⟩
        have nextB : ∀ im' io' a' w' (v : AV) (H2 : Heap), (∀ d, d < m → listed.getD d false = false → ∀ p nn, xIg aops d = some (p, nn) → ∀ cs, rd sk.H (s1.F.getD p .any) nn = some cs → rd H2 (s1.F.getD p .any) nn = some cs) → s2 = ⟨xIY sk.F (aops[i]).dst v, H2⟩ → Step im io w im' io' w' → Sim chk im' io' H2 w' → FRep im' io' (xIY (xL9 m aops (fun k => listed.getD k false) s.F sk.F) (aops[i]).dst v) a' → a'.defers = a.defers →
            wpAnyIn (Fw r) n P .any ops Q fuel (listed.setIfInBounds i true) a' w' := by
          intro im' io' a' w' v H2 hkeep hs2' u1 u2 u3 u4
          subst hs2'
          refine ih _ _ _ hsz' hcnt' hcl' ⟨im', io', t1.trans u1, u4.trans t2, .inr ⟨i + 1, _, by omega, by omega, fun j hj hDj => ?_, fun j hj hDj => ?_, q4, u2, ?_, by rw [xHA]; exact q7, fun t ht => ?_, fun d hd hDd p nn hl cs hr => ?_⟩⟩
          · by_cases e : j = i
            · omega
            · have := q2 j hj (by simpa [xGd j e] using hDj); omega
          · by_cases e : j = i
            · subst e; simp only [hseti] at hDj; cases hDj
            · exact q3 j (by omega) (by simpa [xGd j e] using hDj)
          · have : xIY (xL9 m aops (fun k => listed.getD k false) s.F sk.F) (aops[i]).dst v = xL9 m aops (fun k => (listed.setIfInBounds i true).getD k false) s.F (xIY sk.F (aops[i]).dst v) := by
              refine xJk (by rw [xHA, xHN, xHN]) (fun t => ?_)
              rw [xHJ, xIw _ _ _ _ _ _ q7, xIw _ _ _ _ _ _ (by rw [xHA]; exact q7), xHN, xHJ, q7]
              have hyy : yet m aops (fun k => (listed.setIfInBounds i true).getD k false) t = yet m aops (fun k => listed.getD k false) t := by
                rw [Bool.eq_iff_iff, yet_iff, yet_iff]
                constructor
                · rintro ⟨d, hd, hDd, hdt'⟩
                  exact ⟨d, hd, by simpa [xGd d (by omega)] using hDd, hdt'⟩
                · rintro ⟨d, hd, hDd, hdt'⟩
                  exact ⟨d, hd, by simpa [xGd d (by omega)] using hDd, hdt'⟩
              rw [hyy]
              by_cases hdt : (aops[i]).dst = some t ∧ t < s.F.length
              · rw [if_pos hdt, if_neg (hyet t (.inr hdt.1)), if_pos hdt]
              · rw [if_neg hdt, if_neg hdt]
            rw [← this]; exact u3
          · rw [xHJ, if_neg]
            · exact q8 t (fun j hj1 hj2 => ht j hj1 (by omega))
            · intro q
              exact ht i hmk (by omega) (by rw [hdst_i]; exact q.1)
          · have hDd' : listed.getD d false = false := by
              have : d ≠ i := by omega
              simpa [xGd d this] using hDd
            exact hkeep d hd hDd' p nn hl cs (q9 d hd hDd' p nn hl cs hr)
        unfold wpOpIn
        simp only [ho]
        unfold xHG at hs2
        split at hs2
        · cases hs2
        · rename_i hw
          cases hs2
          rw [hwant] at hw
          rw [xIo g3 q6 hw]
          simp only [Bool.false_eq_true, if_false]
          refine ⟨fun f _ => trivial, ?_⟩
          refine nextB im io _ w _ _ (fun d _ _ p nn _ cs hr => hr) rfl (.refl _ _ _) q5 ?_ (xHF _ _ _)
          rw [g1]
          exact q6.put _ (.tup (vs := []) rfl (fun i c v h => by simp at h))
        · rename_i hw
          simp only [Option.map_eq_some_iff] at hs2
          obtain ⟨⟨v, H2⟩, hs3, rfl⟩ := hs2
          rw [hwant] at hw
          have hs30 := hs3
          rw [hop] at hs3
          rw [xIo g3 q6 hw]
          simp only [if_true]
          refine Oper.wpIn_mono ?_ (xMd hR g2 q5 q6 hs3 Q)
          rintro a' w' ⟨im', io', u1, u2, u3, u4, _⟩
          rw [g1] at u3
          exact nextB im' io' a' w' v H2 (keep v H2 hs30) rfl u1 u2 u3 u4
    obtain ⟨im, io, t1, t2, h | h⟩ := hinv
    · by_cases him : i < m
      · obtain ⟨h1, h2, h3, ioss, h4, h5⟩ := h
        have nextF : ∀ vv, (∀ t, (aops[i]).dst = some t → t < s.F.length → s1.F.getD t .any = vv) →
            xIY (mix (aops.take m) (fun k => listed.getD k false) s.F s1.F) (aops[i]).dst vv = mix (aops.take m) (fun k => (listed.setIfInBounds i true).getD k false) s.F s1.F := by
          intro vv hvv
          refine xJk (by rw [xHA, xIj, xIj]) (fun t => ?_)
          rw [xHJ, xI6 _ _ _ _ _ f2, xI6 _ _ _ _ _ f2, xIj]
          by_cases hdt : (aops[i]).dst = some t
          · have hh : hit (aops.take m) (fun k => (listed.setIfInBounds i true).getD k false) t = true := (hwr _ t).2 ⟨i, him, hseti, by rw [hdst_i]; exact hdt⟩
            rw [if_pos hh]
            by_cases hlt2 : t < s.F.length
            · rw [if_pos ⟨hdt, hlt2⟩]; exact (hvv t hdt hlt2).symm
            · rw [if_neg (fun q => hlt2 q.2)]
              have p1 : s.F.getD t .any = .any := by simp [List.getD, List.getElem?_eq_none (Nat.le_of_not_lt hlt2)]
              have p2 : s1.F.getD t .any = .any := by simp [List.getD, List.getElem?_eq_none (by omega : s1.F.length ≤ t)]
              rw [p1, p2]; simp
          · rw [if_neg (fun q => hdt q.1)]
            have : hit (aops.take m) (fun k => (listed.setIfInBounds i true).getD k false) t = hit (aops.take m) (fun k => listed.getD k false) t := by
              rw [Bool.eq_iff_iff, hwr, hwr]
              constructor
              · rintro ⟨d, hd, hDd, hdt'⟩
                by_cases e : d = i
                · subst e; exact (hdt (by rw [← hdst_i]; exact hdt')).elim
                · exact ⟨d, hd, by simpa [xGd d e] using hDd, hdt'⟩
              · rintro ⟨d, hd, hDd, hdt'⟩
                by_cases e : d = i
                · subst e; simp only [h0'] at hDd; cases hDd
                · exact ⟨d, hd, by simpa [xGd d e] using hDd, hdt'⟩
            rw [this]
        have privDst : ∀ j t v B, pl[j]? = some (some (t, v, B)) → j ≠ i → (aops[i]).dst ≠ some t := by
          intro j t v B hj hji he
          obtain ⟨q1, _, q3⟩ := plAt j t v B hj
          exact hji (hone j i t q1 him q3 (by rw [hdst_i]; exact he))
        by_cases hal : xGC (aops[i]).op = true
        · -- something is laid
          have hga := halloc i him
          rw [List.getElem?_eq_getElem hia] at hga
          simp only [hal, Bool.not_true, Bool.false_or, Bool.and_eq_true] at hga
          have hgn : (aops[i]).guard = none := by simpa using hga.1
          obtain ⟨Fi, e2, e3, g⟩ := f45 i aops[i] (by rw [List.getElem?_take_of_lt him, List.getElem?_eq_getElem hia])
          rcases g with ⟨g, _⟩ | ⟨_, t, v, B, hdt, hpv, hpl, hany⟩
          · rw [hal] at g; cases g
          have hagree : ∀ t, t ∈ (aops[i]).reads → Fi.getD t .any = (mix (aops.take m) (fun k => listed.getD k false) s.F s1.F).getD t .any := fun t ht => by
            rw [freeAgree Fi him e3 t ht, xI6 _ _ _ _ _ f2]
          have hop : xID R Fi (aops[i]).op = xID R (mix (aops.take m) (fun k => listed.getD k false) s.F s1.F) (aops[i]).op := by
            refine xNA fun x hx => xJT fun t ht => hagree t ?_
            simp only [AOper.reads, List.mem_append, List.mem_filterMap]
            exact .inl ⟨x, hx, ht⟩
          rw [hop] at hpv
          refine xQh hR ho g1 g2 g3 hgn hdt h2 h3 hpv ?_
          rintro im' a' w' x ios u1 u2 rfl u3
          refine ih _ _ _ hsz' hcnt' hcl' ⟨im', io, t1.trans u1, (xHF _ _ _).trans t2, .inl ⟨fun j hj1 hj2 => ?_, u2, ?_, fun j => if j = i then ios else ioss j, fun j t' v' B' hj hDj => ?_, fun j1 j2 x1 x2 k k' b z z' hne hj1 hj2 hD1 hD2 hk hk' => ?_⟩⟩
          · have : j ≠ i := by omega
            simp only [xGd j this]; exact h1 j hj1 hj2
          · rw [← nextF .any (fun t' ht' hlt => by rw [hdt] at ht'; cases ht'; exact hany hlt), hdt]
            exact (h3.mono u1.im_le (.refl _)).put _ (.any _)
          · by_cases e : j = i
            · subst e
              rw [hpl] at hj; cases hj
              show PrivAt _ _ _ _ _ _ _ _ (if j = j then ios else ioss j)
              rw [if_pos rfl]
              exact ⟨u3.1.low t1.size, u3.2⟩
            · show PrivAt _ _ _ _ _ _ _ _ (if j = i then ios else ioss j)
              rw [if_neg e]
              refine (h4 j t' v' B' hj (by simpa [xGd j e] using hDj)).step u1 (xMX ?_)
              rw [← hdt]; exact privDst j t' v' B' hj e
          · obtain ⟨t1', v1, B1⟩ := x1
            obtain ⟨t2', v2, B2⟩ := x2
            simp only at hk hk'
            by_cases q1 : j1 = i <;> by_cases q2 : j2 = i
            · omega
            · rw [if_pos q1] at hk
              rw [if_neg q2] at hk'
              obtain ⟨_, _, _, _, _, _, _, _, k1⟩ := u3.1.own hk
              obtain ⟨_, _, _, _, _, k2, _⟩ := (h4 j2 _ _ _ hj2 (by simpa [xGd j2 q2] using hD2)).1.own hk'
              have := (Array.getElem?_eq_some_iff.1 k2).1
              omega
            · rw [if_neg q1] at hk
              rw [if_pos q2] at hk'
              obtain ⟨_, _, _, _, _, _, _, _, k1⟩ := u3.1.own hk'
              obtain ⟨_, _, _, _, _, k2, _⟩ := (h4 j1 _ _ _ hj1 (by simpa [xGd j1 q1] using hD1)).1.own hk
              have := (Array.getElem?_eq_some_iff.1 k2).1
              omega
            · rw [if_neg q1] at hk
              rw [if_neg q2] at hk'
              exact h5 j1 j2 _ _ k k' b z z' hne hj1 hj2 (by simpa [xGd j1 q1] using hD1) (by simpa [xGd j2 q2] using hD2) hk hk'
        · -- an operation that leaves the heap alone
          have hna : xGC (aops[i]).op = false := by simpa using hal
          obtain ⟨Fi, v, e1, e2, e3, e4⟩ := f4 i aops[i] (by rw [List.getElem?_take_of_lt him, List.getElem?_eq_getElem hia]) hna
          have hagree : ∀ t, t ∈ (aops[i]).reads → Fi.getD t .any = (mix (aops.take m) (fun k => listed.getD k false) s.F s1.F).getD t .any := fun t ht => by
            rw [freeAgree Fi him e3 t ht, xI6 _ _ _ _ _ f2]
          have hwant : xIr Fi (aops[i]).guard = xIr (mix (aops.take m) (fun k => listed.getD k false) s.F s1.F) (aops[i]).guard := by
            refine xKd fun t wv hg => hagree t ?_
            simp [AOper.reads, hg]
          have hop : xGa R Fi s.H (aops[i]).op = xGa R (mix (aops.take m) (fun k => listed.getD k false) s.F s1.F) s.H (aops[i]).op := by
            refine xLR fun x hx => xJT fun t ht => hagree t ?_
            simp only [AOper.reads, List.mem_append, List.mem_filterMap]
            exact .inl ⟨x, hx, ht⟩
          have hFA : xI5 R s.H (mix (aops.take m) (fun k => listed.getD k false) s.F s1.F) aops[i] v := by
            unfold xI5 at e1 ⊢
            rw [← hwant, ← hop]; exact e1
          refine xMW hR ho g1 g2 g3 (xI7 hna) h2 h3 hFA ?_
          rintro im' io' a' w' u1 u2 u3 u4 ⟨x, rfl⟩
          have ne : ∀ j t v B, pl[j]? = some (some (t, v, B)) → j ≠ i := by
            rintro j t v B hj rfl
            have := (plAt j t v B hj).2.1
            simp [xH2, List.getElem?_eq_getElem hia, hna] at this
          refine ih _ _ _ hsz' hcnt' hcl' ⟨im', io', t1.trans u1, u4.trans t2, .inl ⟨fun j hj1 hj2 => ?_, u2, by rw [← nextF v e4]; exact u3, ioss, fun j t' v' B' hj hDj => ?_, fun j1 j2 x1 x2 k k' b z z' hne hj1 hj2 hD1 hD2 hk hk' => ?_⟩⟩
          · have : j ≠ i := by omega
            simp only [xGd j this]; exact h1 j hj1 hj2
          · have e := ne j t' v' B' hj
            exact (h4 j t' v' B' hj (by simpa [xGd j e] using hDj)).step u1 (xMX (privDst j t' v' B' hj e))
          · obtain ⟨t1', v1, B1⟩ := x1
            obtain ⟨t2', v2, B2⟩ := x2
            exact h5 j1 j2 _ _ k k' b z z' hne hj1 hj2 (by simpa [xGd j1 (ne j1 _ _ _ hj1)] using hD1) (by simpa [xGd j2 (ne j2 _ _ _ hj2)] using hD2) hk hk'
      · obtain ⟨io', u1, u2⟩ := toB _ im io a w (fun j hj hDj => by
          rcases sinks i j (by omega) hiN (by omega) with q | ⟨_, q, _⟩
          · have hDj' : listed.getD j false = false := hDj
            rw [befDone j q] at hDj'; cases hDj'
          · exact q) t1 h
        exact stepB im io' u1 t2 u2
    · exact stepB im io t1 t2 h

end


def xQj (o : Oper) : Bool := match o.op with
  | .store .. => true
  | _ => false

def xVi (ops : Array Oper) (i : Nat) : Bool := match ops[i]? with
  | some o => xQj o
  | none => false

def xNB (ops : Array Oper) : List Nat := ((List.range ops.size).filter fun i => !xVi ops i) ++ ((List.range ops.size).filter fun i => xVi ops i)

def xJz (σ : List Nat) (o : Oper) : Oper := { o with after := o.after.map fun e => { e with on := σ.idxOf e.on }, guard := o.guard.map fun g => (σ.idxOf g.1, g.2) }

def xH4 (σ : List Nat) (ops : Array Oper) : Array Oper := (σ.map fun i => xJz σ (ops.getD i default)).toArray

def xKr (σ : List Nat) (n : Nat) : Bool := σ.length == n && (List.range n).all fun k => σ.contains k && σ.idxOf (σ.getD k 0) == k && decide (σ.getD k 0 < n)

def xOu (ops : Array Oper) : Array Oper := xH4 (xNB ops) ops

section
variable {P : Program} {ops : Array Oper} {σ : List Nat}

theorem xI9 : (xH4 σ ops).size = σ.length := by simp [xH4]

theorem xJA {i : Nat} {o : Oper} (hn : ops.size ≤ σ.length) (hc : σ.contains i = true) (ho : ops[i]? = some o) : (xH4 σ ops)[σ.idxOf i]? = some (xJz σ o) := by
  have hm : i ∈ σ := List.contains_iff_mem.1 hc
  have hlt := List.idxOf_lt_length_of_mem hm
  simp only [xH4, List.getElem?_toArray, List.getElem?_map, List.getElem?_eq_getElem hlt, List.getElem_idxOf hlt, Option.map_some]
  rw [Array.getD_eq_getD_getElem?, ho]; rfl

theorem xMY (F : Fence) (n : Nat) (o : Oper) (a : Act) (w : World) (K : Act → World → Prop) (Q : Exit → Act → World → Prop) : (xJz σ o).wpIn F n P a w K Q = o.wpIn F n P a w K Q := rfl

theorem xKb {listed listed' : Array Bool} (hp : xKr σ ops.size = true) (hs : listed.size = ops.size) (hs' : listed'.size = ops.size) (hr : ∀ i, listed.getD i false = listed'.getD (σ.idxOf i) false) {i : Nat} (hi : i < ops.size) :
    i ∈ Region.ready .any ops listed ↔ σ.idxOf i ∈ Region.ready .any (xH4 σ ops) listed' := by
  simp only [xKr, Bool.and_eq_true, beq_iff_eq, List.all_eq_true, List.mem_range, decide_eq_true_eq] at hp
  obtain ⟨hlen, hp⟩ := hp
  obtain ⟨⟨hc, _⟩, _⟩ := hp i hi
  have hlt := List.idxOf_lt_length_of_mem (List.contains_iff_mem.1 hc)
  rw [mem_ready, mem_ready, xIb (by omega), xIb (by omega), hr i]
  have ho : ops[i]? = some ops[i] := Array.getElem?_eq_getElem hi
  have ho' := xJA (by omega : ops.size ≤ σ.length) hc ho
  refine and_congr Iff.rfl ⟨?_, ?_⟩
  · rintro ⟨o, h1, h2⟩
    rw [ho] at h1; cases h1
    refine ⟨_, ho', fun e he hb => ?_⟩
    simp only [xJz, Array.mem_map] at he
    obtain ⟨e0, he0, rfl⟩ := he
    rw [← hr]
    exact h2 e0 he0 hb
  · rintro ⟨o, h1, h2⟩
    rw [ho'] at h1; cases h1
    refine ⟨_, ho, fun e he hb => ?_⟩
    rw [hr]
    exact h2 { e with on := σ.idxOf e.on } (by simp only [xJz, Array.mem_map]; exact ⟨e, he, rfl⟩) hb

theorem xMZ (hp : xKr σ ops.size = true) {tmps : Array Value} {j : Nat} : yielded (xH4 σ ops) tmps (σ.idxOf j) = yielded ops tmps j := by
  simp only [xKr, Bool.and_eq_true, beq_iff_eq, List.all_eq_true, List.mem_range, decide_eq_true_eq] at hp
  obtain ⟨hlen, hp⟩ := hp
  unfold yielded
  have key : ((xH4 σ ops)[σ.idxOf j]?).bind (·.dst) = (ops[j]?).bind (·.dst) := by
    by_cases hj : j < ops.size
    · obtain ⟨⟨hc, _⟩, _⟩ := hp j hj
      rw [xJA (by omega) hc (Array.getElem?_eq_getElem hj), Array.getElem?_eq_getElem hj]
      rfl
    · rw [Array.getElem?_eq_none (by omega : ops.size ≤ j)]
      by_cases hm : j ∈ σ
      · obtain ⟨k, hk, e⟩ := List.mem_iff_getElem.1 hm
        have := (hp k (by omega)).2
        simp only [List.getD, List.getElem?_eq_getElem hk, Option.getD_some, e] at this
        omega
      · rw [List.idxOf_eq_length hm, Array.getElem?_eq_none (by rw [xI9]; exact Nat.le_refl _)]
  rw [key]

theorem xO0 {F : Fence} {n : Nat} {Q : Exit → Act → World → Prop} (hp : xKr σ ops.size = true) : ∀ (fuel : Nat) (listed listed' : Array Bool) (a : Act) (w : World), listed.size = ops.size → listed'.size = ops.size → (∀ i, listed.getD i false = listed'.getD (σ.idxOf i) false) →
    wpAnyIn F n P .any (xH4 σ ops) Q fuel listed' a w → wpAnyIn F n P .any ops Q fuel listed a w := by
  have hp0 := hp
  simp only [xKr, Bool.and_eq_true, beq_iff_eq, List.all_eq_true, List.mem_range, decide_eq_true_eq] at hp
  obtain ⟨hlen, hp⟩ := hp
  have lt_of : ∀ (listed : Array Bool) i, i ∈ Region.ready .any ops listed → i < ops.size := fun listed i hi => by
    obtain ⟨_, o, ho, _⟩ := mem_ready.1 hi
    exact (Array.getElem?_eq_some_iff.1 ho).1
  have lt_of' : ∀ (listed : Array Bool) i, i ∈ Region.ready .any (xH4 σ ops) listed → i < ops.size := fun listed i hi => by
    obtain ⟨_, o, ho, _⟩ := mem_ready.1 hi
    have := (Array.getElem?_eq_some_iff.1 ho).1
    rw [xI9] at this; omega
  have empty : ∀ (listed listed' : Array Bool), listed.size = ops.size → listed'.size = ops.size → (∀ i, listed.getD i false = listed'.getD (σ.idxOf i) false) → (Region.ready .any ops listed = [] ↔ Region.ready .any (xH4 σ ops) listed' = []) := by
    intro listed listed' hs hs' hr
    simp only [List.eq_nil_iff_forall_not_mem]
    constructor
    · intro h j hj
      have hj' := lt_of' _ j hj
      obtain ⟨⟨_, h1⟩, h2⟩ := hp j hj'
      refine h (σ.getD j 0) ((xKb hp0 hs hs' hr h2).2 ?_)
      rw [h1]; exact hj
    · intro h i hi
      exact h _ ((xKb hp0 hs hs' hr (lt_of _ i hi)).1 hi)
  intro fuel
  induction fuel with
  | zero =>
    intro listed listed' a w hs hs' hr h
    exact ⟨(empty listed listed' hs hs' hr).2 h.1, h.2⟩
  | succ fuel ih =>
    intro listed listed' a w hs hs' hr h
    refine ⟨fun hq => h.1 ((empty listed listed' hs hs' hr).1 hq), fun i hi => ?_⟩
    have hi' := lt_of _ i hi
    obtain ⟨⟨hc, _⟩, _⟩ := hp i hi'
    have h2 := h.2 _ ((xKb hp0 hs hs' hr hi').1 hi)
    unfold wpOpIn at h2 ⊢
    rw [xJA (by omega) hc (Array.getElem?_eq_getElem hi')] at h2
    rw [Array.getElem?_eq_getElem hi']
    simp only at h2 ⊢
    have xGd : ∀ k, (listed.setIfInBounds i true).getD k false = (listed'.setIfInBounds (σ.idxOf i) true).getD (σ.idxOf k) false := by
      intro k
      by_cases e : i = k
      · subst e
        have l1 := List.idxOf_lt_length_of_mem (List.contains_iff_mem.1 hc)
        simp [hs, hs', hi', (by omega : σ.idxOf i < ops.size)]
      · have e' : σ.idxOf i ≠ σ.idxOf k := by
          intro q
          have l1 := List.idxOf_lt_length_of_mem (List.contains_iff_mem.1 hc)
          have l2 : σ.idxOf k < σ.length := by omega
          have g1 := List.getElem_idxOf l1
          have g2 := List.getElem_idxOf l2
          simp only [q] at g1
          exact e (g1.symm.trans g2)
        rw [getD_set_ne false e, getD_set_ne false e', hr]
    have hk : ∀ a w, wpAnyIn F n P .any (xH4 σ ops) Q fuel (listed'.setIfInBounds (σ.idxOf i) true) a w → wpAnyIn F n P .any ops Q fuel (listed.setIfInBounds i true) a w :=
      fun a w => ih _ _ a w (by simpa using hs) (by simpa using hs') xGd
    have hw : Region.wanted (xJz σ ops[i]) (yielded (xH4 σ ops) a.tmps) = Region.wanted ops[i] (yielded ops a.tmps) := by
      unfold Region.wanted xJz
      cases hg : ops[i].guard with
      | none => rfl
      | some g =>
        obtain ⟨j, b⟩ := g
        simp only [Option.map_some, xMZ hp0]
    rw [hw] at h2
    split
    · rename_i q
      rw [if_pos q, xMY] at h2
      exact Oper.wpIn_mono hk h2
    · rename_i q
      rw [if_neg q] at h2
      exact ⟨h2.1, hk _ _ h2.2⟩
end

def xKc (P : Program) (ops : Array Oper) (ls : List (Nat × Nat × Nat × Nat)) (m : Nat) (aops : List AOper) : Bool :=
  (xJS P ops aops && xK5 ls m ops aops) || (xKr (xNB ops) ops.size && xJS P (xOu ops) aops && xK5 ls m (xOu ops) aops)

def xMc : AOp → Bool
  | .box (.c v) => xHZ v && v.cells.all AV.isCell
  | _ => false

def xK7 (m : Nat) (aops : List AOper) : Bool := (aops.take m).all fun ao => !xGC ao.op || (xMc ao.op && ao.guard.isNone && ao.dst.isSome)

section
variable {chk : Code → ACode → Bool} {P : Program} {o : Oper} {a : Act} {im : Im} {io : Io} {H H' : Heap} {w : World} {F : List AV} {R : Rec} {v : AV}

theorem xJB : ∀ (aops : List AOper) (s s1 : St) (pl : List Pr), xG9 R aops s = some (s1, pl) → s1.F.length = s.F.length
  | [], s, s1, pl, h => by simp only [xG9] at h; cases h; rfl
  | ao :: rest, s, s1, pl, h => by
    simp only [xG9] at h
    split at h
    · split at h
      · simp only [Option.map_eq_some_iff] at h
        obtain ⟨⟨s2, l2⟩, h2, e⟩ := h
        cases e
        rw [xJB rest _ _ _ h2]; simp
      · cases h
    · split at h
      · cases h
      rename_i s' h1
      obtain ⟨v, _, rfl⟩ := xJR h1
      simp only [Option.map_eq_some_iff] at h
      obtain ⟨⟨s2, l2⟩, h2, e⟩ := h
      cases e
      rw [xJB rest _ _ _ h2, xHA]

theorem xJa : ∀ (aops : List AOper) (s s1 : St), (aops.all fun ao => !xGC ao.op || (xMc ao.op && ao.guard.isNone && ao.dst.isSome)) = true → xHK R aops s = some s1 →
    ∃ pl, xG9 R aops s = some (s1, pl) ∧ ∀ s2, xGc pl s2 = xFD aops s2
  | [], s, s1, _, h => by
    simp only [xHK] at h; cases h
    exact ⟨[], rfl, fun _ => rfl⟩
  | ao :: rest, s, s1, hc, h => by
    simp only [List.all_cons, Bool.and_eq_true, Bool.or_eq_true, Bool.not_eq_true'] at hc
    obtain ⟨hc, hrest⟩ := hc
    simp only [xHK] at h
    split at h
    · cases h
    rename_i s' h1
    obtain ⟨pl, p1, p2⟩ := xJa rest s' s1 hrest h
    cases hp : xGC ao.op with
    | false =>
      refine ⟨none :: pl, ?_, fun s2 => ?_⟩
      · simp only [xG9, hp, Bool.false_eq_true, if_false, h1, p1, Option.map_some]
      · have e0 : xCA ao.op s2.H.length = none := by
          have := xI7 hp
          cases q : xCA ao.op s2.H.length with
          | none => rfl
          | some y =>
            cases hop : ao.op with
            | box x => rw [hop] at hp; cases hp
            | _ => rw [hop] at q; simp [xCA] at q
        simp only [xGc, xFD, e0]
        exact p2 s2
    | true =>
      rcases hc with hc | ⟨⟨hb, hg⟩, hd⟩
      · rw [hp] at hc; cases hc
      · cases hop : ao.op with
        | box x =>
          cases x with
          | t i => rw [hop] at hb; cases hb
          | c v =>
            rw [hop] at hb
            simp only [xMc, Bool.and_eq_true] at hb
            obtain ⟨hdv, hcl⟩ := hb
            cases hdst : ao.dst with
            | none => rw [hdst] at hd; cases hd
            | some t =>
              have hall : v.cells.all xHz = true := by
                cases v <;> first | exact hdv | (simp only [AV.cells, List.all_cons, List.all_nil, Bool.and_true]; exact hdv)
              have hgn : ao.guard = none := by simpa using hg
              have hpv : xID R s.F (.box (.c v)) = some (.ptr 0 0, [.cells false false v.cells]) := by
                simp [xID, AOp.args, opv, hdv, xBw, hcl, xJ5, xJG, xJF, xJg, hall]
              have hs' : s' = ⟨s.F.set t .any, s.H⟩ := by
                simp only [xHo, hgn, xIr, hop, xGa, hcl, if_true, Option.map_some, Option.some.injEq] at h1
                rw [← h1, hdst]; rfl
              refine ⟨some (t, .ptr 0 0, [.cells false false v.cells]) :: pl, ?_, fun s2 => ?_⟩
              · subst hs'
                simp only [xG9, hop, xGC, if_true, hdst, hpv, p1, Option.map_some]
              · simp only [xGc, xFD, hop, xCA, hdst, xHC, xId, xH6, xIY, Nat.add_zero]
                exact p2 _
        | _ => rw [hop] at hb; cases hb

theorem xOv (hR : RecOk chk P R) {ops : Array Oper} {aops : List AOper} {r : Option Nat} {n m : Nat} {ls : List (Nat × Nat × Nat × Nat)} {Q : Exit → Act → World → Prop} (hc : xJS P ops aops = true) (hok : xK5 ls m ops aops = true) {s s1 s' : St} {pl : List Pr} (hls : ls.all (apart s'.F) = true)
    (hfree : xG9 R (aops.take m) s = some (s1, pl)) (htail : xHn R (aops.drop m) (xGc pl s1) = some s') (hs : Sim chk im io s.H w) (hF : FRep im io s.F a)
    (hQ : ∀ im' io' a' w', Step im io w im' io' w' → Sim chk im' io' s'.H w' → FRep im' io' s'.F a' → a'.defers = a.defers → Q .normal a' w') : wpAnyIn (Fw r) n P .any ops Q ops.size (Array.replicate ops.size false) a { w with drawn := w.drawn + 1 } := by
  have hw1 : Step im io w im io { w with drawn := w.drawn + 1 } := Step.world rfl rfl rfl (Nat.le_refl _) (fun _ _ => rfl)
  refine xRl hR hc hok hls hfree htail (im0 := im) (io0 := io) (w0 := w) (ds := a.defers) hQ ops.size _ a _ (by simp) (by simp [List.count_replicate]) (fun d o _ hd => by rw [getD_replicate_false] at hd; cases hd) ?_
  refine ⟨im, io, hw1, rfl, .inl ⟨fun j _ _ => getD_replicate_false _ _, hs.world (Nat.le_refl _) (fun _ _ => rfl), ?_, fun _ => [], fun i t v B _ hD => (by have hD' : (Array.replicate ops.size false).getD i false = true := hD; rw [getD_replicate_false] at hD'; cases hD'), fun i j x y k k' b z z' _ _ _ hD => (by have hD' : (Array.replicate ops.size false).getD i false = true := hD; rw [getD_replicate_false] at hD'; cases hD')⟩⟩
  have : mix (aops.take m) (fun k => (Array.replicate ops.size false).getD k false) s.F s1.F = s.F := by
    have hlen := xJB _ _ _ _ hfree
    refine xJk (by rw [xIj]) (fun t => ?_)
    rw [xI6 _ _ _ _ _ hlen, if_neg]
    simp only [hit, List.any_eq_true, List.mem_range, Bool.and_eq_true, not_exists, not_and]
    intro d _ hd
    rw [getD_replicate_false] at hd
    cases hd
  rw [this]
  exact hF

theorem xOw (hR : RecOk chk P R) (hmix : P.follows .mixedOrders = true) {ops : Array Oper} {aops : List AOper} {r : Option Nat} {n id m : Nat} {Q : Exit → Act → World → Prop}
    {ls : List (Nat × Nat × Nat × Nat)} (hc : xKc P ops ls m aops = true) {s s1 s' : St} {pl : List Pr} (hls : ls.all (apart s'.F) = true)
    (hfree : xG9 R (aops.take m) s = some (s1, pl)) (htail : xHn R (aops.drop m) (xGc pl s1) = some s') (hs : Sim chk im io s.H w) (hF : FRep im io s.F a)
    (hQ : ∀ im' io' a' w', Step im io w im' io' w' → Sim chk im' io' s'.H w' → FRep im' io' s'.F a' → a'.defers = a.defers → Q .normal a' w') : (Code.region id ops true).wpIn (Fw r) n P Q a w := by
  refine wpIn_region_any hmix ?_
  simp only [xKc, Bool.or_eq_true, Bool.and_eq_true] at hc
  rcases hc with ⟨hc, hok⟩ | ⟨⟨hp, hc⟩, hok⟩
  · exact xOv hR hc hok hls hfree htail hs hF hQ
  · have hsz : (xOu ops).size = ops.size := by
      have := xI9 (σ := xNB ops) (ops := ops)
      simp only [xKr, Bool.and_eq_true, beq_iff_eq] at hp
      rw [xOu, this, hp.1]
    refine xO0 hp ops.size _ (Array.replicate ops.size false) a _ (by simp) (by simp) (fun i => ?_) (by
      have := xOv hR (r := r) (n := n) hc hok hls hfree htail hs hF hQ
      rw [hsz] at this
      exact this)
    rw [getD_replicate_false, getD_replicate_false]

theorem xQk (hR : RecOk chk P R) (hmix : P.follows .mixedOrders = true) {ops : Array Oper} {aops : List AOper} {r : Option Nat} {n id m : Nat} {Q : Exit → Act → World → Prop}
    {ls : List (Nat × Nat × Nat × Nat)} (hc : xKc P ops ls m aops = true) (hpl : xK7 m aops = true) {s s1 s' : St} (hls : ls.all (apart s'.F) = true)
    (hfree : xHK R (aops.take m) s = some s1) (htail : xHn R (aops.drop m) (xFD (aops.take m) s1) = some s') (hs : Sim chk im io s.H w) (hF : FRep im io s.F a)
    (hQ : ∀ im' io' a' w', Step im io w im' io' w' → Sim chk im' io' s'.H w' → FRep im' io' s'.F a' → a'.defers = a.defers → Q .normal a' w') : (Code.region id ops true).wpIn (Fw r) n P Q a w := by
  obtain ⟨pl, h1, h2⟩ := xJa _ _ _ hpl hfree
  exact xOw hR hmix hc hls h1 (by rw [h2]; exact htail) hs hF hQ

end
end Go.Abs
