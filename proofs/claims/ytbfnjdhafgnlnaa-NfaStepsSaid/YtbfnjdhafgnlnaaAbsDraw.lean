/- Regions that draw their order. -/
import Derived.Test.YtbfnjdhafgnlnaaAbsRegion
import Derived.StillTail
namespace Go.Abs
set_option linter.unusedVariables false
set_option linter.unusedSimpArgs false
open Go.RowKit

def edgeOn (ops : Array Oper) (i d : Nat) : Bool := match ops[i]? with
  | some o => o.after.any fun e => Region.binds .any e && e.on == d
  | none => false

/-- what is done leans on what is done -/
def Closed (ops : Array Oper) (listed : Array Bool) : Prop := ∀ d o, ops[d]? = some o → listed.getD d false = true → ∀ e ∈ o.after, Region.binds .any e = true → listed.getD e.on false = true

def dstAt (aops : List AOper) (i : Nat) : Option Nat := (aops[i]?).bind (·.dst)

/-- what stands behind what, by one edge or more -/
inductive Bef (ops : Array Oper) : Nat → Nat → Prop
  | one {i d : Nat} (h : edgeOn ops i d = true) : Bef ops i d
  | more {i e d : Nat} (h : edgeOn ops i e = true) (k : Bef ops e d) : Bef ops i d

def befRows (ops : Array Oper) : Nat → List (List Nat)
  | 0 => []
  | n + 1 => let r := befRows ops n; r ++ [(List.range n).filter fun d => edgeOn ops n d || (List.range n).any fun e => edgeOn ops n e && (r.getD e []).contains d]

def befIn (rs : List (List Nat)) (i d : Nat) : Bool := (rs.getD i []).contains d

theorem befRows_length (ops : Array Oper) : ∀ n, (befRows ops n).length = n
  | 0 => rfl
  | n + 1 => by simp [befRows, befRows_length ops n]

theorem befRows_ok (ops : Array Oper) : ∀ n i d, befIn (befRows ops n) i d = true → Bef ops i d
  | 0, i, d, h => by simp [befIn, befRows] at h
  | n + 1, i, d, h => by
    have hl := befRows_length ops n
    rcases Nat.lt_trichotomy i n with q | q | q
    · refine befRows_ok ops n i d ?_
      simpa [befIn, befRows, List.getD, List.getElem?_append_left (by omega : i < (befRows ops n).length)] using h
    · subst q
      simp only [befIn, befRows, List.getD] at h
      rw [List.getElem?_append_right (by omega), hl, Nat.sub_self] at h
      simp only [List.getElem?_cons_zero, Option.getD_some, List.contains_iff_mem, List.mem_filter, Bool.or_eq_true, List.any_eq_true, Bool.and_eq_true] at h
      rcases h.2 with h1 | ⟨e, _, h1, h2⟩
      · exact .one h1
      · refine .more h1 (befRows_ok ops i e d ?_)
        simp only [befIn, List.getD]
        simpa [List.contains_iff_mem] using h2
    · have hn := befRows_length ops (n + 1)
      have : (befRows ops (n + 1))[i]? = none := List.getElem?_eq_none (by omega)
      simp only [befIn, List.getD, this, Option.getD_none] at h
      simp at h

/-- an operation that looks at slots alone -/
def slotOnly : AOp → Bool
  | .mov _ | .pick .. | .bin .. | .beq .. | .aeq .. | .un .. | .conv .. | .ext .. | .faddr .. | .field .. | .iaddr .. | .len _ | .cap _ | .isnil .. | .maxi .. | .mini .. | .nilchk _ | .mkfunc .. | .slice .. => true
  | _ => false

def allocAt (aops : List AOper) (i : Nat) : Bool := match aops[i]? with | some ao => isAlloc ao.op | none => false

def readsAt (aops : List AOper) (i : Nat) : List Nat := match aops[i]? with | some ao => ao.reads | none => []

/-- an operation of the free part that may still be to come when the tail has begun -/
def lateAt (m : Nat) (aops : List AOper) (i : Nat) : Bool := match aops[i]? with
  | some ao => slotOnly ao.op && ao.reads.all fun t => (List.range m).all fun d => !(allocAt aops d && dstAt aops d == some t)
  | none => false

def drawOk (m : Nat) (ops : Array Oper) (aops : List AOper) : Bool :=
  let rs := befRows ops ops.size
  decide (m ≤ ops.size) &&
  ((List.range ops.size).all fun i => match ops[i]? with | some o => o.after.all (fun e => !Region.binds .any e || decide (e.on < i)) | none => false) &&
  ((List.range m).all fun i => (List.range i).all fun j => dstAt aops i == none || dstAt aops i != dstAt aops j) &&
  ((List.range m).all fun i => (readsAt aops i).all fun s => (List.range m).all fun d => dstAt aops d != some s || befIn rs i d || d == i || befIn rs d i) &&
  ((List.range m).all fun i => match aops[i]? with | some ao => !isAlloc ao.op || (ao.guard.isNone && ao.dst.isSome) | none => true) &&
  ((List.range (ops.size - m)).all fun k => (List.range (m + k)).all fun d => befIn rs (m + k) d ||
    (decide (d < m) && lateAt m aops d && (match dstAt aops d with | some t => !(readsAt aops (m + k)).contains t && dstAt aops (m + k) != some t | none => true))) &&
  ((List.range (ops.size - m)).all fun k => (List.range m).all fun d => match dstAt aops (m + k) with | some t => !(readsAt aops d).contains t || befIn rs (m + k) d | none => true)

theorem bef_listed {ops : Array Oper} {listed : Array Bool} (hcl : Closed ops listed) {i d : Nat} (h : Bef ops i d) (hi : ∀ e, edgeOn ops i e = true → listed.getD e false = true) : listed.getD d false = true := by
  induction h with
  | one h => exact hi _ h
  | more h k ih =>
    refine ih fun e he => ?_
    have := hi _ h
    simp only [edgeOn] at he
    split at he
    · rename_i o ho
      simp only [Array.any_eq_true, Bool.and_eq_true, beq_iff_eq] at he
      obtain ⟨q, hq, hb, hon⟩ := he
      have := hcl _ o ho this _ (Array.getElem_mem hq) hb
      rwa [hon] at this
    · cases he

theorem edge_of_closed {ops : Array Oper} {listed : Array Bool} (hcl : Closed ops listed) {i : Nat} (h : listed.getD i false = true) : ∀ e, edgeOn ops i e = true → listed.getD e false = true := by
  intro e he
  simp only [edgeOn] at he
  split at he
  · rename_i o ho
    simp only [Array.any_eq_true, Bool.and_eq_true, beq_iff_eq] at he
    obtain ⟨q, hq, hb, hon⟩ := he
    have := hcl _ o ho h _ (Array.getElem_mem hq) hb
    rwa [hon] at this
  · cases he

theorem bef_lt {ops : Array Oper} (hlt : ∀ i d, edgeOn ops i d = true → d < i) {i d : Nat} (h : Bef ops i d) : d < i := by
  induction h with
  | one h => exact hlt _ _ h
  | more h k ih => have := hlt _ _ h; omega

section
variable {chk : Code → ACode → Bool} {P : Program} {o : Oper} {a : Act} {im : Im} {io : Io} {H H' : Heap} {w : World} {F : List AV} {R : Rec} {v : AV}

/-- what a free operation comes to -/
def FreeAt (R : Rec) (H : Heap) (F : List AV) (ao : AOper) (v : AV) : Prop :=
  (wantA F ao.guard = some true ∧ freeOpA R F H ao.op = some v) ∨ (wantA F ao.guard = some false ∧ v = .tup [])

theorem freeOper_spec {ao : AOper} {s s1 : St} (h : freeOperA R ao s = some s1) : ∃ v, FreeAt R s.H s.F ao v ∧ s1 = ⟨putA s.F ao.dst v, s.H⟩ := by
  unfold freeOperA at h
  split at h
  · cases h
  · rename_i hw; cases h; exact ⟨_, .inr ⟨hw, rfl⟩, rfl⟩
  · rename_i hw
    simp only [Option.map_eq_some_iff] at h
    obtain ⟨v, h1, rfl⟩ := h
    exact ⟨v, .inl ⟨hw, h1⟩, rfl⟩

def writes (aops : List AOper) (s : Nat) : Bool := aops.any fun o => o.dst == some s

theorem putA_length (F : List AV) (d : Option Nat) (v : AV) : (putA F d v).length = F.length := by cases d <;> simp [putA]

theorem putA_get (F : List AV) (d : Option Nat) (v : AV) (s : Nat) : (putA F d v).getD s .any = if d = some s ∧ s < F.length then v else F.getD s .any := by
  cases d with
  | none => simp [putA]
  | some d =>
    simp only [putA, List.getD, List.getElem?_set]
    by_cases e : d = s
    · subst e
      by_cases hl : d < F.length
      · simp [hl]
      · simp [hl]
    · simp [e]

theorem runFree_spec : ∀ (aops : List AOper) (F0 : List AV) (H : Heap) (s1 : St), runFree R aops ⟨F0, H⟩ = some s1 → (∀ i j s, i < j → dstAt aops i = some s → dstAt aops j = some s → False) →
    s1.H = H ∧ s1.F.length = F0.length ∧ (∀ s, writes aops s = false → s1.F.getD s .any = F0.getD s .any) ∧
    ∀ i ao, aops[i]? = some ao → ∃ Fi v, FreeAt R H Fi ao v ∧ Fi.length = F0.length ∧ (∀ s, Fi.getD s .any = if writes (aops.take i) s then s1.F.getD s .any else F0.getD s .any) ∧ (∀ s, ao.dst = some s → s < F0.length → s1.F.getD s .any = v)
  | [], F0, H, s1, h, _ => by
    simp only [runFree] at h; cases h
    exact ⟨rfl, rfl, fun _ _ => rfl, fun i ao hi => by simp at hi⟩
  | ao :: rest, F0, H, s1, h, hd => by
    simp only [runFree] at h
    split at h
    · cases h
    rename_i s' h1
    obtain ⟨v, hv, rfl⟩ := freeOper_spec h1
    obtain ⟨e1, e2, e3, e4⟩ := runFree_spec rest _ H s1 h (fun i j s hij hi hj => hd (i + 1) (j + 1) s (by omega) (by simpa [dstAt] using hi) (by simpa [dstAt] using hj))
    have hno : ∀ s, ao.dst = some s → writes rest s = false := by
      intro s hs
      rw [Bool.eq_false_iff]
      intro hw
      simp only [writes, List.any_eq_true, beq_iff_eq] at hw
      obtain ⟨o', ho', hds⟩ := hw
      obtain ⟨j, hj, e⟩ := List.mem_iff_getElem.1 ho'
      exact hd 0 (j + 1) s (by omega) (by simp [dstAt, hs]) (by simp [dstAt, List.getElem?_eq_getElem hj, e, hds])
    refine ⟨e1, by rw [e2, putA_length], fun s hs => ?_, fun i ao' hi => ?_⟩
    · simp only [writes, List.any_cons, Bool.or_eq_false_iff, beq_eq_false_iff_ne, ne_eq] at hs
      rw [e3 s hs.2, putA_get, if_neg (fun q => hs.1 q.1)]
    · cases i with
      | zero =>
        simp at hi; subst hi
        refine ⟨F0, v, hv, rfl, fun s => by simp [writes], fun s hs hlt => ?_⟩
        rw [e3 s (hno s hs), putA_get, if_pos ⟨hs, hlt⟩]
      | succ i =>
        simp at hi
        obtain ⟨Fi, v', g1, g2, g3, g4⟩ := e4 i ao' hi
        refine ⟨Fi, v', g1, by rw [g2, putA_length], fun s => ?_, fun s hs hlt => g4 s hs (by rw [putA_length]; exact hlt)⟩
        have ew : writes ((ao :: rest).take (i + 1)) s = (ao.dst == some s || writes (rest.take i) s) := rfl
        rw [g3 s, ew]
        by_cases hw : writes (rest.take i) s = true
        · rw [hw]; simp
        · have hw' : writes (rest.take i) s = false := by simpa using hw
          rw [hw']
          by_cases hs : ao.dst = some s
          · have q1 : (ao.dst == some s) = true := by simp [hs]
            rw [q1]
            simp only [Bool.false_eq_true, if_false, Bool.or_false, if_true]
            rw [putA_get, e3 s (hno s hs), putA_get]
          · have q1 : (ao.dst == some s) = false := by simpa using hs
            rw [q1]
            simp only [Bool.false_eq_true, if_false, Bool.or_false]
            rw [putA_get, if_neg (fun q => hs q.1)]

/-- the frame when the operations in D have been carried out -/
def mix (aops : List AOper) (D : Nat → Bool) (F0 Fm : List AV) : List AV :=
  (List.range F0.length).map fun s => if (List.range aops.length).any (fun k => D k && dstAt aops k == some s) then Fm.getD s .any else F0.getD s .any

def hit (aops : List AOper) (D : Nat → Bool) (s : Nat) : Bool := (List.range aops.length).any fun k => D k && dstAt aops k == some s

theorem mix_length (aops : List AOper) (D : Nat → Bool) (F0 Fm : List AV) : (mix aops D F0 Fm).length = F0.length := by simp [mix]

theorem mix_get (aops : List AOper) (D : Nat → Bool) (F0 Fm : List AV) (s : Nat) (hl : Fm.length = F0.length) : (mix aops D F0 Fm).getD s .any = if hit aops D s then Fm.getD s .any else F0.getD s .any := by
  unfold mix hit
  by_cases hs : s < F0.length
  · simp only [List.getD, List.getElem?_map, List.getElem?_range hs, Option.map_some, Option.getD_some]
  · have e1 : F0.getD s .any = .any := by simp [List.getD, List.getElem?_eq_none (Nat.le_of_not_lt hs)]
    have e2 : Fm.getD s .any = .any := by simp [List.getD, List.getElem?_eq_none (by omega : Fm.length ≤ s)]
    rw [e1, e2]
    have : (List.range F0.length)[s]? = none := List.getElem?_eq_none (by simp; omega)
    simp [List.getD, this]

theorem ext_getD {F F' : List AV} (hl : F.length = F'.length) (h : ∀ s, F.getD s .any = F'.getD s .any) : F = F' := by
  apply List.ext_getElem hl
  intro i h1 h2
  have := h i
  simpa [List.getD, List.getElem?_eq_getElem h1, List.getElem?_eq_getElem h2] using this

theorem free_wpIn (hR : RecOk chk P R) {ops : Array Oper} {ao : AOper} {r : Option Nat} {n i : Nat} {Q : Exit → Act → World → Prop} {K : Act → World → Prop} (hi : ops[i]? = some o) (hd : o.dst = ao.dst) (hc : chkOp P o ao.op = true) (hg : chkGuard ops o.guard ao.guard = true)
    (hna : isAlloc ao.op = false) (hs : Sim chk im io H w) (hF : FRep im io F a) (h : FreeAt R H F ao v)
    (hK : ∀ im' io' a' w', Step im io w im' io' w' → Sim chk im' io' H w' → FRep im' io' (putA F ao.dst v) a' → a'.defers = a.defers → (∃ x, a' = a.put ao.dst x) → K a' w') : wpOpIn (Fw r) n P ops Q i K a w := by
  unfold wpOpIn
  simp only [hi]
  rcases h with ⟨hw, h⟩ | ⟨hw, rfl⟩
  · rw [wanted_ok hg hF hw]
    simp only [if_true]
    refine Oper.wpIn_mono ?_ (op_wpIn hR hc hs hF (free_exec hna h) Q)
    rintro a' w' ⟨im', io', t1, t2, t3, t4, t5⟩
    rw [hd] at t3 t5
    exact hK im' io' a' w' t1 t2 t3 t4 t5
  · rw [wanted_ok hg hF hw]
    simp only [Bool.false_eq_true, if_false]
    refine ⟨fun f _ => trivial, ?_⟩
    rw [hd]
    exact hK im io _ w (.refl _ _ _) hs (hF.put ao.dst (.tup (vs := []) rfl (fun i c v h => by simp at h))) (put_defers _ _ _) ⟨_, rfl⟩

/-! ### variables laid at no fixed place of the order -/

/-- a block that is nobody's yet: what a slot points to -/
def PrivAt (B0 : Nat) (im : Im) (io : Io) (w : World) (a : Act) (b : Nat) (ao : AOper) : Prop :=
  ∃ v c t, ao.op = .box (.c v) ∧ w.heap[b]? = some (.cells c t (0, 0)) ∧ im b = none ∧ ¬ Own io b ∧ B0 ≤ b ∧
    (∀ d, ao.dst = some d → ∀ y, a.tmps.toList[d]? = some y → y = .pointer (some ⟨b, 0, none⟩)) ∧
    ∀ (i : Nat) (cv : AV), v.cells[i]? = some cv → ∃ u, c[i]? = some u ∧ (∀ (im : Im) (io : Io), Rep im io cv u) ∧ cv.isCell = true

theorem PrivAt.step {B0 b : Nat} {ao : AOper} {im' : Im} {io' : Io} {w' : World} {a' : Act} (h : PrivAt B0 im io w a b ao) (hs : Step im io w im' io' w') (ha : ∀ d, ao.dst = some d → a'.tmps.toList[d]? = a.tmps.toList[d]?) : PrivAt B0 im' io' w' a' b ao := by
  obtain ⟨v, c, t, h1, h2, h3, h4, h5, h6, h7⟩ := h
  have hlt : b < w.heap.size := (Array.getElem?_eq_some_iff.1 h2).1
  refine ⟨v, c, t, h1, by rw [hs.stay b hlt h4]; exact h2, ?_, fun ho => ?_, h5, fun d hd y hy => h6 d hd y (by rw [← ha d hd]; exact hy), h7⟩
  · cases e : im' b with
    | none => rfl
    | some o =>
      rcases hs.imNew b o e with q | q | q
      · rw [h3] at q; cases q
      · exact (h4 q).elim
      · omega
  · rcases hs.ownNew b ho with q | q
    · exact h4 q
    · omega

theorem put_other {a : Act} {dst : Option Nat} {x : Value} {d : Nat} (h : dst ≠ some d) : (a.put dst x).tmps.toList[d]? = a.tmps.toList[d]? := by
  cases dst with
  | none => rfl
  | some e =>
    show (a.tmps.setIfInBounds e x).toList[d]? = _
    rw [Array.toList_setIfInBounds, List.getElem?_set_ne (fun q => h (by rw [q]))]

/-- the block becomes one of the abstract heap's -/
theorem Sim.adopt {b : Nat} {c : Array Value} {t : TypeId} {cs : List AV} (h : Sim chk im io H w) (hw : w.heap[b]? = some (.cells c t (0, 0))) (him : im b = none) (hno : ¬ Own io b)
    (hr : ∀ (i : Nat) (cv : AV), cs[i]? = some cv → ∃ u, c[i]? = some u ∧ (∀ (im : Im) (io : Io), Rep im io cv u) ∧ cv.isCell = true) : Sim chk im (upd io H.length (b, c.size)) (H ++ [.cells false false cs]) w := by
  have hlt : b < w.heap.size := (Array.getElem?_eq_some_iff.1 hw).1
  have hn : io H.length = none := h.fresh _ (Nat.le_refl _)
  have hle : IoLe io (upd io H.length (b, c.size)) := fun i x hi => by
    rw [upd_other]
    · exact hi
    · rintro rfl; rw [hn] at hi; cases hi
  refine ⟨fun id hid => ?_, fun id bk hH => ?_, fun i j bi bj b' si sj hi hj li lj hbi hbj => ?_, h.imw, fun b' ho => ?_⟩
  · simp at hid
    rw [upd_other _ _ (by omega)]; exact h.fresh id (by omega)
  · by_cases e : id < H.length
    · rw [List.getElem?_append_left e] at hH
      exact (h.blk id bk hH).mono (.refl _) hle (fun e' => by rw [upd_other _ _ (by omega)]; exact e') (fun b sz hio _ => ⟨rfl, fun e => e⟩)
    · have e' : id = H.length := by
        have := (List.getElem?_eq_some_iff.1 hH).1
        simp at this; omega
      subst e'
      simp at hH
      subst hH
      refine .inr ⟨rfl, b, c, t, upd_same _ _ _, hw, him, fun i cv hcv => ?_⟩
      obtain ⟨u, q1, q2, q3⟩ := hr i cv hcv
      exact ⟨u, q1, q2 _ _, q3⟩
  · have key : ∀ k bk sk, (H ++ [Blk.cells false false cs])[k]? = some bk → upd io H.length (b, c.size) k = some (b', sk) → (k < H.length ∧ H[k]? = some bk ∧ io k = some (b', sk)) ∨ (k = H.length ∧ b' = b) := by
      intro k bk sk hk' hbk
      by_cases e : k < H.length
      · rw [List.getElem?_append_left e] at hk'
        rw [upd_other _ _ (by omega)] at hbk
        exact .inl ⟨e, hk', hbk⟩
      · have e' : k = H.length := by
          have := (List.getElem?_eq_some_iff.1 hk').1
          simp at this; omega
        subst e'
        rw [upd_same] at hbk; cases hbk
        exact .inr ⟨rfl, rfl⟩
    rcases key i bi si hi hbi with ⟨_, h1, h2⟩ | ⟨h1, h2⟩ <;> rcases key j bj sj hj hbj with ⟨_, g1, g2⟩ | ⟨g1, g2⟩
    · exact h.inj i j bi bj b' si sj h1 g1 li lj h2 g2
    · exact (hno ⟨i, si, by rw [h2, g2]⟩).elim
    · exact (hno ⟨j, sj, by rw [g2, h2]⟩).elim
    · omega
  · obtain ⟨id, sz, hi⟩ := ho
    by_cases e : id = H.length
    · subst e; rw [upd_same] at hi; cases hi; exact hlt
    · rw [upd_other _ _ e] at hi; exact h.inb b' ⟨id, sz, hi⟩

theorem Reps.setL {cs : List AV} {vs : List Value} (h : Reps im io cs vs) (d : Nat) {v : AV} (hx : ∀ y, vs[d]? = some y → Rep im io v y) : Reps im io (cs.set d v) vs := by
  refine ⟨by simp [h.1], fun j c u h1 h2 => ?_⟩
  rw [List.getElem?_set] at h1
  split at h1
  · rename_i e
    subst e
    split at h1
    · cases h1; exact hx u h2
    · cases h1
  · exact h.2 j c u h1 h2

theorem adopt_ok {B0 : Nat} : ∀ (l : List AOper) (s : St) (io : Io) (bs : Nat → Nat), Sim chk im io s.H w → FRep im io s.F a →
    (∀ i ao, l[i]? = some ao → isAlloc ao.op = true → PrivAt B0 im io w a (bs i) ao) → (∀ i j ai aj, l[i]? = some ai → l[j]? = some aj → isAlloc ai.op = true → isAlloc aj.op = true → bs i = bs j → i = j) →
    ∃ io', Sim chk im io' (adopt l s).H w ∧ FRep im io' (adopt l s).F a ∧ IoLe io io' ∧ ∀ b, Own io' b → Own io b ∨ B0 ≤ b
  | [], s, io, bs, hs, hF, _, _ => ⟨io, hs, hF, .refl _, fun _ h => .inl h⟩
  | o :: rest, s, io, bs, hs, hF, hp, hd => by
    by_cases hal : isAlloc o.op = true
    · obtain ⟨v, c, t, h1, h2, h3, h4, h5, h6, h7⟩ := hp 0 o rfl hal
      have hs' := hs.adopt h2 h3 h4 h7
      have hn : io s.H.length = none := hs.fresh _ (Nat.le_refl _)
      have hle : IoLe io (upd io s.H.length (bs 0, c.size)) := fun i x hi => by
        rw [upd_other]
        · exact hi
        · rintro rfl; rw [hn] at hi; cases hi
      have hown : ∀ b, Own (upd io s.H.length (bs 0, c.size)) b → Own io b ∨ b = bs 0 := fun b ⟨id, sz, hi⟩ => by
        by_cases e : id = s.H.length
        · subst e; rw [upd_same] at hi; cases hi; exact .inr rfl
        · rw [upd_other _ _ e] at hi; exact .inl ⟨id, sz, hi⟩
      have hF' : FRep im (upd io s.H.length (bs 0, c.size)) (putA s.F o.dst (.ptr s.H.length 0)) a := by
        cases hdst : o.dst with
        | none => exact hF.mono (.refl _) hle
        | some d =>
          refine Reps.setL (Reps.mono (.refl _) hle hF) d fun y hy => ?_
          rw [h6 d hdst y hy]
          exact .ptr (upd_same _ _ _)
      obtain ⟨io', g1, g2, g3, g4⟩ := adopt_ok rest ⟨putA s.F o.dst (.ptr s.H.length 0), s.H ++ [.cells false false v.cells]⟩ _ (fun i => bs (i + 1)) hs' hF'
        (fun i ao hi hai => by
          obtain ⟨v', c', t', k1, k2, k3, k4, k5, k6, k7⟩ := hp (i + 1) ao hi hai
          refine ⟨v', c', t', k1, k2, k3, fun ho => ?_, k5, k6, k7⟩
          rcases hown _ ho with q | q
          · exact k4 q
          · have := hd (i + 1) 0 ao o hi rfl hai hal q
            omega)
        (fun i j ai aj hi hj hai haj e => by have := hd (i + 1) (j + 1) ai aj hi hj hai haj e; omega)
      have e1 : adopt (o :: rest) s = adopt rest ⟨putA s.F o.dst (.ptr s.H.length 0), s.H ++ [.cells false false v.cells]⟩ := by
        simp only [Go.Abs.adopt, h1, adoptVal]
      rw [e1]
      refine ⟨io', g1, g2, hle.trans g3, fun b hb => ?_⟩
      rcases g4 b hb with q | q
      · rcases hown b q with q2 | q2
        · exact .inl q2
        · exact .inr (q2 ▸ h5)
      · exact .inr q
    · have e0 : ∀ id, adoptVal o.op id = none := by
        intro id
        cases ho : o.op with
        | box x =>
          cases x with
          | t i => rfl
          | c v => rw [ho] at hal; exact (hal rfl).elim
        | _ => rfl
      obtain ⟨io', g⟩ := adopt_ok rest s io (fun i => bs (i + 1)) hs hF (fun i ao hi hai => hp (i + 1) ao hi hai) (fun i j ai aj hi hj hai haj e => by have := hd (i + 1) (j + 1) ai aj hi hj hai haj e; omega)
      have e1 : adopt (o :: rest) s = adopt rest s := by simp only [Go.Abs.adopt, e0]
      rw [e1]
      exact ⟨io', g⟩

theorem getD_default {listed : Array Bool} {j : Nat} (h : j < listed.size) : listed.getD j true = listed.getD j false := by
  simp [h]

theorem cnt_set {l : List Bool} : ∀ {i : Nat}, i < l.length → l[i]? = some false → (l.set i true).count true = l.count true + 1 := by
  induction l with
  | nil => intro i h; simp at h
  | cons b l ih =>
    intro i h hb
    cases i with
    | zero => simp at hb; subst hb; simp
    | succ i =>
      simp at hb h
      rw [List.set_cons_succ, List.count_cons, List.count_cons, ih h hb]
      omega

theorem cnt_all {l : List Bool} : l.count true = l.length → ∀ i, i < l.length → l[i]? = some true := by
  induction l with
  | nil => intro _ i h; simp at h
  | cons b l ih =>
    intro h i hi
    have hle : l.count true ≤ l.length := List.count_le_length
    rw [List.count_cons] at h
    simp at h
    cases b with
    | false => simp at h; omega
    | true =>
      cases i with
      | zero => rfl
      | succ i => simp at hi ⊢; exact by have := ih (by simpa using h) i hi; simpa [List.getElem?_eq_getElem hi] using this

theorem adopt_len : ∀ (l : List AOper) (s : St), (adopt l s).F.length = s.F.length
  | [], s => rfl
  | o :: rest, s => by
    simp only [adopt]
    split
    · rw [adopt_len rest]; simp [putA_length]
    · exact adopt_len rest s

theorem adopt_H : ∀ (l : List AOper) (F F' : List AV) (H : Heap), (adopt l ⟨F, H⟩).H = (adopt l ⟨F', H⟩).H
  | [], _, _, _ => rfl
  | o :: rest, F, F', H => by
    simp only [adopt]
    split
    · exact adopt_H rest _ _ _
    · exact adopt_H rest _ _ _

theorem adopt_none {op : AOp} (h : isAlloc op = false) (id : Nat) : adoptVal op id = none := by
  cases ho : op with
  | box x =>
    cases x with
    | t i => rfl
    | c v => rw [ho] at h; cases h
  | _ => rfl

theorem adopt_some {op : AOp} (h : isAlloc op = true) : ∃ v, op = .box (.c v) := by
  cases ho : op with
  | box x =>
    cases x with
    | t i => rw [ho] at h; cases h
    | c v => exact ⟨v, rfl⟩
  | _ => rw [ho] at h; cases h

theorem adopt_get (t : Nat) : ∀ (l : List AOper) (F F' : List AV) (H : Heap), F.length = F'.length → (F.getD t .any = F'.getD t .any ∨ ∃ o ∈ l, isAlloc o.op = true ∧ o.dst = some t) →
    (adopt l ⟨F, H⟩).F.getD t .any = (adopt l ⟨F', H⟩).F.getD t .any
  | [], F, F', H, hl, h => by
    rcases h with h | ⟨o, ho, _⟩
    · exact h
    · cases ho
  | o :: rest, F, F', H, hl, h => by
    simp only [adopt]
    by_cases hal : isAlloc o.op = true
    · obtain ⟨v, hv⟩ := adopt_some hal
      simp only [hv, adoptVal]
      refine adopt_get t rest _ _ _ (by simp [putA_length, hl]) ?_
      rw [putA_get, putA_get, hl]
      by_cases hd : o.dst = some t
      · by_cases hlt : t < F'.length
        · left; rw [if_pos ⟨hd, hlt⟩, if_pos ⟨hd, hlt⟩]
        · left
          rw [if_neg (fun q => hlt q.2), if_neg (fun q => hlt q.2)]
          simp [List.getD, List.getElem?_eq_none (Nat.le_of_not_lt hlt), List.getElem?_eq_none (by omega : F.length ≤ t)]
      · rw [if_neg (fun q => hd q.1), if_neg (fun q => hd q.1)]
        rcases h with h | ⟨o', ho', h1, h2⟩
        · exact .inl h
        · rcases List.mem_cons.1 ho' with q | q
          · subst q; exact (hd h2).elim
          · exact .inr ⟨o', q, h1, h2⟩
    · have hal' : isAlloc o.op = false := by simpa using hal
      simp only [adopt_none hal']
      refine adopt_get t rest _ _ _ hl ?_
      rcases h with h | ⟨o', ho', h1, h2⟩
      · exact .inl h
      · rcases List.mem_cons.1 ho' with q | q
        · subst q; rw [h1] at hal'; cases hal'
        · exact .inr ⟨o', q, h1, h2⟩

theorem adopt_same (t : Nat) : ∀ (l : List AOper) (s : St), (∀ o ∈ l, isAlloc o.op = true → o.dst ≠ some t) → (adopt l s).F.getD t .any = s.F.getD t .any
  | [], _, _ => rfl
  | o :: rest, s, h => by
    simp only [adopt]
    split
    · rename_i v cs e
      rw [adopt_same t rest _ (fun o' ho' => h o' (List.mem_cons_of_mem _ ho'))]
      rw [putA_get, if_neg]
      intro q
      exact h o (List.mem_cons_self ..) (by
        cases hq : isAlloc o.op with
        | true => rfl
        | false => rw [adopt_none hq] at e; cases e) q.1
    · exact adopt_same t rest s (fun o' ho' => h o' (List.mem_cons_of_mem _ ho'))

/-- the frame while some of the free part are still to come -/
def hide (m : Nat) (aops : List AOper) (D : Nat → Bool) (F0 F : List AV) : List AV :=
  (List.range F0.length).map fun t => if (List.range m).any (fun d => !D d && dstAt aops d == some t) then F0.getD t .any else F.getD t .any

def yet (m : Nat) (aops : List AOper) (D : Nat → Bool) (t : Nat) : Bool := (List.range m).any fun d => !D d && dstAt aops d == some t

theorem hide_length (m : Nat) (aops : List AOper) (D : Nat → Bool) (F0 F : List AV) : (hide m aops D F0 F).length = F0.length := by simp [hide]

theorem hide_get (m : Nat) (aops : List AOper) (D : Nat → Bool) (F0 F : List AV) (t : Nat) (hl : F.length = F0.length) : (hide m aops D F0 F).getD t .any = if yet m aops D t then F0.getD t .any else F.getD t .any := by
  unfold hide yet
  by_cases hs : t < F0.length
  · simp only [List.getD, List.getElem?_map, List.getElem?_range hs, Option.map_some, Option.getD_some]
  · have e1 : F0.getD t .any = .any := by simp [List.getD, List.getElem?_eq_none (Nat.le_of_not_lt hs)]
    have e2 : F.getD t .any = .any := by simp [List.getD, List.getElem?_eq_none (by omega : F.length ≤ t)]
    rw [e1, e2]
    have : (List.range F0.length)[t]? = none := List.getElem?_eq_none (by simp; omega)
    simp [List.getD, this]

theorem yet_iff {m : Nat} {aops : List AOper} {D : Nat → Bool} {t : Nat} : yet m aops D t = true ↔ ∃ d, d < m ∧ D d = false ∧ dstAt aops d = some t := by
  simp [yet, and_assoc]

theorem slotOnly_free {op : AOp} (h : slotOnly op = true) (F : List AV) (H H' : Heap) : freeOpA R F H op = freeOpA R F H' op := by
  cases op <;> simp only [slotOnly] at h <;> first | (cases h; done) | skip
  all_goals simp only [freeOpA, execOpA]
  all_goals first
    | rfl
    | simp only [Option.map_map]; rfl
    | (split <;> first | rfl | (simp only [Option.map_map]; rfl) | (split <;> first | rfl | (simp only [Option.map_map]; rfl)))

theorem slotOnly_alloc {op : AOp} (h : slotOnly op = true) : isAlloc op = false := by
  cases op <;> first | rfl | (simp [slotOnly] at h; done)

/-- the invariant while the free part is under way -/
def InvA (chk : Code → ACode → Bool) (w0 : World) (m : Nat) (N : Nat) (aops : List AOper) (s s1 : St) (D : Nat → Bool) (im : Im) (io : Io) (a : Act) (w : World) : Prop :=
  (∀ j, m ≤ j → j < N → D j = false) ∧ Sim chk im io s.H w ∧ FRep im io (mix (aops.take m) D s.F s1.F) a ∧
  ∃ bs : Nat → Nat, (∀ i ao, i < m → aops[i]? = some ao → isAlloc ao.op = true → D i = true → PrivAt w0.heap.size im io w a (bs i) ao) ∧
    ∀ i j, i < m → j < m → allocAt aops i = true → allocAt aops j = true → D i = true → D j = true → bs i = bs j → i = j

/-- the invariant when the tail is under way -/
def InvB (chk : Code → ACode → Bool) (R : Rec) (m : Nat) (N : Nat) (aops : List AOper) (s s1 s' : St) (D : Nat → Bool) (im : Im) (io : Io) (a : Act) (w : World) : Prop :=
  ∃ k sk, m ≤ k ∧ k ≤ N ∧ (∀ j, j < N → D j = true → j < k) ∧ (∀ j, j < k → D j = false → j < m ∧ lateAt m aops j = true) ∧ runOps R (aops.drop k) sk = some s' ∧
    Sim chk im io sk.H w ∧ FRep im io (hide m aops D s.F sk.F) a ∧ sk.F.length = s.F.length ∧
    ∀ t, (∀ j, m ≤ j → j < k → dstAt aops j ≠ some t) → sk.F.getD t .any = (adopt (aops.take m) s1).F.getD t .any


theorem draw_any (hR : RecOk chk P R) {ops : Array Oper} {aops : List AOper} {r : Option Nat} {n m : Nat} {Q : Exit → Act → World → Prop} {s s1 s' : St} {im0 : Im} {io0 : Io} {w0 : World} {ds : List Deferred}
    (hc : chkOps P ops aops = true) (hok : drawOk m ops aops = true) (hfree : runFree R (aops.take m) s = some s1) (htail : runOps R (aops.drop m) (adopt (aops.take m) s1) = some s')
    (hQ : ∀ im' io' a' w', Step im0 io0 w0 im' io' w' → Sim chk im' io' s'.H w' → FRep im' io' s'.F a' → a'.defers = ds → Q .normal a' w') :
    ∀ (fuel : Nat) (listed : Array Bool) (a : Act) (w : World), listed.size = ops.size → fuel + listed.toList.count true = ops.size → Closed ops listed →
      (∃ im io, Step im0 io0 w0 im io w ∧ a.defers = ds ∧ (InvA chk w0 m ops.size aops s s1 (fun k => listed.getD k false) im io a w ∨ InvB chk R m ops.size aops s s1 s' (fun k => listed.getD k false) im io a w)) →
      wpAnyIn (Fw r) n P .any ops Q fuel listed a w := by
  obtain ⟨hlen, hget⟩ := chkOps_get hc
  simp only [drawOk, Bool.and_eq_true, decide_eq_true_eq, List.all_eq_true, List.mem_range] at hok
  obtain ⟨⟨⟨⟨⟨⟨hm, hlt⟩, hdist⟩, hreads⟩, halloc⟩, hsink⟩, htw⟩ := hok
  -- what is written is written once
  have hone : ∀ i j t, i < m → j < m → dstAt aops i = some t → dstAt aops j = some t → i = j := by
    intro i j t hi hj h1 h2
    rcases Nat.lt_trichotomy i j with q | q | q
    · have := hdist j hj i q
      rw [h1, h2] at this
      simp at this
    · exact q
    · have := hdist i hi j q
      rw [h1, h2] at this
      simp at this
  have hdsts : ∀ i j t, i < j → dstAt (aops.take m) i = some t → dstAt (aops.take m) j = some t → False := by
    intro i j t hij hi hj
    have hjm : j < m := by
      rcases Nat.lt_or_ge j m with q | q
      · exact q
      · simp [dstAt, List.getElem?_take_eq_none q] at hj
    have hi' : dstAt aops i = some t := by simpa [dstAt, List.getElem?_take_of_lt (by omega : i < m)] using hi
    have hj' : dstAt aops j = some t := by simpa [dstAt, List.getElem?_take_of_lt hjm] using hj
    have := hone i j t (by omega) hjm hi' hj'
    omega
  obtain ⟨f1, f2, f3, f4⟩ := runFree_spec (aops.take m) s.F s.H s1 hfree hdsts
  have edge_lt : ∀ (i : Nat) (o : Oper) (e : Edge), ops[i]? = some o → e ∈ o.after → Region.binds .any e = true → e.on < i := by
    intro i o e ho he hb
    have := hlt i (Array.getElem?_eq_some_iff.1 ho).1
    simp only [ho] at this
    have := Array.all_eq_true_iff_forall_mem.1 this e he
    simpa [hb] using this
  have edge_lt2 : ∀ i d, edgeOn ops i d = true → d < i := by
    intro i d he
    simp only [edgeOn] at he
    split at he
    · rename_i o ho
      simp only [Array.any_eq_true, Bool.and_eq_true, beq_iff_eq] at he
      obtain ⟨q, hq, hb, hon⟩ := he
      have := edge_lt i o _ ho (Array.getElem_mem hq) hb
      rwa [hon] at this
    · cases he
  have all_of_ready : ∀ listed : Array Bool, listed.size = ops.size → Region.ready .any ops listed = [] → ∀ j, j < ops.size → listed.getD j false = true := by
    intro listed hsz hr j
    induction j using Nat.strongRecOn with
    | _ j ih =>
      intro hj
      cases hcase : listed.getD j false with
      | true => rfl
      | false =>
        exfalso
        have : j ∈ Region.ready .any ops listed := mem_ready.2 ⟨by rw [getD_default (by omega)]; exact hcase, ops[j], Array.getElem?_eq_getElem hj, fun e he hb => by
          have h1 := edge_lt j _ e (Array.getElem?_eq_getElem hj) he hb
          exact ih e.on h1 (by omega)⟩
        rw [hr] at this
        cases this
  -- what the table says, in words
  have late_op : ∀ d, lateAt m aops d = true → ∃ ao, aops[d]? = some ao ∧ slotOnly ao.op = true ∧ ∀ t ∈ ao.reads, ∀ e, e < m → allocAt aops e = true → dstAt aops e ≠ some t := by
    intro d hd
    unfold lateAt at hd
    split at hd
    · rename_i ao hao
      simp only [Bool.and_eq_true, List.all_eq_true, List.mem_range] at hd
      refine ⟨ao, hao, hd.1, fun t ht e he ha hde => ?_⟩
      have := hd.2 t ht e he
      rw [ha, hde] at this
      simp at this
    · cases hd
  have late_notalloc : ∀ d, lateAt m aops d = true → allocAt aops d = false := by
    intro d hd
    obtain ⟨ao, hao, hs, _⟩ := late_op d hd
    simp [allocAt, hao, slotOnly_alloc hs]
  have sinks : ∀ k d, m ≤ k → k < ops.size → d < k → Bef ops k d ∨ (d < m ∧ lateAt m aops d = true ∧ ∀ t, dstAt aops d = some t → t ∉ readsAt aops k ∧ dstAt aops k ≠ some t) := by
    intro k d hk hkN hd
    have h5 := hsink (k - m) (by omega) d (by omega)
    rw [show m + (k - m) = k by omega] at h5
    simp only [Bool.or_eq_true, Bool.and_eq_true, decide_eq_true_eq] at h5
    rcases h5 with h5 | ⟨⟨h5, h6⟩, h7⟩
    · exact .inl (befRows_ok ops _ _ _ h5)
    · refine .inr ⟨h5, h6, fun t ht => ?_⟩
      rw [ht] at h7
      simp only [Bool.and_eq_true, Bool.not_eq_true', bne_iff_ne, ne_eq] at h7
      exact ⟨by simpa using h7.1, h7.2⟩
  have tails : ∀ k d t, m ≤ k → k < ops.size → d < m → dstAt aops k = some t → t ∈ readsAt aops d → Bef ops k d := by
    intro k d t hk hkN hd hdst ht
    have h5 := htw (k - m) (by omega) d hd
    rw [show m + (k - m) = k by omega, hdst] at h5
    simp only [Bool.or_eq_true, Bool.not_eq_true'] at h5
    rcases h5 with h5 | h5
    · rw [← List.contains_iff_mem] at ht
      rw [ht] at h5; cases h5
    · exact befRows_ok ops _ _ _ h5
  have writers : ∀ i d t, i < m → d < m → t ∈ readsAt aops i → dstAt aops d = some t → Bef ops i d ∨ d = i ∨ Bef ops d i := by
    intro i d t hi hd ht hdst
    have h5 := hreads i hi t ht d hd
    rw [hdst] at h5
    simp only [bne_self_eq_false, Bool.false_or, Bool.or_eq_true, beq_iff_eq] at h5
    rcases h5 with (h5 | h5) | h5
    · exact .inl (befRows_ok ops _ _ _ h5)
    · exact .inr (.inl h5)
    · exact .inr (.inr (befRows_ok ops _ _ _ h5))
  have takeGet : ∀ (i : Nat) (ao : AOper), (aops.take m)[i]? = some ao → i < m ∧ aops[i]? = some ao := by
    intro i ao h
    by_cases q : i < m
    · rw [List.getElem?_take_of_lt q] at h; exact ⟨q, h⟩
    · rw [List.getElem?_take_eq_none (by omega)] at h; cases h
  have hwr : ∀ (D : Nat → Bool) (t : Nat), hit (aops.take m) D t = true ↔ ∃ d, d < m ∧ D d = true ∧ dstAt aops d = some t := by
    intro D t
    simp only [hit, List.any_eq_true, List.mem_range, beq_iff_eq, Bool.and_eq_true]
    constructor
    · rintro ⟨d, hd, h1, h2⟩
      have hdm : d < m := by simp at hd; omega
      exact ⟨d, hdm, h1, by simpa [dstAt, List.getElem?_take_of_lt hdm] using h2⟩
    · rintro ⟨d, hd, h1, h2⟩
      exact ⟨d, by simp; omega, h1, by simpa [dstAt, List.getElem?_take_of_lt hd] using h2⟩
  have hwrites : ∀ t, writes (aops.take m) t = true ↔ ∃ d, d < m ∧ dstAt aops d = some t := by
    intro t
    simp only [writes, List.any_eq_true, beq_iff_eq]
    constructor
    · rintro ⟨o', ho', hd⟩
      obtain ⟨j, hj⟩ := List.getElem?_of_mem ho'
      obtain ⟨q1, q2⟩ := takeGet j o' hj
      exact ⟨j, q1, by simp [dstAt, q2, hd]⟩
    · rintro ⟨d, hd, h1⟩
      simp only [dstAt, Option.bind_eq_some_iff] at h1
      obtain ⟨o', h2, h3⟩ := h1
      exact ⟨o', List.mem_of_getElem? (i := d) (by rw [List.getElem?_take_of_lt hd]; exact h2), h3⟩
  have allocMem : ∀ o ∈ aops.take m, isAlloc o.op = true → ∀ t, o.dst = some t → ∃ d, d < m ∧ allocAt aops d = true ∧ dstAt aops d = some t := by
    intro o ho hal t ht
    obtain ⟨j, hj⟩ := List.getElem?_of_mem ho
    obtain ⟨q1, q2⟩ := takeGet j o hj
    exact ⟨j, q1, by simp [allocAt, q2, hal], by simp [dstAt, q2, ht]⟩
  have lenF2 : (adopt (aops.take m) s1).F.length = s.F.length := by rw [adopt_len, f2]
  -- the tail begins
  have toB : ∀ (D : Nat → Bool) im io a w, (∀ j, j < m → D j = false → lateAt m aops j = true) → Step im0 io0 w0 im io w → InvA chk w0 m ops.size aops s s1 D im io a w →
      ∃ io', Step im0 io0 w0 im io' w ∧ InvB chk R m ops.size aops s s1 s' D im io' a w := by
    rintro D im io a w hD t1 ⟨h1, h2, h3, bs, h4, h5⟩
    have allL : ∀ i ao, i < m → aops[i]? = some ao → isAlloc ao.op = true → D i = true := by
      intro i ao hi hao hal
      cases hq : D i with
      | true => rfl
      | false =>
        have := late_notalloc i (hD i hi hq)
        simp [allocAt, hao, hal] at this
    obtain ⟨io', g1, g2, g3, g4⟩ := adopt_ok (B0 := w0.heap.size) (aops.take m) ⟨mix (aops.take m) D s.F s1.F, s.H⟩ io bs h2 h3
      (fun i ao hi hal => by
        obtain ⟨q1, q2⟩ := takeGet i ao hi
        exact h4 i ao q1 q2 hal (allL i ao q1 q2 hal))
      (fun i j ai aj hi hj hai haj e => by
        obtain ⟨q1, q2⟩ := takeGet i ai hi
        obtain ⟨q3, q4⟩ := takeGet j aj hj
        exact h5 i j q1 q3 (by simp [allocAt, q2, hai]) (by simp [allocAt, q4, haj]) (allL i ai q1 q2 hai) (allL j aj q3 q4 haj) e)
    refine ⟨io', ⟨t1.im_le, t1.io_le.trans g3, t1.os, t1.tape, t1.output, t1.size, t1.stay, fun b hb => ?_, t1.imNew⟩, m, adopt (aops.take m) s1, Nat.le_refl _, hm, fun j hj hDj => ?_, fun j hj hDj => ⟨hj, hD j hj hDj⟩, htail, ?_, ?_, lenF2, fun _ _ => rfl⟩
    · rcases g4 b hb with q | q
      · exact t1.ownNew b q
      · exact .inr q
    · rcases Nat.lt_or_ge j m with q | q
      · exact q
      · rw [h1 j q hj] at hDj; cases hDj
    · have : (adopt (aops.take m) s1).H = (adopt (aops.take m) ⟨mix (aops.take m) D s.F s1.F, s.H⟩).H := by
        obtain ⟨F1, H1⟩ := s1
        simp only at f1
        subst f1
        exact adopt_H _ _ _ _
      rw [this]; exact g1
    · have : hide m aops D s.F (adopt (aops.take m) s1).F = (adopt (aops.take m) ⟨mix (aops.take m) D s.F s1.F, s.H⟩).F := by
        refine ext_getD (by rw [hide_length, adopt_len, mix_length]) (fun t => ?_)
        rw [hide_get _ _ _ _ _ _ lenF2]
        by_cases hy : yet m aops D t = true
        · rw [if_pos hy]
          obtain ⟨d, hd, hDd, hdt⟩ := yet_iff.1 hy
          rw [adopt_same]
          · simp only
            rw [mix_get _ _ _ _ _ f2, if_neg]
            intro hh
            obtain ⟨d', hd', hDd', hdt'⟩ := (hwr D t).1 hh
            have := hone d d' t hd hd' hdt hdt'
            subst this
            rw [hDd] at hDd'; cases hDd'
          · intro o ho hal hod
            obtain ⟨e, he, hae, hde⟩ := allocMem o ho hal t hod
            have := hone d e t hd he hdt hde
            subst this
            have := late_notalloc d (hD d hd hDd)
            rw [this] at hae; cases hae
        · rw [if_neg hy]
          obtain ⟨F1, H1⟩ := s1
          simp only at f1 f2 f3
          subst f1
          refine adopt_get t _ _ _ _ (by rw [mix_length, f2]) ?_
          by_cases hw : writes (aops.take m) t = true
          · obtain ⟨d, hd, hdt⟩ := (hwrites t).1 hw
            cases hDd : D d with
            | false => exact (hy (yet_iff.2 ⟨d, hd, hDd, hdt⟩)).elim
            | true =>
              left
              rw [mix_get _ _ _ _ _ f2, if_pos ((hwr D t).2 ⟨d, hd, hDd, hdt⟩)]
          · left
            have hw' : writes (aops.take m) t = false := by simpa using hw
            rw [mix_get _ _ _ _ _ f2, if_neg]
            · exact f3 t hw'
            · intro hh
              obtain ⟨d', hd', _, hdt'⟩ := (hwr D t).1 hh
              exact hw ((hwrites t).2 ⟨d', hd', hdt'⟩)
      rw [this]; exact g2
  have doneB : ∀ (D : Nat → Bool) im io a w, (∀ j, j < ops.size → D j = true) → Step im0 io0 w0 im io w → a.defers = ds → InvB chk R m ops.size aops s s1 s' D im io a w → Q .normal a w := by
    rintro D im io a w hall t1 t2 ⟨k, sk, hmk, hkN, g2, g3, g4, g5, g6, g7, g8⟩
    have hk : k = ops.size := by
      rcases Nat.lt_or_ge k ops.size with q | q
      · have := g2 k q (hall k q); omega
      · omega
    rw [List.drop_eq_nil_of_le (by omega)] at g4
    simp only [runOps] at g4; cases g4
    refine hQ im io a w t1 g5 ?_ t2
    have : hide m aops D s.F s'.F = s'.F := by
      refine ext_getD (by rw [hide_length, g7]) (fun t => ?_)
      rw [hide_get _ _ _ _ _ _ g7, if_neg]
      intro hy
      obtain ⟨d, hd, hDd, _⟩ := yet_iff.1 hy
      rw [hall d (by omega)] at hDd; cases hDd
    rw [this] at g6; exact g6
  have done : ∀ (listed : Array Bool) (a : Act) (w : World), (∀ j, j < ops.size → listed.getD j false = true) →
      (∃ im io, Step im0 io0 w0 im io w ∧ a.defers = ds ∧ (InvA chk w0 m ops.size aops s s1 (fun k => listed.getD k false) im io a w ∨ InvB chk R m ops.size aops s s1 s' (fun k => listed.getD k false) im io a w)) → Q .normal a w := by
    rintro listed a w hall ⟨im, io, t1, t2, h | h⟩
    · obtain ⟨io', u1, u2⟩ := toB _ im io a w (fun j hj hDj => by rw [hall j (by omega)] at hDj; cases hDj) t1 h
      exact doneB _ im io' a w hall u1 t2 u2
    · exact doneB _ im io a w hall t1 t2 h
  intro fuel
  induction fuel with
  | zero =>
    intro listed a w hsz hcnt hcl hinv
    have hall : ∀ j, j < ops.size → listed.getD j false = true := by
      intro j hj
      have := cnt_all (l := listed.toList) (by simpa [hsz] using hcnt) j (by simpa [hsz] using hj)
      rw [Array.getElem?_toList] at this
      rw [Array.getD_eq_getD_getElem?, this]
      rfl
    refine ⟨?_, done listed a w hall hinv⟩
    rw [List.eq_nil_iff_forall_not_mem]
    intro j hj
    obtain ⟨h0, o, ho, _⟩ := mem_ready.1 hj
    have hj' := (Array.getElem?_eq_some_iff.1 ho).1
    rw [getD_default (by omega), hall j hj'] at h0
    cases h0
  | succ fuel ih =>
    intro listed a w hsz hcnt hcl hinv
    refine ⟨fun hr => done listed a w (all_of_ready listed hsz hr) hinv, fun i hi => ?_⟩
    obtain ⟨h0, o, ho, hedges⟩ := mem_ready.1 hi
    have hiN := (Array.getElem?_eq_some_iff.1 ho).1
    have h0' : listed.getD i false = false := by rw [← getD_default (by omega)]; exact h0
    have hsz' : (listed.setIfInBounds i true).size = ops.size := by simpa using hsz
    have hcnt' : fuel + (listed.setIfInBounds i true).toList.count true = ops.size := by
      rw [Array.toList_setIfInBounds, cnt_set (by simp; omega) (by
        rw [Array.getElem?_toList]
        rw [Array.getD_eq_getD_getElem?, Array.getElem?_eq_getElem (by omega)] at h0'
        rw [Array.getElem?_eq_getElem (by omega)]
        simpa using h0')]
      omega
    have hedges2 : ∀ e, edgeOn ops i e = true → listed.getD e false = true := by
      intro e he
      simp only [edgeOn, ho, Array.any_eq_true, Bool.and_eq_true, beq_iff_eq] at he
      obtain ⟨q, hq, hb, hon⟩ := he
      have := hedges _ (Array.getElem_mem hq) hb
      rwa [hon] at this
    have hcl' : Closed ops (listed.setIfInBounds i true) := by
      intro d o' ho' hd e he hb
      by_cases q : i = d
      · subst q
        rw [ho] at ho'; cases ho'
        exact getD_set_true (hedges e he hb)
      · rw [getD_set_ne false q] at hd
        exact getD_set_true (hcl d o' ho' hd e he hb)
    have befDone : ∀ d, Bef ops i d → listed.getD d false = true := fun d hd => bef_listed hcl hd hedges2
    have befNot : ∀ d, Bef ops d i → listed.getD d false = false := fun d hd => by
      cases hq : listed.getD d false with
      | false => rfl
      | true =>
        have := bef_listed hcl hd (edge_of_closed hcl hq)
        rw [h0'] at this; cases this
    have hset : ∀ d, d ≠ i → (listed.setIfInBounds i true).getD d false = listed.getD d false := fun d hd => getD_set_ne false (fun e => hd e.symm)
    have hseti : (listed.setIfInBounds i true).getD i false = true := by simp [hsz, hiN]
    have hia : i < aops.length := by omega
    obtain ⟨g1, g2, g3⟩ := hget i o aops[i] ho (List.getElem?_eq_getElem hia)
    have hread_i : readsAt aops i = (aops[i]).reads := by simp [readsAt, List.getElem?_eq_getElem hia]
    have hdst_i : dstAt aops i = (aops[i]).dst := by simp [dstAt, List.getElem?_eq_getElem hia]
    -- a free operation finds what it found in text order
    have freeAgree : ∀ (Fi : List AV), i < m → (∀ t, Fi.getD t .any = if writes ((aops.take m).take i) t then s1.F.getD t .any else s.F.getD t .any) → ∀ t, t ∈ (aops[i]).reads →
        Fi.getD t .any = if hit (aops.take m) (fun k => listed.getD k false) t then s1.F.getD t .any else s.F.getD t .any := by
      intro Fi him e3 t ht
      rw [e3 t]
      have key : writes ((aops.take m).take i) t = hit (aops.take m) (fun k => listed.getD k false) t := by
        rw [Bool.eq_iff_iff, hwr]
        simp only [writes, List.any_eq_true, beq_iff_eq]
        constructor
        · rintro ⟨o', ho', hds'⟩
          obtain ⟨j, hj⟩ := List.getElem?_of_mem ho'
          have hji : j < i := by
            rcases Nat.lt_or_ge j i with q | q
            · exact q
            · rw [List.getElem?_take_eq_none q] at hj; cases hj
          rw [List.getElem?_take_of_lt hji] at hj
          obtain ⟨q1, q2⟩ := takeGet j o' hj
          have hja : dstAt aops j = some t := by simp [dstAt, q2, hds']
          rcases writers i j t him q1 (by rw [hread_i]; exact ht) hja with q | q | q
          · exact ⟨j, q1, befDone j q, hja⟩
          · omega
          · have := bef_lt edge_lt2 q; omega
        · rintro ⟨d, hd, hl, hdt⟩
          rcases writers i d t him hd (by rw [hread_i]; exact ht) hdt with q | q | q
          · have hdi := bef_lt edge_lt2 q
            simp only [dstAt, Option.bind_eq_some_iff] at hdt
            obtain ⟨o', h2, h3⟩ := hdt
            exact ⟨o', List.mem_of_getElem? (i := d) (by rw [List.getElem?_take_of_lt hdi, List.getElem?_take_of_lt hd]; exact h2), h3⟩
          · subst q; rw [h0'] at hl; cases hl
          · rw [befNot d q] at hl; cases hl
      rw [key]
    -- a step when the tail is under way
    have stepB : ∀ im io, Step im0 io0 w0 im io w → a.defers = ds → InvB chk R m ops.size aops s s1 s' (fun k => listed.getD k false) im io a w → wpOpIn (Fw r) n P ops Q i (wpAnyIn (Fw r) n P .any ops Q fuel (listed.setIfInBounds i true)) a w := by
      rintro im io t1 t2 ⟨k, sk, hmk, hkN, q2, q3, q4, q5, q6, q7, q8⟩
      by_cases him : i < m
      · -- one of the free part comes late
        have hik : i < k := by omega
        obtain ⟨_, hlate⟩ := q3 i hik h0'
        obtain ⟨ao', hao', hslot, hnal⟩ := late_op i hlate
        rw [List.getElem?_eq_getElem hia] at hao'; cases hao'
        obtain ⟨Fi, v, e1, e2, e3, e4⟩ := f4 i aops[i] (by rw [List.getElem?_take_of_lt him, List.getElem?_eq_getElem hia])
        have hagree : ∀ t, t ∈ (aops[i]).reads → Fi.getD t .any = (hide m aops (fun k => listed.getD k false) s.F sk.F).getD t .any := by
          intro t ht
          rw [freeAgree Fi him e3 t ht, hide_get _ _ _ _ _ _ q7]
          have hsk : sk.F.getD t .any = s1.F.getD t .any := by
            rw [q8 t, adopt_same]
            · intro o' ho' hal hod
              obtain ⟨e, he, hae, hde⟩ := allocMem o' ho' hal t hod
              exact hnal t ht e he hae hde
            · intro j hj1 hj2 hjt
              have hb := tails j i t hj1 (by omega) him hjt (by rw [hread_i]; exact ht)
              have := befNot j hb
              have := (q3 j hj2 this).1
              omega
          by_cases hw : writes (aops.take m) t = true
          · obtain ⟨d, hd, hdt⟩ := (hwrites t).1 hw
            cases hDd : listed.getD d false with
            | true =>
              have hny : ¬ yet m aops (fun k => listed.getD k false) t = true := by
                intro hy
                obtain ⟨d', hd', hDd', hdt'⟩ := yet_iff.1 hy
                have := hone d d' t hd hd' hdt hdt'
                subst this
                rw [hDd] at hDd'; cases hDd'
              rw [if_pos ((hwr _ t).2 ⟨d, hd, hDd, hdt⟩), if_neg hny, hsk]
            | false =>
              have hnh : ¬ hit (aops.take m) (fun k => listed.getD k false) t = true := by
                intro hh
                obtain ⟨d', hd', hDd', hdt'⟩ := (hwr _ t).1 hh
                have := hone d d' t hd hd' hdt hdt'
                subst this
                rw [hDd] at hDd'; cases hDd'
              rw [if_neg hnh, if_pos (yet_iff.2 ⟨d, hd, hDd, hdt⟩)]
          · have hnh : ¬ hit (aops.take m) (fun k => listed.getD k false) t = true := by
              intro hh
              obtain ⟨d', hd', _, hdt'⟩ := (hwr _ t).1 hh
              exact hw ((hwrites t).2 ⟨d', hd', hdt'⟩)
            have hny : ¬ yet m aops (fun k => listed.getD k false) t = true := by
              intro hy
              obtain ⟨d', hd', _, hdt'⟩ := yet_iff.1 hy
              exact hw ((hwrites t).2 ⟨d', hd', hdt'⟩)
            rw [if_neg hnh, if_neg hny, hsk, f3 t (by simpa using hw)]
        have hwant : wantA Fi (aops[i]).guard = wantA (hide m aops (fun k => listed.getD k false) s.F sk.F) (aops[i]).guard := by
          refine want_congr fun t wv hg => hagree t ?_
          simp [AOper.reads, hg]
        have hop : freeOpA R Fi s.H (aops[i]).op = freeOpA R (hide m aops (fun k => listed.getD k false) s.F sk.F) sk.H (aops[i]).op := by
          rw [slotOnly_free hslot Fi s.H sk.H]
          refine free_congr fun x hx => opv_congr fun t ht => hagree t ?_
          simp only [AOper.reads, List.mem_append, List.mem_filterMap]
          exact .inl ⟨x, hx, ht⟩
        have hFA : FreeAt R sk.H (hide m aops (fun k => listed.getD k false) s.F sk.F) aops[i] v := by
          unfold FreeAt at e1 ⊢
          rw [← hwant, ← hop]; exact e1
        refine free_wpIn hR ho g1 g2 g3 (slotOnly_alloc hslot) q5 q6 hFA ?_
        intro im' io' a' w' u1 u2 u3 u4 _
        refine ih _ _ _ hsz' hcnt' hcl' ⟨im', io', t1.trans u1, u4.trans t2, .inr ⟨k, sk, hmk, hkN, fun j hj hDj => ?_, fun j hj hDj => ?_, q4, u2, ?_, q7, q8⟩⟩
        · by_cases e : j = i
          · omega
          · exact q2 j hj (by simpa [hset j e] using hDj)
        · by_cases e : j = i
          · subst e; simp only [hseti] at hDj; cases hDj
          · exact q3 j hj (by simpa [hset j e] using hDj)
        · have : putA (hide m aops (fun k => listed.getD k false) s.F sk.F) (aops[i]).dst v = hide m aops (fun k => (listed.setIfInBounds i true).getD k false) s.F sk.F := by
            refine ext_getD (by rw [putA_length, hide_length, hide_length]) (fun t => ?_)
            rw [putA_get, hide_get _ _ _ _ _ _ q7, hide_get _ _ _ _ _ _ q7, hide_length]
            by_cases hdt : (aops[i]).dst = some t
            · have hny : ¬ yet m aops (fun k => (listed.setIfInBounds i true).getD k false) t = true := by
                intro hy
                obtain ⟨d', hd', hDd', hdt'⟩ := yet_iff.1 hy
                have := hone i d' t him hd' (by rw [hdst_i]; exact hdt) hdt'
                subst this
                simp only [hseti] at hDd'; cases hDd'
              rw [if_neg hny]
              have hsk : sk.F.getD t .any = s1.F.getD t .any := by
                rw [q8 t, adopt_same]
                · intro o' ho' hal hod
                  obtain ⟨e, he, hae, hde⟩ := allocMem o' ho' hal t hod
                  have := hone i e t him he (by rw [hdst_i]; exact hdt) hde
                  subst this
                  rw [late_notalloc i hlate] at hae; cases hae
                · intro j hj1 hj2 hjt
                  rcases sinks j i hj1 (by omega) (by omega) with q | ⟨_, _, q⟩
                  · have := befNot j q
                    have := (q3 j hj2 this).1
                    omega
                  · exact (q t (by rw [hdst_i]; exact hdt)).2 hjt
              by_cases hlt2 : t < s.F.length
              · rw [if_pos ⟨hdt, hlt2⟩, hsk]
                exact (e4 t hdt hlt2).symm
              · rw [if_neg (fun q => hlt2 q.2)]
                have p1 : s.F.getD t .any = .any := by simp [List.getD, List.getElem?_eq_none (Nat.le_of_not_lt hlt2)]
                have p2 : sk.F.getD t .any = .any := by simp [List.getD, List.getElem?_eq_none (by omega : sk.F.length ≤ t)]
                rw [p1, p2]; simp
            · rw [if_neg (fun q => hdt q.1)]
              have : yet m aops (fun k => (listed.setIfInBounds i true).getD k false) t = yet m aops (fun k => listed.getD k false) t := by
                rw [Bool.eq_iff_iff, yet_iff, yet_iff]
                constructor
                · rintro ⟨d, hd, hDd, hdt'⟩
                  by_cases e : d = i
                  · subst e; simp only [hseti] at hDd; cases hDd
                  · exact ⟨d, hd, by simpa [hset d e] using hDd, hdt'⟩
                · rintro ⟨d, hd, hDd, hdt'⟩
                  by_cases e : d = i
                  · subst e; exact (hdt (by rw [← hdst_i]; exact hdt')).elim
                  · exact ⟨d, hd, by simpa [hset d e] using hDd, hdt'⟩
              rw [this]
          rw [← this]
          exact u3
      · -- the next of the tail
        have hik : i = k := by
          have hge : k ≤ i := by
            rcases Nat.lt_or_ge i k with q | q
            · have := (q3 i q h0').1; omega
            · exact q
          rcases Nat.lt_or_ge k i with q | q
          · rcases sinks i k (by omega) hiN q with h6 | ⟨h6, _⟩
            · have := q2 k (by omega) (befDone k h6); omega
            · omega
          · omega
        subst hik
        have hyet : ∀ t, (t ∈ (aops[i]).reads ∨ (aops[i]).dst = some t) → ¬ yet m aops (fun k => listed.getD k false) t = true := by
          intro t ht hy
          obtain ⟨d, hd, hDd, hdt⟩ := yet_iff.1 hy
          rcases sinks i d hmk hiN (by omega) with h6 | ⟨_, _, h6⟩
          · have := befDone d h6
            have hDd' : listed.getD d false = false := hDd
            rw [this] at hDd'; cases hDd'
          · obtain ⟨p1, p2⟩ := h6 t hdt
            rcases ht with ht | ht
            · rw [hread_i] at p1; exact p1 ht
            · rw [hdst_i] at p2; exact p2 ht
        have hagree : ∀ t, t ∈ (aops[i]).reads → sk.F.getD t .any = (hide m aops (fun k => listed.getD k false) s.F sk.F).getD t .any := fun t ht => by
          rw [hide_get _ _ _ _ _ _ q7, if_neg (hyet t (.inl ht))]
        rw [List.drop_eq_getElem_cons hia] at q4
        simp only [runOps] at q4
        split at q4
        · cases q4
        rename_i s2 hs2
        have hwant : wantA sk.F (aops[i]).guard = wantA (hide m aops (fun k => listed.getD k false) s.F sk.F) (aops[i]).guard := by
          refine want_congr fun t wv hg => hagree t ?_
          simp [AOper.reads, hg]
        have hop : execOpA R sk.F sk.H (aops[i]).op = execOpA R (hide m aops (fun k => listed.getD k false) s.F sk.F) sk.H (aops[i]).op := by
          refine exec_congr fun x hx => opv_congr fun t ht => hagree t ?_
          simp only [AOper.reads, List.mem_append, List.mem_filterMap]
          exact .inl ⟨x, hx, ht⟩
        have nextB : ∀ im' io' a' w' (v : AV) (H2 : Heap), s2 = ⟨putA sk.F (aops[i]).dst v, H2⟩ → Step im io w im' io' w' → Sim chk im' io' H2 w' → FRep im' io' (putA (hide m aops (fun k => listed.getD k false) s.F sk.F) (aops[i]).dst v) a' → a'.defers = a.defers →
            wpAnyIn (Fw r) n P .any ops Q fuel (listed.setIfInBounds i true) a' w' := by
          intro im' io' a' w' v H2 hs2' u1 u2 u3 u4
          subst hs2'
          refine ih _ _ _ hsz' hcnt' hcl' ⟨im', io', t1.trans u1, u4.trans t2, .inr ⟨i + 1, _, by omega, by omega, fun j hj hDj => ?_, fun j hj hDj => ?_, q4, u2, ?_, by rw [putA_length]; exact q7, fun t ht => ?_⟩⟩
          · by_cases e : j = i
            · omega
            · have := q2 j hj (by simpa [hset j e] using hDj); omega
          · by_cases e : j = i
            · subst e; simp only [hseti] at hDj; cases hDj
            · exact q3 j (by omega) (by simpa [hset j e] using hDj)
          · have : putA (hide m aops (fun k => listed.getD k false) s.F sk.F) (aops[i]).dst v = hide m aops (fun k => (listed.setIfInBounds i true).getD k false) s.F (putA sk.F (aops[i]).dst v) := by
              refine ext_getD (by rw [putA_length, hide_length, hide_length]) (fun t => ?_)
              rw [putA_get, hide_get _ _ _ _ _ _ q7, hide_get _ _ _ _ _ _ (by rw [putA_length]; exact q7), hide_length, putA_get, q7]
              have hyy : yet m aops (fun k => (listed.setIfInBounds i true).getD k false) t = yet m aops (fun k => listed.getD k false) t := by
                rw [Bool.eq_iff_iff, yet_iff, yet_iff]
                constructor
                · rintro ⟨d, hd, hDd, hdt'⟩
                  exact ⟨d, hd, by simpa [hset d (by omega)] using hDd, hdt'⟩
                · rintro ⟨d, hd, hDd, hdt'⟩
                  exact ⟨d, hd, by simpa [hset d (by omega)] using hDd, hdt'⟩
              rw [hyy]
              by_cases hdt : (aops[i]).dst = some t ∧ t < s.F.length
              · rw [if_pos hdt, if_neg (hyet t (.inr hdt.1)), if_pos hdt]
              · rw [if_neg hdt, if_neg hdt]
            rw [← this]; exact u3
          · rw [putA_get, if_neg]
            · exact q8 t (fun j hj1 hj2 => ht j hj1 (by omega))
            · intro q
              exact ht i hmk (by omega) (by rw [hdst_i]; exact q.1)
        unfold wpOpIn
        simp only [ho]
        unfold execOperA at hs2
        split at hs2
        · cases hs2
        · rename_i hw
          cases hs2
          rw [hwant] at hw
          rw [wanted_ok g3 q6 hw]
          simp only [Bool.false_eq_true, if_false]
          refine ⟨fun f _ => trivial, ?_⟩
          refine nextB im io _ w _ _ rfl (.refl _ _ _) q5 ?_ (put_defers _ _ _)
          rw [g1]
          exact q6.put _ (.tup (vs := []) rfl (fun i c v h => by simp at h))
        · rename_i hw
          simp only [Option.map_eq_some_iff] at hs2
          obtain ⟨⟨v, H2⟩, hs3, rfl⟩ := hs2
          rw [hwant] at hw
          rw [hop] at hs3
          rw [wanted_ok g3 q6 hw]
          simp only [if_true]
          refine Oper.wpIn_mono ?_ (op_wpIn hR g2 q5 q6 hs3 Q)
          rintro a' w' ⟨im', io', u1, u2, u3, u4, _⟩
          rw [g1] at u3
          exact nextB im' io' a' w' v H2 rfl u1 u2 u3 u4
    obtain ⟨im, io, t1, t2, h | h⟩ := hinv
    · by_cases him : i < m
      · obtain ⟨h1, h2, h3, bs, h4, h5⟩ := h
        obtain ⟨Fi, v, e1, e2, e3, e4⟩ := f4 i aops[i] (by rw [List.getElem?_take_of_lt him, List.getElem?_eq_getElem hia])
        -- the frame behind it
        have nextF : ∀ vv, (∀ t, (aops[i]).dst = some t → t < s.F.length → s1.F.getD t .any = vv) →
            putA (mix (aops.take m) (fun k => listed.getD k false) s.F s1.F) (aops[i]).dst vv = mix (aops.take m) (fun k => (listed.setIfInBounds i true).getD k false) s.F s1.F := by
          intro vv hvv
          refine ext_getD (by rw [putA_length, mix_length, mix_length]) (fun t => ?_)
          rw [putA_get, mix_get _ _ _ _ _ f2, mix_get _ _ _ _ _ f2, mix_length]
          by_cases hdt : (aops[i]).dst = some t
          · have hh : hit (aops.take m) (fun k => (listed.setIfInBounds i true).getD k false) t = true := (hwr _ t).2 ⟨i, him, hseti, by rw [hdst_i]; exact hdt⟩
            rw [if_pos hh]
            by_cases hlt2 : t < s.F.length
            · rw [if_pos ⟨hdt, hlt2⟩]; exact (hvv t hdt hlt2).symm
            · rw [if_neg (fun q => hlt2 q.2)]
              have p1 : s.F.getD t .any = .any := by simp [List.getD, List.getElem?_eq_none (Nat.le_of_not_lt hlt2)]
              have p2 : s1.F.getD t .any = .any := by simp [List.getD, List.getElem?_eq_none (by omega : s1.F.length ≤ t)]
              rw [p1, p2]; simp
          · rw [if_neg (fun q => hdt q.1)]
            have : hit (aops.take m) (fun k => (listed.setIfInBounds i true).getD k false) t = hit (aops.take m) (fun k => listed.getD k false) t := by
              rw [Bool.eq_iff_iff, hwr, hwr]
              constructor
              · rintro ⟨d, hd, hDd, hdt'⟩
                by_cases e : d = i
                · subst e; exact (hdt (by rw [← hdst_i]; exact hdt')).elim
                · exact ⟨d, hd, by simpa [hset d e] using hDd, hdt'⟩
              · rintro ⟨d, hd, hDd, hdt'⟩
                by_cases e : d = i
                · subst e; simp only [h0'] at hDd; cases hDd
                · exact ⟨d, hd, by simpa [hset d e] using hDd, hdt'⟩
            rw [this]
        have privDst : ∀ j ao, j < m → aops[j]? = some ao → j ≠ i → ∀ d, ao.dst = some d → (aops[i]).dst ≠ some d := by
          intro j ao hj hao hji d hd he
          exact hji (hone j i d hj him (by simp [dstAt, hao, hd]) (by rw [hdst_i]; exact he))
        by_cases hal : isAlloc (aops[i]).op = true
        · -- a variable is laid
          have hga := halloc i him
          rw [List.getElem?_eq_getElem hia] at hga
          simp only [hal, Bool.not_true, Bool.false_or, Bool.and_eq_true] at hga
          obtain ⟨v0, hv0⟩ := adopt_some hal
          have hgn : (aops[i]).guard = none := by simpa using hga.1
          have hvany : v = .any := by
            rcases e1 with ⟨_, e1⟩ | ⟨e1, _⟩
            · rw [hv0] at e1
              simp only [freeOpA] at e1
              split at e1
              · cases e1; rfl
              · cases e1
            · rw [hgn] at e1; simp [wantA] at e1
          have hcells : v0.cells.all AV.isCell = true := by
            rcases e1 with ⟨_, e1⟩ | ⟨e1, _⟩
            · rw [hv0] at e1
              simp only [freeOpA] at e1
              split at e1
              · assumption
              · cases e1
            · rw [hgn] at e1; simp [wantA] at e1
          subst hvany
          have hrun : ∃ z t, (execOp a.eval o).run P w = .ok (.value (.pointer (some ⟨w.heap.size, 0, none⟩))) (w.alloc (.cells z t)) ∧ ∀ (q : Nat) (cv : AV), v0.cells[q]? = some cv → ∃ u, z[q]? = some u ∧ (∀ (im : Im) (io : Io), Rep im io cv u) ∧ cv.isCell = true := by
            have fin : ∀ (x' : Value), (∀ (im : Im) (io : Io), Rep im io v0 x') → ∀ (q : Nat) (cv : AV), v0.cells[q]? = some cv → ∃ u, x'.cells[q]? = some u ∧ (∀ (im : Im) (io : Io), Rep im io cv u) ∧ cv.isCell = true := by
              intro x' hx q cv hq
              have hrs0 := cells_rep (hx (fun _ => none) noIo) hcells
              obtain ⟨u, hu, _⟩ := hrs0.get hq
              refine ⟨u, by rw [← Array.getElem?_toList]; exact hu, fun im io => (cells_rep (hx im io) hcells).2 q cv u hq hu, all_isCell hcells _ (List.mem_of_getElem? hq)⟩
            rw [hv0] at g2
            simp only [chkOp] at g2
            split at g2
            · rename_i t y hoo
              cases y with
              | const cv0 =>
                simp only [chkArg] at g2
                exact ⟨_, t, by simp [execOp, hoo, Instr.box, newVar, newRow]; rfl, fin _ (fun im io => cst_rep g2)⟩
              | tmp t => simp [chkArg] at g2
              | func f =>
                refine ⟨_, t, by simp [execOp, hoo, Instr.box, newVar, newRow]; rfl, fin _ (fun im io => ?_)⟩
                have := chkArg_rep (im := im) (io := io) (F := []) (a := { tmps := #[], defers := [] }) g2 (Reps.nil)
                simpa [opv, Act.eval] using this
              | _ => simp [chkArg] at g2
            · rename_i t hoo
              split at g2
              · rename_i z av hz hav
                cases hav
                exact ⟨_, t, by simp [execOp, hoo, Instr.alloc, zeroOf_run hz, newVar, newRow], fin _ (fun im io => cst_rep g2)⟩
              · cases g2
            · cases g2
          obtain ⟨z, t, hrun, hz⟩ := hrun
          have hp := Pushed.alloc w (.cells z t)
          have st : Step im io w im io (w.alloc (.cells z t)) := Step.world rfl rfl rfl (by rw [hp.size]; omega) (fun b hb => hp.old hb)
          have hs' : Sim chk im io s.H (w.alloc (.cells z t)) := h2.world (by rw [hp.size]; omega) (fun b hb => hp.old hb)
          unfold wpOpIn
          simp only [ho]
          have hwt : wantA s.F (aops[i]).guard = some true := by rw [hgn]; rfl
          have hwt' : wantA (mix (aops.take m) (fun k => listed.getD k false) s.F s1.F) (aops[i]).guard = some true := by rw [hgn]; rfl
          rw [wanted_ok g3 h3 hwt']
          simp only [if_true]
          refine ⟨fun f _ => trivial, ?_⟩
          have hnd : ∀ c, o.op ≠ .defer c := not_defer g2
          rw [Oper.semAt_eq _ _ _ hnd, hrun, Oper.uponIn_value]
          refine ih _ _ _ hsz' hcnt' hcl' ⟨im, io, t1.trans st, (put_defers _ _ _).trans t2, .inl ⟨fun j hj1 hj2 => ?_, hs', ?_, fun j => if j = i then w.heap.size else bs j, fun j ao hj hao haj hDj => ?_, fun j1 j2 hj1 hj2 ha1 ha2 hD1 hD2 e => ?_⟩⟩
          · have : j ≠ i := by omega
            simp only [hset j this]; exact h1 j hj1 hj2
          · rw [← nextF .any e4, g1]
            exact h3.put _ (.any _)
          · by_cases e : j = i
            · subst e
              rw [List.getElem?_eq_getElem hia] at hao; cases hao
              show PrivAt _ _ _ _ _ (if j = j then w.heap.size else bs j) _
              rw [if_pos rfl]
              refine ⟨v0, z, t, hv0, hp.new, ?_, fun ho' => ?_, t1.size, fun d hd y hy => ?_, hz⟩
              · cases e : im w.heap.size with
                | none => rfl
                | some o' => have := (Array.getElem?_eq_some_iff.1 (h2.imw _ _ e)).1; omega
              · have := h2.inb _ ho'; omega
              · rw [g1, hd] at hy
                have hy' : (a.tmps.setIfInBounds d (.pointer (some ⟨w.heap.size, 0, none⟩))).toList[d]? = some y := hy
                rw [Array.toList_setIfInBounds, List.getElem?_set] at hy'
                simp only [if_true] at hy'
                split at hy'
                · cases hy'; rfl
                · cases hy'
            · show PrivAt _ _ _ _ _ (if j = i then w.heap.size else bs j) _
              rw [if_neg e]
              refine (h4 j ao hj hao haj (by simpa [hset j e] using hDj)).step st (fun d hd => put_other ?_)
              rw [g1]; exact privDst j ao hj hao e d hd
          · have lt_of : ∀ j, j < m → allocAt aops j = true → j ≠ i → (listed.setIfInBounds i true).getD j false = true → bs j < w.heap.size := by
              intro j hj ha hji hDj
              simp only [allocAt] at ha
              split at ha
              · rename_i ao hao
                obtain ⟨_, _, _, _, k2, _⟩ := h4 j ao hj hao ha (by simpa [hset j hji] using hDj)
                exact (Array.getElem?_eq_some_iff.1 k2).1
              · cases ha
            simp only at e
            by_cases e1 : j1 = i <;> by_cases e2' : j2 = i
            · rw [e1, e2']
            · rw [if_pos e1, if_neg e2'] at e
              have := lt_of j2 hj2 ha2 e2' hD2; omega
            · rw [if_neg e1, if_pos e2'] at e
              have := lt_of j1 hj1 ha1 e1 hD1; omega
            · rw [if_neg e1, if_neg e2'] at e
              exact h5 j1 j2 hj1 hj2 ha1 ha2 (by simpa [hset j1 e1] using hD1) (by simpa [hset j2 e2'] using hD2) e
        · -- an operation that leaves the heap alone
          have hna : isAlloc (aops[i]).op = false := by simpa using hal
          have hagree : ∀ t, t ∈ (aops[i]).reads → Fi.getD t .any = (mix (aops.take m) (fun k => listed.getD k false) s.F s1.F).getD t .any := fun t ht => by
            rw [freeAgree Fi him e3 t ht, mix_get _ _ _ _ _ f2]
          have hwant : wantA Fi (aops[i]).guard = wantA (mix (aops.take m) (fun k => listed.getD k false) s.F s1.F) (aops[i]).guard := by
            refine want_congr fun t wv hg => hagree t ?_
            simp [AOper.reads, hg]
          have hop : freeOpA R Fi s.H (aops[i]).op = freeOpA R (mix (aops.take m) (fun k => listed.getD k false) s.F s1.F) s.H (aops[i]).op := by
            refine free_congr fun x hx => opv_congr fun t ht => hagree t ?_
            simp only [AOper.reads, List.mem_append, List.mem_filterMap]
            exact .inl ⟨x, hx, ht⟩
          have hFA : FreeAt R s.H (mix (aops.take m) (fun k => listed.getD k false) s.F s1.F) aops[i] v := by
            unfold FreeAt at e1 ⊢
            rw [← hwant, ← hop]; exact e1
          refine free_wpIn hR ho g1 g2 g3 hna h2 h3 hFA ?_
          rintro im' io' a' w' u1 u2 u3 u4 ⟨x, rfl⟩
          refine ih _ _ _ hsz' hcnt' hcl' ⟨im', io', t1.trans u1, u4.trans t2, .inl ⟨fun j hj1 hj2 => ?_, u2, by rw [← nextF v e4]; exact u3, bs, fun j ao hj hao haj hDj => ?_, fun j1 j2 hj1 hj2 ha1 ha2 hD1 hD2 e => ?_⟩⟩
          · have : j ≠ i := by omega
            simp only [hset j this]; exact h1 j hj1 hj2
          · have e : j ≠ i := by
              rintro rfl
              rw [List.getElem?_eq_getElem hia] at hao; cases hao
              rw [haj] at hna; cases hna
            exact (h4 j ao hj hao haj (by simpa [hset j e] using hDj)).step u1 (fun d hd => put_other (privDst j ao hj hao e d hd))
          · have ne : ∀ j, allocAt aops j = true → j ≠ i := by
              rintro j hja rfl
              simp [allocAt, List.getElem?_eq_getElem hia, hna] at hja
            exact h5 j1 j2 hj1 hj2 ha1 ha2 (by simpa [hset j1 (ne j1 ha1)] using hD1) (by simpa [hset j2 (ne j2 ha2)] using hD2) e
      · obtain ⟨io', u1, u2⟩ := toB _ im io a w (fun j hj hDj => by
          rcases sinks i j (by omega) hiN (by omega) with q | ⟨_, q, _⟩
          · have hDj' : listed.getD j false = false := hDj
            rw [befDone j q] at hDj'; cases hDj'
          · exact q) t1 h
        exact stepB im io' u1 t2 u2
    · exact stepB im io t1 t2 h

theorem draw_ok (hR : RecOk chk P R) (hmix : P.follows .mixedOrders = true) {ops : Array Oper} {aops : List AOper} {r : Option Nat} {n id m : Nat} {Q : Exit → Act → World → Prop} (hc : chkOps P ops aops = true) (hok : drawOk m ops aops = true) {s s1 s' : St}
    (hfree : runFree R (aops.take m) s = some s1) (htail : runOps R (aops.drop m) (adopt (aops.take m) s1) = some s') (hs : Sim chk im io s.H w) (hF : FRep im io s.F a)
    (hQ : ∀ im' io' a' w', Step im io w im' io' w' → Sim chk im' io' s'.H w' → FRep im' io' s'.F a' → a'.defers = a.defers → Q .normal a' w') : (Code.region id ops true).wpIn (Fw r) n P Q a w := by
  refine wpIn_region_any hmix ?_
  have hw1 : Step im io w im io { w with drawn := w.drawn + 1 } := Step.world rfl rfl rfl (Nat.le_refl _) (fun _ _ => rfl)
  refine draw_any hR hc hok hfree htail (im0 := im) (io0 := io) (w0 := w) (ds := a.defers) hQ ops.size _ a _ (by simp) (by simp [List.count_replicate]) (fun d o _ hd => by rw [getD_replicate_false] at hd; cases hd) ?_
  refine ⟨im, io, hw1, rfl, .inl ⟨fun j _ _ => getD_replicate_false _ _, hs.world (Nat.le_refl _) (fun _ _ => rfl), ?_, fun _ => 0, fun i ao _ _ _ hD => (by have hD' : (Array.replicate ops.size false).getD i false = true := hD; rw [getD_replicate_false] at hD'; cases hD'), fun i j _ _ _ _ hD => (by have hD' : (Array.replicate ops.size false).getD i false = true := hD; rw [getD_replicate_false] at hD'; cases hD')⟩⟩
  have : mix (aops.take m) (fun k => (Array.replicate ops.size false).getD k false) s.F s1.F = s.F := by
    have hlen : s1.F.length = s.F.length := by
      have key : ∀ (aops : List AOper) (s s1 : St), runFree R aops s = some s1 → s1.F.length = s.F.length := by
        intro aops
        induction aops with
        | nil => intro s s1 h; simp only [runFree] at h; cases h; rfl
        | cons ao rest ih =>
          intro s s1 h
          simp only [runFree] at h
          split at h
          · cases h
          · rename_i s2 h2
            obtain ⟨v, _, rfl⟩ := freeOper_spec h2
            rw [ih _ _ h, putA_length]
      exact key _ _ _ hfree
    refine ext_getD (by rw [mix_length]) (fun t => ?_)
    rw [mix_get _ _ _ _ _ hlen, if_neg]
    simp only [hit, List.any_eq_true, List.mem_range, Bool.and_eq_true, not_exists, not_and]
    intro d _ hd
    rw [getD_replicate_false] at hd
    cases hd
  rw [this]
  exact hF

end
end Go.Abs
