/- A drawn region whose tail may begin with two operations in either order. -/
import Derived.Test.YtijmhicopfphnaaDoorAbsDraw
namespace Go.Abs
set_option linter.unusedVariables false
set_option linter.unusedSimpArgs false
open Go.RowKit
def xBn (i e : Nat) (ops : Array Oper) : Array Oper := ops.modify i fun o => { o with after := o.after.push { on := e,ground := .data } }
section
variable {P : Program} {ops : Array Oper}
theorem xCA (i e : Nat) : (xBn i e ops).size = ops.size := by simp [xBn]
theorem xDd {i e j : Nat} (h : j ≠ i) : (xBn i e ops)[j]? = ops[j]? := by
 simp only [xBn,Array.getElem?_modify,if_neg (Ne.symm h)]
theorem xEC (i e : Nat) : (xBn i e ops)[i]? = (ops[i]?).map fun o => { o with after := o.after.push { on := e,ground := .data } } := by
 simp only [xBn,Array.getElem?_modify,if_true]
theorem xQf (i e j : Nat) : ((xBn i e ops)[j]?).bind (·.dst) = (ops[j]?).bind (·.dst) := by
 by_cases h : j = i
 ·subst h
  rw [xEC]
  cases ops[j]? <;> rfl
 ·rw [xDd h]
theorem xHM (i e : Nat) (tmps : Array Value) (j : Nat) : yielded (xBn i e ops) tmps j = yielded ops tmps j := by
 unfold yielded
 rw [xQf]
theorem xCj {F : Fence} {n : Nat} {Q : Exit → Act → World → Prop} (i e j : Nat) (K : Act → World → Prop) (a : Act) (w : World) : wpOpIn F n P (xBn i e ops) Q j K a w ↔ wpOpIn F n P ops Q j K a w := by
 have hy : yielded (xBn i e ops) a.tmps = yielded ops a.tmps := funext fun j => xHM i e _ j
 unfold wpOpIn
 rw [hy]
 by_cases h : j = i
 ·subst h
  rw [xEC]
  cases ho : ops[j]? with
  | none => exact Iff.rfl
  | some o => exact Iff.rfl
 ·rw [xDd h]
theorem addEdge_ready {i e j : Nat} {listed : Array Bool} : j ∈ Region.ready .any (xBn i e ops) listed ↔ j ∈ Region.ready .any ops listed ∧ (j = i → listed.getD e false = true) := by
 rw [mem_ready,mem_ready]
 by_cases h : j = i
 ·subst h
  rw [xEC]
  constructor
  ·rintro ⟨h1,o,ho,h2⟩
   simp only [Option.map_eq_some_iff] at ho
   obtain ⟨o0,h3,rfl⟩ := ho
   refine ⟨⟨h1,o0,h3,fun e' he' hb => h2 e' (by simp [he']) hb⟩,fun _ => h2 { on := e,ground := .data } (by simp) (by rfl)⟩
  ·rintro ⟨⟨h1,o0,h3,h2⟩,h4⟩
   refine ⟨h1,_,by rw [h3]; rfl,fun e' he' hb => ?_⟩
   rcases Array.mem_push.1 he' with q | rfl
   ·exact h2 e' q hb
   ·exact h4 rfl
 ·rw [xDd h]
  exact ⟨fun h' => ⟨h',fun q => (h q).elim⟩,fun h' => h'.1⟩
theorem xED {F : Fence} {n : Nat} {Q : Exit → Act → World → Prop} {i : Nat} {K K' : Act → World → Prop} {a : Act} {w : World} (hK : ∀ a w,K a w → K' a w) (h : wpOpIn F n P ops Q i K a w) : wpOpIn F n P ops Q i K' a w := by
 unfold wpOpIn at h ⊢
 split at h
 ·exact hK _ _ h
 ·split at h
  ·rename_i hw
   rw [if_pos hw]
   exact Oper.wpIn_mono hK h
  ·rename_i hw
   rw [if_neg hw]
   exact ⟨h.1,hK _ _ h.2⟩
theorem xFc {F : Fence} {n : Nat} {Q : Exit → Act → World → Prop} {i e : Nat} : ∀ (fuel : Nat) (listed : Array Bool) (a : Act) (w : World),listed.getD e false = true →
  wpAnyIn F n P .any (xBn i e ops) Q fuel listed a w → wpAnyIn F n P .any ops Q fuel listed a w := by
 intro fuel
 have rd : ∀ {listed : Array Bool},listed.getD e false = true → (Region.ready .any ops listed = [] → Region.ready .any (xBn i e ops) listed = []) ∧ (Region.ready .any (xBn i e ops) listed = [] → Region.ready .any ops listed = []) := by
  intro listed he
  simp only [List.eq_nil_iff_forall_not_mem]
  exact ⟨fun h j hj => h j (addEdge_ready.1 hj).1,fun h j hj => h j (addEdge_ready.2 ⟨hj,fun _ => he⟩)⟩
 induction fuel with
 | zero =>
  intro listed a w he h
  exact ⟨(rd he).2 h.1,h.2⟩
 | succ fuel ih =>
  intro listed a w he h
  refine ⟨fun hr => h.1 ((rd he).1 hr),fun j hj => ?_⟩
  have h2 := (xCj _ _ _ _ _ _).1 (h.2 j (addEdge_ready.2 ⟨hj,fun _ => he⟩))
  refine xED (fun a w => ih _ a w ?_) h2
  by_cases q : j = e
  ·subst q
   obtain ⟨_,o,ho,_⟩ := mem_ready.1 hj
   by_cases hs : j < listed.size
   ·simp [hs]
   ·have : listed.getD j false = false := by simp [Array.getD_eq_getD_getElem?,Array.getElem?_eq_none (by omega : listed.size ≤ j)]
    rw [this] at he; cases he
  ·rw [getD_set_ne false q]; exact he
theorem xDe {l : Array Bool} {i : Nat} (h : i < l.size) : (l.setIfInBounds i true).getD i false = true := by simp [h]
theorem xHN {σ : List Nat} {listed listed' : Array Bool} (hp : xCB σ ops.size = true) (hs : listed.size = ops.size) (hr : ∀ i,listed.getD i false = listed'.getD (σ.idxOf i) false) (hcl : xCu ops listed) : xCu (xBs σ ops) listed' := by
 have hp' := hp
 simp only [xCB,Bool.and_eq_true,beq_iff_eq,List.all_eq_true,List.mem_range,decide_eq_true_eq] at hp
 intro d o ho hd e he hb
 have hd' : d < σ.length := by
  have := (Array.getElem?_eq_some_iff.1 ho).1
  rwa [xB1] at this
 obtain ⟨⟨_,h2⟩,h3⟩ := hp.2 d (by omega)
 have hi : σ.getD d 0 < ops.size := h3
 have ho2 := xEf (ops := ops) (by omega) (hp.2 _ hi).1.1 (Array.getElem?_eq_getElem hi)
 rw [h2,ho] at ho2
 cases ho2
 simp only [xEG,Array.mem_map] at he
 obtain ⟨e0,he0,rfl⟩ := he
 have h4 := hcl (σ.getD d 0) _ (Array.getElem?_eq_getElem hi) (by rw [hr,h2]; exact hd) e0 he0 (by rw [← hb]; cases e0; rfl)
 rw [hr] at h4
 exact h4
theorem xCT {i e : Nat} {listed : Array Bool} (hcl : xCu ops listed) (hi : listed.getD i false = false) : xCu (xBn i e ops) listed := by
 intro d o ho hd e' he' hb
 have hdi : d ≠ i := by rintro rfl; rw [hi] at hd; cases hd
 rw [xDd hdi] at ho
 exact hcl d o ho hd e' he' hb
theorem xGB {aops aops2 : List AOper} {i q : Nat} (h : aops2[i]? = aops[i]?) : xEE aops2 i q = xEE aops i q := by
 unfold xEE
 rw [h]
theorem xUn {aops aops2 : List AOper} {i d q : Nat} (h : ∀ k,k ≤ i → aops2[k]? = aops[k]?) (ho : xTA aops2 i d q = true) : xTA aops i d q = true := by
 rcases xCK ho with ⟨e,hq,e1,e2,e3⟩ | ⟨j,p,i',e,e2,e4,e5,k,k1,k2⟩
 ·rw [h i (Nat.le_refl _)] at e
  rw [xGB (h e1 (by omega))] at e3
  simp only [xTA,e,Bool.and_eq_true,beq_iff_eq,List.any_eq_true,List.mem_range,decide_eq_true_eq]
  exact ⟨⟨⟨trivial,trivial⟩,hq⟩,e1,e2,e3⟩
 ·rw [h i (Nat.le_refl _)] at e
  rw [h i' (by omega)] at e5
  rw [xGB (h k (by omega))] at k2
  simp only [xTA,e,Bool.and_eq_true,beq_iff_eq,List.any_eq_true,List.mem_range]
  exact ⟨⟨trivial,e2⟩,i',e4,by simp [e5],k,k1,k2⟩
theorem InvA.of_take {als : List (Nat × Nat)} {chk : Code → ACode → Bool} {w0 : World} {m N : Nat} {aops aops2 : List AOper} {pl : List Pr} {s s1 : St} {D : Nat → Bool} {im : Im} {io : Io} {a : Act} {w : World}
  (ht : aops2.take m = aops.take m) (h : InvA als chk w0 m N aops pl s s1 D im io a w) : InvA als chk w0 m N aops2 pl s s1 D im io a w := by
 obtain ⟨h1,h2,h3,h4,h5,h6⟩ := h
 have hk : ∀ k,k < m → aops2[k]? = aops[k]? := by
  intro k hk
  have : (aops2.take m)[k]? = (aops.take m)[k]? := by rw [ht]
  rwa [List.getElem?_take_of_lt hk,List.getElem?_take_of_lt hk] at this
 refine ⟨h1,h2,by rw [ht]; exact h3,h4,fun d q i e he hl hi ho => h5 d q i e he (by rw [← xGB (hk e (by omega))]; exact hl) hi (by rw [← hk i hi]; exact ho),fun d q i j p hi ho hop => h6 d q i j p hi (by rw [← hk i hi]; exact ho) (xUn (fun k hk' => hk k (by omega)) hop)⟩
theorem yBy {chk : Code → ACode → Bool} {R : Rec} {als : List (Nat × Nat)} (hR : RecOk chk P R) {aops aops2 : List AOper} {σ : List Nat} {r : Option Nat} {n m : Nat} {ls : List (Nat × Nat × Nat × Nat)} {Q : Exit → Act → World → Prop} {s s1 s' : St} {im0 : Im} {io0 : Io} {w0 : World} {ds : List Deferred}
  (hm : m + 1 < ops.size) (hbef : ∀ i,m + 2 ≤ i → i < ops.size → Bef ops i m ∧ Bef ops i (m + 1))
  (hc : xCQ P (xBn (m + 1) m ops) aops = true) (hok : xCL [] als ls m (xBn (m + 1) m ops) aops = true)
  (hp : xCB σ ops.size = true) (hσ : ∀ i,i < m → σ.idxOf i = i) (hσ2 : ∀ i,m ≤ i → m ≤ σ.idxOf i)
  (hc2 : xCQ P (xBs σ (xBn m (m + 1) ops)) aops2 = true) (hok2 : xCL [] als ls m (xBs σ (xBn m (m + 1) ops)) aops2 = true) (htake : aops2.take m = aops.take m)
  {pl : List Pr} (hls : ls.all (apart s'.F) = true) (hfree : xBa R (aops.take m) s = some (s1,pl)) (htail : xA9 R (aops.drop m) (xBJ als pl s1) = some s') (htail2 : xA9 R (aops2.drop m) (xBJ als pl s1) = some s')
  (hQ : ∀ im' io' a' w',Step im0 io0 w0 im' io' w' → Sim chk im' io' s'.H w' → FRep im' io' s'.F a' → a'.defers = ds → Q .normal a' w') :
  ∀ (fuel : Nat) (listed : Array Bool) (a : Act) (w : World),listed.size = ops.size → fuel + listed.toList.count true = ops.size → xCu ops listed → (∀ j,m ≤ j → listed.getD j false = false) →
   (∃ im io,Step im0 io0 w0 im io w ∧ a.defers = ds ∧ InvA als chk w0 m ops.size aops pl s s1 (fun k => listed.getD k false) im io a w) →
   wpAnyIn (Fw r) n P .any ops Q fuel listed a w := by
 have B1 := xEF (r := r) (n := n) hR hc hok hls hfree htail (xDX _ _ _) hQ
 have s1z : (xBn (m + 1) m ops).size = ops.size := xCA _ _
 have s2z : (xBn m (m + 1) ops).size = ops.size := xCA _ _
 have B2 := (xEF (r := r) (n := n) hR hc2 hok2 hls (by rw [htake]; exact hfree) htail2 (xDX _ _ _) hQ).2
 have s3z : (xBs σ (xBn m (m + 1) ops)).size = ops.size := by
  rw [xB1]
  simp only [xCB,Bool.and_eq_true,beq_iff_eq] at hp
  exact hp.1
 have cntlt : ∀ {listed : Array Bool},listed.size = ops.size → (∀ j,m ≤ j → listed.getD j false = false) → listed.toList.count true < ops.size := by
  intro listed hsz ht
  rcases Nat.lt_or_ge (listed.toList.count true) ops.size with q | q
  ·exact q
  ·exfalso
   have hle : listed.toList.count true ≤ listed.toList.length := List.count_le_length
   have := xQk (l := listed.toList) (by simp only [Array.length_toList] at hle ⊢; omega) m (by simp only [Array.length_toList]; omega)
   rw [Array.getElem?_toList] at this
   have h2 := ht m (Nat.le_refl _)
   rw [Array.getD_eq_getD_getElem?,this] at h2
   cases h2
 have first : ∀ (fuel : Nat) (listed : Array Bool) (a : Act) (w : World),listed.size = ops.size → fuel + listed.toList.count true = ops.size → xCu ops listed → (∀ j,m ≤ j → listed.getD j false = false) →
   (∃ im io,Step im0 io0 w0 im io w ∧ a.defers = ds ∧ InvA als chk w0 m ops.size aops pl s s1 (fun k => listed.getD k false) im io a w) →
   wpAnyIn (Fw r) n P .any (xBn (m + 1) m ops) Q fuel listed a w := by
  intro fuel listed a w hsz hcnt hcl ht ⟨im,io,t1,t2,h⟩
  exact B1.2 fuel listed a w (by rw [s1z]; exact hsz) (by rw [s1z]; exact hcnt) (xCT hcl (ht _ (by omega))) ⟨im,io,t1,t2,.inl (by rw [s1z]; exact h)⟩
 have second : ∀ (fuel : Nat) (listed : Array Bool) (a : Act) (w : World),listed.size = ops.size → fuel + listed.toList.count true = ops.size → xCu ops listed → (∀ j,m ≤ j → listed.getD j false = false) →
   (∃ im io,Step im0 io0 w0 im io w ∧ a.defers = ds ∧ InvA als chk w0 m ops.size aops pl s s1 (fun k => listed.getD k false) im io a w) →
   wpAnyIn (Fw r) n P .any (xBn m (m + 1) ops) Q fuel listed a w := by
  intro fuel listed a w hsz hcnt hcl ht ⟨im,io,t1,t2,h⟩
  have same : ∀ i,listed.getD i false = listed.getD (σ.idxOf i) false := by
   intro i
   by_cases q : i < m
   ·rw [hσ i q]
   ·rw [ht i (by omega),ht _ (hσ2 i (by omega))]
  refine xDW (by rw [s2z]; exact hp) fuel listed listed a w (by rw [s2z]; exact hsz) (by rw [s2z]; exact hsz) same ?_
  refine B2 fuel listed a w (by rw [s3z]; exact hsz) (by rw [s3z]; exact hcnt) ?_ ⟨im,io,t1,t2,.inl (by rw [s3z]; exact h.of_take htake)⟩
  exact xHN (by rw [s2z]; exact hp) (by rw [s2z]; exact hsz) same (xCT hcl (ht _ (by omega)))
 intro fuel
 induction fuel with
 | zero =>
  intro listed a w hsz hcnt hcl ht _
  have := cntlt hsz ht
  omega
 | succ fuel ih =>
  intro listed a w hsz hcnt hcl ht hinv
  have F1 := first (fuel + 1) listed a w hsz hcnt hcl ht hinv
  have F2 := second (fuel + 1) listed a w hsz hcnt hcl ht hinv
  refine ⟨fun hr => F1.1 ?_,fun i hi => ?_⟩
  ·rw [List.eq_nil_iff_forall_not_mem] at hr ⊢
   exact fun j hj => hr j (addEdge_ready.1 hj).1
  obtain ⟨h0,o,ho,hedges⟩ := mem_ready.1 hi
  have hiN := (Array.getElem?_eq_some_iff.1 ho).1
  have hedges2 : ∀ e,xCJ ops i e = true → listed.getD e false = true := by
   intro e he
   simp only [xCJ,ho,Array.any_eq_true,Bool.and_eq_true,beq_iff_eq] at he
   obtain ⟨q,hq,hb,hon⟩ := he
   have := hedges _ (Array.getElem_mem hq) hb
   rwa [hon] at this
  rcases Nat.lt_trichotomy i m with him | him | him
  ·-- the first part
   have h0' : listed.getD i false = false := by rw [← xB0 (by omega)]; exact h0
   have hsz' : (listed.setIfInBounds i true).size = ops.size := by simpa using hsz
   have hcnt' : fuel + (listed.setIfInBounds i true).toList.count true = ops.size := by
    rw [Array.toList_setIfInBounds,xQj (by simp; omega) (by
     rw [Array.getElem?_toList]
     rw [Array.getD_eq_getD_getElem?,Array.getElem?_eq_getElem (by omega)] at h0'
     rw [Array.getElem?_eq_getElem (by omega)]
     simpa using h0')]
    omega
   have hcl' : xCu ops (listed.setIfInBounds i true) := by
    intro d o' ho' hd e he hb
    by_cases q : i = d
    ·subst q
     rw [ho] at ho'; cases ho'
     exact getD_set_true (hedges e he hb)
    ·rw [getD_set_ne false q] at hd
     exact getD_set_true (hcl d o' ho' hd e he hb)
   refine (xCj (m + 1) m i _ a w).1 (B1.1 True _ i listed a w (by rw [s1z]; exact hsz) (xCT hcl (ht _ (by omega))) (addEdge_ready.2 ⟨hi,fun q => by omega⟩) (fun a' w' ⟨im,io,t1,t2,h⟩ => ?_) (fun q => q.elim (fun q => (by omega : False).elim) (fun q => (q trivial).elim)) (hinv.imp fun im ⟨io,t1,t2,h⟩ => ⟨io,t1,t2,.inl (by rw [s1z]; exact h)⟩))
   refine ih _ a' w' hsz' hcnt' hcl' (fun j hj => ?_) ⟨im,io,t1,t2,by rw [s1z] at h; exact h⟩
   rw [getD_set_ne false (by omega : i ≠ j)]
   exact ht j hj
  ·subst him
   have h2 := (xCj (i + 1) i i _ a w).1 (F1.2 i (addEdge_ready.2 ⟨hi,fun q => by omega⟩))
   exact xED (fun a w => xFc _ _ a w (xDe (by omega))) h2
  ·by_cases him2 : i = m + 1
   ·subst him2
    have h2 := (xCj m (m + 1) (m + 1) _ a w).1 (F2.2 (m + 1) (addEdge_ready.2 ⟨hi,fun q => by omega⟩))
    exact xED (fun a w => xFc _ _ a w (xDe (by omega))) h2
   ·have := xDj hcl (hbef i (by omega) hiN).1 hedges2
    rw [ht m (Nat.le_refl _)] at this
    cases this
def xC6 {α : Type} (m : Nat) (l : List α) : List α := l.take m ++ (((l.drop m).take 2).reverse ++ l.drop (m + 2))
def yEQ (ops : Array Oper) (m : Nat) : Bool := (List.range ops.size).all fun i => decide (i < m + 2) || (xEc (xBj ops ops.size) i m && xEc (xBj ops ops.size) i (m + 1))
def xZ0 (als : List (Nat × Nat)) (P : Program) (ops : Array Oper) (ls : List (Nat × Nat × Nat × Nat)) (m : Nat) (aops : List AOper) : Bool :=
 decide (m + 1 < ops.size) && yEQ ops m &&
 xCQ P (xBn (m + 1) m ops) aops && xCL [] als ls m (xBn (m + 1) m ops) aops &&
 xCB (xC6 m (List.range ops.size)) ops.size &&
 xCQ P (xBs (xC6 m (List.range ops.size)) (xBn m (m + 1) ops)) (xC6 m aops) && xCL [] als ls m (xBs (xC6 m (List.range ops.size)) (xBn m (m + 1) ops)) (xC6 m aops)
def xQg (σ : List Nat) (als : List (Nat × Nat)) (P : Program) (ops : Array Oper) (ls : List (Nat × Nat × Nat × Nat)) (m : Nat) (aops : List AOper) : Bool :=
 xCB σ ops.size && xZ0 als P (xBs σ ops) ls m aops
theorem xJT {α : Type} (m : Nat) (l : List α) (h : m ≤ l.length) : (xC6 m l).take m = l.take m := by
 have : (l.take m).length = m := by simp; omega
 unfold xC6
 rw [List.take_append_of_le_length (by omega),List.take_take,Nat.min_self]
theorem xJU {α : Type} (m : Nat) (l : List α) (h : m ≤ l.length) : (xC6 m l).drop m = ((l.drop m).take 2).reverse ++ l.drop (m + 2) := by
 have : (l.take m).length = m := by simp; omega
 unfold xC6
 rw [List.drop_append_of_le_length (by omega),List.drop_eq_nil_of_le (by omega),List.nil_append]
theorem xQh {α : Type} (m : Nat) (l : List α) (h : m + 1 < l.length) : l.drop m = l[m] :: l[m+1] :: l.drop (m + 2) ∧ (xC6 m l).drop m = l[m+1] :: l[m] :: l.drop (m + 2) := by
 have e : l.drop m = l[m] :: l[m+1] :: l.drop (m + 2) := by rw [List.drop_eq_getElem_cons (by omega),List.drop_eq_getElem_cons (i := m + 1) (by omega)]
 refine ⟨e,?_⟩
 rw [xJU m l (by omega),e]
 rfl
theorem xQi {i m : Nat} (hi : i < m) : (List.range m).idxOf i = i := by
 have hl : (List.range m).idxOf i < (List.range m).length := List.idxOf_lt_length_iff.2 (List.mem_range.2 hi)
 have := List.getElem_idxOf hl
 rw [List.getElem_range] at this
 exact this
theorem xFU {m n : Nat} (h : m + 1 < n) : (∀ i,i < m → (xC6 m (List.range n)).idxOf i = i) ∧ ∀ i,m ≤ i → m ≤ (xC6 m (List.range n)).idxOf i := by
 have e : List.take m (List.range n) = List.range m := by rw [List.take_range]; congr 1; omega
 constructor
 ·intro i hi
  unfold xC6
  rw [e,List.idxOf_append,if_pos (List.mem_range.2 hi)]
  exact xQi hi
 ·intro i hi
  unfold xC6
  rw [e,List.idxOf_append,if_neg (by simp; omega)]
  simp
theorem yDj {chk : Code → ACode → Bool} {R : Rec} {σ : List Nat} {als : List (Nat × Nat)} (hR : RecOk chk P R) (hmix : P.follows .mixedOrders = true) {aops : List AOper} {r : Option Nat} {n id m : Nat} {Q : Exit → Act → World → Prop} {im : Im} {io : Io} {a : Act} {w : World}
  {ls : List (Nat × Nat × Nat × Nat)} (hc : xQg σ als P ops ls m aops = true) {s s1 s' : St} {pl : List Pr} (hls : ls.all (apart s'.F) = true)
  (hfree : xBa R (aops.take m) s = some (s1,pl)) (htail : xA9 R (aops.drop m) (xBJ als pl s1) = some s') (htail2 : xA9 R ((xC6 m aops).drop m) (xBJ als pl s1) = some s') (hS : Sim chk im io s.H w) (hF : FRep im io s.F a)
  (hQ : ∀ im' io' a' w',Step im io w im' io' w' → Sim chk im' io' s'.H w' → FRep im' io' s'.F a' → a'.defers = a.defers → Q .normal a' w') : (Code.region id ops true).wpIn (Fw r) n P Q a w := by
 simp only [xQg,xZ0,Bool.and_eq_true,decide_eq_true_eq] at hc
 obtain ⟨hp,⟨⟨⟨⟨⟨hm,hb⟩,hc1⟩,hok1⟩,hp2⟩,hc2⟩,hok2⟩ := hc
 have hsz : (xBs σ ops).size = ops.size := by
  have := xB1 (σ := σ) (ops := ops)
  simp only [xCB,Bool.and_eq_true,beq_iff_eq] at hp
  rw [this,hp.1]
 have hlen : aops.length = (xBs σ ops).size := by
  have := (xFe hc1).1
  rw [xCA] at this
  omega
 have hw1 : Step im io w im io { w with drawn := w.drawn + 1 } := Step.world rfl rfl rfl (Nat.le_refl _) (fun _ _ => rfl)
 refine wpIn_region_any hmix ?_
 refine xDW hp ops.size (Array.replicate ops.size false) (Array.replicate ops.size false) a _ (by simp) (by simp) (fun i => ?_) ?_
 ·rw [getD_replicate_false,getD_replicate_false]
 refine yBy (s := s) (s1 := s1) (s' := s') (pl := pl) (ls := ls) (ds := a.defers) (im0 := im) (io0 := io) (w0 := w) hR hm (fun i h1 h2 => ?_) hc1 hok1 hp2 (xFU hm).1 (xFU hm).2 hc2 hok2 (xJT m aops (by omega)) hls hfree htail htail2 hQ ops.size _ a _ (by simp [hsz]) (by simp [List.count_replicate,hsz]) (fun d o _ hd => by rw [getD_replicate_false] at hd; cases hd) (fun j _ => getD_replicate_false _ _) ?_
 ·simp only [yEQ,List.all_eq_true,List.mem_range,Bool.or_eq_true,Bool.and_eq_true,decide_eq_true_eq] at hb
  rcases hb i h2 with q | ⟨q1,q2⟩
  ·omega
  ·exact ⟨xCb _ _ _ _ q1,xCb _ _ _ _ q2⟩
 ·refine ⟨im,io,hw1,rfl,fun j _ _ => getD_replicate_false _ _,hS.world (Nat.le_refl _) (fun _ _ => rfl),?_,⟨fun _ => [],fun i t v B _ hD => (by have hD' : (Array.replicate ops.size false).getD i false = true := hD; rw [getD_replicate_false] at hD'; cases hD'),fun i j x y k k' b z z' _ _ _ hD => (by have hD' : (Array.replicate ops.size false).getD i false = true := hD; rw [getD_replicate_false] at hD'; cases hD')⟩,fun d q i _ _ _ _ _ hD => (by have hD' : (Array.replicate ops.size false).getD i false = true := hD; rw [getD_replicate_false] at hD'; cases hD'),fun d q i _ _ _ _ _ hD => (by have hD' : (Array.replicate ops.size false).getD i false = true := hD; rw [getD_replicate_false] at hD'; cases hD')⟩
  have : mix (aops.take m) (fun k => (Array.replicate ops.size false).getD k false) s.F s1.F = s.F := by
   have hlen := xCV _ _ _ _ hfree
   refine xCy (by rw [xBL]) (fun t => ?_)
   rw [xC7 _ _ _ _ _ hlen,if_neg]
   simp only [hit,List.any_eq_true,List.mem_range,Bool.and_eq_true,not_exists,not_and]
   intro d _ hd
   rw [getD_replicate_false] at hd
   cases hd
  rw [this]
  exact hF
end
theorem xYf {chk : Code → ACode → Bool} {im : Im} {io : Io} {H : Heap} {w : World} (hs : Sim chk im io H w) : Sim chk im io (H ++ [.cells true true []]) w := by
 have get : ∀ i b,(H ++ [Blk.cells true true []])[i]? = some b → H[i]? = some b ∨ i = H.length ∧ b = .cells true true [] := by
  intro i b hb
  by_cases q : i < H.length
  ·rw [List.getElem?_append_left q] at hb; exact .inl hb
  ·rw [List.getElem?_append_right (by omega)] at hb
   have : i - H.length = 0 := by
    rcases Nat.eq_zero_or_pos (i - H.length) with e | e
    ·exact e
    ·rw [List.getElem?_eq_none (by simp; omega)] at hb; cases hb
   rw [this] at hb
   simp at hb
   exact .inr ⟨by omega,hb.symm⟩
 refine ⟨fun id hid => hs.fresh id (by simp at hid; omega),fun id b hb => ?_,fun i j bi bj b si sj hi hj li lj ei ej => ?_,hs.imw,hs.inb,hs.glob⟩
 ·rcases get id b hb with h | ⟨rfl,rfl⟩
  ·exact hs.blk id b h
  ·exact .inl ⟨rfl,hs.fresh _ (Nat.le_refl _),rfl⟩
 ·rcases get i bi hi with h | ⟨rfl,rfl⟩
  ·rcases get j bj hj with h' | ⟨rfl,rfl⟩
   ·exact hs.inj i j bi bj b si sj h h' li lj ei ej
   ·cases lj
  ·cases li
theorem xHO : ∀ {H H' : Heap},H.map isHole = H'.map isHole → xF4 H = xF4 H'
 | [],[],_ => rfl
 | b :: H,c :: H',e => by
  simp only [List.map_cons,List.cons.injEq] at e
  simp only [xF4,xHO e.2,e.1]
 | [],_ :: _,e => by simp at e
 | _ :: _,[],e => by simp at e
theorem xJV : ∀ {H : Heap} {b : Blk},isHole b = false → xF4 (H ++ [b]) = xF4 H
 | [],b,h => by simp [xF4,h]
 | c :: H,b,h => by simp only [List.cons_append,xF4,xJV h]
theorem xJW {H H' : Heap} {es bytes : Nat} {xv yv : AV} (h : ∀ i,xEs xv = some i ∨ xEs yv = some i → H[i]? = H'[i]?) : xTT H es bytes xv yv = xTT H' es bytes xv yv := by
 have h1 : src H es yv = src H' es yv := by
  cases yv with
  | own z id off n es' => simp only [src,h id (.inr rfl)]
  | _ => rfl
 unfold xTT
 rw [h1]
 cases src H' es yv with
 | none => rfl
 | some p =>
  obtain ⟨m,ys⟩ := p
  simp only
  cases xv with
  | own z id off n es' => simp only [h id (.inl rfl)]
  | sl z n cs => cases z <;> rfl
  | _ => rfl
theorem xML {H : Heap} {es bytes : Nat} {xv yv : AV} {r : Bool × Nat × List AV × Option Nat} (h : xTT H es bytes xv yv = some r) :
  (∀ i,r.2.2.2 = some i → xEs xv = some i ∧ ∃ z cs,H[i]? = some (.cells false z cs)) ∧ ∀ i,xEs xv = some i ∨ xEs yv = some i → i < H.length := by
 unfold xTT at h
 split at h
 ·cases h
 rename_i m ys hsrc
 have hy : ∀ i,xEs yv = some i → i < H.length := by
  intro i hi
  cases yv with
  | own z id off n es' =>
   simp only [xEs,Option.some.injEq] at hi
   subst hi
   simp only [src] at hsrc
   split at hsrc
   ·rename_i hq
    exact (List.getElem?_eq_some_iff.1 hq).1
   ·cases hsrc
  | _ => cases hi
 split at h
 ·split at h
  ·cases h
   refine ⟨fun i hi => (by cases hi),fun i hi => ?_⟩
   rcases hi with hi | hi
   ·cases hi
   ·exact hy i hi
  ·cases h
 ·split at h
  ·rename_i hid
   split at h
   ·cases h
    refine ⟨fun i hi => ?_,fun i hi => ?_⟩
    ·cases hi
     exact ⟨rfl,_,_,hid⟩
    ·rcases hi with hi | hi
     ·cases hi
      exact (List.getElem?_eq_some_iff.1 hid).1
     ·exact hy i hi
   ·cases h
  ·cases h
 ·cases h
theorem xQZ {k : Option Nat} {H : Heap} {i : Nat} (h : k ≠ some i) : (xCG k H)[i]? = H[i]? := by
 cases k with
 | none => rfl
 | some j =>
  simp only [xCG,List.getElem?_set]
  rw [if_neg]
  rintro rfl
  exact h rfl
theorem xHP {F : List AV} {d : Nat} {v : AV} {x : Arg} (h : yBO x d = true) : opv (F.set d v) x = opv F x := by
 cases x with
 | c v => rfl
 | t i =>
  simp only [yBO,bne_iff_ne,ne_eq] at h
  show (F.set d v).getD i .any = F.getD i .any
  rw [xFW,if_neg]
  rintro ⟨rfl,_⟩
  exact h rfl
theorem xTx {k : Option Nat} {H : Heap} (h : ∀ i,k = some i → ∃ z cs,H[i]? = some (.cells false z cs)) : (xCG k H).map isHole = H.map isHole := by
 cases k with
 | none => rfl
 | some i =>
  obtain ⟨z,cs,e⟩ := h i rfl
  apply List.ext_getElem?
  intro j
  simp only [xCG,List.getElem?_map,List.getElem?_set]
  split
  ·rename_i q
   subst q
   rw [e]
   split
   ·rfl
   ·rename_i q
    rw [List.getElem?_eq_none (by omega)] at e
    cases e
  ·rfl
theorem xMM {k : Option Nat} {H B : Heap} (h : ∀ i,k = some i → i < H.length) : xCG k (H ++ B) = xCG k H ++ B := by
 cases k with
 | none => rfl
 | some i => simp only [xCG]; rw [List.set_append_left _ _ (h i rfl)]
theorem xTy (k k' : Option Nat) (H : Heap) : xCG k (xCG k' H) = xCG k' (xCG k H) := by
 cases k with
 | none => rfl
 | some i =>
  cases k' with
  | none => rfl
  | some j =>
   by_cases q : i = j
   ·subst q; rfl
   ·simp only [xCG]
    rw [List.set_comm _ _ q]
theorem xUo {k : Option Nat} {h : Nat} {H : Heap} {b : Blk} (hk : k ≠ some h) : xCG k (H.set h b) = (xCG k H).set h b := by
 cases k with
 | none => rfl
 | some i =>
  simp only [xCG]
  rw [List.set_comm]
  rintro rfl
  exact hk rfl
theorem xYg {R : Rec} {o1 o2 : AOper} {rest : List AOper} {s s' : St} (ht : xTU (o1 :: o2 :: rest) s = true) (h : xA9 R (o1 :: o2 :: rest) s = some s') : xA9 R (o2 :: o1 :: rest) s = some s' := by
 unfold xTU at ht
 split at ht
 case h_2 => cases ht
 rename_i s _ _ d1 es1 b1 x1 y1 d2 es2 b2 x2 y2 rest' heq
 simp only [List.cons.injEq] at heq
 obtain ⟨rfl,rfl,rfl⟩ := heq
 simp only [Bool.and_eq_true,bne_iff_ne,ne_eq] at ht
 obtain ⟨⟨⟨⟨⟨hd,n1⟩,n2⟩,n3⟩,n4⟩,ht⟩ := ht
 split at ht
 ·cases ht
 rename_i hh hhole
 simp only [List.all_cons,List.all_nil,Bool.and_true,Bool.and_eq_true,bne_iff_ne,ne_eq] at ht
 obtain ⟨⟨⟨q1,q2,q3,q4⟩,c1⟩,c2⟩ := ht
 have c1' : ∀ i,xEs (opv s.F x1) = some i → xEs (opv s.F x2) ≠ some i ∧ xEs (opv s.F y2) ≠ some i := by
  intro i hi
  rw [hi] at c1
  simpa using c1
 have c2' : ∀ i,xEs (opv s.F x2) = some i → xEs (opv s.F y1) ≠ some i := by
  intro i hi
  rw [hi] at c2
  simpa using c2
 obtain ⟨F,H⟩ := s
 simp only at *
 have hhl : hh < H.length := (List.getElem?_eq_some_iff.1 (xGK hhole)).1
 simp only [xA9,xBt,xCt] at h
 split at h
 ·cases h
 rename_i sa hsa
 simp only [Option.map_eq_some_iff] at hsa
 obtain ⟨⟨v1,H1⟩,e1,rfl⟩ := hsa
 simp only [xAg,hhole] at e1
 obtain ⟨r1,hB1,e⟩ := Option.map_eq_some_iff.1 e1
 cases e
 split at h
 ·cases h
 rename_i sb hsb
 simp only [Option.map_eq_some_iff] at hsb
 obtain ⟨⟨v2,H2⟩,e2,rfl⟩ := hsb
 rw [xH0] at e2
 obtain ⟨r2,hB2,e⟩ := Option.map_eq_some_iff.1 e2
 cases e
 simp only [putA] at hB2 h ⊢
 rw [xHP n1,xHP n2] at hB2
 have s1 := xML hB1
 have hB2' : xTT H es2 b2 (opv F x2) (opv F y2) = some r2 := by
  rw [← hB2]
  refine xJW fun i hi => ?_
  have hne : hh ≠ i := by
   rintro rfl
   rcases hi with hi | hi
   ·exact q3 hi
   ·exact q4 hi
  rw [List.getElem?_set_ne hne,xQZ]
  intro hk
  have := c1' i (s1.1 i hk).1
  rcases hi with hi | hi
  ·exact this.1 hi
  ·exact this.2 hi
 have s2 := xML hB2'
 have hB1' : xTT (xCG r2.2.2.2 H ++ [Blk.cells false r2.1 r2.2.2.1]) es1 b1 (opv F x1) (opv F y1) = some r1 := by
  rw [← hB1]
  refine xJW fun i hi => ?_
  rw [List.getElem?_append_left (by rw [xCC]; exact s1.2 i hi),xQZ]
  intro hk
  have hx := (s2.1 i hk).1
  rcases hi with hi | hi
  ·exact (c1' i hi).1 hx
  ·exact c2' i hx hi
 have hhole' : xF4 (xCG r2.2.2.2 H ++ [Blk.cells false r2.1 r2.2.2.1]) = some hh := by
  rw [xJV rfl,← hhole]
  exact xHO (xTx fun i hi => (s2.1 i hi).2)
 simp only [xA9,xBt,xCt,xH0,hB2',Option.map_some,putA]
 simp only [xAg,hhole',xHP n3,xHP n4,hB1',Option.map_some]
 rw [← h]
 have hk1 : ∀ i,r1.2.2.2 = some i → i < (xCG r2.2.2.2 H).length := fun i hi => by
  rw [xCC]; exact s1.2 i (.inl (s1.1 i hi).1)
 have hk2 : r2.2.2.2 ≠ some hh := fun hk => q3 (s2.1 hh hk).1
 congr 2
 ·rw [List.set_comm _ _ hd,List.length_set,xCC]
 ·rw [xMM hk1,List.set_append_left _ _ (by rw [xCC,xCC]; exact hhl),xUo hk2,xTy]
theorem xTz {ops : List AOper} {s : St} (h : xTU ops s = true) : ∃ o1 o2 rest,ops = o1 :: o2 :: rest := by
 unfold xTU at h
 split at h
 ·exact ⟨_,_,_,rfl⟩
 ·cases h
theorem xYh {R : Rec} {ops : List AOper} {m : Nat} {s s' : St} (ht : xTU (ops.drop m) s = true) (h : xA9 R (ops.drop m) s = some s') : xA9 R ((xC6 m ops).drop m) s = some s' := by
 obtain ⟨o1,o2,rest,e⟩ := xTz ht
 have hl : m ≤ ops.length := by
  rcases Nat.lt_or_ge ops.length m with q | q
  ·rw [List.drop_eq_nil_of_le (by omega)] at e; cases e
  ·exact q
 rw [e] at ht h
 have e2 : ops.drop (m + 2) = rest := by rw [← List.drop_drop,e]; rfl
 rw [xJU m ops hl,e,e2]
 exact xYg ht h
end Go.Abs
