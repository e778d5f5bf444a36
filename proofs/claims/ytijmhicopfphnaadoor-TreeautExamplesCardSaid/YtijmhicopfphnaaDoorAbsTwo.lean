/- A drawn region whose tail may begin with two operations in either order. -/
import Derived.Test.YtijmhicopfphnaaDoorAbsDraw
namespace Go.Abs
set_option linter.unusedVariables false
set_option linter.unusedSimpArgs false
open Go.RowKit
def xE1 (i e : Nat) (ops : Array Oper) : Array Oper := ops.modify i fun o => { o with after := o.after.push { on := e,ground := .data } }
section
variable {P : Program} {ops : Array Oper}
theorem xKQ (i e : Nat) : (xE1 i e ops).size = ops.size := by simp [xE1]
theorem xJk {i e j : Nat} (h : j ≠ i) : (xE1 i e ops)[j]? = ops[j]? := by
 simp only [xE1,Array.getElem?_modify,if_neg (Ne.symm h)]
theorem xKR (i e : Nat) : (xE1 i e ops)[i]? = (ops[i]?).map fun o => { o with after := o.after.push { on := e,ground := .data } } := by
 simp only [xE1,Array.getElem?_modify,if_true]
theorem xS1 (i e j : Nat) : ((xE1 i e ops)[j]?).bind (·.dst) = (ops[j]?).bind (·.dst) := by
 by_cases h : j = i
 ·subst h
  rw [xKR]
  cases ops[j]? <;> rfl
 ·rw [xJk h]
theorem xNC (i e : Nat) (tmps : Array Value) (j : Nat) : yielded (xE1 i e ops) tmps j = yielded ops tmps j := by
 unfold yielded
 rw [xS1]
theorem xJM {F : Fence} {n : Nat} {Q : Exit → Act → World → Prop} (i e j : Nat) (K : Act → World → Prop) (a : Act) (w : World) : wpOpIn F n P (xE1 i e ops) Q j K a w ↔ wpOpIn F n P ops Q j K a w := by
 have hy : yielded (xE1 i e ops) a.tmps = yielded ops a.tmps := funext fun j => xNC i e _ j
 unfold wpOpIn
 rw [hy]
 by_cases h : j = i
 ·subst h
  rw [xKR]
  cases ho : ops[j]? with
  | none => exact Iff.rfl
  | some o => exact Iff.rfl
 ·rw [xJk h]
theorem addEdge_ready {i e j : Nat} {listed : Array Bool} : j ∈ Region.ready .any (xE1 i e ops) listed ↔ j ∈ Region.ready .any ops listed ∧ (j = i → listed.getD e false = true) := by
 rw [mem_ready,mem_ready]
 by_cases h : j = i
 ·subst h
  rw [xKR]
  constructor
  ·rintro ⟨h1,o,ho,h2⟩
   simp only [Option.map_eq_some_iff] at ho
   obtain ⟨o0,h3,rfl⟩ := ho
   refine ⟨⟨h1,o0,h3,fun e' he' hb => h2 e' (by simp [he']) hb⟩,fun _ => h2 { on := e,ground := .data } (by simp) (by rfl)⟩
  ·rintro ⟨⟨h1,o0,h3,h2⟩,h4⟩
   refine ⟨h1,_,by rw [h3]; rfl,fun e' he' hb => ?_⟩
   rcases Array.mem_push.1 he' with q | rfl
   ·exact h2 e' q hb
   ·exact h4 rfl
 ·rw [xJk h]
  exact ⟨fun h' => ⟨h',fun q => (h q).elim⟩,fun h' => h'.1⟩
theorem xND {F : Fence} {n : Nat} {Q : Exit → Act → World → Prop} {i : Nat} {K K' : Act → World → Prop} {a : Act} {w : World} (hK : ∀ a w,K a w → K' a w) (h : wpOpIn F n P ops Q i K a w) : wpOpIn F n P ops Q i K' a w := by
 unfold wpOpIn at h ⊢
 split at h
 ·exact hK _ _ h
 ·split at h
  ·rename_i hw
   rw [if_pos hw]
   exact Oper.wpIn_mono hK h
  ·rename_i hw
   rw [if_neg hw]
   exact ⟨h.1,hK _ _ h.2⟩
theorem xOK {F : Fence} {n : Nat} {Q : Exit → Act → World → Prop} {i e : Nat} : ∀ (fuel : Nat) (listed : Array Bool) (a : Act) (w : World),listed.getD e false = true →
  wpAnyIn F n P .any (xE1 i e ops) Q fuel listed a w → wpAnyIn F n P .any ops Q fuel listed a w := by
 intro fuel
 have rd : ∀ {listed : Array Bool},listed.getD e false = true → (Region.ready .any ops listed = [] → Region.ready .any (xE1 i e ops) listed = []) ∧ (Region.ready .any (xE1 i e ops) listed = [] → Region.ready .any ops listed = []) := by
  intro listed he
  simp only [List.eq_nil_iff_forall_not_mem]
  exact ⟨fun h j hj => h j (addEdge_ready.1 hj).1,fun h j hj => h j (addEdge_ready.2 ⟨hj,fun _ => he⟩)⟩
 induction fuel with
 | zero =>
  intro listed a w he h
  exact ⟨(rd he).2 h.1,h.2⟩
 | succ fuel ih =>
  intro listed a w he h
  refine ⟨fun hr => h.1 ((rd he).1 hr),fun j hj => ?_⟩
  have h2 := (xJM _ _ _ _ _ _).1 (h.2 j (addEdge_ready.2 ⟨hj,fun _ => he⟩))
  refine xND (fun a w => ih _ a w ?_) h2
  by_cases q : j = e
  ·subst q
   obtain ⟨_,o,ho,_⟩ := mem_ready.1 hj
   by_cases hs : j < listed.size
   ·simp [hs]
   ·have : listed.getD j false = false := by simp [Array.getD_eq_getD_getElem?,Array.getElem?_eq_none (by omega : listed.size ≤ j)]
    rw [this] at he; cases he
  ·rw [getD_set_ne false q]; exact he
theorem xL4 {l : Array Bool} {i : Nat} (h : i < l.size) : (l.setIfInBounds i true).getD i false = true := by simp [h]
theorem xS2 {σ : List Nat} {listed listed' : Array Bool} (hp : xJx σ ops.size = true) (hs : listed.size = ops.size) (hr : ∀ i,listed.getD i false = listed'.getD (σ.idxOf i) false) (hcl : xIY ops listed) : xIY (xFv σ ops) listed' := by
 have hp' := hp
 simp only [xJx,Bool.and_eq_true,beq_iff_eq,List.all_eq_true,List.mem_range,decide_eq_true_eq] at hp
 intro d o ho hd e he hb
 have hd' : d < σ.length := by
  have := (Array.getElem?_eq_some_iff.1 ho).1
  rwa [xIb] at this
 obtain ⟨⟨_,h2⟩,h3⟩ := hp.2 d (by omega)
 have hi : σ.getD d 0 < ops.size := h3
 have ho2 := xKp (ops := ops) (by omega) (hp.2 _ hi).1.1 (Array.getElem?_eq_getElem hi)
 rw [h2,ho] at ho2
 cases ho2
 simp only [xKT,Array.mem_map] at he
 obtain ⟨e0,he0,rfl⟩ := he
 have h4 := hcl (σ.getD d 0) _ (Array.getElem?_eq_getElem hi) (by rw [hr,h2]; exact hd) e0 he0 (by rw [← hb]; cases e0; rfl)
 rw [hr] at h4
 exact h4
theorem xLR {i e : Nat} {listed : Array Bool} (hcl : xIY ops listed) (hi : listed.getD i false = false) : xIY (xE1 i e ops) listed := by
 intro d o ho hd e' he' hb
 have hdi : d ≠ i := by rintro rfl; rw [hi] at hd; cases hd
 rw [xJk hdi] at ho
 exact hcl d o ho hd e' he' hb
theorem xMD {aops aops2 : List AOper} {i q : Nat} (h : aops2[i]? = aops[i]?) : xKS aops2 i q = xKS aops i q := by
 unfold xKS
 rw [h]
theorem xWe {aops aops2 : List AOper} {i d q : Nat} (h : ∀ k,k ≤ i → aops2[k]? = aops[k]?) (ho : xVo aops2 i d q = true) : xVo aops i d q = true := by
 rcases xIk ho with ⟨e,hq,e1,e2,e3⟩ | ⟨j,p,i',e,e2,e4,e5,k,k1,k2⟩
 ·rw [h i (Nat.le_refl _)] at e
  rw [xMD (h e1 (by omega))] at e3
  simp only [xVo,e,Bool.and_eq_true,beq_iff_eq,List.any_eq_true,List.mem_range,decide_eq_true_eq]
  exact ⟨⟨⟨trivial,trivial⟩,hq⟩,e1,e2,e3⟩
 ·rw [h i (Nat.le_refl _)] at e
  rw [h i' (by omega)] at e5
  rw [xMD (h k (by omega))] at k2
  simp only [xVo,e,Bool.and_eq_true,beq_iff_eq,List.any_eq_true,List.mem_range]
  exact ⟨⟨trivial,e2⟩,i',e4,by simp [e5],k,k1,k2⟩
theorem InvA.of_take {als : List (Nat × Nat)} {chk : Code → ACode → Bool} {w0 : World} {m N : Nat} {aops aops2 : List AOper} {pl : List Pr} {s s1 : St} {D : Nat → Bool} {im : Im} {io : Io} {a : Act} {w : World}
  (ht : aops2.take m = aops.take m) (h : InvA als chk w0 m N aops pl s s1 D im io a w) : InvA als chk w0 m N aops2 pl s s1 D im io a w := by
 obtain ⟨h1,h2,h3,h4,h5,h6⟩ := h
 have hk : ∀ k,k < m → aops2[k]? = aops[k]? := by
  intro k hk
  have : (aops2.take m)[k]? = (aops.take m)[k]? := by rw [ht]
  rwa [List.getElem?_take_of_lt hk,List.getElem?_take_of_lt hk] at this
 refine ⟨h1,h2,by rw [ht]; exact h3,h4,fun d q i e he hl hi ho => h5 d q i e he (by rw [← xMD (hk e (by omega))]; exact hl) hi (by rw [← hk i hi]; exact ho),fun d q i j p hi ho hop => h6 d q i j p hi (by rw [← hk i hi]; exact ho) (xWe (fun k hk' => hk k (by omega)) hop)⟩
def xKG {α : Type} (m : Nat) (l : List α) : List α := l.take m ++ (((l.drop m).take 2).reverse ++ l.drop (m + 2))
def yGK (ops : Array Oper) (m : Nat) : Bool := (List.range ops.size).all fun i => decide (i < m + 2) || (xKm (xBE ops ops.size) i m && xKm (xBE ops ops.size) i (m + 1))
theorem xVm {α : Type} (m : Nat) (l : List α) (h : m ≤ l.length) : (xKG m l).take m = l.take m := by
 have : (l.take m).length = m := by simp; omega
 unfold xKG
 rw [List.take_append_of_le_length (by omega),List.take_take,Nat.min_self]
theorem xVn {α : Type} (m : Nat) (l : List α) (h : m ≤ l.length) : (xKG m l).drop m = ((l.drop m).take 2).reverse ++ l.drop (m + 2) := by
 have : (l.take m).length = m := by simp; omega
 unfold xKG
 rw [List.drop_append_of_le_length (by omega),List.drop_eq_nil_of_le (by omega),List.nil_append]
theorem xS3 {α : Type} (m : Nat) (l : List α) (h : m + 1 < l.length) : l.drop m = l[m] :: l[m+1] :: l.drop (m + 2) ∧ (xKG m l).drop m = l[m+1] :: l[m] :: l.drop (m + 2) := by
 have e : l.drop m = l[m] :: l[m+1] :: l.drop (m + 2) := by rw [List.drop_eq_getElem_cons (by omega),List.drop_eq_getElem_cons (i := m + 1) (by omega)]
 refine ⟨e,?_⟩
 rw [xVn m l (by omega),e]
 rfl
theorem xS4 {i m : Nat} (hi : i < m) : (List.range m).idxOf i = i := by
 have hl : (List.range m).idxOf i < (List.range m).length := List.idxOf_lt_length_iff.2 (List.mem_range.2 hi)
 have := List.getElem_idxOf hl
 rw [List.getElem_range] at this
 exact this
theorem xQG {m n : Nat} (h : m + 1 < n) : (∀ i,i < m → (xKG m (List.range n)).idxOf i = i) ∧ ∀ i,m ≤ i → m ≤ (xKG m (List.range n)).idxOf i := by
 have e : List.take m (List.range n) = List.range m := by rw [List.take_range]; congr 1; omega
 constructor
 ·intro i hi
  unfold xKG
  rw [e,List.idxOf_append,if_pos (List.mem_range.2 hi)]
  exact xS4 hi
 ·intro i hi
  unfold xKG
  rw [e,List.idxOf_append,if_neg (by simp; omega)]
  simp
end
theorem yCq {F : List AV} {d : Nat} {v : AV} {x : Arg} (h : yCL x d = true) : opv (F.set d v) x = opv F x := by
 cases x with
 | c v => rfl
 | t i =>
  simp only [yCL,bne_iff_ne,ne_eq] at h
  show (F.set d v).getD i .any = F.getD i .any
  rw [xL6,if_neg]
  rintro ⟨rfl,_⟩
  exact h rfl
end Go.Abs
