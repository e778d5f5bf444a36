/- A drawn region whose last free operation,a box,may come behind the tail's first,a literal. -/
import Derived.Test.YtijmhicopfphnaaDoorAbsTwo
namespace Go.Abs
set_option linter.unusedVariables false
set_option linter.unusedSimpArgs false
open Go.RowKit
section
variable {P : Program} {ops : Array Oper}
theorem InvA.cut {chk : Code → ACode → Bool} {w0 : World} {m N : Nat} {aops : List AOper} {pl plB : List Pr} {s s1 sB : St} {D : Nat → Bool} {im : Im} {io : Io} {a : Act} {w : World} (hD : ∀ j,m ≤ j → D j = false)
  (hpl : ∀ (i : Nat) (x : Nat × AV × List Blk),plB[i]? = some (some x) → pl[i]? = some (some x)) (hmix : mix (aops.take (m + 1)) D s.F s1.F = mix (aops.take m) D s.F sB.F)
  (h : InvA [] chk w0 (m + 1) N aops pl s s1 D im io a w) : InvA [] chk w0 m N aops plB s sB D im io a w := by
 obtain ⟨h1,h2,h3,⟨ioss,h4,h4'⟩,h5,h6⟩ := h
 exact ⟨fun j hj _ => hD j hj,h2,by rw [← hmix]; exact h3,⟨ioss,fun i t v B hp hd => h4 i t v B (hpl i _ hp) hd,fun i j x y k k' b z z' hij hx hy => h4' i j x y k k' b z z' hij (hpl i _ hx) (hpl j _ hy)⟩,
  fun d q i e he hl hi => h5 d q i e he hl (by omega),fun d q i j p hi => h6 d q i j p (by omega)⟩
theorem xZt {chk : Code → ACode → Bool} {R : Rec} (hR : RecOk chk P R) {aops aops2 : List AOper} {σ : List Nat} {r : Option Nat} {n m : Nat} {ls : List (Nat × Nat × Nat × Nat)} {Q : Exit → Act → World → Prop} {s s1 sB s' : St} {im0 : Im} {io0 : Io} {w0 : World} {ds : List Deferred}
  (hm : m + 1 < ops.size) (hbef : ∀ i,m + 2 ≤ i → i < ops.size → Bef ops i m)
  (hc : xJO P (xE1 (m + 1) m ops) aops = true) (hok : xJY [] [] ls (m + 1) (xE1 (m + 1) m ops) aops = true)
  (hp : xJx σ ops.size = true) (hσ : ∀ i,i < m → σ.idxOf i = i) (hσ2 : ∀ i,m ≤ i → m ≤ σ.idxOf i)
  (hc2 : xJO P (xFv σ (xE1 m (m + 1) ops)) aops2 = true) (hok2 : xJY [] [] ls m (xFv σ (xE1 m (m + 1) ops)) aops2 = true) (htake : aops2.take m = aops.take m)
  {pl plB : List Pr} (hls : ls.all (apart s'.F) = true) (hfree : xA6 R (aops.take (m + 1)) s = some (s1,pl)) (hfreeB : xA6 R (aops.take m) s = some (sB,plB)) (hpl : ∀ (i : Nat) (x : Nat × AV × List Blk),plB[i]? = some (some x) → pl[i]? = some (some x))
  (hmix : ∀ D : Nat → Bool,D m = false → mix (aops.take (m + 1)) D s.F s1.F = mix (aops.take m) D s.F sB.F)
  (htail : xBJ R (aops.drop (m + 1)) (xGo [] pl s1) = some s') (htail2 : xBJ R (aops2.drop m) (xGo [] plB sB) = some s')
  (hQ : ∀ im' io' a' w',Step im0 io0 w0 im' io' w' → Sim chk im' io' s'.H w' → FRep im' io' s'.F a' → a'.defers = ds → Q .normal a' w') :
  ∀ (fuel : Nat) (listed : Array Bool) (a : Act) (w : World),listed.size = ops.size → fuel + listed.toList.count true = ops.size → xIY ops listed → (∀ j,m ≤ j → listed.getD j false = false) →
   (∃ im io,Step im0 io0 w0 im io w ∧ a.defers = ds ∧ InvA [] chk w0 (m + 1) ops.size aops pl s s1 (fun k => listed.getD k false) im io a w) →
   wpAnyIn (Fw r) n P .any ops Q fuel listed a w := by
 have B1 := xNJ (r := r) (n := n) hR hc hok hls hfree htail (xL9 _ _ _) hQ
 have s1z : (xE1 (m + 1) m ops).size = ops.size := xKQ _ _
 have s2z : (xE1 m (m + 1) ops).size = ops.size := xKQ _ _
 have B2 := (xNJ (r := r) (n := n) hR hc2 hok2 hls (by rw [htake]; exact hfreeB) htail2 (xL9 _ _ _) hQ).2
 have s3z : (xFv σ (xE1 m (m + 1) ops)).size = ops.size := by
  rw [xIb]
  simp only [xJx,Bool.and_eq_true,beq_iff_eq] at hp
  exact hp.1
 have cntlt : ∀ {listed : Array Bool},listed.size = ops.size → (∀ j,m ≤ j → listed.getD j false = false) → listed.toList.count true < ops.size := by
  intro listed hsz ht
  rcases Nat.lt_or_ge (listed.toList.count true) ops.size with q | q
  ·exact q
  ·exfalso
   have hle : listed.toList.count true ≤ listed.toList.length := List.count_le_length
   have := xWi (l := listed.toList) (by simp only [Array.length_toList] at hle ⊢; omega) m (by simp only [Array.length_toList]; omega)
   rw [Array.getElem?_toList] at this
   have h2 := ht m (Nat.le_refl _)
   rw [Array.getD_eq_getD_getElem?,this] at h2
   cases h2
 have first : ∀ (fuel : Nat) (listed : Array Bool) (a : Act) (w : World),listed.size = ops.size → fuel + listed.toList.count true = ops.size → xIY ops listed → (∀ j,m ≤ j → listed.getD j false = false) →
   (∃ im io,Step im0 io0 w0 im io w ∧ a.defers = ds ∧ InvA [] chk w0 (m + 1) ops.size aops pl s s1 (fun k => listed.getD k false) im io a w) →
   wpAnyIn (Fw r) n P .any (xE1 (m + 1) m ops) Q fuel listed a w := by
  intro fuel listed a w hsz hcnt hcl ht ⟨im,io,t1,t2,h⟩
  exact B1.2 fuel listed a w (by rw [s1z]; exact hsz) (by rw [s1z]; exact hcnt) (xLR hcl (ht _ (by omega))) ⟨im,io,t1,t2,.inl (by rw [s1z]; exact h)⟩
 have second : ∀ (fuel : Nat) (listed : Array Bool) (a : Act) (w : World),listed.size = ops.size → fuel + listed.toList.count true = ops.size → xIY ops listed → (∀ j,m ≤ j → listed.getD j false = false) →
   (∃ im io,Step im0 io0 w0 im io w ∧ a.defers = ds ∧ InvA [] chk w0 (m + 1) ops.size aops pl s s1 (fun k => listed.getD k false) im io a w) →
   wpAnyIn (Fw r) n P .any (xE1 m (m + 1) ops) Q fuel listed a w := by
  intro fuel listed a w hsz hcnt hcl ht ⟨im,io,t1,t2,h⟩
  have same : ∀ i,listed.getD i false = listed.getD (σ.idxOf i) false := by
   intro i
   by_cases q : i < m
   ·rw [hσ i q]
   ·rw [ht i (by omega),ht _ (hσ2 i (by omega))]
  have h' := h.cut (plB := plB) (sB := sB) ht hpl (hmix _ (ht m (Nat.le_refl _)))
  refine xMK (by rw [s2z]; exact hp) fuel listed listed a w (by rw [s2z]; exact hsz) (by rw [s2z]; exact hsz) same ?_
  refine B2 fuel listed a w (by rw [s3z]; exact hsz) (by rw [s3z]; exact hcnt) ?_ ⟨im,io,t1,t2,.inl (by rw [s3z]; exact h'.of_take htake)⟩
  exact xS2 (by rw [s2z]; exact hp) (by rw [s2z]; exact hsz) same (xLR hcl (ht _ (by omega)))
 intro fuel
 induction fuel with
 | zero =>
  intro listed a w hsz hcnt hcl ht _
  have := cntlt hsz ht
  omega
 | succ fuel ih =>
  intro listed a w hsz hcnt hcl ht hinv
  have F1 := first (fuel + 1) listed a w hsz hcnt hcl ht hinv
  have F2 := second (fuel + 1) listed a w hsz hcnt hcl ht hinv
  refine ⟨fun hr => F1.1 ?_,fun i hi => ?_⟩
  ·rw [List.eq_nil_iff_forall_not_mem] at hr ⊢
   exact fun j hj => hr j (addEdge_ready.1 hj).1
  obtain ⟨h0,o,ho,hedges⟩ := mem_ready.1 hi
  have hiN := (Array.getElem?_eq_some_iff.1 ho).1
  have hedges2 : ∀ e,xIX ops i e = true → listed.getD e false = true := by
   intro e he
   simp only [xIX,ho,Array.any_eq_true,Bool.and_eq_true,beq_iff_eq] at he
   obtain ⟨q,hq,hb,hon⟩ := he
   have := hedges _ (Array.getElem_mem hq) hb
   rwa [hon] at this
  rcases Nat.lt_trichotomy i m with him | him | him
  ·have h0' : listed.getD i false = false := by rw [← xHK (by omega)]; exact h0
   have hsz' : (listed.setIfInBounds i true).size = ops.size := by simpa using hsz
   have hcnt' : fuel + (listed.setIfInBounds i true).toList.count true = ops.size := by
    rw [Array.toList_setIfInBounds,xWh (by simp; omega) (by
     rw [Array.getElem?_toList]
     rw [Array.getD_eq_getD_getElem?,Array.getElem?_eq_getElem (by omega)] at h0'
     rw [Array.getElem?_eq_getElem (by omega)]
     simpa using h0')]
    omega
   have hcl' : xIY ops (listed.setIfInBounds i true) := by
    intro d o' ho' hd e he hb
    by_cases q : i = d
    ·subst q
     rw [ho] at ho'; cases ho'
     exact getD_set_true (hedges e he hb)
    ·rw [getD_set_ne false q] at hd
     exact getD_set_true (hcl d o' ho' hd e he hb)
   refine (xJM (m + 1) m i _ a w).1 (B1.1 True _ i listed a w (by rw [s1z]; exact hsz) (xLR hcl (ht _ (by omega))) (addEdge_ready.2 ⟨hi,fun q => by omega⟩) (fun a' w' ⟨im,io,t1,t2,h⟩ => ?_) (fun q => q.elim (fun q => (by omega : False).elim) (fun q => (q trivial).elim)) (hinv.imp fun im ⟨io,t1,t2,h⟩ => ⟨io,t1,t2,.inl (by rw [s1z]; exact h)⟩))
   refine ih _ a' w' hsz' hcnt' hcl' (fun j hj => ?_) ⟨im,io,t1,t2,by rw [s1z] at h; exact h⟩
   rw [getD_set_ne false (by omega : i ≠ j)]
   exact ht j hj
  ·subst him
   have h2 := (xJM (i + 1) i i _ a w).1 (F1.2 i (addEdge_ready.2 ⟨hi,fun q => by omega⟩))
   exact xND (fun a w => xOK _ _ a w (xL4 (by omega))) h2
  ·by_cases him2 : i = m + 1
   ·subst him2
    have h2 := (xJM m (m + 1) (m + 1) _ a w).1 (F2.2 (m + 1) (addEdge_ready.2 ⟨hi,fun q => by omega⟩))
    exact xND (fun a w => xOK _ _ a w (xL4 (by omega))) h2
   ·have := xJ8 hcl (hbef i (by omega) hiN) hedges2
    rw [ht m (Nat.le_refl _)] at this
    cases this
def xTO (m : Nat) (aops : List AOper) : Bool := match aops[m]?,aops[m + 1]? with
 | some ⟨some t,.box (.c v),none⟩,some ⟨some d,.build zs ps,none⟩ => decide (t ≠ d) && !((AOper.reads ⟨some d,.build zs ps,none⟩).contains t) && (List.range m).all fun i => xA5 aops i != some t
 | _,_ => false
def xWd (P : Program) (ops : Array Oper) (ls : List (Nat × Nat × Nat × Nat)) (m : Nat) (aops : List AOper) : Bool :=
 decide (m + 1 < ops.size) && yGK ops m && xTO m aops &&
 xJO P (xE1 (m + 1) m ops) aops && xJY [] [] ls (m + 1) (xE1 (m + 1) m ops) aops &&
 xJx (xKG m (List.range ops.size)) ops.size &&
 xJO P (xFv (xKG m (List.range ops.size)) (xE1 m (m + 1) ops)) (xKG m aops) && xJY [] [] ls m (xFv (xKG m (List.range ops.size)) (xE1 m (m + 1) ops)) (xKG m aops)
def xPU (P : Program) (ops : Array Oper) (ls : List (Nat × Nat × Nat × Nat)) (m1 : Nat) (aops : List AOper) : Bool :=
 decide (0 < m1) && xJx (xKG (m1 - 1) (List.range ops.size)) ops.size && xWd P (xFv (xKG (m1 - 1) (List.range ops.size)) ops) ls (m1 - 1) aops
theorem xKP {R : Rec} {t : Nat} {v : AV} : ∀ (l : List AOper) {s s1 : St} {pl : List Pr},xA6 R (l ++ [⟨some t,.box (.c v),none⟩]) s = some (s1,pl) →
  ∃ sB plB,xA6 R l s = some (sB,plB) ∧ s1 = ⟨sB.F.set t (xIn (.ptr 0 0)),sB.H⟩ ∧ pl = plB ++ [some (t,.ptr 0 0,[.cells false false v.cells])] ∧ v.cells.all AV.isCell = true ∧ plB.length = l.length
 | [],s,s1,pl,h => by
  simp only [List.nil_append,xA6] at h
  rw [if_pos (show xBk (.box (.c v)) = true from rfl)] at h
  split at h
  ·rename_i t' v' B' e1 e2
   cases e1
   unfold xJn at e2
   split at e2
   ·have hx : xAc R s.F [] (.box (.c v)) = if v.cells.all AV.isCell = true then some (.ptr 0 0,[.cells false false v.cells]) else none := rfl
    rw [hx] at e2
    by_cases hcell : v.cells.all AV.isCell = true
    ·rw [if_pos hcell] at e2
     dsimp only at e2
     split at e2
     ·cases e2
      simp only [Option.map_some,Option.some.injEq,Prod.mk.injEq] at h
      obtain ⟨rfl,rfl⟩ := h
      exact ⟨s,[],rfl,rfl,rfl,hcell,rfl⟩
     ·cases e2
    ·rw [if_neg hcell] at e2
     cases e2
   ·cases e2
  ·cases h
 | o :: l,s,s1,pl,h => by
  simp only [List.cons_append,xA6] at h
  by_cases hp : xBk o.op = true
  ·rw [if_pos hp] at h
   cases e1 : o.dst with
   | none => rw [e1] at h; cases h
   | some t' =>
    cases e2 : xJn R s.F o.op with
    | none => rw [e1,e2] at h; cases h
    | some vb =>
     obtain ⟨v',B'⟩ := vb
     rw [e1,e2] at h
     simp only [Option.map_eq_some_iff] at h
     obtain ⟨⟨s2,pl2⟩,h,h2⟩ := h
     cases h2
     obtain ⟨sB,plB,g1,g2,g3,g4,g5⟩ := xKP l h
     refine ⟨sB,some (t',v',B') :: plB,?_,g2,by rw [g3]; rfl,g4,by simp [g5]⟩
     simp only [xA6]
     rw [if_pos hp,e1,e2]
     simp only [g1,Option.map_some]
  ·rw [if_neg hp] at h
   cases e1 : xCW R o s with
   | none => rw [e1] at h; cases h
   | some s0 =>
    rw [e1] at h
    simp only [Option.map_eq_some_iff] at h
    obtain ⟨⟨s2,pl2⟩,h,h2⟩ := h
    cases h2
    obtain ⟨sB,plB,g1,g2,g3,g4,g5⟩ := xKP l h
    refine ⟨sB,none :: plB,?_,g2,by rw [g3]; rfl,g4,by simp [g5]⟩
    simp only [xA6]
    rw [if_neg hp,e1]
    simp only [g1,Option.map_some]
theorem xMB : ∀ (l1 l2 : List Pr) (s : St),adoptL (l1 ++ l2) s = adoptL l2 (adoptL l1 s)
 | [],_,_ => rfl
 | none :: l1,l2,s => xMB l1 l2 s
 | some (t,v,B) :: l1,l2,s => xMB l1 l2 _
theorem xMC (t : Nat) (x : AV) : ∀ (l : List Pr) (F : List AV) (H : Heap),(∀ v B,some (t,v,B) ∉ l) → adoptL l ⟨F.set t x,H⟩ = ⟨(adoptL l ⟨F,H⟩).F.set t x,(adoptL l ⟨F,H⟩).H⟩
 | [],_,_,_ => rfl
 | none :: l,F,H,h => xMC t x l F H fun v B hm => h v B (List.mem_cons_of_mem _ hm)
 | some (t',v,B) :: l,F,H,h => by
  have hne : t ≠ t' := by
   rintro rfl
   exact h v B List.mem_cons_self
  show adoptL l ⟨(F.set t x).set t' (xCY H.length v),H ++ B⟩ = _
  rw [List.set_comm _ _ hne]
  exact xMC t x l _ _ fun v B hm => h v B (List.mem_cons_of_mem _ hm)
theorem xLQ {R : Rec} : ∀ (l : List AOper) {s s1 : St} {pl : List Pr},xA6 R l s = some (s1,pl) → ∀ t v B,some (t,v,B) ∈ pl → ∃ o ∈ l,o.dst = some t
 | [],s,s1,pl,h,t,v,B,hm => by cases h; cases hm
 | o :: l,s,s1,pl,h,t,v,B,hm => by
  simp only [xA6] at h
  by_cases hp : xBk o.op = true
  ·rw [if_pos hp] at h
   cases e1 : o.dst with
   | none => rw [e1] at h; cases h
   | some t' =>
    cases e2 : xJn R s.F o.op with
    | none => rw [e1,e2] at h; cases h
    | some vb =>
     obtain ⟨v',B'⟩ := vb
     rw [e1,e2] at h
     simp only [Option.map_eq_some_iff] at h
     obtain ⟨⟨s2,pl2⟩,h,h2⟩ := h
     cases h2
     rcases List.mem_cons.1 hm with e | hm
     ·cases e
      exact ⟨o,List.mem_cons_self,e1⟩
     ·obtain ⟨o',h1,h2⟩ := xLQ l h t v B hm
      exact ⟨o',List.mem_cons_of_mem _ h1,h2⟩
  ·rw [if_neg hp] at h
   cases e1 : xCW R o s with
   | none => rw [e1] at h; cases h
   | some s0 =>
    rw [e1] at h
    simp only [Option.map_eq_some_iff] at h
    obtain ⟨⟨s2,pl2⟩,h,h2⟩ := h
    cases h2
    rcases List.mem_cons.1 hm with e | hm
    ·cases e
    ·obtain ⟨o',h1,h2⟩ := xLQ l h t v B hm
     exact ⟨o',List.mem_cons_of_mem _ h1,h2⟩
def yEg (z : List AV) (ps : List (Nat × Nat × Arg)) (F : List AV) : Option AV :=
 if ps.all (fun p => (opv F p.2.2).cells.length == p.2.1) then (fillA z (ps.map fun p => (p.1,(opv F p.2.2).cells))).map AV.agg else none
theorem xVk (R : Rec) (z : List AV) (ps : List (Nat × Nat × Arg)) (F : List AV) (H : Heap) : xAc R F H (.build z ps) = (yEg z ps F).map fun v => (v,H) := by
 show (if _ then _ else _) = _
 unfold yEg
 split
 ·rw [Option.map_map]; rfl
 ·rfl
theorem xVl {z : List AV} {ps : List (Nat × Nat × Arg)} {F F' : List AV} (h : ∀ p ∈ ps,opv F p.2.2 = opv F' p.2.2) : yEg z ps F = yEg z ps F' := by
 unfold yEg
 have e1 : (ps.all fun p => (opv F p.2.2).cells.length == p.2.1) = ps.all fun p => (opv F' p.2.2).cells.length == p.2.1 := by
  rw [Bool.eq_iff_iff,List.all_eq_true,List.all_eq_true]
  constructor
  ·intro q p hp; rw [← h p hp]; exact q p hp
  ·intro q p hp; rw [h p hp]; exact q p hp
 have e2 : (ps.map fun p => (p.1,(opv F p.2.2).cells)) = ps.map fun p => (p.1,(opv F' p.2.2).cells) := List.map_congr_left fun p hp => by rw [h p hp]
 rw [e1,e2]
theorem yCp {chk : Code → ACode → Bool} {R : Rec} (hR : RecOk chk P R) (hmix : P.follows .mixedOrders = true) {aops : List AOper} {r : Option Nat} {n id m1 : Nat} {Q : Exit → Act → World → Prop} {im : Im} {io : Io} {a : Act} {w : World}
  {ls : List (Nat × Nat × Nat × Nat)} (hc : xPU P ops ls m1 aops = true) {s s1 s' : St} {pl : List Pr} (hls : ls.all (apart s'.F) = true)
  (hfree : xA6 R (aops.take m1) s = some (s1,pl)) (htail : xBJ R (aops.drop m1) (xGo [] pl s1) = some s') (hS : Sim chk im io s.H w) (hF : FRep im io s.F a)
  (hQ : ∀ im' io' a' w',Step im io w im' io' w' → Sim chk im' io' s'.H w' → FRep im' io' s'.F a' → a'.defers = a.defers → Q .normal a' w') : (Code.region id ops true).wpIn (Fw r) n P Q a w := by
 simp only [xPU,xWd,Bool.and_eq_true,decide_eq_true_eq] at hc
 obtain ⟨⟨h0,hp⟩,⟨⟨⟨⟨⟨⟨hm,hb⟩,hbb⟩,hc1⟩,hok1⟩,hp2⟩,hc2⟩,hok2⟩ := hc
 obtain ⟨m,rfl⟩ : ∃ m,m1 = m + 1 := ⟨m1 - 1,by omega⟩
 rw [Nat.add_sub_cancel] at hp hm hb hbb hc1 hok1 hp2 hc2 hok2
 generalize hσ0 : xKG m (List.range ops.size) = σ at *
 have hsz : (xFv σ ops).size = ops.size := by
  have := xIb (σ := σ) (ops := ops)
  simp only [xJx,Bool.and_eq_true,beq_iff_eq] at hp
  rw [this,hp.1]
 have hlen : aops.length = (xFv σ ops).size := by
  have := (xML hc1).1
  rw [xKQ] at this
  omega
 unfold xTO at hbb
 split at hbb
 case h_2 => cases hbb
 rename_i t v d zs ps e1 e2
 simp only [Bool.and_eq_true,decide_eq_true_eq,Bool.not_eq_true',List.all_eq_true,List.mem_range,bne_iff_ne,ne_eq] at hbb
 obtain ⟨⟨htd,hrd⟩,hdst⟩ := hbb
 have g1 : aops[m] = ⟨some t,.box (.c v),none⟩ := by
  have := (List.getElem?_eq_some_iff.1 e1).2
  exact this
 have g2 : aops[m + 1]'(by omega) = ⟨some d,.build zs ps,none⟩ := (List.getElem?_eq_some_iff.1 e2).2
 have htk : aops.take (m + 1) = aops.take m ++ [⟨some t,.box (.c v),none⟩] := by rw [List.take_succ_eq_append_getElem (by omega),g1]
 have hfree0 := hfree
 rw [htk] at hfree
 obtain ⟨sB,plB,f1,f2,f3,f4,f5⟩ := xKP _ hfree
 have hnd : ∀ v B,some (t,v,B) ∉ plB := by
  intro v B hmem
  obtain ⟨o,h1,h2⟩ := xLQ _ f1 t v B hmem
  obtain ⟨i,hi,rfl⟩ := List.getElem_of_mem h1
  rw [List.length_take] at hi
  refine hdst i (by omega) ?_
  unfold xA5
  rw [List.getElem_take] at h2
  rw [List.getElem?_eq_getElem (by omega),Option.bind_some,h2]
 have hlB := xJy _ _ _ _ f1
 have hl1 := xJy _ _ _ _ hfree0
 have hmixD : ∀ D : Nat → Bool,D m = false → mix (aops.take (m + 1)) D s.F s1.F = mix (aops.take m) D s.F sB.F := by
  intro D hD
  refine xIl (by rw [xGl,xGl]) fun u => ?_
  rw [xJw _ _ _ _ _ hl1,xJw _ _ _ _ _ hlB]
  have hh : hit (aops.take (m + 1)) D u = hit (aops.take m) D u := by
   unfold hit
   rw [Bool.eq_iff_iff]
   simp only [List.any_eq_true,List.mem_range,List.length_take,Bool.and_eq_true,beq_iff_eq]
   constructor
   ·rintro ⟨k,hk,hDk,hu⟩
    have hkm : k ≠ m := by rintro rfl; rw [hD] at hDk; cases hDk
    refine ⟨k,by omega,hDk,?_⟩
    unfold xA5 at hu ⊢
    rw [List.getElem?_take_of_lt (by omega)] at hu ⊢
    exact hu
   ·rintro ⟨k,hk,hDk,hu⟩
    refine ⟨k,by omega,hDk,?_⟩
    unfold xA5 at hu ⊢
    rw [List.getElem?_take_of_lt (by omega)] at hu ⊢
    exact hu
  rw [hh]
  cases hq : hit (aops.take m) D u with
  | false => rfl
  | true =>
   simp only [if_true]
   have hut : u ≠ t := by
    rintro rfl
    unfold hit at hq
    simp only [List.any_eq_true,List.mem_range,List.length_take,Bool.and_eq_true,beq_iff_eq] at hq
    obtain ⟨k,hk,_,hu⟩ := hq
    refine hdst k (by omega) ?_
    unfold xA5 at hu ⊢
    rw [List.getElem?_take_of_lt (by omega)] at hu
    exact hu
   rw [f2,xL6,if_neg (fun q => hut q.1.symm)]
 have hst : xGo [] pl s1 = ⟨(adoptL plB sB).F.set t (.ptr (adoptL plB sB).H.length 0),(adoptL plB sB).H ++ [.cells false false v.cells]⟩ := by
  show adoptL pl s1 = _
  rw [f3,xMB,f2,xMC t _ _ _ _ hnd]
  show St.mk (((adoptL plB sB).F.set t _).set t _) _ = _
  rw [List.set_set]
  rfl
 generalize hA : adoptL plB sB = A at *
 have hd2 := xS3 m aops (by omega)
 have hdr : aops.drop (m + 1) = ⟨some d,.build zs ps,none⟩ :: aops.drop (m + 2) := by rw [List.drop_eq_getElem_cons (by omega),g2]
 rw [hst,hdr] at htail
 have htail2 : xBJ R ((xKG m aops).drop m) (xGo [] plB sB) = some s' := by
  rw [hd2.2,g1,g2]
  show xBJ R _ (adoptL plB sB) = _
  rw [hA]
  simp only [xBJ] at htail ⊢
  have hpv : ∀ p ∈ ps,opv (A.F.set t (.ptr A.H.length 0)) p.2.2 = opv A.F p.2.2 := by
   intro p hp
   refine yCq ?_
   cases hx : p.2.2 with
   | c v => rfl
   | t i =>
    simp only [yCL,bne_iff_ne,ne_eq]
    rintro rfl
    rw [← Bool.not_eq_true] at hrd
    refine hrd (List.contains_iff_mem.2 ?_)
    simp only [AOper.reads,List.mem_append,List.mem_filterMap,AOp.args,List.mem_map]
    exact .inl ⟨_,⟨p,hp,rfl⟩,by rw [hx]; rfl⟩
  have hw : ∀ F : List AV,xH9 F none = some true := fun _ => rfl
  simp only [xEc,hw,xVk,xVl hpv] at htail ⊢
  cases hv : yEg zs ps A.F with
  | none => rw [hv] at htail; cases htail
  | some x =>
   rw [hv] at htail
   have hbx : ∀ F : List AV,xAc R F A.H (.box (.c v)) = some (.ptr A.H.length 0,A.H ++ [.cells false false v.cells]) := fun F => by
    show (if _ then _ else _) = _
    rw [show (opv F (.c v)).cells = v.cells from rfl,if_pos f4]
   simp only [Option.map_some,putA] at htail ⊢
   rw [hbx]
   simp only [Option.map_some]
   rw [List.set_comm _ _ (fun e => htd e.symm)]
   exact htail
 refine wpIn_region_any hmix ?_
 refine xMK hp ops.size (Array.replicate ops.size false) (Array.replicate ops.size false) a _ (by simp) (by simp) (fun i => ?_) ?_
 ·rw [getD_replicate_false,getD_replicate_false]
 have hw1 : Step im io w im io { w with drawn := w.drawn + 1 } := Step.world rfl rfl rfl (Nat.le_refl _) (fun _ _ => rfl)
 refine xZt (s := s) (s1 := s1) (sB := sB) (s' := s') (pl := pl) (plB := plB) (ls := ls) (ds := a.defers) (im0 := im) (io0 := io) (w0 := w) hR hm (fun i h1 h2 => ?_) hc1 hok1 hp2 (xQG hm).1 (xQG hm).2 hc2 hok2 (xVm m aops (by omega)) hls hfree0 f1 (fun i x hi => ?_) hmixD (by rw [hst,hdr]; exact htail) htail2 hQ ops.size _ a _ (by simp [hsz]) (by simp [List.count_replicate,hsz]) (fun d o _ hd => by rw [getD_replicate_false] at hd; cases hd) (fun j _ => getD_replicate_false _ _) ?_
 ·simp only [yGK,List.all_eq_true,List.mem_range,Bool.or_eq_true,Bool.and_eq_true,decide_eq_true_eq] at hb
  rcases hb i h2 with q | ⟨q1,q2⟩
  ·omega
  ·exact xIa _ _ _ _ q1
 ·rw [f3,List.getElem?_append_left (List.getElem?_eq_some_iff.1 hi).1]
  exact hi
 ·refine ⟨im,io,hw1,rfl,fun j _ _ => getD_replicate_false _ _,hS.world (Nat.le_refl _) (fun _ _ => rfl),?_,⟨fun _ => [],fun i t v B _ hD => (by have hD' : (Array.replicate ops.size false).getD i false = true := hD; rw [getD_replicate_false] at hD'; cases hD'),fun i j x y k k' b z z' _ _ _ hD => (by have hD' : (Array.replicate ops.size false).getD i false = true := hD; rw [getD_replicate_false] at hD'; cases hD')⟩,fun d q i _ _ _ _ _ hD => (by have hD' : (Array.replicate ops.size false).getD i false = true := hD; rw [getD_replicate_false] at hD'; cases hD'),fun d q i j p _ _ _ hD => (by have hD' : (Array.replicate ops.size false).getD i false = true := hD; rw [getD_replicate_false] at hD'; cases hD')⟩
  have : mix (aops.take (m + 1)) (fun k => (Array.replicate ops.size false).getD k false) s.F s1.F = s.F := by
   refine xIl (by rw [xGl]) (fun t => ?_)
   rw [xJw _ _ _ _ _ hl1,if_neg]
   simp only [hit,List.any_eq_true,List.mem_range,Bool.and_eq_true,not_exists,not_and]
   intro d _ hd
   rw [getD_replicate_false] at hd
   cases hd
  rw [this]
  exact hF
end
end Go.Abs
