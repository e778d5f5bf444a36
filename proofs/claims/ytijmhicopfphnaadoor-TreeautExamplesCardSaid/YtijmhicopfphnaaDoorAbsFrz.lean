/- Reading out,freezing,new blocks. -/
import Derived.Test.YtijmhicopfphnaaDoorAbsRep
namespace Go.Abs
set_option linter.unusedVariables false
set_option linter.unusedSimpArgs false
open Go.RowKit
theorem xIV {α β : Type} {f : α → Option β} : ∀ {l : List α} {l' : List β},l.mapM f = some l' →
  l'.length = l.length ∧ ∀ (i : Nat) (x : α),l[i]? = some x → ∃ y,l'[i]? = some y ∧ f x = some y
 | [],l',h => by
  simp at h; subst h; exact ⟨rfl,fun i x hx => by simp at hx⟩
 | a :: l,l',h => by
  rw [List.mapM_cons] at h
  cases ha : f a with
  | none => simp [ha] at h
  | some b =>
   cases hl : l.mapM f with
   | none => simp [ha,hl] at h
   | some bs =>
    simp [ha,hl] at h
    subst h
    obtain ⟨h1,h2⟩ := xIV hl
    refine ⟨by simp [h1],fun i x hx => ?_⟩
    cases i with
    | zero => simp at hx; subst hx; exact ⟨b,by simp,ha⟩
    | succ i => simp at hx; simpa using h2 i x hx
theorem xLq {d : Nat} {H : Heap} {v v' : AV} (h : frz d H v = some v') (hv : v.isCell = true) : v'.isCell = true := by
 cases v <;> simp [AV.isCell] at hv
 all_goals try (cases d <;> simp [frz] at h <;> subst h <;> rfl)
 case own z id off n es =>
  cases d with
  | zero => simp [frz] at h
  | succ d =>
   simp only [frz] at h
   split at h
   ·split at h
    ·simp only [Option.map_eq_some_iff] at h
     obtain ⟨cs',_,rfl⟩ := h
     rfl
    ·cases h
   ·cases h
 case func f caps => cases caps <;> cases d <;> simp [frz] at h <;> subst h <;> rfl
 case ptr id off =>
  cases d with
  | zero => simp [frz] at h
  | succ d =>
   simp only [frz] at h
   split at h
   ·simp only [Option.map_eq_some_iff] at h
    obtain ⟨cs',_,rfl⟩ := h
    rfl
   ·cases h
def Covers (im' : Im) (io : Io) (H : Heap) (w : World) (ids : List Nat) : Prop := ∀ id,id ∈ ids → ∀ fz z cs,H[id]? = some (.cells fz z cs) → ∀ b sz,io id = some (b,sz) → im' b = w.heap[b]?
theorem Covers.sub {im' : Im} {io : Io} {H : Heap} {w : World} {ids ids' : List Nat} (h : Covers im' io H w ids) (hs : ∀ i,i ∈ ids' → i ∈ ids) : Covers im' io H w ids' := fun i hi => h i (hs i hi)
theorem xLT {chk : Code → ACode → Bool} {im im' : Im} {io : Io} {H : Heap} {w : World} (hs : Sim chk im io H w) (him : ImLe im im') :
  ∀ (d : Nat) (v v' : AV) (x : Value),frz d H v = some v' → Rep im io v x → Covers im' io H w (bor d H v) → Rep im' xKI v' x := by
 intro d
 induction d with
 | zero =>
  intro v v' x h hr hc0
  cases v <;> (try simp [frz] at h)
  all_goals try subst h
  case any => exact .any _
  case int => cases hr; exact .int
  case bool => cases hr; exact .bool
  case str => cases hr; exact .str
  case nilp => cases hr; exact .nilp
  case nilf => cases hr; exact .nilf
  case vptr cs off =>
   cases hr with
   | vptr h1 h2 h3 h4 => exact .vptr (h1.mono him) h2 (fun i c v a b => (h3 i c v a b).mono him (IoLe.refl _)) h4
  case sl => 
   cases hr with
   | slz => exact .slz
   | sl h1 h2 h3 h4 h5 => exact .sl (h1.mono him) h2 h3 (fun i c v a b => (h4 i c v a b).mono him (IoLe.refl _)) h5
   | sl0 => exact .sl0
  case func f caps =>
   cases caps with
   | nil => simp only [frz] at h; cases h; cases hr with | func h1 h2 => exact .func h1 (fun i c v a => by simp at a)
   | cons => simp only [frz] at h; cases h
 | succ d ih =>
  intro v v' x h hr hc
  have many : ∀ {cs cs' : List AV} {vs : List Value},cs.mapM (frz d H) = some cs' → Reps im io cs vs → Covers im' io H w (cs.flatMap (bor d H)) → Reps im' xKI cs' vs := by
   intro cs cs' vs hm hrs hcov
   obtain ⟨h1,h2⟩ := xIV hm
   refine ⟨by rw [hrs.1,h1],fun i c' y hc' hy => ?_⟩
   have hi : i < cs.length := by have := (List.getElem?_eq_some_iff.1 hc').1; omega
   obtain ⟨y',e1,e2⟩ := h2 i cs[i] (List.getElem?_eq_getElem hi)
   rw [hc'] at e1; cases e1
   refine ih cs[i] c' y e2 (hrs.2 i _ _ (List.getElem?_eq_getElem hi) hy) (hcov.sub fun j hj => ?_)
   exact List.mem_flatMap.2 ⟨cs[i],List.getElem_mem hi,hj⟩
  cases v <;> (try simp only [frz] at h)
  all_goals try (cases h; done)
  case any => cases h; exact .any _
  case int => cases h; cases hr; exact .int
  case bool => cases h; cases hr; exact .bool
  case str => cases h; cases hr; exact .str
  case nilp => cases h; cases hr; exact .nilp
  case nilf => cases h; cases hr; exact .nilf
  case vptr cs off =>
   cases h
   cases hr with
   | vptr h1 h2 h3 h4 => exact .vptr (h1.mono him) h2 (fun i c v a b => (h3 i c v a b).mono him (IoLe.refl _)) h4
  case ptr id off =>
   split at h
   case h_2 => cases h
   rename_i fz z' cs hH
   simp only [Option.map_eq_some_iff] at h
   obtain ⟨cs',hm,rfl⟩ := h
   have hb := hs.blk id _ hH
   cases hr with
   | ptr hio =>
    rename_i b sz
    rcases hb with ⟨_,h0,_⟩ | ⟨_,b',c,t,fr,_,h1,h2,h3,h4⟩
    ·rw [hio] at h0; cases h0
    ·rw [hio] at h1
     cases h1
     have hcov : im' b = some (.cells c t fr) := (hc id (by simp [bor]) _ _ _ hH b _ hio).trans h2
     have hlen : cs.length ≤ c.size := by
      rcases Nat.lt_or_ge c.size cs.length with hlt | hge
      ·obtain ⟨v,hv,_⟩ := h4 c.size cs[c.size] (List.getElem?_eq_getElem hlt)
       simp at hv
      ·exact hge
     have hrs : Reps im io cs (c.toList.take cs.length) := by
      refine ⟨by simp [hlen],fun i a y ha hy => ?_⟩
      obtain ⟨y',hy',hr',_⟩ := h4 i a ha
      have hi : i < cs.length := (List.getElem?_eq_some_iff.1 ha).1
      rw [List.getElem?_take_of_lt hi,Array.getElem?_toList,hy'] at hy
      cases hy; exact hr'
     have hr3 := many hm hrs (hc.sub fun j hj => by simp only [bor,hH]; exact List.mem_cons_of_mem _ hj)
     have hrow : RowAt im' b 0 (c.toList.take cs.length) := ⟨c,t,fr,hcov,fun i y hy => by
      by_cases hi : i < cs.length
      ·rw [List.getElem?_take_of_lt hi,Array.getElem?_toList] at hy
       rw [Nat.zero_add]; exact hy
      ·rw [List.getElem?_take_eq_none (by omega)] at hy; cases hy⟩
     have := Rep.vptr (io := xKI) (off := off) hrow hr3.1 hr3.2 (fun a ha => by
      obtain ⟨i,hi,e⟩ := List.mem_iff_getElem.1 ha
      obtain ⟨g1,g2⟩ := xIV hm
      have hi' : i < cs.length := by omega
      obtain ⟨y,e1,e2⟩ := g2 i _ (List.getElem?_eq_getElem hi')
      rw [List.getElem?_eq_getElem hi,e] at e1; cases e1
      refine xLq e2 ?_
      obtain ⟨_,_,_,hk⟩ := h4 i _ (List.getElem?_eq_getElem hi')
      exact hk)
     rw [Nat.zero_add] at this
     exact this
  case sl =>
   cases h
   cases hr with
   | slz => exact .slz
   | sl h1 h2 h3 h4 h5 => exact .sl (h1.mono him) h2 h3 (fun i c v a b => (h4 i c v a b).mono him (IoLe.refl _)) h5
   | sl0 => exact .sl0
  case func f caps =>
   cases caps with
   | nil => simp only [frz] at h; cases h; cases hr with | func h1 h2 => exact .func h1 (fun i c v a => by simp at a)
   | cons => simp only [frz] at h; cases h
  case agg cs =>
   simp only [Option.map_eq_some_iff] at h
   obtain ⟨cs',hm,rfl⟩ := h
   cases hr with
   | agg h1 h2 h3 =>
    have := many hm ⟨h1,h2⟩ (by simpa [bor] using hc)
    refine .agg this.1 this.2 (fun c hcm => ?_)
    obtain ⟨i,hi,e⟩ := List.mem_iff_getElem.1 hcm
    obtain ⟨g1,g2⟩ := xIV hm
    have hi' : i < cs.length := by omega
    obtain ⟨y,e1,e2⟩ := g2 i cs[i] (List.getElem?_eq_getElem hi')
    rw [List.getElem?_eq_getElem hi,e] at e1; cases e1
    exact xLq e2 (h3 _ (List.getElem_mem hi'))
  case tup cs =>
   simp only [Option.map_eq_some_iff] at h
   obtain ⟨cs',hm,rfl⟩ := h
   cases hr with
   | tup h1 h2 =>
    have := many hm ⟨h1,h2⟩ (by simpa [bor] using hc)
    exact .tup this.1 this.2
  case own z id off n es =>
   split at h
   ·rename_i fz z' cs hH
    split at h
    ·rename_i hle
     simp only [Option.map_eq_some_iff] at h
     obtain ⟨cs',hm,rfl⟩ := h
     have hb := hs.blk id _ hH
     cases hr with
     | ownz =>
      have : cs' = [] := by simpa using hm
      subst this
      exact .slz
     | own0 =>
      have : cs' = [] := by simpa using hm
      subst this
      exact .sl0
     | own hio hcap hsz =>
      rename_i b sz cap
      rcases hb with ⟨_,h0,_⟩ | ⟨_,b',c,t,fr,_,h1,h2,h3,h4⟩
      ·rw [hio] at h0; cases h0
      ·rw [hio] at h1
       cases h1
       have hcov : im' b = some (.cells c t fr) := (hc id (by simp [bor]) _ _ _ hH b _ hio).trans h2
       have hlen : cs.length ≤ c.size := by
        rcases Nat.lt_or_ge c.size cs.length with hlt | hge
        ·obtain ⟨v,hv,_⟩ := h4 c.size cs[c.size] (List.getElem?_eq_getElem hlt)
         simp at hv
        ·exact hge
       have hrs : Reps im io cs (c.toList.take cs.length) := by
        refine ⟨by simp [hlen],fun i a y ha hy => ?_⟩
        obtain ⟨y',hy',hr',_⟩ := h4 i a ha
        have hi : i < cs.length := (List.getElem?_eq_some_iff.1 ha).1
        rw [List.getElem?_take_of_lt hi,Array.getElem?_toList,hy'] at hy
        cases hy; exact hr'
       have hrs2 := (hrs.drop off).take (n * es)
       have hr3 := many hm hrs2 (hc.sub fun j hj => by simp only [bor,hH]; exact List.mem_cons_of_mem _ hj)
       refine .sl (vs := ((c.toList.take cs.length).drop off).take (n * es)) ⟨c,t,fr,hcov,fun i y hy => ?_⟩ hr3.1 hcap hr3.2 (fun a ha => ?_)
       ·by_cases hi : i < n * es
        ·rw [List.getElem?_take_of_lt hi,List.getElem?_drop] at hy
         by_cases hi2 : off + i < cs.length
         ·rw [List.getElem?_take_of_lt hi2,Array.getElem?_toList] at hy; exact hy
         ·rw [List.getElem?_take_eq_none (by omega)] at hy; cases hy
        ·rw [List.getElem?_take_eq_none (by omega)] at hy; cases hy
       ·obtain ⟨i,hi,e⟩ := List.mem_iff_getElem.1 ha
        obtain ⟨g1,g2⟩ := xIV hm
        have hi' : i < ((cs.drop off).take (n * es)).length := by omega
        obtain ⟨y,e1,e2⟩ := g2 i _ (List.getElem?_eq_getElem hi')
        rw [List.getElem?_eq_getElem hi,e] at e1; cases e1
        refine xLq e2 ?_
        have hmem : ((cs.drop off).take (n * es))[i] ∈ cs := List.mem_of_mem_drop (List.mem_of_mem_take (List.getElem_mem hi'))
        obtain ⟨j,hj,ej⟩ := List.mem_iff_getElem.1 hmem
        obtain ⟨_,_,_,hk⟩ := h4 j _ (List.getElem?_eq_getElem hj)
        rw [ej] at hk; exact hk
    ·cases h
   ·cases h
theorem xZJ {chk : Code → ACode → Bool} {im im' : Im} {io : Io} {H : Heap} {w : World} (hs : Sim chk im io H w) (him : ImLe im im')
  (v v' : AV) (x : Value) (h : yBu H v = some v') (hr : Rep im io v x) (hc : Covers im' io H w (yEi H v)) : Rep im' xKI v' x := by
 cases v
 case func f caps =>
  simp only [yBu,Option.map_eq_some_iff] at h
  obtain ⟨caps',hm,rfl⟩ := h
  obtain ⟨h1,h2⟩ := xIV hm
  cases hr with
  | func hl hcc =>
   refine .func (by rw [hl,h1]) fun i c' y hc' hy => ?_
   have hi : i < caps.length := by have := (List.getElem?_eq_some_iff.1 hc').1; omega
   obtain ⟨y',e1,e2⟩ := h2 i caps[i] (List.getElem?_eq_getElem hi)
   rw [hc'] at e1; cases e1
   exact xLT hs him frzN caps[i] c' y e2 (hcc i _ _ (List.getElem?_eq_getElem hi) hy) (hc.sub fun j hj => List.mem_flatMap.2 ⟨caps[i],List.getElem_mem hi,hj⟩)
 all_goals exact xLT hs him frzN _ v' x h hr hc
def upd {α : Type} (f : Nat → Option α) (i : Nat) (x : α) : Nat → Option α := fun j => if j = i then some x else f j
theorem xGm {α : Type} (f : Nat → Option α) (i : Nat) (x : α) : upd f i x i = some x := by simp [upd]
theorem xDU {α : Type} (f : Nat → Option α) {i j : Nat} (x : α) (h : j ≠ i) : upd f i x j = f j := by simp [upd,h]
theorem BlkOk.mono {im im' : Im} {io io' : Io} {w w' : World} {chk : Code → ACode → Bool} {id : Nat} {blk : Blk} (h : BlkOk im io w chk id blk) (him : ImLe im im') (hio : IoLe io io')
  (hn : io id = none → io' id = none) (hb : ∀ b sz,io id = some (b,sz) → blk ≠ .dead → w'.heap[b]? = w.heap[b]? ∧ (im b = none → im' b = none)) : BlkOk im' io' w' chk id blk := by
 cases blk with
 | dead => trivial
 | cells fz z cs =>
  rcases h with ⟨h1,h2,h3⟩ | ⟨h1,b,c,t,fr,hfr,h2,h3,h4,h5⟩
  ·exact .inl ⟨h1,hn h2,h3⟩
  ·obtain ⟨g1,g2⟩ := hb b _ h2 (by simp)
   refine .inr ⟨h1,b,c,t,fr,hfr,hio _ _ h2,by rw [g1]; exact h3,?_,fun i cv hcv => ?_⟩
   ·cases fz with
    | false => exact g2 h4
    | true => exact him _ _ h4
   ·obtain ⟨v,e1,e2,e3⟩ := h5 i cv hcv
    exact ⟨v,e1,e2.mono him hio,e3⟩
 | mp es =>
  obtain ⟨b,m,clk,h1,h2,h3,h4,h5,h6⟩ := h
  obtain ⟨g1,g2⟩ := hb b _ h1 (by simp)
  refine ⟨b,m,clk,hio _ _ h1,g2 h2,by rw [g1]; exact h3,h4,fun i e he => ?_,h6⟩
  obtain ⟨x,e1,e2,e3⟩ := h5 i e he
  exact ⟨x,e1,e2.mono him hio,e3.mono him hio⟩
 | loop st pend F ps asg body =>
  obtain ⟨b,h1,h2,r,h3,h4,h5,h6,h7,h8,h9⟩ := h
  obtain ⟨g1,g2⟩ := hb b _ h1 (by simp)
  exact ⟨b,hio _ _ h1,g2 h2,r,by rw [g1]; exact h3,h4,h5,h6,h7,h8,h9.mono him hio⟩
theorem Sim.world {im : Im} {io : Io} {H : Heap} {w w' : World} {chk : Code → ACode → Bool} (h : Sim chk im io H w) (hsz : w.heap.size ≤ w'.heap.size) (hb : ∀ b,b < w.heap.size → w'.heap[b]? = w.heap[b]?) : Sim chk im io H w' where
 fresh := h.fresh
 blk id b hH := (h.blk id b hH).mono (.refl _) (.refl _) (fun e => e) (fun b sz hio _ => ⟨hb b (h.inb b ⟨id,sz,hio⟩),fun e => e⟩)
 inj := h.inj
 imw b o hi := by
  have := h.imw b o hi
  rw [hb b (Array.getElem?_eq_some_iff.1 this).1]; exact this
 inb b ho := Nat.lt_of_lt_of_le (h.inb b ho) hsz
 glob := h.glob
theorem Step.world {im : Im} {io : Io} {w w' : World} (hos : w'.os = w.os) (ht : w'.tape = w.tape) (ho : w'.output = w.output) (hsz : w.heap.size ≤ w'.heap.size) (hb : ∀ b,b < w.heap.size → w'.heap[b]? = w.heap[b]?) : Step im io w im io w' :=
 ⟨.refl _,.refl _,hos,ht,ho,hsz,fun b h1 _ => hb b h1,fun _ h => .inl h,fun _ _ h => .inl h⟩
structure Pushed (w w' : World) (o : Obj) : Prop where
 os : w'.os = w.os
 tape : w'.tape = w.tape
 output : w'.output = w.output
 heap : w'.heap = w.heap.push o
theorem Pushed.size {w w' : World} {o : Obj} (h : Pushed w w' o) : w'.heap.size = w.heap.size + 1 := by rw [h.heap]; simp
theorem Pushed.old {w w' : World} {o : Obj} (h : Pushed w w' o) {b : Nat} (hb : b < w.heap.size) : w'.heap[b]? = w.heap[b]? := by
 rw [h.heap,Array.getElem?_push,if_neg (by omega)]
theorem Pushed.new {w w' : World} {o : Obj} (h : Pushed w w' o) : w'.heap[w.heap.size]? = some o := by rw [h.heap]; simp
theorem Pushed.alloc (w : World) (o : Obj) : Pushed w (w.alloc o) o := ⟨rfl,rfl,rfl,rfl⟩
theorem Pushed.drew (w : World) (o : Obj) : Pushed w (w.drew.alloc o) o := ⟨rfl,rfl,rfl,rfl⟩
theorem xZK {im : Im} {io : Io} {H : Heap} {w w' : World} {chk : Code → ACode → Bool} {o : Obj} (h : Sim chk im io H w) (hp : Pushed w w' o) :
  Sim chk (upd im w.heap.size o) io H w' ∧ Step im io w (upd im w.heap.size o) io w' := by
 have hn : im w.heap.size = none := by
  cases e : im w.heap.size with
  | none => rfl
  | some o' => have := (Array.getElem?_eq_some_iff.1 (h.imw _ _ e)).1; omega
 have hle : ImLe im (upd im w.heap.size o) := fun b o' hb => by
  rw [xDU]
  ·exact hb
  ·rintro rfl; rw [hn] at hb; cases hb
 refine ⟨⟨h.fresh,fun id b hH => (h.blk id b hH).mono hle (.refl _) (fun e => e) (fun b sz hio _ => ?_),h.inj,fun b o' hb => ?_,fun b ho => ?_,h.glob.mono hle⟩,⟨hle,.refl _,hp.os,hp.tape,hp.output,by rw [hp.size]; omega,fun b hb _ => hp.old hb,fun _ h => .inl h,fun b o' hb => ?_⟩⟩
 ·have := h.inb b ⟨id,sz,hio⟩
  exact ⟨hp.old this,fun e => by rw [xDU _ _ (by omega)]; exact e⟩
 ·by_cases e : b = w.heap.size
  ·subst e; rw [xGm] at hb; cases hb; exact hp.new
  ·rw [xDU _ _ e] at hb
   have := h.imw b o' hb
   rw [hp.old (Array.getElem?_eq_some_iff.1 this).1]; exact this
 ·have := h.inb b ho; rw [hp.size]; omega
 ·by_cases e : b = w.heap.size
  ·subst e; exact .inr (.inr (Nat.le_refl _))
  ·rw [xDU _ _ e] at hb; exact .inl hb
theorem xMe {im : Im} {io : Io} {H : Heap} {w w' : World} {chk : Code → ACode → Bool} {c : Array Value} {t : TypeId} {cs : List AV} {vs : List Value} {fr : Nat × Nat} (h : Sim chk im io H w) (hp : Pushed w w' (.cells c t fr)) (hfr : yBr c.size fr)
  (hr : Reps im io cs vs) (hk : ∀ c ∈ cs,AV.isCell c = true) (hc : ∀ (i : Nat) (v : Value),vs[i]? = some v → c[i]? = some v) :
  Sim chk im (upd io H.length (w.heap.size,c.size)) (H ++ [.cells false false cs]) w' ∧ Step im io w im (upd io H.length (w.heap.size,c.size)) w' := by
 have hn : io H.length = none := h.fresh _ (Nat.le_refl _)
 have hle : IoLe io (upd io H.length (w.heap.size,c.size)) := fun i x hi => by
  rw [xDU]
  ·exact hi
  ·rintro rfl; rw [hn] at hi; cases hi
 have hown : ∀ b,Own (upd io H.length (w.heap.size,c.size)) b → Own io b ∨ b = w.heap.size := fun b ⟨id,sz,hi⟩ => by
  by_cases e : id = H.length
  ·subst e; rw [xGm] at hi; cases hi; exact .inr rfl
  ·rw [xDU _ _ e] at hi; exact .inl ⟨id,sz,hi⟩
 have him : im w.heap.size = none := by
  cases e : im w.heap.size with
  | none => rfl
  | some o' => have := (Array.getElem?_eq_some_iff.1 (h.imw _ _ e)).1; omega
 refine ⟨⟨fun id hid => ?_,fun id b hH => ?_,fun i j bi bj b si sj hi hj li lj hbi hbj => ?_,fun b o' hb => ?_,fun b ho => ?_,h.glob⟩,
  ⟨.refl _,hle,hp.os,hp.tape,hp.output,by rw [hp.size]; omega,fun b hb _ => hp.old hb,fun b hb => ?_,fun _ _ h => .inl h⟩⟩
 ·simp at hid
  rw [xDU _ _ (by omega)]; exact h.fresh id (by omega)
 ·by_cases e : id < H.length
  ·rw [List.getElem?_append_left e] at hH
   exact (h.blk id b hH).mono (.refl _) hle (fun e' => by rw [xDU _ _ (by omega)]; exact e') (fun b sz hio _ => ⟨hp.old (h.inb b ⟨id,sz,hio⟩),fun e => e⟩)
  ·have e' : id = H.length := by
    have := (List.getElem?_eq_some_iff.1 hH).1
    simp at this; omega
   subst e'
   simp at hH
   subst hH
   refine .inr ⟨rfl,w.heap.size,c,t,fr,hfr,xGm _ _ _,hp.new,him,fun i cv hcv => ?_⟩
   obtain ⟨v,hv,hrv⟩ := hr.get hcv
   exact ⟨v,hc i v hv,hrv.mono (.refl _) hle,hk _ (List.mem_of_getElem? hcv)⟩
 ·have key : ∀ k bk sk,(H ++ [Blk.cells false false cs])[k]? = some bk → upd io H.length (w.heap.size,c.size) k = some (b,sk) → (k < H.length ∧ H[k]? = some bk ∧ io k = some (b,sk)) ∨ (k = H.length ∧ b = w.heap.size) := by
   intro k bk sk hk' hbk
   by_cases e : k < H.length
   ·rw [List.getElem?_append_left e] at hk'
    rw [xDU _ _ (by omega)] at hbk
    exact .inl ⟨e,hk',hbk⟩
   ·have e' : k = H.length := by
     have := (List.getElem?_eq_some_iff.1 hk').1
     simp at this; omega
    subst e'
    rw [xGm] at hbk; cases hbk
    exact .inr ⟨rfl,rfl⟩
  rcases key i bi si hi hbi with ⟨_,h1,h2⟩ | ⟨h1,h2⟩ <;> rcases key j bj sj hj hbj with ⟨_,g1,g2⟩ | ⟨g1,g2⟩
  ·exact h.inj i j bi bj b si sj h1 g1 li lj h2 g2
  ·have := h.inb b ⟨i,si,h2⟩; omega
  ·have := h.inb b ⟨j,sj,g2⟩; omega
  ·omega
 ·have := h.imw b o' hb
  rw [hp.old (Array.getElem?_eq_some_iff.1 this).1]; exact this
 ·rw [hp.size]
  rcases hown b ho with h1 | h1
  ·have := h.inb b h1; omega
  ·omega
 ·rcases hown b hb with h1 | h1
  ·exact .inl h1
  ·exact .inr (by omega)
theorem xWJ {im : Im} {io : Io} {H : Heap} {w : World} {chk : Code → ACode → Bool} (h : Sim chk im io H w) : Sim chk im io (H ++ [.cells false true []]) w where
 fresh id hid := h.fresh id (by simp at hid; omega)
 blk id b hH := by
  by_cases e : id < H.length
  ·rw [List.getElem?_append_left e] at hH; exact h.blk id b hH
  ·have e' : id = H.length := by
    have := (List.getElem?_eq_some_iff.1 hH).1
    simp at this; omega
   subst e'
   simp at hH
   subst hH
   exact .inl ⟨rfl,h.fresh _ (Nat.le_refl _),rfl⟩
 inj i j bi bj b si sj hi hj li lj hbi hbj := by
  have key : ∀ k bk sk,(H ++ [Blk.cells false true []])[k]? = some bk → io k = some (b,sk) → H[k]? = some bk := by
   intro k bk sk hk hbk
   by_cases e : k < H.length
   ·rw [List.getElem?_append_left e] at hk; exact hk
   ·rw [h.fresh k (by omega)] at hbk; cases hbk
  exact h.inj i j bi bj b si sj (key i bi si hi hbi) (key j bj sj hj hbj) li lj hbi hbj
 imw := h.imw
 inb := h.inb
 glob := h.glob
theorem Sim.kill {im : Im} {io : Io} {H : Heap} {w : World} {chk : Code → ACode → Bool} (h : Sim chk im io H w) (i : Nat) : Sim chk im io (H.set i .dead) w where
 fresh id hid := h.fresh id (by simpa using hid)
 blk id b hH := by
  rw [List.getElem?_set] at hH
  split at hH
  ·split at hH
   ·cases hH; trivial
   ·cases hH
  ·exact h.blk id b hH
 inj j k bj bk b sj sk hj hk lj lk hbj hbk := by
  rw [List.getElem?_set] at hj hk
  split at hj
  ·split at hj
   ·cases hj; cases lj
   ·cases hj
  ·split at hk
   ·split at hk
    ·cases hk; cases lk
    ·cases hk
   ·exact h.inj j k bj bk b sj sk hj hk lj lk hbj hbk
 imw := h.imw
 inb := h.inb
 glob := h.glob
theorem fz1 {im : Im} {io : Io} {H : Heap} {w : World} {chk : Code → ACode → Bool} (h : Sim chk im io H w) (i : Nat) :
  ∃ im',ImLe im im' ∧ Sim chk im' io (H.modify i xGg) w ∧ (∀ b o,im' b = some o → im b = some o ∨ Own io b) ∧ Covers im' io H w [i] := by
 have base : (∀ fz z cs,H[i]? = some (.cells fz z cs) → fz = true ∨ io i = none) → (∃ im',ImLe im im' ∧ Sim chk im' io (H.modify i xGg) w ∧ (∀ b o,im' b = some o → im b = some o ∨ Own io b) ∧ Covers im' io H w [i]) := by
  intro hno
  refine ⟨im,.refl _,⟨fun id hid => h.fresh id (by simpa using hid),fun id b hH => ?_,fun j k bj bk b sj sk hj hk lj lk hbj hbk => ?_,h.imw,h.inb,h.glob⟩,fun _ _ e => .inl e,?_⟩
  ·rw [List.getElem?_modify] at hH
   by_cases e : i = id
   ·subst e
    simp only [if_pos rfl] at hH
    simp only [if_true] at hH
    cases e2 : H[i]? with
    | none => rw [e2] at hH; cases hH
    | some b0 =>
     rw [e2] at hH
     cases hH
     have := h.blk i b0 e2
     cases b0 with
     | dead => exact this
     | mp => exact this
     | loop => exact this
     | cells fz z cs =>
      rcases hno fz z cs e2 with hf | hf
      ·subst hf; exact this
      ·rcases this with h1 | ⟨_,b,c,t,fr,_,h2,_⟩
       ·exact .inl h1
       ·rw [hf] at h2; cases h2
   ·simp only [if_neg e] at hH
    cases e2 : H[id]? with
    | none => rw [e2] at hH; cases hH
    | some b0 => rw [e2] at hH; cases hH; exact h.blk id _ e2
  ·have key : ∀ (k : Nat) (bk : Blk),(H.modify i xGg)[k]? = some bk → bk.live = true → ∃ bk' : Blk,H[k]? = some bk' ∧ bk'.live = true := by
    intro k bk hk' lk'
    rw [List.getElem?_modify] at hk'
    cases e2 : H[k]? with
    | none => rw [e2] at hk'; cases hk'
    | some b0 =>
     rw [e2] at hk'
     cases hk'
     refine ⟨b0,rfl,?_⟩
     split at lk'
     ·cases b0 <;> simp_all [xGg,Blk.live]
     ·exact lk'
   obtain ⟨bj',e1,e2⟩ := key j bj hj lj
   obtain ⟨bk',e3,e4⟩ := key k bk hk lk
   exact h.inj j k bj' bk' b sj sk e1 e3 e2 e4 hbj hbk
  ·intro id hid fz z cs hH b sz hio
   simp at hid; subst hid
   rcases hno fz z cs hH with hf | hf
   ·subst hf
    rcases h.blk id _ hH with ⟨_,h1,_⟩ | ⟨_,b',c,t,fr,_,h2,h3,h4,_⟩
    ·rw [hio] at h1; cases h1
    ·rw [hio] at h2; cases h2; rw [h3]; exact h4
   ·rw [hio] at hf; cases hf
 cases e : H[i]? with
 | none => exact base (fun fz z cs hH => by rw [e] at hH; cases hH)
 | some b0 =>
  cases b0 with
  | dead => exact base (fun fz z cs hH => by rw [e] at hH; cases hH)
  | mp => exact base (fun fz z cs hH => by rw [e] at hH; cases hH)
  | loop => exact base (fun fz z cs hH => by rw [e] at hH; cases hH)
  | cells fz z cs =>
   cases fz with
   | true => exact base (fun fz z cs hH => by rw [e] at hH; cases hH; exact .inl rfl)
   | false =>
    rcases h.blk i _ e with ⟨_,h1,_⟩ | ⟨hz,b,c,t,fr,hfr,h2,h3,h4,h5⟩
    ·exact base (fun fz z cs hH => .inr h1)
    ·have h4 : im b = none := h4
     have hle : ImLe im (upd im b (.cells c t fr)) := fun b' o hb' => by
      rw [xDU]
      ·exact hb'
      ·rintro rfl; rw [h4] at hb'; cases hb'
     refine ⟨upd im b (.cells c t fr),hle,⟨fun id hid => h.fresh id (by simpa using hid),fun id b1 hH => ?_,fun j k bj bk b' sj sk hj hk lj lk hbj hbk => ?_,fun b' o hb' => ?_,h.inb,h.glob.mono hle⟩,fun b' o hb' => ?_,?_⟩
     ·rw [List.getElem?_modify] at hH
      by_cases e1 : i = id
      ·subst e1
       rw [e] at hH
       simp only [if_true] at hH
       cases hH
       refine .inr ⟨hz,b,c,t,fr,hfr,h2,h3,xGm _ _ _,fun j cv hcv => ?_⟩
       obtain ⟨v,g1,g2,g3⟩ := h5 j cv hcv
       exact ⟨v,g1,g2.mono hle (.refl _),g3⟩
      ·simp only [if_neg e1] at hH
       cases e2 : H[id]? with
       | none => rw [e2] at hH; cases hH
       | some b0 =>
        rw [e2] at hH; cases hH
        have hold := h.blk id _ e2
        cases b0 with
        | dead => trivial
        | cells fz' z' cs' =>
         rcases hold with k1 | ⟨k1,b2,c2,t2,fr2,hfr2,k2,k3,k4,k5⟩
         ·exact .inl k1
         ·refine .inr ⟨k1,b2,c2,t2,fr2,hfr2,k2,k3,?_,fun j cv hcv => ?_⟩
          ·cases fz' with
           | true => exact hle _ _ k4
           | false =>
            have hne : b2 ≠ b := fun heq => e1 (h.inj i id _ _ b _ _ e e2 rfl rfl h2 (heq ▸ k2))
            simp only [Bool.false_eq_true,if_false] at k4 ⊢
            rw [xDU _ _ hne]; exact k4
          ·obtain ⟨v,g1,g2,g3⟩ := k5 j cv hcv
           exact ⟨v,g1,g2.mono hle (.refl _),g3⟩
        | mp es =>
         refine hold.mono hle (.refl _) (fun e => e) (fun b2 sz2 k2 _ => ⟨rfl,fun k4 => ?_⟩)
         have hne : b2 ≠ b := fun heq => e1 (h.inj i id _ _ b _ _ e e2 rfl rfl h2 (heq ▸ k2))
         rw [xDU _ _ hne]; exact k4
        | loop st pend F ps asg body =>
         refine hold.mono hle (.refl _) (fun e => e) (fun b2 sz2 k2 _ => ⟨rfl,fun k4 => ?_⟩)
         have hne : b2 ≠ b := fun heq => e1 (h.inj i id _ _ b _ _ e e2 rfl rfl h2 (heq ▸ k2))
         rw [xDU _ _ hne]; exact k4
     ·have key : ∀ (k : Nat) (bk : Blk),(H.modify i xGg)[k]? = some bk → bk.live = true → ∃ bk' : Blk,H[k]? = some bk' ∧ bk'.live = true := by
       intro k bk hk' lk'
       rw [List.getElem?_modify] at hk'
       cases e2 : H[k]? with
       | none => rw [e2] at hk'; cases hk'
       | some b0 =>
        rw [e2] at hk'
        cases hk'
        refine ⟨b0,rfl,?_⟩
        split at lk'
        ·cases b0 <;> simp_all [xGg,Blk.live]
        ·exact lk'
      obtain ⟨bj',e1,e2⟩ := key j bj hj lj
      obtain ⟨bk',e3,e4⟩ := key k bk hk lk
      exact h.inj j k bj' bk' b' sj sk e1 e3 e2 e4 hbj hbk
     ·by_cases e1 : b' = b
      ·subst e1; rw [xGm] at hb'; cases hb'; exact h3
      ·rw [xDU _ _ e1] at hb'; exact h.imw _ _ hb'
     ·by_cases e1 : b' = b
      ·subst e1; exact .inr ⟨i,_,h2⟩
      ·rw [xDU _ _ e1] at hb'; exact .inl hb'
     ·intro id hid fz z cs hH b' sz hio
      simp at hid; subst hid
      rw [h2] at hio; cases hio
      rw [xGm,h3]
theorem xVD {io : Io} {w : World} {chk : Code → ACode → Bool} : ∀ (ids : List Nat) {im : Im} {H : Heap},Sim chk im io H w →
  ∃ im',ImLe im im' ∧ Sim chk im' io (fzIds H ids) w ∧ (∀ b o,im' b = some o → im b = some o ∨ Own io b) ∧ Covers im' io H w ids
 | [],im,H,h => ⟨im,.refl _,h,fun _ _ e => .inl e,fun _ hid => by cases hid⟩
 | i :: ids,im,H,h => by
  obtain ⟨im1,a1,a2,a3,a4⟩ := fz1 h i
  obtain ⟨im2,b1,b2,b3,b4⟩ := xVD ids a2
  refine ⟨im2,a1.trans b1,b2,fun b o hb => ?_,fun id hid fz z cs hH b sz hio => ?_⟩
  ·rcases b3 b o hb with h1 | h1
   ·exact a3 b o h1
   ·exact .inr h1
  ·rcases List.mem_cons.1 hid with e | e
   ·subst e
    have h1 := a4 id (List.mem_singleton.2 rfl) fz z cs hH b sz hio
    have hlt := h.inb b ⟨id,sz,hio⟩
    rw [Array.getElem?_eq_getElem hlt] at h1 ⊢
    exact b1 _ _ h1
   ·by_cases e1 : i = id
    ·exact b4 id e true z cs (by rw [List.getElem?_modify,hH]; simp [e1,xGg]) b sz hio
    ·exact b4 id e fz z cs (by rw [List.getElem?_modify,hH]; simp [e1]) b sz hio
theorem Step.fz {im im' : Im} {io : Io} {w : World} (h1 : ImLe im im') (h2 : ∀ b o,im' b = some o → im b = some o ∨ Own io b) : Step im io w im' io w :=
 ⟨h1,.refl _,rfl,rfl,rfl,Nat.le_refl _,fun _ _ _ => rfl,fun _ h => .inl h,fun b o h => (h2 b o h).elim .inl (fun x => .inr (.inl x))⟩
end Go.Abs
