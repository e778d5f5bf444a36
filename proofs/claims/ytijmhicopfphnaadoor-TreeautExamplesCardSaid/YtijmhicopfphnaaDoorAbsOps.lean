/- The operations: what the interpreter says of one is what the model does. -/
import Derived.Test.YtijmhicopfphnaaDoorAbsFrz
namespace Go.Abs
set_option linter.unusedVariables false
set_option linter.unusedSimpArgs false
open Go.RowKit
def yFH : Value → AV → Bool
 | .int k n,.int k' m => k == k' && n == m
 | .bool a,.bool b => a == b
 | .string s,.str s' => decide (s = s')
 | .slice none 0 0,.sl true 0 [] => true
 | .nilFunc,.nilf => true
 | .pointer none,.nilp => true
 | .map none,.nilm => true
 | _,_ => false
def xLF (vs : List Value) (cs : List AV) : Bool := vs.length == cs.length && (vs.zip cs).all fun p => yFH p.1 p.2
def cst : Value → AV → Bool
 | .agg vs,.agg cs => xLF vs.toList cs
 | v,c => yFH v c
def xBq : Operand → Arg → Bool
 | .tmp t,.t i => t == i
 | .const v,.c av => cst v av
 | .func f,.c (.func g []) => f == g
 | _,_ => false
def xJ1 (xs : List Operand) (ys : List Arg) : Bool := xs.length == ys.length && (xs.zip ys).all fun p => xBq p.1 p.2
def xLG : Option Operand → Option Arg → Bool
 | none,none => true
 | some x,some y => xBq x y
 | _,_ => false
theorem xT1 {im : Im} {io : Io} {v : Value} {c : AV} (h : yFH v c = true) : Rep im io c v ∧ c.isCell = true := by
 unfold yFH at h
 split at h
 ·simp at h; obtain ⟨rfl,rfl⟩ := h; exact ⟨.int,rfl⟩
 ·simp at h; subst h; exact ⟨.bool,rfl⟩
 ·simp at h; subst h; exact ⟨.str,rfl⟩
 ·exact ⟨.slz,rfl⟩
 ·exact ⟨.nilf,rfl⟩
 ·exact ⟨.nilp,rfl⟩
 ·exact ⟨.nilm,rfl⟩
 ·cases h
theorem xJt {im : Im} {io : Io} : ∀ {vs : List Value} {cs : List AV},xLF vs cs = true → Reps im io cs vs ∧ ∀ c ∈ cs,AV.isCell c = true
 | [],[],_ => ⟨.nil,fun _ h => by cases h⟩
 | [],_ :: _,h => by simp [xLF] at h
 | _ :: _,[],h => by simp [xLF] at h
 | v :: vs,c :: cs,h => by
  simp only [xLF,List.length_cons,List.zip_cons_cons,List.all_cons,Bool.and_eq_true,beq_iff_eq] at h
  obtain ⟨h1,h2,h3⟩ := h
  obtain ⟨r1,r2⟩ := xT1 (im := im) (io := io) h2
  obtain ⟨s1,s2⟩ := xJt (im := im) (io := io) (vs := vs) (cs := cs) (by simp [xLF,h3]; omega)
  refine ⟨.cons r1 s1,fun a ha => ?_⟩
  rcases List.mem_cons.1 ha with e | e
  ·subst e; exact r2
  ·exact s2 a e
theorem Rep.agg' {im : Im} {io : Io} {cs : List AV} {vs : Array Value} (h : Reps im io cs vs.toList) (hk : ∀ c ∈ cs,AV.isCell c = true) : Rep im io (.agg cs) (.agg vs) := by
 have := Rep.agg (im := im) (io := io) h.1 h.2 hk
 simpa using this
theorem xWF {im : Im} {io : Io} {v : Value} {c : AV} (h : cst v c = true) : Rep im io c v := by
 unfold cst at h
 split at h
 ·obtain ⟨h1,h2⟩ := xJt (im := im) (io := io) h
  exact .agg' h1 h2
 ·exact (xT1 h).1
theorem xAj {im : Im} {io : Io} {F : List AV} {a : Act} {x : Operand} {y : Arg} (h : xBq x y = true) (hF : FRep im io F a) : Rep im io (opv F y) (a.eval x) := by
 unfold xBq at h
 split at h
 ·simp at h; subst h; exact hF.getD _
 ·exact xWF h
 ·simp at h; subst h
  have := Rep.func (im := im) (io := io) (f := ‹FuncId›) (caps := []) (vs := []) rfl (fun i c v h => by simp at h)
  simpa [opv,Act.eval] using this
 ·cases h
theorem xGd {im : Im} {io : Io} {F : List AV} {a : Act} (hF : FRep im io F a) : ∀ {xs : List Operand} {ys : List Arg},xJ1 xs ys = true → Reps im io (ys.map (opv F)) (xs.map a.eval)
 | [],[],_ => .nil
 | [],_ :: _,h => by simp [xJ1] at h
 | _ :: _,[],h => by simp [xJ1] at h
 | x :: xs,y :: ys,h => by
  simp only [xJ1,List.length_cons,List.zip_cons_cons,List.all_cons,Bool.and_eq_true,beq_iff_eq] at h
  obtain ⟨h1,h2,h3⟩ := h
  exact .cons (xAj h2 hF) (xGd hF (by simp [xJ1,h3]; omega))
theorem xWG {im : Im} {io : Io} {c : AV} {v : Value} (h : Rep im io c v) (hk : c.isCell = true) : v.oneCell' = true := by
 cases h <;> first | rfl | simp [AV.isCell] at hk
theorem xNm {im : Im} {io : Io} {cs : List AV} {vs : List Value} (h : Reps im io cs vs) (hk : ∀ c ∈ cs,AV.isCell c = true) : ∀ v ∈ vs,v.oneCell' = true := by
 intro v hv
 obtain ⟨i,hi,e⟩ := List.mem_iff_getElem.1 hv
 have hi' : i < cs.length := by rw [← h.1]; exact hi
 exact xWG (h.2 i cs[i] v (List.getElem?_eq_getElem hi') (by rw [List.getElem?_eq_getElem hi,e])) (hk _ (List.getElem_mem hi'))
theorem xWH {v : Value} (h : v.oneCell' = true) : v.cells = #[v] := by cases v <;> first | rfl | simp [Value.oneCell'] at h
theorem xMb {im : Im} {io : Io} {c : AV} {v : Value} (h : Rep im io c v) (hk : c.cells.all AV.isCell = true) : Reps im io c.cells v.cells.toList := by
 by_cases hc : c.isCell = true
 ·have e1 : c.cells = [c] := by cases c <;> first | rfl | simp [AV.isCell] at hc
  rw [e1,xWH (xWG h hc)]
  exact .cons h .nil
 ·cases c <;> simp [AV.isCell] at hc
  case any => simp [AV.cells,AV.isCell] at hk
  case tup => simp [AV.cells,AV.isCell] at hk
  case agg cs =>
   cases h with
   | agg hl hc _ => exact ⟨by simpa [Value.cells,AV.cells] using hl,fun i c v h1 h2 => hc i c v (by simpa [AV.cells] using h1) (by simpa [Value.cells] using h2)⟩
theorem xH3 {im : Im} {io : Io} {w : World} {chk : Code → ACode → Bool} {id b sz : Nat} {fz z : Bool} {cs : List AV} (h : BlkOk im io w chk id (.cells fz z cs)) (hio : io id = some (b,sz)) :
  z = false ∧ ∃ c t fr,yBr c.size fr ∧ sz = c.size ∧ w.heap[b]? = some (.cells c t fr) ∧ im b = (if fz then some (.cells c t fr) else none) ∧ Reps im io cs (c.toList.take cs.length) ∧ cs.length ≤ c.size ∧ ∀ c ∈ cs,AV.isCell c = true := by
 rcases h with ⟨_,h0,_⟩ | ⟨h1,b',c,t,fr,hfr,h2,h3,h4,h5⟩
 ·rw [hio] at h0; cases h0
 ·rw [hio] at h2; cases h2
  have hlen : cs.length ≤ c.size := by
   rcases Nat.lt_or_ge c.size cs.length with hlt | hge
   ·obtain ⟨v,hv,_⟩ := h5 c.size cs[c.size] (List.getElem?_eq_getElem hlt)
    simp at hv
   ·exact hge
  refine ⟨h1,c,t,fr,hfr,rfl,h3,h4,⟨by simp [hlen],fun i a y ha hy => ?_⟩,hlen,fun a ha => ?_⟩
  ·obtain ⟨y',hy',hr',_⟩ := h5 i a ha
   have hi : i < cs.length := (List.getElem?_eq_some_iff.1 ha).1
   rw [List.getElem?_take_of_lt hi,Array.getElem?_toList,hy'] at hy
   cases hy; exact hr'
  ·obtain ⟨i,hi,e⟩ := List.mem_iff_getElem.1 ha
   obtain ⟨_,_,_,hk⟩ := h5 i a (by rw [List.getElem?_eq_getElem hi,e])
   exact hk
theorem xId {w : World} {b : Nat} {c : Array Value} {t : TypeId} {fr : Nat × Nat} (h : w.heap[b]? = some (.cells c t fr)) (o : Nat) : w.cell? ⟨b,o,none⟩ = c[o]? := by
 simp [World.cell?,h]
def yCD (w : World) (b off : Nat) (vs : List Value) : Prop := ∀ (j : Nat) (v : Value),vs[j]? = some v → w.cell? ⟨b,off + j,none⟩ = some v
theorem xT2 {chk : Code → ACode → Bool} {im : Im} {io : Io} {H : Heap} {w : World} (hs : Sim chk im io H w) {p : AV} {n : Nat} {cs : List AV} {x : Value} (h : rd H p n = some cs) (hr : Rep im io p x) :
  ∃ b off vs,x = .pointer (some ⟨b,off,none⟩) ∧ vs.length = n ∧ Reps im io cs vs ∧ yCD w b off vs ∧ ∀ c ∈ cs,AV.isCell c = true := by
 cases p <;> simp only [rd] at h
 all_goals try (cases h; done)
 case ptr id off =>
  split at h
  ·rename_i fz z cs0 hH
   split at h
   ·rename_i hle
    cases h
    cases hr with
    | ptr hio =>
     obtain ⟨_,c,t,fr,hfr,h1,h2,h3,h4,h5,h6⟩ := xH3 (hs.blk id _ hH) hio
     refine ⟨_,_,((c.toList.take cs0.length).drop off).take n,rfl,?_,(h4.drop off).take n,fun j v hv => ?_,fun a ha => h6 a (List.mem_of_mem_drop (List.mem_of_mem_take ha))⟩
     ·simp; omega
     ·rw [xId h2]
      by_cases hj : j < n
      ·rw [List.getElem?_take_of_lt hj,List.getElem?_drop] at hv
       by_cases hj2 : off + j < cs0.length
       ·rw [List.getElem?_take_of_lt hj2,Array.getElem?_toList] at hv; exact hv
       ·rw [List.getElem?_take_eq_none (by omega)] at hv; cases hv
      ·rw [List.getElem?_take_eq_none (by omega)] at hv; cases hv
   ·cases h
  ·cases h
 case vptr cs0 off =>
  split at h
  ·rename_i hle
   cases h
   cases hr with
   | vptr hrow hl hc hk =>
    rename_i b o vs
    obtain ⟨c,t,fr,h1,h2⟩ := hrow
    refine ⟨_,_,(vs.drop off).take n,rfl,by simp; omega,Reps.take (Reps.drop ⟨hl,fun i c v a b => (hc i c v a b).mono (.refl _) (IoLe.none _)⟩ off) n,fun j v hv => ?_,fun a ha => hk a (List.mem_of_mem_drop (List.mem_of_mem_take ha))⟩
    rw [xId (hs.imw _ _ h1)]
    by_cases hj : j < n
    ·rw [List.getElem?_take_of_lt hj,List.getElem?_drop] at hv
     have := h2 _ v hv
     rw [show o + off + j = o + (off + j) by omega]; exact this
    ·rw [List.getElem?_take_eq_none (by omega)] at hv; cases hv
  ·cases h
theorem xMc {P : Program} {w : World} {b off : Nat} {vs : List Value} (h : yCD w b off vs) : (loadCells ⟨b,off,none⟩ vs.length).run P w = .ok vs.toArray w :=
 run_loadCells_list w ⟨b,off,none⟩ vs (fun j v hv => by rw [Addr.add_lit]; exact h j v hv)
theorem xWI {chk : Code → ACode → Bool} {im : Im} {io : Io} {H : Heap} {w : World} (hs : Sim chk im io H w) {es : Nat} {y : AV} {m : Nat} {ys : List AV} {x : Value} (h : src H es y = some (m,ys)) (hr : Rep im io y x) :
  ∃ a cap vs,x = .slice a m cap ∧ vs.length = m * es ∧ Reps im io ys vs ∧ (∀ c ∈ ys,AV.isCell c = true) ∧ (vs = [] ∨ ∃ b off,a = some ⟨b,off,none⟩ ∧ yCD w b off vs) ∧ (a = none → m = 0) := by
 cases y <;> simp only [src] at h
 all_goals try (cases h; done)
 case sl z n cs =>
  split at h
  ·rename_i hlen
   cases h
   cases hr with
   | slz => exact ⟨none,0,[],rfl,by simp,.nil,(fun _ h => by cases h),.inl rfl,fun _ => rfl⟩
   | sl0 => exact ⟨some _,_,[],rfl,by simp,.nil,(fun _ h => by cases h),.inl rfl,fun e => by cases e⟩
   | sl hrow hl hcap hc hk =>
    rename_i b o cap vs
    obtain ⟨c,t,fr,h1,h2⟩ := hrow
    exact ⟨_,_,vs,rfl,by rw [hl,hlen],⟨hl,fun i c v a b => (hc i c v a b).mono (.refl _) (IoLe.none _)⟩,hk,.inr ⟨b,o,rfl,fun j v hv => by rw [xId (hs.imw _ _ h1)]; exact h2 j v hv⟩,fun e => by cases e⟩
  ·cases h
 case own z id off n es' =>
  split at h
  ·rename_i fz z' cs hH
   split at h
   ·rename_i hle
    obtain ⟨rfl,hle⟩ := hle
    cases h
    cases hr with
    | ownz => exact ⟨none,0,[],rfl,by simp,by simp; exact .nil,(fun _ h => by simp at h),.inl rfl,fun _ => rfl⟩
    | own0 => exact ⟨some _,_,[],rfl,by simp,by simp; exact .nil,(fun _ h => by simp at h),.inl rfl,fun e => by cases e⟩
    | own hio hcap hsz =>
     rename_i b sz cap
     obtain ⟨_,c,t,fr,hfr,h1,h2,h3,h4,h5,h6⟩ := xH3 (hs.blk id _ hH) hio
     refine ⟨_,_,((c.toList.take cs.length).drop off).take (m * es'),rfl,?_,(h4.drop off).take _,fun a ha => h6 a (List.mem_of_mem_drop (List.mem_of_mem_take ha)),.inr ⟨b,off,rfl,fun j v hv => ?_⟩,fun e => by cases e⟩
     ·simp; omega
     ·rw [xId h2]
      by_cases hj : j < m * es'
      ·rw [List.getElem?_take_of_lt hj,List.getElem?_drop] at hv
       by_cases hj2 : off + j < cs.length
       ·rw [List.getElem?_take_of_lt hj2,Array.getElem?_toList] at hv; exact hv
       ·rw [List.getElem?_take_eq_none (by omega)] at hv; cases hv
      ·rw [List.getElem?_take_eq_none (by omega)] at hv; cases hv
   ·cases h
  ·cases h
theorem xNQ {P : Program} {w : World} {es m cap : Nat} {a : Option Addr} {vs : List Value} (hl : vs.length = m * es) (h : vs = [] ∨ ∃ b off,a = some ⟨b,off,none⟩ ∧ yCD w b off vs) (w' : World) (hw : w'.heap = w.heap) :
  (Builtin.firstCells es m (.slice a m cap)).run P w' = .ok vs.toArray w' := by
 rcases h with rfl | ⟨b,off,rfl,hlies⟩
 ·cases a with
  | none => rfl
  | some ad =>
   simp only [Builtin.firstCells,← hl]
   rfl
 ·exact run_firstCells_some w' es m ⟨b,off,none⟩ m cap vs hl (fun j v hv => by
   rw [Addr.add_lit]
   have := hlies j v hv
   simpa [World.cell?,hw] using this)
def Good (chk : Code → ACode → Bool) (P : Program) (o : Oper) (a : Act) (im : Im) (io : Io) (w : World) (v : AV) (H' : Heap) : Prop :=
 ∃ im' io' w' x,((execOp a.eval o).run P w = .ok (.value x) w' ∨ ((execOp a.eval o).run P w = .ok .skip w' ∧ x = undef)) ∧ Step im io w im' io' w' ∧ Sim chk im' io' H' w' ∧ Rep im' io' v x
theorem Good.same {chk : Code → ACode → Bool} {P : Program} {o : Oper} {a : Act} {im : Im} {io : Io} {H : Heap} {w : World} {v : AV} {x : Value} (hs : Sim chk im io H w) (h : (execOp a.eval o).run P w = .ok (.value x) w) (hr : Rep im io v x) :
  Good chk P o a im io w v H := ⟨im,io,w,x,.inl h,.refl _ _ _,hs,hr⟩
def xK7 (P : Program) (t : TypeId) : Option TypeId := match P.underlying t with | some (.slice e) => some e | _ => none
theorem xGN {P : Program} {t e : TypeId} (h : xK7 P t = some e) : P.underlying t = some (.slice e) := by
 unfold xK7 at h; split at h
 ·cases h; assumption
 ·cases h
def xNR (P : Program) (t : TypeId) : Option Nat := (P.info? t).map (·.size)
theorem xMd {P : Program} {t n : Nat} (h : xNR P t = some n) : ∃ i,P.info? t = some i ∧ i.size = n := by
 simpa [xNR] using h
def xOG (P : Program) (t : TypeId) : Option Bool := (P.underlying t).map fun | .struct _ | .array _ _ => true | _ => false
theorem xH8 {P : Program} {t : TypeId} {g : Bool} (h : xOG P t = some g) (w : World) : (isAgg t).run P w = .ok g w := by
 simp only [xOG,Option.map_eq_some_iff] at h
 obtain ⟨d,h1,h2⟩ := h
 simp only [isAgg,Sem.run_bind,run_underlying h1,Result.andThen]
 cases d <;> simp_all
def xTo (P : Program) (t : TypeId) (i : Nat) : Option (Nat × TypeId) := match P.underlying t with | some (.struct fs) => (fs[i]?).map fun f => (f.offset,f.type) | _ => none
theorem xQY {P : Program} {t i : Nat} {r : Nat × TypeId} (h : xTo P t i = some r) : ∃ fs f,P.underlying t = some (.struct fs) ∧ fs[i]? = some f ∧ f.offset = r.1 ∧ f.type = r.2 := by
 unfold xTo at h
 split at h
 ·rename_i fs hu
  simp only [Option.map_eq_some_iff] at h
  obtain ⟨f,h1,h2⟩ := h
  exact ⟨fs,f,hu,h1,by rw [← h2],by rw [← h2]⟩
 ·cases h
theorem xH7 {P : Program} {t n : Nat} (h : xNR P t = some n) (w : World) : (sizeOf t).run P w = .ok n w := by
 obtain ⟨i,h1,rfl⟩ := xMd h
 simp [sizeOf,typeInfo,h1]
end Go.Abs
