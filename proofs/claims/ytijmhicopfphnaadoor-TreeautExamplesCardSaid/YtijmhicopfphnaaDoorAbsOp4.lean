/- The operations that write and make memory. -/
import Derived.Test.YtijmhicopfphnaaDoorAbsOp3
import Derived.Laws.CopyRow
import Derived.Deep.AppendSrc
import Derived.Laws.MakeOwn
namespace Go.Abs
set_option linter.unusedVariables false
set_option linter.unusedSimpArgs false
open Go.RowKit
section
variable {chk : Code → ACode → Bool} {P : Program} {o : Oper} {a : Act} {im : Im} {io : Io} {H H' : Heap} {w : World} {F : List AV} {R : Rec} {v : AV}
theorem xOR {α : Type} (l m : List α) (off i : Nat) (h : off + m.length ≤ l.length) :
  (l.take off ++ m ++ l.drop (off + m.length))[i]? = if i < off then l[i]? else if i < off + m.length then m[i - off]? else l[i]? := by
 have hl : (l.take off).length = off := by simp; omega
 by_cases h1 : i < off
 ·rw [if_pos h1,List.append_assoc,List.getElem?_append_left (by omega),List.getElem?_take_of_lt h1]
 ·rw [if_neg h1]
  by_cases h2 : i < off + m.length
  ·rw [if_pos h2,List.getElem?_append_left (by simp; omega),List.getElem?_append_right (by omega),hl]
  ·rw [if_neg h2,List.getElem?_append_right (by simp; omega),List.getElem?_drop]
   congr 1
   simp
   omega
theorem xIc (w : World) (g : Nat) (cs : Array Value) {b : Nat} (h : b ≠ g) : (w.setRow g cs).heap[b]? = w.heap[b]? := by
 simp only [World.setRow,Array.getElem?_modify]
 rw [if_neg (Ne.symm h)]
theorem xKr (w : World) (g : Nat) (cs : Array Value) : (w.setRow g cs).heap.size = w.heap.size := by simp [World.setRow]
theorem xHW {P : Program} (g o : Nat) (t : TypeId) (fz : Nat × Nat) : ∀ (vs : List Value) (i : Nat) (cur : Array Value) (w : World),w.heap[g]? = some (.cells cur t fz) → yBr cur.size fz → o + i + vs.length ≤ cur.size → (∀ v ∈ vs,v.oneCell' = true) →
  (storeCells ⟨g,o,none⟩ vs i).run P w = .ok () (w.setRow g (cur.toList.take (o + i) ++ vs ++ cur.toList.drop (o + i + vs.length)).toArray)
 | [],i,cur,w,hg,_,_,_ => by
  simp only [storeCells,List.append_nil,List.length_nil,Nat.add_zero,List.take_append_drop,Array.toArray_toList]
  rw [setRow_self w g cur t fz hg]
  rfl
 | v :: rest,i,cur,w,hg,hfz,hl,h1 => by
  have hi : o + i < cur.size := by simp at hl; omega
  have hadd : (⟨g,o,none⟩ : Addr).add i = ⟨g,o + i,none⟩ := by unfold Addr.add; split <;> simp_all
  have hcell : w.cell? ⟨g,o + i,none⟩ = some cur[o + i] := by simp [World.cell?,hg,hi]
  have hfro : w.frozen? ⟨g,o + i,none⟩ = false := by
   obtain ⟨lo,hi'⟩ := fz
   simp only [World.frozen?,hg,Bool.and_eq_false_iff,decide_eq_false_iff_not]
   rcases hfz with h | h
   ·cases h; right; omega
   ·left; simp only at h; omega
  have hst : (store ((⟨g,o,none⟩ : Addr).add i) v).run P w = .ok () (w.setRow g (cur.setIfInBounds (o + i) v)) := by
   rw [hadd,run_store P w _ v _ (h1 v (by simp)),hcell]
   simp [hfro,setCell_eq_setRow w g (o + i) cur t fz v hg]
  have ih := xHW (P := P) g o t fz rest (i + 1) (cur.setIfInBounds (o + i) v) (w.setRow g (cur.setIfInBounds (o + i) v)) (setRow_heap w g cur _ t _ hg) (by simpa using hfz) (by simp at hl ⊢; omega) (fun x hx => h1 x (by simp [hx]))
  simp only [storeCells,Sem.run_bind,hst,Result.andThen_ok,ih,setRow_setRow]
  congr 3
  have e := list_seg_step cur.toList (o + i) v rest (by simp at hl ⊢; omega)
  simpa [Array.toList_setIfInBounds,Nat.add_assoc] using e
theorem yEw {id b sz off : Nat} {z : Bool} {cs cvs : List AV} {vs : List Value} (hs : Sim chk im io H w) (hH : H[id]? = some (.cells false z cs)) (hio : io id = some (b,sz)) (hle : off + cvs.length ≤ cs.length)
  (hr : Reps im io cvs vs) (hk : ∀ c ∈ cvs,AV.isCell c = true) {c : Array Value} {t : TypeId} {fr : Nat × Nat} (hc : w.heap[b]? = some (.cells c t fr)) :
  Sim chk im io (H.set id (.cells false z (splice cs off cvs))) (w.setRow b (c.toList.take off ++ vs ++ c.toList.drop (off + vs.length)).toArray) ∧
   Step im io w im io (w.setRow b (c.toList.take off ++ vs ++ c.toList.drop (off + vs.length)).toArray) := by
 obtain ⟨hz,c',t',fr',hfr,h1,h2,h3,h4,h5,h6⟩ := xH3 (hs.blk id _ hH) hio
 rw [hc] at h2; cases h2
 have him : im b = none := h3
 have hlt : id < H.length := (List.getElem?_eq_some_iff.1 hH).1
 have hnew := setRow_heap w b c ((c.toList.take off ++ vs ++ c.toList.drop (off + vs.length)).toArray) t _ hc
 have hlen : ((c.toList.take off ++ vs ++ c.toList.drop (off + vs.length)).toArray).size = c.size := by
  have := hr.1
  simp
  omega
 refine ⟨⟨fun i hi => hs.fresh i (by simpa using hi),fun i bi hi => ?_,fun i j bi bj b' si sj hi hj li lj hbi hbj => ?_,fun b' o' hb' => ?_,fun b' hb' => by rw [xKr]; exact hs.inb b' hb',hs.glob⟩,
  ⟨.refl _,.refl _,rfl,rfl,rfl,by rw [xKr]; exact Nat.le_refl _,fun b' hb' ho => ?_,fun _ h => .inl h,fun _ _ h => .inl h⟩⟩
 ·rw [List.getElem?_set] at hi
  split at hi
  ·rename_i e
   subst e
   cases hi
   refine .inr ⟨hz,b,_,t,_,by rw [hlen]; exact hfr,by rw [hlen,← h1]; exact hio,hnew,him,fun k cv hk' => ?_⟩
   have hvs := hr.1
   unfold splice at hk'
   rw [xOR _ _ _ _ hle] at hk'
   have xLD : ((c.toList.take off ++ vs ++ c.toList.drop (off + vs.length)).toArray)[k]? = if k < off then c.toList[k]? else if k < off + vs.length then vs[k - off]? else c.toList[k]? := by
    rw [← Array.getElem?_toList,List.toList_toArray,xOR _ _ _ _ (by simp; omega)]
   have old : ∀ cv,cs[k]? = some cv → ∃ v,c.toList[k]? = some v ∧ Rep im io cv v ∧ cv.isCell = true := fun cv hcv => by
    obtain ⟨v,e1,e2⟩ := h4.get hcv
    have hkl : k < cs.length := (List.getElem?_eq_some_iff.1 hcv).1
    rw [List.getElem?_take_of_lt hkl] at e1
    exact ⟨v,e1,e2,h6 _ (List.mem_of_getElem? hcv)⟩
   rw [xLD]
   split at hk'
   ·rename_i e; rw [if_pos e]; exact old cv hk'
   ·rename_i e
    rw [if_neg e]
    split at hk'
    ·rename_i e2
     rw [if_pos (by omega)]
     obtain ⟨v,g1,g2⟩ := hr.get hk'
     exact ⟨v,g1,g2,hk _ (List.mem_of_getElem? hk')⟩
    ·rename_i e2
     rw [if_neg (by omega)]
     exact old cv hk'
  ·rename_i e
   have hold := hs.blk i bi hi
   refine hold.mono (.refl _) (.refl _) (fun e => e) (fun b' sz' hio' hnd => ⟨xIc w b _ ?_,fun e => e⟩)
   rintro rfl
   cases bi with
   | dead => exact hnd rfl
   | mp es => exact e (hs.inj id i _ _ b' _ _ hH hi rfl rfl hio hio')
   | loop st pend F ps asg body => exact e (hs.inj id i _ _ b' _ _ hH hi rfl rfl hio hio')
   | cells fz' z' cs' =>
    cases fz' with
    | false => exact e (hs.inj id i _ _ b' _ _ hH hi rfl rfl hio hio')
    | true =>
     obtain ⟨_,c2,t2,_,_,_,_,g3,_⟩ := xH3 hold hio'
     rw [him] at g3; cases g3
 ·have key : ∀ (k : Nat) (bk : Blk),(H.set id (.cells false z (splice cs off cvs)))[k]? = some bk → bk.live = true → ∃ bk' : Blk,H[k]? = some bk' ∧ bk'.live = true := by
   intro k bk hk' lk'
   rw [List.getElem?_set] at hk'
   split at hk'
   ·rename_i e; subst e; exact ⟨_,hH,rfl⟩
   ·exact ⟨bk,hk',lk'⟩
  obtain ⟨bi',e1,e2⟩ := key i bi hi li
  obtain ⟨bj',e3,e4⟩ := key j bj hj lj
  exact hs.inj i j bi' bj' b' si sj e1 e3 e2 e4 hbi hbj
 ·have hne : b' ≠ b := by rintro rfl; rw [him] at hb'; cases hb'
  rw [xIc w b _ hne]; exact hs.imw _ _ hb'
 ·have hne : b' ≠ b := by rintro rfl; exact ho ⟨id,sz,hio⟩
  exact xIc w b _ hne
theorem xVv {n : Nat} {p x : Arg} (hc : xAI P o (.store n p x) = true) (hs : Sim chk im io H w) (hF : FRep im io F a) (h : xAc R F H (.store n p x) = some (v,H')) : Good chk P o a im io w v H' := by
 simp only [xAI] at hc
 simp only [xAc] at h
 split at hc
 case h_2 => cases hc
 rename_i t y x' ho
 simp only [Bool.and_eq_true,beq_iff_eq] at hc
 obtain ⟨⟨h1,h2⟩,h3⟩ := hc
 have r1 := xAj h2 hF
 have r2 := xAj h3 hF
 split at h
 case isFalse => cases h
 rename_i hlen
 simp only [Option.map_eq_some_iff,Prod.mk.injEq] at h
 obtain ⟨H1,hw,rfl,rfl⟩ := h
 unfold wr at hw
 split at hw
 case h_2 => cases hw
 rename_i id off e1
 split at hw
 case h_2 => cases hw
 rename_i z cs hH
 split at hw
 case isFalse => cases hw
 rename_i hle
 obtain ⟨hle,hcell⟩ := hle
 cases hw
 rw [e1] at r1
 generalize hv : a.eval y = cv at r1
 cases r1 with
 | ptr hio =>
  rename_i b sz
  obtain ⟨hz,c,tt,fr,hfr,g1,g2,g3,g4,g5,g6⟩ := xH3 (hs.blk id _ hH) hio
  have hrs := xMb r2 hcell
  have hk : ∀ c ∈ (opv F x).cells,AV.isCell c = true := fun c hcm => by simpa using List.all_eq_true.1 hcell c hcm
  obtain ⟨s1,s2⟩ := yEw hs hH hio (by rw [hlen] at hle ⊢; exact hle) hrs hk g2
  refine ⟨im,io,_,undef,.inr ⟨?_,rfl⟩,s2,s1,.tup (vs := []) rfl (fun i c v h => by simp at h)⟩
  have hsz := xH7 (P := P) h1 w
  have hst := xHW (P := P) b off tt fr (a.eval x').cells.toList 0 c w g2 hfr (by have := hrs.1; simp at this ⊢; omega) (xNm hrs hk)
  have hn : (a.eval x').cells.size = n := by have := hrs.1; simp at this; omega
  simp only [Nat.add_zero] at hst
  simp [execOp,ho,hv,Instr.storeAt,Instr.sureAddr,storeVar,hsz,hn,hst]
theorem xOS {cs : List AV} (h : cs.all AV.isCell = true) : ∀ c ∈ cs,AV.isCell c = true := fun c hc => by simpa using List.all_eq_true.1 h c hc
theorem xLo {t : TypeId} {z : Value} (h : xK6 P t = some z) : (zeroValue t).run P w = .ok z w := by
 unfold xK6 at h
 cases hi : P.info? t with
 | none => simp [hi] at h
 | some i => simp [hi] at h; simp [zeroValue,typeInfo,hi,h]
theorem xZB {x : Arg} (hc : xAI P o (.box x) = true) (hs : Sim chk im io H w) (hF : FRep im io F a) (h : xAc R F H (.box x) = some (v,H')) : Good chk P o a im io w v H' := by
 simp only [xAI] at hc
 simp only [xAc] at h
 split at h
 case isFalse => cases h
 rename_i hk
 cases h
 have fin : ∀ (x' : Value) (t : TypeId),Rep im io (opv F x) x' → (execOp a.eval o).run P w = .ok (.value (.pointer (some ⟨w.heap.size,0,none⟩))) (w.alloc (.cells x'.cells t)) → Good chk P o a im io w (.ptr H.length 0) (H ++ [.cells false false (opv F x).cells]) := by
  intro x' t hr hrun
  have hrs := xMb hr hk
  obtain ⟨s1,s2⟩ := xMe hs (Pushed.alloc w (.cells x'.cells t)) (.inl rfl) hrs (xOS hk) (fun i v hv => by rw [← Array.getElem?_toList]; exact hv)
  exact ⟨_,_,_,_,.inl hrun,s2,s1,.ptr (xGm _ _ _)⟩
 split at hc
 ·rename_i t y ho
  exact fin _ t (xAj hc hF) (by simp [execOp,ho,Instr.box,newVar,newRow])
 ·rename_i t ho
  split at hc
  ·rename_i z av hz
   exact fin z t (xWF hc) (by simp [execOp,ho,Instr.alloc,xLo hz,newVar,newRow])
  ·cases hc
 ·cases hc
theorem xQU (off : Nat) : ∀ (vs : List Value) (k : Nat) (cells : Array Value),off + k + vs.length ≤ cells.size →
  ((vs.zipIdx k).foldl (fun cs p => cs.setIfInBounds (off + p.2) p.1) cells).toList = cells.toList.take (off + k) ++ vs ++ cells.toList.drop (off + k + vs.length)
 | [],k,cells,_ => by simp
 | v :: vs,k,cells,h => by
  simp only [List.length_cons] at h
  rw [List.zipIdx_cons,List.foldl_cons,xQU off vs (k + 1) _ (by simp; omega)]
  simp only [Array.toList_setIfInBounds,List.length_cons]
  have hlt : off + k < cells.toList.length := by simp; omega
  rw [show off + (k + 1) = off + k + 1 by omega]
  have e1 : (cells.toList.set (off + k) v).take (off + k + 1) = cells.toList.take (off + k) ++ [v] := by
   apply List.ext_getElem?
   intro i
   by_cases hi : i < off + k + 1
   ·rw [List.getElem?_take_of_lt hi,List.getElem?_set]
    by_cases hi2 : off + k = i
    ·subst hi2
     rw [if_pos rfl,if_pos hlt,List.getElem?_append_right (by simp; omega)]
     simp
     rw [show off + k - min (off + k) cells.size = 0 by simp at hlt; omega]
     rfl
    ·rw [if_neg hi2,List.getElem?_append_left (by simp at hlt ⊢; omega),List.getElem?_take_of_lt (by omega)]
   ·rw [List.getElem?_take_eq_none (by omega),List.getElem?_eq_none]
    simp
    omega
  have e2 : (cells.toList.set (off + k) v).drop (off + k + 1 + vs.length) = cells.toList.drop (off + k + (vs.length + 1)) := by
   apply List.ext_getElem?
   intro i
   rw [List.getElem?_drop,List.getElem?_drop,List.getElem?_set,if_neg (by omega)]
   congr 1
   omega
  rw [e1,e2]
  simp
theorem xTd {cs cvs : List AV} {vs vvs : List Value} (h : Reps im io cs vs) (h' : Reps im io cvs vvs) (off : Nat) : Reps im io (splice cs off cvs) (vs.take off ++ vvs ++ vs.drop (off + vvs.length)) := by
 unfold splice
 rw [h'.1]
 exact ((h.take off).append h').append (h.drop _)
theorem xTe {cs cvs : List AV} (h : ∀ c ∈ cs,AV.isCell c = true) (h' : ∀ c ∈ cvs,AV.isCell c = true) (off : Nat) : ∀ c ∈ splice cs off cvs,AV.isCell c = true := by
 intro c hc
 unfold splice at hc
 simp only [List.mem_append] at hc
 rcases hc with (hc | hc) | hc
 ·exact h c (List.mem_of_mem_take hc)
 ·exact h' c hc
 ·exact h c (List.mem_of_mem_drop hc)
theorem xP3 (place : Nat → Option (Nat × Nat)) : ∀ (ps : List (Nat × Value)) (parts : List (Nat × List AV)) (cells : Array Value) (cs cs' : List AV),Reps im io cs cells.toList → (∀ c ∈ cs,AV.isCell c = true) → ps.length = parts.length →
  (∀ (i : Nat) (p : Nat × Value) (q : Nat × List AV),ps[i]? = some p → parts[i]? = some q → (∃ n,place p.1 = some (q.1,n) ∧ q.2.length = n) ∧ (q.2.all AV.isCell = true → Reps im io q.2 p.2.cells.toList)) →
  fillA cs parts = some cs' → ∃ cells',Instr.fill place cells ps = some cells' ∧ Reps im io cs' cells'.toList ∧ ∀ c ∈ cs',AV.isCell c = true
 | [],[],cells,cs,cs',hr,hk,_,_,h => by
  simp [fillA] at h; subst h
  exact ⟨cells,rfl,hr,hk⟩
 | [],_ :: _,_,_,_,_,_,hl,_,_ => by simp at hl
 | _ :: _,[],_,_,_,_,_,hl,_,_ => by simp at hl
 | (i,x) :: ps,(off,vs) :: parts,cells,cs,cs',hr,hk,hl,hp,h => by
  simp only [fillA] at h
  split at h
  ·rename_i hle
   obtain ⟨hle,hcell⟩ := hle
   obtain ⟨⟨n,q1,q2⟩,q3⟩ := hp 0 (i,x) (off,vs) rfl rfl
   simp only at q1 q2 q3
   have q3 := q3 hcell
   have hcl := hr.1
   have hxl := q3.1
   simp at hcl hxl
   have hsplit : (x.cells.zipIdx.foldl (fun cs (c,j) => cs.setIfInBounds (off + j) c) cells).toList = cells.toList.take off ++ x.cells.toList ++ cells.toList.drop (off + x.cells.toList.length) := by
    have := xQU off x.cells.toList 0 cells (by simp; omega)
    simp only [Nat.add_zero] at this
    rw [← this,← Array.foldl_toList,Array.toList_zipIdx]
   have hr' : Reps im io (splice cs off vs) (x.cells.zipIdx.foldl (fun cs (c,j) => cs.setIfInBounds (off + j) c) cells).toList := by
    rw [hsplit]; exact xTd hr q3 off
   obtain ⟨cells',f1,f2,f3⟩ := xP3 place ps parts _ (splice cs off vs) cs' hr' (xTe hk (xOS hcell) off) (by simpa using hl) (fun j p q hj hq => hp (j + 1) p q (by simpa using hj) (by simpa using hq)) h
   refine ⟨cells',?_,f2,f3⟩
   simp only [Instr.fill,q1]
   rw [if_neg (by simp; omega)]
   exact f1
  ·cases h
theorem xQV {pl : List (Nat × Nat)} {ps : List (Nat × Operand)} {parts : List (Nat × Nat × Arg)} (h : xP5 pl ps parts = true) :
  ps.length = parts.length ∧ ∀ (i : Nat) (p : Nat × Operand) (q : Nat × Nat × Arg),ps[i]? = some p → parts[i]? = some q → pl[p.1]? = some (q.1,q.2.1) ∧ xBq p.2 q.2.2 = true := by
 simp only [xP5,Bool.and_eq_true,beq_iff_eq] at h
 refine ⟨h.1,fun i p q hp hq => ?_⟩
 have hz : (ps.zip parts)[i]? = some (p,q) := by simp [List.getElem?_zip_eq_some,hp,hq]
 have := List.all_eq_true.1 h.2 (p,q) (List.mem_of_getElem? hz)
 simpa using this
theorem xOF {ps : List (Nat × Operand)} {parts : List (Nat × Arg)} (h : xMO ps parts = true) :
  ps.length = parts.length ∧ ∀ (i : Nat) (p : Nat × Operand) (q : Nat × Arg),ps[i]? = some p → parts[i]? = some q → p.1 = q.1 ∧ xBq p.2 q.2 = true := by
 simp only [xMO,Bool.and_eq_true,beq_iff_eq] at h
 refine ⟨h.1,fun i p q hp hq => ?_⟩
 have hz : (ps.zip parts)[i]? = some (p,q) := by simp [List.getElem?_zip_eq_some,hp,hq]
 have := List.all_eq_true.1 h.2 (p,q) (List.mem_of_getElem? hz)
 simpa using this
theorem xTf {t : TypeId} {fs : Array Field} {pl : List (Nat × Nat)} (hu : P.underlying t = some (.struct fs)) (h : (fs.toList.mapM fun f => (xNR P f.type).map fun n => (f.offset,n)) = some pl) :
  (fs.mapM fun f => do pure (f.offset,← sizeOf f.type) : Sem (Array (Nat × Nat))).run P w = .ok pl.toArray w := by
 have key : ∀ (l : List Field) (pl : List (Nat × Nat)),(l.mapM fun f => (xNR P f.type).map fun n => (f.offset,n)) = some pl → (l.mapM fun f => do pure (f.offset,← sizeOf f.type) : Sem (List (Nat × Nat))).run P w = .ok pl w := by
  intro l
  induction l with
  | nil => intro pl h; simp at h; subst h; rfl
  | cons f l ih =>
   intro pl h
   rw [List.mapM_cons] at h
   cases h1 : xNR P f.type with
   | none => simp [h1] at h
   | some n =>
    cases h2 : (l.mapM fun f => (xNR P f.type).map fun n => (f.offset,n)) with
    | none => simp [h1,h2] at h
    | some pl' =>
     simp [h1,h2] at h
     subst h
     rw [List.mapM_cons]
     simp only [Sem.run_bind,xH7 h1,Result.andThen,Sem.run_pure,ih pl' h2]
 rw [Array.mapM_eq_mapM_toList]
 simp only [Sem.run_map,key _ _ h,Result.andThen]
theorem xQW {t : TypeId} {pl : List (Nat × Nat)} {zv : Value} (h : xP4 P t = some pl) (hz : xK6 P t = some zv) :
  ∃ place : Nat → Option (Nat × Nat),(∀ i x,pl[i]? = some x → place i = some x) ∧ ∀ (parts : Array (Nat × Value)) (cells : Array Value),Instr.fill place zv.cells parts.toList = some cells → (Instr.build t parts).run P w = .ok (.agg cells) w := by
 unfold xP4 at h
 split at h
 ·rename_i fs hu
  refine ⟨fun i => pl.toArray[i]?,fun i x hx => by simpa using hx,fun parts cells hf => ?_⟩
  have hrun := xTf (w := w) hu h
  simp only [Instr.build,Sem.run_bind,xLo hz,Result.andThen,run_underlying hu,hrun]
  simp only [hf,Sem.run_pure]
 ·rename_i k e hu
  simp only [Option.map_eq_some_iff] at h
  obtain ⟨n,hn,rfl⟩ := h
  refine ⟨fun i => some (i * n,n),fun i x hx => ?_,fun parts cells hf => ?_⟩
  ·simp only [List.getElem?_map,Option.map_eq_some_iff] at hx
   obtain ⟨j,hj,rfl⟩ := hx
   have := List.getElem?_eq_some_iff.1 hj
   obtain ⟨h1,h2⟩ := this
   simp at h2
   rw [h2]
  ·simp only [Instr.build,Sem.run_bind,xLo hz,Result.andThen,run_underlying hu,xH7 hn]
   simp only [hf,Sem.run_pure]
 ·cases h
theorem xVw {z : List AV} {parts : List (Nat × Nat × Arg)} (hc : xAI P o (.build z parts) = true) (hs : Sim chk im io H w) (hF : FRep im io F a) (h : xAc R F H (.build z parts) = some (v,H')) : Good chk P o a im io w v H' := by
 simp only [xAI] at hc
 simp only [xAc] at h
 split at hc
 case h_2 => cases hc
 rename_i t ps ho
 split at hc
 case h_2 => cases hc
 rename_i pl zv hpl hz
 simp only [Bool.and_eq_true] at hc
 obtain ⟨hz1,hz2⟩ := xJt (im := im) (io := io) hc.1
 obtain ⟨hp1,hp2⟩ := xQV hc.2
 split at h
 case isFalse => cases h
 rename_i hall
 simp only [Option.map_eq_some_iff,Prod.mk.injEq] at h
 obtain ⟨cs,hfill,rfl,rfl⟩ := h
 obtain ⟨place,hplace,hrun⟩ := xQW (w := w) hpl hz
 have hp : ∀ (i : Nat) (p : Nat × Value) (q : Nat × List AV),(ps.map fun (p : Nat × Operand) => (p.1,a.eval p.2)).toList[i]? = some p → (parts.map fun p => (p.1,(opv F p.2.2).cells))[i]? = some q →
   (∃ n,place p.1 = some (q.1,n) ∧ q.2.length = n) ∧ (q.2.all AV.isCell = true → Reps im io q.2 p.2.cells.toList) := by
  intro i p q hp hq
  simp only [Array.toList_map,List.getElem?_map,Option.map_eq_some_iff] at hp hq
  obtain ⟨p0,hp0,rfl⟩ := hp
  obtain ⟨q0,hq0,rfl⟩ := hq
  obtain ⟨g1,g2⟩ := hp2 i p0 q0 hp0 hq0
  have g3 := List.all_eq_true.1 hall q0 (List.mem_of_getElem? hq0)
  exact ⟨⟨q0.2.1,hplace _ _ g1,by simpa using g3⟩,fun hcell => xMb (xAj g2 hF) hcell⟩
 obtain ⟨cells',f1,f2,f3⟩ := xP3 place _ _ zv.cells z cs hz1 hz2 (by simpa using hp1) hp hfill
 refine .same hs (x := .agg cells') ?_ (.agg' f2 f3)
 simp only [execOp,ho,Sem.run_bind,hrun _ _ f1,Result.andThen,Sem.run_pure]
theorem xKs (z : List AV) : ∀ n,(xJf z n).length = n * z.length
 | 0 => by simp [xJf]
 | n + 1 => by simp [xJf,xKs z n,Nat.succ_mul]; omega
theorem xLp (z : List AV) : ∀ n,∀ c ∈ xJf z n,c ∈ z
 | 0,c,h => by simp [xJf] at h
 | n + 1,c,h => by
  simp only [xJf,List.mem_append] at h
  rcases h with h | h
  ·exact h
  ·exact xLp z n c h
theorem xK5 {z : List AV} {zv : Array Value} (h : Reps im io z zv.toList) : ∀ n,Reps im io (xJf z n) (List.replicate n zv.toList).flatten
 | 0 => .nil
 | n + 1 => by
  rw [List.replicate_succ,List.flatten_cons]
  exact h.append (xK5 h n)
theorem xTX (l : List Value) : ∀ (n i : Nat),i < n * l.length → (List.replicate n l).flatten[i]? = l[i % l.length]?
 | 0,i,h => by simp at h
 | n + 1,i,h => by
  rw [List.replicate_succ,List.flatten_cons]
  by_cases hi : i < l.length
  ·rw [List.getElem?_append_left hi,Nat.mod_eq_of_lt hi]
  ·rw [List.getElem?_append_right (by omega),xTX l n (i - l.length) (by rw [Nat.succ_mul] at h; omega)]
   congr 1
   exact (Nat.mod_eq_sub_mod (by omega)).symm
theorem xIU {z : List AV} {zv : Array Value} (h : Reps im io z zv.toList) (n m : Nat) (hm : n ≤ m) : ∀ (i : Nat) (v : Value),((List.replicate n zv.toList).flatten)[i]? = some v → (madeCells zv (m * z.length))[i]? = some v := by
 intro i v hv
 have hl : zv.size = z.length := by have := h.1; simpa using this
 have hi : i < n * zv.toList.length := by
  have := (List.getElem?_eq_some_iff.1 hv).1
  simpa using this
 rw [xTX _ _ _ hi] at hv
 have hi2 : i < m * z.length := by
  have : n * zv.toList.length ≤ m * z.length := by rw [Array.length_toList,hl]; exact Nat.mul_le_mul_right _ hm
  omega
 simp only [madeCells]
 rw [Array.getElem?_map,Array.getElem?_range,if_pos hi2]
 have hpos : 0 < zv.size := by
  rcases Nat.eq_zero_or_pos zv.size with e | e
  ·simp [e] at hi
  ·exact e
 have : i % zv.size < zv.size := Nat.mod_lt _ hpos
 simp only [Array.length_toList,Array.getElem?_toList] at hv
 rw [Array.getElem?_eq_getElem this] at hv
 simp only [Option.map_some]
 rw [getElem!_pos zv (i % zv.size) this]
 exact hv
theorem xTg {fz z : Bool} {n es : Nat} {cs : List AV} {vs : List Value} {c : Array Value} {t : TypeId} {fr : Nat × Nat} {w' : World} {cap : Nat} (hs : Sim chk im io H w) (hp : Pushed w w' (.cells c t fr)) (hfr : yBr c.size fr) (hz : z = false)
  (hr : Reps im io cs vs) (hk : ∀ c ∈ cs,AV.isCell c = true) (hc : ∀ (i : Nat) (v : Value),vs[i]? = some v → c[i]? = some v) (hcap : n ≤ cap) (hsz : cap * es ≤ c.size) (h : xLr fz z n es cs H = some (v,H')) :
  ∃ im' io',Step im io w im' io' w' ∧ Sim chk im' io' H' w' ∧ Rep im' io' v (.slice (some ⟨w.heap.size,0,none⟩) n cap) := by
 subst hz
 unfold xLr at h
 cases fz with
 | false =>
  simp at h
  obtain ⟨rfl,rfl⟩ := h
  obtain ⟨s1,s2⟩ := xMe hs hp hfr hr hk hc
  exact ⟨_,_,s2,s1,.own (xGm _ _ _) hcap (by omega)⟩
 | true =>
  simp only [if_true] at h
  split at h
  case isFalse => cases h
  rename_i hemp
  simp only [Option.map_eq_some_iff,Prod.mk.injEq] at h
  obtain ⟨cs',hm,rfl,rfl⟩ := h
  obtain ⟨b1,b2⟩ := xZK hs hp
  obtain ⟨g1,g2⟩ := xIV hm
  refine ⟨_,_,b2,b1,?_⟩
  refine .sl (vs := vs) ⟨c,t,fr,xGm _ _ _,fun i v hv => by rw [Nat.zero_add]; exact hc i v hv⟩ (by rw [hr.1,g1]) hcap (fun i cv x hcv hx => ?_) (fun a ha => ?_)
  ·have hi : i < cs.length := by have := (List.getElem?_eq_some_iff.1 hcv).1; omega
   obtain ⟨y,e1,e2⟩ := g2 i cs[i] (List.getElem?_eq_getElem hi)
   rw [hcv] at e1; cases e1
   have hrx := hr.2 i _ x (List.getElem?_eq_getElem hi) hx
   refine (xLT hs (ImLe.refl im) frzN cs[i] cv x e2 hrx (fun j hj => ?_)).mono b2.im_le (IoLe.refl _)
   have : j ∈ cs.flatMap (bor frzN H) := List.mem_flatMap.2 ⟨cs[i],List.getElem_mem hi,hj⟩
   rw [List.isEmpty_iff.1 hemp] at this
   cases this
  ·obtain ⟨i,hi,e⟩ := List.mem_iff_getElem.1 ha
   have hi' : i < cs.length := by omega
   obtain ⟨y,e1,e2⟩ := g2 i cs[i] (List.getElem?_eq_getElem hi')
   rw [List.getElem?_eq_getElem hi,e] at e1; cases e1
   exact xLq e2 (hk _ (List.getElem_mem hi'))
theorem xNl {fz z : Bool} {n es : Nat} {cs : List AV} {vs : List Value} {c : Array Value} {t : TypeId} {w' : World} {cap : Nat} (hs : Sim chk im io H w) (hp : Pushed w w' (.cells c t (0,0))) (hz : z = false)
  (hr : Reps im io cs vs) (hk : ∀ c ∈ cs,AV.isCell c = true) (hc : ∀ (i : Nat) (v : Value),vs[i]? = some v → c[i]? = some v) (hcap : n ≤ cap) (hsz : cap * es ≤ c.size) (h : xLr fz z n es cs H = some (v,H')) :
  ∃ im' io',Step im io w im' io' w' ∧ Sim chk im' io' H' w' ∧ Rep im' io' v (.slice (some ⟨w.heap.size,0,none⟩) n cap) :=
 xTg hs hp (.inl rfl) hz hr hk hc hcap hsz h
theorem xTY {fz : Bool} {es : Nat} (hs : Sim chk im io H w) (h : xLr fz true 0 es [] H = some (v,H')) : ∃ im' io',Step im io w im' io' w ∧ Sim chk im' io' H' w ∧ Rep im' io' v (.slice none 0 0) := by
 unfold xLr at h
 cases fz with
 | false =>
  simp at h
  obtain ⟨rfl,rfl⟩ := h
  exact ⟨_,_,.refl _ _ _,xWJ hs,.ownz⟩
 | true =>
  simp at h
  obtain ⟨rfl,rfl⟩ := h
  exact ⟨_,_,.refl _ _ _,hs,.slz⟩
theorem xTh {fz : Bool} {z : List AV} {es n : Nat} {parts : List (Nat × Arg)} (hc : xAI P o (.bslice fz z es n parts) = true) (hs : Sim chk im io H w) (hF : FRep im io F a) (h : xAc R F H (.bslice fz z es n parts) = some (v,H')) :
  Good chk P o a im io w v H' := by
 simp only [xAI] at hc
 simp only [xAc] at h
 split at hc
 case h_2 => cases hc
 rename_i t len ps ho
 split at hc
 case h_2 => cases hc
 rename_i e he
 split at hc
 case h_2 => cases hc
 rename_i zv hz
 simp only [Bool.and_eq_true,beq_iff_eq,decide_eq_true_eq] at hc
 obtain ⟨⟨⟨⟨⟨h1,rfl⟩,h3⟩,h4⟩,h5⟩,h6⟩ := hc
 have hu := xGN he
 obtain ⟨hz1,hz2⟩ := xJt (im := im) (io := io) h5
 obtain ⟨hp1,hp2⟩ := xOF h6
 split at h
 case isFalse => cases h
 rename_i hall
 split at h
 case h_2 => cases h
 rename_i cs hfill
 have hp : ∀ (i : Nat) (p : Nat × Value) (q : Nat × List AV),(ps.map fun (p : Nat × Operand) => (p.1,a.eval p.2)).toList[i]? = some p → (parts.map fun p => (p.1 * es,(opv F p.2).cells))[i]? = some q →
   (∃ n,(fun i => some (i * es,es)) p.1 = some (q.1,n) ∧ q.2.length = n) ∧ (q.2.all AV.isCell = true → Reps im io q.2 p.2.cells.toList) := by
  intro i p q hp hq
  simp only [Array.toList_map,List.getElem?_map,Option.map_eq_some_iff] at hp hq
  obtain ⟨p0,hp0,rfl⟩ := hp
  obtain ⟨q0,hq0,rfl⟩ := hq
  obtain ⟨g1,g2⟩ := hp2 i p0 q0 hp0 hq0
  have g3 := List.all_eq_true.1 hall q0 (List.mem_of_getElem? hq0)
  exact ⟨⟨es,by simp [g1],by simpa using g3⟩,fun hcell => xMb (xAj g2 hF) hcell⟩
 have hmade : Reps im io (xJf z len) (madeCells zv.cells (len * es)).toList := by
  have hr := xK5 hz1 len
  refine ⟨by simp [xKs,size_madeCells,h4],fun i c v h1' h2' => ?_⟩
  have hi : i < (List.replicate len zv.cells.toList).flatten.length := by rw [hr.1]; exact (List.getElem?_eq_some_iff.1 h1').1
  have := xIU hz1 len len (Nat.le_refl _) i _ (List.getElem?_eq_getElem hi)
  rw [h4,← Array.getElem?_toList,h2'] at this
  cases this
  exact hr.2 i c _ h1' (List.getElem?_eq_getElem hi)
 obtain ⟨cells',f1,f2,f3⟩ := xP3 (fun i => some (i * es,es)) _ _ _ (xJf z len) cs hmade (fun c hcm => hz2 c (xLp z len c hcm)) (by simpa using hp1) hp hfill
 have hlen : cells'.size = len * es := by
  have key : ∀ (parts : List (Nat × List AV)) (c c' : List AV),fillA c parts = some c' → c'.length = c.length := by
   intro parts
   induction parts with
   | nil => intro c c' h; simp [fillA] at h; subst h; rfl
   | cons p parts ih =>
    intro c c' h
    simp only [fillA] at h
    split at h
    ·rename_i hle
     rw [ih _ _ h]
     simp [splice]
     omega
    ·cases h
  have := f2.1
  rw [key _ _ _ hfill,xKs,h4] at this
  simpa using this
 obtain ⟨im',io',s1,s2,s3⟩ := xNl (cap := len) hs (Pushed.alloc w (.cells cells' e)) rfl f2 f3 (fun i v hv => by rw [← Array.getElem?_toList]; exact hv) (Nat.le_refl _) (by rw [hlen]; exact Nat.le_refl _) h
 refine ⟨im',io',_,_,.inl ?_,s1,s2,s3⟩
 have hsz := xH7 (P := P) h1 w
 have f1' : Instr.fill (fun i => some (i * es,es)) (madeCells zv.cells (len * es)) (ps.map fun p => (p.1,a.eval p.2)).toList = some cells' := f1
 have h3' : ¬ (2 ^ 24 < len * es) := by omega
 have h3'' : ¬ (16777216 < len * es) := by omega
 by_cases hn : len * es = 0
 ·have r0 : Array.range 0 = #[] := rfl
  rw [hn] at f1'
  simp only [madeCells,r0] at f1'
  simp [execOp,ho,Instr.buildSlice,run_underlying hu,hsz,hn,newRow,r0]
  simp at f1'
  rw [f1']
  simp
 ·simp [execOp,ho,Instr.buildSlice,run_underlying hu,hsz,hn,h3'',xLo hz,newRow]
  simp only [madeCells] at f1'
  simp at f1'
  rw [f1']
  simp
theorem xTi {z : List AV} {es n : Nat} {parts : List (Nat × Arg)} (hc : xAI P o (.dslice z es n parts) = true) (hs : Sim chk im io H w) (hF : FRep im io F a) (h : xAc R F H (.dslice z es n parts) = some (v,H')) :
  Good chk P o a im io w v H' := by simp [xAI] at hc
end
end Go.Abs
