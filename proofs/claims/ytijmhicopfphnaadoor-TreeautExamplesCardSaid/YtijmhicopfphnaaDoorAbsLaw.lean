/- From the interpreter's answer on all fitting data to the given statement of a law. -/
import Derived.Test.YtijmhicopfphnaaDoorAbsLim
import Derived.ProofKit
import Derived.OpenShut
namespace Go.Abs
set_option linter.unusedVariables false
set_option linter.unusedSimpArgs false
open Go.ChangeShapes Go.WideShapes Go.ChangeAt Go.RowKit
inductive CS where
 | int (k : IntKind)
 | bool
 | str
 | sl (es : List CS)
def xPM (k : TypeId → Option (List CS)) (P : Program) : Nat → List Field → Option (List CS)
 | _,[] => some []
 | off,f :: fs => match k f.type with
  | some cs => if f.offset = off ∧ P.cellsOf f.type = cs.length then (xPM k P (off + cs.length) fs).map (cs ++ ·) else none
  | none => none
def xZm (P : Program) : Nat → TypeId → Option (List CS)
 | 0,_ => none
 | d + 1,t => match P.underlying t with
  | some .bool => some [.bool]
  | some (.int k) => some [.int k]
  | some .string => some [.str]
  | some (.slice e) => match xZm P d e with
   | some es => if es.length = P.cellsOf e ∧ 0 < es.length then some [.sl es] else none
   | none => none
  | some (.struct fs) => match xPM (xZm P d) P 0 fs.toList with
   | some cs => if cs.length = P.cellsOf t then some cs else none
   | none => none
  | some (.array n e) => match xZm P d e with
   | some es => if es.length = P.cellsOf e ∧ P.cellsOf t = n * es.length then some (List.replicate n es).flatten else none
   | none => none
  | _ => none
inductive Fit : CS → AV → Prop
 | int {k : IntKind} {n : Int} (h1 : k.min ≤ n) (h2 : n ≤ k.max) : Fit (.int k) (.int k n)
 | bool {b : Bool} : Fit .bool (.bool b)
 | str {s : ByteArray} (h : s.size ≤ maxLen) : Fit .str (.str s)
 | nil {es : List CS} : Fit (.sl es) (.sl true 0 [])
 | sl {es : List CS} {rows : List (List AV)} (hn : rows.length ≤ maxLen) (hl : ∀ r ∈ rows,r.length = es.length)
   (hr : ∀ r ∈ rows,∀ (i : Nat) (c : CS) (a : AV),es[i]? = some c → r[i]? = some a → Fit c a) : Fit (.sl es) (.sl false rows.length rows.flatten)
theorem Fit.cell {c : CS} {a : AV} (h : Fit c a) : a.isCell = true := by cases h <;> rfl
def FitAll (css : List CS) (avs : List AV) : Prop := avs.length = css.length ∧ ∀ (i : Nat) (c : CS) (a : AV),css[i]? = some c → avs[i]? = some a → Fit c a
theorem FitAll.nil : FitAll [] [] := ⟨rfl,fun i c a h => by simp at h⟩
theorem FitAll.one {c : CS} {a : AV} (h : Fit c a) : FitAll [c] [a] := ⟨rfl,fun i c' a' h1 h2 => by
 cases i with
 | zero => simp at h1 h2; subst h1; subst h2; exact h
 | succ i => simp at h1⟩
theorem FitAll.append {c c' : List CS} {a a' : List AV} (h : FitAll c a) (k : FitAll c' a') : FitAll (c ++ c') (a ++ a') := by
 refine ⟨by simp [h.1,k.1],fun i x y h1 h2 => ?_⟩
 by_cases hi : i < c.length
 ·rw [List.getElem?_append_left hi] at h1
  rw [List.getElem?_append_left (by rw [h.1]; exact hi)] at h2
  exact h.2 i x y h1 h2
 ·rw [List.getElem?_append_right (by omega)] at h1
  rw [List.getElem?_append_right (by rw [h.1]; omega),h.1] at h2
  exact k.2 _ x y h1 h2
theorem FitAll.cells {css : List CS} {avs : List AV} (h : FitAll css avs) : ∀ a ∈ avs,a.isCell = true := by
 intro a ha
 obtain ⟨i,hi,rfl⟩ := List.mem_iff_getElem.1 ha
 exact (h.2 i _ _ (List.getElem?_eq_getElem (by rw [← h.1]; exact hi)) (List.getElem?_eq_getElem hi)).cell
theorem xNj {α : Type} {k : Nat} (hk : 0 < k) : ∀ (rows : List (List α)),(∀ r ∈ rows,r.length = k) → ∀ j,rows.flatten[j]? = (rows[j / k]?).bind fun r => r[j % k]?
 | [],_,j => by simp
 | r :: rows,h,j => by
  have hr := h r (by simp)
  rw [List.flatten_cons]
  by_cases hj : j < k
  ·rw [List.getElem?_append_left (by omega),Nat.div_eq_of_lt hj,Nat.mod_eq_of_lt hj]
   rfl
  ·rw [List.getElem?_append_right (by omega),xNj hk rows (fun r hr => h r (by simp [hr])) (j - r.length),hr]
   have e1 : j / k = (j - k) / k + 1 := by rw [Nat.div_eq_sub_div hk (by omega)]
   have e2 : (j - k) % k = j % k := (Nat.mod_eq_sub_mod (by omega)).symm
   rw [e1,e2,List.getElem?_cons_succ]
theorem xPN {α : Type} {k : Nat} : ∀ (rows : List (List α)),(∀ r ∈ rows,r.length = k) → rows.flatten.length = rows.length * k
 | [],_ => by simp
 | r :: rows,h => by
  rw [List.flatten_cons,List.length_append,xPN rows (fun r hr => h r (by simp [hr])),h r (by simp),List.length_cons,Nat.succ_mul]; omega
section
variable {H : Type} {enc : TypeId × Value → H} {P : Program} {w : World} {base : Nat} {sp : Nat → Bool} {held : Bool}
theorem xLl : ∀ (d fuel : Nat) (t : TypeId) (cs : List Value) (x : DataW H × List MemPlace) (css : List CS),DataW.trod enc P w base sp held fuel t cs = some x → xZm P d t = some css → ∃ avs,FitAll css avs ∧ Reps (xPP w) xKI avs cs
 | 0,_,_,_,_,_,_,hk => by cases hk
 | d + 1,fuel,t,cs,x,css,h,hk => by
  unfold xZm at hk
  split at hk
  ·rename_i ht
   cases hk
   obtain ⟨b,rfl,-⟩ := DataW.trod_bool ht h
   exact ⟨[.bool b],.one .bool,.cons .bool .nil⟩
  ·rename_i k ht
   cases hk
   obtain ⟨n,rfl,-,hw⟩ := DataW.trod_int ht h
   simp only [Lit.wf,Bool.and_eq_true,decide_eq_true_eq] at hw
   exact ⟨[.int k n],.one (.int hw.1 hw.2),.cons .int .nil⟩
  ·rename_i ht
   cases hk
   obtain ⟨s,rfl,-,hs⟩ := DataW.trod_string ht h
   exact ⟨[.str s],.one (.str hs),.cons .str .nil⟩
  ·rename_i e ht
   split at hk
   case h_2 => cases hk
   rename_i es he
   split at hk
   case isFalse => cases hk
   rename_i hes
   obtain ⟨hes1,hes2⟩ := hes
   cases hk
   rcases DataW.trod_slice ht h with ⟨rfl,-⟩ | ⟨a,len,cap,elems,rest,n,-,rfl,-,hb,hl,hm,hlen,hel,-,-⟩
   ·exact ⟨[.sl true 0 []],.one .nil,.cons .slz .nil⟩
   ·have each : ∀ i : Nat,∃ (av : List AV) (ci : List Value),i < len → (FitAll es av ∧ w.cells? base (a.add (i * P.cellsOf e)) (P.cellsOf e) = some ci ∧ Reps (xPP w) xKI av ci) := by
     intro i
     by_cases hi : i < len
     ·have h1 := hel i hi
      rw [List.getElem?_eq_getElem (by omega),Option.bind_eq_some_iff] at h1
      obtain ⟨ci,h2,h3⟩ := h1
      obtain ⟨av,h4,h5⟩ := xLl d n e ci _ es h3 he
      exact ⟨av,ci,fun _ => ⟨h4,h2,h5⟩⟩
     ·exact ⟨[],[],fun h => (hi h).elim⟩
    obtain ⟨f,hf⟩ := Classical.axiomOfChoice each
    obtain ⟨g,hg⟩ := Classical.axiomOfChoice hf
    have hrl : ∀ r ∈ (List.range len).map f,r.length = es.length := by
     intro r hr
     obtain ⟨i,hi,rfl⟩ := List.mem_map.1 hr
     exact (hg i (List.mem_range.1 hi)).1.1
    have hfit : Fit (.sl es) (.sl false len ((List.range len).map f).flatten) := by
     have := Fit.sl (es := es) (rows := (List.range len).map f) (by simp; omega) hrl (by
      intro r hr i c av h1 h2
      obtain ⟨j,hj,rfl⟩ := List.mem_map.1 hr
      exact (hg j (List.mem_range.1 hj)).1.2 i c av h1 h2)
     simpa using this
    by_cases h0 : len = 0
    ·subst h0
     exact ⟨[.sl false 0 []],.one (by simpa using hfit),.cons .sl0 .nil⟩
    ·have hvl : ∀ r ∈ (List.range len).map g,r.length = es.length := by
      intro r hr
      obtain ⟨i,hi,rfl⟩ := List.mem_map.1 hr
      have := hg i (List.mem_range.1 hi)
      rw [this.2.2.1,this.1.1]
     have hcell : ∀ i,i < len → ∀ r v,(g i)[r]? = some v → w.cell? ((a.add (i * P.cellsOf e)).add r) = some v := by
      intro i hi r v hv
      have h1 := World.cells?_some (hg i hi).2.1
      have hr : r < (g i).length := (List.getElem?_eq_some_iff.1 hv).1
      have hgl : (g i).length = es.length := by rw [(hg i hi).2.2.1,(hg i hi).1.1]
      have h2 := h1.2.2 r (by rw [← hes1]; omega)
      rw [h2]
      rw [List.getElem?_eq_getElem hr] at hv
      rw [← hv]
      simp [hr]
     have hspot : a.spot = none := by
      have hl0 : 0 < (g 0).length := by rw [(hg 0 (by omega)).2.2.1,(hg 0 (by omega)).1.1]; exact hes2
      have h1 := hcell 0 (by omega) 0 _ (List.getElem?_eq_getElem hl0)
      simp only [Nat.zero_mul,Addr.add,if_true] at h1
      unfold World.cell? at h1
      split at h1
      ·cases hs : a.spot with
       | none => rfl
       | some _ => rw [hs] at h1; simp at h1
      ·cases h1
     have hadd : ∀ i r,(a.add (i * P.cellsOf e)).add r = ⟨a.block,a.off + (i * P.cellsOf e + r),none⟩ := by
      intro i r
      obtain ⟨ab,ao,as⟩ := a
      simp only at hspot
      subst hspot
      unfold Addr.add
      by_cases h1 : i * P.cellsOf e = 0 <;> by_cases h2 : r = 0 <;> simp [h1,h2]
      omega
     have hheap : ∃ c t' fr,w.heap[a.block]? = some (.cells c t' fr) := by
      have hl0 : 0 < (g 0).length := by rw [(hg 0 (by omega)).2.2.1,(hg 0 (by omega)).1.1]; exact hes2
      have h1 := hcell 0 (by omega) 0 _ (List.getElem?_eq_getElem hl0)
      rw [hadd] at h1
      unfold World.cell? at h1
      split at h1
      ·rename_i c t' fr hh; exact ⟨c,t',fr,hh⟩
      ·cases h1
     obtain ⟨c,t',fr,hh⟩ := hheap
     have hrow : RowAt (xPP w) a.block a.off ((List.range len).map g).flatten := by
      refine ⟨c,t',fr,hh,fun j v hj => ?_⟩
      rw [xNj hes2 _ hvl,Option.bind_eq_some_iff] at hj
      obtain ⟨r,hr,hv⟩ := hj
      rw [List.getElem?_map] at hr
      cases hi : (List.range len)[j / es.length]? with
      | none => rw [hi] at hr; cases hr
      | some i =>
       rw [hi] at hr
       simp only [Option.map_some,Option.some.injEq] at hr
       subst hr
       have hlt := (List.getElem?_eq_some_iff.1 hi).1
       simp only [List.length_range] at hlt
       rw [List.getElem?_range hlt] at hi
       cases hi
       have h1 := hcell _ hlt _ v hv
       rw [hadd] at h1
       unfold World.cell? at h1
       rw [hh] at h1
       simp only [Option.isSome_none,Bool.false_eq_true,if_false] at h1
       rw [← h1,← hes1]
       congr 1
       have := Nat.div_add_mod j es.length
       rw [Nat.mul_comm] at this
       omega
     have hadr : a = ⟨a.block,a.off,none⟩ := by
      obtain ⟨ab,ao,as⟩ := a
      simp only at hspot
      subst hspot
      rfl
     refine ⟨[.sl false len ((List.range len).map f).flatten],.one hfit,.cons ?_ .nil⟩
     rw [hadr]
     refine .sl hrow ?_ hl ?_ ?_
     ·rw [xPN _ hvl,xPN _ hrl]; simp
     ·intro i av v h1 h2
      rw [xNj hes2 _ hrl,Option.bind_eq_some_iff] at h1
      rw [xNj hes2 _ hvl,Option.bind_eq_some_iff] at h2
      obtain ⟨r1,hr1,hv1⟩ := h1
      obtain ⟨r2,hr2,hv2⟩ := h2
      rw [List.getElem?_map] at hr1 hr2
      cases hi : (List.range len)[i / es.length]? with
      | none => rw [hi] at hr1; cases hr1
      | some k =>
       rw [hi] at hr1 hr2
       simp only [Option.map_some,Option.some.injEq] at hr1 hr2
       subst hr1; subst hr2
       have hlt := (List.getElem?_eq_some_iff.1 hi).1
       simp only [List.length_range] at hlt
       rw [List.getElem?_range hlt] at hi
       cases hi
       exact (hg _ hlt).2.2.2 _ _ _ hv1 hv2
     ·intro av hav
      obtain ⟨r,hr,hav⟩ := List.mem_flatten.1 hav
      obtain ⟨i,hi,rfl⟩ := List.mem_map.1 hr
      exact (hg i (List.mem_range.1 hi)).1.cells av hav
  ·rename_i fs ht
   split at hk
   case h_2 => cases hk
   rename_i cs' hks
   split at hk
   case isFalse => cases hk
   rename_i hlen'
   cases hk
   obtain ⟨xs,n,-,-,hl,hlen,hf⟩ := DataW.trod_struct ht h
   have key : ∀ (fl : List Field) (off : Nat) (cs0 : List CS),xPM (xZm P d) P off fl = some cs0 → (∀ f ∈ fl,∃ y,DataW.trod enc P w base sp held n f.type ((cs.drop f.offset).take (P.cellsOf f.type)) = some y) →
     ∃ avs,FitAll cs0 avs ∧ Reps (xPP w) xKI avs ((cs.drop off).take cs0.length) := by
    intro fl
    induction fl with
    | nil =>
     intro off cs0 h1 _
     cases h1
     exact ⟨[],.nil,by simpa using Reps.nil⟩
    | cons f fl ih =>
     intro off cs0 h1 h2
     unfold xPM at h1
     split at h1
     case h_2 => cases h1
     rename_i c1 hc1
     split at h1
     case isFalse => cases h1
     rename_i ho
     simp only [Option.map_eq_some_iff] at h1
     obtain ⟨c2,hc2,rfl⟩ := h1
     obtain ⟨y,hy⟩ := h2 f (by simp)
     obtain ⟨a1,f1,r1⟩ := xLl d n f.type _ y c1 hy hc1
     obtain ⟨a2,f2,r2⟩ := ih _ c2 hc2 (fun f hf => h2 f (by simp [hf]))
     refine ⟨a1 ++ a2,f1.append f2,?_⟩
     have : (cs.drop off).take (c1 ++ c2).length = (cs.drop f.offset).take (P.cellsOf f.type) ++ (cs.drop (off + c1.length)).take c2.length := by
      rw [ho.1,ho.2,List.length_append,List.take_add,List.drop_drop]
     rw [this]
     exact r1.append r2
   obtain ⟨avs,g1,g2⟩ := key fs.toList 0 css hks (by
    intro f hfm
    obtain ⟨i,hi,rfl⟩ := List.mem_iff_getElem.1 hfm
    have hi' : i < fs.size := by simpa using hi
    have := hf i fs[i] (by simp [hi'])
    rw [List.getElem?_eq_getElem (by omega)] at this
    exact ⟨_,by simpa using this⟩)
   refine ⟨avs,g1,?_⟩
   rw [List.drop_zero,List.take_of_length_le (by omega)] at g2
   exact g2
  ·rename_i n e ht
   split at hk
   case h_2 => cases hk
   rename_i es he
   split at hk
   case isFalse => cases hk
   rename_i hes
   cases hk
   obtain ⟨xs,m,-,-,hl,hlen,hel⟩ := DataW.trod_array ht h
   have key : ∀ k,k ≤ n → ∃ avs,FitAll (List.replicate k es).flatten avs ∧ Reps (xPP w) xKI avs (cs.take (k * es.length)) := by
    intro k
    induction k with
    | zero => intro _; exact ⟨[],.nil,by simpa using Reps.nil⟩
    | succ k ih =>
     intro hk
     obtain ⟨a1,f1,r1⟩ := ih (by omega)
     have h1 := hel k (by omega)
     rw [List.getElem?_eq_getElem (by omega)] at h1
     obtain ⟨a2,f2,r2⟩ := xLl d m e _ _ es h1 he
     refine ⟨a1 ++ a2,?_,?_⟩
     ·have := f1.append f2
      rw [List.replicate_succ',List.flatten_append]
      simpa using this
     ·have e1 : cs.take ((k + 1) * es.length) = cs.take (k * es.length) ++ (cs.drop (k * P.cellsOf e)).take (P.cellsOf e) := by
       rw [Nat.succ_mul,List.take_add,hes.1]
      rw [e1]
      exact r1.append r2
   obtain ⟨avs,g1,g2⟩ := key n (Nat.le_refl _)
   refine ⟨avs,g1,?_⟩
   rw [List.take_of_length_le (by omega)] at g2
   exact g2
  ·cases hk
structure TS where
 many : Bool
 css : List CS
def yEm (P : Program) (d : Nat) (t : TypeId) : Option TS := match P.underlying t with
 | some (.struct _) => (xZm P d t).map (TS.mk true)
 | some (.array _ _) => (xZm P d t).map (TS.mk true)
 | _ => (xZm P d t).map (TS.mk false)
def yEn (T : TS) (a : AV) : Prop := if T.many then ∃ cs,a = .agg cs ∧ FitAll T.css cs else FitAll T.css [a]
theorem yCi {d : Nat} {t : TypeId} {T : TS} {v : Value} {dd : DataW H} {ps : List MemPlace} (hT : yEm P d t = some T) (hval : Value.okWide P w .any 0 t v ∨ ∃ b,Value.okWide P w .any b t v) (h : DataW.Trod enc P w base sp held t v dd ps) :
  ∃ a,yEn T a ∧ Rep (xPP w) xKI a v := by
 have hval' : ∃ b,Value.okWide P w .any b t v := by
  rcases hval with h | h
  ·exact ⟨0,h⟩
  ·exact h
 obtain ⟨bb,hval'⟩ := hval'
 obtain ⟨fuel,h⟩ := h
 unfold yEm at hT
 split at hT
 ·rename_i fs ht
  simp only [Option.map_eq_some_iff] at hT
  obtain ⟨css,hk,rfl⟩ := hT
  obtain ⟨avs,h1,h2⟩ := xLl d fuel t _ _ css h hk
  obtain ⟨cs,rfl,-⟩ := okWide_struct ht hval'
  refine ⟨.agg avs,?_,?_⟩
  ·unfold yEn; rw [if_pos rfl]; exact ⟨avs,rfl,h1⟩
  ·have h2' : Reps (xPP w) xKI avs cs.toList := h2
   have := Rep.agg (im := xPP w) (io := xKI) (cs := avs) (vs := cs.toList) h2'.1 h2'.2 h1.cells
   simpa using this
 ·rename_i n e ht
  simp only [Option.map_eq_some_iff] at hT
  obtain ⟨css,hk,rfl⟩ := hT
  obtain ⟨avs,h1,h2⟩ := xLl d fuel t _ _ css h hk
  simp only [Value.okWide,ht] at hval'
  obtain ⟨cs,rfl,-,-⟩ := hval'
  refine ⟨.agg avs,?_,?_⟩
  ·unfold yEn; rw [if_pos rfl]; exact ⟨avs,rfl,h1⟩
  ·have h2' : Reps (xPP w) xKI avs cs.toList := h2
   have := Rep.agg (im := xPP w) (io := xKI) (cs := avs) (vs := cs.toList) h2'.1 h2'.2 h1.cells
   simpa using this
 ·rename_i hns hna
  simp only [Option.map_eq_some_iff] at hT
  obtain ⟨css,hk,rfl⟩ := hT
  obtain ⟨avs,h1,h2⟩ := xLl d fuel t _ _ css h hk
  have hc : v.cells.toList = [v] := by
   cases d with
   | zero => cases hk
   | succ d =>
    unfold xZm at hk
    unfold Value.okWide at hval'
    split at hk
    ·rename_i ht; rw [ht] at hval'; simp only [Cell.okWide,Cell.ok,ht] at hval'
     cases v <;> simp_all [Value.cells]
    ·rename_i ht; rw [ht] at hval'; simp only [Cell.okWide,Cell.ok,ht] at hval'
     cases v <;> simp_all [Value.cells]
    ·rename_i ht; rw [ht] at hval'; simp only [Cell.okWide,Cell.ok,ht] at hval'
     cases v <;> simp_all [Value.cells]
    ·rename_i e ht; rw [ht] at hval'; simp only [Cell.okWide,Cell.ok,ht] at hval'
     cases v <;> simp_all [Value.cells]
    ·rename_i fs ht; exact (hns _ ht).elim
    ·rename_i n e ht; exact (hna _ _ ht).elim
    ·cases hk
  rw [hc] at h2
  have hl := h2.1
  match avs,hl with
  | [a],_ =>
   refine ⟨a,?_,h2.2 0 a v rfl rfl⟩
   unfold yEn
   rw [if_neg (by simp)]
   exact h1
def xWb : List TS → List AV → Prop
 | [],[] => True
 | T :: Ts,a :: as => yEn T a ∧ xWb Ts as
 | _,_ => False
theorem xTL {d : Nat} : ∀ {ts : List TypeId} {Ts : List TS} {vs : List Value} {ds : List (DataW H)} {ps : List MemPlace},ts.map (yEm P d) = Ts.map some → (∀ (j : Nat) t v,ts[j]? = some t → vs[j]? = some v → Value.okWide P w .any base t v) →
  DataW.TrodAll enc P w 0 sp held ts vs ds ps → ∃ avs,xWb Ts avs ∧ Reps (xPP w) xKI avs vs ∧ ds.length = ts.length
 | [],Ts,vs,ds,ps,hT,_,h => by
  obtain ⟨rfl,rfl,-⟩ := trodAll_nil h
  cases Ts with
  | nil => exact ⟨[],trivial,.nil,rfl⟩
  | cons _ _ => cases hT
 | t :: ts,Ts,vs,ds,ps,hT,hv,h => by
  cases Ts with
  | nil => cases hT
  | cons T Ts =>
   simp only [List.map_cons,List.cons.injEq] at hT
   obtain ⟨v,vs,dd,ds,p,q,rfl,rfl,rfl,h1,h2⟩ := trodAll_cons h
   obtain ⟨a,f1,r1⟩ := yCi hT.1 (.inr ⟨base,hv 0 t v rfl rfl⟩) h1
   obtain ⟨as,f2,r2,hl⟩ := xTL hT.2 (fun j t v h1 h2 => hv (j + 1) t v h1 h2) h2
   exact ⟨a :: as,⟨f1,f2⟩,.cons r1 r2,by simp [hl]⟩
theorem xQy (hl : laidOutB P = true) {w' : World} {sp' : Nat → Bool} : ∀ {ts : List TypeId} {vs : List Value} {ds : List (DataW H)} {ps : List MemPlace},(∀ t ∈ ts,P.readableRec t = true ∧ t < P.types.size) →
  DataW.TrodAll enc P w 0 (fun _ => true) true ts vs ds ps → (∀ p ∈ ps,w.sameAt w' p) → (∀ p ∈ ps,sp' p.block = true) → DataW.TrodAll enc P w' 0 sp' true ts vs ds ps
 | [],vs,ds,ps,_,h,_,_ => by
  obtain ⟨rfl,rfl,rfl⟩ := trodAll_nil h
  rfl
 | t :: ts,vs,ds,ps,hr,h,hs,hp => by
  obtain ⟨v,vs,dd,ds,p,q,rfl,rfl,rfl,h1,h2⟩ := trodAll_cons h
  have hr0 := hr t (by simp)
  exact ⟨p,q,WideElems.Trod_stays hl hr0.1 hr0.2 h1 (fun x hx => hs x (by simp [hx])) (fun x hx => hp x (by simp [hx])),
   xQy hl (fun t ht => hr t (by simp [ht])) h2 (fun x hx => hs x (by simp [hx])) (fun x hx => hp x (by simp [hx])),rfl⟩
end
theorem xPO {H : Type} {enc : TypeId × Value → H} {P : Program} {f : Func} {s : ChangeSpec} {apart fresh handsOn again : Bool} {W W' : World} {args : Array Value} {v : Value} {ds gs : List (DataW H)} {before pa pv : List MemPlace}
  (hW : DataW.Whole enc P f.params.toList s.vars apart W args.toList ds gs before) (hb : Below W.heap.size W W')
  (hres : ∀ (b : Nat) (sp : Nat → Bool) (hd : Bool),DataW.TrodAll enc P W' b sp hd f.resultTypes.toList (v.resultList f.resultTypes.size) (s.fn H (ds ++ gs)).results [])
  (hargs : ∀ sp : Nat → Bool,(∀ p ∈ before,sp p.block = true) → DataW.TrodAll enc P W' 0 sp true f.params.toList args.toList (s.fn H (ds ++ gs)).args pa)
  (hvars : ∀ sp : Nat → Bool,(∀ p ∈ before,sp p.block = true) → DataW.TrodVars enc P W' sp s.vars (s.fn H (ds ++ gs)).vars pv)
  (hps : before = pa ++ pv)
  (hok : ∀ (j : Nat) (t : TypeId) (r : Value),f.resultTypes[j]? = some t → (v.resultList f.resultTypes.size)[j]? = some r → Value.okWide P W' .any 0 t r) :
  s.post enc P f apart fresh handsOn again W args v W' := by
 have old : ∀ p ∈ before,(fun b => decide (b < W.heap.size)) p.block = true := fun p hp => decide_eq_true (hW.lt p hp)
 refine ⟨ds,gs,before,[],pa,pv,hW,hres _ _ _,hargs _ old,hvars _ old,World.keptBut_mono (fun p hp => ⟨hp,.inr (by simpa [hps] using hp)⟩) (hb.frame _),fun _ => ?_⟩
 have hlt := hW.lt
 obtain ⟨_,_,_,_,_,hz,hn⟩ := hW
 subst hps
 refine ⟨hok,_,_,([] ++ pa) ++ pv,⟨[] ++ pa,pv,trodAll_append (hargs _ (fun _ _ => rfl)) (hres _ _ _),hvars _ (fun _ _ => rfl),rfl,fun b off hp => ?_,fun ha => hn ha⟩,fun p hp _ => hp⟩
 rw [hb.frozen (p := ⟨b,off,none⟩) (hlt _ hp)]
 exact hz b off hp
end Go.Abs
