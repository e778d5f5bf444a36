/- Regions that draw their order. -/
import Derived.Test.YtijmhicopfphnaaDoorAbsRegion
import Derived.StillTail
namespace Go.Abs
set_option linter.unusedVariables false
set_option linter.unusedSimpArgs false
open Go.RowKit
def xIX (ops : Array Oper) (i d : Nat) : Bool := match ops[i]? with
 | some o => o.after.any fun e => Region.binds .any e && e.on == d
 | none => false
def xIY (ops : Array Oper) (listed : Array Bool) : Prop := ∀ d o,ops[d]? = some o → listed.getD d false = true → ∀ e ∈ o.after,Region.binds .any e = true → listed.getD e.on false = true
def xA5 (aops : List AOper) (i : Nat) : Option Nat := (aops[i]?).bind (·.dst)
inductive Bef (ops : Array Oper) : Nat → Nat → Prop
 | one {i d : Nat} (h : xIX ops i d = true) : Bef ops i d
 | more {i e d : Nat} (h : xIX ops i e = true) (k : Bef ops e d) : Bef ops i d
def xBE (ops : Array Oper) : Nat → List (List Nat)
 | 0 => []
 | n + 1 => let r := xBE ops n; r ++ [(List.range n).filter fun d => xIX ops n d || (List.range n).any fun e => xIX ops n e && (r.getD e []).contains d]
def xKm (rs : List (List Nat)) (i d : Nat) : Bool := (rs.getD i []).contains d
theorem xJW (ops : Array Oper) : ∀ n,(xBE ops n).length = n
 | 0 => rfl
 | n + 1 => by simp [xBE,xJW ops n]
theorem xIa (ops : Array Oper) : ∀ n i d,xKm (xBE ops n) i d = true → Bef ops i d
 | 0,i,d,h => by simp [xKm,xBE] at h
 | n + 1,i,d,h => by
  have hl := xJW ops n
  rcases Nat.lt_trichotomy i n with q | q | q
  ·refine xIa ops n i d ?_
   simpa [xKm,xBE,List.getD,List.getElem?_append_left (by omega : i < (xBE ops n).length)] using h
  ·subst q
   simp only [xKm,xBE,List.getD] at h
   rw [List.getElem?_append_right (by omega),hl,Nat.sub_self] at h
   simp only [List.getElem?_cons_zero,Option.getD_some,List.contains_iff_mem,List.mem_filter,Bool.or_eq_true,List.any_eq_true,Bool.and_eq_true] at h
   rcases h.2 with h1 | ⟨e,_,h1,h2⟩
   ·exact .one h1
   ·refine .more h1 (xIa ops i e d ?_)
    simp only [xKm,List.getD]
    simpa [List.contains_iff_mem] using h2
  ·have hn := xJW ops (n + 1)
   have : (xBE ops (n + 1))[i]? = none := List.getElem?_eq_none (by omega)
   simp only [xKm,List.getD,this,Option.getD_none] at h
   simp at h
def xFf : AOp → Bool
 | .mov _ | .pick .. | .bin .. | .beq .. | .aeq .. | .un .. | .conv .. | .ext .. | .faddr .. | .field .. | .iaddr .. | .len _ | .cap _ | .isnil .. | .maxi .. | .mini .. | .nilchk _ | .mkfunc .. | .slice .. | .idx .. | .arrat .. | .garr .. | .sidx .. | .slen .. | .mm .. | .sslice .. | .sbeq .. | .mkbound .. | .dslice .. => true
 | _ => false
def xKS (aops : List AOper) (e q : Nat) : Bool := match aops[e]? with | some ao => xBk ao.op && ao.dst == some q | none => false
def xVo (aops : List AOper) (i d q : Nat) : Bool := match aops[i]? with
 | some ⟨some d',.mov (.t q'),none⟩ => d' == d && q' == q && decide (q < 4096) && (List.range i).any fun e => xKS aops e q
 | some ⟨some d',.ext j (.t p),none⟩ => d' == d && q / 4096 == j + 1 && (List.range i).any fun i' => (match aops[i']? with
  | some ⟨some p',.mov (.t q'),none⟩ => p' == p && q' == q % 4096
  | _ => false) && (List.range i').any fun e => xKS aops e (q % 4096)
 | _ => false
theorem xKn {aops : List AOper} {e q : Nat} (h : xKS aops e q = true) : ∃ ao,aops[e]? = some ao ∧ xBk ao.op = true ∧ ao.dst = some q := by
 unfold xKS at h
 split at h
 ·rename_i ao hao
  simp only [Bool.and_eq_true,beq_iff_eq] at h
  exact ⟨ao,hao,h.1,h.2⟩
 ·cases h
theorem xIk {aops : List AOper} {i d q : Nat} (h : xVo aops i d q = true) :
  (aops[i]? = some ⟨some d,.mov (.t q),none⟩ ∧ q < 4096 ∧ ∃ e,e < i ∧ xKS aops e q = true) ∨ ∃ j p i',aops[i]? = some ⟨some d,.ext j (.t p),none⟩ ∧ q / 4096 = j + 1 ∧ i' < i ∧ aops[i']? = some ⟨some p,.mov (.t (q % 4096)),none⟩ ∧ ∃ e,e < i' ∧ xKS aops e (q % 4096) = true := by
 unfold xVo at h
 split at h
 ·rename_i d' q' e
  simp only [Bool.and_eq_true,beq_iff_eq,decide_eq_true_eq,List.any_eq_true,List.mem_range] at h
  obtain ⟨⟨⟨rfl,rfl⟩,hq⟩,k,hk,hl⟩ := h
  exact .inl ⟨e,hq,k,hk,hl⟩
 ·rename_i d' j p e
  simp only [Bool.and_eq_true,beq_iff_eq,List.any_eq_true,List.mem_range] at h
  obtain ⟨⟨rfl,hq⟩,i',hi',hm,k,hk,hl⟩ := h
  refine .inr ⟨j,p,i',e,hq,hi',?_,k,hk,hl⟩
  split at hm
  ·rename_i p' q' e'
   simp only [Bool.and_eq_true,beq_iff_eq] at hm
   obtain ⟨rfl,rfl⟩ := hm
   exact e'
  ·cases hm
 ·cases h
def xME (als : List (Nat × Nat)) (aops : List AOper) (i : Nat) : Bool := als.any fun p => xVo aops i p.1 p.2
def xJu (op : AOp) : Bool := xFf op || (match op with
 | .build .. | .bslice true .. | .load .. => true
 | _ => false)
def xHJ (als : List (Nat × Nat)) (aops : List AOper) (i : Nat) : Bool := (match aops[i]? with | some ao => xBk ao.op | none => false) || xME als aops i
def yCr (als : List (Nat × Nat)) (m : Nat) (aops : List AOper) : Bool := als.all fun p => (List.range m).any fun i => xVo aops i p.1 p.2
def xJv (aops : List AOper) (i : Nat) : List Nat := match aops[i]? with | some ao => ao.reads | none => []
def xWf (als : List (Nat × Nat)) (m : Nat) (aops : List AOper) (i : Nat) : Bool := match aops[i]? with
 | some ao => xFf ao.op && !xME als aops i && ao.reads.all fun t => (List.range m).all fun d => !(xHJ als aops d && xA5 aops d == some t)
 | none => false
def xHF (aops : List AOper) (i : Nat) : Option (Nat × Nat) := match aops[i]? with
 | some ⟨_,.load _ n (.t p),none⟩ => some (p,n)
 | _ => none
def xJX (als : List (Nat × Nat)) (m : Nat) (aops : List AOper) (i : Nat) : Bool := xWf als m aops i || match xHF aops i with
 | some (p,_) => ((List.range m).all fun d => !(xHJ als aops d && xA5 aops d == some p)) && ((List.range aops.length).all fun j => decide (j < i) || xA5 aops j != some p)
 | none => false
def xWg (hs : List (Nat × Nat × Nat)) (ls : List (Nat × Nat × Nat × Nat)) (aops : List AOper) (k d : Nat) : Bool := match xHF aops d with
 | none => true
 | some (p,n) => match aops[k]? with
  | some ao => xJu ao.op || hs.contains (p,n,k) || (match ao.op with
   | .store n' (.t q) _ => ls.contains (p,n,q,n') && (List.range aops.length).all fun j => decide (j < k) || xA5 aops j != some q
   | .append _ _ _ (.t q) _ => ls.contains (p,n,q,0) && (List.range aops.length).all fun j => decide (j < k) || xA5 aops j != some q
   | _ => false)
  | none => false
def xMF : AOp → Bool
 | .load .. => true
 | _ => false
def xGM (rs : List (List Nat)) (aops : List AOper) (d : Nat) : Bool := match aops[d]? with
 | some ao => (xFf ao.op || xMF ao.op) &&
  ((List.range aops.length).all fun j => j == d || ao.dst == none || xA5 aops j != ao.dst) &&
  (ao.reads.all fun t => (List.range aops.length).all fun j => xA5 aops j != some t || xKm rs d j)
 | none => false
def xPV (aops : List AOper) (k d : Nat) : Bool := match aops[d]? with
 | some ao => !xMF ao.op || (match aops[k]? with | some ak => xJu ak.op | none => false)
 | none => false
def xJY (hs : List (Nat × Nat × Nat)) (als : List (Nat × Nat)) (ls : List (Nat × Nat × Nat × Nat)) (m : Nat) (ops : Array Oper) (aops : List AOper) : Bool :=
 let rs := xBE ops ops.size
 yCr als m aops && decide (m ≤ ops.size) &&
 ((List.range ops.size).all fun i => match ops[i]? with | some o => o.after.all (fun e => !Region.binds .any e || decide (e.on < i)) | none => false) &&
 ((List.range m).all fun i => (List.range i).all fun j => xA5 aops i == none || xA5 aops i != xA5 aops j) &&
 ((List.range m).all fun i => (xJv aops i).all fun s => (List.range m).all fun d => xA5 aops d != some s || xKm rs i d || d == i || xKm rs d i) &&
 ((List.range m).all fun i => match aops[i]? with | some ao => !xBk ao.op || (ao.guard.isNone && ao.dst.isSome) | none => true) &&
 ((List.range (ops.size - m)).all fun k => (List.range (m + k)).all fun d => xKm rs (m + k) d ||
  (((decide (d < m) && xJX als m aops d && xWg hs ls aops (m + k) d) || (decide (m ≤ d) && xGM rs aops d && xPV aops (m + k) d)) && (match xA5 aops d with | some t => !(xJv aops (m + k)).contains t && xA5 aops (m + k) != some t | none => true))) &&
 ((List.range (ops.size - m)).all fun k => (List.range m).all fun d => match xA5 aops (m + k) with | some t => !(xJv aops d).contains t || xKm rs (m + k) d | none => true)
theorem xJ8 {ops : Array Oper} {listed : Array Bool} (hcl : xIY ops listed) {i d : Nat} (h : Bef ops i d) (hi : ∀ e,xIX ops i e = true → listed.getD e false = true) : listed.getD d false = true := by
 induction h with
 | one h => exact hi _ h
 | more h k ih =>
  refine ih fun e he => ?_
  have := hi _ h
  simp only [xIX] at he
  split at he
  ·rename_i o ho
   simp only [Array.any_eq_true,Bool.and_eq_true,beq_iff_eq] at he
   obtain ⟨q,hq,hb,hon⟩ := he
   have := hcl _ o ho this _ (Array.getElem_mem hq) hb
   rwa [hon] at this
  ·cases he
theorem xJZ {ops : Array Oper} {listed : Array Bool} (hcl : xIY ops listed) {i : Nat} (h : listed.getD i false = true) : ∀ e,xIX ops i e = true → listed.getD e false = true := by
 intro e he
 simp only [xIX] at he
 split at he
 ·rename_i o ho
  simp only [Array.any_eq_true,Bool.and_eq_true,beq_iff_eq] at he
  obtain ⟨q,hq,hb,hon⟩ := he
  have := hcl _ o ho h _ (Array.getElem_mem hq) hb
  rwa [hon] at this
 ·cases he
theorem xNE {ops : Array Oper} (hlt : ∀ i d,xIX ops i d = true → d < i) {i d : Nat} (h : Bef ops i d) : d < i := by
 induction h with
 | one h => exact hlt _ _ h
 | more h k ih => have := hlt _ _ h; omega
section
variable {chk : Code → ACode → Bool} {P : Program} {o : Oper} {a : Act} {im : Im} {io : Io} {H H' : Heap} {w : World} {F : List AV} {R : Rec} {v : AV}
def FreeAt (R : Rec) (H : Heap) (F : List AV) (ao : AOper) (v : AV) : Prop :=
 (xH9 F ao.guard = some true ∧ xAO R F H ao.op = some v) ∨ (xH9 F ao.guard = some false ∧ v = .tup [])
theorem xL5 {ao : AOper} {s s1 : St} (h : xCW R ao s = some s1) : ∃ v,FreeAt R s.H s.F ao v ∧ s1 = ⟨putA s.F ao.dst v,s.H⟩ := by
 unfold xCW at h
 split at h
 ·cases h
 ·rename_i hw; cases h; exact ⟨_,.inr ⟨hw,rfl⟩,rfl⟩
 ·rename_i hw
  simp only [Option.map_eq_some_iff] at h
  obtain ⟨v,h1,rfl⟩ := h
  exact ⟨v,.inl ⟨hw,h1⟩,rfl⟩
def xGE (aops : List AOper) (s : Nat) : Bool := aops.any fun o => o.dst == some s
theorem xE5 (F : List AV) (d : Option Nat) (v : AV) : (putA F d v).length = F.length := by cases d <;> simp [putA]
theorem xD2 (F : List AV) (d : Option Nat) (v : AV) (s : Nat) : (putA F d v).getD s .any = if d = some s ∧ s < F.length then v else F.getD s .any := by
 cases d with
 | none => simp [putA]
 | some d =>
  simp only [putA,List.getD,List.getElem?_set]
  by_cases e : d = s
  ·subst e
   by_cases hl : d < F.length
   ·simp [hl]
   ·simp [hl]
  ·simp [e]
theorem xMZ : ∀ (aops : List AOper) (F0 : List AV) (H : Heap) (s1 : St) (pl : List Pr),xA6 R aops ⟨F0,H⟩ = some (s1,pl) → (∀ i j s,i < j → xA5 aops i = some s → xA5 aops j = some s → False) →
  s1.H = H ∧ s1.F.length = F0.length ∧ pl.length = aops.length ∧ (∀ s,xGE aops s = false → s1.F.getD s .any = F0.getD s .any) ∧
  ∀ i ao,aops[i]? = some ao → ∃ Fi,Fi.length = F0.length ∧ (∀ s,Fi.getD s .any = if xGE (aops.take i) s then s1.F.getD s .any else F0.getD s .any) ∧
   ((xBk ao.op = false ∧ pl[i]? = some none ∧ ∃ v,FreeAt R H Fi ao v ∧ (∀ s,ao.dst = some s → s < F0.length → s1.F.getD s .any = v)) ∨
    (xBk ao.op = true ∧ ∃ t v B,ao.dst = some t ∧ xJn R Fi ao.op = some (v,B) ∧ pl[i]? = some (some (t,v,B)) ∧ (t < F0.length → s1.F.getD t .any = xIn v)))
 | [],F0,H,s1,pl,h,_ => by
  simp only [xA6] at h; cases h
  exact ⟨rfl,rfl,rfl,fun _ _ => rfl,fun i ao hi => by simp at hi⟩
 | ao :: rest,F0,H,s1,pl,h,hd => by
  have hrd : ∀ i j s,i < j → xA5 rest i = some s → xA5 rest j = some s → False := fun i j s hij hi hj => hd (i + 1) (j + 1) s (by omega) (by simpa [xA5] using hi) (by simpa [xA5] using hj)
  have hno : ∀ s,ao.dst = some s → xGE rest s = false := by
   intro s hs
   rw [Bool.eq_false_iff]
   intro hw
   simp only [xGE,List.any_eq_true,beq_iff_eq] at hw
   obtain ⟨o',ho',hds⟩ := hw
   obtain ⟨j,hj,e⟩ := List.mem_iff_getElem.1 ho'
   exact hd 0 (j + 1) s (by omega) (by simp [xA5,hs]) (by simp [xA5,List.getElem?_eq_getElem hj,e,hds])
  have fin : ∀ (v : AV) (e : Pr) (pl' : List Pr),xA6 R rest ⟨putA F0 ao.dst v,H⟩ = some (s1,pl') → pl = e :: pl' →
    ((xBk ao.op = false ∧ e = none ∧ FreeAt R H F0 ao v) ∨ (xBk ao.op = true ∧ ∃ t w B,ao.dst = some t ∧ xJn R F0 ao.op = some (w,B) ∧ e = some (t,w,B) ∧ v = xIn w)) →
    s1.H = H ∧ s1.F.length = F0.length ∧ pl.length = (ao :: rest).length ∧ (∀ s,xGE (ao :: rest) s = false → s1.F.getD s .any = F0.getD s .any) ∧
    ∀ i ao',(ao :: rest)[i]? = some ao' → ∃ Fi,Fi.length = F0.length ∧ (∀ s,Fi.getD s .any = if xGE ((ao :: rest).take i) s then s1.F.getD s .any else F0.getD s .any) ∧
     ((xBk ao'.op = false ∧ pl[i]? = some none ∧ ∃ v,FreeAt R H Fi ao' v ∧ (∀ s,ao'.dst = some s → s < F0.length → s1.F.getD s .any = v)) ∨
      (xBk ao'.op = true ∧ ∃ t v B,ao'.dst = some t ∧ xJn R Fi ao'.op = some (v,B) ∧ pl[i]? = some (some (t,v,B)) ∧ (t < F0.length → s1.F.getD t .any = xIn v))) := by
   intro v e pl' h0 hpl hk
   subst hpl
   obtain ⟨e1,e2,e0,e3,e4⟩ := xMZ rest _ H s1 pl' h0 hrd
   refine ⟨e1,by rw [e2,xE5],by simp [e0],fun s hs => ?_,fun i ao' hi => ?_⟩
   ·simp only [xGE,List.any_cons,Bool.or_eq_false_iff,beq_eq_false_iff_ne,ne_eq] at hs
    rw [e3 s hs.2,xD2,if_neg (fun q => hs.1 q.1)]
   ·cases i with
    | zero =>
     simp at hi; subst hi
     refine ⟨F0,rfl,fun s => by simp [xGE],?_⟩
     have hval : ∀ s,ao.dst = some s → s < F0.length → s1.F.getD s .any = v := fun s hs hlt => by
      rw [e3 s (hno s hs),xD2,if_pos ⟨hs,hlt⟩]
     rcases hk with ⟨k1,k2,k3⟩ | ⟨k1,t,w,B,k2,k3,k4,k5⟩
     ·exact .inl ⟨k1,by simp [k2],v,k3,hval⟩
     ·exact .inr ⟨k1,t,w,B,k2,k3,by simp [k4],fun hlt => by rw [hval t k2 hlt,k5]⟩
    | succ i =>
     simp at hi
     obtain ⟨Fi,g2,g3,g⟩ := e4 i ao' hi
     refine ⟨Fi,by rw [g2,xE5],fun s => ?_,?_⟩
     ·have ew : xGE ((ao :: rest).take (i + 1)) s = (ao.dst == some s || xGE (rest.take i) s) := rfl
      rw [g3 s,ew]
      by_cases hw : xGE (rest.take i) s = true
      ·rw [hw]; simp
      ·have hw' : xGE (rest.take i) s = false := by simpa using hw
       rw [hw']
       by_cases hs : ao.dst = some s
       ·have q1 : (ao.dst == some s) = true := by simp [hs]
        rw [q1]
        simp only [Bool.false_eq_true,if_false,Bool.or_false,if_true]
        rw [xD2,e3 s (hno s hs),xD2]
       ·have q1 : (ao.dst == some s) = false := by simpa using hs
        rw [q1]
        simp only [Bool.false_eq_true,if_false,Bool.or_false]
        rw [xD2,if_neg (fun q => hs q.1)]
     ·rcases g with ⟨k1,k2,v',k3,k4⟩ | ⟨k1,t,w,B,k2,k3,k4,k5⟩
      ·exact .inl ⟨k1,by simpa using k2,v',k3,fun s hs hlt => k4 s hs (by rw [xE5]; exact hlt)⟩
      ·exact .inr ⟨k1,t,w,B,k2,k3,by simpa using k4,fun hlt => k5 (by rw [xE5]; exact hlt)⟩
  simp only [xA6] at h
  split at h
  ·rename_i hp
   split at h
   ·rename_i t v B hdst hpv
    simp only [Option.map_eq_some_iff] at h
    obtain ⟨⟨s2,l2⟩,h2,e⟩ := h
    cases e
    exact fin (xIn v) _ l2 (by rw [hdst]; exact h2) rfl (.inr ⟨hp,t,v,B,hdst,hpv,rfl,rfl⟩)
   ·cases h
  ·rename_i hp
   split at h
   ·cases h
   rename_i s' h1
   obtain ⟨v,hv,rfl⟩ := xL5 h1
   simp only [Option.map_eq_some_iff] at h
   obtain ⟨⟨s2,l2⟩,h2,e⟩ := h
   cases e
   exact fin v _ l2 h2 rfl (.inl ⟨by simpa using hp,rfl,hv⟩)
def mix (aops : List AOper) (D : Nat → Bool) (F0 Fm : List AV) : List AV :=
 (List.range F0.length).map fun s => if (List.range aops.length).any (fun k => D k && xA5 aops k == some s) then Fm.getD s .any else F0.getD s .any
def hit (aops : List AOper) (D : Nat → Bool) (s : Nat) : Bool := (List.range aops.length).any fun k => D k && xA5 aops k == some s
theorem xGl (aops : List AOper) (D : Nat → Bool) (F0 Fm : List AV) : (mix aops D F0 Fm).length = F0.length := by simp [mix]
theorem xJw (aops : List AOper) (D : Nat → Bool) (F0 Fm : List AV) (s : Nat) (hl : Fm.length = F0.length) : (mix aops D F0 Fm).getD s .any = if hit aops D s then Fm.getD s .any else F0.getD s .any := by
 unfold mix hit
 by_cases hs : s < F0.length
 ·simp only [List.getD,List.getElem?_map,List.getElem?_range hs,Option.map_some,Option.getD_some]
 ·have e1 : F0.getD s .any = .any := by simp [List.getD,List.getElem?_eq_none (Nat.le_of_not_lt hs)]
  have e2 : Fm.getD s .any = .any := by simp [List.getD,List.getElem?_eq_none (by omega : Fm.length ≤ s)]
  rw [e1,e2]
  have : (List.range F0.length)[s]? = none := List.getElem?_eq_none (by simp; omega)
  simp [List.getD,this]
theorem xIl {F F' : List AV} (hl : F.length = F'.length) (h : ∀ s,F.getD s .any = F'.getD s .any) : F = F' := by
 apply List.ext_getElem hl
 intro i h1 h2
 have := h i
 simpa [List.getD,List.getElem?_eq_getElem h1,List.getElem?_eq_getElem h2] using this
def yEh : Nat → Value → Value → Prop
 | 0,y,x => y = x
 | i + 1,y,x => ∃ l,x = .tuple l ∧ l[i]? = some y
theorem yCs {k : Nat} {y x : Value} {v : AV} (hp : yEh k y x) (h : Rep im io v x) : Rep im io (xZM k v) y := by
 cases k with
 | zero =>
  have e : y = x := hp
  rw [e]
  exact h
 | succ i =>
  obtain ⟨l,rfl,hl⟩ := hp
  cases v with
  | tup cs =>
   show Rep im io (cs.getD i .any) y
   cases h with
   | tup h1 h2 =>
    rename_i vs
    have hv : vs[i]? = some y := by simpa using hl
    by_cases hi : i < cs.length
    ·have := h2 i cs[i] y (List.getElem?_eq_getElem hi) hv
     rw [List.getD_eq_getElem?_getD,List.getElem?_eq_getElem hi]
     exact this
    ·rw [List.getD_eq_getElem?_getD,List.getElem?_eq_none (by omega)]
     exact .any _
  | _ => exact .any _
theorem xVp {io' : Io} {x : Value} {v : AV} (h : Rep im io v x) : Rep im io' (xIn v) x := by
 cases v with
 | tup cs =>
  cases h with
  | tup h1 h2 =>
   refine .tup (by simpa using h1) (fun i c v hc hv => ?_)
   simp only [List.getElem?_map,Option.map_eq_some_iff] at hc
   obtain ⟨c0,hc0,rfl⟩ := hc
   have := h2 i c0 v hc0 hv
   cases c0 with
   | int k n => cases this; exact .int
   | bool b => cases this; exact .bool
   | _ => exact .any _
 | _ => exact .any _
theorem FRep.putS {t : Nat} {x : Value} {v : AV} (h : FRep im io F a) (hx : ∀ y,(a.put (some t) x).tmps.toList[t]? = some y → Rep im io v y) : FRep im io (putA F (some t) v) (a.put (some t) x) := by
 refine ⟨?_,fun i c y hc hy => ?_⟩
 ·have := h.1
  simpa [putA,Act.put] using this
 ·by_cases e : i = t
  ·subst e
   have hc' : (F.set i v)[i]? = some c := hc
   have : i < F.length := by
    have := (List.getElem?_eq_some_iff.1 hc').1
    simpa using this
   rw [List.getElem?_set_self this] at hc'
   cases hc'
   exact hx y hy
  ·have hc' : (F.set t v)[i]? = some c := hc
   rw [List.getElem?_set_ne (fun q => e q.symm)] at hc'
   have hy' : (a.put (some t) x).tmps.toList[i]? = some y := hy
   have hz : (a.put (some t) x).tmps.toList = a.tmps.toList.set t x := by
    show (a.tmps.setIfInBounds t x).toList = _
    rw [Array.toList_setIfInBounds]
   rw [hz,List.getElem?_set_ne (fun q => e q.symm)] at hy'
   exact h.2 i c y hc' hy'
theorem xNF (hR : RecOk chk P R) {ops : Array Oper} {ao : AOper} {r : Option Nat} {n i : Nat} {Q : Exit → Act → World → Prop} {K : Act → World → Prop} (hi : ops[i]? = some o) (hd : o.dst = ao.dst) (hc : xAI P o ao.op = true) (hg : xLm ops o.guard ao.guard = true)
  (hna : xNT ao.op = false) (hs : Sim chk im io H w) (hF : FRep im io F a) (h : FreeAt R H F ao v)
  (hK : ∀ im' io' a' w',Step im io w im' io' w' → Sim chk im' io' H w' → FRep im' io' (putA F ao.dst v) a' → a'.defers = a.defers → (∃ x,a' = a.put ao.dst x ∧ (∀ q,ao.op = .mov (.t q) → ao.guard = none → x = a.tmps.getD q undef) ∧ ∀ j p,ao.op = .ext j (.t p) → ao.guard = none → yEh (j + 1) x (a.tmps.getD p undef)) → K a' w') : wpOpIn (Fw r) n P ops Q i K a w := by
 unfold wpOpIn
 simp only [hi]
 rcases h with ⟨hw,h⟩ | ⟨hw,rfl⟩
 ·rw [xJz hg hF hw]
  simp only [if_true]
  by_cases hm : ∃ q,ao.op = .mov (.t q)
  ·obtain ⟨q,hq⟩ := hm
   have hex := xNL hna h
   rw [hq] at hc hex
   have hv : v = F.getD q .any := by
    simp only [xAc,opv,Option.some.injEq,Prod.mk.injEq] at hex
    exact hex.1.symm
   subst hv
   refine ⟨fun f _ => trivial,?_⟩
   rw [Oper.semAt_eq _ _ _ (xNN hc)]
   have hrun : (execOp a.eval o).run P w = .ok (.value (a.tmps.getD q undef)) w := by
    simp only [xAI] at hc
    have key : ∀ y,xBq y (.t q) = true → a.eval y = a.tmps.getD q undef := by
     intro y hy
     unfold xBq at hy
     split at hy
     ·rename_i i j e1; cases e1; simp at hy; subst hy; rfl
     all_goals first | (rename_i e1; cases e1; done) | cases hy
    split at hc
    ·rename_i y ho; simp [execOp,ho,key y hc]
    ·rename_i y ho; simp [execOp,ho,key y hc]
    ·cases hc
   rw [hrun]
   show K (a.put o.dst _) w
   rw [hd]
   refine hK im io _ w (.refl _ _ _) hs ?_ (xEY _ _ _) ⟨_,rfl,fun q' e _ => ?_,fun j p e _ => ?_⟩
   ·exact hF.put _ (hF.getD q)
   ·rw [hq] at e; cases e; rfl
   ·rw [hq] at e; cases e
  ·by_cases hm2 : ∃ j p,ao.op = .ext j (.t p)
   ·obtain ⟨j,p,hq⟩ := hm2
    have hex := xNL hna h
    rw [hq] at hc hex
    simp only [xAc,opv] at hex
    split at hex
    case h_2 => cases hex
    rename_i vs hvs
    simp only [Option.map_eq_some_iff,Prod.mk.injEq] at hex
    obtain ⟨v',hv1,rfl,_⟩ := hex
    have hrp := hF.getD p
    rw [hvs] at hrp
    refine ⟨fun f _ => trivial,?_⟩
    rw [Oper.semAt_eq _ _ _ (xNN hc)]
    generalize hcv : a.tmps.getD p undef = cv at hrp
    cases hrp with
    | tup hl hcc =>
     rename_i ws
     obtain ⟨xv,hx1,hx2⟩ := Reps.get (vs := ws) ⟨hl,hcc⟩ hv1
     have hrun : (execOp a.eval o).run P w = .ok (.value xv) w := by
      simp only [xAI] at hc
      have key : ∀ y,xBq y (.t p) = true → a.eval y = a.tmps.getD p undef := by
       intro y hy
       unfold xBq at hy
       split at hy
       ·rename_i i j e1; cases e1; simp at hy; subst hy; rfl
       all_goals first | (rename_i e1; cases e1; done) | cases hy
      split at hc
      ·rename_i y i' ho
       simp only [Bool.and_eq_true,beq_iff_eq] at hc
       obtain ⟨rfl,hy⟩ := hc
       simp [execOp,ho,key y hy,hcv,Instr.extract,hx1]
      ·cases hc
     rw [hrun]
     show K (a.put o.dst _) w
     rw [hd]
     refine hK im io _ w (.refl _ _ _) hs (hF.put _ hx2) (xEY _ _ _) ⟨_,rfl,fun q' e _ => ?_,fun j' p' e _ => ?_⟩
     ·rw [hq] at e; cases e
     ·rw [hq] at e; cases e
      rw [hcv]
      exact ⟨_,rfl,by simpa using hx1⟩
   ·refine Oper.wpIn_mono ?_ (xPZ hR hc hs hF (xNL hna h) Q)
    rintro a' w' ⟨im',io',t1,t2,t3,t4,x,t5⟩
    rw [hd] at t3 t5
    exact hK im' io' a' w' t1 t2 t3 t4 ⟨x,t5,fun q e _ => (hm ⟨q,e⟩).elim,fun j p e _ => (hm2 ⟨j,p,e⟩).elim⟩
 ·rw [xJz hg hF hw]
  simp only [Bool.false_eq_true,if_false]
  refine ⟨fun f _ => trivial,?_⟩
  rw [hd]
  exact hK im io _ w (.refl _ _ _) hs (hF.put ao.dst (.tup (vs := []) rfl (fun i c v h => by simp at h))) (xEY _ _ _) ⟨_,rfl,fun q _ hg' => by rw [hg'] at hw; simp [xH9] at hw,fun j p _ hg' => by rw [hg'] at hw; simp [xH9] at hw⟩
theorem xJl : ∀ (als : List (Nat × Nat)) (F : List AV),(xHY als F).length = F.length
 | [],F => rfl
 | (d,q) :: r,F => by rw [xHY,xJl r]; simp
theorem xL6 (F : List AV) (d : Nat) (v : AV) (t : Nat) : (F.set d v).getD t .any = if d = t ∧ t < F.length then v else F.getD t .any := by
 simp only [List.getD,List.getElem?_set]
 by_cases h : d = t
 ·subst h
  by_cases h2 : d < F.length
  ·simp [h2]
  ·simp [h2,List.getElem?_eq_none (Nat.le_of_not_lt h2)]
 ·simp [h]
theorem xJ9 : ∀ (als : List (Nat × Nat)) (F : List AV) (t : Nat),(∀ q,(t,q) ∉ als) → (xHY als F).getD t .any = F.getD t .any
 | [],F,t,_ => rfl
 | (d,q) :: r,F,t,h => by
  rw [xHY,xJ9 r _ t (fun q' hq => h q' (by simp [hq])),xL6,if_neg]
  rintro ⟨e,-⟩
  subst e
  exact h q (by simp)
theorem xMG : ∀ (als : List (Nat × Nat)) (F : List AV) (t q : Nat),(t,q) ∈ als → (∀ d q1 q2,(d,q1) ∈ als → (d,q2) ∈ als → q1 = q2) → (∀ d q1 q2,(d,q1) ∈ als → (q1 % 4096,q2) ∉ als) → t < F.length → (xHY als F).getD t .any = xZM (q / 4096) (F.getD (q % 4096) .any)
 | (d,q') :: r,F,t,q,h,h1,h2,hl => by
  have hq : ∀ q2,(q % 4096,q2) ∉ (d,q') :: r := fun q2 => h2 t q q2 h
  have xGC : (F.set d (xZM (q' / 4096) (F.getD (q' % 4096) .any))).getD (q % 4096) .any = F.getD (q % 4096) .any := by
   rw [xL6,if_neg]
   rintro ⟨e,-⟩
   subst e
   exact hq q' (by simp)
  by_cases hr : (t,q) ∈ r
  ·rw [xHY,xMG r _ t q hr (fun d q1 q2 a b => h1 d q1 q2 (by simp [a]) (by simp [b])) (fun d q1 q2 a b => h2 d q1 q2 (by simp [a]) (by simp [b])) (by simpa using hl),xGC]
  ·rcases List.mem_cons.1 h with e | e
   ·cases e
    rw [xHY,xJ9 r]
    ·rw [xL6,if_pos ⟨rfl,hl⟩]
    ·intro q2 hq2
     have := h1 _ _ q2 List.mem_cons_self (by simp [hq2])
     subst this
     exact hr hq2
   ·exact (hr e).elim
def PrivAt (B0 : Nat) (im : Im) (io : Io) (w : World) (a : Act) (t : Nat) (v : AV) (B : List Blk) (ios : List (Option (Nat × Nat))) : Prop :=
 PrivB B0 im io w B ios ∧ xJ4 v = true ∧ ∀ y,a.tmps.toList[t]? = some y → Rep im (xKb ios) v y
theorem PrivAt.step {B0 t : Nat} {v : AV} {B : List Blk} {ios : List (Option (Nat × Nat))} {im' : Im} {io' : Io} {w' : World} {a' : Act} (h : PrivAt B0 im io w a t v B ios) (hs : Step im io w im' io' w') (ha : a'.tmps.toList[t]? = a.tmps.toList[t]?) : PrivAt B0 im' io' w' a' t v B ios :=
 ⟨h.1.step hs,h.2.1,fun y hy => (h.2.2 y (by rw [← ha]; exact hy)).mono hs.im_le (.refl _)⟩
theorem PrivB.low {B0 B1 : Nat} {B : List Blk} {ios : List (Option (Nat × Nat))} (h : PrivB B1 im io w B ios) (hl : B0 ≤ B1) : PrivB B0 im io w B ios where
 len := h.len
 blk k bk hk := by
  rcases h.blk k bk hk with e | ⟨cs,b,c,t,fr,hfr,e1,e2,e3,e4,e5,e6,e7⟩
  ·exact .inl e
  ·exact .inr ⟨cs,b,c,t,fr,hfr,e1,e2,e3,e4,e5,by omega,e7⟩
 inj := h.inj
theorem PrivB.notOwn {B0 : Nat} {io' : Io} {B : List Blk} {ios : List (Option (Nat × Nat))} (h : PrivB B0 im io w B ios) (hn : ∀ k b s,xKb ios k = some (b,s) → ¬ Own io' b) : PrivB B0 im io' w B ios where
 len := h.len
 blk k bk hk := by
  rcases h.blk k bk hk with e | ⟨cs,b,c,t,fr,hfr,e1,e2,e3,e4,e5,e6,e7⟩
  ·exact .inl e
  ·exact .inr ⟨cs,b,c,t,fr,hfr,e1,e2,e3,e4,hn k b _ e2,e6,e7⟩
 inj := h.inj
theorem xKa {a : Act} {dst : Option Nat} {x : Value} {d : Nat} (h : dst ≠ some d) : (a.put dst x).tmps.toList[d]? = a.tmps.toList[d]? := by
 cases dst with
 | none => rfl
 | some e =>
  show (a.tmps.setIfInBounds e x).toList[d]? = _
  rw [Array.toList_setIfInBounds,List.getElem?_set_ne (fun q => h (by rw [q]))]
theorem Reps.setL {cs : List AV} {vs : List Value} (h : Reps im io cs vs) (d : Nat) {v : AV} (hx : ∀ y,vs[d]? = some y → Rep im io v y) : Reps im io (cs.set d v) vs := by
 refine ⟨by simp [h.1],fun j c u h1 h2 => ?_⟩
 rw [List.getElem?_set] at h1
 split at h1
 ·rename_i e
  subst e
  split at h1
  ·cases h1; exact hx u h2
  ·cases h1
 ·exact h.2 j c u h1 h2
theorem xQH : ∀ (als : List (Nat × Nat)) (F : List AV),FRep im io F a → (∀ d q,(d,q) ∈ als → ∀ y,a.tmps.toList[d]? = some y → yEh (q / 4096) y (a.tmps.getD (q % 4096) undef)) → FRep im io (xHY als F) a
 | [],F,h,_ => h
 | (d,q) :: r,F,h,hq => by
  rw [xHY]
  refine xQH r _ (Reps.setL h d fun y hy => ?_) (fun d' q' h' => hq d' q' (by simp [h']))
  exact yCs (hq d q (by simp) y hy) (h.getD (q % 4096))
theorem xNG {B0 : Nat} : ∀ (l : List Pr) (s : St) (io : Io) (ioss : Nat → List (Option (Nat × Nat))),Sim chk im io s.H w → FRep im io s.F a →
  (∀ i t v B,l[i]? = some (some (t,v,B)) → PrivAt B0 im io w a t v B (ioss i)) →
  (∀ i j x y k k' b z z',i ≠ j → l[i]? = some (some x) → l[j]? = some (some y) → xKb (ioss i) k = some (b,z) → xKb (ioss j) k' = some (b,z') → False) →
  ∃ io',Sim chk im io' (adoptL l s).H w ∧ FRep im io' (adoptL l s).F a ∧ IoLe io io' ∧ ∀ b,Own io' b → Own io b ∨ B0 ≤ b
 | [],s,io,ioss,hs,hF,_,_ => ⟨io,hs,hF,.refl _,fun _ h => .inl h⟩
 | none :: rest,s,io,ioss,hs,hF,hp,hd =>
  xNG rest s io (fun i => ioss (i + 1)) hs hF (fun i t v B hi => hp (i + 1) t v B (by simpa using hi)) (fun i j x y k k' b z z' hij hi hj => hd (i + 1) (j + 1) x y k k' b z z' (by omega) (by simpa using hi) (by simpa using hj))
 | some (t,v,B) :: rest,s,io,ioss,hs,hF,hp,hd => by
  obtain ⟨h1,h2,h3⟩ := hp 0 t v B rfl
  have hs' := hs.addAll h1
  have hle : IoLe io (xP0 io s.H.length (ioss 0)) := xP1 hs.fresh
  have hF' : FRep im (xP0 io s.H.length (ioss 0)) (s.F.set t (xCY s.H.length v)) a :=
   Reps.setL (Reps.mono (.refl _) hle hF) t fun y hy => xQN (fun k z hk => by rw [xJm]; exact hk) h2 (h3 y hy)
  obtain ⟨io',g1,g2,g3,g4⟩ := xNG rest ⟨s.F.set t (xCY s.H.length v),s.H ++ B⟩ _ (fun i => ioss (i + 1)) hs' hF'
   (fun i t' v' B' hi => by
    obtain ⟨k1,k2,k3⟩ := hp (i + 1) t' v' B' (by simpa using hi)
    refine ⟨k1.notOwn (fun k b z hk ho => ?_),k2,k3⟩
    rcases xMa ho with q | ⟨k',z',q⟩
    ·obtain ⟨_,_,_,_,_,_,_,_,_,q',_⟩ := k1.own hk
     exact q' q
    ·exact hd (i + 1) 0 (t',v',B') (t,v,B) k k' b z z' (by omega) (by simpa using hi) rfl hk q)
   (fun i j x y k k' b z z' hij hi hj => hd (i + 1) (j + 1) x y k k' b z z' (by omega) (by simpa using hi) (by simpa using hj))
  refine ⟨io',g1,g2,hle.trans g3,fun b hb => ?_⟩
  rcases g4 b hb with q | q
  ·rcases xMa q with q2 | ⟨k,z,q2⟩
   ·exact .inl q2
   ·obtain ⟨_,_,_,_,_,_,_,_,_,_,q'⟩ := h1.own q2
    exact .inr q'
  ·exact .inr q
theorem xHK {listed : Array Bool} {j : Nat} (h : j < listed.size) : listed.getD j true = listed.getD j false := by
 simp [h]
theorem xWh {l : List Bool} : ∀ {i : Nat},i < l.length → l[i]? = some false → (l.set i true).count true = l.count true + 1 := by
 induction l with
 | nil => intro i h; simp at h
 | cons b l ih =>
  intro i h hb
  cases i with
  | zero => simp at hb; subst hb; simp
  | succ i =>
   simp at hb h
   rw [List.set_cons_succ,List.count_cons,List.count_cons,ih h hb]
   omega
theorem xWi {l : List Bool} : l.count true = l.length → ∀ i,i < l.length → l[i]? = some true := by
 induction l with
 | nil => intro _ i h; simp at h
 | cons b l ih =>
  intro h i hi
  have hle : l.count true ≤ l.length := List.count_le_length
  rw [List.count_cons] at h
  simp at h
  cases b with
  | false => simp at h; omega
  | true =>
   cases i with
   | zero => rfl
   | succ i => simp at hi ⊢; exact by have := ih (by simpa using h) i hi; simpa [List.getElem?_eq_getElem hi] using this
theorem xIR : ∀ (l : List Pr) (s : St),(adoptL l s).F.length = s.F.length
 | [],s => rfl
 | none :: rest,s => xIR rest s
 | some (t,v,B) :: rest,s => by simp only [adoptL]; rw [xIR rest]; simp
theorem xPW : ∀ (l : List Pr) (F F' : List AV) (H : Heap),(adoptL l ⟨F,H⟩).H = (adoptL l ⟨F',H⟩).H
 | [],_,_,_ => rfl
 | none :: rest,F,F',H => xPW rest F F' H
 | some (t,v,B) :: rest,F,F',H => by simp only [adoptL]; exact xPW rest _ _ _
theorem xMH (t : Nat) : ∀ (l : List Pr) (F F' : List AV) (H : Heap),F.length = F'.length → (F.getD t .any = F'.getD t .any ∨ False) → (adoptL l ⟨F,H⟩).F.getD t .any = (adoptL l ⟨F',H⟩).F.getD t .any
 | [],F,F',H,hl,h => h.elim id False.elim
 | none :: rest,F,F',H,hl,h => xMH t rest F F' H hl h
 | some (d,v,B) :: rest,F,F',H,hl,h => by
  simp only [adoptL]
  refine xMH t rest _ _ _ (by simp [hl]) (.inl ?_)
  have h := h.elim id False.elim
  have e1 := xD2 F (some d) (xCY H.length v) t
  have e2 := xD2 F' (some d) (xCY H.length v) t
  simp only [putA] at e1 e2
  rw [e1,e2,hl,h]
theorem xKo (t : Nat) : ∀ (l : List Pr) (s : St),(∀ v B,some (t,v,B) ∉ l) → (adoptL l s).F.getD t .any = s.F.getD t .any
 | [],_,_ => rfl
 | none :: rest,s,h => xKo t rest s (fun v B hm => h v B (List.mem_cons_of_mem _ hm))
 | some (d,v,B) :: rest,s,h => by
  simp only [adoptL]
  rw [xKo t rest _ (fun v' B' hm => h v' B' (List.mem_cons_of_mem _ hm))]
  have e1 := xD2 s.F (some d) (xCY s.H.length v) t
  simp only [putA] at e1
  rw [e1,if_neg]
  rintro ⟨q,_⟩
  cases q
  exact h v B (List.mem_cons_self ..)
def xM0 (m : Nat) (aops : List AOper) (D : Nat → Bool) (F0 F : List AV) : List AV :=
 (List.range F0.length).map fun t => if (List.range m).any (fun d => !D d && xA5 aops d == some t) then F0.getD t .any else F.getD t .any
def yet (m : Nat) (aops : List AOper) (D : Nat → Bool) (t : Nat) : Bool := (List.range m).any fun d => !D d && xA5 aops d == some t
theorem xEa (m : Nat) (aops : List AOper) (D : Nat → Bool) (F0 F : List AV) : (xM0 m aops D F0 F).length = F0.length := by simp [xM0]
theorem xGD (m : Nat) (aops : List AOper) (D : Nat → Bool) (F0 F : List AV) (t : Nat) (hl : F.length = F0.length) : (xM0 m aops D F0 F).getD t .any = if yet m aops D t then F0.getD t .any else F.getD t .any := by
 unfold xM0 yet
 by_cases hs : t < F0.length
 ·simp only [List.getD,List.getElem?_map,List.getElem?_range hs,Option.map_some,Option.getD_some]
 ·have e1 : F0.getD t .any = .any := by simp [List.getD,List.getElem?_eq_none (Nat.le_of_not_lt hs)]
  have e2 : F.getD t .any = .any := by simp [List.getD,List.getElem?_eq_none (by omega : F.length ≤ t)]
  rw [e1,e2]
  have : (List.range F0.length)[t]? = none := List.getElem?_eq_none (by simp; omega)
  simp [List.getD,this]
theorem yet_iff {m : Nat} {aops : List AOper} {D : Nat → Bool} {t : Nat} : yet m aops D t = true ↔ ∃ d,d < m ∧ D d = false ∧ xA5 aops d = some t := by
 simp [yet,and_assoc]
theorem xL7 {op : AOp} (h : xFf op = true) (F : List AV) (H H' : Heap) : xAO R F H op = xAO R F H' op := by
 cases op <;> simp only [xFf] at h <;> first | (cases h; done) | skip
 all_goals simp only [xAO,xAc]
 all_goals first
  | rfl
  | simp only [Option.map_map]; rfl
  | (split <;> first | rfl | (simp only [Option.map_map]; rfl) | (split <;> first | rfl | (simp only [Option.map_map]; rfl)))
  | (split <;> first | rfl | (split <;> first | rfl | (split <;> rfl)))
theorem xLE {op : AOp} (h : xFf op = true) : xBk op = false := by
 cases op <;> first | rfl | (simp [xFf] at h; done)
theorem xMI : ∀ (l : List Pr) (s : St),∃ B,(adoptL l s).H = s.H ++ B
 | [],s => ⟨[],by simp [adoptL]⟩
 | none :: rest,s => xMI rest s
 | some (t,v,B) :: rest,s => by
  simp only [adoptL]
  obtain ⟨C,hC⟩ := xMI rest ⟨s.F.set t (xCY s.H.length v),s.H ++ B⟩
  exact ⟨B ++ C,by rw [hC,List.append_assoc]⟩
theorem xJN {op : AOp} (h : xBk op = false) : xNT op = false := by
 cases op with
 | box x => cases h
 | _ => rfl
theorem xS5 {F F' : List AV} {op : AOp} (h : ∀ x ∈ op.args,opv F x = opv F' x) : xJn R F op = xJn R F' op := by
 unfold xJn
 rw [xLn h]
 have e : (op.args.all fun x => xGO (opv F x)) = op.args.all fun x => xGO (opv F' x) := by
  rw [Bool.eq_iff_iff]; simp only [List.all_eq_true]
  exact ⟨fun g p hp => by rw [← h p hp]; exact g p hp,fun g p hp => by rw [h p hp]; exact g p hp⟩
 rw [e]
theorem xWj (hR : RecOk chk P R) {ops : Array Oper} {ao : AOper} {r : Option Nat} {n i t : Nat} {B : List Blk} {Q : Exit → Act → World → Prop} {K : Act → World → Prop} (hi : ops[i]? = some o) (hd : o.dst = ao.dst) (hc : xAI P o ao.op = true) (hg : xLm ops o.guard ao.guard = true)
  (hgn : ao.guard = none) (hdt : ao.dst = some t) (hs : Sim chk im io H w) (hF : FRep im io F a) (h : xJn R F ao.op = some (v,B))
  (hK : ∀ im' a' w' x ios,Step im io w im' io w' → Sim chk im' io H w' → a' = a.put (some t) x → PrivAt w.heap.size im' io w' a' t v B ios → K a' w') : wpOpIn (Fw r) n P ops Q i K a w := by
 unfold wpOpIn
 simp only [hi]
 have hw : xH9 F ao.guard = some true := by rw [hgn]; rfl
 rw [xJz hg hF hw]
 simp only [if_true]
 unfold xJn at h
 split at h
 case isFalse => cases h
 rename_i hdat
 split at h
 case h_2 => cases h
 rename_i v0 B0 hex
 split at h
 case isFalse => cases h
 rename_i hrel
 cases h
 let F1 : List AV := F.map fun c => if xGO c = true then c else .any
 have xLD : ∀ s,F1.getD s .any = if xGO (F.getD s .any) = true then F.getD s .any else .any := by
  intro s
  by_cases hlt : s < F.length
  ·simp only [F1,List.getD,List.getElem?_map,List.getElem?_eq_getElem hlt,Option.map_some,Option.getD_some]
  ·simp only [F1,List.getD,List.getElem?_map,List.getElem?_eq_none (Nat.le_of_not_lt hlt),Option.map_none,Option.getD_none,ite_self]
 have hop : ∀ x ∈ ao.op.args,opv F x = opv F1 x := by
  intro x hx
  have hdx := List.all_eq_true.1 hdat x hx
  cases x with
  | c y => rfl
  | t s =>
   show F.getD s .any = F1.getD s .any
   rw [xLD]; exact (if_pos hdx).symm
 have hF1 : FRep im xKI F1 a := by
  refine ⟨by rw [hF.1]; simp [F1],fun i c x hi hx => ?_⟩
  simp only [F1,List.getElem?_map,Option.map_eq_some_iff] at hi
  obtain ⟨c0,h1,rfl⟩ := hi
  split
  ·rename_i hd0
   exact xWw hd0 (hF.2 i c0 x h1 hx)
  ·exact .any _
 rw [xLn hop] at hex
 refine Oper.wpIn_mono ?_ (xPZ hR hc (Sim.empty hs.imin) hF1 hex Q)
 rintro a' w' ⟨im',io',b1,b2,b3,_,x,rfl⟩
 have hsize : ∀ b,Own io' b → w.heap.size ≤ b := fun b ho => (b1.ownNew b ho).elim (fun ⟨_,_,q⟩ => by cases q) id
 have hno : ∀ b,Own io' b → ¬ Own io b ∧ w.heap.size ≤ b := fun b ho => ⟨fun ho' => by have := hs.inb b ho'; have := hsize b ho; omega,hsize b ho⟩
 have hst : ∀ b,b < w.heap.size → w'.heap[b]? = w.heap[b]? := fun b hb => b1.stay b hb (fun ⟨_,_,q⟩ => by cases q)
 have him : ∀ b o,im' b = some o → im b = some o ∨ w.heap.size ≤ b := fun b o hb => by
  rcases b1.imNew b o hb with q | ⟨_,_,q⟩ | q
  ·exact .inl q
  ·cases q
  ·exact .inr q
 have hs2 := (hs.world b1.size hst).im_grow b1.im_le b2.imin him (fun b ho => hs.inb b ho)
 obtain ⟨hp,hat⟩ := xZA b2 hrel.2 hno
 rw [hd,hdt] at b3 ⊢
 refine hK im' _ w' x _ ⟨b1.im_le,.refl _,b1.os,b1.tape,b1.output,b1.size,fun b hb _ => hst b hb,fun _ h => .inl h,fun b o hb => (him b o hb).imp id .inr⟩ hs2 rfl ⟨hp,hrel.1,fun y hy => ?_⟩
 have e : xKb ((List.range B.length).map io') = io' := funext hat
 rw [e]
 have hlt : t < F1.length := by
  have := (List.getElem?_eq_some_iff.1 hy).1
  have hl := b3.1
  simp only [putA,List.length_set] at hl
  omega
 exact b3.2 t v y (by simp only [putA]; rw [List.getElem?_set_self hlt]) hy
theorem xNH {H B : Heap} {p : AV} {n : Nat} {cs : List AV} (h : rd H p n = some cs) : rd (H ++ B) p n = some cs := by
 unfold rd at h ⊢
 split at h
 ·rename_i id off
  split at h
  ·rename_i z1 z2 cs' hb
   have hlt := (List.getElem?_eq_some_iff.1 hb).1
   simp only [List.getElem?_append_left hlt,hb]
   exact h
  ·cases h
 ·exact h
 ·cases h
theorem xVq {H H' : Heap} {p q : AV} {n : Nat} {cs vs : List AV} (h : rd H p n = some cs) (hw : wr H q vs = some H') (hd : xMQ p n q vs.length = true) : rd H' p n = some cs := by
 unfold xMQ at hd
 split at hd
 ·rename_i i a j b
  unfold wr at hw
  simp only at hw
  split at hw
  case h_2 => cases hw
  rename_i z cs0 hj
  split at hw
  case isFalse => cases hw
  rename_i hin
  cases hw
  unfold rd at h ⊢
  simp only at h ⊢
  split at h
  case h_2 => cases h
  rename_i z1 z2 cs1 hi
  by_cases e : i = j
  ·subst e
   rw [hj] at hi; cases hi
   simp only [bne_self_eq_false,Bool.false_or,Bool.or_eq_true,decide_eq_true_eq] at hd
   have hlt := (List.getElem?_eq_some_iff.1 hj).1
   simp only [List.getElem?_set_self hlt]
   have hlen : (splice cs0 b vs).length = cs0.length := by simp [splice]; omega
   split at h
   case isFalse => cases h
   rename_i hle
   rw [if_pos (by omega)]
   rw [← h]
   congr 1
   apply List.ext_getElem?
   intro k
   simp only [List.getElem?_take,List.getElem?_drop]
   by_cases hk : k < n
   ·simp only [hk,if_true,splice]
    rcases hd with hd | hd
    ·rw [List.append_assoc,List.getElem?_append_left (by simp; omega),List.getElem?_take_of_lt (by omega)]
    ·rw [List.getElem?_append_right (by simp; omega),List.getElem?_drop]
     congr 1
     simp
     omega
   ·simp [hk]
  ·rw [List.getElem?_set_ne (fun q => e q.symm),hi]
   exact h
 ·unfold rd at h ⊢
  simp only at h ⊢
  exact h
 all_goals first | (simp [wr] at hw; done) | (cases hd; done)
theorem xPX {op : AOp} {F : List AV} {H H' : Heap} {R : Rec} {v : AV} (h : xFf op = true) (he : xAc R F H op = some (v,H')) : H' = H := by
 cases op <;> simp only [xFf] at h <;> first | (cases h; done) | skip
 all_goals simp only [xAc] at he
 all_goals first
  | (cases he; rfl)
  | (simp only [Option.map_eq_some_iff] at he; obtain ⟨_,_,e⟩ := he; cases e; rfl)
  | (split at he <;> first | (cases he; done) | (cases he; rfl) | (simp only [Option.map_eq_some_iff] at he; obtain ⟨_,_,e⟩ := he; cases e; rfl) | (split at he <;> first | (cases he; done) | (cases he; rfl) | (simp only [Option.map_eq_some_iff] at he; obtain ⟨_,_,e⟩ := he; cases e; rfl)))
  | (split at he <;> first | (cases he; done) | (split at he <;> first | (cases he; done) | (split at he <;> first | (cases he; done) | (cases he; rfl))))
theorem xJ0 {op : AOp} {F : List AV} {H H' : Heap} {R : Rec} {v : AV} (h : xJu op = true) (he : xAc R F H op = some (v,H')) : H' = H := by
 unfold xJu at h
 rw [Bool.or_eq_true] at h
 rcases h with h | h
 ·exact xPX h he
 ·split at h
  ·simp only [xAc] at he
   split at he
   ·simp only [Option.map_eq_some_iff,Prod.mk.injEq] at he
    obtain ⟨_,_,_,e⟩ := he
    exact e.symm
   ·cases he
  ·simp only [xAc] at he
   split at he
   ·split at he
    ·exact xKZ he
    ·cases he
   ·cases he
  ·simp only [xAc] at he
   split at he
   ·simp only [Option.map_eq_some_iff,Prod.mk.injEq] at he
    obtain ⟨_,_,_,e⟩ := he
    exact e.symm
   ·cases he
  ·cases h
theorem xWk : ∀ (d : Nat) (a b : AV),yCK d a b = true → a = b
 | 0,a,b,h => by simp [yCK] at h
 | d + 1,a,b,h => by
  have hl : ∀ cs cs' : List AV,cs.length = cs'.length → (cs.zip cs').all (fun p => yCK d p.1 p.2) = true → cs = cs' := by
   intro cs
   induction cs with
   | nil => intro cs' h1 _; exact (List.length_eq_zero_iff.1 h1.symm).symm
   | cons c cs ih =>
    intro cs' h1 h2
    cases cs' with
    | nil => simp at h1
    | cons c' cs' =>
     simp only [List.zip_cons_cons,List.all_cons,Bool.and_eq_true] at h2
     rw [xWk d c c' h2.1,ih cs' (by simpa using h1) h2.2]
  simp only [yCK] at h
  split at h <;> simp only [Bool.and_eq_true,beq_iff_eq,decide_eq_true_eq,reduceCtorEq] at h
  ·obtain ⟨rfl,rfl⟩ := h; rfl
  ·subst h; rfl
  ·rfl
  ·rfl
  ·obtain ⟨rfl,rfl⟩ := h; rfl
  ·obtain ⟨⟨⟨⟨rfl,rfl⟩,rfl⟩,rfl⟩,rfl⟩ := h; rfl
  ·obtain ⟨⟨⟨rfl,rfl⟩,h1⟩,h2⟩ := h
   rw [hl _ _ h1 h2]
theorem xWl {H H' : Heap} {p : AV} {n : Nat} {cs : List AV} (h : xWL H H' p n = true) (hr : rd H p n = some cs) : rd H' p n = some cs := by
 unfold xWL at h
 rw [hr] at h
 simp only at h
 split at h
 ·cases h
 ·rename_i cs' hr'
  simp only [Bool.and_eq_true,beq_iff_eq] at h
  rw [hr']
  congr 1
  have hl : ∀ cs cs' : List AV,cs.length = cs'.length → (cs.zip cs').all (fun p => yCK 4 p.1 p.2) = true → cs = cs' := by
   intro cs
   induction cs with
   | nil => intro cs' h1 _; exact (List.length_eq_zero_iff.1 h1.symm).symm
   | cons c cs ih =>
    intro cs' h1 h2
    cases cs' with
    | nil => simp at h1
    | cons c' cs' =>
     simp only [List.zip_cons_cons,List.all_cons,Bool.and_eq_true] at h2
     rw [xWk 4 c c' h2.1,ih cs' (by simpa using h1) h2.2]
  exact (hl _ _ h.1 h.2).symm
theorem xVr {R : Rec} {F : List AV} {H H' : Heap} {n : Nat} {p x : Arg} {v : AV} (h : xAc R F H (.store n p x) = some (v,H')) : (opv F x).cells.length = n ∧ wr H (opv F p) (opv F x).cells = some H' := by
 simp only [xAc] at h
 by_cases hlen : (opv F x).cells.length = n
 ·rw [if_pos hlen] at h
  simp only [Option.map_eq_some_iff,Prod.mk.injEq] at h
  obtain ⟨H3,hw,_,rfl⟩ := h
  exact ⟨hlen,hw⟩
 ·rw [if_neg hlen] at h; cases h
theorem xS6 {R : Rec} {F : List AV} {H H2 : Heap} {fz : Bool} {es b n : Nat} {x y : Arg} {v p : AV} {cs : List AV} (hex : xAc R F H (.append fz es b x y) = some (v,H2)) (h : rd H p n = some cs) (hd : xMQ p n (opv F x) 0 = true) : rd H2 p n = some cs := by
 simp only [xAc] at hex
 split at hex
 ·cases hex
 rename_i m ys _
 split at hex
 ·split at hex
  case isFalse => cases hex
  unfold xLr at hex
  split at hex
  ·split at hex
   ·simp only [Option.map_eq_some_iff,Prod.mk.injEq] at hex
    obtain ⟨_,_,_,rfl⟩ := hex
    exact h
   ·cases hex
  ·cases hex
   exact xNH h
 ·rename_i z id off n' es' hx
  split at hex
  case h_2 => cases hex
  split at hex
  case isFalse => cases hex
  cases hex
  refine xNH ?_
  rw [hx] at hd
  unfold rd at h ⊢
  unfold xMQ at hd
  split at h
  ·rename_i i a
   simp only [bne_iff_ne,ne_eq] at hd
   simp only [List.getElem?_set_ne (fun q => hd q.symm)]
   exact h
  ·exact h
  ·cases h
 ·cases hex
theorem xIZ {R : Rec} {t : Nat} : ∀ {ops : List AOper} {s s' : St},xBJ R ops s = some s' → (∀ o ∈ ops,o.dst ≠ some t) → s'.F.getD t .any = s.F.getD t .any
 | [],s,s',h,_ => by simp only [xBJ] at h; cases h; rfl
 | o :: rest,s,s',h,hn => by
  simp only [xBJ] at h
  split at h
  ·cases h
  rename_i s1 h1
  rw [xIZ h (fun o' ho' => hn o' (List.mem_cons_of_mem _ ho'))]
  have hd := hn o (List.mem_cons_self ..)
  unfold xEc at h1
  split at h1
  ·cases h1
  ·cases h1; simp only; rw [xD2,if_neg (fun q => hd q.1)]
  ·simp only [Option.map_eq_some_iff] at h1
   obtain ⟨⟨v,H⟩,_,rfl⟩ := h1
   simp only; rw [xD2,if_neg (fun q => hd q.1)]
def InvA (als : List (Nat × Nat)) (chk : Code → ACode → Bool) (w0 : World) (m : Nat) (N : Nat) (aops : List AOper) (pl : List Pr) (s s1 : St) (D : Nat → Bool) (im : Im) (io : Io) (a : Act) (w : World) : Prop :=
 (∀ j,m ≤ j → j < N → D j = false) ∧ Sim chk im io s.H w ∧ FRep im io (mix (aops.take m) D s.F s1.F) a ∧
 (∃ ioss : Nat → List (Option (Nat × Nat)),(∀ i t v B,pl[i]? = some (some (t,v,B)) → D i = true → PrivAt w0.heap.size im io w a t v B (ioss i)) ∧
  (∀ i j x y k k' b z z',i ≠ j → pl[i]? = some (some x) → pl[j]? = some (some y) → D i = true → D j = true → xKb (ioss i) k = some (b,z) → xKb (ioss j) k' = some (b,z') → False)) ∧
 (∀ d q i e,e < i → xKS aops e q = true → i < m → aops[i]? = some ⟨some d,.mov (.t q),none⟩ → D i = true → ∀ y,a.tmps.toList[d]? = some y → y = a.tmps.getD q undef) ∧
 ∀ d q i j p,i < m → aops[i]? = some ⟨some d,.ext j (.t p),none⟩ → xVo aops i d q = true → D i = true → ∀ y,a.tmps.toList[d]? = some y → yEh (j + 1) y (a.tmps.getD p undef)
def yFG (hs : List (Nat × Nat × Nat)) (als : List (Nat × Nat)) (chk : Code → ACode → Bool) (R : Rec) (m : Nat) (N : Nat) (rs : List (List Nat)) (aops : List AOper) (pl : List Pr) (s s1 s' : St) (D : Nat → Bool) (im : Im) (io : Io) (a : Act) (w : World) (k : Nat) (sk : St) : Prop :=
 m ≤ k ∧ k ≤ N ∧ (∀ j,j < N → D j = true → j < k) ∧ (∀ j,j < k → D j = false → (j < m ∧ xJX als m aops j = true) ∨ (m ≤ j ∧ xGM rs aops j = true)) ∧ (xBJ R (aops.drop k) sk = some s' ∧ xLC R hs k (aops.drop k) sk = true) ∧
  Sim chk im io sk.H w ∧ FRep im io (xM0 k aops D s.F sk.F) a ∧ sk.F.length = s.F.length ∧
  (∀ t,(∀ j,m ≤ j → j < k → xA5 aops j ≠ some t) → sk.F.getD t .any = (xHY als (adoptL pl s1).F).getD t .any) ∧
  (∀ d,d < m → D d = false → ∀ p n,xHF aops d = some (p,n) → ∀ cs,rd s.H (s1.F.getD p .any) n = some cs → rd sk.H (s1.F.getD p .any) n = some cs) ∧
  ∀ d ao,m ≤ d → d < k → D d = false → aops[d]? = some ao → ∃ v,FreeAt R sk.H sk.F ao v ∧ ∀ t,ao.dst = some t → t < s.F.length → sk.F.getD t .any = v
def xSW (hs : List (Nat × Nat × Nat)) (als : List (Nat × Nat)) (chk : Code → ACode → Bool) (R : Rec) (m : Nat) (N : Nat) (rs : List (List Nat)) (aops : List AOper) (pl : List Pr) (s s1 s' : St) (D : Nat → Bool) (im : Im) (io : Io) (a : Act) (w : World) : Prop :=
 ∃ k sk,yFG hs als chk R m N rs aops pl s s1 s' D im io a w k sk
theorem xNI {op : AOp} (h : xFf op = true) (F : List AV) (H : Heap) : xAO R F H op = (xAc R F H op).map (·.1) := by
 cases op <;> simp only [xFf] at h <;> first | (cases h; done) | rfl
theorem FreeAt.other {F F' : List AV} {ao : AOper} (hs : xFf ao.op = true ∨ H' = H) (hr : ∀ t ∈ ao.reads,F.getD t .any = F'.getD t .any) (h : FreeAt R H F ao v) : FreeAt R H' F' ao v := by
 have hw : xH9 F' ao.guard = xH9 F ao.guard := by
  cases hg : ao.guard with
  | none => rfl
  | some g =>
   obtain ⟨t,b⟩ := g
   simp only [xH9]
   rw [hr t (by simp [AOper.reads,hg])]
 unfold FreeAt at h ⊢
 rw [hw]
 rcases h with ⟨h1,h⟩ | h
 ·refine .inl ⟨h1,?_⟩
  have e : xAO R F' H' ao.op = xAO R F' H ao.op := by
   rcases hs with hs | rfl
   ·exact xL7 hs F' H' H
   ·rfl
  rw [e,← h]
  refine xMN fun x hx => xKX fun t ht => (hr t ?_).symm
  simp only [AOper.reads,List.mem_append,List.mem_filterMap]
  exact .inl ⟨x,hx,ht⟩
 ·exact .inr h
theorem xS7 {op : AOp} (h : xMF op = true) : xJu op = true := by
 cases op <;> first | rfl | (simp [xMF] at h; done)
theorem xVs {op : AOp} (h : xFf op = true ∨ xMF op = true) : xJu op = true := by
 rcases h with h | h
 ·unfold xJu; rw [h]; rfl
 ·exact xS7 h
theorem xWm {op : AOp} (h : xFf op = true ∨ xMF op = true) (F : List AV) (H : Heap) : xAO R F H op = (xAc R F H op).map (·.1) := by
 rcases h with h | h
 ·exact xNI h F H
 ·cases op <;> first | rfl | (simp [xMF] at h; done)
theorem xWn {op : AOp} (h : xFf op = true ∨ xMF op = true) : xBk op = false := by
 rcases h with h | h
 ·exact xLE h
 ·cases op <;> first | rfl | (simp [xMF] at h; done)
theorem xNJ {hs : List (Nat × Nat × Nat)} {als : List (Nat × Nat)} (hR : RecOk chk P R) {ops : Array Oper} {aops : List AOper} {r : Option Nat} {n m : Nat} {ls : List (Nat × Nat × Nat × Nat)} {Q : Exit → Act → World → Prop} {s s1 s' : St} {im0 : Im} {io0 : Io} {w0 : World} {ds : List Deferred}
  (hc : xJO P ops aops = true) (hok : xJY hs als ls m ops aops = true) {pl : List Pr} (hls : ls.all (apart s'.F) = true) (hfree : xA6 R (aops.take m) s = some (s1,pl)) (htail : xBJ R (aops.drop m) (xGo als pl s1) = some s') (hheld : xLC R hs m (aops.drop m) (xGo als pl s1) = true)
  (hQ : ∀ im' io' a' w',Step im0 io0 w0 im' io' w' → Sim chk im' io' s'.H w' → FRep im' io' s'.F a' → a'.defers = ds → Q .normal a' w') :
  (∀ (modeA : Prop) (K : Act → World → Prop) (i : Nat) (listed : Array Bool) (a : Act) (w : World),listed.size = ops.size → xIY ops listed → i ∈ Region.ready .any ops listed →
   (∀ a' w',(∃ im io,Step im0 io0 w0 im io w' ∧ a'.defers = ds ∧ InvA als chk w0 m ops.size aops pl s s1 (fun k => (listed.setIfInBounds i true).getD k false) im io a' w') → K a' w') →
   ((m ≤ i ∨ ¬ modeA) → ∀ a' w',(∃ im io,Step im0 io0 w0 im io w' ∧ a'.defers = ds ∧ xSW hs als chk R m ops.size (xBE ops ops.size) aops pl s s1 s' (fun k => (listed.setIfInBounds i true).getD k false) im io a' w') → K a' w') →
   (∃ im io,Step im0 io0 w0 im io w ∧ a.defers = ds ∧ (InvA als chk w0 m ops.size aops pl s s1 (fun k => listed.getD k false) im io a w ∨ (¬ modeA ∧ xSW hs als chk R m ops.size (xBE ops ops.size) aops pl s s1 s' (fun k => listed.getD k false) im io a w))) →
   wpOpIn (Fw r) n P ops Q i K a w) ∧
  (∀ (fuel : Nat) (listed : Array Bool) (a : Act) (w : World),listed.size = ops.size → fuel + listed.toList.count true = ops.size → xIY ops listed →
   (∃ im io,Step im0 io0 w0 im io w ∧ a.defers = ds ∧ (InvA als chk w0 m ops.size aops pl s s1 (fun k => listed.getD k false) im io a w ∨ xSW hs als chk R m ops.size (xBE ops ops.size) aops pl s s1 s' (fun k => listed.getD k false) im io a w)) →
   wpAnyIn (Fw r) n P .any ops Q fuel listed a w) := by
 obtain ⟨hlen,xLD⟩ := xML hc
 simp only [xJY,Bool.and_eq_true,decide_eq_true_eq,List.all_eq_true,List.mem_range] at hok
 obtain ⟨⟨⟨⟨⟨⟨⟨hals,hm⟩,hlt⟩,hdist⟩,hreads⟩,halloc⟩,hsink⟩,htw⟩ := hok
 have alsAt : ∀ d q,(d,q) ∈ als → ∃ i,i < m ∧ xVo aops i d q = true ∧ ∃ e ao,e < i ∧ aops[e]? = some ao ∧ xBk ao.op = true ∧ ao.dst = some (q % 4096) := by
  intro d q hdq
  have := List.all_eq_true.1 hals _ hdq
  simp only [List.any_eq_true,List.mem_range] at this
  obtain ⟨i,him,h1⟩ := this
  refine ⟨i,him,h1,?_⟩
  rcases xIk h1 with ⟨_,hq,e,he,hl⟩ | ⟨j,p,i',_,_,hi',_,e,he,hl⟩
  ·obtain ⟨ao,a1,a2,a3⟩ := xKn hl
   exact ⟨e,ao,he,a1,a2,by rw [Nat.mod_eq_of_lt hq]; exact a3⟩
  ·obtain ⟨ao,a1,a2,a3⟩ := xKn hl
   exact ⟨e,ao,by omega,a1,a2,a3⟩
 have alDst : ∀ {i d q},xVo aops i d q = true → xA5 aops i = some d := by
  intro i d q h
  rcases xIk h with ⟨h,_⟩ | ⟨j,p,i',h,_⟩ <;> simp [xA5,h]
 have hone : ∀ i j t,i < m → j < m → xA5 aops i = some t → xA5 aops j = some t → i = j := by
  intro i j t hi hj h1 h2
  rcases Nat.lt_trichotomy i j with q | q | q
  ·have := hdist j hj i q
   rw [h1,h2] at this
   simp at this
  ·exact q
  ·have := hdist i hi j q
   rw [h1,h2] at this
   simp at this
 have hdsts : ∀ i j t,i < j → xA5 (aops.take m) i = some t → xA5 (aops.take m) j = some t → False := by
  intro i j t hij hi hj
  have hjm : j < m := by
   rcases Nat.lt_or_ge j m with q | q
   ·exact q
   ·simp [xA5,List.getElem?_take_eq_none q] at hj
  have hi' : xA5 aops i = some t := by simpa [xA5,List.getElem?_take_of_lt (by omega : i < m)] using hi
  have hj' : xA5 aops j = some t := by simpa [xA5,List.getElem?_take_of_lt hjm] using hj
  have := hone i j t (by omega) hjm hi' hj'
  omega
 obtain ⟨f1,f2,f0,f3,f45⟩ := xMZ (aops.take m) s.F s.H s1 pl hfree hdsts
 have f4 : ∀ i ao,(aops.take m)[i]? = some ao → xBk ao.op = false → ∃ Fi v,FreeAt R s.H Fi ao v ∧ Fi.length = s.F.length ∧ (∀ t,Fi.getD t .any = if xGE ((aops.take m).take i) t then s1.F.getD t .any else s.F.getD t .any) ∧ (∀ t,ao.dst = some t → t < s.F.length → s1.F.getD t .any = v) := by
  intro i ao hi hp
  obtain ⟨Fi,g1,g2,g⟩ := f45 i ao hi
  rcases g with ⟨_,_,v,g3,g4⟩ | ⟨g3,_⟩
  ·exact ⟨Fi,v,g3,g1,g2,g4⟩
  ·rw [hp] at g3; cases g3
 have edge_lt : ∀ (i : Nat) (o : Oper) (e : Edge),ops[i]? = some o → e ∈ o.after → Region.binds .any e = true → e.on < i := by
  intro i o e ho he hb
  have := hlt i (Array.getElem?_eq_some_iff.1 ho).1
  simp only [ho] at this
  have := Array.all_eq_true_iff_forall_mem.1 this e he
  simpa [hb] using this
 have edge_lt2 : ∀ i d,xIX ops i d = true → d < i := by
  intro i d he
  simp only [xIX] at he
  split at he
  ·rename_i o ho
   simp only [Array.any_eq_true,Bool.and_eq_true,beq_iff_eq] at he
   obtain ⟨q,hq,hb,hon⟩ := he
   have := edge_lt i o _ ho (Array.getElem_mem hq) hb
   rwa [hon] at this
  ·cases he
 have all_of_ready : ∀ listed : Array Bool,listed.size = ops.size → Region.ready .any ops listed = [] → ∀ j,j < ops.size → listed.getD j false = true := by
  intro listed hsz hr j
  induction j using Nat.strongRecOn with
  | _ j ih =>
   intro hj
   cases hcase : listed.getD j false with
   | true => rfl
   | false =>
    exfalso
    have : j ∈ Region.ready .any ops listed := mem_ready.2 ⟨by rw [xHK (by omega)]; exact hcase,ops[j],Array.getElem?_eq_getElem hj,fun e he hb => by
     have h1 := edge_lt j _ e (Array.getElem?_eq_getElem hj) he hb
     exact ih e.on h1 (by omega)⟩
    rw [hr] at this
    cases this
 have late_op : ∀ d,xJX als m aops d = true → ∃ ao,aops[d]? = some ao ∧ (xFf ao.op = true ∨ ∃ g n p,ao.op = .load g n (.t p) ∧ ao.guard = none ∧ xHF aops d = some (p,n) ∧ ∀ j,j < aops.length → d ≤ j → xA5 aops j ≠ some p) ∧ ∀ t ∈ ao.reads,∀ e,e < m → xHJ als aops e = true → xA5 aops e ≠ some t := by
  intro d hd
  simp only [xJX,Bool.or_eq_true] at hd
  rcases hd with hd | hd
  ·unfold xWf at hd
   split at hd
   ·rename_i ao hao
    simp only [Bool.and_eq_true,List.all_eq_true,List.mem_range] at hd
    refine ⟨ao,hao,.inl hd.1.1,fun t ht e he ha hde => ?_⟩
    have := hd.2 t ht e he
    rw [ha,hde] at this
    simp at this
   ·cases hd
  ·split at hd
   case h_2 => cases hd
   rename_i p nn hll
   have hll0 := hll
   unfold xHF at hll
   split at hll
   case h_2 => cases hll
   rename_i dst0 g0 n0 p0 hao
   cases hll
   simp only [Bool.and_eq_true,List.all_eq_true,List.mem_range,Bool.or_eq_true,decide_eq_true_eq,bne_iff_ne,ne_eq,Bool.not_eq_true'] at hd
   refine ⟨_,hao,.inr ⟨g0,nn,p,rfl,rfl,hll0,fun j hj hdj => ?_⟩,fun t ht e he ha hde => ?_⟩
   ·rcases hd.2 j hj with q | q
    ·omega
    ·exact q
   ·have : t = p := by simpa [AOper.reads,AOp.args,Arg.slot] using ht
    subst this
    have := hd.1 e he
    rw [ha,hde] at this
    simp at this
 have late_notalloc : ∀ d,xJX als m aops d = true → xHJ als aops d = false := by
  intro d hd
  obtain ⟨ao,hao,hs,hre⟩ := late_op d hd
  have h1 : xBk ao.op = false := by
   rcases hs with hs | ⟨g,n,p,hs,_⟩
   ·exact xLE hs
   ·rw [hs]; rfl
  have h2 : xME als aops d = false := by
   simp only [xJX,Bool.or_eq_true] at hd
   rcases hd with hd | hd
   ·unfold xWf at hd
    rw [hao] at hd
    simp only [Bool.and_eq_true,Bool.not_eq_true'] at hd
    exact hd.1.2
   ·rw [Bool.eq_false_iff]
    intro h
    simp only [xME,List.any_eq_true] at h
    obtain ⟨⟨dd,q⟩,hm,hop⟩ := h
    unfold xHF at hd
    rcases xIk hop with ⟨e1,_⟩ | ⟨j,p,i',e1,_⟩
    ·rw [e1] at hd; cases hd
    ·rw [e1] at hd; cases hd
  simp [xHJ,hao,h1,h2]
 have sinks' : ∀ k d,m ≤ k → k < ops.size → d < k → Bef ops k d ∨ (((d < m ∧ xJX als m aops d = true ∧ xWg hs ls aops k d = true) ∨ (m ≤ d ∧ xGM (xBE ops ops.size) aops d = true ∧ xPV aops k d = true)) ∧ ∀ t,xA5 aops d = some t → t ∉ xJv aops k ∧ xA5 aops k ≠ some t) := by
  intro k d hk hkN hd
  have h5 := hsink (k - m) (by omega) d (by omega)
  rw [show m + (k - m) = k by omega] at h5
  simp only [Bool.or_eq_true,Bool.and_eq_true,decide_eq_true_eq] at h5
  rcases h5 with h5 | ⟨h6,h7⟩
  ·exact .inl (xIa ops _ _ _ h5)
  ·refine .inr ⟨?_,fun t ht => ?_⟩
   ·rcases h6 with ⟨⟨q1,q2⟩,q3⟩ | ⟨⟨q1,q2⟩,q3⟩
    ·exact .inl ⟨q1,q2,q3⟩
    ·exact .inr ⟨q1,q2,q3⟩
   ·rw [ht] at h7
    simp only [Bool.and_eq_true,Bool.not_eq_true',bne_iff_ne,ne_eq] at h7
    exact ⟨by simpa using h7.1,h7.2⟩
 have sinks : ∀ k d,m ≤ k → k < ops.size → d < k → Bef ops k d ∨ (((d < m ∧ xJX als m aops d = true) ∨ (m ≤ d ∧ xGM (xBE ops ops.size) aops d = true)) ∧ ∀ t,xA5 aops d = some t → t ∉ xJv aops k ∧ xA5 aops k ≠ some t) := by
  intro k d hk hkN hd
  rcases sinks' k d hk hkN hd with q | ⟨q1,q3⟩
  ·exact .inl q
  ·exact .inr ⟨q1.imp (fun q => ⟨q.1,q.2.1⟩) (fun q => ⟨q.1,q.2.1⟩),q3⟩
 have tail_op : ∀ d,xGM (xBE ops ops.size) aops d = true → ∃ ao,aops[d]? = some ao ∧ (xFf ao.op = true ∨ xMF ao.op = true) ∧ True ∧ (∀ j t,j < aops.length → ao.dst = some t → xA5 aops j = some t → j = d) ∧ ∀ t ∈ ao.reads,∀ j,j < aops.length → xA5 aops j = some t → Bef ops d j := by
  intro d hd
  unfold xGM at hd
  split at hd
  case h_2 => cases hd
  rename_i ao hao
  simp only [Bool.and_eq_true,List.all_eq_true,List.mem_range,Bool.or_eq_true,beq_iff_eq,bne_iff_ne,ne_eq] at hd
  obtain ⟨⟨h1,h3⟩,h4⟩ := hd
  refine ⟨ao,hao,h1,trivial,fun j t hj ht hdj => ?_,fun t ht j hj hdj => ?_⟩
  ·rcases h3 j hj with (q | q) | q
   ·exact q
   ·rw [ht] at q; cases q
   ·exact (q (by rw [ht]; exact hdj)).elim
  ·rcases h4 t ht j hj with q | q
   ·exact (q hdj).elim
   ·exact xIa ops _ _ _ q
 have hN : aops.length = ops.size := by omega
 have hone2 : ∀ i j t,i < ops.size → j < ops.size → (i < m ∨ xGM (xBE ops ops.size) aops i = true) → (j < m ∨ xGM (xBE ops ops.size) aops j = true) → xA5 aops i = some t → xA5 aops j = some t → i = j := by
  intro i j t hiN hjN hi hj h1 h2
  rcases hi with hi | hi
  ·rcases hj with hj | hj
   ·exact hone i j t hi hj h1 h2
   ·obtain ⟨ao,hao,_,_,q,_⟩ := tail_op j hj
    exact q i t (by omega) (by simpa [xA5,hao] using h2) h1
  ·obtain ⟨ao,hao,_,_,q,_⟩ := tail_op i hi
   exact (q j t (by omega) (by simpa [xA5,hao] using h1) h2).symm
 have tails : ∀ k d t,m ≤ k → k < ops.size → d < m → xA5 aops k = some t → t ∈ xJv aops d → Bef ops k d := by
  intro k d t hk hkN hd hdst ht
  have h5 := htw (k - m) (by omega) d hd
  rw [show m + (k - m) = k by omega,hdst] at h5
  simp only [Bool.or_eq_true,Bool.not_eq_true'] at h5
  rcases h5 with h5 | h5
  ·rw [← List.contains_iff_mem] at ht
   rw [ht] at h5; cases h5
  ·exact xIa ops _ _ _ h5
 have writers : ∀ i d t,i < m → d < m → t ∈ xJv aops i → xA5 aops d = some t → Bef ops i d ∨ d = i ∨ Bef ops d i := by
  intro i d t hi hd ht hdst
  have h5 := hreads i hi t ht d hd
  rw [hdst] at h5
  simp only [bne_self_eq_false,Bool.false_or,Bool.or_eq_true,beq_iff_eq] at h5
  rcases h5 with (h5 | h5) | h5
  ·exact .inl (xIa ops _ _ _ h5)
  ·exact .inr (.inl h5)
  ·exact .inr (.inr (xIa ops _ _ _ h5))
 have takeGet : ∀ (i : Nat) (ao : AOper),(aops.take m)[i]? = some ao → i < m ∧ aops[i]? = some ao := by
  intro i ao h
  by_cases q : i < m
  ·rw [List.getElem?_take_of_lt q] at h; exact ⟨q,h⟩
  ·rw [List.getElem?_take_eq_none (by omega)] at h; cases h
 have hwr : ∀ (D : Nat → Bool) (t : Nat),hit (aops.take m) D t = true ↔ ∃ d,d < m ∧ D d = true ∧ xA5 aops d = some t := by
  intro D t
  simp only [hit,List.any_eq_true,List.mem_range,beq_iff_eq,Bool.and_eq_true]
  constructor
  ·rintro ⟨d,hd,h1,h2⟩
   have hdm : d < m := by simp at hd; omega
   exact ⟨d,hdm,h1,by simpa [xA5,List.getElem?_take_of_lt hdm] using h2⟩
  ·rintro ⟨d,hd,h1,h2⟩
   exact ⟨d,by simp; omega,h1,by simpa [xA5,List.getElem?_take_of_lt hd] using h2⟩
 have hwrites : ∀ t,xGE (aops.take m) t = true ↔ ∃ d,d < m ∧ xA5 aops d = some t := by
  intro t
  simp only [xGE,List.any_eq_true,beq_iff_eq]
  constructor
  ·rintro ⟨o',ho',hd⟩
   obtain ⟨j,hj⟩ := List.getElem?_of_mem ho'
   obtain ⟨q1,q2⟩ := takeGet j o' hj
   exact ⟨j,q1,by simp [xA5,q2,hd]⟩
  ·rintro ⟨d,hd,h1⟩
   simp only [xA5,Option.bind_eq_some_iff] at h1
   obtain ⟨o',h2,h3⟩ := h1
   exact ⟨o',List.mem_of_getElem? (i := d) (by rw [List.getElem?_take_of_lt hd]; exact h2),h3⟩
 have plAt : ∀ j t v B,pl[j]? = some (some (t,v,B)) → j < m ∧ xHJ als aops j = true ∧ xA5 aops j = some t ∧ ∃ ao,aops[j]? = some ao ∧ xBk ao.op = true := by
  intro j t v B hj
  have hlt : j < (aops.take m).length := by rw [← f0]; exact (List.getElem?_eq_some_iff.1 hj).1
  obtain ⟨q1,q2⟩ := takeGet j _ (List.getElem?_eq_getElem hlt)
  obtain ⟨Fi,_,_,g⟩ := f45 j _ (List.getElem?_eq_getElem hlt)
  rcases g with ⟨_,g,_⟩ | ⟨g1,t',v',B',g2,_,g3,_⟩
  ·rw [hj] at g; cases g
  ·rw [hj] at g3; cases g3
   refine ⟨q1,?_,?_,_,q2,g1⟩
   ·simp only [xHJ,q2,Bool.or_eq_true]; exact .inl g1
   ·unfold xA5; rw [q2]; exact g2
 have plMem : ∀ t v B,some (t,v,B) ∈ pl → ∃ d,d < m ∧ xHJ als aops d = true ∧ xA5 aops d = some t := by
  intro t v B hm
  obtain ⟨j,hj⟩ := List.getElem?_of_mem hm
  obtain ⟨q1,q2,q3,_⟩ := plAt j t v B hj
  exact ⟨j,q1,q2,q3⟩
 have lenF2 : (adoptL pl s1).F.length = s.F.length := by rw [xIR,f2]
 have lenF3 : (xHY als (adoptL pl s1).F).length = s.F.length := by rw [xJl,lenF2]
 have alsDst : ∀ d q,(d,q) ∈ als → ∃ i,i < m ∧ xHJ als aops i = true ∧ xA5 aops i = some d := by
  intro d q h
  obtain ⟨i,him,hal,_⟩ := alsAt d q h
  exact ⟨i,him,by simp only [xHJ,Bool.or_eq_true,xME,List.any_eq_true]; exact .inr ⟨_,h,hal⟩,alDst hal⟩
 have alsUni : ∀ d q1 q2,(d,q1) ∈ als → (d,q2) ∈ als → q1 = q2 := by
  intro d q1 q2 h1 h2
  obtain ⟨i,him,hi,_⟩ := alsAt d q1 h1
  obtain ⟨j,hjm,hj,_⟩ := alsAt d q2 h2
  have := hone i j d him hjm (alDst hi) (alDst hj)
  subst this
  rcases xIk hi with ⟨e1,_⟩ | ⟨j1,p1,i1,e1,e2,e4,e5,_⟩ <;> rcases xIk hj with ⟨f1,_⟩ | ⟨j2,p2,i2,f1,f2,f4,f5,_⟩
  ·rw [e1] at f1; cases f1; rfl
  ·rw [e1] at f1; cases f1
  ·rw [e1] at f1; cases f1
  ·rw [e1] at f1; cases f1
   have := hone i1 i2 p1 (by omega) (by omega) (by simp [xA5,e5]) (by simp [xA5,f5])
   subst this
   rw [e5] at f5
   simp only [Option.some.injEq,AOper.mk.injEq,AOp.mov.injEq,Arg.t.injEq,true_and,and_true] at f5
   omega
 have alsSrc : ∀ d q1 q2,(d,q1) ∈ als → (q1 % 4096,q2) ∉ als := by
  intro d q1 q2 h1 h2
  obtain ⟨i,him,hi,e,ao,hei,hao,hp,hd⟩ := alsAt d q1 h1
  obtain ⟨j,hjm,hj,_⟩ := alsAt _ q2 h2
  have := hone e j (q1 % 4096) (by omega) hjm (by simp [xA5,hao,hd]) (alDst hj)
  subst this
  rcases xIk hj with ⟨e1,_⟩ | ⟨j1,p1,i1,e1,_⟩
  ·rw [hao] at e1; cases e1
   cases hp
  ·rw [hao] at e1; cases e1
   cases hp
 have sameS1 : ∀ t,(∀ e,e < m → xHJ als aops e = true → xA5 aops e ≠ some t) → (xHY als (adoptL pl s1).F).getD t .any = s1.F.getD t .any := by
  intro t ht
  rw [xJ9 _ _ _ (fun q hq => by obtain ⟨i,h1,h2,h3⟩ := alsDst t q hq; exact ht i h1 h2 h3),xKo]
  intro v' B' ho
  obtain ⟨e,he,hae,hde⟩ := plMem _ _ _ ho
  exact ht e he hae hde
 have toB : ∀ (D : Nat → Bool) im io a w,(∀ j,j < m → D j = false → xJX als m aops j = true) → Step im0 io0 w0 im io w → InvA als chk w0 m ops.size aops pl s s1 D im io a w →
   ∃ io',Step im0 io0 w0 im io' w ∧ xSW hs als chk R m ops.size (xBE ops ops.size) aops pl s s1 s' D im io' a w := by
  rintro D im io a w hD t1 ⟨h1,h2,h3,⟨ioss,h4,h5⟩,hal,hal2⟩
  have allL : ∀ i x,pl[i]? = some (some x) → D i = true := by
   rintro i ⟨t,v,B⟩ hi
   have hlt : i < (aops.take m).length := by rw [← f0]; exact (List.getElem?_eq_some_iff.1 hi).1
   obtain ⟨q1,q2⟩ := takeGet i _ (List.getElem?_eq_getElem hlt)
   cases hq : D i with
   | true => rfl
   | false =>
    have h6 := late_notalloc i (hD i q1 hq)
    obtain ⟨Fi,_,_,g⟩ := f45 i _ (List.getElem?_eq_getElem hlt)
    rcases g with ⟨_,g,_⟩ | ⟨g1,_⟩
    ·rw [hi] at g; cases g
    ·simp only [xHJ,q2,Bool.or_eq_false_iff] at h6; rw [g1] at h6; cases h6.1
  obtain ⟨io',g1,g2,g3,g4⟩ := xNG (B0 := w0.heap.size) pl ⟨mix (aops.take m) D s.F s1.F,s.H⟩ io ioss h2 h3
   (fun i t v B hi => h4 i t v B hi (allL i _ hi))
   (fun i j x y k k' b z z' hij hi hj hk hk' => h5 i j x y k k' b z z' hij hi hj (allL i _ hi) (allL j _ hj) hk hk')
  refine ⟨io',⟨t1.im_le,t1.io_le.trans g3,t1.os,t1.tape,t1.output,t1.size,t1.stay,fun b hb => ?_,t1.imNew⟩,m,xGo als pl s1,Nat.le_refl _,hm,fun j hj hDj => ?_,fun j hj hDj => .inl ⟨hj,hD j hj hDj⟩,⟨htail,hheld⟩,?_,?_,lenF3,fun _ _ => rfl,fun d _ _ p nn _ cs hrd => ?_,fun d ao h1' h2' => by omega⟩
  ·rcases g4 b hb with q | q
   ·exact t1.ownNew b q
   ·exact .inr q
  ·rcases Nat.lt_or_ge j m with q | q
   ·exact q
   ·rw [h1 j q hj] at hDj; cases hDj
  ·have : (adoptL pl s1).H = (adoptL pl ⟨mix (aops.take m) D s.F s1.F,s.H⟩).H := by
    obtain ⟨F1,H1⟩ := s1
    simp only at f1
    subst f1
    exact xPW _ _ _ _
   show Sim chk im io' (adoptL pl s1).H w
   rw [this]; exact g1
  ·have orig : xM0 m aops D s.F (adoptL pl s1).F = (adoptL pl ⟨mix (aops.take m) D s.F s1.F,s.H⟩).F := by
    refine xIl (by rw [xEa,xIR,xGl]) (fun t => ?_)
    rw [xGD _ _ _ _ _ _ lenF2]
    by_cases hy : yet m aops D t = true
    ·rw [if_pos hy]
     obtain ⟨d,hd,hDd,hdt⟩ := yet_iff.1 hy
     rw [xKo]
     ·simp only
      rw [xJw _ _ _ _ _ f2,if_neg]
      intro hh
      obtain ⟨d',hd',hDd',hdt'⟩ := (hwr D t).1 hh
      have := hone d d' t hd hd' hdt hdt'
      subst this
      rw [hDd] at hDd'; cases hDd'
     ·intro v' B' ho
      obtain ⟨e,he,hae,hde⟩ := plMem _ _ _ ho
      have := hone d e t hd he hdt hde
      subst this
      have := late_notalloc d (hD d hd hDd)
      rw [this] at hae; cases hae
    ·rw [if_neg hy]
     obtain ⟨F1,H1⟩ := s1
     simp only at f1 f2 f3
     subst f1
     refine xMH t _ _ _ _ (by rw [xGl,f2]) ?_
     by_cases hw : xGE (aops.take m) t = true
     ·obtain ⟨d,hd,hdt⟩ := (hwrites t).1 hw
      cases hDd : D d with
      | false => exact (hy (yet_iff.2 ⟨d,hd,hDd,hdt⟩)).elim
      | true =>
       left
       rw [xJw _ _ _ _ _ f2,if_pos ((hwr D t).2 ⟨d,hd,hDd,hdt⟩)]
     ·left
      have hw' : xGE (aops.take m) t = false := by simpa using hw
      rw [xJw _ _ _ _ _ f2,if_neg]
      ·exact f3 t hw'
      ·intro hh
       obtain ⟨d',hd',_,hdt'⟩ := (hwr D t).1 hh
       exact hw ((hwrites t).2 ⟨d',hd',hdt'⟩)
   have alD : ∀ d q,(d,q) ∈ als → ∃ i,i < m ∧ xVo aops i d q = true ∧ D i = true := by
    intro d q hdq
    obtain ⟨i,him,hi,_⟩ := alsAt d q hdq
    refine ⟨i,him,hi,?_⟩
    cases hq : D i with
    | true => rfl
    | false =>
     have := late_notalloc i (hD i him hq)
     simp only [xHJ,Bool.or_eq_false_iff,xME,List.any_eq_false] at this
     exact (this.2 _ hdq hi).elim
   have g2' := xQH als _ g2 (fun d q hdq y hy => by
    obtain ⟨i,him,hi,hDi⟩ := alD d q hdq
    rcases xIk hi with ⟨e1,e2,e,he,hl⟩ | ⟨j,p,i',e1,e2,e4,e5,e,he,hl⟩
    ·rw [Nat.div_eq_of_lt e2,Nat.mod_eq_of_lt e2]
     exact hal d q i e he hl him e1 hDi y hy
    ·rw [e2]
     have k1 := hal2 d q i j p him e1 hi hDi y hy
     have hDi2 : D i' = true := by
      cases hq : D i' with
      | true => rfl
      | false =>
       have hli := hD i' (by omega) hq
       obtain ⟨ao,hao,hs,hre⟩ := late_op i' hli
       obtain ⟨ao',a1,a2,a3⟩ := xKn hl
       rw [e5] at hao; cases hao
       exact (hre (q % 4096) (by simp [AOper.reads,AOp.args,Arg.slot]) e (by omega) (by simp [xHJ,a1,a2]) (by simp [xA5,a1,a3])).elim
     obtain ⟨l,k2,k3⟩ := k1
     refine ⟨l,?_,k3⟩
     rw [← k2]
     cases hp : a.tmps.toList[p]? with
     | none =>
      have hz : a.tmps.getD p undef = undef := by
       rw [Array.getElem?_toList] at hp
       rw [Array.getD_eq_getD_getElem?,hp]
       rfl
      rw [hz] at k2
      have : l = #[] := by injection k2 with e; exact e.symm
      subst this
      simp at k3
     | some z =>
      have := hal p (q % 4096) i' e he hl (by omega) e5 hDi2 z hp
      rw [← this]
      rw [Array.getElem?_toList] at hp
      rw [Array.getD_eq_getD_getElem?,hp]
      rfl)
   have : xM0 m aops D s.F (xHY als (adoptL pl s1).F) = xHY als (adoptL pl ⟨mix (aops.take m) D s.F s1.F,s.H⟩).F := by
    refine xIl (by rw [xEa,xJl,xIR,xGl]) (fun t => ?_)
    rw [xGD _ _ _ _ _ _ lenF3]
    by_cases hta : ∃ q,(t,q) ∈ als
    ·obtain ⟨q,hq⟩ := hta
     obtain ⟨i,him,hi,hDi⟩ := alD t q hq
     rw [if_neg]
     ·by_cases hlt2 : t < s.F.length
      ·rw [xMG als _ t q hq alsUni alsSrc (by rw [lenF2]; exact hlt2),xMG als _ t q hq alsUni alsSrc (by rw [xIR,xGl]; exact hlt2),← orig,xGD _ _ _ _ _ _ lenF2,if_neg]
       intro hy
       obtain ⟨d',hd',hDd',hdt'⟩ := yet_iff.1 hy
       obtain ⟨i',him',hi',e,ao,hei,hao,hp,hed⟩ := alsAt t q hq
       have h1 := hone d' e (q % 4096) hd' (by omega) hdt' (by simp [xA5,hao,hed])
       subst h1
       have := late_notalloc d' (hD d' hd' hDd')
       simp [xHJ,hao,hp] at this
      ·have e1 : ∀ F : List AV,F.length = s.F.length → F.getD t .any = .any := fun F hF => by simp [List.getD,List.getElem?_eq_none (by omega : F.length ≤ t)]
       rw [e1 _ lenF3,e1 _ (by rw [xJl,xIR,xGl])]
     ·intro hy
      obtain ⟨d',hd',hDd',hdt'⟩ := yet_iff.1 hy
      have := hone d' i t hd' him hdt' (alDst hi)
      subst this
      rw [hDi] at hDd'; cases hDd'
    ·have hta' : ∀ q,(t,q) ∉ als := fun q hq => hta ⟨q,hq⟩
     rw [xJ9 _ _ _ hta',xJ9 _ _ _ hta',← orig,xGD _ _ _ _ _ _ lenF2]
   show FRep im io' (xM0 m aops D s.F (xHY als (adoptL pl s1).F)) a
   rw [this]; exact g2'
  ·have hH : s1.H = s.H := f1
   have := xMI pl s1
   obtain ⟨B,hB⟩ := this
   show rd (adoptL pl s1).H _ _ = _
   rw [hB,hH]
   exact xNH hrd
 have doneB : ∀ (D : Nat → Bool) im io a w,(∀ j,j < ops.size → D j = true) → Step im0 io0 w0 im io w → a.defers = ds → xSW hs als chk R m ops.size (xBE ops ops.size) aops pl s s1 s' D im io a w → Q .normal a w := by
  rintro D im io a w hall t1 t2 ⟨k,sk,hmk,hkN,g2,g3,⟨g4,_⟩,g5,g6,g7,g8⟩
  have hk : k = ops.size := by
   rcases Nat.lt_or_ge k ops.size with q | q
   ·have := g2 k q (hall k q); omega
   ·omega
  rw [List.drop_eq_nil_of_le (by omega)] at g4
  simp only [xBJ] at g4; cases g4
  refine hQ im io a w t1 g5 ?_ t2
  have : xM0 k aops D s.F s'.F = s'.F := by
   refine xIl (by rw [xEa,g7]) (fun t => ?_)
   rw [xGD _ _ _ _ _ _ g7,if_neg]
   intro hy
   obtain ⟨d,hd,hDd,_⟩ := yet_iff.1 hy
   rw [hall d (by omega)] at hDd; cases hDd
  rw [this] at g6; exact g6
 have done : ∀ (listed : Array Bool) (a : Act) (w : World),(∀ j,j < ops.size → listed.getD j false = true) →
   (∃ im io,Step im0 io0 w0 im io w ∧ a.defers = ds ∧ (InvA als chk w0 m ops.size aops pl s s1 (fun k => listed.getD k false) im io a w ∨ xSW hs als chk R m ops.size (xBE ops ops.size) aops pl s s1 s' (fun k => listed.getD k false) im io a w)) → Q .normal a w := by
  rintro listed a w hall ⟨im,io,t1,t2,h | h⟩
  ·obtain ⟨io',u1,u2⟩ := toB _ im io a w (fun j hj hDj => by rw [hall j (by omega)] at hDj; cases hDj) t1 h
   exact doneB _ im io' a w hall u1 t2 u2
  ·exact doneB _ im io a w hall t1 t2 h
 have step : (∀ (modeA : Prop) (K : Act → World → Prop) (i : Nat) (listed : Array Bool) (a : Act) (w : World),listed.size = ops.size → xIY ops listed → i ∈ Region.ready .any ops listed →
   (∀ a' w',(∃ im io,Step im0 io0 w0 im io w' ∧ a'.defers = ds ∧ InvA als chk w0 m ops.size aops pl s s1 (fun k => (listed.setIfInBounds i true).getD k false) im io a' w') → K a' w') →
   ((m ≤ i ∨ ¬ modeA) → ∀ a' w',(∃ im io,Step im0 io0 w0 im io w' ∧ a'.defers = ds ∧ xSW hs als chk R m ops.size (xBE ops ops.size) aops pl s s1 s' (fun k => (listed.setIfInBounds i true).getD k false) im io a' w') → K a' w') →
   (∃ im io,Step im0 io0 w0 im io w ∧ a.defers = ds ∧ (InvA als chk w0 m ops.size aops pl s s1 (fun k => listed.getD k false) im io a w ∨ (¬ modeA ∧ xSW hs als chk R m ops.size (xBE ops ops.size) aops pl s s1 s' (fun k => listed.getD k false) im io a w))) →
   wpOpIn (Fw r) n P ops Q i K a w) := by
  intro modeA K i listed a w hsz hcl hi hKA hKB hinv
  obtain ⟨h0,o,ho,hedges⟩ := mem_ready.1 hi
  have hiN := (Array.getElem?_eq_some_iff.1 ho).1
  have h0' : listed.getD i false = false := by rw [← xHK (by omega)]; exact h0
  have hedges2 : ∀ e,xIX ops i e = true → listed.getD e false = true := by
   intro e he
   simp only [xIX,ho,Array.any_eq_true,Bool.and_eq_true,beq_iff_eq] at he
   obtain ⟨q,hq,hb,hon⟩ := he
   have := hedges _ (Array.getElem_mem hq) hb
   rwa [hon] at this
  have befDone : ∀ d,Bef ops i d → listed.getD d false = true := fun d hd => xJ8 hcl hd hedges2
  have befNot : ∀ d,Bef ops d i → listed.getD d false = false := fun d hd => by
   cases hq : listed.getD d false with
   | false => rfl
   | true =>
    have := xJ8 hcl hd (xJZ hcl hq)
    rw [h0'] at this; cases this
  have xGC : ∀ d,d ≠ i → (listed.setIfInBounds i true).getD d false = listed.getD d false := fun d hd => getD_set_ne false (fun e => hd e.symm)
  have hseti : (listed.setIfInBounds i true).getD i false = true := by simp [hsz,hiN]
  have hia : i < aops.length := by omega
  obtain ⟨g1,g2,g3⟩ := xLD i o aops[i] ho (List.getElem?_eq_getElem hia)
  have hread_i : xJv aops i = (aops[i]).reads := by simp [xJv,List.getElem?_eq_getElem hia]
  have hdst_i : xA5 aops i = (aops[i]).dst := by simp [xA5,List.getElem?_eq_getElem hia]
  have freeAgree : ∀ (Fi : List AV),i < m → (∀ t,Fi.getD t .any = if xGE ((aops.take m).take i) t then s1.F.getD t .any else s.F.getD t .any) → ∀ t,t ∈ (aops[i]).reads →
    Fi.getD t .any = if hit (aops.take m) (fun k => listed.getD k false) t then s1.F.getD t .any else s.F.getD t .any := by
   intro Fi him e3 t ht
   rw [e3 t]
   have key : xGE ((aops.take m).take i) t = hit (aops.take m) (fun k => listed.getD k false) t := by
    rw [Bool.eq_iff_iff,hwr]
    simp only [xGE,List.any_eq_true,beq_iff_eq]
    constructor
    ·rintro ⟨o',ho',hds'⟩
     obtain ⟨j,hj⟩ := List.getElem?_of_mem ho'
     have hji : j < i := by
      rcases Nat.lt_or_ge j i with q | q
      ·exact q
      ·rw [List.getElem?_take_eq_none q] at hj; cases hj
     rw [List.getElem?_take_of_lt hji] at hj
     obtain ⟨q1,q2⟩ := takeGet j o' hj
     have hja : xA5 aops j = some t := by simp [xA5,q2,hds']
     rcases writers i j t him q1 (by rw [hread_i]; exact ht) hja with q | q | q
     ·exact ⟨j,q1,befDone j q,hja⟩
     ·omega
     ·have := xNE edge_lt2 q; omega
    ·rintro ⟨d,hd,hl,hdt⟩
     rcases writers i d t him hd (by rw [hread_i]; exact ht) hdt with q | q | q
     ·have hdi := xNE edge_lt2 q
      simp only [xA5,Option.bind_eq_some_iff] at hdt
      obtain ⟨o',h2,h3⟩ := hdt
      exact ⟨o',List.mem_of_getElem? (i := d) (by rw [List.getElem?_take_of_lt hdi,List.getElem?_take_of_lt hd]; exact h2),h3⟩
     ·subst q; rw [h0'] at hl; cases hl
     ·rw [befNot d q] at hl; cases hl
   rw [key]
  have stepB : (m ≤ i ∨ ¬ modeA) → ∀ im io,Step im0 io0 w0 im io w → a.defers = ds → xSW hs als chk R m ops.size (xBE ops ops.size) aops pl s s1 s' (fun k => listed.getD k false) im io a w → wpOpIn (Fw r) n P ops Q i K a w := by
   rintro hm' im io t1 t2 ⟨k0,sk0,hmk0,hkN0,q20,q30,q40',q50,q60,q70,q80,q90,q100⟩
   by_cases him : i < m
   ·-- one of the free part comes late
    have ⟨k,sk,hmk,hkN,q2,q3,q4,q5,q6,q7,q8,q9,q10⟩ : xSW hs als chk R m ops.size (xBE ops ops.size) aops pl s s1 s' (fun k => listed.getD k false) im io a w := ⟨k0,sk0,hmk0,hkN0,q20,q30,q40',q50,q60,q70,q80,q90,q100⟩
    have hik : i < k := by omega
    have lateK : ∀ d,d < k → listed.getD d false = false → d < m ∨ xGM (xBE ops ops.size) aops d = true := fun d hd hDd => (q3 d hd hDd).imp (fun q => q.1) (fun q => q.2)
    have hlate : xJX als m aops i = true := by
     rcases q3 i hik h0' with q | q
     ·exact q.2
     ·omega
    obtain ⟨ao',hao',hslot,hnal⟩ := late_op i hlate
    rw [List.getElem?_eq_getElem hia] at hao'; cases hao'
    obtain ⟨Fi,v,e1,e2,e3,e4⟩ := f4 i aops[i] (by rw [List.getElem?_take_of_lt him,List.getElem?_eq_getElem hia]) (by
     have := late_notalloc i hlate
     simp only [xHJ,List.getElem?_eq_getElem hia,Bool.or_eq_false_iff] at this
     exact this.1)
    have hagree : ∀ t,t ∈ (aops[i]).reads → Fi.getD t .any = (xM0 k aops (fun k => listed.getD k false) s.F sk.F).getD t .any := by
     intro t ht
     rw [freeAgree Fi him e3 t ht,xGD _ _ _ _ _ _ q7]
     by_cases hy : yet k aops (fun k => listed.getD k false) t = true
     ·rw [if_pos hy]
      obtain ⟨d',hd',hDd',hdt'⟩ := yet_iff.1 hy
      have hnh : ¬ hit (aops.take m) (fun k => listed.getD k false) t = true := by
       intro hh
       obtain ⟨d,hd,hDd,hdt⟩ := (hwr _ t).1 hh
       have := hone2 d d' t (by omega) (by omega) (.inl hd) (lateK d' hd' hDd') hdt hdt'
       subst this
       rw [hDd] at hDd'; cases hDd'
      rw [if_neg hnh]
     ·rw [if_neg hy]
      have hsk : sk.F.getD t .any = s1.F.getD t .any := by
       rw [q8 t,sameS1]
       ·intro e he hae hde
        exact hnal t ht e he hae hde
       ·intro j hj1 hj2 hjt
        have hb := tails j i t hj1 (by omega) him hjt (by rw [hread_i]; exact ht)
        exact hy (yet_iff.2 ⟨j,hj2,befNot j hb,hjt⟩)
      by_cases hw : xGE (aops.take m) t = true
      ·obtain ⟨d,hd,hdt⟩ := (hwrites t).1 hw
       cases hDd : listed.getD d false with
       | true => rw [if_pos ((hwr _ t).2 ⟨d,hd,hDd,hdt⟩),hsk]
       | false => exact (hy (yet_iff.2 ⟨d,by omega,hDd,hdt⟩)).elim
      ·have hnh : ¬ hit (aops.take m) (fun k => listed.getD k false) t = true := by
        intro hh
        obtain ⟨d',hd',_,hdt'⟩ := (hwr _ t).1 hh
        exact hw ((hwrites t).2 ⟨d',hd',hdt'⟩)
       rw [if_neg hnh,hsk,f3 t (by simpa using hw)]
    have hwant : xH9 Fi (aops[i]).guard = xH9 (xM0 k aops (fun k => listed.getD k false) s.F sk.F) (aops[i]).guard := by
     refine xMM fun t wv hg => hagree t ?_
     simp [AOper.reads,hg]
    have hFA : FreeAt R sk.H (xM0 k aops (fun k => listed.getD k false) s.F sk.F) aops[i] v := by
     rcases hslot with hslot | ⟨g,nn,p,hload,hgn,hll,hnow⟩
     ·have hop : xAO R Fi s.H (aops[i]).op = xAO R (xM0 k aops (fun k => listed.getD k false) s.F sk.F) sk.H (aops[i]).op := by
       rw [xL7 hslot Fi s.H sk.H]
       refine xMN fun x hx => xKX fun t ht => hagree t ?_
       simp only [AOper.reads,List.mem_append,List.mem_filterMap]
       exact .inl ⟨x,hx,ht⟩
      unfold FreeAt at e1 ⊢
      rw [← hwant,← hop]; exact e1
     ·have hread : p ∈ (aops[i]).reads := by simp [AOper.reads,AOp.args,Arg.slot,hload]
      have hFp : Fi.getD p .any = s1.F.getD p .any := by
       rw [e3 p]
       split
       ·rfl
       ·rename_i hnw
        rw [f3 p]
        rw [Bool.eq_false_iff]
        intro hw
        obtain ⟨d,hd,hdt⟩ := (hwrites p).1 hw
        have hdi : d < i := by
         rcases Nat.lt_or_ge d i with q | q
         ·exact q
         ·exact (hnow d (by omega) q hdt).elim
        apply hnw
        simp only [xGE,List.any_eq_true,beq_iff_eq]
        simp only [xA5,Option.bind_eq_some_iff] at hdt
        obtain ⟨o',h2,h3⟩ := hdt
        exact ⟨o',List.mem_of_getElem? (i := d) (by rw [List.getElem?_take_of_lt hdi,List.getElem?_take_of_lt hd]; exact h2),h3⟩
      have hFp2 := hagree p hread
      unfold FreeAt at e1 ⊢
      rw [← hwant]
      rcases e1 with ⟨w1,e1⟩ | ⟨w1,_⟩
      ·refine .inl ⟨w1,?_⟩
       rw [hload] at e1 ⊢
       simp only [xAO,xAc,opv] at e1 ⊢
       rw [← hFp2]
       cases hrd : rd s.H (Fi.getD p .any) nn with
       | none => rw [hrd] at e1; cases e1
       | some cs =>
        have := q9 i him h0' p nn hll cs (by rw [← hFp]; exact hrd)
        rw [← hFp] at this
        rw [this]; rw [hrd] at e1
        simpa [Option.map_map] using e1
      ·rw [hgn] at w1; simp [xH9] at w1
    have hna_i : xNT (aops[i]).op = false := by
     have := late_notalloc i hlate
     simp only [xHJ,List.getElem?_eq_getElem hia,Bool.or_eq_false_iff] at this
     exact xJN this.1
    refine xNF hR ho g1 g2 g3 hna_i q5 q6 hFA ?_
    intro im' io' a' w' u1 u2 u3 u4 _
    refine hKB hm' _ _ ⟨im',io',t1.trans u1,u4.trans t2,⟨k,sk,hmk,hkN,fun j hj hDj => ?_,fun j hj hDj => ?_,q4,u2,?_,q7,q8,fun d hd hDd p nn hl cs hr => q9 d hd (by
     by_cases e : d = i
     ·subst e; simp only [hseti] at hDd; cases hDd
     ·simpa [xGC d e] using hDd) p nn hl cs hr,fun d ao hd1 hd2 hDd hao => q10 d ao hd1 hd2 (by
     have e : d ≠ i := by omega
     simpa [xGC d e] using hDd) hao⟩⟩
    ·by_cases e : j = i
     ·omega
     ·exact q2 j hj (by simpa [xGC j e] using hDj)
    ·by_cases e : j = i
     ·subst e; simp only [hseti] at hDj; cases hDj
     ·exact q3 j hj (by simpa [xGC j e] using hDj)
    ·have : putA (xM0 k aops (fun k => listed.getD k false) s.F sk.F) (aops[i]).dst v = xM0 k aops (fun k => (listed.setIfInBounds i true).getD k false) s.F sk.F := by
      refine xIl (by rw [xE5,xEa,xEa]) (fun t => ?_)
      rw [xD2,xGD _ _ _ _ _ _ q7,xGD _ _ _ _ _ _ q7,xEa]
      by_cases hdt : (aops[i]).dst = some t
      ·have hny : ¬ yet k aops (fun k => (listed.setIfInBounds i true).getD k false) t = true := by
        intro hy
        obtain ⟨d',hd',hDd',hdt'⟩ := yet_iff.1 hy
        by_cases e : d' = i
        ·subst e; simp only [hseti] at hDd'; cases hDd'
        ·exact e (hone2 i d' t hiN (by omega) (.inl him) (lateK d' hd' (by simpa [xGC d' e] using hDd')) (by rw [hdst_i]; exact hdt) hdt').symm
       rw [if_neg hny]
       have hsk : sk.F.getD t .any = s1.F.getD t .any := by
        rw [q8 t,sameS1]
        ·intro e he hae hde
         have := hone i e t him he (by rw [hdst_i]; exact hdt) hde
         subst this
         rw [late_notalloc i hlate] at hae; cases hae
        ·intro j hj1 hj2 hjt
         rcases sinks j i hj1 (by omega) (by omega) with q | ⟨_,q⟩
         ·have h7 := befNot j q
          have := hone2 i j t hiN (by omega) (.inl him) (lateK j hj2 h7) (by rw [hdst_i]; exact hdt) hjt
          omega
         ·exact (q t (by rw [hdst_i]; exact hdt)).2 hjt
       by_cases hlt2 : t < s.F.length
       ·rw [if_pos ⟨hdt,hlt2⟩,hsk]
        exact (e4 t hdt hlt2).symm
       ·rw [if_neg (fun q => hlt2 q.2)]
        have p1 : s.F.getD t .any = .any := by simp [List.getD,List.getElem?_eq_none (Nat.le_of_not_lt hlt2)]
        have p2 : sk.F.getD t .any = .any := by simp [List.getD,List.getElem?_eq_none (by omega : sk.F.length ≤ t)]
        rw [p1,p2]; simp
      ·rw [if_neg (fun q => hdt q.1)]
       have : yet k aops (fun k => (listed.setIfInBounds i true).getD k false) t = yet k aops (fun k => listed.getD k false) t := by
        rw [Bool.eq_iff_iff,yet_iff,yet_iff]
        constructor
        ·rintro ⟨d,hd,hDd,hdt'⟩
         by_cases e : d = i
         ·subst e; simp only [hseti] at hDd; cases hDd
         ·exact ⟨d,hd,by simpa [xGC d e] using hDd,hdt'⟩
        ·rintro ⟨d,hd,hDd,hdt'⟩
         by_cases e : d = i
         ·subst e; exact (hdt (by rw [← hdst_i]; exact hdt')).elim
         ·exact ⟨d,hd,by simpa [xGC d e] using hDd,hdt'⟩
       rw [this]
     rw [← this]
     exact u3
   by_cases hik0 : i < k0
   ·-- one of the tail comes late
    obtain ⟨k,sk,hkeq,hmk,hkN,q2,q3,q4,q5,q6,q7,q8,q9,q10⟩ : ∃ k sk,k = k0 ∧ yFG hs als chk R m ops.size (xBE ops ops.size) aops pl s s1 s' (fun k => listed.getD k false) im io a w k sk := ⟨k0,sk0,rfl,hmk0,hkN0,q20,q30,q40',q50,q60,q70,q80,q90,q100⟩
    have hik : i < k := by omega
    have lateK : ∀ d,d < k → listed.getD d false = false → d < m ∨ xGM (xBE ops ops.size) aops d = true := fun d hd hDd => (q3 d hd hDd).imp (fun q => q.1) (fun q => q.2)
    have hlate : xGM (xBE ops ops.size) aops i = true := by
     rcases q3 i hik h0' with q | q
     ·omega
     ·exact q.2
    obtain ⟨ao',hao',hslot,hgn,_,hrds⟩ := tail_op i hlate
    rw [List.getElem?_eq_getElem hia] at hao'; cases hao'
    obtain ⟨v,hv1,hv2⟩ := q10 i aops[i] (by omega) hik h0' (List.getElem?_eq_getElem hia)
    have hFA : FreeAt R sk.H (xM0 k aops (fun k => listed.getD k false) s.F sk.F) aops[i] v := by
     refine hv1.other (.inr rfl) fun t ht => ?_
     rw [xGD _ _ _ _ _ _ q7,if_neg]
     intro hy
     obtain ⟨d,hd,hDd,hdt⟩ := yet_iff.1 hy
     have hDd' : listed.getD d false = false := hDd
     rw [befDone d (hrds t ht d (by omega) hdt)] at hDd'; cases hDd'
    refine xNF hR ho g1 g2 g3 (xJN (xWn hslot)) q5 q6 hFA ?_
    intro im' io' a' w' u1 u2 u3 u4 _
    refine hKB hm' _ _ ⟨im',io',t1.trans u1,u4.trans t2,⟨k,sk,hmk,hkN,fun j hj hDj => ?_,fun j hj hDj => ?_,q4,u2,?_,q7,q8,fun d hd hDd p nn hl cs hr => q9 d hd (by
     have e : d ≠ i := by omega
     simpa [xGC d e] using hDd) p nn hl cs hr,fun d ao hd1 hd2 hDd hao => ?_⟩⟩
    ·by_cases e : j = i
     ·omega
     ·exact q2 j hj (by simpa [xGC j e] using hDj)
    ·by_cases e : j = i
     ·subst e; simp only [hseti] at hDj; cases hDj
     ·exact q3 j hj (by simpa [xGC j e] using hDj)
    ·have : putA (xM0 k aops (fun k => listed.getD k false) s.F sk.F) (aops[i]).dst v = xM0 k aops (fun k => (listed.setIfInBounds i true).getD k false) s.F sk.F := by
      refine xIl (by rw [xE5,xEa,xEa]) (fun t => ?_)
      rw [xD2,xGD _ _ _ _ _ _ q7,xGD _ _ _ _ _ _ q7,xEa]
      by_cases hdt : (aops[i]).dst = some t
      ·have hny : ¬ yet k aops (fun k => (listed.setIfInBounds i true).getD k false) t = true := by
        intro hy
        obtain ⟨d',hd',hDd',hdt'⟩ := yet_iff.1 hy
        by_cases e : d' = i
        ·subst e; simp only [hseti] at hDd'; cases hDd'
        ·exact e (hone2 i d' t hiN (by omega) (.inr hlate) (lateK d' hd' (by simpa [xGC d' e] using hDd')) (by rw [hdst_i]; exact hdt) hdt').symm
       rw [if_neg hny]
       by_cases hlt2 : t < s.F.length
       ·rw [if_pos ⟨hdt,hlt2⟩]
        exact (hv2 t hdt hlt2).symm
       ·rw [if_neg (fun q => hlt2 q.2)]
        have p1 : s.F.getD t .any = .any := by simp [List.getD,List.getElem?_eq_none (Nat.le_of_not_lt hlt2)]
        have p2 : sk.F.getD t .any = .any := by simp [List.getD,List.getElem?_eq_none (by omega : sk.F.length ≤ t)]
        rw [p1,p2]; simp
      ·rw [if_neg (fun q => hdt q.1)]
       have : yet k aops (fun k => (listed.setIfInBounds i true).getD k false) t = yet k aops (fun k => listed.getD k false) t := by
        rw [Bool.eq_iff_iff,yet_iff,yet_iff]
        constructor
        ·rintro ⟨d,hd,hDd,hdt'⟩
         by_cases e : d = i
         ·subst e; simp only [hseti] at hDd; cases hDd
         ·exact ⟨d,hd,by simpa [xGC d e] using hDd,hdt'⟩
        ·rintro ⟨d,hd,hDd,hdt'⟩
         by_cases e : d = i
         ·subst e; exact (hdt (by rw [← hdst_i]; exact hdt')).elim
         ·exact ⟨d,hd,by simpa [xGC d e] using hDd,hdt'⟩
       rw [this]
     rw [← this]
     exact u3
    ·have e : d ≠ i := by
      rintro rfl
      simp only [hseti] at hDd; cases hDd
     have hDd' : listed.getD d false = false := by simpa [xGC d e] using hDd
     obtain ⟨v',w1,w2⟩ := q10 d ao hd1 hd2 hDd' hao
     exact ⟨v',w1,w2⟩
   have adv : ∀ n k sk,k + n = i → yFG hs als chk R m ops.size (xBE ops ops.size) aops pl s s1 s' (fun k => listed.getD k false) im io a w k sk → ∃ sk,yFG hs als chk R m ops.size (xBE ops ops.size) aops pl s s1 s' (fun k => listed.getD k false) im io a w i sk := by
    intro n
    induction n with
    | zero => intro k sk e h; obtain rfl : k = i := by omega
              exact ⟨sk,h⟩
    | succ n ihn =>
     rintro k sk e ⟨hmk,hkN,q2,q3,⟨q4,qh⟩,q5,q6,q7,q8,q9,q10⟩
     have hki : k < i := by omega
     have hDk : listed.getD k false = false := by
      cases hq : listed.getD k false with
      | false => rfl
      | true => have := q2 k (by omega) hq; omega
     have hlt : xGM (xBE ops ops.size) aops k = true := by
      rcases sinks i k (by omega) hiN hki with h6 | ⟨h6 | h6,_⟩
      ·rw [befDone k h6] at hDk; cases hDk
      ·omega
      ·exact h6.2
     obtain ⟨ao,hao,hslot,hgn,huni,hrds⟩ := tail_op k hlt
     have hka : k < aops.length := by omega
     have haok : aops[k] = ao := by rw [List.getElem?_eq_getElem hka] at hao; exact Option.some.inj hao
     have hdk : xA5 aops k = ao.dst := by simp [xA5,hao]
     rw [List.drop_eq_getElem_cons hka,haok] at q4 qh
     simp only [xBJ] at q4
     split at q4
     ·cases q4
     rename_i s2 hs2
     simp only [xLC,hs2,Bool.and_eq_true] at qh
     have qh := qh.2
     obtain ⟨v,h0,rfl⟩ : ∃ v,FreeAt R sk.H sk.F ao v ∧ s2 = ⟨putA sk.F ao.dst v,sk.H⟩ := by
      unfold xEc at hs2
      split at hs2
      ·cases hs2
      ·rename_i hw
       cases hs2
       exact ⟨_,.inr ⟨hw,rfl⟩,rfl⟩
      ·rename_i hw
       simp only [Option.map_eq_some_iff] at hs2
       obtain ⟨⟨v,H2⟩,hex,rfl⟩ := hs2
       obtain rfl := xJ0 (xVs hslot) hex
       exact ⟨v,.inl ⟨hw,by rw [xWm hslot,hex]; rfl⟩,rfl⟩
     have lateK : ∀ d,d < k → listed.getD d false = false → d < m ∨ xGM (xBE ops ops.size) aops d = true := fun d hd hDd => (q3 d hd hDd).imp (fun q => q.1) (fun q => q.2)
     refine ihn (k + 1) ⟨putA sk.F ao.dst v,sk.H⟩ (by omega) ⟨by omega,by omega,fun j hj hDj => by have := q2 j hj hDj; omega,fun j hj hDj => ?_,⟨q4,qh⟩,q5,?_,by rw [xE5]; exact q7,fun t ht => ?_,q9,fun d aod hd1 hd2 hDd haod => ?_⟩
     ·by_cases ej : j = k
      ·subst ej; exact .inr ⟨hmk,hlt⟩
      ·exact q3 j (by omega) hDj
     ·have : xM0 (k + 1) aops (fun k => listed.getD k false) s.F (putA sk.F ao.dst v) = xM0 k aops (fun k => listed.getD k false) s.F sk.F := by
       refine xIl (by rw [xEa,xEa]) (fun t => ?_)
       rw [xGD _ _ _ _ _ _ (by rw [xE5]; exact q7),xGD _ _ _ _ _ _ q7]
       by_cases hdt : ao.dst = some t
       ·rw [if_pos (yet_iff.2 ⟨k,by omega,hDk,by rw [hdk]; exact hdt⟩),if_neg]
        ·rw [q8 t (fun j hj1 hj2 hjt => by have := huni j t (by omega) hdt hjt; omega),sameS1]
         ·rw [f3 t]
          rw [Bool.eq_false_iff]
          intro hw
          obtain ⟨d,hd,hdt'⟩ := (hwrites t).1 hw
          have := huni d t (by omega) hdt hdt'
          omega
         ·intro d hd _ hdt'
          have := huni d t (by omega) hdt hdt'
          omega
        ·intro hy
         obtain ⟨d,hd,hDd,hdt'⟩ := yet_iff.1 hy
         have := huni d t (by omega) hdt hdt'
         omega
       ·have e1 : yet (k + 1) aops (fun k => listed.getD k false) t = yet k aops (fun k => listed.getD k false) t := by
         rw [Bool.eq_iff_iff,yet_iff,yet_iff]
         constructor
         ·rintro ⟨d,hd,hDd,hdt'⟩
          by_cases ed : d = k
          ·subst ed; exact (hdt (by rw [← hdk]; exact hdt')).elim
          ·exact ⟨d,by omega,hDd,hdt'⟩
         ·rintro ⟨d,hd,hDd,hdt'⟩
          exact ⟨d,by omega,hDd,hdt'⟩
        rw [e1]
        by_cases hy : yet k aops (fun k => listed.getD k false) t = true
        ·rw [if_pos hy,if_pos hy]
        ·rw [if_neg hy,if_neg hy,xD2,if_neg (fun q => hdt q.1)]
      rw [this]; exact q6
     ·rw [xD2,if_neg]
      ·exact q8 t (fun j hj1 hj2 => ht j hj1 (by omega))
      ·intro q
       exact ht k hmk (by omega) (by rw [hdk]; exact q.1)
     ·by_cases ed : d = k
      ·subst ed
       rw [hao] at haod; cases haod
       refine ⟨v,?_,fun t hdt hlt' => ?_⟩
       ·refine h0.other (.inr rfl) fun t ht => ?_
        show _ = (putA sk.F ao.dst v).getD t .any
        rw [xD2,if_neg]
        intro q
        have := xNE edge_lt2 (hrds t ht d (by omega) (by rw [hdk]; exact q.1))
        omega
       ·show (putA sk.F ao.dst v).getD t .any = v
        rw [xD2,if_pos ⟨hdt,by omega⟩]
      ·obtain ⟨v',w1,w2⟩ := q10 d aod hd1 (by omega) hDd haod
       have hld : xGM (xBE ops ops.size) aops d = true := by
        rcases q3 d (by omega) hDd with q | q
        ·omega
        ·exact q.2
       obtain ⟨ao2,hao2,hslot2,hgn2,huni2,hrds2⟩ := tail_op d hld
       rw [haod] at hao2; cases hao2
       refine ⟨v',?_,fun t hdt hlt' => ?_⟩
       ·refine w1.other (.inr rfl) fun t ht => ?_
        show _ = (putA sk.F ao.dst v).getD t .any
        rw [xD2,if_neg]
        intro q
        have := xNE edge_lt2 (hrds2 t ht k (by omega) (by rw [hdk]; exact q.1))
        omega
       ·show (putA sk.F ao.dst v).getD t .any = v'
        rw [xD2,if_neg]
        ·exact w2 t hdt hlt'
        ·intro q
         have := huni2 k t (by omega) hdt (by rw [hdk]; exact q.1)
         omega
   ·-- the next of the tail
    obtain ⟨sk,hmk,hkN,q2,q3,⟨q4,qh⟩,q5,q6,q7,q8,q9,q10⟩ := adv (i - k0) k0 sk0 (by omega) ⟨hmk0,hkN0,q20,q30,q40',q50,q60,q70,q80,q90,q100⟩
    have hyet : ∀ t,(t ∈ (aops[i]).reads ∨ (aops[i]).dst = some t) → ¬ yet i aops (fun k => listed.getD k false) t = true := by
     intro t ht hy
     obtain ⟨d,hd,hDd,hdt⟩ := yet_iff.1 hy
     rcases sinks i d hmk hiN (by omega) with h6 | ⟨_,h6⟩
     ·have := befDone d h6
      have hDd' : listed.getD d false = false := hDd
      rw [this] at hDd'; cases hDd'
     ·obtain ⟨p1,p2⟩ := h6 t hdt
      rcases ht with ht | ht
      ·rw [hread_i] at p1; exact p1 ht
      ·rw [hdst_i] at p2; exact p2 ht
    have hagree : ∀ t,t ∈ (aops[i]).reads → sk.F.getD t .any = (xM0 i aops (fun k => listed.getD k false) s.F sk.F).getD t .any := fun t ht => by
     rw [xGD _ _ _ _ _ _ q7,if_neg (hyet t (.inl ht))]
    have q40 := q4
    rw [List.drop_eq_getElem_cons hia] at q4 qh
    simp only [xBJ] at q4
    split at q4
    ·cases q4
    rename_i s2 hs2
    simp only [xLC,hs2,Bool.and_eq_true] at qh
    obtain ⟨qh1,qh⟩ := qh
    have keep : ∀ (v : AV) (H2 : Heap),s2.H = H2 → xAc R sk.F sk.H (aops[i]).op = some (v,H2) → ∀ d,d < m → listed.getD d false = false → ∀ p nn,xHF aops d = some (p,nn) → ∀ cs,rd sk.H (s1.F.getD p .any) nn = some cs → rd H2 (s1.F.getD p .any) nn = some cs := by
     intro v H2 hH2 hex d hd hDd p nn hll cs hrd
     rcases sinks' i d hmk hiN (by omega) with h6 | ⟨⟨_,hlt6,hp⟩ | ⟨h6,_⟩,_⟩
     ·rw [befDone d h6] at hDd; cases hDd
     ·unfold xWg at hp
      rw [hll] at hp
      simp only [List.getElem?_eq_getElem hia,Bool.or_eq_true] at hp
      rcases hp with (hp | hp) | hp
      ·rw [xJ0 hp hex]; exact hrd
      ·have hpp1 : sk.F.getD p .any = s1.F.getD p .any := by
        have noP : ∀ j,j < aops.length → d ≤ j → xA5 aops j ≠ some p := by
         obtain ⟨ao',hao',hk',_⟩ := late_op d hlt6
         rcases hk' with hk' | ⟨g,n2,p2,hload,_,hll2,hnow⟩
         ·exfalso
          unfold xHF at hll
          rw [hao'] at hll
          split at hll
          ·rename_i heq
           cases heq
           simp [xFf] at hk'
          ·cases hll
         ·rw [hll] at hll2; cases hll2
          exact hnow
        rw [q8 p (fun j hj1 hj2 => noP j (by omega) (by omega)),sameS1]
        intro e he hae hde
        obtain ⟨ao',hao',_,hnal⟩ := late_op d hlt6
        refine hnal p ?_ e he hae hde
        unfold xHF at hll
        rw [hao'] at hll
        split at hll
        ·rename_i heq
         cases heq; cases hll
         simp [AOper.reads,AOp.args,Arg.slot]
        ·cases hll
       have := List.all_eq_true.1 qh1 _ (List.contains_iff_mem.1 hp)
       simp only [bne_self_eq_false,Bool.false_or] at this
       rw [hpp1,hH2] at this
       exact xWl this hrd
      ·split at hp
       case h_3 => cases hp
       ·rename_i n' q x hopq
        simp only [Bool.and_eq_true,List.all_eq_true,List.mem_range,Bool.or_eq_true,decide_eq_true_eq,bne_iff_ne,ne_eq] at hp
        have hap := List.all_eq_true.1 hls _ (List.contains_iff_mem.1 hp.1)
        simp only [apart] at hap
        have noP : ∀ j,j < aops.length → d ≤ j → xA5 aops j ≠ some p := by
         obtain ⟨ao',hao',hk',_⟩ := late_op d hlt6
         rcases hk' with hk' | ⟨g,n2,p2,hload,_,hll2,hnow⟩
         ·exfalso
          unfold xHF at hll
          rw [hao'] at hll
          split at hll
          ·rename_i heq
           cases heq
           simp [xFf] at hk'
          ·cases hll
         ·rw [hll] at hll2; cases hll2
          exact hnow
        have inDrop : ∀ o ∈ aops.drop i,∃ j,i ≤ j ∧ j < aops.length ∧ xA5 aops j = o.dst := by
         intro o' ho'
         obtain ⟨j,hj⟩ := List.getElem?_of_mem ho'
         rw [List.getElem?_drop] at hj
         exact ⟨i + j,by omega,(List.getElem?_eq_some_iff.1 hj).1,by simp [xA5,hj]⟩
        have hq : s'.F.getD q .any = sk.F.getD q .any := xIZ q40 (fun o' ho' hd' => by
         obtain ⟨j,j1,j2,j3⟩ := inDrop o' ho'
         have hq' := hp.2 j j2
         rcases hq' with q' | q'
         ·exact absurd q' (Nat.not_lt.2 j1)
         ·exact q' (by rw [j3]; exact hd'))
        have hpp : s'.F.getD p .any = sk.F.getD p .any := xIZ q40 (fun o' ho' hd' => by
         obtain ⟨j,j1,j2,j3⟩ := inDrop o' ho'
         exact noP j j2 (by omega) (by rw [j3]; exact hd'))
        have hp1 : sk.F.getD p .any = s1.F.getD p .any := by
         rw [q8 p (fun j hj1 hj2 => noP j (by omega) (by omega)),sameS1]
         intro e he hae hde
         obtain ⟨ao',hao',_,hnal⟩ := late_op d hlt6
         refine hnal p ?_ e he hae hde
         unfold xHF at hll
         rw [hao'] at hll
         split at hll
         ·rename_i heq
          cases heq; cases hll
          simp [AOper.reads,AOp.args,Arg.slot]
         ·cases hll
        rw [hopq] at hex
        have hex2 := xVr hex
        obtain ⟨hlen,hw⟩ := hex2
        refine xVq hrd hw ?_
        rw [hlen,← hp1,← hpp]
        show xMQ _ _ (sk.F.getD q .any) _ = true
        rw [← hq]
        exact hap
       ·rename_i fz0 es0 b0 q y hopq
        simp only [Bool.and_eq_true,List.all_eq_true,List.mem_range,Bool.or_eq_true,decide_eq_true_eq,bne_iff_ne,ne_eq] at hp
        have hap := List.all_eq_true.1 hls _ (List.contains_iff_mem.1 hp.1)
        simp only [apart] at hap
        have noP : ∀ j,j < aops.length → d ≤ j → xA5 aops j ≠ some p := by
         obtain ⟨ao',hao',hk',_⟩ := late_op d hlt6
         rcases hk' with hk' | ⟨g,n2,p2,hload,_,hll2,hnow⟩
         ·exfalso
          unfold xHF at hll
          rw [hao'] at hll
          split at hll
          ·rename_i heq
           cases heq
           simp [xFf] at hk'
          ·cases hll
         ·rw [hll] at hll2; cases hll2
          exact hnow
        have inDrop : ∀ o ∈ aops.drop i,∃ j,i ≤ j ∧ j < aops.length ∧ xA5 aops j = o.dst := by
         intro o' ho'
         obtain ⟨j,hj⟩ := List.getElem?_of_mem ho'
         rw [List.getElem?_drop] at hj
         exact ⟨i + j,by omega,(List.getElem?_eq_some_iff.1 hj).1,by simp [xA5,hj]⟩
        have hq : s'.F.getD q .any = sk.F.getD q .any := xIZ q40 (fun o' ho' hd' => by
         obtain ⟨j,j1,j2,j3⟩ := inDrop o' ho'
         have hq' := hp.2 j j2
         rcases hq' with q' | q'
         ·exact absurd q' (Nat.not_lt.2 j1)
         ·exact q' (by rw [j3]; exact hd'))
        have hpp : s'.F.getD p .any = sk.F.getD p .any := xIZ q40 (fun o' ho' hd' => by
         obtain ⟨j,j1,j2,j3⟩ := inDrop o' ho'
         exact noP j j2 (by omega) (by rw [j3]; exact hd'))
        have hp1 : sk.F.getD p .any = s1.F.getD p .any := by
         rw [q8 p (fun j hj1 hj2 => noP j (by omega) (by omega)),sameS1]
         intro e he hae hde
         obtain ⟨ao',hao',_,hnal⟩ := late_op d hlt6
         refine hnal p ?_ e he hae hde
         unfold xHF at hll
         rw [hao'] at hll
         split at hll
         ·rename_i heq
          cases heq; cases hll
          simp [AOper.reads,AOp.args,Arg.slot]
         ·cases hll
        rw [hopq] at hex
        refine xS6 hex hrd ?_
        rw [← hp1,← hpp]
        show xMQ _ _ (sk.F.getD q .any) _ = true
        rw [← hq]
        exact hap
     ·omega
    have hwant : xH9 sk.F (aops[i]).guard = xH9 (xM0 i aops (fun k => listed.getD k false) s.F sk.F) (aops[i]).guard := by
     refine xMM fun t wv hg => hagree t ?_
     simp [AOper.reads,hg]
    have hop : xAc R sk.F sk.H (aops[i]).op = xAc R (xM0 i aops (fun k => listed.getD k false) s.F sk.F) sk.H (aops[i]).op := by
     refine xLn fun x hx => xKX fun t ht => hagree t ?_
     simp only [AOper.reads,List.mem_append,List.mem_filterMap]
     exact .inl ⟨x,hx,ht⟩
    have calmB : ∀ (v : AV) (H2 : Heap),xAc R sk.F sk.H (aops[i]).op = some (v,H2) → ∀ d ao,m ≤ d → d < i → listed.getD d false = false → aops[d]? = some ao → xMF ao.op = true → H2 = sk.H := by
     intro v H2 hex d ao hd1 hd2 hDd hao hl
     rcases sinks' i d hmk hiN (by omega) with h6 | ⟨⟨h6,_⟩ | ⟨_,_,hp⟩,_⟩
     ·rw [befDone d h6] at hDd; cases hDd
     ·omega
     ·unfold xPV at hp
      rw [hao] at hp
      simp only [hl,Bool.not_true,Bool.false_or,List.getElem?_eq_getElem hia] at hp
      exact xJ0 hp hex
    have nextB : ∀ im' io' a' w' (v : AV) (H2 : Heap),(∀ d ao,m ≤ d → d < i → listed.getD d false = false → aops[d]? = some ao → xMF ao.op = true → H2 = sk.H) → (∀ d,d < m → listed.getD d false = false → ∀ p nn,xHF aops d = some (p,nn) → ∀ cs,rd sk.H (s1.F.getD p .any) nn = some cs → rd H2 (s1.F.getD p .any) nn = some cs) → s2 = ⟨putA sk.F (aops[i]).dst v,H2⟩ → Step im io w im' io' w' → Sim chk im' io' H2 w' → FRep im' io' (putA (xM0 i aops (fun k => listed.getD k false) s.F sk.F) (aops[i]).dst v) a' → a'.defers = a.defers →
      K a' w' := by
     intro im' io' a' w' v H2 hcalm hkeep hs2' u1 u2 u3 u4
     subst hs2'
     refine hKB hm' _ _ ⟨im',io',t1.trans u1,u4.trans t2,⟨i + 1,_,by omega,by omega,fun j hj hDj => ?_,fun j hj hDj => ?_,⟨q4,qh⟩,u2,?_,by rw [xE5]; exact q7,fun t ht => ?_,fun d hd hDd p nn hl cs hr => ?_,fun d aod hd1 hd2 hDd haod => ?_⟩⟩
     ·by_cases e : j = i
      ·omega
      ·have := q2 j hj (by simpa [xGC j e] using hDj); omega
     ·by_cases e : j = i
      ·subst e; simp only [hseti] at hDj; cases hDj
      ·exact q3 j (by omega) (by simpa [xGC j e] using hDj)
     ·have : putA (xM0 i aops (fun k => listed.getD k false) s.F sk.F) (aops[i]).dst v = xM0 (i + 1) aops (fun k => (listed.setIfInBounds i true).getD k false) s.F (putA sk.F (aops[i]).dst v) := by
       refine xIl (by rw [xE5,xEa,xEa]) (fun t => ?_)
       rw [xD2,xGD _ _ _ _ _ _ q7,xGD _ _ _ _ _ _ (by rw [xE5]; exact q7),xEa,xD2,q7]
       have hyy : yet (i + 1) aops (fun k => (listed.setIfInBounds i true).getD k false) t = yet i aops (fun k => listed.getD k false) t := by
        rw [Bool.eq_iff_iff,yet_iff,yet_iff]
        constructor
        ·rintro ⟨d,hd,hDd,hdt'⟩
         have e : d ≠ i := by
          rintro rfl
          simp only [hseti] at hDd; cases hDd
         exact ⟨d,by omega,by simpa [xGC d e] using hDd,hdt'⟩
        ·rintro ⟨d,hd,hDd,hdt'⟩
         exact ⟨d,by omega,by simpa [xGC d (by omega)] using hDd,hdt'⟩
       rw [hyy]
       by_cases hdt : (aops[i]).dst = some t ∧ t < s.F.length
       ·rw [if_pos hdt,if_neg (hyet t (.inr hdt.1)),if_pos hdt]
       ·rw [if_neg hdt,if_neg hdt]
      rw [← this]; exact u3
     ·rw [xD2,if_neg]
      ·exact q8 t (fun j hj1 hj2 => ht j hj1 (by omega))
      ·intro q
       exact ht i hmk (by omega) (by rw [hdst_i]; exact q.1)
     ·have hDd' : listed.getD d false = false := by
       have : d ≠ i := by omega
       simpa [xGC d this] using hDd
      exact hkeep d hd hDd' p nn hl cs (q9 d hd hDd' p nn hl cs hr)
     ·have e : d ≠ i := by
       rintro rfl
       simp only [hseti] at hDd; cases hDd
      have hDd' : listed.getD d false = false := by simpa [xGC d e] using hDd
      obtain ⟨v',w1,w2⟩ := q10 d aod hd1 (by omega) hDd' haod
      have hld : xGM (xBE ops ops.size) aops d = true := by
       rcases q3 d (by omega) hDd' with q | q
       ·omega
       ·exact q.2
      obtain ⟨ao2,hao2,hslot2,hgn2,huni2,hrds2⟩ := tail_op d hld
      rw [haod] at hao2; cases hao2
      refine ⟨v',?_,fun t hdt hlt' => ?_⟩
      ·refine w1.other (hslot2.imp id (fun hl => hcalm d aod hd1 (by omega) hDd' haod hl)) fun t ht => ?_
       show _ = (putA sk.F (aops[i]).dst v).getD t .any
       rw [xD2,if_neg]
       intro q
       have := xNE edge_lt2 (hrds2 t ht i (by omega) (by rw [hdst_i]; exact q.1))
       omega
      ·show (putA sk.F (aops[i]).dst v).getD t .any = v'
       rw [xD2,if_neg]
       ·exact w2 t hdt hlt'
       ·intro q
        have := huni2 i t (by omega) hdt (by rw [hdst_i]; exact q.1)
        omega
    unfold wpOpIn
    simp only [ho]
    unfold xEc at hs2
    split at hs2
    ·cases hs2
    ·rename_i hw
     cases hs2
     rw [hwant] at hw
     rw [xJz g3 q6 hw]
     simp only [Bool.false_eq_true,if_false]
     refine ⟨fun f _ => trivial,?_⟩
     refine nextB im io _ w _ _ (fun _ _ _ _ _ _ _ => rfl) (fun d _ _ p nn _ cs hr => hr) rfl (.refl _ _ _) q5 ?_ (xEY _ _ _)
     rw [g1]
     exact q6.put _ (.tup (vs := []) rfl (fun i c v h => by simp at h))
    ·rename_i hw
     simp only [Option.map_eq_some_iff] at hs2
     obtain ⟨⟨v,H2⟩,hs3,rfl⟩ := hs2
     rw [hwant] at hw
     have hs30 := hs3
     rw [hop] at hs3
     rw [xJz g3 q6 hw]
     simp only [if_true]
     refine Oper.wpIn_mono ?_ (xPZ hR g2 q5 q6 hs3 Q)
     rintro a' w' ⟨im',io',u1,u2,u3,u4,_⟩
     rw [g1] at u3
     exact nextB im' io' a' w' v H2 (calmB v H2 hs30) (keep v H2 rfl hs30) rfl u1 u2 u3 u4
  obtain ⟨im,io,t1,t2,h | h⟩ := hinv
  ·by_cases him : i < m
   ·obtain ⟨h1,h2,h3,⟨ioss,h4,h5⟩,hal,hal2⟩ := h
    have nextF : ∀ vv,(∀ t,(aops[i]).dst = some t → t < s.F.length → s1.F.getD t .any = vv) →
      putA (mix (aops.take m) (fun k => listed.getD k false) s.F s1.F) (aops[i]).dst vv = mix (aops.take m) (fun k => (listed.setIfInBounds i true).getD k false) s.F s1.F := by
     intro vv hvv
     refine xIl (by rw [xE5,xGl,xGl]) (fun t => ?_)
     rw [xD2,xJw _ _ _ _ _ f2,xJw _ _ _ _ _ f2,xGl]
     by_cases hdt : (aops[i]).dst = some t
     ·have hh : hit (aops.take m) (fun k => (listed.setIfInBounds i true).getD k false) t = true := (hwr _ t).2 ⟨i,him,hseti,by rw [hdst_i]; exact hdt⟩
      rw [if_pos hh]
      by_cases hlt2 : t < s.F.length
      ·rw [if_pos ⟨hdt,hlt2⟩]; exact (hvv t hdt hlt2).symm
      ·rw [if_neg (fun q => hlt2 q.2)]
       have p1 : s.F.getD t .any = .any := by simp [List.getD,List.getElem?_eq_none (Nat.le_of_not_lt hlt2)]
       have p2 : s1.F.getD t .any = .any := by simp [List.getD,List.getElem?_eq_none (by omega : s1.F.length ≤ t)]
       rw [p1,p2]; simp
     ·rw [if_neg (fun q => hdt q.1)]
      have : hit (aops.take m) (fun k => (listed.setIfInBounds i true).getD k false) t = hit (aops.take m) (fun k => listed.getD k false) t := by
       rw [Bool.eq_iff_iff,hwr,hwr]
       constructor
       ·rintro ⟨d,hd,hDd,hdt'⟩
        by_cases e : d = i
        ·subst e; exact (hdt (by rw [← hdst_i]; exact hdt')).elim
        ·exact ⟨d,hd,by simpa [xGC d e] using hDd,hdt'⟩
       ·rintro ⟨d,hd,hDd,hdt'⟩
        by_cases e : d = i
        ·subst e; simp only [h0'] at hDd; cases hDd
        ·exact ⟨d,hd,by simpa [xGC d e] using hDd,hdt'⟩
      rw [this]
    have privDst : ∀ j t v B,pl[j]? = some (some (t,v,B)) → j ≠ i → (aops[i]).dst ≠ some t := by
     intro j t v B hj hji he
     obtain ⟨q1,_,q3,_⟩ := plAt j t v B hj
     exact hji (hone j i t q1 him q3 (by rw [hdst_i]; exact he))
    have nextAl : ∀ (a' : Act) (x : Value),a' = a.put (aops[i]).dst x → (∀ q,(aops[i]).op = .mov (.t q) → (aops[i]).guard = none → x = a.tmps.getD q undef) →
      ∀ d q i' e,e < i' → xKS aops e q = true → i' < m → aops[i']? = some ⟨some d,.mov (.t q),none⟩ → (listed.setIfInBounds i true).getD i' false = true → ∀ y,a'.tmps.toList[d]? = some y → y = a'.tmps.getD q undef := by
     intro a' x ha' hx d q j e hej hel hjm hj hD y hy
     obtain ⟨ao,hao,hp,hed⟩ := xKn hel
     have hi' := hj
     have hda : xA5 aops e = some q := by simp [xA5,hao,hed]
     have hdj : xA5 aops j = some d := by simp [xA5,hj]
     have hdq' : d ≠ q := by
      rintro rfl
      have := hone e j d (by omega) hjm hda hdj
      omega
     have hei : i ≠ e → (aops[i]).dst ≠ some q := fun hne h => hne (hone i e q him (by omega) (by rw [hdst_i]; exact h) hda)
     have hsrc : j = i ∨ listed.getD j false = true → (aops[i]).dst ≠ some q := by
      intro hD'
      refine hei ?_
      rintro rfl
      rcases hD' with rfl | hD'
      ·omega
      ·rcases writers j i q hjm him (by simp [xJv,hj,AOper.reads,AOp.args,Arg.slot]) hda with w1 | w1 | w1
       ·have := xJ8 hcl w1 (xJZ hcl hD')
        rw [h0'] at this; cases this
       ·omega
       ·have := xNE edge_lt2 w1; omega
     have getQ : (aops[i]).dst ≠ some q → a'.tmps.getD q undef = a.tmps.getD q undef := by
      intro h
      have := xKa (a := a) (x := x) h
      rw [← ha',Array.getElem?_toList,Array.getElem?_toList] at this
      rw [Array.getD_eq_getD_getElem?,Array.getD_eq_getD_getElem?,this]
     by_cases e1 : j = i
     ·subst e1
      rw [getQ (hsrc (.inl rfl))]
      rw [List.getElem?_eq_getElem hia] at hi'
      have hi2 : aops[j] = ⟨some d,.mov (.t q),none⟩ := Option.some.inj hi'
      rw [hi2] at hx ha'
      rw [← hx q rfl rfl]
      subst ha'
      have : (a.tmps.setIfInBounds d x).toList[d]? = some y := hy
      rw [Array.toList_setIfInBounds,List.getElem?_set_self'] at this
      cases hh : a.tmps.toList[d]? with
      | none => rw [hh] at this; cases this
      | some z => rw [hh] at this; exact (Option.some.inj this).symm
     ·have hDj : listed.getD j false = true := by simpa [xGC j e1] using hD
      rw [getQ (hsrc (.inr hDj))]
      refine hal d q j e hej hel hjm hj hDj y ?_
      rw [← hy,ha']
      exact (xKa (fun h => e1 (hone j i d hjm him hdj (by rw [hdst_i]; exact h)))).symm
    have nextAl2 : ∀ (a' : Act) (x : Value),a' = a.put (aops[i]).dst x → (∀ j p,(aops[i]).op = .ext j (.t p) → (aops[i]).guard = none → yEh (j + 1) x (a.tmps.getD p undef)) →
      ∀ d q i' j p,i' < m → aops[i']? = some ⟨some d,.ext j (.t p),none⟩ → xVo aops i' d q = true → (listed.setIfInBounds i true).getD i' false = true → ∀ y,a'.tmps.toList[d]? = some y → yEh (j + 1) y (a'.tmps.getD p undef) := by
     intro a' x ha' hx d q i' j p hi'm hi' hop hD y hy
     obtain ⟨e,hei',hem⟩ : ∃ e,e < i' ∧ aops[e]? = some ⟨some p,.mov (.t (q % 4096)),none⟩ := by
      rcases xIk hop with ⟨hx,_⟩ | ⟨j',p',e,hx,_,h1,h2,_⟩
      ·rw [hi'] at hx; cases hx
      ·rw [hi'] at hx; cases hx
       exact ⟨e,h1,h2⟩
     have hda : xA5 aops e = some p := by simp [xA5,hem]
     have hdj : xA5 aops i' = some d := by simp [xA5,hi']
     have hei : i ≠ e → (aops[i]).dst ≠ some p := fun hne h => hne (hone i e p him (by omega) (by rw [hdst_i]; exact h) hda)
     have hsrc : i' = i ∨ listed.getD i' false = true → (aops[i]).dst ≠ some p := by
      intro hD'
      refine hei ?_
      rintro rfl
      rcases hD' with rfl | hD'
      ·omega
      ·rcases writers i' i p hi'm him (by simp [xJv,hi',AOper.reads,AOp.args,Arg.slot]) hda with w1 | w1 | w1
       ·have := xJ8 hcl w1 (xJZ hcl hD')
        rw [h0'] at this; cases this
       ·omega
       ·have := xNE edge_lt2 w1; omega
     have getP : (aops[i]).dst ≠ some p → a'.tmps.getD p undef = a.tmps.getD p undef := by
      intro h
      have := xKa (a := a) (x := x) h
      rw [← ha',Array.getElem?_toList,Array.getElem?_toList] at this
      rw [Array.getD_eq_getD_getElem?,Array.getD_eq_getD_getElem?,this]
     by_cases e1 : i' = i
     ·subst e1
      rw [getP (hsrc (.inl rfl))]
      rw [List.getElem?_eq_getElem hia] at hi'
      have hi2 : aops[i'] = ⟨some d,.ext j (.t p),none⟩ := Option.some.inj hi'
      rw [hi2] at hx ha'
      have := hx j p rfl rfl
      subst ha'
      have hz : (a.tmps.setIfInBounds d x).toList[d]? = some y := hy
      rw [Array.toList_setIfInBounds,List.getElem?_set_self'] at hz
      cases hh : a.tmps.toList[d]? with
      | none => rw [hh] at hz; cases hz
      | some z =>
       rw [hh] at hz
       have hxy : x = y := Option.some.inj hz
       rw [← hxy]
       exact this
     ·have hDj : listed.getD i' false = true := by simpa [xGC i' e1] using hD
      rw [getP (hsrc (.inr hDj))]
      refine hal2 d q i' j p hi'm hi' hop hDj y ?_
      rw [← hy,ha']
      exact (xKa (fun h => e1 (hone i' i d hi'm him hdj (by rw [hdst_i]; exact h)))).symm
    by_cases hal : xBk (aops[i]).op = true
    ·-- something is laid
     have hga := halloc i him
     rw [List.getElem?_eq_getElem hia] at hga
     simp only [hal,Bool.not_true,Bool.false_or,Bool.and_eq_true] at hga
     have hgn : (aops[i]).guard = none := by simpa using hga.1
     obtain ⟨Fi,e2,e3,g⟩ := f45 i aops[i] (by rw [List.getElem?_take_of_lt him,List.getElem?_eq_getElem hia])
     rcases g with ⟨g,_⟩ | ⟨_,t,v,B,hdt,hpv,hpl,hany⟩
     ·rw [hal] at g; cases g
     have hagree : ∀ t,t ∈ (aops[i]).reads → Fi.getD t .any = (mix (aops.take m) (fun k => listed.getD k false) s.F s1.F).getD t .any := fun t ht => by
      rw [freeAgree Fi him e3 t ht,xJw _ _ _ _ _ f2]
     have hop : xJn R Fi (aops[i]).op = xJn R (mix (aops.take m) (fun k => listed.getD k false) s.F s1.F) (aops[i]).op := by
      refine xS5 fun x hx => xKX fun t ht => hagree t ?_
      simp only [AOper.reads,List.mem_append,List.mem_filterMap]
      exact .inl ⟨x,hx,ht⟩
     rw [hop] at hpv
     refine xWj hR ho g1 g2 g3 hgn hdt h2 h3 hpv ?_
     rintro im' a' w' x ios u1 u2 rfl u3
     refine hKA _ _ ⟨im',io,t1.trans u1,(xEY _ _ _).trans t2,⟨fun j hj1 hj2 => ?_,u2,?_,⟨fun j => if j = i then ios else ioss j,fun j t' v' B' hj hDj => ?_,fun j1 j2 x1 x2 k k' b z z' hne hj1 hj2 hD1 hD2 hk hk' => ?_⟩,nextAl _ x (by rw [hdt]) (fun q hq => by rw [hq] at hal; cases hal),nextAl2 _ x (by rw [hdt]) (fun j p hq => by rw [hq] at hal; cases hal)⟩⟩
     ·have : j ≠ i := by omega
      simp only [xGC j this]; exact h1 j hj1 hj2
     ·rw [← nextF (xIn v) (fun t' ht' hlt => by rw [hdt] at ht'; cases ht'; exact hany hlt),hdt]
      exact (h3.mono u1.im_le (.refl _)).putS (fun y hy => xVp (u3.2.2 y hy))
     ·by_cases e : j = i
      ·subst e
       rw [hpl] at hj; cases hj
       show PrivAt _ _ _ _ _ _ _ _ (if j = j then ios else ioss j)
       rw [if_pos rfl]
       exact ⟨u3.1.low t1.size,u3.2⟩
      ·show PrivAt _ _ _ _ _ _ _ _ (if j = i then ios else ioss j)
       rw [if_neg e]
       refine (h4 j t' v' B' hj (by simpa [xGC j e] using hDj)).step u1 (xKa ?_)
       rw [← hdt]; exact privDst j t' v' B' hj e
     ·obtain ⟨t1',v1,B1⟩ := x1
      obtain ⟨t2',v2,B2⟩ := x2
      simp only at hk hk'
      by_cases q1 : j1 = i <;> by_cases q2 : j2 = i
      ·omega
      ·rw [if_pos q1] at hk
       rw [if_neg q2] at hk'
       obtain ⟨_,_,_,_,_,_,_,_,_,_,k1⟩ := u3.1.own hk
       obtain ⟨_,_,_,_,_,_,_,k2,_⟩ := (h4 j2 _ _ _ hj2 (by simpa [xGC j2 q2] using hD2)).1.own hk'
       have := (Array.getElem?_eq_some_iff.1 k2).1
       omega
      ·rw [if_neg q1] at hk
       rw [if_pos q2] at hk'
       obtain ⟨_,_,_,_,_,_,_,_,_,_,k1⟩ := u3.1.own hk'
       obtain ⟨_,_,_,_,_,_,_,k2,_⟩ := (h4 j1 _ _ _ hj1 (by simpa [xGC j1 q1] using hD1)).1.own hk
       have := (Array.getElem?_eq_some_iff.1 k2).1
       omega
      ·rw [if_neg q1] at hk
       rw [if_neg q2] at hk'
       exact h5 j1 j2 _ _ k k' b z z' hne hj1 hj2 (by simpa [xGC j1 q1] using hD1) (by simpa [xGC j2 q2] using hD2) hk hk'
    ·-- an operation that leaves the heap alone
     have hna : xBk (aops[i]).op = false := by simpa using hal
     obtain ⟨Fi,v,e1,e2,e3,e4⟩ := f4 i aops[i] (by rw [List.getElem?_take_of_lt him,List.getElem?_eq_getElem hia]) hna
     have hagree : ∀ t,t ∈ (aops[i]).reads → Fi.getD t .any = (mix (aops.take m) (fun k => listed.getD k false) s.F s1.F).getD t .any := fun t ht => by
      rw [freeAgree Fi him e3 t ht,xJw _ _ _ _ _ f2]
     have hwant : xH9 Fi (aops[i]).guard = xH9 (mix (aops.take m) (fun k => listed.getD k false) s.F s1.F) (aops[i]).guard := by
      refine xMM fun t wv hg => hagree t ?_
      simp [AOper.reads,hg]
     have hop : xAO R Fi s.H (aops[i]).op = xAO R (mix (aops.take m) (fun k => listed.getD k false) s.F s1.F) s.H (aops[i]).op := by
      refine xMN fun x hx => xKX fun t ht => hagree t ?_
      simp only [AOper.reads,List.mem_append,List.mem_filterMap]
      exact .inl ⟨x,hx,ht⟩
     have hFA : FreeAt R s.H (mix (aops.take m) (fun k => listed.getD k false) s.F s1.F) aops[i] v := by
      unfold FreeAt at e1 ⊢
      rw [← hwant,← hop]; exact e1
     refine xNF hR ho g1 g2 g3 (xJN hna) h2 h3 hFA ?_
     rintro im' io' a' w' u1 u2 u3 u4 ⟨x,rfl,hxq,hxe⟩
     have ne : ∀ j t v B,pl[j]? = some (some (t,v,B)) → j ≠ i := by
      rintro j t v B hj rfl
      obtain ⟨_,_,_,ao,h1,h2⟩ := plAt j t v B hj
      rw [List.getElem?_eq_getElem hia] at h1
      cases h1
      rw [hna] at h2; cases h2
     refine hKA _ _ ⟨im',io',t1.trans u1,u4.trans t2,⟨fun j hj1 hj2 => ?_,u2,by rw [← nextF v e4]; exact u3,⟨ioss,fun j t' v' B' hj hDj => ?_,fun j1 j2 x1 x2 k k' b z z' hne hj1 hj2 hD1 hD2 hk hk' => ?_⟩,nextAl _ x rfl hxq,nextAl2 _ x rfl hxe⟩⟩
     ·have : j ≠ i := by omega
      simp only [xGC j this]; exact h1 j hj1 hj2
     ·have e := ne j t' v' B' hj
      exact (h4 j t' v' B' hj (by simpa [xGC j e] using hDj)).step u1 (xKa (privDst j t' v' B' hj e))
     ·obtain ⟨t1',v1,B1⟩ := x1
      obtain ⟨t2',v2,B2⟩ := x2
      exact h5 j1 j2 _ _ k k' b z z' hne hj1 hj2 (by simpa [xGC j1 (ne j1 _ _ _ hj1)] using hD1) (by simpa [xGC j2 (ne j2 _ _ _ hj2)] using hD2) hk hk'
   ·obtain ⟨io',u1,u2⟩ := toB _ im io a w (fun j hj hDj => by
     rcases sinks i j (by omega) hiN (by omega) with q | ⟨q | q,_⟩
     ·have hDj' : listed.getD j false = false := hDj
      rw [befDone j q] at hDj'; cases hDj'
     ·exact q.2
     ·omega) t1 h
    exact stepB (.inl (by omega)) im io' u1 t2 u2
  ·exact stepB (.inr h.1) im io t1 t2 h.2
 refine ⟨step,?_⟩
 intro fuel
 induction fuel with
 | zero =>
  intro listed a w hsz hcnt hcl hinv
  have hall : ∀ j,j < ops.size → listed.getD j false = true := by
   intro j hj
   have := xWi (l := listed.toList) (by simpa [hsz] using hcnt) j (by simpa [hsz] using hj)
   rw [Array.getElem?_toList] at this
   rw [Array.getD_eq_getD_getElem?,this]
   rfl
  refine ⟨?_,done listed a w hall hinv⟩
  rw [List.eq_nil_iff_forall_not_mem]
  intro j hj
  obtain ⟨h0,o,ho,_⟩ := mem_ready.1 hj
  have hj' := (Array.getElem?_eq_some_iff.1 ho).1
  rw [xHK (by omega),hall j hj'] at h0
  cases h0
 | succ fuel ih =>
  intro listed a w hsz hcnt hcl hinv
  refine ⟨fun hr => done listed a w (all_of_ready listed hsz hr) hinv,fun i hi => ?_⟩
  obtain ⟨h0,o,ho,hedges⟩ := mem_ready.1 hi
  have hiN := (Array.getElem?_eq_some_iff.1 ho).1
  have h0' : listed.getD i false = false := by rw [← xHK (by omega)]; exact h0
  have hsz' : (listed.setIfInBounds i true).size = ops.size := by simpa using hsz
  have hcnt' : fuel + (listed.setIfInBounds i true).toList.count true = ops.size := by
   rw [Array.toList_setIfInBounds,xWh (by simp; omega) (by
    rw [Array.getElem?_toList]
    rw [Array.getD_eq_getD_getElem?,Array.getElem?_eq_getElem (by omega)] at h0'
    rw [Array.getElem?_eq_getElem (by omega)]
    simpa using h0')]
   omega
  have hedges2 : ∀ e,xIX ops i e = true → listed.getD e false = true := by
   intro e he
   simp only [xIX,ho,Array.any_eq_true,Bool.and_eq_true,beq_iff_eq] at he
   obtain ⟨q,hq,hb,hon⟩ := he
   have := hedges _ (Array.getElem_mem hq) hb
   rwa [hon] at this
  have hcl' : xIY ops (listed.setIfInBounds i true) := by
   intro d o' ho' hd e he hb
   by_cases q : i = d
   ·subst q
    rw [ho] at ho'; cases ho'
    exact getD_set_true (hedges e he hb)
   ·rw [getD_set_ne false q] at hd
    exact getD_set_true (hcl d o' ho' hd e he hb)
  exact step False _ i listed a w hsz hcl hi (fun a' w' ⟨im,io,t1,t2,h⟩ => ih _ a' w' hsz' hcnt' hcl' ⟨im,io,t1,t2,.inl h⟩) (fun _ a' w' ⟨im,io,t1,t2,h⟩ => ih _ a' w' hsz' hcnt' hcl' ⟨im,io,t1,t2,.inr h⟩)
   (hinv.imp fun im ⟨io,t1,t2,h⟩ => ⟨io,t1,t2,h.imp id fun h => ⟨id,h⟩⟩)
theorem xZu {hs : List (Nat × Nat × Nat)} {als : List (Nat × Nat)} (hR : RecOk chk P R) {ops : Array Oper} {aops : List AOper} {r : Option Nat} {n m : Nat} {ls : List (Nat × Nat × Nat × Nat)} {Q : Exit → Act → World → Prop} {s s1 s' : St} {im0 : Im} {io0 : Io} {w0 : World} {ds : List Deferred}
  (hc : xJO P ops aops = true) (hok : xJY hs als ls m ops aops = true) {pl : List Pr} (hls : ls.all (apart s'.F) = true) (hfree : xA6 R (aops.take m) s = some (s1,pl)) (htail : xBJ R (aops.drop m) (xGo als pl s1) = some s') (hheld : xLC R hs m (aops.drop m) (xGo als pl s1) = true)
  (hQ : ∀ im' io' a' w',Step im0 io0 w0 im' io' w' → Sim chk im' io' s'.H w' → FRep im' io' s'.F a' → a'.defers = ds → Q .normal a' w') :
  ∀ (fuel : Nat) (listed : Array Bool) (a : Act) (w : World),listed.size = ops.size → fuel + listed.toList.count true = ops.size → xIY ops listed →
   (∃ im io,Step im0 io0 w0 im io w ∧ a.defers = ds ∧ (InvA als chk w0 m ops.size aops pl s s1 (fun k => listed.getD k false) im io a w ∨ xSW hs als chk R m ops.size (xBE ops ops.size) aops pl s s1 s' (fun k => listed.getD k false) im io a w)) →
   wpAnyIn (Fw r) n P .any ops Q fuel listed a w :=
 (xNJ hR hc hok hls hfree htail hheld hQ).2
end
def xWo (o : Oper) : Bool := match o.op with
 | .store .. => true
 | _ => false
def yCt (ops : Array Oper) (i : Nat) : Bool := match ops[i]? with
 | some o => xWo o
 | none => false
def yCu (ops : Array Oper) : List Nat := ((List.range ops.size).filter fun i => !yCt ops i) ++ ((List.range ops.size).filter fun i => yCt ops i)
def xKT (σ : List Nat) (o : Oper) : Oper := { o with after := o.after.map fun e => { e with on := σ.idxOf e.on },guard := o.guard.map fun g => (σ.idxOf g.1,g.2) }
def xFv (σ : List Nat) (ops : Array Oper) : Array Oper := (σ.map fun i => xKT σ (ops.getD i default)).toArray
def xJx (σ : List Nat) (n : Nat) : Bool := σ.length == n && (List.range n).all fun k => σ.contains k && σ.idxOf (σ.getD k 0) == k && decide (σ.getD k 0 < n)
section
variable {P : Program} {ops : Array Oper} {σ : List Nat}
theorem xIb : (xFv σ ops).size = σ.length := by simp [xFv]
theorem xKp {i : Nat} {o : Oper} (hn : ops.size ≤ σ.length) (hc : σ.contains i = true) (ho : ops[i]? = some o) : (xFv σ ops)[σ.idxOf i]? = some (xKT σ o) := by
 have hm : i ∈ σ := List.contains_iff_mem.1 hc
 have hlt := List.idxOf_lt_length_of_mem hm
 simp only [xFv,List.getElem?_toArray,List.getElem?_map,List.getElem?_eq_getElem hlt,List.getElem_idxOf hlt,Option.map_some]
 rw [Array.getD_eq_getD_getElem?,ho]; rfl
theorem xQI (F : Fence) (n : Nat) (o : Oper) (a : Act) (w : World) (K : Act → World → Prop) (Q : Exit → Act → World → Prop) : (xKT σ o).wpIn F n P a w K Q = o.wpIn F n P a w K Q := rfl
theorem xMJ {listed listed' : Array Bool} (hp : xJx σ ops.size = true) (hs : listed.size = ops.size) (hs' : listed'.size = ops.size) (hr : ∀ i,listed.getD i false = listed'.getD (σ.idxOf i) false) {i : Nat} (hi : i < ops.size) :
  i ∈ Region.ready .any ops listed ↔ σ.idxOf i ∈ Region.ready .any (xFv σ ops) listed' := by
 simp only [xJx,Bool.and_eq_true,beq_iff_eq,List.all_eq_true,List.mem_range,decide_eq_true_eq] at hp
 obtain ⟨hlen,hp⟩ := hp
 obtain ⟨⟨hc,_⟩,_⟩ := hp i hi
 have hlt := List.idxOf_lt_length_of_mem (List.contains_iff_mem.1 hc)
 rw [mem_ready,mem_ready,xHK (by omega),xHK (by omega),hr i]
 have ho : ops[i]? = some ops[i] := Array.getElem?_eq_getElem hi
 have ho' := xKp (by omega : ops.size ≤ σ.length) hc ho
 refine and_congr Iff.rfl ⟨?_,?_⟩
 ·rintro ⟨o,h1,h2⟩
  rw [ho] at h1; cases h1
  refine ⟨_,ho',fun e he hb => ?_⟩
  simp only [xKT,Array.mem_map] at he
  obtain ⟨e0,he0,rfl⟩ := he
  rw [← hr]
  exact h2 e0 he0 hb
 ·rintro ⟨o,h1,h2⟩
  rw [ho'] at h1; cases h1
  refine ⟨_,ho,fun e he hb => ?_⟩
  rw [hr]
  exact h2 { e with on := σ.idxOf e.on } (by simp only [xKT,Array.mem_map]; exact ⟨e,he,rfl⟩) hb
theorem xQJ (hp : xJx σ ops.size = true) {tmps : Array Value} {j : Nat} : yielded (xFv σ ops) tmps (σ.idxOf j) = yielded ops tmps j := by
 simp only [xJx,Bool.and_eq_true,beq_iff_eq,List.all_eq_true,List.mem_range,decide_eq_true_eq] at hp
 obtain ⟨hlen,hp⟩ := hp
 unfold yielded
 have key : ((xFv σ ops)[σ.idxOf j]?).bind (·.dst) = (ops[j]?).bind (·.dst) := by
  by_cases hj : j < ops.size
  ·obtain ⟨⟨hc,_⟩,_⟩ := hp j hj
   rw [xKp (by omega) hc (Array.getElem?_eq_getElem hj),Array.getElem?_eq_getElem hj]
   rfl
  ·rw [Array.getElem?_eq_none (by omega : ops.size ≤ j)]
   by_cases hm : j ∈ σ
   ·obtain ⟨k,hk,e⟩ := List.mem_iff_getElem.1 hm
    have := (hp k (by omega)).2
    simp only [List.getD,List.getElem?_eq_getElem hk,Option.getD_some,e] at this
    omega
   ·rw [List.idxOf_eq_length hm,Array.getElem?_eq_none (by rw [xIb]; exact Nat.le_refl _)]
 rw [key]
theorem xMK {F : Fence} {n : Nat} {Q : Exit → Act → World → Prop} (hp : xJx σ ops.size = true) : ∀ (fuel : Nat) (listed listed' : Array Bool) (a : Act) (w : World),listed.size = ops.size → listed'.size = ops.size → (∀ i,listed.getD i false = listed'.getD (σ.idxOf i) false) →
  wpAnyIn F n P .any (xFv σ ops) Q fuel listed' a w → wpAnyIn F n P .any ops Q fuel listed a w := by
 have hp0 := hp
 simp only [xJx,Bool.and_eq_true,beq_iff_eq,List.all_eq_true,List.mem_range,decide_eq_true_eq] at hp
 obtain ⟨hlen,hp⟩ := hp
 have lt_of : ∀ (listed : Array Bool) i,i ∈ Region.ready .any ops listed → i < ops.size := fun listed i hi => by
  obtain ⟨_,o,ho,_⟩ := mem_ready.1 hi
  exact (Array.getElem?_eq_some_iff.1 ho).1
 have lt_of' : ∀ (listed : Array Bool) i,i ∈ Region.ready .any (xFv σ ops) listed → i < ops.size := fun listed i hi => by
  obtain ⟨_,o,ho,_⟩ := mem_ready.1 hi
  have := (Array.getElem?_eq_some_iff.1 ho).1
  rw [xIb] at this; omega
 have empty : ∀ (listed listed' : Array Bool),listed.size = ops.size → listed'.size = ops.size → (∀ i,listed.getD i false = listed'.getD (σ.idxOf i) false) → (Region.ready .any ops listed = [] ↔ Region.ready .any (xFv σ ops) listed' = []) := by
  intro listed listed' hs hs' hr
  simp only [List.eq_nil_iff_forall_not_mem]
  constructor
  ·intro h j hj
   have hj' := lt_of' _ j hj
   obtain ⟨⟨_,h1⟩,h2⟩ := hp j hj'
   refine h (σ.getD j 0) ((xMJ hp0 hs hs' hr h2).2 ?_)
   rw [h1]; exact hj
  ·intro h i hi
   exact h _ ((xMJ hp0 hs hs' hr (lt_of _ i hi)).1 hi)
 intro fuel
 induction fuel with
 | zero =>
  intro listed listed' a w hs hs' hr h
  exact ⟨(empty listed listed' hs hs' hr).2 h.1,h.2⟩
 | succ fuel ih =>
  intro listed listed' a w hs hs' hr h
  refine ⟨fun hq => h.1 ((empty listed listed' hs hs' hr).1 hq),fun i hi => ?_⟩
  have hi' := lt_of _ i hi
  obtain ⟨⟨hc,_⟩,_⟩ := hp i hi'
  have h2 := h.2 _ ((xMJ hp0 hs hs' hr hi').1 hi)
  unfold wpOpIn at h2 ⊢
  rw [xKp (by omega) hc (Array.getElem?_eq_getElem hi')] at h2
  rw [Array.getElem?_eq_getElem hi']
  simp only at h2 ⊢
  have xGC : ∀ k,(listed.setIfInBounds i true).getD k false = (listed'.setIfInBounds (σ.idxOf i) true).getD (σ.idxOf k) false := by
   intro k
   by_cases e : i = k
   ·subst e
    have l1 := List.idxOf_lt_length_of_mem (List.contains_iff_mem.1 hc)
    simp [hs,hs',hi',(by omega : σ.idxOf i < ops.size)]
   ·have e' : σ.idxOf i ≠ σ.idxOf k := by
     intro q
     have l1 := List.idxOf_lt_length_of_mem (List.contains_iff_mem.1 hc)
     have l2 : σ.idxOf k < σ.length := by omega
     have g1 := List.getElem_idxOf l1
     have g2 := List.getElem_idxOf l2
     simp only [q] at g1
     exact e (g1.symm.trans g2)
    rw [getD_set_ne false e,getD_set_ne false e',hr]
  have hk : ∀ a w,wpAnyIn F n P .any (xFv σ ops) Q fuel (listed'.setIfInBounds (σ.idxOf i) true) a w → wpAnyIn F n P .any ops Q fuel (listed.setIfInBounds i true) a w :=
   fun a w => ih _ _ a w (by simpa using hs) (by simpa using hs') xGC
  have hw : Region.wanted (xKT σ ops[i]) (yielded (xFv σ ops) a.tmps) = Region.wanted ops[i] (yielded ops a.tmps) := by
   unfold Region.wanted xKT
   cases hg : ops[i].guard with
   | none => rfl
   | some g =>
    obtain ⟨j,b⟩ := g
    simp only [Option.map_some,xQJ hp0]
  rw [hw] at h2
  split
  ·rename_i q
   rw [if_pos q,xQI] at h2
   exact Oper.wpIn_mono hk h2
  ·rename_i q
   rw [if_neg q] at h2
   exact ⟨h2.1,hk _ _ h2.2⟩
end
def yEp (o : Oper) : Bool := match o.op with
 | .makeSlice .. | .buildSlice .. => true
 | .call { callee := .builtin .append,.. } => true
 | _ => false
def yEq (ops : Array Oper) (i : Nat) : Bool := match ops[i]? with
 | some o => (match o.op with
  | .call { callee := .builtin .append,args := xs,.. } => (match xs.toList with
   | .tmp t :: _ => ops.toList.any fun o' => o'.dst == some t && yEp o'
   | _ => false)
  | _ => false)
 | none => false
def xZv (ops : Array Oper) : List Nat :=
 let rs := xBE ops ops.size
 let hv (i : Nat) : Bool := yCt ops i || yEq ops i
 let S (i : Nat) : Bool := hv i || (List.range ops.size).any fun d => hv d && xKm rs i d
 ((List.range ops.size).filter fun i => !S i) ++ ((List.range ops.size).filter S)
def yEr (ops : Array Oper) (i : Nat) : Bool := match ops[i]? with
 | some o => (match o.op,o.dst with
  | .call { callee := .value _,.. },some t => ops.toList.any fun o' => match o'.op with
   | .call { callee := .builtin .append,args := xs,.. } => (match xs.toList with
    | .tmp t' :: _ => t' == t
    | _ => false)
   | _ => false
  | _,_ => false)
 | none => false
def yCv (ops : Array Oper) : List Nat :=
 let rs := xBE ops ops.size
 let hv (i : Nat) : Bool := yCt ops i || yEq ops i || yEr ops i
 let S (i : Nat) : Bool := hv i || (List.range ops.size).any fun d => hv d && xKm rs i d
 ((List.range ops.size).filter fun i => !S i) ++ ((List.range ops.size).filter S)
def yBn (ops : Array Oper) (i : Nat) : Bool := match ops[i]? with
 | some o => (match o.op with
  | .call { callee := .builtin .append,.. } => true
  | _ => false)
 | none => false
def yCw (ops : Array Oper) (i : Nat) : Bool := match ops[i]? with
 | some o => (match o.op with
  | .fieldAddr .. => true
  | _ => false)
 | none => false
def xL8 (ops : Array Oper) (rs : List (List Nat)) : Nat → List Nat → List Nat
 | 0,l => l
 | n + 1,l => match (match l.find? fun i => yCw ops i && l.all fun j => !xKm rs i j with | some i => some i | none => l.head?) with
  | some i => i :: xL8 ops rs n (l.filter fun j => j != i)
  | none => []
def yCx (ops : Array Oper) : List Nat :=
 let rs := xBE ops ops.size
 let hv (i : Nat) : Bool := yCt ops i || yBn ops i
 let S (i : Nat) : Bool := hv i || (List.range ops.size).any fun d => hv d && xKm rs i d
 ((List.range ops.size).filter fun i => !S i) ++ xL8 ops rs ops.size ((List.range ops.size).filter S)
def yEs (ops : Array Oper) (i : Nat) : Bool := match ops[i]? with
 | some o => (match o.op with
  | .call { callee := .builtin .append,.. } => true
  | .call { callee := .value _,.. } => true
  | .buildSlice .. => true
  | _ => false)
 | none => false
def yEt (ops : Array Oper) : List Nat :=
 let rs := xBE ops ops.size
 let hv (i : Nat) : Bool := yCt ops i || yEs ops i
 let S (i : Nat) : Bool := hv i || (List.range ops.size).any fun d => hv d && xKm rs i d
 ((List.range ops.size).filter fun i => !S i) ++ xL8 ops rs ops.size ((List.range ops.size).filter S)
def yCy (ops : Array Oper) (i : Nat) : Bool := match ops[i]? with
 | some o => (match o.op with
  | .buildSlice _ 0 _ => true
  | _ => false)
 | none => false
def yEu (ops : Array Oper) : List Nat :=
 let rs := xBE ops ops.size
 let hv (i : Nat) : Bool := yCt ops i || yBn ops i || yCy ops i
 let S (i : Nat) : Bool := hv i || (List.range ops.size).any fun d => hv d && xKm rs i d
 ((List.range ops.size).filter fun i => !S i) ++ xL8 ops rs ops.size ((List.range ops.size).filter S)
def xKU (hs : List (Nat × Nat × Nat)) (als : List (Nat × Nat)) (P : Program) (σ : List Nat) (ops : Array Oper) (ls : List (Nat × Nat × Nat × Nat)) (m : Nat) (aops : List AOper) : Bool :=
 xJx σ ops.size && xJO P (xFv σ ops) aops && xJY hs als ls m (xFv σ ops) aops
def xKV (hs : List (Nat × Nat × Nat)) (als : List (Nat × Nat)) (P : Program) (ops : Array Oper) (ls : List (Nat × Nat × Nat × Nat)) (m : Nat) (aops : List AOper) : Bool :=
 (xJO P ops aops && xJY hs als ls m ops aops) || xKU hs als P (yCu ops) ops ls m aops || xKU hs als P (xZv ops) ops ls m aops || xKU hs als P (yCv ops) ops ls m aops || xKU hs als P (yCx ops) ops ls m aops || xKU hs als P (yEt ops) ops ls m aops || xKU hs als P (yEu ops) ops ls m aops
def xPY : AOp → Bool
 | .box (.c v) => (xGO v && v.cells.all xEb) && v.cells.all AV.isCell
 | _ => false
def xNK (m : Nat) (aops : List AOper) : Bool := (aops.take m).all fun ao => !xBk ao.op || (xPY ao.op && ao.guard.isNone && ao.dst.isSome)
section
variable {chk : Code → ACode → Bool} {P : Program} {o : Oper} {a : Act} {im : Im} {io : Io} {H H' : Heap} {w : World} {F : List AV} {R : Rec} {v : AV}
theorem xJy : ∀ (aops : List AOper) (s s1 : St) (pl : List Pr),xA6 R aops s = some (s1,pl) → s1.F.length = s.F.length
 | [],s,s1,pl,h => by simp only [xA6] at h; cases h; rfl
 | ao :: rest,s,s1,pl,h => by
  simp only [xA6] at h
  split at h
  ·split at h
   ·simp only [Option.map_eq_some_iff] at h
    obtain ⟨⟨s2,l2⟩,h2,e⟩ := h
    cases e
    rw [xJy rest _ _ _ h2]; simp
   ·cases h
  ·split at h
   ·cases h
   rename_i s' h1
   obtain ⟨v,_,rfl⟩ := xL5 h1
   simp only [Option.map_eq_some_iff] at h
   obtain ⟨⟨s2,l2⟩,h2,e⟩ := h
   cases e
   rw [xJy rest _ _ _ h2,xE5]
theorem xKW : ∀ (aops : List AOper) (s s1 : St),(aops.all fun ao => !xBk ao.op || (xPY ao.op && ao.guard.isNone && ao.dst.isSome)) = true → xGh R aops s = some s1 →
  ∃ pl,xA6 R aops s = some (s1,pl) ∧ ∀ s2,adoptL pl s2 = adopt aops s2
 | [],s,s1,_,h => by
  simp only [xGh] at h; cases h
  exact ⟨[],rfl,fun _ => rfl⟩
 | ao :: rest,s,s1,hc,h => by
  simp only [List.all_cons,Bool.and_eq_true,Bool.or_eq_true,Bool.not_eq_true'] at hc
  obtain ⟨hc,hrest⟩ := hc
  simp only [xGh] at h
  split at h
  ·cases h
  rename_i s' h1
  obtain ⟨pl,p1,p2⟩ := xKW rest s' s1 hrest h
  cases hp : xBk ao.op with
  | false =>
   refine ⟨none :: pl,?_,fun s2 => ?_⟩
   ·simp only [xA6,hp,Bool.false_eq_true,if_false,h1,p1,Option.map_some]
   ·have e0 : xAm ao.op s2.H.length = none := by
     have := xJN hp
     cases q : xAm ao.op s2.H.length with
     | none => rfl
     | some y =>
      cases hop : ao.op with
      | box x => rw [hop] at hp; cases hp
      | _ => rw [hop] at q; simp [xAm] at q
    simp only [adoptL,adopt,e0]
    exact p2 s2
  | true =>
   rcases hc with hc | ⟨⟨hb,hg⟩,hd⟩
   ·rw [hp] at hc; cases hc
   ·cases hop : ao.op with
    | box x =>
     cases x with
     | t i => rw [hop] at hb; cases hb
     | c v =>
      rw [hop] at hb
      simp only [xPY,Bool.and_eq_true] at hb
      obtain ⟨⟨hdv,hall⟩,hcl⟩ := hb
      cases hdst : ao.dst with
      | none => rw [hdst] at hd; cases hd
      | some t =>
       have hgn : ao.guard = none := by simpa using hg
       have hpv : xJn R s.F (.box (.c v)) = some (.ptr 0 0,[.cells false false v.cells]) := by
        simp [xJn,AOp.args,opv,hdv,xAc,hcl,xJ4,xJ3,xJD,xLa,hall]
       have hs' : s' = ⟨s.F.set t .any,s.H⟩ := by
        simp only [xCW,hgn,xH9,hop,xAO,hcl,if_true,Option.map_some,Option.some.injEq] at h1
        rw [← h1,hdst]; rfl
       refine ⟨some (t,.ptr 0 0,[.cells false false v.cells]) :: pl,?_,fun s2 => ?_⟩
       ·subst hs'
        simp only [xA6,hop,xBk,if_true,hdst,hpv,xIn,p1,Option.map_some]
       ·simp only [adoptL,adopt,hop,xAm,hdst,xCY,xD9,xCJ,putA,Nat.add_zero]
        exact p2 _
    | _ => rw [hop] at hb; cases hb
theorem xTP {hs : List (Nat × Nat × Nat)} {als : List (Nat × Nat)} (hR : RecOk chk P R) {ops : Array Oper} {aops : List AOper} {r : Option Nat} {n m : Nat} {ls : List (Nat × Nat × Nat × Nat)} {Q : Exit → Act → World → Prop} (hc : xJO P ops aops = true) (hok : xJY hs als ls m ops aops = true) {s s1 s' : St} {pl : List Pr} (hls : ls.all (apart s'.F) = true)
  (hfree : xA6 R (aops.take m) s = some (s1,pl)) (htail : xBJ R (aops.drop m) (xGo als pl s1) = some s') (hheld : xLC R hs m (aops.drop m) (xGo als pl s1) = true) (hS : Sim chk im io s.H w) (hF : FRep im io s.F a)
  (hQ : ∀ im' io' a' w',Step im io w im' io' w' → Sim chk im' io' s'.H w' → FRep im' io' s'.F a' → a'.defers = a.defers → Q .normal a' w') : wpAnyIn (Fw r) n P .any ops Q ops.size (Array.replicate ops.size false) a { w with drawn := w.drawn + 1 } := by
 have hw1 : Step im io w im io { w with drawn := w.drawn + 1 } := Step.world rfl rfl rfl (Nat.le_refl _) (fun _ _ => rfl)
 refine xZu hR hc hok hls hfree htail hheld (im0 := im) (io0 := io) (w0 := w) (ds := a.defers) hQ ops.size _ a _ (by simp) (by simp [List.count_replicate]) (fun d o _ hd => by rw [getD_replicate_false] at hd; cases hd) ?_
 refine ⟨im,io,hw1,rfl,.inl ⟨fun j _ _ => getD_replicate_false _ _,hS.world (Nat.le_refl _) (fun _ _ => rfl),?_,⟨fun _ => [],fun i t v B _ hD => (by have hD' : (Array.replicate ops.size false).getD i false = true := hD; rw [getD_replicate_false] at hD'; cases hD'),fun i j x y k k' b z z' _ _ _ hD => (by have hD' : (Array.replicate ops.size false).getD i false = true := hD; rw [getD_replicate_false] at hD'; cases hD')⟩,fun d q i _ _ _ _ _ hD => (by have hD' : (Array.replicate ops.size false).getD i false = true := hD; rw [getD_replicate_false] at hD'; cases hD'),fun d q i _ _ _ _ _ hD => (by have hD' : (Array.replicate ops.size false).getD i false = true := hD; rw [getD_replicate_false] at hD'; cases hD')⟩⟩
 have : mix (aops.take m) (fun k => (Array.replicate ops.size false).getD k false) s.F s1.F = s.F := by
  have hlen := xJy _ _ _ _ hfree
  refine xIl (by rw [xGl]) (fun t => ?_)
  rw [xJw _ _ _ _ _ hlen,if_neg]
  simp only [hit,List.any_eq_true,List.mem_range,Bool.and_eq_true,not_exists,not_and]
  intro d _ hd
  rw [getD_replicate_false] at hd
  cases hd
 rw [this]
 exact hF
theorem xJq {hs : List (Nat × Nat × Nat)} {als : List (Nat × Nat)} (hR : RecOk chk P R) {ops : Array Oper} {aops : List AOper} {r : Option Nat} {n m : Nat} {Q : Exit → Act → World → Prop} {σ : List Nat}
  {ls : List (Nat × Nat × Nat × Nat)} (hc : xKU hs als P σ ops ls m aops = true) {s s1 s' : St} {pl : List Pr} (hls : ls.all (apart s'.F) = true)
  (hfree : xA6 R (aops.take m) s = some (s1,pl)) (htail : xBJ R (aops.drop m) (xGo als pl s1) = some s') (hheld : xLC R hs m (aops.drop m) (xGo als pl s1) = true) (hS : Sim chk im io s.H w) (hF : FRep im io s.F a)
  (hQ : ∀ im' io' a' w',Step im io w im' io' w' → Sim chk im' io' s'.H w' → FRep im' io' s'.F a' → a'.defers = a.defers → Q .normal a' w') : wpAnyIn (Fw r) n P .any ops Q ops.size (Array.replicate ops.size false) a { w with drawn := w.drawn + 1 } := by
 simp only [xKU,Bool.and_eq_true] at hc
 obtain ⟨⟨hp,hc⟩,hok⟩ := hc
 have hsz : (xFv σ ops).size = ops.size := by
  have := xIb (σ := σ) (ops := ops)
  simp only [xJx,Bool.and_eq_true,beq_iff_eq] at hp
  rw [this,hp.1]
 refine xMK hp ops.size _ (Array.replicate ops.size false) a _ (by simp) (by simp) (fun i => ?_) (by
  have := xTP hR (r := r) (n := n) hc hok hls hfree htail hheld hS hF hQ
  rw [hsz] at this
  exact this)
 rw [getD_replicate_false,getD_replicate_false]
theorem xTQ {hs : List (Nat × Nat × Nat)} {als : List (Nat × Nat)} (hR : RecOk chk P R) (hmix : P.follows .mixedOrders = true) {ops : Array Oper} {aops : List AOper} {r : Option Nat} {n id m : Nat} {Q : Exit → Act → World → Prop}
  {ls : List (Nat × Nat × Nat × Nat)} (hc : xKV hs als P ops ls m aops = true) {s s1 s' : St} {pl : List Pr} (hls : ls.all (apart s'.F) = true)
  (hfree : xA6 R (aops.take m) s = some (s1,pl)) (htail : xBJ R (aops.drop m) (xGo als pl s1) = some s') (hheld : xLC R hs m (aops.drop m) (xGo als pl s1) = true) (hS : Sim chk im io s.H w) (hF : FRep im io s.F a)
  (hQ : ∀ im' io' a' w',Step im io w im' io' w' → Sim chk im' io' s'.H w' → FRep im' io' s'.F a' → a'.defers = a.defers → Q .normal a' w') : (Code.region id ops true).wpIn (Fw r) n P Q a w := by
 refine wpIn_region_any hmix ?_
 simp only [xKV,Bool.or_eq_true,Bool.and_eq_true] at hc
 rcases hc with (((((⟨hc,hok⟩ | hc) | hc) | hc) | hc) | hc) | hc
 ·exact xTP hR hc hok hls hfree htail hheld hS hF hQ
 ·exact xJq hR hc hls hfree htail hheld hS hF hQ
 ·exact xJq hR hc hls hfree htail hheld hS hF hQ
 ·exact xJq hR hc hls hfree htail hheld hS hF hQ
 ·exact xJq hR hc hls hfree htail hheld hS hF hQ
 ·exact xJq hR hc hls hfree htail hheld hS hF hQ
 ·exact xJq hR hc hls hfree htail hheld hS hF hQ
theorem xL9 {R : Rec} : ∀ (ops : List AOper) (k : Nat) (s : St),xLC R [] k ops s = true
 | [],_,_ => rfl
 | o :: rest,k,s => by
  simp only [xLC]
  split
  ·rfl
  ·simp only [List.all_nil,Bool.true_and]
   exact xL9 rest (k + 1) _
theorem xTR {als : List (Nat × Nat)} (hR : RecOk chk P R) (hmix : P.follows .mixedOrders = true) {ops : Array Oper} {aops : List AOper} {r : Option Nat} {n id m : Nat} {Q : Exit → Act → World → Prop}
  {ls : List (Nat × Nat × Nat × Nat)} (hc : xKV [] als P ops ls m aops = true) {s s1 s' : St} {pl : List Pr} (hls : ls.all (apart s'.F) = true)
  (hfree : xA6 R (aops.take m) s = some (s1,pl)) (htail : xBJ R (aops.drop m) (xGo als pl s1) = some s') (hs : Sim chk im io s.H w) (hF : FRep im io s.F a)
  (hQ : ∀ im' io' a' w',Step im io w im' io' w' → Sim chk im' io' s'.H w' → FRep im' io' s'.F a' → a'.defers = a.defers → Q .normal a' w') : (Code.region id ops true).wpIn (Fw r) n P Q a w :=
 xTQ (hs := []) hR hmix hc hls hfree htail (xL9 _ _ _) hs hF hQ
theorem xWp (hR : RecOk chk P R) (hmix : P.follows .mixedOrders = true) {ops : Array Oper} {aops : List AOper} {r : Option Nat} {n id m : Nat} {Q : Exit → Act → World → Prop}
  {ls : List (Nat × Nat × Nat × Nat)} (hc : xKV [] [] P ops ls m aops = true) (hpl : xNK m aops = true) {s s1 s' : St} (hls : ls.all (apart s'.F) = true)
  (hfree : xGh R (aops.take m) s = some s1) (htail : xBJ R (aops.drop m) (adopt (aops.take m) s1) = some s') (hs : Sim chk im io s.H w) (hF : FRep im io s.F a)
  (hQ : ∀ im' io' a' w',Step im io w im' io' w' → Sim chk im' io' s'.H w' → FRep im' io' s'.F a' → a'.defers = a.defers → Q .normal a' w') : (Code.region id ops true).wpIn (Fw r) n P Q a w := by
 obtain ⟨pl,h1,h2⟩ := xKW _ _ _ hpl hfree
 exact xTR hR hmix hc hls h1 (by show xBJ R _ (adoptL pl s1) = _; rw [h2]; exact htail) hs hF hQ
end
end Go.Abs
