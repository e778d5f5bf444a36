/- Regions that draw their order. -/
import Derived.Test.YtijmhicopfphnaaDoorAbsRegion
import Derived.StillTail
namespace Go.Abs
set_option linter.unusedVariables false
set_option linter.unusedSimpArgs false
open Go.RowKit
def xCJ (ops : Array Oper) (i d : Nat) : Bool := match ops[i]? with
 | some o => o.after.any fun e => Region.binds .any e && e.on == d
 | none => false
def xCu (ops : Array Oper) (listed : Array Bool) : Prop := ∀ d o,ops[d]? = some o → listed.getD d false = true → ∀ e ∈ o.after,Region.binds .any e = true → listed.getD e.on false = true
def xBb (aops : List AOper) (i : Nat) : Option Nat := (aops[i]?).bind (·.dst)
inductive Bef (ops : Array Oper) : Nat → Nat → Prop
 | one {i d : Nat} (h : xCJ ops i d = true) : Bef ops i d
 | more {i e d : Nat} (h : xCJ ops i e = true) (k : Bef ops e d) : Bef ops i d
def xBj (ops : Array Oper) : Nat → List (List Nat)
 | 0 => []
 | n + 1 => let r := xBj ops n; r ++ [(List.range n).filter fun d => xCJ ops n d || (List.range n).any fun e => xCJ ops n e && (r.getD e []).contains d]
def xEc (rs : List (List Nat)) (i d : Nat) : Bool := (rs.getD i []).contains d
theorem xDL (ops : Array Oper) : ∀ n,(xBj ops n).length = n
 | 0 => rfl
 | n + 1 => by simp [xBj,xDL ops n]
theorem xCb (ops : Array Oper) : ∀ n i d,xEc (xBj ops n) i d = true → Bef ops i d
 | 0,i,d,h => by simp [xEc,xBj] at h
 | n + 1,i,d,h => by
  have hl := xDL ops n
  rcases Nat.lt_trichotomy i n with q | q | q
  ·refine xCb ops n i d ?_
   simpa [xEc,xBj,List.getD,List.getElem?_append_left (by omega : i < (xBj ops n).length)] using h
  ·subst q
   simp only [xEc,xBj,List.getD] at h
   rw [List.getElem?_append_right (by omega),hl,Nat.sub_self] at h
   simp only [List.getElem?_cons_zero,Option.getD_some,List.contains_iff_mem,List.mem_filter,Bool.or_eq_true,List.any_eq_true,Bool.and_eq_true] at h
   rcases h.2 with h1 | ⟨e,_,h1,h2⟩
   ·exact .one h1
   ·refine .more h1 (xCb ops i e d ?_)
    simp only [xEc,List.getD]
    simpa [List.contains_iff_mem] using h2
  ·have hn := xDL ops (n + 1)
   have : (xBj ops (n + 1))[i]? = none := List.getElem?_eq_none (by omega)
   simp only [xEc,List.getD,this,Option.getD_none] at h
   simp at h
def xBG : AOp → Bool
 | .mov _ | .pick .. | .bin .. | .beq .. | .aeq .. | .un .. | .conv .. | .ext .. | .faddr .. | .field .. | .iaddr .. | .len _ | .cap _ | .isnil .. | .maxi .. | .mini .. | .nilchk _ | .mkfunc .. | .slice .. | .idx .. | .arrat .. | .garr .. | .sidx .. | .slen .. | .mm .. | .sslice .. | .sbeq .. | .mkbound .. | .dslice .. => true
 | _ => false
def xEE (aops : List AOper) (e q : Nat) : Bool := match aops[e]? with | some ao => xBe ao.op && ao.dst == some q | none => false
def xTA (aops : List AOper) (i d q : Nat) : Bool := match aops[i]? with
 | some ⟨some d',.mov (.t q'),none⟩ => d' == d && q' == q && decide (q < 4096) && (List.range i).any fun e => xEE aops e q
 | some ⟨some d',.ext j (.t p),none⟩ => d' == d && q / 4096 == j + 1 && (List.range i).any fun i' => (match aops[i']? with
  | some ⟨some p',.mov (.t q'),none⟩ => p' == p && q' == q % 4096
  | _ => false) && (List.range i').any fun e => xEE aops e (q % 4096)
 | _ => false
theorem xEd {aops : List AOper} {e q : Nat} (h : xEE aops e q = true) : ∃ ao,aops[e]? = some ao ∧ xBe ao.op = true ∧ ao.dst = some q := by
 unfold xEE at h
 split at h
 ·rename_i ao hao
  simp only [Bool.and_eq_true,beq_iff_eq] at h
  exact ⟨ao,hao,h.1,h.2⟩
 ·cases h
theorem xCK {aops : List AOper} {i d q : Nat} (h : xTA aops i d q = true) :
  (aops[i]? = some ⟨some d,.mov (.t q),none⟩ ∧ q < 4096 ∧ ∃ e,e < i ∧ xEE aops e q = true) ∨ ∃ j p i',aops[i]? = some ⟨some d,.ext j (.t p),none⟩ ∧ q / 4096 = j + 1 ∧ i' < i ∧ aops[i']? = some ⟨some p,.mov (.t (q % 4096)),none⟩ ∧ ∃ e,e < i' ∧ xEE aops e (q % 4096) = true := by
 unfold xTA at h
 split at h
 ·rename_i d' q' e
  simp only [Bool.and_eq_true,beq_iff_eq,decide_eq_true_eq,List.any_eq_true,List.mem_range] at h
  obtain ⟨⟨⟨rfl,rfl⟩,hq⟩,k,hk,hl⟩ := h
  exact .inl ⟨e,hq,k,hk,hl⟩
 ·rename_i d' j p e
  simp only [Bool.and_eq_true,beq_iff_eq,List.any_eq_true,List.mem_range] at h
  obtain ⟨⟨rfl,hq⟩,i',hi',hm,k,hk,hl⟩ := h
  refine .inr ⟨j,p,i',e,hq,hi',?_,k,hk,hl⟩
  split at hm
  ·rename_i p' q' e'
   simp only [Bool.and_eq_true,beq_iff_eq] at hm
   obtain ⟨rfl,rfl⟩ := hm
   exact e'
  ·cases hm
 ·cases h
def xGC (als : List (Nat × Nat)) (aops : List AOper) (i : Nat) : Bool := als.any fun p => xTA aops i p.1 p.2
def xDr (op : AOp) : Bool := xBG op || (match op with
 | .build .. | .bslice true .. | .load .. => true
 | _ => false)
def xCk (als : List (Nat × Nat)) (aops : List AOper) (i : Nat) : Bool := (match aops[i]? with | some ao => xBe ao.op | none => false) || xGC als aops i
def yBz (als : List (Nat × Nat)) (m : Nat) (aops : List AOper) : Bool := als.all fun p => (List.range m).any fun i => xTA aops i p.1 p.2
def xDs (aops : List AOper) (i : Nat) : List Nat := match aops[i]? with | some ao => ao.reads | none => []
def xUp (als : List (Nat × Nat)) (m : Nat) (aops : List AOper) (i : Nat) : Bool := match aops[i]? with
 | some ao => xBG ao.op && !xGC als aops i && ao.reads.all fun t => (List.range m).all fun d => !(xCk als aops d && xBb aops d == some t)
 | none => false
def xCf (aops : List AOper) (i : Nat) : Option (Nat × Nat) := match aops[i]? with
 | some ⟨_,.load _ n (.t p),none⟩ => some (p,n)
 | _ => none
def xDM (als : List (Nat × Nat)) (m : Nat) (aops : List AOper) (i : Nat) : Bool := xUp als m aops i || match xCf aops i with
 | some (p,_) => ((List.range m).all fun d => !(xCk als aops d && xBb aops d == some p)) && ((List.range aops.length).all fun j => decide (j < i) || xBb aops j != some p)
 | none => false
def xUq (hs : List (Nat × Nat × Nat)) (ls : List (Nat × Nat × Nat × Nat)) (aops : List AOper) (k d : Nat) : Bool := match xCf aops d with
 | none => true
 | some (p,n) => match aops[k]? with
  | some ao => xDr ao.op || hs.contains (p,n,k) || (match ao.op with
   | .store n' (.t q) _ => ls.contains (p,n,q,n') && (List.range aops.length).all fun j => decide (j < k) || xBb aops j != some q
   | .append _ _ _ (.t q) _ => ls.contains (p,n,q,0) && (List.range aops.length).all fun j => decide (j < k) || xBb aops j != some q
   | _ => false)
  | none => false
def xGD : AOp → Bool
 | .load .. => true
 | _ => false
def xB4 (rs : List (List Nat)) (aops : List AOper) (d : Nat) : Bool := match aops[d]? with
 | some ao => (xBG ao.op || xGD ao.op) &&
  ((List.range aops.length).all fun j => j == d || ao.dst == none || xBb aops j != ao.dst) &&
  (ao.reads.all fun t => (List.range aops.length).all fun j => xBb aops j != some t || xEc rs d j)
 | none => false
def xL2 (aops : List AOper) (k d : Nat) : Bool := match aops[d]? with
 | some ao => !xGD ao.op || (match aops[k]? with | some ak => xDr ak.op | none => false)
 | none => false
def xCL (hs : List (Nat × Nat × Nat)) (als : List (Nat × Nat)) (ls : List (Nat × Nat × Nat × Nat)) (m : Nat) (ops : Array Oper) (aops : List AOper) : Bool :=
 let rs := xBj ops ops.size
 yBz als m aops && decide (m ≤ ops.size) &&
 ((List.range ops.size).all fun i => match ops[i]? with | some o => o.after.all (fun e => !Region.binds .any e || decide (e.on < i)) | none => false) &&
 ((List.range m).all fun i => (List.range i).all fun j => xBb aops i == none || xBb aops i != xBb aops j) &&
 ((List.range m).all fun i => (xDs aops i).all fun s => (List.range m).all fun d => xBb aops d != some s || xEc rs i d || d == i || xEc rs d i) &&
 ((List.range m).all fun i => match aops[i]? with | some ao => !xBe ao.op || (ao.guard.isNone && ao.dst.isSome) | none => true) &&
 ((List.range (ops.size - m)).all fun k => (List.range (m + k)).all fun d => xEc rs (m + k) d ||
  (((decide (d < m) && xDM als m aops d && xUq hs ls aops (m + k) d) || (decide (m ≤ d) && xB4 rs aops d && xL2 aops (m + k) d)) && (match xBb aops d with | some t => !(xDs aops (m + k)).contains t && xBb aops (m + k) != some t | none => true))) &&
 ((List.range (ops.size - m)).all fun k => (List.range m).all fun d => match xBb aops (m + k) with | some t => !(xDs aops d).contains t || xEc rs (m + k) d | none => true)
theorem xDj {ops : Array Oper} {listed : Array Bool} (hcl : xCu ops listed) {i d : Nat} (h : Bef ops i d) (hi : ∀ e,xCJ ops i e = true → listed.getD e false = true) : listed.getD d false = true := by
 induction h with
 | one h => exact hi _ h
 | more h k ih =>
  refine ih fun e he => ?_
  have := hi _ h
  simp only [xCJ] at he
  split at he
  ·rename_i o ho
   simp only [Array.any_eq_true,Bool.and_eq_true,beq_iff_eq] at he
   obtain ⟨q,hq,hb,hon⟩ := he
   have := hcl _ o ho this _ (Array.getElem_mem hq) hb
   rwa [hon] at this
  ·cases he
theorem xDN {ops : Array Oper} {listed : Array Bool} (hcl : xCu ops listed) {i : Nat} (h : listed.getD i false = true) : ∀ e,xCJ ops i e = true → listed.getD e false = true := by
 intro e he
 simp only [xCJ] at he
 split at he
 ·rename_i o ho
  simp only [Array.any_eq_true,Bool.and_eq_true,beq_iff_eq] at he
  obtain ⟨q,hq,hb,hon⟩ := he
  have := hcl _ o ho h _ (Array.getElem_mem hq) hb
  rwa [hon] at this
 ·cases he
theorem xHQ {ops : Array Oper} (hlt : ∀ i d,xCJ ops i d = true → d < i) {i d : Nat} (h : Bef ops i d) : d < i := by
 induction h with
 | one h => exact hlt _ _ h
 | more h k ih => have := hlt _ _ h; omega
section
variable {chk : Code → ACode → Bool} {P : Program} {o : Oper} {a : Act} {im : Im} {io : Io} {H H' : Heap} {w : World} {F : List AV} {R : Rec} {v : AV}
def FreeAt (R : Rec) (H : Heap) (F : List AV) (ao : AOper) (v : AV) : Prop :=
 (xCt F ao.guard = some true ∧ xA7 R F H ao.op = some v) ∨ (xCt F ao.guard = some false ∧ v = .tup [])
theorem xFV {ao : AOper} {s s1 : St} (h : xBq R ao s = some s1) : ∃ v,FreeAt R s.H s.F ao v ∧ s1 = ⟨putA s.F ao.dst v,s.H⟩ := by
 unfold xBq at h
 split at h
 ·cases h
 ·rename_i hw; cases h; exact ⟨_,.inr ⟨hw,rfl⟩,rfl⟩
 ·rename_i hw
  simp only [Option.map_eq_some_iff] at h
  obtain ⟨v,h1,rfl⟩ := h
  exact ⟨v,.inl ⟨hw,h1⟩,rfl⟩
def xBY (aops : List AOper) (s : Nat) : Bool := aops.any fun o => o.dst == some s
theorem xBC (F : List AV) (d : Option Nat) (v : AV) : (putA F d v).length = F.length := by cases d <;> simp [putA]
theorem xBv (F : List AV) (d : Option Nat) (v : AV) (s : Nat) : (putA F d v).getD s .any = if d = some s ∧ s < F.length then v else F.getD s .any := by
 cases d with
 | none => simp [putA]
 | some d =>
  simp only [putA,List.getD,List.getElem?_set]
  by_cases e : d = s
  ·subst e
   by_cases hl : d < F.length
   ·simp [hl]
   ·simp [hl]
  ·simp [e]
theorem xGU : ∀ (aops : List AOper) (F0 : List AV) (H : Heap) (s1 : St) (pl : List Pr),xBa R aops ⟨F0,H⟩ = some (s1,pl) → (∀ i j s,i < j → xBb aops i = some s → xBb aops j = some s → False) →
  s1.H = H ∧ s1.F.length = F0.length ∧ pl.length = aops.length ∧ (∀ s,xBY aops s = false → s1.F.getD s .any = F0.getD s .any) ∧
  ∀ i ao,aops[i]? = some ao → ∃ Fi,Fi.length = F0.length ∧ (∀ s,Fi.getD s .any = if xBY (aops.take i) s then s1.F.getD s .any else F0.getD s .any) ∧
   ((xBe ao.op = false ∧ pl[i]? = some none ∧ ∃ v,FreeAt R H Fi ao v ∧ (∀ s,ao.dst = some s → s < F0.length → s1.F.getD s .any = v)) ∨
    (xBe ao.op = true ∧ ∃ t v B,ao.dst = some t ∧ xDh R Fi ao.op = some (v,B) ∧ pl[i]? = some (some (t,v,B)) ∧ (t < F0.length → s1.F.getD t .any = xCN v)))
 | [],F0,H,s1,pl,h,_ => by
  simp only [xBa] at h; cases h
  exact ⟨rfl,rfl,rfl,fun _ _ => rfl,fun i ao hi => by simp at hi⟩
 | ao :: rest,F0,H,s1,pl,h,hd => by
  have hrd : ∀ i j s,i < j → xBb rest i = some s → xBb rest j = some s → False := fun i j s hij hi hj => hd (i + 1) (j + 1) s (by omega) (by simpa [xBb] using hi) (by simpa [xBb] using hj)
  have hno : ∀ s,ao.dst = some s → xBY rest s = false := by
   intro s hs
   rw [Bool.eq_false_iff]
   intro hw
   simp only [xBY,List.any_eq_true,beq_iff_eq] at hw
   obtain ⟨o',ho',hds⟩ := hw
   obtain ⟨j,hj,e⟩ := List.mem_iff_getElem.1 ho'
   exact hd 0 (j + 1) s (by omega) (by simp [xBb,hs]) (by simp [xBb,List.getElem?_eq_getElem hj,e,hds])
  have fin : ∀ (v : AV) (e : Pr) (pl' : List Pr),xBa R rest ⟨putA F0 ao.dst v,H⟩ = some (s1,pl') → pl = e :: pl' →
    ((xBe ao.op = false ∧ e = none ∧ FreeAt R H F0 ao v) ∨ (xBe ao.op = true ∧ ∃ t w B,ao.dst = some t ∧ xDh R F0 ao.op = some (w,B) ∧ e = some (t,w,B) ∧ v = xCN w)) →
    s1.H = H ∧ s1.F.length = F0.length ∧ pl.length = (ao :: rest).length ∧ (∀ s,xBY (ao :: rest) s = false → s1.F.getD s .any = F0.getD s .any) ∧
    ∀ i ao',(ao :: rest)[i]? = some ao' → ∃ Fi,Fi.length = F0.length ∧ (∀ s,Fi.getD s .any = if xBY ((ao :: rest).take i) s then s1.F.getD s .any else F0.getD s .any) ∧
     ((xBe ao'.op = false ∧ pl[i]? = some none ∧ ∃ v,FreeAt R H Fi ao' v ∧ (∀ s,ao'.dst = some s → s < F0.length → s1.F.getD s .any = v)) ∨
      (xBe ao'.op = true ∧ ∃ t v B,ao'.dst = some t ∧ xDh R Fi ao'.op = some (v,B) ∧ pl[i]? = some (some (t,v,B)) ∧ (t < F0.length → s1.F.getD t .any = xCN v))) := by
   intro v e pl' h0 hpl hk
   subst hpl
   obtain ⟨e1,e2,e0,e3,e4⟩ := xGU rest _ H s1 pl' h0 hrd
   refine ⟨e1,by rw [e2,xBC],by simp [e0],fun s hs => ?_,fun i ao' hi => ?_⟩
   ·simp only [xBY,List.any_cons,Bool.or_eq_false_iff,beq_eq_false_iff_ne,ne_eq] at hs
    rw [e3 s hs.2,xBv,if_neg (fun q => hs.1 q.1)]
   ·cases i with
    | zero =>
     simp at hi; subst hi
     refine ⟨F0,rfl,fun s => by simp [xBY],?_⟩
     have hval : ∀ s,ao.dst = some s → s < F0.length → s1.F.getD s .any = v := fun s hs hlt => by
      rw [e3 s (hno s hs),xBv,if_pos ⟨hs,hlt⟩]
     rcases hk with ⟨k1,k2,k3⟩ | ⟨k1,t,w,B,k2,k3,k4,k5⟩
     ·exact .inl ⟨k1,by simp [k2],v,k3,hval⟩
     ·exact .inr ⟨k1,t,w,B,k2,k3,by simp [k4],fun hlt => by rw [hval t k2 hlt,k5]⟩
    | succ i =>
     simp at hi
     obtain ⟨Fi,g2,g3,g⟩ := e4 i ao' hi
     refine ⟨Fi,by rw [g2,xBC],fun s => ?_,?_⟩
     ·have ew : xBY ((ao :: rest).take (i + 1)) s = (ao.dst == some s || xBY (rest.take i) s) := rfl
      rw [g3 s,ew]
      by_cases hw : xBY (rest.take i) s = true
      ·rw [hw]; simp
      ·have hw' : xBY (rest.take i) s = false := by simpa using hw
       rw [hw']
       by_cases hs : ao.dst = some s
       ·have q1 : (ao.dst == some s) = true := by simp [hs]
        rw [q1]
        simp only [Bool.false_eq_true,if_false,Bool.or_false,if_true]
        rw [xBv,e3 s (hno s hs),xBv]
       ·have q1 : (ao.dst == some s) = false := by simpa using hs
        rw [q1]
        simp only [Bool.false_eq_true,if_false,Bool.or_false]
        rw [xBv,if_neg (fun q => hs q.1)]
     ·rcases g with ⟨k1,k2,v',k3,k4⟩ | ⟨k1,t,w,B,k2,k3,k4,k5⟩
      ·exact .inl ⟨k1,by simpa using k2,v',k3,fun s hs hlt => k4 s hs (by rw [xBC]; exact hlt)⟩
      ·exact .inr ⟨k1,t,w,B,k2,k3,by simpa using k4,fun hlt => k5 (by rw [xBC]; exact hlt)⟩
  simp only [xBa] at h
  split at h
  ·rename_i hp
   split at h
   ·rename_i t v B hdst hpv
    simp only [Option.map_eq_some_iff] at h
    obtain ⟨⟨s2,l2⟩,h2,e⟩ := h
    cases e
    exact fin (xCN v) _ l2 (by rw [hdst]; exact h2) rfl (.inr ⟨hp,t,v,B,hdst,hpv,rfl,rfl⟩)
   ·cases h
  ·rename_i hp
   split at h
   ·cases h
   rename_i s' h1
   obtain ⟨v,hv,rfl⟩ := xFV h1
   simp only [Option.map_eq_some_iff] at h
   obtain ⟨⟨s2,l2⟩,h2,e⟩ := h
   cases e
   exact fin v _ l2 h2 rfl (.inl ⟨by simpa using hp,rfl,hv⟩)
def mix (aops : List AOper) (D : Nat → Bool) (F0 Fm : List AV) : List AV :=
 (List.range F0.length).map fun s => if (List.range aops.length).any (fun k => D k && xBb aops k == some s) then Fm.getD s .any else F0.getD s .any
def hit (aops : List AOper) (D : Nat → Bool) (s : Nat) : Bool := (List.range aops.length).any fun k => D k && xBb aops k == some s
theorem xBL (aops : List AOper) (D : Nat → Bool) (F0 Fm : List AV) : (mix aops D F0 Fm).length = F0.length := by simp [mix]
theorem xC7 (aops : List AOper) (D : Nat → Bool) (F0 Fm : List AV) (s : Nat) (hl : Fm.length = F0.length) : (mix aops D F0 Fm).getD s .any = if hit aops D s then Fm.getD s .any else F0.getD s .any := by
 unfold mix hit
 by_cases hs : s < F0.length
 ·simp only [List.getD,List.getElem?_map,List.getElem?_range hs,Option.map_some,Option.getD_some]
 ·have e1 : F0.getD s .any = .any := by simp [List.getD,List.getElem?_eq_none (Nat.le_of_not_lt hs)]
  have e2 : Fm.getD s .any = .any := by simp [List.getD,List.getElem?_eq_none (by omega : Fm.length ≤ s)]
  rw [e1,e2]
  have : (List.range F0.length)[s]? = none := List.getElem?_eq_none (by simp; omega)
  simp [List.getD,this]
theorem xCy {F F' : List AV} (hl : F.length = F'.length) (h : ∀ s,F.getD s .any = F'.getD s .any) : F = F' := by
 apply List.ext_getElem hl
 intro i h1 h2
 have := h i
 simpa [List.getD,List.getElem?_eq_getElem h1,List.getElem?_eq_getElem h2] using this
def yDd : Nat → Value → Value → Prop
 | 0,y,x => y = x
 | i + 1,y,x => ∃ l,x = .tuple l ∧ l[i]? = some y
theorem yBA {k : Nat} {y x : Value} {v : AV} (hp : yDd k y x) (h : Rep im io v x) : Rep im io (xYA k v) y := by
 cases k with
 | zero =>
  have e : y = x := hp
  rw [e]
  exact h
 | succ i =>
  obtain ⟨l,rfl,hl⟩ := hp
  cases v with
  | tup cs =>
   show Rep im io (cs.getD i .any) y
   cases h with
   | tup h1 h2 =>
    rename_i vs
    have hv : vs[i]? = some y := by simpa using hl
    by_cases hi : i < cs.length
    ·have := h2 i cs[i] y (List.getElem?_eq_getElem hi) hv
     rw [List.getD_eq_getElem?_getD,List.getElem?_eq_getElem hi]
     exact this
    ·rw [List.getD_eq_getElem?_getD,List.getElem?_eq_none (by omega)]
     exact .any _
  | _ => exact .any _
theorem xTB {io' : Io} {x : Value} {v : AV} (h : Rep im io v x) : Rep im io' (xCN v) x := by
 cases v with
 | tup cs =>
  cases h with
  | tup h1 h2 =>
   refine .tup (by simpa using h1) (fun i c v hc hv => ?_)
   simp only [List.getElem?_map,Option.map_eq_some_iff] at hc
   obtain ⟨c0,hc0,rfl⟩ := hc
   have := h2 i c0 v hc0 hv
   cases c0 with
   | int k n => cases this; exact .int
   | bool b => cases this; exact .bool
   | _ => exact .any _
 | _ => exact .any _
theorem FRep.putS {t : Nat} {x : Value} {v : AV} (h : FRep im io F a) (hx : ∀ y,(a.put (some t) x).tmps.toList[t]? = some y → Rep im io v y) : FRep im io (putA F (some t) v) (a.put (some t) x) := by
 refine ⟨?_,fun i c y hc hy => ?_⟩
 ·have := h.1
  simpa [putA,Act.put] using this
 ·by_cases e : i = t
  ·subst e
   have hc' : (F.set i v)[i]? = some c := hc
   have : i < F.length := by
    have := (List.getElem?_eq_some_iff.1 hc').1
    simpa using this
   rw [List.getElem?_set_self this] at hc'
   cases hc'
   exact hx y hy
  ·have hc' : (F.set t v)[i]? = some c := hc
   rw [List.getElem?_set_ne (fun q => e q.symm)] at hc'
   have hy' : (a.put (some t) x).tmps.toList[i]? = some y := hy
   have hz : (a.put (some t) x).tmps.toList = a.tmps.toList.set t x := by
    show (a.tmps.setIfInBounds t x).toList = _
    rw [Array.toList_setIfInBounds]
   rw [hz,List.getElem?_set_ne (fun q => e q.symm)] at hy'
   exact h.2 i c y hc' hy'
theorem xHR (hR : RecOk chk P R) {ops : Array Oper} {ao : AOper} {r : Option Nat} {n i : Nat} {Q : Exit → Act → World → Prop} {K : Act → World → Prop} (hi : ops[i]? = some o) (hd : o.dst = ao.dst) (hc : xA3 P o ao.op = true) (hg : xFd ops o.guard ao.guard = true)
  (hna : xH8 ao.op = false) (hs : Sim chk im io H w) (hF : FRep im io F a) (h : FreeAt R H F ao v)
  (hK : ∀ im' io' a' w',Step im io w im' io' w' → Sim chk im' io' H w' → FRep im' io' (putA F ao.dst v) a' → a'.defers = a.defers → (∃ x,a' = a.put ao.dst x ∧ (∀ q,ao.op = .mov (.t q) → ao.guard = none → x = a.tmps.getD q undef) ∧ ∀ j p,ao.op = .ext j (.t p) → ao.guard = none → yDd (j + 1) x (a.tmps.getD p undef)) → K a' w') : wpOpIn (Fw r) n P ops Q i K a w := by
 unfold wpOpIn
 simp only [hi]
 rcases h with ⟨hw,h⟩ | ⟨hw,rfl⟩
 ·rw [xDt hg hF hw]
  simp only [if_true]
  by_cases hm : ∃ q,ao.op = .mov (.t q)
  ·obtain ⟨q,hq⟩ := hm
   have hex := xHW hna h
   rw [hq] at hc hex
   have hv : v = F.getD q .any := by
    simp only [xAg,opv,Option.some.injEq,Prod.mk.injEq] at hex
    exact hex.1.symm
   subst hv
   refine ⟨fun f _ => trivial,?_⟩
   rw [Oper.semAt_eq _ _ _ (xHY hc)]
   have hrun : (execOp a.eval o).run P w = .ok (.value (a.tmps.getD q undef)) w := by
    simp only [xA3] at hc
    have key : ∀ y,xA2 y (.t q) = true → a.eval y = a.tmps.getD q undef := by
     intro y hy
     unfold xA2 at hy
     split at hy
     ·rename_i i j e1; cases e1; simp at hy; subst hy; rfl
     all_goals first | (rename_i e1; cases e1; done) | cases hy
    split at hc
    ·rename_i y ho; simp [execOp,ho,key y hc]
    ·rename_i y ho; simp [execOp,ho,key y hc]
    ·cases hc
   rw [hrun]
   show K (a.put o.dst _) w
   rw [hd]
   refine hK im io _ w (.refl _ _ _) hs ?_ (xBy _ _ _) ⟨_,rfl,fun q' e _ => ?_,fun j p e _ => ?_⟩
   ·exact hF.put _ (hF.getD q)
   ·rw [hq] at e; cases e; rfl
   ·rw [hq] at e; cases e
  ·by_cases hm2 : ∃ j p,ao.op = .ext j (.t p)
   ·obtain ⟨j,p,hq⟩ := hm2
    have hex := xHW hna h
    rw [hq] at hc hex
    simp only [xAg,opv] at hex
    split at hex
    case h_2 => cases hex
    rename_i vs hvs
    simp only [Option.map_eq_some_iff,Prod.mk.injEq] at hex
    obtain ⟨v',hv1,rfl,_⟩ := hex
    have hrp := hF.getD p
    rw [hvs] at hrp
    refine ⟨fun f _ => trivial,?_⟩
    rw [Oper.semAt_eq _ _ _ (xHY hc)]
    generalize hcv : a.tmps.getD p undef = cv at hrp
    cases hrp with
    | tup hl hcc =>
     rename_i ws
     obtain ⟨xv,hx1,hx2⟩ := Reps.get (vs := ws) ⟨hl,hcc⟩ hv1
     have hrun : (execOp a.eval o).run P w = .ok (.value xv) w := by
      simp only [xA3] at hc
      have key : ∀ y,xA2 y (.t p) = true → a.eval y = a.tmps.getD p undef := by
       intro y hy
       unfold xA2 at hy
       split at hy
       ·rename_i i j e1; cases e1; simp at hy; subst hy; rfl
       all_goals first | (rename_i e1; cases e1; done) | cases hy
      split at hc
      ·rename_i y i' ho
       simp only [Bool.and_eq_true,beq_iff_eq] at hc
       obtain ⟨rfl,hy⟩ := hc
       simp [execOp,ho,key y hy,hcv,Instr.extract,hx1]
      ·cases hc
     rw [hrun]
     show K (a.put o.dst _) w
     rw [hd]
     refine hK im io _ w (.refl _ _ _) hs (hF.put _ hx2) (xBy _ _ _) ⟨_,rfl,fun q' e _ => ?_,fun j' p' e _ => ?_⟩
     ·rw [hq] at e; cases e
     ·rw [hq] at e; cases e
      rw [hcv]
      exact ⟨_,rfl,by simpa using hx1⟩
   ·refine Oper.wpIn_mono ?_ (xL6 hR hc hs hF (xHW hna h) Q)
    rintro a' w' ⟨im',io',t1,t2,t3,t4,x,t5⟩
    rw [hd] at t3 t5
    exact hK im' io' a' w' t1 t2 t3 t4 ⟨x,t5,fun q e _ => (hm ⟨q,e⟩).elim,fun j p e _ => (hm2 ⟨j,p,e⟩).elim⟩
 ·rw [xDt hg hF hw]
  simp only [Bool.false_eq_true,if_false]
  refine ⟨fun f _ => trivial,?_⟩
  rw [hd]
  exact hK im io _ w (.refl _ _ _) hs (hF.put ao.dst (.tup (vs := []) rfl (fun i c v h => by simp at h))) (xBy _ _ _) ⟨_,rfl,fun q _ hg' => by rw [hg'] at hw; simp [xCt] at hw,fun j p _ hg' => by rw [hg'] at hw; simp [xCt] at hw⟩
theorem xDf : ∀ (als : List (Nat × Nat)) (F : List AV),(xCs als F).length = F.length
 | [],F => rfl
 | (d,q) :: r,F => by rw [xCs,xDf r]; simp
theorem xFW (F : List AV) (d : Nat) (v : AV) (t : Nat) : (F.set d v).getD t .any = if d = t ∧ t < F.length then v else F.getD t .any := by
 simp only [List.getD,List.getElem?_set]
 by_cases h : d = t
 ·subst h
  by_cases h2 : d < F.length
  ·simp [h2]
  ·simp [h2,List.getElem?_eq_none (Nat.le_of_not_lt h2)]
 ·simp [h]
theorem xDU : ∀ (als : List (Nat × Nat)) (F : List AV) (t : Nat),(∀ q,(t,q) ∉ als) → (xCs als F).getD t .any = F.getD t .any
 | [],F,t,_ => rfl
 | (d,q) :: r,F,t,h => by
  rw [xCs,xDU r _ t (fun q' hq => h q' (by simp [hq])),xFW,if_neg]
  rintro ⟨e,-⟩
  subst e
  exact h q (by simp)
theorem xGE : ∀ (als : List (Nat × Nat)) (F : List AV) (t q : Nat),(t,q) ∈ als → (∀ d q1 q2,(d,q1) ∈ als → (d,q2) ∈ als → q1 = q2) → (∀ d q1 q2,(d,q1) ∈ als → (q1 % 4096,q2) ∉ als) → t < F.length → (xCs als F).getD t .any = xYA (q / 4096) (F.getD (q % 4096) .any)
 | (d,q') :: r,F,t,q,h,h1,h2,hl => by
  have hq : ∀ q2,(q % 4096,q2) ∉ (d,q') :: r := fun q2 => h2 t q q2 h
  have xC9 : (F.set d (xYA (q' / 4096) (F.getD (q' % 4096) .any))).getD (q % 4096) .any = F.getD (q % 4096) .any := by
   rw [xFW,if_neg]
   rintro ⟨e,-⟩
   subst e
   exact hq q' (by simp)
  by_cases hr : (t,q) ∈ r
  ·rw [xCs,xGE r _ t q hr (fun d q1 q2 a b => h1 d q1 q2 (by simp [a]) (by simp [b])) (fun d q1 q2 a b => h2 d q1 q2 (by simp [a]) (by simp [b])) (by simpa using hl),xC9]
  ·rcases List.mem_cons.1 h with e | e
   ·cases e
    rw [xCs,xDU r]
    ·rw [xFW,if_pos ⟨rfl,hl⟩]
    ·intro q2 hq2
     have := h1 _ _ q2 List.mem_cons_self (by simp [hq2])
     subst this
     exact hr hq2
   ·exact (hr e).elim
def PrivAt (B0 : Nat) (im : Im) (io : Io) (w : World) (a : Act) (t : Nat) (v : AV) (B : List Blk) (ios : List (Option (Nat × Nat))) : Prop :=
 PrivB B0 im io w B ios ∧ xBm v = true ∧ ∀ y,a.tmps.toList[t]? = some y → Rep im (xDY ios) v y
theorem PrivAt.step {B0 t : Nat} {v : AV} {B : List Blk} {ios : List (Option (Nat × Nat))} {im' : Im} {io' : Io} {w' : World} {a' : Act} (h : PrivAt B0 im io w a t v B ios) (hs : Step im io w im' io' w') (ha : a'.tmps.toList[t]? = a.tmps.toList[t]?) : PrivAt B0 im' io' w' a' t v B ios :=
 ⟨h.1.step hs,h.2.1,fun y hy => (h.2.2 y (by rw [← ha]; exact hy)).mono hs.im_le (.refl _)⟩
theorem PrivB.low {B0 B1 : Nat} {B : List Blk} {ios : List (Option (Nat × Nat))} (h : PrivB B1 im io w B ios) (hl : B0 ≤ B1) : PrivB B0 im io w B ios where
 len := h.len
 blk k bk hk := by
  rcases h.blk k bk hk with e | ⟨cs,b,c,t,fr,hfr,e1,e2,e3,e4,e5,e6,e7⟩
  ·exact .inl e
  ·exact .inr ⟨cs,b,c,t,fr,hfr,e1,e2,e3,e4,e5,by omega,e7⟩
 inj := h.inj
theorem PrivB.notOwn {B0 : Nat} {io' : Io} {B : List Blk} {ios : List (Option (Nat × Nat))} (h : PrivB B0 im io w B ios) (hn : ∀ k b s,xDY ios k = some (b,s) → ¬ Own io' b) : PrivB B0 im io' w B ios where
 len := h.len
 blk k bk hk := by
  rcases h.blk k bk hk with e | ⟨cs,b,c,t,fr,hfr,e1,e2,e3,e4,e5,e6,e7⟩
  ·exact .inl e
  ·exact .inr ⟨cs,b,c,t,fr,hfr,e1,e2,e3,e4,hn k b _ e2,e6,e7⟩
 inj := h.inj
theorem xDV {a : Act} {dst : Option Nat} {x : Value} {d : Nat} (h : dst ≠ some d) : (a.put dst x).tmps.toList[d]? = a.tmps.toList[d]? := by
 cases dst with
 | none => rfl
 | some e =>
  show (a.tmps.setIfInBounds e x).toList[d]? = _
  rw [Array.toList_setIfInBounds,List.getElem?_set_ne (fun q => h (by rw [q]))]
theorem Reps.setL {cs : List AV} {vs : List Value} (h : Reps im io cs vs) (d : Nat) {v : AV} (hx : ∀ y,vs[d]? = some y → Rep im io v y) : Reps im io (cs.set d v) vs := by
 refine ⟨by simp [h.1],fun j c u h1 h2 => ?_⟩
 rw [List.getElem?_set] at h1
 split at h1
 ·rename_i e
  subst e
  split at h1
  ·cases h1; exact hx u h2
  ·cases h1
 ·exact h.2 j c u h1 h2
theorem xMN : ∀ (als : List (Nat × Nat)) (F : List AV),FRep im io F a → (∀ d q,(d,q) ∈ als → ∀ y,a.tmps.toList[d]? = some y → yDd (q / 4096) y (a.tmps.getD (q % 4096) undef)) → FRep im io (xCs als F) a
 | [],F,h,_ => h
 | (d,q) :: r,F,h,hq => by
  rw [xCs]
  refine xMN r _ (Reps.setL h d fun y hy => ?_) (fun d' q' h' => hq d' q' (by simp [h']))
  exact yBA (hq d q (by simp) y hy) (h.getD (q % 4096))
theorem xHS {B0 : Nat} : ∀ (l : List Pr) (s : St) (io : Io) (ioss : Nat → List (Option (Nat × Nat))),Sim chk im io s.H w → FRep im io s.F a →
  (∀ i t v B,l[i]? = some (some (t,v,B)) → PrivAt B0 im io w a t v B (ioss i)) →
  (∀ i j x y k k' b z z',i ≠ j → l[i]? = some (some x) → l[j]? = some (some y) → xDY (ioss i) k = some (b,z) → xDY (ioss j) k' = some (b,z') → False) →
  ∃ io',Sim chk im io' (adoptL l s).H w ∧ FRep im io' (adoptL l s).F a ∧ IoLe io io' ∧ ∀ b,Own io' b → Own io b ∨ B0 ≤ b
 | [],s,io,ioss,hs,hF,_,_ => ⟨io,hs,hF,.refl _,fun _ h => .inl h⟩
 | none :: rest,s,io,ioss,hs,hF,hp,hd =>
  xHS rest s io (fun i => ioss (i + 1)) hs hF (fun i t v B hi => hp (i + 1) t v B (by simpa using hi)) (fun i j x y k k' b z z' hij hi hj => hd (i + 1) (j + 1) x y k k' b z z' (by omega) (by simpa using hi) (by simpa using hj))
 | some (t,v,B) :: rest,s,io,ioss,hs,hF,hp,hd => by
  obtain ⟨h1,h2,h3⟩ := hp 0 t v B rfl
  have hs' := hs.addAll h1
  have hle : IoLe io (xL7 io s.H.length (ioss 0)) := xL8 hs.fresh
  have hF' : FRep im (xL7 io s.H.length (ioss 0)) (s.F.set t (xAP s.H.length v)) a :=
   Reps.setL (Reps.mono (.refl _) hle hF) t fun y hy => xMT (fun k z hk => by rw [xDg]; exact hk) h2 (h3 y hy)
  obtain ⟨io',g1,g2,g3,g4⟩ := xHS rest ⟨s.F.set t (xAP s.H.length v),s.H ++ B⟩ _ (fun i => ioss (i + 1)) hs' hF'
   (fun i t' v' B' hi => by
    obtain ⟨k1,k2,k3⟩ := hp (i + 1) t' v' B' (by simpa using hi)
    refine ⟨k1.notOwn (fun k b z hk ho => ?_),k2,k3⟩
    rcases xFZ ho with q | ⟨k',z',q⟩
    ·obtain ⟨_,_,_,_,_,_,_,_,_,q',_⟩ := k1.own hk
     exact q' q
    ·exact hd (i + 1) 0 (t',v',B') (t,v,B) k k' b z z' (by omega) (by simpa using hi) rfl hk q)
   (fun i j x y k k' b z z' hij hi hj => hd (i + 1) (j + 1) x y k k' b z z' (by omega) (by simpa using hi) (by simpa using hj))
  refine ⟨io',g1,g2,hle.trans g3,fun b hb => ?_⟩
  rcases g4 b hb with q | q
  ·rcases xFZ q with q2 | ⟨k,z,q2⟩
   ·exact .inl q2
   ·obtain ⟨_,_,_,_,_,_,_,_,_,_,q'⟩ := h1.own q2
    exact .inr q'
  ·exact .inr q
theorem xB0 {listed : Array Bool} {j : Nat} (h : j < listed.size) : listed.getD j true = listed.getD j false := by
 simp [h]
theorem xQj {l : List Bool} : ∀ {i : Nat},i < l.length → l[i]? = some false → (l.set i true).count true = l.count true + 1 := by
 induction l with
 | nil => intro i h; simp at h
 | cons b l ih =>
  intro i h hb
  cases i with
  | zero => simp at hb; subst hb; simp
  | succ i =>
   simp at hb h
   rw [List.set_cons_succ,List.count_cons,List.count_cons,ih h hb]
   omega
theorem xQk {l : List Bool} : l.count true = l.length → ∀ i,i < l.length → l[i]? = some true := by
 induction l with
 | nil => intro _ i h; simp at h
 | cons b l ih =>
  intro h i hi
  have hle : l.count true ≤ l.length := List.count_le_length
  rw [List.count_cons] at h
  simp at h
  cases b with
  | false => simp at h; omega
  | true =>
   cases i with
   | zero => rfl
   | succ i => simp at hi ⊢; exact by have := ih (by simpa using h) i hi; simpa [List.getElem?_eq_getElem hi] using this
theorem xCU : ∀ (l : List Pr) (s : St),(adoptL l s).F.length = s.F.length
 | [],s => rfl
 | none :: rest,s => xCU rest s
 | some (t,v,B) :: rest,s => by simp only [adoptL]; rw [xCU rest]; simp
theorem xL3 : ∀ (l : List Pr) (F F' : List AV) (H : Heap),(adoptL l ⟨F,H⟩).H = (adoptL l ⟨F',H⟩).H
 | [],_,_,_ => rfl
 | none :: rest,F,F',H => xL3 rest F F' H
 | some (t,v,B) :: rest,F,F',H => by simp only [adoptL]; exact xL3 rest _ _ _
theorem xGF (t : Nat) : ∀ (l : List Pr) (F F' : List AV) (H : Heap),F.length = F'.length → (F.getD t .any = F'.getD t .any ∨ False) → (adoptL l ⟨F,H⟩).F.getD t .any = (adoptL l ⟨F',H⟩).F.getD t .any
 | [],F,F',H,hl,h => h.elim id False.elim
 | none :: rest,F,F',H,hl,h => xGF t rest F F' H hl h
 | some (d,v,B) :: rest,F,F',H,hl,h => by
  simp only [adoptL]
  refine xGF t rest _ _ _ (by simp [hl]) (.inl ?_)
  have h := h.elim id False.elim
  have e1 := xBv F (some d) (xAP H.length v) t
  have e2 := xBv F' (some d) (xAP H.length v) t
  simp only [putA] at e1 e2
  rw [e1,e2,hl,h]
theorem xEe (t : Nat) : ∀ (l : List Pr) (s : St),(∀ v B,some (t,v,B) ∉ l) → (adoptL l s).F.getD t .any = s.F.getD t .any
 | [],_,_ => rfl
 | none :: rest,s,h => xEe t rest s (fun v B hm => h v B (List.mem_cons_of_mem _ hm))
 | some (d,v,B) :: rest,s,h => by
  simp only [adoptL]
  rw [xEe t rest _ (fun v' B' hm => h v' B' (List.mem_cons_of_mem _ hm))]
  have e1 := xBv s.F (some d) (xAP s.H.length v) t
  simp only [putA] at e1
  rw [e1,if_neg]
  rintro ⟨q,_⟩
  cases q
  exact h v B (List.mem_cons_self ..)
def xGV (m : Nat) (aops : List AOper) (D : Nat → Bool) (F0 F : List AV) : List AV :=
 (List.range F0.length).map fun t => if (List.range m).any (fun d => !D d && xBb aops d == some t) then F0.getD t .any else F.getD t .any
def yet (m : Nat) (aops : List AOper) (D : Nat → Bool) (t : Nat) : Bool := (List.range m).any fun d => !D d && xBb aops d == some t
theorem xBx (m : Nat) (aops : List AOper) (D : Nat → Bool) (F0 F : List AV) : (xGV m aops D F0 F).length = F0.length := by simp [xGV]
theorem xBX (m : Nat) (aops : List AOper) (D : Nat → Bool) (F0 F : List AV) (t : Nat) (hl : F.length = F0.length) : (xGV m aops D F0 F).getD t .any = if yet m aops D t then F0.getD t .any else F.getD t .any := by
 unfold xGV yet
 by_cases hs : t < F0.length
 ·simp only [List.getD,List.getElem?_map,List.getElem?_range hs,Option.map_some,Option.getD_some]
 ·have e1 : F0.getD t .any = .any := by simp [List.getD,List.getElem?_eq_none (Nat.le_of_not_lt hs)]
  have e2 : F.getD t .any = .any := by simp [List.getD,List.getElem?_eq_none (by omega : F.length ≤ t)]
  rw [e1,e2]
  have : (List.range F0.length)[t]? = none := List.getElem?_eq_none (by simp; omega)
  simp [List.getD,this]
theorem yet_iff {m : Nat} {aops : List AOper} {D : Nat → Bool} {t : Nat} : yet m aops D t = true ↔ ∃ d,d < m ∧ D d = false ∧ xBb aops d = some t := by
 simp [yet,and_assoc]
theorem xFX {op : AOp} (h : xBG op = true) (F : List AV) (H H' : Heap) : xA7 R F H op = xA7 R F H' op := by
 cases op <;> simp only [xBG] at h <;> first | (cases h; done) | skip
 all_goals simp only [xA7,xAg]
 all_goals first
  | rfl
  | simp only [Option.map_map]; rfl
  | (split <;> first | rfl | (simp only [Option.map_map]; rfl) | (split <;> first | rfl | (simp only [Option.map_map]; rfl)))
  | (split <;> first | rfl | (split <;> first | rfl | (split <;> rfl)))
theorem xFr {op : AOp} (h : xBG op = true) : xBe op = false := by
 cases op <;> first | rfl | (simp [xBG] at h; done)
theorem xGG : ∀ (l : List Pr) (s : St),∃ B,(adoptL l s).H = s.H ++ B
 | [],s => ⟨[],by simp [adoptL]⟩
 | none :: rest,s => xGG rest s
 | some (t,v,B) :: rest,s => by
  simp only [adoptL]
  obtain ⟨C,hC⟩ := xGG rest ⟨s.F.set t (xAP s.H.length v),s.H ++ B⟩
  exact ⟨B ++ C,by rw [hC,List.append_assoc]⟩
theorem xDD {op : AOp} (h : xBe op = false) : xH8 op = false := by
 cases op with
 | box x => cases h
 | _ => rfl
theorem xQl {F F' : List AV} {op : AOp} (h : ∀ x ∈ op.args,opv F x = opv F' x) : xDh R F op = xDh R F' op := by
 unfold xDh
 rw [xFf h]
 have e : (op.args.all fun x => xAT (opv F x)) = op.args.all fun x => xAT (opv F' x) := by
  rw [Bool.eq_iff_iff]; simp only [List.all_eq_true]
  exact ⟨fun g p hp => by rw [← h p hp]; exact g p hp,fun g p hp => by rw [h p hp]; exact g p hp⟩
 rw [e]
theorem xUr (hR : RecOk chk P R) {ops : Array Oper} {ao : AOper} {r : Option Nat} {n i t : Nat} {B : List Blk} {Q : Exit → Act → World → Prop} {K : Act → World → Prop} (hi : ops[i]? = some o) (hd : o.dst = ao.dst) (hc : xA3 P o ao.op = true) (hg : xFd ops o.guard ao.guard = true)
  (hgn : ao.guard = none) (hdt : ao.dst = some t) (hs : Sim chk im io H w) (hF : FRep im io F a) (h : xDh R F ao.op = some (v,B))
  (hK : ∀ im' a' w' x ios,Step im io w im' io w' → Sim chk im' io H w' → a' = a.put (some t) x → PrivAt w.heap.size im' io w' a' t v B ios → K a' w') : wpOpIn (Fw r) n P ops Q i K a w := by
 unfold wpOpIn
 simp only [hi]
 have hw : xCt F ao.guard = some true := by rw [hgn]; rfl
 rw [xDt hg hF hw]
 simp only [if_true]
 unfold xDh at h
 split at h
 case isFalse => cases h
 rename_i hdat
 split at h
 case h_2 => cases h
 rename_i v0 B0 hex
 split at h
 case isFalse => cases h
 rename_i hrel
 cases h
 let F1 : List AV := F.map fun c => if xAT c = true then c else .any
 have xVD : ∀ s,F1.getD s .any = if xAT (F.getD s .any) = true then F.getD s .any else .any := by
  intro s
  by_cases hlt : s < F.length
  ·simp only [F1,List.getD,List.getElem?_map,List.getElem?_eq_getElem hlt,Option.map_some,Option.getD_some]
  ·simp only [F1,List.getD,List.getElem?_map,List.getElem?_eq_none (Nat.le_of_not_lt hlt),Option.map_none,Option.getD_none,ite_self]
 have hop : ∀ x ∈ ao.op.args,opv F x = opv F1 x := by
  intro x hx
  have hdx := List.all_eq_true.1 hdat x hx
  cases x with
  | c y => rfl
  | t s =>
   show F.getD s .any = F1.getD s .any
   rw [xVD]; exact (if_pos hdx).symm
 have hF1 : FRep im xEt F1 a := by
  refine ⟨by rw [hF.1]; simp [F1],fun i c x hi hx => ?_⟩
  simp only [F1,List.getElem?_map,Option.map_eq_some_iff] at hi
  obtain ⟨c0,h1,rfl⟩ := hi
  split
  ·rename_i hd0
   exact xUF hd0 (hF.2 i c0 x h1 hx)
  ·exact .any _
 rw [xFf hop] at hex
 refine Oper.wpIn_mono ?_ (xL6 hR hc (Sim.empty hs.imin) hF1 hex Q)
 rintro a' w' ⟨im',io',b1,b2,b3,_,x,rfl⟩
 have hsize : ∀ b,Own io' b → w.heap.size ≤ b := fun b ho => (b1.ownNew b ho).elim (fun ⟨_,_,q⟩ => by cases q) id
 have hno : ∀ b,Own io' b → ¬ Own io b ∧ w.heap.size ≤ b := fun b ho => ⟨fun ho' => by have := hs.inb b ho'; have := hsize b ho; omega,hsize b ho⟩
 have hst : ∀ b,b < w.heap.size → w'.heap[b]? = w.heap[b]? := fun b hb => b1.stay b hb (fun ⟨_,_,q⟩ => by cases q)
 have him : ∀ b o,im' b = some o → im b = some o ∨ w.heap.size ≤ b := fun b o hb => by
  rcases b1.imNew b o hb with q | ⟨_,_,q⟩ | q
  ·exact .inl q
  ·cases q
  ·exact .inr q
 have hs2 := (hs.world b1.size hst).im_grow b1.im_le b2.imin him (fun b ho => hs.inb b ho)
 obtain ⟨hp,hat⟩ := xYo b2 hrel.2 hno
 rw [hd,hdt] at b3 ⊢
 refine hK im' _ w' x _ ⟨b1.im_le,.refl _,b1.os,b1.tape,b1.output,b1.size,fun b hb _ => hst b hb,fun _ h => .inl h,fun b o hb => (him b o hb).imp id .inr⟩ hs2 rfl ⟨hp,hrel.1,fun y hy => ?_⟩
 have e : xDY ((List.range B.length).map io') = io' := funext hat
 rw [e]
 have hlt : t < F1.length := by
  have := (List.getElem?_eq_some_iff.1 hy).1
  have hl := b3.1
  simp only [putA,List.length_set] at hl
  omega
 exact b3.2 t v y (by simp only [putA]; rw [List.getElem?_set_self hlt]) hy
theorem xHT {H B : Heap} {p : AV} {n : Nat} {cs : List AV} (h : rd H p n = some cs) : rd (H ++ B) p n = some cs := by
 unfold rd at h ⊢
 split at h
 ·rename_i id off
  split at h
  ·rename_i z1 z2 cs' hb
   have hlt := (List.getElem?_eq_some_iff.1 hb).1
   simp only [List.getElem?_append_left hlt,hb]
   exact h
  ·cases h
 ·exact h
 ·cases h
theorem xTC {H H' : Heap} {p q : AV} {n : Nat} {cs vs : List AV} (h : rd H p n = some cs) (hw : wr H q vs = some H') (hd : xAW p n q vs.length = true) : rd H' p n = some cs := by
 unfold xAW at hd
 split at hd
 ·rename_i i a j b
  unfold wr at hw
  simp only at hw
  split at hw
  case h_2 => cases hw
  rename_i z cs0 hj
  split at hw
  case isFalse => cases hw
  rename_i hin
  cases hw
  unfold rd at h ⊢
  simp only at h ⊢
  split at h
  case h_2 => cases h
  rename_i z1 z2 cs1 hi
  by_cases e : i = j
  ·subst e
   rw [hj] at hi; cases hi
   simp only [bne_self_eq_false,Bool.false_or,Bool.or_eq_true,decide_eq_true_eq] at hd
   have hlt := (List.getElem?_eq_some_iff.1 hj).1
   simp only [List.getElem?_set_self hlt]
   have hlen : (splice cs0 b vs).length = cs0.length := by simp [splice]; omega
   split at h
   case isFalse => cases h
   rename_i hle
   rw [if_pos (by omega)]
   rw [← h]
   congr 1
   apply List.ext_getElem?
   intro k
   simp only [List.getElem?_take,List.getElem?_drop]
   by_cases hk : k < n
   ·simp only [hk,if_true,splice]
    rcases hd with hd | hd
    ·rw [List.append_assoc,List.getElem?_append_left (by simp; omega),List.getElem?_take_of_lt (by omega)]
    ·rw [List.getElem?_append_right (by simp; omega),List.getElem?_drop]
     congr 1
     simp
     omega
   ·simp [hk]
  ·rw [List.getElem?_set_ne (fun q => e q.symm),hi]
   exact h
 ·unfold rd at h ⊢
  simp only at h ⊢
  exact h
 all_goals first | (simp [wr] at hw; done) | (cases hd; done)
theorem xL4 {op : AOp} {F : List AV} {H H' : Heap} {R : Rec} {v : AV} (h : xBG op = true) (he : xAg R F H op = some (v,H')) : H' = H := by
 cases op <;> simp only [xBG] at h <;> first | (cases h; done) | skip
 all_goals simp only [xAg] at he
 all_goals first
  | (cases he; rfl)
  | (simp only [Option.map_eq_some_iff] at he; obtain ⟨_,_,e⟩ := he; cases e; rfl)
  | (split at he <;> first | (cases he; done) | (cases he; rfl) | (simp only [Option.map_eq_some_iff] at he; obtain ⟨_,_,e⟩ := he; cases e; rfl) | (split at he <;> first | (cases he; done) | (cases he; rfl) | (simp only [Option.map_eq_some_iff] at he; obtain ⟨_,_,e⟩ := he; cases e; rfl)))
  | (split at he <;> first | (cases he; done) | (split at he <;> first | (cases he; done) | (split at he <;> first | (cases he; done) | (cases he; rfl))))
theorem xDO {op : AOp} {F : List AV} {H H' : Heap} {R : Rec} {v : AV} (h : xDr op = true) (he : xAg R F H op = some (v,H')) : H' = H := by
 unfold xDr at h
 rw [Bool.or_eq_true] at h
 rcases h with h | h
 ·exact xL4 h he
 ·split at h
  ·simp only [xAg] at he
   split at he
   ·simp only [Option.map_eq_some_iff,Prod.mk.injEq] at he
    obtain ⟨_,_,_,e⟩ := he
    exact e.symm
   ·cases he
  ·simp only [xAg] at he
   split at he
   ·split at he
    ·exact xEM he
    ·cases he
   ·cases he
  ·simp only [xAg] at he
   split at he
   ·simp only [Option.map_eq_some_iff,Prod.mk.injEq] at he
    obtain ⟨_,_,_,e⟩ := he
    exact e.symm
   ·cases he
  ·cases h
theorem xUs : ∀ (d : Nat) (a b : AV),yBN d a b = true → a = b
 | 0,a,b,h => by simp [yBN] at h
 | d + 1,a,b,h => by
  have hl : ∀ cs cs' : List AV,cs.length = cs'.length → (cs.zip cs').all (fun p => yBN d p.1 p.2) = true → cs = cs' := by
   intro cs
   induction cs with
   | nil => intro cs' h1 _; exact (List.length_eq_zero_iff.1 h1.symm).symm
   | cons c cs ih =>
    intro cs' h1 h2
    cases cs' with
    | nil => simp at h1
    | cons c' cs' =>
     simp only [List.zip_cons_cons,List.all_cons,Bool.and_eq_true] at h2
     rw [xUs d c c' h2.1,ih cs' (by simpa using h1) h2.2]
  simp only [yBN] at h
  split at h <;> simp only [Bool.and_eq_true,beq_iff_eq,decide_eq_true_eq,reduceCtorEq] at h
  ·obtain ⟨rfl,rfl⟩ := h; rfl
  ·subst h; rfl
  ·rfl
  ·rfl
  ·obtain ⟨rfl,rfl⟩ := h; rfl
  ·obtain ⟨⟨⟨⟨rfl,rfl⟩,rfl⟩,rfl⟩,rfl⟩ := h; rfl
  ·obtain ⟨⟨⟨rfl,rfl⟩,h1⟩,h2⟩ := h
   rw [hl _ _ h1 h2]
theorem xUt {H H' : Heap} {p : AV} {n : Nat} {cs : List AV} (h : xUX H H' p n = true) (hr : rd H p n = some cs) : rd H' p n = some cs := by
 unfold xUX at h
 rw [hr] at h
 simp only at h
 split at h
 ·cases h
 ·rename_i cs' hr'
  simp only [Bool.and_eq_true,beq_iff_eq] at h
  rw [hr']
  congr 1
  have hl : ∀ cs cs' : List AV,cs.length = cs'.length → (cs.zip cs').all (fun p => yBN 4 p.1 p.2) = true → cs = cs' := by
   intro cs
   induction cs with
   | nil => intro cs' h1 _; exact (List.length_eq_zero_iff.1 h1.symm).symm
   | cons c cs ih =>
    intro cs' h1 h2
    cases cs' with
    | nil => simp at h1
    | cons c' cs' =>
     simp only [List.zip_cons_cons,List.all_cons,Bool.and_eq_true] at h2
     rw [xUs 4 c c' h2.1,ih cs' (by simpa using h1) h2.2]
  exact (hl _ _ h.1 h.2).symm
theorem xTD {R : Rec} {F : List AV} {H H' : Heap} {n : Nat} {p x : Arg} {v : AV} (h : xAg R F H (.store n p x) = some (v,H')) : (opv F x).cells.length = n ∧ wr H (opv F p) (opv F x).cells = some H' := by
 simp only [xAg] at h
 by_cases hlen : (opv F x).cells.length = n
 ·rw [if_pos hlen] at h
  simp only [Option.map_eq_some_iff,Prod.mk.injEq] at h
  obtain ⟨H3,hw,_,rfl⟩ := h
  exact ⟨hlen,hw⟩
 ·rw [if_neg hlen] at h; cases h
theorem xQm {R : Rec} {F : List AV} {H H2 : Heap} {fz : Bool} {es b n : Nat} {x y : Arg} {v p : AV} {cs : List AV} (hex : xAg R F H (.append fz es b x y) = some (v,H2)) (h : rd H p n = some cs) (hd : xAW p n (opv F x) 0 = true) : rd H2 p n = some cs := by
 simp only [xAg] at hex
 split at hex
 ·cases hex
 rename_i m ys _
 split at hex
 ·split at hex
  case isFalse => cases hex
  unfold xEu at hex
  split at hex
  ·split at hex
   ·simp only [Option.map_eq_some_iff,Prod.mk.injEq] at hex
    obtain ⟨_,_,_,rfl⟩ := hex
    exact h
   ·cases hex
  ·cases hex
   exact xHT h
 ·rename_i z id off n' es' hx
  split at hex
  case h_2 => cases hex
  split at hex
  case isFalse => cases hex
  cases hex
  refine xHT ?_
  rw [hx] at hd
  unfold rd at h ⊢
  unfold xAW at hd
  split at h
  ·rename_i i a
   simp only [bne_iff_ne,ne_eq] at hd
   simp only [List.getElem?_set_ne (fun q => hd q.symm)]
   exact h
  ·exact h
  ·cases h
 ·cases hex
theorem xC2 {R : Rec} {t : Nat} : ∀ {ops : List AOper} {s s' : St},xA9 R ops s = some s' → (∀ o ∈ ops,o.dst ≠ some t) → s'.F.getD t .any = s.F.getD t .any
 | [],s,s',h,_ => by simp only [xA9] at h; cases h; rfl
 | o :: rest,s,s',h,hn => by
  simp only [xA9] at h
  split at h
  ·cases h
  rename_i s1 h1
  rw [xC2 h (fun o' ho' => hn o' (List.mem_cons_of_mem _ ho'))]
  have hd := hn o (List.mem_cons_self ..)
  unfold xBt at h1
  split at h1
  ·cases h1
  ·cases h1; simp only; rw [xBv,if_neg (fun q => hd q.1)]
  ·simp only [Option.map_eq_some_iff] at h1
   obtain ⟨⟨v,H⟩,_,rfl⟩ := h1
   simp only; rw [xBv,if_neg (fun q => hd q.1)]
def InvA (als : List (Nat × Nat)) (chk : Code → ACode → Bool) (w0 : World) (m : Nat) (N : Nat) (aops : List AOper) (pl : List Pr) (s s1 : St) (D : Nat → Bool) (im : Im) (io : Io) (a : Act) (w : World) : Prop :=
 (∀ j,m ≤ j → j < N → D j = false) ∧ Sim chk im io s.H w ∧ FRep im io (mix (aops.take m) D s.F s1.F) a ∧
 (∃ ioss : Nat → List (Option (Nat × Nat)),(∀ i t v B,pl[i]? = some (some (t,v,B)) → D i = true → PrivAt w0.heap.size im io w a t v B (ioss i)) ∧
  (∀ i j x y k k' b z z',i ≠ j → pl[i]? = some (some x) → pl[j]? = some (some y) → D i = true → D j = true → xDY (ioss i) k = some (b,z) → xDY (ioss j) k' = some (b,z') → False)) ∧
 (∀ d q i e,e < i → xEE aops e q = true → i < m → aops[i]? = some ⟨some d,.mov (.t q),none⟩ → D i = true → ∀ y,a.tmps.toList[d]? = some y → y = a.tmps.getD q undef) ∧
 ∀ d q i j p,i < m → aops[i]? = some ⟨some d,.ext j (.t p),none⟩ → xTA aops i d q = true → D i = true → ∀ y,a.tmps.toList[d]? = some y → yDd (j + 1) y (a.tmps.getD p undef)
def yER (hs : List (Nat × Nat × Nat)) (als : List (Nat × Nat)) (chk : Code → ACode → Bool) (R : Rec) (m : Nat) (N : Nat) (rs : List (List Nat)) (aops : List AOper) (pl : List Pr) (s s1 s' : St) (D : Nat → Bool) (im : Im) (io : Io) (a : Act) (w : World) (k : Nat) (sk : St) : Prop :=
 m ≤ k ∧ k ≤ N ∧ (∀ j,j < N → D j = true → j < k) ∧ (∀ j,j < k → D j = false → (j < m ∧ xDM als m aops j = true) ∨ (m ≤ j ∧ xB4 rs aops j = true)) ∧ (xA9 R (aops.drop k) sk = some s' ∧ xFq R hs k (aops.drop k) sk = true) ∧
  Sim chk im io sk.H w ∧ FRep im io (xGV k aops D s.F sk.F) a ∧ sk.F.length = s.F.length ∧
  (∀ t,(∀ j,m ≤ j → j < k → xBb aops j ≠ some t) → sk.F.getD t .any = (xCs als (adoptL pl s1).F).getD t .any) ∧
  (∀ d,d < m → D d = false → ∀ p n,xCf aops d = some (p,n) → ∀ cs,rd s.H (s1.F.getD p .any) n = some cs → rd sk.H (s1.F.getD p .any) n = some cs) ∧
  ∀ d ao,m ≤ d → d < k → D d = false → aops[d]? = some ao → ∃ v,FreeAt R sk.H sk.F ao v ∧ ∀ t,ao.dst = some t → t < s.F.length → sk.F.getD t .any = v
def xUu (hs : List (Nat × Nat × Nat)) (als : List (Nat × Nat)) (chk : Code → ACode → Bool) (R : Rec) (m : Nat) (N : Nat) (rs : List (List Nat)) (aops : List AOper) (pl : List Pr) (s s1 s' : St) (D : Nat → Bool) (im : Im) (io : Io) (a : Act) (w : World) : Prop :=
 ∃ k sk,yER hs als chk R m N rs aops pl s s1 s' D im io a w k sk
theorem xHU {op : AOp} (h : xBG op = true) (F : List AV) (H : Heap) : xA7 R F H op = (xAg R F H op).map (·.1) := by
 cases op <;> simp only [xBG] at h <;> first | (cases h; done) | rfl
theorem FreeAt.other {F F' : List AV} {ao : AOper} (hs : xBG ao.op = true ∨ H' = H) (hr : ∀ t ∈ ao.reads,F.getD t .any = F'.getD t .any) (h : FreeAt R H F ao v) : FreeAt R H' F' ao v := by
 have hw : xCt F' ao.guard = xCt F ao.guard := by
  cases hg : ao.guard with
  | none => rfl
  | some g =>
   obtain ⟨t,b⟩ := g
   simp only [xCt]
   rw [hr t (by simp [AOper.reads,hg])]
 unfold FreeAt at h ⊢
 rw [hw]
 rcases h with ⟨h1,h⟩ | h
 ·refine .inl ⟨h1,?_⟩
  have e : xA7 R F' H' ao.op = xA7 R F' H ao.op := by
   rcases hs with hs | rfl
   ·exact xFX hs F' H' H
   ·rfl
  rw [e,← h]
  refine xGJ fun x hx => xEK fun t ht => (hr t ?_).symm
  simp only [AOper.reads,List.mem_append,List.mem_filterMap]
  exact .inl ⟨x,hx,ht⟩
 ·exact .inr h
theorem xQn {op : AOp} (h : xGD op = true) : xDr op = true := by
 cases op <;> first | rfl | (simp [xGD] at h; done)
theorem xTE {op : AOp} (h : xBG op = true ∨ xGD op = true) : xDr op = true := by
 rcases h with h | h
 ·unfold xDr; rw [h]; rfl
 ·exact xQn h
theorem xUv {op : AOp} (h : xBG op = true ∨ xGD op = true) (F : List AV) (H : Heap) : xA7 R F H op = (xAg R F H op).map (·.1) := by
 rcases h with h | h
 ·exact xHU h F H
 ·cases op <;> first | rfl | (simp [xGD] at h; done)
theorem xUw {op : AOp} (h : xBG op = true ∨ xGD op = true) : xBe op = false := by
 rcases h with h | h
 ·exact xFr h
 ·cases op <;> first | rfl | (simp [xGD] at h; done)
theorem xEF {hs : List (Nat × Nat × Nat)} {als : List (Nat × Nat)} (hR : RecOk chk P R) {ops : Array Oper} {aops : List AOper} {r : Option Nat} {n m : Nat} {ls : List (Nat × Nat × Nat × Nat)} {Q : Exit → Act → World → Prop} {s s1 s' : St} {im0 : Im} {io0 : Io} {w0 : World} {ds : List Deferred}
  (hc : xCQ P ops aops = true) (hok : xCL hs als ls m ops aops = true) {pl : List Pr} (hls : ls.all (apart s'.F) = true) (hfree : xBa R (aops.take m) s = some (s1,pl)) (htail : xA9 R (aops.drop m) (xBJ als pl s1) = some s') (hheld : xFq R hs m (aops.drop m) (xBJ als pl s1) = true)
  (hQ : ∀ im' io' a' w',Step im0 io0 w0 im' io' w' → Sim chk im' io' s'.H w' → FRep im' io' s'.F a' → a'.defers = ds → Q .normal a' w') :
  (∀ (modeA : Prop) (K : Act → World → Prop) (i : Nat) (listed : Array Bool) (a : Act) (w : World),listed.size = ops.size → xCu ops listed → i ∈ Region.ready .any ops listed →
   (∀ a' w',(∃ im io,Step im0 io0 w0 im io w' ∧ a'.defers = ds ∧ InvA als chk w0 m ops.size aops pl s s1 (fun k => (listed.setIfInBounds i true).getD k false) im io a' w') → K a' w') →
   ((m ≤ i ∨ ¬ modeA) → ∀ a' w',(∃ im io,Step im0 io0 w0 im io w' ∧ a'.defers = ds ∧ xUu hs als chk R m ops.size (xBj ops ops.size) aops pl s s1 s' (fun k => (listed.setIfInBounds i true).getD k false) im io a' w') → K a' w') →
   (∃ im io,Step im0 io0 w0 im io w ∧ a.defers = ds ∧ (InvA als chk w0 m ops.size aops pl s s1 (fun k => listed.getD k false) im io a w ∨ (¬ modeA ∧ xUu hs als chk R m ops.size (xBj ops ops.size) aops pl s s1 s' (fun k => listed.getD k false) im io a w))) →
   wpOpIn (Fw r) n P ops Q i K a w) ∧
  (∀ (fuel : Nat) (listed : Array Bool) (a : Act) (w : World),listed.size = ops.size → fuel + listed.toList.count true = ops.size → xCu ops listed →
   (∃ im io,Step im0 io0 w0 im io w ∧ a.defers = ds ∧ (InvA als chk w0 m ops.size aops pl s s1 (fun k => listed.getD k false) im io a w ∨ xUu hs als chk R m ops.size (xBj ops ops.size) aops pl s s1 s' (fun k => listed.getD k false) im io a w)) →
   wpAnyIn (Fw r) n P .any ops Q fuel listed a w) := by
 obtain ⟨hlen,xVD⟩ := xFe hc
 simp only [xCL,Bool.and_eq_true,decide_eq_true_eq,List.all_eq_true,List.mem_range] at hok
 obtain ⟨⟨⟨⟨⟨⟨⟨hals,hm⟩,hlt⟩,hdist⟩,hreads⟩,halloc⟩,hsink⟩,htw⟩ := hok
 have alsAt : ∀ d q,(d,q) ∈ als → ∃ i,i < m ∧ xTA aops i d q = true ∧ ∃ e ao,e < i ∧ aops[e]? = some ao ∧ xBe ao.op = true ∧ ao.dst = some (q % 4096) := by
  intro d q hdq
  have := List.all_eq_true.1 hals _ hdq
  simp only [List.any_eq_true,List.mem_range] at this
  obtain ⟨i,him,h1⟩ := this
  refine ⟨i,him,h1,?_⟩
  rcases xCK h1 with ⟨_,hq,e,he,hl⟩ | ⟨j,p,i',_,_,hi',_,e,he,hl⟩
  ·obtain ⟨ao,a1,a2,a3⟩ := xEd hl
   exact ⟨e,ao,he,a1,a2,by rw [Nat.mod_eq_of_lt hq]; exact a3⟩
  ·obtain ⟨ao,a1,a2,a3⟩ := xEd hl
   exact ⟨e,ao,by omega,a1,a2,a3⟩
 have alDst : ∀ {i d q},xTA aops i d q = true → xBb aops i = some d := by
  intro i d q h
  rcases xCK h with ⟨h,_⟩ | ⟨j,p,i',h,_⟩ <;> simp [xBb,h]
 have hone : ∀ i j t,i < m → j < m → xBb aops i = some t → xBb aops j = some t → i = j := by
  intro i j t hi hj h1 h2
  rcases Nat.lt_trichotomy i j with q | q | q
  ·have := hdist j hj i q
   rw [h1,h2] at this
   simp at this
  ·exact q
  ·have := hdist i hi j q
   rw [h1,h2] at this
   simp at this
 have hdsts : ∀ i j t,i < j → xBb (aops.take m) i = some t → xBb (aops.take m) j = some t → False := by
  intro i j t hij hi hj
  have hjm : j < m := by
   rcases Nat.lt_or_ge j m with q | q
   ·exact q
   ·simp [xBb,List.getElem?_take_eq_none q] at hj
  have hi' : xBb aops i = some t := by simpa [xBb,List.getElem?_take_of_lt (by omega : i < m)] using hi
  have hj' : xBb aops j = some t := by simpa [xBb,List.getElem?_take_of_lt hjm] using hj
  have := hone i j t (by omega) hjm hi' hj'
  omega
 obtain ⟨f1,f2,f0,f3,f45⟩ := xGU (aops.take m) s.F s.H s1 pl hfree hdsts
 have f4 : ∀ i ao,(aops.take m)[i]? = some ao → xBe ao.op = false → ∃ Fi v,FreeAt R s.H Fi ao v ∧ Fi.length = s.F.length ∧ (∀ t,Fi.getD t .any = if xBY ((aops.take m).take i) t then s1.F.getD t .any else s.F.getD t .any) ∧ (∀ t,ao.dst = some t → t < s.F.length → s1.F.getD t .any = v) := by
  intro i ao hi hp
  obtain ⟨Fi,g1,g2,g⟩ := f45 i ao hi
  rcases g with ⟨_,_,v,g3,g4⟩ | ⟨g3,_⟩
  ·exact ⟨Fi,v,g3,g1,g2,g4⟩
  ·rw [hp] at g3; cases g3
 have edge_lt : ∀ (i : Nat) (o : Oper) (e : Edge),ops[i]? = some o → e ∈ o.after → Region.binds .any e = true → e.on < i := by
  intro i o e ho he hb
  have := hlt i (Array.getElem?_eq_some_iff.1 ho).1
  simp only [ho] at this
  have := Array.all_eq_true_iff_forall_mem.1 this e he
  simpa [hb] using this
 have edge_lt2 : ∀ i d,xCJ ops i d = true → d < i := by
  intro i d he
  simp only [xCJ] at he
  split at he
  ·rename_i o ho
   simp only [Array.any_eq_true,Bool.and_eq_true,beq_iff_eq] at he
   obtain ⟨q,hq,hb,hon⟩ := he
   have := edge_lt i o _ ho (Array.getElem_mem hq) hb
   rwa [hon] at this
  ·cases he
 have all_of_ready : ∀ listed : Array Bool,listed.size = ops.size → Region.ready .any ops listed = [] → ∀ j,j < ops.size → listed.getD j false = true := by
  intro listed hsz hr j
  induction j using Nat.strongRecOn with
  | _ j ih =>
   intro hj
   cases hcase : listed.getD j false with
   | true => rfl
   | false =>
    exfalso
    have : j ∈ Region.ready .any ops listed := mem_ready.2 ⟨by rw [xB0 (by omega)]; exact hcase,ops[j],Array.getElem?_eq_getElem hj,fun e he hb => by
     have h1 := edge_lt j _ e (Array.getElem?_eq_getElem hj) he hb
     exact ih e.on h1 (by omega)⟩
    rw [hr] at this
    cases this
 have late_op : ∀ d,xDM als m aops d = true → ∃ ao,aops[d]? = some ao ∧ (xBG ao.op = true ∨ ∃ g n p,ao.op = .load g n (.t p) ∧ ao.guard = none ∧ xCf aops d = some (p,n) ∧ ∀ j,j < aops.length → d ≤ j → xBb aops j ≠ some p) ∧ ∀ t ∈ ao.reads,∀ e,e < m → xCk als aops e = true → xBb aops e ≠ some t := by
  intro d hd
  simp only [xDM,Bool.or_eq_true] at hd
  rcases hd with hd | hd
  ·unfold xUp at hd
   split at hd
   ·rename_i ao hao
    simp only [Bool.and_eq_true,List.all_eq_true,List.mem_range] at hd
    refine ⟨ao,hao,.inl hd.1.1,fun t ht e he ha hde => ?_⟩
    have := hd.2 t ht e he
    rw [ha,hde] at this
    simp at this
   ·cases hd
  ·split at hd
   case h_2 => cases hd
   rename_i p nn hll
   have hll0 := hll
   unfold xCf at hll
   split at hll
   case h_2 => cases hll
   rename_i dst0 g0 n0 p0 hao
   cases hll
   simp only [Bool.and_eq_true,List.all_eq_true,List.mem_range,Bool.or_eq_true,decide_eq_true_eq,bne_iff_ne,ne_eq,Bool.not_eq_true'] at hd
   refine ⟨_,hao,.inr ⟨g0,nn,p,rfl,rfl,hll0,fun j hj hdj => ?_⟩,fun t ht e he ha hde => ?_⟩
   ·rcases hd.2 j hj with q | q
    ·omega
    ·exact q
   ·have : t = p := by simpa [AOper.reads,AOp.args,Arg.slot] using ht
    subst this
    have := hd.1 e he
    rw [ha,hde] at this
    simp at this
 have late_notalloc : ∀ d,xDM als m aops d = true → xCk als aops d = false := by
  intro d hd
  obtain ⟨ao,hao,hs,hre⟩ := late_op d hd
  have h1 : xBe ao.op = false := by
   rcases hs with hs | ⟨g,n,p,hs,_⟩
   ·exact xFr hs
   ·rw [hs]; rfl
  have h2 : xGC als aops d = false := by
   simp only [xDM,Bool.or_eq_true] at hd
   rcases hd with hd | hd
   ·unfold xUp at hd
    rw [hao] at hd
    simp only [Bool.and_eq_true,Bool.not_eq_true'] at hd
    exact hd.1.2
   ·rw [Bool.eq_false_iff]
    intro h
    simp only [xGC,List.any_eq_true] at h
    obtain ⟨⟨dd,q⟩,hm,hop⟩ := h
    unfold xCf at hd
    rcases xCK hop with ⟨e1,_⟩ | ⟨j,p,i',e1,_⟩
    ·rw [e1] at hd; cases hd
    ·rw [e1] at hd; cases hd
  simp [xCk,hao,h1,h2]
 have sinks' : ∀ k d,m ≤ k → k < ops.size → d < k → Bef ops k d ∨ (((d < m ∧ xDM als m aops d = true ∧ xUq hs ls aops k d = true) ∨ (m ≤ d ∧ xB4 (xBj ops ops.size) aops d = true ∧ xL2 aops k d = true)) ∧ ∀ t,xBb aops d = some t → t ∉ xDs aops k ∧ xBb aops k ≠ some t) := by
  intro k d hk hkN hd
  have h5 := hsink (k - m) (by omega) d (by omega)
  rw [show m + (k - m) = k by omega] at h5
  simp only [Bool.or_eq_true,Bool.and_eq_true,decide_eq_true_eq] at h5
  rcases h5 with h5 | ⟨h6,h7⟩
  ·exact .inl (xCb ops _ _ _ h5)
  ·refine .inr ⟨?_,fun t ht => ?_⟩
   ·rcases h6 with ⟨⟨q1,q2⟩,q3⟩ | ⟨⟨q1,q2⟩,q3⟩
    ·exact .inl ⟨q1,q2,q3⟩
    ·exact .inr ⟨q1,q2,q3⟩
   ·rw [ht] at h7
    simp only [Bool.and_eq_true,Bool.not_eq_true',bne_iff_ne,ne_eq] at h7
    exact ⟨by simpa using h7.1,h7.2⟩
 have sinks : ∀ k d,m ≤ k → k < ops.size → d < k → Bef ops k d ∨ (((d < m ∧ xDM als m aops d = true) ∨ (m ≤ d ∧ xB4 (xBj ops ops.size) aops d = true)) ∧ ∀ t,xBb aops d = some t → t ∉ xDs aops k ∧ xBb aops k ≠ some t) := by
  intro k d hk hkN hd
  rcases sinks' k d hk hkN hd with q | ⟨q1,q3⟩
  ·exact .inl q
  ·exact .inr ⟨q1.imp (fun q => ⟨q.1,q.2.1⟩) (fun q => ⟨q.1,q.2.1⟩),q3⟩
 have tail_op : ∀ d,xB4 (xBj ops ops.size) aops d = true → ∃ ao,aops[d]? = some ao ∧ (xBG ao.op = true ∨ xGD ao.op = true) ∧ True ∧ (∀ j t,j < aops.length → ao.dst = some t → xBb aops j = some t → j = d) ∧ ∀ t ∈ ao.reads,∀ j,j < aops.length → xBb aops j = some t → Bef ops d j := by
  intro d hd
  unfold xB4 at hd
  split at hd
  case h_2 => cases hd
  rename_i ao hao
  simp only [Bool.and_eq_true,List.all_eq_true,List.mem_range,Bool.or_eq_true,beq_iff_eq,bne_iff_ne,ne_eq] at hd
  obtain ⟨⟨h1,h3⟩,h4⟩ := hd
  refine ⟨ao,hao,h1,trivial,fun j t hj ht hdj => ?_,fun t ht j hj hdj => ?_⟩
  ·rcases h3 j hj with (q | q) | q
   ·exact q
   ·rw [ht] at q; cases q
   ·exact (q (by rw [ht]; exact hdj)).elim
  ·rcases h4 t ht j hj with q | q
   ·exact (q hdj).elim
   ·exact xCb ops _ _ _ q
 have hN : aops.length = ops.size := by omega
 have hone2 : ∀ i j t,i < ops.size → j < ops.size → (i < m ∨ xB4 (xBj ops ops.size) aops i = true) → (j < m ∨ xB4 (xBj ops ops.size) aops j = true) → xBb aops i = some t → xBb aops j = some t → i = j := by
  intro i j t hiN hjN hi hj h1 h2
  rcases hi with hi | hi
  ·rcases hj with hj | hj
   ·exact hone i j t hi hj h1 h2
   ·obtain ⟨ao,hao,_,_,q,_⟩ := tail_op j hj
    exact q i t (by omega) (by simpa [xBb,hao] using h2) h1
  ·obtain ⟨ao,hao,_,_,q,_⟩ := tail_op i hi
   exact (q j t (by omega) (by simpa [xBb,hao] using h1) h2).symm
 have tails : ∀ k d t,m ≤ k → k < ops.size → d < m → xBb aops k = some t → t ∈ xDs aops d → Bef ops k d := by
  intro k d t hk hkN hd hdst ht
  have h5 := htw (k - m) (by omega) d hd
  rw [show m + (k - m) = k by omega,hdst] at h5
  simp only [Bool.or_eq_true,Bool.not_eq_true'] at h5
  rcases h5 with h5 | h5
  ·rw [← List.contains_iff_mem] at ht
   rw [ht] at h5; cases h5
  ·exact xCb ops _ _ _ h5
 have writers : ∀ i d t,i < m → d < m → t ∈ xDs aops i → xBb aops d = some t → Bef ops i d ∨ d = i ∨ Bef ops d i := by
  intro i d t hi hd ht hdst
  have h5 := hreads i hi t ht d hd
  rw [hdst] at h5
  simp only [bne_self_eq_false,Bool.false_or,Bool.or_eq_true,beq_iff_eq] at h5
  rcases h5 with (h5 | h5) | h5
  ·exact .inl (xCb ops _ _ _ h5)
  ·exact .inr (.inl h5)
  ·exact .inr (.inr (xCb ops _ _ _ h5))
 have takeGet : ∀ (i : Nat) (ao : AOper),(aops.take m)[i]? = some ao → i < m ∧ aops[i]? = some ao := by
  intro i ao h
  by_cases q : i < m
  ·rw [List.getElem?_take_of_lt q] at h; exact ⟨q,h⟩
  ·rw [List.getElem?_take_eq_none (by omega)] at h; cases h
 have hwr : ∀ (D : Nat → Bool) (t : Nat),hit (aops.take m) D t = true ↔ ∃ d,d < m ∧ D d = true ∧ xBb aops d = some t := by
  intro D t
  simp only [hit,List.any_eq_true,List.mem_range,beq_iff_eq,Bool.and_eq_true]
  constructor
  ·rintro ⟨d,hd,h1,h2⟩
   have hdm : d < m := by simp at hd; omega
   exact ⟨d,hdm,h1,by simpa [xBb,List.getElem?_take_of_lt hdm] using h2⟩
  ·rintro ⟨d,hd,h1,h2⟩
   exact ⟨d,by simp; omega,h1,by simpa [xBb,List.getElem?_take_of_lt hd] using h2⟩
 have hwrites : ∀ t,xBY (aops.take m) t = true ↔ ∃ d,d < m ∧ xBb aops d = some t := by
  intro t
  simp only [xBY,List.any_eq_true,beq_iff_eq]
  constructor
  ·rintro ⟨o',ho',hd⟩
   obtain ⟨j,hj⟩ := List.getElem?_of_mem ho'
   obtain ⟨q1,q2⟩ := takeGet j o' hj
   exact ⟨j,q1,by simp [xBb,q2,hd]⟩
  ·rintro ⟨d,hd,h1⟩
   simp only [xBb,Option.bind_eq_some_iff] at h1
   obtain ⟨o',h2,h3⟩ := h1
   exact ⟨o',List.mem_of_getElem? (i := d) (by rw [List.getElem?_take_of_lt hd]; exact h2),h3⟩
 have plAt : ∀ j t v B,pl[j]? = some (some (t,v,B)) → j < m ∧ xCk als aops j = true ∧ xBb aops j = some t ∧ ∃ ao,aops[j]? = some ao ∧ xBe ao.op = true := by
  intro j t v B hj
  have hlt : j < (aops.take m).length := by rw [← f0]; exact (List.getElem?_eq_some_iff.1 hj).1
  obtain ⟨q1,q2⟩ := takeGet j _ (List.getElem?_eq_getElem hlt)
  obtain ⟨Fi,_,_,g⟩ := f45 j _ (List.getElem?_eq_getElem hlt)
  rcases g with ⟨_,g,_⟩ | ⟨g1,t',v',B',g2,_,g3,_⟩
  ·rw [hj] at g; cases g
  ·rw [hj] at g3; cases g3
   refine ⟨q1,?_,?_,_,q2,g1⟩
   ·simp only [xCk,q2,Bool.or_eq_true]; exact .inl g1
   ·unfold xBb; rw [q2]; exact g2
 have plMem : ∀ t v B,some (t,v,B) ∈ pl → ∃ d,d < m ∧ xCk als aops d = true ∧ xBb aops d = some t := by
  intro t v B hm
  obtain ⟨j,hj⟩ := List.getElem?_of_mem hm
  obtain ⟨q1,q2,q3,_⟩ := plAt j t v B hj
  exact ⟨j,q1,q2,q3⟩
 have lenF2 : (adoptL pl s1).F.length = s.F.length := by rw [xCU,f2]
 have lenF3 : (xCs als (adoptL pl s1).F).length = s.F.length := by rw [xDf,lenF2]
 have alsDst : ∀ d q,(d,q) ∈ als → ∃ i,i < m ∧ xCk als aops i = true ∧ xBb aops i = some d := by
  intro d q h
  obtain ⟨i,him,hal,_⟩ := alsAt d q h
  exact ⟨i,him,by simp only [xCk,Bool.or_eq_true,xGC,List.any_eq_true]; exact .inr ⟨_,h,hal⟩,alDst hal⟩
 have alsUni : ∀ d q1 q2,(d,q1) ∈ als → (d,q2) ∈ als → q1 = q2 := by
  intro d q1 q2 h1 h2
  obtain ⟨i,him,hi,_⟩ := alsAt d q1 h1
  obtain ⟨j,hjm,hj,_⟩ := alsAt d q2 h2
  have := hone i j d him hjm (alDst hi) (alDst hj)
  subst this
  rcases xCK hi with ⟨e1,_⟩ | ⟨j1,p1,i1,e1,e2,e4,e5,_⟩ <;> rcases xCK hj with ⟨f1,_⟩ | ⟨j2,p2,i2,f1,f2,f4,f5,_⟩
  ·rw [e1] at f1; cases f1; rfl
  ·rw [e1] at f1; cases f1
  ·rw [e1] at f1; cases f1
  ·rw [e1] at f1; cases f1
   have := hone i1 i2 p1 (by omega) (by omega) (by simp [xBb,e5]) (by simp [xBb,f5])
   subst this
   rw [e5] at f5
   simp only [Option.some.injEq,AOper.mk.injEq,AOp.mov.injEq,Arg.t.injEq,true_and,and_true] at f5
   omega
 have alsSrc : ∀ d q1 q2,(d,q1) ∈ als → (q1 % 4096,q2) ∉ als := by
  intro d q1 q2 h1 h2
  obtain ⟨i,him,hi,e,ao,hei,hao,hp,hd⟩ := alsAt d q1 h1
  obtain ⟨j,hjm,hj,_⟩ := alsAt _ q2 h2
  have := hone e j (q1 % 4096) (by omega) hjm (by simp [xBb,hao,hd]) (alDst hj)
  subst this
  rcases xCK hj with ⟨e1,_⟩ | ⟨j1,p1,i1,e1,_⟩
  ·rw [hao] at e1; cases e1
   cases hp
  ·rw [hao] at e1; cases e1
   cases hp
 have sameS1 : ∀ t,(∀ e,e < m → xCk als aops e = true → xBb aops e ≠ some t) → (xCs als (adoptL pl s1).F).getD t .any = s1.F.getD t .any := by
  intro t ht
  rw [xDU _ _ _ (fun q hq => by obtain ⟨i,h1,h2,h3⟩ := alsDst t q hq; exact ht i h1 h2 h3),xEe]
  intro v' B' ho
  obtain ⟨e,he,hae,hde⟩ := plMem _ _ _ ho
  exact ht e he hae hde
 have toB : ∀ (D : Nat → Bool) im io a w,(∀ j,j < m → D j = false → xDM als m aops j = true) → Step im0 io0 w0 im io w → InvA als chk w0 m ops.size aops pl s s1 D im io a w →
   ∃ io',Step im0 io0 w0 im io' w ∧ xUu hs als chk R m ops.size (xBj ops ops.size) aops pl s s1 s' D im io' a w := by
  rintro D im io a w hD t1 ⟨h1,h2,h3,⟨ioss,h4,h5⟩,hal,hal2⟩
  have allL : ∀ i x,pl[i]? = some (some x) → D i = true := by
   rintro i ⟨t,v,B⟩ hi
   have hlt : i < (aops.take m).length := by rw [← f0]; exact (List.getElem?_eq_some_iff.1 hi).1
   obtain ⟨q1,q2⟩ := takeGet i _ (List.getElem?_eq_getElem hlt)
   cases hq : D i with
   | true => rfl
   | false =>
    have h6 := late_notalloc i (hD i q1 hq)
    obtain ⟨Fi,_,_,g⟩ := f45 i _ (List.getElem?_eq_getElem hlt)
    rcases g with ⟨_,g,_⟩ | ⟨g1,_⟩
    ·rw [hi] at g; cases g
    ·simp only [xCk,q2,Bool.or_eq_false_iff] at h6; rw [g1] at h6; cases h6.1
  obtain ⟨io',g1,g2,g3,g4⟩ := xHS (B0 := w0.heap.size) pl ⟨mix (aops.take m) D s.F s1.F,s.H⟩ io ioss h2 h3
   (fun i t v B hi => h4 i t v B hi (allL i _ hi))
   (fun i j x y k k' b z z' hij hi hj hk hk' => h5 i j x y k k' b z z' hij hi hj (allL i _ hi) (allL j _ hj) hk hk')
  refine ⟨io',⟨t1.im_le,t1.io_le.trans g3,t1.os,t1.tape,t1.output,t1.size,t1.stay,fun b hb => ?_,t1.imNew⟩,m,xBJ als pl s1,Nat.le_refl _,hm,fun j hj hDj => ?_,fun j hj hDj => .inl ⟨hj,hD j hj hDj⟩,⟨htail,hheld⟩,?_,?_,lenF3,fun _ _ => rfl,fun d _ _ p nn _ cs hrd => ?_,fun d ao h1' h2' => by omega⟩
  ·rcases g4 b hb with q | q
   ·exact t1.ownNew b q
   ·exact .inr q
  ·rcases Nat.lt_or_ge j m with q | q
   ·exact q
   ·rw [h1 j q hj] at hDj; cases hDj
  ·have : (adoptL pl s1).H = (adoptL pl ⟨mix (aops.take m) D s.F s1.F,s.H⟩).H := by
    obtain ⟨F1,H1⟩ := s1
    simp only at f1
    subst f1
    exact xL3 _ _ _ _
   show Sim chk im io' (adoptL pl s1).H w
   rw [this]; exact g1
  ·have orig : xGV m aops D s.F (adoptL pl s1).F = (adoptL pl ⟨mix (aops.take m) D s.F s1.F,s.H⟩).F := by
    refine xCy (by rw [xBx,xCU,xBL]) (fun t => ?_)
    rw [xBX _ _ _ _ _ _ lenF2]
    by_cases hy : yet m aops D t = true
    ·rw [if_pos hy]
     obtain ⟨d,hd,hDd,hdt⟩ := yet_iff.1 hy
     rw [xEe]
     ·simp only
      rw [xC7 _ _ _ _ _ f2,if_neg]
      intro hh
      obtain ⟨d',hd',hDd',hdt'⟩ := (hwr D t).1 hh
      have := hone d d' t hd hd' hdt hdt'
      subst this
      rw [hDd] at hDd'; cases hDd'
     ·intro v' B' ho
      obtain ⟨e,he,hae,hde⟩ := plMem _ _ _ ho
      have := hone d e t hd he hdt hde
      subst this
      have := late_notalloc d (hD d hd hDd)
      rw [this] at hae; cases hae
    ·rw [if_neg hy]
     obtain ⟨F1,H1⟩ := s1
     simp only at f1 f2 f3
     subst f1
     refine xGF t _ _ _ _ (by rw [xBL,f2]) ?_
     by_cases hw : xBY (aops.take m) t = true
     ·obtain ⟨d,hd,hdt⟩ := (hwrites t).1 hw
      cases hDd : D d with
      | false => exact (hy (yet_iff.2 ⟨d,hd,hDd,hdt⟩)).elim
      | true =>
       left
       rw [xC7 _ _ _ _ _ f2,if_pos ((hwr D t).2 ⟨d,hd,hDd,hdt⟩)]
     ·left
      have hw' : xBY (aops.take m) t = false := by simpa using hw
      rw [xC7 _ _ _ _ _ f2,if_neg]
      ·exact f3 t hw'
      ·intro hh
       obtain ⟨d',hd',_,hdt'⟩ := (hwr D t).1 hh
       exact hw ((hwrites t).2 ⟨d',hd',hdt'⟩)
   have alD : ∀ d q,(d,q) ∈ als → ∃ i,i < m ∧ xTA aops i d q = true ∧ D i = true := by
    intro d q hdq
    obtain ⟨i,him,hi,_⟩ := alsAt d q hdq
    refine ⟨i,him,hi,?_⟩
    cases hq : D i with
    | true => rfl
    | false =>
     have := late_notalloc i (hD i him hq)
     simp only [xCk,Bool.or_eq_false_iff,xGC,List.any_eq_false] at this
     exact (this.2 _ hdq hi).elim
   have g2' := xMN als _ g2 (fun d q hdq y hy => by
    obtain ⟨i,him,hi,hDi⟩ := alD d q hdq
    rcases xCK hi with ⟨e1,e2,e,he,hl⟩ | ⟨j,p,i',e1,e2,e4,e5,e,he,hl⟩
    ·rw [Nat.div_eq_of_lt e2,Nat.mod_eq_of_lt e2]
     exact hal d q i e he hl him e1 hDi y hy
    ·rw [e2]
     have k1 := hal2 d q i j p him e1 hi hDi y hy
     have hDi2 : D i' = true := by
      cases hq : D i' with
      | true => rfl
      | false =>
       have hli := hD i' (by omega) hq
       obtain ⟨ao,hao,hs,hre⟩ := late_op i' hli
       obtain ⟨ao',a1,a2,a3⟩ := xEd hl
       rw [e5] at hao; cases hao
       exact (hre (q % 4096) (by simp [AOper.reads,AOp.args,Arg.slot]) e (by omega) (by simp [xCk,a1,a2]) (by simp [xBb,a1,a3])).elim
     obtain ⟨l,k2,k3⟩ := k1
     refine ⟨l,?_,k3⟩
     rw [← k2]
     cases hp : a.tmps.toList[p]? with
     | none =>
      have hz : a.tmps.getD p undef = undef := by
       rw [Array.getElem?_toList] at hp
       rw [Array.getD_eq_getD_getElem?,hp]
       rfl
      rw [hz] at k2
      have : l = #[] := by injection k2 with e; exact e.symm
      subst this
      simp at k3
     | some z =>
      have := hal p (q % 4096) i' e he hl (by omega) e5 hDi2 z hp
      rw [← this]
      rw [Array.getElem?_toList] at hp
      rw [Array.getD_eq_getD_getElem?,hp]
      rfl)
   have : xGV m aops D s.F (xCs als (adoptL pl s1).F) = xCs als (adoptL pl ⟨mix (aops.take m) D s.F s1.F,s.H⟩).F := by
    refine xCy (by rw [xBx,xDf,xCU,xBL]) (fun t => ?_)
    rw [xBX _ _ _ _ _ _ lenF3]
    by_cases hta : ∃ q,(t,q) ∈ als
    ·obtain ⟨q,hq⟩ := hta
     obtain ⟨i,him,hi,hDi⟩ := alD t q hq
     rw [if_neg]
     ·by_cases hlt2 : t < s.F.length
      ·rw [xGE als _ t q hq alsUni alsSrc (by rw [lenF2]; exact hlt2),xGE als _ t q hq alsUni alsSrc (by rw [xCU,xBL]; exact hlt2),← orig,xBX _ _ _ _ _ _ lenF2,if_neg]
       intro hy
       obtain ⟨d',hd',hDd',hdt'⟩ := yet_iff.1 hy
       obtain ⟨i',him',hi',e,ao,hei,hao,hp,hed⟩ := alsAt t q hq
       have h1 := hone d' e (q % 4096) hd' (by omega) hdt' (by simp [xBb,hao,hed])
       subst h1
       have := late_notalloc d' (hD d' hd' hDd')
       simp [xCk,hao,hp] at this
      ·have e1 : ∀ F : List AV,F.length = s.F.length → F.getD t .any = .any := fun F hF => by simp [List.getD,List.getElem?_eq_none (by omega : F.length ≤ t)]
       rw [e1 _ lenF3,e1 _ (by rw [xDf,xCU,xBL])]
     ·intro hy
      obtain ⟨d',hd',hDd',hdt'⟩ := yet_iff.1 hy
      have := hone d' i t hd' him hdt' (alDst hi)
      subst this
      rw [hDi] at hDd'; cases hDd'
    ·have hta' : ∀ q,(t,q) ∉ als := fun q hq => hta ⟨q,hq⟩
     rw [xDU _ _ _ hta',xDU _ _ _ hta',← orig,xBX _ _ _ _ _ _ lenF2]
   show FRep im io' (xGV m aops D s.F (xCs als (adoptL pl s1).F)) a
   rw [this]; exact g2'
  ·have hH : s1.H = s.H := f1
   have := xGG pl s1
   obtain ⟨B,hB⟩ := this
   show rd (adoptL pl s1).H _ _ = _
   rw [hB,hH]
   exact xHT hrd
 have doneB : ∀ (D : Nat → Bool) im io a w,(∀ j,j < ops.size → D j = true) → Step im0 io0 w0 im io w → a.defers = ds → xUu hs als chk R m ops.size (xBj ops ops.size) aops pl s s1 s' D im io a w → Q .normal a w := by
  rintro D im io a w hall t1 t2 ⟨k,sk,hmk,hkN,g2,g3,⟨g4,_⟩,g5,g6,g7,g8⟩
  have hk : k = ops.size := by
   rcases Nat.lt_or_ge k ops.size with q | q
   ·have := g2 k q (hall k q); omega
   ·omega
  rw [List.drop_eq_nil_of_le (by omega)] at g4
  simp only [xA9] at g4; cases g4
  refine hQ im io a w t1 g5 ?_ t2
  have : xGV k aops D s.F s'.F = s'.F := by
   refine xCy (by rw [xBx,g7]) (fun t => ?_)
   rw [xBX _ _ _ _ _ _ g7,if_neg]
   intro hy
   obtain ⟨d,hd,hDd,_⟩ := yet_iff.1 hy
   rw [hall d (by omega)] at hDd; cases hDd
  rw [this] at g6; exact g6
 have done : ∀ (listed : Array Bool) (a : Act) (w : World),(∀ j,j < ops.size → listed.getD j false = true) →
   (∃ im io,Step im0 io0 w0 im io w ∧ a.defers = ds ∧ (InvA als chk w0 m ops.size aops pl s s1 (fun k => listed.getD k false) im io a w ∨ xUu hs als chk R m ops.size (xBj ops ops.size) aops pl s s1 s' (fun k => listed.getD k false) im io a w)) → Q .normal a w := by
  rintro listed a w hall ⟨im,io,t1,t2,h | h⟩
  ·obtain ⟨io',u1,u2⟩ := toB _ im io a w (fun j hj hDj => by rw [hall j (by omega)] at hDj; cases hDj) t1 h
   exact doneB _ im io' a w hall u1 t2 u2
  ·exact doneB _ im io a w hall t1 t2 h
 have step : (∀ (modeA : Prop) (K : Act → World → Prop) (i : Nat) (listed : Array Bool) (a : Act) (w : World),listed.size = ops.size → xCu ops listed → i ∈ Region.ready .any ops listed →
   (∀ a' w',(∃ im io,Step im0 io0 w0 im io w' ∧ a'.defers = ds ∧ InvA als chk w0 m ops.size aops pl s s1 (fun k => (listed.setIfInBounds i true).getD k false) im io a' w') → K a' w') →
   ((m ≤ i ∨ ¬ modeA) → ∀ a' w',(∃ im io,Step im0 io0 w0 im io w' ∧ a'.defers = ds ∧ xUu hs als chk R m ops.size (xBj ops ops.size) aops pl s s1 s' (fun k => (listed.setIfInBounds i true).getD k false) im io a' w') → K a' w') →
   (∃ im io,Step im0 io0 w0 im io w ∧ a.defers = ds ∧ (InvA als chk w0 m ops.size aops pl s s1 (fun k => listed.getD k false) im io a w ∨ (¬ modeA ∧ xUu hs als chk R m ops.size (xBj ops ops.size) aops pl s s1 s' (fun k => listed.getD k false) im io a w))) →
   wpOpIn (Fw r) n P ops Q i K a w) := by
  intro modeA K i listed a w hsz hcl hi hKA hKB hinv
  obtain ⟨h0,o,ho,hedges⟩ := mem_ready.1 hi
  have hiN := (Array.getElem?_eq_some_iff.1 ho).1
  have h0' : listed.getD i false = false := by rw [← xB0 (by omega)]; exact h0
  have hedges2 : ∀ e,xCJ ops i e = true → listed.getD e false = true := by
   intro e he
   simp only [xCJ,ho,Array.any_eq_true,Bool.and_eq_true,beq_iff_eq] at he
   obtain ⟨q,hq,hb,hon⟩ := he
   have := hedges _ (Array.getElem_mem hq) hb
   rwa [hon] at this
  have befDone : ∀ d,Bef ops i d → listed.getD d false = true := fun d hd => xDj hcl hd hedges2
  have befNot : ∀ d,Bef ops d i → listed.getD d false = false := fun d hd => by
   cases hq : listed.getD d false with
   | false => rfl
   | true =>
    have := xDj hcl hd (xDN hcl hq)
    rw [h0'] at this; cases this
  have xC9 : ∀ d,d ≠ i → (listed.setIfInBounds i true).getD d false = listed.getD d false := fun d hd => getD_set_ne false (fun e => hd e.symm)
  have hseti : (listed.setIfInBounds i true).getD i false = true := by simp [hsz,hiN]
  have hia : i < aops.length := by omega
  obtain ⟨g1,g2,g3⟩ := xVD i o aops[i] ho (List.getElem?_eq_getElem hia)
  have hread_i : xDs aops i = (aops[i]).reads := by simp [xDs,List.getElem?_eq_getElem hia]
  have hdst_i : xBb aops i = (aops[i]).dst := by simp [xBb,List.getElem?_eq_getElem hia]
  have freeAgree : ∀ (Fi : List AV),i < m → (∀ t,Fi.getD t .any = if xBY ((aops.take m).take i) t then s1.F.getD t .any else s.F.getD t .any) → ∀ t,t ∈ (aops[i]).reads →
    Fi.getD t .any = if hit (aops.take m) (fun k => listed.getD k false) t then s1.F.getD t .any else s.F.getD t .any := by
   intro Fi him e3 t ht
   rw [e3 t]
   have key : xBY ((aops.take m).take i) t = hit (aops.take m) (fun k => listed.getD k false) t := by
    rw [Bool.eq_iff_iff,hwr]
    simp only [xBY,List.any_eq_true,beq_iff_eq]
    constructor
    ·rintro ⟨o',ho',hds'⟩
     obtain ⟨j,hj⟩ := List.getElem?_of_mem ho'
     have hji : j < i := by
      rcases Nat.lt_or_ge j i with q | q
      ·exact q
      ·rw [List.getElem?_take_eq_none q] at hj; cases hj
     rw [List.getElem?_take_of_lt hji] at hj
     obtain ⟨q1,q2⟩ := takeGet j o' hj
     have hja : xBb aops j = some t := by simp [xBb,q2,hds']
     rcases writers i j t him q1 (by rw [hread_i]; exact ht) hja with q | q | q
     ·exact ⟨j,q1,befDone j q,hja⟩
     ·omega
     ·have := xHQ edge_lt2 q; omega
    ·rintro ⟨d,hd,hl,hdt⟩
     rcases writers i d t him hd (by rw [hread_i]; exact ht) hdt with q | q | q
     ·have hdi := xHQ edge_lt2 q
      simp only [xBb,Option.bind_eq_some_iff] at hdt
      obtain ⟨o',h2,h3⟩ := hdt
      exact ⟨o',List.mem_of_getElem? (i := d) (by rw [List.getElem?_take_of_lt hdi,List.getElem?_take_of_lt hd]; exact h2),h3⟩
     ·subst q; rw [h0'] at hl; cases hl
     ·rw [befNot d q] at hl; cases hl
   rw [key]
  have stepB : (m ≤ i ∨ ¬ modeA) → ∀ im io,Step im0 io0 w0 im io w → a.defers = ds → xUu hs als chk R m ops.size (xBj ops ops.size) aops pl s s1 s' (fun k => listed.getD k false) im io a w → wpOpIn (Fw r) n P ops Q i K a w := by
   rintro hm' im io t1 t2 ⟨k0,sk0,hmk0,hkN0,q20,q30,q40',q50,q60,q70,q80,q90,q100⟩
   by_cases him : i < m
   ·-- one of the free part comes late
    have ⟨k,sk,hmk,hkN,q2,q3,q4,q5,q6,q7,q8,q9,q10⟩ : xUu hs als chk R m ops.size (xBj ops ops.size) aops pl s s1 s' (fun k => listed.getD k false) im io a w := ⟨k0,sk0,hmk0,hkN0,q20,q30,q40',q50,q60,q70,q80,q90,q100⟩
    have hik : i < k := by omega
    have lateK : ∀ d,d < k → listed.getD d false = false → d < m ∨ xB4 (xBj ops ops.size) aops d = true := fun d hd hDd => (q3 d hd hDd).imp (fun q => q.1) (fun q => q.2)
    have hlate : xDM als m aops i = true := by
     rcases q3 i hik h0' with q | q
     ·exact q.2
     ·omega
    obtain ⟨ao',hao',hslot,hnal⟩ := late_op i hlate
    rw [List.getElem?_eq_getElem hia] at hao'; cases hao'
    obtain ⟨Fi,v,e1,e2,e3,e4⟩ := f4 i aops[i] (by rw [List.getElem?_take_of_lt him,List.getElem?_eq_getElem hia]) (by
     have := late_notalloc i hlate
     simp only [xCk,List.getElem?_eq_getElem hia,Bool.or_eq_false_iff] at this
     exact this.1)
    have hagree : ∀ t,t ∈ (aops[i]).reads → Fi.getD t .any = (xGV k aops (fun k => listed.getD k false) s.F sk.F).getD t .any := by
     intro t ht
     rw [freeAgree Fi him e3 t ht,xBX _ _ _ _ _ _ q7]
     by_cases hy : yet k aops (fun k => listed.getD k false) t = true
     ·rw [if_pos hy]
      obtain ⟨d',hd',hDd',hdt'⟩ := yet_iff.1 hy
      have hnh : ¬ hit (aops.take m) (fun k => listed.getD k false) t = true := by
       intro hh
       obtain ⟨d,hd,hDd,hdt⟩ := (hwr _ t).1 hh
       have := hone2 d d' t (by omega) (by omega) (.inl hd) (lateK d' hd' hDd') hdt hdt'
       subst this
       rw [hDd] at hDd'; cases hDd'
      rw [if_neg hnh]
     ·rw [if_neg hy]
      have hsk : sk.F.getD t .any = s1.F.getD t .any := by
       rw [q8 t,sameS1]
       ·intro e he hae hde
        exact hnal t ht e he hae hde
       ·intro j hj1 hj2 hjt
        have hb := tails j i t hj1 (by omega) him hjt (by rw [hread_i]; exact ht)
        exact hy (yet_iff.2 ⟨j,hj2,befNot j hb,hjt⟩)
      by_cases hw : xBY (aops.take m) t = true
      ·obtain ⟨d,hd,hdt⟩ := (hwrites t).1 hw
       cases hDd : listed.getD d false with
       | true => rw [if_pos ((hwr _ t).2 ⟨d,hd,hDd,hdt⟩),hsk]
       | false => exact (hy (yet_iff.2 ⟨d,by omega,hDd,hdt⟩)).elim
      ·have hnh : ¬ hit (aops.take m) (fun k => listed.getD k false) t = true := by
        intro hh
        obtain ⟨d',hd',_,hdt'⟩ := (hwr _ t).1 hh
        exact hw ((hwrites t).2 ⟨d',hd',hdt'⟩)
       rw [if_neg hnh,hsk,f3 t (by simpa using hw)]
    have hwant : xCt Fi (aops[i]).guard = xCt (xGV k aops (fun k => listed.getD k false) s.F sk.F) (aops[i]).guard := by
     refine xGI fun t wv hg => hagree t ?_
     simp [AOper.reads,hg]
    have hFA : FreeAt R sk.H (xGV k aops (fun k => listed.getD k false) s.F sk.F) aops[i] v := by
     rcases hslot with hslot | ⟨g,nn,p,hload,hgn,hll,hnow⟩
     ·have hop : xA7 R Fi s.H (aops[i]).op = xA7 R (xGV k aops (fun k => listed.getD k false) s.F sk.F) sk.H (aops[i]).op := by
       rw [xFX hslot Fi s.H sk.H]
       refine xGJ fun x hx => xEK fun t ht => hagree t ?_
       simp only [AOper.reads,List.mem_append,List.mem_filterMap]
       exact .inl ⟨x,hx,ht⟩
      unfold FreeAt at e1 ⊢
      rw [← hwant,← hop]; exact e1
     ·have hread : p ∈ (aops[i]).reads := by simp [AOper.reads,AOp.args,Arg.slot,hload]
      have hFp : Fi.getD p .any = s1.F.getD p .any := by
       rw [e3 p]
       split
       ·rfl
       ·rename_i hnw
        rw [f3 p]
        rw [Bool.eq_false_iff]
        intro hw
        obtain ⟨d,hd,hdt⟩ := (hwrites p).1 hw
        have hdi : d < i := by
         rcases Nat.lt_or_ge d i with q | q
         ·exact q
         ·exact (hnow d (by omega) q hdt).elim
        apply hnw
        simp only [xBY,List.any_eq_true,beq_iff_eq]
        simp only [xBb,Option.bind_eq_some_iff] at hdt
        obtain ⟨o',h2,h3⟩ := hdt
        exact ⟨o',List.mem_of_getElem? (i := d) (by rw [List.getElem?_take_of_lt hdi,List.getElem?_take_of_lt hd]; exact h2),h3⟩
      have hFp2 := hagree p hread
      unfold FreeAt at e1 ⊢
      rw [← hwant]
      rcases e1 with ⟨w1,e1⟩ | ⟨w1,_⟩
      ·refine .inl ⟨w1,?_⟩
       rw [hload] at e1 ⊢
       simp only [xA7,xAg,opv] at e1 ⊢
       rw [← hFp2]
       cases hrd : rd s.H (Fi.getD p .any) nn with
       | none => rw [hrd] at e1; cases e1
       | some cs =>
        have := q9 i him h0' p nn hll cs (by rw [← hFp]; exact hrd)
        rw [← hFp] at this
        rw [this]; rw [hrd] at e1
        simpa [Option.map_map] using e1
      ·rw [hgn] at w1; simp [xCt] at w1
    have hna_i : xH8 (aops[i]).op = false := by
     have := late_notalloc i hlate
     simp only [xCk,List.getElem?_eq_getElem hia,Bool.or_eq_false_iff] at this
     exact xDD this.1
    refine xHR hR ho g1 g2 g3 hna_i q5 q6 hFA ?_
    intro im' io' a' w' u1 u2 u3 u4 _
    refine hKB hm' _ _ ⟨im',io',t1.trans u1,u4.trans t2,⟨k,sk,hmk,hkN,fun j hj hDj => ?_,fun j hj hDj => ?_,q4,u2,?_,q7,q8,fun d hd hDd p nn hl cs hr => q9 d hd (by
     by_cases e : d = i
     ·subst e; simp only [hseti] at hDd; cases hDd
     ·simpa [xC9 d e] using hDd) p nn hl cs hr,fun d ao hd1 hd2 hDd hao => q10 d ao hd1 hd2 (by
     have e : d ≠ i := by omega
     simpa [xC9 d e] using hDd) hao⟩⟩
    ·by_cases e : j = i
     ·omega
     ·exact q2 j hj (by simpa [xC9 j e] using hDj)
    ·by_cases e : j = i
     ·subst e; simp only [hseti] at hDj; cases hDj
     ·exact q3 j hj (by simpa [xC9 j e] using hDj)
    ·have : putA (xGV k aops (fun k => listed.getD k false) s.F sk.F) (aops[i]).dst v = xGV k aops (fun k => (listed.setIfInBounds i true).getD k false) s.F sk.F := by
      refine xCy (by rw [xBC,xBx,xBx]) (fun t => ?_)
      rw [xBv,xBX _ _ _ _ _ _ q7,xBX _ _ _ _ _ _ q7,xBx]
      by_cases hdt : (aops[i]).dst = some t
      ·have hny : ¬ yet k aops (fun k => (listed.setIfInBounds i true).getD k false) t = true := by
        intro hy
        obtain ⟨d',hd',hDd',hdt'⟩ := yet_iff.1 hy
        by_cases e : d' = i
        ·subst e; simp only [hseti] at hDd'; cases hDd'
        ·exact e (hone2 i d' t hiN (by omega) (.inl him) (lateK d' hd' (by simpa [xC9 d' e] using hDd')) (by rw [hdst_i]; exact hdt) hdt').symm
       rw [if_neg hny]
       have hsk : sk.F.getD t .any = s1.F.getD t .any := by
        rw [q8 t,sameS1]
        ·intro e he hae hde
         have := hone i e t him he (by rw [hdst_i]; exact hdt) hde
         subst this
         rw [late_notalloc i hlate] at hae; cases hae
        ·intro j hj1 hj2 hjt
         rcases sinks j i hj1 (by omega) (by omega) with q | ⟨_,q⟩
         ·have h7 := befNot j q
          have := hone2 i j t hiN (by omega) (.inl him) (lateK j hj2 h7) (by rw [hdst_i]; exact hdt) hjt
          omega
         ·exact (q t (by rw [hdst_i]; exact hdt)).2 hjt
       by_cases hlt2 : t < s.F.length
       ·rw [if_pos ⟨hdt,hlt2⟩,hsk]
        exact (e4 t hdt hlt2).symm
       ·rw [if_neg (fun q => hlt2 q.2)]
        have p1 : s.F.getD t .any = .any := by simp [List.getD,List.getElem?_eq_none (Nat.le_of_not_lt hlt2)]
        have p2 : sk.F.getD t .any = .any := by simp [List.getD,List.getElem?_eq_none (by omega : sk.F.length ≤ t)]
        rw [p1,p2]; simp
      ·rw [if_neg (fun q => hdt q.1)]
       have : yet k aops (fun k => (listed.setIfInBounds i true).getD k false) t = yet k aops (fun k => listed.getD k false) t := by
        rw [Bool.eq_iff_iff,yet_iff,yet_iff]
        constructor
        ·rintro ⟨d,hd,hDd,hdt'⟩
         by_cases e : d = i
         ·subst e; simp only [hseti] at hDd; cases hDd
         ·exact ⟨d,hd,by simpa [xC9 d e] using hDd,hdt'⟩
        ·rintro ⟨d,hd,hDd,hdt'⟩
         by_cases e : d = i
         ·subst e; exact (hdt (by rw [← hdst_i]; exact hdt')).elim
         ·exact ⟨d,hd,by simpa [xC9 d e] using hDd,hdt'⟩
       rw [this]
     rw [← this]
     exact u3
   by_cases hik0 : i < k0
   ·-- one of the tail comes late
    obtain ⟨k,sk,hkeq,hmk,hkN,q2,q3,q4,q5,q6,q7,q8,q9,q10⟩ : ∃ k sk,k = k0 ∧ yER hs als chk R m ops.size (xBj ops ops.size) aops pl s s1 s' (fun k => listed.getD k false) im io a w k sk := ⟨k0,sk0,rfl,hmk0,hkN0,q20,q30,q40',q50,q60,q70,q80,q90,q100⟩
    have hik : i < k := by omega
    have lateK : ∀ d,d < k → listed.getD d false = false → d < m ∨ xB4 (xBj ops ops.size) aops d = true := fun d hd hDd => (q3 d hd hDd).imp (fun q => q.1) (fun q => q.2)
    have hlate : xB4 (xBj ops ops.size) aops i = true := by
     rcases q3 i hik h0' with q | q
     ·omega
     ·exact q.2
    obtain ⟨ao',hao',hslot,hgn,_,hrds⟩ := tail_op i hlate
    rw [List.getElem?_eq_getElem hia] at hao'; cases hao'
    obtain ⟨v,hv1,hv2⟩ := q10 i aops[i] (by omega) hik h0' (List.getElem?_eq_getElem hia)
    have hFA : FreeAt R sk.H (xGV k aops (fun k => listed.getD k false) s.F sk.F) aops[i] v := by
     refine hv1.other (.inr rfl) fun t ht => ?_
     rw [xBX _ _ _ _ _ _ q7,if_neg]
     intro hy
     obtain ⟨d,hd,hDd,hdt⟩ := yet_iff.1 hy
     have hDd' : listed.getD d false = false := hDd
     rw [befDone d (hrds t ht d (by omega) hdt)] at hDd'; cases hDd'
    refine xHR hR ho g1 g2 g3 (xDD (xUw hslot)) q5 q6 hFA ?_
    intro im' io' a' w' u1 u2 u3 u4 _
    refine hKB hm' _ _ ⟨im',io',t1.trans u1,u4.trans t2,⟨k,sk,hmk,hkN,fun j hj hDj => ?_,fun j hj hDj => ?_,q4,u2,?_,q7,q8,fun d hd hDd p nn hl cs hr => q9 d hd (by
     have e : d ≠ i := by omega
     simpa [xC9 d e] using hDd) p nn hl cs hr,fun d ao hd1 hd2 hDd hao => ?_⟩⟩
    ·by_cases e : j = i
     ·omega
     ·exact q2 j hj (by simpa [xC9 j e] using hDj)
    ·by_cases e : j = i
     ·subst e; simp only [hseti] at hDj; cases hDj
     ·exact q3 j hj (by simpa [xC9 j e] using hDj)
    ·have : putA (xGV k aops (fun k => listed.getD k false) s.F sk.F) (aops[i]).dst v = xGV k aops (fun k => (listed.setIfInBounds i true).getD k false) s.F sk.F := by
      refine xCy (by rw [xBC,xBx,xBx]) (fun t => ?_)
      rw [xBv,xBX _ _ _ _ _ _ q7,xBX _ _ _ _ _ _ q7,xBx]
      by_cases hdt : (aops[i]).dst = some t
      ·have hny : ¬ yet k aops (fun k => (listed.setIfInBounds i true).getD k false) t = true := by
        intro hy
        obtain ⟨d',hd',hDd',hdt'⟩ := yet_iff.1 hy
        by_cases e : d' = i
        ·subst e; simp only [hseti] at hDd'; cases hDd'
        ·exact e (hone2 i d' t hiN (by omega) (.inr hlate) (lateK d' hd' (by simpa [xC9 d' e] using hDd')) (by rw [hdst_i]; exact hdt) hdt').symm
       rw [if_neg hny]
       by_cases hlt2 : t < s.F.length
       ·rw [if_pos ⟨hdt,hlt2⟩]
        exact (hv2 t hdt hlt2).symm
       ·rw [if_neg (fun q => hlt2 q.2)]
        have p1 : s.F.getD t .any = .any := by simp [List.getD,List.getElem?_eq_none (Nat.le_of_not_lt hlt2)]
        have p2 : sk.F.getD t .any = .any := by simp [List.getD,List.getElem?_eq_none (by omega : sk.F.length ≤ t)]
        rw [p1,p2]; simp
      ·rw [if_neg (fun q => hdt q.1)]
       have : yet k aops (fun k => (listed.setIfInBounds i true).getD k false) t = yet k aops (fun k => listed.getD k false) t := by
        rw [Bool.eq_iff_iff,yet_iff,yet_iff]
        constructor
        ·rintro ⟨d,hd,hDd,hdt'⟩
         by_cases e : d = i
         ·subst e; simp only [hseti] at hDd; cases hDd
         ·exact ⟨d,hd,by simpa [xC9 d e] using hDd,hdt'⟩
        ·rintro ⟨d,hd,hDd,hdt'⟩
         by_cases e : d = i
         ·subst e; exact (hdt (by rw [← hdst_i]; exact hdt')).elim
         ·exact ⟨d,hd,by simpa [xC9 d e] using hDd,hdt'⟩
       rw [this]
     rw [← this]
     exact u3
    ·have e : d ≠ i := by
      rintro rfl
      simp only [hseti] at hDd; cases hDd
     have hDd' : listed.getD d false = false := by simpa [xC9 d e] using hDd
     obtain ⟨v',w1,w2⟩ := q10 d ao hd1 hd2 hDd' hao
     exact ⟨v',w1,w2⟩
   have adv : ∀ n k sk,k + n = i → yER hs als chk R m ops.size (xBj ops ops.size) aops pl s s1 s' (fun k => listed.getD k false) im io a w k sk → ∃ sk,yER hs als chk R m ops.size (xBj ops ops.size) aops pl s s1 s' (fun k => listed.getD k false) im io a w i sk := by
    intro n
    induction n with
    | zero => intro k sk e h; obtain rfl : k = i := by omega
              exact ⟨sk,h⟩
    | succ n ihn =>
     rintro k sk e ⟨hmk,hkN,q2,q3,⟨q4,qh⟩,q5,q6,q7,q8,q9,q10⟩
     have hki : k < i := by omega
     have hDk : listed.getD k false = false := by
      cases hq : listed.getD k false with
      | false => rfl
      | true => have := q2 k (by omega) hq; omega
     have hlt : xB4 (xBj ops ops.size) aops k = true := by
      rcases sinks i k (by omega) hiN hki with h6 | ⟨h6 | h6,_⟩
      ·rw [befDone k h6] at hDk; cases hDk
      ·omega
      ·exact h6.2
     obtain ⟨ao,hao,hslot,hgn,huni,hrds⟩ := tail_op k hlt
     have hka : k < aops.length := by omega
     have haok : aops[k] = ao := by rw [List.getElem?_eq_getElem hka] at hao; exact Option.some.inj hao
     have hdk : xBb aops k = ao.dst := by simp [xBb,hao]
     rw [List.drop_eq_getElem_cons hka,haok] at q4 qh
     simp only [xA9] at q4
     split at q4
     ·cases q4
     rename_i s2 hs2
     simp only [xFq,hs2,Bool.and_eq_true] at qh
     have qh := qh.2
     obtain ⟨v,h0,rfl⟩ : ∃ v,FreeAt R sk.H sk.F ao v ∧ s2 = ⟨putA sk.F ao.dst v,sk.H⟩ := by
      unfold xBt at hs2
      split at hs2
      ·cases hs2
      ·rename_i hw
       cases hs2
       exact ⟨_,.inr ⟨hw,rfl⟩,rfl⟩
      ·rename_i hw
       simp only [Option.map_eq_some_iff] at hs2
       obtain ⟨⟨v,H2⟩,hex,rfl⟩ := hs2
       obtain rfl := xDO (xTE hslot) hex
       exact ⟨v,.inl ⟨hw,by rw [xUv hslot,hex]; rfl⟩,rfl⟩
     have lateK : ∀ d,d < k → listed.getD d false = false → d < m ∨ xB4 (xBj ops ops.size) aops d = true := fun d hd hDd => (q3 d hd hDd).imp (fun q => q.1) (fun q => q.2)
     refine ihn (k + 1) ⟨putA sk.F ao.dst v,sk.H⟩ (by omega) ⟨by omega,by omega,fun j hj hDj => by have := q2 j hj hDj; omega,fun j hj hDj => ?_,⟨q4,qh⟩,q5,?_,by rw [xBC]; exact q7,fun t ht => ?_,q9,fun d aod hd1 hd2 hDd haod => ?_⟩
     ·by_cases ej : j = k
      ·subst ej; exact .inr ⟨hmk,hlt⟩
      ·exact q3 j (by omega) hDj
     ·have : xGV (k + 1) aops (fun k => listed.getD k false) s.F (putA sk.F ao.dst v) = xGV k aops (fun k => listed.getD k false) s.F sk.F := by
       refine xCy (by rw [xBx,xBx]) (fun t => ?_)
       rw [xBX _ _ _ _ _ _ (by rw [xBC]; exact q7),xBX _ _ _ _ _ _ q7]
       by_cases hdt : ao.dst = some t
       ·rw [if_pos (yet_iff.2 ⟨k,by omega,hDk,by rw [hdk]; exact hdt⟩),if_neg]
        ·rw [q8 t (fun j hj1 hj2 hjt => by have := huni j t (by omega) hdt hjt; omega),sameS1]
         ·rw [f3 t]
          rw [Bool.eq_false_iff]
          intro hw
          obtain ⟨d,hd,hdt'⟩ := (hwrites t).1 hw
          have := huni d t (by omega) hdt hdt'
          omega
         ·intro d hd _ hdt'
          have := huni d t (by omega) hdt hdt'
          omega
        ·intro hy
         obtain ⟨d,hd,hDd,hdt'⟩ := yet_iff.1 hy
         have := huni d t (by omega) hdt hdt'
         omega
       ·have e1 : yet (k + 1) aops (fun k => listed.getD k false) t = yet k aops (fun k => listed.getD k false) t := by
         rw [Bool.eq_iff_iff,yet_iff,yet_iff]
         constructor
         ·rintro ⟨d,hd,hDd,hdt'⟩
          by_cases ed : d = k
          ·subst ed; exact (hdt (by rw [← hdk]; exact hdt')).elim
          ·exact ⟨d,by omega,hDd,hdt'⟩
         ·rintro ⟨d,hd,hDd,hdt'⟩
          exact ⟨d,by omega,hDd,hdt'⟩
        rw [e1]
        by_cases hy : yet k aops (fun k => listed.getD k false) t = true
        ·rw [if_pos hy,if_pos hy]
        ·rw [if_neg hy,if_neg hy,xBv,if_neg (fun q => hdt q.1)]
      rw [this]; exact q6
     ·rw [xBv,if_neg]
      ·exact q8 t (fun j hj1 hj2 => ht j hj1 (by omega))
      ·intro q
       exact ht k hmk (by omega) (by rw [hdk]; exact q.1)
     ·by_cases ed : d = k
      ·subst ed
       rw [hao] at haod; cases haod
       refine ⟨v,?_,fun t hdt hlt' => ?_⟩
       ·refine h0.other (.inr rfl) fun t ht => ?_
        show _ = (putA sk.F ao.dst v).getD t .any
        rw [xBv,if_neg]
        intro q
        have := xHQ edge_lt2 (hrds t ht d (by omega) (by rw [hdk]; exact q.1))
        omega
       ·show (putA sk.F ao.dst v).getD t .any = v
        rw [xBv,if_pos ⟨hdt,by omega⟩]
      ·obtain ⟨v',w1,w2⟩ := q10 d aod hd1 (by omega) hDd haod
       have hld : xB4 (xBj ops ops.size) aops d = true := by
        rcases q3 d (by omega) hDd with q | q
        ·omega
        ·exact q.2
       obtain ⟨ao2,hao2,hslot2,hgn2,huni2,hrds2⟩ := tail_op d hld
       rw [haod] at hao2; cases hao2
       refine ⟨v',?_,fun t hdt hlt' => ?_⟩
       ·refine w1.other (.inr rfl) fun t ht => ?_
        show _ = (putA sk.F ao.dst v).getD t .any
        rw [xBv,if_neg]
        intro q
        have := xHQ edge_lt2 (hrds2 t ht k (by omega) (by rw [hdk]; exact q.1))
        omega
       ·show (putA sk.F ao.dst v).getD t .any = v'
        rw [xBv,if_neg]
        ·exact w2 t hdt hlt'
        ·intro q
         have := huni2 k t (by omega) hdt (by rw [hdk]; exact q.1)
         omega
   ·-- the next of the tail
    obtain ⟨sk,hmk,hkN,q2,q3,⟨q4,qh⟩,q5,q6,q7,q8,q9,q10⟩ := adv (i - k0) k0 sk0 (by omega) ⟨hmk0,hkN0,q20,q30,q40',q50,q60,q70,q80,q90,q100⟩
    have hyet : ∀ t,(t ∈ (aops[i]).reads ∨ (aops[i]).dst = some t) → ¬ yet i aops (fun k => listed.getD k false) t = true := by
     intro t ht hy
     obtain ⟨d,hd,hDd,hdt⟩ := yet_iff.1 hy
     rcases sinks i d hmk hiN (by omega) with h6 | ⟨_,h6⟩
     ·have := befDone d h6
      have hDd' : listed.getD d false = false := hDd
      rw [this] at hDd'; cases hDd'
     ·obtain ⟨p1,p2⟩ := h6 t hdt
      rcases ht with ht | ht
      ·rw [hread_i] at p1; exact p1 ht
      ·rw [hdst_i] at p2; exact p2 ht
    have hagree : ∀ t,t ∈ (aops[i]).reads → sk.F.getD t .any = (xGV i aops (fun k => listed.getD k false) s.F sk.F).getD t .any := fun t ht => by
     rw [xBX _ _ _ _ _ _ q7,if_neg (hyet t (.inl ht))]
    have q40 := q4
    rw [List.drop_eq_getElem_cons hia] at q4 qh
    simp only [xA9] at q4
    split at q4
    ·cases q4
    rename_i s2 hs2
    simp only [xFq,hs2,Bool.and_eq_true] at qh
    obtain ⟨qh1,qh⟩ := qh
    have keep : ∀ (v : AV) (H2 : Heap),s2.H = H2 → xAg R sk.F sk.H (aops[i]).op = some (v,H2) → ∀ d,d < m → listed.getD d false = false → ∀ p nn,xCf aops d = some (p,nn) → ∀ cs,rd sk.H (s1.F.getD p .any) nn = some cs → rd H2 (s1.F.getD p .any) nn = some cs := by
     intro v H2 hH2 hex d hd hDd p nn hll cs hrd
     rcases sinks' i d hmk hiN (by omega) with h6 | ⟨⟨_,hlt6,hp⟩ | ⟨h6,_⟩,_⟩
     ·rw [befDone d h6] at hDd; cases hDd
     ·unfold xUq at hp
      rw [hll] at hp
      simp only [List.getElem?_eq_getElem hia,Bool.or_eq_true] at hp
      rcases hp with (hp | hp) | hp
      ·rw [xDO hp hex]; exact hrd
      ·have hpp1 : sk.F.getD p .any = s1.F.getD p .any := by
        have noP : ∀ j,j < aops.length → d ≤ j → xBb aops j ≠ some p := by
         obtain ⟨ao',hao',hk',_⟩ := late_op d hlt6
         rcases hk' with hk' | ⟨g,n2,p2,hload,_,hll2,hnow⟩
         ·exfalso
          unfold xCf at hll
          rw [hao'] at hll
          split at hll
          ·rename_i heq
           cases heq
           simp [xBG] at hk'
          ·cases hll
         ·rw [hll] at hll2; cases hll2
          exact hnow
        rw [q8 p (fun j hj1 hj2 => noP j (by omega) (by omega)),sameS1]
        intro e he hae hde
        obtain ⟨ao',hao',_,hnal⟩ := late_op d hlt6
        refine hnal p ?_ e he hae hde
        unfold xCf at hll
        rw [hao'] at hll
        split at hll
        ·rename_i heq
         cases heq; cases hll
         simp [AOper.reads,AOp.args,Arg.slot]
        ·cases hll
       have := List.all_eq_true.1 qh1 _ (List.contains_iff_mem.1 hp)
       simp only [bne_self_eq_false,Bool.false_or] at this
       rw [hpp1,hH2] at this
       exact xUt this hrd
      ·split at hp
       case h_3 => cases hp
       ·rename_i n' q x hopq
        simp only [Bool.and_eq_true,List.all_eq_true,List.mem_range,Bool.or_eq_true,decide_eq_true_eq,bne_iff_ne,ne_eq] at hp
        have hap := List.all_eq_true.1 hls _ (List.contains_iff_mem.1 hp.1)
        simp only [apart] at hap
        have noP : ∀ j,j < aops.length → d ≤ j → xBb aops j ≠ some p := by
         obtain ⟨ao',hao',hk',_⟩ := late_op d hlt6
         rcases hk' with hk' | ⟨g,n2,p2,hload,_,hll2,hnow⟩
         ·exfalso
          unfold xCf at hll
          rw [hao'] at hll
          split at hll
          ·rename_i heq
           cases heq
           simp [xBG] at hk'
          ·cases hll
         ·rw [hll] at hll2; cases hll2
          exact hnow
        have inDrop : ∀ o ∈ aops.drop i,∃ j,i ≤ j ∧ j < aops.length ∧ xBb aops j = o.dst := by
         intro o' ho'
         obtain ⟨j,hj⟩ := List.getElem?_of_mem ho'
         rw [List.getElem?_drop] at hj
         exact ⟨i + j,by omega,(List.getElem?_eq_some_iff.1 hj).1,by simp [xBb,hj]⟩
        have hq : s'.F.getD q .any = sk.F.getD q .any := xC2 q40 (fun o' ho' hd' => by
         obtain ⟨j,j1,j2,j3⟩ := inDrop o' ho'
         have hq' := hp.2 j j2
         rcases hq' with q' | q'
         ·exact absurd q' (Nat.not_lt.2 j1)
         ·exact q' (by rw [j3]; exact hd'))
        have hpp : s'.F.getD p .any = sk.F.getD p .any := xC2 q40 (fun o' ho' hd' => by
         obtain ⟨j,j1,j2,j3⟩ := inDrop o' ho'
         exact noP j j2 (by omega) (by rw [j3]; exact hd'))
        have hp1 : sk.F.getD p .any = s1.F.getD p .any := by
         rw [q8 p (fun j hj1 hj2 => noP j (by omega) (by omega)),sameS1]
         intro e he hae hde
         obtain ⟨ao',hao',_,hnal⟩ := late_op d hlt6
         refine hnal p ?_ e he hae hde
         unfold xCf at hll
         rw [hao'] at hll
         split at hll
         ·rename_i heq
          cases heq; cases hll
          simp [AOper.reads,AOp.args,Arg.slot]
         ·cases hll
        rw [hopq] at hex
        have hex2 := xTD hex
        obtain ⟨hlen,hw⟩ := hex2
        refine xTC hrd hw ?_
        rw [hlen,← hp1,← hpp]
        show xAW _ _ (sk.F.getD q .any) _ = true
        rw [← hq]
        exact hap
       ·rename_i fz0 es0 b0 q y hopq
        simp only [Bool.and_eq_true,List.all_eq_true,List.mem_range,Bool.or_eq_true,decide_eq_true_eq,bne_iff_ne,ne_eq] at hp
        have hap := List.all_eq_true.1 hls _ (List.contains_iff_mem.1 hp.1)
        simp only [apart] at hap
        have noP : ∀ j,j < aops.length → d ≤ j → xBb aops j ≠ some p := by
         obtain ⟨ao',hao',hk',_⟩ := late_op d hlt6
         rcases hk' with hk' | ⟨g,n2,p2,hload,_,hll2,hnow⟩
         ·exfalso
          unfold xCf at hll
          rw [hao'] at hll
          split at hll
          ·rename_i heq
           cases heq
           simp [xBG] at hk'
          ·cases hll
         ·rw [hll] at hll2; cases hll2
          exact hnow
        have inDrop : ∀ o ∈ aops.drop i,∃ j,i ≤ j ∧ j < aops.length ∧ xBb aops j = o.dst := by
         intro o' ho'
         obtain ⟨j,hj⟩ := List.getElem?_of_mem ho'
         rw [List.getElem?_drop] at hj
         exact ⟨i + j,by omega,(List.getElem?_eq_some_iff.1 hj).1,by simp [xBb,hj]⟩
        have hq : s'.F.getD q .any = sk.F.getD q .any := xC2 q40 (fun o' ho' hd' => by
         obtain ⟨j,j1,j2,j3⟩ := inDrop o' ho'
         have hq' := hp.2 j j2
         rcases hq' with q' | q'
         ·exact absurd q' (Nat.not_lt.2 j1)
         ·exact q' (by rw [j3]; exact hd'))
        have hpp : s'.F.getD p .any = sk.F.getD p .any := xC2 q40 (fun o' ho' hd' => by
         obtain ⟨j,j1,j2,j3⟩ := inDrop o' ho'
         exact noP j j2 (by omega) (by rw [j3]; exact hd'))
        have hp1 : sk.F.getD p .any = s1.F.getD p .any := by
         rw [q8 p (fun j hj1 hj2 => noP j (by omega) (by omega)),sameS1]
         intro e he hae hde
         obtain ⟨ao',hao',_,hnal⟩ := late_op d hlt6
         refine hnal p ?_ e he hae hde
         unfold xCf at hll
         rw [hao'] at hll
         split at hll
         ·rename_i heq
          cases heq; cases hll
          simp [AOper.reads,AOp.args,Arg.slot]
         ·cases hll
        rw [hopq] at hex
        refine xQm hex hrd ?_
        rw [← hp1,← hpp]
        show xAW _ _ (sk.F.getD q .any) _ = true
        rw [← hq]
        exact hap
     ·omega
    have hwant : xCt sk.F (aops[i]).guard = xCt (xGV i aops (fun k => listed.getD k false) s.F sk.F) (aops[i]).guard := by
     refine xGI fun t wv hg => hagree t ?_
     simp [AOper.reads,hg]
    have hop : xAg R sk.F sk.H (aops[i]).op = xAg R (xGV i aops (fun k => listed.getD k false) s.F sk.F) sk.H (aops[i]).op := by
     refine xFf fun x hx => xEK fun t ht => hagree t ?_
     simp only [AOper.reads,List.mem_append,List.mem_filterMap]
     exact .inl ⟨x,hx,ht⟩
    have calmB : ∀ (v : AV) (H2 : Heap),xAg R sk.F sk.H (aops[i]).op = some (v,H2) → ∀ d ao,m ≤ d → d < i → listed.getD d false = false → aops[d]? = some ao → xGD ao.op = true → H2 = sk.H := by
     intro v H2 hex d ao hd1 hd2 hDd hao hl
     rcases sinks' i d hmk hiN (by omega) with h6 | ⟨⟨h6,_⟩ | ⟨_,_,hp⟩,_⟩
     ·rw [befDone d h6] at hDd; cases hDd
     ·omega
     ·unfold xL2 at hp
      rw [hao] at hp
      simp only [hl,Bool.not_true,Bool.false_or,List.getElem?_eq_getElem hia] at hp
      exact xDO hp hex
    have nextB : ∀ im' io' a' w' (v : AV) (H2 : Heap),(∀ d ao,m ≤ d → d < i → listed.getD d false = false → aops[d]? = some ao → xGD ao.op = true → H2 = sk.H) → (∀ d,d < m → listed.getD d false = false → ∀ p nn,xCf aops d = some (p,nn) → ∀ cs,rd sk.H (s1.F.getD p .any) nn = some cs → rd H2 (s1.F.getD p .any) nn = some cs) → s2 = ⟨putA sk.F (aops[i]).dst v,H2⟩ → Step im io w im' io' w' → Sim chk im' io' H2 w' → FRep im' io' (putA (xGV i aops (fun k => listed.getD k false) s.F sk.F) (aops[i]).dst v) a' → a'.defers = a.defers →
      K a' w' := by
     intro im' io' a' w' v H2 hcalm hkeep hs2' u1 u2 u3 u4
     subst hs2'
     refine hKB hm' _ _ ⟨im',io',t1.trans u1,u4.trans t2,⟨i + 1,_,by omega,by omega,fun j hj hDj => ?_,fun j hj hDj => ?_,⟨q4,qh⟩,u2,?_,by rw [xBC]; exact q7,fun t ht => ?_,fun d hd hDd p nn hl cs hr => ?_,fun d aod hd1 hd2 hDd haod => ?_⟩⟩
     ·by_cases e : j = i
      ·omega
      ·have := q2 j hj (by simpa [xC9 j e] using hDj); omega
     ·by_cases e : j = i
      ·subst e; simp only [hseti] at hDj; cases hDj
      ·exact q3 j (by omega) (by simpa [xC9 j e] using hDj)
     ·have : putA (xGV i aops (fun k => listed.getD k false) s.F sk.F) (aops[i]).dst v = xGV (i + 1) aops (fun k => (listed.setIfInBounds i true).getD k false) s.F (putA sk.F (aops[i]).dst v) := by
       refine xCy (by rw [xBC,xBx,xBx]) (fun t => ?_)
       rw [xBv,xBX _ _ _ _ _ _ q7,xBX _ _ _ _ _ _ (by rw [xBC]; exact q7),xBx,xBv,q7]
       have hyy : yet (i + 1) aops (fun k => (listed.setIfInBounds i true).getD k false) t = yet i aops (fun k => listed.getD k false) t := by
        rw [Bool.eq_iff_iff,yet_iff,yet_iff]
        constructor
        ·rintro ⟨d,hd,hDd,hdt'⟩
         have e : d ≠ i := by
          rintro rfl
          simp only [hseti] at hDd; cases hDd
         exact ⟨d,by omega,by simpa [xC9 d e] using hDd,hdt'⟩
        ·rintro ⟨d,hd,hDd,hdt'⟩
         exact ⟨d,by omega,by simpa [xC9 d (by omega)] using hDd,hdt'⟩
       rw [hyy]
       by_cases hdt : (aops[i]).dst = some t ∧ t < s.F.length
       ·rw [if_pos hdt,if_neg (hyet t (.inr hdt.1)),if_pos hdt]
       ·rw [if_neg hdt,if_neg hdt]
      rw [← this]; exact u3
     ·rw [xBv,if_neg]
      ·exact q8 t (fun j hj1 hj2 => ht j hj1 (by omega))
      ·intro q
       exact ht i hmk (by omega) (by rw [hdst_i]; exact q.1)
     ·have hDd' : listed.getD d false = false := by
       have : d ≠ i := by omega
       simpa [xC9 d this] using hDd
      exact hkeep d hd hDd' p nn hl cs (q9 d hd hDd' p nn hl cs hr)
     ·have e : d ≠ i := by
       rintro rfl
       simp only [hseti] at hDd; cases hDd
      have hDd' : listed.getD d false = false := by simpa [xC9 d e] using hDd
      obtain ⟨v',w1,w2⟩ := q10 d aod hd1 (by omega) hDd' haod
      have hld : xB4 (xBj ops ops.size) aops d = true := by
       rcases q3 d (by omega) hDd' with q | q
       ·omega
       ·exact q.2
      obtain ⟨ao2,hao2,hslot2,hgn2,huni2,hrds2⟩ := tail_op d hld
      rw [haod] at hao2; cases hao2
      refine ⟨v',?_,fun t hdt hlt' => ?_⟩
      ·refine w1.other (hslot2.imp id (fun hl => hcalm d aod hd1 (by omega) hDd' haod hl)) fun t ht => ?_
       show _ = (putA sk.F (aops[i]).dst v).getD t .any
       rw [xBv,if_neg]
       intro q
       have := xHQ edge_lt2 (hrds2 t ht i (by omega) (by rw [hdst_i]; exact q.1))
       omega
      ·show (putA sk.F (aops[i]).dst v).getD t .any = v'
       rw [xBv,if_neg]
       ·exact w2 t hdt hlt'
       ·intro q
        have := huni2 i t (by omega) hdt (by rw [hdst_i]; exact q.1)
        omega
    unfold wpOpIn
    simp only [ho]
    unfold xBt at hs2
    split at hs2
    ·cases hs2
    ·rename_i hw
     cases hs2
     rw [hwant] at hw
     rw [xDt g3 q6 hw]
     simp only [Bool.false_eq_true,if_false]
     refine ⟨fun f _ => trivial,?_⟩
     refine nextB im io _ w _ _ (fun _ _ _ _ _ _ _ => rfl) (fun d _ _ p nn _ cs hr => hr) rfl (.refl _ _ _) q5 ?_ (xBy _ _ _)
     rw [g1]
     exact q6.put _ (.tup (vs := []) rfl (fun i c v h => by simp at h))
    ·rename_i hw
     simp only [Option.map_eq_some_iff] at hs2
     obtain ⟨⟨v,H2⟩,hs3,rfl⟩ := hs2
     rw [hwant] at hw
     have hs30 := hs3
     rw [hop] at hs3
     rw [xDt g3 q6 hw]
     simp only [if_true]
     refine Oper.wpIn_mono ?_ (xL6 hR g2 q5 q6 hs3 Q)
     rintro a' w' ⟨im',io',u1,u2,u3,u4,_⟩
     rw [g1] at u3
     exact nextB im' io' a' w' v H2 (calmB v H2 hs30) (keep v H2 rfl hs30) rfl u1 u2 u3 u4
  obtain ⟨im,io,t1,t2,h | h⟩ := hinv
  ·by_cases him : i < m
   ·obtain ⟨h1,h2,h3,⟨ioss,h4,h5⟩,hal,hal2⟩ := h
    have nextF : ∀ vv,(∀ t,(aops[i]).dst = some t → t < s.F.length → s1.F.getD t .any = vv) →
      putA (mix (aops.take m) (fun k => listed.getD k false) s.F s1.F) (aops[i]).dst vv = mix (aops.take m) (fun k => (listed.setIfInBounds i true).getD k false) s.F s1.F := by
     intro vv hvv
     refine xCy (by rw [xBC,xBL,xBL]) (fun t => ?_)
     rw [xBv,xC7 _ _ _ _ _ f2,xC7 _ _ _ _ _ f2,xBL]
     by_cases hdt : (aops[i]).dst = some t
     ·have hh : hit (aops.take m) (fun k => (listed.setIfInBounds i true).getD k false) t = true := (hwr _ t).2 ⟨i,him,hseti,by rw [hdst_i]; exact hdt⟩
      rw [if_pos hh]
      by_cases hlt2 : t < s.F.length
      ·rw [if_pos ⟨hdt,hlt2⟩]; exact (hvv t hdt hlt2).symm
      ·rw [if_neg (fun q => hlt2 q.2)]
       have p1 : s.F.getD t .any = .any := by simp [List.getD,List.getElem?_eq_none (Nat.le_of_not_lt hlt2)]
       have p2 : s1.F.getD t .any = .any := by simp [List.getD,List.getElem?_eq_none (by omega : s1.F.length ≤ t)]
       rw [p1,p2]; simp
     ·rw [if_neg (fun q => hdt q.1)]
      have : hit (aops.take m) (fun k => (listed.setIfInBounds i true).getD k false) t = hit (aops.take m) (fun k => listed.getD k false) t := by
       rw [Bool.eq_iff_iff,hwr,hwr]
       constructor
       ·rintro ⟨d,hd,hDd,hdt'⟩
        by_cases e : d = i
        ·subst e; exact (hdt (by rw [← hdst_i]; exact hdt')).elim
        ·exact ⟨d,hd,by simpa [xC9 d e] using hDd,hdt'⟩
       ·rintro ⟨d,hd,hDd,hdt'⟩
        by_cases e : d = i
        ·subst e; simp only [h0'] at hDd; cases hDd
        ·exact ⟨d,hd,by simpa [xC9 d e] using hDd,hdt'⟩
      rw [this]
    have privDst : ∀ j t v B,pl[j]? = some (some (t,v,B)) → j ≠ i → (aops[i]).dst ≠ some t := by
     intro j t v B hj hji he
     obtain ⟨q1,_,q3,_⟩ := plAt j t v B hj
     exact hji (hone j i t q1 him q3 (by rw [hdst_i]; exact he))
    have nextAl : ∀ (a' : Act) (x : Value),a' = a.put (aops[i]).dst x → (∀ q,(aops[i]).op = .mov (.t q) → (aops[i]).guard = none → x = a.tmps.getD q undef) →
      ∀ d q i' e,e < i' → xEE aops e q = true → i' < m → aops[i']? = some ⟨some d,.mov (.t q),none⟩ → (listed.setIfInBounds i true).getD i' false = true → ∀ y,a'.tmps.toList[d]? = some y → y = a'.tmps.getD q undef := by
     intro a' x ha' hx d q j e hej hel hjm hj hD y hy
     obtain ⟨ao,hao,hp,hed⟩ := xEd hel
     have hi' := hj
     have hda : xBb aops e = some q := by simp [xBb,hao,hed]
     have hdj : xBb aops j = some d := by simp [xBb,hj]
     have hdq' : d ≠ q := by
      rintro rfl
      have := hone e j d (by omega) hjm hda hdj
      omega
     have hei : i ≠ e → (aops[i]).dst ≠ some q := fun hne h => hne (hone i e q him (by omega) (by rw [hdst_i]; exact h) hda)
     have hsrc : j = i ∨ listed.getD j false = true → (aops[i]).dst ≠ some q := by
      intro hD'
      refine hei ?_
      rintro rfl
      rcases hD' with rfl | hD'
      ·omega
      ·rcases writers j i q hjm him (by simp [xDs,hj,AOper.reads,AOp.args,Arg.slot]) hda with w1 | w1 | w1
       ·have := xDj hcl w1 (xDN hcl hD')
        rw [h0'] at this; cases this
       ·omega
       ·have := xHQ edge_lt2 w1; omega
     have getQ : (aops[i]).dst ≠ some q → a'.tmps.getD q undef = a.tmps.getD q undef := by
      intro h
      have := xDV (a := a) (x := x) h
      rw [← ha',Array.getElem?_toList,Array.getElem?_toList] at this
      rw [Array.getD_eq_getD_getElem?,Array.getD_eq_getD_getElem?,this]
     by_cases e1 : j = i
     ·subst e1
      rw [getQ (hsrc (.inl rfl))]
      rw [List.getElem?_eq_getElem hia] at hi'
      have hi2 : aops[j] = ⟨some d,.mov (.t q),none⟩ := Option.some.inj hi'
      rw [hi2] at hx ha'
      rw [← hx q rfl rfl]
      subst ha'
      have : (a.tmps.setIfInBounds d x).toList[d]? = some y := hy
      rw [Array.toList_setIfInBounds,List.getElem?_set_self'] at this
      cases hh : a.tmps.toList[d]? with
      | none => rw [hh] at this; cases this
      | some z => rw [hh] at this; exact (Option.some.inj this).symm
     ·have hDj : listed.getD j false = true := by simpa [xC9 j e1] using hD
      rw [getQ (hsrc (.inr hDj))]
      refine hal d q j e hej hel hjm hj hDj y ?_
      rw [← hy,ha']
      exact (xDV (fun h => e1 (hone j i d hjm him hdj (by rw [hdst_i]; exact h)))).symm
    have nextAl2 : ∀ (a' : Act) (x : Value),a' = a.put (aops[i]).dst x → (∀ j p,(aops[i]).op = .ext j (.t p) → (aops[i]).guard = none → yDd (j + 1) x (a.tmps.getD p undef)) →
      ∀ d q i' j p,i' < m → aops[i']? = some ⟨some d,.ext j (.t p),none⟩ → xTA aops i' d q = true → (listed.setIfInBounds i true).getD i' false = true → ∀ y,a'.tmps.toList[d]? = some y → yDd (j + 1) y (a'.tmps.getD p undef) := by
     intro a' x ha' hx d q i' j p hi'm hi' hop hD y hy
     obtain ⟨e,hei',hem⟩ : ∃ e,e < i' ∧ aops[e]? = some ⟨some p,.mov (.t (q % 4096)),none⟩ := by
      rcases xCK hop with ⟨hx,_⟩ | ⟨j',p',e,hx,_,h1,h2,_⟩
      ·rw [hi'] at hx; cases hx
      ·rw [hi'] at hx; cases hx
       exact ⟨e,h1,h2⟩
     have hda : xBb aops e = some p := by simp [xBb,hem]
     have hdj : xBb aops i' = some d := by simp [xBb,hi']
     have hei : i ≠ e → (aops[i]).dst ≠ some p := fun hne h => hne (hone i e p him (by omega) (by rw [hdst_i]; exact h) hda)
     have hsrc : i' = i ∨ listed.getD i' false = true → (aops[i]).dst ≠ some p := by
      intro hD'
      refine hei ?_
      rintro rfl
      rcases hD' with rfl | hD'
      ·omega
      ·rcases writers i' i p hi'm him (by simp [xDs,hi',AOper.reads,AOp.args,Arg.slot]) hda with w1 | w1 | w1
       ·have := xDj hcl w1 (xDN hcl hD')
        rw [h0'] at this; cases this
       ·omega
       ·have := xHQ edge_lt2 w1; omega
     have getP : (aops[i]).dst ≠ some p → a'.tmps.getD p undef = a.tmps.getD p undef := by
      intro h
      have := xDV (a := a) (x := x) h
      rw [← ha',Array.getElem?_toList,Array.getElem?_toList] at this
      rw [Array.getD_eq_getD_getElem?,Array.getD_eq_getD_getElem?,this]
     by_cases e1 : i' = i
     ·subst e1
      rw [getP (hsrc (.inl rfl))]
      rw [List.getElem?_eq_getElem hia] at hi'
      have hi2 : aops[i'] = ⟨some d,.ext j (.t p),none⟩ := Option.some.inj hi'
      rw [hi2] at hx ha'
      have := hx j p rfl rfl
      subst ha'
      have hz : (a.tmps.setIfInBounds d x).toList[d]? = some y := hy
      rw [Array.toList_setIfInBounds,List.getElem?_set_self'] at hz
      cases hh : a.tmps.toList[d]? with
      | none => rw [hh] at hz; cases hz
      | some z =>
       rw [hh] at hz
       have hxy : x = y := Option.some.inj hz
       rw [← hxy]
       exact this
     ·have hDj : listed.getD i' false = true := by simpa [xC9 i' e1] using hD
      rw [getP (hsrc (.inr hDj))]
      refine hal2 d q i' j p hi'm hi' hop hDj y ?_
      rw [← hy,ha']
      exact (xDV (fun h => e1 (hone i' i d hi'm him hdj (by rw [hdst_i]; exact h)))).symm
    by_cases hal : xBe (aops[i]).op = true
    ·-- something is laid
     have hga := halloc i him
     rw [List.getElem?_eq_getElem hia] at hga
     simp only [hal,Bool.not_true,Bool.false_or,Bool.and_eq_true] at hga
     have hgn : (aops[i]).guard = none := by simpa using hga.1
     obtain ⟨Fi,e2,e3,g⟩ := f45 i aops[i] (by rw [List.getElem?_take_of_lt him,List.getElem?_eq_getElem hia])
     rcases g with ⟨g,_⟩ | ⟨_,t,v,B,hdt,hpv,hpl,hany⟩
     ·rw [hal] at g; cases g
     have hagree : ∀ t,t ∈ (aops[i]).reads → Fi.getD t .any = (mix (aops.take m) (fun k => listed.getD k false) s.F s1.F).getD t .any := fun t ht => by
      rw [freeAgree Fi him e3 t ht,xC7 _ _ _ _ _ f2]
     have hop : xDh R Fi (aops[i]).op = xDh R (mix (aops.take m) (fun k => listed.getD k false) s.F s1.F) (aops[i]).op := by
      refine xQl fun x hx => xEK fun t ht => hagree t ?_
      simp only [AOper.reads,List.mem_append,List.mem_filterMap]
      exact .inl ⟨x,hx,ht⟩
     rw [hop] at hpv
     refine xUr hR ho g1 g2 g3 hgn hdt h2 h3 hpv ?_
     rintro im' a' w' x ios u1 u2 rfl u3
     refine hKA _ _ ⟨im',io,t1.trans u1,(xBy _ _ _).trans t2,⟨fun j hj1 hj2 => ?_,u2,?_,⟨fun j => if j = i then ios else ioss j,fun j t' v' B' hj hDj => ?_,fun j1 j2 x1 x2 k k' b z z' hne hj1 hj2 hD1 hD2 hk hk' => ?_⟩,nextAl _ x (by rw [hdt]) (fun q hq => by rw [hq] at hal; cases hal),nextAl2 _ x (by rw [hdt]) (fun j p hq => by rw [hq] at hal; cases hal)⟩⟩
     ·have : j ≠ i := by omega
      simp only [xC9 j this]; exact h1 j hj1 hj2
     ·rw [← nextF (xCN v) (fun t' ht' hlt => by rw [hdt] at ht'; cases ht'; exact hany hlt),hdt]
      exact (h3.mono u1.im_le (.refl _)).putS (fun y hy => xTB (u3.2.2 y hy))
     ·by_cases e : j = i
      ·subst e
       rw [hpl] at hj; cases hj
       show PrivAt _ _ _ _ _ _ _ _ (if j = j then ios else ioss j)
       rw [if_pos rfl]
       exact ⟨u3.1.low t1.size,u3.2⟩
      ·show PrivAt _ _ _ _ _ _ _ _ (if j = i then ios else ioss j)
       rw [if_neg e]
       refine (h4 j t' v' B' hj (by simpa [xC9 j e] using hDj)).step u1 (xDV ?_)
       rw [← hdt]; exact privDst j t' v' B' hj e
     ·obtain ⟨t1',v1,B1⟩ := x1
      obtain ⟨t2',v2,B2⟩ := x2
      simp only at hk hk'
      by_cases q1 : j1 = i <;> by_cases q2 : j2 = i
      ·omega
      ·rw [if_pos q1] at hk
       rw [if_neg q2] at hk'
       obtain ⟨_,_,_,_,_,_,_,_,_,_,k1⟩ := u3.1.own hk
       obtain ⟨_,_,_,_,_,_,_,k2,_⟩ := (h4 j2 _ _ _ hj2 (by simpa [xC9 j2 q2] using hD2)).1.own hk'
       have := (Array.getElem?_eq_some_iff.1 k2).1
       omega
      ·rw [if_neg q1] at hk
       rw [if_pos q2] at hk'
       obtain ⟨_,_,_,_,_,_,_,_,_,_,k1⟩ := u3.1.own hk'
       obtain ⟨_,_,_,_,_,_,_,k2,_⟩ := (h4 j1 _ _ _ hj1 (by simpa [xC9 j1 q1] using hD1)).1.own hk
       have := (Array.getElem?_eq_some_iff.1 k2).1
       omega
      ·rw [if_neg q1] at hk
       rw [if_neg q2] at hk'
       exact h5 j1 j2 _ _ k k' b z z' hne hj1 hj2 (by simpa [xC9 j1 q1] using hD1) (by simpa [xC9 j2 q2] using hD2) hk hk'
    ·-- an operation that leaves the heap alone
     have hna : xBe (aops[i]).op = false := by simpa using hal
     obtain ⟨Fi,v,e1,e2,e3,e4⟩ := f4 i aops[i] (by rw [List.getElem?_take_of_lt him,List.getElem?_eq_getElem hia]) hna
     have hagree : ∀ t,t ∈ (aops[i]).reads → Fi.getD t .any = (mix (aops.take m) (fun k => listed.getD k false) s.F s1.F).getD t .any := fun t ht => by
      rw [freeAgree Fi him e3 t ht,xC7 _ _ _ _ _ f2]
     have hwant : xCt Fi (aops[i]).guard = xCt (mix (aops.take m) (fun k => listed.getD k false) s.F s1.F) (aops[i]).guard := by
      refine xGI fun t wv hg => hagree t ?_
      simp [AOper.reads,hg]
     have hop : xA7 R Fi s.H (aops[i]).op = xA7 R (mix (aops.take m) (fun k => listed.getD k false) s.F s1.F) s.H (aops[i]).op := by
      refine xGJ fun x hx => xEK fun t ht => hagree t ?_
      simp only [AOper.reads,List.mem_append,List.mem_filterMap]
      exact .inl ⟨x,hx,ht⟩
     have hFA : FreeAt R s.H (mix (aops.take m) (fun k => listed.getD k false) s.F s1.F) aops[i] v := by
      unfold FreeAt at e1 ⊢
      rw [← hwant,← hop]; exact e1
     refine xHR hR ho g1 g2 g3 (xDD hna) h2 h3 hFA ?_
     rintro im' io' a' w' u1 u2 u3 u4 ⟨x,rfl,hxq,hxe⟩
     have ne : ∀ j t v B,pl[j]? = some (some (t,v,B)) → j ≠ i := by
      rintro j t v B hj rfl
      obtain ⟨_,_,_,ao,h1,h2⟩ := plAt j t v B hj
      rw [List.getElem?_eq_getElem hia] at h1
      cases h1
      rw [hna] at h2; cases h2
     refine hKA _ _ ⟨im',io',t1.trans u1,u4.trans t2,⟨fun j hj1 hj2 => ?_,u2,by rw [← nextF v e4]; exact u3,⟨ioss,fun j t' v' B' hj hDj => ?_,fun j1 j2 x1 x2 k k' b z z' hne hj1 hj2 hD1 hD2 hk hk' => ?_⟩,nextAl _ x rfl hxq,nextAl2 _ x rfl hxe⟩⟩
     ·have : j ≠ i := by omega
      simp only [xC9 j this]; exact h1 j hj1 hj2
     ·have e := ne j t' v' B' hj
      exact (h4 j t' v' B' hj (by simpa [xC9 j e] using hDj)).step u1 (xDV (privDst j t' v' B' hj e))
     ·obtain ⟨t1',v1,B1⟩ := x1
      obtain ⟨t2',v2,B2⟩ := x2
      exact h5 j1 j2 _ _ k k' b z z' hne hj1 hj2 (by simpa [xC9 j1 (ne j1 _ _ _ hj1)] using hD1) (by simpa [xC9 j2 (ne j2 _ _ _ hj2)] using hD2) hk hk'
   ·obtain ⟨io',u1,u2⟩ := toB _ im io a w (fun j hj hDj => by
     rcases sinks i j (by omega) hiN (by omega) with q | ⟨q | q,_⟩
     ·have hDj' : listed.getD j false = false := hDj
      rw [befDone j q] at hDj'; cases hDj'
     ·exact q.2
     ·omega) t1 h
    exact stepB (.inl (by omega)) im io' u1 t2 u2
  ·exact stepB (.inr h.1) im io t1 t2 h.2
 refine ⟨step,?_⟩
 intro fuel
 induction fuel with
 | zero =>
  intro listed a w hsz hcnt hcl hinv
  have hall : ∀ j,j < ops.size → listed.getD j false = true := by
   intro j hj
   have := xQk (l := listed.toList) (by simpa [hsz] using hcnt) j (by simpa [hsz] using hj)
   rw [Array.getElem?_toList] at this
   rw [Array.getD_eq_getD_getElem?,this]
   rfl
  refine ⟨?_,done listed a w hall hinv⟩
  rw [List.eq_nil_iff_forall_not_mem]
  intro j hj
  obtain ⟨h0,o,ho,_⟩ := mem_ready.1 hj
  have hj' := (Array.getElem?_eq_some_iff.1 ho).1
  rw [xB0 (by omega),hall j hj'] at h0
  cases h0
 | succ fuel ih =>
  intro listed a w hsz hcnt hcl hinv
  refine ⟨fun hr => done listed a w (all_of_ready listed hsz hr) hinv,fun i hi => ?_⟩
  obtain ⟨h0,o,ho,hedges⟩ := mem_ready.1 hi
  have hiN := (Array.getElem?_eq_some_iff.1 ho).1
  have h0' : listed.getD i false = false := by rw [← xB0 (by omega)]; exact h0
  have hsz' : (listed.setIfInBounds i true).size = ops.size := by simpa using hsz
  have hcnt' : fuel + (listed.setIfInBounds i true).toList.count true = ops.size := by
   rw [Array.toList_setIfInBounds,xQj (by simp; omega) (by
    rw [Array.getElem?_toList]
    rw [Array.getD_eq_getD_getElem?,Array.getElem?_eq_getElem (by omega)] at h0'
    rw [Array.getElem?_eq_getElem (by omega)]
    simpa using h0')]
   omega
  have hedges2 : ∀ e,xCJ ops i e = true → listed.getD e false = true := by
   intro e he
   simp only [xCJ,ho,Array.any_eq_true,Bool.and_eq_true,beq_iff_eq] at he
   obtain ⟨q,hq,hb,hon⟩ := he
   have := hedges _ (Array.getElem_mem hq) hb
   rwa [hon] at this
  have hcl' : xCu ops (listed.setIfInBounds i true) := by
   intro d o' ho' hd e he hb
   by_cases q : i = d
   ·subst q
    rw [ho] at ho'; cases ho'
    exact getD_set_true (hedges e he hb)
   ·rw [getD_set_ne false q] at hd
    exact getD_set_true (hcl d o' ho' hd e he hb)
  exact step False _ i listed a w hsz hcl hi (fun a' w' ⟨im,io,t1,t2,h⟩ => ih _ a' w' hsz' hcnt' hcl' ⟨im,io,t1,t2,.inl h⟩) (fun _ a' w' ⟨im,io,t1,t2,h⟩ => ih _ a' w' hsz' hcnt' hcl' ⟨im,io,t1,t2,.inr h⟩)
   (hinv.imp fun im ⟨io,t1,t2,h⟩ => ⟨io,t1,t2,h.imp id fun h => ⟨id,h⟩⟩)
theorem xYi {hs : List (Nat × Nat × Nat)} {als : List (Nat × Nat)} (hR : RecOk chk P R) {ops : Array Oper} {aops : List AOper} {r : Option Nat} {n m : Nat} {ls : List (Nat × Nat × Nat × Nat)} {Q : Exit → Act → World → Prop} {s s1 s' : St} {im0 : Im} {io0 : Io} {w0 : World} {ds : List Deferred}
  (hc : xCQ P ops aops = true) (hok : xCL hs als ls m ops aops = true) {pl : List Pr} (hls : ls.all (apart s'.F) = true) (hfree : xBa R (aops.take m) s = some (s1,pl)) (htail : xA9 R (aops.drop m) (xBJ als pl s1) = some s') (hheld : xFq R hs m (aops.drop m) (xBJ als pl s1) = true)
  (hQ : ∀ im' io' a' w',Step im0 io0 w0 im' io' w' → Sim chk im' io' s'.H w' → FRep im' io' s'.F a' → a'.defers = ds → Q .normal a' w') :
  ∀ (fuel : Nat) (listed : Array Bool) (a : Act) (w : World),listed.size = ops.size → fuel + listed.toList.count true = ops.size → xCu ops listed →
   (∃ im io,Step im0 io0 w0 im io w ∧ a.defers = ds ∧ (InvA als chk w0 m ops.size aops pl s s1 (fun k => listed.getD k false) im io a w ∨ xUu hs als chk R m ops.size (xBj ops ops.size) aops pl s s1 s' (fun k => listed.getD k false) im io a w)) →
   wpAnyIn (Fw r) n P .any ops Q fuel listed a w :=
 (xEF hR hc hok hls hfree htail hheld hQ).2
end
def xUx (o : Oper) : Bool := match o.op with
 | .store .. => true
 | _ => false
def yBB (ops : Array Oper) (i : Nat) : Bool := match ops[i]? with
 | some o => xUx o
 | none => false
def yBC (ops : Array Oper) : List Nat := ((List.range ops.size).filter fun i => !yBB ops i) ++ ((List.range ops.size).filter fun i => yBB ops i)
def xEG (σ : List Nat) (o : Oper) : Oper := { o with after := o.after.map fun e => { e with on := σ.idxOf e.on },guard := o.guard.map fun g => (σ.idxOf g.1,g.2) }
def xBs (σ : List Nat) (ops : Array Oper) : Array Oper := (σ.map fun i => xEG σ (ops.getD i default)).toArray
def xCB (σ : List Nat) (n : Nat) : Bool := σ.length == n && (List.range n).all fun k => σ.contains k && σ.idxOf (σ.getD k 0) == k && decide (σ.getD k 0 < n)
section
variable {P : Program} {ops : Array Oper} {σ : List Nat}
theorem xB1 : (xBs σ ops).size = σ.length := by simp [xBs]
theorem xEf {i : Nat} {o : Oper} (hn : ops.size ≤ σ.length) (hc : σ.contains i = true) (ho : ops[i]? = some o) : (xBs σ ops)[σ.idxOf i]? = some (xEG σ o) := by
 have hm : i ∈ σ := List.contains_iff_mem.1 hc
 have hlt := List.idxOf_lt_length_of_mem hm
 simp only [xBs,List.getElem?_toArray,List.getElem?_map,List.getElem?_eq_getElem hlt,List.getElem_idxOf hlt,Option.map_some]
 rw [Array.getD_eq_getD_getElem?,ho]; rfl
theorem xMO (F : Fence) (n : Nat) (o : Oper) (a : Act) (w : World) (K : Act → World → Prop) (Q : Exit → Act → World → Prop) : (xEG σ o).wpIn F n P a w K Q = o.wpIn F n P a w K Q := rfl
theorem xGH {listed listed' : Array Bool} (hp : xCB σ ops.size = true) (hs : listed.size = ops.size) (hs' : listed'.size = ops.size) (hr : ∀ i,listed.getD i false = listed'.getD (σ.idxOf i) false) {i : Nat} (hi : i < ops.size) :
  i ∈ Region.ready .any ops listed ↔ σ.idxOf i ∈ Region.ready .any (xBs σ ops) listed' := by
 simp only [xCB,Bool.and_eq_true,beq_iff_eq,List.all_eq_true,List.mem_range,decide_eq_true_eq] at hp
 obtain ⟨hlen,hp⟩ := hp
 obtain ⟨⟨hc,_⟩,_⟩ := hp i hi
 have hlt := List.idxOf_lt_length_of_mem (List.contains_iff_mem.1 hc)
 rw [mem_ready,mem_ready,xB0 (by omega),xB0 (by omega),hr i]
 have ho : ops[i]? = some ops[i] := Array.getElem?_eq_getElem hi
 have ho' := xEf (by omega : ops.size ≤ σ.length) hc ho
 refine and_congr Iff.rfl ⟨?_,?_⟩
 ·rintro ⟨o,h1,h2⟩
  rw [ho] at h1; cases h1
  refine ⟨_,ho',fun e he hb => ?_⟩
  simp only [xEG,Array.mem_map] at he
  obtain ⟨e0,he0,rfl⟩ := he
  rw [← hr]
  exact h2 e0 he0 hb
 ·rintro ⟨o,h1,h2⟩
  rw [ho'] at h1; cases h1
  refine ⟨_,ho,fun e he hb => ?_⟩
  rw [hr]
  exact h2 { e with on := σ.idxOf e.on } (by simp only [xEG,Array.mem_map]; exact ⟨e,he,rfl⟩) hb
theorem xMP (hp : xCB σ ops.size = true) {tmps : Array Value} {j : Nat} : yielded (xBs σ ops) tmps (σ.idxOf j) = yielded ops tmps j := by
 simp only [xCB,Bool.and_eq_true,beq_iff_eq,List.all_eq_true,List.mem_range,decide_eq_true_eq] at hp
 obtain ⟨hlen,hp⟩ := hp
 unfold yielded
 have key : ((xBs σ ops)[σ.idxOf j]?).bind (·.dst) = (ops[j]?).bind (·.dst) := by
  by_cases hj : j < ops.size
  ·obtain ⟨⟨hc,_⟩,_⟩ := hp j hj
   rw [xEf (by omega) hc (Array.getElem?_eq_getElem hj),Array.getElem?_eq_getElem hj]
   rfl
  ·rw [Array.getElem?_eq_none (by omega : ops.size ≤ j)]
   by_cases hm : j ∈ σ
   ·obtain ⟨k,hk,e⟩ := List.mem_iff_getElem.1 hm
    have := (hp k (by omega)).2
    simp only [List.getD,List.getElem?_eq_getElem hk,Option.getD_some,e] at this
    omega
   ·rw [List.idxOf_eq_length hm,Array.getElem?_eq_none (by rw [xB1]; exact Nat.le_refl _)]
 rw [key]
theorem xDW {F : Fence} {n : Nat} {Q : Exit → Act → World → Prop} (hp : xCB σ ops.size = true) : ∀ (fuel : Nat) (listed listed' : Array Bool) (a : Act) (w : World),listed.size = ops.size → listed'.size = ops.size → (∀ i,listed.getD i false = listed'.getD (σ.idxOf i) false) →
  wpAnyIn F n P .any (xBs σ ops) Q fuel listed' a w → wpAnyIn F n P .any ops Q fuel listed a w := by
 have hp0 := hp
 simp only [xCB,Bool.and_eq_true,beq_iff_eq,List.all_eq_true,List.mem_range,decide_eq_true_eq] at hp
 obtain ⟨hlen,hp⟩ := hp
 have lt_of : ∀ (listed : Array Bool) i,i ∈ Region.ready .any ops listed → i < ops.size := fun listed i hi => by
  obtain ⟨_,o,ho,_⟩ := mem_ready.1 hi
  exact (Array.getElem?_eq_some_iff.1 ho).1
 have lt_of' : ∀ (listed : Array Bool) i,i ∈ Region.ready .any (xBs σ ops) listed → i < ops.size := fun listed i hi => by
  obtain ⟨_,o,ho,_⟩ := mem_ready.1 hi
  have := (Array.getElem?_eq_some_iff.1 ho).1
  rw [xB1] at this; omega
 have empty : ∀ (listed listed' : Array Bool),listed.size = ops.size → listed'.size = ops.size → (∀ i,listed.getD i false = listed'.getD (σ.idxOf i) false) → (Region.ready .any ops listed = [] ↔ Region.ready .any (xBs σ ops) listed' = []) := by
  intro listed listed' hs hs' hr
  simp only [List.eq_nil_iff_forall_not_mem]
  constructor
  ·intro h j hj
   have hj' := lt_of' _ j hj
   obtain ⟨⟨_,h1⟩,h2⟩ := hp j hj'
   refine h (σ.getD j 0) ((xGH hp0 hs hs' hr h2).2 ?_)
   rw [h1]; exact hj
  ·intro h i hi
   exact h _ ((xGH hp0 hs hs' hr (lt_of _ i hi)).1 hi)
 intro fuel
 induction fuel with
 | zero =>
  intro listed listed' a w hs hs' hr h
  exact ⟨(empty listed listed' hs hs' hr).2 h.1,h.2⟩
 | succ fuel ih =>
  intro listed listed' a w hs hs' hr h
  refine ⟨fun hq => h.1 ((empty listed listed' hs hs' hr).1 hq),fun i hi => ?_⟩
  have hi' := lt_of _ i hi
  obtain ⟨⟨hc,_⟩,_⟩ := hp i hi'
  have h2 := h.2 _ ((xGH hp0 hs hs' hr hi').1 hi)
  unfold wpOpIn at h2 ⊢
  rw [xEf (by omega) hc (Array.getElem?_eq_getElem hi')] at h2
  rw [Array.getElem?_eq_getElem hi']
  simp only at h2 ⊢
  have xC9 : ∀ k,(listed.setIfInBounds i true).getD k false = (listed'.setIfInBounds (σ.idxOf i) true).getD (σ.idxOf k) false := by
   intro k
   by_cases e : i = k
   ·subst e
    have l1 := List.idxOf_lt_length_of_mem (List.contains_iff_mem.1 hc)
    simp [hs,hs',hi',(by omega : σ.idxOf i < ops.size)]
   ·have e' : σ.idxOf i ≠ σ.idxOf k := by
     intro q
     have l1 := List.idxOf_lt_length_of_mem (List.contains_iff_mem.1 hc)
     have l2 : σ.idxOf k < σ.length := by omega
     have g1 := List.getElem_idxOf l1
     have g2 := List.getElem_idxOf l2
     simp only [q] at g1
     exact e (g1.symm.trans g2)
    rw [getD_set_ne false e,getD_set_ne false e',hr]
  have hk : ∀ a w,wpAnyIn F n P .any (xBs σ ops) Q fuel (listed'.setIfInBounds (σ.idxOf i) true) a w → wpAnyIn F n P .any ops Q fuel (listed.setIfInBounds i true) a w :=
   fun a w => ih _ _ a w (by simpa using hs) (by simpa using hs') xC9
  have hw : Region.wanted (xEG σ ops[i]) (yielded (xBs σ ops) a.tmps) = Region.wanted ops[i] (yielded ops a.tmps) := by
   unfold Region.wanted xEG
   cases hg : ops[i].guard with
   | none => rfl
   | some g =>
    obtain ⟨j,b⟩ := g
    simp only [Option.map_some,xMP hp0]
  rw [hw] at h2
  split
  ·rename_i q
   rw [if_pos q,xMO] at h2
   exact Oper.wpIn_mono hk h2
  ·rename_i q
   rw [if_neg q] at h2
   exact ⟨h2.1,hk _ _ h2.2⟩
end
def yDk (o : Oper) : Bool := match o.op with
 | .makeSlice .. | .buildSlice .. => true
 | .call { callee := .builtin .append,.. } => true
 | _ => false
def yDl (ops : Array Oper) (i : Nat) : Bool := match ops[i]? with
 | some o => (match o.op with
  | .call { callee := .builtin .append,args := xs,.. } => (match xs.toList with
   | .tmp t :: _ => ops.toList.any fun o' => o'.dst == some t && yDk o'
   | _ => false)
  | _ => false)
 | none => false
def xYj (ops : Array Oper) : List Nat :=
 let rs := xBj ops ops.size
 let hv (i : Nat) : Bool := yBB ops i || yDl ops i
 let S (i : Nat) : Bool := hv i || (List.range ops.size).any fun d => hv d && xEc rs i d
 ((List.range ops.size).filter fun i => !S i) ++ ((List.range ops.size).filter S)
def yDm (ops : Array Oper) (i : Nat) : Bool := match ops[i]? with
 | some o => (match o.op,o.dst with
  | .call { callee := .value _,.. },some t => ops.toList.any fun o' => match o'.op with
   | .call { callee := .builtin .append,args := xs,.. } => (match xs.toList with
    | .tmp t' :: _ => t' == t
    | _ => false)
   | _ => false
  | _,_ => false)
 | none => false
def yBD (ops : Array Oper) : List Nat :=
 let rs := xBj ops ops.size
 let hv (i : Nat) : Bool := yBB ops i || yDl ops i || yDm ops i
 let S (i : Nat) : Bool := hv i || (List.range ops.size).any fun d => hv d && xEc rs i d
 ((List.range ops.size).filter fun i => !S i) ++ ((List.range ops.size).filter S)
def xZ1 (ops : Array Oper) (i : Nat) : Bool := match ops[i]? with
 | some o => (match o.op with
  | .call { callee := .builtin .append,.. } => true
  | _ => false)
 | none => false
def yBE (ops : Array Oper) (i : Nat) : Bool := match ops[i]? with
 | some o => (match o.op with
  | .fieldAddr .. => true
  | _ => false)
 | none => false
def xFY (ops : Array Oper) (rs : List (List Nat)) : Nat → List Nat → List Nat
 | 0,l => l
 | n + 1,l => match (match l.find? fun i => yBE ops i && l.all fun j => !xEc rs i j with | some i => some i | none => l.head?) with
  | some i => i :: xFY ops rs n (l.filter fun j => j != i)
  | none => []
def yBF (ops : Array Oper) : List Nat :=
 let rs := xBj ops ops.size
 let hv (i : Nat) : Bool := yBB ops i || xZ1 ops i
 let S (i : Nat) : Bool := hv i || (List.range ops.size).any fun d => hv d && xEc rs i d
 ((List.range ops.size).filter fun i => !S i) ++ xFY ops rs ops.size ((List.range ops.size).filter S)
def yDn (ops : Array Oper) (i : Nat) : Bool := match ops[i]? with
 | some o => (match o.op with
  | .call { callee := .builtin .append,.. } => true
  | .call { callee := .value _,.. } => true
  | .buildSlice .. => true
  | _ => false)
 | none => false
def yDo (ops : Array Oper) : List Nat :=
 let rs := xBj ops ops.size
 let hv (i : Nat) : Bool := yBB ops i || yDn ops i
 let S (i : Nat) : Bool := hv i || (List.range ops.size).any fun d => hv d && xEc rs i d
 ((List.range ops.size).filter fun i => !S i) ++ xFY ops rs ops.size ((List.range ops.size).filter S)
def yBG (ops : Array Oper) (i : Nat) : Bool := match ops[i]? with
 | some o => (match o.op with
  | .buildSlice _ 0 _ => true
  | _ => false)
 | none => false
def yDp (ops : Array Oper) : List Nat :=
 let rs := xBj ops ops.size
 let hv (i : Nat) : Bool := yBB ops i || xZ1 ops i || yBG ops i
 let S (i : Nat) : Bool := hv i || (List.range ops.size).any fun d => hv d && xEc rs i d
 ((List.range ops.size).filter fun i => !S i) ++ xFY ops rs ops.size ((List.range ops.size).filter S)
def xEH (hs : List (Nat × Nat × Nat)) (als : List (Nat × Nat)) (P : Program) (σ : List Nat) (ops : Array Oper) (ls : List (Nat × Nat × Nat × Nat)) (m : Nat) (aops : List AOper) : Bool :=
 xCB σ ops.size && xCQ P (xBs σ ops) aops && xCL hs als ls m (xBs σ ops) aops
def xEI (hs : List (Nat × Nat × Nat)) (als : List (Nat × Nat)) (P : Program) (ops : Array Oper) (ls : List (Nat × Nat × Nat × Nat)) (m : Nat) (aops : List AOper) : Bool :=
 (xCQ P ops aops && xCL hs als ls m ops aops) || xEH hs als P (yBC ops) ops ls m aops || xEH hs als P (xYj ops) ops ls m aops || xEH hs als P (yBD ops) ops ls m aops || xEH hs als P (yBF ops) ops ls m aops || xEH hs als P (yDo ops) ops ls m aops || xEH hs als P (yDp ops) ops ls m aops
def xL5 : AOp → Bool
 | .box (.c v) => (xAT v && v.cells.all xAM) && v.cells.all AV.isCell
 | _ => false
def xHV (m : Nat) (aops : List AOper) : Bool := (aops.take m).all fun ao => !xBe ao.op || (xL5 ao.op && ao.guard.isNone && ao.dst.isSome)
section
variable {chk : Code → ACode → Bool} {P : Program} {o : Oper} {a : Act} {im : Im} {io : Io} {H H' : Heap} {w : World} {F : List AV} {R : Rec} {v : AV}
theorem xCV : ∀ (aops : List AOper) (s s1 : St) (pl : List Pr),xBa R aops s = some (s1,pl) → s1.F.length = s.F.length
 | [],s,s1,pl,h => by simp only [xBa] at h; cases h; rfl
 | ao :: rest,s,s1,pl,h => by
  simp only [xBa] at h
  split at h
  ·split at h
   ·simp only [Option.map_eq_some_iff] at h
    obtain ⟨⟨s2,l2⟩,h2,e⟩ := h
    cases e
    rw [xCV rest _ _ _ h2]; simp
   ·cases h
  ·split at h
   ·cases h
   rename_i s' h1
   obtain ⟨v,_,rfl⟩ := xFV h1
   simp only [Option.map_eq_some_iff] at h
   obtain ⟨⟨s2,l2⟩,h2,e⟩ := h
   cases e
   rw [xCV rest _ _ _ h2,xBC]
theorem xEJ : ∀ (aops : List AOper) (s s1 : St),(aops.all fun ao => !xBe ao.op || (xL5 ao.op && ao.guard.isNone && ao.dst.isSome)) = true → xBO R aops s = some s1 →
  ∃ pl,xBa R aops s = some (s1,pl) ∧ ∀ s2,adoptL pl s2 = adopt aops s2
 | [],s,s1,_,h => by
  simp only [xBO] at h; cases h
  exact ⟨[],rfl,fun _ => rfl⟩
 | ao :: rest,s,s1,hc,h => by
  simp only [List.all_cons,Bool.and_eq_true,Bool.or_eq_true,Bool.not_eq_true'] at hc
  obtain ⟨hc,hrest⟩ := hc
  simp only [xBO] at h
  split at h
  ·cases h
  rename_i s' h1
  obtain ⟨pl,p1,p2⟩ := xEJ rest s' s1 hrest h
  cases hp : xBe ao.op with
  | false =>
   refine ⟨none :: pl,?_,fun s2 => ?_⟩
   ·simp only [xBa,hp,Bool.false_eq_true,if_false,h1,p1,Option.map_some]
   ·have e0 : xAd ao.op s2.H.length = none := by
     have := xDD hp
     cases q : xAd ao.op s2.H.length with
     | none => rfl
     | some y =>
      cases hop : ao.op with
      | box x => rw [hop] at hp; cases hp
      | _ => rw [hop] at q; simp [xAd] at q
    simp only [adoptL,adopt,e0]
    exact p2 s2
  | true =>
   rcases hc with hc | ⟨⟨hb,hg⟩,hd⟩
   ·rw [hp] at hc; cases hc
   ·cases hop : ao.op with
    | box x =>
     cases x with
     | t i => rw [hop] at hb; cases hb
     | c v =>
      rw [hop] at hb
      simp only [xL5,Bool.and_eq_true] at hb
      obtain ⟨⟨hdv,hall⟩,hcl⟩ := hb
      cases hdst : ao.dst with
      | none => rw [hdst] at hd; cases hd
      | some t =>
       have hgn : ao.guard = none := by simpa using hg
       have hpv : xDh R s.F (.box (.c v)) = some (.ptr 0 0,[.cells false false v.cells]) := by
        simp [xDh,AOp.args,opv,hdv,xAg,hcl,xBm,xBl,xBk,xEW,hall]
       have hs' : s' = ⟨s.F.set t .any,s.H⟩ := by
        simp only [xBq,hgn,xCt,hop,xA7,hcl,if_true,Option.map_some,Option.some.injEq] at h1
        rw [← h1,hdst]; rfl
       refine ⟨some (t,.ptr 0 0,[.cells false false v.cells]) :: pl,?_,fun s2 => ?_⟩
       ·subst hs'
        simp only [xBa,hop,xBe,if_true,hdst,hpv,xCN,p1,Option.map_some]
       ·simp only [adoptL,adopt,hop,xAd,hdst,xAP,xAS,xAN,putA,Nat.add_zero]
        exact p2 _
    | _ => rw [hop] at hb; cases hb
theorem xQ0 {hs : List (Nat × Nat × Nat)} {als : List (Nat × Nat)} (hR : RecOk chk P R) {ops : Array Oper} {aops : List AOper} {r : Option Nat} {n m : Nat} {ls : List (Nat × Nat × Nat × Nat)} {Q : Exit → Act → World → Prop} (hc : xCQ P ops aops = true) (hok : xCL hs als ls m ops aops = true) {s s1 s' : St} {pl : List Pr} (hls : ls.all (apart s'.F) = true)
  (hfree : xBa R (aops.take m) s = some (s1,pl)) (htail : xA9 R (aops.drop m) (xBJ als pl s1) = some s') (hheld : xFq R hs m (aops.drop m) (xBJ als pl s1) = true) (hS : Sim chk im io s.H w) (hF : FRep im io s.F a)
  (hQ : ∀ im' io' a' w',Step im io w im' io' w' → Sim chk im' io' s'.H w' → FRep im' io' s'.F a' → a'.defers = a.defers → Q .normal a' w') : wpAnyIn (Fw r) n P .any ops Q ops.size (Array.replicate ops.size false) a { w with drawn := w.drawn + 1 } := by
 have hw1 : Step im io w im io { w with drawn := w.drawn + 1 } := Step.world rfl rfl rfl (Nat.le_refl _) (fun _ _ => rfl)
 refine xYi hR hc hok hls hfree htail hheld (im0 := im) (io0 := io) (w0 := w) (ds := a.defers) hQ ops.size _ a _ (by simp) (by simp [List.count_replicate]) (fun d o _ hd => by rw [getD_replicate_false] at hd; cases hd) ?_
 refine ⟨im,io,hw1,rfl,.inl ⟨fun j _ _ => getD_replicate_false _ _,hS.world (Nat.le_refl _) (fun _ _ => rfl),?_,⟨fun _ => [],fun i t v B _ hD => (by have hD' : (Array.replicate ops.size false).getD i false = true := hD; rw [getD_replicate_false] at hD'; cases hD'),fun i j x y k k' b z z' _ _ _ hD => (by have hD' : (Array.replicate ops.size false).getD i false = true := hD; rw [getD_replicate_false] at hD'; cases hD')⟩,fun d q i _ _ _ _ _ hD => (by have hD' : (Array.replicate ops.size false).getD i false = true := hD; rw [getD_replicate_false] at hD'; cases hD'),fun d q i _ _ _ _ _ hD => (by have hD' : (Array.replicate ops.size false).getD i false = true := hD; rw [getD_replicate_false] at hD'; cases hD')⟩⟩
 have : mix (aops.take m) (fun k => (Array.replicate ops.size false).getD k false) s.F s1.F = s.F := by
  have hlen := xCV _ _ _ _ hfree
  refine xCy (by rw [xBL]) (fun t => ?_)
  rw [xC7 _ _ _ _ _ hlen,if_neg]
  simp only [hit,List.any_eq_true,List.mem_range,Bool.and_eq_true,not_exists,not_and]
  intro d _ hd
  rw [getD_replicate_false] at hd
  cases hd
 rw [this]
 exact hF
theorem xDk {hs : List (Nat × Nat × Nat)} {als : List (Nat × Nat)} (hR : RecOk chk P R) {ops : Array Oper} {aops : List AOper} {r : Option Nat} {n m : Nat} {Q : Exit → Act → World → Prop} {σ : List Nat}
  {ls : List (Nat × Nat × Nat × Nat)} (hc : xEH hs als P σ ops ls m aops = true) {s s1 s' : St} {pl : List Pr} (hls : ls.all (apart s'.F) = true)
  (hfree : xBa R (aops.take m) s = some (s1,pl)) (htail : xA9 R (aops.drop m) (xBJ als pl s1) = some s') (hheld : xFq R hs m (aops.drop m) (xBJ als pl s1) = true) (hS : Sim chk im io s.H w) (hF : FRep im io s.F a)
  (hQ : ∀ im' io' a' w',Step im io w im' io' w' → Sim chk im' io' s'.H w' → FRep im' io' s'.F a' → a'.defers = a.defers → Q .normal a' w') : wpAnyIn (Fw r) n P .any ops Q ops.size (Array.replicate ops.size false) a { w with drawn := w.drawn + 1 } := by
 simp only [xEH,Bool.and_eq_true] at hc
 obtain ⟨⟨hp,hc⟩,hok⟩ := hc
 have hsz : (xBs σ ops).size = ops.size := by
  have := xB1 (σ := σ) (ops := ops)
  simp only [xCB,Bool.and_eq_true,beq_iff_eq] at hp
  rw [this,hp.1]
 refine xDW hp ops.size _ (Array.replicate ops.size false) a _ (by simp) (by simp) (fun i => ?_) (by
  have := xQ0 hR (r := r) (n := n) hc hok hls hfree htail hheld hS hF hQ
  rw [hsz] at this
  exact this)
 rw [getD_replicate_false,getD_replicate_false]
theorem xQ1 {hs : List (Nat × Nat × Nat)} {als : List (Nat × Nat)} (hR : RecOk chk P R) (hmix : P.follows .mixedOrders = true) {ops : Array Oper} {aops : List AOper} {r : Option Nat} {n id m : Nat} {Q : Exit → Act → World → Prop}
  {ls : List (Nat × Nat × Nat × Nat)} (hc : xEI hs als P ops ls m aops = true) {s s1 s' : St} {pl : List Pr} (hls : ls.all (apart s'.F) = true)
  (hfree : xBa R (aops.take m) s = some (s1,pl)) (htail : xA9 R (aops.drop m) (xBJ als pl s1) = some s') (hheld : xFq R hs m (aops.drop m) (xBJ als pl s1) = true) (hS : Sim chk im io s.H w) (hF : FRep im io s.F a)
  (hQ : ∀ im' io' a' w',Step im io w im' io' w' → Sim chk im' io' s'.H w' → FRep im' io' s'.F a' → a'.defers = a.defers → Q .normal a' w') : (Code.region id ops true).wpIn (Fw r) n P Q a w := by
 refine wpIn_region_any hmix ?_
 simp only [xEI,Bool.or_eq_true,Bool.and_eq_true] at hc
 rcases hc with (((((⟨hc,hok⟩ | hc) | hc) | hc) | hc) | hc) | hc
 ·exact xQ0 hR hc hok hls hfree htail hheld hS hF hQ
 ·exact xDk hR hc hls hfree htail hheld hS hF hQ
 ·exact xDk hR hc hls hfree htail hheld hS hF hQ
 ·exact xDk hR hc hls hfree htail hheld hS hF hQ
 ·exact xDk hR hc hls hfree htail hheld hS hF hQ
 ·exact xDk hR hc hls hfree htail hheld hS hF hQ
 ·exact xDk hR hc hls hfree htail hheld hS hF hQ
theorem xDX {R : Rec} : ∀ (ops : List AOper) (k : Nat) (s : St),xFq R [] k ops s = true
 | [],_,_ => rfl
 | o :: rest,k,s => by
  simp only [xFq]
  split
  ·rfl
  ·simp only [List.all_nil,Bool.true_and]
   exact xDX rest (k + 1) _
theorem xQ2 {als : List (Nat × Nat)} (hR : RecOk chk P R) (hmix : P.follows .mixedOrders = true) {ops : Array Oper} {aops : List AOper} {r : Option Nat} {n id m : Nat} {Q : Exit → Act → World → Prop}
  {ls : List (Nat × Nat × Nat × Nat)} (hc : xEI [] als P ops ls m aops = true) {s s1 s' : St} {pl : List Pr} (hls : ls.all (apart s'.F) = true)
  (hfree : xBa R (aops.take m) s = some (s1,pl)) (htail : xA9 R (aops.drop m) (xBJ als pl s1) = some s') (hs : Sim chk im io s.H w) (hF : FRep im io s.F a)
  (hQ : ∀ im' io' a' w',Step im io w im' io' w' → Sim chk im' io' s'.H w' → FRep im' io' s'.F a' → a'.defers = a.defers → Q .normal a' w') : (Code.region id ops true).wpIn (Fw r) n P Q a w :=
 xQ1 (hs := []) hR hmix hc hls hfree htail (xDX _ _ _) hs hF hQ
theorem xUy (hR : RecOk chk P R) (hmix : P.follows .mixedOrders = true) {ops : Array Oper} {aops : List AOper} {r : Option Nat} {n id m : Nat} {Q : Exit → Act → World → Prop}
  {ls : List (Nat × Nat × Nat × Nat)} (hc : xEI [] [] P ops ls m aops = true) (hpl : xHV m aops = true) {s s1 s' : St} (hls : ls.all (apart s'.F) = true)
  (hfree : xBO R (aops.take m) s = some s1) (htail : xA9 R (aops.drop m) (adopt (aops.take m) s1) = some s') (hs : Sim chk im io s.H w) (hF : FRep im io s.F a)
  (hQ : ∀ im' io' a' w',Step im io w im' io' w' → Sim chk im' io' s'.H w' → FRep im' io' s'.F a' → a'.defers = a.defers → Q .normal a' w') : (Code.region id ops true).wpIn (Fw r) n P Q a w := by
 obtain ⟨pl,h1,h2⟩ := xEJ _ _ _ hpl hfree
 exact xQ2 hR hmix hc hls h1 (by show xA9 R _ (adoptL pl s1) = _; rw [h2]; exact htail) hs hF hQ
end
end Go.Abs
