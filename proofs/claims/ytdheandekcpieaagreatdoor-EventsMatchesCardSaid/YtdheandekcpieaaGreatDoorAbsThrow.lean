/- Runs that end in a panic. -/
import Derived.Test.YtdheandekcpieaaGreatDoorAbsFix
namespace Go.Abs
set_option linter.unusedVariables false
set_option linter.unusedSimpArgs false
open Go.RowKit
inductive TCode where
 | no
 | seq (x : ACode) (a b : TCode)
 | cond (c : Arg) (a b : TCode)
 | block (b : TCode)
 | scope (b : TCode)
 | loop (scr : List Nat) (x : ACode) (b : TCode)
 | call (pre : List AOper) (g : Nat) (args : List Arg)
 | dcall (pre : List AOper) (g : Nat) (args : List Arg)
 | thr (pre : List AOper) (t T : Nat) (x : Arg)
structure TFunc where
 ntmps : Nat
 code : TCode
def xCl (R : Rec) (call : Nat → List AV → Heap → Option (Nat × AV × Heap)) : Nat → TCode → St → Option (Nat × AV × St)
 | 0,_,_ => none
 | n + 1,c,s => match c with
  | .no => none
  | .seq x a b => match xCl R call n a s with
   | some v => some v
   | none => match run R x s with
    | some (.normal,s') => xCl R call n b s'
    | _ => none
  | .cond c a b => match opv s.F c with
   | .bool t => if t then xCl R call n a s else xCl R call n b s
   | _ => none
  | .block b => xCl R call n b s
  | .scope b => xCl R call n b s
  | .loop scr x b => match xCl R call n b ⟨xAq scr s.F,s.H⟩ with
   | some v => some v
   | none => match run R x ⟨xAq scr s.F,s.H⟩ with
    | some (.normal,s') => xCl R call n (.loop scr x b) s'
    | _ => none
  | .call pre g args => match xAy R pre s with
   | some s' => (call g (args.map (opv s'.F)) s'.H).map fun (T,v,H') => (T,v,⟨s'.F,H'⟩)
   | none => none
  | .dcall pre g args => match xAT R pre s with
   | some (s',_) => (call g (args.map (opv s'.F)) s.H).map fun (T,v,H') => (T,v,⟨List.replicate s.F.length .any,H'⟩)
   | none => none
  | .thr pre t T x => match xAy R pre s with
   | some s' => if t < s'.F.length ∧ xAA (opv s'.F x) = true then some (T,opv s'.F x,⟨s'.F.set t .any,s'.H⟩) else none
   | none => none
def xJZ (R : Rec) (tp : Nat → Option TFunc) : Nat → Nat → List AV → Heap → Option (Nat × AV × Heap)
 | 0,_,_,_ => none
 | n + 1,f,args,H => match tp f with
  | some tf => (xCl R (xJZ R tp n) 10000 tf.code ⟨args ++ List.replicate (tf.ntmps - args.length) (.tup []),H⟩).map fun (T,v,s) => (T,v,s.H)
  | none => none
def xH1 (P : Program) (ops : Array Oper) (pre : List AOper) : Bool := decide (pre.length ≤ ops.size) && (ops.toList.zip pre).all fun p => xFB P ops p.1 p.2
def xGH (P : Program) (T : TypeId) : Bool := match P.underlying T with
 | some (.interface _) => false
 | some _ => true
 | none => false
def xX3 (P : Program) (ops : Array Oper) (k t T : Nat) (x : Arg) : Bool :=
 (match ops[k]? with
  | some o => (match o.op with
   | .makeInterface T' x' => T' == T && xAt x' x && o.dst == some t && o.guard.isNone && xGH P T
   | _ => false)
  | none => false) &&
 (match ops[k + 1]? with
  | some o => (match o.op with
   | .panic (.tmp t') => t' == t && o.guard.isNone
   | _ => false)
  | none => false)
def xZr (ops : Array Oper) (pre : List AOper) (args : List Arg) : Bool :=
 (List.range pre.length).all (fun i => match pre[i]? with
  | some ao => ao.guard.isNone && !xBi ao.op && (List.range pre.length).all fun j => (i == j || ao.dst.isNone || xAr pre j != ao.dst) &&
    (!(ao.op.args.any fun x => match x with | .t t => xAr pre j == some t | .c _ => false) || (xBw ops i j && decide (j < i)))
  | none => false) &&
 (List.range pre.length).all (fun j => !(args.any fun x => match x with | .t t => xAr pre j == some t | .c _ => false) || xBw ops pre.length j) &&
 (List.range (pre.length + 1)).all (fun i => match ops[i]? with
  | some o => o.after.all fun e => !Region.binds .any e || decide (e.on < i)
  | none => false) &&
 (List.range ops.size).all (fun j => decide (j ≤ pre.length) || xBw ops j pre.length)
def xH2 (P : Program) : Code → TCode → Bool
 | _,.no => true
 | .seq a b,.seq x p q => xAl P a x && xH2 P a p && xH2 P b q
 | .cond c a b,.cond z p q => xAt c z && xH2 P a p && xH2 P b q
 | .block _ b,.block q => xH2 P b q
 | .scope b,.scope q => xH2 P b q
 | .loop b,.loop _ x q => xAl P b x && xH2 P b q
 | .region _ ops false,.call pre g args => xH1 P ops pre && (match ops[pre.length]? with
   | some o => xAp P o (.call g args) && o.guard.isNone
   | none => false)
 | .region _ ops true,.dcall pre g args => xH1 P ops pre && xZr ops pre args && (match ops[pre.length]? with
   | some o => xAp P o (.call g args) && o.guard.isNone
   | none => false)
 | .region _ ops false,.thr pre t T x => xH1 P ops pre && xX3 P ops pre.length t T x
 | _,_ => false
def yBT (P : Program) (im : Im) (io : Io) (w : World) (T : Nat) (v : AV) (H' : Heap) (e : Ending) (w' : World) : Prop :=
 ∃ x im' io',e = .panicked [{ v := .iface T x,recovered := false }] ∧ xAA v = true ∧ Rep im' io' v x ∧ Step im io w im' io' w' ∧ Sim (xAl P) im' io' H' w'
def xGI (P : Program) (C : Nat → List AV → Heap → Option (Nat × AV × Heap)) : Prop :=
 ∀ g args H T v H',C g args H = some (T,v,H') → (∀ (vs : Array Value) w,(callFunc g vs).run P w = .ok (.enter g vs) w) ∧
  ∀ n im io w vs,Sim (xAl P) im io H w → Reps im io args vs → CallsIn (Fw none) n P g vs.toArray w (yBT P im io w T v H')
def TPost (P : Program) (B : Mk) (im : Im) (io : Io) (w : World) (T : Nat) (v : AV) (s' : St) : Exit → Act → World → Prop := fun e a' w' =>
 ∃ x im' io',e = .panic [{ v := .iface T x,recovered := false }] ∧ xAA v = true ∧ Rep im' io' v x ∧ Step im io w im' io' w' ∧ Sim (xAl P) im' io' s'.H w' ∧ FRep im' io' s'.F a' ∧ MarksOk B im' io' w' a'.defers
section
variable {P : Program} {o : Oper} {a : Act} {s' : St} {im im' : Im} {io io' : Io} {H H' : Heap} {w w' : World} {F : List AV} {R : Rec} {v : AV}
theorem TPost.later {B : Mk} {T : Nat} {e' : Exit} {a' : Act} {w2 : World} (hs : Step im io w im' io' w') (h : TPost P B im' io' w' T v s' e' a' w2) : TPost P B im io w T v s' e' a' w2 := by
 obtain ⟨x,im2,io2,h1,h2,h3,h4,h5⟩ := h
 exact ⟨x,im2,io2,h1,h2,h3,hs.trans h4,h5⟩
theorem xJ0 {ops : Array Oper} {aops : List AOper} (h : xH1 P ops aops = true) :
  aops.length ≤ ops.size ∧ ∀ (i : Nat) (o : Oper) (ao : AOper),ops[i]? = some o → aops[i]? = some ao → xFB P ops o ao = true := by
 simp only [xH1,Bool.and_eq_true,decide_eq_true_eq,List.all_eq_true] at h
 refine ⟨h.1,fun i o ao h1 h2 => h.2 (o,ao) ?_⟩
 refine List.mem_of_getElem? (i := i) ?_
 rw [List.getElem?_zip_eq_some]
 exact ⟨by simpa using h1,h2⟩
theorem xX4 (hR : RecOk (xAl P) P R) {ops : Array Oper} {aops : List AOper} {r : Option Nat} {n : Nat} {Q : Exit → Act → World → Prop} (hc : xH1 P ops aops = true) :
  ∀ (d k : Nat) (s s' : St) (im : Im) (io : Io) (a : Act) (w : World),k + d = aops.length → xAy R (aops.drop k) s = some s' → Sim (xAl P) im io s.H w → FRep im io s.F a →
   (∀ im' io' a' w',Step im io w im' io' w' → Sim (xAl P) im' io' s'.H w' → FRep im' io' s'.F a' → a'.defers = a.defers → wpOpsIn (Fw r) n P ops Q (List.range' aops.length (ops.size - aops.length)) a' w') →
   wpOpsIn (Fw r) n P ops Q (List.range' k (ops.size - k)) a w := by
 obtain ⟨hlen,xNt⟩ := xJ0 hc
 intro d
 induction d with
 | zero =>
  intro k s s' im io a w hk hrun hs hF hQ
  rw [List.drop_eq_nil_of_le (by omega)] at hrun
  simp only [xAy] at hrun; cases hrun
  obtain rfl : k = aops.length := by omega
  exact hQ im io a w (.refl _ _ _) hs hF rfl
 | succ d ih =>
  intro k s s' im io a w hk hrun hs hF hQ
  have hlt2 : k < aops.length := by omega
  have hlt : k < ops.size := by omega
  rw [List.drop_eq_getElem_cons hlt2] at hrun
  simp only [xAy] at hrun
  split at hrun
  ·cases hrun
  rename_i s1 h1
  have hch := xNt k ops[k] aops[k] (Array.getElem?_eq_getElem hlt) (List.getElem?_eq_getElem hlt2)
  simp only [xFB,Bool.and_eq_true,beq_iff_eq] at hch
  obtain ⟨⟨g1,g2⟩,g3⟩ := hch
  have e1 : ops.size - k = (ops.size - (k + 1)) + 1 := by omega
  rw [e1,List.range'_succ,wpOpsIn_cons]
  unfold wpOpIn
  simp only [Array.getElem?_eq_getElem hlt]
  unfold xAN at h1
  split at h1
  ·cases h1
  ·rename_i hw
   cases h1
   rw [xBR g3 hF hw]
   simp only [Bool.false_eq_true,if_false]
   refine ⟨fun f _ => trivial,?_⟩
   refine ih (k + 1) _ s' im io _ w (by omega) hrun hs ((hF.put (aops[k]).dst (.tup (vs := []) rfl (fun i c v h => by simp at h)))) ?_ |> fun hh => by rw [g1]; exact hh
   intro im' io' a' w' t1 t2 t3 t4
   exact hQ im' io' a' w' t1 t2 t3 (t4.trans (xAK _ _ _))
  ·rename_i hw
   simp only [Option.map_eq_some_iff] at h1
   obtain ⟨⟨v,H1⟩,h1,rfl⟩ := h1
   rw [xBR g3 hF hw]
   simp only [if_true]
   refine Oper.wpIn_mono ?_ (xG2 hR g2 hs hF h1 Q)
   rintro a' w' ⟨im',io',t1,t2,t3,t4,_⟩
   rw [g1] at t3
   refine ih (k + 1) _ s' im' io' a' w' (by omega) hrun t2 t3 ?_
   intro im'' io'' a'' w'' u1 u2 u3 u4
   exact hQ im'' io'' a'' w'' (t1.trans u1) u2 u3 (u4.trans t4)
theorem xDc {tmps : Array Value} {ops : Array Oper} (hg : o.guard.isNone = true) : Region.wanted o (yielded ops tmps) = true := by
 simp at hg
 simp [Region.wanted,hg]
theorem xKQ {T : TypeId} (h : xGH P T = true) : ∃ d,P.underlying T = some d ∧ ∀ ms,d ≠ .interface ms := by
 unfold xGH at h
 split at h
 ·cases h
 ·rename_i d hne hd
  exact ⟨d,hd,fun ms e => hne ms e⟩
 ·cases h
theorem xKR {T : TypeId} {x : Value} (h : xGH P T = true) : (Instr.makeInterface T x).run P w = .ok (.iface T x) w := by
 obtain ⟨d,h1,h2⟩ := xKQ h
 unfold Instr.makeInterface
 simp only [Sem.run_bind,run_underlying h1,Result.andThen]
 cases d <;> first | rfl | exact (h2 _ rfl).elim
theorem xDd {ops : Array Oper} {listed : Array Bool} {i j : Nat} (h : xBw ops i j = true) (hi : i ∈ Region.ready .any ops listed) : listed.getD j false = true := by
 obtain ⟨_,o,ho,he⟩ := mem_ready.1 hi
 unfold xBw at h
 rw [ho] at h
 simp only [Array.any_eq_true',Bool.and_eq_true,beq_iff_eq] at h
 obtain ⟨e,h1,h2,rfl⟩ := h
 exact he e h1 h2
theorem xWs (hR : RecOk (xAl P) P R) (hmix : P.follows .mixedOrders = true) {C : Nat → List AV → Heap → Option (Nat × AV × Heap)} (hC : xGI P C) {id n T : Nat} {B : Mk} {ops : Array Oper} {pre : List AOper} {g : Nat} {args : List Arg} {s s1 : St} {pl : List Pr}
  (hc0 : xH1 P ops pre = true) (hc1 : xZr ops pre args = true) (ho : ops[pre.length]? = some o) (hc2 : xAp P o (.call g args) = true) (hg : o.guard.isNone = true)
  (h1 : xAT R pre s = some (s1,pl)) (h : C g (args.map (opv s1.F)) s.H = some (T,v,H')) (hs : Sim (xAl P) im io s.H w) (hF : FRep im io s.F a) (hm : MarksOk B im io w a.defers) (hB : B.1 ≤ w.heap.size) :
  (Code.region id ops true).wpIn (Fw none) n P (TPost P B im io w T v ⟨List.replicate s.F.length .any,H'⟩) a w := by
 obtain ⟨hlen,xNt⟩ := xJ0 hc0
 simp only [xZr,Bool.and_eq_true,List.all_eq_true,List.mem_range] at hc1
 obtain ⟨⟨⟨k1,k2⟩,k3⟩,k4⟩ := hc1
 have hk : pre.length < ops.size := (Array.getElem?_eq_some_iff.1 ho).1
 have c1 : ∀ i ao,pre[i]? = some ao → ao.guard = none ∧ xBi ao.op = false ∧ ∀ j,j < pre.length → (i = j ∨ ao.dst = none ∨ xAr pre j ≠ ao.dst) ∧ (∀ t,Arg.t t ∈ ao.op.args → xAr pre j = some t → xBw ops i j = true ∧ j < i) := by
  intro i ao hi
  have := k1 i (List.getElem?_eq_some_iff.1 hi).1
  rw [hi] at this
  simp only [Bool.and_eq_true,Bool.not_eq_true',List.all_eq_true,List.mem_range] at this
  obtain ⟨⟨q1,q2⟩,q3⟩ := this
  refine ⟨by simpa using q1,q2,fun j hj => ⟨?_,fun t ht hd => ?_⟩⟩
  ·have := (q3 j hj).1
   simp only [Bool.or_eq_true,beq_iff_eq,bne_iff_ne,Option.isNone_iff_eq_none] at this
   rcases this with (q | q) | q
   ·exact .inl q
   ·exact .inr (.inl q)
   ·exact .inr (.inr q)
  ·have := (q3 j hj).2
   simp only [Bool.or_eq_true,Bool.not_eq_true',Bool.and_eq_true,decide_eq_true_eq] at this
   rcases this with q | q
   ·rw [List.any_eq_false] at q
    have := q _ ht
    simp [hd] at this
   ·exact q
 have c2 : ∀ j t,j < pre.length → Arg.t t ∈ args → xAr pre j = some t → xBw ops pre.length j = true := by
  intro j t hj ht hd
  have := k2 j hj
  simp only [Bool.or_eq_true,Bool.not_eq_true'] at this
  rcases this with q | q
  ·rw [List.any_eq_false] at q
   have := q _ ht
   simp [hd] at this
  ·exact q
 have c3 : ∀ (i : Nat) o,i ≤ pre.length → ops[i]? = some o → ∀ e ∈ o.after,Region.binds .any e = true → e.on < i := by
  intro i o hi hio e he hb
  have := k3 i (by omega)
  rw [hio] at this
  simp only [Array.all_eq_true_iff_forall_mem,Bool.or_eq_true,Bool.not_eq_true',decide_eq_true_eq] at this
  rcases this e he with q | q
  ·rw [hb] at q; cases q
  ·exact q
 have c4 : ∀ j,j < ops.size → pre.length < j → xBw ops j pre.length = true := by
  intro j hj hlt
  have := k4 j hj
  simp only [Bool.or_eq_true,decide_eq_true_eq] at this
  rcases this with q | q
  ·omega
  ·exact q
 have hdd : ∀ i j s,i < j → xAr pre i = some s → xAr pre j = some s → False := by
  intro i j s hij hi hj
  have hi' : ∃ ao,pre[i]? = some ao ∧ ao.dst = some s := by
   unfold xAr at hi
   cases q : pre[i]? with
   | none => rw [q] at hi; cases hi
   | some ao => rw [q] at hi; exact ⟨ao,rfl,hi⟩
  obtain ⟨ao,h1',h2'⟩ := hi'
  have hjl : j < pre.length := by
   unfold xAr at hj
   rcases Nat.lt_or_ge j pre.length with q | q
   ·exact q
   ·rw [List.getElem?_eq_none q] at hj; cases hj
  rcases ((c1 i ao h1').2.2 j hjl).1 with q | q | q
  ·omega
  ·rw [q] at h2'; cases h2'
  ·rw [hj,h2'] at q; exact q rfl
 obtain ⟨s1H,s1l,_,sno,sop⟩ := xDt pre s.F s.H s1 pl h1 hdd
 refine wpIn_region_any hmix ?_
 have main : ∀ (fuel : Nat) (listed : Array Bool) (a' : Act) (w' : World) (im' : Im) (io' : Io),listed.size = ops.size → fuel + listed.toList.count true = ops.size →
   (∀ j,pre.length ≤ j → listed.getD j false = false) → Step im io w im' io' w' → Sim (xAl P) im' io' s.H w' → FRep im' io' (mix pre (fun j => listed.getD j false) s.F s1.F) a' → a'.defers = a.defers →
   wpAnyIn (Fw none) n P .any ops (TPost P B im io w T v ⟨List.replicate s.F.length .any,H'⟩) fuel listed a' w' := by
  intro fuel
  induction fuel with
  | zero =>
   intro listed a' w' im' io' hsz hcnt hno _ _ _ _
   exfalso
   have := xRq (l := listed.toList) (by simpa [hsz] using hcnt) pre.length (by simpa [hsz] using hk)
   have h2 := hno pre.length (Nat.le_refl _)
   simp at this
   simp [this] at h2
  | succ fuel ih =>
   intro listed a' w' im' io' hsz hcnt hno hst hS hFm hdf
   refine ⟨fun hnil => ?_,fun i hi => ?_⟩
   ·exfalso
    have key : ∀ i,i ≤ pre.length → (∀ j,j < i → listed.getD j false = true) → listed.getD i false = true := by
     intro i hi hall
     cases hq : listed.getD i false with
     | true => rfl
     | false =>
      exfalso
      have hlt : i < ops.size := by omega
      have : i ∈ Region.ready .any ops listed := by
       refine mem_ready.2 ⟨by rw [xBg (by omega)]; exact hq,ops[i],Array.getElem?_eq_getElem hlt,fun e he hb => hall _ (c3 i ops[i] hi (Array.getElem?_eq_getElem hlt) e he hb)⟩
      rw [hnil] at this
      cases this
    have all : ∀ m i,i ≤ m → i ≤ pre.length → listed.getD i false = true := by
     intro m
     induction m with
     | zero => intro i him hi; obtain rfl : i = 0 := by omega
               exact key 0 hi (fun j hj => by omega)
     | succ m ihm => intro i him hi; exact key i hi (fun j hj => ihm j (by omega) (by omega))
    have := all pre.length pre.length (Nat.le_refl _) (Nat.le_refl _)
    rw [hno pre.length (Nat.le_refl _)] at this
    cases this
   ·obtain ⟨r0,ro,hro,redge⟩ := mem_ready.1 hi
    have hil : i < ops.size := (Array.getElem?_eq_some_iff.1 hro).1
    have hif : listed.getD i false = false := by rw [xBg (by omega)] at r0; exact r0
    rcases Nat.lt_trichotomy i pre.length with hlt | heq | hgt
    ·-- a free operation
     have hao := List.getElem?_eq_getElem hlt
     obtain ⟨q1,q2,q3⟩ := c1 i _ hao
     have hch := xNt i ro _ hro hao
     simp only [xFB,Bool.and_eq_true,beq_iff_eq] at hch
     obtain ⟨⟨g1,g2⟩,g3⟩ := hch
     obtain ⟨Fi,f1,f2,f3⟩ := sop i _ hao
     rcases f3 with ⟨_,_,v',f4,f5⟩ | ⟨f3,_⟩
     case inr => rw [q2] at f3; cases f3
     have hfree : FreeAt R s.H (mix pre (fun j => listed.getD j false) s.F s1.F) pre[i] v' := by
      rcases f4 with ⟨e1,e2⟩ | ⟨e1,_⟩
      ·refine .inl ⟨by rw [q1]; rfl,?_⟩
       rw [← e2]
       refine xD5 (fun x hx => ?_)
       cases x with
       | c _ => rfl
       | t t =>
        show List.getD _ t AV.any = List.getD _ t AV.any
        rw [xBY _ _ _ _ _ s1l,f2 t]
        have : hit pre (fun j => listed.getD j false) t = writes (pre.take i) t := by
         rw [Bool.eq_iff_iff]
         simp only [hit,writes,List.any_eq_true,List.mem_range,Bool.and_eq_true,beq_iff_eq]
         constructor
         ·rintro ⟨j,hj,hl,hd⟩
          obtain ⟨_,hji⟩ := (q3 j hj).2 t hx hd
          have hj' := List.getElem?_eq_getElem hj
          refine ⟨pre[j],List.mem_of_getElem? (i := j) (by rw [List.getElem?_take_of_lt hji]; exact hj'),?_⟩
          simpa [xAr,hj'] using hd
         ·rintro ⟨oj,hoj,hd⟩
          obtain ⟨j,hj,e⟩ := List.mem_iff_getElem.1 hoj
          simp only [List.length_take] at hj
          have hj1 : j < pre.length := by omega
          have e' : pre[j] = oj := by rw [← e,List.getElem_take]
          have hd' : xAr pre j = some t := by simp [xAr,List.getElem?_eq_getElem hj1,e',hd]
          exact ⟨j,hj1,xDd ((q3 j hj1).2 t hx hd').1 hi,hd'⟩
        rw [this]
      ·rw [q1] at e1; simp [xBJ] at e1
     refine xEW hR hro g1 g2 g3 (xB5 q2) hS hFm hfree ?_
     intro im2 io2 a2 w2 t1 t2 t3 t4 _
     refine ih _ a2 w2 im2 io2 (by simp [hsz]) ?_ (fun j hj => ?_) (hst.trans t1) t2 ?_ (t4.trans hdf)
     ·have hl : listed.toList[i]? = some false := by
       have hh : i < listed.size := by omega
       simp [hh] at hif
       simp [hh,hif]
      have := xRp (l := listed.toList) (i := i) (by simp [hsz]; omega) hl
      rw [Array.toList_setIfInBounds,this]
      omega
     ·rw [getD_set_ne _ (by omega)]; exact hno j hj
     ·have e : putA (mix pre (fun j => listed.getD j false) s.F s1.F) (pre[i]).dst v' = mix pre (fun j => (listed.setIfInBounds i true).getD j false) s.F s1.F := by
       refine xBQ (by rw [xAL,xAZ,xAZ]) (fun t => ?_)
       rw [xAI,xBY _ _ _ _ _ s1l,xBY _ _ _ _ _ s1l,xAZ]
       have hself : (listed.setIfInBounds i true).getD i false = true := by simp [hsz,hil]
       by_cases hd : (pre[i]).dst = some t
       ·have hh : hit pre (fun j => (listed.setIfInBounds i true).getD j false) t = true := by
         simp only [hit,List.any_eq_true,List.mem_range,Bool.and_eq_true,beq_iff_eq]
         exact ⟨i,hlt,hself,by simp [xAr,hao,hd]⟩
        rw [hh]
        by_cases htl : t < s.F.length
        ·rw [if_pos ⟨hd,htl⟩,if_pos rfl,f5 t hd htl]
        ·rw [if_neg (fun q => htl q.2),if_pos rfl]
         have e1 : s.F.getD t .any = .any := by simp [List.getD,List.getElem?_eq_none (Nat.le_of_not_lt htl)]
         have e2 : s1.F.getD t .any = .any := by simp [List.getD,List.getElem?_eq_none (by omega : s1.F.length ≤ t)]
         rw [e1,e2]; simp
       ·rw [if_neg (fun q => hd q.1)]
        have : hit pre (fun j => (listed.setIfInBounds i true).getD j false) t = hit pre (fun j => listed.getD j false) t := by
         rw [Bool.eq_iff_iff]
         simp only [hit,List.any_eq_true,List.mem_range,Bool.and_eq_true,beq_iff_eq]
         constructor
         ·rintro ⟨j,hj,hl,hdj⟩
          by_cases hji : i = j
          ·subst hji; simp [xAr,hao] at hdj; exact absurd hdj hd
          ·rw [getD_set_ne _ hji] at hl; exact ⟨j,hj,hl,hdj⟩
         ·rintro ⟨j,hj,hl,hdj⟩
          exact ⟨j,hj,getD_set_true hl,hdj⟩
        rw [this]
      rw [← e]; exact t3
    ·-- the call
     subst heq
     rw [ho] at hro; cases hro
     unfold wpOpIn
     simp only [ho]
     rw [xDc hg]
     simp only [if_true]
     refine ⟨fun f _ => trivial,?_⟩
     rw [Oper.semAt_eq _ _ _ (xDA hc2)]
     have hc3 := hc2
     simp only [xAp] at hc3
     split at hc3
     case h_2 => cases hc3
     rename_i g' xs ts hop
     simp only [Bool.and_eq_true,beq_iff_eq] at hc3
     obtain ⟨rfl,hargs⟩ := hc3
     have hr := xA9 (im := im') (io := io') hFm hargs
     have eargs : args.map (opv (mix pre (fun j => listed.getD j false) s.F s1.F)) = args.map (opv s1.F) := by
      refine List.map_congr_left (fun x hx => ?_)
      cases x with
      | c _ => rfl
      | t t =>
       show List.getD _ t AV.any = List.getD _ t AV.any
       rw [xBY _ _ _ _ _ s1l]
       by_cases hh : hit pre (fun j => listed.getD j false) t = true
       ·rw [if_pos hh]
       ·rw [if_neg hh]
        refine (sno t ?_).symm
        rw [Bool.eq_false_iff]
        intro hw
        simp only [writes,List.any_eq_true,beq_iff_eq] at hw
        obtain ⟨oj,hoj,hd⟩ := hw
        obtain ⟨j,hj,e⟩ := List.mem_iff_getElem.1 hoj
        have hd' : xAr pre j = some t := by simp [xAr,List.getElem?_eq_getElem hj,e,hd]
        refine hh ?_
        simp only [hit,List.any_eq_true,List.mem_range,Bool.and_eq_true,beq_iff_eq]
        exact ⟨j,hj,xDd (c2 j t hj hx hd') hi,hd'⟩
     rw [eargs] at hr
     obtain ⟨hent,hcall⟩ := hC _ _ _ _ _ _ h
     have hrun : (execOp a'.eval o).run P w' = .ok (.enter g (xs.map a'.eval)) w' := by
      simp only [execOp,hop,xB7,Sem.run_bind,Sem.run_pure,Result.andThen,invoke,Array.append_empty]
      exact hent _ _
     rw [hrun,Oper.uponIn_enter]
     refine ⟨fun hd => by simp [Fw] at hd,?_⟩
     have e : (xs.toList.map a'.eval).toArray = xs.map a'.eval := by rw [← Array.toList_inj]; simp
     have hcall' := hcall (n - 1) im' io' w' _ hS hr
     rw [e] at hcall'
     refine hcall'.mono ?_
     rintro e w2 ⟨x,im2,io2,rfl,u1,u2,u3,u4⟩
     refine ⟨x,im2,io2,rfl,u1,u2,hst.trans u3,u4,⟨?_,fun i c y hc _ => ?_⟩,by rw [hdf]; exact hm.step (hst.trans u3)⟩
     ·have := hFm.1
      rw [xAZ] at this
      simpa using this
     ·rw [List.getElem?_replicate] at hc
      split at hc
      ·cases hc; exact .any _
      ·cases hc
    ·-- behind the call
     exfalso
     have := xDd (c4 i hil hgt) hi
     rw [hno _ (Nat.le_refl _)] at this
     cases this
 have hw1 : Step im io w im io { w with drawn := w.drawn + 1 } := Step.world rfl rfl rfl (Nat.le_refl _) (fun _ _ => rfl)
 refine main ops.size _ a _ im io (by simp) (by simp [List.count_replicate]) (fun j _ => getD_replicate_false _ _) hw1 (hs.world (Nat.le_refl _) (fun _ _ => rfl)) ?_ rfl
 have : mix pre (fun j => (Array.replicate ops.size false).getD j false) s.F s1.F = s.F := by
  refine xBQ (by rw [xAZ]) (fun t => ?_)
  rw [xBY _ _ _ _ _ s1l,if_neg]
  simp only [hit,List.any_eq_true,List.mem_range,Bool.and_eq_true,not_exists,not_and]
  intro d _ hd
  rw [getD_replicate_false] at hd
  cases hd
 rw [this]
 exact hF
theorem xJ1 (hR : RecOk (xAl P) P R) (hL : LoopOk P R) (hmix : P.follows .mixedOrders = true) {C : Nat → List AV → Heap → Option (Nat × AV × Heap)} (hC : xGI P C) : ∀ (fuel : Nat) (c : Code) (code : TCode) (s : St) (T : Nat) (v : AV) (s' : St) (n : Nat) (B : Mk),xH2 P c code = true → xCl R C fuel code s = some (T,v,s') →
  ∀ im io a w,Sim (xAl P) im io s.H w → FRep im io s.F a → MarksOk B im io w a.defers → B.1 ≤ w.heap.size → c.wpIn (Fw none) n P (TPost P B im io w T v s') a w := by
 intro fuel
 induction fuel using Nat.strongRecOn with
 | ind fuel ih0 =>
 cases fuel with
 | zero => intro c code s T v s' n B _ h; simp [xCl] at h
 | succ fuel =>
  have ih := ih0 fuel (Nat.lt_succ_self _)
  intro c code s T v s' n B hc h im io a w hs hF hm hB
  cases code with
  | no => simp [xCl] at h
  | seq x p q =>
   cases c <;> simp [xH2] at hc
   rename_i c1 c2
   obtain ⟨⟨hc0,hc1⟩,hc2⟩ := hc
   simp only [xCl] at h
   refine wpIn_seq ?_
   split at h
   ·rename_i v1 h1
    cases h
    refine wpIn_mono (ih c1 p s T v s' n B hc1 h1 im io a w hs hF hm hB) ?_
    rintro e' a1 w1 ⟨y,im1,io1,rfl,hp⟩
    exact ⟨y,im1,io1,rfl,hp⟩
   ·split at h
    ·rename_i s1 h1
     refine wpIn_mono (xBP hR hL hmix c1 x s s1 .normal none n B hc0 (.inl rfl) h1 im io a w hs hF hm hB) ?_
     rintro e' a1 w1 ⟨rfl,im1,io1,t1,t2,t3,t4⟩
     refine wpIn_mono (ih c2 q s1 T v s' n B hc2 h im1 io1 a1 w1 t2 t3 t4 (Nat.le_trans hB t1.size)) ?_
     intro e' a2 w2 hp
     exact hp.later t1
    ·cases h
  | cond z p q =>
   cases c <;> simp [xH2] at hc
   rename_i zc c1 c2
   obtain ⟨⟨hz,hc1⟩,hc2⟩ := hc
   simp only [xCl] at h
   split at h
   ·rename_i t ht
    have hr := xAj hz hF
    rw [ht] at hr
    generalize hv : a.eval zc = cv at hr
    cases hr
    refine wpIn_cond hv ?_
    cases t
    ·exact ih c2 q s T v s' n B hc2 h im io a w hs hF hm hB
    ·exact ih c1 p s T v s' n B hc1 h im io a w hs hF hm hB
   ·cases h
  | block p =>
   cases c <;> simp [xH2] at hc
   rename_i j c1
   simp only [xCl] at h
   refine wpIn_block ?_
   refine wpIn_mono (ih c1 p s T v s' n B hc h im io a w hs hF hm hB) ?_
   rintro e' a1 w1 ⟨y,im1,io1,rfl,hp⟩
   exact ⟨y,im1,io1,rfl,hp⟩
  | scope p =>
   cases c <;> simp [xH2] at hc
   rename_i c1
   simp only [xCl] at h
   refine xQw (wpIn_mono (ih c1 p s T v s' n B hc h im io a w hs hF hm hB) ?_)
   rintro e' a1 w1 ⟨y,im1,io1,rfl,hp⟩
   exact ⟨y,im1,io1,rfl,hp⟩
  | loop scr x p =>
   cases c <;> simp [xH2] at hc
   rename_i c1
   obtain ⟨hc0,hc1⟩ := hc
   have key : ∀ m,m ≤ fuel + 1 → ∀ (s : St),xCl R C m (.loop scr x p) s = some (T,v,s') → ∀ im io a w,Sim (xAl P) im io s.H w → FRep im io s.F a → MarksOk B im io w a.defers → B.1 ≤ w.heap.size → xF9 (Fw none) n P c1 (TPost P B im io w T v s') a w := by
    intro m
    induction m with
    | zero => intro _ s h; simp [xCl] at h
    | succ m ihm =>
     intro hm' s h im io a w hs hF hm hB
     simp only [xCl] at h
     refine xEU ?_
     split at h
     ·rename_i v1 h1
      cases h
      refine wpIn_mono (ih0 m (by omega) c1 p _ T v s' n B hc1 h1 im io a w hs (hF.clear scr) hm hB) ?_
      rintro e' a1 w1 ⟨y,im1,io1,rfl,hp⟩
      exact ⟨y,im1,io1,rfl,hp⟩
     ·split at h
      ·rename_i s1 h1
       refine wpIn_mono (xBP hR hL hmix c1 x _ s1 .normal none n B hc0 (.inl rfl) h1 im io a w hs (hF.clear scr) hm hB) ?_
       rintro e' a1 w1 ⟨rfl,im1,io1,t1,t2,t3,t4⟩
       exact xGU (ihm (by omega) s1 h im1 io1 a1 w1 t2 t3 t4 (Nat.le_trans hB t1.size)) (fun e a w hp => hp.later t1)
      ·cases h
   exact xRm (key (fuel + 1) (Nat.le_refl _) s h im io a w hs hF hm hB)
  | call pre g args =>
   cases c with
   | region id ops draw =>
    cases draw with
    | true => simp [xH2] at hc
    | false =>
    simp only [xH2,Bool.and_eq_true] at hc
    obtain ⟨hc0,hc1⟩ := hc
    split at hc1
    case h_2 => cases hc1
    rename_i o ho
    simp only [Bool.and_eq_true] at hc1
    obtain ⟨hc1,hg⟩ := hc1
    simp only [xCl] at h
    split at h
    case h_2 => cases h
    rename_i s1 h1
    simp only [Option.map_eq_some_iff,Prod.mk.injEq] at h
    obtain ⟨⟨T1,v1,H1⟩,h,rfl,rfl,rfl⟩ := h
    refine wpIn_region ?_
    rw [List.range_eq_range']
    have hlt : pre.length < ops.size := (Array.getElem?_eq_some_iff.1 ho).1
    refine xX4 hR hc0 pre.length 0 s s1 im io a w (by omega) (by simpa using h1) hs hF ?_
    intro im1 io1 a1 w1 t1 t2 t3 t4
    have e1 : ops.size - pre.length = (ops.size - (pre.length + 1)) + 1 := by omega
    rw [e1,List.range'_succ,wpOpsIn_cons]
    unfold wpOpIn
    simp only [ho]
    rw [xDc hg]
    simp only [if_true]
    refine ⟨fun f _ => trivial,?_⟩
    rw [Oper.semAt_eq _ _ _ (xDA hc1)]
    simp only [xAp] at hc1
    split at hc1
    case h_2 => cases hc1
    rename_i g' xs ts hop
    simp only [Bool.and_eq_true,beq_iff_eq] at hc1
    obtain ⟨rfl,hargs⟩ := hc1
    have hr := xA9 (im := im1) (io := io1) t3 hargs
    obtain ⟨hent,hcall⟩ := hC _ _ _ _ _ _ h
    have hrun : (execOp a1.eval o).run P w1 = .ok (.enter g (xs.map a1.eval)) w1 := by
     simp only [execOp,hop,xB7,Sem.run_bind,Sem.run_pure,Result.andThen,invoke,Array.append_empty]
     exact hent _ _
    rw [hrun,Oper.uponIn_enter]
    refine ⟨fun hd => by simp [Fw] at hd,?_⟩
    have e : (xs.toList.map a1.eval).toArray = xs.map a1.eval := by rw [← Array.toList_inj]; simp
    have hcall' := hcall (n - 1) im1 io1 w1 _ t2 hr
    rw [e] at hcall'
    refine hcall'.mono ?_
    rintro e w' ⟨x,im2,io2,rfl,u1,u2,u3,u5⟩
    exact ⟨x,im2,io2,rfl,u1,u2,t1.trans u3,u5,t3.mono u3.im_le u3.io_le,by rw [t4]; exact hm.step (t1.trans u3)⟩
   | _ => simp [xH2] at hc
  | dcall pre g args =>
   cases c with
   | region id ops draw =>
    cases draw with
    | false => simp [xH2] at hc
    | true =>
    simp only [xH2,Bool.and_eq_true] at hc
    obtain ⟨⟨hc0,hcd⟩,hc1⟩ := hc
    split at hc1
    case h_2 => cases hc1
    rename_i o ho
    simp only [Bool.and_eq_true] at hc1
    obtain ⟨hc1,hg⟩ := hc1
    simp only [xCl] at h
    split at h
    case h_2 => cases h
    rename_i s1 pl h1
    simp only [Option.map_eq_some_iff,Prod.mk.injEq] at h
    obtain ⟨⟨T1,v1,H1⟩,h,rfl,rfl,rfl⟩ := h
    exact xWs hR hmix hC hc0 hcd ho hc1 hg h1 h hs hF hm hB
   | _ => simp [xH2] at hc
  | thr pre t T' x =>
   cases c with
   | region id ops draw =>
    cases draw with
    | true => simp [xH2] at hc
    | false =>
    simp only [xH2,Bool.and_eq_true,xX3] at hc
    obtain ⟨hc0,hc1,hc2⟩ := hc
    split at hc1
    case h_2 => cases hc1
    rename_i o ho
    split at hc1
    case h_2 => cases hc1
    rename_i T1 x1 hop
    simp only [Bool.and_eq_true,beq_iff_eq] at hc1
    obtain ⟨⟨⟨⟨rfl,hx⟩,hdst⟩,hg⟩,hT⟩ := hc1
    split at hc2
    case h_2 => cases hc2
    rename_i o2 ho2
    split at hc2
    case h_2 => cases hc2
    rename_i t2' hop2
    simp only [Bool.and_eq_true,beq_iff_eq] at hc2
    obtain ⟨rfl,hg2⟩ := hc2
    simp only [xCl] at h
    split at h
    case h_2 => cases h
    rename_i s1 h1
    split at h
    case isFalse => cases h
    rename_i hcond
    simp only [Option.some.injEq,Prod.mk.injEq] at h
    obtain ⟨rfl,rfl,rfl⟩ := h
    refine wpIn_region ?_
    rw [List.range_eq_range']
    have hlt : pre.length + 1 < ops.size := (Array.getElem?_eq_some_iff.1 ho2).1
    refine xX4 hR hc0 pre.length 0 s s1 im io a w (by omega) (by simpa using h1) hs hF ?_
    intro im1 io1 a1 w1 u1 u2 u3 u4
    have e1 : ops.size - pre.length = (ops.size - (pre.length + 2)) + 1 + 1 := by omega
    rw [e1,List.range'_succ,wpOpsIn_cons]
    unfold wpOpIn
    simp only [ho]
    rw [xDc hg]
    simp only [if_true]
    refine ⟨fun f _ => trivial,?_⟩
    rw [Oper.semAt_eq _ _ _ (by rw [hop]; simp)]
    have hrun : (execOp a1.eval o).run P w1 = .ok (.value (.iface T1 (a1.eval x1))) w1 := by
     simp only [execOp,hop,Sem.run_bind,xKR hT,Result.andThen,Sem.run_pure]
    rw [hrun,Oper.uponIn_value,List.range'_succ,wpOpsIn_cons]
    unfold wpOpIn
    simp only [ho2]
    rw [xDc hg2]
    simp only [if_true]
    refine ⟨fun f _ => trivial,?_⟩
    rw [Oper.semAt_eq _ _ _ (by rw [hop2]; simp)]
    have hsz : t2' < a1.tmps.size := by
     have hl : a1.tmps.toList.length = s1.F.length := u3.1
     rw [Array.length_toList] at hl
     rw [hl]
     exact hcond.1
    have hev : (a1.put o.dst (.iface T1 (a1.eval x1))).eval (.tmp t2') = .iface T1 (a1.eval x1) := by
     rw [hdst]
     simp [Act.put,Act.eval,hsz]
    have hrun2 : (execOp (a1.put o.dst (.iface T1 (a1.eval x1))).eval o2).run P w1 = .halt (.panic (.iface T1 (a1.eval x1))) w1 := by
     simp only [execOp,hop2,hev]
     rfl
    rw [hrun2,Oper.uponIn_panic]
    have hr := xAj (im := im1) (io := io1) hx u3
    refine ⟨a1.eval x1,im1,io1,rfl,hcond.2,hr,u1,u2,?_,by rw [xAK,u4]; exact hm.step u1⟩
    rw [hdst]
    exact u3.put (some t2') (.any _)
   | _ => simp [xH2] at hc
theorem xNg {fn : Func} {tmps : Array Value} {T n : Nat} {y : Value} (hv : xAA v = true) (hy : Rep im' io' v y) :
  ∀ (Ds : List Nat) (w' : World),Step im io w im' io' w' → Sim (xAl P) im' io' H' w' → Ds.Nodup → (∀ D ∈ Ds,w.heap.size ≤ D ∧ w'.heap[D]? = some (.deferred (some [])) ∧ ¬ Own io' D ∧ im' D = none) →
   LeavesInM (Fw none) n P fn tmps (yBT P im io w T v H') (Ds.map xEf) (.panicking [{ v := .iface T y,recovered := false }]) w' := by
 intro Ds
 induction Ds with
 | nil =>
  intro w' hst hs _ _
  exact ⟨y,im',io',rfl,hv,hy,hst,hs⟩
 | cons D Ds ih =>
  intro w' hst hs hnd hm
  obtain ⟨g1,g2,g3,g4⟩ := hm D (List.mem_cons_self ..)
  refine ⟨by simp,.inl ⟨D,_,rfl,run_takeDeferred g2,?_⟩⟩
  refine ih _ (hst.putMark g1 _) (hs.putFree _ (fun j bj sj _ _ hj => g3 ⟨j,sj,hj⟩) g4) (List.nodup_cons.1 hnd).2 (fun D' hD' => ?_)
  obtain ⟨k1,k2,k3,k4⟩ := hm D' (List.mem_cons_of_mem _ hD')
  have hne : D' ≠ D := fun e => (List.nodup_cons.1 hnd).1 (e ▸ hD')
  exact ⟨k1,by rw [World.putObj_heap_other hne]; exact k2,k3,k4⟩
def xKS (P : Program) (f : Nat) (tf : TFunc) : Bool := match P.funcs[f]? with
 | some fn => (match fn.body with
   | some c => xH2 P c tf.code
   | none => false) && fn.ntmps == tf.ntmps && fn.name != "runtime.NumGoroutine"
 | none => false
theorem xWt (hR : RecOk (xAl P) P R) (hL : LoopOk P R) (hmix : P.follows .mixedOrders = true) {tp : Nat → Option TFunc} (htp : ∀ f tf,tp f = some tf → xKS P f tf = true) : ∀ n,xGI P (xJZ R tp n) := by
 intro n
 induction n with
 | zero => intro g args H T v H' h; simp [xJZ] at h
 | succ n ih =>
  intro g args H T v H' h
  simp only [xJZ] at h
  split at h
  case h_2 => cases h
  rename_i tf htf
  have hc := htp _ _ htf
  unfold xKS at hc
  split at hc
  case h_2 => cases hc
  rename_i fn hf
  simp only [Bool.and_eq_true,beq_iff_eq,bne_iff_ne] at hc
  obtain ⟨⟨hc1,hc2⟩,hne⟩ := hc
  split at hc1
  case h_2 => cases hc1
  rename_i c hb
  refine ⟨fun vs w => by simp [callFunc,hf,hb,hne,Result.andThen],fun n' im io w vs hs hr => ?_⟩
  simp only [Option.map_eq_some_iff,Prod.mk.injEq] at h
  obtain ⟨⟨T1,v1,s1⟩,h,rfl,rfl,rfl⟩ := h
  refine callsIn_of_wp_marks hf hb trivial ?_
  have hF : FRep im io (args ++ List.replicate (tf.ntmps - args.length) (.tup [])) { tmps := vs.toArray ++ Array.replicate (fn.ntmps - vs.toArray.size) undef,defers := [] } := by
   show Reps _ _ _ _
   have e : (vs.toArray ++ Array.replicate (fn.ntmps - vs.toArray.size) undef).toList = vs ++ List.replicate (fn.ntmps - args.length) undef := by
    simp [hr.1]
   rw [e,hc2]
   exact hr.append (xC4 _)
  have hm : MarksOk (w.heap.size,[]) im io w [] := ⟨[],rfl,List.nodup_nil,fun D hD => by cases hD⟩
  refine wpIn_mono (xJ1 hR hL hmix ih 10000 c tf.code _ _ _ _ n' (w.heap.size,[]) hc1 h im io _ w hs hF hm (Nat.le_refl _)) ?_
  rintro e' a1 w1 ⟨y,im1,io1,rfl,t1,t2,t3,t5,t6,Ds,d1,d2,d3⟩
  show LeavesInM _ _ _ _ _ _ _ _ _
  rw [d1,List.append_nil]
  exact xNg t1 t2 Ds w1 t3 t5 d2 d3
end
end Go.Abs
