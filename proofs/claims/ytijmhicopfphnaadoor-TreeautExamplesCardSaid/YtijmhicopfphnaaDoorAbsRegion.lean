/- Regions,in the order of the text and in whatever order. -/
import Derived.Test.YtijmhicopfphnaaDoorAbsCall
namespace Go.Abs
set_option linter.unusedVariables false
set_option linter.unusedSimpArgs false
open Go.RowKit
def xLm (ops : Array Oper) : Option (Nat × Bool) → Option (Nat × Bool) → Bool
 | none,none => true
 | some (j,w),some (s,w') => w == w' && (ops[j]?).bind (·.dst) == some s
 | _,_ => false
def xWq (P : Program) (ops : Array Oper) (o : Oper) (ao : AOper) : Bool := o.dst == ao.dst && xAI P o ao.op && xLm ops o.guard ao.guard
def xJO (P : Program) (ops : Array Oper) (aops : List AOper) : Bool := ops.size == aops.length && (ops.toList.zip aops).all fun p => xWq P ops p.1 p.2
section
variable {chk : Code → ACode → Bool} {P : Program} {o : Oper} {a : Act} {im : Im} {io : Io} {H H' : Heap} {w : World} {F : List AV} {R : Rec} {v : AV}
theorem xML {ops : Array Oper} {aops : List AOper} (h : xJO P ops aops = true) :
  ops.size = aops.length ∧ ∀ (i : Nat) (o : Oper) (ao : AOper),ops[i]? = some o → aops[i]? = some ao → o.dst = ao.dst ∧ xAI P o ao.op = true ∧ xLm ops o.guard ao.guard = true := by
 simp only [xJO,Bool.and_eq_true,beq_iff_eq] at h
 refine ⟨h.1,fun i o ao ho hao => ?_⟩
 have hz : (ops.toList.zip aops)[i]? = some (o,ao) := by simp [List.getElem?_zip_eq_some,ho,hao]
 have := List.all_eq_true.1 h.2 (o,ao) (List.mem_of_getElem? hz)
 simpa [xWq,and_assoc] using this
theorem xJz {ops : Array Oper} {g : Option (Nat × Bool)} {b : Bool} (hc : xLm ops o.guard g = true) (hF : FRep im io F a) (h : xH9 F g = some b) : Region.wanted o (yielded ops a.tmps) = b := by
 unfold xLm at hc
 split at hc
 ·rename_i e1
  simp only [xH9] at h; cases h
  simp [Region.wanted,e1]
 ·rename_i j wj s w' e1
  simp only [Bool.and_eq_true,beq_iff_eq] at hc
  obtain ⟨rfl,hd⟩ := hc
  simp only [xH9] at h
  simp only [Region.wanted,e1]
  have hr := hF.getD s
  have hsome : F.getD s .any ≠ .any → a.tmps[s]? = some (a.tmps.getD s undef) := by
   intro hne
   have hlt : s < F.length := by
    rcases Nat.lt_or_ge s F.length with q | q
    ·exact q
    ·exact absurd (by simp [List.getD,List.getElem?_eq_none q]) hne
   have hl := hF.1
   simp at hl
   rw [Array.getD_eq_getD_getElem?,Array.getElem?_eq_getElem (by omega)]
   rfl
  have hy : F.getD s .any ≠ .any → yielded ops a.tmps j = (match a.tmps.getD s undef with | .bool b => some b | _ => none) := by
   intro hne
   have h3 := hsome hne
   simp only [yielded,hd,Option.bind_some]
   rw [h3]
   generalize a.tmps.getD s undef = x
   cases x <;> rfl
  split at h
  ·rename_i b0 e
   cases h
   rw [hy (by rw [e]; simp)]
   rw [e] at hr
   generalize a.tmps.getD s undef = x at hr
   cases hr
   cases b0 <;> cases wj <;> rfl
  ·cases h
  ·rename_i e1' e2'
   cases h
   rw [hy (by intro q; exact e2' q)]
   generalize hx : a.tmps.getD s undef = x at hr
   cases x with
   | bool b0 =>
    exfalso
    generalize hg : F.getD s .any = fv at hr e1' e2'
    cases hr
    ·exact e2' rfl
    ·exact e1' _ rfl
   | _ => simp
 ·cases hc
theorem yEv (hR : RecOk chk P R) {ops : Array Oper} {aops : List AOper} {r : Option Nat} {n : Nat} {Q : Exit → Act → World → Prop} (hc : xJO P ops aops = true) :
  ∀ (d k : Nat) (s s' : St) (im : Im) (io : Io) (a : Act) (w : World),k + d = ops.size → xBJ R (aops.drop k) s = some s' → Sim chk im io s.H w → FRep im io s.F a →
   (∀ im' io' a' w',Step im io w im' io' w' → Sim chk im' io' s'.H w' → FRep im' io' s'.F a' → a'.defers = a.defers → Q .normal a' w') →
   wpOpsIn (Fw r) n P ops Q (List.range' k d) a w := by
 obtain ⟨hlen,xLD⟩ := xML hc
 intro d
 induction d with
 | zero =>
  intro k s s' im io a w hk hrun hs hF hQ
  rw [List.drop_eq_nil_of_le (by omega)] at hrun
  simp only [xBJ] at hrun; cases hrun
  exact hQ im io a w (.refl _ _ _) hs hF rfl
 | succ d ih =>
  intro k s s' im io a w hk hrun hs hF hQ
  have hlt : k < ops.size := by omega
  have hlt2 : k < aops.length := by omega
  rw [List.drop_eq_getElem_cons hlt2] at hrun
  simp only [xBJ] at hrun
  split at hrun
  ·cases hrun
  rename_i s1 h1
  obtain ⟨g1,g2,g3⟩ := xLD k ops[k] aops[k] (Array.getElem?_eq_getElem hlt) (List.getElem?_eq_getElem hlt2)
  rw [List.range'_succ,wpOpsIn_cons]
  unfold wpOpIn
  simp only [Array.getElem?_eq_getElem hlt]
  unfold xEc at h1
  split at h1
  ·cases h1
  ·rename_i hw
   cases h1
   rw [xJz g3 hF hw]
   simp only [Bool.false_eq_true,if_false]
   refine ⟨fun f _ => trivial,?_⟩
   refine ih (k + 1) _ s' im io _ w (by omega) hrun hs ((hF.put (aops[k]).dst (.tup (vs := []) rfl (fun i c v h => by simp at h)))) ?_ |> fun hh => by rw [g1]; exact hh
   intro im' io' a' w' t1 t2 t3 t4
   exact hQ im' io' a' w' t1 t2 t3 (t4.trans (xEY _ _ _))
  ·rename_i hw
   simp only [Option.map_eq_some_iff] at h1
   obtain ⟨⟨v,H1⟩,h1,rfl⟩ := h1
   rw [xJz g3 hF hw]
   simp only [if_true]
   refine Oper.wpIn_mono ?_ (xPZ hR g2 hs hF h1 Q)
   rintro a' w' ⟨im',io',t1,t2,t3,t4,_⟩
   rw [g1] at t3
   refine ih (k + 1) _ s' im' io' a' w' (by omega) hrun t2 t3 ?_
   intro im'' io'' a'' w'' u1 u2 u3 u4
   exact hQ im'' io'' a'' w'' (t1.trans u1) u2 u3 (u4.trans t4)
theorem xWr (hR : RecOk chk P R) {ops : Array Oper} {aops : List AOper} {r : Option Nat} {n id : Nat} {Q : Exit → Act → World → Prop} (hc : xJO P ops aops = true) {s s' : St} (hrun : xBJ R aops s = some s') (hs : Sim chk im io s.H w) (hF : FRep im io s.F a)
  (hQ : ∀ im' io' a' w',Step im io w im' io' w' → Sim chk im' io' s'.H w' → FRep im' io' s'.F a' → a'.defers = a.defers → Q .normal a' w') : (Code.region id ops false).wpIn (Fw r) n P Q a w := by
 refine wpIn_region ?_
 rw [List.range_eq_range']
 exact yEv hR hc ops.size 0 s s' im io a w (by omega) (by simpa using hrun) hs hF hQ
def Arg.slot : Arg → Option Nat
 | .t i => some i
 | .c _ => none
def AOper.reads (o : AOper) : List Nat := o.op.args.filterMap Arg.slot ++ (match o.guard with | some (s,_) => [s] | none => [])
theorem xKX {F F' : List AV} {x : Arg} (h : ∀ s,x.slot = some s → F.getD s .any = F'.getD s .any) : opv F x = opv F' x := by
 cases x with
 | t i => exact h i rfl
 | c v => rfl
theorem xLn {F F' : List AV} {op : AOp} (h : ∀ x ∈ op.args,opv F x = opv F' x) : xAc R F H op = xAc R F' H op := by
 cases op with
 | build z parts =>
  have e1 : (parts.map fun p => (p.1,(opv F p.2.2).cells)) = parts.map fun p => (p.1,(opv F' p.2.2).cells) := List.map_congr_left fun p hp => by rw [h p.2.2 (List.mem_map.2 ⟨p,hp,rfl⟩)]
  have e2 : (parts.all fun p => (opv F p.2.2).cells.length == p.2.1) = parts.all fun p => (opv F' p.2.2).cells.length == p.2.1 := by
   rw [Bool.eq_iff_iff]; simp only [List.all_eq_true]
   exact ⟨fun g p hp => by rw [← h p.2.2 (List.mem_map.2 ⟨p,hp,rfl⟩)]; exact g p hp,fun g p hp => by rw [h p.2.2 (List.mem_map.2 ⟨p,hp,rfl⟩)]; exact g p hp⟩
  simp only [xAc,e1,e2]
 | bslice fz z es n parts =>
  have e1 : (parts.map fun p => (p.1 * es,(opv F p.2).cells)) = parts.map fun p => (p.1 * es,(opv F' p.2).cells) := List.map_congr_left fun p hp => by rw [h p.2 (List.mem_map.2 ⟨p,hp,rfl⟩)]
  have e2 : (parts.all fun p => (opv F p.2).cells.length == es) = parts.all fun p => (opv F' p.2).cells.length == es := by
   rw [Bool.eq_iff_iff]; simp only [List.all_eq_true]
   exact ⟨fun g p hp => by rw [← h p.2 (List.mem_map.2 ⟨p,hp,rfl⟩)]; exact g p hp,fun g p hp => by rw [h p.2 (List.mem_map.2 ⟨p,hp,rfl⟩)]; exact g p hp⟩
  simp only [xAc,e1,e2]
 | dslice z es n parts =>
  have e1 : (parts.map fun p => (p.1 * es,(opv F p.2).cells)) = parts.map fun p => (p.1 * es,(opv F' p.2).cells) := List.map_congr_left fun p hp => by rw [h p.2 (List.mem_map.2 ⟨p,hp,rfl⟩)]
  have e2 : (parts.all fun p => (opv F p.2).cells.length == es) = parts.all fun p => (opv F' p.2).cells.length == es := by
   rw [Bool.eq_iff_iff]; simp only [List.all_eq_true]
   exact ⟨fun g p hp => by rw [← h p.2 (List.mem_map.2 ⟨p,hp,rfl⟩)]; exact g p hp,fun g p hp => by rw [h p.2 (List.mem_map.2 ⟨p,hp,rfl⟩)]; exact g p hp⟩
  simp only [xAc,e1,e2]
 | mkfunc f caps =>
  have e1 : caps.map (opv F) = caps.map (opv F') := List.map_congr_left fun p hp => h p hp
  simp only [xAc,e1]
 | mkbound f caps =>
  have e1 : caps.map (opv F) = caps.map (opv F') := List.map_congr_left fun p hp => h p hp
  simp only [xAc,e1]
 | mm mx caps =>
  have e1 : caps.map (opv F) = caps.map (opv F') := List.map_congr_left fun p hp => h p hp
  simp only [xAc,e1]
 | bcall f args =>
  have e0 := h f (List.mem_cons_self)
  have e1 : args.map (opv F) = args.map (opv F') := List.map_congr_left fun p hp => h p (List.mem_cons_of_mem _ hp)
  simp only [xAc,e0,e1]
 | sslice x lo hi =>
  have e0 := h x (by simp [AOp.args])
  have e1 : lo.map (opv F) = lo.map (opv F') := by cases lo with | none => rfl | some y => simp [h y (by simp [AOp.args])]
  have e2 : hi.map (opv F) = hi.map (opv F') := by cases hi with | none => rfl | some y => simp [h y (by simp [AOp.args])]
  simp only [xAc,e0,e1,e2]
 | sbeq n x y => simp only [xAc,h x (by simp [AOp.args]),h y (by simp [AOp.args])]
 | call f args =>
  have e1 : args.map (opv F) = args.map (opv F') := List.map_congr_left fun p hp => h p hp
  simp only [xAc,e1]
 | ocall f args =>
  have e1 : args.map (opv F) = args.map (opv F') := List.map_congr_left fun p hp => h p hp
  simp only [xAc,e1]
 | ocallw f args =>
  have e1 : args.map (opv F) = args.map (opv F') := List.map_congr_left fun p hp => h p hp
  simp only [xAc,e1]
 | fcall f args =>
  have e0 := h f (List.mem_cons_self)
  have e1 : args.map (opv F) = args.map (opv F') := List.map_congr_left fun p hp => h p (List.mem_cons_of_mem _ hp)
  simp only [xAc,e0,e1]
 | ofcall f args =>
  have e0 := h f (List.mem_cons_self)
  have e1 : args.map (opv F) = args.map (opv F') := List.map_congr_left fun p hp => h p (List.mem_cons_of_mem _ hp)
  simp only [xAc,e0,e1]
 | icall f args =>
  have e0 := h f (List.mem_cons_self)
  have e1 : args.map (opv F) = args.map (opv F') := List.map_congr_left fun p hp => h p (List.mem_cons_of_mem _ hp)
  simp only [xAc,e0,e1]
 | slice es x lo hi mx =>
  have e0 := h x (by simp [AOp.args])
  have e1 : lo.map (opv F) = lo.map (opv F') := by cases lo with | none => rfl | some y => simp [h y (by simp [AOp.args])]
  have e2 : hi.map (opv F) = hi.map (opv F') := by cases hi with | none => rfl | some y => simp [h y (by simp [AOp.args])]
  have e3 : mx.map (opv F) = mx.map (opv F') := by cases mx with | none => rfl | some y => simp [h y (by simp [AOp.args])]
  simp only [xAc,e0,e1,e2,e3]
 | pick c x y => simp only [xAc,h c (by simp [AOp.args]),h x (by simp [AOp.args]),h y (by simp [AOp.args])]
 | mov x => simp only [xAc,h x (by simp [AOp.args])]
 | idx g es len x i => simp only [xAc,h x (by simp [AOp.args]),h i (by simp [AOp.args])]
 | arrat es len x i => simp only [xAc,h x (by simp [AOp.args]),h i (by simp [AOp.args])]
 | garr b es len i => simp only [xAc,h i (by simp [AOp.args])]
 | sidx x i => simp only [xAc,h x (by simp [AOp.args]),h i (by simp [AOp.args])]
 | slen x => simp only [xAc,h x (by simp [AOp.args])]
 | box x => simp only [xAc,h x (by simp [AOp.args])]
 | nilchk x => simp only [xAc,h x (by simp [AOp.args])]
 | isnil g x => simp only [xAc,h x (by simp [AOp.args])]
 | un g x => simp only [xAc,h x (by simp [AOp.args])]
 | conv g x => simp only [xAc,h x (by simp [AOp.args])]
 | faddr g x => simp only [xAc,h x (by simp [AOp.args])]
 | field g o n x => simp only [xAc,h x (by simp [AOp.args])]
 | ext g x => simp only [xAc,h x (by simp [AOp.args])]
 | len x => simp only [xAc,h x (by simp [AOp.args])]
 | cap x => simp only [xAc,h x (by simp [AOp.args])]
 | aeq n m x y => simp only [xAc,h x (by simp [AOp.args]),h y (by simp [AOp.args])]
 | load g n x => simp only [xAc,h x (by simp [AOp.args])]
 | store n x y => simp only [xAc,h x (by simp [AOp.args]),h y (by simp [AOp.args])]
 | bin n x y => simp only [xAc,h x (by simp [AOp.args]),h y (by simp [AOp.args])]
 | beq n x y => simp only [xAc,h x (by simp [AOp.args]),h y (by simp [AOp.args])]
 | maxi x y => simp only [xAc,h x (by simp [AOp.args]),h y (by simp [AOp.args])]
 | mini x y => simp only [xAc,h x (by simp [AOp.args]),h y (by simp [AOp.args])]
 | copy n x y => rfl
 | iaddr n x y => simp only [xAc,h x (by simp [AOp.args]),h y (by simp [AOp.args])]
 | append f e b x y => simp only [xAc,h x (by simp [AOp.args]),h y (by simp [AOp.args])]
 | appendh e b x y => simp only [xAc,h x (by simp [AOp.args]),h y (by simp [AOp.args])]
 | appendz z b x y => simp only [xAc,h x (by simp [AOp.args]),h y (by simp [AOp.args])]
 | mkslice f z b x y => simp only [xAc,h x (by simp [AOp.args]),h y (by simp [AOp.args])]
 | mkmap => rfl
 | mlook ks c z x y => simp only [xAc,h x (by simp [AOp.args]),h y (by simp [AOp.args])]
 | ment ks z x y => simp only [xAc,h x (by simp [AOp.args]),h y (by simp [AOp.args])]
 | mstore x y z => simp only [xAc,h x (by simp [AOp.args]),h y (by simp [AOp.args]),h z (by simp [AOp.args])]
 | mupd ks x y z => simp only [xAc,h x (by simp [AOp.args]),h y (by simp [AOp.args]),h z (by simp [AOp.args])]
 | mlen x => simp only [xAc,h x (by simp [AOp.args])]
 | mnil n x => simp only [xAc,h x (by simp [AOp.args])]
 | pnil n x => simp only [xAc,h x (by simp [AOp.args])]
 | sbytes f x => simp only [xAc,h x (by simp [AOp.args])]
 | bstr x => simp only [xAc,h x (by simp [AOp.args])]
 | sadd x y => simp only [xAc,h x (by simp [AOp.args]),h y (by simp [AOp.args])]
theorem xMM {F F' : List AV} {g : Option (Nat × Bool)} (h : ∀ s w,g = some (s,w) → F.getD s .any = F'.getD s .any) : xH9 F g = xH9 F' g := by
 cases g with
 | none => rfl
 | some p =>
  obtain ⟨s,w⟩ := p
  simp only [xH9,h s w rfl]
theorem xMN {F F' : List AV} {op : AOp} (h : ∀ x ∈ op.args,opv F x = opv F' x) : xAO R F H op = xAO R F' H op := by
 have e := xLn (R := R) (H := H) h
 cases op
 case call f args =>
  have e1 : args.map (opv F) = args.map (opv F') := List.map_congr_left fun p hp => h p hp
  simp only [xAO,e1]
 case fcall f args =>
  have e0 := h f (List.mem_cons_self)
  have e1 : args.map (opv F) = args.map (opv F') := List.map_congr_left fun p hp => h p (List.mem_cons_of_mem _ hp)
  simp only [xAO,e0,e1]
 case append fz es b x y =>
  cases fz
  ·rfl
  ·simp only [xAO,e,h x (by simp [AOp.args])]
 case bslice fz z es n parts =>
  cases fz
  ·rfl
  ·simp only [xAO,e]
 case mkslice fz z b x y =>
  cases fz
  ·rfl
  ·simp only [xAO,e]
 case sbytes fz x =>
  cases fz
  ·rfl
  ·simp only [xAO,e]
 case box x => cases x <;> rfl
 all_goals first | rfl | simp only [xAO,e]
theorem xWs {i : Nat} (h : xMP H i = true) : H.modify i xGg = H := by
 unfold xMP at h
 split at h
 ·rename_i z cs e
  apply List.ext_getElem?
  intro j
  rw [List.getElem?_modify]
  by_cases q : i = j
  ·subst q; rw [e]; simp [xGg]
  ·simp only [if_neg q]; cases H[j]? <;> rfl
 ·cases h
theorem xKY : ∀ (ids : List Nat),ids.all (xMP H) = true → fzIds H ids = H
 | [],_ => rfl
 | i :: ids,h => by
  simp only [List.all_cons,Bool.and_eq_true] at h
  have h1 : fzIds H (i :: ids) = fzIds (H.modify i xGg) ids := rfl
  rw [h1,xWs h.1]
  exact xKY ids h.2
theorem xKZ {z : Bool} {n es : Nat} {cs : List AV} (h : xLr true z n es cs H = some (v,H')) : H' = H := by
 unfold xLr at h
 simp only [if_true] at h
 split at h
 ·simp only [Option.map_eq_some_iff,Prod.mk.injEq] at h
  obtain ⟨_,_,_,e⟩ := h
  exact e.symm
 ·cases h
theorem xNL {op : AOp} (hna : xNT op = false) (h : xAO R F H op = some v) : xAc R F H op = some (v,H) := by
 have base : ∀ (x : Option (AV × Heap)),(∀ v' H',x = some (v',H') → H' = H) → x.map (·.1) = some v → x = some (v,H) := by
  intro x hx hm
  simp only [Option.map_eq_some_iff] at hm
  obtain ⟨⟨v',H'⟩,e1,rfl⟩ := hm
  have := hx _ _ e1
  subst this
  exact e1
 cases op
 case call f args =>
  simp only [xAO] at h
  split at h
  ·rename_i r H1 e
   split at h
   ·rename_i hq
    cases h
    simp only [xAc,e]
    unfold xHG at e
    split at e
    ·cases e
    split at e
    ·cases e
    cases e
    unfold quietCall at hq
    by_cases hsc : xE0 v = true
    ·rw [if_pos hsc]
    ·rw [if_neg hsc]
     simp only [hsc,Bool.false_or] at hq
     rw [xKY _ hq]
   ·cases h
  ·cases h
 case fcall f args =>
  simp only [xAO] at h
  split at h
  case h_2 => cases h
  rename_i g caps hg
  split at h
  ·rename_i r H1 e
   split at h
   ·rename_i hq
    cases h
    simp only [xAc,hg,e]
    unfold xHG at e
    split at e
    ·cases e
    split at e
    ·cases e
    cases e
    unfold quietCall at hq
    by_cases hsc : xE0 v = true
    ·rw [if_pos hsc]
    ·rw [if_neg hsc]
     simp only [hsc,Bool.false_or] at hq
     rw [xKY _ hq]
   ·cases h
  ·cases h
 case append fz es b x y =>
  cases fz
  ·simp [xAO] at h
  ·simp only [xAO] at h
   split at h
   ·rename_i z n cs e1
    refine base _ ?_ h
    intro v' H' he
    simp only [xAc,e1] at he
    split at he
    ·cases he
    ·split at he
     ·split at he
      ·exact xKZ he
      ·cases he
     ·rename_i q; cases q
     ·cases he
   ·cases h
 case bslice fz z es n parts =>
  cases fz
  ·simp [xAO] at h
  ·simp only [xAO] at h
   refine base _ ?_ h
   intro v' H' he
   simp only [xAc] at he
   split at he
   ·split at he
    ·exact xKZ he
    ·cases he
   ·cases he
 case mkslice fz z b x y =>
  cases fz
  ·simp [xAO] at h
  ·simp only [xAO] at h
   refine base _ ?_ h
   intro v' H' he
   simp only [xAc] at he
   split at he
   ·split at he
    ·exact xKZ he
    ·cases he
   ·cases he
 case sbytes fz x =>
  cases fz
  ·simp [xAO] at h
  ·simp only [xAO] at h
   refine base _ ?_ h
   intro v' H' he
   simp only [xAc] at he
   split at he
   ·exact xKZ he
   ·cases he
 case mlook ks c z x y =>
  simp only [xAO] at h
  refine base _ ?_ h
  intro v' H' he
  simp only [xAc] at he
  split at he
  ·split at he
   ·cases he
   ·split at he
    ·cases he
    ·cases he; rfl
    ·cases he; rfl
  ·cases he
 case box x =>
  cases x with
  | t i => simp [xAO] at h
  | c v => simp [xNT,xAm] at hna
 all_goals simp only [xAO] at h
 all_goals try (cases h; done)
 all_goals refine base _ ?_ h
 all_goals intro v' H' he
 all_goals simp only [xAc] at he
 all_goals first
  | (cases he; rfl)
  | (simp only [Option.map_eq_some_iff,Prod.mk.injEq] at he; obtain ⟨_,_,_,e⟩ := he; exact e.symm)
  | (split at he <;> first | (cases he; rfl) | (cases he; done) | (simp only [Option.map_eq_some_iff,Prod.mk.injEq] at he; obtain ⟨_,_,_,e⟩ := he; exact e.symm) | (split at he <;> first | (cases he; rfl) | (cases he; done) | (simp only [Option.map_eq_some_iff,Prod.mk.injEq] at he; obtain ⟨_,_,_,e⟩ := he; exact e.symm)))
  | (split at he <;> first | (cases he; done) | (split at he <;> first | (cases he; done) | (split at he <;> first | (cases he; done) | (cases he; rfl))))
end
end Go.Abs
