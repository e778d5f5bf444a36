/- The operations that call nothing. -/
import Derived.ChangeKeysEq
import Derived.Test.YtijmhicopfphnaaDoorAbsOps
import Derived.Laws.Cover3
import Derived.Laws.StructEq
namespace Go.Abs
set_option linter.unusedVariables false
set_option linter.unusedSimpArgs false
open Go.RowKit
def xK6 (P : Program) (t : TypeId) : Option Value := (P.info? t).bind (·.zero)
def xP4 (P : Program) (t : TypeId) : Option (List (Nat × Nat)) := match P.underlying t with
 | some (.struct fs) => fs.toList.mapM fun f => (xNR P f.type).map fun n => (f.offset,n)
 | some (.array k e) => (xNR P e).map fun n => (List.range k).map fun i => (i * n,n)
 | _ => none
def xP5 (pl : List (Nat × Nat)) (ps : List (Nat × Operand)) (parts : List (Nat × Nat × Arg)) : Bool :=
 ps.length == parts.length && (ps.zip parts).all fun p => pl[p.1.1]? == some (p.2.1,p.2.2.1) && xBq p.1.2 p.2.2.2
def xMO (ps : List (Nat × Operand)) (parts : List (Nat × Arg)) : Bool :=
 ps.length == parts.length && (ps.zip parts).all fun p => p.1.1 == p.2.1 && xBq p.1.2 p.2.2
def bytesOf (P : Program) (t : TypeId) : Option Nat := (P.info? t).map (·.bytes)
def xWz (P : Program) (t : TypeId) : Bool := match P.underlying t with | some (.int _) => true | _ => false
def xTZ (P : Program) (t : TypeId) : Bool := match P.underlying t with | some .string => true | _ => false
theorem xNP {P : Program} {t : TypeId} (h : xTZ P t = true) : P.underlying t = some .string := by
 unfold xTZ at h
 split at h
 ·assumption
 ·cases h
def xVB (P : Program) (t : TypeId) : Bool := match P.underlying t with
 | some (.int _) => true
 | _ => false
def xT0 (P : Program) : Nat → List Field → Bool
 | _,[] => true
 | i,f :: fs => f.name != "_" && f.offset == i && xVB P f.type && xT0 P (i + 1) fs
def xAI (P : Program) (o : Oper) : AOp → Bool
 | .mov x => match o.op with
  | .move y | .assign y => xBq y x
  | _ => false
 | .pick c a b => match o.op with
  | .pick c' a' b' => xBq c' c && xBq a' a && xBq b' b
  | _ => false
 | .box x => match o.op with
  | .box _ y => xBq y x
  | .alloc t => match xK6 P t,x with
   | some z,.c v => cst z v
   | _,_ => false
  | _ => false
 | .build z parts => match o.op with
  | .build t ps => match xP4 P t,xK6 P t with
   | some pl,some zv => xLF zv.cells.toList z && xP5 pl ps.toList parts
   | _,_ => false
  | _ => false
 | .bslice _ z es n parts => match o.op with
  | .buildSlice t len ps => match xK7 P t with
   | some e => match xK6 P e with
    | some zv => xNR P e == some es && len == n && decide (len * es ≤ 2 ^ 24) && z.length == es && xLF zv.cells.toList z && xMO ps.toList parts
    | none => false
   | none => false
  | _ => false
 | .dslice _ _ _ _ => false
 | .load g n p => match o.op with
  | .load t y => xNR P t == some n && xOG P t == some g && (g || n == 1) && xBq y p
  | _ => false
 | .store n p v => match o.op with
  | .store t y x => xNR P t == some n && xBq y p && xBq x v
  | _ => false
 | .nilchk x => match o.op with
  | .nilCheck y => xBq y x
  | _ => false
 | .bin op x y => match o.op with
  | .binOp op' _ x' y' _ => op == op' && xBq x' x && xBq y' y
  | _ => false
 | .beq neg x y => match o.op with
  | .binOp op' t x' y' _ => op' == (if neg then .neq else .eql) && xBq x' x && xBq y' y && (match P.underlying t with | some .bool => true | _ => false)
  | _ => false
 | .isnil _ _ => false
 | .un op x => match o.op with
  | .unOp op' _ y => op == op' && xBq y x
  | _ => false
 | .conv k x => match o.op with
  | .convert s t y => (P.underlying s).isSome && (match P.underlying t with | some (.int k') => k == k' | _ => false) && xBq y x
  | _ => false
 | .mkfunc f caps => match o.op with
  | .makeFunc (.func g) first caps' => f == g && first.isEmpty && xJ1 caps'.toList caps
  | _ => false
 | .mkslice _ z bytes l c => match o.op with
  | .makeSlice t l' c' => match xK7 P t with
   | some e => match xK6 P e with
    | some zv => xLF zv.cells.toList z && xNR P e == some z.length && bytesOf P e == some bytes && xBq l' l && xBq c' c
    | none => false
   | none => false
  | _ => false
 | .slice es x lo hi mx => match o.op with
  | .slice t x' lo' hi' mx' => match xK7 P t with
   | some e => xNR P e == some es && xBq x' x && xLG lo' lo && xLG hi' hi && xLG mx' mx
   | none => false
  | _ => false
 | .faddr off x => match o.op with
  | .fieldAddr t y i => match xTo P t i with
   | some (off',ft) => off' == off && (match xNR P ft with | some n => n != 0 | none => false) && xBq y x
   | none => false
  | _ => false
 | .field _ _ _ _ => false
 | .iaddr es x i => match o.op with
  | .indexAddr t x' i' => match xK7 P t with
   | some e => xNR P e == some es && xBq x' x && xBq i' i
   | none => false
  | _ => false
 | .idx g es len x i => match o.op with
  | .index t x' i' => (match P.underlying t with
   | some (.array n e) => n == len && xNR P e == some es && xOG P e == some g && xBq x' x && xBq i' i
   | _ => false)
  | _ => false
 | .arrat es len x i => match o.op with
  | .indexAddr t x' i' => (match P.underlying t with
   | some (.array n e) => n == len && xNR P e == some es && xBq x' x && xBq i' i
   | _ => false)
  | _ => false
 | .garr b es len i => match o.op with
  | .indexAddr t (.global b') i' => (match P.underlying t with
   | some (.array n e) => b' == b && n == len && xNR P e == some es && xBq i' i
   | _ => false)
  | _ => false
 | .mkmap => false
 | .mlook _ _ _ _ _ => false
 | .ment _ _ _ _ => false
 | .mstore _ _ _ => false
 | .mupd _ _ _ _ => false
 | .mlen _ => false
 | .mnil _ _ => false
 | .pnil _ _ => false
 | .sbytes _ _ => false
 | .bstr _ => false
 | .sadd _ _ => false
 | .sidx x i => match o.op with
  | .index t x' i' => (match P.underlying t with
   | some .string => xBq x' x && xBq i' i
   | _ => false)
  | _ => false
 | .slen x => match o.op with
  | .call { callee := .builtin .len,args := xs,argTypes := ts } => (match xs.toList,ts.toList with
   | [x'],[t] => (match P.underlying t with | some .string => xBq x' x | _ => false)
   | _,_ => false)
  | _ => false
 | .ext i x => match o.op with
  | .extract y i' => i == i' && xBq y x
  | _ => false
 | .len x => match o.op with
  | .call { callee := .builtin .len,args := xs,argTypes := ts } => match xs.toList,ts.toList with
   | [y],t :: _ => xBq y x && (xK7 P t).isSome
   | _,_ => false
  | _ => false
 | .cap x => match o.op with
  | .call { callee := .builtin .cap,args := xs,argTypes := ts } => match xs.toList,ts.toList with
   | [y],t :: _ => xBq y x && (xK7 P t).isSome
   | _,_ => false
  | _ => false
 | .aeq neg n x y => match o.op with
  | .binOp op' t x' y' _ => op' == (if neg then .neq else .eql) && xBq x' x && xBq y' y && (match P.underlying t with
   | some (.struct fs) => fs.size == n && xT0 P 0 fs.toList && !P.stoodInHeld t && !P.eqGuardType P.depth t
   | some (.array m e) => m == n && xVB P e && (match P.info? e with | some _ => P.cellsOf e == 1 | none => false) && !P.eqGuardType P.depth t
   | _ => false)
  | _ => false
 | .append _ es bytes x y => match o.op with
  | .call { callee := .builtin .append,args := xs,argTypes := ts } => match xs.toList,ts.toList with
   | [x',y'],[t,t'] => xBq x' x && xBq y' y && (xK7 P t').isSome && (match xK7 P t with
    | some e => xNR P e == some es && bytesOf P e == some bytes && decide (0 < es) && (match xK6 P e with | some zv => zv.cells.size == es | none => false)
    | none => false)
   | _,_ => false
  | _ => false
 | .appendh _ _ _ _ => false
 | .appendz z bytes x n => match o.op with
  | .call { callee := .builtin .append,args := xs,argTypes := ts } => match xs.toList,ts.toList with
   | [x',y'],[t,t'] => xBq x' x && xBq y' n && xWz P t' && (match xK7 P t with
    | some e => xNR P e == some z.length && bytesOf P e == some bytes && decide (0 < z.length) && (match xK6 P e with | some zv => xLF zv.cells.toList z | none => false)
    | none => false)
   | _,_ => false
  | _ => false
 | .copy _ _ _ => false
 | .maxi x y => match o.op with
  | .call { callee := .builtin .max,args := xs,.. } => match xs.toList with
   | [x',y'] => xBq x' x && xBq y' y
   | _ => false
  | _ => false
 | .mini x y => match o.op with
  | .call { callee := .builtin .min,args := xs,.. } => match xs.toList with
   | [x',y'] => xBq x' x && xBq y' y
   | _ => false
  | _ => false
 | .mm mx xs => match o.op with
  | .call { callee := .builtin b,args := ys,.. } => b == (if mx then .max else .min) && xJ1 ys.toList xs
  | _ => false
 | .sslice x lo hi => match o.op with
  | .slice t x' lo' hi' none => xTZ P t && xBq x' x && xLG lo' lo && xLG hi' hi
  | _ => false
 | .sbeq neg x y => match o.op with
  | .binOp op t x' y' _ => (op == (if neg then .neq else .eql)) && xTZ P t && xBq x' x && xBq y' y
  | _ => false
 | .mkbound f first => match o.op with
  | .makeFunc (.func g) first' caps => f == g && caps.isEmpty && xJ1 first'.toList first
  | _ => false
 | .call f args | .ocall f args | .ocallw f args => match o.op with
  | .call { callee := .value (.func g),args := xs,.. } => f == g && xJ1 xs.toList args
  | _ => false
 | .icall f args | .fcall f args | .bcall f args | .ofcall f args => match o.op with
  | .call { callee := .value g,args := xs,.. } => xBq g f && xJ1 xs.toList args
  | _ => false
section
variable {chk : Code → ACode → Bool} {P : Program} {o : Oper} {a : Act} {im : Im} {io : Io} {H H' : Heap} {w : World} {F : List AV} {R : Rec} {v : AV}
theorem xZC {x : Arg} (hc : xAI P o (.mov x) = true) (hs : Sim chk im io H w) (hF : FRep im io F a) (h : xAc R F H (.mov x) = some (v,H')) : Good chk P o a im io w v H' := by
 simp only [xAI] at hc
 simp only [xAc] at h; cases h
 split at hc
 ·rename_i y ho
  exact .same hs (by simp [execOp,ho]) (xAj hc hF)
 ·rename_i y ho
  exact .same hs (by simp [execOp,ho]) (xAj hc hF)
 ·cases hc
theorem xWA {c x y : Arg} (hc : xAI P o (.pick c x y) = true) (hs : Sim chk im io H w) (hF : FRep im io F a) (h : xAc R F H (.pick c x y) = some (v,H')) : Good chk P o a im io w v H' := by
 simp only [xAI] at hc
 simp only [xAc] at h
 split at hc
 ·rename_i c' x' y' ho
  simp only [Bool.and_eq_true] at hc
  have r1 := xAj hc.1.1 hF
  have r2 := xAj hc.1.2 hF
  have r3 := xAj hc.2 hF
  split at h
  ·rename_i t e
   cases h
   rw [e] at r1
   generalize hv : a.eval c' = cv at r1
   cases r1
   cases t
   ·exact .same hs (x := a.eval y') (by simp [execOp,ho,hv,asBool]) r3
   ·exact .same hs (x := a.eval x') (by simp [execOp,ho,hv,asBool]) r2
  ·cases h
 ·cases hc
theorem xZD {i : Nat} {x : Arg} (hc : xAI P o (.ext i x) = true) (hs : Sim chk im io H w) (hF : FRep im io F a) (h : xAc R F H (.ext i x) = some (v,H')) : Good chk P o a im io w v H' := by
 simp only [xAI] at hc
 simp only [xAc] at h
 split at hc
 ·rename_i y i' ho
  simp only [Bool.and_eq_true,beq_iff_eq] at hc
  obtain ⟨rfl,hx⟩ := hc
  have r1 := xAj hx hF
  split at h
  ·rename_i vs e
   simp only [Option.map_eq_some_iff,Prod.mk.injEq] at h
   obtain ⟨v',h1,rfl,rfl⟩ := h
   rw [e] at r1
   generalize hv : a.eval y = cv at r1
   cases r1 with
   | tup hl hcc =>
    rename_i ws
    obtain ⟨xv,hx1,hx2⟩ := Reps.get (vs := ws) ⟨hl,hcc⟩ h1
    exact .same hs (x := xv) (by simp [execOp,ho,hv,Instr.extract,hx1]) hx2
  ·cases h
 ·cases hc
theorem xTl {f : Nat} {caps : List Arg} (hc : xAI P o (.mkfunc f caps) = true) (hs : Sim chk im io H w) (hF : FRep im io F a) (h : xAc R F H (.mkfunc f caps) = some (v,H')) : Good chk P o a im io w v H' := by
 simp only [xAI] at hc
 simp only [xAc] at h; cases h
 split at hc
 ·rename_i g first caps' ho
  simp only [Bool.and_eq_true,beq_iff_eq] at hc
  obtain ⟨⟨rfl,h1⟩,h2⟩ := hc
  have r := xGd (im := im) (io := io) hF h2
  have e : first = #[] := by simpa using h1
  subst e
  refine .same hs (x := .func (.func f) #[] (caps'.map a.eval)) (by simp [execOp,ho,Instr.makeFunc]) ?_
  have h3 := Rep.func (f := f) r.1 r.2
  rw [show (List.map a.eval caps'.toList).toArray = caps'.map a.eval by rw [← Array.toList_inj]; simp] at h3
  exact h3
 ·cases hc
theorem xQX {f : Nat} {first : List Arg} (hc : xAI P o (.mkbound f first) = true) (hs : Sim chk im io H w) (hF : FRep im io F a) (h : xAc R F H (.mkbound f first) = some (v,H')) : Good chk P o a im io w v H' := by
 simp only [xAI] at hc
 simp only [xAc] at h; cases h
 split at hc
 ·rename_i g first' caps ho
  simp only [Bool.and_eq_true,beq_iff_eq] at hc
  obtain ⟨⟨rfl,h1⟩,h2⟩ := hc
  have r := xGd (im := im) (io := io) hF h2
  have e : caps = #[] := by simpa using h1
  subst e
  refine .same hs (x := .func (.func f) (first'.map a.eval) #[]) (by simp [execOp,ho,Instr.makeFunc]) ?_
  have h3 := Rep.bfunc (f := f) r.1 r.2
  rw [show (List.map a.eval first'.toList).toArray = first'.map a.eval by rw [← Array.toList_inj]; simp] at h3
  exact h3
 ·cases hc
theorem xWB {neg : Bool} {x y : Arg} (hc : xAI P o (.sbeq neg x y) = true) (hs : Sim chk im io H w) (hF : FRep im io F a) (h : xAc R F H (.sbeq neg x y) = some (v,H')) : Good chk P o a im io w v H' := by
 simp only [xAI] at hc
 simp only [xAc] at h
 split at hc
 case h_2 => cases hc
 rename_i op t x' y' yt ho
 simp only [Bool.and_eq_true,beq_iff_eq] at hc
 obtain ⟨⟨⟨rfl,hu⟩,h1⟩,h2⟩ := hc
 have hu := xNP hu
 have r1 := xAj h1 hF
 have r2 := xAj h2 hF
 split at h
 case h_2 => cases h
 rename_i s t' e1 e2
 cases h
 rw [e1] at r1
 rw [e2] at r2
 generalize hv1 : a.eval x' = c1 at r1
 generalize hv2 : a.eval y' = c2 at r2
 cases r1
 cases r2
 cases neg
 ·refine .same hs (x := .bool (s.toList == t'.toList)) ?_ ?_
  ·simp [execOp,ho,hv1,hv2,eqGuard,binOp,run_underlying hu,Op.stringOp]
  ·rw [show ((s.toList == t'.toList) != false) = (s.toList == t'.toList) by cases (s.toList == t'.toList) <;> rfl]; exact .bool
 ·refine .same hs (x := .bool (!(s.toList == t'.toList))) ?_ ?_
  ·simp [execOp,ho,hv1,hv2,eqGuard,binOp,run_underlying hu,Op.stringOp]
  ·rw [show ((s.toList == t'.toList) != true) = !(s.toList == t'.toList) by cases (s.toList == t'.toList) <;> rfl]; exact .bool
theorem yBp (k : IntKind) : ∀ (vs : List AV) (xs : List Value) (n : Int) (r : AV),Reps im io vs xs → mmA true (.int k n) vs = some r → ∃ m,r = .int k m ∧ (xs.foldlM Builtin.max2 (.int k n)).run P w = .ok (.int k m) w
 | [],[],n,r,_,h => by simp only [mmA] at h; cases h; exact ⟨n,rfl,rfl⟩
 | [],_ :: _,_,_,hr,_ => by have := hr.1; simp at this
 | _ :: _,[],_,_,hr,_ => by have := hr.1; simp at this
 | v :: vs,x :: xs,n,r,hr,h => by
  have r0 := hr.2 0 v x rfl rfl
  have rr : Reps im io vs xs := ⟨by simpa using hr.1,fun i c u h1 h2 => hr.2 (i + 1) c u h1 h2⟩
  cases v <;> simp only [mmA,reduceCtorEq] at h
  rename_i k' b
  cases r0
  obtain ⟨m,e1,e2⟩ := yBp k vs xs _ r rr h
  refine ⟨m,e1,?_⟩
  rw [List.foldlM_cons]
  simp only [Builtin.max2,Sem.run_bind,Sem.run_pure,Result.andThen]
  simpa using e2
theorem yBq (k : IntKind) : ∀ (vs : List AV) (xs : List Value) (n : Int) (r : AV),Reps im io vs xs → mmA false (.int k n) vs = some r → ∃ m,r = .int k m ∧ (xs.foldlM Builtin.min2 (.int k n)).run P w = .ok (.int k m) w
 | [],[],n,r,_,h => by simp only [mmA] at h; cases h; exact ⟨n,rfl,rfl⟩
 | [],_ :: _,_,_,hr,_ => by have := hr.1; simp at this
 | _ :: _,[],_,_,hr,_ => by have := hr.1; simp at this
 | v :: vs,x :: xs,n,r,hr,h => by
  have r0 := hr.2 0 v x rfl rfl
  have rr : Reps im io vs xs := ⟨by simpa using hr.1,fun i c u h1 h2 => hr.2 (i + 1) c u h1 h2⟩
  cases v <;> simp only [mmA,reduceCtorEq] at h
  rename_i k' b
  cases r0
  obtain ⟨m,e1,e2⟩ := yBq k vs xs _ r rr h
  refine ⟨m,e1,?_⟩
  rw [List.foldlM_cons]
  simp only [Builtin.min2,Sem.run_bind,Sem.run_pure,Result.andThen]
  simpa using e2
theorem yCB {mx : Bool} {xs : List Arg} (hc : xAI P o (.mm mx xs) = true) (hs : Sim chk im io H w) (hF : FRep im io F a) (h : xAc R F H (.mm mx xs) = some (v,H')) : Good chk P o a im io w v H' := by
 simp only [xAI] at hc
 simp only [xAc] at h
 split at hc
 case h_2 => cases hc
 rename_i b ys ts ho
 simp only [Bool.and_eq_true,beq_iff_eq] at hc
 obtain ⟨rfl,hargs⟩ := hc
 have hr := xGd (im := im) (io := io) hF hargs
 split at h
 ·cases h
 rename_i x r hxr
 rw [hxr] at hr
 simp only [Option.map_eq_some_iff,Prod.mk.injEq] at h
 obtain ⟨v',hm,rfl,rfl⟩ := h
 match hys : ys.toList.map a.eval,hr with
 | [],hr => have := hr.1; simp at this
 | y :: rs,hr =>
  have r0 := hr.2 0 x y rfl rfl
  have rr : Reps im io r rs := ⟨by simpa using hr.1,fun i c u h1 h2 => hr.2 (i + 1) c u h1 h2⟩
  have hys' : (ys.map a.eval).toList = y :: rs := by simpa using hys
  have hx : ∃ k n,x = .int k n := by
   cases x with
   | int k n => exact ⟨k,n,rfl⟩
   | _ => cases r <;> simp [mmA] at hm
  obtain ⟨k,n,rfl⟩ := hx
  cases r0
  cases mx
  ·obtain ⟨m,e1,e2⟩ := yBq (P := P) (w := w) k r rs n v' rr hm
   subst e1
   refine .same hs (x := .int k m) ?_ .int
   simp [execOp,ho,resolve,invoke,builtin,Builtin.min_,hys,e2]
  ·obtain ⟨m,e1,e2⟩ := yBp (P := P) (w := w) k r rs n v' rr hm
   subst e1
   refine .same hs (x := .int k m) ?_ .int
   simp [execOp,ho,resolve,invoke,builtin,Builtin.max_,hys,e2]
theorem xTm {x : Arg} (hc : xAI P o (.nilchk x) = true) (hs : Sim chk im io H w) (hF : FRep im io F a) (h : xAc R F H (.nilchk x) = some (v,H')) : Good chk P o a im io w v H' := by
 simp only [xAI] at hc
 simp only [xAc] at h
 split at hc
 ·rename_i y ho
  have r1 := xAj hc hF
  split at h
  all_goals try (cases h; done)
  all_goals
   rename_i e
   cases h
   rw [e] at r1
   generalize hv : a.eval y = cv at r1
   have r2 := r1
   cases r1
   exact .same hs (by simp [execOp,ho,hv]) r2
 ·cases hc
theorem xWC {k : IntKind} {x : Arg} (hc : xAI P o (.conv k x) = true) (hs : Sim chk im io H w) (hF : FRep im io F a) (h : xAc R F H (.conv k x) = some (v,H')) : Good chk P o a im io w v H' := by
 simp only [xAI] at hc
 simp only [xAc] at h
 split at hc
 ·rename_i s t y ho
  simp only [Bool.and_eq_true,Option.isSome_iff_exists] at hc
  obtain ⟨⟨⟨d,hd⟩,h2⟩,h3⟩ := hc
  have r1 := xAj h3 hF
  split at h2
  ·rename_i k' hu
   simp only [beq_iff_eq] at h2
   subst h2
   split at h
   ·rename_i k0 n e
    cases h
    rw [e] at r1
    generalize hv : a.eval y = cv at r1
    cases r1
    exact .same hs (x := .int k (k.wrap n)) (by simp [execOp,ho,hv,convert,run_underlying hd,run_underlying hu,Conv.intToInt]) .int
   ·cases h
  ·cases h2
 ·cases hc
theorem yCC {op : UnOp} {x : Arg} (hc : xAI P o (.un op x) = true) (hs : Sim chk im io H w) (hF : FRep im io F a) (h : xAc R F H (.un op x) = some (v,H')) : Good chk P o a im io w v H' := by
 simp only [xAI] at hc
 simp only [xAc,Option.map_eq_some_iff,Prod.mk.injEq] at h
 obtain ⟨v',h,rfl,rfl⟩ := h
 split at hc
 ·rename_i op' t y ho
  simp only [Bool.and_eq_true,beq_iff_eq] at hc
  obtain ⟨rfl,h3⟩ := hc
  have r1 := xAj h3 hF
  unfold unA at h
  split at h
  ·rename_i b e
   split at h
   ·cases h
    rw [e] at r1
    generalize hv : a.eval y = cv at r1
    cases r1
    exact .same hs (x := .bool !b) (by simp [execOp,ho,hv,Op.unary]) .bool
   ·cases h
  ·rename_i k n e
   split at h
   ·cases h
    rw [e] at r1
    generalize hv : a.eval y = cv at r1
    cases r1
    exact .same hs (x := .int k (k.wrap (0 - n))) (by simp [execOp,ho,hv,Op.unary,Op.intArith]) .int
   ·cases h
    rw [e] at r1
    generalize hv : a.eval y = cv at r1
    cases r1
    exact .same hs (x := .int k (xK8 .xor k (if k.signed then -1 else k.max) n)) (by simp [execOp,ho,hv,Op.unary,Op.intBits,xK8]) .int
   ·cases h
  ·cases h
 ·cases hc
theorem xZE {op : BinOp} {x y : Arg} (hc : xAI P o (.bin op x y) = true) (hs : Sim chk im io H w) (hF : FRep im io F a) (h : xAc R F H (.bin op x y) = some (v,H')) : Good chk P o a im io w v H' := by
 simp only [xAI] at hc
 simp only [xAc,Option.map_eq_some_iff,Prod.mk.injEq] at h
 obtain ⟨v',h,rfl,rfl⟩ := h
 split at hc
 ·rename_i op' t x' y' yt ho
  simp only [Bool.and_eq_true,beq_iff_eq] at hc
  obtain ⟨⟨rfl,h2⟩,h3⟩ := hc
  have r1 := xAj h2 hF
  have r2 := xAj h3 hF
  unfold xKt at h
  split at h
  ·rename_i k n k' m e1 e2
   rw [e1] at r1
   rw [e2] at r2
   generalize hv1 : a.eval x' = c1 at r1
   generalize hv2 : a.eval y' = c2 at r2
   cases r1
   cases r2
   have hg : eqGuard op t x' y' (.int k n) (.int k' m) = pure () := by
    unfold eqGuard
    cases op <;> rfl
   have base : ∀ (r : Value),(binOp op t (.int k n) (.int k' m)).run P w = .ok r w → (execOp a.eval o).run P w = .ok (.value r) w := by
    intro r hr
    simp [execOp,ho,hv1,hv2,hg,hr]
   cases op <;> simp only at h
   all_goals (split at h <;> first | (cases h; done) | skip)
   all_goals cases h
   all_goals first
    | (rename_i hk; obtain ⟨rfl,hm⟩ := hk; refine .same hs (base _ ?_) .int; simp [binOp,Op.intDiv,hm]; done)
    | (rename_i hk; subst hk; refine .same hs (base _ ?_) .int; simp [binOp,Op.intArith]; done)
    | (rename_i hk; subst hk; refine .same hs (base _ ?_) .int; simp [binOp,Op.intBits,xK8]; done)
    | (rename_i hk; subst hk; refine .same hs (base _ ?_) .bool; simp [binOp,Op.intCmp]; done)
    | (rename_i hb; refine .same hs (base _ ?_) .int; simp [binOp,Op.shift,hb]; done)
  ·cases h
 ·cases hc
theorem xZF {neg : Bool} {x y : Arg} (hc : xAI P o (.beq neg x y) = true) (hs : Sim chk im io H w) (hF : FRep im io F a) (h : xAc R F H (.beq neg x y) = some (v,H')) : Good chk P o a im io w v H' := by
 simp only [xAI] at hc
 simp only [xAc] at h
 split at hc
 ·rename_i op' t x' y' yt ho
  simp only [Bool.and_eq_true,beq_iff_eq] at hc
  obtain ⟨⟨⟨hop,h2⟩,h3⟩,h4⟩ := hc
  have r1 := xAj h2 hF
  have r2 := xAj h3 hF
  split at h4
  ·rename_i hu
   split at h
   ·rename_i b1 b2 e1 e2
    cases h
    rw [e1] at r1
    rw [e2] at r2
    generalize hv1 : a.eval x' = c1 at r1
    generalize hv2 : a.eval y' = c2 at r2
    cases r1
    cases r2
    cases neg <;> simp only [if_true,Bool.false_eq_true,if_false] at hop ⊢ <;> subst hop
    ·exact .same hs (x := .bool (b1 == b2)) (by simp [execOp,ho,hv1,hv2,eqGuard,binOp,Go.run_equal_bool w t b1 b2 hu]) .bool
    ·exact .same hs (x := .bool (b1 != b2)) (by simp [execOp,ho,hv1,hv2,eqGuard,binOp,Go.run_equal_bool w t b1 b2 hu,bne]) .bool
   ·cases h
  ·cases h4
 ·cases hc
theorem xM2 {d : Nat} {xs ys : Array Value} : ∀ (fs : List Field) (i : Nat) (cs ds : List AV) (r : Bool),xT0 P i fs = true → xHC cs ds = some r → fs.length = cs.length →
  (∀ j c,cs[j]? = some c → ∃ v,xs[i + j]? = some v ∧ Rep im io c v) → (∀ j c,ds[j]? = some c → ∃ v,ys[i + j]? = some v ∧ Rep im io c v) → (Op.eqFields (d + 1) xs ys fs).run P w = .ok r w
 | [],i,[],[],r,_,h,_,_,_ => by simp only [xHC,Option.some.injEq] at h; subst h; rfl
 | [],_,[],_ :: _,_,_,h,_,_,_ => by simp [xHC] at h
 | [],_,_ :: _,_,_,_,_,h,_,_ => by simp at h
 | _ :: _,_,[],_,_,_,_,h,_,_ => by simp at h
 | _ :: _,_,_ :: _,[],_,_,h,_,_,_ => by simp [xHC] at h
 | f :: fs,i,c :: cs,e :: ds,r,hf,h,hl,hx,hy => by
  simp only [xT0,Bool.and_eq_true,bne_iff_ne,beq_iff_eq] at hf
  obtain ⟨⟨⟨h1,h2⟩,h3⟩,h4⟩ := hf
  simp only [xHC] at h
  split at h
  case h_2 => cases h
  rename_i b rr hb hr
  cases h
  obtain ⟨v1,g1,k1⟩ := hx 0 c rfl
  obtain ⟨v2,g2,k2⟩ := hy 0 e rfl
  have ih := xM2 (d := d) fs (i + 1) cs ds rr h4 hr (by simpa using hl) (fun j c' hc => by rw [show i + 1 + j = i + (j + 1) by omega]; exact hx (j + 1) c' (by simpa using hc)) (fun j c' hc => by rw [show i + 1 + j = i + (j + 1) by omega]; exact hy (j + 1) c' (by simpa using hc))
  have hagg : xOG P f.type = some false := by
   unfold xVB at h3
   unfold xOG
   split at h3
   ·rename_i hu; rw [hu]; rfl
   ·cases h3
  have p1 : (part f.type xs f.offset).run P w = .ok v1 w := by
   have := xH8 hagg w
   have hx' : xs[i]? = some v1 := g1
   simp [part,this,h2,hx',Result.andThen]
  have p2 : (part f.type ys f.offset).run P w = .ok v2 w := by
   have := xH8 hagg w
   have hx' : ys[i]? = some v2 := g2
   simp [part,this,h2,hx',Result.andThen]
  have heq : (Op.equalIn (d + 1) f.type v1 v2).run P w = .ok b w := by
   cases c <;> cases e <;> simp only [eq1] at hb <;> try (cases hb; done)
   split at hb
   ·rename_i hk
    subst hk
    cases hb
    cases k1
    cases k2
    unfold xVB at h3
    split at h3
    ·rename_i hu; exact Go.run_equalIn_int w d _ _ _ _ _ hu
    ·cases h3
   ·cases hb
  simp only [Op.eqFields,ne_eq,h1,not_false_eq_true,if_true,Sem.run_bind,p1,p2,heq,Result.andThen]
  cases b
  ·simp
  ·simpa using ih
theorem xM3 {d : Nat} {xs ys : Array Value} {e : TypeId} (hf : xVB P e = true) (hc1 : P.cellsOf e = 1) : ∀ (cs ds : List AV) (i : Nat) (r : Bool),xHC cs ds = some r →
  (∀ j c,cs[j]? = some c → ∃ v,xs[i + j]? = some v ∧ Rep im io c v) → (∀ j c,ds[j]? = some c → ∃ v,ys[i + j]? = some v ∧ Rep im io c v) → (Op.eqItems (d + 1) e (P.cellsOf e) xs ys (List.range' i cs.length)).run P w = .ok r w
 | [],[],i,r,h,_,_ => by simp only [xHC,Option.some.injEq] at h; subst h; rfl
 | [],_ :: _,_,_,h,_,_ => by simp [xHC] at h
 | _ :: _,[],_,_,h,_,_ => by simp [xHC] at h
 | c :: cs,g :: ds,i,r,h,hx,hy => by
  simp only [xHC] at h
  split at h
  case h_2 => cases h
  rename_i b rr hb hr
  cases h
  obtain ⟨v1,g1,k1⟩ := hx 0 c rfl
  obtain ⟨v2,g2,k2⟩ := hy 0 g rfl
  have ih := xM3 (d := d) hf hc1 cs ds (i + 1) rr hr (fun j c' hc => by rw [show i + 1 + j = i + (j + 1) by omega]; exact hx (j + 1) c' (by simpa using hc)) (fun j c' hc => by rw [show i + 1 + j = i + (j + 1) by omega]; exact hy (j + 1) c' (by simpa using hc))
  have hu : ∃ k,P.underlying e = some (.int k) := by
   unfold xVB at hf
   split at hf
   ·exact ⟨_,by assumption⟩
   ·cases hf
  obtain ⟨ki,hu⟩ := hu
  have hagg : xOG P e = some false := by unfold xOG; rw [hu]; rfl
  have p1 : (part e xs i).run P w = .ok v1 w := by
   have := xH8 hagg w
   have hx' : xs[i]? = some v1 := g1
   simp [part,this,hx',Result.andThen]
  have p2 : (part e ys i).run P w = .ok v2 w := by
   have := xH8 hagg w
   have hx' : ys[i]? = some v2 := g2
   simp [part,this,hx',Result.andThen]
  have heq : (Op.equalIn (d + 1) e v1 v2).run P w = .ok b w := by
   cases c <;> cases g <;> simp only [eq1] at hb <;> try (cases hb; done)
   split at hb
   ·rename_i hk
    subst hk
    cases hb
    cases k1
    cases k2
    exact Go.run_equalIn_int w d _ _ _ _ _ hu
   ·cases hb
  rw [hc1] at ih
  simp only [List.length_cons,List.range'_succ,Op.eqItems,hc1,Nat.mul_one,Sem.run_bind,p1,p2,heq,Result.andThen_ok]
  cases b
  ·simp
  ·simpa using ih
theorem xZG {neg : Bool} {n : Nat} {x y : Arg} (hc : xAI P o (.aeq neg n x y) = true) (hs : Sim chk im io H w) (hF : FRep im io F a) (h : xAc R F H (.aeq neg n x y) = some (v,H')) : Good chk P o a im io w v H' := by
 simp only [xAI] at hc
 simp only [xAc] at h
 split at hc
 ·rename_i op' t x' y' yt ho
  simp only [Bool.and_eq_true,beq_iff_eq] at hc
  obtain ⟨⟨⟨hop,h2⟩,h3⟩,h4⟩ := hc
  have r1 := xAj h2 hF
  have r2 := xAj h3 hF
  split at h
  case h_2 => cases h
  rename_i cs ds e1 e2
  split at h
  case isFalse => cases h
  rename_i hln
  simp only [Option.map_eq_some_iff,Prod.mk.injEq] at h
  obtain ⟨b,hb,rfl,rfl⟩ := h
  rw [e1] at r1
  rw [e2] at r2
  generalize hv1 : a.eval x' = c1 at r1
  generalize hv2 : a.eval y' = c2 at r2
  cases r1 with
  | agg l1 a1 k1 =>
  cases r2 with
  | agg l2 a2 k2 =>
  rename_i vs us
  have rx : ∀ (j : Nat) c,cs[j]? = some c → ∃ v,vs.toArray[0 + j]? = some v ∧ Rep im io c v := fun j c hc => by
   obtain ⟨u,q1,q2⟩ := Reps.get (vs := vs) ⟨l1,a1⟩ hc
   exact ⟨u,by simpa using q1,q2⟩
  have ry : ∀ (j : Nat) c,ds[j]? = some c → ∃ v,us.toArray[0 + j]? = some v ∧ Rep im io c v := fun j c hc => by
   obtain ⟨u,q1,q2⟩ := Reps.get (vs := us) ⟨l2,a2⟩ hc
   exact ⟨u,by simpa using q1,q2⟩
  have key : (Op.equalIn 10000 t (.agg vs.toArray) (.agg us.toArray)).run P w = .ok b w ∧ P.eqGuardType P.depth t = false := by
   split at h4
   ·rename_i fs hu
    simp only [Bool.and_eq_true,beq_iff_eq,Bool.not_eq_true'] at h4
    obtain ⟨⟨⟨hn,hfl⟩,hst⟩,hg⟩ := h4
    have hfs : P.fieldsOf t = fs := by simp [Program.fieldsOf,hu]
    have hrun := xM2 (P := P) (im := im) (io := io) (w := w) (d := 9998) (xs := vs.toArray) (ys := us.toArray) fs.toList 0 cs ds b hfl hb (by simp [hn,hln]) rx ry
    refine ⟨?_,hg⟩
    rw [show (10000 : Nat) = 9999 + 1 from rfl,Go.run_equalIn_struct w 9999 t _ _ (by rw [hfs]; exact hu) hst,hfs]
    exact hrun
   ·rename_i m e hu
    simp only [Bool.and_eq_true,beq_iff_eq,Bool.not_eq_true'] at h4
    obtain ⟨⟨⟨hn,hfl⟩,hi⟩,hg⟩ := h4
    split at hi
    case h_2 => cases hi
    rename_i i hi'
    simp only [beq_iff_eq] at hi
    have hrun := xM3 (P := P) (im := im) (io := io) (w := w) (d := 9998) (xs := vs.toArray) (ys := us.toArray) hfl hi cs ds 0 b hb rx ry
    refine ⟨?_,hg⟩
    rw [show (10000 : Nat) = 9999 + 1 from rfl,run_equalIn_array w 9999 _ _ hu hi',List.range_eq_range',hn,← hln]
    exact hrun
   ·cases h4
  obtain ⟨heq,hg⟩ := key
  have hguard : ∀ op,(eqGuard op t x' y' (.agg vs.toArray) (.agg us.toArray)).run P w = .ok () w := fun op => Go.run_eqGuard_agg w op t x' y' _ _ hg
  cases neg <;> simp only [if_true,Bool.false_eq_true,if_false] at hop <;> subst hop
  ·exact .same hs (x := .bool b) (by simp only [execOp,ho,hv1,hv2,Sem.run_bind,hguard,Result.andThen,Go.run_eql_struct,heq,Sem.run_pure]) (by simpa using Rep.bool)
  ·exact .same hs (x := .bool !b) (by simp only [execOp,ho,hv1,hv2,Sem.run_bind,hguard,Result.andThen,Go.run_neq_struct,heq,Sem.run_pure]) (by
    have : (b != true) = !b := by cases b <;> rfl
    rw [this]; exact Rep.bool)
 ·cases hc
theorem xZH {x : Arg} (hc : xAI P o (.cap x) = true) (hs : Sim chk im io H w) (hF : FRep im io F a) (h : xAc R F H (.cap x) = some (v,H')) : Good chk P o a im io w v H' := by
 simp only [xAI] at hc
 simp only [xAc] at h
 split at hc
 ·rename_i xs ts ho
  split at hc
  ·rename_i y t trest hxs hts
   simp only [Bool.and_eq_true,Option.isSome_iff_exists] at hc
   obtain ⟨h1,e,h2⟩ := hc
   have hu := xGN h2
   have r1 := xAj h1 hF
   have hxs' : xs = #[y] := by rw [← Array.toList_inj]; simpa using hxs
   subst hxs'
   have ht : ts[0]? = some t := by rw [← Array.getElem?_toList,hts]; rfl
   split at h
   ·rename_i e1
    cases h
    rw [e1] at r1
    generalize hv : a.eval y = cv at r1
    cases r1
    exact .same hs (x := .int .i64 0) (by simp [execOp,ho,resolve,invoke,builtin,Builtin.cap_,ht,hv,run_underlying hu,goInt]) .int
   ·cases h
  ·cases hc
 ·cases hc
theorem xWD {x y : Arg} (hc : xAI P o (.maxi x y) = true) (hs : Sim chk im io H w) (hF : FRep im io F a) (h : xAc R F H (.maxi x y) = some (v,H')) : Good chk P o a im io w v H' := by
 simp only [xAI] at hc
 simp only [xAc] at h
 split at hc
 ·rename_i xs ts ho
  split at hc
  ·rename_i x' y' hxs
   simp only [Bool.and_eq_true] at hc
   have r1 := xAj hc.1 hF
   have r2 := xAj hc.2 hF
   have hxs' : xs = #[x',y'] := by rw [← Array.toList_inj]; simpa using hxs
   subst hxs'
   split at h
   ·rename_i k n k' m e1 e2
    cases h
    rw [e1] at r1
    rw [e2] at r2
    generalize hv1 : a.eval x' = c1 at r1
    generalize hv2 : a.eval y' = c2 at r2
    cases r1
    cases r2
    exact .same hs (by simp [execOp,ho,resolve,invoke,builtin,Builtin.max_,Builtin.max2,hv1,hv2]) .int
   ·cases h
  ·cases hc
 ·cases hc
theorem xWE {x y : Arg} (hc : xAI P o (.mini x y) = true) (hs : Sim chk im io H w) (hF : FRep im io F a) (h : xAc R F H (.mini x y) = some (v,H')) : Good chk P o a im io w v H' := by
 simp only [xAI] at hc
 simp only [xAc] at h
 split at hc
 ·rename_i xs ts ho
  split at hc
  ·rename_i x' y' hxs
   simp only [Bool.and_eq_true] at hc
   have r1 := xAj hc.1 hF
   have r2 := xAj hc.2 hF
   have hxs' : xs = #[x',y'] := by rw [← Array.toList_inj]; simpa using hxs
   subst hxs'
   split at h
   ·rename_i k n k' m e1 e2
    cases h
    rw [e1] at r1
    rw [e2] at r2
    generalize hv1 : a.eval x' = c1 at r1
    generalize hv2 : a.eval y' = c2 at r2
    cases r1
    cases r2
    exact .same hs (by simp [execOp,ho,resolve,invoke,builtin,Builtin.min_,Builtin.min2,hv1,hv2]) .int
   ·cases h
  ·cases hc
 ·cases hc
theorem xP6 {z : Bool} {n : Nat} {cs : List AV} {x : Value} (h : Rep im io (.sl z n cs) x) : ∃ ad cap,x = .slice ad n cap := by
 cases h <;> exact ⟨_,_,rfl⟩
theorem xTn {z : Bool} {id off n es : Nat} {x : Value} (h : Rep im io (.own z id off n es) x) : ∃ ad cap,x = .slice ad n cap := by
 cases h <;> exact ⟨_,_,rfl⟩
theorem xZI {x : Arg} (hc : xAI P o (.len x) = true) (hs : Sim chk im io H w) (hF : FRep im io F a) (h : xAc R F H (.len x) = some (v,H')) : Good chk P o a im io w v H' := by
 simp only [xAI] at hc
 simp only [xAc] at h
 split at hc
 ·rename_i xs ts ho
  split at hc
  ·rename_i y t trest hxs hts
   simp only [Bool.and_eq_true,Option.isSome_iff_exists] at hc
   obtain ⟨h1,e,h2⟩ := hc
   have hu := xGN h2
   have r1 := xAj h1 hF
   have hxs' : xs = #[y] := by rw [← Array.toList_inj]; simpa using hxs
   subst hxs'
   have ht : ts[0]? = some t := by rw [← Array.getElem?_toList,hts]; rfl
   have run : ∀ (ad : Option Addr) (n cap : Nat),a.eval y = .slice ad n cap → (execOp a.eval o).run P w = .ok (.value (.int .i64 n)) w := fun ad n cap hv => by
    simp [execOp,ho,resolve,invoke,builtin,Builtin.len_,ht,hv,run_underlying hu,goInt]
   split at h
   ·rename_i e1
    cases h
    rw [e1] at r1
    obtain ⟨ad,cap,hx⟩ := xP6 r1
    exact .same hs (run ad _ cap hx) .int
   ·rename_i e1
    cases h
    rw [e1] at r1
    obtain ⟨ad,cap,hx⟩ := xTn r1
    exact .same hs (run ad _ cap hx) .int
   ·cases h
  ·cases hc
 ·cases hc
theorem xVC {neg : Bool} {x : Arg} (hc : xAI P o (.isnil neg x) = true) (hs : Sim chk im io H w) (hF : FRep im io F a) (h : xAc R F H (.isnil neg x) = some (v,H')) : Good chk P o a im io w v H' := by simp [xAI] at hc
end
end Go.Abs
