/- The operations that call nothing. -/
import Derived.ChangeKeysEq
import Derived.Test.YtijmhicopfphnaaDoorAbsOps
import Derived.Laws.Cover3
import Derived.Laws.StructEq
namespace Go.Abs
set_option linter.unusedVariables false
set_option linter.unusedSimpArgs false
open Go.RowKit
def xDv (P : Program) (t : TypeId) : Option Value := (P.info? t).bind (·.zero)
def xMc (P : Program) (t : TypeId) : Option (List (Nat × Nat)) := match P.underlying t with
 | some (.struct fs) => fs.toList.mapM fun f => (xGZ P f.type).map fun n => (f.offset,n)
 | some (.array k e) => (xGZ P e).map fun n => (List.range k).map fun i => (i * n,n)
 | _ => none
def xMd (pl : List (Nat × Nat)) (ps : List (Nat × Operand)) (parts : List (Nat × Nat × Arg)) : Bool :=
 ps.length == parts.length && (ps.zip parts).all fun p => pl[p.1.1]? == some (p.2.1,p.2.2.1) && xA2 p.1.2 p.2.2.2
def xFh (ps : List (Nat × Operand)) (parts : List (Nat × Arg)) : Bool :=
 ps.length == parts.length && (ps.zip parts).all fun p => p.1.1 == p.2.1 && xA2 p.1.2 p.2.2
def bytesOf (P : Program) (t : TypeId) : Option Nat := (P.info? t).map (·.bytes)
def xUM (P : Program) (t : TypeId) : Bool := match P.underlying t with | some (.int _) => true | _ => false
def xRb (P : Program) (t : TypeId) : Bool := match P.underlying t with | some .string => true | _ => false
theorem xH4 {P : Program} {t : TypeId} (h : xRb P t = true) : P.underlying t = some .string := by
 unfold xRb at h
 split at h
 ·assumption
 ·cases h
def xX6 (P : Program) (t : TypeId) (k : Nat) : Bool := match P.underlying t with
 | some (.int _) => k == 0
 | some .string => k == 1
 | _ => false
def xMe (P : Program) : Nat → List Field → List Nat → Bool
 | _,[],[] => true
 | i,f :: fs,k :: ks => f.name != "_" && f.offset == i && xX6 P f.type k && xMe P (i + 1) fs ks
 | _,_,_ => false
def xTO (P : Program) (t : TypeId) (ks : List Nat) : Bool := match P.underlying t with
 | some (.int _) => ks == [0]
 | some .string => ks == [1]
 | some (.struct fs) => (match ks with
  | 2 :: ks => xMe P 0 fs.toList ks && !P.stoodInHeld t
  | _ => false)
 | some (.array n e) => (match ks with
  | 2 :: ks => ks.length == n && ks.all (xX6 P e) && (match P.info? e with | some i => P.cellsOf e == 1 && (xHp P e == some false) | none => false)
  | _ => false)
 | _ => false
def xTP (P : Program) (t : TypeId) : Bool := match P.underlying t with
 | some (.int _) => true
 | _ => false
def xRc (P : Program) : Nat → List Field → Bool
 | _,[] => true
 | i,f :: fs => f.name != "_" && f.offset == i && xTP P f.type && xRc P (i + 1) fs
def xA3 (P : Program) (o : Oper) : AOp → Bool
 | .mov x => match o.op with
  | .move y | .assign y => xA2 y x
  | _ => false
 | .pick c a b => match o.op with
  | .pick c' a' b' => xA2 c' c && xA2 a' a && xA2 b' b
  | _ => false
 | .box x => match o.op with
  | .box _ y => xA2 y x
  | .alloc t => match xDv P t,x with
   | some z,.c v => cst z v
   | _,_ => false
  | _ => false
 | .build z parts => match o.op with
  | .build t ps => match xMc P t,xDv P t with
   | some pl,some zv => xEU zv.cells.toList z && xMd pl ps.toList parts
   | _,_ => false
  | _ => false
 | .bslice _ z es n parts => match o.op with
  | .buildSlice t len ps => match xDw P t with
   | some e => match xDv P e with
    | some zv => xGZ P e == some es && len == n && decide (len * es ≤ 2 ^ 24) && z.length == es && xEU zv.cells.toList z && xFh ps.toList parts
    | none => false
   | none => false
  | _ => false
 | .dslice z es n parts => match o.op with
  | .buildSlice t len ps => match xDw P t with
   | some e => match xDv P e with
    | some zv => xGZ P e == some es && len == n && decide (len * es ≤ 2 ^ 24) && z.length == es && xEU zv.cells.toList z && xFh ps.toList parts
    | none => false
   | none => false
  | _ => false
 | .load g n p => match o.op with
  | .load t y => xGZ P t == some n && xHp P t == some g && (g || n == 1) && xA2 y p
  | _ => false
 | .store n p v => match o.op with
  | .store t y x => xGZ P t == some n && xA2 y p && xA2 x v
  | _ => false
 | .nilchk x => match o.op with
  | .nilCheck y => xA2 y x
  | _ => false
 | .bin op x y => match o.op with
  | .binOp op' _ x' y' _ => op == op' && xA2 x' x && xA2 y' y
  | _ => false
 | .beq neg x y => match o.op with
  | .binOp op' t x' y' _ => op' == (if neg then .neq else .eql) && xA2 x' x && xA2 y' y && (match P.underlying t with | some .bool => true | _ => false)
  | _ => false
 | .isnil neg x => match o.op with
  | .binOp op' t x' (.const (.slice none 0 0)) _ => op' == (if neg then .neq else .eql) && xA2 x' x && (xDw P t).isSome
  | _ => false
 | .un op x => match o.op with
  | .unOp op' _ y => op == op' && xA2 y x
  | _ => false
 | .conv k x => match o.op with
  | .convert s t y => (P.underlying s).isSome && (match P.underlying t with | some (.int k') => k == k' | _ => false) && xA2 y x
  | _ => false
 | .mkfunc f caps => match o.op with
  | .makeFunc (.func g) first caps' => f == g && first.isEmpty && xDP caps'.toList caps
  | _ => false
 | .mkslice _ z bytes l c => match o.op with
  | .makeSlice t l' c' => match xDw P t with
   | some e => match xDv P e with
    | some zv => xEU zv.cells.toList z && xGZ P e == some z.length && bytesOf P e == some bytes && xA2 l' l && xA2 c' c
    | none => false
   | none => false
  | _ => false
 | .slice es x lo hi mx => match o.op with
  | .slice t x' lo' hi' mx' => match xDw P t with
   | some e => xGZ P e == some es && xA2 x' x && xFs lo' lo && xFs hi' hi && xFs mx' mx
   | none => false
  | _ => false
 | .faddr off x => match o.op with
  | .fieldAddr t y i => match xMh P t i with
   | some (off',ft) => off' == off && (match xGZ P ft with | some n => n != 0 | none => false) && xA2 y x
   | none => false
  | _ => false
 | .field g off n x => match o.op with
  | .field t y i => match xMh P t i with
   | some (off',ft) => off' == off && xGZ P ft == some n && xHp P ft == some g && (g || n == 1) && xA2 y x
   | none => false
  | _ => false
 | .iaddr es x i => match o.op with
  | .indexAddr t x' i' => match xDw P t with
   | some e => xGZ P e == some es && xA2 x' x && xA2 i' i
   | none => false
  | _ => false
 | .idx g es len x i => match o.op with
  | .index t x' i' => (match P.underlying t with
   | some (.array n e) => n == len && xGZ P e == some es && xHp P e == some g && xA2 x' x && xA2 i' i
   | _ => false)
  | _ => false
 | .arrat es len x i => match o.op with
  | .indexAddr t x' i' => (match P.underlying t with
   | some (.array n e) => n == len && xGZ P e == some es && xA2 x' x && xA2 i' i
   | _ => false)
  | _ => false
 | .garr b es len i => match o.op with
  | .indexAddr t (.global b') i' => (match P.underlying t with
   | some (.array n e) => b' == b && n == len && xGZ P e == some es && xA2 i' i
   | _ => false)
  | _ => false
 | .mkmap => match o.op with
  | .makeMap _ none => true
  | _ => false
 | .mlook ks comma z x k => match o.op with
  | .lookup t x' k' c' => (match P.underlying t with
   | some (.map kt et) => xTO P kt ks && (match xDv P et with | some zv => cst zv z | none => false) && c' == comma && xA2 x' x && xA2 k' k
   | _ => false)
  | _ => false
 | .ment ks z m k => match o.op with
  | .mapEntry t m' k' => (match P.underlying t with
   | some (.map kt et) => xTO P kt ks && (match xDv P et with | some zv => cst zv z | none => false) && xA2 m' m && xA2 k' k
   | _ => false)
  | _ => false
 | .mstore m s v => match o.op with
  | .entryStore _ m' s' v' => xA2 m' m && xA2 s' s && xA2 v' v
  | _ => false
 | .mupd ks m k v => match o.op with
  | .mapUpdate t m' k' v' | .insert t m' k' v' => (match P.underlying t with
   | some (.map kt _) => xTO P kt ks && xA2 m' m && xA2 k' k && xA2 v' v
   | _ => false)
  | _ => false
 | .mlen x => match o.op with
  | .call { callee := .builtin .len,args := xs,argTypes := ts } => (match xs.toList,ts.toList with
   | [x'],[t] => (match P.underlying t with | some (.map _ _) => xA2 x' x | _ => false)
   | _,_ => false)
  | _ => false
 | .mnil neg x => match o.op with
  | .binOp op' t x' (.const (.map none)) _ => op' == (if neg then .neq else .eql) && xA2 x' x && (match P.underlying t with | some (.map _ _) => true | _ => false)
  | _ => false
 | .pnil neg x => match o.op with
  | .binOp op' t x' (.const (.pointer none)) _ => op' == (if neg then .neq else .eql) && xA2 x' x && (match P.underlying t with | some (.pointer e) => e == P.pointee t | _ => false)
  | _ => false
 | .sbytes _ x => match o.op with
  | .convert s t y => (match P.underlying s,P.underlying t with
   | some .string,some (.slice e) => (match P.underlying e with | some (.int .u8) => xA2 y x | _ => false)
   | _,_ => false)
  | _ => false
 | .bstr x => match o.op with
  | .convert s t y => (match P.underlying s,P.underlying t with
   | some (.slice e),some .string => (match P.underlying e with | some (.int .u8) => xA2 y x | _ => false)
   | _,_ => false)
  | _ => false
 | .sadd x y => match o.op with
  | .binOp op' t x' y' _ => op' == .add && (match P.underlying t with | some .string => true | _ => false) && xA2 x' x && xA2 y' y
  | _ => false
 | .sidx x i => match o.op with
  | .index t x' i' => (match P.underlying t with
   | some .string => xA2 x' x && xA2 i' i
   | _ => false)
  | _ => false
 | .slen x => match o.op with
  | .call { callee := .builtin .len,args := xs,argTypes := ts } => (match xs.toList,ts.toList with
   | [x'],[t] => (match P.underlying t with | some .string => xA2 x' x | _ => false)
   | _,_ => false)
  | _ => false
 | .ext i x => match o.op with
  | .extract y i' => i == i' && xA2 y x
  | _ => false
 | .len x => match o.op with
  | .call { callee := .builtin .len,args := xs,argTypes := ts } => match xs.toList,ts.toList with
   | [y],t :: _ => xA2 y x && (xDw P t).isSome
   | _,_ => false
  | _ => false
 | .cap x => match o.op with
  | .call { callee := .builtin .cap,args := xs,argTypes := ts } => match xs.toList,ts.toList with
   | [y],t :: _ => xA2 y x && (xDw P t).isSome
   | _,_ => false
  | _ => false
 | .aeq neg n x y => match o.op with
  | .binOp op' t x' y' _ => op' == (if neg then .neq else .eql) && xA2 x' x && xA2 y' y && (match P.underlying t with
   | some (.struct fs) => fs.size == n && xRc P 0 fs.toList && !P.stoodInHeld t && !P.eqGuardType P.depth t
   | some (.array m e) => m == n && xTP P e && (match P.info? e with | some _ => P.cellsOf e == 1 | none => false) && !P.eqGuardType P.depth t
   | _ => false)
  | _ => false
 | .append _ es bytes x y => match o.op with
  | .call { callee := .builtin .append,args := xs,argTypes := ts } => match xs.toList,ts.toList with
   | [x',y'],[t,t'] => xA2 x' x && xA2 y' y && (xDw P t').isSome && (match xDw P t with
    | some e => xGZ P e == some es && bytesOf P e == some bytes && decide (0 < es) && (match xDv P e with | some zv => zv.cells.size == es | none => false)
    | none => false)
   | _,_ => false
  | _ => false
 | .appendh es bytes x y => match o.op with
  | .call { callee := .builtin .append,args := xs,argTypes := ts } => match xs.toList,ts.toList with
   | [x',y'],[t,t'] => xA2 x' x && xA2 y' y && (xDw P t').isSome && (match xDw P t with
    | some e => xGZ P e == some es && bytesOf P e == some bytes && decide (0 < es) && (match xDv P e with | some zv => zv.cells.size == es | none => false)
    | none => false)
   | _,_ => false
  | _ => false
 | .appendz z bytes x n => match o.op with
  | .call { callee := .builtin .append,args := xs,argTypes := ts } => match xs.toList,ts.toList with
   | [x',y'],[t,t'] => xA2 x' x && xA2 y' n && xUM P t' && (match xDw P t with
    | some e => xGZ P e == some z.length && bytesOf P e == some bytes && decide (0 < z.length) && (match xDv P e with | some zv => xEU zv.cells.toList z | none => false)
    | none => false)
   | _,_ => false
  | _ => false
 | .copy _ _ _ => false
 | .maxi x y => match o.op with
  | .call { callee := .builtin .max,args := xs,.. } => match xs.toList with
   | [x',y'] => xA2 x' x && xA2 y' y
   | _ => false
  | _ => false
 | .mini x y => match o.op with
  | .call { callee := .builtin .min,args := xs,.. } => match xs.toList with
   | [x',y'] => xA2 x' x && xA2 y' y
   | _ => false
  | _ => false
 | .mm mx xs => match o.op with
  | .call { callee := .builtin b,args := ys,.. } => b == (if mx then .max else .min) && xDP ys.toList xs
  | _ => false
 | .sslice x lo hi => match o.op with
  | .slice t x' lo' hi' none => xRb P t && xA2 x' x && xFs lo' lo && xFs hi' hi
  | _ => false
 | .sbeq neg x y => match o.op with
  | .binOp op t x' y' _ => (op == (if neg then .neq else .eql)) && xRb P t && xA2 x' x && xA2 y' y
  | _ => false
 | .mkbound f first => match o.op with
  | .makeFunc (.func g) first' caps => f == g && caps.isEmpty && xDP first'.toList first
  | _ => false
 | .call f args | .ocall f args | .ocallw f args => match o.op with
  | .call { callee := .value (.func g),args := xs,.. } => f == g && xDP xs.toList args
  | _ => false
 | .icall f args | .fcall f args | .bcall f args | .ofcall f args => match o.op with
  | .call { callee := .value g,args := xs,.. } => xA2 g f && xDP xs.toList args
  | _ => false
section
variable {chk : Code → ACode → Bool} {P : Program} {o : Oper} {a : Act} {im : Im} {io : Io} {H H' : Heap} {w : World} {F : List AV} {R : Rec} {v : AV}
theorem xYr {x : Arg} (hc : xA3 P o (.mov x) = true) (hs : Sim chk im io H w) (hF : FRep im io F a) (h : xAg R F H (.mov x) = some (v,H')) : Good chk P o a im io w v H' := by
 simp only [xA3] at hc
 simp only [xAg] at h; cases h
 split at hc
 ·rename_i y ho
  exact .same hs (by simp [execOp,ho]) (xAt hc hF)
 ·rename_i y ho
  exact .same hs (by simp [execOp,ho]) (xAt hc hF)
 ·cases hc
theorem xUN {c x y : Arg} (hc : xA3 P o (.pick c x y) = true) (hs : Sim chk im io H w) (hF : FRep im io F a) (h : xAg R F H (.pick c x y) = some (v,H')) : Good chk P o a im io w v H' := by
 simp only [xA3] at hc
 simp only [xAg] at h
 split at hc
 ·rename_i c' x' y' ho
  simp only [Bool.and_eq_true] at hc
  have r1 := xAt hc.1.1 hF
  have r2 := xAt hc.1.2 hF
  have r3 := xAt hc.2 hF
  split at h
  ·rename_i t e
   cases h
   rw [e] at r1
   generalize hv : a.eval c' = cv at r1
   cases r1
   cases t
   ·exact .same hs (x := a.eval y') (by simp [execOp,ho,hv,asBool]) r3
   ·exact .same hs (x := a.eval x') (by simp [execOp,ho,hv,asBool]) r2
  ·cases h
 ·cases hc
theorem xYs {i : Nat} {x : Arg} (hc : xA3 P o (.ext i x) = true) (hs : Sim chk im io H w) (hF : FRep im io F a) (h : xAg R F H (.ext i x) = some (v,H')) : Good chk P o a im io w v H' := by
 simp only [xA3] at hc
 simp only [xAg] at h
 split at hc
 ·rename_i y i' ho
  simp only [Bool.and_eq_true,beq_iff_eq] at hc
  obtain ⟨rfl,hx⟩ := hc
  have r1 := xAt hx hF
  split at h
  ·rename_i vs e
   simp only [Option.map_eq_some_iff,Prod.mk.injEq] at h
   obtain ⟨v',h1,rfl,rfl⟩ := h
   rw [e] at r1
   generalize hv : a.eval y = cv at r1
   cases r1 with
   | tup hl hcc =>
    rename_i ws
    obtain ⟨xv,hx1,hx2⟩ := Reps.get (vs := ws) ⟨hl,hcc⟩ h1
    exact .same hs (x := xv) (by simp [execOp,ho,hv,Instr.extract,hx1]) hx2
  ·cases h
 ·cases hc
theorem xQx {f : Nat} {caps : List Arg} (hc : xA3 P o (.mkfunc f caps) = true) (hs : Sim chk im io H w) (hF : FRep im io F a) (h : xAg R F H (.mkfunc f caps) = some (v,H')) : Good chk P o a im io w v H' := by
 simp only [xA3] at hc
 simp only [xAg] at h; cases h
 split at hc
 ·rename_i g first caps' ho
  simp only [Bool.and_eq_true,beq_iff_eq] at hc
  obtain ⟨⟨rfl,h1⟩,h2⟩ := hc
  have r := xBN (im := im) (io := io) hF h2
  have e : first = #[] := by simpa using h1
  subst e
  refine .same hs (x := .func (.func f) #[] (caps'.map a.eval)) (by simp [execOp,ho,Instr.makeFunc]) ?_
  have h3 := Rep.func (f := f) r.1 r.2
  rw [show (List.map a.eval caps'.toList).toArray = caps'.map a.eval by rw [← Array.toList_inj]; simp] at h3
  exact h3
 ·cases hc
theorem xM3 {f : Nat} {first : List Arg} (hc : xA3 P o (.mkbound f first) = true) (hs : Sim chk im io H w) (hF : FRep im io F a) (h : xAg R F H (.mkbound f first) = some (v,H')) : Good chk P o a im io w v H' := by
 simp only [xA3] at hc
 simp only [xAg] at h; cases h
 split at hc
 ·rename_i g first' caps ho
  simp only [Bool.and_eq_true,beq_iff_eq] at hc
  obtain ⟨⟨rfl,h1⟩,h2⟩ := hc
  have r := xBN (im := im) (io := io) hF h2
  have e : caps = #[] := by simpa using h1
  subst e
  refine .same hs (x := .func (.func f) (first'.map a.eval) #[]) (by simp [execOp,ho,Instr.makeFunc]) ?_
  have h3 := Rep.bfunc (f := f) r.1 r.2
  rw [show (List.map a.eval first'.toList).toArray = first'.map a.eval by rw [← Array.toList_inj]; simp] at h3
  exact h3
 ·cases hc
theorem xUO {neg : Bool} {x y : Arg} (hc : xA3 P o (.sbeq neg x y) = true) (hs : Sim chk im io H w) (hF : FRep im io F a) (h : xAg R F H (.sbeq neg x y) = some (v,H')) : Good chk P o a im io w v H' := by
 simp only [xA3] at hc
 simp only [xAg] at h
 split at hc
 case h_2 => cases hc
 rename_i op t x' y' yt ho
 simp only [Bool.and_eq_true,beq_iff_eq] at hc
 obtain ⟨⟨⟨rfl,hu⟩,h1⟩,h2⟩ := hc
 have hu := xH4 hu
 have r1 := xAt h1 hF
 have r2 := xAt h2 hF
 split at h
 case h_2 => cases h
 rename_i s t' e1 e2
 cases h
 rw [e1] at r1
 rw [e2] at r2
 generalize hv1 : a.eval x' = c1 at r1
 generalize hv2 : a.eval y' = c2 at r2
 cases r1
 cases r2
 cases neg
 ·refine .same hs (x := .bool (s.toList == t'.toList)) ?_ ?_
  ·simp [execOp,ho,hv1,hv2,eqGuard,binOp,run_underlying hu,Op.stringOp]
  ·rw [show ((s.toList == t'.toList) != false) = (s.toList == t'.toList) by cases (s.toList == t'.toList) <;> rfl]; exact .bool
 ·refine .same hs (x := .bool (!(s.toList == t'.toList))) ?_ ?_
  ·simp [execOp,ho,hv1,hv2,eqGuard,binOp,run_underlying hu,Op.stringOp]
  ·rw [show ((s.toList == t'.toList) != true) = !(s.toList == t'.toList) by cases (s.toList == t'.toList) <;> rfl]; exact .bool
theorem xZ3 (k : IntKind) : ∀ (vs : List AV) (xs : List Value) (n : Int) (r : AV),Reps im io vs xs → mmA true (.int k n) vs = some r → ∃ m,r = .int k m ∧ (xs.foldlM Builtin.max2 (.int k n)).run P w = .ok (.int k m) w
 | [],[],n,r,_,h => by simp only [mmA] at h; cases h; exact ⟨n,rfl,rfl⟩
 | [],_ :: _,_,_,hr,_ => by have := hr.1; simp at this
 | _ :: _,[],_,_,hr,_ => by have := hr.1; simp at this
 | v :: vs,x :: xs,n,r,hr,h => by
  have r0 := hr.2 0 v x rfl rfl
  have rr : Reps im io vs xs := ⟨by simpa using hr.1,fun i c u h1 h2 => hr.2 (i + 1) c u h1 h2⟩
  cases v <;> simp only [mmA,reduceCtorEq] at h
  rename_i k' b
  cases r0
  obtain ⟨m,e1,e2⟩ := xZ3 k vs xs _ r rr h
  refine ⟨m,e1,?_⟩
  rw [List.foldlM_cons]
  simp only [Builtin.max2,Sem.run_bind,Sem.run_pure,Result.andThen]
  simpa using e2
theorem xZ4 (k : IntKind) : ∀ (vs : List AV) (xs : List Value) (n : Int) (r : AV),Reps im io vs xs → mmA false (.int k n) vs = some r → ∃ m,r = .int k m ∧ (xs.foldlM Builtin.min2 (.int k n)).run P w = .ok (.int k m) w
 | [],[],n,r,_,h => by simp only [mmA] at h; cases h; exact ⟨n,rfl,rfl⟩
 | [],_ :: _,_,_,hr,_ => by have := hr.1; simp at this
 | _ :: _,[],_,_,hr,_ => by have := hr.1; simp at this
 | v :: vs,x :: xs,n,r,hr,h => by
  have r0 := hr.2 0 v x rfl rfl
  have rr : Reps im io vs xs := ⟨by simpa using hr.1,fun i c u h1 h2 => hr.2 (i + 1) c u h1 h2⟩
  cases v <;> simp only [mmA,reduceCtorEq] at h
  rename_i k' b
  cases r0
  obtain ⟨m,e1,e2⟩ := xZ4 k vs xs _ r rr h
  refine ⟨m,e1,?_⟩
  rw [List.foldlM_cons]
  simp only [Builtin.min2,Sem.run_bind,Sem.run_pure,Result.andThen]
  simpa using e2
theorem yBJ {mx : Bool} {xs : List Arg} (hc : xA3 P o (.mm mx xs) = true) (hs : Sim chk im io H w) (hF : FRep im io F a) (h : xAg R F H (.mm mx xs) = some (v,H')) : Good chk P o a im io w v H' := by
 simp only [xA3] at hc
 simp only [xAg] at h
 split at hc
 case h_2 => cases hc
 rename_i b ys ts ho
 simp only [Bool.and_eq_true,beq_iff_eq] at hc
 obtain ⟨rfl,hargs⟩ := hc
 have hr := xBN (im := im) (io := io) hF hargs
 split at h
 ·cases h
 rename_i x r hxr
 rw [hxr] at hr
 simp only [Option.map_eq_some_iff,Prod.mk.injEq] at h
 obtain ⟨v',hm,rfl,rfl⟩ := h
 match hys : ys.toList.map a.eval,hr with
 | [],hr => have := hr.1; simp at this
 | y :: rs,hr =>
  have r0 := hr.2 0 x y rfl rfl
  have rr : Reps im io r rs := ⟨by simpa using hr.1,fun i c u h1 h2 => hr.2 (i + 1) c u h1 h2⟩
  have hys' : (ys.map a.eval).toList = y :: rs := by simpa using hys
  have hx : ∃ k n,x = .int k n := by
   cases x with
   | int k n => exact ⟨k,n,rfl⟩
   | _ => cases r <;> simp [mmA] at hm
  obtain ⟨k,n,rfl⟩ := hx
  cases r0
  cases mx
  ·obtain ⟨m,e1,e2⟩ := xZ4 (P := P) (w := w) k r rs n v' rr hm
   subst e1
   refine .same hs (x := .int k m) ?_ .int
   simp [execOp,ho,resolve,invoke,builtin,Builtin.min_,hys,e2]
  ·obtain ⟨m,e1,e2⟩ := xZ3 (P := P) (w := w) k r rs n v' rr hm
   subst e1
   refine .same hs (x := .int k m) ?_ .int
   simp [execOp,ho,resolve,invoke,builtin,Builtin.max_,hys,e2]
theorem xQy {x : Arg} (hc : xA3 P o (.nilchk x) = true) (hs : Sim chk im io H w) (hF : FRep im io F a) (h : xAg R F H (.nilchk x) = some (v,H')) : Good chk P o a im io w v H' := by
 simp only [xA3] at hc
 simp only [xAg] at h
 split at hc
 ·rename_i y ho
  have r1 := xAt hc hF
  split at h
  all_goals try (cases h; done)
  all_goals
   rename_i e
   cases h
   rw [e] at r1
   generalize hv : a.eval y = cv at r1
   have r2 := r1
   cases r1
   exact .same hs (by simp [execOp,ho,hv]) r2
 ·cases hc
theorem xUP {k : IntKind} {x : Arg} (hc : xA3 P o (.conv k x) = true) (hs : Sim chk im io H w) (hF : FRep im io F a) (h : xAg R F H (.conv k x) = some (v,H')) : Good chk P o a im io w v H' := by
 simp only [xA3] at hc
 simp only [xAg] at h
 split at hc
 ·rename_i s t y ho
  simp only [Bool.and_eq_true,Option.isSome_iff_exists] at hc
  obtain ⟨⟨⟨d,hd⟩,h2⟩,h3⟩ := hc
  have r1 := xAt h3 hF
  split at h2
  ·rename_i k' hu
   simp only [beq_iff_eq] at h2
   subst h2
   split at h
   ·rename_i k0 n e
    cases h
    rw [e] at r1
    generalize hv : a.eval y = cv at r1
    cases r1
    exact .same hs (x := .int k (k.wrap n)) (by simp [execOp,ho,hv,convert,run_underlying hd,run_underlying hu,Conv.intToInt]) .int
   ·cases h
  ·cases h2
 ·cases hc
theorem yBK {op : UnOp} {x : Arg} (hc : xA3 P o (.un op x) = true) (hs : Sim chk im io H w) (hF : FRep im io F a) (h : xAg R F H (.un op x) = some (v,H')) : Good chk P o a im io w v H' := by
 simp only [xA3] at hc
 simp only [xAg,Option.map_eq_some_iff,Prod.mk.injEq] at h
 obtain ⟨v',h,rfl,rfl⟩ := h
 split at hc
 ·rename_i op' t y ho
  simp only [Bool.and_eq_true,beq_iff_eq] at hc
  obtain ⟨rfl,h3⟩ := hc
  have r1 := xAt h3 hF
  unfold unA at h
  split at h
  ·rename_i b e
   split at h
   ·cases h
    rw [e] at r1
    generalize hv : a.eval y = cv at r1
    cases r1
    exact .same hs (x := .bool !b) (by simp [execOp,ho,hv,Op.unary]) .bool
   ·cases h
  ·rename_i k n e
   split at h
   ·cases h
    rw [e] at r1
    generalize hv : a.eval y = cv at r1
    cases r1
    exact .same hs (x := .int k (k.wrap (0 - n))) (by simp [execOp,ho,hv,Op.unary,Op.intArith]) .int
   ·cases h
    rw [e] at r1
    generalize hv : a.eval y = cv at r1
    cases r1
    exact .same hs (x := .int k (xFo .xor k (if k.signed then -1 else k.max) n)) (by simp [execOp,ho,hv,Op.unary,Op.intBits,xFo]) .int
   ·cases h
  ·cases h
 ·cases hc
theorem xYt {op : BinOp} {x y : Arg} (hc : xA3 P o (.bin op x y) = true) (hs : Sim chk im io H w) (hF : FRep im io F a) (h : xAg R F H (.bin op x y) = some (v,H')) : Good chk P o a im io w v H' := by
 simp only [xA3] at hc
 simp only [xAg,Option.map_eq_some_iff,Prod.mk.injEq] at h
 obtain ⟨v',h,rfl,rfl⟩ := h
 split at hc
 ·rename_i op' t x' y' yt ho
  simp only [Bool.and_eq_true,beq_iff_eq] at hc
  obtain ⟨⟨rfl,h2⟩,h3⟩ := hc
  have r1 := xAt h2 hF
  have r2 := xAt h3 hF
  unfold xEj at h
  split at h
  ·rename_i k n k' m e1 e2
   rw [e1] at r1
   rw [e2] at r2
   generalize hv1 : a.eval x' = c1 at r1
   generalize hv2 : a.eval y' = c2 at r2
   cases r1
   cases r2
   have hg : eqGuard op t x' y' (.int k n) (.int k' m) = pure () := by
    unfold eqGuard
    cases op <;> rfl
   have base : ∀ (r : Value),(binOp op t (.int k n) (.int k' m)).run P w = .ok r w → (execOp a.eval o).run P w = .ok (.value r) w := by
    intro r hr
    simp [execOp,ho,hv1,hv2,hg,hr]
   cases op <;> simp only at h
   all_goals (split at h <;> first | (cases h; done) | skip)
   all_goals cases h
   all_goals first
    | (rename_i hk; obtain ⟨rfl,hm⟩ := hk; refine .same hs (base _ ?_) .int; simp [binOp,Op.intDiv,hm]; done)
    | (rename_i hk; subst hk; refine .same hs (base _ ?_) .int; simp [binOp,Op.intArith]; done)
    | (rename_i hk; subst hk; refine .same hs (base _ ?_) .int; simp [binOp,Op.intBits,xFo]; done)
    | (rename_i hk; subst hk; refine .same hs (base _ ?_) .bool; simp [binOp,Op.intCmp]; done)
    | (rename_i hb; refine .same hs (base _ ?_) .int; simp [binOp,Op.shift,hb]; done)
  ·cases h
 ·cases hc
theorem xYu {neg : Bool} {x y : Arg} (hc : xA3 P o (.beq neg x y) = true) (hs : Sim chk im io H w) (hF : FRep im io F a) (h : xAg R F H (.beq neg x y) = some (v,H')) : Good chk P o a im io w v H' := by
 simp only [xA3] at hc
 simp only [xAg] at h
 split at hc
 ·rename_i op' t x' y' yt ho
  simp only [Bool.and_eq_true,beq_iff_eq] at hc
  obtain ⟨⟨⟨hop,h2⟩,h3⟩,h4⟩ := hc
  have r1 := xAt h2 hF
  have r2 := xAt h3 hF
  split at h4
  ·rename_i hu
   split at h
   ·rename_i b1 b2 e1 e2
    cases h
    rw [e1] at r1
    rw [e2] at r2
    generalize hv1 : a.eval x' = c1 at r1
    generalize hv2 : a.eval y' = c2 at r2
    cases r1
    cases r2
    cases neg <;> simp only [if_true,Bool.false_eq_true,if_false] at hop ⊢ <;> subst hop
    ·exact .same hs (x := .bool (b1 == b2)) (by simp [execOp,ho,hv1,hv2,eqGuard,binOp,Go.run_equal_bool w t b1 b2 hu]) .bool
    ·exact .same hs (x := .bool (b1 != b2)) (by simp [execOp,ho,hv1,hv2,eqGuard,binOp,Go.run_equal_bool w t b1 b2 hu,bne]) .bool
   ·cases h
  ·cases h4
 ·cases hc
theorem xGX {d : Nat} {xs ys : Array Value} : ∀ (fs : List Field) (i : Nat) (cs ds : List AV) (r : Bool),xRc P i fs = true → xCd cs ds = some r → fs.length = cs.length →
  (∀ j c,cs[j]? = some c → ∃ v,xs[i + j]? = some v ∧ Rep im io c v) → (∀ j c,ds[j]? = some c → ∃ v,ys[i + j]? = some v ∧ Rep im io c v) → (Op.eqFields (d + 1) xs ys fs).run P w = .ok r w
 | [],i,[],[],r,_,h,_,_,_ => by simp only [xCd,Option.some.injEq] at h; subst h; rfl
 | [],_,[],_ :: _,_,_,h,_,_,_ => by simp [xCd] at h
 | [],_,_ :: _,_,_,_,_,h,_,_ => by simp at h
 | _ :: _,_,[],_,_,_,_,h,_,_ => by simp at h
 | _ :: _,_,_ :: _,[],_,_,h,_,_,_ => by simp [xCd] at h
 | f :: fs,i,c :: cs,e :: ds,r,hf,h,hl,hx,hy => by
  simp only [xRc,Bool.and_eq_true,bne_iff_ne,beq_iff_eq] at hf
  obtain ⟨⟨⟨h1,h2⟩,h3⟩,h4⟩ := hf
  simp only [xCd] at h
  split at h
  case h_2 => cases h
  rename_i b rr hb hr
  cases h
  obtain ⟨v1,g1,k1⟩ := hx 0 c rfl
  obtain ⟨v2,g2,k2⟩ := hy 0 e rfl
  have ih := xGX (d := d) fs (i + 1) cs ds rr h4 hr (by simpa using hl) (fun j c' hc => by rw [show i + 1 + j = i + (j + 1) by omega]; exact hx (j + 1) c' (by simpa using hc)) (fun j c' hc => by rw [show i + 1 + j = i + (j + 1) by omega]; exact hy (j + 1) c' (by simpa using hc))
  have hagg : xHp P f.type = some false := by
   unfold xTP at h3
   unfold xHp
   split at h3
   ·rename_i hu; rw [hu]; rfl
   ·cases h3
  have p1 : (part f.type xs f.offset).run P w = .ok v1 w := by
   have := xCm hagg w
   have hx' : xs[i]? = some v1 := g1
   simp [part,this,h2,hx',Result.andThen]
  have p2 : (part f.type ys f.offset).run P w = .ok v2 w := by
   have := xCm hagg w
   have hx' : ys[i]? = some v2 := g2
   simp [part,this,h2,hx',Result.andThen]
  have heq : (Op.equalIn (d + 1) f.type v1 v2).run P w = .ok b w := by
   cases c <;> cases e <;> simp only [eq1] at hb <;> try (cases hb; done)
   split at hb
   ·rename_i hk
    subst hk
    cases hb
    cases k1
    cases k2
    unfold xTP at h3
    split at h3
    ·rename_i hu; exact Go.run_equalIn_int w d _ _ _ _ _ hu
    ·cases h3
   ·cases hb
  simp only [Op.eqFields,ne_eq,h1,not_false_eq_true,if_true,Sem.run_bind,p1,p2,heq,Result.andThen]
  cases b
  ·simp
  ·simpa using ih
theorem xGY {d : Nat} {xs ys : Array Value} {e : TypeId} (hf : xTP P e = true) (hc1 : P.cellsOf e = 1) : ∀ (cs ds : List AV) (i : Nat) (r : Bool),xCd cs ds = some r →
  (∀ j c,cs[j]? = some c → ∃ v,xs[i + j]? = some v ∧ Rep im io c v) → (∀ j c,ds[j]? = some c → ∃ v,ys[i + j]? = some v ∧ Rep im io c v) → (Op.eqItems (d + 1) e (P.cellsOf e) xs ys (List.range' i cs.length)).run P w = .ok r w
 | [],[],i,r,h,_,_ => by simp only [xCd,Option.some.injEq] at h; subst h; rfl
 | [],_ :: _,_,_,h,_,_ => by simp [xCd] at h
 | _ :: _,[],_,_,h,_,_ => by simp [xCd] at h
 | c :: cs,g :: ds,i,r,h,hx,hy => by
  simp only [xCd] at h
  split at h
  case h_2 => cases h
  rename_i b rr hb hr
  cases h
  obtain ⟨v1,g1,k1⟩ := hx 0 c rfl
  obtain ⟨v2,g2,k2⟩ := hy 0 g rfl
  have ih := xGY (d := d) hf hc1 cs ds (i + 1) rr hr (fun j c' hc => by rw [show i + 1 + j = i + (j + 1) by omega]; exact hx (j + 1) c' (by simpa using hc)) (fun j c' hc => by rw [show i + 1 + j = i + (j + 1) by omega]; exact hy (j + 1) c' (by simpa using hc))
  have hu : ∃ k,P.underlying e = some (.int k) := by
   unfold xTP at hf
   split at hf
   ·exact ⟨_,by assumption⟩
   ·cases hf
  obtain ⟨ki,hu⟩ := hu
  have hagg : xHp P e = some false := by unfold xHp; rw [hu]; rfl
  have p1 : (part e xs i).run P w = .ok v1 w := by
   have := xCm hagg w
   have hx' : xs[i]? = some v1 := g1
   simp [part,this,hx',Result.andThen]
  have p2 : (part e ys i).run P w = .ok v2 w := by
   have := xCm hagg w
   have hx' : ys[i]? = some v2 := g2
   simp [part,this,hx',Result.andThen]
  have heq : (Op.equalIn (d + 1) e v1 v2).run P w = .ok b w := by
   cases c <;> cases g <;> simp only [eq1] at hb <;> try (cases hb; done)
   split at hb
   ·rename_i hk
    subst hk
    cases hb
    cases k1
    cases k2
    exact Go.run_equalIn_int w d _ _ _ _ _ hu
   ·cases hb
  rw [hc1] at ih
  simp only [List.length_cons,List.range'_succ,Op.eqItems,hc1,Nat.mul_one,Sem.run_bind,p1,p2,heq,Result.andThen_ok]
  cases b
  ·simp
  ·simpa using ih
theorem xYv {neg : Bool} {n : Nat} {x y : Arg} (hc : xA3 P o (.aeq neg n x y) = true) (hs : Sim chk im io H w) (hF : FRep im io F a) (h : xAg R F H (.aeq neg n x y) = some (v,H')) : Good chk P o a im io w v H' := by
 simp only [xA3] at hc
 simp only [xAg] at h
 split at hc
 ·rename_i op' t x' y' yt ho
  simp only [Bool.and_eq_true,beq_iff_eq] at hc
  obtain ⟨⟨⟨hop,h2⟩,h3⟩,h4⟩ := hc
  have r1 := xAt h2 hF
  have r2 := xAt h3 hF
  split at h
  case h_2 => cases h
  rename_i cs ds e1 e2
  split at h
  case isFalse => cases h
  rename_i hln
  simp only [Option.map_eq_some_iff,Prod.mk.injEq] at h
  obtain ⟨b,hb,rfl,rfl⟩ := h
  rw [e1] at r1
  rw [e2] at r2
  generalize hv1 : a.eval x' = c1 at r1
  generalize hv2 : a.eval y' = c2 at r2
  cases r1 with
  | agg l1 a1 k1 =>
  cases r2 with
  | agg l2 a2 k2 =>
  rename_i vs us
  have rx : ∀ (j : Nat) c,cs[j]? = some c → ∃ v,vs.toArray[0 + j]? = some v ∧ Rep im io c v := fun j c hc => by
   obtain ⟨u,q1,q2⟩ := Reps.get (vs := vs) ⟨l1,a1⟩ hc
   exact ⟨u,by simpa using q1,q2⟩
  have ry : ∀ (j : Nat) c,ds[j]? = some c → ∃ v,us.toArray[0 + j]? = some v ∧ Rep im io c v := fun j c hc => by
   obtain ⟨u,q1,q2⟩ := Reps.get (vs := us) ⟨l2,a2⟩ hc
   exact ⟨u,by simpa using q1,q2⟩
  have key : (Op.equalIn 10000 t (.agg vs.toArray) (.agg us.toArray)).run P w = .ok b w ∧ P.eqGuardType P.depth t = false := by
   split at h4
   ·rename_i fs hu
    simp only [Bool.and_eq_true,beq_iff_eq,Bool.not_eq_true'] at h4
    obtain ⟨⟨⟨hn,hfl⟩,hst⟩,hg⟩ := h4
    have hfs : P.fieldsOf t = fs := by simp [Program.fieldsOf,hu]
    have hrun := xGX (P := P) (im := im) (io := io) (w := w) (d := 9998) (xs := vs.toArray) (ys := us.toArray) fs.toList 0 cs ds b hfl hb (by simp [hn,hln]) rx ry
    refine ⟨?_,hg⟩
    rw [show (10000 : Nat) = 9999 + 1 from rfl,Go.run_equalIn_struct w 9999 t _ _ (by rw [hfs]; exact hu) hst,hfs]
    exact hrun
   ·rename_i m e hu
    simp only [Bool.and_eq_true,beq_iff_eq,Bool.not_eq_true'] at h4
    obtain ⟨⟨⟨hn,hfl⟩,hi⟩,hg⟩ := h4
    split at hi
    case h_2 => cases hi
    rename_i i hi'
    simp only [beq_iff_eq] at hi
    have hrun := xGY (P := P) (im := im) (io := io) (w := w) (d := 9998) (xs := vs.toArray) (ys := us.toArray) hfl hi cs ds 0 b hb rx ry
    refine ⟨?_,hg⟩
    rw [show (10000 : Nat) = 9999 + 1 from rfl,run_equalIn_array w 9999 _ _ hu hi',List.range_eq_range',hn,← hln]
    exact hrun
   ·cases h4
  obtain ⟨heq,hg⟩ := key
  have hguard : ∀ op,(eqGuard op t x' y' (.agg vs.toArray) (.agg us.toArray)).run P w = .ok () w := fun op => Go.run_eqGuard_agg w op t x' y' _ _ hg
  cases neg <;> simp only [if_true,Bool.false_eq_true,if_false] at hop <;> subst hop
  ·exact .same hs (x := .bool b) (by simp only [execOp,ho,hv1,hv2,Sem.run_bind,hguard,Result.andThen,Go.run_eql_struct,heq,Sem.run_pure]) (by simpa using Rep.bool)
  ·exact .same hs (x := .bool !b) (by simp only [execOp,ho,hv1,hv2,Sem.run_bind,hguard,Result.andThen,Go.run_neq_struct,heq,Sem.run_pure]) (by
    have : (b != true) = !b := by cases b <;> rfl
    rw [this]; exact Rep.bool)
 ·cases hc
theorem xYw {x : Arg} (hc : xA3 P o (.cap x) = true) (hs : Sim chk im io H w) (hF : FRep im io F a) (h : xAg R F H (.cap x) = some (v,H')) : Good chk P o a im io w v H' := by
 simp only [xA3] at hc
 simp only [xAg] at h
 split at hc
 ·rename_i xs ts ho
  split at hc
  ·rename_i y t trest hxs hts
   simp only [Bool.and_eq_true,Option.isSome_iff_exists] at hc
   obtain ⟨h1,e,h2⟩ := hc
   have hu := xBV h2
   have r1 := xAt h1 hF
   have hxs' : xs = #[y] := by rw [← Array.toList_inj]; simpa using hxs
   subst hxs'
   have ht : ts[0]? = some t := by rw [← Array.getElem?_toList,hts]; rfl
   split at h
   ·rename_i e1
    cases h
    rw [e1] at r1
    generalize hv : a.eval y = cv at r1
    cases r1
    exact .same hs (x := .int .i64 0) (by simp [execOp,ho,resolve,invoke,builtin,Builtin.cap_,ht,hv,run_underlying hu,goInt]) .int
   ·cases h
  ·cases hc
 ·cases hc
theorem xUQ {x y : Arg} (hc : xA3 P o (.maxi x y) = true) (hs : Sim chk im io H w) (hF : FRep im io F a) (h : xAg R F H (.maxi x y) = some (v,H')) : Good chk P o a im io w v H' := by
 simp only [xA3] at hc
 simp only [xAg] at h
 split at hc
 ·rename_i xs ts ho
  split at hc
  ·rename_i x' y' hxs
   simp only [Bool.and_eq_true] at hc
   have r1 := xAt hc.1 hF
   have r2 := xAt hc.2 hF
   have hxs' : xs = #[x',y'] := by rw [← Array.toList_inj]; simpa using hxs
   subst hxs'
   split at h
   ·rename_i k n k' m e1 e2
    cases h
    rw [e1] at r1
    rw [e2] at r2
    generalize hv1 : a.eval x' = c1 at r1
    generalize hv2 : a.eval y' = c2 at r2
    cases r1
    cases r2
    exact .same hs (by simp [execOp,ho,resolve,invoke,builtin,Builtin.max_,Builtin.max2,hv1,hv2]) .int
   ·cases h
  ·cases hc
 ·cases hc
theorem xUR {x y : Arg} (hc : xA3 P o (.mini x y) = true) (hs : Sim chk im io H w) (hF : FRep im io F a) (h : xAg R F H (.mini x y) = some (v,H')) : Good chk P o a im io w v H' := by
 simp only [xA3] at hc
 simp only [xAg] at h
 split at hc
 ·rename_i xs ts ho
  split at hc
  ·rename_i x' y' hxs
   simp only [Bool.and_eq_true] at hc
   have r1 := xAt hc.1 hF
   have r2 := xAt hc.2 hF
   have hxs' : xs = #[x',y'] := by rw [← Array.toList_inj]; simpa using hxs
   subst hxs'
   split at h
   ·rename_i k n k' m e1 e2
    cases h
    rw [e1] at r1
    rw [e2] at r2
    generalize hv1 : a.eval x' = c1 at r1
    generalize hv2 : a.eval y' = c2 at r2
    cases r1
    cases r2
    exact .same hs (by simp [execOp,ho,resolve,invoke,builtin,Builtin.min_,Builtin.min2,hv1,hv2]) .int
   ·cases h
  ·cases hc
 ·cases hc
theorem xMf {z : Bool} {n : Nat} {cs : List AV} {x : Value} (h : Rep im io (.sl z n cs) x) : ∃ ad cap,x = .slice ad n cap := by
 cases h <;> exact ⟨_,_,rfl⟩
theorem xQz {z : Bool} {id off n es : Nat} {x : Value} (h : Rep im io (.own z id off n es) x) : ∃ ad cap,x = .slice ad n cap := by
 cases h <;> exact ⟨_,_,rfl⟩
theorem xYx {x : Arg} (hc : xA3 P o (.len x) = true) (hs : Sim chk im io H w) (hF : FRep im io F a) (h : xAg R F H (.len x) = some (v,H')) : Good chk P o a im io w v H' := by
 simp only [xA3] at hc
 simp only [xAg] at h
 split at hc
 ·rename_i xs ts ho
  split at hc
  ·rename_i y t trest hxs hts
   simp only [Bool.and_eq_true,Option.isSome_iff_exists] at hc
   obtain ⟨h1,e,h2⟩ := hc
   have hu := xBV h2
   have r1 := xAt h1 hF
   have hxs' : xs = #[y] := by rw [← Array.toList_inj]; simpa using hxs
   subst hxs'
   have ht : ts[0]? = some t := by rw [← Array.getElem?_toList,hts]; rfl
   have run : ∀ (ad : Option Addr) (n cap : Nat),a.eval y = .slice ad n cap → (execOp a.eval o).run P w = .ok (.value (.int .i64 n)) w := fun ad n cap hv => by
    simp [execOp,ho,resolve,invoke,builtin,Builtin.len_,ht,hv,run_underlying hu,goInt]
   split at h
   ·rename_i e1
    cases h
    rw [e1] at r1
    obtain ⟨ad,cap,hx⟩ := xMf r1
    exact .same hs (run ad _ cap hx) .int
   ·rename_i e1
    cases h
    rw [e1] at r1
    obtain ⟨ad,cap,hx⟩ := xQz r1
    exact .same hs (run ad _ cap hx) .int
   ·cases h
  ·cases hc
 ·cases hc
theorem xTQ {neg : Bool} {x : Arg} (hc : xA3 P o (.isnil neg x) = true) (hs : Sim chk im io H w) (hF : FRep im io F a) (h : xAg R F H (.isnil neg x) = some (v,H')) : Good chk P o a im io w v H' := by
 simp only [xA3] at hc
 simp only [xAg] at h
 split at hc
 ·rename_i op' t x' yt ho
  simp only [Bool.and_eq_true,beq_iff_eq,Option.isSome_iff_exists] at hc
  obtain ⟨⟨hop,h2⟩,e,h3⟩ := hc
  have hu := xBV h3
  have r1 := xAt h2 hF
  have run : ∀ (ad : Option Addr) (n cap : Nat),a.eval x' = .slice ad n cap → (execOp a.eval o).run P w = .ok (.value (.bool (ad.isNone != neg))) w := fun ad n cap hv => by
   have hz : a.eval (.const (.slice none 0 0)) = .slice none 0 0 := rfl
   cases neg <;> simp only [if_true,Bool.false_eq_true,if_false] at hop <;> subst hop <;> cases ad <;>
    simp [execOp,ho,hv,hz,eqGuard,binOp,Go.run_equal_slice_nil w t e _ _ _ hu]
  split at h
  ·rename_i z n cs e1
   cases h
   rw [e1] at r1
   generalize hv : a.eval x' = cv at r1 run
   cases r1
   ·exact .same hs (run _ _ _ rfl) .bool
   ·exact .same hs (run _ _ _ rfl) .bool
   ·exact .same hs (run _ _ _ rfl) .bool
  ·rename_i z id off n es e1
   cases h
   rw [e1] at r1
   generalize hv : a.eval x' = cv at r1 run
   cases r1
   ·exact .same hs (run _ _ _ rfl) .bool
   ·exact .same hs (run _ _ _ rfl) .bool
   ·exact .same hs (run _ _ _ rfl) .bool
  ·cases h
 ·cases hc
end
end Go.Abs
