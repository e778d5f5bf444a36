/- The operations that call nothing. -/
import Derived.ChangeKeysEq
import Derived.Test.YtdheandekcpieaaGreatDoorAbsOps
import Derived.Laws.Cover3
import Derived.Laws.StructEq
namespace Go.Abs
set_option linter.unusedVariables false
set_option linter.unusedSimpArgs false
open Go.RowKit
def xDk (P : Program) (t : TypeId) : Option Value := (P.info? t).bind (·.zero)
def xKq (P : Program) (t : TypeId) : Option (List (Nat × Nat)) := match P.underlying t with
 | some (.struct fs) => fs.toList.mapM fun f => (xG6 P f.type).map fun n => (f.offset,n)
 | some (.array k e) => (xG6 P e).map fun n => (List.range k).map fun i => (i * n,n)
 | _ => none
def xKr (pl : List (Nat × Nat)) (ps : List (Nat × Operand)) (parts : List (Nat × Nat × Arg)) : Bool :=
 ps.length == parts.length && (ps.zip parts).all fun p => pl[p.1.1]? == some (p.2.1,p.2.2.1) && xAt p.1.2 p.2.2.2
def xFD (ps : List (Nat × Operand)) (parts : List (Nat × Arg)) : Bool :=
 ps.length == parts.length && (ps.zip parts).all fun p => p.1.1 == p.2.1 && xAt p.1.2 p.2.2
def bytesOf (P : Program) (t : TypeId) : Option Nat := (P.info? t).map (·.bytes)
def xRF (P : Program) (t : TypeId) : Bool := match P.underlying t with | some (.int _) => true | _ => false
def xOP (P : Program) (t : TypeId) : Bool := match P.underlying t with | some .string => true | _ => false
theorem xG4 {P : Program} {t : TypeId} (h : xOP P t = true) : P.underlying t = some .string := by
 unfold xOP at h
 split at h
 ·assumption
 ·cases h
def xVp (P : Program) (t : TypeId) (k : Nat) : Bool := match P.underlying t with
 | some (.int _) => k == 0
 | some .string => k == 1
 | _ => false
def xKs (P : Program) : Nat → List Field → List Nat → Bool
 | _,[],[] => true
 | i,f :: fs,k :: ks => f.name != "_" && f.offset == i && xVp P f.type k && xKs P (i + 1) fs ks
 | _,_,_ => false
def xRf (P : Program) (t : TypeId) (ks : List Nat) : Bool := match P.underlying t with
 | some (.int _) => ks == [0]
 | some .string => ks == [1]
 | some (.struct fs) => (match ks with
  | 2 :: ks => xKs P 0 fs.toList ks && !P.stoodInHeld t
  | _ => false)
 | some (.array n e) => (match ks with
  | 2 :: ks => ks.length == n && ks.all (xVp P e) && (match P.info? e with | some i => P.cellsOf e == 1 && (xLH P e == some false) | none => false)
  | _ => false)
 | _ => false
def xAp (P : Program) (o : Oper) : AOp → Bool
 | .mov x => match o.op with
  | .move y | .assign y => xAt y x
  | _ => false
 | .pick c a b => match o.op with
  | .pick c' a' b' => xAt c' c && xAt a' a && xAt b' b
  | _ => false
 | .box x => match o.op with
  | .box _ y => xAt y x
  | .alloc t => match xDk P t,x with
   | some z,.c v => cst z v
   | _,_ => false
  | _ => false
 | .build z parts => match o.op with
  | .build t ps => match xKq P t,xDk P t with
   | some pl,some zv => xEi zv.cells.toList z && xKr pl ps.toList parts
   | _,_ => false
  | _ => false
 | .bslice _ z es n parts => match o.op with
  | .buildSlice t len ps => match xDH P t with
   | some e => match xDk P e with
    | some zv => xG6 P e == some es && len == n && decide (len * es ≤ 2 ^ 24) && z.length == es && xEi zv.cells.toList z && xFD ps.toList parts
    | none => false
   | none => false
  | _ => false
 | .dslice _ _ _ _ => false
 | .load g n p => match o.op with
  | .load t y => xG6 P t == some n && xLH P t == some g && (g || n == 1) && xAt y p
  | _ => false
 | .store n p v => match o.op with
  | .store t y x => xG6 P t == some n && xAt y p && xAt x v
  | _ => false
 | .nilchk x => match o.op with
  | .nilCheck y => xAt y x
  | _ => false
 | .bin op x y => match o.op with
  | .binOp op' _ x' y' _ => op == op' && xAt x' x && xAt y' y
  | _ => false
 | .beq neg x y => match o.op with
  | .binOp op' t x' y' _ => op' == (if neg then .neq else .eql) && xAt x' x && xAt y' y && (match P.underlying t with | some .bool => true | _ => false)
  | _ => false
 | .isnil neg x => match o.op with
  | .binOp op' t x' (.const (.slice none 0 0)) _ => op' == (if neg then .neq else .eql) && xAt x' x && (xDH P t).isSome
  | _ => false
 | .un op x => match o.op with
  | .unOp op' _ y => op == op' && xAt y x
  | _ => false
 | .conv k x => match o.op with
  | .convert s t y => (P.underlying s).isSome && (match P.underlying t with | some (.int k') => k == k' | _ => false) && xAt y x
  | _ => false
 | .mkfunc f caps => match o.op with
  | .makeFunc (.func g) first caps' => f == g && first.isEmpty && xDG caps'.toList caps
  | _ => false
 | .mkslice _ z bytes l c => match o.op with
  | .makeSlice t l' c' => match xDH P t with
   | some e => match xDk P e with
    | some zv => xEi zv.cells.toList z && xG6 P e == some z.length && bytesOf P e == some bytes && xAt l' l && xAt c' c
    | none => false
   | none => false
  | _ => false
 | .slice es x lo hi mx => match o.op with
  | .slice t x' lo' hi' mx' => match xDH P t with
   | some e => xG6 P e == some es && xAt x' x && xEj lo' lo && xEj hi' hi && xEj mx' mx
   | none => false
  | _ => false
 | .faddr off x => match o.op with
  | .fieldAddr t y i => match xKu P t i with
   | some (off',ft) => off' == off && (match xG6 P ft with | some n => n != 0 | none => false) && xAt y x
   | none => false
  | _ => false
 | .field g off n x => match o.op with
  | .field t y i => match xKu P t i with
   | some (off',ft) => off' == off && xG6 P ft == some n && xLH P ft == some g && (g || n == 1) && xAt y x
   | none => false
  | _ => false
 | .iaddr es x i => match o.op with
  | .indexAddr t x' i' => match xDH P t with
   | some e => xG6 P e == some es && xAt x' x && xAt i' i
   | none => false
  | _ => false
 | .idx g es len x i => match o.op with
  | .index t x' i' => (match P.underlying t with
   | some (.array n e) => n == len && xG6 P e == some es && xLH P e == some g && xAt x' x && xAt i' i
   | _ => false)
  | _ => false
 | .arrat es len x i => match o.op with
  | .indexAddr t x' i' => (match P.underlying t with
   | some (.array n e) => n == len && xG6 P e == some es && xAt x' x && xAt i' i
   | _ => false)
  | _ => false
 | .garr _ _ _ _ => false
 | .mkmap => match o.op with
  | .makeMap _ none => true
  | _ => false
 | .mlook ks comma z x k => match o.op with
  | .lookup t x' k' c' => (match P.underlying t with
   | some (.map kt et) => xRf P kt ks && (match xDk P et with | some zv => cst zv z | none => false) && c' == comma && xAt x' x && xAt k' k
   | _ => false)
  | _ => false
 | .ment _ _ _ _ => false
 | .mstore _ _ _ => false
 | .mupd ks m k v => match o.op with
  | .mapUpdate t m' k' v' | .insert t m' k' v' => (match P.underlying t with
   | some (.map kt _) => xRf P kt ks && xAt m' m && xAt k' k && xAt v' v
   | _ => false)
  | _ => false
 | .mlen _ => false
 | .mnil _ _ => false
 | .pnil neg x => match o.op with
  | .binOp op' t x' (.const (.pointer none)) _ => op' == (if neg then .neq else .eql) && xAt x' x && (match P.underlying t with | some (.pointer e) => e == P.pointee t | _ => false)
  | _ => false
 | .sbytes _ _ => false
 | .bstr x => match o.op with
  | .convert s t y => (match P.underlying s,P.underlying t with
   | some (.slice e),some .string => (match P.underlying e with | some (.int .u8) => xAt y x | _ => false)
   | _,_ => false)
  | _ => false
 | .sadd x y => match o.op with
  | .binOp op' t x' y' _ => op' == .add && (match P.underlying t with | some .string => true | _ => false) && xAt x' x && xAt y' y
  | _ => false
 | .sidx x i => match o.op with
  | .index t x' i' => (match P.underlying t with
   | some .string => xAt x' x && xAt i' i
   | _ => false)
  | _ => false
 | .slen x => match o.op with
  | .call { callee := .builtin .len,args := xs,argTypes := ts } => (match xs.toList,ts.toList with
   | [x'],[t] => (match P.underlying t with | some .string => xAt x' x | _ => false)
   | _,_ => false)
  | _ => false
 | .ext i x => match o.op with
  | .extract y i' => i == i' && xAt y x
  | _ => false
 | .len x => match o.op with
  | .call { callee := .builtin .len,args := xs,argTypes := ts } => match xs.toList,ts.toList with
   | [y],t :: _ => xAt y x && (xDH P t).isSome
   | _,_ => false
  | _ => false
 | .cap _ => false
 | .aeq _ _ _ _ => false
 | .append _ es bytes x y => match o.op with
  | .call { callee := .builtin .append,args := xs,argTypes := ts } => match xs.toList,ts.toList with
   | [x',y'],[t,t'] => xAt x' x && xAt y' y && (xDH P t').isSome && (match xDH P t with
    | some e => xG6 P e == some es && bytesOf P e == some bytes && decide (0 < es) && (match xDk P e with | some zv => zv.cells.size == es | none => false)
    | none => false)
   | _,_ => false
  | _ => false
 | .appendh _ _ _ _ => false
 | .appendz z bytes x n => match o.op with
  | .call { callee := .builtin .append,args := xs,argTypes := ts } => match xs.toList,ts.toList with
   | [x',y'],[t,t'] => xAt x' x && xAt y' n && xRF P t' && (match xDH P t with
    | some e => xG6 P e == some z.length && bytesOf P e == some bytes && decide (0 < z.length) && (match xDk P e with | some zv => xEi zv.cells.toList z | none => false)
    | none => false)
   | _,_ => false
  | _ => false
 | .copy _ _ _ => false
 | .maxi _ _ => false
 | .mini x y => match o.op with
  | .call { callee := .builtin .min,args := xs,.. } => match xs.toList with
   | [x',y'] => xAt x' x && xAt y' y
   | _ => false
  | _ => false
 | .mm _ _ => false
 | .sslice x lo hi => match o.op with
  | .slice t x' lo' hi' none => xOP P t && xAt x' x && xEj lo' lo && xEj hi' hi
  | _ => false
 | .sbeq neg x y => match o.op with
  | .binOp op t x' y' _ => (op == (if neg then .neq else .eql)) && xOP P t && xAt x' x && xAt y' y
  | _ => false
 | .mkbound _ _ => false
 | .call f args | .ocall f args | .ocallw f args => match o.op with
  | .call { callee := .value (.func g),args := xs,.. } => f == g && xDG xs.toList args
  | _ => false
 | .icall f args | .fcall f args | .bcall f args => match o.op with
  | .call { callee := .value g,args := xs,.. } => xAt g f && xDG xs.toList args
  | _ => false
section
variable {chk : Code → ACode → Bool} {P : Program} {o : Oper} {a : Act} {im : Im} {io : Io} {H H' : Heap} {w : World} {F : List AV} {R : Rec} {v : AV}
theorem xVL {x : Arg} (hc : xAp P o (.mov x) = true) (hs : Sim chk im io H w) (hF : FRep im io F a) (h : xAc R F H (.mov x) = some (v,H')) : Good chk P o a im io w v H' := by
 simp only [xAp] at hc
 simp only [xAc] at h; cases h
 split at hc
 ·rename_i y ho
  exact .same hs (by simp [execOp,ho]) (xAj hc hF)
 ·rename_i y ho
  exact .same hs (by simp [execOp,ho]) (xAj hc hF)
 ·cases hc
theorem xRG {c x y : Arg} (hc : xAp P o (.pick c x y) = true) (hs : Sim chk im io H w) (hF : FRep im io F a) (h : xAc R F H (.pick c x y) = some (v,H')) : Good chk P o a im io w v H' := by
 simp only [xAp] at hc
 simp only [xAc] at h
 split at hc
 ·rename_i c' x' y' ho
  simp only [Bool.and_eq_true] at hc
  have r1 := xAj hc.1.1 hF
  have r2 := xAj hc.1.2 hF
  have r3 := xAj hc.2 hF
  split at h
  ·rename_i t e
   cases h
   rw [e] at r1
   generalize hv : a.eval c' = cv at r1
   cases r1
   cases t
   ·exact .same hs (x := a.eval y') (by simp [execOp,ho,hv,asBool]) r3
   ·exact .same hs (x := a.eval x') (by simp [execOp,ho,hv,asBool]) r2
  ·cases h
 ·cases hc
theorem xVM {i : Nat} {x : Arg} (hc : xAp P o (.ext i x) = true) (hs : Sim chk im io H w) (hF : FRep im io F a) (h : xAc R F H (.ext i x) = some (v,H')) : Good chk P o a im io w v H' := by
 simp only [xAp] at hc
 simp only [xAc] at h
 split at hc
 ·rename_i y i' ho
  simp only [Bool.and_eq_true,beq_iff_eq] at hc
  obtain ⟨rfl,hx⟩ := hc
  have r1 := xAj hx hF
  split at h
  ·rename_i vs e
   simp only [Option.map_eq_some_iff,Prod.mk.injEq] at h
   obtain ⟨v',h1,rfl,rfl⟩ := h
   rw [e] at r1
   generalize hv : a.eval y = cv at r1
   cases r1 with
   | tup hl hcc =>
    rename_i ws
    obtain ⟨xv,hx1,hx2⟩ := Reps.get (vs := ws) ⟨hl,hcc⟩ h1
    exact .same hs (x := xv) (by simp [execOp,ho,hv,Instr.extract,hx1]) hx2
  ·cases h
 ·cases hc
theorem xNO {f : Nat} {caps : List Arg} (hc : xAp P o (.mkfunc f caps) = true) (hs : Sim chk im io H w) (hF : FRep im io F a) (h : xAc R F H (.mkfunc f caps) = some (v,H')) : Good chk P o a im io w v H' := by
 simp only [xAp] at hc
 simp only [xAc] at h; cases h
 split at hc
 ·rename_i g first caps' ho
  simp only [Bool.and_eq_true,beq_iff_eq] at hc
  obtain ⟨⟨rfl,h1⟩,h2⟩ := hc
  have r := xA9 (im := im) (io := io) hF h2
  have e : first = #[] := by simpa using h1
  subst e
  refine .same hs (x := .func (.func f) #[] (caps'.map a.eval)) (by simp [execOp,ho,Instr.makeFunc]) ?_
  have h3 := Rep.func (f := f) r.1 r.2
  rw [show (List.map a.eval caps'.toList).toArray = caps'.map a.eval by rw [← Array.toList_inj]; simp] at h3
  exact h3
 ·cases hc
theorem xLF {f : Nat} {first : List Arg} (hc : xAp P o (.mkbound f first) = true) (hs : Sim chk im io H w) (hF : FRep im io F a) (h : xAc R F H (.mkbound f first) = some (v,H')) : Good chk P o a im io w v H' := by simp [xAp] at hc
theorem xRH {neg : Bool} {x y : Arg} (hc : xAp P o (.sbeq neg x y) = true) (hs : Sim chk im io H w) (hF : FRep im io F a) (h : xAc R F H (.sbeq neg x y) = some (v,H')) : Good chk P o a im io w v H' := by
 simp only [xAp] at hc
 simp only [xAc] at h
 split at hc
 case h_2 => cases hc
 rename_i op t x' y' yt ho
 simp only [Bool.and_eq_true,beq_iff_eq] at hc
 obtain ⟨⟨⟨rfl,hu⟩,h1⟩,h2⟩ := hc
 have hu := xG4 hu
 have r1 := xAj h1 hF
 have r2 := xAj h2 hF
 split at h
 case h_2 => cases h
 rename_i s t' e1 e2
 cases h
 rw [e1] at r1
 rw [e2] at r2
 generalize hv1 : a.eval x' = c1 at r1
 generalize hv2 : a.eval y' = c2 at r2
 cases r1
 cases r2
 cases neg
 ·refine .same hs (x := .bool (s.toList == t'.toList)) ?_ ?_
  ·simp [execOp,ho,hv1,hv2,eqGuard,binOp,run_underlying hu,Op.stringOp]
  ·rw [show ((s.toList == t'.toList) != false) = (s.toList == t'.toList) by cases (s.toList == t'.toList) <;> rfl]; exact .bool
 ·refine .same hs (x := .bool (!(s.toList == t'.toList))) ?_ ?_
  ·simp [execOp,ho,hv1,hv2,eqGuard,binOp,run_underlying hu,Op.stringOp]
  ·rw [show ((s.toList == t'.toList) != true) = !(s.toList == t'.toList) by cases (s.toList == t'.toList) <;> rfl]; exact .bool
theorem xYB {mx : Bool} {xs : List Arg} (hc : xAp P o (.mm mx xs) = true) (hs : Sim chk im io H w) (hF : FRep im io F a) (h : xAc R F H (.mm mx xs) = some (v,H')) : Good chk P o a im io w v H' := by simp [xAp] at hc
theorem xNP {x : Arg} (hc : xAp P o (.nilchk x) = true) (hs : Sim chk im io H w) (hF : FRep im io F a) (h : xAc R F H (.nilchk x) = some (v,H')) : Good chk P o a im io w v H' := by
 simp only [xAp] at hc
 simp only [xAc] at h
 split at hc
 ·rename_i y ho
  have r1 := xAj hc hF
  split at h
  all_goals try (cases h; done)
  all_goals
   rename_i e
   cases h
   rw [e] at r1
   generalize hv : a.eval y = cv at r1
   have r2 := r1
   cases r1
   exact .same hs (by simp [execOp,ho,hv]) r2
 ·cases hc
theorem xRI {k : IntKind} {x : Arg} (hc : xAp P o (.conv k x) = true) (hs : Sim chk im io H w) (hF : FRep im io F a) (h : xAc R F H (.conv k x) = some (v,H')) : Good chk P o a im io w v H' := by
 simp only [xAp] at hc
 simp only [xAc] at h
 split at hc
 ·rename_i s t y ho
  simp only [Bool.and_eq_true,Option.isSome_iff_exists] at hc
  obtain ⟨⟨⟨d,hd⟩,h2⟩,h3⟩ := hc
  have r1 := xAj h3 hF
  split at h2
  ·rename_i k' hu
   simp only [beq_iff_eq] at h2
   subst h2
   split at h
   ·rename_i k0 n e
    cases h
    rw [e] at r1
    generalize hv : a.eval y = cv at r1
    cases r1
    exact .same hs (x := .int k (k.wrap n)) (by simp [execOp,ho,hv,convert,run_underlying hd,run_underlying hu,Conv.intToInt]) .int
   ·cases h
  ·cases h2
 ·cases hc
theorem xYC {op : UnOp} {x : Arg} (hc : xAp P o (.un op x) = true) (hs : Sim chk im io H w) (hF : FRep im io F a) (h : xAc R F H (.un op x) = some (v,H')) : Good chk P o a im io w v H' := by
 simp only [xAp] at hc
 simp only [xAc,Option.map_eq_some_iff,Prod.mk.injEq] at h
 obtain ⟨v',h,rfl,rfl⟩ := h
 split at hc
 ·rename_i op' t y ho
  simp only [Bool.and_eq_true,beq_iff_eq] at hc
  obtain ⟨rfl,h3⟩ := hc
  have r1 := xAj h3 hF
  unfold unA at h
  split at h
  ·rename_i b e
   split at h
   ·cases h
    rw [e] at r1
    generalize hv : a.eval y = cv at r1
    cases r1
    exact .same hs (x := .bool !b) (by simp [execOp,ho,hv,Op.unary]) .bool
   ·cases h
  ·rename_i k n e
   split at h
   ·cases h
    rw [e] at r1
    generalize hv : a.eval y = cv at r1
    cases r1
    exact .same hs (x := .int k (k.wrap (0 - n))) (by simp [execOp,ho,hv,Op.unary,Op.intArith]) .int
   ·cases h
    rw [e] at r1
    generalize hv : a.eval y = cv at r1
    cases r1
    exact .same hs (x := .int k (xDq .xor k (if k.signed then -1 else k.max) n)) (by simp [execOp,ho,hv,Op.unary,Op.intBits,xDq]) .int
   ·cases h
  ·cases h
 ·cases hc
theorem xVN {op : BinOp} {x y : Arg} (hc : xAp P o (.bin op x y) = true) (hs : Sim chk im io H w) (hF : FRep im io F a) (h : xAc R F H (.bin op x y) = some (v,H')) : Good chk P o a im io w v H' := by
 simp only [xAp] at hc
 simp only [xAc,Option.map_eq_some_iff,Prod.mk.injEq] at h
 obtain ⟨v',h,rfl,rfl⟩ := h
 split at hc
 ·rename_i op' t x' y' yt ho
  simp only [Bool.and_eq_true,beq_iff_eq] at hc
  obtain ⟨⟨rfl,h2⟩,h3⟩ := hc
  have r1 := xAj h2 hF
  have r2 := xAj h3 hF
  unfold xDK at h
  split at h
  ·rename_i k n k' m e1 e2
   rw [e1] at r1
   rw [e2] at r2
   generalize hv1 : a.eval x' = c1 at r1
   generalize hv2 : a.eval y' = c2 at r2
   cases r1
   cases r2
   have hg : eqGuard op t x' y' (.int k n) (.int k' m) = pure () := by
    unfold eqGuard
    cases op <;> rfl
   have base : ∀ (r : Value),(binOp op t (.int k n) (.int k' m)).run P w = .ok r w → (execOp a.eval o).run P w = .ok (.value r) w := by
    intro r hr
    simp [execOp,ho,hv1,hv2,hg,hr]
   cases op <;> simp only at h
   all_goals (split at h <;> first | (cases h; done) | skip)
   all_goals cases h
   all_goals first
    | (rename_i hk; obtain ⟨rfl,hm⟩ := hk; refine .same hs (base _ ?_) .int; simp [binOp,Op.intDiv,hm]; done)
    | (rename_i hk; subst hk; refine .same hs (base _ ?_) .int; simp [binOp,Op.intArith]; done)
    | (rename_i hk; subst hk; refine .same hs (base _ ?_) .int; simp [binOp,Op.intBits,xDq]; done)
    | (rename_i hk; subst hk; refine .same hs (base _ ?_) .bool; simp [binOp,Op.intCmp]; done)
    | (rename_i hb; refine .same hs (base _ ?_) .int; simp [binOp,Op.shift,hb]; done)
  ·cases h
 ·cases hc
theorem xVO {neg : Bool} {x y : Arg} (hc : xAp P o (.beq neg x y) = true) (hs : Sim chk im io H w) (hF : FRep im io F a) (h : xAc R F H (.beq neg x y) = some (v,H')) : Good chk P o a im io w v H' := by
 simp only [xAp] at hc
 simp only [xAc] at h
 split at hc
 ·rename_i op' t x' y' yt ho
  simp only [Bool.and_eq_true,beq_iff_eq] at hc
  obtain ⟨⟨⟨hop,h2⟩,h3⟩,h4⟩ := hc
  have r1 := xAj h2 hF
  have r2 := xAj h3 hF
  split at h4
  ·rename_i hu
   split at h
   ·rename_i b1 b2 e1 e2
    cases h
    rw [e1] at r1
    rw [e2] at r2
    generalize hv1 : a.eval x' = c1 at r1
    generalize hv2 : a.eval y' = c2 at r2
    cases r1
    cases r2
    cases neg <;> simp only [if_true,Bool.false_eq_true,if_false] at hop ⊢ <;> subst hop
    ·exact .same hs (x := .bool (b1 == b2)) (by simp [execOp,ho,hv1,hv2,eqGuard,binOp,Go.run_equal_bool w t b1 b2 hu]) .bool
    ·exact .same hs (x := .bool (b1 != b2)) (by simp [execOp,ho,hv1,hv2,eqGuard,binOp,Go.run_equal_bool w t b1 b2 hu,bne]) .bool
   ·cases h
  ·cases h4
 ·cases hc
theorem xVP {neg : Bool} {n : Nat} {x y : Arg} (hc : xAp P o (.aeq neg n x y) = true) (hs : Sim chk im io H w) (hF : FRep im io F a) (h : xAc R F H (.aeq neg n x y) = some (v,H')) : Good chk P o a im io w v H' := by simp [xAp] at hc
theorem xVQ {x : Arg} (hc : xAp P o (.cap x) = true) (hs : Sim chk im io H w) (hF : FRep im io F a) (h : xAc R F H (.cap x) = some (v,H')) : Good chk P o a im io w v H' := by simp [xAp] at hc
theorem xRJ {x y : Arg} (hc : xAp P o (.maxi x y) = true) (hs : Sim chk im io H w) (hF : FRep im io F a) (h : xAc R F H (.maxi x y) = some (v,H')) : Good chk P o a im io w v H' := by simp [xAp] at hc
theorem xRK {x y : Arg} (hc : xAp P o (.mini x y) = true) (hs : Sim chk im io H w) (hF : FRep im io F a) (h : xAc R F H (.mini x y) = some (v,H')) : Good chk P o a im io w v H' := by
 simp only [xAp] at hc
 simp only [xAc] at h
 split at hc
 ·rename_i xs ts ho
  split at hc
  ·rename_i x' y' hxs
   simp only [Bool.and_eq_true] at hc
   have r1 := xAj hc.1 hF
   have r2 := xAj hc.2 hF
   have hxs' : xs = #[x',y'] := by rw [← Array.toList_inj]; simpa using hxs
   subst hxs'
   split at h
   ·rename_i k n k' m e1 e2
    cases h
    rw [e1] at r1
    rw [e2] at r2
    generalize hv1 : a.eval x' = c1 at r1
    generalize hv2 : a.eval y' = c2 at r2
    cases r1
    cases r2
    exact .same hs (by simp [execOp,ho,resolve,invoke,builtin,Builtin.min_,Builtin.min2,hv1,hv2]) .int
   ·cases h
  ·cases hc
 ·cases hc
theorem xKt {z : Bool} {n : Nat} {cs : List AV} {x : Value} (h : Rep im io (.sl z n cs) x) : ∃ ad cap,x = .slice ad n cap := by
 cases h <;> exact ⟨_,_,rfl⟩
theorem xNQ {z : Bool} {id off n es : Nat} {x : Value} (h : Rep im io (.own z id off n es) x) : ∃ ad cap,x = .slice ad n cap := by
 cases h <;> exact ⟨_,_,rfl⟩
theorem xVR {x : Arg} (hc : xAp P o (.len x) = true) (hs : Sim chk im io H w) (hF : FRep im io F a) (h : xAc R F H (.len x) = some (v,H')) : Good chk P o a im io w v H' := by
 simp only [xAp] at hc
 simp only [xAc] at h
 split at hc
 ·rename_i xs ts ho
  split at hc
  ·rename_i y t trest hxs hts
   simp only [Bool.and_eq_true,Option.isSome_iff_exists] at hc
   obtain ⟨h1,e,h2⟩ := hc
   have hu := xBm h2
   have r1 := xAj h1 hF
   have hxs' : xs = #[y] := by rw [← Array.toList_inj]; simpa using hxs
   subst hxs'
   have ht : ts[0]? = some t := by rw [← Array.getElem?_toList,hts]; rfl
   have run : ∀ (ad : Option Addr) (n cap : Nat),a.eval y = .slice ad n cap → (execOp a.eval o).run P w = .ok (.value (.int .i64 n)) w := fun ad n cap hv => by
    simp [execOp,ho,resolve,invoke,builtin,Builtin.len_,ht,hv,run_underlying hu,goInt]
   split at h
   ·rename_i e1
    cases h
    rw [e1] at r1
    obtain ⟨ad,cap,hx⟩ := xKt r1
    exact .same hs (run ad _ cap hx) .int
   ·rename_i e1
    cases h
    rw [e1] at r1
    obtain ⟨ad,cap,hx⟩ := xNQ r1
    exact .same hs (run ad _ cap hx) .int
   ·cases h
  ·cases hc
 ·cases hc
theorem xQK {neg : Bool} {x : Arg} (hc : xAp P o (.isnil neg x) = true) (hs : Sim chk im io H w) (hF : FRep im io F a) (h : xAc R F H (.isnil neg x) = some (v,H')) : Good chk P o a im io w v H' := by
 simp only [xAp] at hc
 simp only [xAc] at h
 split at hc
 ·rename_i op' t x' yt ho
  simp only [Bool.and_eq_true,beq_iff_eq,Option.isSome_iff_exists] at hc
  obtain ⟨⟨hop,h2⟩,e,h3⟩ := hc
  have hu := xBm h3
  have r1 := xAj h2 hF
  have run : ∀ (ad : Option Addr) (n cap : Nat),a.eval x' = .slice ad n cap → (execOp a.eval o).run P w = .ok (.value (.bool (ad.isNone != neg))) w := fun ad n cap hv => by
   have hz : a.eval (.const (.slice none 0 0)) = .slice none 0 0 := rfl
   cases neg <;> simp only [if_true,Bool.false_eq_true,if_false] at hop <;> subst hop <;> cases ad <;>
    simp [execOp,ho,hv,hz,eqGuard,binOp,Go.run_equal_slice_nil w t e _ _ _ hu]
  split at h
  ·rename_i z n cs e1
   cases h
   rw [e1] at r1
   generalize hv : a.eval x' = cv at r1 run
   cases r1
   ·exact .same hs (run _ _ _ rfl) .bool
   ·exact .same hs (run _ _ _ rfl) .bool
   ·exact .same hs (run _ _ _ rfl) .bool
  ·rename_i z id off n es e1
   cases h
   rw [e1] at r1
   generalize hv : a.eval x' = cv at r1 run
   cases r1
   ·exact .same hs (run _ _ _ rfl) .bool
   ·exact .same hs (run _ _ _ rfl) .bool
   ·exact .same hs (run _ _ _ rfl) .bool
  ·cases h
 ·cases hc
end
end Go.Abs
