/- The operations that call nothing. -/
import Derived.ChangeKeysEq
import Derived.Test.YtdheandekcpieaaDoorAbsOps
import Derived.Laws.Cover3
import Derived.Laws.StructEq
namespace Go.Abs
set_option linter.unusedVariables false
set_option linter.unusedSimpArgs false
open Go.RowKit
def xDw (P : Program) (t : TypeId) : Option Value := (P.info? t).bind (·.zero)
def xKk (P : Program) (t : TypeId) : Option (List (Nat × Nat)) := match P.underlying t with
 | some (.struct fs) => fs.toList.mapM fun f => (xG6 P f.type).map fun n => (f.offset,n)
 | some (.array k e) => (xG6 P e).map fun n => (List.range k).map fun i => (i * n,n)
 | _ => none
def xKl (pl : List (Nat × Nat)) (ps : List (Nat × Operand)) (parts : List (Nat × Nat × Arg)) : Bool :=
 ps.length == parts.length && (ps.zip parts).all fun p => pl[p.1.1]? == some (p.2.1,p.2.2.1) && xAv p.1.2 p.2.2.2
def xFE (ps : List (Nat × Operand)) (parts : List (Nat × Arg)) : Bool :=
 ps.length == parts.length && (ps.zip parts).all fun p => p.1.1 == p.2.1 && xAv p.1.2 p.2.2
def bytesOf (P : Program) (t : TypeId) : Option Nat := (P.info? t).map (·.bytes)
def xRf (P : Program) (t : TypeId) : Bool := match P.underlying t with | some (.int _) => true | _ => false
def xOA (P : Program) (t : TypeId) : Bool := match P.underlying t with | some .string => true | _ => false
theorem xG4 {P : Program} {t : TypeId} (h : xOA P t = true) : P.underlying t = some .string := by
 unfold xOA at h
 split at h
 ·assumption
 ·cases h
def xUx (P : Program) (t : TypeId) (k : Nat) : Bool := match P.underlying t with
 | some (.int _) => k == 0
 | some .string => k == 1
 | _ => false
def xKm (P : Program) : Nat → List Field → List Nat → Bool
 | _,[],[] => true
 | i,f :: fs,k :: ks => f.name != "_" && f.offset == i && xUx P f.type k && xKm P (i + 1) fs ks
 | _,_,_ => false
def xQN (P : Program) (t : TypeId) (ks : List Nat) : Bool := match P.underlying t with
 | some (.int _) => ks == [0]
 | some .string => ks == [1]
 | some (.struct fs) => (match ks with
  | 2 :: ks => xKm P 0 fs.toList ks && !P.stoodInHeld t
  | _ => false)
 | some (.array n e) => (match ks with
  | 2 :: ks => ks.length == n && ks.all (xUx P e) && (match P.info? e with | some i => P.cellsOf e == 1 && (xLD P e == some false) | none => false)
  | _ => false)
 | _ => false
def xAr (P : Program) (o : Oper) : AOp → Bool
 | .mov x => match o.op with
  | .move y | .assign y => xAv y x
  | _ => false
 | .pick c a b => match o.op with
  | .pick c' a' b' => xAv c' c && xAv a' a && xAv b' b
  | _ => false
 | .box x => match o.op with
  | .box _ y => xAv y x
  | .alloc t => match xDw P t,x with
   | some z,.c v => cst z v
   | _,_ => false
  | _ => false
 | .build z parts => match o.op with
  | .build t ps => match xKk P t,xDw P t with
   | some pl,some zv => xEt zv.cells.toList z && xKl pl ps.toList parts
   | _,_ => false
  | _ => false
 | .bslice _ z es n parts => match o.op with
  | .buildSlice t len ps => match xDU P t with
   | some e => match xDw P e with
    | some zv => xG6 P e == some es && len == n && decide (len * es ≤ 2 ^ 24) && z.length == es && xEt zv.cells.toList z && xFE ps.toList parts
    | none => false
   | none => false
  | _ => false
 | .dslice _ _ _ _ => false
 | .load g n p => match o.op with
  | .load t y => xG6 P t == some n && xLD P t == some g && (g || n == 1) && xAv y p
  | _ => false
 | .store n p v => match o.op with
  | .store t y x => xG6 P t == some n && xAv y p && xAv x v
  | _ => false
 | .nilchk x => match o.op with
  | .nilCheck y => xAv y x
  | _ => false
 | .bin op x y => match o.op with
  | .binOp op' _ x' y' _ => op == op' && xAv x' x && xAv y' y
  | _ => false
 | .beq neg x y => match o.op with
  | .binOp op' t x' y' _ => op' == (if neg then .neq else .eql) && xAv x' x && xAv y' y && (match P.underlying t with | some .bool => true | _ => false)
  | _ => false
 | .isnil neg x => match o.op with
  | .binOp op' t x' (.const (.slice none 0 0)) _ => op' == (if neg then .neq else .eql) && xAv x' x && (xDU P t).isSome
  | _ => false
 | .un op x => match o.op with
  | .unOp op' _ y => op == op' && xAv y x
  | _ => false
 | .conv k x => match o.op with
  | .convert s t y => (P.underlying s).isSome && (match P.underlying t with | some (.int k') => k == k' | _ => false) && xAv y x
  | _ => false
 | .mkfunc f caps => match o.op with
  | .makeFunc (.func g) first caps' => f == g && first.isEmpty && xDT caps'.toList caps
  | _ => false
 | .mkslice _ z bytes l c => match o.op with
  | .makeSlice t l' c' => match xDU P t with
   | some e => match xDw P e with
    | some zv => xEt zv.cells.toList z && xG6 P e == some z.length && bytesOf P e == some bytes && xAv l' l && xAv c' c
    | none => false
   | none => false
  | _ => false
 | .slice es x lo hi mx => match o.op with
  | .slice t x' lo' hi' mx' => match xDU P t with
   | some e => xG6 P e == some es && xAv x' x && xEu lo' lo && xEu hi' hi && xEu mx' mx
   | none => false
  | _ => false
 | .faddr off x => match o.op with
  | .fieldAddr t y i => match xKo P t i with
   | some (off',ft) => off' == off && (match xG6 P ft with | some n => n != 0 | none => false) && xAv y x
   | none => false
  | _ => false
 | .field g off n x => match o.op with
  | .field t y i => match xKo P t i with
   | some (off',ft) => off' == off && xG6 P ft == some n && xLD P ft == some g && (g || n == 1) && xAv y x
   | none => false
  | _ => false
 | .iaddr es x i => match o.op with
  | .indexAddr t x' i' => match xDU P t with
   | some e => xG6 P e == some es && xAv x' x && xAv i' i
   | none => false
  | _ => false
 | .idx g es len x i => match o.op with
  | .index t x' i' => (match P.underlying t with
   | some (.array n e) => n == len && xG6 P e == some es && xLD P e == some g && xAv x' x && xAv i' i
   | _ => false)
  | _ => false
 | .arrat es len x i => match o.op with
  | .indexAddr t x' i' => (match P.underlying t with
   | some (.array n e) => n == len && xG6 P e == some es && xAv x' x && xAv i' i
   | _ => false)
  | _ => false
 | .garr _ _ _ _ => false
 | .mkmap => match o.op with
  | .makeMap _ none => true
  | _ => false
 | .mlook ks comma z x k => match o.op with
  | .lookup t x' k' c' => (match P.underlying t with
   | some (.map kt et) => xQN P kt ks && (match xDw P et with | some zv => cst zv z | none => false) && c' == comma && xAv x' x && xAv k' k
   | _ => false)
  | _ => false
 | .ment _ _ _ _ => false
 | .mstore _ _ _ => false
 | .mupd ks m k v => match o.op with
  | .mapUpdate t m' k' v' | .insert t m' k' v' => (match P.underlying t with
   | some (.map kt _) => xQN P kt ks && xAv m' m && xAv k' k && xAv v' v
   | _ => false)
  | _ => false
 | .mlen _ => false
 | .mnil _ _ => false
 | .pnil neg x => match o.op with
  | .binOp op' t x' (.const (.pointer none)) _ => op' == (if neg then .neq else .eql) && xAv x' x && (match P.underlying t with | some (.pointer e) => e == P.pointee t | _ => false)
  | _ => false
 | .sbytes _ _ => false
 | .bstr x => match o.op with
  | .convert s t y => (match P.underlying s,P.underlying t with
   | some (.slice e),some .string => (match P.underlying e with | some (.int .u8) => xAv y x | _ => false)
   | _,_ => false)
  | _ => false
 | .sadd _ _ => false
 | .sidx x i => match o.op with
  | .index t x' i' => (match P.underlying t with
   | some .string => xAv x' x && xAv i' i
   | _ => false)
  | _ => false
 | .slen x => match o.op with
  | .call { callee := .builtin .len,args := xs,argTypes := ts } => (match xs.toList,ts.toList with
   | [x'],[t] => (match P.underlying t with | some .string => xAv x' x | _ => false)
   | _,_ => false)
  | _ => false
 | .ext i x => match o.op with
  | .extract y i' => i == i' && xAv y x
  | _ => false
 | .len x => match o.op with
  | .call { callee := .builtin .len,args := xs,argTypes := ts } => match xs.toList,ts.toList with
   | [y],t :: _ => xAv y x && (xDU P t).isSome
   | _,_ => false
  | _ => false
 | .cap _ => false
 | .aeq _ _ _ _ => false
 | .append _ es bytes x y => match o.op with
  | .call { callee := .builtin .append,args := xs,argTypes := ts } => match xs.toList,ts.toList with
   | [x',y'],[t,t'] => xAv x' x && xAv y' y && (xDU P t').isSome && (match xDU P t with
    | some e => xG6 P e == some es && bytesOf P e == some bytes && decide (0 < es) && (match xDw P e with | some zv => zv.cells.size == es | none => false)
    | none => false)
   | _,_ => false
  | _ => false
 | .appendh _ _ _ _ => false
 | .appendz z bytes x n => match o.op with
  | .call { callee := .builtin .append,args := xs,argTypes := ts } => match xs.toList,ts.toList with
   | [x',y'],[t,t'] => xAv x' x && xAv y' n && xRf P t' && (match xDU P t with
    | some e => xG6 P e == some z.length && bytesOf P e == some bytes && decide (0 < z.length) && (match xDw P e with | some zv => xEt zv.cells.toList z | none => false)
    | none => false)
   | _,_ => false
  | _ => false
 | .copy _ _ _ => false
 | .maxi _ _ => false
 | .mini x y => match o.op with
  | .call { callee := .builtin .min,args := xs,.. } => match xs.toList with
   | [x',y'] => xAv x' x && xAv y' y
   | _ => false
  | _ => false
 | .mm _ _ => false
 | .sslice x lo hi => match o.op with
  | .slice t x' lo' hi' none => xOA P t && xAv x' x && xEu lo' lo && xEu hi' hi
  | _ => false
 | .sbeq neg x y => match o.op with
  | .binOp op t x' y' _ => (op == (if neg then .neq else .eql)) && xOA P t && xAv x' x && xAv y' y
  | _ => false
 | .mkbound _ _ => false
 | .call f args | .ocall f args | .ocallw f args => match o.op with
  | .call { callee := .value (.func g),args := xs,.. } => f == g && xDT xs.toList args
  | _ => false
 | .icall f args | .fcall f args | .bcall f args => match o.op with
  | .call { callee := .value g,args := xs,.. } => xAv g f && xDT xs.toList args
  | _ => false
section
variable {chk : Code → ACode → Bool} {P : Program} {o : Oper} {a : Act} {im : Im} {io : Io} {H H' : Heap} {w : World} {F : List AV} {R : Rec} {v : AV}
theorem xUR {x : Arg} (hc : xAr P o (.mov x) = true) (hs : Sim chk im io H w) (hF : FRep im io F a) (h : xAb R F H (.mov x) = some (v,H')) : Good chk P o a im io w v H' := by
 simp only [xAr] at hc
 simp only [xAb] at h; cases h
 split at hc
 ·rename_i y ho
  exact .same hs (by simp [execOp,ho]) (xAi hc hF)
 ·rename_i y ho
  exact .same hs (by simp [execOp,ho]) (xAi hc hF)
 ·cases hc
theorem xRg {c x y : Arg} (hc : xAr P o (.pick c x y) = true) (hs : Sim chk im io H w) (hF : FRep im io F a) (h : xAb R F H (.pick c x y) = some (v,H')) : Good chk P o a im io w v H' := by
 simp only [xAr] at hc
 simp only [xAb] at h
 split at hc
 ·rename_i c' x' y' ho
  simp only [Bool.and_eq_true] at hc
  have r1 := xAi hc.1.1 hF
  have r2 := xAi hc.1.2 hF
  have r3 := xAi hc.2 hF
  split at h
  ·rename_i t e
   cases h
   rw [e] at r1
   generalize hv : a.eval c' = cv at r1
   cases r1
   cases t
   ·exact .same hs (x := a.eval y') (by simp [execOp,ho,hv,asBool]) r3
   ·exact .same hs (x := a.eval x') (by simp [execOp,ho,hv,asBool]) r2
  ·cases h
 ·cases hc
theorem xUS {i : Nat} {x : Arg} (hc : xAr P o (.ext i x) = true) (hs : Sim chk im io H w) (hF : FRep im io F a) (h : xAb R F H (.ext i x) = some (v,H')) : Good chk P o a im io w v H' := by
 simp only [xAr] at hc
 simp only [xAb] at h
 split at hc
 ·rename_i y i' ho
  simp only [Bool.and_eq_true,beq_iff_eq] at hc
  obtain ⟨rfl,hx⟩ := hc
  have r1 := xAi hx hF
  split at h
  ·rename_i vs e
   simp only [Option.map_eq_some_iff,Prod.mk.injEq] at h
   obtain ⟨v',h1,rfl,rfl⟩ := h
   rw [e] at r1
   generalize hv : a.eval y = cv at r1
   cases r1 with
   | tup hl hcc =>
    rename_i ws
    obtain ⟨xv,hx1,hx2⟩ := Reps.get (vs := ws) ⟨hl,hcc⟩ h1
    exact .same hs (x := xv) (by simp [execOp,ho,hv,Instr.extract,hx1]) hx2
  ·cases h
 ·cases hc
theorem xND {f : Nat} {caps : List Arg} (hc : xAr P o (.mkfunc f caps) = true) (hs : Sim chk im io H w) (hF : FRep im io F a) (h : xAb R F H (.mkfunc f caps) = some (v,H')) : Good chk P o a im io w v H' := by
 simp only [xAr] at hc
 simp only [xAb] at h; cases h
 split at hc
 ·rename_i g first caps' ho
  simp only [Bool.and_eq_true,beq_iff_eq] at hc
  obtain ⟨⟨rfl,h1⟩,h2⟩ := hc
  have r := xBa (im := im) (io := io) hF h2
  have e : first = #[] := by simpa using h1
  subst e
  refine .same hs (x := .func (.func f) #[] (caps'.map a.eval)) (by simp [execOp,ho,Instr.makeFunc]) ?_
  have h3 := Rep.func (f := f) r.1 r.2
  rw [show (List.map a.eval caps'.toList).toArray = caps'.map a.eval by rw [← Array.toList_inj]; simp] at h3
  exact h3
 ·cases hc
theorem xLB {f : Nat} {first : List Arg} (hc : xAr P o (.mkbound f first) = true) (hs : Sim chk im io H w) (hF : FRep im io F a) (h : xAb R F H (.mkbound f first) = some (v,H')) : Good chk P o a im io w v H' := by simp [xAr] at hc
theorem xRh {neg : Bool} {x y : Arg} (hc : xAr P o (.sbeq neg x y) = true) (hs : Sim chk im io H w) (hF : FRep im io F a) (h : xAb R F H (.sbeq neg x y) = some (v,H')) : Good chk P o a im io w v H' := by
 simp only [xAr] at hc
 simp only [xAb] at h
 split at hc
 case h_2 => cases hc
 rename_i op t x' y' yt ho
 simp only [Bool.and_eq_true,beq_iff_eq] at hc
 obtain ⟨⟨⟨rfl,hu⟩,h1⟩,h2⟩ := hc
 have hu := xG4 hu
 have r1 := xAi h1 hF
 have r2 := xAi h2 hF
 split at h
 case h_2 => cases h
 rename_i s t' e1 e2
 cases h
 rw [e1] at r1
 rw [e2] at r2
 generalize hv1 : a.eval x' = c1 at r1
 generalize hv2 : a.eval y' = c2 at r2
 cases r1
 cases r2
 cases neg
 ·refine .same hs (x := .bool (s.toList == t'.toList)) ?_ ?_
  ·simp [execOp,ho,hv1,hv2,eqGuard,binOp,run_underlying hu,Op.stringOp]
  ·rw [show ((s.toList == t'.toList) != false) = (s.toList == t'.toList) by cases (s.toList == t'.toList) <;> rfl]; exact .bool
 ·refine .same hs (x := .bool (!(s.toList == t'.toList))) ?_ ?_
  ·simp [execOp,ho,hv1,hv2,eqGuard,binOp,run_underlying hu,Op.stringOp]
  ·rw [show ((s.toList == t'.toList) != true) = !(s.toList == t'.toList) by cases (s.toList == t'.toList) <;> rfl]; exact .bool
theorem xXo {mx : Bool} {xs : List Arg} (hc : xAr P o (.mm mx xs) = true) (hs : Sim chk im io H w) (hF : FRep im io F a) (h : xAb R F H (.mm mx xs) = some (v,H')) : Good chk P o a im io w v H' := by simp [xAr] at hc
theorem xNE {x : Arg} (hc : xAr P o (.nilchk x) = true) (hs : Sim chk im io H w) (hF : FRep im io F a) (h : xAb R F H (.nilchk x) = some (v,H')) : Good chk P o a im io w v H' := by
 simp only [xAr] at hc
 simp only [xAb] at h
 split at hc
 ·rename_i y ho
  have r1 := xAi hc hF
  split at h
  all_goals try (cases h; done)
  all_goals
   rename_i e
   cases h
   rw [e] at r1
   generalize hv : a.eval y = cv at r1
   have r2 := r1
   cases r1
   exact .same hs (by simp [execOp,ho,hv]) r2
 ·cases hc
theorem xRi {k : IntKind} {x : Arg} (hc : xAr P o (.conv k x) = true) (hs : Sim chk im io H w) (hF : FRep im io F a) (h : xAb R F H (.conv k x) = some (v,H')) : Good chk P o a im io w v H' := by
 simp only [xAr] at hc
 simp only [xAb] at h
 split at hc
 ·rename_i s t y ho
  simp only [Bool.and_eq_true,Option.isSome_iff_exists] at hc
  obtain ⟨⟨⟨d,hd⟩,h2⟩,h3⟩ := hc
  have r1 := xAi h3 hF
  split at h2
  ·rename_i k' hu
   simp only [beq_iff_eq] at h2
   subst h2
   split at h
   ·rename_i k0 n e
    cases h
    rw [e] at r1
    generalize hv : a.eval y = cv at r1
    cases r1
    exact .same hs (x := .int k (k.wrap n)) (by simp [execOp,ho,hv,convert,run_underlying hd,run_underlying hu,Conv.intToInt]) .int
   ·cases h
  ·cases h2
 ·cases hc
theorem xXp {op : UnOp} {x : Arg} (hc : xAr P o (.un op x) = true) (hs : Sim chk im io H w) (hF : FRep im io F a) (h : xAb R F H (.un op x) = some (v,H')) : Good chk P o a im io w v H' := by
 simp only [xAr] at hc
 simp only [xAb,Option.map_eq_some_iff,Prod.mk.injEq] at h
 obtain ⟨v',h,rfl,rfl⟩ := h
 split at hc
 ·rename_i op' t y ho
  simp only [Bool.and_eq_true,beq_iff_eq] at hc
  obtain ⟨rfl,h3⟩ := hc
  have r1 := xAi h3 hF
  unfold unA at h
  split at h
  ·rename_i b e
   split at h
   ·cases h
    rw [e] at r1
    generalize hv : a.eval y = cv at r1
    cases r1
    exact .same hs (x := .bool !b) (by simp [execOp,ho,hv,Op.unary]) .bool
   ·cases h
  ·rename_i k n e
   split at h
   ·cases h
    rw [e] at r1
    generalize hv : a.eval y = cv at r1
    cases r1
    exact .same hs (x := .int k (k.wrap (0 - n))) (by simp [execOp,ho,hv,Op.unary,Op.intArith]) .int
   ·cases h
    rw [e] at r1
    generalize hv : a.eval y = cv at r1
    cases r1
    exact .same hs (x := .int k (xDk .xor k (if k.signed then -1 else k.max) n)) (by simp [execOp,ho,hv,Op.unary,Op.intBits,xDk]) .int
   ·cases h
  ·cases h
 ·cases hc
theorem xUT {op : BinOp} {x y : Arg} (hc : xAr P o (.bin op x y) = true) (hs : Sim chk im io H w) (hF : FRep im io F a) (h : xAb R F H (.bin op x y) = some (v,H')) : Good chk P o a im io w v H' := by
 simp only [xAr] at hc
 simp only [xAb,Option.map_eq_some_iff,Prod.mk.injEq] at h
 obtain ⟨v',h,rfl,rfl⟩ := h
 split at hc
 ·rename_i op' t x' y' yt ho
  simp only [Bool.and_eq_true,beq_iff_eq] at hc
  obtain ⟨⟨rfl,h2⟩,h3⟩ := hc
  have r1 := xAi h2 hF
  have r2 := xAi h3 hF
  unfold xEh at h
  split at h
  ·rename_i k n k' m e1 e2
   rw [e1] at r1
   rw [e2] at r2
   generalize hv1 : a.eval x' = c1 at r1
   generalize hv2 : a.eval y' = c2 at r2
   cases r1
   cases r2
   have hg : eqGuard op t x' y' (.int k n) (.int k' m) = pure () := by
    unfold eqGuard
    cases op <;> rfl
   have base : ∀ (r : Value),(binOp op t (.int k n) (.int k' m)).run P w = .ok r w → (execOp a.eval o).run P w = .ok (.value r) w := by
    intro r hr
    simp [execOp,ho,hv1,hv2,hg,hr]
   cases op <;> simp only at h
   all_goals (split at h <;> first | (cases h; done) | skip)
   all_goals cases h
   all_goals first
    | (rename_i hk; obtain ⟨rfl,hm⟩ := hk; refine .same hs (base _ ?_) .int; simp [binOp,Op.intDiv,hm]; done)
    | (rename_i hk; subst hk; refine .same hs (base _ ?_) .int; simp [binOp,Op.intArith]; done)
    | (rename_i hk; subst hk; refine .same hs (base _ ?_) .int; simp [binOp,Op.intBits,xDk]; done)
    | (rename_i hk; subst hk; refine .same hs (base _ ?_) .bool; simp [binOp,Op.intCmp]; done)
    | (rename_i hb; refine .same hs (base _ ?_) .int; simp [binOp,Op.shift,hb]; done)
  ·cases h
 ·cases hc
theorem xUU {neg : Bool} {x y : Arg} (hc : xAr P o (.beq neg x y) = true) (hs : Sim chk im io H w) (hF : FRep im io F a) (h : xAb R F H (.beq neg x y) = some (v,H')) : Good chk P o a im io w v H' := by
 simp only [xAr] at hc
 simp only [xAb] at h
 split at hc
 ·rename_i op' t x' y' yt ho
  simp only [Bool.and_eq_true,beq_iff_eq] at hc
  obtain ⟨⟨⟨hop,h2⟩,h3⟩,h4⟩ := hc
  have r1 := xAi h2 hF
  have r2 := xAi h3 hF
  split at h4
  ·rename_i hu
   split at h
   ·rename_i b1 b2 e1 e2
    cases h
    rw [e1] at r1
    rw [e2] at r2
    generalize hv1 : a.eval x' = c1 at r1
    generalize hv2 : a.eval y' = c2 at r2
    cases r1
    cases r2
    cases neg <;> simp only [if_true,Bool.false_eq_true,if_false] at hop ⊢ <;> subst hop
    ·exact .same hs (x := .bool (b1 == b2)) (by simp [execOp,ho,hv1,hv2,eqGuard,binOp,Go.run_equal_bool w t b1 b2 hu]) .bool
    ·exact .same hs (x := .bool (b1 != b2)) (by simp [execOp,ho,hv1,hv2,eqGuard,binOp,Go.run_equal_bool w t b1 b2 hu,bne]) .bool
   ·cases h
  ·cases h4
 ·cases hc
theorem xUV {neg : Bool} {n : Nat} {x y : Arg} (hc : xAr P o (.aeq neg n x y) = true) (hs : Sim chk im io H w) (hF : FRep im io F a) (h : xAb R F H (.aeq neg n x y) = some (v,H')) : Good chk P o a im io w v H' := by simp [xAr] at hc
theorem xUW {x : Arg} (hc : xAr P o (.cap x) = true) (hs : Sim chk im io H w) (hF : FRep im io F a) (h : xAb R F H (.cap x) = some (v,H')) : Good chk P o a im io w v H' := by simp [xAr] at hc
theorem xRj {x y : Arg} (hc : xAr P o (.maxi x y) = true) (hs : Sim chk im io H w) (hF : FRep im io F a) (h : xAb R F H (.maxi x y) = some (v,H')) : Good chk P o a im io w v H' := by simp [xAr] at hc
theorem xRk {x y : Arg} (hc : xAr P o (.mini x y) = true) (hs : Sim chk im io H w) (hF : FRep im io F a) (h : xAb R F H (.mini x y) = some (v,H')) : Good chk P o a im io w v H' := by
 simp only [xAr] at hc
 simp only [xAb] at h
 split at hc
 ·rename_i xs ts ho
  split at hc
  ·rename_i x' y' hxs
   simp only [Bool.and_eq_true] at hc
   have r1 := xAi hc.1 hF
   have r2 := xAi hc.2 hF
   have hxs' : xs = #[x',y'] := by rw [← Array.toList_inj]; simpa using hxs
   subst hxs'
   split at h
   ·rename_i k n k' m e1 e2
    cases h
    rw [e1] at r1
    rw [e2] at r2
    generalize hv1 : a.eval x' = c1 at r1
    generalize hv2 : a.eval y' = c2 at r2
    cases r1
    cases r2
    exact .same hs (by simp [execOp,ho,resolve,invoke,builtin,Builtin.min_,Builtin.min2,hv1,hv2]) .int
   ·cases h
  ·cases hc
 ·cases hc
theorem xKn {z : Bool} {n : Nat} {cs : List AV} {x : Value} (h : Rep im io (.sl z n cs) x) : ∃ ad cap,x = .slice ad n cap := by
 cases h <;> exact ⟨_,_,rfl⟩
theorem xNF {z : Bool} {id off n es : Nat} {x : Value} (h : Rep im io (.own z id off n es) x) : ∃ ad cap,x = .slice ad n cap := by
 cases h <;> exact ⟨_,_,rfl⟩
theorem xOB {x : Arg} (hc : xAr P o (.len x) = true) (hs : Sim chk im io H w) (hF : FRep im io F a) (h : xAb R F H (.len x) = some (v,H')) : Good chk P o a im io w v H' := by
 simp only [xAr] at hc
 simp only [xAb] at h
 split at hc
 ·rename_i xs ts ho
  split at hc
  ·rename_i y t trest hxs hts
   simp only [Bool.and_eq_true,Option.isSome_iff_exists] at hc
   obtain ⟨h1,e,h2⟩ := hc
   have hu := xBl h2
   have r1 := xAi h1 hF
   have hxs' : xs = #[y] := by rw [← Array.toList_inj]; simpa using hxs
   subst hxs'
   have ht : ts[0]? = some t := by rw [← Array.getElem?_toList,hts]; rfl
   have run : ∀ (ad : Option Addr) (n cap : Nat),a.eval y = .slice ad n cap → (execOp a.eval o).run P w = .ok (.value (.int .i64 n)) w := fun ad n cap hv => by
    simp [execOp,ho,resolve,invoke,builtin,Builtin.len_,ht,hv,run_underlying hu,goInt]
   split at h
   ·rename_i e1
    cases h
    rw [e1] at r1
    obtain ⟨ad,cap,hx⟩ := xKn r1
    exact .same hs (run ad _ cap hx) .int
   ·rename_i e1
    cases h
    rw [e1] at r1
    obtain ⟨ad,cap,hx⟩ := xNF r1
    exact .same hs (run ad _ cap hx) .int
   ·cases h
  ·cases hc
 ·cases hc
theorem xQg {neg : Bool} {x : Arg} (hc : xAr P o (.isnil neg x) = true) (hs : Sim chk im io H w) (hF : FRep im io F a) (h : xAb R F H (.isnil neg x) = some (v,H')) : Good chk P o a im io w v H' := by
 simp only [xAr] at hc
 simp only [xAb] at h
 split at hc
 ·rename_i op' t x' yt ho
  simp only [Bool.and_eq_true,beq_iff_eq,Option.isSome_iff_exists] at hc
  obtain ⟨⟨hop,h2⟩,e,h3⟩ := hc
  have hu := xBl h3
  have r1 := xAi h2 hF
  have run : ∀ (ad : Option Addr) (n cap : Nat),a.eval x' = .slice ad n cap → (execOp a.eval o).run P w = .ok (.value (.bool (ad.isNone != neg))) w := fun ad n cap hv => by
   have hz : a.eval (.const (.slice none 0 0)) = .slice none 0 0 := rfl
   cases neg <;> simp only [if_true,Bool.false_eq_true,if_false] at hop <;> subst hop <;> cases ad <;>
    simp [execOp,ho,hv,hz,eqGuard,binOp,Go.run_equal_slice_nil w t e _ _ _ hu]
  split at h
  ·rename_i z n cs e1
   cases h
   rw [e1] at r1
   generalize hv : a.eval x' = cv at r1 run
   cases r1
   ·exact .same hs (run _ _ _ rfl) .bool
   ·exact .same hs (run _ _ _ rfl) .bool
   ·exact .same hs (run _ _ _ rfl) .bool
  ·rename_i z id off n es e1
   cases h
   rw [e1] at r1
   generalize hv : a.eval x' = cv at r1 run
   cases r1
   ·exact .same hs (run _ _ _ rfl) .bool
   ·exact .same hs (run _ _ _ rfl) .bool
   ·exact .same hs (run _ _ _ rfl) .bool
  ·cases h
 ·cases hc
end
end Go.Abs
