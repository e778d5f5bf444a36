/- An interpreter on abstract values for the code of the model: slices that nobody xCO any more are lists; what is still written lies in a small heap of its own. -/
import GoSem.Core.Code
import GoSem.Core.View
namespace Go.Abs
set_option linter.unusedVariables false
set_option linter.unusedSimpArgs false

inductive AV where
  | any
  | int (k : IntKind) (n : Int)
  | bool (b : Bool)
  | str (s : ByteArray)
  | ptr (id off : Nat)
  | vptr (cs : List AV) (off : Nat)
  | nilp
  | sl (z : Bool) (n : Nat) (cs : List AV)
  | own (z : Bool) (id off n es : Nat)
  | func (f : Nat) (caps : List AV)
  | bfunc (f : Nat) (first : List AV)
  | yield (l : Nat)
  | nilf
  | mp (id : Nat)
  | nilm
  | agg (cs : List AV)
  | tup (vs : List AV)
  deriving Inhabited

def AV.isCell : AV → Bool
  | .any | .agg _ | .tup _ => false
  | _ => true

def AV.cells : AV → List AV
  | .agg cs => cs
  | v => [v]

inductive Arg where
  | t (i : Nat)
  | c (v : AV)
  deriving Inhabited

inductive AOp where
  | mov (x : Arg)
  | pick (c a b : Arg)
  | box (x : Arg)
  | build (z : List AV) (parts : List (Nat × Nat × Arg))
  | bslice (fz : Bool) (z : List AV) (es n : Nat) (parts : List (Nat × Arg))
  | load (g : Bool) (n : Nat) (p : Arg)
  | store (n : Nat) (p v : Arg)
  | nilchk (x : Arg)
  | bin (op : BinOp) (x y : Arg)
  | beq (neg : Bool) (x y : Arg)
  | isnil (neg : Bool) (x : Arg)
  | un (op : UnOp) (x : Arg)
  | conv (k : IntKind) (x : Arg)
  | mkfunc (f : Nat) (caps : List Arg)
  | mkslice (fz : Bool) (z : List AV) (bytes : Nat) (len cap : Arg)
  | slice (es : Nat) (x : Arg) (lo hi mx : Option Arg)
  | faddr (off : Nat) (x : Arg)
  | field (g : Bool) (off n : Nat) (x : Arg)
  | iaddr (es : Nat) (x i : Arg)
  | ext (i : Nat) (x : Arg)
  | len (x : Arg)
  | cap (x : Arg)
  | aeq (neg : Bool) (n : Nat) (x y : Arg)
  | append (fz : Bool) (es bytes : Nat) (x y : Arg)
  | appendz (z : List AV) (bytes : Nat) (x n : Arg)
  | copy (es : Nat) (x y : Arg)
  | maxi (x y : Arg)
  | mini (x y : Arg)
  | call (f : Nat) (args : List Arg)
  | icall (f : Arg) (args : List Arg)
  | fcall (f : Arg) (args : List Arg)
  | ocall (f : Nat) (args : List Arg)
  | ocallw (f : Nat) (args : List Arg)
  | idx (g : Bool) (es len : Nat) (x i : Arg)
  | arrat (es len : Nat) (x i : Arg)
  | garr (b es len : Nat) (i : Arg)
  | sidx (x i : Arg)
  | slen (x : Arg)
  | mm (mx : Bool) (xs : List Arg)
  | sslice (x : Arg) (lo hi : Option Arg)
  | sbeq (neg : Bool) (x y : Arg)
  | mkbound (f : Nat) (first : List Arg)
  | bcall (f : Arg) (args : List Arg)
  | mkmap
  | mlook (ks : List Nat) (comma : Bool) (z : AV) (x k : Arg)
  | mupd (ks : List Nat) (m k v : Arg)
  | mlen (x : Arg)
  | mnil (neg : Bool) (x : Arg)
  | sbytes (fz : Bool) (x : Arg)
  | bstr (x : Arg)
  | sadd (x y : Arg)
  deriving Inhabited

structure AOper where
  dst : Option Nat
  op : AOp
  guard : Option (Nat × Bool)
  deriving Inhabited

inductive AExit where
  | normal
  | exit (id : Nat)
  | ret
  deriving DecidableEq, Inhabited

inductive ACode where
  | skip
  | region (ops : List AOper)
  | draw (m : Nat) (ops : List AOper)
  | drawl (ls : List (Nat × Nat × Nat × Nat)) (m : Nat) (ops : List AOper)
  | drawp (als : List (Nat × Nat)) (ls : List (Nat × Nat × Nat × Nat)) (m : Nat) (ops : List AOper)
  | drawh (hs : List (Nat × Nat × Nat)) (als : List (Nat × Nat)) (ls : List (Nat × Nat × Nat × Nat)) (m : Nat) (ops : List AOper)
  | fz (ss : List Nat) (b : ACode)
  | fzs (i : Nat) (b : ACode)
  | seq (a b : ACode)
  | cond (c : Arg) (a b : ACode)
  | block (id : Nat) (b : ACode)
  | loop (scr : List Nat) (b : ACode)
  | range (f : Arg) (ps : List Nat) (asg body : ACode)
  | exit (id : Nat)
  | scope (b : ACode)
  | label
  | ret
  | stuck
  deriving Inhabited

inductive Blk where
  | dead
  | cells (fz z : Bool) (cs : List AV)
  | mp (es : List (AV × AV))
  | loop (state : Nat) (pend : Option AExit) (F : List AV) (ps : List Nat) (asg body : ACode)
  deriving Inhabited

def xPX : Nat → Option (List AV) := fun _ => none

abbrev xAu := List Blk

structure St where
  F : List AV
  H : xAu

inductive ARes where
  | tmp (t : Nat)
  | cell (t : Nat) (g : Bool) (n : Nat)

structure AFunc where
  ntmps : Nat
  code : ACode
  results : List ARes

def opv (F : List AV) : Arg → AV
  | .t i => F.getD i .any
  | .c v => v

def putA (F : List AV) : Option Nat → AV → List AV
  | some d, v => F.set d v
  | none, _ => F

def rd (H : xAu) (p : AV) (n : Nat) : Option (List AV) :=
  match p with
  | .ptr id off => match H[id]? with
    | some (.cells _ _ cs) => if off + n ≤ cs.length then some ((cs.drop off).take n) else none
    | _ => none
  | .vptr cs off => if off + n ≤ cs.length then some ((cs.drop off).take n) else none
  | _ => none

def xBd (cs : List AV) (off : Nat) (vs : List AV) : List AV := cs.take off ++ vs ++ cs.drop (off + vs.length)

def wr (H : xAu) (p : AV) (vs : List AV) : Option xAu :=
  match p with
  | .ptr id off => match H[id]? with
    | some (.cells false z cs) => if off + vs.length ≤ cs.length ∧ vs.all AV.isCell = true then some (H.set id (.cells false z (xBd cs off vs))) else none
    | _ => none
  | _ => none

def mkv (g : Bool) (cs : List AV) : Option AV :=
  if g then some (.agg cs) else match cs with
    | [v] => some v
    | _ => none

def src (H : xAu) (es : Nat) : AV → Option (Nat × List AV)
  | .sl _ n cs => if cs.length = n * es then some (n, cs) else none
  | .own _ id off n es' => match H[id]? with
    | some (.cells _ _ cs) => if es' = es ∧ off + n * es ≤ cs.length then some (n, (cs.drop off).take (n * es)) else none
    | _ => none
  | _ => none

def frz : Nat → xAu → AV → Option AV
  | _, _, .any => some .any
  | _, _, .int k n => some (.int k n)
  | _, _, .bool b => some (.bool b)
  | _, _, .str s => some (.str s)
  | _, _, .nilp => some .nilp
  | _, _, .nilf => some .nilf
  | _, _, .func f [] => some (.func f [])
  | _, _, .sl z n cs => some (.sl z n cs)
  | d + 1, H, .own z id off n es => match H[id]? with
    | some (.cells _ _ cs) => if off + n * es ≤ cs.length then (((cs.drop off).take (n * es)).mapM (frz d H)).map (AV.sl z n) else none
    | _ => none
  | d + 1, H, .ptr id off => match H[id]? with
    | some (.cells _ _ cs) => (cs.mapM (frz d H)).map fun cs' => .vptr cs' off
    | _ => none
  | _, _, .vptr cs off => some (.vptr cs off)
  | d + 1, H, .agg cs => (cs.mapM (frz d H)).map AV.agg
  | d + 1, H, .tup cs => (cs.mapM (frz d H)).map AV.tup
  | _, _, _ => none

def bor : Nat → xAu → AV → List Nat
  | d + 1, H, .own _ id off n es => id :: (match H[id]? with
    | some (.cells _ _ cs) => ((cs.drop off).take (n * es)).flatMap (bor d H)
    | _ => [])
  | d + 1, H, .ptr id _ => id :: (match H[id]? with
    | some (.cells _ _ cs) => cs.flatMap (bor d H)
    | _ => [])
  | d + 1, H, .agg cs => cs.flatMap (bor d H)
  | d + 1, H, .tup cs => cs.flatMap (bor d H)
  | _, _, _ => []

def xCw : AV → Bool
  | .int _ _ | .bool _ | .str _ | .nilp | .nilf => true
  | _ => false

def xDT : AV → Bool
  | .agg cs | .tup cs => cs.all xCw
  | v => xCw v

def xGO : Blk → Blk
  | .cells _ z cs => .cells true z cs
  | b => b

def xDj (H : xAu) (ids : List Nat) : xAu := ids.foldl (fun H i => H.modify i xGO) H

def xFE (op : BinOp) (k : IntKind) (x y : Int) : Int :=
  let a := BitVec.ofInt k.bits x
  let b := BitVec.ofInt k.bits y
  k.wrap (match op with
    | .and => (a &&& b).toNat
    | .or => (a ||| b).toNat
    | .xor => (a ^^^ b).toNat
    | _ => (a &&& ~~~b).toNat)

def xEY (op : BinOp) : AV → AV → Option AV
  | .int k a, .int k' b => match op with
    | .shl => if b < 0 then none else some (.int k (k.wrap (a * 2 ^ (min b.toNat k.bits))))
    | .shr => if b < 0 then none else some (.int k (a.fdiv (2 ^ (min b.toNat k.bits))))
    | .add => if k = k' then some (.int k (k.wrap (a + b))) else none
    | .sub => if k = k' then some (.int k (k.wrap (a - b))) else none
    | .mul => if k = k' then some (.int k (k.wrap (a * b))) else none
    | .quo => if k = k' ∧ b ≠ 0 then some (.int k (k.wrap (a.tdiv b))) else none
    | .rem => if k = k' ∧ b ≠ 0 then some (.int k (a.tmod b)) else none
    | .and | .or | .xor | .andNot => if k = k' then some (.int k (xFE op k a b)) else none
    | .eql => if k = k' then some (.bool (a == b)) else none
    | .neq => if k = k' then some (.bool (a != b)) else none
    | .lss => if k = k' then some (.bool (decide (a < b))) else none
    | .leq => if k = k' then some (.bool (decide (a ≤ b))) else none
    | .gtr => if k = k' then some (.bool (decide (b < a))) else none
    | .geq => if k = k' then some (.bool (decide (b ≤ a))) else none
  | _, _ => none

def unA (op : UnOp) : AV → Option AV
  | .bool b => match op with
    | .not => some (.bool !b)
    | _ => none
  | .int k n => match op with
    | .neg => some (.int k (k.wrap (0 - n)))
    | .xor => some (.int k (xFE .xor k (if k.signed then -1 else k.max) n))
    | _ => none
  | _ => none

def eq1 : AV → AV → Option Bool
  | .int k a, .int k' b => if k = k' then some (a == b) else none
  | _, _ => none

def xEe : List AV → List AV → Option Bool
  | [], [] => some true
  | x :: xs, y :: ys => match eq1 x y, xEe xs ys with
    | some b, some r => some (b && r)
    | _, _ => none
  | _, _ => none

def xCJ : AV → Option Nat
  | .int _ n => if 0 ≤ n then some n.toNat else none
  | _ => none

def xCP (n : Nat) (lo hi mx : Option AV) : Option (Nat × Nat) :=
  match (match hi with | none => (match mx with | none => some n | some _ => none) | some v => xCJ v),
        (match lo with | none => some 0 | some v => xCJ v) with
  | some h, some l => if l ≤ h ∧ h ≤ n then (match mx with
      | none => some (l, h)
      | some v => match xCJ v with
        | some m => if h ≤ m ∧ m ≤ n then some (l, h) else none
        | none => none) else none
  | _, _ => none

def xCX : Nat := 140737488355328

def xCd : List AV → List (Nat × List AV) → Option (List AV)
  | cs, [] => some cs
  | cs, (off, vs) :: rest => if off + vs.length ≤ cs.length ∧ vs.all AV.isCell = true then xCd (xBd cs off vs) rest else none

def xEf (z : List AV) : Nat → List AV
  | 0 => []
  | n + 1 => z ++ xEf z n

def xKa : AV → AV → Option Bool
  | .int k a, .int k' b => if k = k' then some (a == b) else none
  | .str s, .str t => some (s.data.toList == t.data.toList)
  | _, _ => none

def xVP : List AV → List AV → Option Bool
  | [], [] => some true
  | x :: xs, y :: ys => match xKa x y, xVP xs ys with
    | some b, some r => some (b && r)
    | _, _ => none
  | _, _ => none

def xFf : AV → AV → Option Bool
  | .agg cs, .agg ds => xVP cs ds
  | x, y => xKa x y

def xHf (k : AV) : List (AV × AV) → Option (Option AV)
  | [] => some none
  | (k', v) :: es => match xFf k k' with
    | some true => some (some v)
    | some false => xHf k es
    | none => none

def xPd (k v : AV) : List (AV × AV) → Option (List (AV × AV))
  | [] => some [(k, v)]
  | (k', v') :: es => match xFf k k' with
    | some true => some ((k, v) :: es)
    | some false => (xPd k v es).map ((k', v') :: ·)
    | none => none

def xDx : List Nat → AV → Bool
  | [0], .int _ _ => true
  | [1], .str _ => true
  | _, _ => false

def xPY (H : xAu) : AV → Option (List (AV × AV))
  | .nilm => some []
  | .mp id => match H[id]? with
    | some (.mp es) => some es
    | _ => none
  | _ => none

def xDp (s : ByteArray) : List AV := s.data.toList.map fun b => .int .u8 b.toNat
def xMR : List AV → Option (List UInt8)
  | [] => some []
  | .int .u8 n :: cs => (xMR cs).map (UInt8.ofNat n.toNat :: ·)
  | _ => none

structure Rec where
  pcall : Nat → List AV → Option AV
  icall : AV → List AV → xAu → Option (AV × xAu)
  loop : List Nat → ACode → St → Option (AExit × St)

def xBL : Nat := 6

def xC2 (R : Rec) (f : Nat) (args : List AV) (H : xAu) : Option (AV × xAu) :=
  match args.mapM (frz xBL H) with
  | none => none
  | some args' => match R.pcall f args' with
    | none => none
    | some r => some (r, if xDT r then H else xDj H (args.flatMap (bor xBL H)))

def xFj (fz z : Bool) (n es : Nat) (cs : List AV) (H : xAu) : Option (AV × xAu) :=
  if fz then (if (cs.flatMap (bor xBL H)).isEmpty then (cs.mapM (frz xBL H)).map fun cs' => (.sl z n cs', H) else none)
  else some (.own z H.length 0 n es, H ++ [.cells false z cs])


def xKN (base : Nat) : AV → AV
  | .ptr id off => .ptr (base + id) off
  | .own z id off n es => .own z (base + id) off n es
  | v => v

def xNO (base : Nat) : AV → AV
  | .agg cs => .agg (cs.map (xKN base))
  | v => xKN base v

def xEr (base : Nat) : AV → AV
  | .tup vs => .tup (vs.map (xNO base))
  | v => xNO base v

def xCB : AV → Bool
  | .int _ _ | .bool _ | .str _ | .nilp | .nilf | .sl _ _ _ | .func _ [] => true
  | _ => false

def xF3 (H : xAu) (v : AV) (B : List (Nat × Blk)) : Option (AV × List (Nat × Blk)) := match v with
  | .own z id off n es => match B.findIdx? (fun p => p.1 == id) with
    | some k => some (.own z k off n es, B)
    | none => match H[id]? with
      | some (.cells false z' cs) => if cs.all xCB then some (.own z B.length off n es, B ++ [(id, .cells false z' cs)]) else none
      | _ => none
  | v => if xCB v then some (v, B) else none

def xI0 (H : xAu) : List AV → List (Nat × Blk) → Option (List AV × List (Nat × Blk))
  | [], B => some ([], B)
  | v :: vs, B => match xF3 H v B with
    | none => none
    | some (v', B') => (xI0 H vs B').map fun (vs', B2) => (v' :: vs', B2)

def xGP (H : xAu) (v : AV) (B : List (Nat × Blk)) : Option (AV × List (Nat × Blk)) := match v with
  | .agg cs => if cs.all AV.isCell then (xI0 H cs B).map fun (cs', B') => (.agg cs', B') else none
  | v => xF3 H v B

def xFF (H : xAu) : List AV → List (Nat × Blk) → Option (List AV × List (Nat × Blk))
  | [], B => some ([], B)
  | v :: vs, B => match xGP H v B with
    | none => none
    | some (v', B') => (xFF H vs B').map fun (vs', B2) => (v' :: vs', B2)

def xEs (H : xAu) (v : AV) : Option (AV × List (Nat × Blk)) := match v with
  | .tup vs => (xFF H vs []).map fun (vs', B) => (.tup vs', B)
  | v => xGP H v []

def xFc (R : Rec) (f : Nat) (args : List AV) : Option (AV × List Blk) := match R.icall (.func f []) args [] with
  | some (r, H') => (xEs H' r).map fun (v, B) => (v, B.map (·.2))
  | none => none

def xPZ : AV → Bool
  | .ptr _ _ | .own .. => true
  | v => xCB v
def xQq : AV → Bool
  | .agg cs => cs.all xPZ
  | v => xPZ v
def xQr : AV → Bool
  | .tup vs => vs.all xQq
  | v => xQq v

def yC7 : Blk → Bool
  | .cells _ _ cs => cs.all xPZ
  | _ => true
def xKO (base : Nat) : Blk → Blk
  | .cells fz z cs => .cells fz z (cs.map (xKN base))
  | _ => .dead

def xFd (R : Rec) (f : Nat) (args : List AV) : Option (AV × xAu) := match R.icall (.func f []) args [] with
  | some (r, H') => if xQr r = true ∧ H'.all yC7 = true then some (r, H') else none
  | none => none

def mmA (mx : Bool) : AV → List AV → Option AV
  | .int k a, [] => some (.int k a)
  | .int k a, .int _ b :: r => mmA mx (.int k (if mx then (if b > a then b else a) else (if b < a then b else a))) r
  | _, _ => none

def xAm (R : Rec) (F : List AV) (H : xAu) : AOp → Option (AV × xAu)
  | .mov x => some (opv F x, H)
  | .pick c a b => match opv F c with
    | .bool t => some (if t then opv F a else opv F b, H)
    | _ => none
  | .box x => let cs := (opv F x).cells; if cs.all AV.isCell then some (.ptr H.length 0, H ++ [.cells false false cs]) else none
  | .build z parts =>
    (if parts.all (fun p => (opv F p.2.2).cells.length == p.2.1) then
      (xCd z (parts.map fun p => (p.1, (opv F p.2.2).cells))).map fun cs => (.agg cs, H) else none)
  | .bslice fz z es n parts =>
    (if parts.all (fun p => (opv F p.2).cells.length == es) then
      match xCd (xEf z n) (parts.map fun p => (p.1 * es, (opv F p.2).cells)) with
      | some cs => xFj fz false n es cs H
      | none => none
     else none)
  | .load g n p => match rd H (opv F p) n with
    | some cs => (mkv g cs).map fun v => (v, H)
    | none => none
  | .store n p v => let cs := (opv F v).cells; if cs.length = n then (wr H (opv F p) cs).map fun H' => (.tup [], H') else none
  | .nilchk x => match opv F x with
    | .ptr id off => some (.ptr id off, H)
    | .vptr cs off => some (.vptr cs off, H)
    | .func f caps => some (.func f caps, H)
    | .yield l => some (.yield l, H)
    | _ => none
  | .bin op x y => (xEY op (opv F x) (opv F y)).map fun v => (v, H)
  | .beq neg x y => match opv F x, opv F y with
    | .bool a, .bool b => some (.bool (if neg then a != b else a == b), H)
    | _, _ => none
  | .isnil neg x => match opv F x with
    | .sl z _ _ => some (.bool (z != neg), H)
    | .own z _ _ _ _ => some (.bool (z != neg), H)
    | _ => none
  | .un op x => (unA op (opv F x)).map fun v => (v, H)
  | .conv k x => match opv F x with
    | .int _ n => some (.int k (k.wrap n), H)
    | _ => none
  | .mkfunc f caps => some (.func f (caps.map (opv F)), H)
  | .mkslice fz z bytes l c => match opv F l, opv F c with
    | .int _ l, .int _ c => if 0 ≤ l ∧ l ≤ c ∧ c * bytes ≤ xCX ∧ c ≤ xCX ∧ z.all AV.isCell = true then xFj fz false l.toNat z.length (xEf z l.toNat) H else none
    | _, _ => none
  | .slice es x lo hi mx => match opv F x with
    | .sl z n cs => if cs.length = n * es then (xCP n (lo.map (opv F)) (hi.map (opv F)) (mx.map (opv F))).map fun (l, h) => (.sl z (h - l) ((cs.drop (l * es)).take ((h - l) * es)), H) else none
    | .own z id off n es' => if es' = es then (xCP n (lo.map (opv F)) (hi.map (opv F)) (mx.map (opv F))).map fun (l, h) => (.own z id (off + l * es) (h - l) es, H) else none
    | _ => none
  | .faddr o x => match opv F x with
    | .ptr id off => some (.ptr id (off + o), H)
    | .vptr cs off => some (.vptr cs (off + o), H)
    | _ => none
  | .field g off n x => match opv F x with
    | .agg cs => if off + n ≤ cs.length then (mkv g ((cs.drop off).take n)).map fun v => (v, H) else none
    | _ => none
  | .iaddr es x i => match opv F x, xCJ (opv F i) with
    | .sl _ n cs, some i => if i < n then some (.vptr cs (i * es), H) else none
    | .own _ id off n es', some i => if i < n ∧ es' = es then some (.ptr id (off + i * es), H) else none
    | _, _ => none
  | .ext i x => match opv F x with
    | .tup vs => (vs[i]?).map fun v => (v, H)
    | _ => none
  | .len x => match opv F x with
    | .sl _ n _ => some (.int .i64 n, H)
    | .own _ _ _ n _ => some (.int .i64 n, H)
    | _ => none
  | .cap x => match opv F x with
    | .sl true _ _ => some (.int .i64 0, H)
    | _ => none
  | .aeq neg n x y => match opv F x, opv F y with
    | .agg cs, .agg ds => if cs.length = n then (xEe cs ds).map fun b => (.bool (b != neg), H) else none
    | _, _ => none
  | .append fz es bytes x y => match src H es (opv F y) with
    | none => none
    | some (m, ys) => match opv F x with
      | .sl true _ _ => if m * bytes ≤ xCX ∧ m ≤ xCX then xFj fz (m == 0) m es ys H else none
      | .own z id off n es' => match H[id]? with
        | some (.cells false _ cs) => if off = 0 ∧ es' = es ∧ n * es ≤ cs.length ∧ (n + m) * bytes ≤ xCX ∧ n + m ≤ xCX then
            some (.own (z && m == 0) H.length 0 (n + m) es, H.set id .dead ++ [.cells false (z && m == 0) (cs.take (n * es) ++ ys)]) else none
        | _ => none
      | _ => none
  | .appendz z bytes x n => match xCJ (opv F n), opv F x with
    | some m, .sl true _ _ => if m * bytes ≤ xCX ∧ m ≤ xCX ∧ z.all AV.isCell = true then xFj false (m == 0) m z.length (xEf z m) H else none
    | _, _ => none
  | .copy _ _ _ => none
  | .maxi x y => match opv F x, opv F y with
    | .int k a, .int _ b => some (.int k (if b > a then b else a), H)
    | _, _ => none
  | .mini x y => match opv F x, opv F y with
    | .int k a, .int _ b => some (.int k (if b < a then b else a), H)
    | _, _ => none
  | .call f args => xC2 R f (args.map (opv F)) H
  | .icall f args => R.icall (opv F f) (args.map (opv F)) H
  | .fcall f args => match opv F f with
    | .func g caps => xC2 R g (args.map (opv F) ++ caps) H
    | _ => none
  | .idx g es len x i => match opv F x, xCJ (opv F i) with
    | .agg cs, some j => if j < len ∧ j * es + es ≤ cs.length then (mkv g ((cs.drop (j * es)).take es)).map fun v => (v, H) else none
    | _, _ => none
  | .arrat es len x i => match opv F x, xCJ (opv F i) with
    | .ptr id off, some j => if j < len then some (.ptr id (off + j * es), H) else none
    | .vptr cs off, some j => if j < len then some (.vptr cs (off + j * es), H) else none
    | _, _ => none
  | .garr b es len i => match xPX b, xCJ (opv F i) with
    | some cs, some j => if j < len then some (.vptr cs (j * es), H) else none
    | _, _ => none
  | .sidx x i => match opv F x, xCJ (opv F i) with
    | .str s, some j => (s[j]?).map fun b => (.int .u8 b.toNat, H)
    | _, _ => none
  | .slen x => match opv F x with
    | .str s => some (.int .i64 s.size, H)
    | _ => none
  | .mm mx xs => match xs.map (opv F) with
    | [] => none
    | x :: r => (mmA mx x r).map fun v => (v, H)
  | .sslice x lo hi => match opv F x with
    | .str s => (xCP s.size (lo.map (opv F)) (hi.map (opv F)) none).map fun (l, h) => (.str (s.extract l h), H)
    | _ => none
  | .sbeq neg x y => match opv F x, opv F y with
    | .str s, .str t => some (.bool ((s.toList == t.toList) != neg), H)
    | _, _ => none
  | .mkbound f first => some (.bfunc f (first.map (opv F)), H)
  | .bcall f args => match opv F f with
    | .bfunc g first => R.icall (.func g []) (first ++ args.map (opv F)) H
    | _ => none
  | .mkmap => some (.mp H.length, H ++ [.mp []])
  | .mlook ks comma z x k => if xDx ks (opv F k) then match xPY H (opv F x) with
    | none => none
    | some es => match xHf (opv F k) es with
      | none => none
      | some none => some (if comma then .tup [z, .bool false] else z, H)
      | some (some v) => some (if comma then .tup [v, .bool true] else v, H)
    else none
  | .mupd ks m k v => if xDx ks (opv F k) then match opv F m with
    | .mp id => match H[id]? with
      | some (.mp es) => (xPd (opv F k) (opv F v) es).map fun es' => (.tup [], H.set id (.mp es'))
      | _ => none
    | _ => none
    else none
  | .mlen x => (xPY H (opv F x)).map fun es => (.int .i64 es.length, H)
  | .mnil neg x => match opv F x with
    | .nilm => some (.bool (true != neg), H)
    | .mp _ => some (.bool (false != neg), H)
    | _ => none
  | .sbytes fz x => match opv F x with
    | .str s => xFj fz false s.size 1 (xDp s) H
    | _ => none
  | .bstr x => match src H 1 (opv F x) with
    | some (_, cs) => (xMR cs).map fun bs => (.str ⟨⟨bs⟩⟩, H)
    | none => none
  | .sadd x y => match opv F x, opv F y with
    | .str s, .str t => if s.size + t.size ≤ 9223372036854775807 then some (.str ⟨⟨s.data.toList ++ t.data.toList⟩⟩, H) else none
    | _, _ => none
  | .ocall f args => match (args.map (opv F)).mapM (frz xBL H) with
    | none => none
    | some args' => match xFc R f args' with
      | none => none
      | some (v, B) => some (xEr H.length v, xDj H ((args.map (opv F)).flatMap (bor xBL H)) ++ B)
  | .ocallw f args => match (args.map (opv F)).mapM (frz xBL H) with
    | none => none
    | some args' => match xFd R f args' with
      | none => none
      | some (v, B) => some (xEr H.length v, xDj H ((args.map (opv F)).flatMap (bor xBL H)) ++ B.map (xKO H.length))

def xDw (F : List AV) : Option (Nat × Bool) → Option Bool
  | none => some true
  | some (s, w) => match F.getD s .any with
    | .bool b => some (b == w)
    | .any => none
    | _ => some false

def xBQ (R : Rec) (o : AOper) (s : St) : Option St :=
  match xDw s.F o.guard with
  | none => none
  | some false => some ⟨putA s.F o.dst (.tup []), s.H⟩
  | some true => (xAm R s.F s.H o.op).map fun (v, H) => ⟨putA s.F o.dst v, H⟩

def xBK (R : Rec) : List AOper → St → Option St
  | [], s => some s
  | o :: rest, s => match xBQ R o s with
    | none => none
    | some s' => xBK R rest s'

def xHg (H : xAu) (i : Nat) : Bool := match H[i]? with
  | some (.cells true _ _) => true
  | _ => false

def xCY (r : AV) (H : xAu) (args : List AV) : Bool := xDT r || (args.flatMap (bor xBL H)).all (xHg H)

def xBx (R : Rec) (F : List AV) (H : xAu) : AOp → Option AV
  | .call f args => match xC2 R f (args.map (opv F)) H with
    | some (r, _) => if xCY r H (args.map (opv F)) then some r else none
    | none => none
  | .fcall f args => match opv F f with
    | .func g caps => match xC2 R g (args.map (opv F) ++ caps) H with
      | some (r, _) => if xCY r H (args.map (opv F) ++ caps) then some r else none
      | none => none
    | _ => none
  | .append true es bytes x y => match opv F x with
    | .sl _ _ _ => (xAm R F H (.append true es bytes x y)).map (·.1)
    | _ => none
  | .box (.c v) => if v.cells.all AV.isCell then some .any else none
  | .bslice false .. | .append false .. | .mkslice false .. | .appendz .. | .copy .. | .icall .. | .bcall .. | .store .. | .box .. | .ocall .. | .ocallw .. | .mkmap | .mupd .. | .sbytes false .. => none
  | op => (xAm R F H op).map (·.1)

def xB0 (R : Rec) (o : AOper) (s : St) : Option St :=
  match xDw s.F o.guard with
  | none => none
  | some false => some ⟨putA s.F o.dst (.tup []), s.H⟩
  | some true => (xBx R s.F s.H o.op).map fun v => ⟨putA s.F o.dst v, s.H⟩

def xCC (R : Rec) : List AOper → St → Option St
  | [], s => some s
  | o :: rest, s => match xB0 R o s with
    | none => none
    | some s' => xCC R rest s'

def xBy : AOp → Nat → Option (AV × List AV)
  | .box (.c v), id => some (.ptr id 0, v.cells)
  | _, _ => none

def xI1 (op : AOp) : Bool := (xBy op 0).isSome

def xCt : List AOper → St → St
  | [], s => s
  | o :: rest, s => match xBy o.op s.H.length with
    | some (v, cs) => xCt rest ⟨putA s.F o.dst v, s.H ++ [.cells false false cs]⟩
    | none => xCt rest s

def xXr (p : AV) (n : Nat) (q : AV) (k : Nat) : Bool := match p, q with
  | .ptr i a, .ptr j b => i != j || decide (a + n ≤ b) || decide (b + k ≤ a)
  | .vptr _ _, .ptr _ _ => true
  | .ptr i _, .own _ j _ _ _ => i != j
  | .ptr _ _, .sl _ _ _ => true
  | .vptr _ _, .own .. => true
  | .vptr _ _, .sl _ _ _ => true
  | _, _ => false

def apart (F : List AV) (l : Nat × Nat × Nat × Nat) : Bool := xXr (F.getD l.1 .any) l.2.1 (F.getD l.2.2.1 .any) l.2.2.2

def xBG : AOp → Bool
  | .box _ | .mkslice false .. | .bslice false .. | .append false .. | .appendz .. | .ocall .. => true
  | _ => false

def AOp.args : AOp → List Arg
  | .mov x | .box x | .nilchk x | .isnil _ x | .un _ x | .conv _ x | .faddr _ x | .field _ _ _ x | .ext _ x | .len x | .cap x | .load _ _ x | .slen x | .garr _ _ _ x | .mlen x | .mnil _ x | .sbytes _ x | .bstr x => [x]
  | .mkmap => []
  | .mlook _ _ _ x k | .sadd x k => [x, k]
  | .mupd _ m k v => [m, k, v]
  | .pick c a b => [c, a, b]
  | .build _ parts => parts.map (·.2.2)
  | .bslice _ _ _ _ parts => parts.map (·.2)
  | .store _ p v => [p, v]
  | .bin _ x y | .beq _ x y | .aeq _ _ x y | .maxi x y | .mini x y | .copy _ x y | .iaddr _ x y | .append _ _ _ x y | .appendz _ _ x y | .mkslice _ _ _ x y | .idx _ _ _ x y | .arrat _ _ x y | .sidx x y | .sbeq _ x y => [x, y]
  | .mkfunc _ caps => caps
  | .slice _ x lo hi mx => x :: (lo.toList ++ hi.toList ++ mx.toList)
  | .call _ args | .ocall _ args | .ocallw _ args | .mm _ args | .mkbound _ args => args
  | .sslice x lo hi => x :: (lo.toList ++ hi.toList)
  | .icall f args | .fcall f args | .bcall f args => f :: args

def xJx : AV → Bool
  | .agg cs => cs.all xCB
  | v => xCB v

def xFG (B : List Blk) : Bool := B.all fun b => match b with
  | .cells false _ cs => cs.all xCB
  | _ => false

def xEt (R : Rec) (F : List AV) (op : AOp) : Option (AV × List Blk) :=
  if op.args.all (fun x => xJx (opv F x)) = true then match xAm R F [] op with
    | some (v, B) => if xQr v = true ∧ xFG B = true then some (v, B) else none
    | none => none
  else none

abbrev Pr := Option (Nat × AV × List Blk)

def xBS (R : Rec) : List AOper → St → Option (St × List Pr)
  | [], s => some (s, [])
  | o :: rest, s => if xBG o.op = true then (match o.dst, xEt R s.F o.op with
      | some t, some (v, B) => (xBS R rest ⟨s.F.set t .any, s.H⟩).map fun (s', l) => (s', some (t, v, B) :: l)
      | _, _ => none)
    else match xB0 R o s with
      | none => none
      | some s1 => (xBS R rest s1).map fun (s', l) => (s', none :: l)

def xB4 : List Pr → St → St
  | [], s => s
  | none :: r, s => xB4 r s
  | some (t, v, B) :: r, s => xB4 r ⟨s.F.set t (xEr s.H.length v), s.H ++ B⟩

def xDa : List (Nat × Nat) → List AV → List AV
  | [], F => F
  | (d, q) :: r, F => xDa r (F.set d (F.getD q .any))

def xCQ (als : List (Nat × Nat)) (pl : List Pr) (s : St) : St := ⟨xDa als (xB4 pl s).F, (xB4 pl s).H⟩

def xR0 : Nat → AV → AV → Bool
  | 0, _, _ => false
  | d + 1, a, b => match a, b with
    | .int k x, .int k' y => decide (k = k') && x == y
    | .bool x, .bool y => x == y
    | .nilp, .nilp => true
    | .nilf, .nilf => true
    | .ptr i o, .ptr j o' => i == j && o == o'
    | .own z i o n e, .own z' i' o' n' e' => z == z' && i == i' && o == o' && n == n' && e == e'
    | .sl z n cs, .sl z' n' cs' => z == z' && n == n' && cs.length == cs'.length && (cs.zip cs').all fun p => xR0 d p.1 p.2
    | _, _ => false

def xEE (H H' : xAu) (p : AV) (n : Nat) : Bool := match rd H p n with
  | none => true
  | some cs => match rd H' p n with
    | none => false
    | some cs' => cs.length == cs'.length && (cs.zip cs').all fun p => xR0 4 p.1 p.2

def xD4 (R : Rec) (hs : List (Nat × Nat × Nat)) : Nat → List AOper → St → Bool
  | _, [], _ => true
  | k, o :: rest, s => match xBQ R o s with
    | none => true
    | some s' => (hs.all fun h => h.2.2 != k || xEE s.H s'.H (s.F.getD h.1 .any) h.2.1) && xD4 R hs (k + 1) rest s'

def xBA (scr : List Nat) (F : List AV) : List AV := scr.foldl (fun F i => F.set i .any) F

def run (R : Rec) : ACode → St → Option (AExit × St)
  | .skip, s => some (.normal, s)
  | .label, s => some (.normal, s)
  | .region ops, s => (xBK R ops s).map fun s' => (.normal, s')
  | .draw m ops, s => match xCC R (ops.take m) s with
    | none => none
    | some s1 => (xBK R (ops.drop m) (xCt (ops.take m) s1)).map fun s' => (.normal, s')
  | .drawl ls m ops, s => match xCC R (ops.take m) s with
    | none => none
    | some s1 => match xBK R (ops.drop m) (xCt (ops.take m) s1) with
      | some s' => if ls.all (apart s'.F) then some (.normal, s') else none
      | none => none
  | .drawp als ls m ops, s => match xBS R (ops.take m) s with
    | none => none
    | some (s1, pl) => match xBK R (ops.drop m) (xCQ als pl s1) with
      | some s' => if ls.all (apart s'.F) then some (.normal, s') else none
      | none => none
  | .drawh hs als ls m ops, s => match xBS R (ops.take m) s with
    | none => none
    | some (s1, pl) => match xBK R (ops.drop m) (xCQ als pl s1) with
      | some s' => if ls.all (apart s'.F) = true ∧ xD4 R hs m (ops.drop m) (xCQ als pl s1) = true then some (.normal, s') else none
      | none => none
  | .fz ss b, s => run R b ⟨s.F, xDj s.H (ss.flatMap fun i => bor xBL s.H (s.F.getD i .any))⟩
  | .fzs i b, s => match frz xBL s.H (s.F.getD i .any) with
    | some v => run R b ⟨s.F.set i v, xDj s.H (bor xBL s.H (s.F.getD i .any))⟩
    | none => none
  | .seq a b, s => match run R a s with
    | some (.normal, s') => run R b s'
    | r => r
  | .cond c a b, s => match opv s.F c with
    | .bool t => if t then run R a s else run R b s
    | _ => none
  | .block id b, s => match run R b s with
    | some (.exit i, s') => if i = id then some (.normal, s') else some (.exit i, s')
    | r => r
  | .loop scr b, s => R.loop scr b s
  | .range f ps asg body, s =>
    match opv s.F f with
    | .func g caps => match R.icall (.func g caps) [.yield s.H.length] (s.H ++ [.loop 0 none s.F ps asg body]) with
      | some (_, H') => match H'[s.H.length]? with
        | some (.loop st pend _ _ _ _) => if st = 1 then none else some ((match pend with | none => .normal | some e => e), ⟨s.F, H'.set s.H.length .dead⟩)
        | _ => none
      | none => none
    | _ => none
  | .exit id, s => some (.exit id, s)
  | .scope b, s => run R b s
  | .ret, s => some (.ret, s)
  | .stuck, _ => none

def xR1 (s : St) : ARes → Option AV
  | .tmp t => some (s.F.getD t .any)
  | .cell t g n => match rd s.H (s.F.getD t .any) n with
    | some cs => mkv g cs
    | none => none

def xP0 (s : St) : List ARes → Option (List AV)
  | [] => some []
  | r :: rs => match xR1 s r with
    | none => none
    | some v => (xP0 s rs).map (v :: ·)

def xC8 (rs : List ARes) (s : St) : Option AV :=
  match rs with
  | [r] => xR1 s r
  | rs => (xP0 s rs).map .tup

def xMS (fn : AFunc) (args : List AV) (H : xAu) : St := ⟨args ++ List.replicate (fn.ntmps - args.length) (.tup []), H⟩

def xBN (R : Rec) (fn : AFunc) (args : List AV) (H : xAu) : Option (AV × xAu) :=
  match run R fn.code (xMS fn args H) with
  | some (.normal, s) | some (.ret, s) => (xC8 fn.results s).map fun v => (v, s.H)
  | _ => none

def ACode.noRange : ACode → Bool
  | .range .. => false
  | .seq a b | .cond _ a b => a.noRange && b.noRange
  | .block _ b | .loop _ b | .scope b | .fz _ b | .fzs _ b => b.noRange
  | _ => true

def xGQ (R : Rec) (l : Nat) (args : List AV) (H : xAu) : Option (AV × xAu) :=
  match H[l]? with
  | some (.loop 0 _ F ps asg body) =>
    if args.length = ps.length ∧ asg.noRange = true ∧ body.noRange = true then
      match run R asg ⟨(ps.zip args).foldl (fun F (p, v) => F.set p v) F, H⟩ with
      | some (.normal, s1) => match s1.H[l]? with
        | some (.loop 0 pend1 F1 ps1 asg1 body1) => match run R body ⟨s1.F, s1.H.set l (.loop 1 pend1 F1 ps1 asg1 body1)⟩ with
          | some (e, s2) => match s2.H[l]? with
            | some (.loop 1 _ F2 ps2 asg2 body2) => some (match e with
              | .normal => (.bool true, s2.H.set l (.loop 0 none F2 ps2 asg2 body2))
              | e => (.bool false, s2.H.set l (.loop 2 (some e) F2 ps2 asg2 body2)))
            | _ => none
          | none => none
        | _ => none
      | _ => none
    else none
  | _ => none

def Rec.none : Rec := ⟨fun _ _ => Option.none, fun _ _ _ => Option.none, fun _ _ _ => Option.none⟩

def xBw (R : Rec) (fn : AFunc) (args : List AV) : Option AV :=
  match xBN R fn args [] with
  | some (r, H') => frz xBL H' r
  | none => Option.none

def xEF (prog : Nat → Option AFunc) (R : Rec) (f : AV) (args : List AV) (H : xAu) : Option (AV × xAu) :=
  match f with
  | .func f caps => match prog f with
    | some fn => xBN R fn (args ++ caps) H
    | none => Option.none
  | .yield l => xGQ R l args H
  | _ => Option.none

def xI2 (R : Rec) (scr : List Nat) (b : ACode) (s : St) : Option (AExit × St) :=
  match run R b ⟨xBA scr s.F, s.H⟩ with
  | some (.normal, s') => R.loop scr b s'
  | some (e, s') => some (e, ⟨xBA scr s'.F, s'.H⟩)
  | none => none

def xEu (prog : Nat → Option AFunc) (R : Rec) : Rec where
  pcall f args := match prog f with
    | some fn => xBw R fn args
    | none => Option.none
  icall := xEF prog R
  loop := xI2 R

def fix (prog : Nat → Option AFunc) : Nat → Rec
  | 0 => Rec.none
  | n + 1 => xEu prog (fix prog n)

end Go.Abs
