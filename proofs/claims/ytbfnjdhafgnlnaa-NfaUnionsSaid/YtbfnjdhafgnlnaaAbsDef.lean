/- An interpreter on abstract values for the code of the model: slices that nobody xHM any more are lists; what is still written lies in a small heap of its own. -/
import GoSem.Core.Code
import GoSem.Core.View
namespace Go.Abs
set_option linter.unusedVariables false
set_option linter.unusedSimpArgs false

inductive AV where
  | any
  | int (k : IntKind) (n : Int)
  | bool (b : Bool)
  | str (s : ByteArray)
  | ptr (id off : Nat)
  | vptr (cs : List AV) (off : Nat)
  | nilp
  | sl (z : Bool) (n : Nat) (cs : List AV)
  | own (z : Bool) (id off n es : Nat)
  | func (f : Nat) (caps : List AV)
  | yield (l : Nat)
  | nilf
  | agg (cs : List AV)
  | tup (vs : List AV)
  deriving Inhabited

def AV.isCell : AV → Bool
  | .any | .agg _ | .tup _ => false
  | _ => true

def AV.cells : AV → List AV
  | .agg cs => cs
  | v => [v]

inductive Arg where
  | t (i : Nat)
  | c (v : AV)
  deriving Inhabited

inductive AOp where
  | mov (x : Arg)
  | pick (c a b : Arg)
  | box (x : Arg)
  | build (z : List AV) (parts : List (Nat × Nat × Arg))
  | bslice (fz : Bool) (z : List AV) (es n : Nat) (parts : List (Nat × Arg))
  | load (g : Bool) (n : Nat) (p : Arg)
  | store (n : Nat) (p v : Arg)
  | nilchk (x : Arg)
  | bin (op : BinOp) (x y : Arg)
  | beq (neg : Bool) (x y : Arg)
  | isnil (neg : Bool) (x : Arg)
  | un (op : UnOp) (x : Arg)
  | conv (k : IntKind) (x : Arg)
  | mkfunc (f : Nat) (caps : List Arg)
  | mkslice (fz : Bool) (z : List AV) (bytes : Nat) (len cap : Arg)
  | slice (es : Nat) (x : Arg) (lo hi mx : Option Arg)
  | faddr (off : Nat) (x : Arg)
  | field (g : Bool) (off n : Nat) (x : Arg)
  | iaddr (es : Nat) (x i : Arg)
  | ext (i : Nat) (x : Arg)
  | len (x : Arg)
  | cap (x : Arg)
  | aeq (neg : Bool) (n : Nat) (x y : Arg)
  | append (fz : Bool) (es bytes : Nat) (x y : Arg)
  | appendz (z : List AV) (bytes : Nat) (x n : Arg)
  | copy (es : Nat) (x y : Arg)
  | maxi (x y : Arg)
  | mini (x y : Arg)
  | call (f : Nat) (args : List Arg)
  | icall (f : Arg) (args : List Arg)
  | fcall (f : Arg) (args : List Arg)
  | ocall (f : Nat) (args : List Arg)
  deriving Inhabited

structure AOper where
  dst : Option Nat
  op : AOp
  guard : Option (Nat × Bool)
  deriving Inhabited

inductive AExit where
  | normal
  | exit (id : Nat)
  | ret
  deriving DecidableEq, Inhabited

inductive ACode where
  | skip
  | region (ops : List AOper)
  | draw (m : Nat) (ops : List AOper)
  | drawl (ls : List (Nat × Nat × Nat × Nat)) (m : Nat) (ops : List AOper)
  | drawp (ls : List (Nat × Nat × Nat × Nat)) (m : Nat) (ops : List AOper)
  | seq (a b : ACode)
  | cond (c : Arg) (a b : ACode)
  | block (id : Nat) (b : ACode)
  | loop (scr : List Nat) (b : ACode)
  | range (f : Arg) (ps : List Nat) (asg body : ACode)
  | exit (id : Nat)
  | scope (b : ACode)
  | label
  | ret
  | stuck
  deriving Inhabited

inductive Blk where
  | dead
  | cells (fz z : Bool) (cs : List AV)
  | loop (state : Nat) (pend : Option AExit) (F : List AV) (ps : List Nat) (asg body : ACode)
  deriving Inhabited

abbrev Heap := List Blk

structure St where
  F : List AV
  H : Heap

inductive ARes where
  | tmp (t : Nat)
  | cell (t : Nat) (g : Bool) (n : Nat)

structure AFunc where
  ntmps : Nat
  code : ACode
  results : List ARes

def opv (F : List AV) : Arg → AV
  | .t i => F.getD i .any
  | .c v => v

def xIY (F : List AV) : Option Nat → AV → List AV
  | some d, v => F.set d v
  | none, _ => F

def rd (H : Heap) (p : AV) (n : Nat) : Option (List AV) :=
  match p with
  | .ptr id off => match H[id]? with
    | some (.cells _ _ cs) => if off + n ≤ cs.length then some ((cs.drop off).take n) else none
    | _ => none
  | .vptr cs off => if off + n ≤ cs.length then some ((cs.drop off).take n) else none
  | _ => none

def xES (cs : List AV) (off : Nat) (vs : List AV) : List AV := cs.take off ++ vs ++ cs.drop (off + vs.length)

def wr (H : Heap) (p : AV) (vs : List AV) : Option Heap :=
  match p with
  | .ptr id off => match H[id]? with
    | some (.cells false z cs) => if off + vs.length ≤ cs.length ∧ vs.all AV.isCell = true then some (H.set id (.cells false z (xES cs off vs))) else none
    | _ => none
  | _ => none

def mkv (g : Bool) (cs : List AV) : Option AV :=
  if g then some (.agg cs) else match cs with
    | [v] => some v
    | _ => none

def src (H : Heap) (es : Nat) : AV → Option (Nat × List AV)
  | .sl _ n cs => if cs.length = n * es then some (n, cs) else none
  | .own _ id off n es' => match H[id]? with
    | some (.cells _ _ cs) => if es' = es ∧ off + n * es ≤ cs.length then some (n, (cs.drop off).take (n * es)) else none
    | _ => none
  | _ => none

def frz : Nat → Heap → AV → Option AV
  | _, _, .any => some .any
  | _, _, .int k n => some (.int k n)
  | _, _, .bool b => some (.bool b)
  | _, _, .str s => some (.str s)
  | _, _, .nilp => some .nilp
  | _, _, .nilf => some .nilf
  | _, _, .func f [] => some (.func f [])
  | _, _, .sl z n cs => some (.sl z n cs)
  | d + 1, H, .own z id off n es => match H[id]? with
    | some (.cells _ _ cs) => if off + n * es ≤ cs.length then (((cs.drop off).take (n * es)).mapM (frz d H)).map (AV.sl z n) else none
    | _ => none
  | d + 1, H, .agg cs => (cs.mapM (frz d H)).map AV.agg
  | d + 1, H, .tup cs => (cs.mapM (frz d H)).map AV.tup
  | _, _, _ => none

def bor : Nat → Heap → AV → List Nat
  | d + 1, H, .own _ id off n es => id :: (match H[id]? with
    | some (.cells _ _ cs) => ((cs.drop off).take (n * es)).flatMap (bor d H)
    | _ => [])
  | d + 1, H, .agg cs => cs.flatMap (bor d H)
  | d + 1, H, .tup cs => cs.flatMap (bor d H)
  | _, _, _ => []

def xFH : AV → Bool
  | .int _ _ | .bool _ | .str _ | .nilp | .nilf => true
  | _ => false

def xGG : AV → Bool
  | .agg cs | .tup cs => cs.all xFH
  | v => xFH v

def xFG : Blk → Blk
  | .cells _ z cs => .cells true z cs
  | b => b

def xFF (H : Heap) (ids : List Nat) : Heap := ids.foldl (fun H i => H.modify i xFG) H

def xJE (op : BinOp) (k : IntKind) (x y : Int) : Int :=
  let a := BitVec.ofInt k.bits x
  let b := BitVec.ofInt k.bits y
  k.wrap (match op with
    | .and => (a &&& b).toNat
    | .or => (a ||| b).toNat
    | .xor => (a ^^^ b).toNat
    | _ => (a &&& ~~~b).toNat)

def xIZ (op : BinOp) : AV → AV → Option AV
  | .int k a, .int k' b => match op with
    | .shl => if b < 0 then none else some (.int k (k.wrap (a * 2 ^ (min b.toNat k.bits))))
    | .shr => if b < 0 then none else some (.int k (a.fdiv (2 ^ (min b.toNat k.bits))))
    | .add => if k = k' then some (.int k (k.wrap (a + b))) else none
    | .sub => if k = k' then some (.int k (k.wrap (a - b))) else none
    | .mul => if k = k' then some (.int k (k.wrap (a * b))) else none
    | .quo => if k = k' ∧ b ≠ 0 then some (.int k (k.wrap (a.tdiv b))) else none
    | .rem => if k = k' ∧ b ≠ 0 then some (.int k (a.tmod b)) else none
    | .and | .or | .xor | .andNot => if k = k' then some (.int k (xJE op k a b)) else none
    | .eql => if k = k' then some (.bool (a == b)) else none
    | .neq => if k = k' then some (.bool (a != b)) else none
    | .lss => if k = k' then some (.bool (decide (a < b))) else none
    | .leq => if k = k' then some (.bool (decide (a ≤ b))) else none
    | .gtr => if k = k' then some (.bool (decide (b < a))) else none
    | .geq => if k = k' then some (.bool (decide (b ≤ a))) else none
  | _, _ => none

def unA (op : UnOp) : AV → Option AV
  | .bool b => match op with
    | .not => some (.bool !b)
    | _ => none
  | .int k n => match op with
    | .neg => some (.int k (k.wrap (0 - n)))
    | .xor => some (.int k (xJE .xor k (if k.signed then -1 else k.max) n))
    | _ => none
  | _ => none

def eq1 : AV → AV → Option Bool
  | .int k a, .int k' b => if k = k' then some (a == b) else none
  | _, _ => none

def xIB : List AV → List AV → Option Bool
  | [], [] => some true
  | x :: xs, y :: ys => match eq1 x y, xIB xs ys with
    | some b, some r => some (b && r)
    | _, _ => none
  | _, _ => none

def xJe : AV → Option Nat
  | .int _ n => if 0 ≤ n then some n.toNat else none
  | _ => none

def xHR (n : Nat) (lo hi mx : Option AV) : Option (Nat × Nat) :=
  match (match hi with | none => (match mx with | none => some n | some _ => none) | some v => xJe v),
        (match lo with | none => some 0 | some v => xJe v) with
  | some h, some l => if l ≤ h ∧ h ≤ n then (match mx with
      | none => some (l, h)
      | some v => match xJe v with
        | some m => if h ≤ m ∧ m ≤ n then some (l, h) else none
        | none => none) else none
  | _, _ => none

def xHW : Nat := 140737488355328

def xFE : List AV → List (Nat × List AV) → Option (List AV)
  | cs, [] => some cs
  | cs, (off, vs) :: rest => if off + vs.length ≤ cs.length ∧ vs.all AV.isCell = true then xFE (xES cs off vs) rest else none

def xIV (z : List AV) : Nat → List AV
  | 0 => []
  | n + 1 => z ++ xIV z n

structure Rec where
  pcall : Nat → List AV → Option AV
  icall : AV → List AV → Heap → Option (AV × Heap)
  loop : List Nat → ACode → St → Option (AExit × St)

def xGb : Nat := 6

def xHQ (R : Rec) (f : Nat) (args : List AV) (H : Heap) : Option (AV × Heap) :=
  match args.mapM (frz xGb H) with
  | none => none
  | some args' => match R.pcall f args' with
    | none => none
    | some r => some (r, if xGG r then H else xFF H (args.flatMap (bor xGb H)))

def xKx (fz z : Bool) (n es : Nat) (cs : List AV) (H : Heap) : Option (AV × Heap) :=
  if fz then (if (cs.flatMap (bor xGb H)).isEmpty then (cs.mapM (frz xGb H)).map fun cs' => (.sl z n cs', H) else none)
  else some (.own z H.length 0 n es, H ++ [.cells false z cs])


def xH6 (base : Nat) : AV → AV
  | .ptr id off => .ptr (base + id) off
  | .own z id off n es => .own z (base + id) off n es
  | v => v

def xId (base : Nat) : AV → AV
  | .agg cs => .agg (cs.map (xH6 base))
  | v => xH6 base v

def xHC (base : Nat) : AV → AV
  | .tup vs => .tup (vs.map (xId base))
  | v => xId base v

def xHz : AV → Bool
  | .int _ _ | .bool _ | .str _ | .nilp | .nilf | .sl _ _ _ | .func _ [] => true
  | _ => false

def xJs (H : Heap) (v : AV) (B : List (Nat × Blk)) : Option (AV × List (Nat × Blk)) := match v with
  | .own z id off n es => match B.findIdx? (fun p => p.1 == id) with
    | some k => some (.own z k off n es, B)
    | none => match H[id]? with
      | some (.cells false z' cs) => if cs.all xHz then some (.own z B.length off n es, B ++ [(id, .cells false z' cs)]) else none
      | _ => none
  | v => if xHz v then some (v, B) else none

def xLd (H : Heap) : List AV → List (Nat × Blk) → Option (List AV × List (Nat × Blk))
  | [], B => some ([], B)
  | v :: vs, B => match xJs H v B with
    | none => none
    | some (v', B') => (xLd H vs B').map fun (vs', B2) => (v' :: vs', B2)

def xJZ (H : Heap) (v : AV) (B : List (Nat × Blk)) : Option (AV × List (Nat × Blk)) := match v with
  | .agg cs => if cs.all AV.isCell then (xLd H cs B).map fun (cs', B') => (.agg cs', B') else none
  | v => xJs H v B

def xJf (H : Heap) : List AV → List (Nat × Blk) → Option (List AV × List (Nat × Blk))
  | [], B => some ([], B)
  | v :: vs, B => match xJZ H v B with
    | none => none
    | some (v', B') => (xJf H vs B').map fun (vs', B2) => (v' :: vs', B2)

def xIC (H : Heap) (v : AV) : Option (AV × List (Nat × Blk)) := match v with
  | .tup vs => (xJf H vs []).map fun (vs', B) => (.tup vs', B)
  | v => xJZ H v []

def xIK (R : Rec) (f : Nat) (args : List AV) : Option (AV × List Blk) := match R.icall (.func f []) args [] with
  | some (r, H') => (xIC H' r).map fun (v, B) => (v, B.map (·.2))
  | none => none

def xBw (R : Rec) (F : List AV) (H : Heap) : AOp → Option (AV × Heap)
  | .mov x => some (opv F x, H)
  | .pick c a b => match opv F c with
    | .bool t => some (if t then opv F a else opv F b, H)
    | _ => none
  | .box x => let cs := (opv F x).cells; if cs.all AV.isCell then some (.ptr H.length 0, H ++ [.cells false false cs]) else none
  | .build z parts =>
    (if parts.all (fun p => (opv F p.2.2).cells.length == p.2.1) then
      (xFE z (parts.map fun p => (p.1, (opv F p.2.2).cells))).map fun cs => (.agg cs, H) else none)
  | .bslice fz z es n parts =>
    (if parts.all (fun p => (opv F p.2).cells.length == es) then
      match xFE (xIV z n) (parts.map fun p => (p.1 * es, (opv F p.2).cells)) with
      | some cs => xKx fz false n es cs H
      | none => none
     else none)
  | .load g n p => match rd H (opv F p) n with
    | some cs => (mkv g cs).map fun v => (v, H)
    | none => none
  | .store n p v => let cs := (opv F v).cells; if cs.length = n then (wr H (opv F p) cs).map fun H' => (.tup [], H') else none
  | .nilchk x => match opv F x with
    | .ptr id off => some (.ptr id off, H)
    | .vptr cs off => some (.vptr cs off, H)
    | .func f caps => some (.func f caps, H)
    | .yield l => some (.yield l, H)
    | _ => none
  | .bin op x y => (xIZ op (opv F x) (opv F y)).map fun v => (v, H)
  | .beq neg x y => match opv F x, opv F y with
    | .bool a, .bool b => some (.bool (if neg then a != b else a == b), H)
    | _, _ => none
  | .isnil neg x => match opv F x with
    | .sl z _ _ => some (.bool (z != neg), H)
    | .own z _ _ _ _ => some (.bool (z != neg), H)
    | _ => none
  | .un op x => (unA op (opv F x)).map fun v => (v, H)
  | .conv k x => match opv F x with
    | .int _ n => some (.int k (k.wrap n), H)
    | _ => none
  | .mkfunc f caps => some (.func f (caps.map (opv F)), H)
  | .mkslice fz z bytes l c => match opv F l, opv F c with
    | .int _ l, .int _ c => if 0 ≤ l ∧ l ≤ c ∧ c * bytes ≤ xHW ∧ c ≤ xHW ∧ z.all AV.isCell = true then xKx fz false l.toNat z.length (xIV z l.toNat) H else none
    | _, _ => none
  | .slice es x lo hi mx => match opv F x with
    | .sl z n cs => if cs.length = n * es then (xHR n (lo.map (opv F)) (hi.map (opv F)) (mx.map (opv F))).map fun (l, h) => (.sl z (h - l) ((cs.drop (l * es)).take ((h - l) * es)), H) else none
    | .own z id off n es' => if es' = es then (xHR n (lo.map (opv F)) (hi.map (opv F)) (mx.map (opv F))).map fun (l, h) => (.own z id (off + l * es) (h - l) es, H) else none
    | _ => none
  | .faddr o x => match opv F x with
    | .ptr id off => some (.ptr id (off + o), H)
    | .vptr cs off => some (.vptr cs (off + o), H)
    | _ => none
  | .field g off n x => match opv F x with
    | .agg cs => if off + n ≤ cs.length then (mkv g ((cs.drop off).take n)).map fun v => (v, H) else none
    | _ => none
  | .iaddr es x i => match opv F x, xJe (opv F i) with
    | .sl _ n cs, some i => if i < n then some (.vptr cs (i * es), H) else none
    | .own _ id off n es', some i => if i < n ∧ es' = es then some (.ptr id (off + i * es), H) else none
    | _, _ => none
  | .ext i x => match opv F x with
    | .tup vs => (vs[i]?).map fun v => (v, H)
    | _ => none
  | .len x => match opv F x with
    | .sl _ n _ => some (.int .i64 n, H)
    | .own _ _ _ n _ => some (.int .i64 n, H)
    | _ => none
  | .cap x => match opv F x with
    | .sl true _ _ => some (.int .i64 0, H)
    | _ => none
  | .aeq neg n x y => match opv F x, opv F y with
    | .agg cs, .agg ds => if cs.length = n then (xIB cs ds).map fun b => (.bool (b != neg), H) else none
    | _, _ => none
  | .append fz es bytes x y => match src H es (opv F y) with
    | none => none
    | some (m, ys) => match opv F x with
      | .sl true _ _ => if m * bytes ≤ xHW ∧ m ≤ xHW then xKx fz (m == 0) m es ys H else none
      | .own z id off n es' => match H[id]? with
        | some (.cells false _ cs) => if off = 0 ∧ es' = es ∧ n * es ≤ cs.length ∧ (n + m) * bytes ≤ xHW ∧ n + m ≤ xHW then
            some (.own (z && m == 0) H.length 0 (n + m) es, H.set id .dead ++ [.cells false (z && m == 0) (cs.take (n * es) ++ ys)]) else none
        | _ => none
      | _ => none
  | .appendz z bytes x n => match xJe (opv F n), opv F x with
    | some m, .sl true _ _ => if m * bytes ≤ xHW ∧ m ≤ xHW ∧ z.all AV.isCell = true then xKx false (m == 0) m z.length (xIV z m) H else none
    | _, _ => none
  | .copy _ _ _ => none
  | .maxi x y => match opv F x, opv F y with
    | .int k a, .int _ b => some (.int k (if b > a then b else a), H)
    | _, _ => none
  | .mini x y => match opv F x, opv F y with
    | .int k a, .int _ b => some (.int k (if b < a then b else a), H)
    | _, _ => none
  | .call f args => xHQ R f (args.map (opv F)) H
  | .icall f args => R.icall (opv F f) (args.map (opv F)) H
  | .fcall f args => match opv F f with
    | .func g caps => xHQ R g (args.map (opv F) ++ caps) H
    | _ => none
  | .ocall f args => match (args.map (opv F)).mapM (frz xGb H) with
    | none => none
    | some args' => match xIK R f args' with
      | none => none
      | some (v, B) => some (xHC H.length v, xFF H ((args.map (opv F)).flatMap (bor xGb H)) ++ B)

def xIr (F : List AV) : Option (Nat × Bool) → Option Bool
  | none => some true
  | some (s, w) => match F.getD s .any with
    | .bool b => some (b == w)
    | .any => none
    | _ => some false

def xHG (R : Rec) (o : AOper) (s : St) : Option St :=
  match xIr s.F o.guard with
  | none => none
  | some false => some ⟨xIY s.F o.dst (.tup []), s.H⟩
  | some true => (xBw R s.F s.H o.op).map fun (v, H) => ⟨xIY s.F o.dst v, H⟩

def xHn (R : Rec) : List AOper → St → Option St
  | [], s => some s
  | o :: rest, s => match xHG R o s with
    | none => none
    | some s' => xHn R rest s'

def xBv (r : AV) (H : Heap) (args : List AV) : Bool := xGG r || (args.flatMap (bor xGb H)).isEmpty

def xGa (R : Rec) (F : List AV) (H : Heap) : AOp → Option AV
  | .call f args => match xHQ R f (args.map (opv F)) H with
    | some (r, _) => if xBv r H (args.map (opv F)) then some r else none
    | none => none
  | .fcall f args => match opv F f with
    | .func g caps => match xHQ R g (args.map (opv F) ++ caps) H with
      | some (r, _) => if xBv r H (args.map (opv F) ++ caps) then some r else none
      | none => none
    | _ => none
  | .append true es bytes x y => match opv F x with
    | .sl _ _ _ => (xBw R F H (.append true es bytes x y)).map (·.1)
    | _ => none
  | .box (.c v) => if v.cells.all AV.isCell then some .any else none
  | .bslice false .. | .append false .. | .mkslice false .. | .appendz .. | .copy .. | .icall .. | .store .. | .box .. | .ocall .. => none
  | op => (xBw R F H op).map (·.1)

def xHo (R : Rec) (o : AOper) (s : St) : Option St :=
  match xIr s.F o.guard with
  | none => none
  | some false => some ⟨xIY s.F o.dst (.tup []), s.H⟩
  | some true => (xGa R s.F s.H o.op).map fun v => ⟨xIY s.F o.dst v, s.H⟩

def xHK (R : Rec) : List AOper → St → Option St
  | [], s => some s
  | o :: rest, s => match xHo R o s with
    | none => none
    | some s' => xHK R rest s'

def xCA : AOp → Nat → Option (AV × List AV)
  | .box (.c v), id => some (.ptr id 0, v.cells)
  | _, _ => none

def xLe (op : AOp) : Bool := (xCA op 0).isSome

def xFD : List AOper → St → St
  | [], s => s
  | o :: rest, s => match xCA o.op s.H.length with
    | some (v, cs) => xFD rest ⟨xIY s.F o.dst v, s.H ++ [.cells false false cs]⟩
    | none => xFD rest s

def xGZ (p : AV) (n : Nat) (q : AV) (k : Nat) : Bool := match p, q with
  | .ptr i a, .ptr j b => i != j || decide (a + n ≤ b) || decide (b + k ≤ a)
  | .vptr _ _, .ptr _ _ => true
  | _, _ => false

def apart (F : List AV) (l : Nat × Nat × Nat × Nat) : Bool := xGZ (F.getD l.1 .any) l.2.1 (F.getD l.2.2.1 .any) l.2.2.2

def xGC : AOp → Bool
  | .box _ | .mkslice false .. | .bslice false .. | .append false .. | .appendz .. | .ocall .. => true
  | _ => false

def AOp.args : AOp → List Arg
  | .mov x | .box x | .nilchk x | .isnil _ x | .un _ x | .conv _ x | .faddr _ x | .field _ _ _ x | .ext _ x | .len x | .cap x | .load _ _ x => [x]
  | .pick c a b => [c, a, b]
  | .build _ parts => parts.map (·.2.2)
  | .bslice _ _ _ _ parts => parts.map (·.2)
  | .store _ p v => [p, v]
  | .bin _ x y | .beq _ x y | .aeq _ _ x y | .maxi x y | .mini x y | .copy _ x y | .iaddr _ x y | .append _ _ _ x y | .appendz _ _ x y | .mkslice _ _ _ x y => [x, y]
  | .mkfunc _ caps => caps
  | .slice _ x lo hi mx => x :: (lo.toList ++ hi.toList ++ mx.toList)
  | .call _ args | .ocall _ args => args
  | .icall f args | .fcall f args => f :: args

def xHZ : AV → Bool
  | .agg cs => cs.all xHz
  | v => xHz v

def xJg (B : List Blk) : Bool := B.all fun b => match b with
  | .cells false _ cs => cs.all xHz
  | _ => false

def xJF : AV → Bool
  | .ptr _ _ | .own .. => true
  | v => xHz v
def xJG : AV → Bool
  | .agg cs => cs.all xJF
  | v => xJF v
def xJ5 : AV → Bool
  | .tup vs => vs.all xJG
  | v => xJG v

def xID (R : Rec) (F : List AV) (op : AOp) : Option (AV × List Blk) :=
  if op.args.all (fun x => xHZ (opv F x)) = true then match xBw R F [] op with
    | some (v, B) => if xJ5 v = true ∧ xJg B = true then some (v, B) else none
    | none => none
  else none

abbrev Pr := Option (Nat × AV × List Blk)

def xG9 (R : Rec) : List AOper → St → Option (St × List Pr)
  | [], s => some (s, [])
  | o :: rest, s => if xGC o.op = true then (match o.dst, xID R s.F o.op with
      | some t, some (v, B) => (xG9 R rest ⟨s.F.set t .any, s.H⟩).map fun (s', l) => (s', some (t, v, B) :: l)
      | _, _ => none)
    else match xHo R o s with
      | none => none
      | some s1 => (xG9 R rest s1).map fun (s', l) => (s', none :: l)

def xGc : List Pr → St → St
  | [], s => s
  | none :: r, s => xGc r s
  | some (t, v, B) :: r, s => xGc r ⟨s.F.set t (xHC s.H.length v), s.H ++ B⟩

def xF9 (scr : List Nat) (F : List AV) : List AV := scr.foldl (fun F i => F.set i .any) F

def run (R : Rec) : ACode → St → Option (AExit × St)
  | .skip, s => some (.normal, s)
  | .label, s => some (.normal, s)
  | .region ops, s => (xHn R ops s).map fun s' => (.normal, s')
  | .draw m ops, s => match xHK R (ops.take m) s with
    | none => none
    | some s1 => (xHn R (ops.drop m) (xFD (ops.take m) s1)).map fun s' => (.normal, s')
  | .drawl ls m ops, s => match xHK R (ops.take m) s with
    | none => none
    | some s1 => match xHn R (ops.drop m) (xFD (ops.take m) s1) with
      | some s' => if ls.all (apart s'.F) then some (.normal, s') else none
      | none => none
  | .drawp ls m ops, s => match xG9 R (ops.take m) s with
    | none => none
    | some (s1, pl) => match xHn R (ops.drop m) (xGc pl s1) with
      | some s' => if ls.all (apart s'.F) then some (.normal, s') else none
      | none => none
  | .seq a b, s => match run R a s with
    | some (.normal, s') => run R b s'
    | r => r
  | .cond c a b, s => match opv s.F c with
    | .bool t => if t then run R a s else run R b s
    | _ => none
  | .block id b, s => match run R b s with
    | some (.exit i, s') => if i = id then some (.normal, s') else some (.exit i, s')
    | r => r
  | .loop scr b, s => R.loop scr b s
  | .range f ps asg body, s =>
    match opv s.F f with
    | .func g caps => match R.icall (.func g caps) [.yield s.H.length] (s.H ++ [.loop 0 none s.F ps asg body]) with
      | some (_, H') => match H'[s.H.length]? with
        | some (.loop st pend _ _ _ _) => if st = 1 then none else some ((match pend with | none => .normal | some e => e), ⟨s.F, H'.set s.H.length .dead⟩)
        | _ => none
      | none => none
    | _ => none
  | .exit id, s => some (.exit id, s)
  | .scope b, s => run R b s
  | .ret, s => some (.ret, s)
  | .stuck, _ => none

def xQC (s : St) : ARes → Option AV
  | .tmp t => some (s.F.getD t .any)
  | .cell t g n => match rd s.H (s.F.getD t .any) n with
    | some cs => mkv g cs
    | none => none

def xPe (s : St) : List ARes → Option (List AV)
  | [] => some []
  | r :: rs => match xQC s r with
    | none => none
    | some v => (xPe s rs).map (v :: ·)

def xHS (rs : List ARes) (s : St) : Option AV :=
  match rs with
  | [r] => xQC s r
  | rs => (xPe s rs).map .tup

def xQD (fn : AFunc) (args : List AV) (H : Heap) : St := ⟨args ++ List.replicate (fn.ntmps - args.length) (.tup []), H⟩

def xF8 (R : Rec) (fn : AFunc) (args : List AV) (H : Heap) : Option (AV × Heap) :=
  match run R fn.code (xQD fn args H) with
  | some (.normal, s) | some (.ret, s) => (xHS fn.results s).map fun v => (v, s.H)
  | _ => none

def ACode.noRange : ACode → Bool
  | .range .. => false
  | .seq a b | .cond _ a b => a.noRange && b.noRange
  | .block _ b | .loop _ b | .scope b => b.noRange
  | _ => true

def xJ0 (R : Rec) (l : Nat) (args : List AV) (H : Heap) : Option (AV × Heap) :=
  match H[l]? with
  | some (.loop 0 _ F ps asg body) =>
    if args.length = ps.length ∧ asg.noRange = true ∧ body.noRange = true then
      match run R asg ⟨(ps.zip args).foldl (fun F (p, v) => F.set p v) F, H⟩ with
      | some (.normal, s1) => match s1.H[l]? with
        | some (.loop 0 pend1 F1 ps1 asg1 body1) => match run R body ⟨s1.F, s1.H.set l (.loop 1 pend1 F1 ps1 asg1 body1)⟩ with
          | some (e, s2) => match s2.H[l]? with
            | some (.loop 1 _ F2 ps2 asg2 body2) => some (match e with
              | .normal => (.bool true, s2.H.set l (.loop 0 none F2 ps2 asg2 body2))
              | e => (.bool false, s2.H.set l (.loop 2 (some e) F2 ps2 asg2 body2)))
            | _ => none
          | none => none
        | _ => none
      | _ => none
    else none
  | _ => none

def Rec.none : Rec := ⟨fun _ _ => Option.none, fun _ _ _ => Option.none, fun _ _ _ => Option.none⟩

def xFU (R : Rec) (fn : AFunc) (args : List AV) : Option AV :=
  match xF8 R fn args [] with
  | some (r, H') => frz xGb H' r
  | none => Option.none

def xJh (prog : Nat → Option AFunc) (R : Rec) (f : AV) (args : List AV) (H : Heap) : Option (AV × Heap) :=
  match f with
  | .func f caps => match prog f with
    | some fn => xF8 R fn (args ++ caps) H
    | none => Option.none
  | .yield l => xJ0 R l args H
  | _ => Option.none

def xLv (R : Rec) (scr : List Nat) (b : ACode) (s : St) : Option (AExit × St) :=
  match run R b ⟨xF9 scr s.F, s.H⟩ with
  | some (.normal, s') => R.loop scr b s'
  | some (e, s') => some (e, ⟨xF9 scr s'.F, s'.H⟩)
  | none => none

def xJi (prog : Nat → Option AFunc) (R : Rec) : Rec where
  pcall f args := match prog f with
    | some fn => xFU R fn args
    | none => Option.none
  icall := xJh prog R
  loop := xLv R

def fix (prog : Nat → Option AFunc) : Nat → Rec
  | 0 => Rec.none
  | n + 1 => xJi prog (fix prog n)

end Go.Abs
