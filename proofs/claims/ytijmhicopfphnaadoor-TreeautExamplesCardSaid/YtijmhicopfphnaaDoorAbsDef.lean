/- An interpreter on abstract values for the code of the model: slices that nobody xGE any more are lists; what is still written lies in a small heap of its own. -/
import GoSem.Core.Code
import GoSem.Core.View
namespace Go.Abs
set_option linter.unusedVariables false
set_option linter.unusedSimpArgs false
inductive AV where
 | any
 | int (k : IntKind) (n : Int)
 | bool (b : Bool)
 | str (s : ByteArray)
 | ptr (id off : Nat)
 | vptr (cs : List AV) (off : Nat)
 | nilp
 | sl (z : Bool) (n : Nat) (cs : List AV)
 | own (z : Bool) (id off n es : Nat)
 | func (f : Nat) (caps : List AV)
 | bfunc (f : Nat) (first : List AV)
 | yield (l : Nat)
 | nilf
 | mp (id : Nat)
 | nilm
 | agg (cs : List AV)
 | tup (vs : List AV)
 deriving Inhabited
def AV.isCell : AV → Bool
 | .any | .agg _ | .tup _ => false
 | _ => true
def AV.cells : AV → List AV
 | .agg cs => cs
 | v => [v]
inductive Arg where
 | t (i : Nat)
 | c (v : AV)
 deriving Inhabited
inductive AOp where
 | mov (x : Arg)
 | pick (c a b : Arg)
 | box (x : Arg)
 | build (z : List AV) (parts : List (Nat × Nat × Arg))
 | bslice (fz : Bool) (z : List AV) (es n : Nat) (parts : List (Nat × Arg))
 | dslice (z : List AV) (es n : Nat) (parts : List (Nat × Arg))
 | load (g : Bool) (n : Nat) (p : Arg)
 | store (n : Nat) (p v : Arg)
 | nilchk (x : Arg)
 | bin (op : BinOp) (x y : Arg)
 | beq (neg : Bool) (x y : Arg)
 | isnil (neg : Bool) (x : Arg)
 | un (op : UnOp) (x : Arg)
 | conv (k : IntKind) (x : Arg)
 | mkfunc (f : Nat) (caps : List Arg)
 | mkslice (fz : Bool) (z : List AV) (bytes : Nat) (len cap : Arg)
 | slice (es : Nat) (x : Arg) (lo hi mx : Option Arg)
 | faddr (off : Nat) (x : Arg)
 | field (g : Bool) (off n : Nat) (x : Arg)
 | iaddr (es : Nat) (x i : Arg)
 | ext (i : Nat) (x : Arg)
 | len (x : Arg)
 | cap (x : Arg)
 | aeq (neg : Bool) (n : Nat) (x y : Arg)
 | append (fz : Bool) (es bytes : Nat) (x y : Arg)
 | appendz (z : List AV) (bytes : Nat) (x n : Arg)
 | appendh (es bytes : Nat) (x y : Arg)
 | copy (es : Nat) (x y : Arg)
 | maxi (x y : Arg)
 | mini (x y : Arg)
 | call (f : Nat) (args : List Arg)
 | icall (f : Arg) (args : List Arg)
 | fcall (f : Arg) (args : List Arg)
 | ocall (f : Nat) (args : List Arg)
 | ocallw (f : Nat) (args : List Arg)
 | ofcall (f : Arg) (args : List Arg)
 | idx (g : Bool) (es len : Nat) (x i : Arg)
 | arrat (es len : Nat) (x i : Arg)
 | garr (b es len : Nat) (i : Arg)
 | sidx (x i : Arg)
 | slen (x : Arg)
 | mm (mx : Bool) (xs : List Arg)
 | sslice (x : Arg) (lo hi : Option Arg)
 | sbeq (neg : Bool) (x y : Arg)
 | mkbound (f : Nat) (first : List Arg)
 | bcall (f : Arg) (args : List Arg)
 | mkmap
 | mlook (ks : List Nat) (comma : Bool) (z : AV) (x k : Arg)
 | mupd (ks : List Nat) (m k v : Arg)
 | ment (ks : List Nat) (z : AV) (m k : Arg)
 | mstore (m s v : Arg)
 | mlen (x : Arg)
 | mnil (neg : Bool) (x : Arg)
 | pnil (neg : Bool) (x : Arg)
 | sbytes (fz : Bool) (x : Arg)
 | bstr (x : Arg)
 | sadd (x y : Arg)
 deriving Inhabited
structure AOper where
 dst : Option Nat
 op : AOp
 guard : Option (Nat × Bool)
 deriving Inhabited
inductive AExit where
 | normal
 | exit (id : Nat)
 | ret
 deriving DecidableEq,Inhabited
inductive ACode where
 | skip
 | region (ops : List AOper)
 | draw (m : Nat) (ops : List AOper)
 | drawl (ls : List (Nat × Nat × Nat × Nat)) (m : Nat) (ops : List AOper)
 | drawp (als : List (Nat × Nat)) (ls : List (Nat × Nat × Nat × Nat)) (m : Nat) (ops : List AOper)
 | drawh (hs : List (Nat × Nat × Nat)) (als : List (Nat × Nat)) (ls : List (Nat × Nat × Nat × Nat)) (m : Nat) (ops : List AOper)
 | drawt (σ : List Nat) (als : List (Nat × Nat)) (ls : List (Nat × Nat × Nat × Nat)) (m : Nat) (ops : List AOper)
 | hole (b : ACode)
 | fz (ss : List Nat) (b : ACode)
 | fzs (i : Nat) (b : ACode)
 | seq (a b : ACode)
 | cond (c : Arg) (a b : ACode)
 | block (id : Nat) (b : ACode)
 | loop (scr : List Nat) (b : ACode)
 | range (f : Arg) (ps : List Nat) (asg body : ACode)
 | exit (id : Nat)
 | scope (b : ACode)
 | label
 | ret
 | stuck
 deriving Inhabited
inductive Blk where
 | dead
 | cells (fz z : Bool) (cs : List AV)
 | mp (es : List (AV × AV))
 | loop (state : Nat) (pend : Option AExit) (F : List AV) (ps : List Nat) (asg body : ACode)
 deriving Inhabited
def xVE : Nat → Option (List AV) := fun _ => none
def yCE : Nat → Option (List AV → Option AV) := fun _ => none
def primA (f : Nat) (args : List AV) : Option AV := match yCE f with
 | some g => g args
 | none => none
abbrev Heap := List Blk
structure St where
 F : List AV
 H : Heap
inductive ARes where
 | tmp (t : Nat)
 | cell (t : Nat) (g : Bool) (n : Nat)
structure AFunc where
 ntmps : Nat
 code : ACode
 results : List ARes
def opv (F : List AV) : Arg → AV
 | .t i => F.getD i .any
 | .c v => v
def putA (F : List AV) : Option Nat → AV → List AV
 | some d,v => F.set d v
 | none,_ => F
def rd (H : Heap) (p : AV) (n : Nat) : Option (List AV) :=
 match p with
 | .ptr id off => match H[id]? with
  | some (.cells _ _ cs) => if off + n ≤ cs.length then some ((cs.drop off).take n) else none
  | _ => none
 | .vptr cs off => if off + n ≤ cs.length then some ((cs.drop off).take n) else none
 | _ => none
def splice (cs : List AV) (off : Nat) (vs : List AV) : List AV := cs.take off ++ vs ++ cs.drop (off + vs.length)
def wr (H : Heap) (p : AV) (vs : List AV) : Option Heap :=
 match p with
 | .ptr id off => match H[id]? with
  | some (.cells false z cs) => if off + vs.length ≤ cs.length ∧ vs.all AV.isCell = true then some (H.set id (.cells false z (splice cs off vs))) else none
  | _ => none
 | _ => none
def mkv (g : Bool) (cs : List AV) : Option AV :=
 if g then some (.agg cs) else match cs with
  | [v] => some v
  | _ => none
def src (H : Heap) (es : Nat) : AV → Option (Nat × List AV)
 | .sl _ n cs => if cs.length = n * es then some (n,cs) else none
 | .own _ id off n es' => match H[id]? with
  | some (.cells _ _ cs) => if es' = es ∧ off + n * es ≤ cs.length then some (n,(cs.drop off).take (n * es)) else none
  | _ => none
 | _ => none
def frz : Nat → Heap → AV → Option AV
 | _,_,.any => some .any
 | _,_,.int k n => some (.int k n)
 | _,_,.bool b => some (.bool b)
 | _,_,.str s => some (.str s)
 | _,_,.nilp => some .nilp
 | _,_,.nilf => some .nilf
 | _,_,.func f [] => some (.func f [])
 | _,_,.sl z n cs => some (.sl z n cs)
 | d + 1,H,.own z id off n es => match H[id]? with
  | some (.cells _ _ cs) => if off + n * es ≤ cs.length then (((cs.drop off).take (n * es)).mapM (frz d H)).map (AV.sl z n) else none
  | _ => none
 | d + 1,H,.ptr id off => match H[id]? with
  | some (.cells _ _ cs) => (cs.mapM (frz d H)).map fun cs' => .vptr cs' off
  | _ => none
 | _,_,.vptr cs off => some (.vptr cs off)
 | d + 1,H,.agg cs => (cs.mapM (frz d H)).map AV.agg
 | d + 1,H,.tup cs => (cs.mapM (frz d H)).map AV.tup
 | _,_,_ => none
def bor : Nat → Heap → AV → List Nat
 | d + 1,H,.own _ id off n es => id :: (match H[id]? with
  | some (.cells _ _ cs) => ((cs.drop off).take (n * es)).flatMap (bor d H)
  | _ => [])
 | d + 1,H,.ptr id _ => id :: (match H[id]? with
  | some (.cells _ _ cs) => cs.flatMap (bor d H)
  | _ => [])
 | d + 1,H,.agg cs => cs.flatMap (bor d H)
 | d + 1,H,.tup cs => cs.flatMap (bor d H)
 | _,_,_ => []
def xAJ : AV → Bool
 | .int _ _ | .bool _ | .str _ | .nilp | .nilf => true
 | _ => false
def xE0 : AV → Bool
 | .agg cs | .tup cs => cs.all xAJ
 | v => xAJ v
def xGg : Blk → Blk
 | .cells _ z cs => .cells true z cs
 | b => b
def fzIds (H : Heap) (ids : List Nat) : Heap := ids.foldl (fun H i => H.modify i xGg) H
def xK8 (op : BinOp) (k : IntKind) (x y : Int) : Int :=
 let a := BitVec.ofInt k.bits x
 let b := BitVec.ofInt k.bits y
 k.wrap (match op with
  | .and => (a &&& b).toNat
  | .or => (a ||| b).toNat
  | .xor => (a ^^^ b).toNat
  | _ => (a &&& ~~~b).toNat)
def xKt (op : BinOp) : AV → AV → Option AV
 | .int k a,.int k' b => match op with
  | .shl => if b < 0 then none else some (.int k (k.wrap (a * 2 ^ (min b.toNat k.bits))))
  | .shr => if b < 0 then none else some (.int k (a.fdiv (2 ^ (min b.toNat k.bits))))
  | .add => if k = k' then some (.int k (k.wrap (a + b))) else none
  | .sub => if k = k' then some (.int k (k.wrap (a - b))) else none
  | .mul => if k = k' then some (.int k (k.wrap (a * b))) else none
  | .quo => if k = k' ∧ b ≠ 0 then some (.int k (k.wrap (a.tdiv b))) else none
  | .rem => if k = k' ∧ b ≠ 0 then some (.int k (a.tmod b)) else none
  | .and | .or | .xor | .andNot => if k = k' then some (.int k (xK8 op k a b)) else none
  | .eql => if k = k' then some (.bool (a == b)) else none
  | .neq => if k = k' then some (.bool (a != b)) else none
  | .lss => if k = k' then some (.bool (decide (a < b))) else none
  | .leq => if k = k' then some (.bool (decide (a ≤ b))) else none
  | .gtr => if k = k' then some (.bool (decide (b < a))) else none
  | .geq => if k = k' then some (.bool (decide (b ≤ a))) else none
 | _,_ => none
def unA (op : UnOp) : AV → Option AV
 | .bool b => match op with
  | .not => some (.bool !b)
  | _ => none
 | .int k n => match op with
  | .neg => some (.int k (k.wrap (0 - n)))
  | .xor => some (.int k (xK8 .xor k (if k.signed then -1 else k.max) n))
  | _ => none
 | _ => none
def eq1 : AV → AV → Option Bool
 | .int k a,.int k' b => if k = k' then some (a == b) else none
 | _,_ => none
def xHC : List AV → List AV → Option Bool
 | [],[] => some true
 | x :: xs,y :: ys => match eq1 x y,xHC xs ys with
  | some b,some r => some (b && r)
  | _,_ => none
 | _,_ => none
def xGn : AV → Option Nat
 | .int _ n => if 0 ≤ n then some n.toNat else none
 | _ => none
def xGJ (n : Nat) (lo hi mx : Option AV) : Option (Nat × Nat) :=
 match (match hi with | none => (match mx with | none => some n | some _ => none) | some v => xGn v),
    (match lo with | none => some 0 | some v => xGn v) with
 | some h,some l => if l ≤ h ∧ h ≤ n then (match mx with
   | none => some (l,h)
   | some v => match xGn v with
    | some m => if h ≤ m ∧ m ≤ n then some (l,h) else none
    | none => none) else none
 | _,_ => none
def xFr : Nat := 140737488355328
def fillA : List AV → List (Nat × List AV) → Option (List AV)
 | cs,[] => some cs
 | cs,(off,vs) :: rest => if off + vs.length ≤ cs.length ∧ vs.all AV.isCell = true then fillA (splice cs off vs) rest else none
def xJf (z : List AV) : Nat → List AV
 | 0 => []
 | n + 1 => z ++ xJf z n
def yBs : AV → AV → Option Bool
 | .int k a,.int k' b => if k = k' then some (a == b) else none
 | .str s,.str t => some (s.data.toList == t.data.toList)
 | _,_ => none
def yBt : List AV → List AV → Option Bool
 | [],[] => some true
 | x :: xs,y :: ys => match yBs x y,yBt xs ys with
  | some b,some r => some (b && r)
  | _,_ => none
 | _,_ => none
def yCF : AV → AV → Option Bool
 | .agg cs,.agg ds => yBt cs ds
 | x,y => yBs x y
def yCG (k : AV) : List (AV × AV) → Option (Option AV)
 | [] => some none
 | (k',v) :: es => match yCF k k' with
  | some true => some (some v)
  | some false => yCG k es
  | none => none
def yF7 (k v : AV) : List (AV × AV) → Option (List (AV × AV))
 | [] => some [(k,v)]
 | (k',v') :: es => match yCF k k' with
  | some true => some ((k,v) :: es)
  | some false => (yF7 k v es).map ((k',v') :: ·)
  | none => none
def yCH (k z : AV) : List (AV × AV) → Nat → Option (AV × Nat × List (AV × AV))
 | [],i => some (z,i,[(k,z)])
 | (k',v') :: es,i => match yCF k k' with
  | some true => some (v',i,(k,v') :: es)
  | some false => (yCH k z es (i + 1)).map fun r => (r.1,r.2.1,(k',v') :: r.2.2)
  | none => none
def yCI : Nat → AV → Bool
 | 0,.int _ _ => true
 | 1,.str _ => true
 | _,_ => false
def xWK : List Nat → List AV → Bool
 | [],[] => true
 | k :: ks,c :: cs => yCI k c && xWK ks cs
 | _,_ => false
def xOT : List Nat → AV → Bool
 | [0],.int _ _ => true
 | [1],.str _ => true
 | 2 :: ks,.agg cs => xWK ks cs
 | _,_ => false
def yFI (H : Heap) : AV → Option (List (AV × AV))
 | .nilm => some []
 | .mp id => match H[id]? with
  | some (.mp es) => some es
  | _ => none
 | _ => none
def xOU (s : ByteArray) : List AV := s.data.toList.map fun b => .int .u8 b.toNat
def yCJ : List AV → Option (List UInt8)
 | [] => some []
 | .int .u8 n :: cs => (yCJ cs).map (UInt8.ofNat n.toNat :: ·)
 | _ => none
structure Rec where
 pcall : Nat → List AV → Option AV
 icall : AV → List AV → Heap → Option (AV × Heap)
 loop : List Nat → ACode → St → Option (AExit × St)
def frzN : Nat := 6
def xHG (R : Rec) (f : Nat) (args : List AV) (H : Heap) : Option (AV × Heap) :=
 match args.mapM (frz frzN H) with
 | none => none
 | some args' => match R.pcall f args' with
  | none => none
  | some r => some (r,if xE0 r then H else fzIds H (args.flatMap (bor frzN H)))
def xLr (fz z : Bool) (n es : Nat) (cs : List AV) (H : Heap) : Option (AV × Heap) :=
 if fz then (if (cs.flatMap (bor frzN H)).isEmpty then (cs.mapM (frz frzN H)).map fun cs' => (.sl z n cs',H) else none)
 else some (.own z H.length 0 n es,H ++ [.cells false z cs])
def xCJ (base : Nat) : AV → AV
 | .ptr id off => .ptr (base + id) off
 | .own z id off n es => .own z (base + id) off n es
 | v => v
def xD9 (base : Nat) : AV → AV
 | .agg cs => .agg (cs.map (xCJ base))
 | v => xCJ base v
def xCY (base : Nat) : AV → AV
 | .tup vs => .tup (vs.map (xD9 base))
 | v => xD9 base v
def xEb : AV → Bool
 | .int _ _ | .bool _ | .str _ | .nilp | .nilf | .sl _ _ _ | .func _ [] => true
 | _ => false
def xLB (H : Heap) (v : AV) (B : List (Nat × Blk)) : Option (AV × List (Nat × Blk)) := match v with
 | .own z id off n es => match B.findIdx? (fun p => p.1 == id) with
  | some k => some (.own z k off n es,B)
  | none => match H[id]? with
   | some (.cells false z' cs) => if cs.all xEb then some (.own z B.length off n es,B ++ [(id,.cells false z' cs)]) else none
   | _ => none
 | v => if xEb v then some (v,B) else none
def xNS (H : Heap) : List AV → List (Nat × Blk) → Option (List AV × List (Nat × Blk))
 | [],B => some ([],B)
 | v :: vs,B => match xLB H v B with
  | none => none
  | some (v',B') => (xNS H vs B').map fun (vs',B2) => (v' :: vs',B2)
def xMf (H : Heap) (v : AV) (B : List (Nat × Blk)) : Option (AV × List (Nat × Blk)) := match v with
 | .agg cs => if cs.all AV.isCell then (xNS H cs B).map fun (cs',B') => (.agg cs',B') else none
 | v => xLB H v B
def xK9 (H : Heap) : List AV → List (Nat × Blk) → Option (List AV × List (Nat × Blk))
 | [],B => some ([],B)
 | v :: vs,B => match xMf H v B with
  | none => none
  | some (v',B') => (xK9 H vs B').map fun (vs',B2) => (v' :: vs',B2)
def xJ2 (H : Heap) (v : AV) : Option (AV × List (Nat × Blk)) := match v with
 | .tup vs => (xK9 H vs []).map fun (vs',B) => (.tup vs',B)
 | v => xMf H v []
def xCG (R : Rec) (f : Nat) (args : List AV) : Option (AV × List Blk) := match R.icall (.func f []) args [] with
 | some (r,H') => (xJ2 H' r).map fun (v,B) => (v,B.map (·.2))
 | none => none
def xJD : AV → Bool
 | .ptr _ _ | .own .. => true
 | v => xEb v
def xJ3 : AV → Bool
 | .agg cs => cs.all xJD
 | v => xJD v
def xJ4 : AV → Bool
 | .tup vs => vs.all xJ3
 | v => xJ3 v
def xI0 (base : Nat) : Blk → Blk
 | .cells fz z cs => if cs.all xJD then .cells fz z (cs.map (xCJ base)) else .dead
 | _ => .dead
def xJi (R : Rec) (f : Nat) (args : List AV) : Option (AV × Heap) := match R.icall (.func f []) args [] with
 | some (r,H') => if xJ4 r = true then some (r,H') else none
 | none => none
def mmA (mx : Bool) : AV → List AV → Option AV
 | .int k a,[] => some (.int k a)
 | .int k a,.int _ b :: r => mmA mx (.int k (if mx then (if b > a then b else a) else (if b < a then b else a))) r
 | _,_ => none
def yGL (H : Heap) (es bytes : Nat) (xv yv : AV) : Option (Bool × Nat × List AV × Option Nat) := match src H es yv with
 | none => none
 | some (m,ys) => match xv with
  | .sl true _ _ => if m * bytes ≤ xFr ∧ m ≤ xFr then some (m == 0,m,ys,none) else none
  | .own z id off n es' => match H[id]? with
   | some (.cells false _ cs) => if off = 0 ∧ es' = es ∧ n * es ≤ cs.length ∧ (n + m) * bytes ≤ xFr ∧ n + m ≤ xFr then
     some (z && m == 0,n + m,cs.take (n * es) ++ ys,some id) else none
   | _ => none
  | _ => none
def yEx : Option Nat → Heap → Heap
 | none,H => H
 | some i,H => H.set i .dead
def yEy : Blk → Bool
 | .cells true true [] => true
 | _ => false
def xZL : Heap → Option Nat
 | [] => none
 | b :: H => match xZL H with
  | some i => some (i + 1)
  | none => if yEy b = true then some 0 else none
def xAc (R : Rec) (F : List AV) (H : Heap) : AOp → Option (AV × Heap)
 | .mov x => some (opv F x,H)
 | .pick c a b => match opv F c with
  | .bool t => some (if t then opv F a else opv F b,H)
  | _ => none
 | .box x => let cs := (opv F x).cells; if cs.all AV.isCell then some (.ptr H.length 0,H ++ [.cells false false cs]) else none
 | .build z parts =>
  (if parts.all (fun p => (opv F p.2.2).cells.length == p.2.1) then
   (fillA z (parts.map fun p => (p.1,(opv F p.2.2).cells))).map fun cs => (.agg cs,H) else none)
 | .bslice fz z es n parts =>
  (if parts.all (fun p => (opv F p.2).cells.length == es) then
   match fillA (xJf z n) (parts.map fun p => (p.1 * es,(opv F p.2).cells)) with
   | some cs => xLr fz false n es cs H
   | none => none
   else none)
 | .dslice z es n parts =>
  (if parts.all (fun p => (opv F p.2).cells.length == es) then
   match fillA (xJf z n) (parts.map fun p => (p.1 * es,(opv F p.2).cells)) with
   | some cs => if cs.all xEb = true then some (.sl false n cs,H) else none
   | none => none
   else none)
 | .load g n p => match rd H (opv F p) n with
  | some cs => (mkv g cs).map fun v => (v,H)
  | none => none
 | .store n p v => let cs := (opv F v).cells; if cs.length = n then (wr H (opv F p) cs).map fun H' => (.tup [],H') else none
 | .nilchk x => match opv F x with
  | .ptr id off => some (.ptr id off,H)
  | .vptr cs off => some (.vptr cs off,H)
  | .func f caps => some (.func f caps,H)
  | .yield l => some (.yield l,H)
  | _ => none
 | .bin op x y => (xKt op (opv F x) (opv F y)).map fun v => (v,H)
 | .beq neg x y => match opv F x,opv F y with
  | .bool a,.bool b => some (.bool (if neg then a != b else a == b),H)
  | _,_ => none
 | .isnil neg x => match opv F x with
  | .sl z _ _ => some (.bool (z != neg),H)
  | .own z _ _ _ _ => some (.bool (z != neg),H)
  | _ => none
 | .un op x => (unA op (opv F x)).map fun v => (v,H)
 | .conv k x => match opv F x with
  | .int _ n => some (.int k (k.wrap n),H)
  | _ => none
 | .mkfunc f caps => some (.func f (caps.map (opv F)),H)
 | .mkslice fz z bytes l c => match opv F l,opv F c with
  | .int _ l,.int _ c => if 0 ≤ l ∧ l ≤ c ∧ c * bytes ≤ xFr ∧ c ≤ xFr ∧ z.all AV.isCell = true then xLr fz false l.toNat z.length (xJf z l.toNat) H else none
  | _,_ => none
 | .slice es x lo hi mx => match opv F x with
  | .sl z n cs => if cs.length = n * es then (xGJ n (lo.map (opv F)) (hi.map (opv F)) (mx.map (opv F))).map fun (l,h) => (.sl z (h - l) ((cs.drop (l * es)).take ((h - l) * es)),H) else none
  | .own z id off n es' => if es' = es then (xGJ n (lo.map (opv F)) (hi.map (opv F)) (mx.map (opv F))).map fun (l,h) => (.own z id (off + l * es) (h - l) es,H) else none
  | _ => none
 | .faddr o x => match opv F x with
  | .ptr id off => some (.ptr id (off + o),H)
  | .vptr cs off => some (.vptr cs (off + o),H)
  | _ => none
 | .field g off n x => match opv F x with
  | .agg cs => if off + n ≤ cs.length then (mkv g ((cs.drop off).take n)).map fun v => (v,H) else none
  | _ => none
 | .iaddr es x i => match opv F x,xGn (opv F i) with
  | .sl _ n cs,some i => if i < n then some (.vptr cs (i * es),H) else none
  | .own _ id off n es',some i => if i < n ∧ es' = es then some (.ptr id (off + i * es),H) else none
  | _,_ => none
 | .ext i x => match opv F x with
  | .tup vs => (vs[i]?).map fun v => (v,H)
  | _ => none
 | .len x => match opv F x with
  | .sl _ n _ => some (.int .i64 n,H)
  | .own _ _ _ n _ => some (.int .i64 n,H)
  | _ => none
 | .cap x => match opv F x with
  | .sl true _ _ => some (.int .i64 0,H)
  | _ => none
 | .aeq neg n x y => match opv F x,opv F y with
  | .agg cs,.agg ds => if cs.length = n then (xHC cs ds).map fun b => (.bool (b != neg),H) else none
  | _,_ => none
 | .append fz es bytes x y => match src H es (opv F y) with
  | none => none
  | some (m,ys) => match opv F x with
   | .sl true _ _ => if m * bytes ≤ xFr ∧ m ≤ xFr then xLr fz (m == 0) m es ys H else none
   | .own z id off n es' => match H[id]? with
    | some (.cells false _ cs) => if off = 0 ∧ es' = es ∧ n * es ≤ cs.length ∧ (n + m) * bytes ≤ xFr ∧ n + m ≤ xFr then
      some (.own (z && m == 0) H.length 0 (n + m) es,H.set id .dead ++ [.cells false (z && m == 0) (cs.take (n * es) ++ ys)]) else none
    | _ => none
   | _ => none
 | .appendz z bytes x n => match xGn (opv F n),opv F x with
  | some m,.sl true _ _ => if m * bytes ≤ xFr ∧ m ≤ xFr ∧ z.all AV.isCell = true then xLr false (m == 0) m z.length (xJf z m) H else none
  | some m,.own false id off k es' => match H[id]? with
   | some (.cells false _ cs) => if off = 0 ∧ es' = z.length ∧ k * z.length ≤ cs.length ∧ (k + m) * bytes ≤ xFr ∧ k + m ≤ xFr ∧ 0 < m ∧ z.all AV.isCell = true then
     some (.own false H.length 0 (k + m) z.length,H.set id .dead ++ [.cells false false (cs.take (k * z.length) ++ xJf z m)]) else none
   | _ => none
  | _,_ => none
 | .appendh es bytes x y => match xZL H with
  | none => none
  | some h => (yGL H es bytes (opv F x) (opv F y)).map fun r => (.own r.1 h 0 r.2.1 es,(yEx r.2.2.2 H).set h (.cells false r.1 r.2.2.1))
 | .copy _ _ _ => none
 | .maxi x y => match opv F x,opv F y with
  | .int k a,.int _ b => some (.int k (if b > a then b else a),H)
  | _,_ => none
 | .mini x y => match opv F x,opv F y with
  | .int k a,.int _ b => some (.int k (if b < a then b else a),H)
  | _,_ => none
 | .call f args => xHG R f (args.map (opv F)) H
 | .icall f args => R.icall (opv F f) (args.map (opv F)) H
 | .fcall f args => match opv F f with
  | .func g caps => xHG R g (args.map (opv F) ++ caps) H
  | _ => none
 | .idx g es len x i => match opv F x,xGn (opv F i) with
  | .agg cs,some j => if j < len ∧ j * es + es ≤ cs.length then (mkv g ((cs.drop (j * es)).take es)).map fun v => (v,H) else none
  | _,_ => none
 | .arrat es len x i => match opv F x,xGn (opv F i) with
  | .ptr id off,some j => if j < len then some (.ptr id (off + j * es),H) else none
  | .vptr cs off,some j => if j < len then some (.vptr cs (off + j * es),H) else none
  | _,_ => none
 | .garr b es len i => match xVE b,xGn (opv F i) with
  | some cs,some j => if j < len then some (.vptr cs (j * es),H) else none
  | _,_ => none
 | .sidx x i => match opv F x,xGn (opv F i) with
  | .str s,some j => (s[j]?).map fun b => (.int .u8 b.toNat,H)
  | _,_ => none
 | .slen x => match opv F x with
  | .str s => some (.int .i64 s.size,H)
  | _ => none
 | .mm mx xs => match xs.map (opv F) with
  | [] => none
  | x :: r => (mmA mx x r).map fun v => (v,H)
 | .sslice x lo hi => match opv F x with
  | .str s => (xGJ s.size (lo.map (opv F)) (hi.map (opv F)) none).map fun (l,h) => (.str (s.extract l h),H)
  | _ => none
 | .sbeq neg x y => match opv F x,opv F y with
  | .str s,.str t => some (.bool ((s.toList == t.toList) != neg),H)
  | _,_ => none
 | .mkbound f first => some (.bfunc f (first.map (opv F)),H)
 | .bcall f args => match opv F f with
  | .bfunc g first => R.icall (.func g []) (first ++ args.map (opv F)) H
  | _ => none
 | .mkmap => some (.mp H.length,H ++ [.mp []])
 | .mlook ks comma z x k => if xOT ks (opv F k) then match yFI H (opv F x) with
  | none => none
  | some es => match yCG (opv F k) es with
   | none => none
   | some none => some (if comma then .tup [z,.bool false] else z,H)
   | some (some v) => some (if comma then .tup [v,.bool true] else v,H)
  else none
 | .ment ks z m k => if xOT ks (opv F k) then match opv F m with
  | .mp id => match H[id]? with
   | some (.mp es) => (yCH (opv F k) z es 0).map fun r => (.tup [r.1,.int .i64 (r.2.1 : Nat)],H.set id (.mp r.2.2))
   | _ => none
  | _ => none
  else none
 | .mstore m s v => match opv F m,opv F s with
  | .mp id,.int .i64 n => match H[id]? with
   | some (.mp es) => if 0 ≤ n then (es[n.toNat]?).map fun e => (.tup [],H.set id (.mp (es.set n.toNat (e.1,opv F v)))) else none
   | _ => none
  | _,_ => none
 | .mupd ks m k v => if xOT ks (opv F k) then match opv F m with
  | .mp id => match H[id]? with
   | some (.mp es) => (yF7 (opv F k) (opv F v) es).map fun es' => (.tup [],H.set id (.mp es'))
   | _ => none
  | _ => none
  else none
 | .mlen x => (yFI H (opv F x)).map fun es => (.int .i64 es.length,H)
 | .mnil neg x => match opv F x with
  | .nilm => some (.bool (true != neg),H)
  | .mp _ => some (.bool (false != neg),H)
  | _ => none
 | .pnil neg x => match opv F x with
  | .ptr _ _ => some (.bool (false != neg),H)
  | .nilp => some (.bool (true != neg),H)
  | _ => none
 | .sbytes fz x => match opv F x with
  | .str s => xLr fz false s.size 1 (xOU s) H
  | _ => none
 | .bstr x => match src H 1 (opv F x) with
  | some (_,cs) => (yCJ cs).map fun bs => (.str ⟨⟨bs⟩⟩,H)
  | none => none
 | .sadd x y => match opv F x,opv F y with
  | .str s,.str t => if s.size + t.size ≤ 9223372036854775807 then some (.str ⟨⟨s.data.toList ++ t.data.toList⟩⟩,H) else none
  | _,_ => none
 | .ocall f args => match (args.map (opv F)).mapM (frz frzN H) with
  | none => none
  | some args' => match xCG R f args' with
   | none => none
   | some (v,B) => some (xCY H.length v,fzIds H ((args.map (opv F)).flatMap (bor frzN H)) ++ B)
 | .ofcall f args => match opv F f with
  | .func g caps => match (args.map (opv F) ++ caps).mapM (frz frzN H) with
   | none => none
   | some args' => match xCG R g args' with
    | none => none
    | some (v,B) => some (xCY H.length v,fzIds H ((args.map (opv F) ++ caps).flatMap (bor frzN H)) ++ B)
  | _ => none
 | .ocallw f args => match (args.map (opv F)).mapM (frz frzN H) with
  | none => none
  | some args' => match xJi R f args' with
   | none => none
   | some (v,B) => some (xCY H.length v,fzIds H ((args.map (opv F)).flatMap (bor frzN H)) ++ B.map (xI0 H.length))
def xH9 (F : List AV) : Option (Nat × Bool) → Option Bool
 | none => some true
 | some (s,w) => match F.getD s .any with
  | .bool b => some (b == w)
  | .any => none
  | _ => some false
def xEc (R : Rec) (o : AOper) (s : St) : Option St :=
 match xH9 s.F o.guard with
 | none => none
 | some false => some ⟨putA s.F o.dst (.tup []),s.H⟩
 | some true => (xAc R s.F s.H o.op).map fun (v,H) => ⟨putA s.F o.dst v,H⟩
def xBJ (R : Rec) : List AOper → St → Option St
 | [],s => some s
 | o :: rest,s => match xEc R o s with
  | none => none
  | some s' => xBJ R rest s'
def xMP (H : Heap) (i : Nat) : Bool := match H[i]? with
 | some (.cells true _ _) => true
 | _ => false
def quietCall (r : AV) (H : Heap) (args : List AV) : Bool := xE0 r || (args.flatMap (bor frzN H)).all (xMP H)
def xAO (R : Rec) (F : List AV) (H : Heap) : AOp → Option AV
 | .call f args => match xHG R f (args.map (opv F)) H with
  | some (r,_) => if quietCall r H (args.map (opv F)) then some r else none
  | none => none
 | .fcall f args => match opv F f with
  | .func g caps => match xHG R g (args.map (opv F) ++ caps) H with
   | some (r,_) => if quietCall r H (args.map (opv F) ++ caps) then some r else none
   | none => none
  | _ => none
 | .append true es bytes x y => match opv F x with
  | .sl _ _ _ => (xAc R F H (.append true es bytes x y)).map (·.1)
  | _ => none
 | .box (.c v) => if v.cells.all AV.isCell then some .any else none
 | .bslice false .. | .append false .. | .mkslice false .. | .appendz .. | .appendh .. | .copy .. | .icall .. | .bcall .. | .store .. | .box .. | .ocall .. | .ocallw .. | .ofcall .. | .mkmap | .mupd .. | .ment .. | .mstore .. | .sbytes false .. => none
 | op => (xAc R F H op).map (·.1)
def xCW (R : Rec) (o : AOper) (s : St) : Option St :=
 match xH9 s.F o.guard with
 | none => none
 | some false => some ⟨putA s.F o.dst (.tup []),s.H⟩
 | some true => (xAO R s.F s.H o.op).map fun v => ⟨putA s.F o.dst v,s.H⟩
def xGh (R : Rec) : List AOper → St → Option St
 | [],s => some s
 | o :: rest,s => match xCW R o s with
  | none => none
  | some s' => xGh R rest s'
def xAm : AOp → Nat → Option (AV × List AV)
 | .box (.c v),id => some (.ptr id 0,v.cells)
 | _,_ => none
def xNT (op : AOp) : Bool := (xAm op 0).isSome
def adopt : List AOper → St → St
 | [],s => s
 | o :: rest,s => match xAm o.op s.H.length with
  | some (v,cs) => adopt rest ⟨putA s.F o.dst v,s.H ++ [.cells false false cs]⟩
  | none => adopt rest s
def xMQ (p : AV) (n : Nat) (q : AV) (k : Nat) : Bool := match p,q with
 | .ptr i a,.ptr j b => i != j || decide (a + n ≤ b) || decide (b + k ≤ a)
 | .vptr _ _,.ptr _ _ => true
 | .ptr i _,.own _ j _ _ _ => i != j
 | .ptr _ _,.sl _ _ _ => true
 | .vptr _ _,.own .. => true
 | .vptr _ _,.sl _ _ _ => true
 | _,_ => false
def apart (F : List AV) (l : Nat × Nat × Nat × Nat) : Bool := xMQ (F.getD l.1 .any) l.2.1 (F.getD l.2.2.1 .any) l.2.2.2
def xBk : AOp → Bool
 | .box _ | .mkslice false .. | .bslice false .. | .append false .. | .appendz .. | .ocall .. | .ofcall .. => true
 | _ => false
def AOp.args : AOp → List Arg
 | .mov x | .box x | .nilchk x | .isnil _ x | .un _ x | .conv _ x | .faddr _ x | .field _ _ _ x | .ext _ x | .len x | .cap x | .load _ _ x | .slen x | .garr _ _ _ x | .mlen x | .mnil _ x | .pnil _ x | .sbytes _ x | .bstr x => [x]
 | .mkmap => []
 | .mlook _ _ _ x k | .sadd x k => [x,k]
 | .mupd _ m k v | .mstore m k v => [m,k,v]
 | .ment _ _ m k => [m,k]
 | .pick c a b => [c,a,b]
 | .build _ parts => parts.map (·.2.2)
 | .bslice _ _ _ _ parts | .dslice _ _ _ parts => parts.map (·.2)
 | .store _ p v => [p,v]
 | .bin _ x y | .beq _ x y | .aeq _ _ x y | .maxi x y | .mini x y | .copy _ x y | .iaddr _ x y | .append _ _ _ x y | .appendz _ _ x y | .appendh _ _ x y | .mkslice _ _ _ x y | .idx _ _ _ x y | .arrat _ _ x y | .sidx x y | .sbeq _ x y => [x,y]
 | .mkfunc _ caps => caps
 | .slice _ x lo hi mx => x :: (lo.toList ++ hi.toList ++ mx.toList)
 | .call _ args | .ocall _ args | .ocallw _ args | .mm _ args | .mkbound _ args => args
 | .sslice x lo hi => x :: (lo.toList ++ hi.toList)
 | .icall f args | .fcall f args | .bcall f args | .ofcall f args => f :: args
def yBu (H : Heap) : AV → Option AV
 | .func f caps => (caps.mapM (frz frzN H)).map (AV.func f)
 | v => frz frzN H v
def yEi (H : Heap) : AV → List Nat
 | .func _ caps => caps.flatMap (bor frzN H)
 | v => bor frzN H v
def yGM : AV → Bool
 | .vptr _ _ => true
 | v => xEb v
def xGO : AV → Bool
 | .agg cs => cs.all xEb
 | .func _ caps => caps.all yGM
 | v => xEb v
def xLa (B : List Blk) : Bool := B.all fun b => match b with
 | .cells false _ cs => cs.all xEb
 | _ => false
def xJn (R : Rec) (F : List AV) (op : AOp) : Option (AV × List Blk) :=
 if op.args.all (fun x => xGO (opv F x)) = true then match xAc R F [] op with
  | some (v,B) => if xJ4 v = true ∧ xLa B = true then some (v,B) else none
  | none => none
 else none
abbrev Pr := Option (Nat × AV × List Blk)
def xLb : AV → AV
 | .int k n => .int k n
 | .bool b => .bool b
 | _ => .any
def xIn : AV → AV
 | .tup vs => .tup (vs.map xLb)
 | _ => .any
def xZM : Nat → AV → AV
 | 0,v => v
 | i + 1,.tup vs => vs.getD i .any
 | _ + 1,_ => .any
def xA6 (R : Rec) : List AOper → St → Option (St × List Pr)
 | [],s => some (s,[])
 | o :: rest,s => if xBk o.op = true then (match o.dst,xJn R s.F o.op with
   | some t,some (v,B) => (xA6 R rest ⟨s.F.set t (xIn v),s.H⟩).map fun (s',l) => (s',some (t,v,B) :: l)
   | _,_ => none)
  else match xCW R o s with
   | none => none
   | some s1 => (xA6 R rest s1).map fun (s',l) => (s',none :: l)
def adoptL : List Pr → St → St
 | [],s => s
 | none :: r,s => adoptL r s
 | some (t,v,B) :: r,s => adoptL r ⟨s.F.set t (xCY s.H.length v),s.H ++ B⟩
def xHY : List (Nat × Nat) → List AV → List AV
 | [],F => F
 | (d,q) :: r,F => xHY r (F.set d (xZM (q / 4096) (F.getD (q % 4096) .any)))
def xGo (als : List (Nat × Nat)) (pl : List Pr) (s : St) : St := ⟨xHY als (adoptL pl s).F,(adoptL pl s).H⟩
def yCK : Nat → AV → AV → Bool
 | 0,_,_ => false
 | d + 1,a,b => match a,b with
  | .int k x,.int k' y => decide (k = k') && x == y
  | .bool x,.bool y => x == y
  | .nilp,.nilp => true
  | .nilf,.nilf => true
  | .ptr i o,.ptr j o' => i == j && o == o'
  | .own z i o n e,.own z' i' o' n' e' => z == z' && i == i' && o == o' && n == n' && e == e'
  | .sl z n cs,.sl z' n' cs' => z == z' && n == n' && cs.length == cs'.length && (cs.zip cs').all fun p => yCK d p.1 p.2
  | _,_ => false
def xWL (H H' : Heap) (p : AV) (n : Nat) : Bool := match rd H p n with
 | none => true
 | some cs => match rd H' p n with
  | none => false
  | some cs' => cs.length == cs'.length && (cs.zip cs').all fun p => yCK 4 p.1 p.2
def xLC (R : Rec) (hs : List (Nat × Nat × Nat)) : Nat → List AOper → St → Bool
 | _,[],_ => true
 | k,o :: rest,s => match xEc R o s with
  | none => true
  | some s' => (hs.all fun h => h.2.2 != k || xWL s.H s'.H (s.F.getD h.1 .any) h.2.1) && xLC R hs (k + 1) rest s'
def xVF : AV → Option Nat
 | .own _ id _ _ _ => some id
 | _ => none
def yCL : Arg → Nat → Bool
 | .t i,d => i != d
 | .c _,_ => true
def yF8 : List AOper → St → Bool
 | ⟨some d1,.appendh es1 b1 x1 y1,none⟩ :: ⟨some d2,.append false es2 b2 x2 y2,none⟩ :: _,s =>
  d1 != d2 && yCL x2 d1 && yCL y2 d1 && yCL x1 d2 && yCL y1 d2 &&
  (match xZL s.H with
   | none => false
   | some h => [x1,y1,x2,y2].all (fun x => xVF (opv s.F x) != some h) &&
    (match xVF (opv s.F x1) with
    | none => true
    | some i => xVF (opv s.F x2) != some i && xVF (opv s.F y2) != some i) &&
    (match xVF (opv s.F x2) with
    | none => true
    | some i => xVF (opv s.F y1) != some i))
 | _,_ => false
def xAH (scr : List Nat) (F : List AV) : List AV := scr.foldl (fun F i => F.set i .any) F
def run (R : Rec) : ACode → St → Option (AExit × St)
 | .skip,s => some (.normal,s)
 | .label,s => some (.normal,s)
 | .region ops,s => (xBJ R ops s).map fun s' => (.normal,s')
 | .draw m ops,s => match xGh R (ops.take m) s with
  | none => none
  | some s1 => (xBJ R (ops.drop m) (adopt (ops.take m) s1)).map fun s' => (.normal,s')
 | .drawl ls m ops,s => match xGh R (ops.take m) s with
  | none => none
  | some s1 => match xBJ R (ops.drop m) (adopt (ops.take m) s1) with
   | some s' => if ls.all (apart s'.F) then some (.normal,s') else none
   | none => none
 | .drawp als ls m ops,s => match xA6 R (ops.take m) s with
  | none => none
  | some (s1,pl) => match xBJ R (ops.drop m) (xGo als pl s1) with
   | some s' => if ls.all (apart s'.F) then some (.normal,s') else none
   | none => none
 | .drawh hs als ls m ops,s => match xA6 R (ops.take m) s with
  | none => none
  | some (s1,pl) => match xBJ R (ops.drop m) (xGo als pl s1) with
   | some s' => if ls.all (apart s'.F) = true ∧ xLC R hs m (ops.drop m) (xGo als pl s1) = true then some (.normal,s') else none
   | none => none
 | .drawt _ als ls m ops,s => match xA6 R (ops.take m) s with
  | none => none
  | some (s1,pl) => if yF8 (ops.drop m) (xGo als pl s1) = true then (match xBJ R (ops.drop m) (xGo als pl s1) with
   | some s' => if ls.all (apart s'.F) then some (.normal,s') else none
   | none => none) else none
 | .hole b,s => run R b ⟨s.F,s.H ++ [.cells true true []]⟩
 | .fz ss b,s => run R b ⟨s.F,fzIds s.H (ss.flatMap fun i => bor frzN s.H (s.F.getD i .any))⟩
 | .fzs i b,s => match yBu s.H (s.F.getD i .any) with
  | some v => run R b ⟨s.F.set i v,fzIds s.H (yEi s.H (s.F.getD i .any))⟩
  | none => none
 | .seq a b,s => match run R a s with
  | some (.normal,s') => run R b s'
  | r => r
 | .cond c a b,s => match opv s.F c with
  | .bool t => if t then run R a s else run R b s
  | _ => none
 | .block id b,s => match run R b s with
  | some (.exit i,s') => if i = id then some (.normal,s') else some (.exit i,s')
  | r => r
 | .loop scr b,s => R.loop scr b s
 | .range f ps asg body,s =>
  match opv s.F f with
  | .func g caps => match R.icall (.func g caps) [.yield s.H.length] (s.H ++ [.loop 0 none s.F ps asg body]) with
   | some (_,H') => match H'[s.H.length]? with
    | some (.loop st pend _ _ _ _) => if st = 1 then none else some ((match pend with | none => .normal | some e => e),⟨s.F,H'.set s.H.length .dead⟩)
    | _ => none
   | none => none
  | _ => none
 | .exit id,s => some (.exit id,s)
 | .scope b,s => run R b s
 | .ret,s => some (.ret,s)
 | .stuck,_ => none
def xWM (s : St) : ARes → Option AV
 | .tmp t => some (s.F.getD t .any)
 | .cell t g n => match rd s.H (s.F.getD t .any) n with
  | some cs => mkv g cs
  | none => none
def xVG (s : St) : List ARes → Option (List AV)
 | [] => some []
 | r :: rs => match xWM s r with
  | none => none
  | some v => (xVG s rs).map (v :: ·)
def xHX (rs : List ARes) (s : St) : Option AV :=
 match rs with
 | [r] => xWM s r
 | rs => (xVG s rs).map .tup
def xQZ (fn : AFunc) (args : List AV) (H : Heap) : St := ⟨args ++ List.replicate (fn.ntmps - args.length) (.tup []),H⟩
def xGp (R : Rec) (fn : AFunc) (args : List AV) (H : Heap) : Option (AV × Heap) :=
 match run R fn.code (xQZ fn args H) with
 | some (.normal,s) | some (.ret,s) => (xHX fn.results s).map fun v => (v,s.H)
 | _ => none
def ACode.noRange : ACode → Bool
 | .range .. => false
 | .seq a b | .cond _ a b => a.noRange && b.noRange
 | .block _ b | .loop _ b | .scope b | .fz _ b | .fzs _ b | .hole b => b.noRange
 | _ => true
def xOV (R : Rec) (l : Nat) (args : List AV) (H : Heap) : Option (AV × Heap) :=
 match H[l]? with
 | some (.loop 0 _ F ps asg body) =>
  if args.length = ps.length ∧ asg.noRange = true ∧ body.noRange = true then
   match run R asg ⟨(ps.zip args).foldl (fun F (p,v) => F.set p v) F,H⟩ with
   | some (.normal,s1) => match s1.H[l]? with
    | some (.loop 0 pend1 F1 ps1 asg1 body1) => match run R body ⟨s1.F,s1.H.set l (.loop 1 pend1 F1 ps1 asg1 body1)⟩ with
     | some (e,s2) => match s2.H[l]? with
      | some (.loop 1 _ F2 ps2 asg2 body2) => some (match e with
       | .normal => (.bool true,s2.H.set l (.loop 0 none F2 ps2 asg2 body2))
       | e => (.bool false,s2.H.set l (.loop 2 (some e) F2 ps2 asg2 body2)))
      | _ => none
     | none => none
    | _ => none
   | _ => none
  else none
 | _ => none
def Rec.none : Rec := ⟨fun _ _ => Option.none,fun _ _ _ => Option.none,fun _ _ _ => Option.none⟩
def xBK (R : Rec) (fn : AFunc) (args : List AV) : Option AV :=
 match xGp R fn args [] with
 | some (r,H') => frz frzN H' r
 | none => Option.none
def xKd (prog : Nat → Option AFunc) (R : Rec) (f : AV) (args : List AV) (H : Heap) : Option (AV × Heap) :=
 match f with
 | .func f caps => match prog f with
  | some fn => xGp R fn (args ++ caps) H
  | none => Option.none
 | .yield l => xOV R l args H
 | _ => Option.none
def xNU (R : Rec) (scr : List Nat) (b : ACode) (s : St) : Option (AExit × St) :=
 match run R b ⟨xAH scr s.F,s.H⟩ with
 | some (.normal,s') => R.loop scr b s'
 | some (e,s') => some (e,⟨xAH scr s'.F,s'.H⟩)
 | none => none
def xJE (prog : Nat → Option AFunc) (R : Rec) : Rec where
 pcall f args := match prog f with
  | some fn => xBK R fn args
  | none => primA f args
 icall := xKd prog R
 loop := xNU R
def fix (prog : Nat → Option AFunc) : Nat → Rec
 | 0 => Rec.none
 | n + 1 => xJE prog (fix prog n)
end Go.Abs
