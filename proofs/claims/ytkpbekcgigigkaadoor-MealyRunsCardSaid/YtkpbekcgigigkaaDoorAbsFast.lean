/- The interpreter once more,its alternatives as functions of their own: what the kernel unfolds is small. -/
import Derived.Test.YtkpbekcgigigkaaDoorAbsOver
namespace Go.Abs
set_option linter.unusedVariables false
noncomputable def yAI (F : List AV) : Nat → AV := List.rec (motive := fun _ => Nat → AV) (fun _ => .any) (fun v _ ih n => Nat.casesOn (motive := fun _ => AV) n v ih) F
noncomputable def yBp (x : AV) (F : List AV) : Nat → List AV := List.rec (motive := fun _ => Nat → List AV) (fun _ => []) (fun v F ih n => Nat.casesOn (motive := fun _ => List AV) n (x :: F) (fun m => v :: ih m)) F
theorem xTQ : ∀ (F : List AV) (i : Nat),yAI F i = F.getD i .any
  | [],i => by simp [yAI]
  | v :: F,0 => rfl
  | v :: F,i + 1 => by
    show yAI F i = _
    rw [xTQ F i]; simp
theorem xTR (x : AV) : ∀ (F : List AV) (i : Nat),yBp x F i = F.set i x
  | [],i => rfl
  | v :: F,0 => rfl
  | v :: F,i + 1 => by
    show v :: yBp x F i = _
    rw [xTR x F i]; rfl
noncomputable def xBS (F : List AV) : Arg → AV
  | .t i => yAI F i
  | .c v => v
theorem xTS : xBS = opv := by
  funext F x
  cases x with
  | t i => exact xTQ F i
  | c v => rfl
noncomputable def yBq (F : List AV) (d : Option Nat) (v : AV) : List AV := match d with
  | some d => yBp v F d
  | none => F
theorem xTT : yBq = putA := by
  funext F d v
  cases d with
  | none => rfl
  | some d => exact xTR v F d
def xZ0 (opv : List AV → Arg → AV) (R : Rec) (F : List AV) (H : Heap) (x : Arg) : Option (AV × Heap) := some (opv F x,H)
def xX8 (opv : List AV → Arg → AV) (R : Rec) (F : List AV) (H : Heap) (c : Arg) (a : Arg) (b : Arg) : Option (AV × Heap) := match opv F c with
    | .bool t => some (if t then opv F a else opv F b,H)
    | _ => none
def xZ1 (opv : List AV → Arg → AV) (R : Rec) (F : List AV) (H : Heap) (x : Arg) : Option (AV × Heap) := let cs := (opv F x).cells; if cs.all AV.isCell then some (.ptr H.length 0,H ++ [.cells false false cs]) else none
def xVF (opv : List AV → Arg → AV) (R : Rec) (F : List AV) (H : Heap) (z : List AV) (parts : List (Nat × Nat × Arg)) : Option (AV × Heap) :=
    (if parts.all (fun p => (opv F p.2.2).cells.length == p.2.1) then
      (fillA z (parts.map fun p => (p.1,(opv F p.2.2).cells))).map fun cs => (.agg cs,H) else none)
def xTU (opv : List AV → Arg → AV) (R : Rec) (F : List AV) (H : Heap) (fz : Bool) (z : List AV) (es : Nat) (n : Nat) (parts : List (Nat × Arg)) : Option (AV × Heap) :=
    (if parts.all (fun p => (opv F p.2).cells.length == es) then
      match fillA (xCE z n) (parts.map fun p => (p.1 * es,(opv F p.2).cells)) with
      | some cs => xDb fz false n es cs H
      | none => none
     else none)
def xTV (opv : List AV → Arg → AV) (R : Rec) (F : List AV) (H : Heap) (z : List AV) (es : Nat) (n : Nat) (parts : List (Nat × Arg)) : Option (AV × Heap) :=
    (if parts.all (fun p => (opv F p.2).cells.length == es) then
      match fillA (xCE z n) (parts.map fun p => (p.1 * es,(opv F p.2).cells)) with
      | some cs => if cs.all xAt = true then some (.sl false n cs,H) else none
      | none => none
     else none)
def xX9 (opv : List AV → Arg → AV) (R : Rec) (F : List AV) (H : Heap) (g : Bool) (n : Nat) (p : Arg) : Option (AV × Heap) := match rd H (opv F p) n with
    | some cs => (mkv g cs).map fun v => (v,H)
    | none => none
def xVG (opv : List AV → Arg → AV) (R : Rec) (F : List AV) (H : Heap) (n : Nat) (p : Arg) (v : Arg) : Option (AV × Heap) := let cs := (opv F v).cells; if cs.length = n then (wr H (opv F p) cs).map fun H' => (.tup [],H') else none
def xTW (opv : List AV → Arg → AV) (R : Rec) (F : List AV) (H : Heap) (x : Arg) : Option (AV × Heap) := match opv F x with
    | .ptr id off => some (.ptr id off,H)
    | .vptr cs off => some (.vptr cs off,H)
    | .func f caps => some (.func f caps,H)
    | .yield l => some (.yield l,H)
    | _ => none
def xZ2 (opv : List AV → Arg → AV) (R : Rec) (F : List AV) (H : Heap) (op : BinOp) (x : Arg) (y : Arg) : Option (AV × Heap) := (xC7 op (opv F x) (opv F y)).map fun v => (v,H)
def xZ3 (opv : List AV → Arg → AV) (R : Rec) (F : List AV) (H : Heap) (neg : Bool) (x : Arg) (y : Arg) : Option (AV × Heap) := match opv F x,opv F y with
    | .bool a,.bool b => some (.bool (if neg then a != b else a == b),H)
    | _,_ => none
def xVH (opv : List AV → Arg → AV) (R : Rec) (F : List AV) (H : Heap) (neg : Bool) (x : Arg) : Option (AV × Heap) := match opv F x with
    | .sl z _ _ => some (.bool (z != neg),H)
    | .own z _ _ _ _ => some (.bool (z != neg),H)
    | _ => none
def yBr (opv : List AV → Arg → AV) (R : Rec) (F : List AV) (H : Heap) (op : UnOp) (x : Arg) : Option (AV × Heap) := (unA op (opv F x)).map fun v => (v,H)
def xYa (opv : List AV → Arg → AV) (R : Rec) (F : List AV) (H : Heap) (k : IntKind) (x : Arg) : Option (AV × Heap) := match opv F x with
    | .int _ n => some (.int k (k.wrap n),H)
    | _ => none
def xTX (opv : List AV → Arg → AV) (R : Rec) (F : List AV) (H : Heap) (f : Nat) (caps : List Arg) : Option (AV × Heap) := some (.func f (caps.map (opv F)),H)
def xQ7 (opv : List AV → Arg → AV) (R : Rec) (F : List AV) (H : Heap) (fz : Bool) (z : List AV) (bytes : Nat) (l : Arg) (c : Arg) : Option (AV × Heap) := match opv F l,opv F c with
    | .int _ l,.int _ c => if 0 ≤ l ∧ l ≤ c ∧ c * bytes ≤ xBb ∧ c ≤ xBb ∧ z.all AV.isCell = true then xDb fz false l.toNat z.length (xCE z l.toNat) H else none
    | _,_ => none
def xVI (opv : List AV → Arg → AV) (R : Rec) (F : List AV) (H : Heap) (es : Nat) (x : Arg) (lo : Option Arg) (hi : Option Arg) (mx : Option Arg) : Option (AV × Heap) := match opv F x with
    | .sl z n cs => if cs.length = n * es then (xBi n (lo.map (opv F)) (hi.map (opv F)) (mx.map (opv F))).map fun (l,h) => (.sl z (h - l) ((cs.drop (l * es)).take ((h - l) * es)),H) else none
    | .own z id off n es' => if es' = es then (xBi n (lo.map (opv F)) (hi.map (opv F)) (mx.map (opv F))).map fun (l,h) => (.own z id (off + l * es) (h - l) es,H) else none
    | _ => none
def xVJ (opv : List AV → Arg → AV) (R : Rec) (F : List AV) (H : Heap) (o : Nat) (x : Arg) : Option (AV × Heap) := match opv F x with
    | .ptr id off => some (.ptr id (off + o),H)
    | .vptr cs off => some (.vptr cs (off + o),H)
    | _ => none
def xVK (opv : List AV → Arg → AV) (R : Rec) (F : List AV) (H : Heap) (g : Bool) (off : Nat) (n : Nat) (x : Arg) : Option (AV × Heap) := match opv F x with
    | .agg cs => if off + n ≤ cs.length then (mkv g ((cs.drop off).take n)).map fun v => (v,H) else none
    | _ => none
def xVL (opv : List AV → Arg → AV) (R : Rec) (F : List AV) (H : Heap) (es : Nat) (x : Arg) (i : Arg) : Option (AV × Heap) := match opv F x,xBZ (opv F i) with
    | .sl _ n cs,some i => if i < n then some (.vptr cs (i * es),H) else none
    | .own _ id off n es',some i => if i < n ∧ es' = es then some (.ptr id (off + i * es),H) else none
    | _,_ => none
def xZ4 (opv : List AV → Arg → AV) (R : Rec) (F : List AV) (H : Heap) (i : Nat) (x : Arg) : Option (AV × Heap) := match opv F x with
    | .tup vs => (vs[i]?).map fun v => (v,H)
    | _ => none
def xZ5 (opv : List AV → Arg → AV) (R : Rec) (F : List AV) (H : Heap) (x : Arg) : Option (AV × Heap) := match opv F x with
    | .sl _ n _ => some (.int .i64 n,H)
    | .own _ _ _ n _ => some (.int .i64 n,H)
    | _ => none
def xZ6 (opv : List AV → Arg → AV) (R : Rec) (F : List AV) (H : Heap) (x : Arg) : Option (AV × Heap) := match opv F x with
    | .sl true _ _ => some (.int .i64 0,H)
    | _ => none
def xZ7 (opv : List AV → Arg → AV) (R : Rec) (F : List AV) (H : Heap) (neg : Bool) (n : Nat) (x : Arg) (y : Arg) : Option (AV × Heap) := match opv F x,opv F y with
    | .agg cs,.agg ds => if cs.length = n then (xBC cs ds).map fun b => (.bool (b != neg),H) else none
    | _,_ => none
def xTY (opv : List AV → Arg → AV) (R : Rec) (F : List AV) (H : Heap) (fz : Bool) (es : Nat) (bytes : Nat) (x : Arg) (y : Arg) : Option (AV × Heap) := match src H es (opv F y) with
    | none => none
    | some (m,ys) => match opv F x with
      | .sl true _ _ => if m * bytes ≤ xBb ∧ m ≤ xBb then xDb fz (m == 0) m es ys H else none
      | .own z id off n es' => match H[id]? with
        | some (.cells false _ cs) => if off = 0 ∧ es' = es ∧ n * es ≤ cs.length ∧ (n + m) * bytes ≤ xBb ∧ n + m ≤ xBb then
            some (.own (z && m == 0) H.length 0 (n + m) es,H.set id .dead ++ [.cells false (z && m == 0) (cs.take (n * es) ++ ys)]) else none
        | _ => none
      | _ => none
def xQ8 (opv : List AV → Arg → AV) (R : Rec) (F : List AV) (H : Heap) (z : List AV) (bytes : Nat) (x : Arg) (n : Arg) : Option (AV × Heap) := match xBZ (opv F n),opv F x with
    | some m,.sl true _ _ => if m * bytes ≤ xBb ∧ m ≤ xBb ∧ z.all AV.isCell = true then xDb false (m == 0) m z.length (xCE z m) H else none
    | _,_ => none
def xQ9 (opv : List AV → Arg → AV) (R : Rec) (F : List AV) (H : Heap) (es : Nat) (bytes : Nat) (x : Arg) (y : Arg) : Option (AV × Heap) := match xEz H with
    | none => none
    | some h => (xQZ H es bytes (opv F x) (opv F y)).map fun r => (.own r.1 h 0 r.2.1 es,(xBO r.2.2.2 H).set h (.cells false r.1 r.2.2.1))
def xYb (opv : List AV → Arg → AV) (R : Rec) (F : List AV) (H : Heap) (_u0 : Nat) (_u1 : Arg) (_u2 : Arg) : Option (AV × Heap) := none
def xYc (opv : List AV → Arg → AV) (R : Rec) (F : List AV) (H : Heap) (x : Arg) (y : Arg) : Option (AV × Heap) := match opv F x,opv F y with
    | .int k a,.int _ b => some (.int k (if b > a then b else a),H)
    | _,_ => none
def xYd (opv : List AV → Arg → AV) (R : Rec) (F : List AV) (H : Heap) (x : Arg) (y : Arg) : Option (AV × Heap) := match opv F x,opv F y with
    | .int k a,.int _ b => some (.int k (if b < a then b else a),H)
    | _,_ => none
def xYe (opv : List AV → Arg → AV) (R : Rec) (F : List AV) (H : Heap) (f : Nat) (args : List Arg) : Option (AV × Heap) := xBq R f (args.map (opv F)) H
def xVM (opv : List AV → Arg → AV) (R : Rec) (F : List AV) (H : Heap) (f : Arg) (args : List Arg) : Option (AV × Heap) := R.icall (opv F f) (args.map (opv F)) H
def xVN (opv : List AV → Arg → AV) (R : Rec) (F : List AV) (H : Heap) (f : Arg) (args : List Arg) : Option (AV × Heap) := match opv F f with
    | .func g caps => xBq R g (args.map (opv F) ++ caps) H
    | _ => none
def xZ8 (opv : List AV → Arg → AV) (R : Rec) (F : List AV) (H : Heap) (g : Bool) (es : Nat) (len : Nat) (x : Arg) (i : Arg) : Option (AV × Heap) := match opv F x,xBZ (opv F i) with
    | .agg cs,some j => if j < len ∧ j * es + es ≤ cs.length then (mkv g ((cs.drop (j * es)).take es)).map fun v => (v,H) else none
    | _,_ => none
def xVO (opv : List AV → Arg → AV) (R : Rec) (F : List AV) (H : Heap) (es : Nat) (len : Nat) (x : Arg) (i : Arg) : Option (AV × Heap) := match opv F x,xBZ (opv F i) with
    | .ptr id off,some j => if j < len then some (.ptr id (off + j * es),H) else none
    | .vptr cs off,some j => if j < len then some (.vptr cs (off + j * es),H) else none
    | _,_ => none
def xYf (opv : List AV → Arg → AV) (R : Rec) (F : List AV) (H : Heap) (b : Nat) (es : Nat) (len : Nat) (i : Arg) : Option (AV × Heap) := match xVf b,xBZ (opv F i) with
    | some cs,some j => if j < len then some (.vptr cs (j * es),H) else none
    | _,_ => none
def xYg (opv : List AV → Arg → AV) (R : Rec) (F : List AV) (H : Heap) (x : Arg) (i : Arg) : Option (AV × Heap) := match opv F x,xBZ (opv F i) with
    | .str s,some j => (s[j]?).map fun b => (.int .u8 b.toNat,H)
    | _,_ => none
def xYh (opv : List AV → Arg → AV) (R : Rec) (F : List AV) (H : Heap) (x : Arg) : Option (AV × Heap) := match opv F x with
    | .str s => some (.int .i64 s.size,H)
    | _ => none
def yBs (opv : List AV → Arg → AV) (R : Rec) (F : List AV) (H : Heap) (mx : Bool) (xs : List Arg) : Option (AV × Heap) := match xs.map (opv F) with
    | [] => none
    | x :: r => (mmA mx x r).map fun v => (v,H)
def xTZ (opv : List AV → Arg → AV) (R : Rec) (F : List AV) (H : Heap) (x : Arg) (lo : Option Arg) (hi : Option Arg) : Option (AV × Heap) := match opv F x with
    | .str s => (xBi s.size (lo.map (opv F)) (hi.map (opv F)) none).map fun (l,h) => (.str (s.extract l h),H)
    | _ => none
def xYi (opv : List AV → Arg → AV) (R : Rec) (F : List AV) (H : Heap) (neg : Bool) (x : Arg) (y : Arg) : Option (AV × Heap) := match opv F x,opv F y with
    | .str s,.str t => some (.bool ((s.toList == t.toList) != neg),H)
    | _,_ => none
def xRa (opv : List AV → Arg → AV) (R : Rec) (F : List AV) (H : Heap) (f : Nat) (first : List Arg) : Option (AV × Heap) := some (.bfunc f (first.map (opv F)),H)
def xVP (opv : List AV → Arg → AV) (R : Rec) (F : List AV) (H : Heap) (f : Arg) (args : List Arg) : Option (AV × Heap) := match opv F f with
    | .bfunc g first => R.icall (.func g []) (first ++ args.map (opv F)) H
    | _ => none
def xVQ (opv : List AV → Arg → AV) (R : Rec) (F : List AV) (H : Heap)  : Option (AV × Heap) := some (.mp H.length,H ++ [.mp []])
def xVR (opv : List AV → Arg → AV) (R : Rec) (F : List AV) (H : Heap) (ks : List Nat) (comma : Bool) (z : AV) (x : Arg) (k : Arg) : Option (AV × Heap) := if xBn ks (opv F k) then match xQY H (opv F x) with
    | none => none
    | some es => match xFj (opv F k) es with
      | none => none
      | some none => some (if comma then .tup [z,.bool false] else z,H)
      | some (some v) => some (if comma then .tup [v,.bool true] else v,H)
    else none
def xYj (opv : List AV → Arg → AV) (R : Rec) (F : List AV) (H : Heap) (ks : List Nat) (z : AV) (m : Arg) (k : Arg) : Option (AV × Heap) := if xBn ks (opv F k) then match opv F m with
    | .mp id => match H[id]? with
      | some (.mp es) => (xRU (opv F k) z es 0).map fun r => (.tup [r.1,.int .i64 (r.2.1 : Nat)],H.set id (.mp r.2.2))
      | _ => none
    | _ => none
    else none
def xT0 (opv : List AV → Arg → AV) (R : Rec) (F : List AV) (H : Heap) (m : Arg) (s : Arg) (v : Arg) : Option (AV × Heap) := match opv F m,opv F s with
    | .mp id,.int .i64 n => match H[id]? with
      | some (.mp es) => if 0 ≤ n then (es[n.toNat]?).map fun e => (.tup [],H.set id (.mp (es.set n.toNat (e.1,opv F v)))) else none
      | _ => none
    | _,_ => none
def xYk (opv : List AV → Arg → AV) (R : Rec) (F : List AV) (H : Heap) (ks : List Nat) (m : Arg) (k : Arg) (v : Arg) : Option (AV × Heap) := if xBn ks (opv F k) then match opv F m with
    | .mp id => match H[id]? with
      | some (.mp es) => (xRT (opv F k) (opv F v) es).map fun es' => (.tup [],H.set id (.mp es'))
      | _ => none
    | _ => none
    else none
def xYl (opv : List AV → Arg → AV) (R : Rec) (F : List AV) (H : Heap) (x : Arg) : Option (AV × Heap) := (xQY H (opv F x)).map fun es => (.int .i64 es.length,H)
def xYm (opv : List AV → Arg → AV) (R : Rec) (F : List AV) (H : Heap) (neg : Bool) (x : Arg) : Option (AV × Heap) := match opv F x with
    | .nilm => some (.bool (true != neg),H)
    | .mp _ => some (.bool (false != neg),H)
    | _ => none
def xT1 (opv : List AV → Arg → AV) (R : Rec) (F : List AV) (H : Heap) (fz : Bool) (x : Arg) : Option (AV × Heap) := match opv F x with
    | .str s => xDb fz false s.size 1 (xBM s) H
    | _ => none
def xYn (opv : List AV → Arg → AV) (R : Rec) (F : List AV) (H : Heap) (x : Arg) : Option (AV × Heap) := match src H 1 (opv F x) with
    | some (_,cs) => (xLL cs).map fun bs => (.str ⟨⟨bs⟩⟩,H)
    | none => none
def xYo (opv : List AV → Arg → AV) (R : Rec) (F : List AV) (H : Heap) (x : Arg) (y : Arg) : Option (AV × Heap) := match opv F x,opv F y with
    | .str s,.str t => if s.size + t.size ≤ 9223372036854775807 then some (.str ⟨⟨s.data.toList ++ t.data.toList⟩⟩,H) else none
    | _,_ => none
def xVS (opv : List AV → Arg → AV) (R : Rec) (F : List AV) (H : Heap) (f : Nat) (args : List Arg) : Option (AV × Heap) := match (args.map (opv F)).mapM (frz frzN H) with
    | none => none
    | some args' => match xBe R f args' with
      | none => none
      | some (v,B) => some (xAz H.length v,fzIds H ((args.map (opv F)).flatMap (bor frzN H)) ++ B)
def xT2 (opv : List AV → Arg → AV) (R : Rec) (F : List AV) (H : Heap) (f : Nat) (args : List Arg) : Option (AV × Heap) := match (args.map (opv F)).mapM (frz frzN H) with
    | none => none
    | some args' => match xGQ R f args' with
      | none => none
      | some (v,B) => some (xAz H.length v,fzIds H ((args.map (opv F)).flatMap (bor frzN H)) ++ B.map (xGP H.length))
noncomputable def xKS (R : Rec) (F : List AV) (H : Heap) : AOp → Option (AV × Heap)
  | .mov x => xZ0 xBS R F H x
  | .pick c a b => xX8 xBS R F H c a b
  | .box x => xZ1 xBS R F H x
  | .build z parts => xVF xBS R F H z parts
  | .bslice fz z es n parts => xTU xBS R F H fz z es n parts
  | .dslice z es n parts => xTV xBS R F H z es n parts
  | .load g n p => xX9 xBS R F H g n p
  | .store n p v => xVG xBS R F H n p v
  | .nilchk x => xTW xBS R F H x
  | .bin op x y => xZ2 xBS R F H op x y
  | .beq neg x y => xZ3 xBS R F H neg x y
  | .isnil neg x => xVH xBS R F H neg x
  | .un op x => yBr xBS R F H op x
  | .conv k x => xYa xBS R F H k x
  | .mkfunc f caps => xTX xBS R F H f caps
  | .mkslice fz z bytes l c => xQ7 xBS R F H fz z bytes l c
  | .slice es x lo hi mx => xVI xBS R F H es x lo hi mx
  | .faddr o x => xVJ xBS R F H o x
  | .field g off n x => xVK xBS R F H g off n x
  | .iaddr es x i => xVL xBS R F H es x i
  | .ext i x => xZ4 xBS R F H i x
  | .len x => xZ5 xBS R F H x
  | .cap x => xZ6 xBS R F H x
  | .aeq neg n x y => xZ7 xBS R F H neg n x y
  | .append fz es bytes x y => xTY xBS R F H fz es bytes x y
  | .appendz z bytes x n => xQ8 xBS R F H z bytes x n
  | .appendh es bytes x y => xQ9 xBS R F H es bytes x y
  | .copy _u0 _u1 _u2 => xYb xBS R F H _u0 _u1 _u2
  | .maxi x y => xYc xBS R F H x y
  | .mini x y => xYd xBS R F H x y
  | .call f args => xYe xBS R F H f args
  | .icall f args => xVM xBS R F H f args
  | .fcall f args => xVN xBS R F H f args
  | .idx g es len x i => xZ8 xBS R F H g es len x i
  | .arrat es len x i => xVO xBS R F H es len x i
  | .garr b es len i => xYf xBS R F H b es len i
  | .sidx x i => xYg xBS R F H x i
  | .slen x => xYh xBS R F H x
  | .mm mx xs => yBs xBS R F H mx xs
  | .sslice x lo hi => xTZ xBS R F H x lo hi
  | .sbeq neg x y => xYi xBS R F H neg x y
  | .mkbound f first => xRa xBS R F H f first
  | .bcall f args => xVP xBS R F H f args
  | .mkmap  => xVQ xBS R F H 
  | .mlook ks comma z x k => xVR xBS R F H ks comma z x k
  | .ment ks z m k => xYj xBS R F H ks z m k
  | .mstore m s v => xT0 xBS R F H m s v
  | .mupd ks m k v => xYk xBS R F H ks m k v
  | .mlen x => xYl xBS R F H x
  | .mnil neg x => xYm xBS R F H neg x
  | .sbytes fz x => xT1 xBS R F H fz x
  | .bstr x => xYn xBS R F H x
  | .sadd x y => xYo xBS R F H x y
  | .ocall f args => xVS xBS R F H f args
  | .ocallw f args => xT2 xBS R F H f args
theorem xJ6 (R : Rec) (F : List AV) (H : Heap) (op : AOp) : xKS R F H op = xAa R F H op := by
  cases op <;> simp only [xKS,xTS] <;> rfl
def fN {α : Type} (a : Nat) (k : Nat → α) : α := match a with
  | 0 => k 0
  | n + 1 => k (n + 1)
theorem xZ9 {α : Type} (a : Nat) (k : Nat → α) : fN a k = k a := by cases a <;> rfl
def fI {α : Type} (x : Int) (k : Int → α) : α := match x with
  | .ofNat a => fN a fun a => k (.ofNat a)
  | .negSucc a => fN a fun a => k (.negSucc a)
theorem yBt {α : Type} (x : Int) (k : Int → α) : fI x k = k x := by cases x <;> simp only [fI,xZ9]
def fBo {α : Type} (x : Bool) (k : Bool → α) : α := match x with
  | true => k true
  | false => k false
theorem yAa {α : Type} (x : Bool) (k : Bool → α) : fBo x k = k x := by cases x <;> rfl
def fV {α : Type} (v : AV) (k : AV → α) : α := match v with
  | .int kd n => fI n fun n => k (.int kd n)
  | .bool b => fBo b fun b => k (.bool b)
  | .ptr i o => fN i fun i => fN o fun o => k (.ptr i o)
  | .own z i o n e => fBo z fun z => fN i fun i => fN o fun o => fN n fun n => fN e fun e => k (.own z i o n e)
  | .sl z n cs => fN n fun n => k (.sl z n cs)
  | v => k v
theorem xYp {α : Type} (v : AV) (k : AV → α) : fV v k = k v := by
  cases v <;> simp only [fV,yBt,yAa,xZ9]
noncomputable def fS {α : Type} (l : List AV) : (List AV → α) → α := List.rec (motive := fun _ => (List AV → α) → α) (fun k => k []) (fun v _ ih k => ih fun vs => k (v :: vs)) l
theorem xVT {α : Type} : ∀ (l : List AV) (k : List AV → α),fS l k = k l
  | [],k => rfl
  | v :: vs,k => by
    show fS vs (fun vs => k (v :: vs)) = _
    rw [xVT vs]
def fL {α : Type} : List AV → (List AV → α) → α
  | [],k => k []
  | v :: vs,k => fV v fun v => fL vs fun vs => k (v :: vs)
theorem yAb {α : Type} : ∀ (l : List AV) (k : List AV → α),fL l k = k l
  | [],k => rfl
  | v :: vs,k => by rw [fL,xYp,yAb vs]
def fB {α : Type} (b : Blk) (k : Blk → α) : α := match b with
  | .cells fz z cs => fL cs fun cs => k (.cells fz z cs)
  | b => k b
theorem yBu {α : Type} (b : Blk) (k : Blk → α) : fB b k = k b := by
  cases b <;> first | rfl | simp only [fB,yAb]
noncomputable def fAt {α : Type} (l : List Blk) : Nat → (List Blk → α) → α := List.rec (motive := fun _ => Nat → (List Blk → α) → α) (fun _ k => k []) (fun b bs ih n k => Nat.casesOn (motive := fun _ => α) n (fB b fun b => k (b :: bs)) (fun m => ih m fun bs => k (b :: bs))) l
theorem xXi {α : Type} : ∀ (l : List Blk) (n : Nat) (k : List Blk → α),fAt l n k = k l
  | [],n,k => rfl
  | b :: bs,0,k => by
    show fB b (fun b => k (b :: bs)) = _
    rw [yBu]
  | b :: bs,n + 1,k => by
    show fAt bs n (fun bs => k (b :: bs)) = _
    rw [xXi bs]
noncomputable def yCD (l : List Blk) : Nat := List.rec (motive := fun _ => Nat) 0 (fun _ _ n => n + 1) l
noncomputable def yBv (F : List AV) (H : List Blk) : AOp → Nat
  | .store _ p _ => match xBS F p with
    | .ptr id _ => id
    | _ => 0
  | _ => yCD H
def yAc : AOp → Bool
  | .mov _ | .pick .. | .bin .. | .beq .. | .aeq .. | .un .. | .conv .. | .ext .. | .faddr .. | .field .. | .iaddr .. | .len _ | .cap _ | .isnil .. | .maxi .. | .mini .. | .nilchk _ | .mkfunc .. | .slice .. | .idx .. | .arrat .. | .garr .. | .sidx .. | .slen .. | .mm .. | .sslice .. | .sbeq .. | .mkbound .. | .load .. | .build .. | .mlook .. | .mlen _ | .mnil .. => true
  | _ => false
noncomputable def xYq (d : Option Nat) (F : List AV) (keep : Bool) (sp : Nat) : Option (AV × Heap) → Option St
  | some (v,H) => fV v fun v => fS (yBq F d v) fun F => if keep then some ⟨F,H⟩ else fAt H sp fun H => some ⟨F,H⟩
  | none => none
theorem xVU (d : Option Nat) (F : List AV) (keep : Bool) (sp : Nat) (x : Option (AV × Heap)) : xYq d F keep sp x = x.map fun (v,H) => ⟨putA F d v,H⟩ := by
  cases x with
  | none => rfl
  | some p =>
    obtain ⟨v,H⟩ := p
    simp only [xYq,xYp,xVT,xXi,ite_self,xTT]
    rfl
def yAd (o : AOper) (s : St) (r : Option St) : Option Bool → Option St
  | none => none
  | some false => some ⟨putA s.F o.dst (.tup []),s.H⟩
  | some true => r
noncomputable def xEW (R : Rec) (o : AOper) (s : St) : Option St := yAd o s (xYq o.dst s.F (yAc o.op) (yBv s.F s.H o.op) (xKS R s.F s.H o.op)) (xBP s.F o.guard)
theorem xNz (R : Rec) (o : AOper) (s : St) : xEW R o s = xAO R o s := by
  unfold xEW xAO
  rw [xJ6,xVU]
  split <;> rename_i e <;> rw [e] <;> rfl
noncomputable def xVV (k : St → Option St) : Option St → Option St
  | some s => k s
  | none => none
noncomputable def xHZ (R : Rec) (ops : List AOper) : St → Option St := List.rec (motive := fun _ => St → Option St) (fun s => some s) (fun o _ ih s => xVV ih (xEW R o s)) ops
theorem xFn (R : Rec) : ∀ (ops : List AOper) (s : St),xHZ R ops s = xAy R ops s
  | [],s => rfl
  | o :: rest,s => by
    show xVV (xHZ R rest) (xEW R o s) = _
    simp only [xAy,xNz]
    cases xAO R o s with
    | none => rfl
    | some s' => exact xFn R rest s'
def xYr : AOp → Bool
  | .call .. | .fcall .. | .append .. | .box .. | .bslice .. | .mkslice .. | .appendz .. | .appendh .. | .copy .. | .icall .. | .bcall .. | .store .. | .ocall .. | .ocallw .. | .mkmap | .mupd .. | .ment .. | .mstore .. | .sbytes .. => true
  | _ => false
noncomputable def xOr (R : Rec) (F : List AV) (H : Heap) (op : AOp) : Option AV := if xYr op then xAv R F H op else (xKS R F H op).map (·.1)
theorem xRb (R : Rec) (F : List AV) (H : Heap) (op : AOp) : xOr R F H op = xAv R F H op := by
  unfold xOr
  rw [xJ6]
  cases op <;> rfl
noncomputable def frF (d : Option Nat) (s : St) : Option AV → Option St
  | some v => fV v fun v => fS (yBq s.F d v) fun F => some ⟨F,s.H⟩
  | none => none
theorem yAe (d : Option Nat) (s : St) (x : Option AV) : frF d s x = x.map fun v => ⟨putA s.F d v,s.H⟩ := by
  cases x with
  | none => rfl
  | some v => simp only [frF,xYp,xVT,xTT]; rfl
noncomputable def xEX (R : Rec) (o : AOper) (s : St) : Option St := yAd o s (frF o.dst s (xOr R s.F s.H o.op)) (xBP s.F o.guard)
theorem xNA (R : Rec) (o : AOper) (s : St) : xEX R o s = xAM R o s := by
  unfold xEX xAM
  rw [xRb,yAe]
  split <;> rename_i e <;> rw [e] <;> rfl
noncomputable def xKT (R : Rec) (ops : List AOper) : St → Option St := List.rec (motive := fun _ => St → Option St) (fun s => some s) (fun o _ ih s => xVV ih (xEX R o s)) ops
theorem xH0 (R : Rec) : ∀ (ops : List AOper) (s : St),xKT R ops s = xA3 R ops s
  | [],s => rfl
  | o :: rest,s => by
    show xVV (xKT R rest) (xEX R o s) = _
    simp only [xA3,xNA]
    cases xAM R o s with
    | none => rfl
    | some s' => exact xH0 R rest s'
noncomputable def yB6 (k : St → Option (AExit × St)) : Option (AExit × St) → Option (AExit × St)
  | some (.normal,s') => k s'
  | r => r
noncomputable def yAf (x y : Option (AExit × St)) : AV → Option (AExit × St)
  | .bool t => if t then x else y
  | _ => none
def xXj (id : Nat) : Option (AExit × St) → Option (AExit × St)
  | some (.exit i,s') => if i = id then some (.normal,s') else some (.exit i,s')
  | r => r
def yAJ : Option St → Option (AExit × St)
  | some s => some (.normal,s)
  | none => none
noncomputable def xYs (R : Rec) (m : Nat) (ops : List AOper) (s : St) : Option (AExit × St) := match xKT R (ops.take m) s with
  | none => none
  | some s1 => yAJ (xHZ R (ops.drop m) (adopt (ops.take m) s1))
def yB7 (i : Nat) (k : AV → Option (AExit × St)) : Option AV → Option (AExit × St)
  | some v => k v
  | none => none
noncomputable def xXk (R : Rec) (c : ACode) : St → Option (AExit × St) :=
  ACode.rec (motive := fun _ => St → Option (AExit × St))
    (fun s => some (.normal,s)) (fun ops s => yAJ (xHZ R ops s)) (fun m ops s => xYs R m ops s) (fun ls m ops s => run R (.drawl ls m ops) s)
    (fun als ls m ops s => run R (.drawp als ls m ops) s) (fun hs als ls m ops s => run R (.drawh hs als ls m ops) s) (fun σ als ls m ops s => run R (.drawt σ als ls m ops) s) (fun _ ih s => ih ⟨s.F,s.H ++ [.cells true true []]⟩)
    (fun ss _ ih s => ih ⟨s.F,fzIds s.H (ss.flatMap fun i => bor frzN s.H (s.F.getD i .any))⟩) (fun i _ ih s => yB7 i (fun v => ih ⟨s.F.set i v,fzIds s.H (bor frzN s.H (s.F.getD i .any))⟩) (frz frzN s.H (s.F.getD i .any))) (fun _ _ iha ihb s => yB6 ihb (iha s)) (fun c _ _ iha ihb s => yAf (iha s) (ihb s) (xBS s.F c))
    (fun id _ ih s => xXj id (ih s)) (fun scr b _ s => R.loop scr b s) (fun f ps asg body _ _ s => run R (.range f ps asg body) s) (fun id s => some (.exit id,s)) (fun _ ih s => ih s)
    (fun s => some (.normal,s)) (fun s => some (.ret,s)) (fun _ => none) c
theorem xT3 (x : Option St) : yAJ x = x.map fun s' => (.normal,s') := by cases x <;> rfl
theorem xT4 (R : Rec) (c : ACode) : ∀ s,xXk R c s = run R c s := by
  induction c <;> intro s
  case region ops => show yAJ (xHZ R ops s) = _; simp only [run,xFn,xT3]
  case draw m ops =>
    show xYs R m ops s = _
    simp only [run,xYs,xH0,xFn,xT3]
    cases xA3 R (ops.take m) s <;> rfl
  case seq a b iha ihb =>
    show yB6 (xXk R b) (xXk R a s) = _
    simp only [run,iha]
    cases run R a s with
    | none => rfl
    | some p =>
      obtain ⟨e,s'⟩ := p
      cases e with
      | normal => exact ihb s'
      | exit i => rfl
      | ret => rfl
  case cond c a b iha ihb =>
    show yAf (xXk R a s) (xXk R b s) (xBS s.F c) = _
    simp only [run,iha,ihb,xTS]
    cases opv s.F c <;> rfl
  case block id b ih =>
    show xXj id (xXk R b s) = _
    simp only [run,ih]
    cases run R b s with
    | none => rfl
    | some p => obtain ⟨e,s'⟩ := p; cases e <;> rfl
  case scope b ih => exact ih s
  case fz ss b ih => exact ih _
  case hole b ih => exact ih _
  case fzs i b ih =>
    show yB7 i _ _ = _
    simp only [run]
    cases frz frzN s.H (s.F.getD i .any) with
    | none => rfl
    | some v => exact ih _
  all_goals rfl
def yCE (fn : AFunc) : Option (AExit × St) → Option (AV × Heap)
  | some (.normal,s) | some (.ret,s) => (xBz fn.results s).map fun v => (v,s.H)
  | _ => none
noncomputable def xVW (R : Rec) (fn : AFunc) (args : List AV) (H : Heap) : Option (AV × Heap) := yCE fn (xXk R fn.code (xLM fn args H))
theorem xQa (R : Rec) (fn : AFunc) (args : List AV) (H : Heap) : xVW R fn args H = xBD R fn args H := by
  unfold xVW xBD
  rw [xT4]
  cases run R fn.code (xLM fn args H) with
  | none => rfl
  | some p => obtain ⟨e,s'⟩ := p; cases e <;> rfl
def yCF : Option (AV × Heap) → Option AV
  | some (r,H') => frz frzN H' r
  | none => Option.none
def xH1 : List AV → Nat → List Nat → List AV
  | [],_,_ => []
  | v :: F,_,[] => v :: F
  | v :: F,i,s :: scr => if s = i then .any :: xH1 F (i + 1) scr else v :: xH1 F (i + 1) (s :: scr)
def asc : List Nat → Nat → Bool
  | [],_ => true
  | s :: r,lo => decide (lo ≤ s) && asc r (s + 1)
theorem xXl : ∀ {scr : List Nat} {lo : Nat},asc scr lo = true → ∀ s ∈ scr,lo ≤ s
  | [],_,_,s,h => by cases h
  | s0 :: r,lo,h,s,hs => by
    simp only [asc,Bool.and_eq_true,decide_eq_true_eq] at h
    rcases List.mem_cons.1 hs with rfl | hs
    · exact h.1
    · have := xXl h.2 s hs; omega
theorem xYt : ∀ {scr : List Nat} {lo lo' : Nat},asc scr lo = true → (∀ s ∈ scr,lo' ≤ s) → asc scr lo' = true
  | [],_,_,_,_ => rfl
  | s0 :: r,lo,lo',h,hl => by
    simp only [asc,Bool.and_eq_true,decide_eq_true_eq] at h ⊢
    exact ⟨hl s0 (by simp),h.2⟩
theorem xFo : ∀ (F : List AV) (i : Nat) (scr : List Nat),asc scr i = true → ∀ j,(xH1 F i scr)[j]? = if i + j ∈ scr then (F[j]?).map (fun _ => AV.any) else F[j]?
  | [],i,scr,h,j => by simp [xH1]
  | v :: F,i,[],h,j => by simp [xH1]
  | v :: F,i,s :: scr,h,j => by
    have h' := h
    simp only [asc,Bool.and_eq_true,decide_eq_true_eq] at h'
    unfold xH1
    by_cases e : s = i
    · subst e
      rw [if_pos rfl]
      cases j with
      | zero => simp
      | succ j =>
        rw [List.getElem?_cons_succ,xFo F (s + 1) scr h'.2 j,List.getElem?_cons_succ]
        have : (s + 1 + j ∈ scr) ↔ (s + (j + 1) ∈ s :: scr) := by
          rw [show s + (j + 1) = s + 1 + j by omega,List.mem_cons]
          exact ⟨.inr,fun q => q.elim (fun q => by omega) id⟩
        simp only [this]
    · rw [if_neg e]
      have hm : ∀ x ∈ s :: scr,i + 1 ≤ x := fun x hx => by
        rcases List.mem_cons.1 hx with rfl | hx
        · omega
        · have := xXl h'.2 x hx; omega
      cases j with
      | zero =>
        have : ¬ (i + 0 ∈ s :: scr) := fun q => by have := hm _ q; omega
        rw [if_neg this]; rfl
      | succ j =>
        rw [List.getElem?_cons_succ,xFo F (i + 1) (s :: scr) (xYt h hm) j,List.getElem?_cons_succ]
        simp only [show i + (j + 1) = i + 1 + j by omega]
def xQb (scr : List Nat) (F : List AV) : List AV := if asc scr 0 then xH1 F 0 scr else xAL scr F
theorem xNB (scr : List Nat) (F : List AV) : xQb scr F = xAL scr F := by
  unfold xQb
  split
  · rename_i h
    apply List.ext_getElem?
    intro j
    rw [xFo F 0 scr h j,xDQ]
    simp only [Nat.zero_add]
  · rfl
noncomputable def xXm (R : Rec) (scr : List Nat) (b : ACode) : Option (AExit × St) → Option (AExit × St)
  | some (.normal,s') => R.loop scr b s'
  | some (e,s') => some (e,⟨xQb scr s'.F,s'.H⟩)
  | none => none
noncomputable def yAg (prog : Nat → Option AFunc) (R : Rec) (args : List AV) (H : Heap) : AV → Option (AV × Heap)
  | .func f caps => match prog f with
    | some fn => xVW R fn (args ++ caps) H
    | none => Option.none
  | f => xCS prog R f args H
noncomputable def xYu (prog : Nat → Option AFunc) (R : Rec) : Rec where
  pcall f args := match prog f with
    | some fn => yCF (xVW R fn args [])
    | none => primA f args
  icall f args H := yAg prog R args H f
  loop scr b s := fS (xQb scr s.F) fun F => xXm R scr b (xXk R b ⟨F,s.H⟩)
theorem xVX (prog : Nat → Option AFunc) (R : Rec) : xYu prog R = xCs prog R := by
  unfold xYu xCs
  congr 1
  · funext f args
    cases prog f with
    | none => rfl
    | some fn =>
      simp only [xAR,xQa]
      cases xBD R fn args [] <;> rfl
  · funext f args H
    unfold yAg
    split
    · rename_i g caps
      simp only [xCS,xQa]
      cases prog g <;> rfl
    · rfl
  · funext scr b s
    simp only [xGS,xT4,xVT,xNB]
    cases run R b ⟨xAL scr s.F,s.H⟩ with
    | none => rfl
    | some p => obtain ⟨e,s'⟩ := p; cases e <;> simp only [xXm,xNB]
noncomputable def yAK (prog : Nat → Option AFunc) (T : Known) : Nat → Rec
  | 0 => Rec.none
  | n + 1 => xYv T (xYu prog (yAK prog T n))
theorem xT5 (prog : Nat → Option AFunc) (T : Known) : ∀ n,yAK prog T n = xYw prog T n
  | 0 => rfl
  | n + 1 => by rw [yAK,xYw,xVX,xT5 prog T n]
noncomputable def xT6 (prog : Nat → Option AFunc) (T : Known) (n f : Nat) (args : List AV) (v : AV) : Bool := match (yAK prog T n).pcall f args with
  | some u => xH2 8 u v
  | none => false
theorem xRc {prog : Nat → Option AFunc} {T : Known} (hT : ∀ e ∈ T,(lim prog).pcall e.1 e.2.1 = some e.2.2) {n f : Nat} {args : List AV} {v : AV} (h : xT6 prog T n f args v = true) : (lim prog).pcall f args = some v :=
  xT7 hT (n := n) (by unfold xT6 at h; rw [xT5] at h; exact h)
end Go.Abs
