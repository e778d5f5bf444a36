/- The interpreter once more,its alternatives as functions of their own: what the kernel unfolds is small. -/
import Derived.Test.YtkpbekcgigigkaaDoorAbsOver
namespace Go.Abs
set_option linter.unusedVariables false
noncomputable def yA5 (F : List AV) : Nat → AV := List.rec (motive := fun _ => Nat → AV) (fun _ => .any) (fun v _ ih n => Nat.casesOn (motive := fun _ => AV) n v ih) F
noncomputable def yBN (x : AV) (F : List AV) : Nat → List AV := List.rec (motive := fun _ => Nat → List AV) (fun _ => []) (fun v F ih n => Nat.casesOn (motive := fun _ => List AV) n (x :: F) (fun m => v :: ih m)) F
theorem xUb : ∀ (F : List AV) (i : Nat),yA5 F i = F.getD i .any
  | [],i => by simp [yA5]
  | v :: F,0 => rfl
  | v :: F,i + 1 => by
    show yA5 F i = _
    rw [xUb F i]; simp
theorem xUc (x : AV) : ∀ (F : List AV) (i : Nat),yBN x F i = F.set i x
  | [],i => rfl
  | v :: F,0 => rfl
  | v :: F,i + 1 => by
    show v :: yBN x F i = _
    rw [xUc x F i]; rfl
noncomputable def xBP (F : List AV) : Arg → AV
  | .t i => yA5 F i
  | .c v => v
theorem xUd : xBP = opv := by
  funext F x
  cases x with
  | t i => exact xUb F i
  | c v => rfl
noncomputable def yBO (F : List AV) (d : Option Nat) (v : AV) : List AV := match d with
  | some d => yBN v F d
  | none => F
theorem xUe : yBO = putA := by
  funext F d v
  cases d with
  | none => rfl
  | some d => exact xUc v F d
def yAq (opv : List AV → Arg → AV) (R : Rec) (F : List AV) (H : Heap) (x : Arg) : Option (AV × Heap) := some (opv F x,H)
def xYy (opv : List AV → Arg → AV) (R : Rec) (F : List AV) (H : Heap) (c : Arg) (a : Arg) (b : Arg) : Option (AV × Heap) := match opv F c with
    | .bool t => some (if t then opv F a else opv F b,H)
    | _ => none
def yAr (opv : List AV → Arg → AV) (R : Rec) (F : List AV) (H : Heap) (x : Arg) : Option (AV × Heap) := let cs := (opv F x).cells; if cs.all AV.isCell then some (.ptr H.length 0,H ++ [.cells false false cs]) else none
def xV3 (opv : List AV → Arg → AV) (R : Rec) (F : List AV) (H : Heap) (z : List AV) (parts : List (Nat × Nat × Arg)) : Option (AV × Heap) :=
    (if parts.all (fun p => (opv F p.2.2).cells.length == p.2.1) then
      (fillA z (parts.map fun p => (p.1,(opv F p.2.2).cells))).map fun cs => (.agg cs,H) else none)
def xUf (opv : List AV → Arg → AV) (R : Rec) (F : List AV) (H : Heap) (fz : Bool) (z : List AV) (es : Nat) (n : Nat) (parts : List (Nat × Arg)) : Option (AV × Heap) :=
    (if parts.all (fun p => (opv F p.2).cells.length == es) then
      match fillA (xCD z n) (parts.map fun p => (p.1 * es,(opv F p.2).cells)) with
      | some cs => xDd fz false n es cs H
      | none => none
     else none)
def xUg (opv : List AV → Arg → AV) (R : Rec) (F : List AV) (H : Heap) (z : List AV) (es : Nat) (n : Nat) (parts : List (Nat × Arg)) : Option (AV × Heap) :=
    (if parts.all (fun p => (opv F p.2).cells.length == es) then
      match fillA (xCD z n) (parts.map fun p => (p.1 * es,(opv F p.2).cells)) with
      | some cs => if cs.all xAA = true then some (.sl false n cs,H) else none
      | none => none
     else none)
def xYz (opv : List AV → Arg → AV) (R : Rec) (F : List AV) (H : Heap) (g : Bool) (n : Nat) (p : Arg) : Option (AV × Heap) := match rd H (opv F p) n with
    | some cs => (mkv g cs).map fun v => (v,H)
    | none => none
def xV4 (opv : List AV → Arg → AV) (R : Rec) (F : List AV) (H : Heap) (n : Nat) (p : Arg) (v : Arg) : Option (AV × Heap) := let cs := (opv F v).cells; if cs.length = n then (wr H (opv F p) cs).map fun H' => (.tup [],H') else none
def xUh (opv : List AV → Arg → AV) (R : Rec) (F : List AV) (H : Heap) (x : Arg) : Option (AV × Heap) := match opv F x with
    | .ptr id off => some (.ptr id off,H)
    | .vptr cs off => some (.vptr cs off,H)
    | .func f caps => some (.func f caps,H)
    | .yield l => some (.yield l,H)
    | _ => none
def yAs (opv : List AV → Arg → AV) (R : Rec) (F : List AV) (H : Heap) (op : BinOp) (x : Arg) (y : Arg) : Option (AV × Heap) := (xC6 op (opv F x) (opv F y)).map fun v => (v,H)
def yAt (opv : List AV → Arg → AV) (R : Rec) (F : List AV) (H : Heap) (neg : Bool) (x : Arg) (y : Arg) : Option (AV × Heap) := match opv F x,opv F y with
    | .bool a,.bool b => some (.bool (if neg then a != b else a == b),H)
    | _,_ => none
def xV5 (opv : List AV → Arg → AV) (R : Rec) (F : List AV) (H : Heap) (neg : Bool) (x : Arg) : Option (AV × Heap) := match opv F x with
    | .sl z _ _ => some (.bool (z != neg),H)
    | .own z _ _ _ _ => some (.bool (z != neg),H)
    | _ => none
def yBP (opv : List AV → Arg → AV) (R : Rec) (F : List AV) (H : Heap) (op : UnOp) (x : Arg) : Option (AV × Heap) := (unA op (opv F x)).map fun v => (v,H)
def xYA (opv : List AV → Arg → AV) (R : Rec) (F : List AV) (H : Heap) (k : IntKind) (x : Arg) : Option (AV × Heap) := match opv F x with
    | .int _ n => some (.int k (k.wrap n),H)
    | _ => none
def xUi (opv : List AV → Arg → AV) (R : Rec) (F : List AV) (H : Heap) (f : Nat) (caps : List Arg) : Option (AV × Heap) := some (.func f (caps.map (opv F)),H)
def xRo (opv : List AV → Arg → AV) (R : Rec) (F : List AV) (H : Heap) (fz : Bool) (z : List AV) (bytes : Nat) (l : Arg) (c : Arg) : Option (AV × Heap) := match opv F l,opv F c with
    | .int _ l,.int _ c => if 0 ≤ l ∧ l ≤ c ∧ c * bytes ≤ xBa ∧ c ≤ xBa ∧ z.all AV.isCell = true then xDd fz false l.toNat z.length (xCD z l.toNat) H else none
    | _,_ => none
def xV6 (opv : List AV → Arg → AV) (R : Rec) (F : List AV) (H : Heap) (es : Nat) (x : Arg) (lo : Option Arg) (hi : Option Arg) (mx : Option Arg) : Option (AV × Heap) := match opv F x with
    | .sl z n cs => if cs.length = n * es then (xBf n (lo.map (opv F)) (hi.map (opv F)) (mx.map (opv F))).map fun (l,h) => (.sl z (h - l) ((cs.drop (l * es)).take ((h - l) * es)),H) else none
    | .own z id off n es' => if es' = es then (xBf n (lo.map (opv F)) (hi.map (opv F)) (mx.map (opv F))).map fun (l,h) => (.own z id (off + l * es) (h - l) es,H) else none
    | _ => none
def xV7 (opv : List AV → Arg → AV) (R : Rec) (F : List AV) (H : Heap) (o : Nat) (x : Arg) : Option (AV × Heap) := match opv F x with
    | .ptr id off => some (.ptr id (off + o),H)
    | .vptr cs off => some (.vptr cs (off + o),H)
    | _ => none
def xV8 (opv : List AV → Arg → AV) (R : Rec) (F : List AV) (H : Heap) (g : Bool) (off : Nat) (n : Nat) (x : Arg) : Option (AV × Heap) := match opv F x with
    | .agg cs => if off + n ≤ cs.length then (mkv g ((cs.drop off).take n)).map fun v => (v,H) else none
    | _ => none
def xV9 (opv : List AV → Arg → AV) (R : Rec) (F : List AV) (H : Heap) (es : Nat) (x : Arg) (i : Arg) : Option (AV × Heap) := match opv F x,xBV (opv F i) with
    | .sl _ n cs,some i => if i < n then some (.vptr cs (i * es),H) else none
    | .own _ id off n es',some i => if i < n ∧ es' = es then some (.ptr id (off + i * es),H) else none
    | _,_ => none
def yAu (opv : List AV → Arg → AV) (R : Rec) (F : List AV) (H : Heap) (i : Nat) (x : Arg) : Option (AV × Heap) := match opv F x with
    | .tup vs => (vs[i]?).map fun v => (v,H)
    | _ => none
def yAv (opv : List AV → Arg → AV) (R : Rec) (F : List AV) (H : Heap) (x : Arg) : Option (AV × Heap) := match opv F x with
    | .sl _ n _ => some (.int .i64 n,H)
    | .own _ _ _ n _ => some (.int .i64 n,H)
    | _ => none
def yAw (opv : List AV → Arg → AV) (R : Rec) (F : List AV) (H : Heap) (x : Arg) : Option (AV × Heap) := match opv F x with
    | .sl true _ _ => some (.int .i64 0,H)
    | _ => none
def yAx (opv : List AV → Arg → AV) (R : Rec) (F : List AV) (H : Heap) (neg : Bool) (n : Nat) (x : Arg) (y : Arg) : Option (AV × Heap) := match opv F x,opv F y with
    | .agg cs,.agg ds => if cs.length = n then (xBB cs ds).map fun b => (.bool (b != neg),H) else none
    | _,_ => none
def xUj (opv : List AV → Arg → AV) (R : Rec) (F : List AV) (H : Heap) (fz : Bool) (es : Nat) (bytes : Nat) (x : Arg) (y : Arg) : Option (AV × Heap) := match src H es (opv F y) with
    | none => none
    | some (m,ys) => match opv F x with
      | .sl true _ _ => if m * bytes ≤ xBa ∧ m ≤ xBa then xDd fz (m == 0) m es ys H else none
      | .own z id off n es' => match H[id]? with
        | some (.cells false _ cs) => if off = 0 ∧ es' = es ∧ n * es ≤ cs.length ∧ (n + m) * bytes ≤ xBa ∧ n + m ≤ xBa then
            some (.own (z && m == 0) H.length 0 (n + m) es,H.set id .dead ++ [.cells false (z && m == 0) (cs.take (n * es) ++ ys)]) else none
        | _ => none
      | _ => none
def xRp (opv : List AV → Arg → AV) (R : Rec) (F : List AV) (H : Heap) (z : List AV) (bytes : Nat) (x : Arg) (n : Arg) : Option (AV × Heap) := match xBV (opv F n),opv F x with
    | some m,.sl true _ _ => if m * bytes ≤ xBa ∧ m ≤ xBa ∧ z.all AV.isCell = true then xDd false (m == 0) m z.length (xCD z m) H else none
    | _,_ => none
def xRq (opv : List AV → Arg → AV) (R : Rec) (F : List AV) (H : Heap) (es : Nat) (bytes : Nat) (x : Arg) (y : Arg) : Option (AV × Heap) := match xEF H with
    | none => none
    | some h => (xRg H es bytes (opv F x) (opv F y)).map fun r => (.own r.1 h 0 r.2.1 es,(xBL r.2.2.2 H).set h (.cells false r.1 r.2.2.1))
def xYB (opv : List AV → Arg → AV) (R : Rec) (F : List AV) (H : Heap) (_u0 : Nat) (_u1 : Arg) (_u2 : Arg) : Option (AV × Heap) := none
def xYC (opv : List AV → Arg → AV) (R : Rec) (F : List AV) (H : Heap) (x : Arg) (y : Arg) : Option (AV × Heap) := match opv F x,opv F y with
    | .int k a,.int _ b => some (.int k (if b > a then b else a),H)
    | _,_ => none
def xYD (opv : List AV → Arg → AV) (R : Rec) (F : List AV) (H : Heap) (x : Arg) (y : Arg) : Option (AV × Heap) := match opv F x,opv F y with
    | .int k a,.int _ b => some (.int k (if b < a then b else a),H)
    | _,_ => none
def xYE (opv : List AV → Arg → AV) (R : Rec) (F : List AV) (H : Heap) (f : Nat) (args : List Arg) : Option (AV × Heap) := xBm R f (args.map (opv F)) H
def xWa (opv : List AV → Arg → AV) (R : Rec) (F : List AV) (H : Heap) (f : Arg) (args : List Arg) : Option (AV × Heap) := R.icall (opv F f) (args.map (opv F)) H
def xWb (opv : List AV → Arg → AV) (R : Rec) (F : List AV) (H : Heap) (f : Arg) (args : List Arg) : Option (AV × Heap) := match opv F f with
    | .func g caps => xBm R g (args.map (opv F) ++ caps) H
    | _ => none
def yAy (opv : List AV → Arg → AV) (R : Rec) (F : List AV) (H : Heap) (g : Bool) (es : Nat) (len : Nat) (x : Arg) (i : Arg) : Option (AV × Heap) := match opv F x,xBV (opv F i) with
    | .agg cs,some j => if j < len ∧ j * es + es ≤ cs.length then (mkv g ((cs.drop (j * es)).take es)).map fun v => (v,H) else none
    | _,_ => none
def xWc (opv : List AV → Arg → AV) (R : Rec) (F : List AV) (H : Heap) (es : Nat) (len : Nat) (x : Arg) (i : Arg) : Option (AV × Heap) := match opv F x,xBV (opv F i) with
    | .ptr id off,some j => if j < len then some (.ptr id (off + j * es),H) else none
    | .vptr cs off,some j => if j < len then some (.vptr cs (off + j * es),H) else none
    | _,_ => none
def xYF (opv : List AV → Arg → AV) (R : Rec) (F : List AV) (H : Heap) (b : Nat) (es : Nat) (len : Nat) (i : Arg) : Option (AV × Heap) := match xVD b,xBV (opv F i) with
    | some cs,some j => if j < len then some (.vptr cs (j * es),H) else none
    | _,_ => none
def xYG (opv : List AV → Arg → AV) (R : Rec) (F : List AV) (H : Heap) (x : Arg) (i : Arg) : Option (AV × Heap) := match opv F x,xBV (opv F i) with
    | .str s,some j => (s[j]?).map fun b => (.int .u8 b.toNat,H)
    | _,_ => none
def xYH (opv : List AV → Arg → AV) (R : Rec) (F : List AV) (H : Heap) (x : Arg) : Option (AV × Heap) := match opv F x with
    | .str s => some (.int .i64 s.size,H)
    | _ => none
def yBQ (opv : List AV → Arg → AV) (R : Rec) (F : List AV) (H : Heap) (mx : Bool) (xs : List Arg) : Option (AV × Heap) := match xs.map (opv F) with
    | [] => none
    | x :: r => (mmA mx x r).map fun v => (v,H)
def xUk (opv : List AV → Arg → AV) (R : Rec) (F : List AV) (H : Heap) (x : Arg) (lo : Option Arg) (hi : Option Arg) : Option (AV × Heap) := match opv F x with
    | .str s => (xBf s.size (lo.map (opv F)) (hi.map (opv F)) none).map fun (l,h) => (.str (s.extract l h),H)
    | _ => none
def xYI (opv : List AV → Arg → AV) (R : Rec) (F : List AV) (H : Heap) (neg : Bool) (x : Arg) (y : Arg) : Option (AV × Heap) := match opv F x,opv F y with
    | .str s,.str t => some (.bool ((s.toList == t.toList) != neg),H)
    | _,_ => none
def xRr (opv : List AV → Arg → AV) (R : Rec) (F : List AV) (H : Heap) (f : Nat) (first : List Arg) : Option (AV × Heap) := some (.bfunc f (first.map (opv F)),H)
def xWd (opv : List AV → Arg → AV) (R : Rec) (F : List AV) (H : Heap) (f : Arg) (args : List Arg) : Option (AV × Heap) := match opv F f with
    | .bfunc g first => R.icall (.func g []) (first ++ args.map (opv F)) H
    | _ => none
def xWe (opv : List AV → Arg → AV) (R : Rec) (F : List AV) (H : Heap)  : Option (AV × Heap) := some (.mp H.length,H ++ [.mp []])
def xWf (opv : List AV → Arg → AV) (R : Rec) (F : List AV) (H : Heap) (ks : List Nat) (comma : Bool) (z : AV) (x : Arg) (k : Arg) : Option (AV × Heap) := if xBj ks (opv F k) then match xRf H (opv F x) with
    | none => none
    | some es => match xED (opv F k) es with
      | none => none
      | some none => some (if comma then .tup [z,.bool false] else z,H)
      | some (some v) => some (if comma then .tup [v,.bool true] else v,H)
    else none
def xYJ (opv : List AV → Arg → AV) (R : Rec) (F : List AV) (H : Heap) (ks : List Nat) (z : AV) (m : Arg) (k : Arg) : Option (AV × Heap) := if xBj ks (opv F k) then match opv F m with
    | .mp id => match H[id]? with
      | some (.mp es) => (xSi (opv F k) z es 0).map fun r => (.tup [r.1,.int .i64 (r.2.1 : Nat)],H.set id (.mp r.2.2))
      | _ => none
    | _ => none
    else none
def xUl (opv : List AV → Arg → AV) (R : Rec) (F : List AV) (H : Heap) (m : Arg) (s : Arg) (v : Arg) : Option (AV × Heap) := match opv F m,opv F s with
    | .mp id,.int .i64 n => match H[id]? with
      | some (.mp es) => if 0 ≤ n then (es[n.toNat]?).map fun e => (.tup [],H.set id (.mp (es.set n.toNat (e.1,opv F v)))) else none
      | _ => none
    | _,_ => none
def xYK (opv : List AV → Arg → AV) (R : Rec) (F : List AV) (H : Heap) (ks : List Nat) (m : Arg) (k : Arg) (v : Arg) : Option (AV × Heap) := if xBj ks (opv F k) then match opv F m with
    | .mp id => match H[id]? with
      | some (.mp es) => (xRK (opv F k) (opv F v) es).map fun es' => (.tup [],H.set id (.mp es'))
      | _ => none
    | _ => none
    else none
def xYL (opv : List AV → Arg → AV) (R : Rec) (F : List AV) (H : Heap) (x : Arg) : Option (AV × Heap) := (xRf H (opv F x)).map fun es => (.int .i64 es.length,H)
def xYM (opv : List AV → Arg → AV) (R : Rec) (F : List AV) (H : Heap) (neg : Bool) (x : Arg) : Option (AV × Heap) := match opv F x with
    | .nilm => some (.bool (true != neg),H)
    | .mp _ => some (.bool (false != neg),H)
    | _ => none
def xUm (opv : List AV → Arg → AV) (R : Rec) (F : List AV) (H : Heap) (fz : Bool) (x : Arg) : Option (AV × Heap) := match opv F x with
    | .str s => xDd fz false s.size 1 (xBK s) H
    | _ => none
def xYN (opv : List AV → Arg → AV) (R : Rec) (F : List AV) (H : Heap) (x : Arg) : Option (AV × Heap) := match src H 1 (opv F x) with
    | some (_,cs) => (xLR cs).map fun bs => (.str ⟨⟨bs⟩⟩,H)
    | none => none
def xYO (opv : List AV → Arg → AV) (R : Rec) (F : List AV) (H : Heap) (x : Arg) (y : Arg) : Option (AV × Heap) := match opv F x,opv F y with
    | .str s,.str t => if s.size + t.size ≤ 9223372036854775807 then some (.str ⟨⟨s.data.toList ++ t.data.toList⟩⟩,H) else none
    | _,_ => none
def xWg (opv : List AV → Arg → AV) (R : Rec) (F : List AV) (H : Heap) (f : Nat) (args : List Arg) : Option (AV × Heap) := match (args.map (opv F)).mapM (frz frzN H) with
    | none => none
    | some args' => match xBD R f args' with
      | none => none
      | some (v,B) => some (xAF H.length v,fzIds H ((args.map (opv F)).flatMap (bor frzN H)) ++ B)
def xUn (opv : List AV → Arg → AV) (R : Rec) (F : List AV) (H : Heap) (f : Nat) (args : List Arg) : Option (AV × Heap) := match (args.map (opv F)).mapM (frz frzN H) with
    | none => none
    | some args' => match xG4 R f args' with
      | none => none
      | some (v,B) => some (xAF H.length v,fzIds H ((args.map (opv F)).flatMap (bor frzN H)) ++ B.map (xG3 H.length))
noncomputable def xK8 (R : Rec) (F : List AV) (H : Heap) : AOp → Option (AV × Heap)
  | .mov x => yAq xBP R F H x
  | .pick c a b => xYy xBP R F H c a b
  | .box x => yAr xBP R F H x
  | .build z parts => xV3 xBP R F H z parts
  | .bslice fz z es n parts => xUf xBP R F H fz z es n parts
  | .dslice z es n parts => xUg xBP R F H z es n parts
  | .load g n p => xYz xBP R F H g n p
  | .store n p v => xV4 xBP R F H n p v
  | .nilchk x => xUh xBP R F H x
  | .bin op x y => yAs xBP R F H op x y
  | .beq neg x y => yAt xBP R F H neg x y
  | .isnil neg x => xV5 xBP R F H neg x
  | .un op x => yBP xBP R F H op x
  | .conv k x => xYA xBP R F H k x
  | .mkfunc f caps => xUi xBP R F H f caps
  | .mkslice fz z bytes l c => xRo xBP R F H fz z bytes l c
  | .slice es x lo hi mx => xV6 xBP R F H es x lo hi mx
  | .faddr o x => xV7 xBP R F H o x
  | .field g off n x => xV8 xBP R F H g off n x
  | .iaddr es x i => xV9 xBP R F H es x i
  | .ext i x => yAu xBP R F H i x
  | .len x => yAv xBP R F H x
  | .cap x => yAw xBP R F H x
  | .aeq neg n x y => yAx xBP R F H neg n x y
  | .append fz es bytes x y => xUj xBP R F H fz es bytes x y
  | .appendz z bytes x n => xRp xBP R F H z bytes x n
  | .appendh es bytes x y => xRq xBP R F H es bytes x y
  | .copy _u0 _u1 _u2 => xYB xBP R F H _u0 _u1 _u2
  | .maxi x y => xYC xBP R F H x y
  | .mini x y => xYD xBP R F H x y
  | .call f args => xYE xBP R F H f args
  | .icall f args => xWa xBP R F H f args
  | .fcall f args => xWb xBP R F H f args
  | .idx g es len x i => yAy xBP R F H g es len x i
  | .arrat es len x i => xWc xBP R F H es len x i
  | .garr b es len i => xYF xBP R F H b es len i
  | .sidx x i => xYG xBP R F H x i
  | .slen x => xYH xBP R F H x
  | .mm mx xs => yBQ xBP R F H mx xs
  | .sslice x lo hi => xUk xBP R F H x lo hi
  | .sbeq neg x y => xYI xBP R F H neg x y
  | .mkbound f first => xRr xBP R F H f first
  | .bcall f args => xWd xBP R F H f args
  | .mkmap  => xWe xBP R F H 
  | .mlook ks comma z x k => xWf xBP R F H ks comma z x k
  | .ment ks z m k => xYJ xBP R F H ks z m k
  | .mstore m s v => xUl xBP R F H m s v
  | .mupd ks m k v => xYK xBP R F H ks m k v
  | .mlen x => xYL xBP R F H x
  | .mnil neg x => xYM xBP R F H neg x
  | .sbytes fz x => xUm xBP R F H fz x
  | .bstr x => xYN xBP R F H x
  | .sadd x y => xYO xBP R F H x y
  | .ocall f args => xWg xBP R F H f args
  | .ocallw f args => xUn xBP R F H f args
theorem xKh (R : Rec) (F : List AV) (H : Heap) (op : AOp) : xK8 R F H op = xAb R F H op := by
  cases op <;> simp only [xK8,xUd] <;> rfl
def fN {α : Type} (a : Nat) (k : Nat → α) : α := match a with
  | 0 => k 0
  | n + 1 => k (n + 1)
theorem yAz {α : Type} (a : Nat) (k : Nat → α) : fN a k = k a := by cases a <;> rfl
def fI {α : Type} (x : Int) (k : Int → α) : α := match x with
  | .ofNat a => fN a fun a => k (.ofNat a)
  | .negSucc a => fN a fun a => k (.negSucc a)
theorem yBR {α : Type} (x : Int) (k : Int → α) : fI x k = k x := by cases x <;> simp only [fI,yAz]
def fBo {α : Type} (x : Bool) (k : Bool → α) : α := match x with
  | true => k true
  | false => k false
theorem yAA {α : Type} (x : Bool) (k : Bool → α) : fBo x k = k x := by cases x <;> rfl
def fV {α : Type} (v : AV) (k : AV → α) : α := match v with
  | .int kd n => fI n fun n => k (.int kd n)
  | .bool b => fBo b fun b => k (.bool b)
  | .ptr i o => fN i fun i => fN o fun o => k (.ptr i o)
  | .own z i o n e => fBo z fun z => fN i fun i => fN o fun o => fN n fun n => fN e fun e => k (.own z i o n e)
  | .sl z n cs => fN n fun n => k (.sl z n cs)
  | v => k v
theorem xYP {α : Type} (v : AV) (k : AV → α) : fV v k = k v := by
  cases v <;> simp only [fV,yBR,yAA,yAz]
noncomputable def fS {α : Type} (l : List AV) : (List AV → α) → α := List.rec (motive := fun _ => (List AV → α) → α) (fun k => k []) (fun v _ ih k => ih fun vs => k (v :: vs)) l
theorem xWh {α : Type} : ∀ (l : List AV) (k : List AV → α),fS l k = k l
  | [],k => rfl
  | v :: vs,k => by
    show fS vs (fun vs => k (v :: vs)) = _
    rw [xWh vs]
def fL {α : Type} : List AV → (List AV → α) → α
  | [],k => k []
  | v :: vs,k => fV v fun v => fL vs fun vs => k (v :: vs)
theorem yAB {α : Type} : ∀ (l : List AV) (k : List AV → α),fL l k = k l
  | [],k => rfl
  | v :: vs,k => by rw [fL,xYP,yAB vs]
def fB {α : Type} (b : Blk) (k : Blk → α) : α := match b with
  | .cells fz z cs => fL cs fun cs => k (.cells fz z cs)
  | b => k b
theorem yBS {α : Type} (b : Blk) (k : Blk → α) : fB b k = k b := by
  cases b <;> first | rfl | simp only [fB,yAB]
noncomputable def fAt {α : Type} (l : List Blk) : Nat → (List Blk → α) → α := List.rec (motive := fun _ => Nat → (List Blk → α) → α) (fun _ k => k []) (fun b bs ih n k => Nat.casesOn (motive := fun _ => α) n (fB b fun b => k (b :: bs)) (fun m => ih m fun bs => k (b :: bs))) l
theorem xXH {α : Type} : ∀ (l : List Blk) (n : Nat) (k : List Blk → α),fAt l n k = k l
  | [],n,k => rfl
  | b :: bs,0,k => by
    show fB b (fun b => k (b :: bs)) = _
    rw [yBS]
  | b :: bs,n + 1,k => by
    show fAt bs n (fun bs => k (b :: bs)) = _
    rw [xXH bs]
noncomputable def yCX (l : List Blk) : Nat := List.rec (motive := fun _ => Nat) 0 (fun _ _ n => n + 1) l
noncomputable def yBT (F : List AV) (H : List Blk) : AOp → Nat
  | .store _ p _ => match xBP F p with
    | .ptr id _ => id
    | _ => 0
  | _ => yCX H
def yAC : AOp → Bool
  | .mov _ | .pick .. | .bin .. | .beq .. | .aeq .. | .un .. | .conv .. | .ext .. | .faddr .. | .field .. | .iaddr .. | .len _ | .cap _ | .isnil .. | .maxi .. | .mini .. | .nilchk _ | .mkfunc .. | .slice .. | .idx .. | .arrat .. | .garr .. | .sidx .. | .slen .. | .mm .. | .sslice .. | .sbeq .. | .mkbound .. | .load .. | .build .. | .mlook .. | .mlen _ | .mnil .. => true
  | _ => false
noncomputable def xYQ (d : Option Nat) (F : List AV) (keep : Bool) (sp : Nat) : Option (AV × Heap) → Option St
  | some (v,H) => fV v fun v => fS (yBO F d v) fun F => if keep then some ⟨F,H⟩ else fAt H sp fun H => some ⟨F,H⟩
  | none => none
theorem xWi (d : Option Nat) (F : List AV) (keep : Bool) (sp : Nat) (x : Option (AV × Heap)) : xYQ d F keep sp x = x.map fun (v,H) => ⟨putA F d v,H⟩ := by
  cases x with
  | none => rfl
  | some p =>
    obtain ⟨v,H⟩ := p
    simp only [xYQ,xYP,xWh,xXH,ite_self,xUe]
    rfl
def yAD (o : AOper) (s : St) (r : Option St) : Option Bool → Option St
  | none => none
  | some false => some ⟨putA s.F o.dst (.tup []),s.H⟩
  | some true => r
noncomputable def xE2 (R : Rec) (o : AOper) (s : St) : Option St := yAD o s (xYQ o.dst s.F (yAC o.op) (yBT s.F s.H o.op) (xK8 R s.F s.H o.op)) (xBM s.F o.guard)
theorem xNG (R : Rec) (o : AOper) (s : St) : xE2 R o s = xAN R o s := by
  unfold xE2 xAN
  rw [xKh,xWi]
  split <;> rename_i e <;> rw [e] <;> rfl
noncomputable def xWj (k : St → Option St) : Option St → Option St
  | some s => k s
  | none => none
noncomputable def xIa (R : Rec) (ops : List AOper) : St → Option St := List.rec (motive := fun _ => St → Option St) (fun s => some s) (fun o _ ih s => xWj ih (xE2 R o s)) ops
theorem xFu (R : Rec) : ∀ (ops : List AOper) (s : St),xIa R ops s = xAz R ops s
  | [],s => rfl
  | o :: rest,s => by
    show xWj (xIa R rest) (xE2 R o s) = _
    simp only [xAz,xNG]
    cases xAN R o s with
    | none => rfl
    | some s' => exact xFu R rest s'
def xYR : AOp → Bool
  | .call .. | .fcall .. | .append .. | .box .. | .bslice .. | .mkslice .. | .appendz .. | .appendh .. | .copy .. | .icall .. | .bcall .. | .store .. | .ocall .. | .ocallw .. | .mkmap | .mupd .. | .ment .. | .mstore .. | .sbytes .. => true
  | _ => false
noncomputable def xOC (R : Rec) (F : List AV) (H : Heap) (op : AOp) : Option AV := if xYR op then xAv R F H op else (xK8 R F H op).map (·.1)
theorem xRs (R : Rec) (F : List AV) (H : Heap) (op : AOp) : xOC R F H op = xAv R F H op := by
  unfold xOC
  rw [xKh]
  cases op <;> rfl
noncomputable def frF (d : Option Nat) (s : St) : Option AV → Option St
  | some v => fV v fun v => fS (yBO s.F d v) fun F => some ⟨F,s.H⟩
  | none => none
theorem yAE (d : Option Nat) (s : St) (x : Option AV) : frF d s x = x.map fun v => ⟨putA s.F d v,s.H⟩ := by
  cases x with
  | none => rfl
  | some v => simp only [frF,xYP,xWh,xUe]; rfl
noncomputable def xE3 (R : Rec) (o : AOper) (s : St) : Option St := yAD o s (frF o.dst s (xOC R s.F s.H o.op)) (xBM s.F o.guard)
theorem xNH (R : Rec) (o : AOper) (s : St) : xE3 R o s = xAK R o s := by
  unfold xE3 xAK
  rw [xRs,yAE]
  split <;> rename_i e <;> rw [e] <;> rfl
noncomputable def xK9 (R : Rec) (ops : List AOper) : St → Option St := List.rec (motive := fun _ => St → Option St) (fun s => some s) (fun o _ ih s => xWj ih (xE3 R o s)) ops
theorem xIb (R : Rec) : ∀ (ops : List AOper) (s : St),xK9 R ops s = xA1 R ops s
  | [],s => rfl
  | o :: rest,s => by
    show xWj (xK9 R rest) (xE3 R o s) = _
    simp only [xA1,xNH]
    cases xAK R o s with
    | none => rfl
    | some s' => exact xIb R rest s'
noncomputable def yCt (k : St → Option (AExit × St)) : Option (AExit × St) → Option (AExit × St)
  | some (.normal,s') => k s'
  | r => r
noncomputable def yAF (x y : Option (AExit × St)) : AV → Option (AExit × St)
  | .bool t => if t then x else y
  | _ => none
def xXI (id : Nat) : Option (AExit × St) → Option (AExit × St)
  | some (.exit i,s') => if i = id then some (.normal,s') else some (.exit i,s')
  | r => r
def yA6 : Option St → Option (AExit × St)
  | some s => some (.normal,s)
  | none => none
noncomputable def xYS (R : Rec) (m : Nat) (ops : List AOper) (s : St) : Option (AExit × St) := match xK9 R (ops.take m) s with
  | none => none
  | some s1 => yA6 (xIa R (ops.drop m) (adopt (ops.take m) s1))
def yCu (i : Nat) (k : AV → Option (AExit × St)) : Option AV → Option (AExit × St)
  | some v => k v
  | none => none
noncomputable def xXJ (R : Rec) (c : ACode) : St → Option (AExit × St) :=
  ACode.rec (motive := fun _ => St → Option (AExit × St))
    (fun s => some (.normal,s)) (fun ops s => yA6 (xIa R ops s)) (fun m ops s => xYS R m ops s) (fun ls m ops s => run R (.drawl ls m ops) s)
    (fun als ls m ops s => run R (.drawp als ls m ops) s) (fun hs als ls m ops s => run R (.drawh hs als ls m ops) s) (fun σ als ls m ops s => run R (.drawt σ als ls m ops) s) (fun _ ih s => ih ⟨s.F,s.H ++ [.cells true true []]⟩)
    (fun ss _ ih s => ih ⟨s.F,fzIds s.H (ss.flatMap fun i => bor frzN s.H (s.F.getD i .any))⟩) (fun i _ ih s => yCu i (fun v => ih ⟨s.F.set i v,fzIds s.H (bor frzN s.H (s.F.getD i .any))⟩) (frz frzN s.H (s.F.getD i .any))) (fun _ _ iha ihb s => yCt ihb (iha s)) (fun c _ _ iha ihb s => yAF (iha s) (ihb s) (xBP s.F c))
    (fun id _ ih s => xXI id (ih s)) (fun scr b _ s => R.loop scr b s) (fun f ps asg body _ _ s => run R (.range f ps asg body) s) (fun id s => some (.exit id,s)) (fun _ ih s => ih s)
    (fun s => some (.normal,s)) (fun s => some (.ret,s)) (fun _ => none) c
theorem xUo (x : Option St) : yA6 x = x.map fun s' => (.normal,s') := by cases x <;> rfl
theorem xUp (R : Rec) (c : ACode) : ∀ s,xXJ R c s = run R c s := by
  induction c <;> intro s
  case region ops => show yA6 (xIa R ops s) = _; simp only [run,xFu,xUo]
  case draw m ops =>
    show xYS R m ops s = _
    simp only [run,xYS,xIb,xFu,xUo]
    cases xA1 R (ops.take m) s <;> rfl
  case seq a b iha ihb =>
    show yCt (xXJ R b) (xXJ R a s) = _
    simp only [run,iha]
    cases run R a s with
    | none => rfl
    | some p =>
      obtain ⟨e,s'⟩ := p
      cases e with
      | normal => exact ihb s'
      | exit i => rfl
      | ret => rfl
  case cond c a b iha ihb =>
    show yAF (xXJ R a s) (xXJ R b s) (xBP s.F c) = _
    simp only [run,iha,ihb,xUd]
    cases opv s.F c <;> rfl
  case block id b ih =>
    show xXI id (xXJ R b s) = _
    simp only [run,ih]
    cases run R b s with
    | none => rfl
    | some p => obtain ⟨e,s'⟩ := p; cases e <;> rfl
  case scope b ih => exact ih s
  case fz ss b ih => exact ih _
  case hole b ih => exact ih _
  case fzs i b ih =>
    show yCu i _ _ = _
    simp only [run]
    cases frz frzN s.H (s.F.getD i .any) with
    | none => rfl
    | some v => exact ih _
  all_goals rfl
def yCY (fn : AFunc) : Option (AExit × St) → Option (AV × Heap)
  | some (.normal,s) | some (.ret,s) => (xBx fn.results s).map fun v => (v,s.H)
  | _ => none
noncomputable def xWk (R : Rec) (fn : AFunc) (args : List AV) (H : Heap) : Option (AV × Heap) := yCY fn (xXJ R fn.code (xLS fn args H))
theorem xQp (R : Rec) (fn : AFunc) (args : List AV) (H : Heap) : xWk R fn args H = xBE R fn args H := by
  unfold xWk xBE
  rw [xUp]
  cases run R fn.code (xLS fn args H) with
  | none => rfl
  | some p => obtain ⟨e,s'⟩ := p; cases e <;> rfl
def yCZ : Option (AV × Heap) → Option AV
  | some (r,H') => frz frzN H' r
  | none => Option.none
def xIc : List AV → Nat → List Nat → List AV
  | [],_,_ => []
  | v :: F,_,[] => v :: F
  | v :: F,i,s :: scr => if s = i then .any :: xIc F (i + 1) scr else v :: xIc F (i + 1) (s :: scr)
def asc : List Nat → Nat → Bool
  | [],_ => true
  | s :: r,lo => decide (lo ≤ s) && asc r (s + 1)
theorem xXK : ∀ {scr : List Nat} {lo : Nat},asc scr lo = true → ∀ s ∈ scr,lo ≤ s
  | [],_,_,s,h => by cases h
  | s0 :: r,lo,h,s,hs => by
    simp only [asc,Bool.and_eq_true,decide_eq_true_eq] at h
    rcases List.mem_cons.1 hs with rfl | hs
    · exact h.1
    · have := xXK h.2 s hs; omega
theorem xYT : ∀ {scr : List Nat} {lo lo' : Nat},asc scr lo = true → (∀ s ∈ scr,lo' ≤ s) → asc scr lo' = true
  | [],_,_,_,_ => rfl
  | s0 :: r,lo,lo',h,hl => by
    simp only [asc,Bool.and_eq_true,decide_eq_true_eq] at h ⊢
    exact ⟨hl s0 (by simp),h.2⟩
theorem xFv : ∀ (F : List AV) (i : Nat) (scr : List Nat),asc scr i = true → ∀ j,(xIc F i scr)[j]? = if i + j ∈ scr then (F[j]?).map (fun _ => AV.any) else F[j]?
  | [],i,scr,h,j => by simp [xIc]
  | v :: F,i,[],h,j => by simp [xIc]
  | v :: F,i,s :: scr,h,j => by
    have h' := h
    simp only [asc,Bool.and_eq_true,decide_eq_true_eq] at h'
    unfold xIc
    by_cases e : s = i
    · subst e
      rw [if_pos rfl]
      cases j with
      | zero => simp
      | succ j =>
        rw [List.getElem?_cons_succ,xFv F (s + 1) scr h'.2 j,List.getElem?_cons_succ]
        have : (s + 1 + j ∈ scr) ↔ (s + (j + 1) ∈ s :: scr) := by
          rw [show s + (j + 1) = s + 1 + j by omega,List.mem_cons]
          exact ⟨.inr,fun q => q.elim (fun q => by omega) id⟩
        simp only [this]
    · rw [if_neg e]
      have hm : ∀ x ∈ s :: scr,i + 1 ≤ x := fun x hx => by
        rcases List.mem_cons.1 hx with rfl | hx
        · omega
        · have := xXK h'.2 x hx; omega
      cases j with
      | zero =>
        have : ¬ (i + 0 ∈ s :: scr) := fun q => by have := hm _ q; omega
        rw [if_neg this]; rfl
      | succ j =>
        rw [List.getElem?_cons_succ,xFv F (i + 1) (s :: scr) (xYT h hm) j,List.getElem?_cons_succ]
        simp only [show i + (j + 1) = i + 1 + j by omega]
def xQq (scr : List Nat) (F : List AV) : List AV := if asc scr 0 then xIc F 0 scr else xAG scr F
theorem xNI (scr : List Nat) (F : List AV) : xQq scr F = xAG scr F := by
  unfold xQq
  split
  · rename_i h
    apply List.ext_getElem?
    intro j
    rw [xFv F 0 scr h j,xDW]
    simp only [Nat.zero_add]
  · rfl
noncomputable def xXL (R : Rec) (scr : List Nat) (b : ACode) : Option (AExit × St) → Option (AExit × St)
  | some (.normal,s') => R.loop scr b s'
  | some (e,s') => some (e,⟨xQq scr s'.F,s'.H⟩)
  | none => none
noncomputable def yAG (prog : Nat → Option AFunc) (R : Rec) (args : List AV) (H : Heap) : AV → Option (AV × Heap)
  | .func f caps => match prog f with
    | some fn => xWk R fn (args ++ caps) H
    | none => Option.none
  | f => xCN prog R f args H
noncomputable def xYU (prog : Nat → Option AFunc) (R : Rec) : Rec where
  pcall f args := match prog f with
    | some fn => yCZ (xWk R fn args [])
    | none => primA f args
  icall f args H := yAG prog R args H f
  loop scr b s := fS (xQq scr s.F) fun F => xXL R scr b (xXJ R b ⟨F,s.H⟩)
theorem xWl (prog : Nat → Option AFunc) (R : Rec) : xYU prog R = xCq prog R := by
  unfold xYU xCq
  congr 1
  · funext f args
    cases prog f with
    | none => rfl
    | some fn =>
      simp only [xAS,xQp]
      cases xBE R fn args [] <;> rfl
  · funext f args H
    unfold yAG
    split
    · rename_i g caps
      simp only [xCN,xQp]
      cases prog g <;> rfl
    · rfl
  · funext scr b s
    simp only [xG6,xUp,xWh,xNI]
    cases run R b ⟨xAG scr s.F,s.H⟩ with
    | none => rfl
    | some p => obtain ⟨e,s'⟩ := p; cases e <;> simp only [xXL,xNI]
noncomputable def yA7 (prog : Nat → Option AFunc) (T : Known) : Nat → Rec
  | 0 => Rec.none
  | n + 1 => xYV T (xYU prog (yA7 prog T n))
theorem xUq (prog : Nat → Option AFunc) (T : Known) : ∀ n,yA7 prog T n = xYW prog T n
  | 0 => rfl
  | n + 1 => by rw [yA7,xYW,xWl,xUq prog T n]
noncomputable def xUr (prog : Nat → Option AFunc) (T : Known) (n f : Nat) (args : List AV) (v : AV) : Bool := match (yA7 prog T n).pcall f args with
  | some u => xId 8 u v
  | none => false
theorem xRt {prog : Nat → Option AFunc} {T : Known} (hT : ∀ e ∈ T,(lim prog).pcall e.1 e.2.1 = some e.2.2) {n f : Nat} {args : List AV} {v : AV} (h : xUr prog T n f args v = true) : (lim prog).pcall f args = some v :=
  xUs hT (n := n) (by unfold xUr at h; rw [xUq] at h; exact h)
end Go.Abs
