/- The interpreter once more,its alternatives as functions of their own: what the kernel unfolds is small. -/
import Derived.Test.YtdkbhidfiplncaaAbsOver
namespace Go.Abs
set_option linter.unusedVariables false

noncomputable def yBg (F : List AV) : Nat → AV := List.rec (motive := fun _ => Nat → AV) (fun _ => .any) (fun v _ ih n => Nat.casesOn (motive := fun _ => AV) n v ih) F
noncomputable def yCu (x : AV) (F : List AV) : Nat → List AV := List.rec (motive := fun _ => Nat → List AV) (fun _ => []) (fun v F ih n => Nat.casesOn (motive := fun _ => List AV) n (x :: F) (fun m => v :: ih m)) F
theorem xSd : ∀ (F : List AV) (i : Nat),yBg F i = F.getD i .any
  | [],i => by simp [yBg]
  | v :: F,0 => rfl
  | v :: F,i + 1 => by
    show yBg F i = _
    rw [xSd F i]; simp
theorem xSe (x : AV) : ∀ (F : List AV) (i : Nat),yCu x F i = F.set i x
  | [],i => rfl
  | v :: F,0 => rfl
  | v :: F,i + 1 => by
    show v :: yCu x F i = _
    rw [xSe x F i]; rfl
noncomputable def xDN (F : List AV) : Arg → AV
  | .t i => yBg F i
  | .c v => v
theorem xSf : xDN = opv := by
  funext F x
  cases x with
  | t i => exact xSd F i
  | c v => rfl
noncomputable def yCv (F : List AV) (d : Option Nat) (v : AV) : List AV := match d with
  | some d => yCu v F d
  | none => F
theorem xSg : yCv = putA := by
  funext F d v
  cases d with
  | none => rfl
  | some d => exact xSe v F d

def xZS (opv : List AV → Arg → AV) (R : Rec) (F : List AV) (H : xAv) (x : Arg) : Option (AV × xAv) := some (opv F x,H)
def xXl (opv : List AV → Arg → AV) (R : Rec) (F : List AV) (H : xAv) (c : Arg) (a : Arg) (b : Arg) : Option (AV × xAv) := match opv F c with
    | .bool t => some (if t then opv F a else opv F b,H)
    | _ => none
def xZT (opv : List AV → Arg → AV) (R : Rec) (F : List AV) (H : xAv) (x : Arg) : Option (AV × xAv) := let cs := (opv F x).cells; if cs.all AV.isCell then some (.ptr H.length 0,H ++ [.cells false false cs]) else none
def xUe (opv : List AV → Arg → AV) (R : Rec) (F : List AV) (H : xAv) (z : List AV) (parts : List (Nat × Nat × Arg)) : Option (AV × xAv) :=
    (if parts.all (fun p => (opv F p.2.2).cells.length == p.2.1) then
      (xCm z (parts.map fun p => (p.1,(opv F p.2.2).cells))).map fun cs => (.agg cs,H) else none)
def xSh (opv : List AV → Arg → AV) (R : Rec) (F : List AV) (H : xAv) (fz : Bool) (z : List AV) (es : Nat) (n : Nat) (parts : List (Nat × Arg)) : Option (AV × xAv) :=
    (if parts.all (fun p => (opv F p.2).cells.length == es) then
      match xCm (xEE z n) (parts.map fun p => (p.1 * es,(opv F p.2).cells)) with
      | some cs => xFi fz false n es cs H
      | none => none
     else none)
def xXm (opv : List AV → Arg → AV) (R : Rec) (F : List AV) (H : xAv) (g : Bool) (n : Nat) (p : Arg) : Option (AV × xAv) := match rd H (opv F p) n with
    | some cs => (mkv g cs).map fun v => (v,H)
    | none => none
def xUf (opv : List AV → Arg → AV) (R : Rec) (F : List AV) (H : xAv) (n : Nat) (p : Arg) (v : Arg) : Option (AV × xAv) := let cs := (opv F v).cells; if cs.length = n then (wr H (opv F p) cs).map fun H' => (.tup [],H') else none
def xSi (opv : List AV → Arg → AV) (R : Rec) (F : List AV) (H : xAv) (x : Arg) : Option (AV × xAv) := match opv F x with
    | .ptr id off => some (.ptr id off,H)
    | .vptr cs off => some (.vptr cs off,H)
    | .func f caps => some (.func f caps,H)
    | .yield l => some (.yield l,H)
    | _ => none
def xZU (opv : List AV → Arg → AV) (R : Rec) (F : List AV) (H : xAv) (op : BinOp) (x : Arg) (y : Arg) : Option (AV × xAv) := (xE6 op (opv F x) (opv F y)).map fun v => (v,H)
def xZV (opv : List AV → Arg → AV) (R : Rec) (F : List AV) (H : xAv) (neg : Bool) (x : Arg) (y : Arg) : Option (AV × xAv) := match opv F x,opv F y with
    | .bool a,.bool b => some (.bool (if neg then a != b else a == b),H)
    | _,_ => none
def xUg (opv : List AV → Arg → AV) (R : Rec) (F : List AV) (H : xAv) (neg : Bool) (x : Arg) : Option (AV × xAv) := match opv F x with
    | .sl z _ _ => some (.bool (z != neg),H)
    | .own z _ _ _ _ => some (.bool (z != neg),H)
    | _ => none
def yCw (opv : List AV → Arg → AV) (R : Rec) (F : List AV) (H : xAv) (op : UnOp) (x : Arg) : Option (AV × xAv) := (unA op (opv F x)).map fun v => (v,H)
def xXn (opv : List AV → Arg → AV) (R : Rec) (F : List AV) (H : xAv) (k : IntKind) (x : Arg) : Option (AV × xAv) := match opv F x with
    | .int _ n => some (.int k (k.wrap n),H)
    | _ => none
def xSj (opv : List AV → Arg → AV) (R : Rec) (F : List AV) (H : xAv) (f : Nat) (caps : List Arg) : Option (AV × xAv) := some (.func f (caps.map (opv F)),H)
def xPY (opv : List AV → Arg → AV) (R : Rec) (F : List AV) (H : xAv) (fz : Bool) (z : List AV) (bytes : Nat) (l : Arg) (c : Arg) : Option (AV × xAv) := match opv F l,opv F c with
    | .int _ l,.int _ c => if 0 ≤ l ∧ l ≤ c ∧ c * bytes ≤ xCT ∧ c ≤ xCT ∧ z.all AV.isCell = true then xFi fz false l.toNat z.length (xEE z l.toNat) H else none
    | _,_ => none
def xUh (opv : List AV → Arg → AV) (R : Rec) (F : List AV) (H : xAv) (es : Nat) (x : Arg) (lo : Option Arg) (hi : Option Arg) (mx : Option Arg) : Option (AV × xAv) := match opv F x with
    | .sl z n cs => if cs.length = n * es then (xCO n (lo.map (opv F)) (hi.map (opv F)) (mx.map (opv F))).map fun (l,h) => (.sl z (h - l) ((cs.drop (l * es)).take ((h - l) * es)),H) else none
    | .own z id off n es' => if es' = es then (xCO n (lo.map (opv F)) (hi.map (opv F)) (mx.map (opv F))).map fun (l,h) => (.own z id (off + l * es) (h - l) es,H) else none
    | _ => none
def xUi (opv : List AV → Arg → AV) (R : Rec) (F : List AV) (H : xAv) (o : Nat) (x : Arg) : Option (AV × xAv) := match opv F x with
    | .ptr id off => some (.ptr id (off + o),H)
    | .vptr cs off => some (.vptr cs (off + o),H)
    | _ => none
def xUj (opv : List AV → Arg → AV) (R : Rec) (F : List AV) (H : xAv) (g : Bool) (off : Nat) (n : Nat) (x : Arg) : Option (AV × xAv) := match opv F x with
    | .agg cs => if off + n ≤ cs.length then (mkv g ((cs.drop off).take n)).map fun v => (v,H) else none
    | _ => none
def xUk (opv : List AV → Arg → AV) (R : Rec) (F : List AV) (H : xAv) (es : Nat) (x : Arg) (i : Arg) : Option (AV × xAv) := match opv F x,xCI (opv F i) with
    | .sl _ n cs,some i => if i < n then some (.vptr cs (i * es),H) else none
    | .own _ id off n es',some i => if i < n ∧ es' = es then some (.ptr id (off + i * es),H) else none
    | _,_ => none
def xZW (opv : List AV → Arg → AV) (R : Rec) (F : List AV) (H : xAv) (i : Nat) (x : Arg) : Option (AV × xAv) := match opv F x with
    | .tup vs => (vs[i]?).map fun v => (v,H)
    | _ => none
def xZX (opv : List AV → Arg → AV) (R : Rec) (F : List AV) (H : xAv) (x : Arg) : Option (AV × xAv) := match opv F x with
    | .sl _ n _ => some (.int .i64 n,H)
    | .own _ _ _ n _ => some (.int .i64 n,H)
    | _ => none
def xZY (opv : List AV → Arg → AV) (R : Rec) (F : List AV) (H : xAv) (x : Arg) : Option (AV × xAv) := match opv F x with
    | .sl true _ _ => some (.int .i64 0,H)
    | _ => none
def xZZ (opv : List AV → Arg → AV) (R : Rec) (F : List AV) (H : xAv) (neg : Bool) (n : Nat) (x : Arg) (y : Arg) : Option (AV × xAv) := match opv F x,opv F y with
    | .agg cs,.agg ds => if cs.length = n then (xDY cs ds).map fun b => (.bool (b != neg),H) else none
    | _,_ => none
def xSk (opv : List AV → Arg → AV) (R : Rec) (F : List AV) (H : xAv) (fz : Bool) (es : Nat) (bytes : Nat) (x : Arg) (y : Arg) : Option (AV × xAv) := match src H es (opv F y) with
    | none => none
    | some (m,ys) => match opv F x with
      | .sl true _ _ => if m * bytes ≤ xCT ∧ m ≤ xCT then xFi fz (m == 0) m es ys H else none
      | .own z id off n es' => match H[id]? with
        | some (.cells false _ cs) => if off = 0 ∧ es' = es ∧ n * es ≤ cs.length ∧ (n + m) * bytes ≤ xCT ∧ n + m ≤ xCT then
            some (.own (z && m == 0) H.length 0 (n + m) es,H.set id .dead ++ [.cells false (z && m == 0) (cs.take (n * es) ++ ys)]) else none
        | _ => none
      | _ => none
def xPZ (opv : List AV → Arg → AV) (R : Rec) (F : List AV) (H : xAv) (z : List AV) (bytes : Nat) (x : Arg) (n : Arg) : Option (AV × xAv) := match xCI (opv F n),opv F x with
    | some m,.sl true _ _ => if m * bytes ≤ xCT ∧ m ≤ xCT ∧ z.all AV.isCell = true then xFi false (m == 0) m z.length (xEE z m) H else none
    | _,_ => none
def xXo (opv : List AV → Arg → AV) (R : Rec) (F : List AV) (H : xAv) (_u0 : Nat) (_u1 : Arg) (_u2 : Arg) : Option (AV × xAv) := none
def xXp (opv : List AV → Arg → AV) (R : Rec) (F : List AV) (H : xAv) (x : Arg) (y : Arg) : Option (AV × xAv) := match opv F x,opv F y with
    | .int k a,.int _ b => some (.int k (if b > a then b else a),H)
    | _,_ => none
def xXq (opv : List AV → Arg → AV) (R : Rec) (F : List AV) (H : xAv) (x : Arg) (y : Arg) : Option (AV × xAv) := match opv F x,opv F y with
    | .int k a,.int _ b => some (.int k (if b < a then b else a),H)
    | _,_ => none
def xXr (opv : List AV → Arg → AV) (R : Rec) (F : List AV) (H : xAv) (f : Nat) (args : List Arg) : Option (AV × xAv) := xCZ R f (args.map (opv F)) H
def xUl (opv : List AV → Arg → AV) (R : Rec) (F : List AV) (H : xAv) (f : Arg) (args : List Arg) : Option (AV × xAv) := R.icall (opv F f) (args.map (opv F)) H
def xUm (opv : List AV → Arg → AV) (R : Rec) (F : List AV) (H : xAv) (f : Arg) (args : List Arg) : Option (AV × xAv) := match opv F f with
    | .func g caps => xCZ R g (args.map (opv F) ++ caps) H
    | _ => none
def xZ0 (opv : List AV → Arg → AV) (R : Rec) (F : List AV) (H : xAv) (g : Bool) (es : Nat) (len : Nat) (x : Arg) (i : Arg) : Option (AV × xAv) := match opv F x,xCI (opv F i) with
    | .agg cs,some j => if j < len ∧ j * es + es ≤ cs.length then (mkv g ((cs.drop (j * es)).take es)).map fun v => (v,H) else none
    | _,_ => none
def xUn (opv : List AV → Arg → AV) (R : Rec) (F : List AV) (H : xAv) (es : Nat) (len : Nat) (x : Arg) (i : Arg) : Option (AV × xAv) := match opv F x,xCI (opv F i) with
    | .ptr id off,some j => if j < len then some (.ptr id (off + j * es),H) else none
    | .vptr cs off,some j => if j < len then some (.vptr cs (off + j * es),H) else none
    | _,_ => none
def xXs (opv : List AV → Arg → AV) (R : Rec) (F : List AV) (H : xAv) (b : Nat) (es : Nat) (len : Nat) (i : Arg) : Option (AV × xAv) := match xPV b,xCI (opv F i) with
    | some cs,some j => if j < len then some (.vptr cs (j * es),H) else none
    | _,_ => none
def xXt (opv : List AV → Arg → AV) (R : Rec) (F : List AV) (H : xAv) (x : Arg) (i : Arg) : Option (AV × xAv) := match opv F x,xCI (opv F i) with
    | .str s,some j => (s[j]?).map fun b => (.int .u8 b.toNat,H)
    | _,_ => none
def xXu (opv : List AV → Arg → AV) (R : Rec) (F : List AV) (H : xAv) (x : Arg) : Option (AV × xAv) := match opv F x with
    | .str s => some (.int .i64 s.size,H)
    | _ => none
def yCx (opv : List AV → Arg → AV) (R : Rec) (F : List AV) (H : xAv) (mx : Bool) (xs : List Arg) : Option (AV × xAv) := match xs.map (opv F) with
    | [] => none
    | x :: r => (mmA mx x r).map fun v => (v,H)
def xSl (opv : List AV → Arg → AV) (R : Rec) (F : List AV) (H : xAv) (x : Arg) (lo : Option Arg) (hi : Option Arg) : Option (AV × xAv) := match opv F x with
    | .str s => (xCO s.size (lo.map (opv F)) (hi.map (opv F)) none).map fun (l,h) => (.str (s.extract l h),H)
    | _ => none
def xXv (opv : List AV → Arg → AV) (R : Rec) (F : List AV) (H : xAv) (neg : Bool) (x : Arg) (y : Arg) : Option (AV × xAv) := match opv F x,opv F y with
    | .str s,.str t => some (.bool ((s.toList == t.toList) != neg),H)
    | _,_ => none
def xP0 (opv : List AV → Arg → AV) (R : Rec) (F : List AV) (H : xAv) (f : Nat) (first : List Arg) : Option (AV × xAv) := some (.bfunc f (first.map (opv F)),H)
def xUo (opv : List AV → Arg → AV) (R : Rec) (F : List AV) (H : xAv) (f : Arg) (args : List Arg) : Option (AV × xAv) := match opv F f with
    | .bfunc g first => R.icall (.func g []) (first ++ args.map (opv F)) H
    | _ => none
def xUp (opv : List AV → Arg → AV) (R : Rec) (F : List AV) (H : xAv)  : Option (AV × xAv) := some (.mp H.length,H ++ [.mp []])
def xUq (opv : List AV → Arg → AV) (R : Rec) (F : List AV) (H : xAv) (ks : List Nat) (comma : Bool) (z : AV) (x : Arg) (k : Arg) : Option (AV × xAv) := if xDC ks (opv F k) then match xPW H (opv F x) with
    | none => none
    | some es => match xI8 (opv F k) es with
      | none => none
      | some none => some (if comma then .tup [z,.bool false] else z,H)
      | some (some v) => some (if comma then .tup [v,.bool true] else v,H)
    else none
def xXw (opv : List AV → Arg → AV) (R : Rec) (F : List AV) (H : xAv) (ks : List Nat) (m : Arg) (k : Arg) (v : Arg) : Option (AV × xAv) := if xDC ks (opv F k) then match opv F m with
    | .mp id => match H[id]? with
      | some (.mp es) => (xQh (opv F k) (opv F v) es).map fun es' => (.tup [],H.set id (.mp es'))
      | _ => none
    | _ => none
    else none
def xXx (opv : List AV → Arg → AV) (R : Rec) (F : List AV) (H : xAv) (x : Arg) : Option (AV × xAv) := (xPW H (opv F x)).map fun es => (.int .i64 es.length,H)
def xXy (opv : List AV → Arg → AV) (R : Rec) (F : List AV) (H : xAv) (neg : Bool) (x : Arg) : Option (AV × xAv) := match opv F x with
    | .nilm => some (.bool (true != neg),H)
    | .mp _ => some (.bool (false != neg),H)
    | _ => none
def xSm (opv : List AV → Arg → AV) (R : Rec) (F : List AV) (H : xAv) (fz : Bool) (x : Arg) : Option (AV × xAv) := match opv F x with
    | .str s => xFi fz false s.size 1 (xDq s) H
    | _ => none
def xXz (opv : List AV → Arg → AV) (R : Rec) (F : List AV) (H : xAv) (x : Arg) : Option (AV × xAv) := match src H 1 (opv F x) with
    | some (_,cs) => (xM1 cs).map fun bs => (.str ⟨⟨bs⟩⟩,H)
    | none => none
def xXA (opv : List AV → Arg → AV) (R : Rec) (F : List AV) (H : xAv) (x : Arg) (y : Arg) : Option (AV × xAv) := match opv F x,opv F y with
    | .str s,.str t => if s.size + t.size ≤ 9223372036854775807 then some (.str ⟨⟨s.data.toList ++ t.data.toList⟩⟩,H) else none
    | _,_ => none
def xUr (opv : List AV → Arg → AV) (R : Rec) (F : List AV) (H : xAv) (f : Nat) (args : List Arg) : Option (AV × xAv) := match (args.map (opv F)).mapM (frz xBP H) with
    | none => none
    | some args' => match xD2 R f args' with
      | none => none
      | some (v,B) => some (xDZ H.length v,xCE H ((args.map (opv F)).flatMap (bor xBP H)) ++ B)
def xSn (opv : List AV → Arg → AV) (R : Rec) (F : List AV) (H : xAv) (f : Nat) (args : List Arg) : Option (AV × xAv) := match (args.map (opv F)).mapM (frz xBP H) with
    | none => none
    | some args' => match xDD R f args' with
      | none => none
      | some (v,B) => some (xDZ H.length v,xCE H ((args.map (opv F)).flatMap (bor xBP H)) ++ B.map (xCU H.length))

noncomputable def xKR (R : Rec) (F : List AV) (H : xAv) : AOp → Option (AV × xAv)
  | .mov x => xZS xDN R F H x
  | .pick c a b => xXl xDN R F H c a b
  | .box x => xZT xDN R F H x
  | .build z parts => xUe xDN R F H z parts
  | .bslice fz z es n parts => xSh xDN R F H fz z es n parts
  | .load g n p => xXm xDN R F H g n p
  | .store n p v => xUf xDN R F H n p v
  | .nilchk x => xSi xDN R F H x
  | .bin op x y => xZU xDN R F H op x y
  | .beq neg x y => xZV xDN R F H neg x y
  | .isnil neg x => xUg xDN R F H neg x
  | .un op x => yCw xDN R F H op x
  | .conv k x => xXn xDN R F H k x
  | .mkfunc f caps => xSj xDN R F H f caps
  | .mkslice fz z bytes l c => xPY xDN R F H fz z bytes l c
  | .slice es x lo hi mx => xUh xDN R F H es x lo hi mx
  | .faddr o x => xUi xDN R F H o x
  | .field g off n x => xUj xDN R F H g off n x
  | .iaddr es x i => xUk xDN R F H es x i
  | .ext i x => xZW xDN R F H i x
  | .len x => xZX xDN R F H x
  | .cap x => xZY xDN R F H x
  | .aeq neg n x y => xZZ xDN R F H neg n x y
  | .append fz es bytes x y => xSk xDN R F H fz es bytes x y
  | .appendz z bytes x n => xPZ xDN R F H z bytes x n
  | .copy _u0 _u1 _u2 => xXo xDN R F H _u0 _u1 _u2
  | .maxi x y => xXp xDN R F H x y
  | .mini x y => xXq xDN R F H x y
  | .call f args => xXr xDN R F H f args
  | .icall f args => xUl xDN R F H f args
  | .fcall f args => xUm xDN R F H f args
  | .idx g es len x i => xZ0 xDN R F H g es len x i
  | .arrat es len x i => xUn xDN R F H es len x i
  | .garr b es len i => xXs xDN R F H b es len i
  | .sidx x i => xXt xDN R F H x i
  | .slen x => xXu xDN R F H x
  | .mm mx xs => yCx xDN R F H mx xs
  | .sslice x lo hi => xSl xDN R F H x lo hi
  | .sbeq neg x y => xXv xDN R F H neg x y
  | .mkbound f first => xP0 xDN R F H f first
  | .bcall f args => xUo xDN R F H f args
  | .mkmap  => xUp xDN R F H 
  | .mlook ks comma z x k => xUq xDN R F H ks comma z x k
  | .mupd ks m k v => xXw xDN R F H ks m k v
  | .mlen x => xXx xDN R F H x
  | .mnil neg x => xXy xDN R F H neg x
  | .sbytes fz x => xSm xDN R F H fz x
  | .bstr x => xXz xDN R F H x
  | .sadd x y => xXA xDN R F H x y
  | .ocall f args => xUr xDN R F H f args
  | .ocallw f args => xSn xDN R F H f args

theorem xKh (R : Rec) (F : List AV) (H : xAv) (op : AOp) : xKR R F H op = xAn R F H op := by
  cases op <;> simp only [xKR,xSf] <;> rfl

def fN {α : Type} (a : Nat) (k : Nat → α) : α := match a with
  | 0 => k 0
  | n + 1 => k (n + 1)
theorem xZ1 {α : Type} (a : Nat) (k : Nat → α) : fN a k = k a := by cases a <;> rfl
def fI {α : Type} (x : Int) (k : Int → α) : α := match x with
  | .ofNat a => fN a fun a => k (.ofNat a)
  | .negSucc a => fN a fun a => k (.negSucc a)
theorem yCy {α : Type} (x : Int) (k : Int → α) : fI x k = k x := by cases x <;> simp only [fI,xZ1]
def fBo {α : Type} (x : Bool) (k : Bool → α) : α := match x with
  | true => k true
  | false => k false
theorem xZ2 {α : Type} (x : Bool) (k : Bool → α) : fBo x k = k x := by cases x <;> rfl
def fV {α : Type} (v : AV) (k : AV → α) : α := match v with
  | .int kd n => fI n fun n => k (.int kd n)
  | .bool b => fBo b fun b => k (.bool b)
  | .ptr i o => fN i fun i => fN o fun o => k (.ptr i o)
  | .own z i o n e => fBo z fun z => fN i fun i => fN o fun o => fN n fun n => fN e fun e => k (.own z i o n e)
  | .sl z n cs => fN n fun n => k (.sl z n cs)
  | v => k v
theorem xXB {α : Type} (v : AV) (k : AV → α) : fV v k = k v := by
  cases v <;> simp only [fV,yCy,xZ2,xZ1]
noncomputable def fS {α : Type} (l : List AV) : (List AV → α) → α := List.rec (motive := fun _ => (List AV → α) → α) (fun k => k []) (fun v _ ih k => ih fun vs => k (v :: vs)) l
theorem xUs {α : Type} : ∀ (l : List AV) (k : List AV → α),fS l k = k l
  | [],k => rfl
  | v :: vs,k => by
    show fS vs (fun vs => k (v :: vs)) = _
    rw [xUs vs]
def fL {α : Type} : List AV → (List AV → α) → α
  | [],k => k []
  | v :: vs,k => fV v fun v => fL vs fun vs => k (v :: vs)
theorem xZ3 {α : Type} : ∀ (l : List AV) (k : List AV → α),fL l k = k l
  | [],k => rfl
  | v :: vs,k => by rw [fL,xXB,xZ3 vs]
def fB {α : Type} (b : Blk) (k : Blk → α) : α := match b with
  | .cells fz z cs => fL cs fun cs => k (.cells fz z cs)
  | b => k b
theorem yCz {α : Type} (b : Blk) (k : Blk → α) : fB b k = k b := by
  cases b <;> first | rfl | simp only [fB,xZ3]
noncomputable def fAt {α : Type} (l : List Blk) : Nat → (List Blk → α) → α := List.rec (motive := fun _ => Nat → (List Blk → α) → α) (fun _ k => k []) (fun b bs ih n k => Nat.casesOn (motive := fun _ => α) n (fB b fun b => k (b :: bs)) (fun m => ih m fun bs => k (b :: bs))) l
theorem xVF {α : Type} : ∀ (l : List Blk) (n : Nat) (k : List Blk → α),fAt l n k = k l
  | [],n,k => rfl
  | b :: bs,0,k => by
    show fB b (fun b => k (b :: bs)) = _
    rw [yCz]
  | b :: bs,n + 1,k => by
    show fAt bs n (fun bs => k (b :: bs)) = _
    rw [xVF bs]
noncomputable def yE6 (l : List Blk) : Nat := List.rec (motive := fun _ => Nat) 0 (fun _ _ n => n + 1) l
noncomputable def yCA (F : List AV) (H : List Blk) : AOp → Nat
  | .store _ p _ => match xDN F p with
    | .ptr id _ => id
    | _ => 0
  | _ => yE6 H
def xZ4 : AOp → Bool
  | .mov _ | .pick .. | .bin .. | .beq .. | .aeq .. | .un .. | .conv .. | .ext .. | .faddr .. | .field .. | .iaddr .. | .len _ | .cap _ | .isnil .. | .maxi .. | .mini .. | .nilchk _ | .mkfunc .. | .slice .. | .idx .. | .arrat .. | .garr .. | .sidx .. | .slen .. | .mm .. | .sslice .. | .sbeq .. | .mkbound .. | .load .. | .build .. | .mlook .. | .mlen _ | .mnil .. => true
  | _ => false
noncomputable def xXC (d : Option Nat) (F : List AV) (keep : Bool) (sp : Nat) : Option (AV × xAv) → Option St
  | some (v,H) => fV v fun v => fS (yCv F d v) fun F => if keep then some ⟨F,H⟩ else fAt H sp fun H => some ⟨F,H⟩
  | none => none
theorem xUt (d : Option Nat) (F : List AV) (keep : Bool) (sp : Nat) (x : Option (AV × xAv)) : xXC d F keep sp x = x.map fun (v,H) => ⟨putA F d v,H⟩ := by
  cases x with
  | none => rfl
  | some p =>
    obtain ⟨v,H⟩ := p
    simp only [xXC,xXB,xUs,xVF,ite_self,xSg]
    rfl
def xZ5 (o : AOper) (s : St) (r : Option St) : Option Bool → Option St
  | none => none
  | some false => some ⟨putA s.F o.dst (.tup []),s.H⟩
  | some true => r
noncomputable def xG4 (R : Rec) (o : AOper) (s : St) : Option St := xZ5 o s (xXC o.dst s.F (xZ4 o.op) (yCA s.F s.H o.op) (xKR R s.F s.H o.op)) (xDz s.F o.guard)
theorem xM4 (R : Rec) (o : AOper) (s : St) : xG4 R o s = xBU R o s := by
  unfold xG4 xBU
  rw [xKh,xUt]
  split <;> rename_i e <;> rw [e] <;> rfl

noncomputable def xUu (k : St → Option St) : Option St → Option St
  | some s => k s
  | none => none
noncomputable def xJe (R : Rec) (ops : List AOper) : St → Option St := List.rec (motive := fun _ => St → Option St) (fun s => some s) (fun o _ ih s => xUu ih (xG4 R o s)) ops
theorem xHt (R : Rec) : ∀ (ops : List AOper) (s : St),xJe R ops s = xBO R ops s
  | [],s => rfl
  | o :: rest,s => by
    show xUu (xJe R rest) (xG4 R o s) = _
    simp only [xBO,xM4]
    cases xBU R o s with
    | none => rfl
    | some s' => exact xHt R rest s'

def xXD : AOp → Bool
  | .call .. | .fcall .. | .append .. | .box .. | .bslice .. | .mkslice .. | .appendz .. | .copy .. | .icall .. | .bcall .. | .store .. | .ocall .. | .ocallw .. | .mkmap | .mupd .. | .sbytes .. => true
  | _ => false
noncomputable def xNY (R : Rec) (F : List AV) (H : xAv) (op : AOp) : Option AV := if xXD op then xBD R F H op else (xKR R F H op).map (·.1)
theorem xP1 (R : Rec) (F : List AV) (H : xAv) (op : AOp) : xNY R F H op = xBD R F H op := by
  unfold xNY
  rw [xKh]
  cases op <;> rfl
noncomputable def frF (d : Option Nat) (s : St) : Option AV → Option St
  | some v => fV v fun v => fS (yCv s.F d v) fun F => some ⟨F,s.H⟩
  | none => none
theorem xZ6 (d : Option Nat) (s : St) (x : Option AV) : frF d s x = x.map fun v => ⟨putA s.F d v,s.H⟩ := by
  cases x with
  | none => rfl
  | some v => simp only [frF,xXB,xUs,xSg]; rfl
noncomputable def xG5 (R : Rec) (o : AOper) (s : St) : Option St := xZ5 o s (frF o.dst s (xNY R s.F s.H o.op)) (xDz s.F o.guard)
theorem xM5 (R : Rec) (o : AOper) (s : St) : xG5 R o s = xB5 R o s := by
  unfold xG5 xB5
  rw [xP1,xZ6]
  split <;> rename_i e <;> rw [e] <;> rfl
noncomputable def xKS (R : Rec) (ops : List AOper) : St → Option St := List.rec (motive := fun _ => St → Option St) (fun s => some s) (fun o _ ih s => xUu ih (xG5 R o s)) ops
theorem xJf (R : Rec) : ∀ (ops : List AOper) (s : St),xKS R ops s = xCB R ops s
  | [],s => rfl
  | o :: rest,s => by
    show xUu (xKS R rest) (xG5 R o s) = _
    simp only [xCB,xM5]
    cases xB5 R o s with
    | none => rfl
    | some s' => exact xJf R rest s'

noncomputable def yD9 (k : St → Option (AExit × St)) : Option (AExit × St) → Option (AExit × St)
  | some (.normal,s') => k s'
  | r => r
noncomputable def xZ7 (x y : Option (AExit × St)) : AV → Option (AExit × St)
  | .bool t => if t then x else y
  | _ => none
def xVG (id : Nat) : Option (AExit × St) → Option (AExit × St)
  | some (.exit i,s') => if i = id then some (.normal,s') else some (.exit i,s')
  | r => r
def yBh : Option St → Option (AExit × St)
  | some s => some (.normal,s)
  | none => none
noncomputable def xXE (R : Rec) (m : Nat) (ops : List AOper) (s : St) : Option (AExit × St) := match xKS R (ops.take m) s with
  | none => none
  | some s1 => yBh (xJe R (ops.drop m) (xCf (ops.take m) s1))
def yEa (i : Nat) (k : AV → Option (AExit × St)) : Option AV → Option (AExit × St)
  | some v => k v
  | none => none
noncomputable def xVH (R : Rec) (c : ACode) : St → Option (AExit × St) :=
  ACode.rec (motive := fun _ => St → Option (AExit × St))
    (fun s => some (.normal,s)) (fun ops s => yBh (xJe R ops s)) (fun m ops s => xXE R m ops s) (fun ls m ops s => run R (.drawl ls m ops) s)
    (fun als ls m ops s => run R (.drawp als ls m ops) s) (fun hs als ls m ops s => run R (.drawh hs als ls m ops) s)
    (fun ss _ ih s => ih ⟨s.F,xCE s.H (ss.flatMap fun i => bor xBP s.H (s.F.getD i .any))⟩) (fun i _ ih s => yEa i (fun v => ih ⟨s.F.set i v,xCE s.H (bor xBP s.H (s.F.getD i .any))⟩) (frz xBP s.H (s.F.getD i .any))) (fun _ _ iha ihb s => yD9 ihb (iha s)) (fun c _ _ iha ihb s => xZ7 (iha s) (ihb s) (xDN s.F c))
    (fun id _ ih s => xVG id (ih s)) (fun scr b _ s => R.loop scr b s) (fun f ps asg body _ _ s => run R (.range f ps asg body) s) (fun id s => some (.exit id,s)) (fun _ ih s => ih s)
    (fun s => some (.normal,s)) (fun s => some (.ret,s)) (fun _ => none) c
theorem xSo (x : Option St) : yBh x = x.map fun s' => (.normal,s') := by cases x <;> rfl
theorem xSp (R : Rec) (c : ACode) : ∀ s,xVH R c s = run R c s := by
  induction c <;> intro s
  case region ops => show yBh (xJe R ops s) = _; simp only [run,xHt,xSo]
  case draw m ops =>
    show xXE R m ops s = _
    simp only [run,xXE,xJf,xHt,xSo]
    cases xCB R (ops.take m) s <;> rfl
  case seq a b iha ihb =>
    show yD9 (xVH R b) (xVH R a s) = _
    simp only [run,iha]
    cases run R a s with
    | none => rfl
    | some p =>
      obtain ⟨e,s'⟩ := p
      cases e with
      | normal => exact ihb s'
      | exit i => rfl
      | ret => rfl
  case cond c a b iha ihb =>
    show xZ7 (xVH R a s) (xVH R b s) (xDN s.F c) = _
    simp only [run,iha,ihb,xSf]
    cases opv s.F c <;> rfl
  case block id b ih =>
    show xVG id (xVH R b s) = _
    simp only [run,ih]
    cases run R b s with
    | none => rfl
    | some p => obtain ⟨e,s'⟩ := p; cases e <;> rfl
  case scope b ih => exact ih s
  case fz ss b ih => exact ih _
  case fzs i b ih =>
    show yEa i _ _ = _
    simp only [run]
    cases frz xBP s.H (s.F.getD i .any) with
    | none => rfl
    | some v => exact ih _
  all_goals rfl

def yE7 (fn : AFunc) : Option (AExit × St) → Option (AV × xAv)
  | some (.normal,s) | some (.ret,s) => (xDd fn.results s).map fun v => (v,s.H)
  | _ => none
noncomputable def xUv (R : Rec) (fn : AFunc) (args : List AV) (H : xAv) : Option (AV × xAv) := yE7 fn (xVH R fn.code (xM2 fn args H))
theorem xO6 (R : Rec) (fn : AFunc) (args : List AV) (H : xAv) : xUv R fn args H = xBN R fn args H := by
  unfold xUv xBN
  rw [xSp]
  cases run R fn.code (xM2 fn args H) with
  | none => rfl
  | some p => obtain ⟨e,s'⟩ := p; cases e <;> rfl
def yE8 : Option (AV × xAv) → Option AV
  | some (r,H') => frz xBP H' r
  | none => Option.none
def xJg : List AV → Nat → List Nat → List AV
  | [],_,_ => []
  | v :: F,_,[] => v :: F
  | v :: F,i,s :: scr => if s = i then .any :: xJg F (i + 1) scr else v :: xJg F (i + 1) (s :: scr)
def asc : List Nat → Nat → Bool
  | [],_ => true
  | s :: r,lo => decide (lo ≤ s) && asc r (s + 1)
theorem xVI : ∀ {scr : List Nat} {lo : Nat},asc scr lo = true → ∀ s ∈ scr,lo ≤ s
  | [],_,_,s,h => by cases h
  | s0 :: r,lo,h,s,hs => by
    simp only [asc,Bool.and_eq_true,decide_eq_true_eq] at h
    rcases List.mem_cons.1 hs with rfl | hs
    · exact h.1
    · have := xVI h.2 s hs; omega
theorem xXF : ∀ {scr : List Nat} {lo lo' : Nat},asc scr lo = true → (∀ s ∈ scr,lo' ≤ s) → asc scr lo' = true
  | [],_,_,_,_ => rfl
  | s0 :: r,lo,lo',h,hl => by
    simp only [asc,Bool.and_eq_true,decide_eq_true_eq] at h ⊢
    exact ⟨hl s0 (by simp),h.2⟩
theorem xHu : ∀ (F : List AV) (i : Nat) (scr : List Nat),asc scr i = true → ∀ j,(xJg F i scr)[j]? = if i + j ∈ scr then (F[j]?).map (fun _ => AV.any) else F[j]?
  | [],i,scr,h,j => by simp [xJg]
  | v :: F,i,[],h,j => by simp [xJg]
  | v :: F,i,s :: scr,h,j => by
    have h' := h
    simp only [asc,Bool.and_eq_true,decide_eq_true_eq] at h'
    unfold xJg
    by_cases e : s = i
    · subst e
      rw [if_pos rfl]
      cases j with
      | zero => simp
      | succ j =>
        rw [List.getElem?_cons_succ,xHu F (s + 1) scr h'.2 j,List.getElem?_cons_succ]
        have : (s + 1 + j ∈ scr) ↔ (s + (j + 1) ∈ s :: scr) := by
          rw [show s + (j + 1) = s + 1 + j by omega,List.mem_cons]
          exact ⟨.inr,fun q => q.elim (fun q => by omega) id⟩
        simp only [this]
    · rw [if_neg e]
      have hm : ∀ x ∈ s :: scr,i + 1 ≤ x := fun x hx => by
        rcases List.mem_cons.1 hx with rfl | hx
        · omega
        · have := xVI h'.2 x hx; omega
      cases j with
      | zero =>
        have : ¬ (i + 0 ∈ s :: scr) := fun q => by have := hm _ q; omega
        rw [if_neg this]; rfl
      | succ j =>
        rw [List.getElem?_cons_succ,xHu F (i + 1) (s :: scr) (xXF h hm) j,List.getElem?_cons_succ]
        simp only [show i + (j + 1) = i + 1 + j by omega]
def xO7 (scr : List Nat) (F : List AV) : List AV := if asc scr 0 then xJg F 0 scr else xBs scr F
theorem xM6 (scr : List Nat) (F : List AV) : xO7 scr F = xBs scr F := by
  unfold xO7
  split
  · rename_i h
    apply List.ext_getElem?
    intro j
    rw [xHu F 0 scr h j,xFM]
    simp only [Nat.zero_add]
  · rfl
noncomputable def xVJ (R : Rec) (scr : List Nat) (b : ACode) : Option (AExit × St) → Option (AExit × St)
  | some (.normal,s') => R.loop scr b s'
  | some (e,s') => some (e,⟨xO7 scr s'.F,s'.H⟩)
  | none => none
noncomputable def xZ8 (prog : Nat → Option AFunc) (R : Rec) (args : List AV) (H : xAv) : AV → Option (AV × xAv)
  | .func f caps => match prog f with
    | some fn => xUv R fn (args ++ caps) H
    | none => Option.none
  | f => xES prog R f args H
noncomputable def xXG (prog : Nat → Option AFunc) (R : Rec) : Rec where
  pcall f args := match prog f with
    | some fn => yE8 (xUv R fn args [])
    | none => Option.none
  icall f args H := xZ8 prog R args H f
  loop scr b s := fS (xO7 scr s.F) fun F => xVJ R scr b (xVH R b ⟨F,s.H⟩)
theorem xUw (prog : Nat → Option AFunc) (R : Rec) : xXG prog R = xEH prog R := by
  unfold xXG xEH
  congr 1
  · funext f args
    cases prog f with
    | none => rfl
    | some fn =>
      simp only [xBr,xO6]
      cases xBN R fn args [] <;> rfl
  · funext f args H
    unfold xZ8
    split
    · rename_i g caps
      simp only [xES,xO6]
      cases prog g <;> rfl
    · rfl
  · funext scr b s
    simp only [xJc,xSp,xUs,xM6]
    cases run R b ⟨xBs scr s.F,s.H⟩ with
    | none => rfl
    | some p => obtain ⟨e,s'⟩ := p; cases e <;> simp only [xVJ,xM6]
noncomputable def yBi (prog : Nat → Option AFunc) (T : Known) : Nat → Rec
  | 0 => Rec.none
  | n + 1 => xXH T (xXG prog (yBi prog T n))
theorem xSq (prog : Nat → Option AFunc) (T : Known) : ∀ n,yBi prog T n = xXI prog T n
  | 0 => rfl
  | n + 1 => by rw [yBi,xXI,xUw,xSq prog T n]
noncomputable def xSr (prog : Nat → Option AFunc) (T : Known) (n f : Nat) (args : List AV) (v : AV) : Bool := match (yBi prog T n).pcall f args with
  | some u => xJh 8 u v
  | none => false
theorem xCl {prog : Nat → Option AFunc} {T : Known} (hT : ∀ e ∈ T,(lim prog).pcall e.1 e.2.1 = some e.2.2) {n f : Nat} {args : List AV} {v : AV} (h : xSr prog T n f args v = true) : (lim prog).pcall f args = some v :=
  xSs hT (n := n) (by unfold xSr at h; rw [xSq] at h; exact h)
end Go.Abs
