/- The interpreter once more, its alternatives as functions of their own: what the kernel unfolds is small. -/
import Derived.Test.YtdkbhidfiplncaaAbsOver
namespace Go.Abs
set_option linter.unusedVariables false

noncomputable def yCb (F : List AV) : Nat → AV := List.rec (motive := fun _ => Nat → AV) (fun _ => .any) (fun v _ ih n => Nat.casesOn (motive := fun _ => AV) n v ih) F
noncomputable def yDf (x : AV) (F : List AV) : Nat → List AV := List.rec (motive := fun _ => Nat → List AV) (fun _ => []) (fun v F ih n => Nat.casesOn (motive := fun _ => List AV) n (x :: F) (fun m => v :: ih m)) F
theorem xSc : ∀ (F : List AV) (i : Nat), yCb F i = F.getD i .any
  | [], i => by simp [yCb]
  | v :: F, 0 => rfl
  | v :: F, i + 1 => by
    show yCb F i = _
    rw [xSc F i]; simp
theorem xSd (x : AV) : ∀ (F : List AV) (i : Nat), yDf x F i = F.set i x
  | [], i => rfl
  | v :: F, 0 => rfl
  | v :: F, i + 1 => by
    show v :: yDf x F i = _
    rw [xSd x F i]; rfl
noncomputable def xDI (F : List AV) : Arg → AV
  | .t i => yCb F i
  | .c v => v
theorem xSe : xDI = opv := by
  funext F x
  cases x with
  | t i => exact xSc F i
  | c v => rfl
noncomputable def yDg (F : List AV) (d : Option Nat) (v : AV) : List AV := match d with
  | some d => yDf v F d
  | none => F
theorem xSf : yDg = putA := by
  funext F d v
  cases d with
  | none => rfl
  | some d => exact xSd v F d

def yAy (opv : List AV → Arg → AV) (R : Rec) (F : List AV) (H : xAu) (x : Arg) : Option (AV × xAu) := some (opv F x, H)
def xXC (opv : List AV → Arg → AV) (R : Rec) (F : List AV) (H : xAu) (c : Arg) (a : Arg) (b : Arg) : Option (AV × xAu) := match opv F c with
    | .bool t => some (if t then opv F a else opv F b, H)
    | _ => none
def yAz (opv : List AV → Arg → AV) (R : Rec) (F : List AV) (H : xAu) (x : Arg) : Option (AV × xAu) := let cs := (opv F x).cells; if cs.all AV.isCell then some (.ptr H.length 0, H ++ [.cells false false cs]) else none
def xUp (opv : List AV → Arg → AV) (R : Rec) (F : List AV) (H : xAu) (z : List AV) (parts : List (Nat × Nat × Arg)) : Option (AV × xAu) :=
    (if parts.all (fun p => (opv F p.2.2).cells.length == p.2.1) then
      (xCd z (parts.map fun p => (p.1, (opv F p.2.2).cells))).map fun cs => (.agg cs, H) else none)
def xSg (opv : List AV → Arg → AV) (R : Rec) (F : List AV) (H : xAu) (fz : Bool) (z : List AV) (es : Nat) (n : Nat) (parts : List (Nat × Arg)) : Option (AV × xAu) :=
    (if parts.all (fun p => (opv F p.2).cells.length == es) then
      match xCd (xEf z n) (parts.map fun p => (p.1 * es, (opv F p.2).cells)) with
      | some cs => xFj fz false n es cs H
      | none => none
     else none)
def xXD (opv : List AV → Arg → AV) (R : Rec) (F : List AV) (H : xAu) (g : Bool) (n : Nat) (p : Arg) : Option (AV × xAu) := match rd H (opv F p) n with
    | some cs => (mkv g cs).map fun v => (v, H)
    | none => none
def xUq (opv : List AV → Arg → AV) (R : Rec) (F : List AV) (H : xAu) (n : Nat) (p : Arg) (v : Arg) : Option (AV × xAu) := let cs := (opv F v).cells; if cs.length = n then (wr H (opv F p) cs).map fun H' => (.tup [], H') else none
def xSh (opv : List AV → Arg → AV) (R : Rec) (F : List AV) (H : xAu) (x : Arg) : Option (AV × xAu) := match opv F x with
    | .ptr id off => some (.ptr id off, H)
    | .vptr cs off => some (.vptr cs off, H)
    | .func f caps => some (.func f caps, H)
    | .yield l => some (.yield l, H)
    | _ => none
def yAA (opv : List AV → Arg → AV) (R : Rec) (F : List AV) (H : xAu) (op : BinOp) (x : Arg) (y : Arg) : Option (AV × xAu) := (xEY op (opv F x) (opv F y)).map fun v => (v, H)
def yAB (opv : List AV → Arg → AV) (R : Rec) (F : List AV) (H : xAu) (neg : Bool) (x : Arg) (y : Arg) : Option (AV × xAu) := match opv F x, opv F y with
    | .bool a, .bool b => some (.bool (if neg then a != b else a == b), H)
    | _, _ => none
def xUr (opv : List AV → Arg → AV) (R : Rec) (F : List AV) (H : xAu) (neg : Bool) (x : Arg) : Option (AV × xAu) := match opv F x with
    | .sl z _ _ => some (.bool (z != neg), H)
    | .own z _ _ _ _ => some (.bool (z != neg), H)
    | _ => none
def yDh (opv : List AV → Arg → AV) (R : Rec) (F : List AV) (H : xAu) (op : UnOp) (x : Arg) : Option (AV × xAu) := (unA op (opv F x)).map fun v => (v, H)
def xXE (opv : List AV → Arg → AV) (R : Rec) (F : List AV) (H : xAu) (k : IntKind) (x : Arg) : Option (AV × xAu) := match opv F x with
    | .int _ n => some (.int k (k.wrap n), H)
    | _ => none
def xSi (opv : List AV → Arg → AV) (R : Rec) (F : List AV) (H : xAu) (f : Nat) (caps : List Arg) : Option (AV × xAu) := some (.func f (caps.map (opv F)), H)
def xP8 (opv : List AV → Arg → AV) (R : Rec) (F : List AV) (H : xAu) (fz : Bool) (z : List AV) (bytes : Nat) (l : Arg) (c : Arg) : Option (AV × xAu) := match opv F l, opv F c with
    | .int _ l, .int _ c => if 0 ≤ l ∧ l ≤ c ∧ c * bytes ≤ xCX ∧ c ≤ xCX ∧ z.all AV.isCell = true then xFj fz false l.toNat z.length (xEf z l.toNat) H else none
    | _, _ => none
def xUs (opv : List AV → Arg → AV) (R : Rec) (F : List AV) (H : xAu) (es : Nat) (x : Arg) (lo : Option Arg) (hi : Option Arg) (mx : Option Arg) : Option (AV × xAu) := match opv F x with
    | .sl z n cs => if cs.length = n * es then (xCP n (lo.map (opv F)) (hi.map (opv F)) (mx.map (opv F))).map fun (l, h) => (.sl z (h - l) ((cs.drop (l * es)).take ((h - l) * es)), H) else none
    | .own z id off n es' => if es' = es then (xCP n (lo.map (opv F)) (hi.map (opv F)) (mx.map (opv F))).map fun (l, h) => (.own z id (off + l * es) (h - l) es, H) else none
    | _ => none
def xUt (opv : List AV → Arg → AV) (R : Rec) (F : List AV) (H : xAu) (o : Nat) (x : Arg) : Option (AV × xAu) := match opv F x with
    | .ptr id off => some (.ptr id (off + o), H)
    | .vptr cs off => some (.vptr cs (off + o), H)
    | _ => none
def xUu (opv : List AV → Arg → AV) (R : Rec) (F : List AV) (H : xAu) (g : Bool) (off : Nat) (n : Nat) (x : Arg) : Option (AV × xAu) := match opv F x with
    | .agg cs => if off + n ≤ cs.length then (mkv g ((cs.drop off).take n)).map fun v => (v, H) else none
    | _ => none
def xUv (opv : List AV → Arg → AV) (R : Rec) (F : List AV) (H : xAu) (es : Nat) (x : Arg) (i : Arg) : Option (AV × xAu) := match opv F x, xCJ (opv F i) with
    | .sl _ n cs, some i => if i < n then some (.vptr cs (i * es), H) else none
    | .own _ id off n es', some i => if i < n ∧ es' = es then some (.ptr id (off + i * es), H) else none
    | _, _ => none
def yAC (opv : List AV → Arg → AV) (R : Rec) (F : List AV) (H : xAu) (i : Nat) (x : Arg) : Option (AV × xAu) := match opv F x with
    | .tup vs => (vs[i]?).map fun v => (v, H)
    | _ => none
def yAD (opv : List AV → Arg → AV) (R : Rec) (F : List AV) (H : xAu) (x : Arg) : Option (AV × xAu) := match opv F x with
    | .sl _ n _ => some (.int .i64 n, H)
    | .own _ _ _ n _ => some (.int .i64 n, H)
    | _ => none
def yAE (opv : List AV → Arg → AV) (R : Rec) (F : List AV) (H : xAu) (x : Arg) : Option (AV × xAu) := match opv F x with
    | .sl true _ _ => some (.int .i64 0, H)
    | _ => none
def yAF (opv : List AV → Arg → AV) (R : Rec) (F : List AV) (H : xAu) (neg : Bool) (n : Nat) (x : Arg) (y : Arg) : Option (AV × xAu) := match opv F x, opv F y with
    | .agg cs, .agg ds => if cs.length = n then (xEe cs ds).map fun b => (.bool (b != neg), H) else none
    | _, _ => none
def xSj (opv : List AV → Arg → AV) (R : Rec) (F : List AV) (H : xAu) (fz : Bool) (es : Nat) (bytes : Nat) (x : Arg) (y : Arg) : Option (AV × xAu) := match src H es (opv F y) with
    | none => none
    | some (m, ys) => match opv F x with
      | .sl true _ _ => if m * bytes ≤ xCX ∧ m ≤ xCX then xFj fz (m == 0) m es ys H else none
      | .own z id off n es' => match H[id]? with
        | some (.cells false _ cs) => if off = 0 ∧ es' = es ∧ n * es ≤ cs.length ∧ (n + m) * bytes ≤ xCX ∧ n + m ≤ xCX then
            some (.own (z && m == 0) H.length 0 (n + m) es, H.set id .dead ++ [.cells false (z && m == 0) (cs.take (n * es) ++ ys)]) else none
        | _ => none
      | _ => none
def xP9 (opv : List AV → Arg → AV) (R : Rec) (F : List AV) (H : xAu) (z : List AV) (bytes : Nat) (x : Arg) (n : Arg) : Option (AV × xAu) := match xCJ (opv F n), opv F x with
    | some m, .sl true _ _ => if m * bytes ≤ xCX ∧ m ≤ xCX ∧ z.all AV.isCell = true then xFj false (m == 0) m z.length (xEf z m) H else none
    | _, _ => none
def xXF (opv : List AV → Arg → AV) (R : Rec) (F : List AV) (H : xAu) (_u0 : Nat) (_u1 : Arg) (_u2 : Arg) : Option (AV × xAu) := none
def xXG (opv : List AV → Arg → AV) (R : Rec) (F : List AV) (H : xAu) (x : Arg) (y : Arg) : Option (AV × xAu) := match opv F x, opv F y with
    | .int k a, .int _ b => some (.int k (if b > a then b else a), H)
    | _, _ => none
def xXH (opv : List AV → Arg → AV) (R : Rec) (F : List AV) (H : xAu) (x : Arg) (y : Arg) : Option (AV × xAu) := match opv F x, opv F y with
    | .int k a, .int _ b => some (.int k (if b < a then b else a), H)
    | _, _ => none
def xXI (opv : List AV → Arg → AV) (R : Rec) (F : List AV) (H : xAu) (f : Nat) (args : List Arg) : Option (AV × xAu) := xC2 R f (args.map (opv F)) H
def xUw (opv : List AV → Arg → AV) (R : Rec) (F : List AV) (H : xAu) (f : Arg) (args : List Arg) : Option (AV × xAu) := R.icall (opv F f) (args.map (opv F)) H
def xUx (opv : List AV → Arg → AV) (R : Rec) (F : List AV) (H : xAu) (f : Arg) (args : List Arg) : Option (AV × xAu) := match opv F f with
    | .func g caps => xC2 R g (args.map (opv F) ++ caps) H
    | _ => none
def yAG (opv : List AV → Arg → AV) (R : Rec) (F : List AV) (H : xAu) (g : Bool) (es : Nat) (len : Nat) (x : Arg) (i : Arg) : Option (AV × xAu) := match opv F x, xCJ (opv F i) with
    | .agg cs, some j => if j < len ∧ j * es + es ≤ cs.length then (mkv g ((cs.drop (j * es)).take es)).map fun v => (v, H) else none
    | _, _ => none
def xUy (opv : List AV → Arg → AV) (R : Rec) (F : List AV) (H : xAu) (es : Nat) (len : Nat) (x : Arg) (i : Arg) : Option (AV × xAu) := match opv F x, xCJ (opv F i) with
    | .ptr id off, some j => if j < len then some (.ptr id (off + j * es), H) else none
    | .vptr cs off, some j => if j < len then some (.vptr cs (off + j * es), H) else none
    | _, _ => none
def xXJ (opv : List AV → Arg → AV) (R : Rec) (F : List AV) (H : xAu) (b : Nat) (es : Nat) (len : Nat) (i : Arg) : Option (AV × xAu) := match xPX b, xCJ (opv F i) with
    | some cs, some j => if j < len then some (.vptr cs (j * es), H) else none
    | _, _ => none
def xXK (opv : List AV → Arg → AV) (R : Rec) (F : List AV) (H : xAu) (x : Arg) (i : Arg) : Option (AV × xAu) := match opv F x, xCJ (opv F i) with
    | .str s, some j => (s[j]?).map fun b => (.int .u8 b.toNat, H)
    | _, _ => none
def xXL (opv : List AV → Arg → AV) (R : Rec) (F : List AV) (H : xAu) (x : Arg) : Option (AV × xAu) := match opv F x with
    | .str s => some (.int .i64 s.size, H)
    | _ => none
def yDi (opv : List AV → Arg → AV) (R : Rec) (F : List AV) (H : xAu) (mx : Bool) (xs : List Arg) : Option (AV × xAu) := match xs.map (opv F) with
    | [] => none
    | x :: r => (mmA mx x r).map fun v => (v, H)
def xSk (opv : List AV → Arg → AV) (R : Rec) (F : List AV) (H : xAu) (x : Arg) (lo : Option Arg) (hi : Option Arg) : Option (AV × xAu) := match opv F x with
    | .str s => (xCP s.size (lo.map (opv F)) (hi.map (opv F)) none).map fun (l, h) => (.str (s.extract l h), H)
    | _ => none
def xXM (opv : List AV → Arg → AV) (R : Rec) (F : List AV) (H : xAu) (neg : Bool) (x : Arg) (y : Arg) : Option (AV × xAu) := match opv F x, opv F y with
    | .str s, .str t => some (.bool ((s.toList == t.toList) != neg), H)
    | _, _ => none
def xQa (opv : List AV → Arg → AV) (R : Rec) (F : List AV) (H : xAu) (f : Nat) (first : List Arg) : Option (AV × xAu) := some (.bfunc f (first.map (opv F)), H)
def xUz (opv : List AV → Arg → AV) (R : Rec) (F : List AV) (H : xAu) (f : Arg) (args : List Arg) : Option (AV × xAu) := match opv F f with
    | .bfunc g first => R.icall (.func g []) (first ++ args.map (opv F)) H
    | _ => none
def xUA (opv : List AV → Arg → AV) (R : Rec) (F : List AV) (H : xAu)  : Option (AV × xAu) := some (.mp H.length, H ++ [.mp []])
def xUB (opv : List AV → Arg → AV) (R : Rec) (F : List AV) (H : xAu) (ks : List Nat) (comma : Bool) (z : AV) (x : Arg) (k : Arg) : Option (AV × xAu) := if xDx ks (opv F k) then match xPY H (opv F x) with
    | none => none
    | some es => match xHf (opv F k) es with
      | none => none
      | some none => some (if comma then .tup [z, .bool false] else z, H)
      | some (some v) => some (if comma then .tup [v, .bool true] else v, H)
    else none
def xXN (opv : List AV → Arg → AV) (R : Rec) (F : List AV) (H : xAu) (ks : List Nat) (m : Arg) (k : Arg) (v : Arg) : Option (AV × xAu) := if xDx ks (opv F k) then match opv F m with
    | .mp id => match H[id]? with
      | some (.mp es) => (xPd (opv F k) (opv F v) es).map fun es' => (.tup [], H.set id (.mp es'))
      | _ => none
    | _ => none
    else none
def xXO (opv : List AV → Arg → AV) (R : Rec) (F : List AV) (H : xAu) (x : Arg) : Option (AV × xAu) := (xPY H (opv F x)).map fun es => (.int .i64 es.length, H)
def xXP (opv : List AV → Arg → AV) (R : Rec) (F : List AV) (H : xAu) (neg : Bool) (x : Arg) : Option (AV × xAu) := match opv F x with
    | .nilm => some (.bool (true != neg), H)
    | .mp _ => some (.bool (false != neg), H)
    | _ => none
def xSl (opv : List AV → Arg → AV) (R : Rec) (F : List AV) (H : xAu) (fz : Bool) (x : Arg) : Option (AV × xAu) := match opv F x with
    | .str s => xFj fz false s.size 1 (xDp s) H
    | _ => none
def xXQ (opv : List AV → Arg → AV) (R : Rec) (F : List AV) (H : xAu) (x : Arg) : Option (AV × xAu) := match src H 1 (opv F x) with
    | some (_, cs) => (xMR cs).map fun bs => (.str ⟨⟨bs⟩⟩, H)
    | none => none
def xXR (opv : List AV → Arg → AV) (R : Rec) (F : List AV) (H : xAu) (x : Arg) (y : Arg) : Option (AV × xAu) := match opv F x, opv F y with
    | .str s, .str t => if s.size + t.size ≤ 9223372036854775807 then some (.str ⟨⟨s.data.toList ++ t.data.toList⟩⟩, H) else none
    | _, _ => none
def xUC (opv : List AV → Arg → AV) (R : Rec) (F : List AV) (H : xAu) (f : Nat) (args : List Arg) : Option (AV × xAu) := match (args.map (opv F)).mapM (frz xBL H) with
    | none => none
    | some args' => match xFc R f args' with
      | none => none
      | some (v, B) => some (xEr H.length v, xDj H ((args.map (opv F)).flatMap (bor xBL H)) ++ B)
def xSm (opv : List AV → Arg → AV) (R : Rec) (F : List AV) (H : xAu) (f : Nat) (args : List Arg) : Option (AV × xAu) := match (args.map (opv F)).mapM (frz xBL H) with
    | none => none
    | some args' => match xFd R f args' with
      | none => none
      | some (v, B) => some (xEr H.length v, xDj H ((args.map (opv F)).flatMap (bor xBL H)) ++ B.map (xKO H.length))

noncomputable def xKU (R : Rec) (F : List AV) (H : xAu) : AOp → Option (AV × xAu)
  | .mov x => yAy xDI R F H x
  | .pick c a b => xXC xDI R F H c a b
  | .box x => yAz xDI R F H x
  | .build z parts => xUp xDI R F H z parts
  | .bslice fz z es n parts => xSg xDI R F H fz z es n parts
  | .load g n p => xXD xDI R F H g n p
  | .store n p v => xUq xDI R F H n p v
  | .nilchk x => xSh xDI R F H x
  | .bin op x y => yAA xDI R F H op x y
  | .beq neg x y => yAB xDI R F H neg x y
  | .isnil neg x => xUr xDI R F H neg x
  | .un op x => yDh xDI R F H op x
  | .conv k x => xXE xDI R F H k x
  | .mkfunc f caps => xSi xDI R F H f caps
  | .mkslice fz z bytes l c => xP8 xDI R F H fz z bytes l c
  | .slice es x lo hi mx => xUs xDI R F H es x lo hi mx
  | .faddr o x => xUt xDI R F H o x
  | .field g off n x => xUu xDI R F H g off n x
  | .iaddr es x i => xUv xDI R F H es x i
  | .ext i x => yAC xDI R F H i x
  | .len x => yAD xDI R F H x
  | .cap x => yAE xDI R F H x
  | .aeq neg n x y => yAF xDI R F H neg n x y
  | .append fz es bytes x y => xSj xDI R F H fz es bytes x y
  | .appendz z bytes x n => xP9 xDI R F H z bytes x n
  | .copy _u0 _u1 _u2 => xXF xDI R F H _u0 _u1 _u2
  | .maxi x y => xXG xDI R F H x y
  | .mini x y => xXH xDI R F H x y
  | .call f args => xXI xDI R F H f args
  | .icall f args => xUw xDI R F H f args
  | .fcall f args => xUx xDI R F H f args
  | .idx g es len x i => yAG xDI R F H g es len x i
  | .arrat es len x i => xUy xDI R F H es len x i
  | .garr b es len i => xXJ xDI R F H b es len i
  | .sidx x i => xXK xDI R F H x i
  | .slen x => xXL xDI R F H x
  | .mm mx xs => yDi xDI R F H mx xs
  | .sslice x lo hi => xSk xDI R F H x lo hi
  | .sbeq neg x y => xXM xDI R F H neg x y
  | .mkbound f first => xQa xDI R F H f first
  | .bcall f args => xUz xDI R F H f args
  | .mkmap  => xUA xDI R F H 
  | .mlook ks comma z x k => xUB xDI R F H ks comma z x k
  | .mupd ks m k v => xXN xDI R F H ks m k v
  | .mlen x => xXO xDI R F H x
  | .mnil neg x => xXP xDI R F H neg x
  | .sbytes fz x => xSl xDI R F H fz x
  | .bstr x => xXQ xDI R F H x
  | .sadd x y => xXR xDI R F H x y
  | .ocall f args => xUC xDI R F H f args
  | .ocallw f args => xSm xDI R F H f args

theorem xKh (R : Rec) (F : List AV) (H : xAu) (op : AOp) : xKU R F H op = xAm R F H op := by
  cases op <;> simp only [xKU, xSe] <;> rfl

def fN {α : Type} (a : Nat) (k : Nat → α) : α := match a with
  | 0 => k 0
  | n + 1 => k (n + 1)
theorem yAH {α : Type} (a : Nat) (k : Nat → α) : fN a k = k a := by cases a <;> rfl
def fI {α : Type} (x : Int) (k : Int → α) : α := match x with
  | .ofNat a => fN a fun a => k (.ofNat a)
  | .negSucc a => fN a fun a => k (.negSucc a)
theorem yDj {α : Type} (x : Int) (k : Int → α) : fI x k = k x := by cases x <;> simp only [fI, yAH]
def fBo {α : Type} (x : Bool) (k : Bool → α) : α := match x with
  | true => k true
  | false => k false
theorem yAI {α : Type} (x : Bool) (k : Bool → α) : fBo x k = k x := by cases x <;> rfl
def fV {α : Type} (v : AV) (k : AV → α) : α := match v with
  | .int kd n => fI n fun n => k (.int kd n)
  | .bool b => fBo b fun b => k (.bool b)
  | .ptr i o => fN i fun i => fN o fun o => k (.ptr i o)
  | .own z i o n e => fBo z fun z => fN i fun i => fN o fun o => fN n fun n => fN e fun e => k (.own z i o n e)
  | .sl z n cs => fN n fun n => k (.sl z n cs)
  | v => k v
theorem xXS {α : Type} (v : AV) (k : AV → α) : fV v k = k v := by
  cases v <;> simp only [fV, yDj, yAI, yAH]
noncomputable def fS {α : Type} (l : List AV) : (List AV → α) → α := List.rec (motive := fun _ => (List AV → α) → α) (fun k => k []) (fun v _ ih k => ih fun vs => k (v :: vs)) l
theorem xUD {α : Type} : ∀ (l : List AV) (k : List AV → α), fS l k = k l
  | [], k => rfl
  | v :: vs, k => by
    show fS vs (fun vs => k (v :: vs)) = _
    rw [xUD vs]
def fL {α : Type} : List AV → (List AV → α) → α
  | [], k => k []
  | v :: vs, k => fV v fun v => fL vs fun vs => k (v :: vs)
theorem yAJ {α : Type} : ∀ (l : List AV) (k : List AV → α), fL l k = k l
  | [], k => rfl
  | v :: vs, k => by rw [fL, xXS, yAJ vs]
def fB {α : Type} (b : Blk) (k : Blk → α) : α := match b with
  | .cells fz z cs => fL cs fun cs => k (.cells fz z cs)
  | b => k b
theorem yDk {α : Type} (b : Blk) (k : Blk → α) : fB b k = k b := by
  cases b <;> first | rfl | simp only [fB, yAJ]
noncomputable def fAt {α : Type} (l : List Blk) : Nat → (List Blk → α) → α := List.rec (motive := fun _ => Nat → (List Blk → α) → α) (fun _ k => k []) (fun b bs ih n k => Nat.casesOn (motive := fun _ => α) n (fB b fun b => k (b :: bs)) (fun m => ih m fun bs => k (b :: bs))) l
theorem xVR {α : Type} : ∀ (l : List Blk) (n : Nat) (k : List Blk → α), fAt l n k = k l
  | [], n, k => rfl
  | b :: bs, 0, k => by
    show fB b (fun b => k (b :: bs)) = _
    rw [yDk]
  | b :: bs, n + 1, k => by
    show fAt bs n (fun bs => k (b :: bs)) = _
    rw [xVR bs]
noncomputable def yFq (l : List Blk) : Nat := List.rec (motive := fun _ => Nat) 0 (fun _ _ n => n + 1) l
noncomputable def yDl (F : List AV) (H : List Blk) : AOp → Nat
  | .store _ p _ => match xDI F p with
    | .ptr id _ => id
    | _ => 0
  | _ => yFq H
def yAK : AOp → Bool
  | .mov _ | .pick .. | .bin .. | .beq .. | .aeq .. | .un .. | .conv .. | .ext .. | .faddr .. | .field .. | .iaddr .. | .len _ | .cap _ | .isnil .. | .maxi .. | .mini .. | .nilchk _ | .mkfunc .. | .slice .. | .idx .. | .arrat .. | .garr .. | .sidx .. | .slen .. | .mm .. | .sslice .. | .sbeq .. | .mkbound .. | .load .. | .build .. | .mlook .. | .mlen _ | .mnil .. => true
  | _ => false
noncomputable def xXT (d : Option Nat) (F : List AV) (keep : Bool) (sp : Nat) : Option (AV × xAu) → Option St
  | some (v, H) => fV v fun v => fS (yDg F d v) fun F => if keep then some ⟨F, H⟩ else fAt H sp fun H => some ⟨F, H⟩
  | none => none
theorem xUE (d : Option Nat) (F : List AV) (keep : Bool) (sp : Nat) (x : Option (AV × xAu)) : xXT d F keep sp x = x.map fun (v, H) => ⟨putA F d v, H⟩ := by
  cases x with
  | none => rfl
  | some p =>
    obtain ⟨v, H⟩ := p
    simp only [xXT, xXS, xUD, xVR, ite_self, xSf]
    rfl
def yAL (o : AOper) (s : St) (r : Option St) : Option Bool → Option St
  | none => none
  | some false => some ⟨putA s.F o.dst (.tup []), s.H⟩
  | some true => r
noncomputable def xGT (R : Rec) (o : AOper) (s : St) : Option St := yAL o s (xXT o.dst s.F (yAK o.op) (yDl s.F s.H o.op) (xKU R s.F s.H o.op)) (xDw s.F o.guard)
theorem xM0 (R : Rec) (o : AOper) (s : St) : xGT R o s = xBQ R o s := by
  unfold xGT xBQ
  rw [xKh, xUE]
  split <;> rename_i e <;> rw [e] <;> rfl

noncomputable def xUF (k : St → Option St) : Option St → Option St
  | some s => k s
  | none => none
noncomputable def xJe (R : Rec) (ops : List AOper) : St → Option St := List.rec (motive := fun _ => St → Option St) (fun s => some s) (fun o _ ih s => xUF ih (xGT R o s)) ops
theorem xHj (R : Rec) : ∀ (ops : List AOper) (s : St), xJe R ops s = xBK R ops s
  | [], s => rfl
  | o :: rest, s => by
    show xUF (xJe R rest) (xGT R o s) = _
    simp only [xBK, xM0]
    cases xBQ R o s with
    | none => rfl
    | some s' => exact xHj R rest s'

def xXU : AOp → Bool
  | .call .. | .fcall .. | .append .. | .box .. | .bslice .. | .mkslice .. | .appendz .. | .copy .. | .icall .. | .bcall .. | .store .. | .ocall .. | .ocallw .. | .mkmap | .mupd .. | .sbytes .. => true
  | _ => false
noncomputable def xNW (R : Rec) (F : List AV) (H : xAu) (op : AOp) : Option AV := if xXU op then xBx R F H op else (xKU R F H op).map (·.1)
theorem xQb (R : Rec) (F : List AV) (H : xAu) (op : AOp) : xNW R F H op = xBx R F H op := by
  unfold xNW
  rw [xKh]
  cases op <;> rfl
noncomputable def frF (d : Option Nat) (s : St) : Option AV → Option St
  | some v => fV v fun v => fS (yDg s.F d v) fun F => some ⟨F, s.H⟩
  | none => none
theorem yAM (d : Option Nat) (s : St) (x : Option AV) : frF d s x = x.map fun v => ⟨putA s.F d v, s.H⟩ := by
  cases x with
  | none => rfl
  | some v => simp only [frF, xXS, xUD, xSf]; rfl
noncomputable def xGU (R : Rec) (o : AOper) (s : St) : Option St := yAL o s (frF o.dst s (xNW R s.F s.H o.op)) (xDw s.F o.guard)
theorem xM1 (R : Rec) (o : AOper) (s : St) : xGU R o s = xB0 R o s := by
  unfold xGU xB0
  rw [xQb, yAM]
  split <;> rename_i e <;> rw [e] <;> rfl
noncomputable def xKV (R : Rec) (ops : List AOper) : St → Option St := List.rec (motive := fun _ => St → Option St) (fun s => some s) (fun o _ ih s => xUF ih (xGU R o s)) ops
theorem xJf (R : Rec) : ∀ (ops : List AOper) (s : St), xKV R ops s = xCC R ops s
  | [], s => rfl
  | o :: rest, s => by
    show xUF (xKV R rest) (xGU R o s) = _
    simp only [xCC, xM1]
    cases xB0 R o s with
    | none => rfl
    | some s' => exact xJf R rest s'

noncomputable def yEz (k : St → Option (AExit × St)) : Option (AExit × St) → Option (AExit × St)
  | some (.normal, s') => k s'
  | r => r
noncomputable def yAN (x y : Option (AExit × St)) : AV → Option (AExit × St)
  | .bool t => if t then x else y
  | _ => none
def xVS (id : Nat) : Option (AExit × St) → Option (AExit × St)
  | some (.exit i, s') => if i = id then some (.normal, s') else some (.exit i, s')
  | r => r
def yCc : Option St → Option (AExit × St)
  | some s => some (.normal, s)
  | none => none
noncomputable def xXV (R : Rec) (m : Nat) (ops : List AOper) (s : St) : Option (AExit × St) := match xKV R (ops.take m) s with
  | none => none
  | some s1 => yCc (xJe R (ops.drop m) (xCt (ops.take m) s1))
def yEA (i : Nat) (k : AV → Option (AExit × St)) : Option AV → Option (AExit × St)
  | some v => k v
  | none => none
noncomputable def xVT (R : Rec) (c : ACode) : St → Option (AExit × St) :=
  ACode.rec (motive := fun _ => St → Option (AExit × St))
    (fun s => some (.normal, s)) (fun ops s => yCc (xJe R ops s)) (fun m ops s => xXV R m ops s) (fun ls m ops s => run R (.drawl ls m ops) s)
    (fun als ls m ops s => run R (.drawp als ls m ops) s) (fun hs als ls m ops s => run R (.drawh hs als ls m ops) s)
    (fun ss _ ih s => ih ⟨s.F, xDj s.H (ss.flatMap fun i => bor xBL s.H (s.F.getD i .any))⟩) (fun i _ ih s => yEA i (fun v => ih ⟨s.F.set i v, xDj s.H (bor xBL s.H (s.F.getD i .any))⟩) (frz xBL s.H (s.F.getD i .any))) (fun _ _ iha ihb s => yEz ihb (iha s)) (fun c _ _ iha ihb s => yAN (iha s) (ihb s) (xDI s.F c))
    (fun id _ ih s => xVS id (ih s)) (fun scr b _ s => R.loop scr b s) (fun f ps asg body _ _ s => run R (.range f ps asg body) s) (fun id s => some (.exit id, s)) (fun _ ih s => ih s)
    (fun s => some (.normal, s)) (fun s => some (.ret, s)) (fun _ => none) c
theorem xSn (x : Option St) : yCc x = x.map fun s' => (.normal, s') := by cases x <;> rfl
theorem xSo (R : Rec) (c : ACode) : ∀ s, xVT R c s = run R c s := by
  induction c <;> intro s
  case region ops => show yCc (xJe R ops s) = _; simp only [run, xHj, xSn]
  case draw m ops =>
    show xXV R m ops s = _
    simp only [run, xXV, xJf, xHj, xSn]
    cases xCC R (ops.take m) s <;> rfl
  case seq a b iha ihb =>
    show yEz (xVT R b) (xVT R a s) = _
    simp only [run, iha]
    cases run R a s with
    | none => rfl
    | some p =>
      obtain ⟨e, s'⟩ := p
      cases e with
      | normal => exact ihb s'
      | exit i => rfl
      | ret => rfl
  case cond c a b iha ihb =>
    show yAN (xVT R a s) (xVT R b s) (xDI s.F c) = _
    simp only [run, iha, ihb, xSe]
    cases opv s.F c <;> rfl
  case block id b ih =>
    show xVS id (xVT R b s) = _
    simp only [run, ih]
    cases run R b s with
    | none => rfl
    | some p => obtain ⟨e, s'⟩ := p; cases e <;> rfl
  case scope b ih => exact ih s
  case fz ss b ih => exact ih _
  case fzs i b ih =>
    show yEA i _ _ = _
    simp only [run]
    cases frz xBL s.H (s.F.getD i .any) with
    | none => rfl
    | some v => exact ih _
  all_goals rfl

def yFr (fn : AFunc) : Option (AExit × St) → Option (AV × xAu)
  | some (.normal, s) | some (.ret, s) => (xC8 fn.results s).map fun v => (v, s.H)
  | _ => none
noncomputable def xUG (R : Rec) (fn : AFunc) (args : List AV) (H : xAu) : Option (AV × xAu) := yFr fn (xVT R fn.code (xMS fn args H))
theorem xPj (R : Rec) (fn : AFunc) (args : List AV) (H : xAu) : xUG R fn args H = xBN R fn args H := by
  unfold xUG xBN
  rw [xSo]
  cases run R fn.code (xMS fn args H) with
  | none => rfl
  | some p => obtain ⟨e, s'⟩ := p; cases e <;> rfl
def yFs : Option (AV × xAu) → Option AV
  | some (r, H') => frz xBL H' r
  | none => Option.none
def xJg : List AV → Nat → List Nat → List AV
  | [], _, _ => []
  | v :: F, _, [] => v :: F
  | v :: F, i, s :: scr => if s = i then .any :: xJg F (i + 1) scr else v :: xJg F (i + 1) (s :: scr)
def asc : List Nat → Nat → Bool
  | [], _ => true
  | s :: r, lo => decide (lo ≤ s) && asc r (s + 1)
theorem xVU : ∀ {scr : List Nat} {lo : Nat}, asc scr lo = true → ∀ s ∈ scr, lo ≤ s
  | [], _, _, s, h => by cases h
  | s0 :: r, lo, h, s, hs => by
    simp only [asc, Bool.and_eq_true, decide_eq_true_eq] at h
    rcases List.mem_cons.1 hs with rfl | hs
    · exact h.1
    · have := xVU h.2 s hs; omega
theorem xXW : ∀ {scr : List Nat} {lo lo' : Nat}, asc scr lo = true → (∀ s ∈ scr, lo' ≤ s) → asc scr lo' = true
  | [], _, _, _, _ => rfl
  | s0 :: r, lo, lo', h, hl => by
    simp only [asc, Bool.and_eq_true, decide_eq_true_eq] at h ⊢
    exact ⟨hl s0 (by simp), h.2⟩
theorem xHk : ∀ (F : List AV) (i : Nat) (scr : List Nat), asc scr i = true → ∀ j, (xJg F i scr)[j]? = if i + j ∈ scr then (F[j]?).map (fun _ => AV.any) else F[j]?
  | [], i, scr, h, j => by simp [xJg]
  | v :: F, i, [], h, j => by simp [xJg]
  | v :: F, i, s :: scr, h, j => by
    have h' := h
    simp only [asc, Bool.and_eq_true, decide_eq_true_eq] at h'
    unfold xJg
    by_cases e : s = i
    · subst e
      rw [if_pos rfl]
      cases j with
      | zero => simp
      | succ j =>
        rw [List.getElem?_cons_succ, xHk F (s + 1) scr h'.2 j, List.getElem?_cons_succ]
        have : (s + 1 + j ∈ scr) ↔ (s + (j + 1) ∈ s :: scr) := by
          rw [show s + (j + 1) = s + 1 + j by omega, List.mem_cons]
          exact ⟨.inr, fun q => q.elim (fun q => by omega) id⟩
        simp only [this]
    · rw [if_neg e]
      have hm : ∀ x ∈ s :: scr, i + 1 ≤ x := fun x hx => by
        rcases List.mem_cons.1 hx with rfl | hx
        · omega
        · have := xVU h'.2 x hx; omega
      cases j with
      | zero =>
        have : ¬ (i + 0 ∈ s :: scr) := fun q => by have := hm _ q; omega
        rw [if_neg this]; rfl
      | succ j =>
        rw [List.getElem?_cons_succ, xHk F (i + 1) (s :: scr) (xXW h hm) j, List.getElem?_cons_succ]
        simp only [show i + (j + 1) = i + 1 + j by omega]
def xPk (scr : List Nat) (F : List AV) : List AV := if asc scr 0 then xJg F 0 scr else xBA scr F
theorem xM2 (scr : List Nat) (F : List AV) : xPk scr F = xBA scr F := by
  unfold xPk
  split
  · rename_i h
    apply List.ext_getElem?
    intro j
    rw [xHk F 0 scr h j, xFN]
    simp only [Nat.zero_add]
  · rfl
noncomputable def xVV (R : Rec) (scr : List Nat) (b : ACode) : Option (AExit × St) → Option (AExit × St)
  | some (.normal, s') => R.loop scr b s'
  | some (e, s') => some (e, ⟨xPk scr s'.F, s'.H⟩)
  | none => none
noncomputable def yAO (prog : Nat → Option AFunc) (R : Rec) (args : List AV) (H : xAu) : AV → Option (AV × xAu)
  | .func f caps => match prog f with
    | some fn => xUG R fn (args ++ caps) H
    | none => Option.none
  | f => xEF prog R f args H
noncomputable def xXX (prog : Nat → Option AFunc) (R : Rec) : Rec where
  pcall f args := match prog f with
    | some fn => yFs (xUG R fn args [])
    | none => Option.none
  icall f args H := yAO prog R args H f
  loop scr b s := fS (xPk scr s.F) fun F => xVV R scr b (xVT R b ⟨F, s.H⟩)
theorem xUH (prog : Nat → Option AFunc) (R : Rec) : xXX prog R = xEu prog R := by
  unfold xXX xEu
  congr 1
  · funext f args
    cases prog f with
    | none => rfl
    | some fn =>
      simp only [xBw, xPj]
      cases xBN R fn args [] <;> rfl
  · funext f args H
    unfold yAO
    split
    · rename_i g caps
      simp only [xEF, xPj]
      cases prog g <;> rfl
    · rfl
  · funext scr b s
    simp only [xI2, xSo, xUD, xM2]
    cases run R b ⟨xBA scr s.F, s.H⟩ with
    | none => rfl
    | some p => obtain ⟨e, s'⟩ := p; cases e <;> simp only [xVV, xM2]
noncomputable def yCd (prog : Nat → Option AFunc) (T : Known) : Nat → Rec
  | 0 => Rec.none
  | n + 1 => xXY T (xXX prog (yCd prog T n))
theorem xSp (prog : Nat → Option AFunc) (T : Known) : ∀ n, yCd prog T n = xXZ prog T n
  | 0 => rfl
  | n + 1 => by rw [yCd, xXZ, xUH, xSp prog T n]
noncomputable def xSq (prog : Nat → Option AFunc) (T : Known) (n f : Nat) (args : List AV) (v : AV) : Bool := match (yCd prog T n).pcall f args with
  | some u => xJh 8 u v
  | none => false
theorem xCf {prog : Nat → Option AFunc} {T : Known} (hT : ∀ e ∈ T, (lim prog).pcall e.1 e.2.1 = some e.2.2) {n f : Nat} {args : List AV} {v : AV} (h : xSq prog T n f args v = true) : (lim prog).pcall f args = some v :=
  xSr hT (n := n) (by unfold xSq at h; rw [xSp] at h; exact h)
end Go.Abs
