/- The interpreter once more, its alternatives as functions of their own: what the kernel unfolds is small. -/
import Derived.Test.YtdkbhidfiplncaaAbsOver
namespace Go.Abs
set_option linter.unusedVariables false

noncomputable def yAQ (F : List AV) : Nat → AV := List.rec (motive := fun _ => Nat → AV) (fun _ => .any) (fun v _ ih n => Nat.casesOn (motive := fun _ => AV) n v ih) F
noncomputable def yBZ (x : AV) (F : List AV) : Nat → List AV := List.rec (motive := fun _ => Nat → List AV) (fun _ => []) (fun v F ih n => Nat.casesOn (motive := fun _ => List AV) n (x :: F) (fun m => v :: ih m)) F
theorem xRd : ∀ (F : List AV) (i : Nat), yAQ F i = F.getD i .any
  | [], i => by simp [yAQ]
  | v :: F, 0 => rfl
  | v :: F, i + 1 => by
    show yAQ F i = _
    rw [xRd F i]; simp
theorem xRe (x : AV) : ∀ (F : List AV) (i : Nat), yBZ x F i = F.set i x
  | [], i => rfl
  | v :: F, 0 => rfl
  | v :: F, i + 1 => by
    show v :: yBZ x F i = _
    rw [xRe x F i]; rfl
noncomputable def xDL (F : List AV) : Arg → AV
  | .t i => yAQ F i
  | .c v => v
theorem xRf : xDL = opv := by
  funext F x
  cases x with
  | t i => exact xRd F i
  | c v => rfl
noncomputable def yB0 (F : List AV) (d : Option Nat) (v : AV) : List AV := match d with
  | some d => yBZ v F d
  | none => F
theorem xRg : yB0 = putA := by
  funext F d v
  cases d with
  | none => rfl
  | some d => exact xRe v F d

def xZl (opv : List AV → Arg → AV) (R : Rec) (F : List AV) (H : xAA) (x : Arg) : Option (AV × xAA) := some (opv F x, H)
def xWB (opv : List AV → Arg → AV) (R : Rec) (F : List AV) (H : xAA) (c : Arg) (a : Arg) (b : Arg) : Option (AV × xAA) := match opv F c with
    | .bool t => some (if t then opv F a else opv F b, H)
    | _ => none
def xZm (opv : List AV → Arg → AV) (R : Rec) (F : List AV) (H : xAA) (x : Arg) : Option (AV × xAA) := let cs := (opv F x).cells; if cs.all AV.isCell then some (.ptr H.length 0, H ++ [.cells false false cs]) else none
def xTh (opv : List AV → Arg → AV) (R : Rec) (F : List AV) (H : xAA) (z : List AV) (parts : List (Nat × Nat × Arg)) : Option (AV × xAA) :=
    (if parts.all (fun p => (opv F p.2.2).cells.length == p.2.1) then
      (xCp z (parts.map fun p => (p.1, (opv F p.2.2).cells))).map fun cs => (.agg cs, H) else none)
def xRh (opv : List AV → Arg → AV) (R : Rec) (F : List AV) (H : xAA) (fz : Bool) (z : List AV) (es : Nat) (n : Nat) (parts : List (Nat × Arg)) : Option (AV × xAA) :=
    (if parts.all (fun p => (opv F p.2).cells.length == es) then
      match xCp (xEg z n) (parts.map fun p => (p.1 * es, (opv F p.2).cells)) with
      | some cs => xFk fz false n es cs H
      | none => none
     else none)
def xWC (opv : List AV → Arg → AV) (R : Rec) (F : List AV) (H : xAA) (g : Bool) (n : Nat) (p : Arg) : Option (AV × xAA) := match rd H (opv F p) n with
    | some cs => (mkv g cs).map fun v => (v, H)
    | none => none
def xTi (opv : List AV → Arg → AV) (R : Rec) (F : List AV) (H : xAA) (n : Nat) (p : Arg) (v : Arg) : Option (AV × xAA) := let cs := (opv F v).cells; if cs.length = n then (wr H (opv F p) cs).map fun H' => (.tup [], H') else none
def xRi (opv : List AV → Arg → AV) (R : Rec) (F : List AV) (H : xAA) (x : Arg) : Option (AV × xAA) := match opv F x with
    | .ptr id off => some (.ptr id off, H)
    | .vptr cs off => some (.vptr cs off, H)
    | .func f caps => some (.func f caps, H)
    | .yield l => some (.yield l, H)
    | _ => none
def xZn (opv : List AV → Arg → AV) (R : Rec) (F : List AV) (H : xAA) (op : BinOp) (x : Arg) (y : Arg) : Option (AV × xAA) := (xE3 op (opv F x) (opv F y)).map fun v => (v, H)
def xZo (opv : List AV → Arg → AV) (R : Rec) (F : List AV) (H : xAA) (neg : Bool) (x : Arg) (y : Arg) : Option (AV × xAA) := match opv F x, opv F y with
    | .bool a, .bool b => some (.bool (if neg then a != b else a == b), H)
    | _, _ => none
def xTj (opv : List AV → Arg → AV) (R : Rec) (F : List AV) (H : xAA) (neg : Bool) (x : Arg) : Option (AV × xAA) := match opv F x with
    | .sl z _ _ => some (.bool (z != neg), H)
    | .own z _ _ _ _ => some (.bool (z != neg), H)
    | _ => none
def yB1 (opv : List AV → Arg → AV) (R : Rec) (F : List AV) (H : xAA) (op : UnOp) (x : Arg) : Option (AV × xAA) := (unA op (opv F x)).map fun v => (v, H)
def xWD (opv : List AV → Arg → AV) (R : Rec) (F : List AV) (H : xAA) (k : IntKind) (x : Arg) : Option (AV × xAA) := match opv F x with
    | .int _ n => some (.int k (k.wrap n), H)
    | _ => none
def xRj (opv : List AV → Arg → AV) (R : Rec) (F : List AV) (H : xAA) (f : Nat) (caps : List Arg) : Option (AV × xAA) := some (.func f (caps.map (opv F)), H)
def xPh (opv : List AV → Arg → AV) (R : Rec) (F : List AV) (H : xAA) (fz : Bool) (z : List AV) (bytes : Nat) (l : Arg) (c : Arg) : Option (AV × xAA) := match opv F l, opv F c with
    | .int _ l, .int _ c => if 0 ≤ l ∧ l ≤ c ∧ c * bytes ≤ xCV ∧ c ≤ xCV ∧ z.all AV.isCell = true then xFk fz false l.toNat z.length (xEg z l.toNat) H else none
    | _, _ => none
def xTk (opv : List AV → Arg → AV) (R : Rec) (F : List AV) (H : xAA) (es : Nat) (x : Arg) (lo : Option Arg) (hi : Option Arg) (mx : Option Arg) : Option (AV × xAA) := match opv F x with
    | .sl z n cs => if cs.length = n * es then (xCM n (lo.map (opv F)) (hi.map (opv F)) (mx.map (opv F))).map fun (l, h) => (.sl z (h - l) ((cs.drop (l * es)).take ((h - l) * es)), H) else none
    | .own z id off n es' => if es' = es then (xCM n (lo.map (opv F)) (hi.map (opv F)) (mx.map (opv F))).map fun (l, h) => (.own z id (off + l * es) (h - l) es, H) else none
    | _ => none
def xTl (opv : List AV → Arg → AV) (R : Rec) (F : List AV) (H : xAA) (o : Nat) (x : Arg) : Option (AV × xAA) := match opv F x with
    | .ptr id off => some (.ptr id (off + o), H)
    | .vptr cs off => some (.vptr cs (off + o), H)
    | _ => none
def xTm (opv : List AV → Arg → AV) (R : Rec) (F : List AV) (H : xAA) (g : Bool) (off : Nat) (n : Nat) (x : Arg) : Option (AV × xAA) := match opv F x with
    | .agg cs => if off + n ≤ cs.length then (mkv g ((cs.drop off).take n)).map fun v => (v, H) else none
    | _ => none
def xTn (opv : List AV → Arg → AV) (R : Rec) (F : List AV) (H : xAA) (es : Nat) (x : Arg) (i : Arg) : Option (AV × xAA) := match opv F x, xCx (opv F i) with
    | .sl _ n cs, some i => if i < n then some (.vptr cs (i * es), H) else none
    | .own _ id off n es', some i => if i < n ∧ es' = es then some (.ptr id (off + i * es), H) else none
    | _, _ => none
def xZp (opv : List AV → Arg → AV) (R : Rec) (F : List AV) (H : xAA) (i : Nat) (x : Arg) : Option (AV × xAA) := match opv F x with
    | .tup vs => (vs[i]?).map fun v => (v, H)
    | _ => none
def xZq (opv : List AV → Arg → AV) (R : Rec) (F : List AV) (H : xAA) (x : Arg) : Option (AV × xAA) := match opv F x with
    | .sl _ n _ => some (.int .i64 n, H)
    | .own _ _ _ n _ => some (.int .i64 n, H)
    | _ => none
def xZr (opv : List AV → Arg → AV) (R : Rec) (F : List AV) (H : xAA) (x : Arg) : Option (AV × xAA) := match opv F x with
    | .sl true _ _ => some (.int .i64 0, H)
    | _ => none
def xZs (opv : List AV → Arg → AV) (R : Rec) (F : List AV) (H : xAA) (neg : Bool) (n : Nat) (x : Arg) (y : Arg) : Option (AV × xAA) := match opv F x, opv F y with
    | .agg cs, .agg ds => if cs.length = n then (xEf cs ds).map fun b => (.bool (b != neg), H) else none
    | _, _ => none
def xRk (opv : List AV → Arg → AV) (R : Rec) (F : List AV) (H : xAA) (fz : Bool) (es : Nat) (bytes : Nat) (x : Arg) (y : Arg) : Option (AV × xAA) := match src H es (opv F y) with
    | none => none
    | some (m, ys) => match opv F x with
      | .sl true _ _ => if m * bytes ≤ xCV ∧ m ≤ xCV then xFk fz (m == 0) m es ys H else none
      | .own z id off n es' => match H[id]? with
        | some (.cells false _ cs) => if off = 0 ∧ es' = es ∧ n * es ≤ cs.length ∧ (n + m) * bytes ≤ xCV ∧ n + m ≤ xCV then
            some (.own (z && m == 0) H.length 0 (n + m) es, H.set id .dead ++ [.cells false (z && m == 0) (cs.take (n * es) ++ ys)]) else none
        | _ => none
      | _ => none
def xPi (opv : List AV → Arg → AV) (R : Rec) (F : List AV) (H : xAA) (z : List AV) (bytes : Nat) (x : Arg) (n : Arg) : Option (AV × xAA) := match xCx (opv F n), opv F x with
    | some m, .sl true _ _ => if m * bytes ≤ xCV ∧ m ≤ xCV ∧ z.all AV.isCell = true then xFk false (m == 0) m z.length (xEg z m) H else none
    | _, _ => none
def xWE (opv : List AV → Arg → AV) (R : Rec) (F : List AV) (H : xAA) (_u0 : Nat) (_u1 : Arg) (_u2 : Arg) : Option (AV × xAA) := none
def xWF (opv : List AV → Arg → AV) (R : Rec) (F : List AV) (H : xAA) (x : Arg) (y : Arg) : Option (AV × xAA) := match opv F x, opv F y with
    | .int k a, .int _ b => some (.int k (if b > a then b else a), H)
    | _, _ => none
def xWG (opv : List AV → Arg → AV) (R : Rec) (F : List AV) (H : xAA) (x : Arg) (y : Arg) : Option (AV × xAA) := match opv F x, opv F y with
    | .int k a, .int _ b => some (.int k (if b < a then b else a), H)
    | _, _ => none
def xWH (opv : List AV → Arg → AV) (R : Rec) (F : List AV) (H : xAA) (f : Nat) (args : List Arg) : Option (AV × xAA) := xCX R f (args.map (opv F)) H
def xTo (opv : List AV → Arg → AV) (R : Rec) (F : List AV) (H : xAA) (f : Arg) (args : List Arg) : Option (AV × xAA) := R.icall (opv F f) (args.map (opv F)) H
def xTp (opv : List AV → Arg → AV) (R : Rec) (F : List AV) (H : xAA) (f : Arg) (args : List Arg) : Option (AV × xAA) := match opv F f with
    | .func g caps => xCX R g (args.map (opv F) ++ caps) H
    | _ => none
def xZt (opv : List AV → Arg → AV) (R : Rec) (F : List AV) (H : xAA) (g : Bool) (es : Nat) (len : Nat) (x : Arg) (i : Arg) : Option (AV × xAA) := match opv F x, xCx (opv F i) with
    | .agg cs, some j => if j < len ∧ j * es + es ≤ cs.length then (mkv g ((cs.drop (j * es)).take es)).map fun v => (v, H) else none
    | _, _ => none
def xTq (opv : List AV → Arg → AV) (R : Rec) (F : List AV) (H : xAA) (es : Nat) (len : Nat) (x : Arg) (i : Arg) : Option (AV × xAA) := match opv F x, xCx (opv F i) with
    | .ptr id off, some j => if j < len then some (.ptr id (off + j * es), H) else none
    | .vptr cs off, some j => if j < len then some (.vptr cs (off + j * es), H) else none
    | _, _ => none
def xWI (opv : List AV → Arg → AV) (R : Rec) (F : List AV) (H : xAA) (b : Nat) (es : Nat) (len : Nat) (i : Arg) : Option (AV × xAA) := match xPd b, xCx (opv F i) with
    | some cs, some j => if j < len then some (.vptr cs (j * es), H) else none
    | _, _ => none
def xWJ (opv : List AV → Arg → AV) (R : Rec) (F : List AV) (H : xAA) (x : Arg) (i : Arg) : Option (AV × xAA) := match opv F x, xCx (opv F i) with
    | .str s, some j => (s[j]?).map fun b => (.int .u8 b.toNat, H)
    | _, _ => none
def xWK (opv : List AV → Arg → AV) (R : Rec) (F : List AV) (H : xAA) (x : Arg) : Option (AV × xAA) := match opv F x with
    | .str s => some (.int .i64 s.size, H)
    | _ => none
def yB2 (opv : List AV → Arg → AV) (R : Rec) (F : List AV) (H : xAA) (mx : Bool) (xs : List Arg) : Option (AV × xAA) := match xs.map (opv F) with
    | [] => none
    | x :: r => (mmA mx x r).map fun v => (v, H)
def xRl (opv : List AV → Arg → AV) (R : Rec) (F : List AV) (H : xAA) (x : Arg) (lo : Option Arg) (hi : Option Arg) : Option (AV × xAA) := match opv F x with
    | .str s => (xCM s.size (lo.map (opv F)) (hi.map (opv F)) none).map fun (l, h) => (.str (s.extract l h), H)
    | _ => none
def xWL (opv : List AV → Arg → AV) (R : Rec) (F : List AV) (H : xAA) (neg : Bool) (x : Arg) (y : Arg) : Option (AV × xAA) := match opv F x, opv F y with
    | .str s, .str t => some (.bool ((s.toList == t.toList) != neg), H)
    | _, _ => none
def xPj (opv : List AV → Arg → AV) (R : Rec) (F : List AV) (H : xAA) (f : Nat) (first : List Arg) : Option (AV × xAA) := some (.bfunc f (first.map (opv F)), H)
def xTr (opv : List AV → Arg → AV) (R : Rec) (F : List AV) (H : xAA) (f : Arg) (args : List Arg) : Option (AV × xAA) := match opv F f with
    | .bfunc g first => R.icall (.func g []) (first ++ args.map (opv F)) H
    | _ => none
def xTs (opv : List AV → Arg → AV) (R : Rec) (F : List AV) (H : xAA)  : Option (AV × xAA) := some (.mp H.length, H ++ [.mp []])
def xTt (opv : List AV → Arg → AV) (R : Rec) (F : List AV) (H : xAA) (ks : List Nat) (comma : Bool) (z : AV) (x : Arg) (k : Arg) : Option (AV × xAA) := if xDC ks (opv F k) then match xPe H (opv F x) with
    | none => none
    | some es => match xI0 (opv F k) es with
      | none => none
      | some none => some (if comma then .tup [z, .bool false] else z, H)
      | some (some v) => some (if comma then .tup [v, .bool true] else v, H)
    else none
def xWM (opv : List AV → Arg → AV) (R : Rec) (F : List AV) (H : xAA) (ks : List Nat) (m : Arg) (k : Arg) (v : Arg) : Option (AV × xAA) := if xDC ks (opv F k) then match opv F m with
    | .mp id => match H[id]? with
      | some (.mp es) => (xPD (opv F k) (opv F v) es).map fun es' => (.tup [], H.set id (.mp es'))
      | _ => none
    | _ => none
    else none
def xWN (opv : List AV → Arg → AV) (R : Rec) (F : List AV) (H : xAA) (x : Arg) : Option (AV × xAA) := (xPe H (opv F x)).map fun es => (.int .i64 es.length, H)
def xWO (opv : List AV → Arg → AV) (R : Rec) (F : List AV) (H : xAA) (neg : Bool) (x : Arg) : Option (AV × xAA) := match opv F x with
    | .nilm => some (.bool (true != neg), H)
    | .mp _ => some (.bool (false != neg), H)
    | _ => none
def xRm (opv : List AV → Arg → AV) (R : Rec) (F : List AV) (H : xAA) (fz : Bool) (x : Arg) : Option (AV × xAA) := match opv F x with
    | .str s => xFk fz false s.size 1 (xDn s) H
    | _ => none
def xWP (opv : List AV → Arg → AV) (R : Rec) (F : List AV) (H : xAA) (x : Arg) : Option (AV × xAA) := match src H 1 (opv F x) with
    | some (_, cs) => (xMk cs).map fun bs => (.str ⟨⟨bs⟩⟩, H)
    | none => none
def xWQ (opv : List AV → Arg → AV) (R : Rec) (F : List AV) (H : xAA) (x : Arg) (y : Arg) : Option (AV × xAA) := match opv F x, opv F y with
    | .str s, .str t => if s.size + t.size ≤ 9223372036854775807 then some (.str ⟨⟨s.data.toList ++ t.data.toList⟩⟩, H) else none
    | _, _ => none
def xTu (opv : List AV → Arg → AV) (R : Rec) (F : List AV) (H : xAA) (f : Nat) (args : List Arg) : Option (AV × xAA) := match (args.map (opv F)).mapM (frz xBI H) with
    | none => none
    | some args' => match xEu R f args' with
      | none => none
      | some (v, B) => some (xGu H.length v, xCz H ((args.map (opv F)).flatMap (bor xBI H)) ++ B)

noncomputable def xKF (R : Rec) (F : List AV) (H : xAA) : AOp → Option (AV × xAA)
  | .mov x => xZl xDL R F H x
  | .pick c a b => xWB xDL R F H c a b
  | .box x => xZm xDL R F H x
  | .build z parts => xTh xDL R F H z parts
  | .bslice fz z es n parts => xRh xDL R F H fz z es n parts
  | .load g n p => xWC xDL R F H g n p
  | .store n p v => xTi xDL R F H n p v
  | .nilchk x => xRi xDL R F H x
  | .bin op x y => xZn xDL R F H op x y
  | .beq neg x y => xZo xDL R F H neg x y
  | .isnil neg x => xTj xDL R F H neg x
  | .un op x => yB1 xDL R F H op x
  | .conv k x => xWD xDL R F H k x
  | .mkfunc f caps => xRj xDL R F H f caps
  | .mkslice fz z bytes l c => xPh xDL R F H fz z bytes l c
  | .slice es x lo hi mx => xTk xDL R F H es x lo hi mx
  | .faddr o x => xTl xDL R F H o x
  | .field g off n x => xTm xDL R F H g off n x
  | .iaddr es x i => xTn xDL R F H es x i
  | .ext i x => xZp xDL R F H i x
  | .len x => xZq xDL R F H x
  | .cap x => xZr xDL R F H x
  | .aeq neg n x y => xZs xDL R F H neg n x y
  | .append fz es bytes x y => xRk xDL R F H fz es bytes x y
  | .appendz z bytes x n => xPi xDL R F H z bytes x n
  | .copy _u0 _u1 _u2 => xWE xDL R F H _u0 _u1 _u2
  | .maxi x y => xWF xDL R F H x y
  | .mini x y => xWG xDL R F H x y
  | .call f args => xWH xDL R F H f args
  | .icall f args => xTo xDL R F H f args
  | .fcall f args => xTp xDL R F H f args
  | .idx g es len x i => xZt xDL R F H g es len x i
  | .arrat es len x i => xTq xDL R F H es len x i
  | .garr b es len i => xWI xDL R F H b es len i
  | .sidx x i => xWJ xDL R F H x i
  | .slen x => xWK xDL R F H x
  | .mm mx xs => yB2 xDL R F H mx xs
  | .sslice x lo hi => xRl xDL R F H x lo hi
  | .sbeq neg x y => xWL xDL R F H neg x y
  | .mkbound f first => xPj xDL R F H f first
  | .bcall f args => xTr xDL R F H f args
  | .mkmap  => xTs xDL R F H 
  | .mlook ks comma z x k => xTt xDL R F H ks comma z x k
  | .mupd ks m k v => xWM xDL R F H ks m k v
  | .mlen x => xWN xDL R F H x
  | .mnil neg x => xWO xDL R F H neg x
  | .sbytes fz x => xRm xDL R F H fz x
  | .bstr x => xWP xDL R F H x
  | .sadd x y => xWQ xDL R F H x y
  | .ocall f args => xTu xDL R F H f args

theorem xJ8 (R : Rec) (F : List AV) (H : xAA) (op : AOp) : xKF R F H op = xAm R F H op := by
  cases op <;> simp only [xKF, xRf] <;> rfl

def fN {α : Type} (a : Nat) (k : Nat → α) : α := match a with
  | 0 => k 0
  | n + 1 => k (n + 1)
theorem xZu {α : Type} (a : Nat) (k : Nat → α) : fN a k = k a := by cases a <;> rfl
def fI {α : Type} (x : Int) (k : Int → α) : α := match x with
  | .ofNat a => fN a fun a => k (.ofNat a)
  | .negSucc a => fN a fun a => k (.negSucc a)
theorem yB3 {α : Type} (x : Int) (k : Int → α) : fI x k = k x := by cases x <;> simp only [fI, xZu]
def fBo {α : Type} (x : Bool) (k : Bool → α) : α := match x with
  | true => k true
  | false => k false
theorem xZv {α : Type} (x : Bool) (k : Bool → α) : fBo x k = k x := by cases x <;> rfl
def fV {α : Type} (v : AV) (k : AV → α) : α := match v with
  | .int kd n => fI n fun n => k (.int kd n)
  | .bool b => fBo b fun b => k (.bool b)
  | .ptr i o => fN i fun i => fN o fun o => k (.ptr i o)
  | .own z i o n e => fBo z fun z => fN i fun i => fN o fun o => fN n fun n => fN e fun e => k (.own z i o n e)
  | .sl z n cs => fN n fun n => k (.sl z n cs)
  | v => k v
theorem xWR {α : Type} (v : AV) (k : AV → α) : fV v k = k v := by
  cases v <;> simp only [fV, yB3, xZv, xZu]
noncomputable def fS {α : Type} (l : List AV) : (List AV → α) → α := List.rec (motive := fun _ => (List AV → α) → α) (fun k => k []) (fun v _ ih k => ih fun vs => k (v :: vs)) l
theorem xTv {α : Type} : ∀ (l : List AV) (k : List AV → α), fS l k = k l
  | [], k => rfl
  | v :: vs, k => by
    show fS vs (fun vs => k (v :: vs)) = _
    rw [xTv vs]
def fL {α : Type} : List AV → (List AV → α) → α
  | [], k => k []
  | v :: vs, k => fV v fun v => fL vs fun vs => k (v :: vs)
theorem xZw {α : Type} : ∀ (l : List AV) (k : List AV → α), fL l k = k l
  | [], k => rfl
  | v :: vs, k => by rw [fL, xWR, xZw vs]
def fB {α : Type} (b : Blk) (k : Blk → α) : α := match b with
  | .cells fz z cs => fL cs fun cs => k (.cells fz z cs)
  | b => k b
theorem yB4 {α : Type} (b : Blk) (k : Blk → α) : fB b k = k b := by
  cases b <;> first | rfl | simp only [fB, xZw]
noncomputable def fAt {α : Type} (l : List Blk) : Nat → (List Blk → α) → α := List.rec (motive := fun _ => Nat → (List Blk → α) → α) (fun _ k => k []) (fun b bs ih n k => Nat.casesOn (motive := fun _ => α) n (fB b fun b => k (b :: bs)) (fun m => ih m fun bs => k (b :: bs))) l
theorem xUW {α : Type} : ∀ (l : List Blk) (n : Nat) (k : List Blk → α), fAt l n k = k l
  | [], n, k => rfl
  | b :: bs, 0, k => by
    show fB b (fun b => k (b :: bs)) = _
    rw [yB4]
  | b :: bs, n + 1, k => by
    show fAt bs n (fun bs => k (b :: bs)) = _
    rw [xUW bs]
noncomputable def yEv (l : List Blk) : Nat := List.rec (motive := fun _ => Nat) 0 (fun _ _ n => n + 1) l
noncomputable def yB5 (F : List AV) (H : List Blk) : AOp → Nat
  | .store _ p _ => match xDL F p with
    | .ptr id _ => id
    | _ => 0
  | _ => yEv H
def xZx : AOp → Bool
  | .mov _ | .pick .. | .bin .. | .beq .. | .aeq .. | .un .. | .conv .. | .ext .. | .faddr .. | .field .. | .iaddr .. | .len _ | .cap _ | .isnil .. | .maxi .. | .mini .. | .nilchk _ | .mkfunc .. | .slice .. | .idx .. | .arrat .. | .garr .. | .sidx .. | .slen .. | .mm .. | .sslice .. | .sbeq .. | .mkbound .. | .load .. | .build .. | .mlook .. | .mlen _ | .mnil .. => true
  | _ => false
noncomputable def xWS (d : Option Nat) (F : List AV) (keep : Bool) (sp : Nat) : Option (AV × xAA) → Option St
  | some (v, H) => fV v fun v => fS (yB0 F d v) fun F => if keep then some ⟨F, H⟩ else fAt H sp fun H => some ⟨F, H⟩
  | none => none
theorem xTw (d : Option Nat) (F : List AV) (keep : Bool) (sp : Nat) (x : Option (AV × xAA)) : xWS d F keep sp x = x.map fun (v, H) => ⟨putA F d v, H⟩ := by
  cases x with
  | none => rfl
  | some p =>
    obtain ⟨v, H⟩ := p
    simp only [xWS, xWR, xTv, xUW, ite_self, xRg]
    rfl
def xZy (o : AOper) (s : St) (r : Option St) : Option Bool → Option St
  | none => none
  | some false => some ⟨putA s.F o.dst (.tup []), s.H⟩
  | some true => r
noncomputable def xGV (R : Rec) (o : AOper) (s : St) : Option St := xZy o s (xWS o.dst s.F (xZx o.op) (yB5 s.F s.H o.op) (xKF R s.F s.H o.op)) (xDB s.F o.guard)
theorem xMm (R : Rec) (o : AOper) (s : St) : xGV R o s = xBN R o s := by
  unfold xGV xBN
  rw [xJ8, xTw]
  split <;> rename_i e <;> rw [e] <;> rfl

noncomputable def xTx (k : St → Option St) : Option St → Option St
  | some s => k s
  | none => none
noncomputable def xI4 (R : Rec) (ops : List AOper) : St → Option St := List.rec (motive := fun _ => St → Option St) (fun s => some s) (fun o _ ih s => xTx ih (xGV R o s)) ops
theorem xHo (R : Rec) : ∀ (ops : List AOper) (s : St), xI4 R ops s = xBJ R ops s
  | [], s => rfl
  | o :: rest, s => by
    show xTx (xI4 R rest) (xGV R o s) = _
    simp only [xBJ, xMm]
    cases xBN R o s with
    | none => rfl
    | some s' => exact xHo R rest s'

def xWT : AOp → Bool
  | .call .. | .fcall .. | .append .. | .box .. | .bslice .. | .mkslice .. | .appendz .. | .copy .. | .icall .. | .bcall .. | .store .. | .ocall .. | .mkmap | .mupd .. | .sbytes .. => true
  | _ => false
noncomputable def xNh (R : Rec) (F : List AV) (H : xAA) (op : AOp) : Option AV := if xWT op then xBv R F H op else (xKF R F H op).map (·.1)
theorem xPk (R : Rec) (F : List AV) (H : xAA) (op : AOp) : xNh R F H op = xBv R F H op := by
  unfold xNh
  rw [xJ8]
  cases op <;> rfl
noncomputable def frF (d : Option Nat) (s : St) : Option AV → Option St
  | some v => fV v fun v => fS (yB0 s.F d v) fun F => some ⟨F, s.H⟩
  | none => none
theorem xZz (d : Option Nat) (s : St) (x : Option AV) : frF d s x = x.map fun v => ⟨putA s.F d v, s.H⟩ := by
  cases x with
  | none => rfl
  | some v => simp only [frF, xWR, xTv, xRg]; rfl
noncomputable def xGW (R : Rec) (o : AOper) (s : St) : Option St := xZy o s (frF o.dst s (xNh R s.F s.H o.op)) (xDB s.F o.guard)
theorem xMn (R : Rec) (o : AOper) (s : St) : xGW R o s = xBX R o s := by
  unfold xGW xBX
  rw [xPk, xZz]
  split <;> rename_i e <;> rw [e] <;> rfl
noncomputable def xKG (R : Rec) (ops : List AOper) : St → Option St := List.rec (motive := fun _ => St → Option St) (fun s => some s) (fun o _ ih s => xTx ih (xGW R o s)) ops
theorem xI5 (R : Rec) : ∀ (ops : List AOper) (s : St), xKG R ops s = xCt R ops s
  | [], s => rfl
  | o :: rest, s => by
    show xTx (xKG R rest) (xGW R o s) = _
    simp only [xCt, xMn]
    cases xBX R o s with
    | none => rfl
    | some s' => exact xI5 R rest s'

noncomputable def yDu (k : St → Option (AExit × St)) : Option (AExit × St) → Option (AExit × St)
  | some (.normal, s') => k s'
  | r => r
noncomputable def xZA (x y : Option (AExit × St)) : AV → Option (AExit × St)
  | .bool t => if t then x else y
  | _ => none
def xUX (id : Nat) : Option (AExit × St) → Option (AExit × St)
  | some (.exit i, s') => if i = id then some (.normal, s') else some (.exit i, s')
  | r => r
def yAR : Option St → Option (AExit × St)
  | some s => some (.normal, s)
  | none => none
noncomputable def xWU (R : Rec) (m : Nat) (ops : List AOper) (s : St) : Option (AExit × St) := match xKG R (ops.take m) s with
  | none => none
  | some s1 => yAR (xI4 R (ops.drop m) (xCJ (ops.take m) s1))
def yDv (i : Nat) (k : AV → Option (AExit × St)) : Option AV → Option (AExit × St)
  | some v => k v
  | none => none
noncomputable def xUY (R : Rec) (c : ACode) : St → Option (AExit × St) :=
  ACode.rec (motive := fun _ => St → Option (AExit × St))
    (fun s => some (.normal, s)) (fun ops s => yAR (xI4 R ops s)) (fun m ops s => xWU R m ops s) (fun ls m ops s => run R (.drawl ls m ops) s)
    (fun als ls m ops s => run R (.drawp als ls m ops) s) (fun hs als ls m ops s => run R (.drawh hs als ls m ops) s)
    (fun ss _ ih s => ih ⟨s.F, xCz s.H (ss.flatMap fun i => bor xBI s.H (s.F.getD i .any))⟩) (fun i _ ih s => yDv i (fun v => ih ⟨s.F.set i v, xCz s.H (bor xBI s.H (s.F.getD i .any))⟩) (frz xBI s.H (s.F.getD i .any))) (fun _ _ iha ihb s => yDu ihb (iha s)) (fun c _ _ iha ihb s => xZA (iha s) (ihb s) (xDL s.F c))
    (fun id _ ih s => xUX id (ih s)) (fun scr b _ s => R.loop scr b s) (fun f ps asg body _ _ s => run R (.range f ps asg body) s) (fun id s => some (.exit id, s)) (fun _ ih s => ih s)
    (fun s => some (.normal, s)) (fun s => some (.ret, s)) (fun _ => none) c
theorem xRn (x : Option St) : yAR x = x.map fun s' => (.normal, s') := by cases x <;> rfl
theorem xRo (R : Rec) (c : ACode) : ∀ s, xUY R c s = run R c s := by
  induction c <;> intro s
  case region ops => show yAR (xI4 R ops s) = _; simp only [run, xHo, xRn]
  case draw m ops =>
    show xWU R m ops s = _
    simp only [run, xWU, xI5, xHo, xRn]
    cases xCt R (ops.take m) s <;> rfl
  case seq a b iha ihb =>
    show yDu (xUY R b) (xUY R a s) = _
    simp only [run, iha]
    cases run R a s with
    | none => rfl
    | some p =>
      obtain ⟨e, s'⟩ := p
      cases e with
      | normal => exact ihb s'
      | exit i => rfl
      | ret => rfl
  case cond c a b iha ihb =>
    show xZA (xUY R a s) (xUY R b s) (xDL s.F c) = _
    simp only [run, iha, ihb, xRf]
    cases opv s.F c <;> rfl
  case block id b ih =>
    show xUX id (xUY R b s) = _
    simp only [run, ih]
    cases run R b s with
    | none => rfl
    | some p => obtain ⟨e, s'⟩ := p; cases e <;> rfl
  case scope b ih => exact ih s
  case fz ss b ih => exact ih _
  case fzs i b ih =>
    show yDv i _ _ = _
    simp only [run]
    cases frz xBI s.H (s.F.getD i .any) with
    | none => rfl
    | some v => exact ih _
  all_goals rfl

def yEw (fn : AFunc) : Option (AExit × St) → Option (AV × xAA)
  | some (.normal, s) | some (.ret, s) => (xC9 fn.results s).map fun v => (v, s.H)
  | _ => none
noncomputable def xTy (R : Rec) (fn : AFunc) (args : List AV) (H : xAA) : Option (AV × xAA) := yEw fn (xUY R fn.code (xMl fn args H))
theorem xOo (R : Rec) (fn : AFunc) (args : List AV) (H : xAA) : xTy R fn args H = xBD R fn args H := by
  unfold xTy xBD
  rw [xRo]
  cases run R fn.code (xMl fn args H) with
  | none => rfl
  | some p => obtain ⟨e, s'⟩ := p; cases e <;> rfl
def yEx : Option (AV × xAA) → Option AV
  | some (r, H') => frz xBI H' r
  | none => Option.none
def xI6 : List AV → Nat → List Nat → List AV
  | [], _, _ => []
  | v :: F, _, [] => v :: F
  | v :: F, i, s :: scr => if s = i then .any :: xI6 F (i + 1) scr else v :: xI6 F (i + 1) (s :: scr)
def asc : List Nat → Nat → Bool
  | [], _ => true
  | s :: r, lo => decide (lo ≤ s) && asc r (s + 1)
theorem xUZ : ∀ {scr : List Nat} {lo : Nat}, asc scr lo = true → ∀ s ∈ scr, lo ≤ s
  | [], _, _, s, h => by cases h
  | s0 :: r, lo, h, s, hs => by
    simp only [asc, Bool.and_eq_true, decide_eq_true_eq] at h
    rcases List.mem_cons.1 hs with rfl | hs
    · exact h.1
    · have := xUZ h.2 s hs; omega
theorem xWV : ∀ {scr : List Nat} {lo lo' : Nat}, asc scr lo = true → (∀ s ∈ scr, lo' ≤ s) → asc scr lo' = true
  | [], _, _, _, _ => rfl
  | s0 :: r, lo, lo', h, hl => by
    simp only [asc, Bool.and_eq_true, decide_eq_true_eq] at h ⊢
    exact ⟨hl s0 (by simp), h.2⟩
theorem xHp : ∀ (F : List AV) (i : Nat) (scr : List Nat), asc scr i = true → ∀ j, (xI6 F i scr)[j]? = if i + j ∈ scr then (F[j]?).map (fun _ => AV.any) else F[j]?
  | [], i, scr, h, j => by simp [xI6]
  | v :: F, i, [], h, j => by simp [xI6]
  | v :: F, i, s :: scr, h, j => by
    have h' := h
    simp only [asc, Bool.and_eq_true, decide_eq_true_eq] at h'
    unfold xI6
    by_cases e : s = i
    · subst e
      rw [if_pos rfl]
      cases j with
      | zero => simp
      | succ j =>
        rw [List.getElem?_cons_succ, xHp F (s + 1) scr h'.2 j, List.getElem?_cons_succ]
        have : (s + 1 + j ∈ scr) ↔ (s + (j + 1) ∈ s :: scr) := by
          rw [show s + (j + 1) = s + 1 + j by omega, List.mem_cons]
          exact ⟨.inr, fun q => q.elim (fun q => by omega) id⟩
        simp only [this]
    · rw [if_neg e]
      have hm : ∀ x ∈ s :: scr, i + 1 ≤ x := fun x hx => by
        rcases List.mem_cons.1 hx with rfl | hx
        · omega
        · have := xUZ h'.2 x hx; omega
      cases j with
      | zero =>
        have : ¬ (i + 0 ∈ s :: scr) := fun q => by have := hm _ q; omega
        rw [if_neg this]; rfl
      | succ j =>
        rw [List.getElem?_cons_succ, xHp F (i + 1) (s :: scr) (xWV h hm) j, List.getElem?_cons_succ]
        simp only [show i + (j + 1) = i + 1 + j by omega]
def xOp (scr : List Nat) (F : List AV) : List AV := if asc scr 0 then xI6 F 0 scr else xBw scr F
theorem xMo (scr : List Nat) (F : List AV) : xOp scr F = xBw scr F := by
  unfold xOp
  split
  · rename_i h
    apply List.ext_getElem?
    intro j
    rw [xHp F 0 scr h j, xFM]
    simp only [Nat.zero_add]
  · rfl
noncomputable def xU0 (R : Rec) (scr : List Nat) (b : ACode) : Option (AExit × St) → Option (AExit × St)
  | some (.normal, s') => R.loop scr b s'
  | some (e, s') => some (e, ⟨xOp scr s'.F, s'.H⟩)
  | none => none
noncomputable def xZB (prog : Nat → Option AFunc) (R : Rec) (args : List AV) (H : xAA) : AV → Option (AV × xAA)
  | .func f caps => match prog f with
    | some fn => xTy R fn (args ++ caps) H
    | none => Option.none
  | f => xEM prog R f args H
noncomputable def xWW (prog : Nat → Option AFunc) (R : Rec) : Rec where
  pcall f args := match prog f with
    | some fn => yEx (xTy R fn args [])
    | none => Option.none
  icall f args H := xZB prog R args H f
  loop scr b s := fS (xOp scr s.F) fun F => xU0 R scr b (xUY R b ⟨F, s.H⟩)
theorem xTz (prog : Nat → Option AFunc) (R : Rec) : xWW prog R = xEC prog R := by
  unfold xWW xEC
  congr 1
  · funext f args
    cases prog f with
    | none => rfl
    | some fn =>
      simp only [xBc, xOo]
      cases xBD R fn args [] <;> rfl
  · funext f args H
    unfold xZB
    split
    · rename_i g caps
      simp only [xEM, xOo]
      cases prog g <;> rfl
    · rfl
  · funext scr b s
    simp only [xI3, xRo, xTv, xMo]
    cases run R b ⟨xBw scr s.F, s.H⟩ with
    | none => rfl
    | some p => obtain ⟨e, s'⟩ := p; cases e <;> simp only [xU0, xMo]
noncomputable def yAS (prog : Nat → Option AFunc) (T : Known) : Nat → Rec
  | 0 => Rec.none
  | n + 1 => xWX T (xWW prog (yAS prog T n))
theorem xRp (prog : Nat → Option AFunc) (T : Known) : ∀ n, yAS prog T n = xWY prog T n
  | 0 => rfl
  | n + 1 => by rw [yAS, xWY, xTz, xRp prog T n]
noncomputable def xRq (prog : Nat → Option AFunc) (T : Known) (n f : Nat) (args : List AV) (v : AV) : Bool := match (yAS prog T n).pcall f args with
  | some u => xI7 8 u v
  | none => false
theorem xCa {prog : Nat → Option AFunc} {T : Known} (hT : ∀ e ∈ T, (lim prog).pcall e.1 e.2.1 = some e.2.2) {n f : Nat} {args : List AV} {v : AV} (h : xRq prog T n f args v = true) : (lim prog).pcall f args = some v :=
  xRr hT (n := n) (by unfold xRq at h; rw [xRp] at h; exact h)
end Go.Abs
