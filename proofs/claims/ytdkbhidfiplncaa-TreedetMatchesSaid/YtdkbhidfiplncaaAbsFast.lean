/- The interpreter once more,its alternatives as functions of their own: what the kernel unfolds is small. -/
import Derived.Test.YtdkbhidfiplncaaAbsOver
namespace Go.Abs
set_option linter.unusedVariables false
noncomputable def yHk (F : List AV) : Nat → AV := List.rec (motive := fun _ => Nat → AV) (fun _ => .any) (fun v _ ih n => Nat.casesOn (motive := fun _ => AV) n v ih) F
noncomputable def yIc (x : AV) (F : List AV) : Nat → List AV := List.rec (motive := fun _ => Nat → List AV) (fun _ => []) (fun v F ih n => Nat.casesOn (motive := fun _ => List AV) n (x :: F) (fun m => v :: ih m)) F
theorem xYg : ∀ (F : List AV) (i : Nat),yHk F i = F.getD i .any
 | [],i => by simp [yHk]
 | v :: F,0 => rfl
 | v :: F,i + 1 => by
  show yHk F i = _
  rw [xYg F i]; simp
theorem xYh (x : AV) : ∀ (F : List AV) (i : Nat),yIc x F i = F.set i x
 | [],i => rfl
 | v :: F,0 => rfl
 | v :: F,i + 1 => by
  show v :: yIc x F i = _
  rw [xYh x F i]; rfl
noncomputable def xBT (F : List AV) : Arg → AV
 | .t i => yHk F i
 | .c v => v
theorem xYi : xBT = opv := by
 funext F x
 cases x with
 | t i => exact xYg F i
 | c v => rfl
noncomputable def yId (F : List AV) (d : Option Nat) (v : AV) : List AV := match d with
 | some d => yIc v F d
 | none => F
theorem xYj : yId = putA := by
 funext F d v
 cases d with
 | none => rfl
 | some d => exact xYh v F d
def yGd (opv : List AV → Arg → AV) (R : Rec) (F : List AV) (H : xAc) (x : Arg) : Option (AV × xAc) := some (opv F x,H)
def yEf (opv : List AV → Arg → AV) (R : Rec) (F : List AV) (H : xAc) (c : Arg) (a : Arg) (b : Arg) : Option (AV × xAc) := match opv F c with
  | .bool t => some (if t then opv F a else opv F b,H)
  | _ => none
def yGe (opv : List AV → Arg → AV) (R : Rec) (F : List AV) (H : xAc) (x : Arg) : Option (AV × xAc) := let cs := (opv F x).cells; if cs.all AV.isCell then some (.ptr H.length 0,H ++ [.cells false false cs]) else none
def yA0 (opv : List AV → Arg → AV) (R : Rec) (F : List AV) (H : xAc) (z : List AV) (parts : List (Nat × Nat × Arg)) : Option (AV × xAc) :=
  (if parts.all (fun p => (opv F p.2.2).cells.length == p.2.1) then
   (fillA z (parts.map fun p => (p.1,(opv F p.2.2).cells))).map fun cs => (.agg cs,H) else none)
def xYk (opv : List AV → Arg → AV) (R : Rec) (F : List AV) (H : xAc) (fz : Bool) (z : List AV) (es : Nat) (n : Nat) (parts : List (Nat × Arg)) : Option (AV × xAc) :=
  (if parts.all (fun p => (opv F p.2).cells.length == es) then
   match fillA (xCD z n) (parts.map fun p => (p.1 * es,(opv F p.2).cells)) with
   | some cs => xDm fz false n es cs H
   | none => none
   else none)
def yEg (opv : List AV → Arg → AV) (R : Rec) (F : List AV) (H : xAc) (g : Bool) (n : Nat) (p : Arg) : Option (AV × xAc) := match rd H (opv F p) n with
  | some cs => (mkv g cs).map fun v => (v,H)
  | none => none
def yA1 (opv : List AV → Arg → AV) (R : Rec) (F : List AV) (H : xAc) (n : Nat) (p : Arg) (v : Arg) : Option (AV × xAc) := let cs := (opv F v).cells; if cs.length = n then (wr H (opv F p) cs).map fun H' => (.tup [],H') else none
def xYl (opv : List AV → Arg → AV) (R : Rec) (F : List AV) (H : xAc) (x : Arg) : Option (AV × xAc) := match opv F x with
  | .ptr id off => some (.ptr id off,H)
  | .vptr cs off => some (.vptr cs off,H)
  | .func f caps => some (.func f caps,H)
  | .yield l => some (.yield l,H)
  | _ => none
def yGf (opv : List AV → Arg → AV) (R : Rec) (F : List AV) (H : xAc) (op : BinOp) (x : Arg) (y : Arg) : Option (AV × xAc) := (xDb op (opv F x) (opv F y)).map fun v => (v,H)
def yGg (opv : List AV → Arg → AV) (R : Rec) (F : List AV) (H : xAc) (neg : Bool) (x : Arg) (y : Arg) : Option (AV × xAc) := match opv F x,opv F y with
  | .bool a,.bool b => some (.bool (if neg then a != b else a == b),H)
  | _,_ => none
def yA2 (opv : List AV → Arg → AV) (R : Rec) (F : List AV) (H : xAc) (neg : Bool) (x : Arg) : Option (AV × xAc) := match opv F x with
  | .sl z _ _ => some (.bool (z != neg),H)
  | .own z _ _ _ _ => some (.bool (z != neg),H)
  | _ => none
def yIe (opv : List AV → Arg → AV) (R : Rec) (F : List AV) (H : xAc) (op : UnOp) (x : Arg) : Option (AV × xAc) := (unA op (opv F x)).map fun v => (v,H)
def yEh (opv : List AV → Arg → AV) (R : Rec) (F : List AV) (H : xAc) (k : IntKind) (x : Arg) : Option (AV × xAc) := match opv F x with
  | .int _ n => some (.int k (k.wrap n),H)
  | _ => none
def xYm (opv : List AV → Arg → AV) (R : Rec) (F : List AV) (H : xAc) (f : Nat) (caps : List Arg) : Option (AV × xAc) := some (.func f (caps.map (opv F)),H)
def xU9 (opv : List AV → Arg → AV) (R : Rec) (F : List AV) (H : xAc) (fz : Bool) (z : List AV) (bytes : Nat) (l : Arg) (c : Arg) : Option (AV × xAc) := match opv F l,opv F c with
  | .int _ l,.int _ c => if 0 ≤ l ∧ l ≤ c ∧ c * bytes ≤ xBi ∧ c ≤ xBi ∧ z.all AV.isCell = true then xDm fz false l.toNat z.length (xCD z l.toNat) H else none
  | _,_ => none
def yA3 (opv : List AV → Arg → AV) (R : Rec) (F : List AV) (H : xAc) (es : Nat) (x : Arg) (lo : Option Arg) (hi : Option Arg) (mx : Option Arg) : Option (AV × xAc) := match opv F x with
  | .sl z n cs => if cs.length = n * es then (xBd n (lo.map (opv F)) (hi.map (opv F)) (mx.map (opv F))).map fun (l,h) => (.sl z (h - l) ((cs.drop (l * es)).take ((h - l) * es)),H) else none
  | .own z id off n es' => if es' = es then (xBd n (lo.map (opv F)) (hi.map (opv F)) (mx.map (opv F))).map fun (l,h) => (.own z id (off + l * es) (h - l) es,H) else none
  | _ => none
def yA4 (opv : List AV → Arg → AV) (R : Rec) (F : List AV) (H : xAc) (o : Nat) (x : Arg) : Option (AV × xAc) := match opv F x with
  | .ptr id off => some (.ptr id (off + o),H)
  | .vptr cs off => some (.vptr cs (off + o),H)
  | _ => none
def yA5 (opv : List AV → Arg → AV) (R : Rec) (F : List AV) (H : xAc) (g : Bool) (off : Nat) (n : Nat) (x : Arg) : Option (AV × xAc) := match opv F x with
  | .agg cs => if off + n ≤ cs.length then (mkv g ((cs.drop off).take n)).map fun v => (v,H) else none
  | _ => none
def yA6 (opv : List AV → Arg → AV) (R : Rec) (F : List AV) (H : xAc) (es : Nat) (x : Arg) (i : Arg) : Option (AV × xAc) := match opv F x,xA9 (opv F i) with
  | .sl _ n cs,some i => if i < n then some (.vptr cs (i * es),H) else none
  | .own _ id off n es',some i => if i < n ∧ es' = es then some (.ptr id (off + i * es),H) else none
  | _,_ => none
def yGh (opv : List AV → Arg → AV) (R : Rec) (F : List AV) (H : xAc) (i : Nat) (x : Arg) : Option (AV × xAc) := match opv F x with
  | .tup vs => (vs[i]?).map fun v => (v,H)
  | _ => none
def yGi (opv : List AV → Arg → AV) (R : Rec) (F : List AV) (H : xAc) (x : Arg) : Option (AV × xAc) := match opv F x with
  | .sl _ n _ => some (.int .i64 n,H)
  | .own _ _ _ n _ => some (.int .i64 n,H)
  | _ => none
def yGj (opv : List AV → Arg → AV) (R : Rec) (F : List AV) (H : xAc) (x : Arg) : Option (AV × xAc) := match opv F x with
  | .sl true _ _ => some (.int .i64 0,H)
  | _ => none
def yGk (opv : List AV → Arg → AV) (R : Rec) (F : List AV) (H : xAc) (neg : Bool) (n : Nat) (x : Arg) (y : Arg) : Option (AV × xAc) := match opv F x,opv F y with
  | .agg cs,.agg ds => if cs.length = n then (xBS cs ds).map fun b => (.bool (b != neg),H) else none
  | _,_ => none
def xYn (opv : List AV → Arg → AV) (R : Rec) (F : List AV) (H : xAc) (fz : Bool) (es : Nat) (bytes : Nat) (x : Arg) (y : Arg) : Option (AV × xAc) := match src H es (opv F y) with
  | none => none
  | some (m,ys) => match opv F x with
   | .sl true _ _ => if m * bytes ≤ xBi ∧ m ≤ xBi then xDm fz (m == 0) m es ys H else none
   | .own z id off n es' => match H[id]? with
    | some (.cells false _ cs) => if off = 0 ∧ es' = es ∧ n * es ≤ cs.length ∧ (n + m) * bytes ≤ xBi ∧ n + m ≤ xBi then
      some (.own (z && m == 0) H.length 0 (n + m) es,H.set id .dead ++ [.cells false (z && m == 0) (cs.take (n * es) ++ ys)]) else none
    | _ => none
   | _ => none
def xVa (opv : List AV → Arg → AV) (R : Rec) (F : List AV) (H : xAc) (z : List AV) (bytes : Nat) (x : Arg) (n : Arg) : Option (AV × xAc) := match xA9 (opv F n),opv F x with
  | some m,.sl true _ _ => if m * bytes ≤ xBi ∧ m ≤ xBi ∧ z.all AV.isCell = true then xDm false (m == 0) m z.length (xCD z m) H else none
  | _,_ => none
def yEi (opv : List AV → Arg → AV) (R : Rec) (F : List AV) (H : xAc) (_u0 : Nat) (_u1 : Arg) (_u2 : Arg) : Option (AV × xAc) := none
def yEj (opv : List AV → Arg → AV) (R : Rec) (F : List AV) (H : xAc) (x : Arg) (y : Arg) : Option (AV × xAc) := match opv F x,opv F y with
  | .int k a,.int _ b => some (.int k (if b > a then b else a),H)
  | _,_ => none
def yEk (opv : List AV → Arg → AV) (R : Rec) (F : List AV) (H : xAc) (x : Arg) (y : Arg) : Option (AV × xAc) := match opv F x,opv F y with
  | .int k a,.int _ b => some (.int k (if b < a then b else a),H)
  | _,_ => none
def yEl (opv : List AV → Arg → AV) (R : Rec) (F : List AV) (H : xAc) (f : Nat) (args : List Arg) : Option (AV × xAc) := xBl R f (args.map (opv F)) H
def yA7 (opv : List AV → Arg → AV) (R : Rec) (F : List AV) (H : xAc) (f : Arg) (args : List Arg) : Option (AV × xAc) := R.icall (opv F f) (args.map (opv F)) H
def yA8 (opv : List AV → Arg → AV) (R : Rec) (F : List AV) (H : xAc) (f : Arg) (args : List Arg) : Option (AV × xAc) := match opv F f with
  | .func g caps => xBl R g (args.map (opv F) ++ caps) H
  | _ => none
def yGl (opv : List AV → Arg → AV) (R : Rec) (F : List AV) (H : xAc) (g : Bool) (es : Nat) (len : Nat) (x : Arg) (i : Arg) : Option (AV × xAc) := match opv F x,xA9 (opv F i) with
  | .agg cs,some j => if j < len ∧ j * es + es ≤ cs.length then (mkv g ((cs.drop (j * es)).take es)).map fun v => (v,H) else none
  | _,_ => none
def yA9 (opv : List AV → Arg → AV) (R : Rec) (F : List AV) (H : xAc) (es : Nat) (len : Nat) (x : Arg) (i : Arg) : Option (AV × xAc) := match opv F x,xA9 (opv F i) with
  | .ptr id off,some j => if j < len then some (.ptr id (off + j * es),H) else none
  | .vptr cs off,some j => if j < len then some (.vptr cs (off + j * es),H) else none
  | _,_ => none
def yEm (opv : List AV → Arg → AV) (R : Rec) (F : List AV) (H : xAc) (b : Nat) (es : Nat) (len : Nat) (i : Arg) : Option (AV × xAc) := match xU6 b,xA9 (opv F i) with
  | some cs,some j => if j < len then some (.vptr cs (j * es),H) else none
  | _,_ => none
def yEn (opv : List AV → Arg → AV) (R : Rec) (F : List AV) (H : xAc) (x : Arg) (i : Arg) : Option (AV × xAc) := match opv F x,xA9 (opv F i) with
  | .str s,some j => (s[j]?).map fun b => (.int .u8 b.toNat,H)
  | _,_ => none
def yEo (opv : List AV → Arg → AV) (R : Rec) (F : List AV) (H : xAc) (x : Arg) : Option (AV × xAc) := match opv F x with
  | .str s => some (.int .i64 s.size,H)
  | _ => none
def yIf (opv : List AV → Arg → AV) (R : Rec) (F : List AV) (H : xAc) (mx : Bool) (xs : List Arg) : Option (AV × xAc) := match xs.map (opv F) with
  | [] => none
  | x :: r => (mmA mx x r).map fun v => (v,H)
def xYo (opv : List AV → Arg → AV) (R : Rec) (F : List AV) (H : xAc) (x : Arg) (lo : Option Arg) (hi : Option Arg) : Option (AV × xAc) := match opv F x with
  | .str s => (xBd s.size (lo.map (opv F)) (hi.map (opv F)) none).map fun (l,h) => (.str (s.extract l h),H)
  | _ => none
def yEp (opv : List AV → Arg → AV) (R : Rec) (F : List AV) (H : xAc) (neg : Bool) (x : Arg) (y : Arg) : Option (AV × xAc) := match opv F x,opv F y with
  | .str s,.str t => some (.bool ((s.toList == t.toList) != neg),H)
  | _,_ => none
def xVb (opv : List AV → Arg → AV) (R : Rec) (F : List AV) (H : xAc) (f : Nat) (first : List Arg) : Option (AV × xAc) := some (.bfunc f (first.map (opv F)),H)
def yBa (opv : List AV → Arg → AV) (R : Rec) (F : List AV) (H : xAc) (f : Arg) (args : List Arg) : Option (AV × xAc) := match opv F f with
  | .bfunc g first => R.icall (.func g []) (first ++ args.map (opv F)) H
  | _ => none
def yBb (opv : List AV → Arg → AV) (R : Rec) (F : List AV) (H : xAc)  : Option (AV × xAc) := some (.mp H.length,H ++ [.mp []])
def yBc (opv : List AV → Arg → AV) (R : Rec) (F : List AV) (H : xAc) (ks : List Nat) (comma : Bool) (z : AV) (x : Arg) (k : Arg) : Option (AV × xAc) := if xBJ ks (opv F k) then match xU7 H (opv F x) with
  | none => none
  | some es => match xFO (opv F k) es with
   | none => none
   | some none => some (if comma then .tup [z,.bool false] else z,H)
   | some (some v) => some (if comma then .tup [v,.bool true] else v,H)
  else none
def yEq (opv : List AV → Arg → AV) (R : Rec) (F : List AV) (H : xAc) (ks : List Nat) (m : Arg) (k : Arg) (v : Arg) : Option (AV × xAc) := if xBJ ks (opv F k) then match opv F m with
  | .mp id => match H[id]? with
   | some (.mp es) => (xTU (opv F k) (opv F v) es).map fun es' => (.tup [],H.set id (.mp es'))
   | _ => none
  | _ => none
  else none
def yEr (opv : List AV → Arg → AV) (R : Rec) (F : List AV) (H : xAc) (x : Arg) : Option (AV × xAc) := (xU7 H (opv F x)).map fun es => (.int .i64 es.length,H)
def yEs (opv : List AV → Arg → AV) (R : Rec) (F : List AV) (H : xAc) (neg : Bool) (x : Arg) : Option (AV × xAc) := match opv F x with
  | .nilm => some (.bool (true != neg),H)
  | .mp _ => some (.bool (false != neg),H)
  | _ => none
def xYp (opv : List AV → Arg → AV) (R : Rec) (F : List AV) (H : xAc) (fz : Bool) (x : Arg) : Option (AV × xAc) := match opv F x with
  | .str s => xDm fz false s.size 1 (xBv s) H
  | _ => none
def yEt (opv : List AV → Arg → AV) (R : Rec) (F : List AV) (H : xAc) (x : Arg) : Option (AV × xAc) := match src H 1 (opv F x) with
  | some (_,cs) => (xJs cs).map fun bs => (.str ⟨⟨bs⟩⟩,H)
  | none => none
def yEu (opv : List AV → Arg → AV) (R : Rec) (F : List AV) (H : xAc) (x : Arg) (y : Arg) : Option (AV × xAc) := match opv F x,opv F y with
  | .str s,.str t => if s.size + t.size ≤ 9223372036854775807 then some (.str ⟨⟨s.data.toList ++ t.data.toList⟩⟩,H) else none
  | _,_ => none
def yBd (opv : List AV → Arg → AV) (R : Rec) (F : List AV) (H : xAc) (f : Nat) (args : List Arg) : Option (AV × xAc) := match (args.map (opv F)).mapM (frz frzN H) with
  | none => none
  | some args' => match xEm R f args' with
   | none => none
   | some (v,B) => some (xB4 H.length v,fzIds H ((args.map (opv F)).flatMap (bor frzN H)) ++ B)
def xYq (opv : List AV → Arg → AV) (R : Rec) (F : List AV) (H : xAc) (f : Nat) (args : List Arg) : Option (AV × xAc) := match (args.map (opv F)).mapM (frz frzN H) with
  | none => none
  | some args' => match xAL R f args' with
   | none => none
   | some (v,B) => some (xB4 H.length v,fzIds H ((args.map (opv F)).flatMap (bor frzN H)) ++ B.map (xAP H.length))
noncomputable def xMk (R : Rec) (F : List AV) (H : xAc) : AOp → Option (AV × xAc)
 | .mov x => yGd xBT R F H x
 | .pick c a b => yEf xBT R F H c a b
 | .box x => yGe xBT R F H x
 | .build z parts => yA0 xBT R F H z parts
 | .bslice fz z es n parts => xYk xBT R F H fz z es n parts
 | .load g n p => yEg xBT R F H g n p
 | .store n p v => yA1 xBT R F H n p v
 | .nilchk x => xYl xBT R F H x
 | .bin op x y => yGf xBT R F H op x y
 | .beq neg x y => yGg xBT R F H neg x y
 | .isnil neg x => yA2 xBT R F H neg x
 | .un op x => yIe xBT R F H op x
 | .conv k x => yEh xBT R F H k x
 | .mkfunc f caps => xYm xBT R F H f caps
 | .mkslice fz z bytes l c => xU9 xBT R F H fz z bytes l c
 | .slice es x lo hi mx => yA3 xBT R F H es x lo hi mx
 | .faddr o x => yA4 xBT R F H o x
 | .field g off n x => yA5 xBT R F H g off n x
 | .iaddr es x i => yA6 xBT R F H es x i
 | .ext i x => yGh xBT R F H i x
 | .len x => yGi xBT R F H x
 | .cap x => yGj xBT R F H x
 | .aeq neg n x y => yGk xBT R F H neg n x y
 | .append fz es bytes x y => xYn xBT R F H fz es bytes x y
 | .appendz z bytes x n => xVa xBT R F H z bytes x n
 | .copy _u0 _u1 _u2 => yEi xBT R F H _u0 _u1 _u2
 | .maxi x y => yEj xBT R F H x y
 | .mini x y => yEk xBT R F H x y
 | .call f args => yEl xBT R F H f args
 | .icall f args => yA7 xBT R F H f args
 | .fcall f args => yA8 xBT R F H f args
 | .idx g es len x i => yGl xBT R F H g es len x i
 | .arrat es len x i => yA9 xBT R F H es len x i
 | .garr b es len i => yEm xBT R F H b es len i
 | .sidx x i => yEn xBT R F H x i
 | .slen x => yEo xBT R F H x
 | .mm mx xs => yIf xBT R F H mx xs
 | .sslice x lo hi => xYo xBT R F H x lo hi
 | .sbeq neg x y => yEp xBT R F H neg x y
 | .mkbound f first => xVb xBT R F H f first
 | .bcall f args => yBa xBT R F H f args
 | .mkmap  => yBb xBT R F H 
 | .mlook ks comma z x k => yBc xBT R F H ks comma z x k
 | .mupd ks m k v => yEq xBT R F H ks m k v
 | .mlen x => yEr xBT R F H x
 | .mnil neg x => yEs xBT R F H neg x
 | .sbytes fz x => xYp xBT R F H fz x
 | .bstr x => yEt xBT R F H x
 | .sadd x y => yEu xBT R F H x y
 | .ocall f args => yBd xBT R F H f args
 | .ocallw f args => xYq xBT R F H f args
theorem xLm (R : Rec) (F : List AV) (H : xAc) (op : AOp) : xMk R F H op = xAb R F H op := by
 cases op <;> simp only [xMk,xYi] <;> rfl
def fN {α : Type} (a : Nat) (k : Nat → α) : α := match a with
 | 0 => k 0
 | n + 1 => k (n + 1)
theorem yGm {α : Type} (a : Nat) (k : Nat → α) : fN a k = k a := by cases a <;> rfl
def fI {α : Type} (x : Int) (k : Int → α) : α := match x with
 | .ofNat a => fN a fun a => k (.ofNat a)
 | .negSucc a => fN a fun a => k (.negSucc a)
theorem yIg {α : Type} (x : Int) (k : Int → α) : fI x k = k x := by cases x <;> simp only [fI,yGm]
def fBo {α : Type} (x : Bool) (k : Bool → α) : α := match x with
 | true => k true
 | false => k false
theorem yGn {α : Type} (x : Bool) (k : Bool → α) : fBo x k = k x := by cases x <;> rfl
def fV {α : Type} (v : AV) (k : AV → α) : α := match v with
 | .int kd n => fI n fun n => k (.int kd n)
 | .bool b => fBo b fun b => k (.bool b)
 | .ptr i o => fN i fun i => fN o fun o => k (.ptr i o)
 | .own z i o n e => fBo z fun z => fN i fun i => fN o fun o => fN n fun n => fN e fun e => k (.own z i o n e)
 | .sl z n cs => fN n fun n => k (.sl z n cs)
 | v => k v
theorem yEv {α : Type} (v : AV) (k : AV → α) : fV v k = k v := by
 cases v <;> simp only [fV,yIg,yGn,yGm]
noncomputable def fS {α : Type} (l : List AV) : (List AV → α) → α := List.rec (motive := fun _ => (List AV → α) → α) (fun k => k []) (fun v _ ih k => ih fun vs => k (v :: vs)) l
theorem xVc {α : Type} : ∀ (l : List AV) (k : List AV → α),fS l k = k l
 | [],k => rfl
 | v :: vs,k => by
  show fS vs (fun vs => k (v :: vs)) = _
  rw [xVc vs]
def fL {α : Type} : List AV → (List AV → α) → α
 | [],k => k []
 | v :: vs,k => fV v fun v => fL vs fun vs => k (v :: vs)
theorem yGo {α : Type} : ∀ (l : List AV) (k : List AV → α),fL l k = k l
 | [],k => rfl
 | v :: vs,k => by rw [fL,yEv,yGo vs]
def fB {α : Type} (b : Blk) (k : Blk → α) : α := match b with
 | .cells fz z cs => fL cs fun cs => k (.cells fz z cs)
 | b => k b
theorem yIh {α : Type} (b : Blk) (k : Blk → α) : fB b k = k b := by
 cases b <;> first | rfl | simp only [fB,yGo]
noncomputable def fAt {α : Type} (l : List Blk) : Nat → (List Blk → α) → α := List.rec (motive := fun _ => Nat → (List Blk → α) → α) (fun _ k => k []) (fun b bs ih n k => Nat.casesOn (motive := fun _ => α) n (fB b fun b => k (b :: bs)) (fun m => ih m fun bs => k (b :: bs))) l
theorem yDk {α : Type} : ∀ (l : List Blk) (n : Nat) (k : List Blk → α),fAt l n k = k l
 | [],n,k => rfl
 | b :: bs,0,k => by
  show fB b (fun b => k (b :: bs)) = _
  rw [yIh]
 | b :: bs,n + 1,k => by
  show fAt bs n (fun bs => k (b :: bs)) = _
  rw [yDk bs]
noncomputable def yJP (l : List Blk) : Nat := List.rec (motive := fun _ => Nat) 0 (fun _ _ n => n + 1) l
noncomputable def yIi (F : List AV) (H : List Blk) : AOp → Nat
 | .store _ p _ => match xBT F p with
  | .ptr id _ => id
  | _ => 0
 | _ => yJP H
def yGp : AOp → Bool
 | .mov _ | .pick .. | .bin .. | .beq .. | .aeq .. | .un .. | .conv .. | .ext .. | .faddr .. | .field .. | .iaddr .. | .len _ | .cap _ | .isnil .. | .maxi .. | .mini .. | .nilchk _ | .mkfunc .. | .slice .. | .idx .. | .arrat .. | .garr .. | .sidx .. | .slen .. | .mm .. | .sslice .. | .sbeq .. | .mkbound .. | .load .. | .build .. | .mlook .. | .mlen _ | .mnil .. => true
 | _ => false
noncomputable def yEw (d : Option Nat) (F : List AV) (keep : Bool) (sp : Nat) : Option (AV × xAc) → Option St
 | some (v,H) => fV v fun v => fS (yId F d v) fun F => if keep then some ⟨F,H⟩ else fAt H sp fun H => some ⟨F,H⟩
 | none => none
theorem yBe (d : Option Nat) (F : List AV) (keep : Bool) (sp : Nat) (x : Option (AV × xAc)) : yEw d F keep sp x = x.map fun (v,H) => ⟨putA F d v,H⟩ := by
 cases x with
 | none => rfl
 | some p =>
  obtain ⟨v,H⟩ := p
  simp only [yEw,yEv,xVc,yDk,ite_self,xYj]
  rfl
def yGq (o : AOper) (s : St) (r : Option St) : Option Bool → Option St
 | none => none
 | some false => some ⟨putA s.F o.dst (.tup []),s.H⟩
 | some true => r
noncomputable def xFg (R : Rec) (o : AOper) (s : St) : Option St := yGq o s (yEw o.dst s.F (yGp o.op) (yIi s.F s.H o.op) (xMk R s.F s.H o.op)) (xBH s.F o.guard)
theorem xQb (R : Rec) (o : AOper) (s : St) : xFg R o s = xAB R o s := by
 unfold xFg xAB
 rw [xLm,yBe]
 split <;> rename_i e <;> rw [e] <;> rfl
noncomputable def yBf (k : St → Option St) : Option St → Option St
 | some s => k s
 | none => none
noncomputable def xIR (R : Rec) (ops : List AOper) : St → Option St := List.rec (motive := fun _ => St → Option St) (fun s => some s) (fun o _ ih s => yBf ih (xFg R o s)) ops
theorem xFQ (R : Rec) : ∀ (ops : List AOper) (s : St),xIR R ops s = xAA R ops s
 | [],s => rfl
 | o :: rest,s => by
  show yBf (xIR R rest) (xFg R o s) = _
  simp only [xAA,xQb]
  cases xAB R o s with
  | none => rfl
  | some s' => exact xFQ R rest s'
def yEx : AOp → Bool
 | .call .. | .fcall .. | .append .. | .box .. | .bslice .. | .mkslice .. | .appendz .. | .copy .. | .icall .. | .bcall .. | .store .. | .ocall .. | .ocallw .. | .mkmap | .mupd .. | .sbytes .. => true
 | _ => false
noncomputable def xRf (R : Rec) (F : List AV) (H : xAc) (op : AOp) : Option AV := if yEx op then xAt R F H op else (xMk R F H op).map (·.1)
theorem xVd (R : Rec) (F : List AV) (H : xAc) (op : AOp) : xRf R F H op = xAt R F H op := by
 unfold xRf
 rw [xLm]
 cases op <;> rfl
noncomputable def frF (d : Option Nat) (s : St) : Option AV → Option St
 | some v => fV v fun v => fS (yId s.F d v) fun F => some ⟨F,s.H⟩
 | none => none
theorem yGr (d : Option Nat) (s : St) (x : Option AV) : frF d s x = x.map fun v => ⟨putA s.F d v,s.H⟩ := by
 cases x with
 | none => rfl
 | some v => simp only [frF,yEv,xVc,xYj]; rfl
noncomputable def xFh (R : Rec) (o : AOper) (s : St) : Option St := yGq o s (frF o.dst s (xRf R s.F s.H o.op)) (xBH s.F o.guard)
theorem xQc (R : Rec) (o : AOper) (s : St) : xFh R o s = xAH R o s := by
 unfold xFh xAH
 rw [xVd,yGr]
 split <;> rename_i e <;> rw [e] <;> rfl
noncomputable def xMl (R : Rec) (ops : List AOper) : St → Option St := List.rec (motive := fun _ => St → Option St) (fun s => some s) (fun o _ ih s => yBf ih (xFh R o s)) ops
theorem xIS (R : Rec) : ∀ (ops : List AOper) (s : St),xMl R ops s = xA4 R ops s
 | [],s => rfl
 | o :: rest,s => by
  show yBf (xMl R rest) (xFh R o s) = _
  simp only [xA4,xQc]
  cases xAH R o s with
  | none => rfl
  | some s' => exact xIS R rest s'
noncomputable def yI9 (k : St → Option (AExit × St)) : Option (AExit × St) → Option (AExit × St)
 | some (.normal,s') => k s'
 | r => r
noncomputable def yGs (x y : Option (AExit × St)) : AV → Option (AExit × St)
 | .bool t => if t then x else y
 | _ => none
def yDl (id : Nat) : Option (AExit × St) → Option (AExit × St)
 | some (.exit i,s') => if i = id then some (.normal,s') else some (.exit i,s')
 | r => r
def yHl : Option St → Option (AExit × St)
 | some s => some (.normal,s)
 | none => none
noncomputable def yEy (R : Rec) (m : Nat) (ops : List AOper) (s : St) : Option (AExit × St) := match xMl R (ops.take m) s with
 | none => none
 | some s1 => yHl (xIR R (ops.drop m) (adopt (ops.take m) s1))
def yJa (i : Nat) (k : AV → Option (AExit × St)) : Option AV → Option (AExit × St)
 | some v => k v
 | none => none
noncomputable def yDm (R : Rec) (c : ACode) : St → Option (AExit × St) :=
 ACode.rec (motive := fun _ => St → Option (AExit × St))
  (fun s => some (.normal,s)) (fun ops s => yHl (xIR R ops s)) (fun m ops s => yEy R m ops s) (fun ls m ops s => run R (.drawl ls m ops) s)
  (fun als ls m ops s => run R (.drawp als ls m ops) s) (fun hs als ls m ops s => run R (.drawh hs als ls m ops) s)
  (fun ss _ ih s => ih ⟨s.F,fzIds s.H (ss.flatMap fun i => bor frzN s.H (s.F.getD i .any))⟩) (fun i _ ih s => yJa i (fun v => ih ⟨s.F.set i v,fzIds s.H (bor frzN s.H (s.F.getD i .any))⟩) (frz frzN s.H (s.F.getD i .any))) (fun _ _ iha ihb s => yI9 ihb (iha s)) (fun c _ _ iha ihb s => yGs (iha s) (ihb s) (xBT s.F c))
  (fun id _ ih s => yDl id (ih s)) (fun scr b _ s => R.loop scr b s) (fun f ps asg body _ _ s => run R (.range f ps asg body) s) (fun id s => some (.exit id,s)) (fun _ ih s => ih s)
  (fun s => some (.normal,s)) (fun s => some (.ret,s)) (fun _ => none) c
theorem xYr (x : Option St) : yHl x = x.map fun s' => (.normal,s') := by cases x <;> rfl
theorem xYs (R : Rec) (c : ACode) : ∀ s,yDm R c s = run R c s := by
 induction c <;> intro s
 case region ops => show yHl (xIR R ops s) = _; simp only [run,xFQ,xYr]
 case draw m ops =>
  show yEy R m ops s = _
  simp only [run,yEy,xIS,xFQ,xYr]
  cases xA4 R (ops.take m) s <;> rfl
 case seq a b iha ihb =>
  show yI9 (yDm R b) (yDm R a s) = _
  simp only [run,iha]
  cases run R a s with
  | none => rfl
  | some p =>
   obtain ⟨e,s'⟩ := p
   cases e with
   | normal => exact ihb s'
   | exit i => rfl
   | ret => rfl
 case cond c a b iha ihb =>
  show yGs (yDm R a s) (yDm R b s) (xBT s.F c) = _
  simp only [run,iha,ihb,xYi]
  cases opv s.F c <;> rfl
 case block id b ih =>
  show yDl id (yDm R b s) = _
  simp only [run,ih]
  cases run R b s with
  | none => rfl
  | some p => obtain ⟨e,s'⟩ := p; cases e <;> rfl
 case scope b ih => exact ih s
 case fz ss b ih => exact ih _
 case fzs i b ih =>
  show yJa i _ _ = _
  simp only [run]
  cases frz frzN s.H (s.F.getD i .any) with
  | none => rfl
  | some v => exact ih _
 all_goals rfl
def yJQ (fn : AFunc) : Option (AExit × St) → Option (AV × xAc)
 | some (.normal,s) | some (.ret,s) => (xBw fn.results s).map fun v => (v,s.H)
 | _ => none
noncomputable def yBg (R : Rec) (fn : AFunc) (args : List AV) (H : xAc) : Option (AV × xAc) := yJQ fn (yDm R fn.code (xP9 fn args H))
theorem xTV (R : Rec) (fn : AFunc) (args : List AV) (H : xAc) : yBg R fn args H = xA3 R fn args H := by
 unfold yBg xA3
 rw [xYs]
 cases run R fn.code (xP9 fn args H) with
 | none => rfl
 | some p => obtain ⟨e,s'⟩ := p; cases e <;> rfl
def yJR : Option (AV × xAc) → Option AV
 | some (r,H') => frz frzN H' r
 | none => Option.none
def xIT : List AV → Nat → List Nat → List AV
 | [],_,_ => []
 | v :: F,_,[] => v :: F
 | v :: F,i,s :: scr => if s = i then .any :: xIT F (i + 1) scr else v :: xIT F (i + 1) (s :: scr)
def asc : List Nat → Nat → Bool
 | [],_ => true
 | s :: r,lo => decide (lo ≤ s) && asc r (s + 1)
theorem yDn : ∀ {scr : List Nat} {lo : Nat},asc scr lo = true → ∀ s ∈ scr,lo ≤ s
 | [],_,_,s,h => by cases h
 | s0 :: r,lo,h,s,hs => by
  simp only [asc,Bool.and_eq_true,decide_eq_true_eq] at h
  rcases List.mem_cons.1 hs with rfl | hs
  ·exact h.1
  ·have := yDn h.2 s hs; omega
theorem yEz : ∀ {scr : List Nat} {lo lo' : Nat},asc scr lo = true → (∀ s ∈ scr,lo' ≤ s) → asc scr lo' = true
 | [],_,_,_,_ => rfl
 | s0 :: r,lo,lo',h,hl => by
  simp only [asc,Bool.and_eq_true,decide_eq_true_eq] at h ⊢
  exact ⟨hl s0 (by simp),h.2⟩
theorem xFR : ∀ (F : List AV) (i : Nat) (scr : List Nat),asc scr i = true → ∀ j,(xIT F i scr)[j]? = if i + j ∈ scr then (F[j]?).map (fun _ => AV.any) else F[j]?
 | [],i,scr,h,j => by simp [xIT]
 | v :: F,i,[],h,j => by simp [xIT]
 | v :: F,i,s :: scr,h,j => by
  have h' := h
  simp only [asc,Bool.and_eq_true,decide_eq_true_eq] at h'
  unfold xIT
  by_cases e : s = i
  ·subst e
   rw [if_pos rfl]
   cases j with
   | zero => simp
   | succ j =>
    rw [List.getElem?_cons_succ,xFR F (s + 1) scr h'.2 j,List.getElem?_cons_succ]
    have : (s + 1 + j ∈ scr) ↔ (s + (j + 1) ∈ s :: scr) := by
     rw [show s + (j + 1) = s + 1 + j by omega,List.mem_cons]
     exact ⟨.inr,fun q => q.elim (fun q => by omega) id⟩
    simp only [this]
  ·rw [if_neg e]
   have hm : ∀ x ∈ s :: scr,i + 1 ≤ x := fun x hx => by
    rcases List.mem_cons.1 hx with rfl | hx
    ·omega
    ·have := yDn h'.2 x hx; omega
   cases j with
   | zero =>
    have : ¬ (i + 0 ∈ s :: scr) := fun q => by have := hm _ q; omega
    rw [if_neg this]; rfl
   | succ j =>
    rw [List.getElem?_cons_succ,xFR F (i + 1) (s :: scr) (yEz h hm) j,List.getElem?_cons_succ]
    simp only [show i + (j + 1) = i + 1 + j by omega]
def xTW (scr : List Nat) (F : List AV) : List AV := if asc scr 0 then xIT F 0 scr else xAm scr F
theorem xQd (scr : List Nat) (F : List AV) : xTW scr F = xAm scr F := by
 unfold xTW
 split
 ·rename_i h
  apply List.ext_getElem?
  intro j
  rw [xFR F 0 scr h j,xDW]
  simp only [Nat.zero_add]
 ·rfl
noncomputable def yDo (R : Rec) (scr : List Nat) (b : ACode) : Option (AExit × St) → Option (AExit × St)
 | some (.normal,s') => R.loop scr b s'
 | some (e,s') => some (e,⟨xTW scr s'.F,s'.H⟩)
 | none => none
noncomputable def yGt (prog : Nat → Option AFunc) (R : Rec) (args : List AV) (H : xAc) : AV → Option (AV × xAc)
 | .func f caps => match prog f with
  | some fn => yBg R fn (args ++ caps) H
  | none => Option.none
 | f => xCX prog R f args H
noncomputable def yEA (prog : Nat → Option AFunc) (R : Rec) : Rec where
 pcall f args := match prog f with
  | some fn => yJR (yBg R fn args [])
  | none => Option.none
 icall f args H := yGt prog R args H f
 loop scr b s := fS (xTW scr s.F) fun F => yDo R scr b (yDm R b ⟨F,s.H⟩)
theorem yBh (prog : Nat → Option AFunc) (R : Rec) : yEA prog R = xCG prog R := by
 unfold yEA xCG
 congr 1
 ·funext f args
  cases prog f with
  | none => rfl
  | some fn =>
   simp only [xAy,xTV]
   cases xA3 R fn args [] <;> rfl
 ·funext f args H
  unfold yGt
  split
  ·rename_i g caps
   simp only [xCX,xTV]
   cases prog g <;> rfl
  ·rfl
 ·funext scr b s
  simp only [xIQ,xYs,xVc,xQd]
  cases run R b ⟨xAm scr s.F,s.H⟩ with
  | none => rfl
  | some p => obtain ⟨e,s'⟩ := p; cases e <;> simp only [yDo,xQd]
noncomputable def yHm (prog : Nat → Option AFunc) (T : Known) : Nat → Rec
 | 0 => Rec.none
 | n + 1 => yEB T (yEA prog (yHm prog T n))
theorem xYt (prog : Nat → Option AFunc) (T : Known) : ∀ n,yHm prog T n = yEC prog T n
 | 0 => rfl
 | n + 1 => by rw [yHm,yEC,yBh,xYt prog T n]
noncomputable def xYu (prog : Nat → Option AFunc) (T : Known) (n f : Nat) (args : List AV) (v : AV) : Bool := match (yHm prog T n).pcall f args with
 | some u => xIU 8 u v
 | none => false
theorem xAR {prog : Nat → Option AFunc} {T : Known} (hT : ∀ e ∈ T,(lim prog).pcall e.1 e.2.1 = some e.2.2) {n f : Nat} {args : List AV} {v : AV} (h : xYu prog T n f args v = true) : (lim prog).pcall f args = some v :=
 xYv hT (n := n) (by unfold xYu at h; rw [xYt] at h; exact h)
end Go.Abs
