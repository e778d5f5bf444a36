/- The interpreter once more,its alternatives as functions of their own: what the kernel unfolds is small. -/
import Derived.Test.YtkpbekcgigigkaaDoorAbsOver
namespace Go.Abs
set_option linter.unusedVariables false
noncomputable def yAn (F : List AV) : Nat → AV := List.rec (motive := fun _ => Nat → AV) (fun _ => .any) (fun v _ ih n => Nat.casesOn (motive := fun _ => AV) n v ih) F
noncomputable def yA5 (x : AV) (F : List AV) : Nat → List AV := List.rec (motive := fun _ => Nat → List AV) (fun _ => []) (fun v F ih n => Nat.casesOn (motive := fun _ => List AV) n (x :: F) (fun m => v :: ih m)) F
theorem xTJ : ∀ (F : List AV) (i : Nat),yAn F i = F.getD i .any
  | [],i => by simp [yAn]
  | v :: F,0 => rfl
  | v :: F,i + 1 => by
    show yAn F i = _
    rw [xTJ F i]; simp
theorem xTK (x : AV) : ∀ (F : List AV) (i : Nat),yA5 x F i = F.set i x
  | [],i => rfl
  | v :: F,0 => rfl
  | v :: F,i + 1 => by
    show v :: yA5 x F i = _
    rw [xTK x F i]; rfl
noncomputable def xBK (F : List AV) : Arg → AV
  | .t i => yAn F i
  | .c v => v
theorem xTL : xBK = opv := by
  funext F x
  cases x with
  | t i => exact xTJ F i
  | c v => rfl
noncomputable def yA6 (F : List AV) (d : Option Nat) (v : AV) : List AV := match d with
  | some d => yA5 v F d
  | none => F
theorem xTM : yA6 = putA := by
  funext F d v
  cases d with
  | none => rfl
  | some d => exact xTK v F d
def xZK (opv : List AV → Arg → AV) (R : Rec) (F : List AV) (H : xAj) (x : Arg) : Option (AV × xAj) := some (opv F x,H)
def xX0 (opv : List AV → Arg → AV) (R : Rec) (F : List AV) (H : xAj) (c : Arg) (a : Arg) (b : Arg) : Option (AV × xAj) := match opv F c with
    | .bool t => some (if t then opv F a else opv F b,H)
    | _ => none
def xZL (opv : List AV → Arg → AV) (R : Rec) (F : List AV) (H : xAj) (x : Arg) : Option (AV × xAj) := let cs := (opv F x).cells; if cs.all AV.isCell then some (.ptr H.length 0,H ++ [.cells false false cs]) else none
def xVF (opv : List AV → Arg → AV) (R : Rec) (F : List AV) (H : xAj) (z : List AV) (parts : List (Nat × Nat × Arg)) : Option (AV × xAj) :=
    (if parts.all (fun p => (opv F p.2.2).cells.length == p.2.1) then
      (fillA z (parts.map fun p => (p.1,(opv F p.2.2).cells))).map fun cs => (.agg cs,H) else none)
def xTN (opv : List AV → Arg → AV) (R : Rec) (F : List AV) (H : xAj) (fz : Bool) (z : List AV) (es : Nat) (n : Nat) (parts : List (Nat × Arg)) : Option (AV × xAj) :=
    (if parts.all (fun p => (opv F p.2).cells.length == es) then
      match fillA (xCr z n) (parts.map fun p => (p.1 * es,(opv F p.2).cells)) with
      | some cs => xC9 fz false n es cs H
      | none => none
     else none)
def xTO (opv : List AV → Arg → AV) (R : Rec) (F : List AV) (H : xAj) (z : List AV) (es : Nat) (n : Nat) (parts : List (Nat × Arg)) : Option (AV × xAj) :=
    (if parts.all (fun p => (opv F p.2).cells.length == es) then
      match fillA (xCr z n) (parts.map fun p => (p.1 * es,(opv F p.2).cells)) with
      | some cs => if cs.all xAy = true then some (.sl false n cs,H) else none
      | none => none
     else none)
def xX1 (opv : List AV → Arg → AV) (R : Rec) (F : List AV) (H : xAj) (g : Bool) (n : Nat) (p : Arg) : Option (AV × xAj) := match rd H (opv F p) n with
    | some cs => (mkv g cs).map fun v => (v,H)
    | none => none
def xVG (opv : List AV → Arg → AV) (R : Rec) (F : List AV) (H : xAj) (n : Nat) (p : Arg) (v : Arg) : Option (AV × xAj) := let cs := (opv F v).cells; if cs.length = n then (wr H (opv F p) cs).map fun H' => (.tup [],H') else none
def xTP (opv : List AV → Arg → AV) (R : Rec) (F : List AV) (H : xAj) (x : Arg) : Option (AV × xAj) := match opv F x with
    | .ptr id off => some (.ptr id off,H)
    | .vptr cs off => some (.vptr cs off,H)
    | .func f caps => some (.func f caps,H)
    | .yield l => some (.yield l,H)
    | _ => none
def xZM (opv : List AV → Arg → AV) (R : Rec) (F : List AV) (H : xAj) (op : BinOp) (x : Arg) (y : Arg) : Option (AV × xAj) := (xC2 op (opv F x) (opv F y)).map fun v => (v,H)
def xZN (opv : List AV → Arg → AV) (R : Rec) (F : List AV) (H : xAj) (neg : Bool) (x : Arg) (y : Arg) : Option (AV × xAj) := match opv F x,opv F y with
    | .bool a,.bool b => some (.bool (if neg then a != b else a == b),H)
    | _,_ => none
def xVH (opv : List AV → Arg → AV) (R : Rec) (F : List AV) (H : xAj) (neg : Bool) (x : Arg) : Option (AV × xAj) := match opv F x with
    | .sl z _ _ => some (.bool (z != neg),H)
    | .own z _ _ _ _ => some (.bool (z != neg),H)
    | _ => none
def yA7 (opv : List AV → Arg → AV) (R : Rec) (F : List AV) (H : xAj) (op : UnOp) (x : Arg) : Option (AV × xAj) := (unA op (opv F x)).map fun v => (v,H)
def xX2 (opv : List AV → Arg → AV) (R : Rec) (F : List AV) (H : xAj) (k : IntKind) (x : Arg) : Option (AV × xAj) := match opv F x with
    | .int _ n => some (.int k (k.wrap n),H)
    | _ => none
def xTQ (opv : List AV → Arg → AV) (R : Rec) (F : List AV) (H : xAj) (f : Nat) (caps : List Arg) : Option (AV × xAj) := some (.func f (caps.map (opv F)),H)
def xQ3 (opv : List AV → Arg → AV) (R : Rec) (F : List AV) (H : xAj) (fz : Bool) (z : List AV) (bytes : Nat) (l : Arg) (c : Arg) : Option (AV × xAj) := match opv F l,opv F c with
    | .int _ l,.int _ c => if 0 ≤ l ∧ l ≤ c ∧ c * bytes ≤ xA9 ∧ c ≤ xA9 ∧ z.all AV.isCell = true then xC9 fz false l.toNat z.length (xCr z l.toNat) H else none
    | _,_ => none
def xVI (opv : List AV → Arg → AV) (R : Rec) (F : List AV) (H : xAj) (es : Nat) (x : Arg) (lo : Option Arg) (hi : Option Arg) (mx : Option Arg) : Option (AV × xAj) := match opv F x with
    | .sl z n cs => if cs.length = n * es then (xBb n (lo.map (opv F)) (hi.map (opv F)) (mx.map (opv F))).map fun (l,h) => (.sl z (h - l) ((cs.drop (l * es)).take ((h - l) * es)),H) else none
    | .own z id off n es' => if es' = es then (xBb n (lo.map (opv F)) (hi.map (opv F)) (mx.map (opv F))).map fun (l,h) => (.own z id (off + l * es) (h - l) es,H) else none
    | _ => none
def xVJ (opv : List AV → Arg → AV) (R : Rec) (F : List AV) (H : xAj) (o : Nat) (x : Arg) : Option (AV × xAj) := match opv F x with
    | .ptr id off => some (.ptr id (off + o),H)
    | .vptr cs off => some (.vptr cs (off + o),H)
    | _ => none
def xVK (opv : List AV → Arg → AV) (R : Rec) (F : List AV) (H : xAj) (g : Bool) (off : Nat) (n : Nat) (x : Arg) : Option (AV × xAj) := match opv F x with
    | .agg cs => if off + n ≤ cs.length then (mkv g ((cs.drop off).take n)).map fun v => (v,H) else none
    | _ => none
def xVL (opv : List AV → Arg → AV) (R : Rec) (F : List AV) (H : xAj) (es : Nat) (x : Arg) (i : Arg) : Option (AV × xAj) := match opv F x,xBS (opv F i) with
    | .sl _ n cs,some i => if i < n then some (.vptr cs (i * es),H) else none
    | .own _ id off n es',some i => if i < n ∧ es' = es then some (.ptr id (off + i * es),H) else none
    | _,_ => none
def xZO (opv : List AV → Arg → AV) (R : Rec) (F : List AV) (H : xAj) (i : Nat) (x : Arg) : Option (AV × xAj) := match opv F x with
    | .tup vs => (vs[i]?).map fun v => (v,H)
    | _ => none
def xZP (opv : List AV → Arg → AV) (R : Rec) (F : List AV) (H : xAj) (x : Arg) : Option (AV × xAj) := match opv F x with
    | .sl _ n _ => some (.int .i64 n,H)
    | .own _ _ _ n _ => some (.int .i64 n,H)
    | _ => none
def xZQ (opv : List AV → Arg → AV) (R : Rec) (F : List AV) (H : xAj) (x : Arg) : Option (AV × xAj) := match opv F x with
    | .sl true _ _ => some (.int .i64 0,H)
    | _ => none
def xZR (opv : List AV → Arg → AV) (R : Rec) (F : List AV) (H : xAj) (neg : Bool) (n : Nat) (x : Arg) (y : Arg) : Option (AV × xAj) := match opv F x,opv F y with
    | .agg cs,.agg ds => if cs.length = n then (xBk cs ds).map fun b => (.bool (b != neg),H) else none
    | _,_ => none
def xTR (opv : List AV → Arg → AV) (R : Rec) (F : List AV) (H : xAj) (fz : Bool) (es : Nat) (bytes : Nat) (x : Arg) (y : Arg) : Option (AV × xAj) := match src H es (opv F y) with
    | none => none
    | some (m,ys) => match opv F x with
      | .sl true _ _ => if m * bytes ≤ xA9 ∧ m ≤ xA9 then xC9 fz (m == 0) m es ys H else none
      | .own z id off n es' => match H[id]? with
        | some (.cells false _ cs) => if off = 0 ∧ es' = es ∧ n * es ≤ cs.length ∧ (n + m) * bytes ≤ xA9 ∧ n + m ≤ xA9 then
            some (.own (z && m == 0) H.length 0 (n + m) es,H.set id .dead ++ [.cells false (z && m == 0) (cs.take (n * es) ++ ys)]) else none
        | _ => none
      | _ => none
def xQ4 (opv : List AV → Arg → AV) (R : Rec) (F : List AV) (H : xAj) (z : List AV) (bytes : Nat) (x : Arg) (n : Arg) : Option (AV × xAj) := match xBS (opv F n),opv F x with
    | some m,.sl true _ _ => if m * bytes ≤ xA9 ∧ m ≤ xA9 ∧ z.all AV.isCell = true then xC9 false (m == 0) m z.length (xCr z m) H else none
    | _,_ => none
def xQ5 (opv : List AV → Arg → AV) (R : Rec) (F : List AV) (H : xAj) (es : Nat) (bytes : Nat) (x : Arg) (y : Arg) : Option (AV × xAj) := match xED H with
    | none => none
    | some h => (xQV H es bytes (opv F x) (opv F y)).map fun r => (.own r.1 h 0 r.2.1 es,(xBG r.2.2.2 H).set h (.cells false r.1 r.2.2.1))
def xX3 (opv : List AV → Arg → AV) (R : Rec) (F : List AV) (H : xAj) (_u0 : Nat) (_u1 : Arg) (_u2 : Arg) : Option (AV × xAj) := none
def xX4 (opv : List AV → Arg → AV) (R : Rec) (F : List AV) (H : xAj) (x : Arg) (y : Arg) : Option (AV × xAj) := match opv F x,opv F y with
    | .int k a,.int _ b => some (.int k (if b > a then b else a),H)
    | _,_ => none
def xX5 (opv : List AV → Arg → AV) (R : Rec) (F : List AV) (H : xAj) (x : Arg) (y : Arg) : Option (AV × xAj) := match opv F x,opv F y with
    | .int k a,.int _ b => some (.int k (if b < a then b else a),H)
    | _,_ => none
def xX6 (opv : List AV → Arg → AV) (R : Rec) (F : List AV) (H : xAj) (f : Nat) (args : List Arg) : Option (AV × xAj) := xBm R f (args.map (opv F)) H
def xVM (opv : List AV → Arg → AV) (R : Rec) (F : List AV) (H : xAj) (f : Arg) (args : List Arg) : Option (AV × xAj) := R.icall (opv F f) (args.map (opv F)) H
def xVN (opv : List AV → Arg → AV) (R : Rec) (F : List AV) (H : xAj) (f : Arg) (args : List Arg) : Option (AV × xAj) := match opv F f with
    | .func g caps => xBm R g (args.map (opv F) ++ caps) H
    | _ => none
def xZS (opv : List AV → Arg → AV) (R : Rec) (F : List AV) (H : xAj) (g : Bool) (es : Nat) (len : Nat) (x : Arg) (i : Arg) : Option (AV × xAj) := match opv F x,xBS (opv F i) with
    | .agg cs,some j => if j < len ∧ j * es + es ≤ cs.length then (mkv g ((cs.drop (j * es)).take es)).map fun v => (v,H) else none
    | _,_ => none
def xVO (opv : List AV → Arg → AV) (R : Rec) (F : List AV) (H : xAj) (es : Nat) (len : Nat) (x : Arg) (i : Arg) : Option (AV × xAj) := match opv F x,xBS (opv F i) with
    | .ptr id off,some j => if j < len then some (.ptr id (off + j * es),H) else none
    | .vptr cs off,some j => if j < len then some (.vptr cs (off + j * es),H) else none
    | _,_ => none
def xX7 (opv : List AV → Arg → AV) (R : Rec) (F : List AV) (H : xAj) (b : Nat) (es : Nat) (len : Nat) (i : Arg) : Option (AV × xAj) := match xVc b,xBS (opv F i) with
    | some cs,some j => if j < len then some (.vptr cs (j * es),H) else none
    | _,_ => none
def xX8 (opv : List AV → Arg → AV) (R : Rec) (F : List AV) (H : xAj) (x : Arg) (i : Arg) : Option (AV × xAj) := match opv F x,xBS (opv F i) with
    | .str s,some j => (s[j]?).map fun b => (.int .u8 b.toNat,H)
    | _,_ => none
def xX9 (opv : List AV → Arg → AV) (R : Rec) (F : List AV) (H : xAj) (x : Arg) : Option (AV × xAj) := match opv F x with
    | .str s => some (.int .i64 s.size,H)
    | _ => none
def yA8 (opv : List AV → Arg → AV) (R : Rec) (F : List AV) (H : xAj) (mx : Bool) (xs : List Arg) : Option (AV × xAj) := match xs.map (opv F) with
    | [] => none
    | x :: r => (mmA mx x r).map fun v => (v,H)
def xTS (opv : List AV → Arg → AV) (R : Rec) (F : List AV) (H : xAj) (x : Arg) (lo : Option Arg) (hi : Option Arg) : Option (AV × xAj) := match opv F x with
    | .str s => (xBb s.size (lo.map (opv F)) (hi.map (opv F)) none).map fun (l,h) => (.str (s.extract l h),H)
    | _ => none
def xYa (opv : List AV → Arg → AV) (R : Rec) (F : List AV) (H : xAj) (neg : Bool) (x : Arg) (y : Arg) : Option (AV × xAj) := match opv F x,opv F y with
    | .str s,.str t => some (.bool ((s.toList == t.toList) != neg),H)
    | _,_ => none
def xQ6 (opv : List AV → Arg → AV) (R : Rec) (F : List AV) (H : xAj) (f : Nat) (first : List Arg) : Option (AV × xAj) := some (.bfunc f (first.map (opv F)),H)
def xVP (opv : List AV → Arg → AV) (R : Rec) (F : List AV) (H : xAj) (f : Arg) (args : List Arg) : Option (AV × xAj) := match opv F f with
    | .bfunc g first => R.icall (.func g []) (first ++ args.map (opv F)) H
    | _ => none
def xVQ (opv : List AV → Arg → AV) (R : Rec) (F : List AV) (H : xAj)  : Option (AV × xAj) := some (.mp H.length,H ++ [.mp []])
def xVR (opv : List AV → Arg → AV) (R : Rec) (F : List AV) (H : xAj) (ks : List Nat) (comma : Bool) (z : AV) (x : Arg) (k : Arg) : Option (AV × xAj) := if xBh ks (opv F k) then match xQU H (opv F x) with
    | none => none
    | some es => match xFk (opv F k) es with
      | none => none
      | some none => some (if comma then .tup [z,.bool false] else z,H)
      | some (some v) => some (if comma then .tup [v,.bool true] else v,H)
    else none
def xYb (opv : List AV → Arg → AV) (R : Rec) (F : List AV) (H : xAj) (ks : List Nat) (z : AV) (m : Arg) (k : Arg) : Option (AV × xAj) := if xBh ks (opv F k) then match opv F m with
    | .mp id => match H[id]? with
      | some (.mp es) => (xRW (opv F k) z es 0).map fun r => (.tup [r.1,.int .i64 (r.2.1 : Nat)],H.set id (.mp r.2.2))
      | _ => none
    | _ => none
    else none
def xTT (opv : List AV → Arg → AV) (R : Rec) (F : List AV) (H : xAj) (m : Arg) (s : Arg) (v : Arg) : Option (AV × xAj) := match opv F m,opv F s with
    | .mp id,.int .i64 n => match H[id]? with
      | some (.mp es) => if 0 ≤ n then (es[n.toNat]?).map fun e => (.tup [],H.set id (.mp (es.set n.toNat (e.1,opv F v)))) else none
      | _ => none
    | _,_ => none
def xYc (opv : List AV → Arg → AV) (R : Rec) (F : List AV) (H : xAj) (ks : List Nat) (m : Arg) (k : Arg) (v : Arg) : Option (AV × xAj) := if xBh ks (opv F k) then match opv F m with
    | .mp id => match H[id]? with
      | some (.mp es) => (xRV (opv F k) (opv F v) es).map fun es' => (.tup [],H.set id (.mp es'))
      | _ => none
    | _ => none
    else none
def xYd (opv : List AV → Arg → AV) (R : Rec) (F : List AV) (H : xAj) (x : Arg) : Option (AV × xAj) := (xQU H (opv F x)).map fun es => (.int .i64 es.length,H)
def xYe (opv : List AV → Arg → AV) (R : Rec) (F : List AV) (H : xAj) (neg : Bool) (x : Arg) : Option (AV × xAj) := match opv F x with
    | .nilm => some (.bool (true != neg),H)
    | .mp _ => some (.bool (false != neg),H)
    | _ => none
def xTU (opv : List AV → Arg → AV) (R : Rec) (F : List AV) (H : xAj) (fz : Bool) (x : Arg) : Option (AV × xAj) := match opv F x with
    | .str s => xC9 fz false s.size 1 (xBE s) H
    | _ => none
def xYf (opv : List AV → Arg → AV) (R : Rec) (F : List AV) (H : xAj) (x : Arg) : Option (AV × xAj) := match src H 1 (opv F x) with
    | some (_,cs) => (xLH cs).map fun bs => (.str ⟨⟨bs⟩⟩,H)
    | none => none
def xYg (opv : List AV → Arg → AV) (R : Rec) (F : List AV) (H : xAj) (x : Arg) (y : Arg) : Option (AV × xAj) := match opv F x,opv F y with
    | .str s,.str t => if s.size + t.size ≤ 9223372036854775807 then some (.str ⟨⟨s.data.toList ++ t.data.toList⟩⟩,H) else none
    | _,_ => none
def xVS (opv : List AV → Arg → AV) (R : Rec) (F : List AV) (H : xAj) (f : Nat) (args : List Arg) : Option (AV × xAj) := match (args.map (opv F)).mapM (frz frzN H) with
    | none => none
    | some args' => match xBO R f args' with
      | none => none
      | some (v,B) => some (xAD H.length v,fzIds H ((args.map (opv F)).flatMap (bor frzN H)) ++ B)
def xTV (opv : List AV → Arg → AV) (R : Rec) (F : List AV) (H : xAj) (f : Nat) (args : List Arg) : Option (AV × xAj) := match (args.map (opv F)).mapM (frz frzN H) with
    | none => none
    | some args' => match xGT R f args' with
      | none => none
      | some (v,B) => some (xAD H.length v,fzIds H ((args.map (opv F)).flatMap (bor frzN H)) ++ B.map (xGS H.length))
noncomputable def xKR (R : Rec) (F : List AV) (H : xAj) : AOp → Option (AV × xAj)
  | .mov x => xZK xBK R F H x
  | .pick c a b => xX0 xBK R F H c a b
  | .box x => xZL xBK R F H x
  | .build z parts => xVF xBK R F H z parts
  | .bslice fz z es n parts => xTN xBK R F H fz z es n parts
  | .dslice z es n parts => xTO xBK R F H z es n parts
  | .load g n p => xX1 xBK R F H g n p
  | .store n p v => xVG xBK R F H n p v
  | .nilchk x => xTP xBK R F H x
  | .bin op x y => xZM xBK R F H op x y
  | .beq neg x y => xZN xBK R F H neg x y
  | .isnil neg x => xVH xBK R F H neg x
  | .un op x => yA7 xBK R F H op x
  | .conv k x => xX2 xBK R F H k x
  | .mkfunc f caps => xTQ xBK R F H f caps
  | .mkslice fz z bytes l c => xQ3 xBK R F H fz z bytes l c
  | .slice es x lo hi mx => xVI xBK R F H es x lo hi mx
  | .faddr o x => xVJ xBK R F H o x
  | .field g off n x => xVK xBK R F H g off n x
  | .iaddr es x i => xVL xBK R F H es x i
  | .ext i x => xZO xBK R F H i x
  | .len x => xZP xBK R F H x
  | .cap x => xZQ xBK R F H x
  | .aeq neg n x y => xZR xBK R F H neg n x y
  | .append fz es bytes x y => xTR xBK R F H fz es bytes x y
  | .appendz z bytes x n => xQ4 xBK R F H z bytes x n
  | .appendh es bytes x y => xQ5 xBK R F H es bytes x y
  | .copy _u0 _u1 _u2 => xX3 xBK R F H _u0 _u1 _u2
  | .maxi x y => xX4 xBK R F H x y
  | .mini x y => xX5 xBK R F H x y
  | .call f args => xX6 xBK R F H f args
  | .icall f args => xVM xBK R F H f args
  | .fcall f args => xVN xBK R F H f args
  | .idx g es len x i => xZS xBK R F H g es len x i
  | .arrat es len x i => xVO xBK R F H es len x i
  | .garr b es len i => xX7 xBK R F H b es len i
  | .sidx x i => xX8 xBK R F H x i
  | .slen x => xX9 xBK R F H x
  | .mm mx xs => yA8 xBK R F H mx xs
  | .sslice x lo hi => xTS xBK R F H x lo hi
  | .sbeq neg x y => xYa xBK R F H neg x y
  | .mkbound f first => xQ6 xBK R F H f first
  | .bcall f args => xVP xBK R F H f args
  | .mkmap  => xVQ xBK R F H 
  | .mlook ks comma z x k => xVR xBK R F H ks comma z x k
  | .ment ks z m k => xYb xBK R F H ks z m k
  | .mstore m s v => xTT xBK R F H m s v
  | .mupd ks m k v => xYc xBK R F H ks m k v
  | .mlen x => xYd xBK R F H x
  | .mnil neg x => xYe xBK R F H neg x
  | .sbytes fz x => xTU xBK R F H fz x
  | .bstr x => xYf xBK R F H x
  | .sadd x y => xYg xBK R F H x y
  | .ocall f args => xVS xBK R F H f args
  | .ocallw f args => xTV xBK R F H f args
theorem xJ7 (R : Rec) (F : List AV) (H : xAj) (op : AOp) : xKR R F H op = xAa R F H op := by
  cases op <;> simp only [xKR,xTL] <;> rfl
def fN {α : Type} (a : Nat) (k : Nat → α) : α := match a with
  | 0 => k 0
  | n + 1 => k (n + 1)
theorem xZT {α : Type} (a : Nat) (k : Nat → α) : fN a k = k a := by cases a <;> rfl
def fI {α : Type} (x : Int) (k : Int → α) : α := match x with
  | .ofNat a => fN a fun a => k (.ofNat a)
  | .negSucc a => fN a fun a => k (.negSucc a)
theorem yA9 {α : Type} (x : Int) (k : Int → α) : fI x k = k x := by cases x <;> simp only [fI,xZT]
def fBo {α : Type} (x : Bool) (k : Bool → α) : α := match x with
  | true => k true
  | false => k false
theorem xZU {α : Type} (x : Bool) (k : Bool → α) : fBo x k = k x := by cases x <;> rfl
def fV {α : Type} (v : AV) (k : AV → α) : α := match v with
  | .int kd n => fI n fun n => k (.int kd n)
  | .bool b => fBo b fun b => k (.bool b)
  | .ptr i o => fN i fun i => fN o fun o => k (.ptr i o)
  | .own z i o n e => fBo z fun z => fN i fun i => fN o fun o => fN n fun n => fN e fun e => k (.own z i o n e)
  | .sl z n cs => fN n fun n => k (.sl z n cs)
  | v => k v
theorem xYh {α : Type} (v : AV) (k : AV → α) : fV v k = k v := by
  cases v <;> simp only [fV,yA9,xZU,xZT]
noncomputable def fS {α : Type} (l : List AV) : (List AV → α) → α := List.rec (motive := fun _ => (List AV → α) → α) (fun k => k []) (fun v _ ih k => ih fun vs => k (v :: vs)) l
theorem xVT {α : Type} : ∀ (l : List AV) (k : List AV → α),fS l k = k l
  | [],k => rfl
  | v :: vs,k => by
    show fS vs (fun vs => k (v :: vs)) = _
    rw [xVT vs]
def fL {α : Type} : List AV → (List AV → α) → α
  | [],k => k []
  | v :: vs,k => fV v fun v => fL vs fun vs => k (v :: vs)
theorem xZV {α : Type} : ∀ (l : List AV) (k : List AV → α),fL l k = k l
  | [],k => rfl
  | v :: vs,k => by rw [fL,xYh,xZV vs]
def fB {α : Type} (b : Blk) (k : Blk → α) : α := match b with
  | .cells fz z cs => fL cs fun cs => k (.cells fz z cs)
  | b => k b
theorem yBa {α : Type} (b : Blk) (k : Blk → α) : fB b k = k b := by
  cases b <;> first | rfl | simp only [fB,xZV]
noncomputable def fAt {α : Type} (l : List Blk) : Nat → (List Blk → α) → α := List.rec (motive := fun _ => Nat → (List Blk → α) → α) (fun _ k => k []) (fun b bs ih n k => Nat.casesOn (motive := fun _ => α) n (fB b fun b => k (b :: bs)) (fun m => ih m fun bs => k (b :: bs))) l
theorem xXc {α : Type} : ∀ (l : List Blk) (n : Nat) (k : List Blk → α),fAt l n k = k l
  | [],n,k => rfl
  | b :: bs,0,k => by
    show fB b (fun b => k (b :: bs)) = _
    rw [yBa]
  | b :: bs,n + 1,k => by
    show fAt bs n (fun bs => k (b :: bs)) = _
    rw [xXc bs]
noncomputable def yBY (l : List Blk) : Nat := List.rec (motive := fun _ => Nat) 0 (fun _ _ n => n + 1) l
noncomputable def yBb (F : List AV) (H : List Blk) : AOp → Nat
  | .store _ p _ => match xBK F p with
    | .ptr id _ => id
    | _ => 0
  | _ => yBY H
def xZW : AOp → Bool
  | .mov _ | .pick .. | .bin .. | .beq .. | .aeq .. | .un .. | .conv .. | .ext .. | .faddr .. | .field .. | .iaddr .. | .len _ | .cap _ | .isnil .. | .maxi .. | .mini .. | .nilchk _ | .mkfunc .. | .slice .. | .idx .. | .arrat .. | .garr .. | .sidx .. | .slen .. | .mm .. | .sslice .. | .sbeq .. | .mkbound .. | .load .. | .build .. | .mlook .. | .mlen _ | .mnil .. => true
  | _ => false
noncomputable def xYi (d : Option Nat) (F : List AV) (keep : Bool) (sp : Nat) : Option (AV × xAj) → Option St
  | some (v,H) => fV v fun v => fS (yA6 F d v) fun F => if keep then some ⟨F,H⟩ else fAt H sp fun H => some ⟨F,H⟩
  | none => none
theorem xVU (d : Option Nat) (F : List AV) (keep : Bool) (sp : Nat) (x : Option (AV × xAj)) : xYi d F keep sp x = x.map fun (v,H) => ⟨putA F d v,H⟩ := by
  cases x with
  | none => rfl
  | some p =>
    obtain ⟨v,H⟩ := p
    simp only [xYi,xYh,xVT,xXc,ite_self,xTM]
    rfl
def xZX (o : AOper) (s : St) (r : Option St) : Option Bool → Option St
  | none => none
  | some false => some ⟨putA s.F o.dst (.tup []),s.H⟩
  | some true => r
noncomputable def xE2 (R : Rec) (o : AOper) (s : St) : Option St := xZX o s (xYi o.dst s.F (xZW o.op) (yBb s.F s.H o.op) (xKR R s.F s.H o.op)) (xBH s.F o.guard)
theorem xNB (R : Rec) (o : AOper) (s : St) : xE2 R o s = xAM R o s := by
  unfold xE2 xAM
  rw [xJ7,xVU]
  split <;> rename_i e <;> rw [e] <;> rfl
noncomputable def xVV (k : St → Option St) : Option St → Option St
  | some s => k s
  | none => none
noncomputable def xHZ (R : Rec) (ops : List AOper) : St → Option St := List.rec (motive := fun _ => St → Option St) (fun s => some s) (fun o _ ih s => xVV ih (xE2 R o s)) ops
theorem xFn (R : Rec) : ∀ (ops : List AOper) (s : St),xHZ R ops s = xAA R ops s
  | [],s => rfl
  | o :: rest,s => by
    show xVV (xHZ R rest) (xE2 R o s) = _
    simp only [xAA,xNB]
    cases xAM R o s with
    | none => rfl
    | some s' => exact xFn R rest s'
def xYj : AOp → Bool
  | .call .. | .fcall .. | .append .. | .box .. | .bslice .. | .mkslice .. | .appendz .. | .appendh .. | .copy .. | .icall .. | .bcall .. | .store .. | .ocall .. | .ocallw .. | .mkmap | .mupd .. | .ment .. | .mstore .. | .sbytes .. => true
  | _ => false
noncomputable def xOo (R : Rec) (F : List AV) (H : xAj) (op : AOp) : Option AV := if xYj op then xAv R F H op else (xKR R F H op).map (·.1)
theorem xQ7 (R : Rec) (F : List AV) (H : xAj) (op : AOp) : xOo R F H op = xAv R F H op := by
  unfold xOo
  rw [xJ7]
  cases op <;> rfl
noncomputable def frF (d : Option Nat) (s : St) : Option AV → Option St
  | some v => fV v fun v => fS (yA6 s.F d v) fun F => some ⟨F,s.H⟩
  | none => none
theorem xZY (d : Option Nat) (s : St) (x : Option AV) : frF d s x = x.map fun v => ⟨putA s.F d v,s.H⟩ := by
  cases x with
  | none => rfl
  | some v => simp only [frF,xYh,xVT,xTM]; rfl
noncomputable def xE3 (R : Rec) (o : AOper) (s : St) : Option St := xZX o s (frF o.dst s (xOo R s.F s.H o.op)) (xBH s.F o.guard)
theorem xNC (R : Rec) (o : AOper) (s : St) : xE3 R o s = xAK R o s := by
  unfold xE3 xAK
  rw [xQ7,xZY]
  split <;> rename_i e <;> rw [e] <;> rfl
noncomputable def xKS (R : Rec) (ops : List AOper) : St → Option St := List.rec (motive := fun _ => St → Option St) (fun s => some s) (fun o _ ih s => xVV ih (xE3 R o s)) ops
theorem xH0 (R : Rec) : ∀ (ops : List AOper) (s : St),xKS R ops s = xA0 R ops s
  | [],s => rfl
  | o :: rest,s => by
    show xVV (xKS R rest) (xE3 R o s) = _
    simp only [xA0,xNC]
    cases xAK R o s with
    | none => rfl
    | some s' => exact xH0 R rest s'
noncomputable def yBx (k : St → Option (AExit × St)) : Option (AExit × St) → Option (AExit × St)
  | some (.normal,s') => k s'
  | r => r
noncomputable def xZZ (x y : Option (AExit × St)) : AV → Option (AExit × St)
  | .bool t => if t then x else y
  | _ => none
def xXd (id : Nat) : Option (AExit × St) → Option (AExit × St)
  | some (.exit i,s') => if i = id then some (.normal,s') else some (.exit i,s')
  | r => r
def yAo : Option St → Option (AExit × St)
  | some s => some (.normal,s)
  | none => none
noncomputable def xYk (R : Rec) (m : Nat) (ops : List AOper) (s : St) : Option (AExit × St) := match xKS R (ops.take m) s with
  | none => none
  | some s1 => yAo (xHZ R (ops.drop m) (adopt (ops.take m) s1))
def yBy (i : Nat) (k : AV → Option (AExit × St)) : Option AV → Option (AExit × St)
  | some v => k v
  | none => none
noncomputable def xXe (R : Rec) (c : ACode) : St → Option (AExit × St) :=
  ACode.rec (motive := fun _ => St → Option (AExit × St))
    (fun s => some (.normal,s)) (fun ops s => yAo (xHZ R ops s)) (fun m ops s => xYk R m ops s) (fun ls m ops s => run R (.drawl ls m ops) s)
    (fun als ls m ops s => run R (.drawp als ls m ops) s) (fun hs als ls m ops s => run R (.drawh hs als ls m ops) s) (fun σ als ls m ops s => run R (.drawt σ als ls m ops) s) (fun _ ih s => ih ⟨s.F,s.H ++ [.cells true true []]⟩)
    (fun ss _ ih s => ih ⟨s.F,fzIds s.H (ss.flatMap fun i => bor frzN s.H (s.F.getD i .any))⟩) (fun i _ ih s => yBy i (fun v => ih ⟨s.F.set i v,fzIds s.H (bor frzN s.H (s.F.getD i .any))⟩) (frz frzN s.H (s.F.getD i .any))) (fun _ _ iha ihb s => yBx ihb (iha s)) (fun c _ _ iha ihb s => xZZ (iha s) (ihb s) (xBK s.F c))
    (fun id _ ih s => xXd id (ih s)) (fun scr b _ s => R.loop scr b s) (fun f ps asg body _ _ s => run R (.range f ps asg body) s) (fun id s => some (.exit id,s)) (fun _ ih s => ih s)
    (fun s => some (.normal,s)) (fun s => some (.ret,s)) (fun _ => none) c
theorem xTW (x : Option St) : yAo x = x.map fun s' => (.normal,s') := by cases x <;> rfl
theorem xTX (R : Rec) (c : ACode) : ∀ s,xXe R c s = run R c s := by
  induction c <;> intro s
  case region ops => show yAo (xHZ R ops s) = _; simp only [run,xFn,xTW]
  case draw m ops =>
    show xYk R m ops s = _
    simp only [run,xYk,xH0,xFn,xTW]
    cases xA0 R (ops.take m) s <;> rfl
  case seq a b iha ihb =>
    show yBx (xXe R b) (xXe R a s) = _
    simp only [run,iha]
    cases run R a s with
    | none => rfl
    | some p =>
      obtain ⟨e,s'⟩ := p
      cases e with
      | normal => exact ihb s'
      | exit i => rfl
      | ret => rfl
  case cond c a b iha ihb =>
    show xZZ (xXe R a s) (xXe R b s) (xBK s.F c) = _
    simp only [run,iha,ihb,xTL]
    cases opv s.F c <;> rfl
  case block id b ih =>
    show xXd id (xXe R b s) = _
    simp only [run,ih]
    cases run R b s with
    | none => rfl
    | some p => obtain ⟨e,s'⟩ := p; cases e <;> rfl
  case scope b ih => exact ih s
  case fz ss b ih => exact ih _
  case hole b ih => exact ih _
  case fzs i b ih =>
    show yBy i _ _ = _
    simp only [run]
    cases frz frzN s.H (s.F.getD i .any) with
    | none => rfl
    | some v => exact ih _
  all_goals rfl
def yBZ (fn : AFunc) : Option (AExit × St) → Option (AV × xAj)
  | some (.normal,s) | some (.ret,s) => (xBx fn.results s).map fun v => (v,s.H)
  | _ => none
noncomputable def xVW (R : Rec) (fn : AFunc) (args : List AV) (H : xAj) : Option (AV × xAj) := yBZ fn (xXe R fn.code (xLI fn args H))
theorem xP7 (R : Rec) (fn : AFunc) (args : List AV) (H : xAj) : xVW R fn args H = xCf R fn args H := by
  unfold xVW xCf
  rw [xTX]
  cases run R fn.code (xLI fn args H) with
  | none => rfl
  | some p => obtain ⟨e,s'⟩ := p; cases e <;> rfl
def yB0 : Option (AV × xAj) → Option AV
  | some (r,H') => frz frzN H' r
  | none => Option.none
def xH1 : List AV → Nat → List Nat → List AV
  | [],_,_ => []
  | v :: F,_,[] => v :: F
  | v :: F,i,s :: scr => if s = i then .any :: xH1 F (i + 1) scr else v :: xH1 F (i + 1) (s :: scr)
def asc : List Nat → Nat → Bool
  | [],_ => true
  | s :: r,lo => decide (lo ≤ s) && asc r (s + 1)
theorem xXf : ∀ {scr : List Nat} {lo : Nat},asc scr lo = true → ∀ s ∈ scr,lo ≤ s
  | [],_,_,s,h => by cases h
  | s0 :: r,lo,h,s,hs => by
    simp only [asc,Bool.and_eq_true,decide_eq_true_eq] at h
    rcases List.mem_cons.1 hs with rfl | hs
    · exact h.1
    · have := xXf h.2 s hs; omega
theorem xYl : ∀ {scr : List Nat} {lo lo' : Nat},asc scr lo = true → (∀ s ∈ scr,lo' ≤ s) → asc scr lo' = true
  | [],_,_,_,_ => rfl
  | s0 :: r,lo,lo',h,hl => by
    simp only [asc,Bool.and_eq_true,decide_eq_true_eq] at h ⊢
    exact ⟨hl s0 (by simp),h.2⟩
theorem xFo : ∀ (F : List AV) (i : Nat) (scr : List Nat),asc scr i = true → ∀ j,(xH1 F i scr)[j]? = if i + j ∈ scr then (F[j]?).map (fun _ => AV.any) else F[j]?
  | [],i,scr,h,j => by simp [xH1]
  | v :: F,i,[],h,j => by simp [xH1]
  | v :: F,i,s :: scr,h,j => by
    have h' := h
    simp only [asc,Bool.and_eq_true,decide_eq_true_eq] at h'
    unfold xH1
    by_cases e : s = i
    · subst e
      rw [if_pos rfl]
      cases j with
      | zero => simp
      | succ j =>
        rw [List.getElem?_cons_succ,xFo F (s + 1) scr h'.2 j,List.getElem?_cons_succ]
        have : (s + 1 + j ∈ scr) ↔ (s + (j + 1) ∈ s :: scr) := by
          rw [show s + (j + 1) = s + 1 + j by omega,List.mem_cons]
          exact ⟨.inr,fun q => q.elim (fun q => by omega) id⟩
        simp only [this]
    · rw [if_neg e]
      have hm : ∀ x ∈ s :: scr,i + 1 ≤ x := fun x hx => by
        rcases List.mem_cons.1 hx with rfl | hx
        · omega
        · have := xXf h'.2 x hx; omega
      cases j with
      | zero =>
        have : ¬ (i + 0 ∈ s :: scr) := fun q => by have := hm _ q; omega
        rw [if_neg this]; rfl
      | succ j =>
        rw [List.getElem?_cons_succ,xFo F (i + 1) (s :: scr) (xYl h hm) j,List.getElem?_cons_succ]
        simp only [show i + (j + 1) = i + 1 + j by omega]
def xP8 (scr : List Nat) (F : List AV) : List AV := if asc scr 0 then xH1 F 0 scr else xAI scr F
theorem xND (scr : List Nat) (F : List AV) : xP8 scr F = xAI scr F := by
  unfold xP8
  split
  · rename_i h
    apply List.ext_getElem?
    intro j
    rw [xFo F 0 scr h j,xDR]
    simp only [Nat.zero_add]
  · rfl
noncomputable def xXg (R : Rec) (scr : List Nat) (b : ACode) : Option (AExit × St) → Option (AExit × St)
  | some (.normal,s') => R.loop scr b s'
  | some (e,s') => some (e,⟨xP8 scr s'.F,s'.H⟩)
  | none => none
noncomputable def xZ0 (prog : Nat → Option AFunc) (R : Rec) (args : List AV) (H : xAj) : AV → Option (AV × xAj)
  | .func f caps => match prog f with
    | some fn => xVW R fn (args ++ caps) H
    | none => Option.none
  | f => xCI prog R f args H
noncomputable def xYm (prog : Nat → Option AFunc) (R : Rec) : Rec where
  pcall f args := match prog f with
    | some fn => yB0 (xVW R fn args [])
    | none => primA f args
  icall f args H := xZ0 prog R args H f
  loop scr b s := fS (xP8 scr s.F) fun F => xXg R scr b (xXe R b ⟨F,s.H⟩)
theorem xVX (prog : Nat → Option AFunc) (R : Rec) : xYm prog R = xCl prog R := by
  unfold xYm xCl
  congr 1
  · funext f args
    cases prog f with
    | none => rfl
    | some fn =>
      simp only [xAT,xP7]
      cases xCf R fn args [] <;> rfl
  · funext f args H
    unfold xZ0
    split
    · rename_i g caps
      simp only [xCI,xP7]
      cases prog g <;> rfl
    · rfl
  · funext scr b s
    simp only [xGV,xTX,xVT,xND]
    cases run R b ⟨xAI scr s.F,s.H⟩ with
    | none => rfl
    | some p => obtain ⟨e,s'⟩ := p; cases e <;> simp only [xXg,xND]
noncomputable def yAp (prog : Nat → Option AFunc) (T : Known) : Nat → Rec
  | 0 => Rec.none
  | n + 1 => xYn T (xYm prog (yAp prog T n))
theorem xTY (prog : Nat → Option AFunc) (T : Known) : ∀ n,yAp prog T n = xYo prog T n
  | 0 => rfl
  | n + 1 => by rw [yAp,xYo,xVX,xTY prog T n]
noncomputable def xTZ (prog : Nat → Option AFunc) (T : Known) (n f : Nat) (args : List AV) (v : AV) : Bool := match (yAp prog T n).pcall f args with
  | some u => xH2 8 u v
  | none => false
theorem xQ8 {prog : Nat → Option AFunc} {T : Known} (hT : ∀ e ∈ T,(lim prog).pcall e.1 e.2.1 = some e.2.2) {n f : Nat} {args : List AV} {v : AV} (h : xTZ prog T n f args v = true) : (lim prog).pcall f args = some v :=
  xT0 hT (n := n) (by unfold xTZ at h; rw [xTY] at h; exact h)
end Go.Abs
