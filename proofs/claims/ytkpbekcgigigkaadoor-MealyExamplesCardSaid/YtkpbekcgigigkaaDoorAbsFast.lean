/- The interpreter once more, its alternatives as functions of their own: what the kernel unfolds is small. -/
import Derived.Test.YtkpbekcgigigkaaDoorAbsOver
namespace Go.Abs
set_option linter.unusedVariables false

/-! reading and writing slots by the list's own recursor: few steps for the kernel -/
noncomputable def getS (F : List AV) : Nat → AV := List.rec (motive := fun _ => Nat → AV) (fun _ => .any) (fun v _ ih n => Nat.casesOn (motive := fun _ => AV) n v ih) F
noncomputable def setS (x : AV) (F : List AV) : Nat → List AV := List.rec (motive := fun _ => Nat → List AV) (fun _ => []) (fun v F ih n => Nat.casesOn (motive := fun _ => List AV) n (x :: F) (fun m => v :: ih m)) F
theorem getS_eq : ∀ (F : List AV) (i : Nat), getS F i = F.getD i .any
  | [], i => by simp [getS]
  | v :: F, 0 => rfl
  | v :: F, i + 1 => by
    show getS F i = _
    rw [getS_eq F i]; simp
theorem setS_eq (x : AV) : ∀ (F : List AV) (i : Nat), setS x F i = F.set i x
  | [], i => rfl
  | v :: F, 0 => rfl
  | v :: F, i + 1 => by
    show v :: setS x F i = _
    rw [setS_eq x F i]; rfl
noncomputable def opvF (F : List AV) : Arg → AV
  | .t i => getS F i
  | .c v => v
theorem opvF_eq : opvF = opv := by
  funext F x
  cases x with
  | t i => exact getS_eq F i
  | c v => rfl
noncomputable def putF (F : List AV) (d : Option Nat) (v : AV) : List AV := match d with
  | some d => setS v F d
  | none => F
theorem putF_eq : putF = putA := by
  funext F d v
  cases d with
  | none => rfl
  | some d => exact setS_eq v F d

def eo_mov (opv : List AV → Arg → AV) (R : Rec) (F : List AV) (H : Heap) (x : Arg) : Option (AV × Heap) := some (opv F x, H)
def eo_pick (opv : List AV → Arg → AV) (R : Rec) (F : List AV) (H : Heap) (c : Arg) (a : Arg) (b : Arg) : Option (AV × Heap) := match opv F c with
    | .bool t => some (if t then opv F a else opv F b, H)
    | _ => none
def eo_box (opv : List AV → Arg → AV) (R : Rec) (F : List AV) (H : Heap) (x : Arg) : Option (AV × Heap) := let cs := (opv F x).cells; if cs.all AV.isCell then some (.ptr H.length 0, H ++ [.cells false false cs]) else none
def eo_build (opv : List AV → Arg → AV) (R : Rec) (F : List AV) (H : Heap) (z : List AV) (parts : List (Nat × Nat × Arg)) : Option (AV × Heap) :=
    (if parts.all (fun p => (opv F p.2.2).cells.length == p.2.1) then
      (fillA z (parts.map fun p => (p.1, (opv F p.2.2).cells))).map fun cs => (.agg cs, H) else none)
def eo_bslice (opv : List AV → Arg → AV) (R : Rec) (F : List AV) (H : Heap) (fz : Bool) (z : List AV) (es : Nat) (n : Nat) (parts : List (Nat × Arg)) : Option (AV × Heap) :=
    (if parts.all (fun p => (opv F p.2).cells.length == es) then
      match fillA (repz z n) (parts.map fun p => (p.1 * es, (opv F p.2).cells)) with
      | some cs => newA fz false n es cs H
      | none => none
     else none)
def eo_dslice (opv : List AV → Arg → AV) (R : Rec) (F : List AV) (H : Heap) (z : List AV) (es : Nat) (n : Nat) (parts : List (Nat × Arg)) : Option (AV × Heap) :=
    (if parts.all (fun p => (opv F p.2).cells.length == es) then
      match fillA (repz z n) (parts.map fun p => (p.1 * es, (opv F p.2).cells)) with
      | some cs => if cs.all data1 = true then some (.sl false n cs, H) else none
      | none => none
     else none)
def eo_load (opv : List AV → Arg → AV) (R : Rec) (F : List AV) (H : Heap) (g : Bool) (n : Nat) (p : Arg) : Option (AV × Heap) := match rd H (opv F p) n with
    | some cs => (mkv g cs).map fun v => (v, H)
    | none => none
def eo_store (opv : List AV → Arg → AV) (R : Rec) (F : List AV) (H : Heap) (n : Nat) (p : Arg) (v : Arg) : Option (AV × Heap) := let cs := (opv F v).cells; if cs.length = n then (wr H (opv F p) cs).map fun H' => (.tup [], H') else none
def eo_nilchk (opv : List AV → Arg → AV) (R : Rec) (F : List AV) (H : Heap) (x : Arg) : Option (AV × Heap) := match opv F x with
    | .ptr id off => some (.ptr id off, H)
    | .vptr cs off => some (.vptr cs off, H)
    | .func f caps => some (.func f caps, H)
    | .yield l => some (.yield l, H)
    | _ => none
def eo_bin (opv : List AV → Arg → AV) (R : Rec) (F : List AV) (H : Heap) (op : BinOp) (x : Arg) (y : Arg) : Option (AV × Heap) := (binA op (opv F x) (opv F y)).map fun v => (v, H)
def eo_beq (opv : List AV → Arg → AV) (R : Rec) (F : List AV) (H : Heap) (neg : Bool) (x : Arg) (y : Arg) : Option (AV × Heap) := match opv F x, opv F y with
    | .bool a, .bool b => some (.bool (if neg then a != b else a == b), H)
    | _, _ => none
def eo_isnil (opv : List AV → Arg → AV) (R : Rec) (F : List AV) (H : Heap) (neg : Bool) (x : Arg) : Option (AV × Heap) := match opv F x with
    | .sl z _ _ => some (.bool (z != neg), H)
    | .own z _ _ _ _ => some (.bool (z != neg), H)
    | _ => none
def eo_un (opv : List AV → Arg → AV) (R : Rec) (F : List AV) (H : Heap) (op : UnOp) (x : Arg) : Option (AV × Heap) := (unA op (opv F x)).map fun v => (v, H)
def eo_conv (opv : List AV → Arg → AV) (R : Rec) (F : List AV) (H : Heap) (k : IntKind) (x : Arg) : Option (AV × Heap) := match opv F x with
    | .int _ n => some (.int k (k.wrap n), H)
    | _ => none
def eo_mkfunc (opv : List AV → Arg → AV) (R : Rec) (F : List AV) (H : Heap) (f : Nat) (caps : List Arg) : Option (AV × Heap) := some (.func f (caps.map (opv F)), H)
def eo_mkslice (opv : List AV → Arg → AV) (R : Rec) (F : List AV) (H : Heap) (fz : Bool) (z : List AV) (bytes : Nat) (l : Arg) (c : Arg) : Option (AV × Heap) := match opv F l, opv F c with
    | .int _ l, .int _ c => if 0 ≤ l ∧ l ≤ c ∧ c * bytes ≤ roomA ∧ c ≤ roomA ∧ z.all AV.isCell = true then newA fz false l.toNat z.length (repz z l.toNat) H else none
    | _, _ => none
def eo_slice (opv : List AV → Arg → AV) (R : Rec) (F : List AV) (H : Heap) (es : Nat) (x : Arg) (lo : Option Arg) (hi : Option Arg) (mx : Option Arg) : Option (AV × Heap) := match opv F x with
    | .sl z n cs => if cs.length = n * es then (bounds n (lo.map (opv F)) (hi.map (opv F)) (mx.map (opv F))).map fun (l, h) => (.sl z (h - l) ((cs.drop (l * es)).take ((h - l) * es)), H) else none
    | .own z id off n es' => if es' = es then (bounds n (lo.map (opv F)) (hi.map (opv F)) (mx.map (opv F))).map fun (l, h) => (.own z id (off + l * es) (h - l) es, H) else none
    | _ => none
def eo_faddr (opv : List AV → Arg → AV) (R : Rec) (F : List AV) (H : Heap) (o : Nat) (x : Arg) : Option (AV × Heap) := match opv F x with
    | .ptr id off => some (.ptr id (off + o), H)
    | .vptr cs off => some (.vptr cs (off + o), H)
    | _ => none
def eo_field (opv : List AV → Arg → AV) (R : Rec) (F : List AV) (H : Heap) (g : Bool) (off : Nat) (n : Nat) (x : Arg) : Option (AV × Heap) := match opv F x with
    | .agg cs => if off + n ≤ cs.length then (mkv g ((cs.drop off).take n)).map fun v => (v, H) else none
    | _ => none
def eo_iaddr (opv : List AV → Arg → AV) (R : Rec) (F : List AV) (H : Heap) (es : Nat) (x : Arg) (i : Arg) : Option (AV × Heap) := match opv F x, natOf (opv F i) with
    | .sl _ n cs, some i => if i < n then some (.vptr cs (i * es), H) else none
    | .own _ id off n es', some i => if i < n ∧ es' = es then some (.ptr id (off + i * es), H) else none
    | _, _ => none
def eo_ext (opv : List AV → Arg → AV) (R : Rec) (F : List AV) (H : Heap) (i : Nat) (x : Arg) : Option (AV × Heap) := match opv F x with
    | .tup vs => (vs[i]?).map fun v => (v, H)
    | _ => none
def eo_len (opv : List AV → Arg → AV) (R : Rec) (F : List AV) (H : Heap) (x : Arg) : Option (AV × Heap) := match opv F x with
    | .sl _ n _ => some (.int .i64 n, H)
    | .own _ _ _ n _ => some (.int .i64 n, H)
    | _ => none
def eo_cap (opv : List AV → Arg → AV) (R : Rec) (F : List AV) (H : Heap) (x : Arg) : Option (AV × Heap) := match opv F x with
    | .sl true _ _ => some (.int .i64 0, H)
    | _ => none
def eo_aeq (opv : List AV → Arg → AV) (R : Rec) (F : List AV) (H : Heap) (neg : Bool) (n : Nat) (x : Arg) (y : Arg) : Option (AV × Heap) := match opv F x, opv F y with
    | .agg cs, .agg ds => if cs.length = n then (eqCells cs ds).map fun b => (.bool (b != neg), H) else none
    | _, _ => none
def eo_append (opv : List AV → Arg → AV) (R : Rec) (F : List AV) (H : Heap) (fz : Bool) (es : Nat) (bytes : Nat) (x : Arg) (y : Arg) : Option (AV × Heap) := match src H es (opv F y) with
    | none => none
    | some (m, ys) => match opv F x with
      | .sl true _ _ => if m * bytes ≤ roomA ∧ m ≤ roomA then newA fz (m == 0) m es ys H else none
      | .own z id off n es' => match H[id]? with
        | some (.cells false _ cs) => if off = 0 ∧ es' = es ∧ n * es ≤ cs.length ∧ (n + m) * bytes ≤ roomA ∧ n + m ≤ roomA then
            some (.own (z && m == 0) H.length 0 (n + m) es, H.set id .dead ++ [.cells false (z && m == 0) (cs.take (n * es) ++ ys)]) else none
        | _ => none
      | _ => none
def eo_appendz (opv : List AV → Arg → AV) (R : Rec) (F : List AV) (H : Heap) (z : List AV) (bytes : Nat) (x : Arg) (n : Arg) : Option (AV × Heap) := match natOf (opv F n), opv F x with
    | some m, .sl true _ _ => if m * bytes ≤ roomA ∧ m ≤ roomA ∧ z.all AV.isCell = true then newA false (m == 0) m z.length (repz z m) H else none
    | _, _ => none
def eo_appendh (opv : List AV → Arg → AV) (R : Rec) (F : List AV) (H : Heap) (es : Nat) (bytes : Nat) (x : Arg) (y : Arg) : Option (AV × Heap) := match holeA H with
    | none => none
    | some h => (appB H es bytes (opv F x) (opv F y)).map fun r => (.own r.1 h 0 r.2.1 es, (killA r.2.2.2 H).set h (.cells false r.1 r.2.2.1))
def eo_copy (opv : List AV → Arg → AV) (R : Rec) (F : List AV) (H : Heap) (_u0 : Nat) (_u1 : Arg) (_u2 : Arg) : Option (AV × Heap) := none
def eo_maxi (opv : List AV → Arg → AV) (R : Rec) (F : List AV) (H : Heap) (x : Arg) (y : Arg) : Option (AV × Heap) := match opv F x, opv F y with
    | .int k a, .int _ b => some (.int k (if b > a then b else a), H)
    | _, _ => none
def eo_mini (opv : List AV → Arg → AV) (R : Rec) (F : List AV) (H : Heap) (x : Arg) (y : Arg) : Option (AV × Heap) := match opv F x, opv F y with
    | .int k a, .int _ b => some (.int k (if b < a then b else a), H)
    | _, _ => none
def eo_call (opv : List AV → Arg → AV) (R : Rec) (F : List AV) (H : Heap) (f : Nat) (args : List Arg) : Option (AV × Heap) := pcallA R f (args.map (opv F)) H
def eo_icall (opv : List AV → Arg → AV) (R : Rec) (F : List AV) (H : Heap) (f : Arg) (args : List Arg) : Option (AV × Heap) := R.icall (opv F f) (args.map (opv F)) H
def eo_fcall (opv : List AV → Arg → AV) (R : Rec) (F : List AV) (H : Heap) (f : Arg) (args : List Arg) : Option (AV × Heap) := match opv F f with
    | .func g caps => pcallA R g (args.map (opv F) ++ caps) H
    | _ => none
def eo_idx (opv : List AV → Arg → AV) (R : Rec) (F : List AV) (H : Heap) (g : Bool) (es : Nat) (len : Nat) (x : Arg) (i : Arg) : Option (AV × Heap) := match opv F x, natOf (opv F i) with
    | .agg cs, some j => if j < len ∧ j * es + es ≤ cs.length then (mkv g ((cs.drop (j * es)).take es)).map fun v => (v, H) else none
    | _, _ => none
def eo_arrat (opv : List AV → Arg → AV) (R : Rec) (F : List AV) (H : Heap) (es : Nat) (len : Nat) (x : Arg) (i : Arg) : Option (AV × Heap) := match opv F x, natOf (opv F i) with
    | .ptr id off, some j => if j < len then some (.ptr id (off + j * es), H) else none
    | .vptr cs off, some j => if j < len then some (.vptr cs (off + j * es), H) else none
    | _, _ => none
def eo_garr (opv : List AV → Arg → AV) (R : Rec) (F : List AV) (H : Heap) (b : Nat) (es : Nat) (len : Nat) (i : Arg) : Option (AV × Heap) := match globs b, natOf (opv F i) with
    | some cs, some j => if j < len then some (.vptr cs (j * es), H) else none
    | _, _ => none
def eo_sidx (opv : List AV → Arg → AV) (R : Rec) (F : List AV) (H : Heap) (x : Arg) (i : Arg) : Option (AV × Heap) := match opv F x, natOf (opv F i) with
    | .str s, some j => (s[j]?).map fun b => (.int .u8 b.toNat, H)
    | _, _ => none
def eo_slen (opv : List AV → Arg → AV) (R : Rec) (F : List AV) (H : Heap) (x : Arg) : Option (AV × Heap) := match opv F x with
    | .str s => some (.int .i64 s.size, H)
    | _ => none
def eo_mm (opv : List AV → Arg → AV) (R : Rec) (F : List AV) (H : Heap) (mx : Bool) (xs : List Arg) : Option (AV × Heap) := match xs.map (opv F) with
    | [] => none
    | x :: r => (mmA mx x r).map fun v => (v, H)
def eo_sslice (opv : List AV → Arg → AV) (R : Rec) (F : List AV) (H : Heap) (x : Arg) (lo : Option Arg) (hi : Option Arg) : Option (AV × Heap) := match opv F x with
    | .str s => (bounds s.size (lo.map (opv F)) (hi.map (opv F)) none).map fun (l, h) => (.str (s.extract l h), H)
    | _ => none
def eo_sbeq (opv : List AV → Arg → AV) (R : Rec) (F : List AV) (H : Heap) (neg : Bool) (x : Arg) (y : Arg) : Option (AV × Heap) := match opv F x, opv F y with
    | .str s, .str t => some (.bool ((s.toList == t.toList) != neg), H)
    | _, _ => none
def eo_mkbound (opv : List AV → Arg → AV) (R : Rec) (F : List AV) (H : Heap) (f : Nat) (first : List Arg) : Option (AV × Heap) := some (.bfunc f (first.map (opv F)), H)
def eo_bcall (opv : List AV → Arg → AV) (R : Rec) (F : List AV) (H : Heap) (f : Arg) (args : List Arg) : Option (AV × Heap) := match opv F f with
    | .bfunc g first => R.icall (.func g []) (first ++ args.map (opv F)) H
    | _ => none
def eo_mkmap (opv : List AV → Arg → AV) (R : Rec) (F : List AV) (H : Heap)  : Option (AV × Heap) := some (.mp H.length, H ++ [.mp []])
def eo_mlook (opv : List AV → Arg → AV) (R : Rec) (F : List AV) (H : Heap) (ks : List Nat) (comma : Bool) (z : AV) (x : Arg) (k : Arg) : Option (AV × Heap) := if keyFit ks (opv F k) then match entA H (opv F x) with
    | none => none
    | some es => match findA (opv F k) es with
      | none => none
      | some none => some (if comma then .tup [z, .bool false] else z, H)
      | some (some v) => some (if comma then .tup [v, .bool true] else v, H)
    else none
def eo_ment (opv : List AV → Arg → AV) (R : Rec) (F : List AV) (H : Heap) (ks : List Nat) (z : AV) (m : Arg) (k : Arg) : Option (AV × Heap) := if keyFit ks (opv F k) then match opv F m with
    | .mp id => match H[id]? with
      | some (.mp es) => (entrA (opv F k) z es 0).map fun r => (.tup [r.1, .int .i64 (r.2.1 : Nat)], H.set id (.mp r.2.2))
      | _ => none
    | _ => none
    else none
def eo_mstore (opv : List AV → Arg → AV) (R : Rec) (F : List AV) (H : Heap) (m : Arg) (s : Arg) (v : Arg) : Option (AV × Heap) := match opv F m, opv F s with
    | .mp id, .int .i64 n => match H[id]? with
      | some (.mp es) => if 0 ≤ n then (es[n.toNat]?).map fun e => (.tup [], H.set id (.mp (es.set n.toNat (e.1, opv F v)))) else none
      | _ => none
    | _, _ => none
def eo_mupd (opv : List AV → Arg → AV) (R : Rec) (F : List AV) (H : Heap) (ks : List Nat) (m : Arg) (k : Arg) (v : Arg) : Option (AV × Heap) := if keyFit ks (opv F k) then match opv F m with
    | .mp id => match H[id]? with
      | some (.mp es) => (updA (opv F k) (opv F v) es).map fun es' => (.tup [], H.set id (.mp es'))
      | _ => none
    | _ => none
    else none
def eo_mlen (opv : List AV → Arg → AV) (R : Rec) (F : List AV) (H : Heap) (x : Arg) : Option (AV × Heap) := (entA H (opv F x)).map fun es => (.int .i64 es.length, H)
def eo_mnil (opv : List AV → Arg → AV) (R : Rec) (F : List AV) (H : Heap) (neg : Bool) (x : Arg) : Option (AV × Heap) := match opv F x with
    | .nilm => some (.bool (true != neg), H)
    | .mp _ => some (.bool (false != neg), H)
    | _ => none
def eo_sbytes (opv : List AV → Arg → AV) (R : Rec) (F : List AV) (H : Heap) (fz : Bool) (x : Arg) : Option (AV × Heap) := match opv F x with
    | .str s => newA fz false s.size 1 (cellsOfStr s) H
    | _ => none
def eo_bstr (opv : List AV → Arg → AV) (R : Rec) (F : List AV) (H : Heap) (x : Arg) : Option (AV × Heap) := match src H 1 (opv F x) with
    | some (_, cs) => (u8sOf cs).map fun bs => (.str ⟨⟨bs⟩⟩, H)
    | none => none
def eo_sadd (opv : List AV → Arg → AV) (R : Rec) (F : List AV) (H : Heap) (x : Arg) (y : Arg) : Option (AV × Heap) := match opv F x, opv F y with
    | .str s, .str t => if s.size + t.size ≤ 9223372036854775807 then some (.str ⟨⟨s.data.toList ++ t.data.toList⟩⟩, H) else none
    | _, _ => none
def eo_ocall (opv : List AV → Arg → AV) (R : Rec) (F : List AV) (H : Heap) (f : Nat) (args : List Arg) : Option (AV × Heap) := match (args.map (opv F)).mapM (frz frzN H) with
    | none => none
    | some args' => match ocallA R f args' with
      | none => none
      | some (v, B) => some (liftV H.length v, fzIds H ((args.map (opv F)).flatMap (bor frzN H)) ++ B)
def eo_ocallw (opv : List AV → Arg → AV) (R : Rec) (F : List AV) (H : Heap) (f : Nat) (args : List Arg) : Option (AV × Heap) := match (args.map (opv F)).mapM (frz frzN H) with
    | none => none
    | some args' => match ocallW R f args' with
      | none => none
      | some (v, B) => some (liftV H.length v, fzIds H ((args.map (opv F)).flatMap (bor frzN H)) ++ B.map (liftB H.length))

noncomputable def execOpF (R : Rec) (F : List AV) (H : Heap) : AOp → Option (AV × Heap)
  | .mov x => eo_mov opvF R F H x
  | .pick c a b => eo_pick opvF R F H c a b
  | .box x => eo_box opvF R F H x
  | .build z parts => eo_build opvF R F H z parts
  | .bslice fz z es n parts => eo_bslice opvF R F H fz z es n parts
  | .dslice z es n parts => eo_dslice opvF R F H z es n parts
  | .load g n p => eo_load opvF R F H g n p
  | .store n p v => eo_store opvF R F H n p v
  | .nilchk x => eo_nilchk opvF R F H x
  | .bin op x y => eo_bin opvF R F H op x y
  | .beq neg x y => eo_beq opvF R F H neg x y
  | .isnil neg x => eo_isnil opvF R F H neg x
  | .un op x => eo_un opvF R F H op x
  | .conv k x => eo_conv opvF R F H k x
  | .mkfunc f caps => eo_mkfunc opvF R F H f caps
  | .mkslice fz z bytes l c => eo_mkslice opvF R F H fz z bytes l c
  | .slice es x lo hi mx => eo_slice opvF R F H es x lo hi mx
  | .faddr o x => eo_faddr opvF R F H o x
  | .field g off n x => eo_field opvF R F H g off n x
  | .iaddr es x i => eo_iaddr opvF R F H es x i
  | .ext i x => eo_ext opvF R F H i x
  | .len x => eo_len opvF R F H x
  | .cap x => eo_cap opvF R F H x
  | .aeq neg n x y => eo_aeq opvF R F H neg n x y
  | .append fz es bytes x y => eo_append opvF R F H fz es bytes x y
  | .appendz z bytes x n => eo_appendz opvF R F H z bytes x n
  | .appendh es bytes x y => eo_appendh opvF R F H es bytes x y
  | .copy _u0 _u1 _u2 => eo_copy opvF R F H _u0 _u1 _u2
  | .maxi x y => eo_maxi opvF R F H x y
  | .mini x y => eo_mini opvF R F H x y
  | .call f args => eo_call opvF R F H f args
  | .icall f args => eo_icall opvF R F H f args
  | .fcall f args => eo_fcall opvF R F H f args
  | .idx g es len x i => eo_idx opvF R F H g es len x i
  | .arrat es len x i => eo_arrat opvF R F H es len x i
  | .garr b es len i => eo_garr opvF R F H b es len i
  | .sidx x i => eo_sidx opvF R F H x i
  | .slen x => eo_slen opvF R F H x
  | .mm mx xs => eo_mm opvF R F H mx xs
  | .sslice x lo hi => eo_sslice opvF R F H x lo hi
  | .sbeq neg x y => eo_sbeq opvF R F H neg x y
  | .mkbound f first => eo_mkbound opvF R F H f first
  | .bcall f args => eo_bcall opvF R F H f args
  | .mkmap  => eo_mkmap opvF R F H 
  | .mlook ks comma z x k => eo_mlook opvF R F H ks comma z x k
  | .ment ks z m k => eo_ment opvF R F H ks z m k
  | .mstore m s v => eo_mstore opvF R F H m s v
  | .mupd ks m k v => eo_mupd opvF R F H ks m k v
  | .mlen x => eo_mlen opvF R F H x
  | .mnil neg x => eo_mnil opvF R F H neg x
  | .sbytes fz x => eo_sbytes opvF R F H fz x
  | .bstr x => eo_bstr opvF R F H x
  | .sadd x y => eo_sadd opvF R F H x y
  | .ocall f args => eo_ocall opvF R F H f args
  | .ocallw f args => eo_ocallw opvF R F H f args

theorem execOpF_eq (R : Rec) (F : List AV) (H : Heap) (op : AOp) : execOpF R F H op = execOpA R F H op := by
  cases op <;> simp only [execOpF, opvF_eq] <;> rfl

/-! what is kept is evaluated at once -/
def fN {α : Type} (a : Nat) (k : Nat → α) : α := match a with
  | 0 => k 0
  | n + 1 => k (n + 1)
theorem fN_eq {α : Type} (a : Nat) (k : Nat → α) : fN a k = k a := by cases a <;> rfl
def fI {α : Type} (x : Int) (k : Int → α) : α := match x with
  | .ofNat a => fN a fun a => k (.ofNat a)
  | .negSucc a => fN a fun a => k (.negSucc a)
theorem fI_eq {α : Type} (x : Int) (k : Int → α) : fI x k = k x := by cases x <;> simp only [fI, fN_eq]
def fBo {α : Type} (x : Bool) (k : Bool → α) : α := match x with
  | true => k true
  | false => k false
theorem fBo_eq {α : Type} (x : Bool) (k : Bool → α) : fBo x k = k x := by cases x <;> rfl
def fV {α : Type} (v : AV) (k : AV → α) : α := match v with
  | .int kd n => fI n fun n => k (.int kd n)
  | .bool b => fBo b fun b => k (.bool b)
  | .ptr i o => fN i fun i => fN o fun o => k (.ptr i o)
  | .own z i o n e => fBo z fun z => fN i fun i => fN o fun o => fN n fun n => fN e fun e => k (.own z i o n e)
  | .sl z n cs => fN n fun n => k (.sl z n cs)
  | v => k v
theorem fV_eq {α : Type} (v : AV) (k : AV → α) : fV v k = k v := by
  cases v <;> simp only [fV, fI_eq, fBo_eq, fN_eq]
noncomputable def fS {α : Type} (l : List AV) : (List AV → α) → α := List.rec (motive := fun _ => (List AV → α) → α) (fun k => k []) (fun v _ ih k => ih fun vs => k (v :: vs)) l
theorem fS_eq {α : Type} : ∀ (l : List AV) (k : List AV → α), fS l k = k l
  | [], k => rfl
  | v :: vs, k => by
    show fS vs (fun vs => k (v :: vs)) = _
    rw [fS_eq vs]
def fL {α : Type} : List AV → (List AV → α) → α
  | [], k => k []
  | v :: vs, k => fV v fun v => fL vs fun vs => k (v :: vs)
theorem fL_eq {α : Type} : ∀ (l : List AV) (k : List AV → α), fL l k = k l
  | [], k => rfl
  | v :: vs, k => by rw [fL, fV_eq, fL_eq vs]
def fB {α : Type} (b : Blk) (k : Blk → α) : α := match b with
  | .cells fz z cs => fL cs fun cs => k (.cells fz z cs)
  | b => k b
theorem fB_eq {α : Type} (b : Blk) (k : Blk → α) : fB b k = k b := by
  cases b <;> first | rfl | simp only [fB, fL_eq]
noncomputable def fAt {α : Type} (l : List Blk) : Nat → (List Blk → α) → α := List.rec (motive := fun _ => Nat → (List Blk → α) → α) (fun _ k => k []) (fun b bs ih n k => Nat.casesOn (motive := fun _ => α) n (fB b fun b => k (b :: bs)) (fun m => ih m fun bs => k (b :: bs))) l
theorem fAt_eq {α : Type} : ∀ (l : List Blk) (n : Nat) (k : List Blk → α), fAt l n k = k l
  | [], n, k => rfl
  | b :: bs, 0, k => by
    show fB b (fun b => k (b :: bs)) = _
    rw [fB_eq]
  | b :: bs, n + 1, k => by
    show fAt bs n (fun bs => k (b :: bs)) = _
    rw [fAt_eq bs]
noncomputable def lenB (l : List Blk) : Nat := List.rec (motive := fun _ => Nat) 0 (fun _ _ n => n + 1) l
/-- the block that the operation writes -/
noncomputable def spotF (F : List AV) (H : List Blk) : AOp → Nat
  | .store _ p _ => match opvF F p with
    | .ptr id _ => id
    | _ => 0
  | _ => lenB H
def keepsH : AOp → Bool
  | .mov _ | .pick .. | .bin .. | .beq .. | .aeq .. | .un .. | .conv .. | .ext .. | .faddr .. | .field .. | .iaddr .. | .len _ | .cap _ | .isnil .. | .maxi .. | .mini .. | .nilchk _ | .mkfunc .. | .slice .. | .idx .. | .arrat .. | .garr .. | .sidx .. | .slen .. | .mm .. | .sslice .. | .sbeq .. | .mkbound .. | .load .. | .build .. | .mlook .. | .mlen _ | .mnil .. => true
  | _ => false
noncomputable def someF (d : Option Nat) (F : List AV) (keep : Bool) (sp : Nat) : Option (AV × Heap) → Option St
  | some (v, H) => fV v fun v => fS (putF F d v) fun F => if keep then some ⟨F, H⟩ else fAt H sp fun H => some ⟨F, H⟩
  | none => none
theorem someF_eq (d : Option Nat) (F : List AV) (keep : Bool) (sp : Nat) (x : Option (AV × Heap)) : someF d F keep sp x = x.map fun (v, H) => ⟨putA F d v, H⟩ := by
  cases x with
  | none => rfl
  | some p =>
    obtain ⟨v, H⟩ := p
    simp only [someF, fV_eq, fS_eq, fAt_eq, ite_self, putF_eq]
    rfl
def wantF (o : AOper) (s : St) (r : Option St) : Option Bool → Option St
  | none => none
  | some false => some ⟨putA s.F o.dst (.tup []), s.H⟩
  | some true => r
noncomputable def execOperF (R : Rec) (o : AOper) (s : St) : Option St := wantF o s (someF o.dst s.F (keepsH o.op) (spotF s.F s.H o.op) (execOpF R s.F s.H o.op)) (wantA s.F o.guard)
theorem execOperF_eq (R : Rec) (o : AOper) (s : St) : execOperF R o s = execOperA R o s := by
  unfold execOperF execOperA
  rw [execOpF_eq, someF_eq]
  split <;> rename_i e <;> rw [e] <;> rfl

noncomputable def bindF (k : St → Option St) : Option St → Option St
  | some s => k s
  | none => none
noncomputable def runOpsF (R : Rec) (ops : List AOper) : St → Option St := List.rec (motive := fun _ => St → Option St) (fun s => some s) (fun o _ ih s => bindF ih (execOperF R o s)) ops
theorem runOpsF_eq (R : Rec) : ∀ (ops : List AOper) (s : St), runOpsF R ops s = runOps R ops s
  | [], s => rfl
  | o :: rest, s => by
    show bindF (runOpsF R rest) (execOperF R o s) = _
    simp only [runOps, execOperF_eq]
    cases execOperA R o s with
    | none => rfl
    | some s' => exact runOpsF_eq R rest s'

def special : AOp → Bool
  | .call .. | .fcall .. | .append .. | .box .. | .bslice .. | .mkslice .. | .appendz .. | .appendh .. | .copy .. | .icall .. | .bcall .. | .store .. | .ocall .. | .ocallw .. | .mkmap | .mupd .. | .ment .. | .mstore .. | .sbytes .. => true
  | _ => false
noncomputable def freeOpF (R : Rec) (F : List AV) (H : Heap) (op : AOp) : Option AV := if special op then freeOpA R F H op else (execOpF R F H op).map (·.1)
theorem freeOpF_eq (R : Rec) (F : List AV) (H : Heap) (op : AOp) : freeOpF R F H op = freeOpA R F H op := by
  unfold freeOpF
  rw [execOpF_eq]
  cases op <;> rfl
noncomputable def frF (d : Option Nat) (s : St) : Option AV → Option St
  | some v => fV v fun v => fS (putF s.F d v) fun F => some ⟨F, s.H⟩
  | none => none
theorem frF_eq (d : Option Nat) (s : St) (x : Option AV) : frF d s x = x.map fun v => ⟨putA s.F d v, s.H⟩ := by
  cases x with
  | none => rfl
  | some v => simp only [frF, fV_eq, fS_eq, putF_eq]; rfl
noncomputable def freeOperF (R : Rec) (o : AOper) (s : St) : Option St := wantF o s (frF o.dst s (freeOpF R s.F s.H o.op)) (wantA s.F o.guard)
theorem freeOperF_eq (R : Rec) (o : AOper) (s : St) : freeOperF R o s = freeOperA R o s := by
  unfold freeOperF freeOperA
  rw [freeOpF_eq, frF_eq]
  split <;> rename_i e <;> rw [e] <;> rfl
noncomputable def runFreeF (R : Rec) (ops : List AOper) : St → Option St := List.rec (motive := fun _ => St → Option St) (fun s => some s) (fun o _ ih s => bindF ih (freeOperF R o s)) ops
theorem runFreeF_eq (R : Rec) : ∀ (ops : List AOper) (s : St), runFreeF R ops s = runFree R ops s
  | [], s => rfl
  | o :: rest, s => by
    show bindF (runFreeF R rest) (freeOperF R o s) = _
    simp only [runFree, freeOperF_eq]
    cases freeOperA R o s with
    | none => rfl
    | some s' => exact runFreeF_eq R rest s'

noncomputable def seqF (k : St → Option (AExit × St)) : Option (AExit × St) → Option (AExit × St)
  | some (.normal, s') => k s'
  | r => r
noncomputable def condF (x y : Option (AExit × St)) : AV → Option (AExit × St)
  | .bool t => if t then x else y
  | _ => none
def blockF (id : Nat) : Option (AExit × St) → Option (AExit × St)
  | some (.exit i, s') => if i = id then some (.normal, s') else some (.exit i, s')
  | r => r
def regF : Option St → Option (AExit × St)
  | some s => some (.normal, s)
  | none => none
noncomputable def drawF (R : Rec) (m : Nat) (ops : List AOper) (s : St) : Option (AExit × St) := match runFreeF R (ops.take m) s with
  | none => none
  | some s1 => regF (runOpsF R (ops.drop m) (adopt (ops.take m) s1))
def fzsF (i : Nat) (k : AV → Option (AExit × St)) : Option AV → Option (AExit × St)
  | some v => k v
  | none => none
noncomputable def runF (R : Rec) (c : ACode) : St → Option (AExit × St) :=
  ACode.rec (motive := fun _ => St → Option (AExit × St))
    (fun s => some (.normal, s)) (fun ops s => regF (runOpsF R ops s)) (fun m ops s => drawF R m ops s) (fun ls m ops s => run R (.drawl ls m ops) s)
    (fun als ls m ops s => run R (.drawp als ls m ops) s) (fun hs als ls m ops s => run R (.drawh hs als ls m ops) s) (fun σ als ls m ops s => run R (.drawt σ als ls m ops) s) (fun _ ih s => ih ⟨s.F, s.H ++ [.cells true true []]⟩)
    (fun ss _ ih s => ih ⟨s.F, fzIds s.H (ss.flatMap fun i => bor frzN s.H (s.F.getD i .any))⟩) (fun i _ ih s => fzsF i (fun v => ih ⟨s.F.set i v, fzIds s.H (bor frzN s.H (s.F.getD i .any))⟩) (frz frzN s.H (s.F.getD i .any))) (fun _ _ iha ihb s => seqF ihb (iha s)) (fun c _ _ iha ihb s => condF (iha s) (ihb s) (opvF s.F c))
    (fun id _ ih s => blockF id (ih s)) (fun scr b _ s => R.loop scr b s) (fun f ps asg body _ _ s => run R (.range f ps asg body) s) (fun id s => some (.exit id, s)) (fun _ ih s => ih s)
    (fun s => some (.normal, s)) (fun s => some (.ret, s)) (fun _ => none) c
theorem regF_eq (x : Option St) : regF x = x.map fun s' => (.normal, s') := by cases x <;> rfl
theorem runF_eq (R : Rec) (c : ACode) : ∀ s, runF R c s = run R c s := by
  induction c <;> intro s
  case region ops => show regF (runOpsF R ops s) = _; simp only [run, runOpsF_eq, regF_eq]
  case draw m ops =>
    show drawF R m ops s = _
    simp only [run, drawF, runFreeF_eq, runOpsF_eq, regF_eq]
    cases runFree R (ops.take m) s <;> rfl
  case seq a b iha ihb =>
    show seqF (runF R b) (runF R a s) = _
    simp only [run, iha]
    cases run R a s with
    | none => rfl
    | some p =>
      obtain ⟨e, s'⟩ := p
      cases e with
      | normal => exact ihb s'
      | exit i => rfl
      | ret => rfl
  case cond c a b iha ihb =>
    show condF (runF R a s) (runF R b s) (opvF s.F c) = _
    simp only [run, iha, ihb, opvF_eq]
    cases opv s.F c <;> rfl
  case block id b ih =>
    show blockF id (runF R b s) = _
    simp only [run, ih]
    cases run R b s with
    | none => rfl
    | some p => obtain ⟨e, s'⟩ := p; cases e <;> rfl
  case scope b ih => exact ih s
  case fz ss b ih => exact ih _
  case hole b ih => exact ih _
  case fzs i b ih =>
    show fzsF i _ _ = _
    simp only [run]
    cases frz frzN s.H (s.F.getD i .any) with
    | none => rfl
    | some v => exact ih _
  all_goals rfl

def endF (fn : AFunc) : Option (AExit × St) → Option (AV × Heap)
  | some (.normal, s) | some (.ret, s) => (resultsA fn.results s).map fun v => (v, s.H)
  | _ => none
noncomputable def bodyF (R : Rec) (fn : AFunc) (args : List AV) (H : Heap) : Option (AV × Heap) := endF fn (runF R fn.code (enterA fn args H))
theorem bodyF_eq (R : Rec) (fn : AFunc) (args : List AV) (H : Heap) : bodyF R fn args H = bodyA R fn args H := by
  unfold bodyF bodyA
  rw [runF_eq]
  cases run R fn.code (enterA fn args H) with
  | none => rfl
  | some p => obtain ⟨e, s'⟩ := p; cases e <;> rfl
def frzF : Option (AV × Heap) → Option AV
  | some (r, H') => frz frzN H' r
  | none => Option.none
/-- what is not needed is cleared in one pass -/
def clearS : List AV → Nat → List Nat → List AV
  | [], _, _ => []
  | v :: F, _, [] => v :: F
  | v :: F, i, s :: scr => if s = i then .any :: clearS F (i + 1) scr else v :: clearS F (i + 1) (s :: scr)
def asc : List Nat → Nat → Bool
  | [], _ => true
  | s :: r, lo => decide (lo ≤ s) && asc r (s + 1)
theorem asc_le : ∀ {scr : List Nat} {lo : Nat}, asc scr lo = true → ∀ s ∈ scr, lo ≤ s
  | [], _, _, s, h => by cases h
  | s0 :: r, lo, h, s, hs => by
    simp only [asc, Bool.and_eq_true, decide_eq_true_eq] at h
    rcases List.mem_cons.1 hs with rfl | hs
    · exact h.1
    · have := asc_le h.2 s hs; omega
theorem asc_low : ∀ {scr : List Nat} {lo lo' : Nat}, asc scr lo = true → (∀ s ∈ scr, lo' ≤ s) → asc scr lo' = true
  | [], _, _, _, _ => rfl
  | s0 :: r, lo, lo', h, hl => by
    simp only [asc, Bool.and_eq_true, decide_eq_true_eq] at h ⊢
    exact ⟨hl s0 (by simp), h.2⟩
theorem clearS_get : ∀ (F : List AV) (i : Nat) (scr : List Nat), asc scr i = true → ∀ j, (clearS F i scr)[j]? = if i + j ∈ scr then (F[j]?).map (fun _ => AV.any) else F[j]?
  | [], i, scr, h, j => by simp [clearS]
  | v :: F, i, [], h, j => by simp [clearS]
  | v :: F, i, s :: scr, h, j => by
    have h' := h
    simp only [asc, Bool.and_eq_true, decide_eq_true_eq] at h'
    unfold clearS
    by_cases e : s = i
    · subst e
      rw [if_pos rfl]
      cases j with
      | zero => simp
      | succ j =>
        rw [List.getElem?_cons_succ, clearS_get F (s + 1) scr h'.2 j, List.getElem?_cons_succ]
        have : (s + 1 + j ∈ scr) ↔ (s + (j + 1) ∈ s :: scr) := by
          rw [show s + (j + 1) = s + 1 + j by omega, List.mem_cons]
          exact ⟨.inr, fun q => q.elim (fun q => by omega) id⟩
        simp only [this]
    · rw [if_neg e]
      have hm : ∀ x ∈ s :: scr, i + 1 ≤ x := fun x hx => by
        rcases List.mem_cons.1 hx with rfl | hx
        · omega
        · have := asc_le h'.2 x hx; omega
      cases j with
      | zero =>
        have : ¬ (i + 0 ∈ s :: scr) := fun q => by have := hm _ q; omega
        rw [if_neg this]; rfl
      | succ j =>
        rw [List.getElem?_cons_succ, clearS_get F (i + 1) (s :: scr) (asc_low h hm) j, List.getElem?_cons_succ]
        simp only [show i + (j + 1) = i + 1 + j by omega]
def clearF (scr : List Nat) (F : List AV) : List AV := if asc scr 0 then clearS F 0 scr else clearA scr F
theorem clearF_eq (scr : List Nat) (F : List AV) : clearF scr F = clearA scr F := by
  unfold clearF
  split
  · rename_i h
    apply List.ext_getElem?
    intro j
    rw [clearS_get F 0 scr h j, clearA_get]
    simp only [Nat.zero_add]
  · rfl
noncomputable def loopKF (R : Rec) (scr : List Nat) (b : ACode) : Option (AExit × St) → Option (AExit × St)
  | some (.normal, s') => R.loop scr b s'
  | some (e, s') => some (e, ⟨clearF scr s'.F, s'.H⟩)
  | none => none
noncomputable def callF (prog : Nat → Option AFunc) (R : Rec) (args : List AV) (H : Heap) : AV → Option (AV × Heap)
  | .func f caps => match prog f with
    | some fn => bodyF R fn (args ++ caps) H
    | none => Option.none
  | f => icallA prog R f args H
noncomputable def stepF (prog : Nat → Option AFunc) (R : Rec) : Rec where
  pcall f args := match prog f with
    | some fn => frzF (bodyF R fn args [])
    | none => primA f args
  icall f args H := callF prog R args H f
  loop scr b s := fS (clearF scr s.F) fun F => loopKF R scr b (runF R b ⟨F, s.H⟩)
theorem stepF_eq (prog : Nat → Option AFunc) (R : Rec) : stepF prog R = stepA prog R := by
  unfold stepF stepA
  congr 1
  · funext f args
    cases prog f with
    | none => rfl
    | some fn =>
      simp only [pbodyA, bodyF_eq]
      cases bodyA R fn args [] <;> rfl
  · funext f args H
    unfold callF
    split
    · rename_i g caps
      simp only [icallA, bodyF_eq]
      cases prog g <;> rfl
    · rfl
  · funext scr b s
    simp only [loopA, runF_eq, fS_eq, clearF_eq]
    cases run R b ⟨clearA scr s.F, s.H⟩ with
    | none => rfl
    | some p => obtain ⟨e, s'⟩ := p; cases e <;> simp only [loopKF, clearF_eq]
noncomputable def fixF (prog : Nat → Option AFunc) (T : Known) : Nat → Rec
  | 0 => Rec.none
  | n + 1 => overR T (stepF prog (fixF prog T n))
theorem fixF_eq (prog : Nat → Option AFunc) (T : Known) : ∀ n, fixF prog T n = fixO prog T n
  | 0 => rfl
  | n + 1 => by rw [fixF, fixO, stepF_eq, fixF_eq prog T n]
noncomputable def runsToF (prog : Nat → Option AFunc) (T : Known) (n f : Nat) (args : List AV) (v : AV) : Bool := match (fixF prog T n).pcall f args with
  | some u => avEqF 8 u v
  | none => false
theorem runsToF_ok {prog : Nat → Option AFunc} {T : Known} (hT : ∀ e ∈ T, (lim prog).pcall e.1 e.2.1 = some e.2.2) {n f : Nat} {args : List AV} {v : AV} (h : runsToF prog T n f args v = true) : (lim prog).pcall f args = some v :=
  runsTo_ok hT (n := n) (by unfold runsToF at h; rw [fixF_eq] at h; exact h)
end Go.Abs
