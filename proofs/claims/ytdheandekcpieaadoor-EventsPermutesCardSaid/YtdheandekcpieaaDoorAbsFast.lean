/- The interpreter once more,its alternatives as functions of their own: what the kernel unfolds is small. -/
import Derived.Test.YtdheandekcpieaaDoorAbsOver
namespace Go.Abs
set_option linter.unusedVariables false
noncomputable def yAL (F : List AV) : Nat → AV := List.rec (motive := fun _ => Nat → AV) (fun _ => .any) (fun v _ ih n => Nat.casesOn (motive := fun _ => AV) n v ih) F
noncomputable def yAZ (x : AV) (F : List AV) : Nat → List AV := List.rec (motive := fun _ => Nat → List AV) (fun _ => []) (fun v F ih n => Nat.casesOn (motive := fun _ => List AV) n (x :: F) (fun m => v :: ih m)) F
theorem xRi : ∀ (F : List AV) (i : Nat),yAL F i = F.getD i .any
 | [],i => by simp [yAL]
 | v :: F,0 => rfl
 | v :: F,i + 1 => by
  show yAL F i = _
  rw [xRi F i]; simp
theorem xRj (x : AV) : ∀ (F : List AV) (i : Nat),yAZ x F i = F.set i x
 | [],i => rfl
 | v :: F,0 => rfl
 | v :: F,i + 1 => by
  show v :: yAZ x F i = _
  rw [xRj x F i]; rfl
noncomputable def xBE (F : List AV) : Arg → AV
 | .t i => yAL F i
 | .c v => v
theorem xRk : xBE = opv := by
 funext F x
 cases x with
 | t i => exact xRi F i
 | c v => rfl
noncomputable def yA0 (F : List AV) (d : Option Nat) (v : AV) : List AV := match d with
 | some d => yAZ v F d
 | none => F
theorem xRl : yA0 = putA := by
 funext F d v
 cases d with
 | none => rfl
 | some d => exact xRj v F d
noncomputable def xP2 (l : List AV) : Nat → List AV := List.rec (motive := fun _ => Nat → List AV) (fun _ => []) (fun v t ih n => Nat.casesOn (motive := fun _ => List AV) n (v :: t) ih) l
theorem xJW : ∀ (l : List AV) (n : Nat),xP2 l n = l.drop n
 | [],n => by simp [xP2]
 | v :: t,0 => rfl
 | v :: t,n + 1 => by
  show xP2 t n = _
  rw [xJW t n]; simp
def xYW (v : AV) : Option (List AV) → Option (List AV)
 | some l => some (v :: l)
 | none => none
noncomputable def xWR (l : List AV) : Nat → Option (List AV) := List.rec (motive := fun _ => Nat → Option (List AV)) (fun n => Nat.casesOn (motive := fun _ => Option (List AV)) n (some []) (fun _ => none)) (fun v t ih n => Nat.casesOn (motive := fun _ => Option (List AV)) n (some []) (fun m => xYW v (ih m))) l
theorem xN4 : ∀ (l : List AV) (n : Nat),xWR l n = if n ≤ l.length then some (l.take n) else none
 | [],0 => rfl
 | [],n + 1 => by
  show none = _
  rw [if_neg (by simp)]
 | v :: t,0 => by
  show some [] = _
  rw [if_pos (Nat.zero_le _)]; rfl
 | v :: t,n + 1 => by
  show xYW v (xWR t n) = _
  rw [xN4 t n]
  by_cases c : n ≤ t.length
  ·rw [if_pos c,if_pos (by simpa using c)]; rfl
  ·rw [if_neg c,if_neg (by simpa using c)]; rfl
noncomputable def xWS (l : List AV) : Nat := List.rec (motive := fun _ => Nat) 0 (fun _ _ n => n + 1) l
theorem xG8 : ∀ l : List AV,xWS l = l.length
 | [] => rfl
 | v :: t => by
  show xWS t + 1 = _
  rw [xG8 t]; rfl
noncomputable def rdC (cs : List AV) (off n : Nat) : Option (List AV) := match n with
 | 0 => if off ≤ xWS cs then some [] else none
 | n + 1 => xWR (xP2 cs off) (n + 1)
theorem xYX (cs : List AV) (off n : Nat) : rdC cs off n = if off + n ≤ cs.length then some ((cs.drop off).take n) else none := by
 cases n with
 | zero => rw [rdC,xG8]; rfl
 | succ n =>
  rw [rdC,xN4,xJW,List.length_drop]
  by_cases c : off + (n + 1) ≤ cs.length
  ·rw [if_pos c,if_pos (by omega)]
  ·rw [if_neg c,if_neg (by omega)]
noncomputable def rdF (H : Heap) (p : AV) (n : Nat) : Option (List AV) := match p with
 | .ptr id off => match H[id]? with
  | some (.cells _ _ cs) => rdC cs off n
  | _ => none
 | .vptr cs off => rdC cs off n
 | _ => none
theorem xYY : rdF = rd := by
 funext H p n
 cases p <;> simp only [rdF,rd,xYX]
 rename_i id off
 rcases H[id]? with _ | b
 ·rfl
 ·cases b <;> rfl
noncomputable def yA1 (vs : List AV) (cs : List AV) : Nat → List AV := List.rec (motive := fun _ => Nat → List AV) (fun _ => vs) (fun v t ih n => Nat.casesOn (motive := fun _ => List AV) n (vs ++ xP2 (v :: t) (xWS vs)) (fun m => v :: ih m)) cs
theorem xRm (vs : List AV) : ∀ (cs : List AV) (off : Nat),yA1 vs cs off = splice cs off vs
 | [],off => by
  show vs = _
  simp [splice]
 | v :: t,0 => by
  show vs ++ xP2 (v :: t) (xWS vs) = _
  rw [xJW,xG8]; simp [splice]
 | v :: t,n + 1 => by
  show v :: yA1 vs t n = _
  rw [xRm vs t n]
  simp only [splice,List.take_succ_cons,List.cons_append,show n + 1 + vs.length = (n + vs.length) + 1 by omega,List.drop_succ_cons]
noncomputable def wrF (H : Heap) (p : AV) (vs : List AV) : Option Heap := match p with
 | .ptr id off => match H[id]? with
  | some (.cells false z cs) => if off + vs.length ≤ xWS cs ∧ vs.all AV.isCell = true then some (H.set id (.cells false z (yA1 vs cs off))) else none
  | _ => none
 | _ => none
theorem xYZ : wrF = wr := by
 funext H p vs
 cases p <;> simp only [wrF,wr,xRm,xG8]
 rename_i id off
 rcases H[id]? with _ | b
 ·rfl
 ·cases b with
  | cells fz z cs => cases fz <;> rfl
  | _ => rfl
noncomputable def tkA (ys cs : List AV) : Nat → List AV := List.rec (motive := fun _ => Nat → List AV) (fun _ => ys) (fun v _ ih n => Nat.casesOn (motive := fun _ => List AV) n ys (fun m => v :: ih m)) cs
theorem xVA (ys : List AV) : ∀ (cs : List AV) (n : Nat),tkA ys cs n = cs.take n ++ ys
 | [],n => by
  show ys = _
  simp
 | v :: t,0 => rfl
 | v :: t,n + 1 => by
  show v :: tkA ys t n = _
  rw [xVA ys t n]; rfl
def xY0 (opv : List AV → Arg → AV) (R : Rec) (F : List AV) (H : Heap) (x : Arg) : Option (AV × Heap) := some (opv F x,H)
def xWT (opv : List AV → Arg → AV) (R : Rec) (F : List AV) (H : Heap) (c : Arg) (a : Arg) (b : Arg) : Option (AV × Heap) := match opv F c with
  | .bool t => some (if t then opv F a else opv F b,H)
  | _ => none
def xY1 (opv : List AV → Arg → AV) (R : Rec) (F : List AV) (H : Heap) (x : Arg) : Option (AV × Heap) := let cs := (opv F x).cells; if cs.all AV.isCell then some (.ptr H.length 0,H ++ [.cells false false cs]) else none
def xUx (opv : List AV → Arg → AV) (R : Rec) (F : List AV) (H : Heap) (z : List AV) (parts : List (Nat × Nat × Arg)) : Option (AV × Heap) :=
  (if parts.all (fun p => (opv F p.2.2).cells.length == p.2.1) then
   (fillA z (parts.map fun p => (p.1,(opv F p.2.2).cells))).map fun cs => (.agg cs,H) else none)
def xRn (opv : List AV → Arg → AV) (R : Rec) (F : List AV) (H : Heap) (fz : Bool) (z : List AV) (es : Nat) (n : Nat) (parts : List (Nat × Arg)) : Option (AV × Heap) :=
  (if parts.all (fun p => (opv F p.2).cells.length == es) then
   match fillA (xCD z n) (parts.map fun p => (p.1 * es,(opv F p.2).cells)) with
   | some cs => xDJ fz false n es cs H
   | none => none
   else none)
def xRo (opv : List AV → Arg → AV) (R : Rec) (F : List AV) (H : Heap) (z : List AV) (es : Nat) (n : Nat) (parts : List (Nat × Arg)) : Option (AV × Heap) :=
  (if parts.all (fun p => (opv F p.2).cells.length == es) then
   match fillA (xCD z n) (parts.map fun p => (p.1 * es,(opv F p.2).cells)) with
   | some cs => if cs.all xBx = true then some (.sl false n cs,H) else none
   | none => none
   else none)
noncomputable def xRp (opv : List AV → Arg → AV) (R : Rec) (F : List AV) (H : Heap) (g : Bool) (n : Nat) (p : Arg) : Option (AV × Heap) := match rdF H (opv F p) n with
  | some cs => (mkv g cs).map fun v => (v,H)
  | none => none
noncomputable def xN5 (opv : List AV → Arg → AV) (R : Rec) (F : List AV) (H : Heap) (n : Nat) (p : Arg) (v : Arg) : Option (AV × Heap) := let cs := (opv F v).cells; if cs.length = n then (wrF H (opv F p) cs).map fun H' => (.tup [],H') else none
def xRq (opv : List AV → Arg → AV) (R : Rec) (F : List AV) (H : Heap) (x : Arg) : Option (AV × Heap) := match opv F x with
  | .ptr id off => some (.ptr id off,H)
  | .vptr cs off => some (.vptr cs off,H)
  | .func f caps => some (.func f caps,H)
  | .yield l => some (.yield l,H)
  | _ => none
def xY2 (opv : List AV → Arg → AV) (R : Rec) (F : List AV) (H : Heap) (op : BinOp) (x : Arg) (y : Arg) : Option (AV × Heap) := (xDI op (opv F x) (opv F y)).map fun v => (v,H)
def xY3 (opv : List AV → Arg → AV) (R : Rec) (F : List AV) (H : Heap) (neg : Bool) (x : Arg) (y : Arg) : Option (AV × Heap) := match opv F x,opv F y with
  | .bool a,.bool b => some (.bool (if neg then a != b else a == b),H)
  | _,_ => none
def xUy (opv : List AV → Arg → AV) (R : Rec) (F : List AV) (H : Heap) (neg : Bool) (x : Arg) : Option (AV × Heap) := match opv F x with
  | .sl z _ _ => some (.bool (z != neg),H)
  | .own z _ _ _ _ => some (.bool (z != neg),H)
  | _ => none
def yA2 (opv : List AV → Arg → AV) (R : Rec) (F : List AV) (H : Heap) (op : UnOp) (x : Arg) : Option (AV × Heap) := (unA op (opv F x)).map fun v => (v,H)
def xWU (opv : List AV → Arg → AV) (R : Rec) (F : List AV) (H : Heap) (k : IntKind) (x : Arg) : Option (AV × Heap) := match opv F x with
  | .int _ n => some (.int k (k.wrap n),H)
  | _ => none
def xRr (opv : List AV → Arg → AV) (R : Rec) (F : List AV) (H : Heap) (f : Nat) (caps : List Arg) : Option (AV × Heap) := some (.func f (caps.map (opv F)),H)
def xP3 (opv : List AV → Arg → AV) (R : Rec) (F : List AV) (H : Heap) (fz : Bool) (z : List AV) (bytes : Nat) (l : Arg) (c : Arg) : Option (AV × Heap) := match opv F l,opv F c with
  | .int _ l,.int _ c => if 0 ≤ l ∧ l ≤ c ∧ c * bytes ≤ xAO ∧ c ≤ xAO ∧ z.all AV.isCell = true then xDJ fz false l.toNat z.length (xCD z l.toNat) H else none
  | _,_ => none
def xUz (opv : List AV → Arg → AV) (R : Rec) (F : List AV) (H : Heap) (es : Nat) (x : Arg) (lo : Option Arg) (hi : Option Arg) (mx : Option Arg) : Option (AV × Heap) := match opv F x with
  | .sl z n cs => if cs.length = n * es then (xA4 n (lo.map (opv F)) (hi.map (opv F)) (mx.map (opv F))).map fun (l,h) => (.sl z (h - l) ((cs.drop (l * es)).take ((h - l) * es)),H) else none
  | .own z id off n es' => if es' = es then (xA4 n (lo.map (opv F)) (hi.map (opv F)) (mx.map (opv F))).map fun (l,h) => (.own z id (off + l * es) (h - l) es,H) else none
  | _ => none
def xUA (opv : List AV → Arg → AV) (R : Rec) (F : List AV) (H : Heap) (o : Nat) (x : Arg) : Option (AV × Heap) := match opv F x with
  | .ptr id off => some (.ptr id (off + o),H)
  | .vptr cs off => some (.vptr cs (off + o),H)
  | _ => none
def xUB (opv : List AV → Arg → AV) (R : Rec) (F : List AV) (H : Heap) (g : Bool) (off : Nat) (n : Nat) (x : Arg) : Option (AV × Heap) := match opv F x with
  | .agg cs => if off + n ≤ cs.length then (mkv g ((cs.drop off).take n)).map fun v => (v,H) else none
  | _ => none
def xUC (opv : List AV → Arg → AV) (R : Rec) (F : List AV) (H : Heap) (es : Nat) (x : Arg) (i : Arg) : Option (AV × Heap) := match opv F x,xA6 (opv F i) with
  | .sl _ n cs,some i => if i < n then some (.vptr cs (i * es),H) else none
  | .own _ id off n es',some i => if i < n ∧ es' = es then some (.ptr id (off + i * es),H) else none
  | _,_ => none
def xY4 (opv : List AV → Arg → AV) (R : Rec) (F : List AV) (H : Heap) (i : Nat) (x : Arg) : Option (AV × Heap) := match opv F x with
  | .tup vs => (vs[i]?).map fun v => (v,H)
  | _ => none
def xY5 (opv : List AV → Arg → AV) (R : Rec) (F : List AV) (H : Heap) (x : Arg) : Option (AV × Heap) := match opv F x with
  | .sl _ n _ => some (.int .i64 n,H)
  | .own _ _ _ n _ => some (.int .i64 n,H)
  | _ => none
def xY6 (opv : List AV → Arg → AV) (R : Rec) (F : List AV) (H : Heap) (x : Arg) : Option (AV × Heap) := match opv F x with
  | .sl true _ _ => some (.int .i64 0,H)
  | _ => none
def xY7 (opv : List AV → Arg → AV) (R : Rec) (F : List AV) (H : Heap) (neg : Bool) (n : Nat) (x : Arg) (y : Arg) : Option (AV × Heap) := match opv F x,opv F y with
  | .agg cs,.agg ds => if cs.length = n then (xBQ cs ds).map fun b => (.bool (b != neg),H) else none
  | _,_ => none
noncomputable def xK3 (opv : List AV → Arg → AV) (R : Rec) (F : List AV) (H : Heap) (fz : Bool) (es : Nat) (bytes : Nat) (x : Arg) (y : Arg) : Option (AV × Heap) := match src H es (opv F y) with
  | none => none
  | some (m,ys) => match opv F x with
   | .sl true _ _ => if m * bytes ≤ xAO ∧ m ≤ xAO then xDJ fz (m == 0) m es ys H else none
   | .own z id off n es' => match H[id]? with
    | some (.cells false _ cs) => if off = 0 ∧ es' = es ∧ n * es ≤ xWS cs ∧ (n + m) * bytes ≤ xAO ∧ n + m ≤ xAO then
      some (.own (z && m == 0) H.length 0 (n + m) es,H.set id .dead ++ [.cells false (z && m == 0) (tkA ys cs (n * es))]) else none
    | _ => none
   | _ => none
def xP4 (opv : List AV → Arg → AV) (R : Rec) (F : List AV) (H : Heap) (z : List AV) (bytes : Nat) (x : Arg) (n : Arg) : Option (AV × Heap) := match xA6 (opv F n),opv F x with
  | some m,.sl true _ _ => if m * bytes ≤ xAO ∧ m ≤ xAO ∧ z.all AV.isCell = true then xDJ false (m == 0) m z.length (xCD z m) H else none
  | some m,.own false id off k es' => match H[id]? with
   | some (.cells false _ cs) => if off = 0 ∧ es' = z.length ∧ k * z.length ≤ cs.length ∧ (k + m) * bytes ≤ xAO ∧ k + m ≤ xAO ∧ 0 < m ∧ z.all AV.isCell = true then
     some (.own false H.length 0 (k + m) z.length,H.set id .dead ++ [.cells false false (cs.take (k * z.length) ++ xCD z m)]) else none
   | _ => none
  | _,_ => none
def xP5 (opv : List AV → Arg → AV) (R : Rec) (F : List AV) (H : Heap) (es : Nat) (bytes : Nat) (x : Arg) (y : Arg) : Option (AV × Heap) := match xET H with
  | none => none
  | some h => (appB H es bytes (opv F x) (opv F y)).map fun r => (.own r.1 h 0 r.2.1 es,(xBD r.2.2.2 H).set h (.cells false r.1 r.2.2.1))
def xWV (opv : List AV → Arg → AV) (R : Rec) (F : List AV) (H : Heap) (_u0 : Nat) (_u1 : Arg) (_u2 : Arg) : Option (AV × Heap) := none
def xWW (opv : List AV → Arg → AV) (R : Rec) (F : List AV) (H : Heap) (x : Arg) (y : Arg) : Option (AV × Heap) := match opv F x,opv F y with
  | .int k a,.int _ b => some (.int k (if b > a then b else a),H)
  | _,_ => none
def xWX (opv : List AV → Arg → AV) (R : Rec) (F : List AV) (H : Heap) (x : Arg) (y : Arg) : Option (AV × Heap) := match opv F x,opv F y with
  | .int k a,.int _ b => some (.int k (if b < a then b else a),H)
  | _,_ => none
def xWY (opv : List AV → Arg → AV) (R : Rec) (F : List AV) (H : Heap) (f : Nat) (args : List Arg) : Option (AV × Heap) := xBr R f (args.map (opv F)) H
def xUD (opv : List AV → Arg → AV) (R : Rec) (F : List AV) (H : Heap) (f : Arg) (args : List Arg) : Option (AV × Heap) := R.icall (opv F f) (args.map (opv F)) H
def xUE (opv : List AV → Arg → AV) (R : Rec) (F : List AV) (H : Heap) (f : Arg) (args : List Arg) : Option (AV × Heap) := match opv F f with
  | .func g caps => xBr R g (args.map (opv F) ++ caps) H
  | _ => none
def xY8 (opv : List AV → Arg → AV) (R : Rec) (F : List AV) (H : Heap) (g : Bool) (es : Nat) (len : Nat) (x : Arg) (i : Arg) : Option (AV × Heap) := match opv F x,xA6 (opv F i) with
  | .agg cs,some j => if j < len ∧ j * es + es ≤ cs.length then (mkv g ((cs.drop (j * es)).take es)).map fun v => (v,H) else none
  | _,_ => none
def xUF (opv : List AV → Arg → AV) (R : Rec) (F : List AV) (H : Heap) (es : Nat) (len : Nat) (x : Arg) (i : Arg) : Option (AV × Heap) := match opv F x,xA6 (opv F i) with
  | .ptr id off,some j => if j < len then some (.ptr id (off + j * es),H) else none
  | .vptr cs off,some j => if j < len then some (.vptr cs (off + j * es),H) else none
  | _,_ => none
def xWZ (opv : List AV → Arg → AV) (R : Rec) (F : List AV) (H : Heap) (b : Nat) (es : Nat) (len : Nat) (i : Arg) : Option (AV × Heap) := match xUs b,xA6 (opv F i) with
  | some cs,some j => if j < len then some (.vptr cs (j * es),H) else none
  | _,_ => none
def xW0 (opv : List AV → Arg → AV) (R : Rec) (F : List AV) (H : Heap) (x : Arg) (i : Arg) : Option (AV × Heap) := match opv F x,xA6 (opv F i) with
  | .str s,some j => (s[j]?).map fun b => (.int .u8 b.toNat,H)
  | _,_ => none
def xW1 (opv : List AV → Arg → AV) (R : Rec) (F : List AV) (H : Heap) (x : Arg) : Option (AV × Heap) := match opv F x with
  | .str s => some (.int .i64 s.size,H)
  | _ => none
def yA3 (opv : List AV → Arg → AV) (R : Rec) (F : List AV) (H : Heap) (mx : Bool) (xs : List Arg) : Option (AV × Heap) := match xs.map (opv F) with
  | [] => none
  | x :: r => (mmA mx x r).map fun v => (v,H)
def xRs (opv : List AV → Arg → AV) (R : Rec) (F : List AV) (H : Heap) (x : Arg) (lo : Option Arg) (hi : Option Arg) : Option (AV × Heap) := match opv F x with
  | .str s => (xA4 s.size (lo.map (opv F)) (hi.map (opv F)) none).map fun (l,h) => (.str (s.extract l h),H)
  | _ => none
def xW2 (opv : List AV → Arg → AV) (R : Rec) (F : List AV) (H : Heap) (neg : Bool) (x : Arg) (y : Arg) : Option (AV × Heap) := match opv F x,opv F y with
  | .str s,.str t => some (.bool ((s.toList == t.toList) != neg),H)
  | _,_ => none
def xP6 (opv : List AV → Arg → AV) (R : Rec) (F : List AV) (H : Heap) (f : Nat) (first : List Arg) : Option (AV × Heap) := some (.bfunc f (first.map (opv F)),H)
def xUG (opv : List AV → Arg → AV) (R : Rec) (F : List AV) (H : Heap) (f : Arg) (args : List Arg) : Option (AV × Heap) := match opv F f with
  | .bfunc g first => R.icall (.func g []) (first ++ args.map (opv F)) H
  | _ => none
def xUH (opv : List AV → Arg → AV) (R : Rec) (F : List AV) (H : Heap)  : Option (AV × Heap) := some (.mp H.length,H ++ [.mp []])
def xUI (opv : List AV → Arg → AV) (R : Rec) (F : List AV) (H : Heap) (ks : List Nat) (comma : Bool) (z : AV) (x : Arg) (k : Arg) : Option (AV × Heap) := if xBl ks (opv F k) then match xT0 H (opv F x) with
  | none => none
  | some es => match xH2 (opv F k) es with
   | none => none
   | some none => some (if comma then .tup [z,.bool false] else z,H)
   | some (some v) => some (if comma then .tup [v,.bool true] else v,H)
  else none
def xW3 (opv : List AV → Arg → AV) (R : Rec) (F : List AV) (H : Heap) (ks : List Nat) (z : AV) (m : Arg) (k : Arg) : Option (AV × Heap) := if xBl ks (opv F k) then match opv F m with
  | .mp id => match H[id]? with
   | some (.mp es) => (xQX (opv F k) z es 0).map fun r => (.tup [r.1,.int .i64 (r.2.1 : Nat)],H.set id (.mp r.2.2))
   | _ => none
  | _ => none
  else none
def xRt (opv : List AV → Arg → AV) (R : Rec) (F : List AV) (H : Heap) (m : Arg) (s : Arg) (v : Arg) : Option (AV × Heap) := match opv F m,opv F s with
  | .mp id,.int .i64 n => match H[id]? with
   | some (.mp es) => if 0 ≤ n then (es[n.toNat]?).map fun e => (.tup [],H.set id (.mp (es.set n.toNat (e.1,opv F v)))) else none
   | _ => none
  | _,_ => none
def xW4 (opv : List AV → Arg → AV) (R : Rec) (F : List AV) (H : Heap) (ks : List Nat) (m : Arg) (k : Arg) (v : Arg) : Option (AV × Heap) := if xBl ks (opv F k) then match opv F m with
  | .mp id => match H[id]? with
   | some (.mp es) => (xUt (opv F k) (opv F v) es).map fun es' => (.tup [],H.set id (.mp es'))
   | _ => none
  | _ => none
  else none
def xW5 (opv : List AV → Arg → AV) (R : Rec) (F : List AV) (H : Heap) (x : Arg) : Option (AV × Heap) := (xT0 H (opv F x)).map fun es => (.int .i64 es.length,H)
def xW6 (opv : List AV → Arg → AV) (R : Rec) (F : List AV) (H : Heap) (neg : Bool) (x : Arg) : Option (AV × Heap) := match opv F x with
  | .nilm => some (.bool (true != neg),H)
  | .mp _ => some (.bool (false != neg),H)
  | _ => none
def xW7 (opv : List AV → Arg → AV) (R : Rec) (F : List AV) (H : Heap) (neg : Bool) (x : Arg) : Option (AV × Heap) := match opv F x with
  | .ptr _ _ => some (.bool (false != neg),H)
  | .nilp => some (.bool (true != neg),H)
  | _ => none
def xRu (opv : List AV → Arg → AV) (R : Rec) (F : List AV) (H : Heap) (fz : Bool) (x : Arg) : Option (AV × Heap) := match opv F x with
  | .str s => xDJ fz false s.size 1 (xCh s) H
  | _ => none
def xW8 (opv : List AV → Arg → AV) (R : Rec) (F : List AV) (H : Heap) (x : Arg) : Option (AV × Heap) := match src H 1 (opv F x) with
  | some (_,cs) => (xQY cs).map fun bs => (.str ⟨⟨bs⟩⟩,H)
  | none => none
def xW9 (opv : List AV → Arg → AV) (R : Rec) (F : List AV) (H : Heap) (x : Arg) (y : Arg) : Option (AV × Heap) := match opv F x,opv F y with
  | .str s,.str t => if s.size + t.size ≤ 9223372036854775807 then some (.str ⟨⟨s.data.toList ++ t.data.toList⟩⟩,H) else none
  | _,_ => none
def xUJ (opv : List AV → Arg → AV) (R : Rec) (F : List AV) (H : Heap) (f : Nat) (args : List Arg) : Option (AV × Heap) := match (args.map (opv F)).mapM (frz frzN H) with
  | none => none
  | some args' => match xCv R f args' with
   | none => none
   | some (v,B) => some (xBM H.length v,fzIds H ((args.map (opv F)).flatMap (bor frzN H)) ++ B)
def xRv (opv : List AV → Arg → AV) (R : Rec) (F : List AV) (H : Heap) (f : Nat) (args : List Arg) : Option (AV × Heap) := match (args.map (opv F)).mapM (frz frzN H) with
  | none => none
  | some args' => match xB5 R f args' with
   | none => none
   | some (v,B) => some (xBM H.length v,fzIds H ((args.map (opv F)).flatMap (bor frzN H)) ++ B.map (xB0 H.length))
noncomputable def xJX (R : Rec) (F : List AV) (H : Heap) : AOp → Option (AV × Heap)
 | .mov x => xY0 xBE R F H x
 | .pick c a b => xWT xBE R F H c a b
 | .box x => xY1 xBE R F H x
 | .build z parts => xUx xBE R F H z parts
 | .bslice fz z es n parts => xRn xBE R F H fz z es n parts
 | .dslice z es n parts => xRo xBE R F H z es n parts
 | .load g n p => xRp xBE R F H g n p
 | .store n p v => xN5 xBE R F H n p v
 | .nilchk x => xRq xBE R F H x
 | .bin op x y => xY2 xBE R F H op x y
 | .beq neg x y => xY3 xBE R F H neg x y
 | .isnil neg x => xUy xBE R F H neg x
 | .un op x => yA2 xBE R F H op x
 | .conv k x => xWU xBE R F H k x
 | .mkfunc f caps => xRr xBE R F H f caps
 | .mkslice fz z bytes l c => xP3 xBE R F H fz z bytes l c
 | .slice es x lo hi mx => xUz xBE R F H es x lo hi mx
 | .faddr o x => xUA xBE R F H o x
 | .field g off n x => xUB xBE R F H g off n x
 | .iaddr es x i => xUC xBE R F H es x i
 | .ext i x => xY4 xBE R F H i x
 | .len x => xY5 xBE R F H x
 | .cap x => xY6 xBE R F H x
 | .aeq neg n x y => xY7 xBE R F H neg n x y
 | .append fz es bytes x y => xK3 xBE R F H fz es bytes x y
 | .appendz z bytes x n => xP4 xBE R F H z bytes x n
 | .appendh es bytes x y => xP5 xBE R F H es bytes x y
 | .copy _u0 _u1 _u2 => xWV xBE R F H _u0 _u1 _u2
 | .maxi x y => xWW xBE R F H x y
 | .mini x y => xWX xBE R F H x y
 | .call f args => xWY xBE R F H f args
 | .icall f args => xUD xBE R F H f args
 | .fcall f args => xUE xBE R F H f args
 | .idx g es len x i => xY8 xBE R F H g es len x i
 | .arrat es len x i => xUF xBE R F H es len x i
 | .garr b es len i => xWZ xBE R F H b es len i
 | .sidx x i => xW0 xBE R F H x i
 | .slen x => xW1 xBE R F H x
 | .mm mx xs => yA3 xBE R F H mx xs
 | .sslice x lo hi => xRs xBE R F H x lo hi
 | .sbeq neg x y => xW2 xBE R F H neg x y
 | .mkbound f first => xP6 xBE R F H f first
 | .bcall f args => xUG xBE R F H f args
 | .mkmap  => xUH xBE R F H 
 | .mlook ks comma z x k => xUI xBE R F H ks comma z x k
 | .ment ks z m k => xW3 xBE R F H ks z m k
 | .mstore m s v => xRt xBE R F H m s v
 | .mupd ks m k v => xW4 xBE R F H ks m k v
 | .mlen x => xW5 xBE R F H x
 | .mnil neg x => xW6 xBE R F H neg x
 | .pnil neg x => xW7 xBE R F H neg x
 | .sbytes fz x => xRu xBE R F H fz x
 | .bstr x => xW8 xBE R F H x
 | .sadd x y => xW9 xBE R F H x y
 | .ocall f args => xUJ xBE R F H f args
 | .ocallw f args => xRv xBE R F H f args
theorem xIs (R : Rec) (F : List AV) (H : Heap) (op : AOp) : xJX R F H op = xAa R F H op := by
 cases op <;> simp only [xJX,xRk] <;> first | rfl | (simp only [xRp,xYY]; rfl) | (simp only [xN5,xYZ]; rfl) | (simp only [xK3,xG8,xVA]; rfl)
def fN {α : Type} (a : Nat) (k : Nat → α) : α := match a with
 | 0 => k 0
 | n + 1 => k (n + 1)
theorem xY9 {α : Type} (a : Nat) (k : Nat → α) : fN a k = k a := by cases a <;> rfl
def fI {α : Type} (x : Int) (k : Int → α) : α := match x with
 | .ofNat a => fN a fun a => k (.ofNat a)
 | .negSucc a => fN a fun a => k (.negSucc a)
theorem yA4 {α : Type} (x : Int) (k : Int → α) : fI x k = k x := by cases x <;> simp only [fI,xY9]
def fBo {α : Type} (x : Bool) (k : Bool → α) : α := match x with
 | true => k true
 | false => k false
theorem xZa {α : Type} (x : Bool) (k : Bool → α) : fBo x k = k x := by cases x <;> rfl
def fV {α : Type} (v : AV) (k : AV → α) : α := match v with
 | .int kd n => fI n fun n => k (.int kd n)
 | .bool b => fBo b fun b => k (.bool b)
 | .ptr i o => fN i fun i => fN o fun o => k (.ptr i o)
 | .own z i o n e => fBo z fun z => fN i fun i => fN o fun o => fN n fun n => fN e fun e => k (.own z i o n e)
 | .sl z n cs => fN n fun n => k (.sl z n cs)
 | v => k v
theorem xXa {α : Type} (v : AV) (k : AV → α) : fV v k = k v := by
 cases v <;> simp only [fV,yA4,xZa,xY9]
noncomputable def fS {α : Type} (l : List AV) : (List AV → α) → α := List.rec (motive := fun _ => (List AV → α) → α) (fun k => k []) (fun v _ ih k => ih fun vs => k (v :: vs)) l
theorem xUK {α : Type} : ∀ (l : List AV) (k : List AV → α),fS l k = k l
 | [],k => rfl
 | v :: vs,k => by
  show fS vs (fun vs => k (v :: vs)) = _
  rw [xUK vs]
def fL {α : Type} : List AV → (List AV → α) → α
 | [],k => k []
 | v :: vs,k => fV v fun v => fL vs fun vs => k (v :: vs)
theorem xZb {α : Type} : ∀ (l : List AV) (k : List AV → α),fL l k = k l
 | [],k => rfl
 | v :: vs,k => by rw [fL,xXa,xZb vs]
def fB {α : Type} (b : Blk) (k : Blk → α) : α := match b with
 | .cells fz z cs => fL cs fun cs => k (.cells fz z cs)
 | b => k b
theorem yA5 {α : Type} (b : Blk) (k : Blk → α) : fB b k = k b := by
 cases b <;> first | rfl | simp only [fB,xZb]
noncomputable def fAt {α : Type} (l : List Blk) : Nat → (List Blk → α) → α := List.rec (motive := fun _ => Nat → (List Blk → α) → α) (fun _ k => k []) (fun b bs ih n k => Nat.casesOn (motive := fun _ => α) n (fB b fun b => k (b :: bs)) (fun m => ih m fun bs => k (b :: bs))) l
theorem xVB {α : Type} : ∀ (l : List Blk) (n : Nat) (k : List Blk → α),fAt l n k = k l
 | [],n,k => rfl
 | b :: bs,0,k => by
  show fB b (fun b => k (b :: bs)) = _
  rw [yA5]
 | b :: bs,n + 1,k => by
  show fAt bs n (fun bs => k (b :: bs)) = _
  rw [xVB bs]
noncomputable def yCS (l : List Blk) : Nat := List.rec (motive := fun _ => Nat) 0 (fun _ _ n => n + 1) l
noncomputable def yA6 (F : List AV) (H : List Blk) : AOp → Nat
 | .store _ p _ => match xBE F p with
  | .ptr id _ => id
  | _ => 0
 | _ => yCS H
def xZc : AOp → Bool
 | .mov _ | .pick .. | .bin .. | .beq .. | .aeq .. | .un .. | .conv .. | .ext .. | .faddr .. | .field .. | .iaddr .. | .len _ | .cap _ | .isnil .. | .maxi .. | .mini .. | .nilchk _ | .mkfunc .. | .slice .. | .idx .. | .arrat .. | .garr .. | .sidx .. | .slen .. | .mm .. | .sslice .. | .sbeq .. | .mkbound .. | .load .. | .build .. | .mlook .. | .mlen _ | .mnil .. | .pnil .. => true
 | _ => false
noncomputable def xXb (d : Option Nat) (F : List AV) (keep : Bool) (sp : Nat) : Option (AV × Heap) → Option St
 | some (v,H) => fV v fun v => fS (yA0 F d v) fun F => if keep then some ⟨F,H⟩ else fAt H sp fun H => some ⟨F,H⟩
 | none => none
theorem xUL (d : Option Nat) (F : List AV) (keep : Bool) (sp : Nat) (x : Option (AV × Heap)) : xXb d F keep sp x = x.map fun (v,H) => ⟨putA F d v,H⟩ := by
 cases x with
 | none => rfl
 | some p =>
  obtain ⟨v,H⟩ := p
  simp only [xXb,xXa,xUK,xVB,ite_self,xRl]
  rfl
def xZd (o : AOper) (s : St) (r : Option St) : Option Bool → Option St
 | none => none
 | some false => some ⟨putA s.F o.dst (.tup []),s.H⟩
 | some true => r
noncomputable def xEW (R : Rec) (o : AOper) (s : St) : Option St := xZd o s (xXb o.dst s.F (xZc o.op) (yA6 s.F s.H o.op) (xJX R s.F s.H o.op)) (xBt s.F o.guard)
theorem xK4 (R : Rec) (o : AOper) (s : St) : xEW R o s = xAy R o s := by
 unfold xEW xAy
 rw [xIs,xUL]
 split <;> rename_i e <;> rw [e] <;> rfl
noncomputable def xUM (k : St → Option St) : Option St → Option St
 | some s => k s
 | none => none
noncomputable def xEs (R : Rec) (ops : List AOper) : St → Option St := List.rec (motive := fun _ => St → Option St) (fun s => some s) (fun o _ ih s => xUM ih (xEW R o s)) ops
theorem xD1 (R : Rec) : ∀ (ops : List AOper) (s : St),xEs R ops s = xAp R ops s
 | [],s => rfl
 | o :: rest,s => by
  show xUM (xEs R rest) (xEW R o s) = _
  simp only [xAp,xK4]
  cases xAy R o s with
  | none => rfl
  | some s' => exact xD1 R rest s'
def xXc : AOp → Bool
 | .call .. | .fcall .. | .append .. | .box .. | .bslice .. | .mkslice .. | .appendz .. | .appendh .. | .copy .. | .icall .. | .bcall .. | .store .. | .ocall .. | .ocallw .. | .mkmap | .mupd .. | .ment .. | .mstore .. | .sbytes .. => true
 | _ => false
noncomputable def xM5 (R : Rec) (F : List AV) (H : Heap) (op : AOp) : Option AV := if xXc op then xAr R F H op else (xJX R F H op).map (·.1)
theorem xP7 (R : Rec) (F : List AV) (H : Heap) (op : AOp) : xM5 R F H op = xAr R F H op := by
 unfold xM5
 rw [xIs]
 cases op <;> rfl
noncomputable def frF (d : Option Nat) (s : St) : Option AV → Option St
 | some v => fV v fun v => fS (yA0 s.F d v) fun F => some ⟨F,s.H⟩
 | none => none
theorem xZe (d : Option Nat) (s : St) (x : Option AV) : frF d s x = x.map fun v => ⟨putA s.F d v,s.H⟩ := by
 cases x with
 | none => rfl
 | some v => simp only [frF,xXa,xUK,xRl]; rfl
noncomputable def xEX (R : Rec) (o : AOper) (s : St) : Option St := xZd o s (frF o.dst s (xM5 R s.F s.H o.op)) (xBt s.F o.guard)
theorem xK5 (R : Rec) (o : AOper) (s : St) : xEX R o s = xAG R o s := by
 unfold xEX xAG
 rw [xP7,xZe]
 split <;> rename_i e <;> rw [e] <;> rfl
noncomputable def xJY (R : Rec) (ops : List AOper) : St → Option St := List.rec (motive := fun _ => St → Option St) (fun s => some s) (fun o _ ih s => xUM ih (xEX R o s)) ops
theorem xG9 (R : Rec) : ∀ (ops : List AOper) (s : St),xJY R ops s = xAU R ops s
 | [],s => rfl
 | o :: rest,s => by
  show xUM (xJY R rest) (xEX R o s) = _
  simp only [xAU,xK5]
  cases xAG R o s with
  | none => rfl
  | some s' => exact xG9 R rest s'
noncomputable def yCm (k : St → Option (AExit × St)) : Option (AExit × St) → Option (AExit × St)
 | some (.normal,s') => k s'
 | r => r
noncomputable def xZf (x y : Option (AExit × St)) : AV → Option (AExit × St)
 | .bool t => if t then x else y
 | _ => none
def xVC (id : Nat) : Option (AExit × St) → Option (AExit × St)
 | some (.exit i,s') => if i = id then some (.normal,s') else some (.exit i,s')
 | r => r
def yAM : Option St → Option (AExit × St)
 | some s => some (.normal,s)
 | none => none
noncomputable def xXd (R : Rec) (m : Nat) (ops : List AOper) (s : St) : Option (AExit × St) := match xJY R (ops.take m) s with
 | none => none
 | some s1 => yAM (xEs R (ops.drop m) (adopt (ops.take m) s1))
def yCn (i : Nat) (k : AV → Option (AExit × St)) : Option AV → Option (AExit × St)
 | some v => k v
 | none => none
noncomputable def xUN (R : Rec) (c : ACode) : St → Option (AExit × St) :=
 ACode.rec (motive := fun _ => St → Option (AExit × St))
  (fun s => some (.normal,s)) (fun ops s => yAM (xEs R ops s)) (fun m ops s => xXd R m ops s) (fun ls m ops s => run R (.drawl ls m ops) s)
  (fun als ls m ops s => run R (.drawp als ls m ops) s) (fun hs als ls m ops s => run R (.drawh hs als ls m ops) s) (fun σ als ls m ops s => run R (.drawt σ als ls m ops) s) (fun _ ih s => ih ⟨s.F,s.H ++ [.cells true true []]⟩)
  (fun ss _ ih s => ih ⟨s.F,fzIds s.H (ss.flatMap fun i => bor frzN s.H (s.F.getD i .any))⟩) (fun i _ ih s => yCn i (fun v => ih ⟨s.F.set i v,fzIds s.H (bor frzN s.H (s.F.getD i .any))⟩) (frz frzN s.H (s.F.getD i .any))) (fun _ _ iha ihb s => yCm ihb (iha s)) (fun c _ _ iha ihb s => xZf (iha s) (ihb s) (xBE s.F c))
  (fun id _ ih s => xVC id (ih s)) (fun scr b _ s => R.loop scr b s) (fun f ps asg body _ _ s => run R (.range f ps asg body) s) (fun id s => some (.exit id,s)) (fun _ ih s => ih s)
  (fun s => some (.normal,s)) (fun s => some (.ret,s)) (fun _ => none) c
theorem xRw (x : Option St) : yAM x = x.map fun s' => (.normal,s') := by cases x <;> rfl
theorem xM6 (R : Rec) (c : ACode) : ∀ s,xUN R c s = run R c s := by
 induction c <;> intro s
 case region ops => show yAM (xEs R ops s) = _; simp only [run,xD1,xRw]
 case draw m ops =>
  show xXd R m ops s = _
  simp only [run,xXd,xG9,xD1,xRw]
  cases xAU R (ops.take m) s <;> rfl
 case seq a b iha ihb =>
  show yCm (xUN R b) (xUN R a s) = _
  simp only [run,iha]
  cases run R a s with
  | none => rfl
  | some p =>
   obtain ⟨e,s'⟩ := p
   cases e with
   | normal => exact ihb s'
   | exit i => rfl
   | ret => rfl
 case cond c a b iha ihb =>
  show xZf (xUN R a s) (xUN R b s) (xBE s.F c) = _
  simp only [run,iha,ihb,xRk]
  cases opv s.F c <;> rfl
 case block id b ih =>
  show xVC id (xUN R b s) = _
  simp only [run,ih]
  cases run R b s with
  | none => rfl
  | some p => obtain ⟨e,s'⟩ := p; cases e <;> rfl
 case scope b ih => exact ih s
 case fz ss b ih => exact ih _
 case hole b ih => exact ih _
 case fzs i b ih =>
  show yCn i _ _ = _
  simp only [run]
  cases frz frzN s.H (s.F.getD i .any) with
  | none => rfl
  | some v => exact ih _
 all_goals rfl
def yCT (fn : AFunc) : Option (AExit × St) → Option (AV × Heap)
 | some (.normal,s) | some (.ret,s) => (xAR fn.results s).map fun v => (v,s.H)
 | _ => none
noncomputable def xUO (R : Rec) (fn : AFunc) (args : List AV) (H : Heap) : Option (AV × Heap) := yCT fn (xUN R fn.code (xKV fn args H))
theorem xN6 (R : Rec) (fn : AFunc) (args : List AV) (H : Heap) : xUO R fn args H = xAX R fn args H := by
 unfold xUO xAX
 rw [xM6]
 cases run R fn.code (xKV fn args H) with
 | none => rfl
 | some p => obtain ⟨e,s'⟩ := p; cases e <;> rfl
def yCU : Option (AV × Heap) → Option AV
 | some (r,H') => frz frzN H' r
 | none => Option.none
def xHa : List AV → Nat → List Nat → List AV
 | [],_,_ => []
 | v :: F,_,[] => v :: F
 | v :: F,i,s :: scr => if s = i then .any :: xHa F (i + 1) scr else v :: xHa F (i + 1) (s :: scr)
def asc : List Nat → Nat → Bool
 | [],_ => true
 | s :: r,lo => decide (lo ≤ s) && asc r (s + 1)
theorem xVD : ∀ {scr : List Nat} {lo : Nat},asc scr lo = true → ∀ s ∈ scr,lo ≤ s
 | [],_,_,s,h => by cases h
 | s0 :: r,lo,h,s,hs => by
  simp only [asc,Bool.and_eq_true,decide_eq_true_eq] at h
  rcases List.mem_cons.1 hs with rfl | hs
  ·exact h.1
  ·have := xVD h.2 s hs; omega
theorem xXe : ∀ {scr : List Nat} {lo lo' : Nat},asc scr lo = true → (∀ s ∈ scr,lo' ≤ s) → asc scr lo' = true
 | [],_,_,_,_ => rfl
 | s0 :: r,lo,lo',h,hl => by
  simp only [asc,Bool.and_eq_true,decide_eq_true_eq] at h ⊢
  exact ⟨hl s0 (by simp),h.2⟩
theorem xFs : ∀ (F : List AV) (i : Nat) (scr : List Nat),asc scr i = true → ∀ j,(xHa F i scr)[j]? = if i + j ∈ scr then (F[j]?).map (fun _ => AV.any) else F[j]?
 | [],i,scr,h,j => by simp [xHa]
 | v :: F,i,[],h,j => by simp [xHa]
 | v :: F,i,s :: scr,h,j => by
  have h' := h
  simp only [asc,Bool.and_eq_true,decide_eq_true_eq] at h'
  unfold xHa
  by_cases e : s = i
  ·subst e
   rw [if_pos rfl]
   cases j with
   | zero => simp
   | succ j =>
    rw [List.getElem?_cons_succ,xFs F (s + 1) scr h'.2 j,List.getElem?_cons_succ]
    have : (s + 1 + j ∈ scr) ↔ (s + (j + 1) ∈ s :: scr) := by
     rw [show s + (j + 1) = s + 1 + j by omega,List.mem_cons]
     exact ⟨.inr,fun q => q.elim (fun q => by omega) id⟩
    simp only [this]
  ·rw [if_neg e]
   have hm : ∀ x ∈ s :: scr,i + 1 ≤ x := fun x hx => by
    rcases List.mem_cons.1 hx with rfl | hx
    ·omega
    ·have := xVD h'.2 x hx; omega
   cases j with
   | zero =>
    have : ¬ (i + 0 ∈ s :: scr) := fun q => by have := hm _ q; omega
    rw [if_neg this]; rfl
   | succ j =>
    rw [List.getElem?_cons_succ,xFs F (i + 1) (s :: scr) (xXe h hm) j,List.getElem?_cons_succ]
    simp only [show i + (j + 1) = i + 1 + j by omega]
def xN7 (scr : List Nat) (F : List AV) : List AV := if asc scr 0 then xHa F 0 scr else xAu scr F
theorem xK6 (scr : List Nat) (F : List AV) : xN7 scr F = xAu scr F := by
 unfold xN7
 split
 ·rename_i h
  apply List.ext_getElem?
  intro j
  rw [xFs F 0 scr h j,xD2]
  simp only [Nat.zero_add]
 ·rfl
noncomputable def xVE (R : Rec) (scr : List Nat) (b : ACode) : Option (AExit × St) → Option (AExit × St)
 | some (.normal,s') => R.loop scr b s'
 | some (e,s') => some (e,⟨xN7 scr s'.F,s'.H⟩)
 | none => none
noncomputable def xZg (prog : Nat → Option AFunc) (R : Rec) (args : List AV) (H : Heap) : AV → Option (AV × Heap)
 | .func f caps => match prog f with
  | some fn => xUO R fn (args ++ caps) H
  | none => Option.none
 | f => xCP prog R f args H
noncomputable def xXf (prog : Nat → Option AFunc) (R : Rec) : Rec where
 pcall f args := match prog f with
  | some fn => yCU (xUO R fn args [])
  | none => primA f args
 icall f args H := xZg prog R args H f
 loop scr b s := fS (xN7 scr s.F) fun F => xVE R scr b (xUN R b ⟨F,s.H⟩)
theorem xUP (prog : Nat → Option AFunc) (R : Rec) : xXf prog R = xCE prog R := by
 unfold xXf xCE
 congr 1
 ·funext f args
  cases prog f with
  | none => rfl
  | some fn =>
   simp only [xAz,xN6]
   cases xAX R fn args [] <;> rfl
 ·funext f args H
  unfold xZg
  split
  ·rename_i g caps
   simp only [xCP,xN6]
   cases prog g <;> rfl
  ·rfl
 ·funext scr b s
  simp only [xG2,xM6,xUK,xK6]
  cases run R b ⟨xAu scr s.F,s.H⟩ with
  | none => rfl
  | some p => obtain ⟨e,s'⟩ := p; cases e <;> simp only [xVE,xK6]
noncomputable def xZh (prog : Nat → Option AFunc) (T : xRy) : Nat → Rec
 | 0 => Rec.none
 | n + 1 => xXg T (xXf prog (xZh prog T n))
theorem xRx (prog : Nat → Option AFunc) (T : xRy) : ∀ n,xZh prog T n = xZj prog T n
 | 0 => rfl
 | n + 1 => by rw [xZh,xZj,xUP,xRx prog T n]
end Go.Abs
