/- The interpreter once more,its alternatives as functions of their own: what the kernel unfolds is small. -/
import Derived.Test.YtkpbekcgigigkaaDoorAbsOver
namespace Go.Abs
set_option linter.unusedVariables false
noncomputable def yF9 (F : List AV) : Nat → AV := List.rec (motive := fun _ => Nat → AV) (fun _ => .any) (fun v _ ih n => Nat.casesOn (motive := fun _ => AV) n v ih) F
noncomputable def yGJ (x : AV) (F : List AV) : Nat → List AV := List.rec (motive := fun _ => Nat → List AV) (fun _ => []) (fun v F ih n => Nat.casesOn (motive := fun _ => List AV) n (x :: F) (fun m => v :: ih m)) F
theorem xXy : ∀ (F : List AV) (i : Nat),yF9 F i = F.getD i .any
 | [],i => by simp [yF9]
 | v :: F,0 => rfl
 | v :: F,i + 1 => by
  show yF9 F i = _
  rw [xXy F i]; simp
theorem xXz (x : AV) : ∀ (F : List AV) (i : Nat),yGJ x F i = F.set i x
 | [],i => rfl
 | v :: F,0 => rfl
 | v :: F,i + 1 => by
  show v :: yGJ x F i = _
  rw [xXz x F i]; rfl
noncomputable def xCe (F : List AV) : Arg → AV
 | .t i => yF9 F i
 | .c v => v
theorem xXA : xCe = opv := by
 funext F x
 cases x with
 | t i => exact xXy F i
 | c v => rfl
noncomputable def yGK (F : List AV) (d : Option Nat) (v : AV) : List AV := match d with
 | some d => yGJ v F d
 | none => F
theorem xXB : yGK = putA := by
 funext F d v
 cases d with
 | none => rfl
 | some d => exact xXz v F d
noncomputable def xUy (l : List AV) : Nat → List AV := List.rec (motive := fun _ => Nat → List AV) (fun _ => []) (fun v t ih n => Nat.casesOn (motive := fun _ => List AV) n (v :: t) ih) l
theorem xMS : ∀ (l : List AV) (n : Nat),xUy l n = l.drop n
 | [],n => by simp [xUy]
 | v :: t,0 => rfl
 | v :: t,n + 1 => by
  show xUy t n = _
  rw [xMS t n]; simp
def yE1 (v : AV) : Option (List AV) → Option (List AV)
 | some l => some (v :: l)
 | none => none
noncomputable def yC5 (l : List AV) : Nat → Option (List AV) := List.rec (motive := fun _ => Nat → Option (List AV)) (fun n => Nat.casesOn (motive := fun _ => Option (List AV)) n (some []) (fun _ => none)) (fun v t ih n => Nat.casesOn (motive := fun _ => Option (List AV)) n (some []) (fun m => yE1 v (ih m))) l
theorem xS6 : ∀ (l : List AV) (n : Nat),yC5 l n = if n ≤ l.length then some (l.take n) else none
 | [],0 => rfl
 | [],n + 1 => by
  show none = _
  rw [if_neg (by simp)]
 | v :: t,0 => by
  show some [] = _
  rw [if_pos (Nat.zero_le _)]; rfl
 | v :: t,n + 1 => by
  show yE1 v (yC5 t n) = _
  rw [xS6 t n]
  by_cases c : n ≤ t.length
  ·rw [if_pos c,if_pos (by simpa using c)]; rfl
  ·rw [if_neg c,if_neg (by simpa using c)]; rfl
noncomputable def yC6 (l : List AV) : Nat := List.rec (motive := fun _ => Nat) 0 (fun _ _ n => n + 1) l
theorem xJa : ∀ l : List AV,yC6 l = l.length
 | [] => rfl
 | v :: t => by
  show yC6 t + 1 = _
  rw [xJa t]; rfl
noncomputable def rdC (cs : List AV) (off n : Nat) : Option (List AV) := match n with
 | 0 => if off ≤ yC6 cs then some [] else none
 | n + 1 => yC5 (xUy cs off) (n + 1)
theorem yE2 (cs : List AV) (off n : Nat) : rdC cs off n = if off + n ≤ cs.length then some ((cs.drop off).take n) else none := by
 cases n with
 | zero => rw [rdC,xJa]; rfl
 | succ n =>
  rw [rdC,xS6,xMS,List.length_drop]
  by_cases c : off + (n + 1) ≤ cs.length
  ·rw [if_pos c,if_pos (by omega)]
  ·rw [if_neg c,if_neg (by omega)]
noncomputable def rdF (H : Heap) (p : AV) (n : Nat) : Option (List AV) := match p with
 | .ptr id off => match H[id]? with
  | some (.cells _ _ cs) => rdC cs off n
  | _ => none
 | .vptr cs off => rdC cs off n
 | _ => none
theorem yE3 : rdF = rd := by
 funext H p n
 cases p <;> simp only [rdF,rd,yE2]
 rename_i id off
 rcases H[id]? with _ | b
 ·rfl
 ·cases b <;> rfl
noncomputable def yGL (vs : List AV) (cs : List AV) : Nat → List AV := List.rec (motive := fun _ => Nat → List AV) (fun _ => vs) (fun v t ih n => Nat.casesOn (motive := fun _ => List AV) n (vs ++ xUy (v :: t) (yC6 vs)) (fun m => v :: ih m)) cs
theorem xXC (vs : List AV) : ∀ (cs : List AV) (off : Nat),yGL vs cs off = splice cs off vs
 | [],off => by
  show vs = _
  simp [splice]
 | v :: t,0 => by
  show vs ++ xUy (v :: t) (yC6 vs) = _
  rw [xMS,xJa]; simp [splice]
 | v :: t,n + 1 => by
  show v :: yGL vs t n = _
  rw [xXC vs t n]
  simp only [splice,List.take_succ_cons,List.cons_append,show n + 1 + vs.length = (n + vs.length) + 1 by omega,List.drop_succ_cons]
noncomputable def wrF (H : Heap) (p : AV) (vs : List AV) : Option Heap := match p with
 | .ptr id off => match H[id]? with
  | some (.cells false z cs) => if off + vs.length ≤ yC6 cs ∧ vs.all AV.isCell = true then some (H.set id (.cells false z (yGL vs cs off))) else none
  | _ => none
 | _ => none
theorem yE4 : wrF = wr := by
 funext H p vs
 cases p <;> simp only [wrF,wr,xXC,xJa]
 rename_i id off
 rcases H[id]? with _ | b
 ·rfl
 ·cases b with
  | cells fz z cs => cases fz <;> rfl
  | _ => rfl
noncomputable def tkA (ys cs : List AV) : Nat → List AV := List.rec (motive := fun _ => Nat → List AV) (fun _ => ys) (fun v _ ih n => Nat.casesOn (motive := fun _ => List AV) n ys (fun m => v :: ih m)) cs
theorem yB2 (ys : List AV) : ∀ (cs : List AV) (n : Nat),tkA ys cs n = cs.take n ++ ys
 | [],n => by
  show ys = _
  simp
 | v :: t,0 => rfl
 | v :: t,n + 1 => by
  show v :: tkA ys t n = _
  rw [yB2 ys t n]; rfl
def yE5 (opv : List AV → Arg → AV) (R : Rec) (F : List AV) (H : Heap) (x : Arg) : Option (AV × Heap) := some (opv F x,H)
def yC7 (opv : List AV → Arg → AV) (R : Rec) (F : List AV) (H : Heap) (c : Arg) (a : Arg) (b : Arg) : Option (AV × Heap) := match opv F c with
  | .bool t => some (if t then opv F a else opv F b,H)
  | _ => none
def yE6 (opv : List AV → Arg → AV) (R : Rec) (F : List AV) (H : Heap) (x : Arg) : Option (AV × Heap) := let cs := (opv F x).cells; if cs.all AV.isCell then some (.ptr H.length 0,H ++ [.cells false false cs]) else none
def xZ5 (opv : List AV → Arg → AV) (R : Rec) (F : List AV) (H : Heap) (z : List AV) (parts : List (Nat × Nat × Arg)) : Option (AV × Heap) :=
  (if parts.all (fun p => (opv F p.2.2).cells.length == p.2.1) then
   (fillA z (parts.map fun p => (p.1,(opv F p.2.2).cells))).map fun cs => (.agg cs,H) else none)
def xXD (opv : List AV → Arg → AV) (R : Rec) (F : List AV) (H : Heap) (fz : Bool) (z : List AV) (es : Nat) (n : Nat) (parts : List (Nat × Arg)) : Option (AV × Heap) :=
  (if parts.all (fun p => (opv F p.2).cells.length == es) then
   match fillA (xCB z n) (parts.map fun p => (p.1 * es,(opv F p.2).cells)) with
   | some cs => xDR fz false n es cs H
   | none => none
   else none)
def xXE (opv : List AV → Arg → AV) (R : Rec) (F : List AV) (H : Heap) (z : List AV) (es : Nat) (n : Nat) (parts : List (Nat × Arg)) : Option (AV × Heap) :=
  (if parts.all (fun p => (opv F p.2).cells.length == es) then
   match fillA (xCB z n) (parts.map fun p => (p.1 * es,(opv F p.2).cells)) with
   | some cs => if cs.all xAM = true then some (.sl false n cs,H) else none
   | none => none
   else none)
noncomputable def xXF (opv : List AV → Arg → AV) (R : Rec) (F : List AV) (H : Heap) (g : Bool) (n : Nat) (p : Arg) : Option (AV × Heap) := match rdF H (opv F p) n with
  | some cs => (mkv g cs).map fun v => (v,H)
  | none => none
noncomputable def xS7 (opv : List AV → Arg → AV) (R : Rec) (F : List AV) (H : Heap) (n : Nat) (p : Arg) (v : Arg) : Option (AV × Heap) := let cs := (opv F v).cells; if cs.length = n then (wrF H (opv F p) cs).map fun H' => (.tup [],H') else none
def xXG (opv : List AV → Arg → AV) (R : Rec) (F : List AV) (H : Heap) (x : Arg) : Option (AV × Heap) := match opv F x with
  | .ptr id off => some (.ptr id off,H)
  | .vptr cs off => some (.vptr cs off,H)
  | .func f caps => some (.func f caps,H)
  | .yield l => some (.yield l,H)
  | _ => none
def yE7 (opv : List AV → Arg → AV) (R : Rec) (F : List AV) (H : Heap) (op : BinOp) (x : Arg) (y : Arg) : Option (AV × Heap) := (xDI op (opv F x) (opv F y)).map fun v => (v,H)
def yE8 (opv : List AV → Arg → AV) (R : Rec) (F : List AV) (H : Heap) (neg : Bool) (x : Arg) (y : Arg) : Option (AV × Heap) := match opv F x,opv F y with
  | .bool a,.bool b => some (.bool (if neg then a != b else a == b),H)
  | _,_ => none
def xZ6 (opv : List AV → Arg → AV) (R : Rec) (F : List AV) (H : Heap) (neg : Bool) (x : Arg) : Option (AV × Heap) := match opv F x with
  | .sl z _ _ => some (.bool (z != neg),H)
  | .own z _ _ _ _ => some (.bool (z != neg),H)
  | _ => none
def yGM (opv : List AV → Arg → AV) (R : Rec) (F : List AV) (H : Heap) (op : UnOp) (x : Arg) : Option (AV × Heap) := (unA op (opv F x)).map fun v => (v,H)
def yC8 (opv : List AV → Arg → AV) (R : Rec) (F : List AV) (H : Heap) (k : IntKind) (x : Arg) : Option (AV × Heap) := match opv F x with
  | .int _ n => some (.int k (k.wrap n),H)
  | _ => none
def xXH (opv : List AV → Arg → AV) (R : Rec) (F : List AV) (H : Heap) (f : Nat) (caps : List Arg) : Option (AV × Heap) := some (.func f (caps.map (opv F)),H)
def xUz (opv : List AV → Arg → AV) (R : Rec) (F : List AV) (H : Heap) (fz : Bool) (z : List AV) (bytes : Nat) (l : Arg) (c : Arg) : Option (AV × Heap) := match opv F l,opv F c with
  | .int _ l,.int _ c => if 0 ≤ l ∧ l ≤ c ∧ c * bytes ≤ xBh ∧ c ≤ xBh ∧ z.all AV.isCell = true then xDR fz false l.toNat z.length (xCB z l.toNat) H else none
  | _,_ => none
def xZ7 (opv : List AV → Arg → AV) (R : Rec) (F : List AV) (H : Heap) (es : Nat) (x : Arg) (lo : Option Arg) (hi : Option Arg) (mx : Option Arg) : Option (AV × Heap) := match opv F x with
  | .sl z n cs => if cs.length = n * es then (xBm n (lo.map (opv F)) (hi.map (opv F)) (mx.map (opv F))).map fun (l,h) => (.sl z (h - l) ((cs.drop (l * es)).take ((h - l) * es)),H) else none
  | .own z id off n es' => if es' = es then (xBm n (lo.map (opv F)) (hi.map (opv F)) (mx.map (opv F))).map fun (l,h) => (.own z id (off + l * es) (h - l) es,H) else none
  | _ => none
def xZ8 (opv : List AV → Arg → AV) (R : Rec) (F : List AV) (H : Heap) (o : Nat) (x : Arg) : Option (AV × Heap) := match opv F x with
  | .ptr id off => some (.ptr id (off + o),H)
  | .vptr cs off => some (.vptr cs (off + o),H)
  | _ => none
def xZ9 (opv : List AV → Arg → AV) (R : Rec) (F : List AV) (H : Heap) (g : Bool) (off : Nat) (n : Nat) (x : Arg) : Option (AV × Heap) := match opv F x with
  | .agg cs => if off + n ≤ cs.length then (mkv g ((cs.drop off).take n)).map fun v => (v,H) else none
  | _ => none
def yAa (opv : List AV → Arg → AV) (R : Rec) (F : List AV) (H : Heap) (es : Nat) (x : Arg) (i : Arg) : Option (AV × Heap) := match opv F x,xBf (opv F i) with
  | .sl _ n cs,some i => if i < n then some (.vptr cs (i * es),H) else none
  | .own _ id off n es',some i => if i < n ∧ es' = es then some (.ptr id (off + i * es),H) else none
  | _,_ => none
def yE9 (opv : List AV → Arg → AV) (R : Rec) (F : List AV) (H : Heap) (i : Nat) (x : Arg) : Option (AV × Heap) := match opv F x with
  | .tup vs => (vs[i]?).map fun v => (v,H)
  | _ => none
def yFa (opv : List AV → Arg → AV) (R : Rec) (F : List AV) (H : Heap) (x : Arg) : Option (AV × Heap) := match opv F x with
  | .sl _ n _ => some (.int .i64 n,H)
  | .own _ _ _ n _ => some (.int .i64 n,H)
  | _ => none
def yFb (opv : List AV → Arg → AV) (R : Rec) (F : List AV) (H : Heap) (x : Arg) : Option (AV × Heap) := match opv F x with
  | .sl true _ _ => some (.int .i64 0,H)
  | _ => none
def yFc (opv : List AV → Arg → AV) (R : Rec) (F : List AV) (H : Heap) (neg : Bool) (n : Nat) (x : Arg) (y : Arg) : Option (AV × Heap) := match opv F x,opv F y with
  | .agg cs,.agg ds => if cs.length = n then (xBu cs ds).map fun b => (.bool (b != neg),H) else none
  | _,_ => none
noncomputable def xPT (opv : List AV → Arg → AV) (R : Rec) (F : List AV) (H : Heap) (fz : Bool) (es : Nat) (bytes : Nat) (x : Arg) (y : Arg) : Option (AV × Heap) := match src H es (opv F y) with
  | none => none
  | some (m,ys) => match opv F x with
   | .sl true _ _ => if m * bytes ≤ xBh ∧ m ≤ xBh then xDR fz (m == 0) m es ys H else none
   | .own z id off n es' => match H[id]? with
    | some (.cells false _ cs) => if off = 0 ∧ es' = es ∧ n * es ≤ yC6 cs ∧ (n + m) * bytes ≤ xBh ∧ n + m ≤ xBh then
      some (.own (z && m == 0) H.length 0 (n + m) es,H.set id .dead ++ [.cells false (z && m == 0) (tkA ys cs (n * es))]) else none
    | _ => none
   | _ => none
def xUA (opv : List AV → Arg → AV) (R : Rec) (F : List AV) (H : Heap) (z : List AV) (bytes : Nat) (x : Arg) (n : Arg) : Option (AV × Heap) := match xBf (opv F n),opv F x with
  | some m,.sl true _ _ => if m * bytes ≤ xBh ∧ m ≤ xBh ∧ z.all AV.isCell = true then xDR false (m == 0) m z.length (xCB z m) H else none
  | _,_ => none
def xUB (opv : List AV → Arg → AV) (R : Rec) (F : List AV) (H : Heap) (es : Nat) (bytes : Nat) (x : Arg) (y : Arg) : Option (AV × Heap) := match xFy H with
  | none => none
  | some h => (xUr H es bytes (opv F x) (opv F y)).map fun r => (.own r.1 h 0 r.2.1 es,(xB6 r.2.2.2 H).set h (.cells false r.1 r.2.2.1))
def yC9 (opv : List AV → Arg → AV) (R : Rec) (F : List AV) (H : Heap) (_u0 : Nat) (_u1 : Arg) (_u2 : Arg) : Option (AV × Heap) := none
def yDa (opv : List AV → Arg → AV) (R : Rec) (F : List AV) (H : Heap) (x : Arg) (y : Arg) : Option (AV × Heap) := match opv F x,opv F y with
  | .int k a,.int _ b => some (.int k (if b > a then b else a),H)
  | _,_ => none
def yDb (opv : List AV → Arg → AV) (R : Rec) (F : List AV) (H : Heap) (x : Arg) (y : Arg) : Option (AV × Heap) := match opv F x,opv F y with
  | .int k a,.int _ b => some (.int k (if b < a then b else a),H)
  | _,_ => none
def yDc (opv : List AV → Arg → AV) (R : Rec) (F : List AV) (H : Heap) (f : Nat) (args : List Arg) : Option (AV × Heap) := xBw R f (args.map (opv F)) H
def yAb (opv : List AV → Arg → AV) (R : Rec) (F : List AV) (H : Heap) (f : Arg) (args : List Arg) : Option (AV × Heap) := R.icall (opv F f) (args.map (opv F)) H
def yAc (opv : List AV → Arg → AV) (R : Rec) (F : List AV) (H : Heap) (f : Arg) (args : List Arg) : Option (AV × Heap) := match opv F f with
  | .func g caps => xBw R g (args.map (opv F) ++ caps) H
  | _ => none
def yFd (opv : List AV → Arg → AV) (R : Rec) (F : List AV) (H : Heap) (g : Bool) (es : Nat) (len : Nat) (x : Arg) (i : Arg) : Option (AV × Heap) := match opv F x,xBf (opv F i) with
  | .agg cs,some j => if j < len ∧ j * es + es ≤ cs.length then (mkv g ((cs.drop (j * es)).take es)).map fun v => (v,H) else none
  | _,_ => none
def yAd (opv : List AV → Arg → AV) (R : Rec) (F : List AV) (H : Heap) (es : Nat) (len : Nat) (x : Arg) (i : Arg) : Option (AV × Heap) := match opv F x,xBf (opv F i) with
  | .ptr id off,some j => if j < len then some (.ptr id (off + j * es),H) else none
  | .vptr cs off,some j => if j < len then some (.vptr cs (off + j * es),H) else none
  | _,_ => none
def yDd (opv : List AV → Arg → AV) (R : Rec) (F : List AV) (H : Heap) (b : Nat) (es : Nat) (len : Nat) (i : Arg) : Option (AV × Heap) := match xUp b,xBf (opv F i) with
  | some cs,some j => if j < len then some (.vptr cs (j * es),H) else none
  | _,_ => none
def yDe (opv : List AV → Arg → AV) (R : Rec) (F : List AV) (H : Heap) (x : Arg) (i : Arg) : Option (AV × Heap) := match opv F x,xBf (opv F i) with
  | .str s,some j => (s[j]?).map fun b => (.int .u8 b.toNat,H)
  | _,_ => none
def yDf (opv : List AV → Arg → AV) (R : Rec) (F : List AV) (H : Heap) (x : Arg) : Option (AV × Heap) := match opv F x with
  | .str s => some (.int .i64 s.size,H)
  | _ => none
def yGN (opv : List AV → Arg → AV) (R : Rec) (F : List AV) (H : Heap) (mx : Bool) (xs : List Arg) : Option (AV × Heap) := match xs.map (opv F) with
  | [] => none
  | x :: r => (mmA mx x r).map fun v => (v,H)
def xXI (opv : List AV → Arg → AV) (R : Rec) (F : List AV) (H : Heap) (x : Arg) (lo : Option Arg) (hi : Option Arg) : Option (AV × Heap) := match opv F x with
  | .str s => (xBm s.size (lo.map (opv F)) (hi.map (opv F)) none).map fun (l,h) => (.str (s.extract l h),H)
  | _ => none
def yDg (opv : List AV → Arg → AV) (R : Rec) (F : List AV) (H : Heap) (neg : Bool) (x : Arg) (y : Arg) : Option (AV × Heap) := match opv F x,opv F y with
  | .str s,.str t => some (.bool ((s.toList == t.toList) != neg),H)
  | _,_ => none
def xUC (opv : List AV → Arg → AV) (R : Rec) (F : List AV) (H : Heap) (f : Nat) (first : List Arg) : Option (AV × Heap) := some (.bfunc f (first.map (opv F)),H)
def yAe (opv : List AV → Arg → AV) (R : Rec) (F : List AV) (H : Heap) (f : Arg) (args : List Arg) : Option (AV × Heap) := match opv F f with
  | .bfunc g first => R.icall (.func g []) (first ++ args.map (opv F)) H
  | _ => none
def yAf (opv : List AV → Arg → AV) (R : Rec) (F : List AV) (H : Heap)  : Option (AV × Heap) := some (.mp H.length,H ++ [.mp []])
def yAg (opv : List AV → Arg → AV) (R : Rec) (F : List AV) (H : Heap) (ks : List Nat) (comma : Bool) (z : AV) (x : Arg) (k : Arg) : Option (AV × Heap) := if xBn ks (opv F k) then match xUq H (opv F x) with
  | none => none
  | some es => match xEo (opv F k) es with
   | none => none
   | some none => some (if comma then .tup [z,.bool false] else z,H)
   | some (some v) => some (if comma then .tup [v,.bool true] else v,H)
  else none
def yDh (opv : List AV → Arg → AV) (R : Rec) (F : List AV) (H : Heap) (ks : List Nat) (z : AV) (m : Arg) (k : Arg) : Option (AV × Heap) := if xBn ks (opv F k) then match opv F m with
  | .mp id => match H[id]? with
   | some (.mp es) => (xE6 (opv F k) z es 0).map fun r => (.tup [r.1,.int .i64 (r.2.1 : Nat)],H.set id (.mp r.2.2))
   | _ => none
  | _ => none
  else none
def xXJ (opv : List AV → Arg → AV) (R : Rec) (F : List AV) (H : Heap) (m : Arg) (s : Arg) (v : Arg) : Option (AV × Heap) := match opv F m,opv F s with
  | .mp id,.int .i64 n => match H[id]? with
   | some (.mp es) => if 0 ≤ n then (es[n.toNat]?).map fun e => (.tup [],H.set id (.mp (es.set n.toNat (e.1,opv F v)))) else none
   | _ => none
  | _,_ => none
def yDi (opv : List AV → Arg → AV) (R : Rec) (F : List AV) (H : Heap) (ks : List Nat) (m : Arg) (k : Arg) (v : Arg) : Option (AV × Heap) := if xBn ks (opv F k) then match opv F m with
  | .mp id => match H[id]? with
   | some (.mp es) => (yA4 (opv F k) (opv F v) es).map fun es' => (.tup [],H.set id (.mp es'))
   | _ => none
  | _ => none
  else none
def yDj (opv : List AV → Arg → AV) (R : Rec) (F : List AV) (H : Heap) (x : Arg) : Option (AV × Heap) := (xUq H (opv F x)).map fun es => (.int .i64 es.length,H)
def yDk (opv : List AV → Arg → AV) (R : Rec) (F : List AV) (H : Heap) (neg : Bool) (x : Arg) : Option (AV × Heap) := match opv F x with
  | .nilm => some (.bool (true != neg),H)
  | .mp _ => some (.bool (false != neg),H)
  | _ => none
def xXK (opv : List AV → Arg → AV) (R : Rec) (F : List AV) (H : Heap) (fz : Bool) (x : Arg) : Option (AV × Heap) := match opv F x with
  | .str s => xDR fz false s.size 1 (xB2 s) H
  | _ => none
def yDl (opv : List AV → Arg → AV) (R : Rec) (F : List AV) (H : Heap) (x : Arg) : Option (AV × Heap) := match src H 1 (opv F x) with
  | some (_,cs) => (xJB cs).map fun bs => (.str ⟨⟨bs⟩⟩,H)
  | none => none
def yDm (opv : List AV → Arg → AV) (R : Rec) (F : List AV) (H : Heap) (x : Arg) (y : Arg) : Option (AV × Heap) := match opv F x,opv F y with
  | .str s,.str t => if s.size + t.size ≤ 9223372036854775807 then some (.str ⟨⟨s.data.toList ++ t.data.toList⟩⟩,H) else none
  | _,_ => none
def yAh (opv : List AV → Arg → AV) (R : Rec) (F : List AV) (H : Heap) (f : Nat) (args : List Arg) : Option (AV × Heap) := match (args.map (opv F)).mapM (frz frzN H) with
  | none => none
  | some args' => match xBj R f args' with
   | none => none
   | some (v,B) => some (xAX H.length v,fzIds H ((args.map (opv F)).flatMap (bor frzN H)) ++ B)
def xXL (opv : List AV → Arg → AV) (R : Rec) (F : List AV) (H : Heap) (f : Nat) (args : List Arg) : Option (AV × Heap) := match (args.map (opv F)).mapM (frz frzN H) with
  | none => none
  | some args' => match xDS R f args' with
   | none => none
   | some (v,B) => some (xAX H.length v,fzIds H ((args.map (opv F)).flatMap (bor frzN H)) ++ B.map (xCW H.length))
noncomputable def xMT (R : Rec) (F : List AV) (H : Heap) : AOp → Option (AV × Heap)
 | .mov x => yE5 xCe R F H x
 | .pick c a b => yC7 xCe R F H c a b
 | .box x => yE6 xCe R F H x
 | .build z parts => xZ5 xCe R F H z parts
 | .bslice fz z es n parts => xXD xCe R F H fz z es n parts
 | .dslice z es n parts => xXE xCe R F H z es n parts
 | .load g n p => xXF xCe R F H g n p
 | .store n p v => xS7 xCe R F H n p v
 | .nilchk x => xXG xCe R F H x
 | .bin op x y => yE7 xCe R F H op x y
 | .beq neg x y => yE8 xCe R F H neg x y
 | .isnil neg x => xZ6 xCe R F H neg x
 | .un op x => yGM xCe R F H op x
 | .conv k x => yC8 xCe R F H k x
 | .mkfunc f caps => xXH xCe R F H f caps
 | .mkslice fz z bytes l c => xUz xCe R F H fz z bytes l c
 | .slice es x lo hi mx => xZ7 xCe R F H es x lo hi mx
 | .faddr o x => xZ8 xCe R F H o x
 | .field g off n x => xZ9 xCe R F H g off n x
 | .iaddr es x i => yAa xCe R F H es x i
 | .ext i x => yE9 xCe R F H i x
 | .len x => yFa xCe R F H x
 | .cap x => yFb xCe R F H x
 | .aeq neg n x y => yFc xCe R F H neg n x y
 | .append fz es bytes x y => xPT xCe R F H fz es bytes x y
 | .appendz z bytes x n => xUA xCe R F H z bytes x n
 | .appendh es bytes x y => xUB xCe R F H es bytes x y
 | .copy _u0 _u1 _u2 => yC9 xCe R F H _u0 _u1 _u2
 | .maxi x y => yDa xCe R F H x y
 | .mini x y => yDb xCe R F H x y
 | .call f args => yDc xCe R F H f args
 | .icall f args => yAb xCe R F H f args
 | .fcall f args => yAc xCe R F H f args
 | .idx g es len x i => yFd xCe R F H g es len x i
 | .arrat es len x i => yAd xCe R F H es len x i
 | .garr b es len i => yDd xCe R F H b es len i
 | .sidx x i => yDe xCe R F H x i
 | .slen x => yDf xCe R F H x
 | .mm mx xs => yGN xCe R F H mx xs
 | .sslice x lo hi => xXI xCe R F H x lo hi
 | .sbeq neg x y => yDg xCe R F H neg x y
 | .mkbound f first => xUC xCe R F H f first
 | .bcall f args => yAe xCe R F H f args
 | .mkmap  => yAf xCe R F H 
 | .mlook ks comma z x k => yAg xCe R F H ks comma z x k
 | .ment ks z m k => yDh xCe R F H ks z m k
 | .mstore m s v => xXJ xCe R F H m s v
 | .mupd ks m k v => yDi xCe R F H ks m k v
 | .mlen x => yDj xCe R F H x
 | .mnil neg x => yDk xCe R F H neg x
 | .sbytes fz x => xXK xCe R F H fz x
 | .bstr x => yDl xCe R F H x
 | .sadd x y => yDm xCe R F H x y
 | .ocall f args => yAh xCe R F H f args
 | .ocallw f args => xXL xCe R F H f args
theorem xLS (R : Rec) (F : List AV) (H : Heap) (op : AOp) : xMT R F H op = xAa R F H op := by
 cases op <;> simp only [xMT,xXA] <;> first | rfl | (simp only [xXF,yE3]; rfl) | (simp only [xS7,yE4]; rfl) | (simp only [xPT,xJa,yB2]; rfl)
def fN {α : Type} (a : Nat) (k : Nat → α) : α := match a with
 | 0 => k 0
 | n + 1 => k (n + 1)
theorem yFe {α : Type} (a : Nat) (k : Nat → α) : fN a k = k a := by cases a <;> rfl
def fI {α : Type} (x : Int) (k : Int → α) : α := match x with
 | .ofNat a => fN a fun a => k (.ofNat a)
 | .negSucc a => fN a fun a => k (.negSucc a)
theorem yGO {α : Type} (x : Int) (k : Int → α) : fI x k = k x := by cases x <;> simp only [fI,yFe]
def fBo {α : Type} (x : Bool) (k : Bool → α) : α := match x with
 | true => k true
 | false => k false
theorem yFf {α : Type} (x : Bool) (k : Bool → α) : fBo x k = k x := by cases x <;> rfl
def fV {α : Type} (v : AV) (k : AV → α) : α := match v with
 | .int kd n => fI n fun n => k (.int kd n)
 | .bool b => fBo b fun b => k (.bool b)
 | .ptr i o => fN i fun i => fN o fun o => k (.ptr i o)
 | .own z i o n e => fBo z fun z => fN i fun i => fN o fun o => fN n fun n => fN e fun e => k (.own z i o n e)
 | .sl z n cs => fN n fun n => k (.sl z n cs)
 | v => k v
theorem yDn {α : Type} (v : AV) (k : AV → α) : fV v k = k v := by
 cases v <;> simp only [fV,yGO,yFf,yFe]
noncomputable def fS {α : Type} (l : List AV) : (List AV → α) → α := List.rec (motive := fun _ => (List AV → α) → α) (fun k => k []) (fun v _ ih k => ih fun vs => k (v :: vs)) l
theorem yAi {α : Type} : ∀ (l : List AV) (k : List AV → α),fS l k = k l
 | [],k => rfl
 | v :: vs,k => by
  show fS vs (fun vs => k (v :: vs)) = _
  rw [yAi vs]
def fL {α : Type} : List AV → (List AV → α) → α
 | [],k => k []
 | v :: vs,k => fV v fun v => fL vs fun vs => k (v :: vs)
theorem yFg {α : Type} : ∀ (l : List AV) (k : List AV → α),fL l k = k l
 | [],k => rfl
 | v :: vs,k => by rw [fL,yDn,yFg vs]
def fB {α : Type} (b : Blk) (k : Blk → α) : α := match b with
 | .cells fz z cs => fL cs fun cs => k (.cells fz z cs)
 | b => k b
theorem yGP {α : Type} (b : Blk) (k : Blk → α) : fB b k = k b := by
 cases b <;> first | rfl | simp only [fB,yFg]
noncomputable def fAt {α : Type} (l : List Blk) : Nat → (List Blk → α) → α := List.rec (motive := fun _ => Nat → (List Blk → α) → α) (fun _ k => k []) (fun b bs ih n k => Nat.casesOn (motive := fun _ => α) n (fB b fun b => k (b :: bs)) (fun m => ih m fun bs => k (b :: bs))) l
theorem yB3 {α : Type} : ∀ (l : List Blk) (n : Nat) (k : List Blk → α),fAt l n k = k l
 | [],n,k => rfl
 | b :: bs,0,k => by
  show fB b (fun b => k (b :: bs)) = _
  rw [yGP]
 | b :: bs,n + 1,k => by
  show fAt bs n (fun bs => k (b :: bs)) = _
  rw [yB3 bs]
noncomputable def yH7 (l : List Blk) : Nat := List.rec (motive := fun _ => Nat) 0 (fun _ _ n => n + 1) l
noncomputable def yGQ (F : List AV) (H : List Blk) : AOp → Nat
 | .store _ p _ => match xCe F p with
  | .ptr id _ => id
  | _ => 0
 | _ => yH7 H
def yFh : AOp → Bool
 | .mov _ | .pick .. | .bin .. | .beq .. | .aeq .. | .un .. | .conv .. | .ext .. | .faddr .. | .field .. | .iaddr .. | .len _ | .cap _ | .isnil .. | .maxi .. | .mini .. | .nilchk _ | .mkfunc .. | .slice .. | .idx .. | .arrat .. | .garr .. | .sidx .. | .slen .. | .mm .. | .sslice .. | .sbeq .. | .mkbound .. | .load .. | .build .. | .mlook .. | .mlen _ | .mnil .. => true
 | _ => false
noncomputable def yDo (d : Option Nat) (F : List AV) (keep : Bool) (sp : Nat) : Option (AV × Heap) → Option St
 | some (v,H) => fV v fun v => fS (yGK F d v) fun F => if keep then some ⟨F,H⟩ else fAt H sp fun H => some ⟨F,H⟩
 | none => none
theorem yAj (d : Option Nat) (F : List AV) (keep : Bool) (sp : Nat) (x : Option (AV × Heap)) : yDo d F keep sp x = x.map fun (v,H) => ⟨putA F d v,H⟩ := by
 cases x with
 | none => rfl
 | some p =>
  obtain ⟨v,H⟩ := p
  simp only [yDo,yDn,yAi,yB3,ite_self,xXB]
  rfl
def yFi (o : AOper) (s : St) (r : Option St) : Option Bool → Option St
 | none => none
 | some false => some ⟨putA s.F o.dst (.tup []),s.H⟩
 | some true => r
noncomputable def xFX (R : Rec) (o : AOper) (s : St) : Option St := yFi o s (yDo o.dst s.F (yFh o.op) (yGQ s.F s.H o.op) (xMT R s.F s.H o.op)) (xBW s.F o.guard)
theorem xPU (R : Rec) (o : AOper) (s : St) : xFX R o s = xAu R o s := by
 unfold xFX xAu
 rw [xLS,yAj]
 split <;> rename_i e <;> rw [e] <;> rfl
noncomputable def yAk (k : St → Option St) : Option St → Option St
 | some s => k s
 | none => none
noncomputable def xJb (R : Rec) (ops : List AOper) : St → Option St := List.rec (motive := fun _ => St → Option St) (fun s => some s) (fun o _ ih s => yAk ih (xFX R o s)) ops
theorem xGq (R : Rec) : ∀ (ops : List AOper) (s : St),xJb R ops s = xAn R ops s
 | [],s => rfl
 | o :: rest,s => by
  show yAk (xJb R rest) (xFX R o s) = _
  simp only [xAn,xPU]
  cases xAu R o s with
  | none => rfl
  | some s' => exact xGq R rest s'
def yDp : AOp → Bool
 | .call .. | .fcall .. | .append .. | .box .. | .bslice .. | .mkslice .. | .appendz .. | .appendh .. | .copy .. | .icall .. | .bcall .. | .store .. | .ocall .. | .ocallw .. | .mkmap | .mupd .. | .ment .. | .mstore .. | .sbytes .. => true
 | _ => false
noncomputable def xQZ (R : Rec) (F : List AV) (H : Heap) (op : AOp) : Option AV := if yDp op then xAm R F H op else (xMT R F H op).map (·.1)
theorem xUD (R : Rec) (F : List AV) (H : Heap) (op : AOp) : xQZ R F H op = xAm R F H op := by
 unfold xQZ
 rw [xLS]
 cases op <;> rfl
noncomputable def frF (d : Option Nat) (s : St) : Option AV → Option St
 | some v => fV v fun v => fS (yGK s.F d v) fun F => some ⟨F,s.H⟩
 | none => none
theorem yFj (d : Option Nat) (s : St) (x : Option AV) : frF d s x = x.map fun v => ⟨putA s.F d v,s.H⟩ := by
 cases x with
 | none => rfl
 | some v => simp only [frF,yDn,yAi,xXB]; rfl
noncomputable def xFY (R : Rec) (o : AOper) (s : St) : Option St := yFi o s (frF o.dst s (xQZ R s.F s.H o.op)) (xBW s.F o.guard)
theorem xPV (R : Rec) (o : AOper) (s : St) : xFY R o s = xAC R o s := by
 unfold xFY xAC
 rw [xUD,yFj]
 split <;> rename_i e <;> rw [e] <;> rfl
noncomputable def xMU (R : Rec) (ops : List AOper) : St → Option St := List.rec (motive := fun _ => St → Option St) (fun s => some s) (fun o _ ih s => yAk ih (xFY R o s)) ops
theorem xJc (R : Rec) : ∀ (ops : List AOper) (s : St),xMU R ops s = xBa R ops s
 | [],s => rfl
 | o :: rest,s => by
  show yAk (xMU R rest) (xFY R o s) = _
  simp only [xBa,xPV]
  cases xAC R o s with
  | none => rfl
  | some s' => exact xJc R rest s'
noncomputable def yHD (k : St → Option (AExit × St)) : Option (AExit × St) → Option (AExit × St)
 | some (.normal,s') => k s'
 | r => r
noncomputable def yFk (x y : Option (AExit × St)) : AV → Option (AExit × St)
 | .bool t => if t then x else y
 | _ => none
def yB4 (id : Nat) : Option (AExit × St) → Option (AExit × St)
 | some (.exit i,s') => if i = id then some (.normal,s') else some (.exit i,s')
 | r => r
def yGa : Option St → Option (AExit × St)
 | some s => some (.normal,s)
 | none => none
noncomputable def yDq (R : Rec) (m : Nat) (ops : List AOper) (s : St) : Option (AExit × St) := match xMU R (ops.take m) s with
 | none => none
 | some s1 => yGa (xJb R (ops.drop m) (adopt (ops.take m) s1))
def yHE (i : Nat) (k : AV → Option (AExit × St)) : Option AV → Option (AExit × St)
 | some v => k v
 | none => none
noncomputable def yB5 (R : Rec) (c : ACode) : St → Option (AExit × St) :=
 ACode.rec (motive := fun _ => St → Option (AExit × St))
  (fun s => some (.normal,s)) (fun ops s => yGa (xJb R ops s)) (fun m ops s => yDq R m ops s) (fun ls m ops s => run R (.drawl ls m ops) s)
  (fun als ls m ops s => run R (.drawp als ls m ops) s) (fun hs als ls m ops s => run R (.drawh hs als ls m ops) s) (fun σ als ls m ops s => run R (.drawt σ als ls m ops) s) (fun _ ih s => ih ⟨s.F,s.H ++ [.cells true true []]⟩)
  (fun ss _ ih s => ih ⟨s.F,fzIds s.H (ss.flatMap fun i => bor frzN s.H (s.F.getD i .any))⟩) (fun i _ ih s => yHE i (fun v => ih ⟨s.F.set i v,fzIds s.H (bor frzN s.H (s.F.getD i .any))⟩) (frz frzN s.H (s.F.getD i .any))) (fun _ _ iha ihb s => yHD ihb (iha s)) (fun c _ _ iha ihb s => yFk (iha s) (ihb s) (xCe s.F c))
  (fun id _ ih s => yB4 id (ih s)) (fun scr b _ s => R.loop scr b s) (fun f ps asg body _ _ s => run R (.range f ps asg body) s) (fun id s => some (.exit id,s)) (fun _ ih s => ih s)
  (fun s => some (.normal,s)) (fun s => some (.ret,s)) (fun _ => none) c
theorem xXM (x : Option St) : yGa x = x.map fun s' => (.normal,s') := by cases x <;> rfl
theorem xXN (R : Rec) (c : ACode) : ∀ s,yB5 R c s = run R c s := by
 induction c <;> intro s
 case region ops => show yGa (xJb R ops s) = _; simp only [run,xGq,xXM]
 case draw m ops =>
  show yDq R m ops s = _
  simp only [run,yDq,xJc,xGq,xXM]
  cases xBa R (ops.take m) s <;> rfl
 case seq a b iha ihb =>
  show yHD (yB5 R b) (yB5 R a s) = _
  simp only [run,iha]
  cases run R a s with
  | none => rfl
  | some p =>
   obtain ⟨e,s'⟩ := p
   cases e with
   | normal => exact ihb s'
   | exit i => rfl
   | ret => rfl
 case cond c a b iha ihb =>
  show yFk (yB5 R a s) (yB5 R b s) (xCe s.F c) = _
  simp only [run,iha,ihb,xXA]
  cases opv s.F c <;> rfl
 case block id b ih =>
  show yB4 id (yB5 R b s) = _
  simp only [run,ih]
  cases run R b s with
  | none => rfl
  | some p => obtain ⟨e,s'⟩ := p; cases e <;> rfl
 case scope b ih => exact ih s
 case fz ss b ih => exact ih _
 case hole b ih => exact ih _
 case fzs i b ih =>
  show yHE i _ _ = _
  simp only [run]
  cases frz frzN s.H (s.F.getD i .any) with
  | none => rfl
  | some v => exact ih _
 all_goals rfl
def yH8 (fn : AFunc) : Option (AExit × St) → Option (AV × Heap)
 | some (.normal,s) | some (.ret,s) => (xBP fn.results s).map fun v => (v,s.H)
 | _ => none
noncomputable def yAl (R : Rec) (fn : AFunc) (args : List AV) (H : Heap) : Option (AV × Heap) := yH8 fn (yB5 R fn.code (xNJ fn args H))
theorem xS8 (R : Rec) (fn : AFunc) (args : List AV) (H : Heap) : yAl R fn args H = xBQ R fn args H := by
 unfold yAl xBQ
 rw [xXN]
 cases run R fn.code (xNJ fn args H) with
 | none => rfl
 | some p => obtain ⟨e,s'⟩ := p; cases e <;> rfl
def yH9 : Option (AV × Heap) → Option AV
 | some (r,H') => frz frzN H' r
 | none => Option.none
def xJd : List AV → Nat → List Nat → List AV
 | [],_,_ => []
 | v :: F,_,[] => v :: F
 | v :: F,i,s :: scr => if s = i then .any :: xJd F (i + 1) scr else v :: xJd F (i + 1) (s :: scr)
def asc : List Nat → Nat → Bool
 | [],_ => true
 | s :: r,lo => decide (lo ≤ s) && asc r (s + 1)
theorem yB6 : ∀ {scr : List Nat} {lo : Nat},asc scr lo = true → ∀ s ∈ scr,lo ≤ s
 | [],_,_,s,h => by cases h
 | s0 :: r,lo,h,s,hs => by
  simp only [asc,Bool.and_eq_true,decide_eq_true_eq] at h
  rcases List.mem_cons.1 hs with rfl | hs
  ·exact h.1
  ·have := yB6 h.2 s hs; omega
theorem yDr : ∀ {scr : List Nat} {lo lo' : Nat},asc scr lo = true → (∀ s ∈ scr,lo' ≤ s) → asc scr lo' = true
 | [],_,_,_,_ => rfl
 | s0 :: r,lo,lo',h,hl => by
  simp only [asc,Bool.and_eq_true,decide_eq_true_eq] at h ⊢
  exact ⟨hl s0 (by simp),h.2⟩
theorem xGr : ∀ (F : List AV) (i : Nat) (scr : List Nat),asc scr i = true → ∀ j,(xJd F i scr)[j]? = if i + j ∈ scr then (F[j]?).map (fun _ => AV.any) else F[j]?
 | [],i,scr,h,j => by simp [xJd]
 | v :: F,i,[],h,j => by simp [xJd]
 | v :: F,i,s :: scr,h,j => by
  have h' := h
  simp only [asc,Bool.and_eq_true,decide_eq_true_eq] at h'
  unfold xJd
  by_cases e : s = i
  ·subst e
   rw [if_pos rfl]
   cases j with
   | zero => simp
   | succ j =>
    rw [List.getElem?_cons_succ,xGr F (s + 1) scr h'.2 j,List.getElem?_cons_succ]
    have : (s + 1 + j ∈ scr) ↔ (s + (j + 1) ∈ s :: scr) := by
     rw [show s + (j + 1) = s + 1 + j by omega,List.mem_cons]
     exact ⟨.inr,fun q => q.elim (fun q => by omega) id⟩
    simp only [this]
  ·rw [if_neg e]
   have hm : ∀ x ∈ s :: scr,i + 1 ≤ x := fun x hx => by
    rcases List.mem_cons.1 hx with rfl | hx
    ·omega
    ·have := yB6 h'.2 x hx; omega
   cases j with
   | zero =>
    have : ¬ (i + 0 ∈ s :: scr) := fun q => by have := hm _ q; omega
    rw [if_neg this]; rfl
   | succ j =>
    rw [List.getElem?_cons_succ,xGr F (i + 1) (s :: scr) (yDr h hm) j,List.getElem?_cons_succ]
    simp only [show i + (j + 1) = i + 1 + j by omega]
def xS9 (scr : List Nat) (F : List AV) : List AV := if asc scr 0 then xJd F 0 scr else xAp scr F
theorem xPW (scr : List Nat) (F : List AV) : xS9 scr F = xAp scr F := by
 unfold xS9
 split
 ·rename_i h
  apply List.ext_getElem?
  intro j
  rw [xGr F 0 scr h j,xEG]
  simp only [Nat.zero_add]
 ·rfl
noncomputable def yB7 (R : Rec) (scr : List Nat) (b : ACode) : Option (AExit × St) → Option (AExit × St)
 | some (.normal,s') => R.loop scr b s'
 | some (e,s') => some (e,⟨xS9 scr s'.F,s'.H⟩)
 | none => none
noncomputable def yFl (prog : Nat → Option AFunc) (R : Rec) (args : List AV) (H : Heap) : AV → Option (AV × Heap)
 | .func f caps => match prog f with
  | some fn => yAl R fn (args ++ caps) H
  | none => Option.none
 | f => xDp prog R f args H
noncomputable def yDs (prog : Nat → Option AFunc) (R : Rec) : Rec where
 pcall f args := match prog f with
  | some fn => yH9 (yAl R fn args [])
  | none => primA f args
 icall f args H := yFl prog R args H f
 loop scr b s := fS (xS9 scr s.F) fun F => yB7 R scr b (yB5 R b ⟨F,s.H⟩)
theorem yAm (prog : Nat → Option AFunc) (R : Rec) : yDs prog R = xCX prog R := by
 unfold yDs xCX
 congr 1
 ·funext f args
  cases prog f with
  | none => rfl
  | some fn =>
   simp only [xAY,xS8]
   cases xBQ R fn args [] <;> rfl
 ·funext f args H
  unfold yFl
  split
  ·rename_i g caps
   simp only [xDp,xS8]
   cases prog g <;> rfl
  ·rfl
 ·funext scr b s
  simp only [xHY,xXN,yAi,xPW]
  cases run R b ⟨xAp scr s.F,s.H⟩ with
  | none => rfl
  | some p => obtain ⟨e,s'⟩ := p; cases e <;> simp only [yB7,xPW]
noncomputable def yGb (prog : Nat → Option AFunc) (T : Known) : Nat → Rec
 | 0 => Rec.none
 | n + 1 => yDt T (yDs prog (yGb prog T n))
theorem xXO (prog : Nat → Option AFunc) (T : Known) : ∀ n,yGb prog T n = yDu prog T n
 | 0 => rfl
 | n + 1 => by rw [yGb,yDu,yAm,xXO prog T n]
noncomputable def xXP (prog : Nat → Option AFunc) (T : Known) (n f : Nat) (args : List AV) (v : AV) : Bool := match (yGb prog T n).pcall f args with
 | some u => xJe 8 u v
 | none => false
theorem xUE {prog : Nat → Option AFunc} {T : Known} (hT : ∀ e ∈ T,(lim prog).pcall e.1 e.2.1 = some e.2.2) {n f : Nat} {args : List AV} {v : AV} (h : xXP prog T n f args v = true) : (lim prog).pcall f args = some v :=
 xXQ hT (n := n) (by unfold xXP at h; rw [xXO] at h; exact h)
end Go.Abs
