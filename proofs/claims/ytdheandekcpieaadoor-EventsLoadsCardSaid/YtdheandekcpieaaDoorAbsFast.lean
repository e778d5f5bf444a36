/- The interpreter once more,its alternatives as functions of their own: what the kernel unfolds is small. -/
import Derived.Test.YtdheandekcpieaaDoorAbsOver
namespace Go.Abs
set_option linter.unusedVariables false
noncomputable def yBQ (F : List AV) : Nat → AV := List.rec (motive := fun _ => Nat → AV) (fun _ => .any) (fun v _ ih n => Nat.casesOn (motive := fun _ => AV) n v ih) F
noncomputable def yB4 (x : AV) (F : List AV) : Nat → List AV := List.rec (motive := fun _ => Nat → List AV) (fun _ => []) (fun v F ih n => Nat.casesOn (motive := fun _ => List AV) n (x :: F) (fun m => v :: ih m)) F
theorem xSr : ∀ (F : List AV) (i : Nat),yBQ F i = F.getD i .any
 | [],i => by simp [yBQ]
 | v :: F,0 => rfl
 | v :: F,i + 1 => by
  show yBQ F i = _
  rw [xSr F i]; simp
theorem xSs (x : AV) : ∀ (F : List AV) (i : Nat),yB4 x F i = F.set i x
 | [],i => rfl
 | v :: F,0 => rfl
 | v :: F,i + 1 => by
  show v :: yB4 x F i = _
  rw [xSs x F i]; rfl
noncomputable def xBP (F : List AV) : Arg → AV
 | .t i => yBQ F i
 | .c v => v
theorem xSt : xBP = opv := by
 funext F x
 cases x with
 | t i => exact xSr F i
 | c v => rfl
noncomputable def yB5 (F : List AV) (d : Option Nat) (v : AV) : List AV := match d with
 | some d => yB4 v F d
 | none => F
theorem xSu : yB5 = putA := by
 funext F d v
 cases d with
 | none => rfl
 | some d => exact xSs v F d
noncomputable def xQX (l : List AV) : Nat → List AV := List.rec (motive := fun _ => Nat → List AV) (fun _ => []) (fun v t ih n => Nat.casesOn (motive := fun _ => List AV) n (v :: t) ih) l
theorem xKH : ∀ (l : List AV) (n : Nat),xQX l n = l.drop n
 | [],n => by simp [xQX]
 | v :: t,0 => rfl
 | v :: t,n + 1 => by
  show xQX t n = _
  rw [xKH t n]; simp
def xZ1 (v : AV) : Option (List AV) → Option (List AV)
 | some l => some (v :: l)
 | none => none
noncomputable def xX1 (l : List AV) : Nat → Option (List AV) := List.rec (motive := fun _ => Nat → Option (List AV)) (fun n => Nat.casesOn (motive := fun _ => Option (List AV)) n (some []) (fun _ => none)) (fun v t ih n => Nat.casesOn (motive := fun _ => Option (List AV)) n (some []) (fun m => xZ1 v (ih m))) l
theorem xO5 : ∀ (l : List AV) (n : Nat),xX1 l n = if n ≤ l.length then some (l.take n) else none
 | [],0 => rfl
 | [],n + 1 => by
  show none = _
  rw [if_neg (by simp)]
 | v :: t,0 => by
  show some [] = _
  rw [if_pos (Nat.zero_le _)]; rfl
 | v :: t,n + 1 => by
  show xZ1 v (xX1 t n) = _
  rw [xO5 t n]
  by_cases c : n ≤ t.length
  ·rw [if_pos c,if_pos (by simpa using c)]; rfl
  ·rw [if_neg c,if_neg (by simpa using c)]; rfl
noncomputable def xX2 (l : List AV) : Nat := List.rec (motive := fun _ => Nat) 0 (fun _ _ n => n + 1) l
theorem xHo : ∀ l : List AV,xX2 l = l.length
 | [] => rfl
 | v :: t => by
  show xX2 t + 1 = _
  rw [xHo t]; rfl
noncomputable def rdC (cs : List AV) (off n : Nat) : Option (List AV) := match n with
 | 0 => if off ≤ xX2 cs then some [] else none
 | n + 1 => xX1 (xQX cs off) (n + 1)
theorem xZ2 (cs : List AV) (off n : Nat) : rdC cs off n = if off + n ≤ cs.length then some ((cs.drop off).take n) else none := by
 cases n with
 | zero => rw [rdC,xHo]; rfl
 | succ n =>
  rw [rdC,xO5,xKH,List.length_drop]
  by_cases c : off + (n + 1) ≤ cs.length
  ·rw [if_pos c,if_pos (by omega)]
  ·rw [if_neg c,if_neg (by omega)]
noncomputable def rdF (H : Heap) (p : AV) (n : Nat) : Option (List AV) := match p with
 | .ptr id off => match H[id]? with
  | some (.cells _ _ cs) => rdC cs off n
  | _ => none
 | .vptr cs off => rdC cs off n
 | _ => none
theorem xZ3 : rdF = rd := by
 funext H p n
 cases p <;> simp only [rdF,rd,xZ2]
 rename_i id off
 rcases H[id]? with _ | b
 ·rfl
 ·cases b <;> rfl
noncomputable def yB6 (vs : List AV) (cs : List AV) : Nat → List AV := List.rec (motive := fun _ => Nat → List AV) (fun _ => vs) (fun v t ih n => Nat.casesOn (motive := fun _ => List AV) n (vs ++ xQX (v :: t) (xX2 vs)) (fun m => v :: ih m)) cs
theorem xSv (vs : List AV) : ∀ (cs : List AV) (off : Nat),yB6 vs cs off = splice cs off vs
 | [],off => by
  show vs = _
  simp [splice]
 | v :: t,0 => by
  show vs ++ xQX (v :: t) (xX2 vs) = _
  rw [xKH,xHo]; simp [splice]
 | v :: t,n + 1 => by
  show v :: yB6 vs t n = _
  rw [xSv vs t n]
  simp only [splice,List.take_succ_cons,List.cons_append,show n + 1 + vs.length = (n + vs.length) + 1 by omega,List.drop_succ_cons]
noncomputable def wrF (H : Heap) (p : AV) (vs : List AV) : Option Heap := match p with
 | .ptr id off => match H[id]? with
  | some (.cells false z cs) => if off + vs.length ≤ xX2 cs ∧ vs.all AV.isCell = true then some (H.set id (.cells false z (yB6 vs cs off))) else none
  | _ => none
 | _ => none
theorem xZ4 : wrF = wr := by
 funext H p vs
 cases p <;> simp only [wrF,wr,xSv,xHo]
 rename_i id off
 rcases H[id]? with _ | b
 ·rfl
 ·cases b with
  | cells fz z cs => cases fz <;> rfl
  | _ => rfl
noncomputable def tkA (ys cs : List AV) : Nat → List AV := List.rec (motive := fun _ => Nat → List AV) (fun _ => ys) (fun v _ ih n => Nat.casesOn (motive := fun _ => List AV) n ys (fun m => v :: ih m)) cs
theorem xWJ (ys : List AV) : ∀ (cs : List AV) (n : Nat),tkA ys cs n = cs.take n ++ ys
 | [],n => by
  show ys = _
  simp
 | v :: t,0 => rfl
 | v :: t,n + 1 => by
  show v :: tkA ys t n = _
  rw [xWJ ys t n]; rfl
def xZ5 (opv : List AV → Arg → AV) (R : Rec) (F : List AV) (H : Heap) (x : Arg) : Option (AV × Heap) := some (opv F x,H)
def xX3 (opv : List AV → Arg → AV) (R : Rec) (F : List AV) (H : Heap) (c : Arg) (a : Arg) (b : Arg) : Option (AV × Heap) := match opv F c with
  | .bool t => some (if t then opv F a else opv F b,H)
  | _ => none
def xZ6 (opv : List AV → Arg → AV) (R : Rec) (F : List AV) (H : Heap) (x : Arg) : Option (AV × Heap) := let cs := (opv F x).cells; if cs.all AV.isCell then some (.ptr H.length 0,H ++ [.cells false false cs]) else none
def xVM (opv : List AV → Arg → AV) (R : Rec) (F : List AV) (H : Heap) (z : List AV) (parts : List (Nat × Nat × Arg)) : Option (AV × Heap) :=
  (if parts.all (fun p => (opv F p.2.2).cells.length == p.2.1) then
   (fillA z (parts.map fun p => (p.1,(opv F p.2.2).cells))).map fun cs => (.agg cs,H) else none)
def xSw (opv : List AV → Arg → AV) (R : Rec) (F : List AV) (H : Heap) (fz : Bool) (z : List AV) (es : Nat) (n : Nat) (parts : List (Nat × Arg)) : Option (AV × Heap) :=
  (if parts.all (fun p => (opv F p.2).cells.length == es) then
   match fillA (xCo z n) (parts.map fun p => (p.1 * es,(opv F p.2).cells)) with
   | some cs => xDR fz false n es cs H
   | none => none
   else none)
def xSx (opv : List AV → Arg → AV) (R : Rec) (F : List AV) (H : Heap) (z : List AV) (es : Nat) (n : Nat) (parts : List (Nat × Arg)) : Option (AV × Heap) :=
  (if parts.all (fun p => (opv F p.2).cells.length == es) then
   match fillA (xCo z n) (parts.map fun p => (p.1 * es,(opv F p.2).cells)) with
   | some cs => if cs.all xB3 = true then some (.sl false n cs,H) else none
   | none => none
   else none)
noncomputable def xSy (opv : List AV → Arg → AV) (R : Rec) (F : List AV) (H : Heap) (g : Bool) (n : Nat) (p : Arg) : Option (AV × Heap) := match rdF H (opv F p) n with
  | some cs => (mkv g cs).map fun v => (v,H)
  | none => none
noncomputable def xO6 (opv : List AV → Arg → AV) (R : Rec) (F : List AV) (H : Heap) (n : Nat) (p : Arg) (v : Arg) : Option (AV × Heap) := let cs := (opv F v).cells; if cs.length = n then (wrF H (opv F p) cs).map fun H' => (.tup [],H') else none
def xSz (opv : List AV → Arg → AV) (R : Rec) (F : List AV) (H : Heap) (x : Arg) : Option (AV × Heap) := match opv F x with
  | .ptr id off => some (.ptr id off,H)
  | .vptr cs off => some (.vptr cs off,H)
  | .func f caps => some (.func f caps,H)
  | .yield l => some (.yield l,H)
  | _ => none
def xZ7 (opv : List AV → Arg → AV) (R : Rec) (F : List AV) (H : Heap) (op : BinOp) (x : Arg) (y : Arg) : Option (AV × Heap) := (xDQ op (opv F x) (opv F y)).map fun v => (v,H)
def xZ8 (opv : List AV → Arg → AV) (R : Rec) (F : List AV) (H : Heap) (neg : Bool) (x : Arg) (y : Arg) : Option (AV × Heap) := match opv F x,opv F y with
  | .bool a,.bool b => some (.bool (if neg then a != b else a == b),H)
  | _,_ => none
def xVN (opv : List AV → Arg → AV) (R : Rec) (F : List AV) (H : Heap) (neg : Bool) (x : Arg) : Option (AV × Heap) := match opv F x with
  | .sl z _ _ => some (.bool (z != neg),H)
  | .own z _ _ _ _ => some (.bool (z != neg),H)
  | _ => none
def yB7 (opv : List AV → Arg → AV) (R : Rec) (F : List AV) (H : Heap) (op : UnOp) (x : Arg) : Option (AV × Heap) := (unA op (opv F x)).map fun v => (v,H)
def xX4 (opv : List AV → Arg → AV) (R : Rec) (F : List AV) (H : Heap) (k : IntKind) (x : Arg) : Option (AV × Heap) := match opv F x with
  | .int _ n => some (.int k (k.wrap n),H)
  | _ => none
def xSA (opv : List AV → Arg → AV) (R : Rec) (F : List AV) (H : Heap) (f : Nat) (caps : List Arg) : Option (AV × Heap) := some (.func f (caps.map (opv F)),H)
def xQY (opv : List AV → Arg → AV) (R : Rec) (F : List AV) (H : Heap) (fz : Bool) (z : List AV) (bytes : Nat) (l : Arg) (c : Arg) : Option (AV × Heap) := match opv F l,opv F c with
  | .int _ l,.int _ c => if 0 ≤ l ∧ l ≤ c ∧ c * bytes ≤ xAY ∧ c ≤ xAY ∧ z.all AV.isCell = true then xDR fz false l.toNat z.length (xCo z l.toNat) H else none
  | _,_ => none
def xVO (opv : List AV → Arg → AV) (R : Rec) (F : List AV) (H : Heap) (es : Nat) (x : Arg) (lo : Option Arg) (hi : Option Arg) (mx : Option Arg) : Option (AV × Heap) := match opv F x with
  | .sl z n cs => if cs.length = n * es then (xBa n (lo.map (opv F)) (hi.map (opv F)) (mx.map (opv F))).map fun (l,h) => (.sl z (h - l) ((cs.drop (l * es)).take ((h - l) * es)),H) else none
  | .own z id off n es' => if es' = es then (xBa n (lo.map (opv F)) (hi.map (opv F)) (mx.map (opv F))).map fun (l,h) => (.own z id (off + l * es) (h - l) es,H) else none
  | _ => none
def xVP (opv : List AV → Arg → AV) (R : Rec) (F : List AV) (H : Heap) (o : Nat) (x : Arg) : Option (AV × Heap) := match opv F x with
  | .ptr id off => some (.ptr id (off + o),H)
  | .vptr cs off => some (.vptr cs (off + o),H)
  | _ => none
def xVQ (opv : List AV → Arg → AV) (R : Rec) (F : List AV) (H : Heap) (g : Bool) (off : Nat) (n : Nat) (x : Arg) : Option (AV × Heap) := match opv F x with
  | .agg cs => if off + n ≤ cs.length then (mkv g ((cs.drop off).take n)).map fun v => (v,H) else none
  | _ => none
def xVR (opv : List AV → Arg → AV) (R : Rec) (F : List AV) (H : Heap) (es : Nat) (x : Arg) (i : Arg) : Option (AV × Heap) := match opv F x,xBj (opv F i) with
  | .sl _ n cs,some i => if i < n then some (.vptr cs (i * es),H) else none
  | .own _ id off n es',some i => if i < n ∧ es' = es then some (.ptr id (off + i * es),H) else none
  | _,_ => none
def xZ9 (opv : List AV → Arg → AV) (R : Rec) (F : List AV) (H : Heap) (i : Nat) (x : Arg) : Option (AV × Heap) := match opv F x with
  | .tup vs => (vs[i]?).map fun v => (v,H)
  | _ => none
def yAa (opv : List AV → Arg → AV) (R : Rec) (F : List AV) (H : Heap) (x : Arg) : Option (AV × Heap) := match opv F x with
  | .sl _ n _ => some (.int .i64 n,H)
  | .own _ _ _ n _ => some (.int .i64 n,H)
  | _ => none
def yAb (opv : List AV → Arg → AV) (R : Rec) (F : List AV) (H : Heap) (x : Arg) : Option (AV × Heap) := match opv F x with
  | .sl true _ _ => some (.int .i64 0,H)
  | _ => none
def yAc (opv : List AV → Arg → AV) (R : Rec) (F : List AV) (H : Heap) (neg : Bool) (n : Nat) (x : Arg) (y : Arg) : Option (AV × Heap) := match opv F x,opv F y with
  | .agg cs,.agg ds => if cs.length = n then (xB1 cs ds).map fun b => (.bool (b != neg),H) else none
  | _,_ => none
noncomputable def xLV (opv : List AV → Arg → AV) (R : Rec) (F : List AV) (H : Heap) (fz : Bool) (es : Nat) (bytes : Nat) (x : Arg) (y : Arg) : Option (AV × Heap) := match src H es (opv F y) with
  | none => none
  | some (m,ys) => match opv F x with
   | .sl true _ _ => if m * bytes ≤ xAY ∧ m ≤ xAY then xDR fz (m == 0) m es ys H else none
   | .own z id off n es' => match H[id]? with
    | some (.cells false _ cs) => if off = 0 ∧ es' = es ∧ n * es ≤ xX2 cs ∧ (n + m) * bytes ≤ xAY ∧ n + m ≤ xAY then
      some (.own (z && m == 0) H.length 0 (n + m) es,H.set id .dead ++ [.cells false (z && m == 0) (tkA ys cs (n * es))]) else none
    | _ => none
   | _ => none
def xQZ (opv : List AV → Arg → AV) (R : Rec) (F : List AV) (H : Heap) (z : List AV) (bytes : Nat) (x : Arg) (n : Arg) : Option (AV × Heap) := match xBj (opv F n),opv F x with
  | some m,.sl true _ _ => if m * bytes ≤ xAY ∧ m ≤ xAY ∧ z.all AV.isCell = true then xDR false (m == 0) m z.length (xCo z m) H else none
  | some m,.own false id off k es' => match H[id]? with
   | some (.cells false _ cs) => if off = 0 ∧ es' = z.length ∧ k * z.length ≤ cs.length ∧ (k + m) * bytes ≤ xAY ∧ k + m ≤ xAY ∧ 0 < m ∧ z.all AV.isCell = true then
     some (.own false H.length 0 (k + m) z.length,H.set id .dead ++ [.cells false false (cs.take (k * z.length) ++ xCo z m)]) else none
   | _ => none
  | _,_ => none
def xQ0 (opv : List AV → Arg → AV) (R : Rec) (F : List AV) (H : Heap) (es : Nat) (bytes : Nat) (x : Arg) (y : Arg) : Option (AV × Heap) := match xEV H with
  | none => none
  | some h => (appB H es bytes (opv F x) (opv F y)).map fun r => (.own r.1 h 0 r.2.1 es,(xBN r.2.2.2 H).set h (.cells false r.1 r.2.2.1))
def xX5 (opv : List AV → Arg → AV) (R : Rec) (F : List AV) (H : Heap) (_u0 : Nat) (_u1 : Arg) (_u2 : Arg) : Option (AV × Heap) := none
def xX6 (opv : List AV → Arg → AV) (R : Rec) (F : List AV) (H : Heap) (x : Arg) (y : Arg) : Option (AV × Heap) := match opv F x,opv F y with
  | .int k a,.int _ b => some (.int k (if b > a then b else a),H)
  | _,_ => none
def xX7 (opv : List AV → Arg → AV) (R : Rec) (F : List AV) (H : Heap) (x : Arg) (y : Arg) : Option (AV × Heap) := match opv F x,opv F y with
  | .int k a,.int _ b => some (.int k (if b < a then b else a),H)
  | _,_ => none
def xX8 (opv : List AV → Arg → AV) (R : Rec) (F : List AV) (H : Heap) (f : Nat) (args : List Arg) : Option (AV × Heap) := xBE R f (args.map (opv F)) H
def xVS (opv : List AV → Arg → AV) (R : Rec) (F : List AV) (H : Heap) (f : Arg) (args : List Arg) : Option (AV × Heap) := R.icall (opv F f) (args.map (opv F)) H
def xVT (opv : List AV → Arg → AV) (R : Rec) (F : List AV) (H : Heap) (f : Arg) (args : List Arg) : Option (AV × Heap) := match opv F f with
  | .func g caps => xBE R g (args.map (opv F) ++ caps) H
  | _ => none
def yAd (opv : List AV → Arg → AV) (R : Rec) (F : List AV) (H : Heap) (g : Bool) (es : Nat) (len : Nat) (x : Arg) (i : Arg) : Option (AV × Heap) := match opv F x,xBj (opv F i) with
  | .agg cs,some j => if j < len ∧ j * es + es ≤ cs.length then (mkv g ((cs.drop (j * es)).take es)).map fun v => (v,H) else none
  | _,_ => none
def xVU (opv : List AV → Arg → AV) (R : Rec) (F : List AV) (H : Heap) (es : Nat) (len : Nat) (x : Arg) (i : Arg) : Option (AV × Heap) := match opv F x,xBj (opv F i) with
  | .ptr id off,some j => if j < len then some (.ptr id (off + j * es),H) else none
  | .vptr cs off,some j => if j < len then some (.vptr cs (off + j * es),H) else none
  | _,_ => none
def xX9 (opv : List AV → Arg → AV) (R : Rec) (F : List AV) (H : Heap) (b : Nat) (es : Nat) (len : Nat) (i : Arg) : Option (AV × Heap) := match xVG b,xBj (opv F i) with
  | some cs,some j => if j < len then some (.vptr cs (j * es),H) else none
  | _,_ => none
def xYa (opv : List AV → Arg → AV) (R : Rec) (F : List AV) (H : Heap) (x : Arg) (i : Arg) : Option (AV × Heap) := match opv F x,xBj (opv F i) with
  | .str s,some j => (s[j]?).map fun b => (.int .u8 b.toNat,H)
  | _,_ => none
def xYb (opv : List AV → Arg → AV) (R : Rec) (F : List AV) (H : Heap) (x : Arg) : Option (AV × Heap) := match opv F x with
  | .str s => some (.int .i64 s.size,H)
  | _ => none
def yB8 (opv : List AV → Arg → AV) (R : Rec) (F : List AV) (H : Heap) (mx : Bool) (xs : List Arg) : Option (AV × Heap) := match xs.map (opv F) with
  | [] => none
  | x :: r => (mmA mx x r).map fun v => (v,H)
def xSB (opv : List AV → Arg → AV) (R : Rec) (F : List AV) (H : Heap) (x : Arg) (lo : Option Arg) (hi : Option Arg) : Option (AV × Heap) := match opv F x with
  | .str s => (xBa s.size (lo.map (opv F)) (hi.map (opv F)) none).map fun (l,h) => (.str (s.extract l h),H)
  | _ => none
def xYc (opv : List AV → Arg → AV) (R : Rec) (F : List AV) (H : Heap) (neg : Bool) (x : Arg) (y : Arg) : Option (AV × Heap) := match opv F x,opv F y with
  | .str s,.str t => some (.bool ((s.toList == t.toList) != neg),H)
  | _,_ => none
def xQ1 (opv : List AV → Arg → AV) (R : Rec) (F : List AV) (H : Heap) (f : Nat) (first : List Arg) : Option (AV × Heap) := some (.bfunc f (first.map (opv F)),H)
def xVV (opv : List AV → Arg → AV) (R : Rec) (F : List AV) (H : Heap) (f : Arg) (args : List Arg) : Option (AV × Heap) := match opv F f with
  | .bfunc g first => R.icall (.func g []) (first ++ args.map (opv F)) H
  | _ => none
def xVW (opv : List AV → Arg → AV) (R : Rec) (F : List AV) (H : Heap)  : Option (AV × Heap) := some (.mp H.length,H ++ [.mp []])
def xVX (opv : List AV → Arg → AV) (R : Rec) (F : List AV) (H : Heap) (ks : List Nat) (comma : Bool) (z : AV) (x : Arg) (k : Arg) : Option (AV × Heap) := if xBw ks (opv F k) then match xVe H (opv F x) with
  | none => none
  | some es => match xIs (opv F k) es with
   | none => none
   | some none => some (if comma then .tup [z,.bool false] else z,H)
   | some (some v) => some (if comma then .tup [v,.bool true] else v,H)
  else none
def xYd (opv : List AV → Arg → AV) (R : Rec) (F : List AV) (H : Heap) (ks : List Nat) (z : AV) (m : Arg) (k : Arg) : Option (AV × Heap) := if xBw ks (opv F k) then match opv F m with
  | .mp id => match H[id]? with
   | some (.mp es) => (xR7 (opv F k) z es 0).map fun r => (.tup [r.1,.int .i64 (r.2.1 : Nat)],H.set id (.mp r.2.2))
   | _ => none
  | _ => none
  else none
def xSC (opv : List AV → Arg → AV) (R : Rec) (F : List AV) (H : Heap) (m : Arg) (s : Arg) (v : Arg) : Option (AV × Heap) := match opv F m,opv F s with
  | .mp id,.int .i64 n => match H[id]? with
   | some (.mp es) => if 0 ≤ n then (es[n.toNat]?).map fun e => (.tup [],H.set id (.mp (es.set n.toNat (e.1,opv F v)))) else none
   | _ => none
  | _,_ => none
def xYe (opv : List AV → Arg → AV) (R : Rec) (F : List AV) (H : Heap) (ks : List Nat) (m : Arg) (k : Arg) (v : Arg) : Option (AV × Heap) := if xBw ks (opv F k) then match opv F m with
  | .mp id => match H[id]? with
   | some (.mp es) => (xVH (opv F k) (opv F v) es).map fun es' => (.tup [],H.set id (.mp es'))
   | _ => none
  | _ => none
  else none
def xYf (opv : List AV → Arg → AV) (R : Rec) (F : List AV) (H : Heap) (x : Arg) : Option (AV × Heap) := (xVe H (opv F x)).map fun es => (.int .i64 es.length,H)
def xYg (opv : List AV → Arg → AV) (R : Rec) (F : List AV) (H : Heap) (neg : Bool) (x : Arg) : Option (AV × Heap) := match opv F x with
  | .nilm => some (.bool (true != neg),H)
  | .mp _ => some (.bool (false != neg),H)
  | _ => none
def xYh (opv : List AV → Arg → AV) (R : Rec) (F : List AV) (H : Heap) (neg : Bool) (x : Arg) : Option (AV × Heap) := match opv F x with
  | .ptr _ _ => some (.bool (false != neg),H)
  | .nilp => some (.bool (true != neg),H)
  | _ => none
def xSD (opv : List AV → Arg → AV) (R : Rec) (F : List AV) (H : Heap) (fz : Bool) (x : Arg) : Option (AV × Heap) := match opv F x with
  | .str s => xDR fz false s.size 1 (xCp s) H
  | _ => none
def xYi (opv : List AV → Arg → AV) (R : Rec) (F : List AV) (H : Heap) (x : Arg) : Option (AV × Heap) := match src H 1 (opv F x) with
  | some (_,cs) => (xIt cs).map fun bs => (.str ⟨⟨bs⟩⟩,H)
  | none => none
def xYj (opv : List AV → Arg → AV) (R : Rec) (F : List AV) (H : Heap) (x : Arg) (y : Arg) : Option (AV × Heap) := match opv F x,opv F y with
  | .str s,.str t => if s.size + t.size ≤ 9223372036854775807 then some (.str ⟨⟨s.data.toList ++ t.data.toList⟩⟩,H) else none
  | _,_ => none
def xVY (opv : List AV → Arg → AV) (R : Rec) (F : List AV) (H : Heap) (f : Nat) (args : List Arg) : Option (AV × Heap) := match (args.map (opv F)).mapM (frz frzN H) with
  | none => none
  | some args' => match xCW R f args' with
   | none => none
   | some (v,B) => some (xCV H.length v,fzIds H ((args.map (opv F)).flatMap (bor frzN H)) ++ B)
def xSE (opv : List AV → Arg → AV) (R : Rec) (F : List AV) (H : Heap) (f : Nat) (args : List Arg) : Option (AV × Heap) := match (args.map (opv F)).mapM (frz frzN H) with
  | none => none
  | some args' => match xHg R f args' with
   | none => none
   | some (v,B) => some (xCV H.length v,fzIds H ((args.map (opv F)).flatMap (bor frzN H)) ++ B.map (xHf H.length))
noncomputable def xKI (R : Rec) (F : List AV) (H : Heap) : AOp → Option (AV × Heap)
 | .mov x => xZ5 xBP R F H x
 | .pick c a b => xX3 xBP R F H c a b
 | .box x => xZ6 xBP R F H x
 | .build z parts => xVM xBP R F H z parts
 | .bslice fz z es n parts => xSw xBP R F H fz z es n parts
 | .dslice z es n parts => xSx xBP R F H z es n parts
 | .load g n p => xSy xBP R F H g n p
 | .store n p v => xO6 xBP R F H n p v
 | .nilchk x => xSz xBP R F H x
 | .bin op x y => xZ7 xBP R F H op x y
 | .beq neg x y => xZ8 xBP R F H neg x y
 | .isnil neg x => xVN xBP R F H neg x
 | .un op x => yB7 xBP R F H op x
 | .conv k x => xX4 xBP R F H k x
 | .mkfunc f caps => xSA xBP R F H f caps
 | .mkslice fz z bytes l c => xQY xBP R F H fz z bytes l c
 | .slice es x lo hi mx => xVO xBP R F H es x lo hi mx
 | .faddr o x => xVP xBP R F H o x
 | .field g off n x => xVQ xBP R F H g off n x
 | .iaddr es x i => xVR xBP R F H es x i
 | .ext i x => xZ9 xBP R F H i x
 | .len x => yAa xBP R F H x
 | .cap x => yAb xBP R F H x
 | .aeq neg n x y => yAc xBP R F H neg n x y
 | .append fz es bytes x y => xLV xBP R F H fz es bytes x y
 | .appendz z bytes x n => xQZ xBP R F H z bytes x n
 | .appendh es bytes x y => xQ0 xBP R F H es bytes x y
 | .copy _u0 _u1 _u2 => xX5 xBP R F H _u0 _u1 _u2
 | .maxi x y => xX6 xBP R F H x y
 | .mini x y => xX7 xBP R F H x y
 | .call f args => xX8 xBP R F H f args
 | .icall f args => xVS xBP R F H f args
 | .fcall f args => xVT xBP R F H f args
 | .idx g es len x i => yAd xBP R F H g es len x i
 | .arrat es len x i => xVU xBP R F H es len x i
 | .garr b es len i => xX9 xBP R F H b es len i
 | .sidx x i => xYa xBP R F H x i
 | .slen x => xYb xBP R F H x
 | .mm mx xs => yB8 xBP R F H mx xs
 | .sslice x lo hi => xSB xBP R F H x lo hi
 | .sbeq neg x y => xYc xBP R F H neg x y
 | .mkbound f first => xQ1 xBP R F H f first
 | .bcall f args => xVV xBP R F H f args
 | .mkmap  => xVW xBP R F H 
 | .mlook ks comma z x k => xVX xBP R F H ks comma z x k
 | .ment ks z m k => xYd xBP R F H ks z m k
 | .mstore m s v => xSC xBP R F H m s v
 | .mupd ks m k v => xYe xBP R F H ks m k v
 | .mlen x => xYf xBP R F H x
 | .mnil neg x => xYg xBP R F H neg x
 | .pnil neg x => xYh xBP R F H neg x
 | .sbytes fz x => xSD xBP R F H fz x
 | .bstr x => xYi xBP R F H x
 | .sadd x y => xYj xBP R F H x y
 | .ocall f args => xVY xBP R F H f args
 | .ocallw f args => xSE xBP R F H f args
theorem xIV (R : Rec) (F : List AV) (H : Heap) (op : AOp) : xKI R F H op = xAa R F H op := by
 cases op <;> simp only [xKI,xSt] <;> first | rfl | (simp only [xSy,xZ3]; rfl) | (simp only [xO6,xZ4]; rfl) | (simp only [xLV,xHo,xWJ]; rfl)
def fN {α : Type} (a : Nat) (k : Nat → α) : α := match a with
 | 0 => k 0
 | n + 1 => k (n + 1)
theorem yAe {α : Type} (a : Nat) (k : Nat → α) : fN a k = k a := by cases a <;> rfl
def fI {α : Type} (x : Int) (k : Int → α) : α := match x with
 | .ofNat a => fN a fun a => k (.ofNat a)
 | .negSucc a => fN a fun a => k (.negSucc a)
theorem yB9 {α : Type} (x : Int) (k : Int → α) : fI x k = k x := by cases x <;> simp only [fI,yAe]
def fBo {α : Type} (x : Bool) (k : Bool → α) : α := match x with
 | true => k true
 | false => k false
theorem yAf {α : Type} (x : Bool) (k : Bool → α) : fBo x k = k x := by cases x <;> rfl
def fV {α : Type} (v : AV) (k : AV → α) : α := match v with
 | .int kd n => fI n fun n => k (.int kd n)
 | .bool b => fBo b fun b => k (.bool b)
 | .ptr i o => fN i fun i => fN o fun o => k (.ptr i o)
 | .own z i o n e => fBo z fun z => fN i fun i => fN o fun o => fN n fun n => fN e fun e => k (.own z i o n e)
 | .sl z n cs => fN n fun n => k (.sl z n cs)
 | v => k v
theorem xYk {α : Type} (v : AV) (k : AV → α) : fV v k = k v := by
 cases v <;> simp only [fV,yB9,yAf,yAe]
noncomputable def fS {α : Type} (l : List AV) : (List AV → α) → α := List.rec (motive := fun _ => (List AV → α) → α) (fun k => k []) (fun v _ ih k => ih fun vs => k (v :: vs)) l
theorem xVZ {α : Type} : ∀ (l : List AV) (k : List AV → α),fS l k = k l
 | [],k => rfl
 | v :: vs,k => by
  show fS vs (fun vs => k (v :: vs)) = _
  rw [xVZ vs]
def fL {α : Type} : List AV → (List AV → α) → α
 | [],k => k []
 | v :: vs,k => fV v fun v => fL vs fun vs => k (v :: vs)
theorem yAg {α : Type} : ∀ (l : List AV) (k : List AV → α),fL l k = k l
 | [],k => rfl
 | v :: vs,k => by rw [fL,xYk,yAg vs]
def fB {α : Type} (b : Blk) (k : Blk → α) : α := match b with
 | .cells fz z cs => fL cs fun cs => k (.cells fz z cs)
 | b => k b
theorem yCa {α : Type} (b : Blk) (k : Blk → α) : fB b k = k b := by
 cases b <;> first | rfl | simp only [fB,yAg]
noncomputable def fAt {α : Type} (l : List Blk) : Nat → (List Blk → α) → α := List.rec (motive := fun _ => Nat → (List Blk → α) → α) (fun _ k => k []) (fun b bs ih n k => Nat.casesOn (motive := fun _ => α) n (fB b fun b => k (b :: bs)) (fun m => ih m fun bs => k (b :: bs))) l
theorem xWK {α : Type} : ∀ (l : List Blk) (n : Nat) (k : List Blk → α),fAt l n k = k l
 | [],n,k => rfl
 | b :: bs,0,k => by
  show fB b (fun b => k (b :: bs)) = _
  rw [yCa]
 | b :: bs,n + 1,k => by
  show fAt bs n (fun bs => k (b :: bs)) = _
  rw [xWK bs]
noncomputable def yDO (l : List Blk) : Nat := List.rec (motive := fun _ => Nat) 0 (fun _ _ n => n + 1) l
noncomputable def yCb (F : List AV) (H : List Blk) : AOp → Nat
 | .store _ p _ => match xBP F p with
  | .ptr id _ => id
  | _ => 0
 | _ => yDO H
def yAh : AOp → Bool
 | .mov _ | .pick .. | .bin .. | .beq .. | .aeq .. | .un .. | .conv .. | .ext .. | .faddr .. | .field .. | .iaddr .. | .len _ | .cap _ | .isnil .. | .maxi .. | .mini .. | .nilchk _ | .mkfunc .. | .slice .. | .idx .. | .arrat .. | .garr .. | .sidx .. | .slen .. | .mm .. | .sslice .. | .sbeq .. | .mkbound .. | .load .. | .build .. | .mlook .. | .mlen _ | .mnil .. | .pnil .. => true
 | _ => false
noncomputable def xYl (d : Option Nat) (F : List AV) (keep : Bool) (sp : Nat) : Option (AV × Heap) → Option St
 | some (v,H) => fV v fun v => fS (yB5 F d v) fun F => if keep then some ⟨F,H⟩ else fAt H sp fun H => some ⟨F,H⟩
 | none => none
theorem xV0 (d : Option Nat) (F : List AV) (keep : Bool) (sp : Nat) (x : Option (AV × Heap)) : xYl d F keep sp x = x.map fun (v,H) => ⟨putA F d v,H⟩ := by
 cases x with
 | none => rfl
 | some p =>
  obtain ⟨v,H⟩ := p
  simp only [xYl,xYk,xVZ,xWK,ite_self,xSu]
  rfl
def yAi (o : AOper) (s : St) (r : Option St) : Option Bool → Option St
 | none => none
 | some false => some ⟨putA s.F o.dst (.tup []),s.H⟩
 | some true => r
noncomputable def xEY (R : Rec) (o : AOper) (s : St) : Option St := yAi o s (xYl o.dst s.F (yAh o.op) (yCb s.F s.H o.op) (xKI R s.F s.H o.op)) (xBF s.F o.guard)
theorem xLW (R : Rec) (o : AOper) (s : St) : xEY R o s = xAG R o s := by
 unfold xEY xAG
 rw [xIV,xV0]
 split <;> rename_i e <;> rw [e] <;> rfl
noncomputable def xV1 (k : St → Option St) : Option St → Option St
 | some s => k s
 | none => none
noncomputable def xEw (R : Rec) (ops : List AOper) : St → Option St := List.rec (motive := fun _ => St → Option St) (fun s => some s) (fun o _ ih s => xV1 ih (xEY R o s)) ops
theorem xD9 (R : Rec) : ∀ (ops : List AOper) (s : St),xEw R ops s = xAr R ops s
 | [],s => rfl
 | o :: rest,s => by
  show xV1 (xEw R rest) (xEY R o s) = _
  simp only [xAr,xLW]
  cases xAG R o s with
  | none => rfl
  | some s' => exact xD9 R rest s'
def xYm : AOp → Bool
 | .call .. | .fcall .. | .append .. | .box .. | .bslice .. | .mkslice .. | .appendz .. | .appendh .. | .copy .. | .icall .. | .bcall .. | .store .. | .ocall .. | .ocallw .. | .mkmap | .mupd .. | .ment .. | .mstore .. | .sbytes .. => true
 | _ => false
noncomputable def xN4 (R : Rec) (F : List AV) (H : Heap) (op : AOp) : Option AV := if xYm op then xAt R F H op else (xKI R F H op).map (·.1)
theorem xQ2 (R : Rec) (F : List AV) (H : Heap) (op : AOp) : xN4 R F H op = xAt R F H op := by
 unfold xN4
 rw [xIV]
 cases op <;> rfl
noncomputable def frF (d : Option Nat) (s : St) : Option AV → Option St
 | some v => fV v fun v => fS (yB5 s.F d v) fun F => some ⟨F,s.H⟩
 | none => none
theorem yAj (d : Option Nat) (s : St) (x : Option AV) : frF d s x = x.map fun v => ⟨putA s.F d v,s.H⟩ := by
 cases x with
 | none => rfl
 | some v => simp only [frF,xYk,xVZ,xSu]; rfl
noncomputable def xEZ (R : Rec) (o : AOper) (s : St) : Option St := yAi o s (frF o.dst s (xN4 R s.F s.H o.op)) (xBF s.F o.guard)
theorem xLX (R : Rec) (o : AOper) (s : St) : xEZ R o s = xAP R o s := by
 unfold xEZ xAP
 rw [xQ2,yAj]
 split <;> rename_i e <;> rw [e] <;> rfl
noncomputable def xKJ (R : Rec) (ops : List AOper) : St → Option St := List.rec (motive := fun _ => St → Option St) (fun s => some s) (fun o _ ih s => xV1 ih (xEZ R o s)) ops
theorem xHp (R : Rec) : ∀ (ops : List AOper) (s : St),xKJ R ops s = xA6 R ops s
 | [],s => rfl
 | o :: rest,s => by
  show xV1 (xKJ R rest) (xEZ R o s) = _
  simp only [xA6,xLX]
  cases xAP R o s with
  | none => rfl
  | some s' => exact xHp R rest s'
noncomputable def yDt (k : St → Option (AExit × St)) : Option (AExit × St) → Option (AExit × St)
 | some (.normal,s') => k s'
 | r => r
noncomputable def yAk (x y : Option (AExit × St)) : AV → Option (AExit × St)
 | .bool t => if t then x else y
 | _ => none
def xWL (id : Nat) : Option (AExit × St) → Option (AExit × St)
 | some (.exit i,s') => if i = id then some (.normal,s') else some (.exit i,s')
 | r => r
def yBR : Option St → Option (AExit × St)
 | some s => some (.normal,s)
 | none => none
noncomputable def xYn (R : Rec) (m : Nat) (ops : List AOper) (s : St) : Option (AExit × St) := match xKJ R (ops.take m) s with
 | none => none
 | some s1 => yBR (xEw R (ops.drop m) (adopt (ops.take m) s1))
def yDu (i : Nat) (k : AV → Option (AExit × St)) : Option AV → Option (AExit × St)
 | some v => k v
 | none => none
noncomputable def xV2 (R : Rec) (c : ACode) : St → Option (AExit × St) :=
 ACode.rec (motive := fun _ => St → Option (AExit × St))
  (fun s => some (.normal,s)) (fun ops s => yBR (xEw R ops s)) (fun m ops s => xYn R m ops s) (fun ls m ops s => run R (.drawl ls m ops) s)
  (fun als ls m ops s => run R (.drawp als ls m ops) s) (fun hs als ls m ops s => run R (.drawh hs als ls m ops) s) (fun σ als ls m ops s => run R (.drawt σ als ls m ops) s) (fun _ ih s => ih ⟨s.F,s.H ++ [.cells true true []]⟩)
  (fun ss _ ih s => ih ⟨s.F,fzIds s.H (ss.flatMap fun i => bor frzN s.H (s.F.getD i .any))⟩) (fun i _ ih s => yDu i (fun v => ih ⟨s.F.set i v,fzIds s.H (bor frzN s.H (s.F.getD i .any))⟩) (frz frzN s.H (s.F.getD i .any))) (fun _ _ iha ihb s => yDt ihb (iha s)) (fun c _ _ iha ihb s => yAk (iha s) (ihb s) (xBP s.F c))
  (fun id _ ih s => xWL id (ih s)) (fun scr b _ s => R.loop scr b s) (fun f ps asg body _ _ s => run R (.range f ps asg body) s) (fun id s => some (.exit id,s)) (fun _ ih s => ih s)
  (fun s => some (.normal,s)) (fun s => some (.ret,s)) (fun _ => none) c
theorem xSF (x : Option St) : yBR x = x.map fun s' => (.normal,s') := by cases x <;> rfl
theorem xN5 (R : Rec) (c : ACode) : ∀ s,xV2 R c s = run R c s := by
 induction c <;> intro s
 case region ops => show yBR (xEw R ops s) = _; simp only [run,xD9,xSF]
 case draw m ops =>
  show xYn R m ops s = _
  simp only [run,xYn,xHp,xD9,xSF]
  cases xA6 R (ops.take m) s <;> rfl
 case seq a b iha ihb =>
  show yDt (xV2 R b) (xV2 R a s) = _
  simp only [run,iha]
  cases run R a s with
  | none => rfl
  | some p =>
   obtain ⟨e,s'⟩ := p
   cases e with
   | normal => exact ihb s'
   | exit i => rfl
   | ret => rfl
 case cond c a b iha ihb =>
  show yAk (xV2 R a s) (xV2 R b s) (xBP s.F c) = _
  simp only [run,iha,ihb,xSt]
  cases opv s.F c <;> rfl
 case block id b ih =>
  show xWL id (xV2 R b s) = _
  simp only [run,ih]
  cases run R b s with
  | none => rfl
  | some p => obtain ⟨e,s'⟩ := p; cases e <;> rfl
 case scope b ih => exact ih s
 case fz ss b ih => exact ih _
 case hole b ih => exact ih _
 case fzs i b ih =>
  show yDu i _ _ = _
  simp only [run]
  cases frz frzN s.H (s.F.getD i .any) with
  | none => rfl
  | some v => exact ih _
 all_goals rfl
def yDP (fn : AFunc) : Option (AExit × St) → Option (AV × Heap)
 | some (.normal,s) | some (.ret,s) => (xA1 fn.results s).map fun v => (v,s.H)
 | _ => none
noncomputable def xV3 (R : Rec) (fn : AFunc) (args : List AV) (H : Heap) : Option (AV × Heap) := yDP fn (xV2 R fn.code (xLN fn args H))
theorem xO7 (R : Rec) (fn : AFunc) (args : List AV) (H : Heap) : xV3 R fn args H = xBb R fn args H := by
 unfold xV3 xBb
 rw [xN5]
 cases run R fn.code (xLN fn args H) with
 | none => rfl
 | some p => obtain ⟨e,s'⟩ := p; cases e <;> rfl
def yDQ : Option (AV × Heap) → Option AV
 | some (r,H') => frz frzN H' r
 | none => Option.none
def xHq : List AV → Nat → List Nat → List AV
 | [],_,_ => []
 | v :: F,_,[] => v :: F
 | v :: F,i,s :: scr => if s = i then .any :: xHq F (i + 1) scr else v :: xHq F (i + 1) (s :: scr)
def asc : List Nat → Nat → Bool
 | [],_ => true
 | s :: r,lo => decide (lo ≤ s) && asc r (s + 1)
theorem xWM : ∀ {scr : List Nat} {lo : Nat},asc scr lo = true → ∀ s ∈ scr,lo ≤ s
 | [],_,_,s,h => by cases h
 | s0 :: r,lo,h,s,hs => by
  simp only [asc,Bool.and_eq_true,decide_eq_true_eq] at h
  rcases List.mem_cons.1 hs with rfl | hs
  ·exact h.1
  ·have := xWM h.2 s hs; omega
theorem xYo : ∀ {scr : List Nat} {lo lo' : Nat},asc scr lo = true → (∀ s ∈ scr,lo' ≤ s) → asc scr lo' = true
 | [],_,_,_,_ => rfl
 | s0 :: r,lo,lo',h,hl => by
  simp only [asc,Bool.and_eq_true,decide_eq_true_eq] at h ⊢
  exact ⟨hl s0 (by simp),h.2⟩
theorem xFz : ∀ (F : List AV) (i : Nat) (scr : List Nat),asc scr i = true → ∀ j,(xHq F i scr)[j]? = if i + j ∈ scr then (F[j]?).map (fun _ => AV.any) else F[j]?
 | [],i,scr,h,j => by simp [xHq]
 | v :: F,i,[],h,j => by simp [xHq]
 | v :: F,i,s :: scr,h,j => by
  have h' := h
  simp only [asc,Bool.and_eq_true,decide_eq_true_eq] at h'
  unfold xHq
  by_cases e : s = i
  ·subst e
   rw [if_pos rfl]
   cases j with
   | zero => simp
   | succ j =>
    rw [List.getElem?_cons_succ,xFz F (s + 1) scr h'.2 j,List.getElem?_cons_succ]
    have : (s + 1 + j ∈ scr) ↔ (s + (j + 1) ∈ s :: scr) := by
     rw [show s + (j + 1) = s + 1 + j by omega,List.mem_cons]
     exact ⟨.inr,fun q => q.elim (fun q => by omega) id⟩
    simp only [this]
  ·rw [if_neg e]
   have hm : ∀ x ∈ s :: scr,i + 1 ≤ x := fun x hx => by
    rcases List.mem_cons.1 hx with rfl | hx
    ·omega
    ·have := xWM h'.2 x hx; omega
   cases j with
   | zero =>
    have : ¬ (i + 0 ∈ s :: scr) := fun q => by have := hm _ q; omega
    rw [if_neg this]; rfl
   | succ j =>
    rw [List.getElem?_cons_succ,xFz F (i + 1) (s :: scr) (xYo h hm) j,List.getElem?_cons_succ]
    simp only [show i + (j + 1) = i + 1 + j by omega]
def xO8 (scr : List Nat) (F : List AV) : List AV := if asc scr 0 then xHq F 0 scr else xAs scr F
theorem xLY (scr : List Nat) (F : List AV) : xO8 scr F = xAs scr F := by
 unfold xO8
 split
 ·rename_i h
  apply List.ext_getElem?
  intro j
  rw [xFz F 0 scr h j,xEa]
  simp only [Nat.zero_add]
 ·rfl
noncomputable def xWN (R : Rec) (scr : List Nat) (b : ACode) : Option (AExit × St) → Option (AExit × St)
 | some (.normal,s') => R.loop scr b s'
 | some (e,s') => some (e,⟨xO8 scr s'.F,s'.H⟩)
 | none => none
noncomputable def yAl (prog : Nat → Option AFunc) (R : Rec) (args : List AV) (H : Heap) : AV → Option (AV × Heap)
 | .func f caps => match prog f with
  | some fn => xV3 R fn (args ++ caps) H
  | none => Option.none
 | f => xCX prog R f args H
noncomputable def xYp (prog : Nat → Option AFunc) (R : Rec) : Rec where
 pcall f args := match prog f with
  | some fn => yDQ (xV3 R fn args [])
  | none => primA f args
 icall f args H := yAl prog R args H f
 loop scr b s := fS (xO8 scr s.F) fun F => xWN R scr b (xV2 R b ⟨F,s.H⟩)
theorem xV4 (prog : Nat → Option AFunc) (R : Rec) : xYp prog R = xCL prog R := by
 unfold xYp xCL
 congr 1
 ·funext f args
  cases prog f with
  | none => rfl
  | some fn =>
   simp only [xAw,xO7]
   cases xBb R fn args [] <;> rfl
 ·funext f args H
  unfold yAl
  split
  ·rename_i g caps
   simp only [xCX,xO7]
   cases prog g <;> rfl
  ·rfl
 ·funext scr b s
  simp only [xHi,xN5,xVZ,xLY]
  cases run R b ⟨xAs scr s.F,s.H⟩ with
  | none => rfl
  | some p => obtain ⟨e,s'⟩ := p; cases e <;> simp only [xWN,xLY]
noncomputable def yAm (prog : Nat → Option AFunc) (T : xSH) : Nat → Rec
 | 0 => Rec.none
 | n + 1 => xYq T (xYp prog (yAm prog T n))
theorem xSG (prog : Nat → Option AFunc) (T : xSH) : ∀ n,yAm prog T n = yAo prog T n
 | 0 => rfl
 | n + 1 => by rw [yAm,yAo,xV4,xSG prog T n]
end Go.Abs
