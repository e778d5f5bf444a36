/- The interpreter once more,its alternatives as functions of their own: what the kernel unfolds is small. -/
import Derived.Test.YtdheandekcpieaaDoorAbsOver
namespace Go.Abs
set_option linter.unusedVariables false
noncomputable def yDa (F : List AV) : Nat → AV := List.rec (motive := fun _ => Nat → AV) (fun _ => .any) (fun v _ ih n => Nat.casesOn (motive := fun _ => AV) n v ih) F
noncomputable def yDL (x : AV) (F : List AV) : Nat → List AV := List.rec (motive := fun _ => Nat → List AV) (fun _ => []) (fun v F ih n => Nat.casesOn (motive := fun _ => List AV) n (x :: F) (fun m => v :: ih m)) F
theorem xSR : ∀ (F : List AV) (i : Nat),yDa F i = F.getD i .any
 | [],i => by simp [yDa]
 | v :: F,0 => rfl
 | v :: F,i + 1 => by
  show yDa F i = _
  rw [xSR F i]; simp
theorem xSS (x : AV) : ∀ (F : List AV) (i : Nat),yDL x F i = F.set i x
 | [],i => rfl
 | v :: F,0 => rfl
 | v :: F,i + 1 => by
  show v :: yDL x F i = _
  rw [xSS x F i]; rfl
noncomputable def xBR (F : List AV) : Arg → AV
 | .t i => yDa F i
 | .c v => v
theorem xST : xBR = opv := by
 funext F x
 cases x with
 | t i => exact xSR F i
 | c v => rfl
noncomputable def yDM (F : List AV) (d : Option Nat) (v : AV) : List AV := match d with
 | some d => yDL v F d
 | none => F
theorem xSU : yDM = putA := by
 funext F d v
 cases d with
 | none => rfl
 | some d => exact xSS v F d
noncomputable def xRp (l : List AV) : Nat → List AV := List.rec (motive := fun _ => Nat → List AV) (fun _ => []) (fun v t ih n => Nat.casesOn (motive := fun _ => List AV) n (v :: t) ih) l
theorem xK9 : ∀ (l : List AV) (n : Nat),xRp l n = l.drop n
 | [],n => by simp [xRp]
 | v :: t,0 => rfl
 | v :: t,n + 1 => by
  show xRp t n = _
  rw [xK9 t n]; simp
def yBw (v : AV) : Option (List AV) → Option (List AV)
 | some l => some (v :: l)
 | none => none
noncomputable def xY8 (l : List AV) : Nat → Option (List AV) := List.rec (motive := fun _ => Nat → Option (List AV)) (fun n => Nat.casesOn (motive := fun _ => Option (List AV)) n (some []) (fun _ => none)) (fun v t ih n => Nat.casesOn (motive := fun _ => Option (List AV)) n (some []) (fun m => yBw v (ih m))) l
theorem xPx : ∀ (l : List AV) (n : Nat),xY8 l n = if n ≤ l.length then some (l.take n) else none
 | [],0 => rfl
 | [],n + 1 => by
  show none = _
  rw [if_neg (by simp)]
 | v :: t,0 => by
  show some [] = _
  rw [if_pos (Nat.zero_le _)]; rfl
 | v :: t,n + 1 => by
  show yBw v (xY8 t n) = _
  rw [xPx t n]
  by_cases c : n ≤ t.length
  ·rw [if_pos c,if_pos (by simpa using c)]; rfl
  ·rw [if_neg c,if_neg (by simpa using c)]; rfl
noncomputable def xY9 (l : List AV) : Nat := List.rec (motive := fun _ => Nat) 0 (fun _ _ n => n + 1) l
theorem xH5 : ∀ l : List AV,xY9 l = l.length
 | [] => rfl
 | v :: t => by
  show xY9 t + 1 = _
  rw [xH5 t]; rfl
noncomputable def rdC (cs : List AV) (off n : Nat) : Option (List AV) := match n with
 | 0 => if off ≤ xY9 cs then some [] else none
 | n + 1 => xY8 (xRp cs off) (n + 1)
theorem yBx (cs : List AV) (off n : Nat) : rdC cs off n = if off + n ≤ cs.length then some ((cs.drop off).take n) else none := by
 cases n with
 | zero => rw [rdC,xH5]; rfl
 | succ n =>
  rw [rdC,xPx,xK9,List.length_drop]
  by_cases c : off + (n + 1) ≤ cs.length
  ·rw [if_pos c,if_pos (by omega)]
  ·rw [if_neg c,if_neg (by omega)]
noncomputable def rdF (H : Heap) (p : AV) (n : Nat) : Option (List AV) := match p with
 | .ptr id off => match H[id]? with
  | some (.cells _ _ cs) => rdC cs off n
  | _ => none
 | .vptr cs off => rdC cs off n
 | _ => none
theorem yBy : rdF = rd := by
 funext H p n
 cases p <;> simp only [rdF,rd,yBx]
 rename_i id off
 rcases H[id]? with _ | b
 ·rfl
 ·cases b <;> rfl
noncomputable def yDN (vs : List AV) (cs : List AV) : Nat → List AV := List.rec (motive := fun _ => Nat → List AV) (fun _ => vs) (fun v t ih n => Nat.casesOn (motive := fun _ => List AV) n (vs ++ xRp (v :: t) (xY9 vs)) (fun m => v :: ih m)) cs
theorem xSV (vs : List AV) : ∀ (cs : List AV) (off : Nat),yDN vs cs off = splice cs off vs
 | [],off => by
  show vs = _
  simp [splice]
 | v :: t,0 => by
  show vs ++ xRp (v :: t) (xY9 vs) = _
  rw [xK9,xH5]; simp [splice]
 | v :: t,n + 1 => by
  show v :: yDN vs t n = _
  rw [xSV vs t n]
  simp only [splice,List.take_succ_cons,List.cons_append,show n + 1 + vs.length = (n + vs.length) + 1 by omega,List.drop_succ_cons]
noncomputable def wrF (H : Heap) (p : AV) (vs : List AV) : Option Heap := match p with
 | .ptr id off => match H[id]? with
  | some (.cells false z cs) => if off + vs.length ≤ xY9 cs ∧ vs.all AV.isCell = true then some (H.set id (.cells false z (yDN vs cs off))) else none
  | _ => none
 | _ => none
theorem yBz : wrF = wr := by
 funext H p vs
 cases p <;> simp only [wrF,wr,xSV,xH5]
 rename_i id off
 rcases H[id]? with _ | b
 ·rfl
 ·cases b with
  | cells fz z cs => cases fz <;> rfl
  | _ => rfl
noncomputable def tkA (ys cs : List AV) : Nat → List AV := List.rec (motive := fun _ => Nat → List AV) (fun _ => ys) (fun v _ ih n => Nat.casesOn (motive := fun _ => List AV) n ys (fun m => v :: ih m)) cs
theorem xXB (ys : List AV) : ∀ (cs : List AV) (n : Nat),tkA ys cs n = cs.take n ++ ys
 | [],n => by
  show ys = _
  simp
 | v :: t,0 => rfl
 | v :: t,n + 1 => by
  show v :: tkA ys t n = _
  rw [xXB ys t n]; rfl
def yBA (opv : List AV → Arg → AV) (R : Rec) (F : List AV) (H : Heap) (x : Arg) : Option (AV × Heap) := some (opv F x,H)
def xZa (opv : List AV → Arg → AV) (R : Rec) (F : List AV) (H : Heap) (c : Arg) (a : Arg) (b : Arg) : Option (AV × Heap) := match opv F c with
  | .bool t => some (if t then opv F a else opv F b,H)
  | _ => none
def yBB (opv : List AV → Arg → AV) (R : Rec) (F : List AV) (H : Heap) (x : Arg) : Option (AV × Heap) := let cs := (opv F x).cells; if cs.all AV.isCell then some (.ptr H.length 0,H ++ [.cells false false cs]) else none
def xWm (opv : List AV → Arg → AV) (R : Rec) (F : List AV) (H : Heap) (z : List AV) (parts : List (Nat × Nat × Arg)) : Option (AV × Heap) :=
  (if parts.all (fun p => (opv F p.2.2).cells.length == p.2.1) then
   (fillA z (parts.map fun p => (p.1,(opv F p.2.2).cells))).map fun cs => (.agg cs,H) else none)
def xSW (opv : List AV → Arg → AV) (R : Rec) (F : List AV) (H : Heap) (fz : Bool) (z : List AV) (es : Nat) (n : Nat) (parts : List (Nat × Arg)) : Option (AV × Heap) :=
  (if parts.all (fun p => (opv F p.2).cells.length == es) then
   match fillA (xC1 z n) (parts.map fun p => (p.1 * es,(opv F p.2).cells)) with
   | some cs => xD9 fz false n es cs H
   | none => none
   else none)
def xSX (opv : List AV → Arg → AV) (R : Rec) (F : List AV) (H : Heap) (z : List AV) (es : Nat) (n : Nat) (parts : List (Nat × Arg)) : Option (AV × Heap) :=
  (if parts.all (fun p => (opv F p.2).cells.length == es) then
   match fillA (xC1 z n) (parts.map fun p => (p.1 * es,(opv F p.2).cells)) with
   | some cs => if cs.all xB4 = true then some (.sl false n cs,H) else none
   | none => none
   else none)
noncomputable def xSY (opv : List AV → Arg → AV) (R : Rec) (F : List AV) (H : Heap) (g : Bool) (n : Nat) (p : Arg) : Option (AV × Heap) := match rdF H (opv F p) n with
  | some cs => (mkv g cs).map fun v => (v,H)
  | none => none
noncomputable def xPy (opv : List AV → Arg → AV) (R : Rec) (F : List AV) (H : Heap) (n : Nat) (p : Arg) (v : Arg) : Option (AV × Heap) := let cs := (opv F v).cells; if cs.length = n then (wrF H (opv F p) cs).map fun H' => (.tup [],H') else none
def xSZ (opv : List AV → Arg → AV) (R : Rec) (F : List AV) (H : Heap) (x : Arg) : Option (AV × Heap) := match opv F x with
  | .ptr id off => some (.ptr id off,H)
  | .vptr cs off => some (.vptr cs off,H)
  | .func f caps => some (.func f caps,H)
  | .yield l => some (.yield l,H)
  | _ => none
def yBC (opv : List AV → Arg → AV) (R : Rec) (F : List AV) (H : Heap) (op : BinOp) (x : Arg) (y : Arg) : Option (AV × Heap) := (xD8 op (opv F x) (opv F y)).map fun v => (v,H)
def yBD (opv : List AV → Arg → AV) (R : Rec) (F : List AV) (H : Heap) (neg : Bool) (x : Arg) (y : Arg) : Option (AV × Heap) := match opv F x,opv F y with
  | .bool a,.bool b => some (.bool (if neg then a != b else a == b),H)
  | _,_ => none
def xWn (opv : List AV → Arg → AV) (R : Rec) (F : List AV) (H : Heap) (neg : Bool) (x : Arg) : Option (AV × Heap) := match opv F x with
  | .sl z _ _ => some (.bool (z != neg),H)
  | .own z _ _ _ _ => some (.bool (z != neg),H)
  | _ => none
def yDO (opv : List AV → Arg → AV) (R : Rec) (F : List AV) (H : Heap) (op : UnOp) (x : Arg) : Option (AV × Heap) := (unA op (opv F x)).map fun v => (v,H)
def xZb (opv : List AV → Arg → AV) (R : Rec) (F : List AV) (H : Heap) (k : IntKind) (x : Arg) : Option (AV × Heap) := match opv F x with
  | .int _ n => some (.int k (k.wrap n),H)
  | _ => none
def xS0 (opv : List AV → Arg → AV) (R : Rec) (F : List AV) (H : Heap) (f : Nat) (caps : List Arg) : Option (AV × Heap) := some (.func f (caps.map (opv F)),H)
def xRq (opv : List AV → Arg → AV) (R : Rec) (F : List AV) (H : Heap) (fz : Bool) (z : List AV) (bytes : Nat) (l : Arg) (c : Arg) : Option (AV × Heap) := match opv F l,opv F c with
  | .int _ l,.int _ c => if 0 ≤ l ∧ l ≤ c ∧ c * bytes ≤ xAY ∧ c ≤ xAY ∧ z.all AV.isCell = true then xD9 fz false l.toNat z.length (xC1 z l.toNat) H else none
  | _,_ => none
def xWo (opv : List AV → Arg → AV) (R : Rec) (F : List AV) (H : Heap) (es : Nat) (x : Arg) (lo : Option Arg) (hi : Option Arg) (mx : Option Arg) : Option (AV × Heap) := match opv F x with
  | .sl z n cs => if cs.length = n * es then (xA1 n (lo.map (opv F)) (hi.map (opv F)) (mx.map (opv F))).map fun (l,h) => (.sl z (h - l) ((cs.drop (l * es)).take ((h - l) * es)),H) else none
  | .own z id off n es' => if es' = es then (xA1 n (lo.map (opv F)) (hi.map (opv F)) (mx.map (opv F))).map fun (l,h) => (.own z id (off + l * es) (h - l) es,H) else none
  | _ => none
def xWp (opv : List AV → Arg → AV) (R : Rec) (F : List AV) (H : Heap) (o : Nat) (x : Arg) : Option (AV × Heap) := match opv F x with
  | .ptr id off => some (.ptr id (off + o),H)
  | .vptr cs off => some (.vptr cs (off + o),H)
  | _ => none
def xWq (opv : List AV → Arg → AV) (R : Rec) (F : List AV) (H : Heap) (g : Bool) (off : Nat) (n : Nat) (x : Arg) : Option (AV × Heap) := match opv F x with
  | .agg cs => if off + n ≤ cs.length then (mkv g ((cs.drop off).take n)).map fun v => (v,H) else none
  | _ => none
def xWr (opv : List AV → Arg → AV) (R : Rec) (F : List AV) (H : Heap) (es : Nat) (x : Arg) (i : Arg) : Option (AV × Heap) := match opv F x,xA4 (opv F i) with
  | .sl _ n cs,some i => if i < n then some (.vptr cs (i * es),H) else none
  | .own _ id off n es',some i => if i < n ∧ es' = es then some (.ptr id (off + i * es),H) else none
  | _,_ => none
def yBE (opv : List AV → Arg → AV) (R : Rec) (F : List AV) (H : Heap) (i : Nat) (x : Arg) : Option (AV × Heap) := match opv F x with
  | .tup vs => (vs[i]?).map fun v => (v,H)
  | _ => none
def yBF (opv : List AV → Arg → AV) (R : Rec) (F : List AV) (H : Heap) (x : Arg) : Option (AV × Heap) := match opv F x with
  | .sl _ n _ => some (.int .i64 n,H)
  | .own _ _ _ n _ => some (.int .i64 n,H)
  | _ => none
def yBG (opv : List AV → Arg → AV) (R : Rec) (F : List AV) (H : Heap) (x : Arg) : Option (AV × Heap) := match opv F x with
  | .sl true _ _ => some (.int .i64 0,H)
  | _ => none
def yBH (opv : List AV → Arg → AV) (R : Rec) (F : List AV) (H : Heap) (neg : Bool) (n : Nat) (x : Arg) (y : Arg) : Option (AV × Heap) := match opv F x,opv F y with
  | .agg cs,.agg ds => if cs.length = n then (xB2 cs ds).map fun b => (.bool (b != neg),H) else none
  | _,_ => none
noncomputable def xMy (opv : List AV → Arg → AV) (R : Rec) (F : List AV) (H : Heap) (fz : Bool) (es : Nat) (bytes : Nat) (x : Arg) (y : Arg) : Option (AV × Heap) := match src H es (opv F y) with
  | none => none
  | some (m,ys) => match opv F x with
   | .sl true _ _ => if m * bytes ≤ xAY ∧ m ≤ xAY then xD9 fz (m == 0) m es ys H else none
   | .own z id off n es' => match H[id]? with
    | some (.cells false _ cs) => if off = 0 ∧ es' = es ∧ n * es ≤ xY9 cs ∧ (n + m) * bytes ≤ xAY ∧ n + m ≤ xAY then
      some (.own (z && m == 0) H.length 0 (n + m) es,H.set id .dead ++ [.cells false (z && m == 0) (tkA ys cs (n * es))]) else none
    | _ => none
   | _ => none
def xRr (opv : List AV → Arg → AV) (R : Rec) (F : List AV) (H : Heap) (z : List AV) (bytes : Nat) (x : Arg) (n : Arg) : Option (AV × Heap) := match xA4 (opv F n),opv F x with
  | some m,.sl true _ _ => if m * bytes ≤ xAY ∧ m ≤ xAY ∧ z.all AV.isCell = true then xD9 false (m == 0) m z.length (xC1 z m) H else none
  | some m,.own false id off k es' => match H[id]? with
   | some (.cells false _ cs) => if off = 0 ∧ es' = z.length ∧ k * z.length ≤ cs.length ∧ (k + m) * bytes ≤ xAY ∧ k + m ≤ xAY ∧ 0 < m ∧ z.all AV.isCell = true then
     some (.own false H.length 0 (k + m) z.length,H.set id .dead ++ [.cells false false (cs.take (k * z.length) ++ xC1 z m)]) else none
   | _ => none
  | _,_ => none
def xRs (opv : List AV → Arg → AV) (R : Rec) (F : List AV) (H : Heap) (es : Nat) (bytes : Nat) (x : Arg) (y : Arg) : Option (AV × Heap) := match xFo H with
  | none => none
  | some h => (appB H es bytes (opv F x) (opv F y)).map fun r => (.own r.1 h 0 r.2.1 es,(xBQ r.2.2.2 H).set h (.cells false r.1 r.2.2.1))
def xZc (opv : List AV → Arg → AV) (R : Rec) (F : List AV) (H : Heap) (_u0 : Nat) (_u1 : Arg) (_u2 : Arg) : Option (AV × Heap) := none
def xZd (opv : List AV → Arg → AV) (R : Rec) (F : List AV) (H : Heap) (x : Arg) (y : Arg) : Option (AV × Heap) := match opv F x,opv F y with
  | .int k a,.int _ b => some (.int k (if b > a then b else a),H)
  | _,_ => none
def xZe (opv : List AV → Arg → AV) (R : Rec) (F : List AV) (H : Heap) (x : Arg) (y : Arg) : Option (AV × Heap) := match opv F x,opv F y with
  | .int k a,.int _ b => some (.int k (if b < a then b else a),H)
  | _,_ => none
def xZf (opv : List AV → Arg → AV) (R : Rec) (F : List AV) (H : Heap) (f : Nat) (args : List Arg) : Option (AV × Heap) := xBG R f (args.map (opv F)) H
def xWs (opv : List AV → Arg → AV) (R : Rec) (F : List AV) (H : Heap) (f : Arg) (args : List Arg) : Option (AV × Heap) := R.icall (opv F f) (args.map (opv F)) H
def xWt (opv : List AV → Arg → AV) (R : Rec) (F : List AV) (H : Heap) (f : Arg) (args : List Arg) : Option (AV × Heap) := match opv F f with
  | .func g caps => xBG R g (args.map (opv F) ++ caps) H
  | _ => none
def yBI (opv : List AV → Arg → AV) (R : Rec) (F : List AV) (H : Heap) (g : Bool) (es : Nat) (len : Nat) (x : Arg) (i : Arg) : Option (AV × Heap) := match opv F x,xA4 (opv F i) with
  | .agg cs,some j => if j < len ∧ j * es + es ≤ cs.length then (mkv g ((cs.drop (j * es)).take es)).map fun v => (v,H) else none
  | _,_ => none
def xWu (opv : List AV → Arg → AV) (R : Rec) (F : List AV) (H : Heap) (es : Nat) (len : Nat) (x : Arg) (i : Arg) : Option (AV × Heap) := match opv F x,xA4 (opv F i) with
  | .ptr id off,some j => if j < len then some (.ptr id (off + j * es),H) else none
  | .vptr cs off,some j => if j < len then some (.vptr cs (off + j * es),H) else none
  | _,_ => none
def xZg (opv : List AV → Arg → AV) (R : Rec) (F : List AV) (H : Heap) (b : Nat) (es : Nat) (len : Nat) (i : Arg) : Option (AV × Heap) := match xV2 b,xA4 (opv F i) with
  | some cs,some j => if j < len then some (.vptr cs (j * es),H) else none
  | _,_ => none
def xZh (opv : List AV → Arg → AV) (R : Rec) (F : List AV) (H : Heap) (x : Arg) (i : Arg) : Option (AV × Heap) := match opv F x,xA4 (opv F i) with
  | .str s,some j => (s[j]?).map fun b => (.int .u8 b.toNat,H)
  | _,_ => none
def xZi (opv : List AV → Arg → AV) (R : Rec) (F : List AV) (H : Heap) (x : Arg) : Option (AV × Heap) := match opv F x with
  | .str s => some (.int .i64 s.size,H)
  | _ => none
def yDP (opv : List AV → Arg → AV) (R : Rec) (F : List AV) (H : Heap) (mx : Bool) (xs : List Arg) : Option (AV × Heap) := match xs.map (opv F) with
  | [] => none
  | x :: r => (mmA mx x r).map fun v => (v,H)
def xS1 (opv : List AV → Arg → AV) (R : Rec) (F : List AV) (H : Heap) (x : Arg) (lo : Option Arg) (hi : Option Arg) : Option (AV × Heap) := match opv F x with
  | .str s => (xA1 s.size (lo.map (opv F)) (hi.map (opv F)) none).map fun (l,h) => (.str (s.extract l h),H)
  | _ => none
def xZj (opv : List AV → Arg → AV) (R : Rec) (F : List AV) (H : Heap) (neg : Bool) (x : Arg) (y : Arg) : Option (AV × Heap) := match opv F x,opv F y with
  | .str s,.str t => some (.bool ((s.toList == t.toList) != neg),H)
  | _,_ => none
def xRt (opv : List AV → Arg → AV) (R : Rec) (F : List AV) (H : Heap) (f : Nat) (first : List Arg) : Option (AV × Heap) := some (.bfunc f (first.map (opv F)),H)
def xWv (opv : List AV → Arg → AV) (R : Rec) (F : List AV) (H : Heap) (f : Arg) (args : List Arg) : Option (AV × Heap) := match opv F f with
  | .bfunc g first => R.icall (.func g []) (first ++ args.map (opv F)) H
  | _ => none
def xWw (opv : List AV → Arg → AV) (R : Rec) (F : List AV) (H : Heap)  : Option (AV × Heap) := some (.mp H.length,H ++ [.mp []])
def xWx (opv : List AV → Arg → AV) (R : Rec) (F : List AV) (H : Heap) (ks : List Nat) (comma : Bool) (z : AV) (x : Arg) (k : Arg) : Option (AV × Heap) := if xBA ks (opv F k) then match xVz H (opv F x) with
  | none => none
  | some es => match xI8 (opv F k) es with
   | none => none
   | some none => some (if comma then .tup [z,.bool false] else z,H)
   | some (some v) => some (if comma then .tup [v,.bool true] else v,H)
  else none
def xZk (opv : List AV → Arg → AV) (R : Rec) (F : List AV) (H : Heap) (ks : List Nat) (z : AV) (m : Arg) (k : Arg) : Option (AV × Heap) := if xBA ks (opv F k) then match opv F m with
  | .mp id => match H[id]? with
   | some (.mp es) => (xSl (opv F k) z es 0).map fun r => (.tup [r.1,.int .i64 (r.2.1 : Nat)],H.set id (.mp r.2.2))
   | _ => none
  | _ => none
  else none
def xS2 (opv : List AV → Arg → AV) (R : Rec) (F : List AV) (H : Heap) (m : Arg) (s : Arg) (v : Arg) : Option (AV × Heap) := match opv F m,opv F s with
  | .mp id,.int .i64 n => match H[id]? with
   | some (.mp es) => if 0 ≤ n then (es[n.toNat]?).map fun e => (.tup [],H.set id (.mp (es.set n.toNat (e.1,opv F v)))) else none
   | _ => none
  | _,_ => none
def xZl (opv : List AV → Arg → AV) (R : Rec) (F : List AV) (H : Heap) (ks : List Nat) (m : Arg) (k : Arg) (v : Arg) : Option (AV × Heap) := if xBA ks (opv F k) then match opv F m with
  | .mp id => match H[id]? with
   | some (.mp es) => (xV3 (opv F k) (opv F v) es).map fun es' => (.tup [],H.set id (.mp es'))
   | _ => none
  | _ => none
  else none
def xZm (opv : List AV → Arg → AV) (R : Rec) (F : List AV) (H : Heap) (x : Arg) : Option (AV × Heap) := (xVz H (opv F x)).map fun es => (.int .i64 es.length,H)
def xZn (opv : List AV → Arg → AV) (R : Rec) (F : List AV) (H : Heap) (neg : Bool) (x : Arg) : Option (AV × Heap) := match opv F x with
  | .nilm => some (.bool (true != neg),H)
  | .mp _ => some (.bool (false != neg),H)
  | _ => none
def xZo (opv : List AV → Arg → AV) (R : Rec) (F : List AV) (H : Heap) (neg : Bool) (x : Arg) : Option (AV × Heap) := match opv F x with
  | .ptr _ _ => some (.bool (false != neg),H)
  | .nilp => some (.bool (true != neg),H)
  | _ => none
def xS3 (opv : List AV → Arg → AV) (R : Rec) (F : List AV) (H : Heap) (fz : Bool) (x : Arg) : Option (AV × Heap) := match opv F x with
  | .str s => xD9 fz false s.size 1 (xCy s) H
  | _ => none
def xZp (opv : List AV → Arg → AV) (R : Rec) (F : List AV) (H : Heap) (x : Arg) : Option (AV × Heap) := match src H 1 (opv F x) with
  | some (_,cs) => (xSm cs).map fun bs => (.str ⟨⟨bs⟩⟩,H)
  | none => none
def xZq (opv : List AV → Arg → AV) (R : Rec) (F : List AV) (H : Heap) (x : Arg) (y : Arg) : Option (AV × Heap) := match opv F x,opv F y with
  | .str s,.str t => if s.size + t.size ≤ 9223372036854775807 then some (.str ⟨⟨s.data.toList ++ t.data.toList⟩⟩,H) else none
  | _,_ => none
def xWy (opv : List AV → Arg → AV) (R : Rec) (F : List AV) (H : Heap) (f : Nat) (args : List Arg) : Option (AV × Heap) := match (args.map (opv F)).mapM (frz frzN H) with
  | none => none
  | some args' => match xDe R f args' with
   | none => none
   | some (v,B) => some (xDd H.length v,fzIds H ((args.map (opv F)).flatMap (bor frzN H)) ++ B)
def xS4 (opv : List AV → Arg → AV) (R : Rec) (F : List AV) (H : Heap) (f : Nat) (args : List Arg) : Option (AV × Heap) := match (args.map (opv F)).mapM (frz frzN H) with
  | none => none
  | some args' => match xHR R f args' with
   | none => none
   | some (v,B) => some (xDd H.length v,fzIds H ((args.map (opv F)).flatMap (bor frzN H)) ++ B.map (xHQ H.length))
noncomputable def xLa (R : Rec) (F : List AV) (H : Heap) : AOp → Option (AV × Heap)
 | .mov x => yBA xBR R F H x
 | .pick c a b => xZa xBR R F H c a b
 | .box x => yBB xBR R F H x
 | .build z parts => xWm xBR R F H z parts
 | .bslice fz z es n parts => xSW xBR R F H fz z es n parts
 | .dslice z es n parts => xSX xBR R F H z es n parts
 | .load g n p => xSY xBR R F H g n p
 | .store n p v => xPy xBR R F H n p v
 | .nilchk x => xSZ xBR R F H x
 | .bin op x y => yBC xBR R F H op x y
 | .beq neg x y => yBD xBR R F H neg x y
 | .isnil neg x => xWn xBR R F H neg x
 | .un op x => yDO xBR R F H op x
 | .conv k x => xZb xBR R F H k x
 | .mkfunc f caps => xS0 xBR R F H f caps
 | .mkslice fz z bytes l c => xRq xBR R F H fz z bytes l c
 | .slice es x lo hi mx => xWo xBR R F H es x lo hi mx
 | .faddr o x => xWp xBR R F H o x
 | .field g off n x => xWq xBR R F H g off n x
 | .iaddr es x i => xWr xBR R F H es x i
 | .ext i x => yBE xBR R F H i x
 | .len x => yBF xBR R F H x
 | .cap x => yBG xBR R F H x
 | .aeq neg n x y => yBH xBR R F H neg n x y
 | .append fz es bytes x y => xMy xBR R F H fz es bytes x y
 | .appendz z bytes x n => xRr xBR R F H z bytes x n
 | .appendh es bytes x y => xRs xBR R F H es bytes x y
 | .copy _u0 _u1 _u2 => xZc xBR R F H _u0 _u1 _u2
 | .maxi x y => xZd xBR R F H x y
 | .mini x y => xZe xBR R F H x y
 | .call f args => xZf xBR R F H f args
 | .icall f args => xWs xBR R F H f args
 | .fcall f args => xWt xBR R F H f args
 | .idx g es len x i => yBI xBR R F H g es len x i
 | .arrat es len x i => xWu xBR R F H es len x i
 | .garr b es len i => xZg xBR R F H b es len i
 | .sidx x i => xZh xBR R F H x i
 | .slen x => xZi xBR R F H x
 | .mm mx xs => yDP xBR R F H mx xs
 | .sslice x lo hi => xS1 xBR R F H x lo hi
 | .sbeq neg x y => xZj xBR R F H neg x y
 | .mkbound f first => xRt xBR R F H f first
 | .bcall f args => xWv xBR R F H f args
 | .mkmap  => xWw xBR R F H 
 | .mlook ks comma z x k => xWx xBR R F H ks comma z x k
 | .ment ks z m k => xZk xBR R F H ks z m k
 | .mstore m s v => xS2 xBR R F H m s v
 | .mupd ks m k v => xZl xBR R F H ks m k v
 | .mlen x => xZm xBR R F H x
 | .mnil neg x => xZn xBR R F H neg x
 | .pnil neg x => xZo xBR R F H neg x
 | .sbytes fz x => xS3 xBR R F H fz x
 | .bstr x => xZp xBR R F H x
 | .sadd x y => xZq xBR R F H x y
 | .ocall f args => xWy xBR R F H f args
 | .ocallw f args => xS4 xBR R F H f args
theorem xJD (R : Rec) (F : List AV) (H : Heap) (op : AOp) : xLa R F H op = xAa R F H op := by
 cases op <;> simp only [xLa,xST] <;> first | rfl | (simp only [xSY,yBy]; rfl) | (simp only [xPy,yBz]; rfl) | (simp only [xMy,xH5,xXB]; rfl)
def fN {α : Type} (a : Nat) (k : Nat → α) : α := match a with
 | 0 => k 0
 | n + 1 => k (n + 1)
theorem yBJ {α : Type} (a : Nat) (k : Nat → α) : fN a k = k a := by cases a <;> rfl
def fI {α : Type} (x : Int) (k : Int → α) : α := match x with
 | .ofNat a => fN a fun a => k (.ofNat a)
 | .negSucc a => fN a fun a => k (.negSucc a)
theorem yDQ {α : Type} (x : Int) (k : Int → α) : fI x k = k x := by cases x <;> simp only [fI,yBJ]
def fBo {α : Type} (x : Bool) (k : Bool → α) : α := match x with
 | true => k true
 | false => k false
theorem yBK {α : Type} (x : Bool) (k : Bool → α) : fBo x k = k x := by cases x <;> rfl
def fV {α : Type} (v : AV) (k : AV → α) : α := match v with
 | .int kd n => fI n fun n => k (.int kd n)
 | .bool b => fBo b fun b => k (.bool b)
 | .ptr i o => fN i fun i => fN o fun o => k (.ptr i o)
 | .own z i o n e => fBo z fun z => fN i fun i => fN o fun o => fN n fun n => fN e fun e => k (.own z i o n e)
 | .sl z n cs => fN n fun n => k (.sl z n cs)
 | v => k v
theorem xZr {α : Type} (v : AV) (k : AV → α) : fV v k = k v := by
 cases v <;> simp only [fV,yDQ,yBK,yBJ]
noncomputable def fS {α : Type} (l : List AV) : (List AV → α) → α := List.rec (motive := fun _ => (List AV → α) → α) (fun k => k []) (fun v _ ih k => ih fun vs => k (v :: vs)) l
theorem xWz {α : Type} : ∀ (l : List AV) (k : List AV → α),fS l k = k l
 | [],k => rfl
 | v :: vs,k => by
  show fS vs (fun vs => k (v :: vs)) = _
  rw [xWz vs]
def fL {α : Type} : List AV → (List AV → α) → α
 | [],k => k []
 | v :: vs,k => fV v fun v => fL vs fun vs => k (v :: vs)
theorem yBL {α : Type} : ∀ (l : List AV) (k : List AV → α),fL l k = k l
 | [],k => rfl
 | v :: vs,k => by rw [fL,xZr,yBL vs]
def fB {α : Type} (b : Blk) (k : Blk → α) : α := match b with
 | .cells fz z cs => fL cs fun cs => k (.cells fz z cs)
 | b => k b
theorem yDR {α : Type} (b : Blk) (k : Blk → α) : fB b k = k b := by
 cases b <;> first | rfl | simp only [fB,yBL]
noncomputable def fAt {α : Type} (l : List Blk) : Nat → (List Blk → α) → α := List.rec (motive := fun _ => Nat → (List Blk → α) → α) (fun _ k => k []) (fun b bs ih n k => Nat.casesOn (motive := fun _ => α) n (fB b fun b => k (b :: bs)) (fun m => ih m fun bs => k (b :: bs))) l
theorem xXC {α : Type} : ∀ (l : List Blk) (n : Nat) (k : List Blk → α),fAt l n k = k l
 | [],n,k => rfl
 | b :: bs,0,k => by
  show fB b (fun b => k (b :: bs)) = _
  rw [yDR]
 | b :: bs,n + 1,k => by
  show fAt bs n (fun bs => k (b :: bs)) = _
  rw [xXC bs]
noncomputable def yFQ (l : List Blk) : Nat := List.rec (motive := fun _ => Nat) 0 (fun _ _ n => n + 1) l
noncomputable def yDS (F : List AV) (H : List Blk) : AOp → Nat
 | .store _ p _ => match xBR F p with
  | .ptr id _ => id
  | _ => 0
 | _ => yFQ H
def yBM : AOp → Bool
 | .mov _ | .pick .. | .bin .. | .beq .. | .aeq .. | .un .. | .conv .. | .ext .. | .faddr .. | .field .. | .iaddr .. | .len _ | .cap _ | .isnil .. | .maxi .. | .mini .. | .nilchk _ | .mkfunc .. | .slice .. | .idx .. | .arrat .. | .garr .. | .sidx .. | .slen .. | .mm .. | .sslice .. | .sbeq .. | .mkbound .. | .load .. | .build .. | .mlook .. | .mlen _ | .mnil .. | .pnil .. => true
 | _ => false
noncomputable def xZs (d : Option Nat) (F : List AV) (keep : Bool) (sp : Nat) : Option (AV × Heap) → Option St
 | some (v,H) => fV v fun v => fS (yDM F d v) fun F => if keep then some ⟨F,H⟩ else fAt H sp fun H => some ⟨F,H⟩
 | none => none
theorem xWA (d : Option Nat) (F : List AV) (keep : Bool) (sp : Nat) (x : Option (AV × Heap)) : xZs d F keep sp x = x.map fun (v,H) => ⟨putA F d v,H⟩ := by
 cases x with
 | none => rfl
 | some p =>
  obtain ⟨v,H⟩ := p
  simp only [xZs,xZr,xWz,xXC,ite_self,xSU]
  rfl
def yBN (o : AOper) (s : St) (r : Option St) : Option Bool → Option St
 | none => none
 | some false => some ⟨putA s.F o.dst (.tup []),s.H⟩
 | some true => r
noncomputable def xFw (R : Rec) (o : AOper) (s : St) : Option St := yBN o s (xZs o.dst s.F (yBM o.op) (yDS s.F s.H o.op) (xLa R s.F s.H o.op)) (xBI s.F o.guard)
theorem xMz (R : Rec) (o : AOper) (s : St) : xFw R o s = xAz R o s := by
 unfold xFw xAz
 rw [xJD,xWA]
 split <;> rename_i e <;> rw [e] <;> rfl
noncomputable def xWB (k : St → Option St) : Option St → Option St
 | some s => k s
 | none => none
noncomputable def xEW (R : Rec) (ops : List AOper) : St → Option St := List.rec (motive := fun _ => St → Option St) (fun s => some s) (fun o _ ih s => xWB ih (xFw R o s)) ops
theorem xEv (R : Rec) : ∀ (ops : List AOper) (s : St),xEW R ops s = xAq R ops s
 | [],s => rfl
 | o :: rest,s => by
  show xWB (xEW R rest) (xFw R o s) = _
  simp only [xAq,xMz]
  cases xAz R o s with
  | none => rfl
  | some s' => exact xEv R rest s'
def xZt : AOp → Bool
 | .call .. | .fcall .. | .append .. | .box .. | .bslice .. | .mkslice .. | .appendz .. | .appendh .. | .copy .. | .icall .. | .bcall .. | .store .. | .ocall .. | .ocallw .. | .mkmap | .mupd .. | .ment .. | .mstore .. | .sbytes .. => true
 | _ => false
noncomputable def xOu (R : Rec) (F : List AV) (H : Heap) (op : AOp) : Option AV := if xZt op then xAv R F H op else (xLa R F H op).map (·.1)
theorem xRu (R : Rec) (F : List AV) (H : Heap) (op : AOp) : xOu R F H op = xAv R F H op := by
 unfold xOu
 rw [xJD]
 cases op <;> rfl
noncomputable def frF (d : Option Nat) (s : St) : Option AV → Option St
 | some v => fV v fun v => fS (yDM s.F d v) fun F => some ⟨F,s.H⟩
 | none => none
theorem yBO (d : Option Nat) (s : St) (x : Option AV) : frF d s x = x.map fun v => ⟨putA s.F d v,s.H⟩ := by
 cases x with
 | none => rfl
 | some v => simp only [frF,xZr,xWz,xSU]; rfl
noncomputable def xFx (R : Rec) (o : AOper) (s : St) : Option St := yBN o s (frF o.dst s (xOu R s.F s.H o.op)) (xBI s.F o.guard)
theorem xMA (R : Rec) (o : AOper) (s : St) : xFx R o s = xAJ R o s := by
 unfold xFx xAJ
 rw [xRu,yBO]
 split <;> rename_i e <;> rw [e] <;> rfl
noncomputable def xLb (R : Rec) (ops : List AOper) : St → Option St := List.rec (motive := fun _ => St → Option St) (fun s => some s) (fun o _ ih s => xWB ih (xFx R o s)) ops
theorem xH6 (R : Rec) : ∀ (ops : List AOper) (s : St),xLb R ops s = xA9 R ops s
 | [],s => rfl
 | o :: rest,s => by
  show xWB (xLb R rest) (xFx R o s) = _
  simp only [xA9,xMA]
  cases xAJ R o s with
  | none => rfl
  | some s' => exact xH6 R rest s'
noncomputable def yFp (k : St → Option (AExit × St)) : Option (AExit × St) → Option (AExit × St)
 | some (.normal,s') => k s'
 | r => r
noncomputable def yBP (x y : Option (AExit × St)) : AV → Option (AExit × St)
 | .bool t => if t then x else y
 | _ => none
def xXD (id : Nat) : Option (AExit × St) → Option (AExit × St)
 | some (.exit i,s') => if i = id then some (.normal,s') else some (.exit i,s')
 | r => r
def yDb : Option St → Option (AExit × St)
 | some s => some (.normal,s)
 | none => none
noncomputable def xZu (R : Rec) (m : Nat) (ops : List AOper) (s : St) : Option (AExit × St) := match xLb R (ops.take m) s with
 | none => none
 | some s1 => yDb (xEW R (ops.drop m) (adopt (ops.take m) s1))
def yFq (i : Nat) (k : AV → Option (AExit × St)) : Option AV → Option (AExit × St)
 | some v => k v
 | none => none
noncomputable def xWC (R : Rec) (c : ACode) : St → Option (AExit × St) :=
 ACode.rec (motive := fun _ => St → Option (AExit × St))
  (fun s => some (.normal,s)) (fun ops s => yDb (xEW R ops s)) (fun m ops s => xZu R m ops s) (fun ls m ops s => run R (.drawl ls m ops) s)
  (fun als ls m ops s => run R (.drawp als ls m ops) s) (fun hs als ls m ops s => run R (.drawh hs als ls m ops) s) (fun σ als ls m ops s => run R (.drawt σ als ls m ops) s) (fun _ ih s => ih ⟨s.F,s.H ++ [.cells true true []]⟩)
  (fun ss _ ih s => ih ⟨s.F,fzIds s.H (ss.flatMap fun i => bor frzN s.H (s.F.getD i .any))⟩) (fun i _ ih s => yFq i (fun v => ih ⟨s.F.set i v,fzIds s.H (bor frzN s.H (s.F.getD i .any))⟩) (frz frzN s.H (s.F.getD i .any))) (fun _ _ iha ihb s => yFp ihb (iha s)) (fun c _ _ iha ihb s => yBP (iha s) (ihb s) (xBR s.F c))
  (fun id _ ih s => xXD id (ih s)) (fun scr b _ s => R.loop scr b s) (fun f ps asg body _ _ s => run R (.range f ps asg body) s) (fun id s => some (.exit id,s)) (fun _ ih s => ih s)
  (fun s => some (.normal,s)) (fun s => some (.ret,s)) (fun _ => none) c
theorem xS5 (x : Option St) : yDb x = x.map fun s' => (.normal,s') := by cases x <;> rfl
theorem xOv (R : Rec) (c : ACode) : ∀ s,xWC R c s = run R c s := by
 induction c <;> intro s
 case region ops => show yDb (xEW R ops s) = _; simp only [run,xEv,xS5]
 case draw m ops =>
  show xZu R m ops s = _
  simp only [run,xZu,xH6,xEv,xS5]
  cases xA9 R (ops.take m) s <;> rfl
 case seq a b iha ihb =>
  show yFp (xWC R b) (xWC R a s) = _
  simp only [run,iha]
  cases run R a s with
  | none => rfl
  | some p =>
   obtain ⟨e,s'⟩ := p
   cases e with
   | normal => exact ihb s'
   | exit i => rfl
   | ret => rfl
 case cond c a b iha ihb =>
  show yBP (xWC R a s) (xWC R b s) (xBR s.F c) = _
  simp only [run,iha,ihb,xST]
  cases opv s.F c <;> rfl
 case block id b ih =>
  show xXD id (xWC R b s) = _
  simp only [run,ih]
  cases run R b s with
  | none => rfl
  | some p => obtain ⟨e,s'⟩ := p; cases e <;> rfl
 case scope b ih => exact ih s
 case fz ss b ih => exact ih _
 case hole b ih => exact ih _
 case fzs i b ih =>
  show yFq i _ _ = _
  simp only [run]
  cases frz frzN s.H (s.F.getD i .any) with
  | none => rfl
  | some v => exact ih _
 all_goals rfl
def yFR (fn : AFunc) : Option (AExit × St) → Option (AV × Heap)
 | some (.normal,s) | some (.ret,s) => (xAR fn.results s).map fun v => (v,s.H)
 | _ => none
noncomputable def xWD (R : Rec) (fn : AFunc) (args : List AV) (H : Heap) : Option (AV × Heap) := yFR fn (xWC R fn.code (xMi fn args H))
theorem xPz (R : Rec) (fn : AFunc) (args : List AV) (H : Heap) : xWD R fn args H = xA2 R fn args H := by
 unfold xWD xA2
 rw [xOv]
 cases run R fn.code (xMi fn args H) with
 | none => rfl
 | some p => obtain ⟨e,s'⟩ := p; cases e <;> rfl
def yFS : Option (AV × Heap) → Option AV
 | some (r,H') => frz frzN H' r
 | none => Option.none
def xH7 : List AV → Nat → List Nat → List AV
 | [],_,_ => []
 | v :: F,_,[] => v :: F
 | v :: F,i,s :: scr => if s = i then .any :: xH7 F (i + 1) scr else v :: xH7 F (i + 1) (s :: scr)
def asc : List Nat → Nat → Bool
 | [],_ => true
 | s :: r,lo => decide (lo ≤ s) && asc r (s + 1)
theorem xXE : ∀ {scr : List Nat} {lo : Nat},asc scr lo = true → ∀ s ∈ scr,lo ≤ s
 | [],_,_,s,h => by cases h
 | s0 :: r,lo,h,s,hs => by
  simp only [asc,Bool.and_eq_true,decide_eq_true_eq] at h
  rcases List.mem_cons.1 hs with rfl | hs
  ·exact h.1
  ·have := xXE h.2 s hs; omega
theorem xZv : ∀ {scr : List Nat} {lo lo' : Nat},asc scr lo = true → (∀ s ∈ scr,lo' ≤ s) → asc scr lo' = true
 | [],_,_,_,_ => rfl
 | s0 :: r,lo,lo',h,hl => by
  simp only [asc,Bool.and_eq_true,decide_eq_true_eq] at h ⊢
  exact ⟨hl s0 (by simp),h.2⟩
theorem xF8 : ∀ (F : List AV) (i : Nat) (scr : List Nat),asc scr i = true → ∀ j,(xH7 F i scr)[j]? = if i + j ∈ scr then (F[j]?).map (fun _ => AV.any) else F[j]?
 | [],i,scr,h,j => by simp [xH7]
 | v :: F,i,[],h,j => by simp [xH7]
 | v :: F,i,s :: scr,h,j => by
  have h' := h
  simp only [asc,Bool.and_eq_true,decide_eq_true_eq] at h'
  unfold xH7
  by_cases e : s = i
  ·subst e
   rw [if_pos rfl]
   cases j with
   | zero => simp
   | succ j =>
    rw [List.getElem?_cons_succ,xF8 F (s + 1) scr h'.2 j,List.getElem?_cons_succ]
    have : (s + 1 + j ∈ scr) ↔ (s + (j + 1) ∈ s :: scr) := by
     rw [show s + (j + 1) = s + 1 + j by omega,List.mem_cons]
     exact ⟨.inr,fun q => q.elim (fun q => by omega) id⟩
    simp only [this]
  ·rw [if_neg e]
   have hm : ∀ x ∈ s :: scr,i + 1 ≤ x := fun x hx => by
    rcases List.mem_cons.1 hx with rfl | hx
    ·omega
    ·have := xXE h'.2 x hx; omega
   cases j with
   | zero =>
    have : ¬ (i + 0 ∈ s :: scr) := fun q => by have := hm _ q; omega
    rw [if_neg this]; rfl
   | succ j =>
    rw [List.getElem?_cons_succ,xF8 F (i + 1) (s :: scr) (xZv h hm) j,List.getElem?_cons_succ]
    simp only [show i + (j + 1) = i + 1 + j by omega]
def xPA (scr : List Nat) (F : List AV) : List AV := if asc scr 0 then xH7 F 0 scr else xAx scr F
theorem xMB (scr : List Nat) (F : List AV) : xPA scr F = xAx scr F := by
 unfold xPA
 split
 ·rename_i h
  apply List.ext_getElem?
  intro j
  rw [xF8 F 0 scr h j,xEw]
  simp only [Nat.zero_add]
 ·rfl
noncomputable def xXF (R : Rec) (scr : List Nat) (b : ACode) : Option (AExit × St) → Option (AExit × St)
 | some (.normal,s') => R.loop scr b s'
 | some (e,s') => some (e,⟨xPA scr s'.F,s'.H⟩)
 | none => none
noncomputable def yBQ (prog : Nat → Option AFunc) (R : Rec) (args : List AV) (H : Heap) : AV → Option (AV × Heap)
 | .func f caps => match prog f with
  | some fn => xWD R fn (args ++ caps) H
  | none => Option.none
 | f => xDf prog R f args H
noncomputable def xZw (prog : Nat → Option AFunc) (R : Rec) : Rec where
 pcall f args := match prog f with
  | some fn => yFS (xWD R fn args [])
  | none => primA f args
 icall f args H := yBQ prog R args H f
 loop scr b s := fS (xPA scr s.F) fun F => xXF R scr b (xWC R b ⟨F,s.H⟩)
theorem xWE (prog : Nat → Option AFunc) (R : Rec) : xZw prog R = xC2 prog R := by
 unfold xZw xC2
 congr 1
 ·funext f args
  cases prog f with
  | none => rfl
  | some fn =>
   simp only [xAF,xPz]
   cases xA2 R fn args [] <;> rfl
 ·funext f args H
  unfold yBQ
  split
  ·rename_i g caps
   simp only [xDf,xPz]
   cases prog g <;> rfl
  ·rfl
 ·funext scr b s
  simp only [xHT,xOv,xWz,xMB]
  cases run R b ⟨xAx scr s.F,s.H⟩ with
  | none => rfl
  | some p => obtain ⟨e,s'⟩ := p; cases e <;> simp only [xXF,xMB]
noncomputable def yBR (prog : Nat → Option AFunc) (T : xS7) : Nat → Rec
 | 0 => Rec.none
 | n + 1 => xZx T (xZw prog (yBR prog T n))
theorem xS6 (prog : Nat → Option AFunc) (T : xS7) : ∀ n,yBR prog T n = yBT prog T n
 | 0 => rfl
 | n + 1 => by rw [yBR,yBT,xWE,xS6 prog T n]
end Go.Abs
