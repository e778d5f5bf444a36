/- The interpreter once more,its alternatives as functions of their own: what the kernel unfolds is small. -/
import Derived.Test.YtijmhicopfphnaaDoorAbsOver
namespace Go.Abs
set_option linter.unusedVariables false
noncomputable def yE1 (F : List AV) : Nat → AV := List.rec (motive := fun _ => Nat → AV) (fun _ => .any) (fun v _ ih n => Nat.casesOn (motive := fun _ => AV) n v ih) F
noncomputable def yFE (x : AV) (F : List AV) : Nat → List AV := List.rec (motive := fun _ => Nat → List AV) (fun _ => []) (fun v F ih n => Nat.casesOn (motive := fun _ => List AV) n (x :: F) (fun m => v :: ih m)) F
theorem xWP : ∀ (F : List AV) (i : Nat),yE1 F i = F.getD i .any
 | [],i => by simp [yE1]
 | v :: F,0 => rfl
 | v :: F,i + 1 => by
  show yE1 F i = _
  rw [xWP F i]; simp
theorem xWQ (x : AV) : ∀ (F : List AV) (i : Nat),yFE x F i = F.set i x
 | [],i => rfl
 | v :: F,0 => rfl
 | v :: F,i + 1 => by
  show v :: yFE x F i = _
  rw [xWQ x F i]; rfl
noncomputable def xCH (F : List AV) : Arg → AV
 | .t i => yE1 F i
 | .c v => v
theorem xWR : xCH = opv := by
 funext F x
 cases x with
 | t i => exact xWP F i
 | c v => rfl
noncomputable def xFM (F : List AV) (d : Option Nat) (v : AV) : List AV := match d with
 | some d => yFE v F d
 | none => F
theorem xWS : xFM = putA := by
 funext F d v
 cases d with
 | none => rfl
 | some d => exact xWQ v F d
noncomputable def xT0 (l : List AV) : Nat → List AV := List.rec (motive := fun _ => Nat → List AV) (fun _ => []) (fun v t ih n => Nat.casesOn (motive := fun _ => List AV) n (v :: t) ih) l
theorem xMo : ∀ (l : List AV) (n : Nat),xT0 l n = l.drop n
 | [],n => by simp [xT0]
 | v :: t,0 => rfl
 | v :: t,n + 1 => by
  show xT0 t n = _
  rw [xMo t n]; simp
def yEa (v : AV) : Option (List AV) → Option (List AV)
 | some l => some (v :: l)
 | none => none
noncomputable def yCn (l : List AV) : Nat → Option (List AV) := List.rec (motive := fun _ => Nat → Option (List AV)) (fun n => Nat.casesOn (motive := fun _ => Option (List AV)) n (some []) (fun _ => none)) (fun v t ih n => Nat.casesOn (motive := fun _ => Option (List AV)) n (some []) (fun m => yEa v (ih m))) l
theorem xSO : ∀ (l : List AV) (n : Nat),yCn l n = if n ≤ l.length then some (l.take n) else none
 | [],0 => rfl
 | [],n + 1 => by
  show none = _
  rw [if_neg (by simp)]
 | v :: t,0 => by
  show some [] = _
  rw [if_pos (Nat.zero_le _)]; rfl
 | v :: t,n + 1 => by
  show yEa v (yCn t n) = _
  rw [xSO t n]
  by_cases c : n ≤ t.length
  ·rw [if_pos c,if_pos (by simpa using c)]; rfl
  ·rw [if_neg c,if_neg (by simpa using c)]; rfl
noncomputable def yCo (l : List AV) : Nat := List.rec (motive := fun _ => Nat) 0 (fun _ _ n => n + 1) l
theorem xJq : ∀ l : List AV,yCo l = l.length
 | [] => rfl
 | v :: t => by
  show yCo t + 1 = _
  rw [xJq t]; rfl
noncomputable def rdC (cs : List AV) (off n : Nat) : Option (List AV) := match n with
 | 0 => if off ≤ yCo cs then some [] else none
 | n + 1 => yCn (xT0 cs off) (n + 1)
theorem yEb (cs : List AV) (off n : Nat) : rdC cs off n = if off + n ≤ cs.length then some ((cs.drop off).take n) else none := by
 cases n with
 | zero => rw [rdC,xJq]; rfl
 | succ n =>
  rw [rdC,xSO,xMo,List.length_drop]
  by_cases c : off + (n + 1) ≤ cs.length
  ·rw [if_pos c,if_pos (by omega)]
  ·rw [if_neg c,if_neg (by omega)]
noncomputable def rdF (H : Heap) (p : AV) (n : Nat) : Option (List AV) := match p with
 | .ptr id off => match H[id]? with
  | some (.cells _ _ cs) => rdC cs off n
  | _ => none
 | .vptr cs off => rdC cs off n
 | _ => none
theorem yEc : rdF = rd := by
 funext H p n
 cases p <;> simp only [rdF,rd,yEb]
 rename_i id off
 rcases H[id]? with _ | b
 ·rfl
 ·cases b <;> rfl
noncomputable def yFF (vs : List AV) (cs : List AV) : Nat → List AV := List.rec (motive := fun _ => Nat → List AV) (fun _ => vs) (fun v t ih n => Nat.casesOn (motive := fun _ => List AV) n (vs ++ xT0 (v :: t) (yCo vs)) (fun m => v :: ih m)) cs
theorem xWT (vs : List AV) : ∀ (cs : List AV) (off : Nat),yFF vs cs off = splice cs off vs
 | [],off => by
  show vs = _
  simp [splice]
 | v :: t,0 => by
  show vs ++ xT0 (v :: t) (yCo vs) = _
  rw [xMo,xJq]; simp [splice]
 | v :: t,n + 1 => by
  show v :: yFF vs t n = _
  rw [xWT vs t n]
  simp only [splice,List.take_succ_cons,List.cons_append,show n + 1 + vs.length = (n + vs.length) + 1 by omega,List.drop_succ_cons]
noncomputable def wrF (H : Heap) (p : AV) (vs : List AV) : Option Heap := match p with
 | .ptr id off => match H[id]? with
  | some (.cells false z cs) => if off + vs.length ≤ yCo cs ∧ vs.all AV.isCell = true then some (H.set id (.cells false z (yFF vs cs off))) else none
  | _ => none
 | _ => none
theorem yEd : wrF = wr := by
 funext H p vs
 cases p <;> simp only [wrF,wr,xWT,xJq]
 rename_i id off
 rcases H[id]? with _ | b
 ·rfl
 ·cases b with
  | cells fz z cs => cases fz <;> rfl
  | _ => rfl
noncomputable def tkA (ys cs : List AV) : Nat → List AV := List.rec (motive := fun _ => Nat → List AV) (fun _ => ys) (fun v _ ih n => Nat.casesOn (motive := fun _ => List AV) n ys (fun m => v :: ih m)) cs
theorem yA7 (ys : List AV) : ∀ (cs : List AV) (n : Nat),tkA ys cs n = cs.take n ++ ys
 | [],n => by
  show ys = _
  simp
 | v :: t,0 => rfl
 | v :: t,n + 1 => by
  show v :: tkA ys t n = _
  rw [yA7 ys t n]; rfl
def yEe (opv : List AV → Arg → AV) (R : Rec) (F : List AV) (H : Heap) (x : Arg) : Option (AV × Heap) := some (opv F x,H)
def yCp (opv : List AV → Arg → AV) (R : Rec) (F : List AV) (H : Heap) (c : Arg) (a : Arg) (b : Arg) : Option (AV × Heap) := match opv F c with
  | .bool t => some (if t then opv F a else opv F b,H)
  | _ => none
def yEf (opv : List AV → Arg → AV) (R : Rec) (F : List AV) (H : Heap) (x : Arg) : Option (AV × Heap) := let cs := (opv F x).cells; if cs.all AV.isCell then some (.ptr H.length 0,H ++ [.cells false false cs]) else none
def xZj (opv : List AV → Arg → AV) (R : Rec) (F : List AV) (H : Heap) (z : List AV) (parts : List (Nat × Nat × Arg)) : Option (AV × Heap) :=
  (if parts.all (fun p => (opv F p.2.2).cells.length == p.2.1) then
   (fillA z (parts.map fun p => (p.1,(opv F p.2.2).cells))).map fun cs => (.agg cs,H) else none)
def xWU (opv : List AV → Arg → AV) (R : Rec) (F : List AV) (H : Heap) (fz : Bool) (z : List AV) (es : Nat) (n : Nat) (parts : List (Nat × Arg)) : Option (AV × Heap) :=
  (if parts.all (fun p => (opv F p.2).cells.length == es) then
   match fillA (xC8 z n) (parts.map fun p => (p.1 * es,(opv F p.2).cells)) with
   | some cs => xEu fz false n es cs H
   | none => none
   else none)
def xWV (opv : List AV → Arg → AV) (R : Rec) (F : List AV) (H : Heap) (z : List AV) (es : Nat) (n : Nat) (parts : List (Nat × Arg)) : Option (AV × Heap) :=
  (if parts.all (fun p => (opv F p.2).cells.length == es) then
   match fillA (xC8 z n) (parts.map fun p => (p.1 * es,(opv F p.2).cells)) with
   | some cs => if cs.all xAM = true then some (.sl false n cs,H) else none
   | none => none
   else none)
noncomputable def xWW (opv : List AV → Arg → AV) (R : Rec) (F : List AV) (H : Heap) (g : Bool) (n : Nat) (p : Arg) : Option (AV × Heap) := match rdF H (opv F p) n with
  | some cs => (mkv g cs).map fun v => (v,H)
  | none => none
noncomputable def xSP (opv : List AV → Arg → AV) (R : Rec) (F : List AV) (H : Heap) (n : Nat) (p : Arg) (v : Arg) : Option (AV × Heap) := let cs := (opv F v).cells; if cs.length = n then (wrF H (opv F p) cs).map fun H' => (.tup [],H') else none
def xWX (opv : List AV → Arg → AV) (R : Rec) (F : List AV) (H : Heap) (x : Arg) : Option (AV × Heap) := match opv F x with
  | .ptr id off => some (.ptr id off,H)
  | .vptr cs off => some (.vptr cs off,H)
  | .func f caps => some (.func f caps,H)
  | .yield l => some (.yield l,H)
  | _ => none
def yEg (opv : List AV → Arg → AV) (R : Rec) (F : List AV) (H : Heap) (op : BinOp) (x : Arg) (y : Arg) : Option (AV × Heap) := (xEj op (opv F x) (opv F y)).map fun v => (v,H)
def yEh (opv : List AV → Arg → AV) (R : Rec) (F : List AV) (H : Heap) (neg : Bool) (x : Arg) (y : Arg) : Option (AV × Heap) := match opv F x,opv F y with
  | .bool a,.bool b => some (.bool (if neg then a != b else a == b),H)
  | _,_ => none
def xZk (opv : List AV → Arg → AV) (R : Rec) (F : List AV) (H : Heap) (neg : Bool) (x : Arg) : Option (AV × Heap) := match opv F x with
  | .sl z _ _ => some (.bool (z != neg),H)
  | .own z _ _ _ _ => some (.bool (z != neg),H)
  | _ => none
def yFG (opv : List AV → Arg → AV) (R : Rec) (F : List AV) (H : Heap) (op : UnOp) (x : Arg) : Option (AV × Heap) := (unA op (opv F x)).map fun v => (v,H)
def yCq (opv : List AV → Arg → AV) (R : Rec) (F : List AV) (H : Heap) (k : IntKind) (x : Arg) : Option (AV × Heap) := match opv F x with
  | .int _ n => some (.int k (k.wrap n),H)
  | _ => none
def xWY (opv : List AV → Arg → AV) (R : Rec) (F : List AV) (H : Heap) (f : Nat) (caps : List Arg) : Option (AV × Heap) := some (.func f (caps.map (opv F)),H)
def xT1 (opv : List AV → Arg → AV) (R : Rec) (F : List AV) (H : Heap) (fz : Bool) (z : List AV) (bytes : Nat) (l : Arg) (c : Arg) : Option (AV × Heap) := match opv F l,opv F c with
  | .int _ l,.int _ c => if 0 ≤ l ∧ l ≤ c ∧ c * bytes ≤ xBH ∧ c ≤ xBH ∧ z.all AV.isCell = true then xEu fz false l.toNat z.length (xC8 z l.toNat) H else none
  | _,_ => none
def xZl (opv : List AV → Arg → AV) (R : Rec) (F : List AV) (H : Heap) (es : Nat) (x : Arg) (lo : Option Arg) (hi : Option Arg) (mx : Option Arg) : Option (AV × Heap) := match opv F x with
  | .sl z n cs => if cs.length = n * es then (xB2 n (lo.map (opv F)) (hi.map (opv F)) (mx.map (opv F))).map fun (l,h) => (.sl z (h - l) ((cs.drop (l * es)).take ((h - l) * es)),H) else none
  | .own z id off n es' => if es' = es then (xB2 n (lo.map (opv F)) (hi.map (opv F)) (mx.map (opv F))).map fun (l,h) => (.own z id (off + l * es) (h - l) es,H) else none
  | _ => none
def xZm (opv : List AV → Arg → AV) (R : Rec) (F : List AV) (H : Heap) (o : Nat) (x : Arg) : Option (AV × Heap) := match opv F x with
  | .ptr id off => some (.ptr id (off + o),H)
  | .vptr cs off => some (.vptr cs (off + o),H)
  | _ => none
def xZn (opv : List AV → Arg → AV) (R : Rec) (F : List AV) (H : Heap) (g : Bool) (off : Nat) (n : Nat) (x : Arg) : Option (AV × Heap) := match opv F x with
  | .agg cs => if off + n ≤ cs.length then (mkv g ((cs.drop off).take n)).map fun v => (v,H) else none
  | _ => none
def xZo (opv : List AV → Arg → AV) (R : Rec) (F : List AV) (H : Heap) (es : Nat) (x : Arg) (i : Arg) : Option (AV × Heap) := match opv F x,xBR (opv F i) with
  | .sl _ n cs,some i => if i < n then some (.vptr cs (i * es),H) else none
  | .own _ id off n es',some i => if i < n ∧ es' = es then some (.ptr id (off + i * es),H) else none
  | _,_ => none
def yEi (opv : List AV → Arg → AV) (R : Rec) (F : List AV) (H : Heap) (i : Nat) (x : Arg) : Option (AV × Heap) := match opv F x with
  | .tup vs => (vs[i]?).map fun v => (v,H)
  | _ => none
def yEj (opv : List AV → Arg → AV) (R : Rec) (F : List AV) (H : Heap) (x : Arg) : Option (AV × Heap) := match opv F x with
  | .sl _ n _ => some (.int .i64 n,H)
  | .own _ _ _ n _ => some (.int .i64 n,H)
  | _ => none
def yEk (opv : List AV → Arg → AV) (R : Rec) (F : List AV) (H : Heap) (x : Arg) : Option (AV × Heap) := match opv F x with
  | .sl true _ _ => some (.int .i64 0,H)
  | _ => none
def yEl (opv : List AV → Arg → AV) (R : Rec) (F : List AV) (H : Heap) (neg : Bool) (n : Nat) (x : Arg) (y : Arg) : Option (AV × Heap) := match opv F x,opv F y with
  | .agg cs,.agg ds => if cs.length = n then (xCd cs ds).map fun b => (.bool (b != neg),H) else none
  | _,_ => none
noncomputable def xPI (opv : List AV → Arg → AV) (R : Rec) (F : List AV) (H : Heap) (fz : Bool) (es : Nat) (bytes : Nat) (x : Arg) (y : Arg) : Option (AV × Heap) := match src H es (opv F y) with
  | none => none
  | some (m,ys) => match opv F x with
   | .sl true _ _ => if m * bytes ≤ xBH ∧ m ≤ xBH then xEu fz (m == 0) m es ys H else none
   | .own z id off n es' => match H[id]? with
    | some (.cells false _ cs) => if off = 0 ∧ es' = es ∧ n * es ≤ yCo cs ∧ (n + m) * bytes ≤ xBH ∧ n + m ≤ xBH then
      some (.own (z && m == 0) H.length 0 (n + m) es,H.set id .dead ++ [.cells false (z && m == 0) (tkA ys cs (n * es))]) else none
    | _ => none
   | _ => none
def xT2 (opv : List AV → Arg → AV) (R : Rec) (F : List AV) (H : Heap) (z : List AV) (bytes : Nat) (x : Arg) (n : Arg) : Option (AV × Heap) := match xBR (opv F n),opv F x with
  | some m,.sl true _ _ => if m * bytes ≤ xBH ∧ m ≤ xBH ∧ z.all AV.isCell = true then xEu false (m == 0) m z.length (xC8 z m) H else none
  | some m,.own false id off k es' => match H[id]? with
   | some (.cells false _ cs) => if off = 0 ∧ es' = z.length ∧ k * z.length ≤ cs.length ∧ (k + m) * bytes ≤ xBH ∧ k + m ≤ xBH ∧ 0 < m ∧ z.all AV.isCell = true then
     some (.own false H.length 0 (k + m) z.length,H.set id .dead ++ [.cells false false (cs.take (k * z.length) ++ xC8 z m)]) else none
   | _ => none
  | _,_ => none
def xT3 (opv : List AV → Arg → AV) (R : Rec) (F : List AV) (H : Heap) (es : Nat) (bytes : Nat) (x : Arg) (y : Arg) : Option (AV × Heap) := match xF4 H with
  | none => none
  | some h => (xTT H es bytes (opv F x) (opv F y)).map fun r => (.own r.1 h 0 r.2.1 es,(xCG r.2.2.2 H).set h (.cells false r.1 r.2.2.1))
def yCr (opv : List AV → Arg → AV) (R : Rec) (F : List AV) (H : Heap) (_u0 : Nat) (_u1 : Arg) (_u2 : Arg) : Option (AV × Heap) := none
def yCs (opv : List AV → Arg → AV) (R : Rec) (F : List AV) (H : Heap) (x : Arg) (y : Arg) : Option (AV × Heap) := match opv F x,opv F y with
  | .int k a,.int _ b => some (.int k (if b > a then b else a),H)
  | _,_ => none
def yCt (opv : List AV → Arg → AV) (R : Rec) (F : List AV) (H : Heap) (x : Arg) (y : Arg) : Option (AV × Heap) := match opv F x,opv F y with
  | .int k a,.int _ b => some (.int k (if b < a then b else a),H)
  | _,_ => none
def yCu (opv : List AV → Arg → AV) (R : Rec) (F : List AV) (H : Heap) (f : Nat) (args : List Arg) : Option (AV × Heap) := xCg R f (args.map (opv F)) H
def xZp (opv : List AV → Arg → AV) (R : Rec) (F : List AV) (H : Heap) (f : Arg) (args : List Arg) : Option (AV × Heap) := R.icall (opv F f) (args.map (opv F)) H
def xZq (opv : List AV → Arg → AV) (R : Rec) (F : List AV) (H : Heap) (f : Arg) (args : List Arg) : Option (AV × Heap) := match opv F f with
  | .func g caps => xCg R g (args.map (opv F) ++ caps) H
  | _ => none
def yEm (opv : List AV → Arg → AV) (R : Rec) (F : List AV) (H : Heap) (g : Bool) (es : Nat) (len : Nat) (x : Arg) (i : Arg) : Option (AV × Heap) := match opv F x,xBR (opv F i) with
  | .agg cs,some j => if j < len ∧ j * es + es ≤ cs.length then (mkv g ((cs.drop (j * es)).take es)).map fun v => (v,H) else none
  | _,_ => none
def xZr (opv : List AV → Arg → AV) (R : Rec) (F : List AV) (H : Heap) (es : Nat) (len : Nat) (x : Arg) (i : Arg) : Option (AV × Heap) := match opv F x,xBR (opv F i) with
  | .ptr id off,some j => if j < len then some (.ptr id (off + j * es),H) else none
  | .vptr cs off,some j => if j < len then some (.vptr cs (off + j * es),H) else none
  | _,_ => none
def yCv (opv : List AV → Arg → AV) (R : Rec) (F : List AV) (H : Heap) (b : Nat) (es : Nat) (len : Nat) (i : Arg) : Option (AV × Heap) := match xTR b,xBR (opv F i) with
  | some cs,some j => if j < len then some (.vptr cs (j * es),H) else none
  | _,_ => none
def yCw (opv : List AV → Arg → AV) (R : Rec) (F : List AV) (H : Heap) (x : Arg) (i : Arg) : Option (AV × Heap) := match opv F x,xBR (opv F i) with
  | .str s,some j => (s[j]?).map fun b => (.int .u8 b.toNat,H)
  | _,_ => none
def yCx (opv : List AV → Arg → AV) (R : Rec) (F : List AV) (H : Heap) (x : Arg) : Option (AV × Heap) := match opv F x with
  | .str s => some (.int .i64 s.size,H)
  | _ => none
def yFH (opv : List AV → Arg → AV) (R : Rec) (F : List AV) (H : Heap) (mx : Bool) (xs : List Arg) : Option (AV × Heap) := match xs.map (opv F) with
  | [] => none
  | x :: r => (mmA mx x r).map fun v => (v,H)
def xWZ (opv : List AV → Arg → AV) (R : Rec) (F : List AV) (H : Heap) (x : Arg) (lo : Option Arg) (hi : Option Arg) : Option (AV × Heap) := match opv F x with
  | .str s => (xB2 s.size (lo.map (opv F)) (hi.map (opv F)) none).map fun (l,h) => (.str (s.extract l h),H)
  | _ => none
def yCy (opv : List AV → Arg → AV) (R : Rec) (F : List AV) (H : Heap) (neg : Bool) (x : Arg) (y : Arg) : Option (AV × Heap) := match opv F x,opv F y with
  | .str s,.str t => some (.bool ((s.toList == t.toList) != neg),H)
  | _,_ => none
def xT4 (opv : List AV → Arg → AV) (R : Rec) (F : List AV) (H : Heap) (f : Nat) (first : List Arg) : Option (AV × Heap) := some (.bfunc f (first.map (opv F)),H)
def xZs (opv : List AV → Arg → AV) (R : Rec) (F : List AV) (H : Heap) (f : Arg) (args : List Arg) : Option (AV × Heap) := match opv F f with
  | .bfunc g first => R.icall (.func g []) (first ++ args.map (opv F)) H
  | _ => none
def xZt (opv : List AV → Arg → AV) (R : Rec) (F : List AV) (H : Heap)  : Option (AV × Heap) := some (.mp H.length,H ++ [.mp []])
def xZu (opv : List AV → Arg → AV) (R : Rec) (F : List AV) (H : Heap) (ks : List Nat) (comma : Bool) (z : AV) (x : Arg) (k : Arg) : Option (AV × Heap) := if xCF ks (opv F k) then match yDe H (opv F x) with
  | none => none
  | some es => match xTS (opv F k) es with
   | none => none
   | some none => some (if comma then .tup [z,.bool false] else z,H)
   | some (some v) => some (if comma then .tup [v,.bool true] else v,H)
  else none
def yCz (opv : List AV → Arg → AV) (R : Rec) (F : List AV) (H : Heap) (ks : List Nat) (z : AV) (m : Arg) (k : Arg) : Option (AV × Heap) := if xCF ks (opv F k) then match opv F m with
  | .mp id => match H[id]? with
   | some (.mp es) => (xUV (opv F k) z es 0).map fun r => (.tup [r.1,.int .i64 (r.2.1 : Nat)],H.set id (.mp r.2.2))
   | _ => none
  | _ => none
  else none
def xW0 (opv : List AV → Arg → AV) (R : Rec) (F : List AV) (H : Heap) (m : Arg) (s : Arg) (v : Arg) : Option (AV × Heap) := match opv F m,opv F s with
  | .mp id,.int .i64 n => match H[id]? with
   | some (.mp es) => if 0 ≤ n then (es[n.toNat]?).map fun e => (.tup [],H.set id (.mp (es.set n.toNat (e.1,opv F v)))) else none
   | _ => none
  | _,_ => none
def yCA (opv : List AV → Arg → AV) (R : Rec) (F : List AV) (H : Heap) (ks : List Nat) (m : Arg) (k : Arg) (v : Arg) : Option (AV × Heap) := if xCF ks (opv F k) then match opv F m with
  | .mp id => match H[id]? with
   | some (.mp es) => (yDs (opv F k) (opv F v) es).map fun es' => (.tup [],H.set id (.mp es'))
   | _ => none
  | _ => none
  else none
def yCB (opv : List AV → Arg → AV) (R : Rec) (F : List AV) (H : Heap) (x : Arg) : Option (AV × Heap) := (yDe H (opv F x)).map fun es => (.int .i64 es.length,H)
def yCC (opv : List AV → Arg → AV) (R : Rec) (F : List AV) (H : Heap) (neg : Bool) (x : Arg) : Option (AV × Heap) := match opv F x with
  | .nilm => some (.bool (true != neg),H)
  | .mp _ => some (.bool (false != neg),H)
  | _ => none
def yCD (opv : List AV → Arg → AV) (R : Rec) (F : List AV) (H : Heap) (neg : Bool) (x : Arg) : Option (AV × Heap) := match opv F x with
  | .ptr _ _ => some (.bool (false != neg),H)
  | .nilp => some (.bool (true != neg),H)
  | _ => none
def xW1 (opv : List AV → Arg → AV) (R : Rec) (F : List AV) (H : Heap) (fz : Bool) (x : Arg) : Option (AV × Heap) := match opv F x with
  | .str s => xEu fz false s.size 1 (xDp s) H
  | _ => none
def yCE (opv : List AV → Arg → AV) (R : Rec) (F : List AV) (H : Heap) (x : Arg) : Option (AV × Heap) := match src H 1 (opv F x) with
  | some (_,cs) => (xUW cs).map fun bs => (.str ⟨⟨bs⟩⟩,H)
  | none => none
def yCF (opv : List AV → Arg → AV) (R : Rec) (F : List AV) (H : Heap) (x : Arg) (y : Arg) : Option (AV × Heap) := match opv F x,opv F y with
  | .str s,.str t => if s.size + t.size ≤ 9223372036854775807 then some (.str ⟨⟨s.data.toList ++ t.data.toList⟩⟩,H) else none
  | _,_ => none
def xZv (opv : List AV → Arg → AV) (R : Rec) (F : List AV) (H : Heap) (f : Nat) (args : List Arg) : Option (AV × Heap) := match (args.map (opv F)).mapM (frz frzN H) with
  | none => none
  | some args' => match xBB R f args' with
   | none => none
   | some (v,B) => some (xAP H.length v,fzIds H ((args.map (opv F)).flatMap (bor frzN H)) ++ B)
def xW2 (opv : List AV → Arg → AV) (R : Rec) (F : List AV) (H : Heap) (f : Arg) (args : List Arg) : Option (AV × Heap) := match opv F f with
  | .func g caps => match (args.map (opv F) ++ caps).mapM (frz frzN H) with
   | none => none
   | some args' => match xBB R g args' with
    | none => none
    | some (v,B) => some (xAP H.length v,fzIds H ((args.map (opv F) ++ caps).flatMap (bor frzN H)) ++ B)
  | _ => none
def xW3 (opv : List AV → Arg → AV) (R : Rec) (F : List AV) (H : Heap) (f : Nat) (args : List Arg) : Option (AV × Heap) := match (args.map (opv F)).mapM (frz frzN H) with
  | none => none
  | some args' => match xDb R f args' with
   | none => none
   | some (v,B) => some (xAP H.length v,fzIds H ((args.map (opv F)).flatMap (bor frzN H)) ++ B.map (xC4 H.length))
noncomputable def xMp (R : Rec) (F : List AV) (H : Heap) : AOp → Option (AV × Heap)
 | .mov x => yEe xCH R F H x
 | .pick c a b => yCp xCH R F H c a b
 | .box x => yEf xCH R F H x
 | .build z parts => xZj xCH R F H z parts
 | .bslice fz z es n parts => xWU xCH R F H fz z es n parts
 | .dslice z es n parts => xWV xCH R F H z es n parts
 | .load g n p => xWW xCH R F H g n p
 | .store n p v => xSP xCH R F H n p v
 | .nilchk x => xWX xCH R F H x
 | .bin op x y => yEg xCH R F H op x y
 | .beq neg x y => yEh xCH R F H neg x y
 | .isnil neg x => xZk xCH R F H neg x
 | .un op x => yFG xCH R F H op x
 | .conv k x => yCq xCH R F H k x
 | .mkfunc f caps => xWY xCH R F H f caps
 | .mkslice fz z bytes l c => xT1 xCH R F H fz z bytes l c
 | .slice es x lo hi mx => xZl xCH R F H es x lo hi mx
 | .faddr o x => xZm xCH R F H o x
 | .field g off n x => xZn xCH R F H g off n x
 | .iaddr es x i => xZo xCH R F H es x i
 | .ext i x => yEi xCH R F H i x
 | .len x => yEj xCH R F H x
 | .cap x => yEk xCH R F H x
 | .aeq neg n x y => yEl xCH R F H neg n x y
 | .append fz es bytes x y => xPI xCH R F H fz es bytes x y
 | .appendz z bytes x n => xT2 xCH R F H z bytes x n
 | .appendh es bytes x y => xT3 xCH R F H es bytes x y
 | .copy _u0 _u1 _u2 => yCr xCH R F H _u0 _u1 _u2
 | .maxi x y => yCs xCH R F H x y
 | .mini x y => yCt xCH R F H x y
 | .call f args => yCu xCH R F H f args
 | .icall f args => xZp xCH R F H f args
 | .fcall f args => xZq xCH R F H f args
 | .idx g es len x i => yEm xCH R F H g es len x i
 | .arrat es len x i => xZr xCH R F H es len x i
 | .garr b es len i => yCv xCH R F H b es len i
 | .sidx x i => yCw xCH R F H x i
 | .slen x => yCx xCH R F H x
 | .mm mx xs => yFH xCH R F H mx xs
 | .sslice x lo hi => xWZ xCH R F H x lo hi
 | .sbeq neg x y => yCy xCH R F H neg x y
 | .mkbound f first => xT4 xCH R F H f first
 | .bcall f args => xZs xCH R F H f args
 | .mkmap  => xZt xCH R F H 
 | .mlook ks comma z x k => xZu xCH R F H ks comma z x k
 | .ment ks z m k => yCz xCH R F H ks z m k
 | .mstore m s v => xW0 xCH R F H m s v
 | .mupd ks m k v => yCA xCH R F H ks m k v
 | .mlen x => yCB xCH R F H x
 | .mnil neg x => yCC xCH R F H neg x
 | .pnil neg x => yCD xCH R F H neg x
 | .sbytes fz x => xW1 xCH R F H fz x
 | .bstr x => yCE xCH R F H x
 | .sadd x y => yCF xCH R F H x y
 | .ocall f args => xZv xCH R F H f args
 | .ofcall f args => xW2 xCH R F H f args
 | .ocallw f args => xW3 xCH R F H f args
theorem xLJ (R : Rec) (F : List AV) (H : Heap) (op : AOp) : xMp R F H op = xAg R F H op := by
 cases op <;> simp only [xMp,xWR] <;> first | rfl | (simp only [xWW,yEc]; rfl) | (simp only [xSP,yEd]; rfl) | (simp only [xPI,xJq,yA7]; rfl)
def fN {α : Type} (a : Nat) (k : Nat → α) : α := match a with
 | 0 => k 0
 | n + 1 => k (n + 1)
theorem yEn {α : Type} (a : Nat) (k : Nat → α) : fN a k = k a := by cases a <;> rfl
def fI {α : Type} (x : Int) (k : Int → α) : α := match x with
 | .ofNat a => fN a fun a => k (.ofNat a)
 | .negSucc a => fN a fun a => k (.negSucc a)
theorem yFI {α : Type} (x : Int) (k : Int → α) : fI x k = k x := by cases x <;> simp only [fI,yEn]
def fBo {α : Type} (x : Bool) (k : Bool → α) : α := match x with
 | true => k true
 | false => k false
theorem yEo {α : Type} (x : Bool) (k : Bool → α) : fBo x k = k x := by cases x <;> rfl
def fV {α : Type} (v : AV) (k : AV → α) : α := match v with
 | .int kd n => fI n fun n => k (.int kd n)
 | .bool b => fBo b fun b => k (.bool b)
 | .ptr i o => fN i fun i => fN o fun o => k (.ptr i o)
 | .own z i o n e => fBo z fun z => fN i fun i => fN o fun o => fN n fun n => fN e fun e => k (.own z i o n e)
 | .sl z n cs => fN n fun n => k (.sl z n cs)
 | v => k v
theorem yCG {α : Type} (v : AV) (k : AV → α) : fV v k = k v := by
 cases v <;> simp only [fV,yFI,yEo,yEn]
noncomputable def fS {α : Type} (l : List AV) : (List AV → α) → α := List.rec (motive := fun _ => (List AV → α) → α) (fun k => k []) (fun v _ ih k => ih fun vs => k (v :: vs)) l
theorem xZw {α : Type} : ∀ (l : List AV) (k : List AV → α),fS l k = k l
 | [],k => rfl
 | v :: vs,k => by
  show fS vs (fun vs => k (v :: vs)) = _
  rw [xZw vs]
def fL {α : Type} : List AV → (List AV → α) → α
 | [],k => k []
 | v :: vs,k => fV v fun v => fL vs fun vs => k (v :: vs)
theorem yEp {α : Type} : ∀ (l : List AV) (k : List AV → α),fL l k = k l
 | [],k => rfl
 | v :: vs,k => by rw [fL,yCG,yEp vs]
def fB {α : Type} (b : Blk) (k : Blk → α) : α := match b with
 | .cells fz z cs => fL cs fun cs => k (.cells fz z cs)
 | b => k b
theorem yFJ {α : Type} (b : Blk) (k : Blk → α) : fB b k = k b := by
 cases b <;> first | rfl | simp only [fB,yEp]
noncomputable def fAt {α : Type} (l : List Blk) : Nat → (List Blk → α) → α := List.rec (motive := fun _ => Nat → (List Blk → α) → α) (fun _ k => k []) (fun b bs ih n k => Nat.casesOn (motive := fun _ => α) n (fB b fun b => k (b :: bs)) (fun m => ih m fun bs => k (b :: bs))) l
theorem yA8 {α : Type} : ∀ (l : List Blk) (n : Nat) (k : List Blk → α),fAt l n k = k l
 | [],n,k => rfl
 | b :: bs,0,k => by
  show fB b (fun b => k (b :: bs)) = _
  rw [yFJ]
 | b :: bs,n + 1,k => by
  show fAt bs n (fun bs => k (b :: bs)) = _
  rw [yA8 bs]
noncomputable def yHn (l : List Blk) : Nat := List.rec (motive := fun _ => Nat) 0 (fun _ _ n => n + 1) l
noncomputable def yFK (F : List AV) (H : List Blk) : AOp → Nat
 | .store _ p _ => match xCH F p with
  | .ptr id _ => id
  | _ => 0
 | _ => yHn H
def yEq : AOp → Bool
 | .mov _ | .pick .. | .bin .. | .beq .. | .aeq .. | .un .. | .conv .. | .ext .. | .faddr .. | .field .. | .iaddr .. | .len _ | .cap _ | .isnil .. | .maxi .. | .mini .. | .nilchk _ | .mkfunc .. | .slice .. | .idx .. | .arrat .. | .garr .. | .sidx .. | .slen .. | .mm .. | .sslice .. | .sbeq .. | .mkbound .. | .load .. | .build .. | .mlook .. | .mlen _ | .mnil .. | .pnil .. => true
 | _ => false
noncomputable def yCH (d : Option Nat) (F : List AV) (keep : Bool) (sp : Nat) : Option (AV × Heap) → Option St
 | some (v,H) => fV v fun v => fS (xFM F d v) fun F => if keep then some ⟨F,H⟩ else fAt H sp fun H => some ⟨F,H⟩
 | none => none
theorem xZx (d : Option Nat) (F : List AV) (keep : Bool) (sp : Nat) (x : Option (AV × Heap)) : yCH d F keep sp x = x.map fun (v,H) => ⟨putA F d v,H⟩ := by
 cases x with
 | none => rfl
 | some p =>
  obtain ⟨v,H⟩ := p
  simp only [yCH,yCG,xZw,yA8,ite_self,xWS]
  rfl
def yEr (o : AOper) (s : St) (r : Option St) : Option Bool → Option St
 | none => none
 | some false => some ⟨putA s.F o.dst (.tup []),s.H⟩
 | some true => r
noncomputable def xGn (R : Rec) (o : AOper) (s : St) : Option St := yEr o s (yCH o.dst s.F (yEq o.op) (yFK s.F s.H o.op) (xMp R s.F s.H o.op)) (xCt s.F o.guard)
theorem xPJ (R : Rec) (o : AOper) (s : St) : xGn R o s = xBt R o s := by
 unfold xGn xBt
 rw [xLJ,xZx]
 split <;> rename_i e <;> rw [e] <;> rfl
noncomputable def xZy (k : St → Option St) : Option St → Option St
 | some s => k s
 | none => none
noncomputable def xJr (R : Rec) (ops : List AOper) : St → Option St := List.rec (motive := fun _ => St → Option St) (fun s => some s) (fun o _ ih s => xZy ih (xGn R o s)) ops
theorem xGN (R : Rec) : ∀ (ops : List AOper) (s : St),xJr R ops s = xA9 R ops s
 | [],s => rfl
 | o :: rest,s => by
  show xZy (xJr R rest) (xGn R o s) = _
  simp only [xA9,xPJ]
  cases xBt R o s with
  | none => rfl
  | some s' => exact xGN R rest s'
def yCI : AOp → Bool
 | .call .. | .fcall .. | .append .. | .box .. | .bslice .. | .mkslice .. | .appendz .. | .appendh .. | .copy .. | .icall .. | .bcall .. | .store .. | .ocall .. | .ocallw .. | .ofcall .. | .mkmap | .mupd .. | .ment .. | .mstore .. | .sbytes .. => true
 | _ => false
noncomputable def xQJ (R : Rec) (F : List AV) (H : Heap) (op : AOp) : Option AV := if yCI op then xA7 R F H op else (xMp R F H op).map (·.1)
theorem xT5 (R : Rec) (F : List AV) (H : Heap) (op : AOp) : xQJ R F H op = xA7 R F H op := by
 unfold xQJ
 rw [xLJ]
 cases op <;> rfl
noncomputable def frF (d : Option Nat) (s : St) : Option AV → Option St
 | some v => fV v fun v => fS (xFM s.F d v) fun F => some ⟨F,s.H⟩
 | none => none
theorem yEs (d : Option Nat) (s : St) (x : Option AV) : frF d s x = x.map fun v => ⟨putA s.F d v,s.H⟩ := by
 cases x with
 | none => rfl
 | some v => simp only [frF,yCG,xZw,xWS]; rfl
noncomputable def xGo (R : Rec) (o : AOper) (s : St) : Option St := yEr o s (frF o.dst s (xQJ R s.F s.H o.op)) (xCt s.F o.guard)
theorem xPK (R : Rec) (o : AOper) (s : St) : xGo R o s = xBq R o s := by
 unfold xGo xBq
 rw [xT5,yEs]
 split <;> rename_i e <;> rw [e] <;> rfl
noncomputable def xMq (R : Rec) (ops : List AOper) : St → Option St := List.rec (motive := fun _ => St → Option St) (fun s => some s) (fun o _ ih s => xZy ih (xGo R o s)) ops
theorem xJs (R : Rec) : ∀ (ops : List AOper) (s : St),xMq R ops s = xBO R ops s
 | [],s => rfl
 | o :: rest,s => by
  show xZy (xMq R rest) (xGo R o s) = _
  simp only [xBO,xPK]
  cases xBq R o s with
  | none => rfl
  | some s' => exact xJs R rest s'
noncomputable def yGq (k : St → Option (AExit × St)) : Option (AExit × St) → Option (AExit × St)
 | some (.normal,s') => k s'
 | r => r
noncomputable def yEt (x y : Option (AExit × St)) : AV → Option (AExit × St)
 | .bool t => if t then x else y
 | _ => none
def yA9 (id : Nat) : Option (AExit × St) → Option (AExit × St)
 | some (.exit i,s') => if i = id then some (.normal,s') else some (.exit i,s')
 | r => r
def yE2 : Option St → Option (AExit × St)
 | some s => some (.normal,s)
 | none => none
noncomputable def yCJ (R : Rec) (m : Nat) (ops : List AOper) (s : St) : Option (AExit × St) := match xMq R (ops.take m) s with
 | none => none
 | some s1 => yE2 (xJr R (ops.drop m) (adopt (ops.take m) s1))
def yGr (i : Nat) (k : AV → Option (AExit × St)) : Option AV → Option (AExit × St)
 | some v => k v
 | none => none
noncomputable def yBa (R : Rec) (c : ACode) : St → Option (AExit × St) :=
 ACode.rec (motive := fun _ => St → Option (AExit × St))
  (fun s => some (.normal,s)) (fun ops s => yE2 (xJr R ops s)) (fun m ops s => yCJ R m ops s) (fun ls m ops s => run R (.drawl ls m ops) s)
  (fun als ls m ops s => run R (.drawp als ls m ops) s) (fun hs als ls m ops s => run R (.drawh hs als ls m ops) s) (fun σ als ls m ops s => run R (.drawt σ als ls m ops) s) (fun _ ih s => ih ⟨s.F,s.H ++ [.cells true true []]⟩)
  (fun ss _ ih s => ih ⟨s.F,fzIds s.H (ss.flatMap fun i => bor frzN s.H (s.F.getD i .any))⟩) (fun i _ ih s => yGr i (fun v => ih ⟨s.F.set i v,fzIds s.H (yDf s.H (s.F.getD i .any))⟩) (xZ6 s.H (s.F.getD i .any))) (fun _ _ iha ihb s => yGq ihb (iha s)) (fun c _ _ iha ihb s => yEt (iha s) (ihb s) (xCH s.F c))
  (fun id _ ih s => yA9 id (ih s)) (fun scr b _ s => R.loop scr b s) (fun f ps asg body _ _ s => run R (.range f ps asg body) s) (fun id s => some (.exit id,s)) (fun _ ih s => ih s)
  (fun s => some (.normal,s)) (fun s => some (.ret,s)) (fun _ => none) c
theorem xW4 (x : Option St) : yE2 x = x.map fun s' => (.normal,s') := by cases x <;> rfl
theorem xW5 (R : Rec) (c : ACode) : ∀ s,yBa R c s = run R c s := by
 induction c <;> intro s
 case region ops => show yE2 (xJr R ops s) = _; simp only [run,xGN,xW4]
 case draw m ops =>
  show yCJ R m ops s = _
  simp only [run,yCJ,xJs,xGN,xW4]
  cases xBO R (ops.take m) s <;> rfl
 case seq a b iha ihb =>
  show yGq (yBa R b) (yBa R a s) = _
  simp only [run,iha]
  cases run R a s with
  | none => rfl
  | some p =>
   obtain ⟨e,s'⟩ := p
   cases e with
   | normal => exact ihb s'
   | exit i => rfl
   | ret => rfl
 case cond c a b iha ihb =>
  show yEt (yBa R a s) (yBa R b s) (xCH s.F c) = _
  simp only [run,iha,ihb,xWR]
  cases opv s.F c <;> rfl
 case block id b ih =>
  show yA9 id (yBa R b s) = _
  simp only [run,ih]
  cases run R b s with
  | none => rfl
  | some p => obtain ⟨e,s'⟩ := p; cases e <;> rfl
 case scope b ih => exact ih s
 case fz ss b ih => exact ih _
 case hole b ih => exact ih _
 case fzs i b ih =>
  show yGr i _ _ = _
  simp only [run]
  cases xZ6 s.H (s.F.getD i .any) with
  | none => rfl
  | some v => exact ih _
 all_goals rfl
def yHo (fn : AFunc) : Option (AExit × St) → Option (AV × Heap)
 | some (.normal,s) | some (.ret,s) => (xCr fn.results s).map fun v => (v,s.H)
 | _ => none
noncomputable def xZz (R : Rec) (fn : AFunc) (args : List AV) (H : Heap) : Option (AV × Heap) := yHo fn (yBa R fn.code (xM4 fn args H))
theorem xSQ (R : Rec) (fn : AFunc) (args : List AV) (H : Heap) : xZz R fn args H = xB6 R fn args H := by
 unfold xZz xB6
 rw [xW5]
 cases run R fn.code (xM4 fn args H) with
 | none => rfl
 | some p => obtain ⟨e,s'⟩ := p; cases e <;> rfl
def yFL : Option (AV × Heap) → Option AV
 | some (r,H') => frz frzN H' r
 | none => Option.none
def xJt : List AV → Nat → List Nat → List AV
 | [],_,_ => []
 | v :: F,_,[] => v :: F
 | v :: F,i,s :: scr => if s = i then .any :: xJt F (i + 1) scr else v :: xJt F (i + 1) (s :: scr)
def asc : List Nat → Nat → Bool
 | [],_ => true
 | s :: r,lo => decide (lo ≤ s) && asc r (s + 1)
theorem yBb : ∀ {scr : List Nat} {lo : Nat},asc scr lo = true → ∀ s ∈ scr,lo ≤ s
 | [],_,_,s,h => by cases h
 | s0 :: r,lo,h,s,hs => by
  simp only [asc,Bool.and_eq_true,decide_eq_true_eq] at h
  rcases List.mem_cons.1 hs with rfl | hs
  ·exact h.1
  ·have := yBb h.2 s hs; omega
theorem yCK : ∀ {scr : List Nat} {lo lo' : Nat},asc scr lo = true → (∀ s ∈ scr,lo' ≤ s) → asc scr lo' = true
 | [],_,_,_,_ => rfl
 | s0 :: r,lo,lo',h,hl => by
  simp only [asc,Bool.and_eq_true,decide_eq_true_eq] at h ⊢
  exact ⟨hl s0 (by simp),h.2⟩
theorem xGO : ∀ (F : List AV) (i : Nat) (scr : List Nat),asc scr i = true → ∀ j,(xJt F i scr)[j]? = if i + j ∈ scr then (F[j]?).map (fun _ => AV.any) else F[j]?
 | [],i,scr,h,j => by simp [xJt]
 | v :: F,i,[],h,j => by simp [xJt]
 | v :: F,i,s :: scr,h,j => by
  have h' := h
  simp only [asc,Bool.and_eq_true,decide_eq_true_eq] at h'
  unfold xJt
  by_cases e : s = i
  ·subst e
   rw [if_pos rfl]
   cases j with
   | zero => simp
   | succ j =>
    rw [List.getElem?_cons_succ,xGO F (s + 1) scr h'.2 j,List.getElem?_cons_succ]
    have : (s + 1 + j ∈ scr) ↔ (s + (j + 1) ∈ s :: scr) := by
     rw [show s + (j + 1) = s + 1 + j by omega,List.mem_cons]
     exact ⟨.inr,fun q => q.elim (fun q => by omega) id⟩
    simp only [this]
  ·rw [if_neg e]
   have hm : ∀ x ∈ s :: scr,i + 1 ≤ x := fun x hx => by
    rcases List.mem_cons.1 hx with rfl | hx
    ·omega
    ·have := yBb h'.2 x hx; omega
   cases j with
   | zero =>
    have : ¬ (i + 0 ∈ s :: scr) := fun q => by have := hm _ q; omega
    rw [if_neg this]; rfl
   | succ j =>
    rw [List.getElem?_cons_succ,xGO F (i + 1) (s :: scr) (yCK h hm) j,List.getElem?_cons_succ]
    simp only [show i + (j + 1) = i + 1 + j by omega]
def xSR (scr : List Nat) (F : List AV) : List AV := if asc scr 0 then xJt F 0 scr else xBd scr F
theorem xPL (scr : List Nat) (F : List AV) : xSR scr F = xBd scr F := by
 unfold xSR
 split
 ·rename_i h
  apply List.ext_getElem?
  intro j
  rw [xGO F 0 scr h j,xFj]
  simp only [Nat.zero_add]
 ·rfl
noncomputable def yBc (R : Rec) (scr : List Nat) (b : ACode) : Option (AExit × St) → Option (AExit × St)
 | some (.normal,s') => R.loop scr b s'
 | some (e,s') => some (e,⟨xSR scr s'.F,s'.H⟩)
 | none => none
noncomputable def yEu (prog : Nat → Option AFunc) (R : Rec) (args : List AV) (H : Heap) : AV → Option (AV × Heap)
 | .func f caps => match prog f with
  | some fn => xZz R fn (args ++ caps) H
  | none => Option.none
 | f => xD1 prog R f args H
noncomputable def yCL (prog : Nat → Option AFunc) (R : Rec) : Rec where
 pcall f args := match prog f with
  | some fn => yFL (xZz R fn args [])
  | none => primA f args
 icall f args H := yEu prog R args H f
 loop scr b s := fS (xSR scr s.F) fun F => yBc R scr b (yBa R b ⟨F,s.H⟩)
theorem xZA (prog : Nat → Option AFunc) (R : Rec) : yCL prog R = xDA prog R := by
 unfold yCL xDA
 congr 1
 ·funext f args
  cases prog f with
  | none => rfl
  | some fn =>
   simp only [xBo,xSQ]
   cases xB6 R fn args [] <;> rfl
 ·funext f args H
  unfold yEu
  split
  ·rename_i g caps
   simp only [xD1,xSQ]
   cases prog g <;> rfl
  ·rfl
 ·funext scr b s
  simp only [xH9,xW5,xZw,xPL]
  cases run R b ⟨xBd scr s.F,s.H⟩ with
  | none => rfl
  | some p => obtain ⟨e,s'⟩ := p; cases e <;> simp only [yBc,xPL]
noncomputable def yE3 (prog : Nat → Option AFunc) (T : Known) : Nat → Rec
 | 0 => Rec.none
 | n + 1 => yCM T (yCL prog (yE3 prog T n))
theorem xW6 (prog : Nat → Option AFunc) (T : Known) : ∀ n,yE3 prog T n = yCN prog T n
 | 0 => rfl
 | n + 1 => by rw [yE3,yCN,xZA,xW6 prog T n]
noncomputable def xW7 (prog : Nat → Option AFunc) (T : Known) (n f : Nat) (args : List AV) (v : AV) : Bool := match (yE3 prog T n).pcall f args with
 | some u => xJu 8 u v
 | none => false
theorem xBz {prog : Nat → Option AFunc} {T : Known} (hT : ∀ e ∈ T,(lim prog).pcall e.1 e.2.1 = some e.2.2) {n f : Nat} {args : List AV} {v : AV} (h : xW7 prog T n f args v = true) : (lim prog).pcall f args = some v :=
 xW8 hT (n := n) (by unfold xW7 at h; rw [xW6] at h; exact h)
end Go.Abs
