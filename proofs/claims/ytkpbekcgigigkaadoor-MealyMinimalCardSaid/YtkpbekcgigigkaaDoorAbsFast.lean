/- The interpreter once more,its alternatives as functions of their own: what the kernel unfolds is small. -/
import Derived.Test.YtkpbekcgigigkaaDoorAbsOver
namespace Go.Abs
set_option linter.unusedVariables false
noncomputable def yB8 (F : List AV) : Nat → AV := List.rec (motive := fun _ => Nat → AV) (fun _ => .any) (fun v _ ih n => Nat.casesOn (motive := fun _ => AV) n v ih) F
noncomputable def yCC (x : AV) (F : List AV) : Nat → List AV := List.rec (motive := fun _ => Nat → List AV) (fun _ => []) (fun v F ih n => Nat.casesOn (motive := fun _ => List AV) n (x :: F) (fun m => v :: ih m)) F
theorem xU0 : ∀ (F : List AV) (i : Nat),yB8 F i = F.getD i .any
  | [],i => by simp [yB8]
  | v :: F,0 => rfl
  | v :: F,i + 1 => by
    show yB8 F i = _
    rw [xU0 F i]; simp
theorem xU1 (x : AV) : ∀ (F : List AV) (i : Nat),yCC x F i = F.set i x
  | [],i => rfl
  | v :: F,0 => rfl
  | v :: F,i + 1 => by
    show v :: yCC x F i = _
    rw [xU1 x F i]; rfl
noncomputable def xB6 (F : List AV) : Arg → AV
  | .t i => yB8 F i
  | .c v => v
theorem xU2 : xB6 = opv := by
  funext F x
  cases x with
  | t i => exact xU0 F i
  | c v => rfl
noncomputable def yCD (F : List AV) (d : Option Nat) (v : AV) : List AV := match d with
  | some d => yCC v F d
  | none => F
theorem xU3 : yCD = putA := by
  funext F d v
  cases d with
  | none => rfl
  | some d => exact xU1 v F d
noncomputable def xSl (l : List AV) : Nat → List AV := List.rec (motive := fun _ => Nat → List AV) (fun _ => []) (fun v t ih n => Nat.casesOn (motive := fun _ => List AV) n (v :: t) ih) l
theorem xLC : ∀ (l : List AV) (n : Nat),xSl l n = l.drop n
  | [],n => by simp [xSl]
  | v :: t,0 => rfl
  | v :: t,n + 1 => by
    show xSl t n = _
    rw [xLC t n]; simp
def yBi (v : AV) : Option (List AV) → Option (List AV)
  | some l => some (v :: l)
  | none => none
noncomputable def xZL (l : List AV) : Nat → Option (List AV) := List.rec (motive := fun _ => Nat → Option (List AV)) (fun n => Nat.casesOn (motive := fun _ => Option (List AV)) n (some []) (fun _ => none)) (fun v t ih n => Nat.casesOn (motive := fun _ => Option (List AV)) n (some []) (fun m => yBi v (ih m))) l
theorem xQ6 : ∀ (l : List AV) (n : Nat),xZL l n = if n ≤ l.length then some (l.take n) else none
  | [],0 => rfl
  | [],n + 1 => by
    show none = _
    rw [if_neg (by simp)]
  | v :: t,0 => by
    show some [] = _
    rw [if_pos (Nat.zero_le _)]; rfl
  | v :: t,n + 1 => by
    show yBi v (xZL t n) = _
    rw [xQ6 t n]
    by_cases c : n ≤ t.length
    · rw [if_pos c,if_pos (by simpa using c)]; rfl
    · rw [if_neg c,if_neg (by simpa using c)]; rfl
noncomputable def xZM (l : List AV) : Nat := List.rec (motive := fun _ => Nat) 0 (fun _ _ n => n + 1) l
theorem xIo : ∀ l : List AV,xZM l = l.length
  | [] => rfl
  | v :: t => by
    show xZM t + 1 = _
    rw [xIo t]; rfl
noncomputable def rdC (cs : List AV) (off n : Nat) : Option (List AV) := match n with
  | 0 => if off ≤ xZM cs then some [] else none
  | n + 1 => xZL (xSl cs off) (n + 1)
theorem yBj (cs : List AV) (off n : Nat) : rdC cs off n = if off + n ≤ cs.length then some ((cs.drop off).take n) else none := by
  cases n with
  | zero => rw [rdC,xIo]; rfl
  | succ n =>
    rw [rdC,xQ6,xLC,List.length_drop]
    by_cases c : off + (n + 1) ≤ cs.length
    · rw [if_pos c,if_pos (by omega)]
    · rw [if_neg c,if_neg (by omega)]
noncomputable def rdF (H : Heap) (p : AV) (n : Nat) : Option (List AV) := match p with
  | .ptr id off => match H[id]? with
    | some (.cells _ _ cs) => rdC cs off n
    | _ => none
  | .vptr cs off => rdC cs off n
  | _ => none
theorem yBk : rdF = rd := by
  funext H p n
  cases p <;> simp only [rdF,rd,yBj]
  rename_i id off
  rcases H[id]? with _ | b
  · rfl
  · cases b <;> rfl
noncomputable def yCE (vs : List AV) (cs : List AV) : Nat → List AV := List.rec (motive := fun _ => Nat → List AV) (fun _ => vs) (fun v t ih n => Nat.casesOn (motive := fun _ => List AV) n (vs ++ xSl (v :: t) (xZM vs)) (fun m => v :: ih m)) cs
theorem xU4 (vs : List AV) : ∀ (cs : List AV) (off : Nat),yCE vs cs off = splice cs off vs
  | [],off => by
    show vs = _
    simp [splice]
  | v :: t,0 => by
    show vs ++ xSl (v :: t) (xZM vs) = _
    rw [xLC,xIo]; simp [splice]
  | v :: t,n + 1 => by
    show v :: yCE vs t n = _
    rw [xU4 vs t n]
    simp only [splice,List.take_succ_cons,List.cons_append,show n + 1 + vs.length = (n + vs.length) + 1 by omega,List.drop_succ_cons]
noncomputable def wrF (H : Heap) (p : AV) (vs : List AV) : Option Heap := match p with
  | .ptr id off => match H[id]? with
    | some (.cells false z cs) => if off + vs.length ≤ xZM cs ∧ vs.all AV.isCell = true then some (H.set id (.cells false z (yCE vs cs off))) else none
    | _ => none
  | _ => none
theorem yBl : wrF = wr := by
  funext H p vs
  cases p <;> simp only [wrF,wr,xU4,xIo]
  rename_i id off
  rcases H[id]? with _ | b
  · rfl
  · cases b with
    | cells fz z cs => cases fz <;> rfl
    | _ => rfl
noncomputable def tkA (ys cs : List AV) : Nat → List AV := List.rec (motive := fun _ => Nat → List AV) (fun _ => ys) (fun v _ ih n => Nat.casesOn (motive := fun _ => List AV) n ys (fun m => v :: ih m)) cs
theorem xYU (ys : List AV) : ∀ (cs : List AV) (n : Nat),tkA ys cs n = cs.take n ++ ys
  | [],n => by
    show ys = _
    simp
  | v :: t,0 => rfl
  | v :: t,n + 1 => by
    show v :: tkA ys t n = _
    rw [xYU ys t n]; rfl
def yBm (opv : List AV → Arg → AV) (R : Rec) (F : List AV) (H : Heap) (x : Arg) : Option (AV × Heap) := some (opv F x,H)
def xZN (opv : List AV → Arg → AV) (R : Rec) (F : List AV) (H : Heap) (c : Arg) (a : Arg) (b : Arg) : Option (AV × Heap) := match opv F c with
    | .bool t => some (if t then opv F a else opv F b,H)
    | _ => none
def yBn (opv : List AV → Arg → AV) (R : Rec) (F : List AV) (H : Heap) (x : Arg) : Option (AV × Heap) := let cs := (opv F x).cells; if cs.all AV.isCell then some (.ptr H.length 0,H ++ [.cells false false cs]) else none
def xW5 (opv : List AV → Arg → AV) (R : Rec) (F : List AV) (H : Heap) (z : List AV) (parts : List (Nat × Nat × Arg)) : Option (AV × Heap) :=
    (if parts.all (fun p => (opv F p.2.2).cells.length == p.2.1) then
      (fillA z (parts.map fun p => (p.1,(opv F p.2.2).cells))).map fun cs => (.agg cs,H) else none)
def xU5 (opv : List AV → Arg → AV) (R : Rec) (F : List AV) (H : Heap) (fz : Bool) (z : List AV) (es : Nat) (n : Nat) (parts : List (Nat × Arg)) : Option (AV × Heap) :=
    (if parts.all (fun p => (opv F p.2).cells.length == es) then
      match fillA (xCS z n) (parts.map fun p => (p.1 * es,(opv F p.2).cells)) with
      | some cs => xDv fz false n es cs H
      | none => none
     else none)
def xU6 (opv : List AV → Arg → AV) (R : Rec) (F : List AV) (H : Heap) (z : List AV) (es : Nat) (n : Nat) (parts : List (Nat × Arg)) : Option (AV × Heap) :=
    (if parts.all (fun p => (opv F p.2).cells.length == es) then
      match fillA (xCS z n) (parts.map fun p => (p.1 * es,(opv F p.2).cells)) with
      | some cs => if cs.all xAm = true then some (.sl false n cs,H) else none
      | none => none
     else none)
noncomputable def xU7 (opv : List AV → Arg → AV) (R : Rec) (F : List AV) (H : Heap) (g : Bool) (n : Nat) (p : Arg) : Option (AV × Heap) := match rdF H (opv F p) n with
    | some cs => (mkv g cs).map fun v => (v,H)
    | none => none
noncomputable def xQ7 (opv : List AV → Arg → AV) (R : Rec) (F : List AV) (H : Heap) (n : Nat) (p : Arg) (v : Arg) : Option (AV × Heap) := let cs := (opv F v).cells; if cs.length = n then (wrF H (opv F p) cs).map fun H' => (.tup [],H') else none
def xU8 (opv : List AV → Arg → AV) (R : Rec) (F : List AV) (H : Heap) (x : Arg) : Option (AV × Heap) := match opv F x with
    | .ptr id off => some (.ptr id off,H)
    | .vptr cs off => some (.vptr cs off,H)
    | .func f caps => some (.func f caps,H)
    | .yield l => some (.yield l,H)
    | _ => none
def yBo (opv : List AV → Arg → AV) (R : Rec) (F : List AV) (H : Heap) (op : BinOp) (x : Arg) (y : Arg) : Option (AV × Heap) := (xDo op (opv F x) (opv F y)).map fun v => (v,H)
def yBp (opv : List AV → Arg → AV) (R : Rec) (F : List AV) (H : Heap) (neg : Bool) (x : Arg) (y : Arg) : Option (AV × Heap) := match opv F x,opv F y with
    | .bool a,.bool b => some (.bool (if neg then a != b else a == b),H)
    | _,_ => none
def xW6 (opv : List AV → Arg → AV) (R : Rec) (F : List AV) (H : Heap) (neg : Bool) (x : Arg) : Option (AV × Heap) := match opv F x with
    | .sl z _ _ => some (.bool (z != neg),H)
    | .own z _ _ _ _ => some (.bool (z != neg),H)
    | _ => none
def yCF (opv : List AV → Arg → AV) (R : Rec) (F : List AV) (H : Heap) (op : UnOp) (x : Arg) : Option (AV × Heap) := (unA op (opv F x)).map fun v => (v,H)
def xZO (opv : List AV → Arg → AV) (R : Rec) (F : List AV) (H : Heap) (k : IntKind) (x : Arg) : Option (AV × Heap) := match opv F x with
    | .int _ n => some (.int k (k.wrap n),H)
    | _ => none
def xU9 (opv : List AV → Arg → AV) (R : Rec) (F : List AV) (H : Heap) (f : Nat) (caps : List Arg) : Option (AV × Heap) := some (.func f (caps.map (opv F)),H)
def xSm (opv : List AV → Arg → AV) (R : Rec) (F : List AV) (H : Heap) (fz : Bool) (z : List AV) (bytes : Nat) (l : Arg) (c : Arg) : Option (AV × Heap) := match opv F l,opv F c with
    | .int _ l,.int _ c => if 0 ≤ l ∧ l ≤ c ∧ c * bytes ≤ xBk ∧ c ≤ xBk ∧ z.all AV.isCell = true then xDv fz false l.toNat z.length (xCS z l.toNat) H else none
    | _,_ => none
def xW7 (opv : List AV → Arg → AV) (R : Rec) (F : List AV) (H : Heap) (es : Nat) (x : Arg) (lo : Option Arg) (hi : Option Arg) (mx : Option Arg) : Option (AV × Heap) := match opv F x with
    | .sl z n cs => if cs.length = n * es then (xBo n (lo.map (opv F)) (hi.map (opv F)) (mx.map (opv F))).map fun (l,h) => (.sl z (h - l) ((cs.drop (l * es)).take ((h - l) * es)),H) else none
    | .own z id off n es' => if es' = es then (xBo n (lo.map (opv F)) (hi.map (opv F)) (mx.map (opv F))).map fun (l,h) => (.own z id (off + l * es) (h - l) es,H) else none
    | _ => none
def xW8 (opv : List AV → Arg → AV) (R : Rec) (F : List AV) (H : Heap) (o : Nat) (x : Arg) : Option (AV × Heap) := match opv F x with
    | .ptr id off => some (.ptr id (off + o),H)
    | .vptr cs off => some (.vptr cs (off + o),H)
    | _ => none
def xW9 (opv : List AV → Arg → AV) (R : Rec) (F : List AV) (H : Heap) (g : Bool) (off : Nat) (n : Nat) (x : Arg) : Option (AV × Heap) := match opv F x with
    | .agg cs => if off + n ≤ cs.length then (mkv g ((cs.drop off).take n)).map fun v => (v,H) else none
    | _ => none
def xXa (opv : List AV → Arg → AV) (R : Rec) (F : List AV) (H : Heap) (es : Nat) (x : Arg) (i : Arg) : Option (AV × Heap) := match opv F x,xBh (opv F i) with
    | .sl _ n cs,some i => if i < n then some (.vptr cs (i * es),H) else none
    | .own _ id off n es',some i => if i < n ∧ es' = es then some (.ptr id (off + i * es),H) else none
    | _,_ => none
def yBq (opv : List AV → Arg → AV) (R : Rec) (F : List AV) (H : Heap) (i : Nat) (x : Arg) : Option (AV × Heap) := match opv F x with
    | .tup vs => (vs[i]?).map fun v => (v,H)
    | _ => none
def yBr (opv : List AV → Arg → AV) (R : Rec) (F : List AV) (H : Heap) (x : Arg) : Option (AV × Heap) := match opv F x with
    | .sl _ n _ => some (.int .i64 n,H)
    | .own _ _ _ n _ => some (.int .i64 n,H)
    | _ => none
def yBs (opv : List AV → Arg → AV) (R : Rec) (F : List AV) (H : Heap) (x : Arg) : Option (AV × Heap) := match opv F x with
    | .sl true _ _ => some (.int .i64 0,H)
    | _ => none
def yBt (opv : List AV → Arg → AV) (R : Rec) (F : List AV) (H : Heap) (neg : Bool) (n : Nat) (x : Arg) (y : Arg) : Option (AV × Heap) := match opv F x,opv F y with
    | .agg cs,.agg ds => if cs.length = n then (xBO cs ds).map fun b => (.bool (b != neg),H) else none
    | _,_ => none
noncomputable def xOb (opv : List AV → Arg → AV) (R : Rec) (F : List AV) (H : Heap) (fz : Bool) (es : Nat) (bytes : Nat) (x : Arg) (y : Arg) : Option (AV × Heap) := match src H es (opv F y) with
    | none => none
    | some (m,ys) => match opv F x with
      | .sl true _ _ => if m * bytes ≤ xBk ∧ m ≤ xBk then xDv fz (m == 0) m es ys H else none
      | .own z id off n es' => match H[id]? with
        | some (.cells false _ cs) => if off = 0 ∧ es' = es ∧ n * es ≤ xZM cs ∧ (n + m) * bytes ≤ xBk ∧ n + m ≤ xBk then
            some (.own (z && m == 0) H.length 0 (n + m) es,H.set id .dead ++ [.cells false (z && m == 0) (tkA ys cs (n * es))]) else none
        | _ => none
      | _ => none
def xSn (opv : List AV → Arg → AV) (R : Rec) (F : List AV) (H : Heap) (z : List AV) (bytes : Nat) (x : Arg) (n : Arg) : Option (AV × Heap) := match xBh (opv F n),opv F x with
    | some m,.sl true _ _ => if m * bytes ≤ xBk ∧ m ≤ xBk ∧ z.all AV.isCell = true then xDv false (m == 0) m z.length (xCS z m) H else none
    | _,_ => none
def xSo (opv : List AV → Arg → AV) (R : Rec) (F : List AV) (H : Heap) (es : Nat) (bytes : Nat) (x : Arg) (y : Arg) : Option (AV × Heap) := match xEX H with
    | none => none
    | some h => (xSd H es bytes (opv F x) (opv F y)).map fun r => (.own r.1 h 0 r.2.1 es,(xBZ r.2.2.2 H).set h (.cells false r.1 r.2.2.1))
def xZP (opv : List AV → Arg → AV) (R : Rec) (F : List AV) (H : Heap) (_u0 : Nat) (_u1 : Arg) (_u2 : Arg) : Option (AV × Heap) := none
def xZQ (opv : List AV → Arg → AV) (R : Rec) (F : List AV) (H : Heap) (x : Arg) (y : Arg) : Option (AV × Heap) := match opv F x,opv F y with
    | .int k a,.int _ b => some (.int k (if b > a then b else a),H)
    | _,_ => none
def xZR (opv : List AV → Arg → AV) (R : Rec) (F : List AV) (H : Heap) (x : Arg) (y : Arg) : Option (AV × Heap) := match opv F x,opv F y with
    | .int k a,.int _ b => some (.int k (if b < a then b else a),H)
    | _,_ => none
def xZS (opv : List AV → Arg → AV) (R : Rec) (F : List AV) (H : Heap) (f : Nat) (args : List Arg) : Option (AV × Heap) := xBw R f (args.map (opv F)) H
def xXb (opv : List AV → Arg → AV) (R : Rec) (F : List AV) (H : Heap) (f : Arg) (args : List Arg) : Option (AV × Heap) := R.icall (opv F f) (args.map (opv F)) H
def xXc (opv : List AV → Arg → AV) (R : Rec) (F : List AV) (H : Heap) (f : Arg) (args : List Arg) : Option (AV × Heap) := match opv F f with
    | .func g caps => xBw R g (args.map (opv F) ++ caps) H
    | _ => none
def yBu (opv : List AV → Arg → AV) (R : Rec) (F : List AV) (H : Heap) (g : Bool) (es : Nat) (len : Nat) (x : Arg) (i : Arg) : Option (AV × Heap) := match opv F x,xBh (opv F i) with
    | .agg cs,some j => if j < len ∧ j * es + es ≤ cs.length then (mkv g ((cs.drop (j * es)).take es)).map fun v => (v,H) else none
    | _,_ => none
def xXd (opv : List AV → Arg → AV) (R : Rec) (F : List AV) (H : Heap) (es : Nat) (len : Nat) (x : Arg) (i : Arg) : Option (AV × Heap) := match opv F x,xBh (opv F i) with
    | .ptr id off,some j => if j < len then some (.ptr id (off + j * es),H) else none
    | .vptr cs off,some j => if j < len then some (.vptr cs (off + j * es),H) else none
    | _,_ => none
def xZT (opv : List AV → Arg → AV) (R : Rec) (F : List AV) (H : Heap) (b : Nat) (es : Nat) (len : Nat) (i : Arg) : Option (AV × Heap) := match xSb b,xBh (opv F i) with
    | some cs,some j => if j < len then some (.vptr cs (j * es),H) else none
    | _,_ => none
def xZU (opv : List AV → Arg → AV) (R : Rec) (F : List AV) (H : Heap) (x : Arg) (i : Arg) : Option (AV × Heap) := match opv F x,xBh (opv F i) with
    | .str s,some j => (s[j]?).map fun b => (.int .u8 b.toNat,H)
    | _,_ => none
def xZV (opv : List AV → Arg → AV) (R : Rec) (F : List AV) (H : Heap) (x : Arg) : Option (AV × Heap) := match opv F x with
    | .str s => some (.int .i64 s.size,H)
    | _ => none
def yCG (opv : List AV → Arg → AV) (R : Rec) (F : List AV) (H : Heap) (mx : Bool) (xs : List Arg) : Option (AV × Heap) := match xs.map (opv F) with
    | [] => none
    | x :: r => (mmA mx x r).map fun v => (v,H)
def xVa (opv : List AV → Arg → AV) (R : Rec) (F : List AV) (H : Heap) (x : Arg) (lo : Option Arg) (hi : Option Arg) : Option (AV × Heap) := match opv F x with
    | .str s => (xBo s.size (lo.map (opv F)) (hi.map (opv F)) none).map fun (l,h) => (.str (s.extract l h),H)
    | _ => none
def xZW (opv : List AV → Arg → AV) (R : Rec) (F : List AV) (H : Heap) (neg : Bool) (x : Arg) (y : Arg) : Option (AV × Heap) := match opv F x,opv F y with
    | .str s,.str t => some (.bool ((s.toList == t.toList) != neg),H)
    | _,_ => none
def xSp (opv : List AV → Arg → AV) (R : Rec) (F : List AV) (H : Heap) (f : Nat) (first : List Arg) : Option (AV × Heap) := some (.bfunc f (first.map (opv F)),H)
def xXe (opv : List AV → Arg → AV) (R : Rec) (F : List AV) (H : Heap) (f : Arg) (args : List Arg) : Option (AV × Heap) := match opv F f with
    | .bfunc g first => R.icall (.func g []) (first ++ args.map (opv F)) H
    | _ => none
def xXf (opv : List AV → Arg → AV) (R : Rec) (F : List AV) (H : Heap)  : Option (AV × Heap) := some (.mp H.length,H ++ [.mp []])
def xXg (opv : List AV → Arg → AV) (R : Rec) (F : List AV) (H : Heap) (ks : List Nat) (comma : Bool) (z : AV) (x : Arg) (k : Arg) : Option (AV × Heap) := if xBp ks (opv F k) then match xSc H (opv F x) with
    | none => none
    | some es => match xDT (opv F k) es with
      | none => none
      | some none => some (if comma then .tup [z,.bool false] else z,H)
      | some (some v) => some (if comma then .tup [v,.bool true] else v,H)
    else none
def xZX (opv : List AV → Arg → AV) (R : Rec) (F : List AV) (H : Heap) (ks : List Nat) (z : AV) (m : Arg) (k : Arg) : Option (AV × Heap) := if xBp ks (opv F k) then match opv F m with
    | .mp id => match H[id]? with
      | some (.mp es) => (xEx (opv F k) z es 0).map fun r => (.tup [r.1,.int .i64 (r.2.1 : Nat)],H.set id (.mp r.2.2))
      | _ => none
    | _ => none
    else none
def xVb (opv : List AV → Arg → AV) (R : Rec) (F : List AV) (H : Heap) (m : Arg) (s : Arg) (v : Arg) : Option (AV × Heap) := match opv F m,opv F s with
    | .mp id,.int .i64 n => match H[id]? with
      | some (.mp es) => if 0 ≤ n then (es[n.toNat]?).map fun e => (.tup [],H.set id (.mp (es.set n.toNat (e.1,opv F v)))) else none
      | _ => none
    | _,_ => none
def xZY (opv : List AV → Arg → AV) (R : Rec) (F : List AV) (H : Heap) (ks : List Nat) (m : Arg) (k : Arg) (v : Arg) : Option (AV × Heap) := if xBp ks (opv F k) then match opv F m with
    | .mp id => match H[id]? with
      | some (.mp es) => (xXW (opv F k) (opv F v) es).map fun es' => (.tup [],H.set id (.mp es'))
      | _ => none
    | _ => none
    else none
def xZZ (opv : List AV → Arg → AV) (R : Rec) (F : List AV) (H : Heap) (x : Arg) : Option (AV × Heap) := (xSc H (opv F x)).map fun es => (.int .i64 es.length,H)
def xZ0 (opv : List AV → Arg → AV) (R : Rec) (F : List AV) (H : Heap) (neg : Bool) (x : Arg) : Option (AV × Heap) := match opv F x with
    | .nilm => some (.bool (true != neg),H)
    | .mp _ => some (.bool (false != neg),H)
    | _ => none
def xVc (opv : List AV → Arg → AV) (R : Rec) (F : List AV) (H : Heap) (fz : Bool) (x : Arg) : Option (AV × Heap) := match opv F x with
    | .str s => xDv fz false s.size 1 (xBX s) H
    | _ => none
def xZ1 (opv : List AV → Arg → AV) (R : Rec) (F : List AV) (H : Heap) (x : Arg) : Option (AV × Heap) := match src H 1 (opv F x) with
    | some (_,cs) => (xIM cs).map fun bs => (.str ⟨⟨bs⟩⟩,H)
    | none => none
def xZ2 (opv : List AV → Arg → AV) (R : Rec) (F : List AV) (H : Heap) (x : Arg) (y : Arg) : Option (AV × Heap) := match opv F x,opv F y with
    | .str s,.str t => if s.size + t.size ≤ 9223372036854775807 then some (.str ⟨⟨s.data.toList ++ t.data.toList⟩⟩,H) else none
    | _,_ => none
def xXh (opv : List AV → Arg → AV) (R : Rec) (F : List AV) (H : Heap) (f : Nat) (args : List Arg) : Option (AV × Heap) := match (args.map (opv F)).mapM (frz frzN H) with
    | none => none
    | some args' => match xCz R f args' with
      | none => none
      | some (v,B) => some (xAq H.length v,fzIds H ((args.map (opv F)).flatMap (bor frzN H)) ++ B)
def xVd (opv : List AV → Arg → AV) (R : Rec) (F : List AV) (H : Heap) (f : Nat) (args : List Arg) : Option (AV × Heap) := match (args.map (opv F)).mapM (frz frzN H) with
    | none => none
    | some args' => match xHg R f args' with
      | none => none
      | some (v,B) => some (xAq H.length v,fzIds H ((args.map (opv F)).flatMap (bor frzN H)) ++ B.map (xHf H.length))
noncomputable def xLD (R : Rec) (F : List AV) (H : Heap) : AOp → Option (AV × Heap)
  | .mov x => yBm xB6 R F H x
  | .pick c a b => xZN xB6 R F H c a b
  | .box x => yBn xB6 R F H x
  | .build z parts => xW5 xB6 R F H z parts
  | .bslice fz z es n parts => xU5 xB6 R F H fz z es n parts
  | .dslice z es n parts => xU6 xB6 R F H z es n parts
  | .load g n p => xU7 xB6 R F H g n p
  | .store n p v => xQ7 xB6 R F H n p v
  | .nilchk x => xU8 xB6 R F H x
  | .bin op x y => yBo xB6 R F H op x y
  | .beq neg x y => yBp xB6 R F H neg x y
  | .isnil neg x => xW6 xB6 R F H neg x
  | .un op x => yCF xB6 R F H op x
  | .conv k x => xZO xB6 R F H k x
  | .mkfunc f caps => xU9 xB6 R F H f caps
  | .mkslice fz z bytes l c => xSm xB6 R F H fz z bytes l c
  | .slice es x lo hi mx => xW7 xB6 R F H es x lo hi mx
  | .faddr o x => xW8 xB6 R F H o x
  | .field g off n x => xW9 xB6 R F H g off n x
  | .iaddr es x i => xXa xB6 R F H es x i
  | .ext i x => yBq xB6 R F H i x
  | .len x => yBr xB6 R F H x
  | .cap x => yBs xB6 R F H x
  | .aeq neg n x y => yBt xB6 R F H neg n x y
  | .append fz es bytes x y => xOb xB6 R F H fz es bytes x y
  | .appendz z bytes x n => xSn xB6 R F H z bytes x n
  | .appendh es bytes x y => xSo xB6 R F H es bytes x y
  | .copy _u0 _u1 _u2 => xZP xB6 R F H _u0 _u1 _u2
  | .maxi x y => xZQ xB6 R F H x y
  | .mini x y => xZR xB6 R F H x y
  | .call f args => xZS xB6 R F H f args
  | .icall f args => xXb xB6 R F H f args
  | .fcall f args => xXc xB6 R F H f args
  | .idx g es len x i => yBu xB6 R F H g es len x i
  | .arrat es len x i => xXd xB6 R F H es len x i
  | .garr b es len i => xZT xB6 R F H b es len i
  | .sidx x i => xZU xB6 R F H x i
  | .slen x => xZV xB6 R F H x
  | .mm mx xs => yCG xB6 R F H mx xs
  | .sslice x lo hi => xVa xB6 R F H x lo hi
  | .sbeq neg x y => xZW xB6 R F H neg x y
  | .mkbound f first => xSp xB6 R F H f first
  | .bcall f args => xXe xB6 R F H f args
  | .mkmap  => xXf xB6 R F H 
  | .mlook ks comma z x k => xXg xB6 R F H ks comma z x k
  | .ment ks z m k => xZX xB6 R F H ks z m k
  | .mstore m s v => xVb xB6 R F H m s v
  | .mupd ks m k v => xZY xB6 R F H ks m k v
  | .mlen x => xZZ xB6 R F H x
  | .mnil neg x => xZ0 xB6 R F H neg x
  | .sbytes fz x => xVc xB6 R F H fz x
  | .bstr x => xZ1 xB6 R F H x
  | .sadd x y => xZ2 xB6 R F H x y
  | .ocall f args => xXh xB6 R F H f args
  | .ocallw f args => xVd xB6 R F H f args
theorem xKN (R : Rec) (F : List AV) (H : Heap) (op : AOp) : xLD R F H op = xAa R F H op := by
  cases op <;> simp only [xLD,xU2] <;> first | rfl | (simp only [xU7,yBk]; rfl) | (simp only [xQ7,yBl]; rfl) | (simp only [xOb,xIo,xYU]; rfl)
def fN {α : Type} (a : Nat) (k : Nat → α) : α := match a with
  | 0 => k 0
  | n + 1 => k (n + 1)
theorem yBv {α : Type} (a : Nat) (k : Nat → α) : fN a k = k a := by cases a <;> rfl
def fI {α : Type} (x : Int) (k : Int → α) : α := match x with
  | .ofNat a => fN a fun a => k (.ofNat a)
  | .negSucc a => fN a fun a => k (.negSucc a)
theorem yCH {α : Type} (x : Int) (k : Int → α) : fI x k = k x := by cases x <;> simp only [fI,yBv]
def fBo {α : Type} (x : Bool) (k : Bool → α) : α := match x with
  | true => k true
  | false => k false
theorem yBw {α : Type} (x : Bool) (k : Bool → α) : fBo x k = k x := by cases x <;> rfl
def fV {α : Type} (v : AV) (k : AV → α) : α := match v with
  | .int kd n => fI n fun n => k (.int kd n)
  | .bool b => fBo b fun b => k (.bool b)
  | .ptr i o => fN i fun i => fN o fun o => k (.ptr i o)
  | .own z i o n e => fBo z fun z => fN i fun i => fN o fun o => fN n fun n => fN e fun e => k (.own z i o n e)
  | .sl z n cs => fN n fun n => k (.sl z n cs)
  | v => k v
theorem xZ3 {α : Type} (v : AV) (k : AV → α) : fV v k = k v := by
  cases v <;> simp only [fV,yCH,yBw,yBv]
noncomputable def fS {α : Type} (l : List AV) : (List AV → α) → α := List.rec (motive := fun _ => (List AV → α) → α) (fun k => k []) (fun v _ ih k => ih fun vs => k (v :: vs)) l
theorem xXi {α : Type} : ∀ (l : List AV) (k : List AV → α),fS l k = k l
  | [],k => rfl
  | v :: vs,k => by
    show fS vs (fun vs => k (v :: vs)) = _
    rw [xXi vs]
def fL {α : Type} : List AV → (List AV → α) → α
  | [],k => k []
  | v :: vs,k => fV v fun v => fL vs fun vs => k (v :: vs)
theorem yBx {α : Type} : ∀ (l : List AV) (k : List AV → α),fL l k = k l
  | [],k => rfl
  | v :: vs,k => by rw [fL,xZ3,yBx vs]
def fB {α : Type} (b : Blk) (k : Blk → α) : α := match b with
  | .cells fz z cs => fL cs fun cs => k (.cells fz z cs)
  | b => k b
theorem yCI {α : Type} (b : Blk) (k : Blk → α) : fB b k = k b := by
  cases b <;> first | rfl | simp only [fB,yBx]
noncomputable def fAt {α : Type} (l : List Blk) : Nat → (List Blk → α) → α := List.rec (motive := fun _ => Nat → (List Blk → α) → α) (fun _ k => k []) (fun b bs ih n k => Nat.casesOn (motive := fun _ => α) n (fB b fun b => k (b :: bs)) (fun m => ih m fun bs => k (b :: bs))) l
theorem xYV {α : Type} : ∀ (l : List Blk) (n : Nat) (k : List Blk → α),fAt l n k = k l
  | [],n,k => rfl
  | b :: bs,0,k => by
    show fB b (fun b => k (b :: bs)) = _
    rw [yCI]
  | b :: bs,n + 1,k => by
    show fAt bs n (fun bs => k (b :: bs)) = _
    rw [xYV bs]
noncomputable def yDK (l : List Blk) : Nat := List.rec (motive := fun _ => Nat) 0 (fun _ _ n => n + 1) l
noncomputable def yCJ (F : List AV) (H : List Blk) : AOp → Nat
  | .store _ p _ => match xB6 F p with
    | .ptr id _ => id
    | _ => 0
  | _ => yDK H
def yBy : AOp → Bool
  | .mov _ | .pick .. | .bin .. | .beq .. | .aeq .. | .un .. | .conv .. | .ext .. | .faddr .. | .field .. | .iaddr .. | .len _ | .cap _ | .isnil .. | .maxi .. | .mini .. | .nilchk _ | .mkfunc .. | .slice .. | .idx .. | .arrat .. | .garr .. | .sidx .. | .slen .. | .mm .. | .sslice .. | .sbeq .. | .mkbound .. | .load .. | .build .. | .mlook .. | .mlen _ | .mnil .. => true
  | _ => false
noncomputable def xZ4 (d : Option Nat) (F : List AV) (keep : Bool) (sp : Nat) : Option (AV × Heap) → Option St
  | some (v,H) => fV v fun v => fS (yCD F d v) fun F => if keep then some ⟨F,H⟩ else fAt H sp fun H => some ⟨F,H⟩
  | none => none
theorem xXj (d : Option Nat) (F : List AV) (keep : Bool) (sp : Nat) (x : Option (AV × Heap)) : xZ4 d F keep sp x = x.map fun (v,H) => ⟨putA F d v,H⟩ := by
  cases x with
  | none => rfl
  | some p =>
    obtain ⟨v,H⟩ := p
    simp only [xZ4,xZ3,xXi,xYV,ite_self,xU3]
    rfl
def yBz (o : AOper) (s : St) (r : Option St) : Option Bool → Option St
  | none => none
  | some false => some ⟨putA s.F o.dst (.tup []),s.H⟩
  | some true => r
noncomputable def xFk (R : Rec) (o : AOper) (s : St) : Option St := yBz o s (xZ4 o.dst s.F (yBy o.op) (yCJ s.F s.H o.op) (xLD R s.F s.H o.op)) (xB0 s.F o.guard)
theorem xOc (R : Rec) (o : AOper) (s : St) : xFk R o s = xAG R o s := by
  unfold xFk xAG
  rw [xKN,xXj]
  split <;> rename_i e <;> rw [e] <;> rfl
noncomputable def xXk (k : St → Option St) : Option St → Option St
  | some s => k s
  | none => none
noncomputable def xIp (R : Rec) (ops : List AOper) : St → Option St := List.rec (motive := fun _ => St → Option St) (fun s => some s) (fun o _ ih s => xXk ih (xFk R o s)) ops
theorem xFK (R : Rec) : ∀ (ops : List AOper) (s : St),xIp R ops s = xAx R ops s
  | [],s => rfl
  | o :: rest,s => by
    show xXk (xIp R rest) (xFk R o s) = _
    simp only [xAx,xOc]
    cases xAG R o s with
    | none => rfl
    | some s' => exact xFK R rest s'
def xZ5 : AOp → Bool
  | .call .. | .fcall .. | .append .. | .box .. | .bslice .. | .mkslice .. | .appendz .. | .appendh .. | .copy .. | .icall .. | .bcall .. | .store .. | .ocall .. | .ocallw .. | .mkmap | .mupd .. | .ment .. | .mstore .. | .sbytes .. => true
  | _ => false
noncomputable def xO7 (R : Rec) (F : List AV) (H : Heap) (op : AOp) : Option AV := if xZ5 op then xAw R F H op else (xLD R F H op).map (·.1)
theorem xSq (R : Rec) (F : List AV) (H : Heap) (op : AOp) : xO7 R F H op = xAw R F H op := by
  unfold xO7
  rw [xKN]
  cases op <;> rfl
noncomputable def frF (d : Option Nat) (s : St) : Option AV → Option St
  | some v => fV v fun v => fS (yCD s.F d v) fun F => some ⟨F,s.H⟩
  | none => none
theorem yBA (d : Option Nat) (s : St) (x : Option AV) : frF d s x = x.map fun v => ⟨putA s.F d v,s.H⟩ := by
  cases x with
  | none => rfl
  | some v => simp only [frF,xZ3,xXi,xU3]; rfl
noncomputable def xFl (R : Rec) (o : AOper) (s : St) : Option St := yBz o s (frF o.dst s (xO7 R s.F s.H o.op)) (xB0 s.F o.guard)
theorem xOd (R : Rec) (o : AOper) (s : St) : xFl R o s = xAO R o s := by
  unfold xFl xAO
  rw [xSq,yBA]
  split <;> rename_i e <;> rw [e] <;> rfl
noncomputable def xLE (R : Rec) (ops : List AOper) : St → Option St := List.rec (motive := fun _ => St → Option St) (fun s => some s) (fun o _ ih s => xXk ih (xFl R o s)) ops
theorem xIq (R : Rec) : ∀ (ops : List AOper) (s : St),xLE R ops s = xBb R ops s
  | [],s => rfl
  | o :: rest,s => by
    show xXk (xLE R rest) (xFl R o s) = _
    simp only [xBb,xOd]
    cases xAO R o s with
    | none => rfl
    | some s' => exact xIq R rest s'
noncomputable def yDr (k : St → Option (AExit × St)) : Option (AExit × St) → Option (AExit × St)
  | some (.normal,s') => k s'
  | r => r
noncomputable def yBB (x y : Option (AExit × St)) : AV → Option (AExit × St)
  | .bool t => if t then x else y
  | _ => none
def xYW (id : Nat) : Option (AExit × St) → Option (AExit × St)
  | some (.exit i,s') => if i = id then some (.normal,s') else some (.exit i,s')
  | r => r
def yB9 : Option St → Option (AExit × St)
  | some s => some (.normal,s)
  | none => none
noncomputable def xZ6 (R : Rec) (m : Nat) (ops : List AOper) (s : St) : Option (AExit × St) := match xLE R (ops.take m) s with
  | none => none
  | some s1 => yB9 (xIp R (ops.drop m) (adopt (ops.take m) s1))
def yDs (i : Nat) (k : AV → Option (AExit × St)) : Option AV → Option (AExit × St)
  | some v => k v
  | none => none
noncomputable def xYX (R : Rec) (c : ACode) : St → Option (AExit × St) :=
  ACode.rec (motive := fun _ => St → Option (AExit × St))
    (fun s => some (.normal,s)) (fun ops s => yB9 (xIp R ops s)) (fun m ops s => xZ6 R m ops s) (fun ls m ops s => run R (.drawl ls m ops) s)
    (fun als ls m ops s => run R (.drawp als ls m ops) s) (fun hs als ls m ops s => run R (.drawh hs als ls m ops) s) (fun σ als ls m ops s => run R (.drawt σ als ls m ops) s) (fun _ ih s => ih ⟨s.F,s.H ++ [.cells true true []]⟩)
    (fun ss _ ih s => ih ⟨s.F,fzIds s.H (ss.flatMap fun i => bor frzN s.H (s.F.getD i .any))⟩) (fun i _ ih s => yDs i (fun v => ih ⟨s.F.set i v,fzIds s.H (bor frzN s.H (s.F.getD i .any))⟩) (frz frzN s.H (s.F.getD i .any))) (fun _ _ iha ihb s => yDr ihb (iha s)) (fun c _ _ iha ihb s => yBB (iha s) (ihb s) (xB6 s.F c))
    (fun id _ ih s => xYW id (ih s)) (fun scr b _ s => R.loop scr b s) (fun f ps asg body _ _ s => run R (.range f ps asg body) s) (fun id s => some (.exit id,s)) (fun _ ih s => ih s)
    (fun s => some (.normal,s)) (fun s => some (.ret,s)) (fun _ => none) c
theorem xVe (x : Option St) : yB9 x = x.map fun s' => (.normal,s') := by cases x <;> rfl
theorem xVf (R : Rec) (c : ACode) : ∀ s,xYX R c s = run R c s := by
  induction c <;> intro s
  case region ops => show yB9 (xIp R ops s) = _; simp only [run,xFK,xVe]
  case draw m ops =>
    show xZ6 R m ops s = _
    simp only [run,xZ6,xIq,xFK,xVe]
    cases xBb R (ops.take m) s <;> rfl
  case seq a b iha ihb =>
    show yDr (xYX R b) (xYX R a s) = _
    simp only [run,iha]
    cases run R a s with
    | none => rfl
    | some p =>
      obtain ⟨e,s'⟩ := p
      cases e with
      | normal => exact ihb s'
      | exit i => rfl
      | ret => rfl
  case cond c a b iha ihb =>
    show yBB (xYX R a s) (xYX R b s) (xB6 s.F c) = _
    simp only [run,iha,ihb,xU2]
    cases opv s.F c <;> rfl
  case block id b ih =>
    show xYW id (xYX R b s) = _
    simp only [run,ih]
    cases run R b s with
    | none => rfl
    | some p => obtain ⟨e,s'⟩ := p; cases e <;> rfl
  case scope b ih => exact ih s
  case fz ss b ih => exact ih _
  case hole b ih => exact ih _
  case fzs i b ih =>
    show yDs i _ _ = _
    simp only [run]
    cases frz frzN s.H (s.F.getD i .any) with
    | none => rfl
    | some v => exact ih _
  all_goals rfl
def yDL (fn : AFunc) : Option (AExit × St) → Option (AV × Heap)
  | some (.normal,s) | some (.ret,s) => (xBM fn.results s).map fun v => (v,s.H)
  | _ => none
noncomputable def xXl (R : Rec) (fn : AFunc) (args : List AV) (H : Heap) : Option (AV × Heap) := yDL fn (xYX R fn.code (xMt fn args H))
theorem xQ8 (R : Rec) (fn : AFunc) (args : List AV) (H : Heap) : xXl R fn args H = xB1 R fn args H := by
  unfold xXl xB1
  rw [xVf]
  cases run R fn.code (xMt fn args H) with
  | none => rfl
  | some p => obtain ⟨e,s'⟩ := p; cases e <;> rfl
def yDM : Option (AV × Heap) → Option AV
  | some (r,H') => frz frzN H' r
  | none => Option.none
def xIr : List AV → Nat → List Nat → List AV
  | [],_,_ => []
  | v :: F,_,[] => v :: F
  | v :: F,i,s :: scr => if s = i then .any :: xIr F (i + 1) scr else v :: xIr F (i + 1) (s :: scr)
def asc : List Nat → Nat → Bool
  | [],_ => true
  | s :: r,lo => decide (lo ≤ s) && asc r (s + 1)
theorem xYY : ∀ {scr : List Nat} {lo : Nat},asc scr lo = true → ∀ s ∈ scr,lo ≤ s
  | [],_,_,s,h => by cases h
  | s0 :: r,lo,h,s,hs => by
    simp only [asc,Bool.and_eq_true,decide_eq_true_eq] at h
    rcases List.mem_cons.1 hs with rfl | hs
    · exact h.1
    · have := xYY h.2 s hs; omega
theorem xZ7 : ∀ {scr : List Nat} {lo lo' : Nat},asc scr lo = true → (∀ s ∈ scr,lo' ≤ s) → asc scr lo' = true
  | [],_,_,_,_ => rfl
  | s0 :: r,lo,lo',h,hl => by
    simp only [asc,Bool.and_eq_true,decide_eq_true_eq] at h ⊢
    exact ⟨hl s0 (by simp),h.2⟩
theorem xFL : ∀ (F : List AV) (i : Nat) (scr : List Nat),asc scr i = true → ∀ j,(xIr F i scr)[j]? = if i + j ∈ scr then (F[j]?).map (fun _ => AV.any) else F[j]?
  | [],i,scr,h,j => by simp [xIr]
  | v :: F,i,[],h,j => by simp [xIr]
  | v :: F,i,s :: scr,h,j => by
    have h' := h
    simp only [asc,Bool.and_eq_true,decide_eq_true_eq] at h'
    unfold xIr
    by_cases e : s = i
    · subst e
      rw [if_pos rfl]
      cases j with
      | zero => simp
      | succ j =>
        rw [List.getElem?_cons_succ,xFL F (s + 1) scr h'.2 j,List.getElem?_cons_succ]
        have : (s + 1 + j ∈ scr) ↔ (s + (j + 1) ∈ s :: scr) := by
          rw [show s + (j + 1) = s + 1 + j by omega,List.mem_cons]
          exact ⟨.inr,fun q => q.elim (fun q => by omega) id⟩
        simp only [this]
    · rw [if_neg e]
      have hm : ∀ x ∈ s :: scr,i + 1 ≤ x := fun x hx => by
        rcases List.mem_cons.1 hx with rfl | hx
        · omega
        · have := xYY h'.2 x hx; omega
      cases j with
      | zero =>
        have : ¬ (i + 0 ∈ s :: scr) := fun q => by have := hm _ q; omega
        rw [if_neg this]; rfl
      | succ j =>
        rw [List.getElem?_cons_succ,xFL F (i + 1) (s :: scr) (xZ7 h hm) j,List.getElem?_cons_succ]
        simp only [show i + (j + 1) = i + 1 + j by omega]
def xQ9 (scr : List Nat) (F : List AV) : List AV := if asc scr 0 then xIr F 0 scr else xAM scr F
theorem xOe (scr : List Nat) (F : List AV) : xQ9 scr F = xAM scr F := by
  unfold xQ9
  split
  · rename_i h
    apply List.ext_getElem?
    intro j
    rw [xFL F 0 scr h j,xEa]
    simp only [Nat.zero_add]
  · rfl
noncomputable def xYZ (R : Rec) (scr : List Nat) (b : ACode) : Option (AExit × St) → Option (AExit × St)
  | some (.normal,s') => R.loop scr b s'
  | some (e,s') => some (e,⟨xQ9 scr s'.F,s'.H⟩)
  | none => none
noncomputable def yBC (prog : Nat → Option AFunc) (R : Rec) (args : List AV) (H : Heap) : AV → Option (AV × Heap)
  | .func f caps => match prog f with
    | some fn => xXl R fn (args ++ caps) H
    | none => Option.none
  | f => xC7 prog R f args H
noncomputable def xZ8 (prog : Nat → Option AFunc) (R : Rec) : Rec where
  pcall f args := match prog f with
    | some fn => yDM (xXl R fn args [])
    | none => primA f args
  icall f args H := yBC prog R args H f
  loop scr b s := fS (xQ9 scr s.F) fun F => xYZ R scr b (xYX R b ⟨F,s.H⟩)
theorem xXm (prog : Nat → Option AFunc) (R : Rec) : xZ8 prog R = xCL prog R := by
  unfold xZ8 xCL
  congr 1
  · funext f args
    cases prog f with
    | none => rfl
    | some fn =>
      simp only [xBj,xQ8]
      cases xB1 R fn args [] <;> rfl
  · funext f args H
    unfold yBC
    split
    · rename_i g caps
      simp only [xC7,xQ8]
      cases prog g <;> rfl
    · rfl
  · funext scr b s
    simp only [xHj,xVf,xXi,xOe]
    cases run R b ⟨xAM scr s.F,s.H⟩ with
    | none => rfl
    | some p => obtain ⟨e,s'⟩ := p; cases e <;> simp only [xYZ,xOe]
noncomputable def yCa (prog : Nat → Option AFunc) (T : Known) : Nat → Rec
  | 0 => Rec.none
  | n + 1 => xZ9 T (xZ8 prog (yCa prog T n))
theorem xVg (prog : Nat → Option AFunc) (T : Known) : ∀ n,yCa prog T n = yAa prog T n
  | 0 => rfl
  | n + 1 => by rw [yCa,yAa,xXm,xVg prog T n]
noncomputable def xVh (prog : Nat → Option AFunc) (T : Known) (n f : Nat) (args : List AV) (v : AV) : Bool := match (yCa prog T n).pcall f args with
  | some u => xIs 8 u v
  | none => false
theorem xSr {prog : Nat → Option AFunc} {T : Known} (hT : ∀ e ∈ T,(lim prog).pcall e.1 e.2.1 = some e.2.2) {n f : Nat} {args : List AV} {v : AV} (h : xVh prog T n f args v = true) : (lim prog).pcall f args = some v :=
  xVi hT (n := n) (by unfold xVh at h; rw [xVg] at h; exact h)
end Go.Abs
