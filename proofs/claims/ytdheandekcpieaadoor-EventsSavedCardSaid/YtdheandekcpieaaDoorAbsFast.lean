/- The interpreter once more,its alternatives as functions of their own: what the kernel unfolds is small. -/
import Derived.Test.YtdheandekcpieaaDoorAbsOver
namespace Go.Abs
set_option linter.unusedVariables false
noncomputable def yCW (F : List AV) : Nat → AV := List.rec (motive := fun _ => Nat → AV) (fun _ => .any) (fun v _ ih n => Nat.casesOn (motive := fun _ => AV) n v ih) F
noncomputable def yC7 (x : AV) (F : List AV) : Nat → List AV := List.rec (motive := fun _ => Nat → List AV) (fun _ => []) (fun v F ih n => Nat.casesOn (motive := fun _ => List AV) n (x :: F) (fun m => v :: ih m)) F
theorem xT0 : ∀ (F : List AV) (i : Nat),yCW F i = F.getD i .any
  | [],i => by simp [yCW]
  | v :: F,0 => rfl
  | v :: F,i + 1 => by
    show yCW F i = _
    rw [xT0 F i]; simp
theorem xT1 (x : AV) : ∀ (F : List AV) (i : Nat),yC7 x F i = F.set i x
  | [],i => rfl
  | v :: F,0 => rfl
  | v :: F,i + 1 => by
    show v :: yC7 x F i = _
    rw [xT1 x F i]; rfl
noncomputable def xCu (F : List AV) : Arg → AV
  | .t i => yCW F i
  | .c v => v
theorem xT2 : xCu = opv := by
  funext F x
  cases x with
  | t i => exact xT0 F i
  | c v => rfl
noncomputable def yC8 (F : List AV) (d : Option Nat) (v : AV) : List AV := match d with
  | some d => yC7 v F d
  | none => F
theorem xT3 : yC8 = putA := by
  funext F d v
  cases d with
  | none => rfl
  | some d => exact xT1 v F d
noncomputable def xSS (l : List AV) : Nat → List AV := List.rec (motive := fun _ => Nat → List AV) (fun _ => []) (fun v t ih n => Nat.casesOn (motive := fun _ => List AV) n (v :: t) ih) l
theorem xMb : ∀ (l : List AV) (n : Nat),xSS l n = l.drop n
  | [],n => by simp [xSS]
  | v :: t,0 => rfl
  | v :: t,n + 1 => by
    show xSS t n = _
    rw [xMb t n]; simp
def yBo (v : AV) : Option (List AV) → Option (List AV)
  | some l => some (v :: l)
  | none => none
noncomputable def xZy (l : List AV) : Nat → Option (List AV) := List.rec (motive := fun _ => Nat → Option (List AV)) (fun n => Nat.casesOn (motive := fun _ => Option (List AV)) n (some []) (fun _ => none)) (fun v t ih n => Nat.casesOn (motive := fun _ => Option (List AV)) n (some []) (fun m => yBo v (ih m))) l
theorem xQB : ∀ (l : List AV) (n : Nat),xZy l n = if n ≤ l.length then some (l.take n) else none
  | [],0 => rfl
  | [],n + 1 => by
    show none = _
    rw [if_neg (by simp)]
  | v :: t,0 => by
    show some [] = _
    rw [if_pos (Nat.zero_le _)]; rfl
  | v :: t,n + 1 => by
    show yBo v (xZy t n) = _
    rw [xQB t n]
    by_cases c : n ≤ t.length
    · rw [if_pos c,if_pos (by simpa using c)]; rfl
    · rw [if_neg c,if_neg (by simpa using c)]; rfl
noncomputable def xZz (l : List AV) : Nat := List.rec (motive := fun _ => Nat) 0 (fun _ _ n => n + 1) l
theorem xIf : ∀ l : List AV,xZz l = l.length
  | [] => rfl
  | v :: t => by
    show xZz t + 1 = _
    rw [xIf t]; rfl
noncomputable def rdC (cs : List AV) (off n : Nat) : Option (List AV) := match n with
  | 0 => if off ≤ xZz cs then some [] else none
  | n + 1 => xZy (xSS cs off) (n + 1)
theorem yBp (cs : List AV) (off n : Nat) : rdC cs off n = if off + n ≤ cs.length then some ((cs.drop off).take n) else none := by
  cases n with
  | zero => rw [rdC,xIf]; rfl
  | succ n =>
    rw [rdC,xQB,xMb,List.length_drop]
    by_cases c : off + (n + 1) ≤ cs.length
    · rw [if_pos c,if_pos (by omega)]
    · rw [if_neg c,if_neg (by omega)]
noncomputable def rdF (H : Heap) (p : AV) (n : Nat) : Option (List AV) := match p with
  | .ptr id off => match H[id]? with
    | some (.cells _ _ cs) => rdC cs off n
    | _ => none
  | .vptr cs off => rdC cs off n
  | _ => none
theorem yBq : rdF = rd := by
  funext H p n
  cases p <;> simp only [rdF,rd,yBp]
  rename_i id off
  rcases H[id]? with _ | b
  · rfl
  · cases b <;> rfl
noncomputable def yC9 (vs : List AV) (cs : List AV) : Nat → List AV := List.rec (motive := fun _ => Nat → List AV) (fun _ => vs) (fun v t ih n => Nat.casesOn (motive := fun _ => List AV) n (vs ++ xSS (v :: t) (xZz vs)) (fun m => v :: ih m)) cs
theorem xT4 (vs : List AV) : ∀ (cs : List AV) (off : Nat),yC9 vs cs off = splice cs off vs
  | [],off => by
    show vs = _
    simp [splice]
  | v :: t,0 => by
    show vs ++ xSS (v :: t) (xZz vs) = _
    rw [xMb,xIf]; simp [splice]
  | v :: t,n + 1 => by
    show v :: yC9 vs t n = _
    rw [xT4 vs t n]
    simp only [splice,List.take_succ_cons,List.cons_append,show n + 1 + vs.length = (n + vs.length) + 1 by omega,List.drop_succ_cons]
noncomputable def wrF (H : Heap) (p : AV) (vs : List AV) : Option Heap := match p with
  | .ptr id off => match H[id]? with
    | some (.cells false z cs) => if off + vs.length ≤ xZz cs ∧ vs.all AV.isCell = true then some (H.set id (.cells false z (yC9 vs cs off))) else none
    | _ => none
  | _ => none
theorem yBr : wrF = wr := by
  funext H p vs
  cases p <;> simp only [wrF,wr,xT4,xIf]
  rename_i id off
  rcases H[id]? with _ | b
  · rfl
  · cases b with
    | cells fz z cs => cases fz <;> rfl
    | _ => rfl
noncomputable def tkA (ys cs : List AV) : Nat → List AV := List.rec (motive := fun _ => Nat → List AV) (fun _ => ys) (fun v _ ih n => Nat.casesOn (motive := fun _ => List AV) n ys (fun m => v :: ih m)) cs
theorem xYb (ys : List AV) : ∀ (cs : List AV) (n : Nat),tkA ys cs n = cs.take n ++ ys
  | [],n => by
    show ys = _
    simp
  | v :: t,0 => rfl
  | v :: t,n + 1 => by
    show v :: tkA ys t n = _
    rw [xYb ys t n]; rfl
def yBs (opv : List AV → Arg → AV) (R : Rec) (F : List AV) (H : Heap) (x : Arg) : Option (AV × Heap) := some (opv F x,H)
def xZA (opv : List AV → Arg → AV) (R : Rec) (F : List AV) (H : Heap) (c : Arg) (a : Arg) (b : Arg) : Option (AV × Heap) := match opv F c with
    | .bool t => some (if t then opv F a else opv F b,H)
    | _ => none
def yBt (opv : List AV → Arg → AV) (R : Rec) (F : List AV) (H : Heap) (x : Arg) : Option (AV × Heap) := let cs := (opv F x).cells; if cs.all AV.isCell then some (.ptr H.length 0,H ++ [.cells false false cs]) else none
def xXc (opv : List AV → Arg → AV) (R : Rec) (F : List AV) (H : Heap) (z : List AV) (parts : List (Nat × Nat × Arg)) : Option (AV × Heap) :=
    (if parts.all (fun p => (opv F p.2.2).cells.length == p.2.1) then
      (fillA z (parts.map fun p => (p.1,(opv F p.2.2).cells))).map fun cs => (.agg cs,H) else none)
def xT5 (opv : List AV → Arg → AV) (R : Rec) (F : List AV) (H : Heap) (fz : Bool) (z : List AV) (es : Nat) (n : Nat) (parts : List (Nat × Arg)) : Option (AV × Heap) :=
    (if parts.all (fun p => (opv F p.2).cells.length == es) then
      match fillA (xCR z n) (parts.map fun p => (p.1 * es,(opv F p.2).cells)) with
      | some cs => xD0 fz false n es cs H
      | none => none
     else none)
def xT6 (opv : List AV → Arg → AV) (R : Rec) (F : List AV) (H : Heap) (z : List AV) (es : Nat) (n : Nat) (parts : List (Nat × Arg)) : Option (AV × Heap) :=
    (if parts.all (fun p => (opv F p.2).cells.length == es) then
      match fillA (xCR z n) (parts.map fun p => (p.1 * es,(opv F p.2).cells)) with
      | some cs => if cs.all xA2 = true then some (.sl false n cs,H) else none
      | none => none
     else none)
noncomputable def xT7 (opv : List AV → Arg → AV) (R : Rec) (F : List AV) (H : Heap) (g : Bool) (n : Nat) (p : Arg) : Option (AV × Heap) := match rdF H (opv F p) n with
    | some cs => (mkv g cs).map fun v => (v,H)
    | none => none
noncomputable def xQC (opv : List AV → Arg → AV) (R : Rec) (F : List AV) (H : Heap) (n : Nat) (p : Arg) (v : Arg) : Option (AV × Heap) := let cs := (opv F v).cells; if cs.length = n then (wrF H (opv F p) cs).map fun H' => (.tup [],H') else none
def xT8 (opv : List AV → Arg → AV) (R : Rec) (F : List AV) (H : Heap) (x : Arg) : Option (AV × Heap) := match opv F x with
    | .ptr id off => some (.ptr id off,H)
    | .vptr cs off => some (.vptr cs off,H)
    | .func f caps => some (.func f caps,H)
    | .yield l => some (.yield l,H)
    | _ => none
def yBu (opv : List AV → Arg → AV) (R : Rec) (F : List AV) (H : Heap) (op : BinOp) (x : Arg) (y : Arg) : Option (AV × Heap) := (xDS op (opv F x) (opv F y)).map fun v => (v,H)
def yBv (opv : List AV → Arg → AV) (R : Rec) (F : List AV) (H : Heap) (neg : Bool) (x : Arg) (y : Arg) : Option (AV × Heap) := match opv F x,opv F y with
    | .bool a,.bool b => some (.bool (if neg then a != b else a == b),H)
    | _,_ => none
def xXd (opv : List AV → Arg → AV) (R : Rec) (F : List AV) (H : Heap) (neg : Bool) (x : Arg) : Option (AV × Heap) := match opv F x with
    | .sl z _ _ => some (.bool (z != neg),H)
    | .own z _ _ _ _ => some (.bool (z != neg),H)
    | _ => none
def yDa (opv : List AV → Arg → AV) (R : Rec) (F : List AV) (H : Heap) (op : UnOp) (x : Arg) : Option (AV × Heap) := (unA op (opv F x)).map fun v => (v,H)
def xZB (opv : List AV → Arg → AV) (R : Rec) (F : List AV) (H : Heap) (k : IntKind) (x : Arg) : Option (AV × Heap) := match opv F x with
    | .int _ n => some (.int k (k.wrap n),H)
    | _ => none
def xT9 (opv : List AV → Arg → AV) (R : Rec) (F : List AV) (H : Heap) (f : Nat) (caps : List Arg) : Option (AV × Heap) := some (.func f (caps.map (opv F)),H)
def xST (opv : List AV → Arg → AV) (R : Rec) (F : List AV) (H : Heap) (fz : Bool) (z : List AV) (bytes : Nat) (l : Arg) (c : Arg) : Option (AV × Heap) := match opv F l,opv F c with
    | .int _ l,.int _ c => if 0 ≤ l ∧ l ≤ c ∧ c * bytes ≤ xBC ∧ c ≤ xBC ∧ z.all AV.isCell = true then xD0 fz false l.toNat z.length (xCR z l.toNat) H else none
    | _,_ => none
def xXe (opv : List AV → Arg → AV) (R : Rec) (F : List AV) (H : Heap) (es : Nat) (x : Arg) (lo : Option Arg) (hi : Option Arg) (mx : Option Arg) : Option (AV × Heap) := match opv F x with
    | .sl z n cs => if cs.length = n * es then (xBI n (lo.map (opv F)) (hi.map (opv F)) (mx.map (opv F))).map fun (l,h) => (.sl z (h - l) ((cs.drop (l * es)).take ((h - l) * es)),H) else none
    | .own z id off n es' => if es' = es then (xBI n (lo.map (opv F)) (hi.map (opv F)) (mx.map (opv F))).map fun (l,h) => (.own z id (off + l * es) (h - l) es,H) else none
    | _ => none
def xXf (opv : List AV → Arg → AV) (R : Rec) (F : List AV) (H : Heap) (o : Nat) (x : Arg) : Option (AV × Heap) := match opv F x with
    | .ptr id off => some (.ptr id (off + o),H)
    | .vptr cs off => some (.vptr cs (off + o),H)
    | _ => none
def xXg (opv : List AV → Arg → AV) (R : Rec) (F : List AV) (H : Heap) (g : Bool) (off : Nat) (n : Nat) (x : Arg) : Option (AV × Heap) := match opv F x with
    | .agg cs => if off + n ≤ cs.length then (mkv g ((cs.drop off).take n)).map fun v => (v,H) else none
    | _ => none
def xXh (opv : List AV → Arg → AV) (R : Rec) (F : List AV) (H : Heap) (es : Nat) (x : Arg) (i : Arg) : Option (AV × Heap) := match opv F x,xBL (opv F i) with
    | .sl _ n cs,some i => if i < n then some (.vptr cs (i * es),H) else none
    | .own _ id off n es',some i => if i < n ∧ es' = es then some (.ptr id (off + i * es),H) else none
    | _,_ => none
def yBw (opv : List AV → Arg → AV) (R : Rec) (F : List AV) (H : Heap) (i : Nat) (x : Arg) : Option (AV × Heap) := match opv F x with
    | .tup vs => (vs[i]?).map fun v => (v,H)
    | _ => none
def yBx (opv : List AV → Arg → AV) (R : Rec) (F : List AV) (H : Heap) (x : Arg) : Option (AV × Heap) := match opv F x with
    | .sl _ n _ => some (.int .i64 n,H)
    | .own _ _ _ n _ => some (.int .i64 n,H)
    | _ => none
def yBy (opv : List AV → Arg → AV) (R : Rec) (F : List AV) (H : Heap) (x : Arg) : Option (AV × Heap) := match opv F x with
    | .sl true _ _ => some (.int .i64 0,H)
    | _ => none
def yBz (opv : List AV → Arg → AV) (R : Rec) (F : List AV) (H : Heap) (neg : Bool) (n : Nat) (x : Arg) (y : Arg) : Option (AV × Heap) := match opv F x,opv F y with
    | .agg cs,.agg ds => if cs.length = n then (xCh cs ds).map fun b => (.bool (b != neg),H) else none
    | _,_ => none
noncomputable def xNk (opv : List AV → Arg → AV) (R : Rec) (F : List AV) (H : Heap) (fz : Bool) (es : Nat) (bytes : Nat) (x : Arg) (y : Arg) : Option (AV × Heap) := match src H es (opv F y) with
    | none => none
    | some (m,ys) => match opv F x with
      | .sl true _ _ => if m * bytes ≤ xBC ∧ m ≤ xBC then xD0 fz (m == 0) m es ys H else none
      | .own z id off n es' => match H[id]? with
        | some (.cells false _ cs) => if off = 0 ∧ es' = es ∧ n * es ≤ xZz cs ∧ (n + m) * bytes ≤ xBC ∧ n + m ≤ xBC then
            some (.own (z && m == 0) H.length 0 (n + m) es,H.set id .dead ++ [.cells false (z && m == 0) (tkA ys cs (n * es))]) else none
        | _ => none
      | _ => none
def xSU (opv : List AV → Arg → AV) (R : Rec) (F : List AV) (H : Heap) (z : List AV) (bytes : Nat) (x : Arg) (n : Arg) : Option (AV × Heap) := match xBL (opv F n),opv F x with
    | some m,.sl true _ _ => if m * bytes ≤ xBC ∧ m ≤ xBC ∧ z.all AV.isCell = true then xD0 false (m == 0) m z.length (xCR z m) H else none
    | some m,.own false id off k es' => match H[id]? with
      | some (.cells false _ cs) => if off = 0 ∧ es' = z.length ∧ k * z.length ≤ cs.length ∧ (k + m) * bytes ≤ xBC ∧ k + m ≤ xBC ∧ 0 < m ∧ z.all AV.isCell = true then
          some (.own false H.length 0 (k + m) z.length,H.set id .dead ++ [.cells false false (cs.take (k * z.length) ++ xCR z m)]) else none
      | _ => none
    | _,_ => none
def xSV (opv : List AV → Arg → AV) (R : Rec) (F : List AV) (H : Heap) (es : Nat) (bytes : Nat) (x : Arg) (y : Arg) : Option (AV × Heap) := match xFy H with
    | none => none
    | some h => (appB H es bytes (opv F x) (opv F y)).map fun r => (.own r.1 h 0 r.2.1 es,(xCs r.2.2.2 H).set h (.cells false r.1 r.2.2.1))
def xZC (opv : List AV → Arg → AV) (R : Rec) (F : List AV) (H : Heap) (_u0 : Nat) (_u1 : Arg) (_u2 : Arg) : Option (AV × Heap) := none
def xZD (opv : List AV → Arg → AV) (R : Rec) (F : List AV) (H : Heap) (x : Arg) (y : Arg) : Option (AV × Heap) := match opv F x,opv F y with
    | .int k a,.int _ b => some (.int k (if b > a then b else a),H)
    | _,_ => none
def xZE (opv : List AV → Arg → AV) (R : Rec) (F : List AV) (H : Heap) (x : Arg) (y : Arg) : Option (AV × Heap) := match opv F x,opv F y with
    | .int k a,.int _ b => some (.int k (if b < a then b else a),H)
    | _,_ => none
def xZF (opv : List AV → Arg → AV) (R : Rec) (F : List AV) (H : Heap) (f : Nat) (args : List Arg) : Option (AV × Heap) := xB2 R f (args.map (opv F)) H
def xXi (opv : List AV → Arg → AV) (R : Rec) (F : List AV) (H : Heap) (f : Arg) (args : List Arg) : Option (AV × Heap) := R.icall (opv F f) (args.map (opv F)) H
def xXj (opv : List AV → Arg → AV) (R : Rec) (F : List AV) (H : Heap) (f : Arg) (args : List Arg) : Option (AV × Heap) := match opv F f with
    | .func g caps => xB2 R g (args.map (opv F) ++ caps) H
    | _ => none
def yBA (opv : List AV → Arg → AV) (R : Rec) (F : List AV) (H : Heap) (g : Bool) (es : Nat) (len : Nat) (x : Arg) (i : Arg) : Option (AV × Heap) := match opv F x,xBL (opv F i) with
    | .agg cs,some j => if j < len ∧ j * es + es ≤ cs.length then (mkv g ((cs.drop (j * es)).take es)).map fun v => (v,H) else none
    | _,_ => none
def xXk (opv : List AV → Arg → AV) (R : Rec) (F : List AV) (H : Heap) (es : Nat) (len : Nat) (x : Arg) (i : Arg) : Option (AV × Heap) := match opv F x,xBL (opv F i) with
    | .ptr id off,some j => if j < len then some (.ptr id (off + j * es),H) else none
    | .vptr cs off,some j => if j < len then some (.vptr cs (off + j * es),H) else none
    | _,_ => none
def xZG (opv : List AV → Arg → AV) (R : Rec) (F : List AV) (H : Heap) (b : Nat) (es : Nat) (len : Nat) (i : Arg) : Option (AV × Heap) := match xNb b,xBL (opv F i) with
    | some cs,some j => if j < len then some (.vptr cs (j * es),H) else none
    | _,_ => none
def xZH (opv : List AV → Arg → AV) (R : Rec) (F : List AV) (H : Heap) (x : Arg) (i : Arg) : Option (AV × Heap) := match opv F x,xBL (opv F i) with
    | .str s,some j => (s[j]?).map fun b => (.int .u8 b.toNat,H)
    | _,_ => none
def xZI (opv : List AV → Arg → AV) (R : Rec) (F : List AV) (H : Heap) (x : Arg) : Option (AV × Heap) := match opv F x with
    | .str s => some (.int .i64 s.size,H)
    | _ => none
def yDb (opv : List AV → Arg → AV) (R : Rec) (F : List AV) (H : Heap) (mx : Bool) (xs : List Arg) : Option (AV × Heap) := match xs.map (opv F) with
    | [] => none
    | x :: r => (mmA mx x r).map fun v => (v,H)
def xUa (opv : List AV → Arg → AV) (R : Rec) (F : List AV) (H : Heap) (x : Arg) (lo : Option Arg) (hi : Option Arg) : Option (AV × Heap) := match opv F x with
    | .str s => (xBI s.size (lo.map (opv F)) (hi.map (opv F)) none).map fun (l,h) => (.str (s.extract l h),H)
    | _ => none
def xZJ (opv : List AV → Arg → AV) (R : Rec) (F : List AV) (H : Heap) (neg : Bool) (x : Arg) (y : Arg) : Option (AV × Heap) := match opv F x,opv F y with
    | .str s,.str t => some (.bool ((s.toList == t.toList) != neg),H)
    | _,_ => none
def xSW (opv : List AV → Arg → AV) (R : Rec) (F : List AV) (H : Heap) (f : Nat) (first : List Arg) : Option (AV × Heap) := some (.bfunc f (first.map (opv F)),H)
def xXl (opv : List AV → Arg → AV) (R : Rec) (F : List AV) (H : Heap) (f : Arg) (args : List Arg) : Option (AV × Heap) := match opv F f with
    | .bfunc g first => R.icall (.func g []) (first ++ args.map (opv F)) H
    | _ => none
def xXm (opv : List AV → Arg → AV) (R : Rec) (F : List AV) (H : Heap)  : Option (AV × Heap) := some (.mp H.length,H ++ [.mp []])
def xXn (opv : List AV → Arg → AV) (R : Rec) (F : List AV) (H : Heap) (ks : List Nat) (comma : Bool) (z : AV) (x : Arg) (k : Arg) : Option (AV × Heap) := if xB1 ks (opv F k) then match xSM H (opv F x) with
    | none => none
    | some es => match xJO (opv F k) es with
      | none => none
      | some none => some (if comma then .tup [z,.bool false] else z,H)
      | some (some v) => some (if comma then .tup [v,.bool true] else v,H)
    else none
def xZK (opv : List AV → Arg → AV) (R : Rec) (F : List AV) (H : Heap) (ks : List Nat) (z : AV) (m : Arg) (k : Arg) : Option (AV × Heap) := if xB1 ks (opv F k) then match opv F m with
    | .mp id => match H[id]? with
      | some (.mp es) => (xTH (opv F k) z es 0).map fun r => (.tup [r.1,.int .i64 (r.2.1 : Nat)],H.set id (.mp r.2.2))
      | _ => none
    | _ => none
    else none
def xUb (opv : List AV → Arg → AV) (R : Rec) (F : List AV) (H : Heap) (m : Arg) (s : Arg) (v : Arg) : Option (AV × Heap) := match opv F m,opv F s with
    | .mp id,.int .i64 n => match H[id]? with
      | some (.mp es) => if 0 ≤ n then (es[n.toNat]?).map fun e => (.tup [],H.set id (.mp (es.set n.toNat (e.1,opv F v)))) else none
      | _ => none
    | _,_ => none
def xZL (opv : List AV → Arg → AV) (R : Rec) (F : List AV) (H : Heap) (ks : List Nat) (m : Arg) (k : Arg) (v : Arg) : Option (AV × Heap) := if xB1 ks (opv F k) then match opv F m with
    | .mp id => match H[id]? with
      | some (.mp es) => (xW7 (opv F k) (opv F v) es).map fun es' => (.tup [],H.set id (.mp es'))
      | _ => none
    | _ => none
    else none
def xZM (opv : List AV → Arg → AV) (R : Rec) (F : List AV) (H : Heap) (x : Arg) : Option (AV × Heap) := (xSM H (opv F x)).map fun es => (.int .i64 es.length,H)
def xZN (opv : List AV → Arg → AV) (R : Rec) (F : List AV) (H : Heap) (neg : Bool) (x : Arg) : Option (AV × Heap) := match opv F x with
    | .nilm => some (.bool (true != neg),H)
    | .mp _ => some (.bool (false != neg),H)
    | _ => none
def xZO (opv : List AV → Arg → AV) (R : Rec) (F : List AV) (H : Heap) (neg : Bool) (x : Arg) : Option (AV × Heap) := match opv F x with
    | .ptr _ _ => some (.bool (false != neg),H)
    | .nilp => some (.bool (true != neg),H)
    | _ => none
def xUc (opv : List AV → Arg → AV) (R : Rec) (F : List AV) (H : Heap) (fz : Bool) (x : Arg) : Option (AV × Heap) := match opv F x with
    | .str s => xD0 fz false s.size 1 (xCq s) H
    | _ => none
def xZP (opv : List AV → Arg → AV) (R : Rec) (F : List AV) (H : Heap) (x : Arg) : Option (AV × Heap) := match src H 1 (opv F x) with
    | some (_,cs) => (xJP cs).map fun bs => (.str ⟨⟨bs⟩⟩,H)
    | none => none
def xZQ (opv : List AV → Arg → AV) (R : Rec) (F : List AV) (H : Heap) (x : Arg) (y : Arg) : Option (AV × Heap) := match opv F x,opv F y with
    | .str s,.str t => if s.size + t.size ≤ 9223372036854775807 then some (.str ⟨⟨s.data.toList ++ t.data.toList⟩⟩,H) else none
    | _,_ => none
def xXo (opv : List AV → Arg → AV) (R : Rec) (F : List AV) (H : Heap) (f : Nat) (args : List Arg) : Option (AV × Heap) := match (args.map (opv F)).mapM (frz frzN H) with
    | none => none
    | some args' => match xDA R f args' with
      | none => none
      | some (v,B) => some (xBk H.length v,fzIds H ((args.map (opv F)).flatMap (bor frzN H)) ++ B)
def xUd (opv : List AV → Arg → AV) (R : Rec) (F : List AV) (H : Heap) (f : Nat) (args : List Arg) : Option (AV × Heap) := match (args.map (opv F)).mapM (frz frzN H) with
    | none => none
    | some args' => match xH7 R f args' with
      | none => none
      | some (v,B) => some (xBk H.length v,fzIds H ((args.map (opv F)).flatMap (bor frzN H)) ++ B.map (xH6 H.length))
noncomputable def xMc (R : Rec) (F : List AV) (H : Heap) : AOp → Option (AV × Heap)
  | .mov x => yBs xCu R F H x
  | .pick c a b => xZA xCu R F H c a b
  | .box x => yBt xCu R F H x
  | .build z parts => xXc xCu R F H z parts
  | .bslice fz z es n parts => xT5 xCu R F H fz z es n parts
  | .dslice z es n parts => xT6 xCu R F H z es n parts
  | .load g n p => xT7 xCu R F H g n p
  | .store n p v => xQC xCu R F H n p v
  | .nilchk x => xT8 xCu R F H x
  | .bin op x y => yBu xCu R F H op x y
  | .beq neg x y => yBv xCu R F H neg x y
  | .isnil neg x => xXd xCu R F H neg x
  | .un op x => yDa xCu R F H op x
  | .conv k x => xZB xCu R F H k x
  | .mkfunc f caps => xT9 xCu R F H f caps
  | .mkslice fz z bytes l c => xST xCu R F H fz z bytes l c
  | .slice es x lo hi mx => xXe xCu R F H es x lo hi mx
  | .faddr o x => xXf xCu R F H o x
  | .field g off n x => xXg xCu R F H g off n x
  | .iaddr es x i => xXh xCu R F H es x i
  | .ext i x => yBw xCu R F H i x
  | .len x => yBx xCu R F H x
  | .cap x => yBy xCu R F H x
  | .aeq neg n x y => yBz xCu R F H neg n x y
  | .append fz es bytes x y => xNk xCu R F H fz es bytes x y
  | .appendz z bytes x n => xSU xCu R F H z bytes x n
  | .appendh es bytes x y => xSV xCu R F H es bytes x y
  | .copy _u0 _u1 _u2 => xZC xCu R F H _u0 _u1 _u2
  | .maxi x y => xZD xCu R F H x y
  | .mini x y => xZE xCu R F H x y
  | .call f args => xZF xCu R F H f args
  | .icall f args => xXi xCu R F H f args
  | .fcall f args => xXj xCu R F H f args
  | .idx g es len x i => yBA xCu R F H g es len x i
  | .arrat es len x i => xXk xCu R F H es len x i
  | .garr b es len i => xZG xCu R F H b es len i
  | .sidx x i => xZH xCu R F H x i
  | .slen x => xZI xCu R F H x
  | .mm mx xs => yDb xCu R F H mx xs
  | .sslice x lo hi => xUa xCu R F H x lo hi
  | .sbeq neg x y => xZJ xCu R F H neg x y
  | .mkbound f first => xSW xCu R F H f first
  | .bcall f args => xXl xCu R F H f args
  | .mkmap  => xXm xCu R F H 
  | .mlook ks comma z x k => xXn xCu R F H ks comma z x k
  | .ment ks z m k => xZK xCu R F H ks z m k
  | .mstore m s v => xUb xCu R F H m s v
  | .mupd ks m k v => xZL xCu R F H ks m k v
  | .mlen x => xZM xCu R F H x
  | .mnil neg x => xZN xCu R F H neg x
  | .pnil neg x => xZO xCu R F H neg x
  | .sbytes fz x => xUc xCu R F H fz x
  | .bstr x => xZP xCu R F H x
  | .sadd x y => xZQ xCu R F H x y
  | .ocall f args => xXo xCu R F H f args
  | .ocallw f args => xUd xCu R F H f args
theorem xKh (R : Rec) (F : List AV) (H : Heap) (op : AOp) : xMc R F H op = xAb R F H op := by
  cases op <;> simp only [xMc,xT2] <;> first | rfl | (simp only [xT7,yBq]; rfl) | (simp only [xQC,yBr]; rfl) | (simp only [xNk,xIf,xYb]; rfl)
def fN {α : Type} (a : Nat) (k : Nat → α) : α := match a with
  | 0 => k 0
  | n + 1 => k (n + 1)
theorem yBB {α : Type} (a : Nat) (k : Nat → α) : fN a k = k a := by cases a <;> rfl
def fI {α : Type} (x : Int) (k : Int → α) : α := match x with
  | .ofNat a => fN a fun a => k (.ofNat a)
  | .negSucc a => fN a fun a => k (.negSucc a)
theorem yDc {α : Type} (x : Int) (k : Int → α) : fI x k = k x := by cases x <;> simp only [fI,yBB]
def fBo {α : Type} (x : Bool) (k : Bool → α) : α := match x with
  | true => k true
  | false => k false
theorem yBC {α : Type} (x : Bool) (k : Bool → α) : fBo x k = k x := by cases x <;> rfl
def fV {α : Type} (v : AV) (k : AV → α) : α := match v with
  | .int kd n => fI n fun n => k (.int kd n)
  | .bool b => fBo b fun b => k (.bool b)
  | .ptr i o => fN i fun i => fN o fun o => k (.ptr i o)
  | .own z i o n e => fBo z fun z => fN i fun i => fN o fun o => fN n fun n => fN e fun e => k (.own z i o n e)
  | .sl z n cs => fN n fun n => k (.sl z n cs)
  | v => k v
theorem xZR {α : Type} (v : AV) (k : AV → α) : fV v k = k v := by
  cases v <;> simp only [fV,yDc,yBC,yBB]
noncomputable def fS {α : Type} (l : List AV) : (List AV → α) → α := List.rec (motive := fun _ => (List AV → α) → α) (fun k => k []) (fun v _ ih k => ih fun vs => k (v :: vs)) l
theorem xXp {α : Type} : ∀ (l : List AV) (k : List AV → α),fS l k = k l
  | [],k => rfl
  | v :: vs,k => by
    show fS vs (fun vs => k (v :: vs)) = _
    rw [xXp vs]
def fL {α : Type} : List AV → (List AV → α) → α
  | [],k => k []
  | v :: vs,k => fV v fun v => fL vs fun vs => k (v :: vs)
theorem yBD {α : Type} : ∀ (l : List AV) (k : List AV → α),fL l k = k l
  | [],k => rfl
  | v :: vs,k => by rw [fL,xZR,yBD vs]
def fB {α : Type} (b : Blk) (k : Blk → α) : α := match b with
  | .cells fz z cs => fL cs fun cs => k (.cells fz z cs)
  | b => k b
theorem yDd {α : Type} (b : Blk) (k : Blk → α) : fB b k = k b := by
  cases b <;> first | rfl | simp only [fB,yBD]
noncomputable def fAt {α : Type} (l : List Blk) : Nat → (List Blk → α) → α := List.rec (motive := fun _ => Nat → (List Blk → α) → α) (fun _ k => k []) (fun b bs ih n k => Nat.casesOn (motive := fun _ => α) n (fB b fun b => k (b :: bs)) (fun m => ih m fun bs => k (b :: bs))) l
theorem xYc {α : Type} : ∀ (l : List Blk) (n : Nat) (k : List Blk → α),fAt l n k = k l
  | [],n,k => rfl
  | b :: bs,0,k => by
    show fB b (fun b => k (b :: bs)) = _
    rw [yDd]
  | b :: bs,n + 1,k => by
    show fAt bs n (fun bs => k (b :: bs)) = _
    rw [xYc bs]
noncomputable def yEO (l : List Blk) : Nat := List.rec (motive := fun _ => Nat) 0 (fun _ _ n => n + 1) l
noncomputable def yDe (F : List AV) (H : List Blk) : AOp → Nat
  | .store _ p _ => match xCu F p with
    | .ptr id _ => id
    | _ => 0
  | _ => yEO H
def yBE : AOp → Bool
  | .mov _ | .pick .. | .bin .. | .beq .. | .aeq .. | .un .. | .conv .. | .ext .. | .faddr .. | .field .. | .iaddr .. | .len _ | .cap _ | .isnil .. | .maxi .. | .mini .. | .nilchk _ | .mkfunc .. | .slice .. | .idx .. | .arrat .. | .garr .. | .sidx .. | .slen .. | .mm .. | .sslice .. | .sbeq .. | .mkbound .. | .load .. | .build .. | .mlook .. | .mlen _ | .mnil .. | .pnil .. => true
  | _ => false
noncomputable def xZS (d : Option Nat) (F : List AV) (keep : Bool) (sp : Nat) : Option (AV × Heap) → Option St
  | some (v,H) => fV v fun v => fS (yC8 F d v) fun F => if keep then some ⟨F,H⟩ else fAt H sp fun H => some ⟨F,H⟩
  | none => none
theorem xXq (d : Option Nat) (F : List AV) (keep : Bool) (sp : Nat) (x : Option (AV × Heap)) : xZS d F keep sp x = x.map fun (v,H) => ⟨putA F d v,H⟩ := by
  cases x with
  | none => rfl
  | some p =>
    obtain ⟨v,H⟩ := p
    simp only [xZS,xZR,xXp,xYc,ite_self,xT3]
    rfl
def yBF (o : AOper) (s : St) (r : Option St) : Option Bool → Option St
  | none => none
  | some false => some ⟨putA s.F o.dst (.tup []),s.H⟩
  | some true => r
noncomputable def xFB (R : Rec) (o : AOper) (s : St) : Option St := yBF o s (xZS o.dst s.F (yBE o.op) (yDe s.F s.H o.op) (xMc R s.F s.H o.op)) (xCi s.F o.guard)
theorem xNl (R : Rec) (o : AOper) (s : St) : xFB R o s = xBl R o s := by
  unfold xFB xBl
  rw [xKh,xXq]
  split <;> rename_i e <;> rw [e] <;> rfl
noncomputable def xXr (k : St → Option St) : Option St → Option St
  | some s => k s
  | none => none
noncomputable def xE6 (R : Rec) (ops : List AOper) : St → Option St := List.rec (motive := fun _ => St → Option St) (fun s => some s) (fun o _ ih s => xXr ih (xFB R o s)) ops
theorem xEK (R : Rec) : ∀ (ops : List AOper) (s : St),xE6 R ops s = xAP R ops s
  | [],s => rfl
  | o :: rest,s => by
    show xXr (xE6 R rest) (xFB R o s) = _
    simp only [xAP,xNl]
    cases xBl R o s with
    | none => rfl
    | some s' => exact xEK R rest s'
def xZT : AOp → Bool
  | .call .. | .fcall .. | .append .. | .box .. | .bslice .. | .mkslice .. | .appendz .. | .appendh .. | .copy .. | .icall .. | .bcall .. | .store .. | .ocall .. | .ocallw .. | .mkmap | .mupd .. | .ment .. | .mstore .. | .sbytes .. => true
  | _ => false
noncomputable def xPF (R : Rec) (F : List AV) (H : Heap) (op : AOp) : Option AV := if xZT op then xAR R F H op else (xMc R F H op).map (·.1)
theorem xSX (R : Rec) (F : List AV) (H : Heap) (op : AOp) : xPF R F H op = xAR R F H op := by
  unfold xPF
  rw [xKh]
  cases op <;> rfl
noncomputable def frF (d : Option Nat) (s : St) : Option AV → Option St
  | some v => fV v fun v => fS (yC8 s.F d v) fun F => some ⟨F,s.H⟩
  | none => none
theorem yBG (d : Option Nat) (s : St) (x : Option AV) : frF d s x = x.map fun v => ⟨putA s.F d v,s.H⟩ := by
  cases x with
  | none => rfl
  | some v => simp only [frF,xZR,xXp,xT3]; rfl
noncomputable def xFC (R : Rec) (o : AOper) (s : St) : Option St := yBF o s (frF o.dst s (xPF R s.F s.H o.op)) (xCi s.F o.guard)
theorem xNm (R : Rec) (o : AOper) (s : St) : xFC R o s = xBm R o s := by
  unfold xFC xBm
  rw [xSX,yBG]
  split <;> rename_i e <;> rw [e] <;> rfl
noncomputable def xMd (R : Rec) (ops : List AOper) : St → Option St := List.rec (motive := fun _ => St → Option St) (fun s => some s) (fun o _ ih s => xXr ih (xFC R o s)) ops
theorem xIg (R : Rec) : ∀ (ops : List AOper) (s : St),xMd R ops s = xBM R ops s
  | [],s => rfl
  | o :: rest,s => by
    show xXr (xMd R rest) (xFC R o s) = _
    simp only [xBM,xNm]
    cases xBm R o s with
    | none => rfl
    | some s' => exact xIg R rest s'
noncomputable def yEu (k : St → Option (AExit × St)) : Option (AExit × St) → Option (AExit × St)
  | some (.normal,s') => k s'
  | r => r
noncomputable def yBH (x y : Option (AExit × St)) : AV → Option (AExit × St)
  | .bool t => if t then x else y
  | _ => none
def xYd (id : Nat) : Option (AExit × St) → Option (AExit × St)
  | some (.exit i,s') => if i = id then some (.normal,s') else some (.exit i,s')
  | r => r
def yCX : Option St → Option (AExit × St)
  | some s => some (.normal,s)
  | none => none
noncomputable def xZU (R : Rec) (m : Nat) (ops : List AOper) (s : St) : Option (AExit × St) := match xMd R (ops.take m) s with
  | none => none
  | some s1 => yCX (xE6 R (ops.drop m) (adopt (ops.take m) s1))
def yEv (i : Nat) (k : AV → Option (AExit × St)) : Option AV → Option (AExit × St)
  | some v => k v
  | none => none
noncomputable def xXs (R : Rec) (c : ACode) : St → Option (AExit × St) :=
  ACode.rec (motive := fun _ => St → Option (AExit × St))
    (fun s => some (.normal,s)) (fun ops s => yCX (xE6 R ops s)) (fun m ops s => xZU R m ops s) (fun ls m ops s => run R (.drawl ls m ops) s)
    (fun als ls m ops s => run R (.drawp als ls m ops) s) (fun hs als ls m ops s => run R (.drawh hs als ls m ops) s) (fun σ als ls m ops s => run R (.drawt σ als ls m ops) s) (fun _ ih s => ih ⟨s.F,s.H ++ [.cells true true []]⟩)
    (fun ss _ ih s => ih ⟨s.F,fzIds s.H (ss.flatMap fun i => bor frzN s.H (s.F.getD i .any))⟩) (fun i _ ih s => yEv i (fun v => ih ⟨s.F.set i v,fzIds s.H (bor frzN s.H (s.F.getD i .any))⟩) (frz frzN s.H (s.F.getD i .any))) (fun _ _ iha ihb s => yEu ihb (iha s)) (fun c _ _ iha ihb s => yBH (iha s) (ihb s) (xCu s.F c))
    (fun id _ ih s => xYd id (ih s)) (fun scr b _ s => R.loop scr b s) (fun f ps asg body _ _ s => run R (.range f ps asg body) s) (fun id s => some (.exit id,s)) (fun _ ih s => ih s)
    (fun s => some (.normal,s)) (fun s => some (.ret,s)) (fun _ => none) c
theorem xUe (x : Option St) : yCX x = x.map fun s' => (.normal,s') := by cases x <;> rfl
theorem xPG (R : Rec) (c : ACode) : ∀ s,xXs R c s = run R c s := by
  induction c <;> intro s
  case region ops => show yCX (xE6 R ops s) = _; simp only [run,xEK,xUe]
  case draw m ops =>
    show xZU R m ops s = _
    simp only [run,xZU,xIg,xEK,xUe]
    cases xBM R (ops.take m) s <;> rfl
  case seq a b iha ihb =>
    show yEu (xXs R b) (xXs R a s) = _
    simp only [run,iha]
    cases run R a s with
    | none => rfl
    | some p =>
      obtain ⟨e,s'⟩ := p
      cases e with
      | normal => exact ihb s'
      | exit i => rfl
      | ret => rfl
  case cond c a b iha ihb =>
    show yBH (xXs R a s) (xXs R b s) (xCu s.F c) = _
    simp only [run,iha,ihb,xT2]
    cases opv s.F c <;> rfl
  case block id b ih =>
    show xYd id (xXs R b s) = _
    simp only [run,ih]
    cases run R b s with
    | none => rfl
    | some p => obtain ⟨e,s'⟩ := p; cases e <;> rfl
  case scope b ih => exact ih s
  case fz ss b ih => exact ih _
  case hole b ih => exact ih _
  case fzs i b ih =>
    show yEv i _ _ = _
    simp only [run]
    cases frz frzN s.H (s.F.getD i .any) with
    | none => rfl
    | some v => exact ih _
  all_goals rfl
def yEP (fn : AFunc) : Option (AExit × St) → Option (AV × Heap)
  | some (.normal,s) | some (.ret,s) => (xBG fn.results s).map fun v => (v,s.H)
  | _ => none
noncomputable def xXt (R : Rec) (fn : AFunc) (args : List AV) (H : Heap) : Option (AV × Heap) := yEP fn (xXs R fn.code (xNc fn args H))
theorem xQD (R : Rec) (fn : AFunc) (args : List AV) (H : Heap) : xXt R fn args H = xBU R fn args H := by
  unfold xXt xBU
  rw [xPG]
  cases run R fn.code (xNc fn args H) with
  | none => rfl
  | some p => obtain ⟨e,s'⟩ := p; cases e <;> rfl
def yEQ : Option (AV × Heap) → Option AV
  | some (r,H') => frz frzN H' r
  | none => Option.none
def xIh : List AV → Nat → List Nat → List AV
  | [],_,_ => []
  | v :: F,_,[] => v :: F
  | v :: F,i,s :: scr => if s = i then .any :: xIh F (i + 1) scr else v :: xIh F (i + 1) (s :: scr)
def asc : List Nat → Nat → Bool
  | [],_ => true
  | s :: r,lo => decide (lo ≤ s) && asc r (s + 1)
theorem xYe : ∀ {scr : List Nat} {lo : Nat},asc scr lo = true → ∀ s ∈ scr,lo ≤ s
  | [],_,_,s,h => by cases h
  | s0 :: r,lo,h,s,hs => by
    simp only [asc,Bool.and_eq_true,decide_eq_true_eq] at h
    rcases List.mem_cons.1 hs with rfl | hs
    · exact h.1
    · have := xYe h.2 s hs; omega
theorem xZV : ∀ {scr : List Nat} {lo lo' : Nat},asc scr lo = true → (∀ s ∈ scr,lo' ≤ s) → asc scr lo' = true
  | [],_,_,_,_ => rfl
  | s0 :: r,lo,lo',h,hl => by
    simp only [asc,Bool.and_eq_true,decide_eq_true_eq] at h ⊢
    exact ⟨hl s0 (by simp),h.2⟩
theorem xGi : ∀ (F : List AV) (i : Nat) (scr : List Nat),asc scr i = true → ∀ j,(xIh F i scr)[j]? = if i + j ∈ scr then (F[j]?).map (fun _ => AV.any) else F[j]?
  | [],i,scr,h,j => by simp [xIh]
  | v :: F,i,[],h,j => by simp [xIh]
  | v :: F,i,s :: scr,h,j => by
    have h' := h
    simp only [asc,Bool.and_eq_true,decide_eq_true_eq] at h'
    unfold xIh
    by_cases e : s = i
    · subst e
      rw [if_pos rfl]
      cases j with
      | zero => simp
      | succ j =>
        rw [List.getElem?_cons_succ,xGi F (s + 1) scr h'.2 j,List.getElem?_cons_succ]
        have : (s + 1 + j ∈ scr) ↔ (s + (j + 1) ∈ s :: scr) := by
          rw [show s + (j + 1) = s + 1 + j by omega,List.mem_cons]
          exact ⟨.inr,fun q => q.elim (fun q => by omega) id⟩
        simp only [this]
    · rw [if_neg e]
      have hm : ∀ x ∈ s :: scr,i + 1 ≤ x := fun x hx => by
        rcases List.mem_cons.1 hx with rfl | hx
        · omega
        · have := xYe h'.2 x hx; omega
      cases j with
      | zero =>
        have : ¬ (i + 0 ∈ s :: scr) := fun q => by have := hm _ q; omega
        rw [if_neg this]; rfl
      | succ j =>
        rw [List.getElem?_cons_succ,xGi F (i + 1) (s :: scr) (xZV h hm) j,List.getElem?_cons_succ]
        simp only [show i + (j + 1) = i + 1 + j by omega]
def xQE (scr : List Nat) (F : List AV) : List AV := if asc scr 0 then xIh F 0 scr else xA5 scr F
theorem xNn (scr : List Nat) (F : List AV) : xQE scr F = xA5 scr F := by
  unfold xQE
  split
  · rename_i h
    apply List.ext_getElem?
    intro j
    rw [xGi F 0 scr h j,xEL]
    simp only [Nat.zero_add]
  · rfl
noncomputable def xYf (R : Rec) (scr : List Nat) (b : ACode) : Option (AExit × St) → Option (AExit × St)
  | some (.normal,s') => R.loop scr b s'
  | some (e,s') => some (e,⟨xQE scr s'.F,s'.H⟩)
  | none => none
noncomputable def yBI (prog : Nat → Option AFunc) (R : Rec) (args : List AV) (H : Heap) : AV → Option (AV × Heap)
  | .func f caps => match prog f with
    | some fn => xXt R fn (args ++ caps) H
    | none => Option.none
  | f => xDB prog R f args H
noncomputable def xZW (prog : Nat → Option AFunc) (R : Rec) : Rec where
  pcall f args := match prog f with
    | some fn => yEQ (xXt R fn args [])
    | none => primA f args
  icall f args H := yBI prog R args H f
  loop scr b s := fS (xQE scr s.F) fun F => xYf R scr b (xXs R b ⟨F,s.H⟩)
theorem xXu (prog : Nat → Option AFunc) (R : Rec) : xZW prog R = xDr prog R := by
  unfold xZW xDr
  congr 1
  · funext f args
    cases prog f with
    | none => rfl
    | some fn =>
      simp only [xBj,xQD]
      cases xBU R fn args [] <;> rfl
  · funext f args H
    unfold yBI
    split
    · rename_i g caps
      simp only [xDB,xQD]
      cases prog g <;> rfl
    · rfl
  · funext scr b s
    simp only [xH9,xPG,xXp,xNn]
    cases run R b ⟨xA5 scr s.F,s.H⟩ with
    | none => rfl
    | some p => obtain ⟨e,s'⟩ := p; cases e <;> simp only [xYf,xNn]
noncomputable def yBJ (prog : Nat → Option AFunc) (T : xUg) : Nat → Rec
  | 0 => Rec.none
  | n + 1 => xZX T (xZW prog (yBJ prog T n))
theorem xUf (prog : Nat → Option AFunc) (T : xUg) : ∀ n,yBJ prog T n = yBL prog T n
  | 0 => rfl
  | n + 1 => by rw [yBJ,yBL,xXu,xUf prog T n]
end Go.Abs
