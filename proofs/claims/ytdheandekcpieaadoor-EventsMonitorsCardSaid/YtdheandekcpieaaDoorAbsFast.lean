/- The interpreter once more,its alternatives as functions of their own: what the kernel unfolds is small. -/
import Derived.Test.YtdheandekcpieaaDoorAbsOver
namespace Go.Abs
set_option linter.unusedVariables false
noncomputable def yDJ (F : List AV) : Nat → AV := List.rec (motive := fun _ => Nat → AV) (fun _ => .any) (fun v _ ih n => Nat.casesOn (motive := fun _ => AV) n v ih) F
noncomputable def yD3 (x : AV) (F : List AV) : Nat → List AV := List.rec (motive := fun _ => Nat → List AV) (fun _ => []) (fun v F ih n => Nat.casesOn (motive := fun _ => List AV) n (x :: F) (fun m => v :: ih m)) F
theorem xTu : ∀ (F : List AV) (i : Nat),yDJ F i = F.getD i .any
 | [],i => by simp [yDJ]
 | v :: F,0 => rfl
 | v :: F,i + 1 => by
  show yDJ F i = _
  rw [xTu F i]; simp
theorem xTv (x : AV) : ∀ (F : List AV) (i : Nat),yD3 x F i = F.set i x
 | [],i => rfl
 | v :: F,0 => rfl
 | v :: F,i + 1 => by
  show v :: yD3 x F i = _
  rw [xTv x F i]; rfl
noncomputable def xBZ (F : List AV) : Arg → AV
 | .t i => yDJ F i
 | .c v => v
theorem xTw : xBZ = opv := by
 funext F x
 cases x with
 | t i => exact xTu F i
 | c v => rfl
noncomputable def yD4 (F : List AV) (d : Option Nat) (v : AV) : List AV := match d with
 | some d => yD3 v F d
 | none => F
theorem xTx : yD4 = putA := by
 funext F d v
 cases d with
 | none => rfl
 | some d => exact xTv v F d
noncomputable def xSb (l : List AV) : Nat → List AV := List.rec (motive := fun _ => Nat → List AV) (fun _ => []) (fun v t ih n => Nat.casesOn (motive := fun _ => List AV) n (v :: t) ih) l
theorem xLI : ∀ (l : List AV) (n : Nat),xSb l n = l.drop n
 | [],n => by simp [xSb]
 | v :: t,0 => rfl
 | v :: t,n + 1 => by
  show xSb t n = _
  rw [xLI t n]; simp
def yBM (v : AV) : Option (List AV) → Option (List AV)
 | some l => some (v :: l)
 | none => none
noncomputable def xZB (l : List AV) : Nat → Option (List AV) := List.rec (motive := fun _ => Nat → Option (List AV)) (fun n => Nat.casesOn (motive := fun _ => Option (List AV)) n (some []) (fun _ => none)) (fun v t ih n => Nat.casesOn (motive := fun _ => Option (List AV)) n (some []) (fun m => yBM v (ih m))) l
theorem xP9 : ∀ (l : List AV) (n : Nat),xZB l n = if n ≤ l.length then some (l.take n) else none
 | [],0 => rfl
 | [],n + 1 => by
  show none = _
  rw [if_neg (by simp)]
 | v :: t,0 => by
  show some [] = _
  rw [if_pos (Nat.zero_le _)]; rfl
 | v :: t,n + 1 => by
  show yBM v (xZB t n) = _
  rw [xP9 t n]
  by_cases c : n ≤ t.length
  ·rw [if_pos c,if_pos (by simpa using c)]; rfl
  ·rw [if_neg c,if_neg (by simpa using c)]; rfl
noncomputable def xZC (l : List AV) : Nat := List.rec (motive := fun _ => Nat) 0 (fun _ _ n => n + 1) l
theorem xH1 : ∀ l : List AV,xZC l = l.length
 | [] => rfl
 | v :: t => by
  show xZC t + 1 = _
  rw [xH1 t]; rfl
noncomputable def rdC (cs : List AV) (off n : Nat) : Option (List AV) := match n with
 | 0 => if off ≤ xZC cs then some [] else none
 | n + 1 => xZB (xSb cs off) (n + 1)
theorem yBN (cs : List AV) (off n : Nat) : rdC cs off n = if off + n ≤ cs.length then some ((cs.drop off).take n) else none := by
 cases n with
 | zero => rw [rdC,xH1]; rfl
 | succ n =>
  rw [rdC,xP9,xLI,List.length_drop]
  by_cases c : off + (n + 1) ≤ cs.length
  ·rw [if_pos c,if_pos (by omega)]
  ·rw [if_neg c,if_neg (by omega)]
noncomputable def rdF (H : Heap) (p : AV) (n : Nat) : Option (List AV) := match p with
 | .ptr id off => match H[id]? with
  | some (.cells _ _ cs) => rdC cs off n
  | _ => none
 | .vptr cs off => rdC cs off n
 | _ => none
theorem yBO : rdF = rd := by
 funext H p n
 cases p <;> simp only [rdF,rd,yBN]
 rename_i id off
 rcases H[id]? with _ | b
 ·rfl
 ·cases b <;> rfl
noncomputable def yD5 (vs : List AV) (cs : List AV) : Nat → List AV := List.rec (motive := fun _ => Nat → List AV) (fun _ => vs) (fun v t ih n => Nat.casesOn (motive := fun _ => List AV) n (vs ++ xSb (v :: t) (xZC vs)) (fun m => v :: ih m)) cs
theorem xTy (vs : List AV) : ∀ (cs : List AV) (off : Nat),yD5 vs cs off = splice cs off vs
 | [],off => by
  show vs = _
  simp [splice]
 | v :: t,0 => by
  show vs ++ xSb (v :: t) (xZC vs) = _
  rw [xLI,xH1]; simp [splice]
 | v :: t,n + 1 => by
  show v :: yD5 vs t n = _
  rw [xTy vs t n]
  simp only [splice,List.take_succ_cons,List.cons_append,show n + 1 + vs.length = (n + vs.length) + 1 by omega,List.drop_succ_cons]
noncomputable def wrF (H : Heap) (p : AV) (vs : List AV) : Option Heap := match p with
 | .ptr id off => match H[id]? with
  | some (.cells false z cs) => if off + vs.length ≤ xZC cs ∧ vs.all AV.isCell = true then some (H.set id (.cells false z (yD5 vs cs off))) else none
  | _ => none
 | _ => none
theorem yBP : wrF = wr := by
 funext H p vs
 cases p <;> simp only [wrF,wr,xTy,xH1]
 rename_i id off
 rcases H[id]? with _ | b
 ·rfl
 ·cases b with
  | cells fz z cs => cases fz <;> rfl
  | _ => rfl
noncomputable def tkA (ys cs : List AV) : Nat → List AV := List.rec (motive := fun _ => Nat → List AV) (fun _ => ys) (fun v _ ih n => Nat.casesOn (motive := fun _ => List AV) n ys (fun m => v :: ih m)) cs
theorem xYn (ys : List AV) : ∀ (cs : List AV) (n : Nat),tkA ys cs n = cs.take n ++ ys
 | [],n => by
  show ys = _
  simp
 | v :: t,0 => rfl
 | v :: t,n + 1 => by
  show v :: tkA ys t n = _
  rw [xYn ys t n]; rfl
def yBQ (opv : List AV → Arg → AV) (R : Rec) (F : List AV) (H : Heap) (x : Arg) : Option (AV × Heap) := some (opv F x,H)
def xZD (opv : List AV → Arg → AV) (R : Rec) (F : List AV) (H : Heap) (c : Arg) (a : Arg) (b : Arg) : Option (AV × Heap) := match opv F c with
  | .bool t => some (if t then opv F a else opv F b,H)
  | _ => none
def yBR (opv : List AV → Arg → AV) (R : Rec) (F : List AV) (H : Heap) (x : Arg) : Option (AV × Heap) := let cs := (opv F x).cells; if cs.all AV.isCell then some (.ptr H.length 0,H ++ [.cells false false cs]) else none
def xW3 (opv : List AV → Arg → AV) (R : Rec) (F : List AV) (H : Heap) (z : List AV) (parts : List (Nat × Nat × Arg)) : Option (AV × Heap) :=
  (if parts.all (fun p => (opv F p.2.2).cells.length == p.2.1) then
   (fillA z (parts.map fun p => (p.1,(opv F p.2.2).cells))).map fun cs => (.agg cs,H) else none)
def xTz (opv : List AV → Arg → AV) (R : Rec) (F : List AV) (H : Heap) (fz : Bool) (z : List AV) (es : Nat) (n : Nat) (parts : List (Nat × Arg)) : Option (AV × Heap) :=
  (if parts.all (fun p => (opv F p.2).cells.length == es) then
   match fillA (xCp z n) (parts.map fun p => (p.1 * es,(opv F p.2).cells)) with
   | some cs => xEh fz false n es cs H
   | none => none
   else none)
def xTA (opv : List AV → Arg → AV) (R : Rec) (F : List AV) (H : Heap) (z : List AV) (es : Nat) (n : Nat) (parts : List (Nat × Arg)) : Option (AV × Heap) :=
  (if parts.all (fun p => (opv F p.2).cells.length == es) then
   match fillA (xCp z n) (parts.map fun p => (p.1 * es,(opv F p.2).cells)) with
   | some cs => if cs.all xBN = true then some (.sl false n cs,H) else none
   | none => none
   else none)
noncomputable def xTB (opv : List AV → Arg → AV) (R : Rec) (F : List AV) (H : Heap) (g : Bool) (n : Nat) (p : Arg) : Option (AV × Heap) := match rdF H (opv F p) n with
  | some cs => (mkv g cs).map fun v => (v,H)
  | none => none
noncomputable def xQa (opv : List AV → Arg → AV) (R : Rec) (F : List AV) (H : Heap) (n : Nat) (p : Arg) (v : Arg) : Option (AV × Heap) := let cs := (opv F v).cells; if cs.length = n then (wrF H (opv F p) cs).map fun H' => (.tup [],H') else none
def xTC (opv : List AV → Arg → AV) (R : Rec) (F : List AV) (H : Heap) (x : Arg) : Option (AV × Heap) := match opv F x with
  | .ptr id off => some (.ptr id off,H)
  | .vptr cs off => some (.vptr cs off,H)
  | .func f caps => some (.func f caps,H)
  | .yield l => some (.yield l,H)
  | _ => none
def yBS (opv : List AV → Arg → AV) (R : Rec) (F : List AV) (H : Heap) (op : BinOp) (x : Arg) (y : Arg) : Option (AV × Heap) := (xEg op (opv F x) (opv F y)).map fun v => (v,H)
def yBT (opv : List AV → Arg → AV) (R : Rec) (F : List AV) (H : Heap) (neg : Bool) (x : Arg) (y : Arg) : Option (AV × Heap) := match opv F x,opv F y with
  | .bool a,.bool b => some (.bool (if neg then a != b else a == b),H)
  | _,_ => none
def xW4 (opv : List AV → Arg → AV) (R : Rec) (F : List AV) (H : Heap) (neg : Bool) (x : Arg) : Option (AV × Heap) := match opv F x with
  | .sl z _ _ => some (.bool (z != neg),H)
  | .own z _ _ _ _ => some (.bool (z != neg),H)
  | _ => none
def yD6 (opv : List AV → Arg → AV) (R : Rec) (F : List AV) (H : Heap) (op : UnOp) (x : Arg) : Option (AV × Heap) := (unA op (opv F x)).map fun v => (v,H)
def xZE (opv : List AV → Arg → AV) (R : Rec) (F : List AV) (H : Heap) (k : IntKind) (x : Arg) : Option (AV × Heap) := match opv F x with
  | .int _ n => some (.int k (k.wrap n),H)
  | _ => none
def xTD (opv : List AV → Arg → AV) (R : Rec) (F : List AV) (H : Heap) (f : Nat) (caps : List Arg) : Option (AV × Heap) := some (.func f (caps.map (opv F)),H)
def xSc (opv : List AV → Arg → AV) (R : Rec) (F : List AV) (H : Heap) (fz : Bool) (z : List AV) (bytes : Nat) (l : Arg) (c : Arg) : Option (AV × Heap) := match opv F l,opv F c with
  | .int _ l,.int _ c => if 0 ≤ l ∧ l ≤ c ∧ c * bytes ≤ xA1 ∧ c ≤ xA1 ∧ z.all AV.isCell = true then xEh fz false l.toNat z.length (xCp z l.toNat) H else none
  | _,_ => none
def xW5 (opv : List AV → Arg → AV) (R : Rec) (F : List AV) (H : Heap) (es : Nat) (x : Arg) (lo : Option Arg) (hi : Option Arg) (mx : Option Arg) : Option (AV × Heap) := match opv F x with
  | .sl z n cs => if cs.length = n * es then (xBn n (lo.map (opv F)) (hi.map (opv F)) (mx.map (opv F))).map fun (l,h) => (.sl z (h - l) ((cs.drop (l * es)).take ((h - l) * es)),H) else none
  | .own z id off n es' => if es' = es then (xBn n (lo.map (opv F)) (hi.map (opv F)) (mx.map (opv F))).map fun (l,h) => (.own z id (off + l * es) (h - l) es,H) else none
  | _ => none
def xW6 (opv : List AV → Arg → AV) (R : Rec) (F : List AV) (H : Heap) (o : Nat) (x : Arg) : Option (AV × Heap) := match opv F x with
  | .ptr id off => some (.ptr id (off + o),H)
  | .vptr cs off => some (.vptr cs (off + o),H)
  | _ => none
def xW7 (opv : List AV → Arg → AV) (R : Rec) (F : List AV) (H : Heap) (g : Bool) (off : Nat) (n : Nat) (x : Arg) : Option (AV × Heap) := match opv F x with
  | .agg cs => if off + n ≤ cs.length then (mkv g ((cs.drop off).take n)).map fun v => (v,H) else none
  | _ => none
def xW8 (opv : List AV → Arg → AV) (R : Rec) (F : List AV) (H : Heap) (es : Nat) (x : Arg) (i : Arg) : Option (AV × Heap) := match opv F x,xBq (opv F i) with
  | .sl _ n cs,some i => if i < n then some (.vptr cs (i * es),H) else none
  | .own _ id off n es',some i => if i < n ∧ es' = es then some (.ptr id (off + i * es),H) else none
  | _,_ => none
def yBU (opv : List AV → Arg → AV) (R : Rec) (F : List AV) (H : Heap) (i : Nat) (x : Arg) : Option (AV × Heap) := match opv F x with
  | .tup vs => (vs[i]?).map fun v => (v,H)
  | _ => none
def yBV (opv : List AV → Arg → AV) (R : Rec) (F : List AV) (H : Heap) (x : Arg) : Option (AV × Heap) := match opv F x with
  | .sl _ n _ => some (.int .i64 n,H)
  | .own _ _ _ n _ => some (.int .i64 n,H)
  | _ => none
def yBW (opv : List AV → Arg → AV) (R : Rec) (F : List AV) (H : Heap) (x : Arg) : Option (AV × Heap) := match opv F x with
  | .sl true _ _ => some (.int .i64 0,H)
  | _ => none
def yBX (opv : List AV → Arg → AV) (R : Rec) (F : List AV) (H : Heap) (neg : Bool) (n : Nat) (x : Arg) (y : Arg) : Option (AV × Heap) := match opv F x,opv F y with
  | .agg cs,.agg ds => if cs.length = n then (xCb cs ds).map fun b => (.bool (b != neg),H) else none
  | _,_ => none
noncomputable def xM0 (opv : List AV → Arg → AV) (R : Rec) (F : List AV) (H : Heap) (fz : Bool) (es : Nat) (bytes : Nat) (x : Arg) (y : Arg) : Option (AV × Heap) := match src H es (opv F y) with
  | none => none
  | some (m,ys) => match opv F x with
   | .sl true _ _ => if m * bytes ≤ xA1 ∧ m ≤ xA1 then xEh fz (m == 0) m es ys H else none
   | .own z id off n es' => match H[id]? with
    | some (.cells false _ cs) => if off = 0 ∧ es' = es ∧ n * es ≤ xZC cs ∧ (n + m) * bytes ≤ xA1 ∧ n + m ≤ xA1 then
      some (.own (z && m == 0) H.length 0 (n + m) es,H.set id .dead ++ [.cells false (z && m == 0) (tkA ys cs (n * es))]) else none
    | _ => none
   | _ => none
def xSd (opv : List AV → Arg → AV) (R : Rec) (F : List AV) (H : Heap) (z : List AV) (bytes : Nat) (x : Arg) (n : Arg) : Option (AV × Heap) := match xBq (opv F n),opv F x with
  | some m,.sl true _ _ => if m * bytes ≤ xA1 ∧ m ≤ xA1 ∧ z.all AV.isCell = true then xEh false (m == 0) m z.length (xCp z m) H else none
  | some m,.own false id off k es' => match H[id]? with
   | some (.cells false _ cs) => if off = 0 ∧ es' = z.length ∧ k * z.length ≤ cs.length ∧ (k + m) * bytes ≤ xA1 ∧ k + m ≤ xA1 ∧ 0 < m ∧ z.all AV.isCell = true then
     some (.own false H.length 0 (k + m) z.length,H.set id .dead ++ [.cells false false (cs.take (k * z.length) ++ xCp z m)]) else none
   | _ => none
  | _,_ => none
def xSe (opv : List AV → Arg → AV) (R : Rec) (F : List AV) (H : Heap) (es : Nat) (bytes : Nat) (x : Arg) (y : Arg) : Option (AV × Heap) := match xFr H with
  | none => none
  | some h => (appB H es bytes (opv F x) (opv F y)).map fun r => (.own r.1 h 0 r.2.1 es,(xBX r.2.2.2 H).set h (.cells false r.1 r.2.2.1))
def xZF (opv : List AV → Arg → AV) (R : Rec) (F : List AV) (H : Heap) (_u0 : Nat) (_u1 : Arg) (_u2 : Arg) : Option (AV × Heap) := none
def xZG (opv : List AV → Arg → AV) (R : Rec) (F : List AV) (H : Heap) (x : Arg) (y : Arg) : Option (AV × Heap) := match opv F x,opv F y with
  | .int k a,.int _ b => some (.int k (if b > a then b else a),H)
  | _,_ => none
def xZH (opv : List AV → Arg → AV) (R : Rec) (F : List AV) (H : Heap) (x : Arg) (y : Arg) : Option (AV × Heap) := match opv F x,opv F y with
  | .int k a,.int _ b => some (.int k (if b < a then b else a),H)
  | _,_ => none
def xZI (opv : List AV → Arg → AV) (R : Rec) (F : List AV) (H : Heap) (f : Nat) (args : List Arg) : Option (AV × Heap) := xBL R f (args.map (opv F)) H
def xW9 (opv : List AV → Arg → AV) (R : Rec) (F : List AV) (H : Heap) (f : Arg) (args : List Arg) : Option (AV × Heap) := R.icall (opv F f) (args.map (opv F)) H
def xXa (opv : List AV → Arg → AV) (R : Rec) (F : List AV) (H : Heap) (f : Arg) (args : List Arg) : Option (AV × Heap) := match opv F f with
  | .func g caps => xBL R g (args.map (opv F) ++ caps) H
  | _ => none
def yBY (opv : List AV → Arg → AV) (R : Rec) (F : List AV) (H : Heap) (g : Bool) (es : Nat) (len : Nat) (x : Arg) (i : Arg) : Option (AV × Heap) := match opv F x,xBq (opv F i) with
  | .agg cs,some j => if j < len ∧ j * es + es ≤ cs.length then (mkv g ((cs.drop (j * es)).take es)).map fun v => (v,H) else none
  | _,_ => none
def xXb (opv : List AV → Arg → AV) (R : Rec) (F : List AV) (H : Heap) (es : Nat) (len : Nat) (x : Arg) (i : Arg) : Option (AV × Heap) := match opv F x,xBq (opv F i) with
  | .ptr id off,some j => if j < len then some (.ptr id (off + j * es),H) else none
  | .vptr cs off,some j => if j < len then some (.vptr cs (off + j * es),H) else none
  | _,_ => none
def xZJ (opv : List AV → Arg → AV) (R : Rec) (F : List AV) (H : Heap) (b : Nat) (es : Nat) (len : Nat) (i : Arg) : Option (AV × Heap) := match xWY b,xBq (opv F i) with
  | some cs,some j => if j < len then some (.vptr cs (j * es),H) else none
  | _,_ => none
def xZK (opv : List AV → Arg → AV) (R : Rec) (F : List AV) (H : Heap) (x : Arg) (i : Arg) : Option (AV × Heap) := match opv F x,xBq (opv F i) with
  | .str s,some j => (s[j]?).map fun b => (.int .u8 b.toNat,H)
  | _,_ => none
def xZL (opv : List AV → Arg → AV) (R : Rec) (F : List AV) (H : Heap) (x : Arg) : Option (AV × Heap) := match opv F x with
  | .str s => some (.int .i64 s.size,H)
  | _ => none
def yD7 (opv : List AV → Arg → AV) (R : Rec) (F : List AV) (H : Heap) (mx : Bool) (xs : List Arg) : Option (AV × Heap) := match xs.map (opv F) with
  | [] => none
  | x :: r => (mmA mx x r).map fun v => (v,H)
def xTE (opv : List AV → Arg → AV) (R : Rec) (F : List AV) (H : Heap) (x : Arg) (lo : Option Arg) (hi : Option Arg) : Option (AV × Heap) := match opv F x with
  | .str s => (xBn s.size (lo.map (opv F)) (hi.map (opv F)) none).map fun (l,h) => (.str (s.extract l h),H)
  | _ => none
def xZM (opv : List AV → Arg → AV) (R : Rec) (F : List AV) (H : Heap) (neg : Bool) (x : Arg) (y : Arg) : Option (AV × Heap) := match opv F x,opv F y with
  | .str s,.str t => some (.bool ((s.toList == t.toList) != neg),H)
  | _,_ => none
def xSf (opv : List AV → Arg → AV) (R : Rec) (F : List AV) (H : Heap) (f : Nat) (first : List Arg) : Option (AV × Heap) := some (.bfunc f (first.map (opv F)),H)
def xXc (opv : List AV → Arg → AV) (R : Rec) (F : List AV) (H : Heap) (f : Arg) (args : List Arg) : Option (AV × Heap) := match opv F f with
  | .bfunc g first => R.icall (.func g []) (first ++ args.map (opv F)) H
  | _ => none
def xXd (opv : List AV → Arg → AV) (R : Rec) (F : List AV) (H : Heap)  : Option (AV × Heap) := some (.mp H.length,H ++ [.mp []])
def xXe (opv : List AV → Arg → AV) (R : Rec) (F : List AV) (H : Heap) (ks : List Nat) (comma : Bool) (z : AV) (x : Arg) (k : Arg) : Option (AV × Heap) := if xBD ks (opv F k) then match xWu H (opv F x) with
  | none => none
  | some es => match xJl (opv F k) es with
   | none => none
   | some none => some (if comma then .tup [z,.bool false] else z,H)
   | some (some v) => some (if comma then .tup [v,.bool true] else v,H)
  else none
def xZN (opv : List AV → Arg → AV) (R : Rec) (F : List AV) (H : Heap) (ks : List Nat) (z : AV) (m : Arg) (k : Arg) : Option (AV × Heap) := if xBD ks (opv F k) then match opv F m with
  | .mp id => match H[id]? with
   | some (.mp es) => (xS9 (opv F k) z es 0).map fun r => (.tup [r.1,.int .i64 (r.2.1 : Nat)],H.set id (.mp r.2.2))
   | _ => none
  | _ => none
  else none
def xTF (opv : List AV → Arg → AV) (R : Rec) (F : List AV) (H : Heap) (m : Arg) (s : Arg) (v : Arg) : Option (AV × Heap) := match opv F m,opv F s with
  | .mp id,.int .i64 n => match H[id]? with
   | some (.mp es) => if 0 ≤ n then (es[n.toNat]?).map fun e => (.tup [],H.set id (.mp (es.set n.toNat (e.1,opv F v)))) else none
   | _ => none
  | _,_ => none
def xZO (opv : List AV → Arg → AV) (R : Rec) (F : List AV) (H : Heap) (ks : List Nat) (m : Arg) (k : Arg) (v : Arg) : Option (AV × Heap) := if xBD ks (opv F k) then match opv F m with
  | .mp id => match H[id]? with
   | some (.mp es) => (xWZ (opv F k) (opv F v) es).map fun es' => (.tup [],H.set id (.mp es'))
   | _ => none
  | _ => none
  else none
def xZP (opv : List AV → Arg → AV) (R : Rec) (F : List AV) (H : Heap) (x : Arg) : Option (AV × Heap) := (xWu H (opv F x)).map fun es => (.int .i64 es.length,H)
def xZQ (opv : List AV → Arg → AV) (R : Rec) (F : List AV) (H : Heap) (neg : Bool) (x : Arg) : Option (AV × Heap) := match opv F x with
  | .nilm => some (.bool (true != neg),H)
  | .mp _ => some (.bool (false != neg),H)
  | _ => none
def xZR (opv : List AV → Arg → AV) (R : Rec) (F : List AV) (H : Heap) (neg : Bool) (x : Arg) : Option (AV × Heap) := match opv F x with
  | .ptr _ _ => some (.bool (false != neg),H)
  | .nilp => some (.bool (true != neg),H)
  | _ => none
def xTG (opv : List AV → Arg → AV) (R : Rec) (F : List AV) (H : Heap) (fz : Bool) (x : Arg) : Option (AV × Heap) := match opv F x with
  | .str s => xEh fz false s.size 1 (xCE s) H
  | _ => none
def xZS (opv : List AV → Arg → AV) (R : Rec) (F : List AV) (H : Heap) (x : Arg) : Option (AV × Heap) := match src H 1 (opv F x) with
  | some (_,cs) => (xTa cs).map fun bs => (.str ⟨⟨bs⟩⟩,H)
  | none => none
def xZT (opv : List AV → Arg → AV) (R : Rec) (F : List AV) (H : Heap) (x : Arg) (y : Arg) : Option (AV × Heap) := match opv F x,opv F y with
  | .str s,.str t => if s.size + t.size ≤ 9223372036854775807 then some (.str ⟨⟨s.data.toList ++ t.data.toList⟩⟩,H) else none
  | _,_ => none
def xXf (opv : List AV → Arg → AV) (R : Rec) (F : List AV) (H : Heap) (f : Nat) (args : List Arg) : Option (AV × Heap) := match (args.map (opv F)).mapM (frz frzN H) with
  | none => none
  | some args' => match xDe R f args' with
   | none => none
   | some (v,B) => some (xB6 H.length v,fzIds H ((args.map (opv F)).flatMap (bor frzN H)) ++ B)
def xTH (opv : List AV → Arg → AV) (R : Rec) (F : List AV) (H : Heap) (f : Nat) (args : List Arg) : Option (AV × Heap) := match (args.map (opv F)).mapM (frz frzN H) with
  | none => none
  | some args' => match xDf R f args' with
   | none => none
   | some (v,B) => some (xB6 H.length v,fzIds H ((args.map (opv F)).flatMap (bor frzN H)) ++ B.map (xB7 H.length))
noncomputable def xLJ (R : Rec) (F : List AV) (H : Heap) : AOp → Option (AV × Heap)
 | .mov x => yBQ xBZ R F H x
 | .pick c a b => xZD xBZ R F H c a b
 | .box x => yBR xBZ R F H x
 | .build z parts => xW3 xBZ R F H z parts
 | .bslice fz z es n parts => xTz xBZ R F H fz z es n parts
 | .dslice z es n parts => xTA xBZ R F H z es n parts
 | .load g n p => xTB xBZ R F H g n p
 | .store n p v => xQa xBZ R F H n p v
 | .nilchk x => xTC xBZ R F H x
 | .bin op x y => yBS xBZ R F H op x y
 | .beq neg x y => yBT xBZ R F H neg x y
 | .isnil neg x => xW4 xBZ R F H neg x
 | .un op x => yD6 xBZ R F H op x
 | .conv k x => xZE xBZ R F H k x
 | .mkfunc f caps => xTD xBZ R F H f caps
 | .mkslice fz z bytes l c => xSc xBZ R F H fz z bytes l c
 | .slice es x lo hi mx => xW5 xBZ R F H es x lo hi mx
 | .faddr o x => xW6 xBZ R F H o x
 | .field g off n x => xW7 xBZ R F H g off n x
 | .iaddr es x i => xW8 xBZ R F H es x i
 | .ext i x => yBU xBZ R F H i x
 | .len x => yBV xBZ R F H x
 | .cap x => yBW xBZ R F H x
 | .aeq neg n x y => yBX xBZ R F H neg n x y
 | .append fz es bytes x y => xM0 xBZ R F H fz es bytes x y
 | .appendz z bytes x n => xSd xBZ R F H z bytes x n
 | .appendh es bytes x y => xSe xBZ R F H es bytes x y
 | .copy _u0 _u1 _u2 => xZF xBZ R F H _u0 _u1 _u2
 | .maxi x y => xZG xBZ R F H x y
 | .mini x y => xZH xBZ R F H x y
 | .call f args => xZI xBZ R F H f args
 | .icall f args => xW9 xBZ R F H f args
 | .fcall f args => xXa xBZ R F H f args
 | .idx g es len x i => yBY xBZ R F H g es len x i
 | .arrat es len x i => xXb xBZ R F H es len x i
 | .garr b es len i => xZJ xBZ R F H b es len i
 | .sidx x i => xZK xBZ R F H x i
 | .slen x => xZL xBZ R F H x
 | .mm mx xs => yD7 xBZ R F H mx xs
 | .sslice x lo hi => xTE xBZ R F H x lo hi
 | .sbeq neg x y => xZM xBZ R F H neg x y
 | .mkbound f first => xSf xBZ R F H f first
 | .bcall f args => xXc xBZ R F H f args
 | .mkmap  => xXd xBZ R F H 
 | .mlook ks comma z x k => xXe xBZ R F H ks comma z x k
 | .ment ks z m k => xZN xBZ R F H ks z m k
 | .mstore m s v => xTF xBZ R F H m s v
 | .mupd ks m k v => xZO xBZ R F H ks m k v
 | .mlen x => xZP xBZ R F H x
 | .mnil neg x => xZQ xBZ R F H neg x
 | .pnil neg x => xZR xBZ R F H neg x
 | .sbytes fz x => xTG xBZ R F H fz x
 | .bstr x => xZS xBZ R F H x
 | .sadd x y => xZT xBZ R F H x y
 | .ocall f args => xXf xBZ R F H f args
 | .ocallw f args => xTH xBZ R F H f args
theorem xJN (R : Rec) (F : List AV) (H : Heap) (op : AOp) : xLJ R F H op = xAa R F H op := by
 cases op <;> simp only [xLJ,xTw] <;> first | rfl | (simp only [xTB,yBO]; rfl) | (simp only [xQa,yBP]; rfl) | (simp only [xM0,xH1,xYn]; rfl)
def fN {α : Type} (a : Nat) (k : Nat → α) : α := match a with
 | 0 => k 0
 | n + 1 => k (n + 1)
theorem yBZ {α : Type} (a : Nat) (k : Nat → α) : fN a k = k a := by cases a <;> rfl
def fI {α : Type} (x : Int) (k : Int → α) : α := match x with
 | .ofNat a => fN a fun a => k (.ofNat a)
 | .negSucc a => fN a fun a => k (.negSucc a)
theorem yD8 {α : Type} (x : Int) (k : Int → α) : fI x k = k x := by cases x <;> simp only [fI,yBZ]
def fBo {α : Type} (x : Bool) (k : Bool → α) : α := match x with
 | true => k true
 | false => k false
theorem yB0 {α : Type} (x : Bool) (k : Bool → α) : fBo x k = k x := by cases x <;> rfl
def fV {α : Type} (v : AV) (k : AV → α) : α := match v with
 | .int kd n => fI n fun n => k (.int kd n)
 | .bool b => fBo b fun b => k (.bool b)
 | .ptr i o => fN i fun i => fN o fun o => k (.ptr i o)
 | .own z i o n e => fBo z fun z => fN i fun i => fN o fun o => fN n fun n => fN e fun e => k (.own z i o n e)
 | .sl z n cs => fN n fun n => k (.sl z n cs)
 | v => k v
theorem xZU {α : Type} (v : AV) (k : AV → α) : fV v k = k v := by
 cases v <;> simp only [fV,yD8,yB0,yBZ]
noncomputable def fS {α : Type} (l : List AV) : (List AV → α) → α := List.rec (motive := fun _ => (List AV → α) → α) (fun k => k []) (fun v _ ih k => ih fun vs => k (v :: vs)) l
theorem xXg {α : Type} : ∀ (l : List AV) (k : List AV → α),fS l k = k l
 | [],k => rfl
 | v :: vs,k => by
  show fS vs (fun vs => k (v :: vs)) = _
  rw [xXg vs]
def fL {α : Type} : List AV → (List AV → α) → α
 | [],k => k []
 | v :: vs,k => fV v fun v => fL vs fun vs => k (v :: vs)
theorem yB1 {α : Type} : ∀ (l : List AV) (k : List AV → α),fL l k = k l
 | [],k => rfl
 | v :: vs,k => by rw [fL,xZU,yB1 vs]
def fB {α : Type} (b : Blk) (k : Blk → α) : α := match b with
 | .cells fz z cs => fL cs fun cs => k (.cells fz z cs)
 | b => k b
theorem yD9 {α : Type} (b : Blk) (k : Blk → α) : fB b k = k b := by
 cases b <;> first | rfl | simp only [fB,yB1]
noncomputable def fAt {α : Type} (l : List Blk) : Nat → (List Blk → α) → α := List.rec (motive := fun _ => Nat → (List Blk → α) → α) (fun _ k => k []) (fun b bs ih n k => Nat.casesOn (motive := fun _ => α) n (fB b fun b => k (b :: bs)) (fun m => ih m fun bs => k (b :: bs))) l
theorem xYo {α : Type} : ∀ (l : List Blk) (n : Nat) (k : List Blk → α),fAt l n k = k l
 | [],n,k => rfl
 | b :: bs,0,k => by
  show fB b (fun b => k (b :: bs)) = _
  rw [yD9]
 | b :: bs,n + 1,k => by
  show fAt bs n (fun bs => k (b :: bs)) = _
  rw [xYo bs]
noncomputable def yFO (l : List Blk) : Nat := List.rec (motive := fun _ => Nat) 0 (fun _ _ n => n + 1) l
noncomputable def yEa (F : List AV) (H : List Blk) : AOp → Nat
 | .store _ p _ => match xBZ F p with
  | .ptr id _ => id
  | _ => 0
 | _ => yFO H
def yB2 : AOp → Bool
 | .mov _ | .pick .. | .bin .. | .beq .. | .aeq .. | .un .. | .conv .. | .ext .. | .faddr .. | .field .. | .iaddr .. | .len _ | .cap _ | .isnil .. | .maxi .. | .mini .. | .nilchk _ | .mkfunc .. | .slice .. | .idx .. | .arrat .. | .garr .. | .sidx .. | .slen .. | .mm .. | .sslice .. | .sbeq .. | .mkbound .. | .load .. | .build .. | .mlook .. | .mlen _ | .mnil .. | .pnil .. => true
 | _ => false
noncomputable def xZV (d : Option Nat) (F : List AV) (keep : Bool) (sp : Nat) : Option (AV × Heap) → Option St
 | some (v,H) => fV v fun v => fS (yD4 F d v) fun F => if keep then some ⟨F,H⟩ else fAt H sp fun H => some ⟨F,H⟩
 | none => none
theorem xXh (d : Option Nat) (F : List AV) (keep : Bool) (sp : Nat) (x : Option (AV × Heap)) : xZV d F keep sp x = x.map fun (v,H) => ⟨putA F d v,H⟩ := by
 cases x with
 | none => rfl
 | some p =>
  obtain ⟨v,H⟩ := p
  simp only [xZV,xZU,xXg,xYo,ite_self,xTx]
  rfl
def yB3 (o : AOper) (s : St) (r : Option St) : Option Bool → Option St
 | none => none
 | some false => some ⟨putA s.F o.dst (.tup []),s.H⟩
 | some true => r
noncomputable def xFu (R : Rec) (o : AOper) (s : St) : Option St := yB3 o s (xZV o.dst s.F (yB2 o.op) (yEa s.F s.H o.op) (xLJ R s.F s.H o.op)) (xBO s.F o.guard)
theorem xM1 (R : Rec) (o : AOper) (s : St) : xFu R o s = xAy R o s := by
 unfold xFu xAy
 rw [xJN,xXh]
 split <;> rename_i e <;> rw [e] <;> rfl
noncomputable def xXi (k : St → Option St) : Option St → Option St
 | some s => k s
 | none => none
noncomputable def xE1 (R : Rec) (ops : List AOper) : St → Option St := List.rec (motive := fun _ => St → Option St) (fun s => some s) (fun o _ ih s => xXi ih (xFu R o s)) ops
theorem xEA (R : Rec) : ∀ (ops : List AOper) (s : St),xE1 R ops s = xAr R ops s
 | [],s => rfl
 | o :: rest,s => by
  show xXi (xE1 R rest) (xFu R o s) = _
  simp only [xAr,xM1]
  cases xAy R o s with
  | none => rfl
  | some s' => exact xEA R rest s'
def xZW : AOp → Bool
 | .call .. | .fcall .. | .append .. | .box .. | .bslice .. | .mkslice .. | .appendz .. | .appendh .. | .copy .. | .icall .. | .bcall .. | .store .. | .ocall .. | .ocallw .. | .mkmap | .mupd .. | .ment .. | .mstore .. | .sbytes .. => true
 | _ => false
noncomputable def xO8 (R : Rec) (F : List AV) (H : Heap) (op : AOp) : Option AV := if xZW op then xAt R F H op else (xLJ R F H op).map (·.1)
theorem xSg (R : Rec) (F : List AV) (H : Heap) (op : AOp) : xO8 R F H op = xAt R F H op := by
 unfold xO8
 rw [xJN]
 cases op <;> rfl
noncomputable def frF (d : Option Nat) (s : St) : Option AV → Option St
 | some v => fV v fun v => fS (yD4 s.F d v) fun F => some ⟨F,s.H⟩
 | none => none
theorem yB4 (d : Option Nat) (s : St) (x : Option AV) : frF d s x = x.map fun v => ⟨putA s.F d v,s.H⟩ := by
 cases x with
 | none => rfl
 | some v => simp only [frF,xZU,xXg,xTx]; rfl
noncomputable def xFv (R : Rec) (o : AOper) (s : St) : Option St := yB3 o s (frF o.dst s (xO8 R s.F s.H o.op)) (xBO s.F o.guard)
theorem xM2 (R : Rec) (o : AOper) (s : St) : xFv R o s = xAK R o s := by
 unfold xFv xAK
 rw [xSg,yB4]
 split <;> rename_i e <;> rw [e] <;> rfl
noncomputable def xLK (R : Rec) (ops : List AOper) : St → Option St := List.rec (motive := fun _ => St → Option St) (fun s => some s) (fun o _ ih s => xXi ih (xFv R o s)) ops
theorem xH2 (R : Rec) : ∀ (ops : List AOper) (s : St),xLK R ops s = xBb R ops s
 | [],s => rfl
 | o :: rest,s => by
  show xXi (xLK R rest) (xFv R o s) = _
  simp only [xBb,xM2]
  cases xAK R o s with
  | none => rfl
  | some s' => exact xH2 R rest s'
noncomputable def yFu (k : St → Option (AExit × St)) : Option (AExit × St) → Option (AExit × St)
 | some (.normal,s') => k s'
 | r => r
noncomputable def yB5 (x y : Option (AExit × St)) : AV → Option (AExit × St)
 | .bool t => if t then x else y
 | _ => none
def xYp (id : Nat) : Option (AExit × St) → Option (AExit × St)
 | some (.exit i,s') => if i = id then some (.normal,s') else some (.exit i,s')
 | r => r
def yDK : Option St → Option (AExit × St)
 | some s => some (.normal,s)
 | none => none
noncomputable def xZX (R : Rec) (m : Nat) (ops : List AOper) (s : St) : Option (AExit × St) := match xLK R (ops.take m) s with
 | none => none
 | some s1 => yDK (xE1 R (ops.drop m) (adopt (ops.take m) s1))
def yFv (i : Nat) (k : AV → Option (AExit × St)) : Option AV → Option (AExit × St)
 | some v => k v
 | none => none
noncomputable def xXj (R : Rec) (c : ACode) : St → Option (AExit × St) :=
 ACode.rec (motive := fun _ => St → Option (AExit × St))
  (fun s => some (.normal,s)) (fun ops s => yDK (xE1 R ops s)) (fun m ops s => xZX R m ops s) (fun ls m ops s => run R (.drawl ls m ops) s)
  (fun als ls m ops s => run R (.drawp als ls m ops) s) (fun hs als ls m ops s => run R (.drawh hs als ls m ops) s) (fun σ als ls m ops s => run R (.drawt σ als ls m ops) s) (fun _ ih s => ih ⟨s.F,s.H ++ [.cells true true []]⟩)
  (fun ss _ ih s => ih ⟨s.F,fzIds s.H (ss.flatMap fun i => bor frzN s.H (s.F.getD i .any))⟩) (fun i _ ih s => yFv i (fun v => ih ⟨s.F.set i v,fzIds s.H (bor frzN s.H (s.F.getD i .any))⟩) (frz frzN s.H (s.F.getD i .any))) (fun _ _ iha ihb s => yFu ihb (iha s)) (fun c _ _ iha ihb s => yB5 (iha s) (ihb s) (xBZ s.F c))
  (fun id _ ih s => xYp id (ih s)) (fun scr b _ s => R.loop scr b s) (fun f ps asg body _ _ s => run R (.range f ps asg body) s) (fun id s => some (.exit id,s)) (fun _ ih s => ih s)
  (fun s => some (.normal,s)) (fun s => some (.ret,s)) (fun _ => none) c
theorem xTI (x : Option St) : yDK x = x.map fun s' => (.normal,s') := by cases x <;> rfl
theorem xO9 (R : Rec) (c : ACode) : ∀ s,xXj R c s = run R c s := by
 induction c <;> intro s
 case region ops => show yDK (xE1 R ops s) = _; simp only [run,xEA,xTI]
 case draw m ops =>
  show xZX R m ops s = _
  simp only [run,xZX,xH2,xEA,xTI]
  cases xBb R (ops.take m) s <;> rfl
 case seq a b iha ihb =>
  show yFu (xXj R b) (xXj R a s) = _
  simp only [run,iha]
  cases run R a s with
  | none => rfl
  | some p =>
   obtain ⟨e,s'⟩ := p
   cases e with
   | normal => exact ihb s'
   | exit i => rfl
   | ret => rfl
 case cond c a b iha ihb =>
  show yB5 (xXj R a s) (xXj R b s) (xBZ s.F c) = _
  simp only [run,iha,ihb,xTw]
  cases opv s.F c <;> rfl
 case block id b ih =>
  show xYp id (xXj R b s) = _
  simp only [run,ih]
  cases run R b s with
  | none => rfl
  | some p => obtain ⟨e,s'⟩ := p; cases e <;> rfl
 case scope b ih => exact ih s
 case fz ss b ih => exact ih _
 case hole b ih => exact ih _
 case fzs i b ih =>
  show yFv i _ _ = _
  simp only [run]
  cases frz frzN s.H (s.F.getD i .any) with
  | none => rfl
  | some v => exact ih _
 all_goals rfl
def yFP (fn : AFunc) : Option (AExit × St) → Option (AV × Heap)
 | some (.normal,s) | some (.ret,s) => (xA3 fn.results s).map fun v => (v,s.H)
 | _ => none
noncomputable def xXk (R : Rec) (fn : AFunc) (args : List AV) (H : Heap) : Option (AV × Heap) := yFP fn (xXj R fn.code (xMS fn args H))
theorem xQb (R : Rec) (fn : AFunc) (args : List AV) (H : Heap) : xXk R fn args H = xA5 R fn args H := by
 unfold xXk xA5
 rw [xO9]
 cases run R fn.code (xMS fn args H) with
 | none => rfl
 | some p => obtain ⟨e,s'⟩ := p; cases e <;> rfl
def yFQ : Option (AV × Heap) → Option AV
 | some (r,H') => frz frzN H' r
 | none => Option.none
def xH3 : List AV → Nat → List Nat → List AV
 | [],_,_ => []
 | v :: F,_,[] => v :: F
 | v :: F,i,s :: scr => if s = i then .any :: xH3 F (i + 1) scr else v :: xH3 F (i + 1) (s :: scr)
def asc : List Nat → Nat → Bool
 | [],_ => true
 | s :: r,lo => decide (lo ≤ s) && asc r (s + 1)
theorem xYq : ∀ {scr : List Nat} {lo : Nat},asc scr lo = true → ∀ s ∈ scr,lo ≤ s
 | [],_,_,s,h => by cases h
 | s0 :: r,lo,h,s,hs => by
  simp only [asc,Bool.and_eq_true,decide_eq_true_eq] at h
  rcases List.mem_cons.1 hs with rfl | hs
  ·exact h.1
  ·have := xYq h.2 s hs; omega
theorem xZY : ∀ {scr : List Nat} {lo lo' : Nat},asc scr lo = true → (∀ s ∈ scr,lo' ≤ s) → asc scr lo' = true
 | [],_,_,_,_ => rfl
 | s0 :: r,lo,lo',h,hl => by
  simp only [asc,Bool.and_eq_true,decide_eq_true_eq] at h ⊢
  exact ⟨hl s0 (by simp),h.2⟩
theorem xGd : ∀ (F : List AV) (i : Nat) (scr : List Nat),asc scr i = true → ∀ j,(xH3 F i scr)[j]? = if i + j ∈ scr then (F[j]?).map (fun _ => AV.any) else F[j]?
 | [],i,scr,h,j => by simp [xH3]
 | v :: F,i,[],h,j => by simp [xH3]
 | v :: F,i,s :: scr,h,j => by
  have h' := h
  simp only [asc,Bool.and_eq_true,decide_eq_true_eq] at h'
  unfold xH3
  by_cases e : s = i
  ·subst e
   rw [if_pos rfl]
   cases j with
   | zero => simp
   | succ j =>
    rw [List.getElem?_cons_succ,xGd F (s + 1) scr h'.2 j,List.getElem?_cons_succ]
    have : (s + 1 + j ∈ scr) ↔ (s + (j + 1) ∈ s :: scr) := by
     rw [show s + (j + 1) = s + 1 + j by omega,List.mem_cons]
     exact ⟨.inr,fun q => q.elim (fun q => by omega) id⟩
    simp only [this]
  ·rw [if_neg e]
   have hm : ∀ x ∈ s :: scr,i + 1 ≤ x := fun x hx => by
    rcases List.mem_cons.1 hx with rfl | hx
    ·omega
    ·have := xYq h'.2 x hx; omega
   cases j with
   | zero =>
    have : ¬ (i + 0 ∈ s :: scr) := fun q => by have := hm _ q; omega
    rw [if_neg this]; rfl
   | succ j =>
    rw [List.getElem?_cons_succ,xGd F (i + 1) (s :: scr) (xZY h hm) j,List.getElem?_cons_succ]
    simp only [show i + (j + 1) = i + 1 + j by omega]
def xQc (scr : List Nat) (F : List AV) : List AV := if asc scr 0 then xH3 F 0 scr else xAs scr F
theorem xM3 (scr : List Nat) (F : List AV) : xQc scr F = xAs scr F := by
 unfold xQc
 split
 ·rename_i h
  apply List.ext_getElem?
  intro j
  rw [xGd F 0 scr h j,xEB]
  simp only [Nat.zero_add]
 ·rfl
noncomputable def xYr (R : Rec) (scr : List Nat) (b : ACode) : Option (AExit × St) → Option (AExit × St)
 | some (.normal,s') => R.loop scr b s'
 | some (e,s') => some (e,⟨xQc scr s'.F,s'.H⟩)
 | none => none
noncomputable def yB6 (prog : Nat → Option AFunc) (R : Rec) (args : List AV) (H : Heap) : AV → Option (AV × Heap)
 | .func f caps => match prog f with
  | some fn => xXk R fn (args ++ caps) H
  | none => Option.none
 | f => xDg prog R f args H
noncomputable def xZZ (prog : Nat → Option AFunc) (R : Rec) : Rec where
 pcall f args := match prog f with
  | some fn => yFQ (xXk R fn args [])
  | none => primA f args
 icall f args H := yB6 prog R args H f
 loop scr b s := fS (xQc scr s.F) fun F => xYr R scr b (xXj R b ⟨F,s.H⟩)
theorem xXl (prog : Nat → Option AFunc) (R : Rec) : xZZ prog R = xC5 prog R := by
 unfold xZZ xC5
 congr 1
 ·funext f args
  cases prog f with
  | none => rfl
  | some fn =>
   simp only [xAz,xQb]
   cases xA5 R fn args [] <;> rfl
 ·funext f args H
  unfold yB6
  split
  ·rename_i g caps
   simp only [xDg,xQb]
   cases prog g <;> rfl
  ·rfl
 ·funext scr b s
  simp only [xHV,xO9,xXg,xM3]
  cases run R b ⟨xAs scr s.F,s.H⟩ with
  | none => rfl
  | some p => obtain ⟨e,s'⟩ := p; cases e <;> simp only [xYr,xM3]
noncomputable def yB7 (prog : Nat → Option AFunc) (T : xTK) : Nat → Rec
 | 0 => Rec.none
 | n + 1 => xZ0 T (xZZ prog (yB7 prog T n))
theorem xTJ (prog : Nat → Option AFunc) (T : xTK) : ∀ n,yB7 prog T n = yB9 prog T n
 | 0 => rfl
 | n + 1 => by rw [yB7,yB9,xXl,xTJ prog T n]
end Go.Abs
