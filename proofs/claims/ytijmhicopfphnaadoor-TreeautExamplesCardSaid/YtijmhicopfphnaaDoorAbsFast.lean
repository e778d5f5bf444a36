/- The interpreter once more,its alternatives as functions of their own: what the kernel unfolds is small. -/
import Derived.Test.YtijmhicopfphnaaDoorAbsOver
namespace Go.Abs
set_option linter.unusedVariables false
noncomputable def yF2 (F : List AV) : Nat → AV := List.rec (motive := fun _ => Nat → AV) (fun _ => .any) (fun v _ ih n => Nat.casesOn (motive := fun _ => AV) n v ih) F
noncomputable def yGA (x : AV) (F : List AV) : Nat → List AV := List.rec (motive := fun _ => Nat → List AV) (fun _ => []) (fun v F ih n => Nat.casesOn (motive := fun _ => List AV) n (x :: F) (fun m => v :: ih m)) F
theorem xYt : ∀ (F : List AV) (i : Nat),yF2 F i = F.getD i .any
 | [],i => by simp [yF2]
 | v :: F,0 => rfl
 | v :: F,i + 1 => by
  show yF2 F i = _
  rw [xYt F i]; simp
theorem xYu (x : AV) : ∀ (F : List AV) (i : Nat),yGA x F i = F.set i x
 | [],i => rfl
 | v :: F,0 => rfl
 | v :: F,i + 1 => by
  show v :: yGA x F i = _
  rw [xYu x F i]; rfl
noncomputable def xIi (F : List AV) : Arg → AV
 | .t i => yF2 F i
 | .c v => v
theorem xYv : xIi = opv := by
 funext F x
 cases x with
 | t i => exact xYt F i
 | c v => rfl
noncomputable def xLY (F : List AV) (d : Option Nat) (v : AV) : List AV := match d with
 | some d => yGA v F d
 | none => F
theorem xYw : xLY = putA := by
 funext F d v
 cases d with
 | none => rfl
 | some d => exact xYu v F d
noncomputable def xVZ (l : List AV) : Nat → List AV := List.rec (motive := fun _ => Nat → List AV) (fun _ => []) (fun v t ih n => Nat.casesOn (motive := fun _ => List AV) n (v :: t) ih) l
theorem xQm : ∀ (l : List AV) (n : Nat),xVZ l n = l.drop n
 | [],n => by simp [xVZ]
 | v :: t,0 => rfl
 | v :: t,n + 1 => by
  show xVZ t n = _
  rw [xQm t n]; simp
def yFa (v : AV) : Option (List AV) → Option (List AV)
 | some l => some (v :: l)
 | none => none
noncomputable def yDC (l : List AV) : Nat → Option (List AV) := List.rec (motive := fun _ => Nat → Option (List AV)) (fun n => Nat.casesOn (motive := fun _ => Option (List AV)) n (some []) (fun _ => none)) (fun v t ih n => Nat.casesOn (motive := fun _ => Option (List AV)) n (some []) (fun m => yFa v (ih m))) l
theorem xU1 : ∀ (l : List AV) (n : Nat),yDC l n = if n ≤ l.length then some (l.take n) else none
 | [],0 => rfl
 | [],n + 1 => by
  show none = _
  rw [if_neg (by simp)]
 | v :: t,0 => by
  show some [] = _
  rw [if_pos (Nat.zero_le _)]; rfl
 | v :: t,n + 1 => by
  show yFa v (yDC t n) = _
  rw [xU1 t n]
  by_cases c : n ≤ t.length
  ·rw [if_pos c,if_pos (by simpa using c)]; rfl
  ·rw [if_neg c,if_neg (by simpa using c)]; rfl
noncomputable def yDD (l : List AV) : Nat := List.rec (motive := fun _ => Nat) 0 (fun _ _ n => n + 1) l
theorem xOv : ∀ l : List AV,yDD l = l.length
 | [] => rfl
 | v :: t => by
  show yDD t + 1 = _
  rw [xOv t]; rfl
noncomputable def rdC (cs : List AV) (off n : Nat) : Option (List AV) := match n with
 | 0 => if off ≤ yDD cs then some [] else none
 | n + 1 => yDC (xVZ cs off) (n + 1)
theorem yFb (cs : List AV) (off n : Nat) : rdC cs off n = if off + n ≤ cs.length then some ((cs.drop off).take n) else none := by
 cases n with
 | zero => rw [rdC,xOv]; rfl
 | succ n =>
  rw [rdC,xU1,xQm,List.length_drop]
  by_cases c : off + (n + 1) ≤ cs.length
  ·rw [if_pos c,if_pos (by omega)]
  ·rw [if_neg c,if_neg (by omega)]
noncomputable def rdF (H : Heap) (p : AV) (n : Nat) : Option (List AV) := match p with
 | .ptr id off => match H[id]? with
  | some (.cells _ _ cs) => rdC cs off n
  | _ => none
 | .vptr cs off => rdC cs off n
 | _ => none
theorem yFc : rdF = rd := by
 funext H p n
 cases p <;> simp only [rdF,rd,yFb]
 rename_i id off
 rcases H[id]? with _ | b
 ·rfl
 ·cases b <;> rfl
noncomputable def yGB (vs : List AV) (cs : List AV) : Nat → List AV := List.rec (motive := fun _ => Nat → List AV) (fun _ => vs) (fun v t ih n => Nat.casesOn (motive := fun _ => List AV) n (vs ++ xVZ (v :: t) (yDD vs)) (fun m => v :: ih m)) cs
theorem xYx (vs : List AV) : ∀ (cs : List AV) (off : Nat),yGB vs cs off = splice cs off vs
 | [],off => by
  show vs = _
  simp [splice]
 | v :: t,0 => by
  show vs ++ xVZ (v :: t) (yDD vs) = _
  rw [xQm,xOv]; simp [splice]
 | v :: t,n + 1 => by
  show v :: yGB vs t n = _
  rw [xYx vs t n]
  simp only [splice,List.take_succ_cons,List.cons_append,show n + 1 + vs.length = (n + vs.length) + 1 by omega,List.drop_succ_cons]
noncomputable def wrF (H : Heap) (p : AV) (vs : List AV) : Option Heap := match p with
 | .ptr id off => match H[id]? with
  | some (.cells false z cs) => if off + vs.length ≤ yDD cs ∧ vs.all AV.isCell = true then some (H.set id (.cells false z (yGB vs cs off))) else none
  | _ => none
 | _ => none
theorem yFd : wrF = wr := by
 funext H p vs
 cases p <;> simp only [wrF,wr,xYx,xOv]
 rename_i id off
 rcases H[id]? with _ | b
 ·rfl
 ·cases b with
  | cells fz z cs => cases fz <;> rfl
  | _ => rfl
noncomputable def tkA (ys cs : List AV) : Nat → List AV := List.rec (motive := fun _ => Nat → List AV) (fun _ => ys) (fun v _ ih n => Nat.casesOn (motive := fun _ => List AV) n ys (fun m => v :: ih m)) cs
theorem yB5 (ys : List AV) : ∀ (cs : List AV) (n : Nat),tkA ys cs n = cs.take n ++ ys
 | [],n => by
  show ys = _
  simp
 | v :: t,0 => rfl
 | v :: t,n + 1 => by
  show v :: tkA ys t n = _
  rw [yB5 ys t n]; rfl
def yFe (opv : List AV → Arg → AV) (R : Rec) (F : List AV) (H : Heap) (x : Arg) : Option (AV × Heap) := some (opv F x,H)
def yDE (opv : List AV → Arg → AV) (R : Rec) (F : List AV) (H : Heap) (c : Arg) (a : Arg) (b : Arg) : Option (AV × Heap) := match opv F c with
  | .bool t => some (if t then opv F a else opv F b,H)
  | _ => none
def yFf (opv : List AV → Arg → AV) (R : Rec) (F : List AV) (H : Heap) (x : Arg) : Option (AV × Heap) := let cs := (opv F x).cells; if cs.all AV.isCell then some (.ptr H.length 0,H ++ [.cells false false cs]) else none
def yAQ (opv : List AV → Arg → AV) (R : Rec) (F : List AV) (H : Heap) (z : List AV) (parts : List (Nat × Nat × Arg)) : Option (AV × Heap) :=
  (if parts.all (fun p => (opv F p.2.2).cells.length == p.2.1) then
   (fillA z (parts.map fun p => (p.1,(opv F p.2.2).cells))).map fun cs => (.agg cs,H) else none)
def xYy (opv : List AV → Arg → AV) (R : Rec) (F : List AV) (H : Heap) (fz : Bool) (z : List AV) (es : Nat) (n : Nat) (parts : List (Nat × Arg)) : Option (AV × Heap) :=
  (if parts.all (fun p => (opv F p.2).cells.length == es) then
   match fillA (xJf z n) (parts.map fun p => (p.1 * es,(opv F p.2).cells)) with
   | some cs => xLr fz false n es cs H
   | none => none
   else none)
def xYz (opv : List AV → Arg → AV) (R : Rec) (F : List AV) (H : Heap) (z : List AV) (es : Nat) (n : Nat) (parts : List (Nat × Arg)) : Option (AV × Heap) :=
  (if parts.all (fun p => (opv F p.2).cells.length == es) then
   match fillA (xJf z n) (parts.map fun p => (p.1 * es,(opv F p.2).cells)) with
   | some cs => if cs.all xEb = true then some (.sl false n cs,H) else none
   | none => none
   else none)
noncomputable def xYA (opv : List AV → Arg → AV) (R : Rec) (F : List AV) (H : Heap) (g : Bool) (n : Nat) (p : Arg) : Option (AV × Heap) := match rdF H (opv F p) n with
  | some cs => (mkv g cs).map fun v => (v,H)
  | none => none
noncomputable def xU2 (opv : List AV → Arg → AV) (R : Rec) (F : List AV) (H : Heap) (n : Nat) (p : Arg) (v : Arg) : Option (AV × Heap) := let cs := (opv F v).cells; if cs.length = n then (wrF H (opv F p) cs).map fun H' => (.tup [],H') else none
def xYB (opv : List AV → Arg → AV) (R : Rec) (F : List AV) (H : Heap) (x : Arg) : Option (AV × Heap) := match opv F x with
  | .ptr id off => some (.ptr id off,H)
  | .vptr cs off => some (.vptr cs off,H)
  | .func f caps => some (.func f caps,H)
  | .yield l => some (.yield l,H)
  | _ => none
def yFg (opv : List AV → Arg → AV) (R : Rec) (F : List AV) (H : Heap) (op : BinOp) (x : Arg) (y : Arg) : Option (AV × Heap) := (xKt op (opv F x) (opv F y)).map fun v => (v,H)
def yFh (opv : List AV → Arg → AV) (R : Rec) (F : List AV) (H : Heap) (neg : Bool) (x : Arg) (y : Arg) : Option (AV × Heap) := match opv F x,opv F y with
  | .bool a,.bool b => some (.bool (if neg then a != b else a == b),H)
  | _,_ => none
def yAR (opv : List AV → Arg → AV) (R : Rec) (F : List AV) (H : Heap) (neg : Bool) (x : Arg) : Option (AV × Heap) := match opv F x with
  | .sl z _ _ => some (.bool (z != neg),H)
  | .own z _ _ _ _ => some (.bool (z != neg),H)
  | _ => none
def yGC (opv : List AV → Arg → AV) (R : Rec) (F : List AV) (H : Heap) (op : UnOp) (x : Arg) : Option (AV × Heap) := (unA op (opv F x)).map fun v => (v,H)
def yDF (opv : List AV → Arg → AV) (R : Rec) (F : List AV) (H : Heap) (k : IntKind) (x : Arg) : Option (AV × Heap) := match opv F x with
  | .int _ n => some (.int k (k.wrap n),H)
  | _ => none
def xYC (opv : List AV → Arg → AV) (R : Rec) (F : List AV) (H : Heap) (f : Nat) (caps : List Arg) : Option (AV × Heap) := some (.func f (caps.map (opv F)),H)
def xV0 (opv : List AV → Arg → AV) (R : Rec) (F : List AV) (H : Heap) (fz : Bool) (z : List AV) (bytes : Nat) (l : Arg) (c : Arg) : Option (AV × Heap) := match opv F l,opv F c with
  | .int _ l,.int _ c => if 0 ≤ l ∧ l ≤ c ∧ c * bytes ≤ xFr ∧ c ≤ xFr ∧ z.all AV.isCell = true then xLr fz false l.toNat z.length (xJf z l.toNat) H else none
  | _,_ => none
def yAS (opv : List AV → Arg → AV) (R : Rec) (F : List AV) (H : Heap) (es : Nat) (x : Arg) (lo : Option Arg) (hi : Option Arg) (mx : Option Arg) : Option (AV × Heap) := match opv F x with
  | .sl z n cs => if cs.length = n * es then (xGJ n (lo.map (opv F)) (hi.map (opv F)) (mx.map (opv F))).map fun (l,h) => (.sl z (h - l) ((cs.drop (l * es)).take ((h - l) * es)),H) else none
  | .own z id off n es' => if es' = es then (xGJ n (lo.map (opv F)) (hi.map (opv F)) (mx.map (opv F))).map fun (l,h) => (.own z id (off + l * es) (h - l) es,H) else none
  | _ => none
def yAT (opv : List AV → Arg → AV) (R : Rec) (F : List AV) (H : Heap) (o : Nat) (x : Arg) : Option (AV × Heap) := match opv F x with
  | .ptr id off => some (.ptr id (off + o),H)
  | .vptr cs off => some (.vptr cs (off + o),H)
  | _ => none
def yAU (opv : List AV → Arg → AV) (R : Rec) (F : List AV) (H : Heap) (g : Bool) (off : Nat) (n : Nat) (x : Arg) : Option (AV × Heap) := match opv F x with
  | .agg cs => if off + n ≤ cs.length then (mkv g ((cs.drop off).take n)).map fun v => (v,H) else none
  | _ => none
def yAV (opv : List AV → Arg → AV) (R : Rec) (F : List AV) (H : Heap) (es : Nat) (x : Arg) (i : Arg) : Option (AV × Heap) := match opv F x,xGn (opv F i) with
  | .sl _ n cs,some i => if i < n then some (.vptr cs (i * es),H) else none
  | .own _ id off n es',some i => if i < n ∧ es' = es then some (.ptr id (off + i * es),H) else none
  | _,_ => none
def yFi (opv : List AV → Arg → AV) (R : Rec) (F : List AV) (H : Heap) (i : Nat) (x : Arg) : Option (AV × Heap) := match opv F x with
  | .tup vs => (vs[i]?).map fun v => (v,H)
  | _ => none
def yFj (opv : List AV → Arg → AV) (R : Rec) (F : List AV) (H : Heap) (x : Arg) : Option (AV × Heap) := match opv F x with
  | .sl _ n _ => some (.int .i64 n,H)
  | .own _ _ _ n _ => some (.int .i64 n,H)
  | _ => none
def yFk (opv : List AV → Arg → AV) (R : Rec) (F : List AV) (H : Heap) (x : Arg) : Option (AV × Heap) := match opv F x with
  | .sl true _ _ => some (.int .i64 0,H)
  | _ => none
def yFl (opv : List AV → Arg → AV) (R : Rec) (F : List AV) (H : Heap) (neg : Bool) (n : Nat) (x : Arg) (y : Arg) : Option (AV × Heap) := match opv F x,opv F y with
  | .agg cs,.agg ds => if cs.length = n then (xHC cs ds).map fun b => (.bool (b != neg),H) else none
  | _,_ => none
noncomputable def xSJ (opv : List AV → Arg → AV) (R : Rec) (F : List AV) (H : Heap) (fz : Bool) (es : Nat) (bytes : Nat) (x : Arg) (y : Arg) : Option (AV × Heap) := match src H es (opv F y) with
  | none => none
  | some (m,ys) => match opv F x with
   | .sl true _ _ => if m * bytes ≤ xFr ∧ m ≤ xFr then xLr fz (m == 0) m es ys H else none
   | .own z id off n es' => match H[id]? with
    | some (.cells false _ cs) => if off = 0 ∧ es' = es ∧ n * es ≤ yDD cs ∧ (n + m) * bytes ≤ xFr ∧ n + m ≤ xFr then
      some (.own (z && m == 0) H.length 0 (n + m) es,H.set id .dead ++ [.cells false (z && m == 0) (tkA ys cs (n * es))]) else none
    | _ => none
   | _ => none
def xV1 (opv : List AV → Arg → AV) (R : Rec) (F : List AV) (H : Heap) (z : List AV) (bytes : Nat) (x : Arg) (n : Arg) : Option (AV × Heap) := match xGn (opv F n),opv F x with
  | some m,.sl true _ _ => if m * bytes ≤ xFr ∧ m ≤ xFr ∧ z.all AV.isCell = true then xLr false (m == 0) m z.length (xJf z m) H else none
  | some m,.own false id off k es' => match H[id]? with
   | some (.cells false _ cs) => if off = 0 ∧ es' = z.length ∧ k * z.length ≤ cs.length ∧ (k + m) * bytes ≤ xFr ∧ k + m ≤ xFr ∧ 0 < m ∧ z.all AV.isCell = true then
     some (.own false H.length 0 (k + m) z.length,H.set id .dead ++ [.cells false false (cs.take (k * z.length) ++ xJf z m)]) else none
   | _ => none
  | _,_ => none
def xV2 (opv : List AV → Arg → AV) (R : Rec) (F : List AV) (H : Heap) (es : Nat) (bytes : Nat) (x : Arg) (y : Arg) : Option (AV × Heap) := match xZL H with
  | none => none
  | some h => (yGL H es bytes (opv F x) (opv F y)).map fun r => (.own r.1 h 0 r.2.1 es,(yEx r.2.2.2 H).set h (.cells false r.1 r.2.2.1))
def yDG (opv : List AV → Arg → AV) (R : Rec) (F : List AV) (H : Heap) (_u0 : Nat) (_u1 : Arg) (_u2 : Arg) : Option (AV × Heap) := none
def yDH (opv : List AV → Arg → AV) (R : Rec) (F : List AV) (H : Heap) (x : Arg) (y : Arg) : Option (AV × Heap) := match opv F x,opv F y with
  | .int k a,.int _ b => some (.int k (if b > a then b else a),H)
  | _,_ => none
def yDI (opv : List AV → Arg → AV) (R : Rec) (F : List AV) (H : Heap) (x : Arg) (y : Arg) : Option (AV × Heap) := match opv F x,opv F y with
  | .int k a,.int _ b => some (.int k (if b < a then b else a),H)
  | _,_ => none
def yDJ (opv : List AV → Arg → AV) (R : Rec) (F : List AV) (H : Heap) (f : Nat) (args : List Arg) : Option (AV × Heap) := xHG R f (args.map (opv F)) H
def yAW (opv : List AV → Arg → AV) (R : Rec) (F : List AV) (H : Heap) (f : Arg) (args : List Arg) : Option (AV × Heap) := R.icall (opv F f) (args.map (opv F)) H
def yAX (opv : List AV → Arg → AV) (R : Rec) (F : List AV) (H : Heap) (f : Arg) (args : List Arg) : Option (AV × Heap) := match opv F f with
  | .func g caps => xHG R g (args.map (opv F) ++ caps) H
  | _ => none
def yFm (opv : List AV → Arg → AV) (R : Rec) (F : List AV) (H : Heap) (g : Bool) (es : Nat) (len : Nat) (x : Arg) (i : Arg) : Option (AV × Heap) := match opv F x,xGn (opv F i) with
  | .agg cs,some j => if j < len ∧ j * es + es ≤ cs.length then (mkv g ((cs.drop (j * es)).take es)).map fun v => (v,H) else none
  | _,_ => none
def yAY (opv : List AV → Arg → AV) (R : Rec) (F : List AV) (H : Heap) (es : Nat) (len : Nat) (x : Arg) (i : Arg) : Option (AV × Heap) := match opv F x,xGn (opv F i) with
  | .ptr id off,some j => if j < len then some (.ptr id (off + j * es),H) else none
  | .vptr cs off,some j => if j < len then some (.vptr cs (off + j * es),H) else none
  | _,_ => none
def yDK (opv : List AV → Arg → AV) (R : Rec) (F : List AV) (H : Heap) (b : Nat) (es : Nat) (len : Nat) (i : Arg) : Option (AV × Heap) := match xVE b,xGn (opv F i) with
  | some cs,some j => if j < len then some (.vptr cs (j * es),H) else none
  | _,_ => none
def yDL (opv : List AV → Arg → AV) (R : Rec) (F : List AV) (H : Heap) (x : Arg) (i : Arg) : Option (AV × Heap) := match opv F x,xGn (opv F i) with
  | .str s,some j => (s[j]?).map fun b => (.int .u8 b.toNat,H)
  | _,_ => none
def yDM (opv : List AV → Arg → AV) (R : Rec) (F : List AV) (H : Heap) (x : Arg) : Option (AV × Heap) := match opv F x with
  | .str s => some (.int .i64 s.size,H)
  | _ => none
def yGD (opv : List AV → Arg → AV) (R : Rec) (F : List AV) (H : Heap) (mx : Bool) (xs : List Arg) : Option (AV × Heap) := match xs.map (opv F) with
  | [] => none
  | x :: r => (mmA mx x r).map fun v => (v,H)
def xYD (opv : List AV → Arg → AV) (R : Rec) (F : List AV) (H : Heap) (x : Arg) (lo : Option Arg) (hi : Option Arg) : Option (AV × Heap) := match opv F x with
  | .str s => (xGJ s.size (lo.map (opv F)) (hi.map (opv F)) none).map fun (l,h) => (.str (s.extract l h),H)
  | _ => none
def yDN (opv : List AV → Arg → AV) (R : Rec) (F : List AV) (H : Heap) (neg : Bool) (x : Arg) (y : Arg) : Option (AV × Heap) := match opv F x,opv F y with
  | .str s,.str t => some (.bool ((s.toList == t.toList) != neg),H)
  | _,_ => none
def xV3 (opv : List AV → Arg → AV) (R : Rec) (F : List AV) (H : Heap) (f : Nat) (first : List Arg) : Option (AV × Heap) := some (.bfunc f (first.map (opv F)),H)
def yAZ (opv : List AV → Arg → AV) (R : Rec) (F : List AV) (H : Heap) (f : Arg) (args : List Arg) : Option (AV × Heap) := match opv F f with
  | .bfunc g first => R.icall (.func g []) (first ++ args.map (opv F)) H
  | _ => none
def yA0 (opv : List AV → Arg → AV) (R : Rec) (F : List AV) (H : Heap)  : Option (AV × Heap) := some (.mp H.length,H ++ [.mp []])
def yA1 (opv : List AV → Arg → AV) (R : Rec) (F : List AV) (H : Heap) (ks : List Nat) (comma : Bool) (z : AV) (x : Arg) (k : Arg) : Option (AV × Heap) := if xOT ks (opv F k) then match yFI H (opv F x) with
  | none => none
  | some es => match yCG (opv F k) es with
   | none => none
   | some none => some (if comma then .tup [z,.bool false] else z,H)
   | some (some v) => some (if comma then .tup [v,.bool true] else v,H)
  else none
def yDO (opv : List AV → Arg → AV) (R : Rec) (F : List AV) (H : Heap) (ks : List Nat) (z : AV) (m : Arg) (k : Arg) : Option (AV × Heap) := if xOT ks (opv F k) then match opv F m with
  | .mp id => match H[id]? with
   | some (.mp es) => (yCH (opv F k) z es 0).map fun r => (.tup [r.1,.int .i64 (r.2.1 : Nat)],H.set id (.mp r.2.2))
   | _ => none
  | _ => none
  else none
def xYE (opv : List AV → Arg → AV) (R : Rec) (F : List AV) (H : Heap) (m : Arg) (s : Arg) (v : Arg) : Option (AV × Heap) := match opv F m,opv F s with
  | .mp id,.int .i64 n => match H[id]? with
   | some (.mp es) => if 0 ≤ n then (es[n.toNat]?).map fun e => (.tup [],H.set id (.mp (es.set n.toNat (e.1,opv F v)))) else none
   | _ => none
  | _,_ => none
def yDP (opv : List AV → Arg → AV) (R : Rec) (F : List AV) (H : Heap) (ks : List Nat) (m : Arg) (k : Arg) (v : Arg) : Option (AV × Heap) := if xOT ks (opv F k) then match opv F m with
  | .mp id => match H[id]? with
   | some (.mp es) => (yF7 (opv F k) (opv F v) es).map fun es' => (.tup [],H.set id (.mp es'))
   | _ => none
  | _ => none
  else none
def yDQ (opv : List AV → Arg → AV) (R : Rec) (F : List AV) (H : Heap) (x : Arg) : Option (AV × Heap) := (yFI H (opv F x)).map fun es => (.int .i64 es.length,H)
def yDR (opv : List AV → Arg → AV) (R : Rec) (F : List AV) (H : Heap) (neg : Bool) (x : Arg) : Option (AV × Heap) := match opv F x with
  | .nilm => some (.bool (true != neg),H)
  | .mp _ => some (.bool (false != neg),H)
  | _ => none
def yDS (opv : List AV → Arg → AV) (R : Rec) (F : List AV) (H : Heap) (neg : Bool) (x : Arg) : Option (AV × Heap) := match opv F x with
  | .ptr _ _ => some (.bool (false != neg),H)
  | .nilp => some (.bool (true != neg),H)
  | _ => none
def xYF (opv : List AV → Arg → AV) (R : Rec) (F : List AV) (H : Heap) (fz : Bool) (x : Arg) : Option (AV × Heap) := match opv F x with
  | .str s => xLr fz false s.size 1 (xOU s) H
  | _ => none
def yDT (opv : List AV → Arg → AV) (R : Rec) (F : List AV) (H : Heap) (x : Arg) : Option (AV × Heap) := match src H 1 (opv F x) with
  | some (_,cs) => (yCJ cs).map fun bs => (.str ⟨⟨bs⟩⟩,H)
  | none => none
def yDU (opv : List AV → Arg → AV) (R : Rec) (F : List AV) (H : Heap) (x : Arg) (y : Arg) : Option (AV × Heap) := match opv F x,opv F y with
  | .str s,.str t => if s.size + t.size ≤ 9223372036854775807 then some (.str ⟨⟨s.data.toList ++ t.data.toList⟩⟩,H) else none
  | _,_ => none
def yA2 (opv : List AV → Arg → AV) (R : Rec) (F : List AV) (H : Heap) (f : Nat) (args : List Arg) : Option (AV × Heap) := match (args.map (opv F)).mapM (frz frzN H) with
  | none => none
  | some args' => match xCG R f args' with
   | none => none
   | some (v,B) => some (xCY H.length v,fzIds H ((args.map (opv F)).flatMap (bor frzN H)) ++ B)
def xYG (opv : List AV → Arg → AV) (R : Rec) (F : List AV) (H : Heap) (f : Arg) (args : List Arg) : Option (AV × Heap) := match opv F f with
  | .func g caps => match (args.map (opv F) ++ caps).mapM (frz frzN H) with
   | none => none
   | some args' => match xCG R g args' with
    | none => none
    | some (v,B) => some (xCY H.length v,fzIds H ((args.map (opv F) ++ caps).flatMap (bor frzN H)) ++ B)
  | _ => none
def xYH (opv : List AV → Arg → AV) (R : Rec) (F : List AV) (H : Heap) (f : Nat) (args : List Arg) : Option (AV × Heap) := match (args.map (opv F)).mapM (frz frzN H) with
  | none => none
  | some args' => match xJi R f args' with
   | none => none
   | some (v,B) => some (xCY H.length v,fzIds H ((args.map (opv F)).flatMap (bor frzN H)) ++ B.map (xI0 H.length))
noncomputable def xQn (R : Rec) (F : List AV) (H : Heap) : AOp → Option (AV × Heap)
 | .mov x => yFe xIi R F H x
 | .pick c a b => yDE xIi R F H c a b
 | .box x => yFf xIi R F H x
 | .build z parts => yAQ xIi R F H z parts
 | .bslice fz z es n parts => xYy xIi R F H fz z es n parts
 | .dslice z es n parts => xYz xIi R F H z es n parts
 | .load g n p => xYA xIi R F H g n p
 | .store n p v => xU2 xIi R F H n p v
 | .nilchk x => xYB xIi R F H x
 | .bin op x y => yFg xIi R F H op x y
 | .beq neg x y => yFh xIi R F H neg x y
 | .isnil neg x => yAR xIi R F H neg x
 | .un op x => yGC xIi R F H op x
 | .conv k x => yDF xIi R F H k x
 | .mkfunc f caps => xYC xIi R F H f caps
 | .mkslice fz z bytes l c => xV0 xIi R F H fz z bytes l c
 | .slice es x lo hi mx => yAS xIi R F H es x lo hi mx
 | .faddr o x => yAT xIi R F H o x
 | .field g off n x => yAU xIi R F H g off n x
 | .iaddr es x i => yAV xIi R F H es x i
 | .ext i x => yFi xIi R F H i x
 | .len x => yFj xIi R F H x
 | .cap x => yFk xIi R F H x
 | .aeq neg n x y => yFl xIi R F H neg n x y
 | .append fz es bytes x y => xSJ xIi R F H fz es bytes x y
 | .appendz z bytes x n => xV1 xIi R F H z bytes x n
 | .appendh es bytes x y => xV2 xIi R F H es bytes x y
 | .copy _u0 _u1 _u2 => yDG xIi R F H _u0 _u1 _u2
 | .maxi x y => yDH xIi R F H x y
 | .mini x y => yDI xIi R F H x y
 | .call f args => yDJ xIi R F H f args
 | .icall f args => yAW xIi R F H f args
 | .fcall f args => yAX xIi R F H f args
 | .idx g es len x i => yFm xIi R F H g es len x i
 | .arrat es len x i => yAY xIi R F H es len x i
 | .garr b es len i => yDK xIi R F H b es len i
 | .sidx x i => yDL xIi R F H x i
 | .slen x => yDM xIi R F H x
 | .mm mx xs => yGD xIi R F H mx xs
 | .sslice x lo hi => xYD xIi R F H x lo hi
 | .sbeq neg x y => yDN xIi R F H neg x y
 | .mkbound f first => xV3 xIi R F H f first
 | .bcall f args => yAZ xIi R F H f args
 | .mkmap  => yA0 xIi R F H 
 | .mlook ks comma z x k => yA1 xIi R F H ks comma z x k
 | .ment ks z m k => yDO xIi R F H ks z m k
 | .mstore m s v => xYE xIi R F H m s v
 | .mupd ks m k v => yDP xIi R F H ks m k v
 | .mlen x => yDQ xIi R F H x
 | .mnil neg x => yDR xIi R F H neg x
 | .pnil neg x => yDS xIi R F H neg x
 | .sbytes fz x => xYF xIi R F H fz x
 | .bstr x => yDT xIi R F H x
 | .sadd x y => yDU xIi R F H x y
 | .ocall f args => yA2 xIi R F H f args
 | .ofcall f args => xYG xIi R F H f args
 | .ocallw f args => xYH xIi R F H f args
theorem xPJ (R : Rec) (F : List AV) (H : Heap) (op : AOp) : xQn R F H op = xAc R F H op := by
 cases op <;> simp only [xQn,xYv] <;> first | rfl | (simp only [xYA,yFc]; rfl) | (simp only [xU2,yFd]; rfl) | (simp only [xSJ,xOv,yB5]; rfl)
def fN {α : Type} (a : Nat) (k : Nat → α) : α := match a with
 | 0 => k 0
 | n + 1 => k (n + 1)
theorem yFn {α : Type} (a : Nat) (k : Nat → α) : fN a k = k a := by cases a <;> rfl
def fI {α : Type} (x : Int) (k : Int → α) : α := match x with
 | .ofNat a => fN a fun a => k (.ofNat a)
 | .negSucc a => fN a fun a => k (.negSucc a)
theorem yGE {α : Type} (x : Int) (k : Int → α) : fI x k = k x := by cases x <;> simp only [fI,yFn]
def fBo {α : Type} (x : Bool) (k : Bool → α) : α := match x with
 | true => k true
 | false => k false
theorem yFo {α : Type} (x : Bool) (k : Bool → α) : fBo x k = k x := by cases x <;> rfl
def fV {α : Type} (v : AV) (k : AV → α) : α := match v with
 | .int kd n => fI n fun n => k (.int kd n)
 | .bool b => fBo b fun b => k (.bool b)
 | .ptr i o => fN i fun i => fN o fun o => k (.ptr i o)
 | .own z i o n e => fBo z fun z => fN i fun i => fN o fun o => fN n fun n => fN e fun e => k (.own z i o n e)
 | .sl z n cs => fN n fun n => k (.sl z n cs)
 | v => k v
theorem yDV {α : Type} (v : AV) (k : AV → α) : fV v k = k v := by
 cases v <;> simp only [fV,yGE,yFo,yFn]
noncomputable def fS {α : Type} (l : List AV) : (List AV → α) → α := List.rec (motive := fun _ => (List AV → α) → α) (fun k => k []) (fun v _ ih k => ih fun vs => k (v :: vs)) l
theorem yA3 {α : Type} : ∀ (l : List AV) (k : List AV → α),fS l k = k l
 | [],k => rfl
 | v :: vs,k => by
  show fS vs (fun vs => k (v :: vs)) = _
  rw [yA3 vs]
def fL {α : Type} : List AV → (List AV → α) → α
 | [],k => k []
 | v :: vs,k => fV v fun v => fL vs fun vs => k (v :: vs)
theorem yFp {α : Type} : ∀ (l : List AV) (k : List AV → α),fL l k = k l
 | [],k => rfl
 | v :: vs,k => by rw [fL,yDV,yFp vs]
def fB {α : Type} (b : Blk) (k : Blk → α) : α := match b with
 | .cells fz z cs => fL cs fun cs => k (.cells fz z cs)
 | b => k b
theorem yGF {α : Type} (b : Blk) (k : Blk → α) : fB b k = k b := by
 cases b <;> first | rfl | simp only [fB,yFp]
noncomputable def fAt {α : Type} (l : List Blk) : Nat → (List Blk → α) → α := List.rec (motive := fun _ => Nat → (List Blk → α) → α) (fun _ k => k []) (fun b bs ih n k => Nat.casesOn (motive := fun _ => α) n (fB b fun b => k (b :: bs)) (fun m => ih m fun bs => k (b :: bs))) l
theorem yB6 {α : Type} : ∀ (l : List Blk) (n : Nat) (k : List Blk → α),fAt l n k = k l
 | [],n,k => rfl
 | b :: bs,0,k => by
  show fB b (fun b => k (b :: bs)) = _
  rw [yGF]
 | b :: bs,n + 1,k => by
  show fAt bs n (fun bs => k (b :: bs)) = _
  rw [yB6 bs]
noncomputable def yIt (l : List Blk) : Nat := List.rec (motive := fun _ => Nat) 0 (fun _ _ n => n + 1) l
noncomputable def yGG (F : List AV) (H : List Blk) : AOp → Nat
 | .store _ p _ => match xIi F p with
  | .ptr id _ => id
  | _ => 0
 | _ => yIt H
def yFq : AOp → Bool
 | .mov _ | .pick .. | .bin .. | .beq .. | .aeq .. | .un .. | .conv .. | .ext .. | .faddr .. | .field .. | .iaddr .. | .len _ | .cap _ | .isnil .. | .maxi .. | .mini .. | .nilchk _ | .mkfunc .. | .slice .. | .idx .. | .arrat .. | .garr .. | .sidx .. | .slen .. | .mm .. | .sslice .. | .sbeq .. | .mkbound .. | .load .. | .build .. | .mlook .. | .mlen _ | .mnil .. | .pnil .. => true
 | _ => false
noncomputable def yDW (d : Option Nat) (F : List AV) (keep : Bool) (sp : Nat) : Option (AV × Heap) → Option St
 | some (v,H) => fV v fun v => fS (xLY F d v) fun F => if keep then some ⟨F,H⟩ else fAt H sp fun H => some ⟨F,H⟩
 | none => none
theorem yA4 (d : Option Nat) (F : List AV) (keep : Bool) (sp : Nat) (x : Option (AV × Heap)) : yDW d F keep sp x = x.map fun (v,H) => ⟨putA F d v,H⟩ := by
 cases x with
 | none => rfl
 | some p =>
  obtain ⟨v,H⟩ := p
  simp only [yDW,yDV,yA3,yB6,ite_self,xYw]
  rfl
def yFr (o : AOper) (s : St) (r : Option St) : Option Bool → Option St
 | none => none
 | some false => some ⟨putA s.F o.dst (.tup []),s.H⟩
 | some true => r
noncomputable def xMw (R : Rec) (o : AOper) (s : St) : Option St := yFr o s (yDW o.dst s.F (yFq o.op) (yGG s.F s.H o.op) (xQn R s.F s.H o.op)) (xH9 s.F o.guard)
theorem xSK (R : Rec) (o : AOper) (s : St) : xMw R o s = xEc R o s := by
 unfold xMw xEc
 rw [xPJ,yA4]
 split <;> rename_i e <;> rw [e] <;> rfl
noncomputable def yA5 (k : St → Option St) : Option St → Option St
 | some s => k s
 | none => none
noncomputable def xOw (R : Rec) (ops : List AOper) : St → Option St := List.rec (motive := fun _ => St → Option St) (fun s => some s) (fun o _ ih s => yA5 ih (xMw R o s)) ops
theorem xMV (R : Rec) : ∀ (ops : List AOper) (s : St),xOw R ops s = xBJ R ops s
 | [],s => rfl
 | o :: rest,s => by
  show yA5 (xOw R rest) (xMw R o s) = _
  simp only [xBJ,xSK]
  cases xEc R o s with
  | none => rfl
  | some s' => exact xMV R rest s'
def yDX : AOp → Bool
 | .call .. | .fcall .. | .append .. | .box .. | .bslice .. | .mkslice .. | .appendz .. | .appendh .. | .copy .. | .icall .. | .bcall .. | .store .. | .ocall .. | .ocallw .. | .ofcall .. | .mkmap | .mupd .. | .ment .. | .mstore .. | .sbytes .. => true
 | _ => false
noncomputable def xTI (R : Rec) (F : List AV) (H : Heap) (op : AOp) : Option AV := if yDX op then xAO R F H op else (xQn R F H op).map (·.1)
theorem xV4 (R : Rec) (F : List AV) (H : Heap) (op : AOp) : xTI R F H op = xAO R F H op := by
 unfold xTI
 rw [xPJ]
 cases op <;> rfl
noncomputable def frF (d : Option Nat) (s : St) : Option AV → Option St
 | some v => fV v fun v => fS (xLY s.F d v) fun F => some ⟨F,s.H⟩
 | none => none
theorem yFs (d : Option Nat) (s : St) (x : Option AV) : frF d s x = x.map fun v => ⟨putA s.F d v,s.H⟩ := by
 cases x with
 | none => rfl
 | some v => simp only [frF,yDV,yA3,xYw]; rfl
noncomputable def xMx (R : Rec) (o : AOper) (s : St) : Option St := yFr o s (frF o.dst s (xTI R s.F s.H o.op)) (xH9 s.F o.guard)
theorem xSL (R : Rec) (o : AOper) (s : St) : xMx R o s = xCW R o s := by
 unfold xMx xCW
 rw [xV4,yFs]
 split <;> rename_i e <;> rw [e] <;> rfl
noncomputable def xQo (R : Rec) (ops : List AOper) : St → Option St := List.rec (motive := fun _ => St → Option St) (fun s => some s) (fun o _ ih s => yA5 ih (xMx R o s)) ops
theorem xOx (R : Rec) : ∀ (ops : List AOper) (s : St),xQo R ops s = xGh R ops s
 | [],s => rfl
 | o :: rest,s => by
  show yA5 (xQo R rest) (xMx R o s) = _
  simp only [xGh,xSL]
  cases xCW R o s with
  | none => rfl
  | some s' => exact xOx R rest s'
noncomputable def yHt (k : St → Option (AExit × St)) : Option (AExit × St) → Option (AExit × St)
 | some (.normal,s') => k s'
 | r => r
noncomputable def yFt (x y : Option (AExit × St)) : AV → Option (AExit × St)
 | .bool t => if t then x else y
 | _ => none
def yB7 (id : Nat) : Option (AExit × St) → Option (AExit × St)
 | some (.exit i,s') => if i = id then some (.normal,s') else some (.exit i,s')
 | r => r
def yF3 : Option St → Option (AExit × St)
 | some s => some (.normal,s)
 | none => none
noncomputable def yDY (R : Rec) (m : Nat) (ops : List AOper) (s : St) : Option (AExit × St) := match xQo R (ops.take m) s with
 | none => none
 | some s1 => yF3 (xOw R (ops.drop m) (adopt (ops.take m) s1))
def yHu (i : Nat) (k : AV → Option (AExit × St)) : Option AV → Option (AExit × St)
 | some v => k v
 | none => none
noncomputable def yB8 (R : Rec) (c : ACode) : St → Option (AExit × St) :=
 ACode.rec (motive := fun _ => St → Option (AExit × St))
  (fun s => some (.normal,s)) (fun ops s => yF3 (xOw R ops s)) (fun m ops s => yDY R m ops s) (fun ls m ops s => run R (.drawl ls m ops) s)
  (fun als ls m ops s => run R (.drawp als ls m ops) s) (fun hs als ls m ops s => run R (.drawh hs als ls m ops) s) (fun σ als ls m ops s => run R (.drawt σ als ls m ops) s) (fun _ ih s => ih ⟨s.F,s.H ++ [.cells true true []]⟩)
  (fun ss _ ih s => ih ⟨s.F,fzIds s.H (ss.flatMap fun i => bor frzN s.H (s.F.getD i .any))⟩) (fun i _ ih s => yHu i (fun v => ih ⟨s.F.set i v,fzIds s.H (yEi s.H (s.F.getD i .any))⟩) (yBu s.H (s.F.getD i .any))) (fun _ _ iha ihb s => yHt ihb (iha s)) (fun c _ _ iha ihb s => yFt (iha s) (ihb s) (xIi s.F c))
  (fun id _ ih s => yB7 id (ih s)) (fun scr b _ s => R.loop scr b s) (fun f ps asg body _ _ s => run R (.range f ps asg body) s) (fun id s => some (.exit id,s)) (fun _ ih s => ih s)
  (fun s => some (.normal,s)) (fun s => some (.ret,s)) (fun _ => none) c
theorem xYI (x : Option St) : yF3 x = x.map fun s' => (.normal,s') := by cases x <;> rfl
theorem xYJ (R : Rec) (c : ACode) : ∀ s,yB8 R c s = run R c s := by
 induction c <;> intro s
 case region ops => show yF3 (xOw R ops s) = _; simp only [run,xMV,xYI]
 case draw m ops =>
  show yDY R m ops s = _
  simp only [run,yDY,xOx,xMV,xYI]
  cases xGh R (ops.take m) s <;> rfl
 case seq a b iha ihb =>
  show yHt (yB8 R b) (yB8 R a s) = _
  simp only [run,iha]
  cases run R a s with
  | none => rfl
  | some p =>
   obtain ⟨e,s'⟩ := p
   cases e with
   | normal => exact ihb s'
   | exit i => rfl
   | ret => rfl
 case cond c a b iha ihb =>
  show yFt (yB8 R a s) (yB8 R b s) (xIi s.F c) = _
  simp only [run,iha,ihb,xYv]
  cases opv s.F c <;> rfl
 case block id b ih =>
  show yB7 id (yB8 R b s) = _
  simp only [run,ih]
  cases run R b s with
  | none => rfl
  | some p => obtain ⟨e,s'⟩ := p; cases e <;> rfl
 case scope b ih => exact ih s
 case fz ss b ih => exact ih _
 case hole b ih => exact ih _
 case fzs i b ih =>
  show yHu i _ _ = _
  simp only [run]
  cases yBu s.H (s.F.getD i .any) with
  | none => rfl
  | some v => exact ih _
 all_goals rfl
def yIu (fn : AFunc) : Option (AExit × St) → Option (AV × Heap)
 | some (.normal,s) | some (.ret,s) => (xHX fn.results s).map fun v => (v,s.H)
 | _ => none
noncomputable def yA6 (R : Rec) (fn : AFunc) (args : List AV) (H : Heap) : Option (AV × Heap) := yIu fn (yB8 R fn.code (xQZ fn args H))
theorem xU3 (R : Rec) (fn : AFunc) (args : List AV) (H : Heap) : yA6 R fn args H = xGp R fn args H := by
 unfold yA6 xGp
 rw [xYJ]
 cases run R fn.code (xQZ fn args H) with
 | none => rfl
 | some p => obtain ⟨e,s'⟩ := p; cases e <;> rfl
def yGH : Option (AV × Heap) → Option AV
 | some (r,H') => frz frzN H' r
 | none => Option.none
def xOy : List AV → Nat → List Nat → List AV
 | [],_,_ => []
 | v :: F,_,[] => v :: F
 | v :: F,i,s :: scr => if s = i then .any :: xOy F (i + 1) scr else v :: xOy F (i + 1) (s :: scr)
def asc : List Nat → Nat → Bool
 | [],_ => true
 | s :: r,lo => decide (lo ≤ s) && asc r (s + 1)
theorem yB9 : ∀ {scr : List Nat} {lo : Nat},asc scr lo = true → ∀ s ∈ scr,lo ≤ s
 | [],_,_,s,h => by cases h
 | s0 :: r,lo,h,s,hs => by
  simp only [asc,Bool.and_eq_true,decide_eq_true_eq] at h
  rcases List.mem_cons.1 hs with rfl | hs
  ·exact h.1
  ·have := yB9 h.2 s hs; omega
theorem yDZ : ∀ {scr : List Nat} {lo lo' : Nat},asc scr lo = true → (∀ s ∈ scr,lo' ≤ s) → asc scr lo' = true
 | [],_,_,_,_ => rfl
 | s0 :: r,lo,lo',h,hl => by
  simp only [asc,Bool.and_eq_true,decide_eq_true_eq] at h ⊢
  exact ⟨hl s0 (by simp),h.2⟩
theorem xMW : ∀ (F : List AV) (i : Nat) (scr : List Nat),asc scr i = true → ∀ j,(xOy F i scr)[j]? = if i + j ∈ scr then (F[j]?).map (fun _ => AV.any) else F[j]?
 | [],i,scr,h,j => by simp [xOy]
 | v :: F,i,[],h,j => by simp [xOy]
 | v :: F,i,s :: scr,h,j => by
  have h' := h
  simp only [asc,Bool.and_eq_true,decide_eq_true_eq] at h'
  unfold xOy
  by_cases e : s = i
  ·subst e
   rw [if_pos rfl]
   cases j with
   | zero => simp
   | succ j =>
    rw [List.getElem?_cons_succ,xMW F (s + 1) scr h'.2 j,List.getElem?_cons_succ]
    have : (s + 1 + j ∈ scr) ↔ (s + (j + 1) ∈ s :: scr) := by
     rw [show s + (j + 1) = s + 1 + j by omega,List.mem_cons]
     exact ⟨.inr,fun q => q.elim (fun q => by omega) id⟩
    simp only [this]
  ·rw [if_neg e]
   have hm : ∀ x ∈ s :: scr,i + 1 ≤ x := fun x hx => by
    rcases List.mem_cons.1 hx with rfl | hx
    ·omega
    ·have := yB9 h'.2 x hx; omega
   cases j with
   | zero =>
    have : ¬ (i + 0 ∈ s :: scr) := fun q => by have := hm _ q; omega
    rw [if_neg this]; rfl
   | succ j =>
    rw [List.getElem?_cons_succ,xMW F (i + 1) (s :: scr) (yDZ h hm) j,List.getElem?_cons_succ]
    simp only [show i + (j + 1) = i + 1 + j by omega]
def xU4 (scr : List Nat) (F : List AV) : List AV := if asc scr 0 then xOy F 0 scr else xAH scr F
theorem xSM (scr : List Nat) (F : List AV) : xU4 scr F = xAH scr F := by
 unfold xU4
 split
 ·rename_i h
  apply List.ext_getElem?
  intro j
  rw [xMW F 0 scr h j,xLt]
  simp only [Nat.zero_add]
 ·rfl
noncomputable def yCa (R : Rec) (scr : List Nat) (b : ACode) : Option (AExit × St) → Option (AExit × St)
 | some (.normal,s') => R.loop scr b s'
 | some (e,s') => some (e,⟨xU4 scr s'.F,s'.H⟩)
 | none => none
noncomputable def yFu (prog : Nat → Option AFunc) (R : Rec) (args : List AV) (H : Heap) : AV → Option (AV × Heap)
 | .func f caps => match prog f with
  | some fn => yA6 R fn (args ++ caps) H
  | none => Option.none
 | f => xKd prog R f args H
noncomputable def yD0 (prog : Nat → Option AFunc) (R : Rec) : Rec where
 pcall f args := match prog f with
  | some fn => yGH (yA6 R fn args [])
  | none => primA f args
 icall f args H := yFu prog R args H f
 loop scr b s := fS (xU4 scr s.F) fun F => yCa R scr b (yB8 R b ⟨F,s.H⟩)
theorem yA7 (prog : Nat → Option AFunc) (R : Rec) : yD0 prog R = xJE prog R := by
 unfold yD0 xJE
 congr 1
 ·funext f args
  cases prog f with
  | none => rfl
  | some fn =>
   simp only [xBK,xU3]
   cases xGp R fn args [] <;> rfl
 ·funext f args H
  unfold yFu
  split
  ·rename_i g caps
   simp only [xKd,xU3]
   cases prog g <;> rfl
  ·rfl
 ·funext scr b s
  simp only [xNU,xYJ,yA3,xSM]
  cases run R b ⟨xAH scr s.F,s.H⟩ with
  | none => rfl
  | some p => obtain ⟨e,s'⟩ := p; cases e <;> simp only [yCa,xSM]
noncomputable def yF4 (prog : Nat → Option AFunc) (T : Known) : Nat → Rec
 | 0 => Rec.none
 | n + 1 => yD1 T (yD0 prog (yF4 prog T n))
theorem xYK (prog : Nat → Option AFunc) (T : Known) : ∀ n,yF4 prog T n = yD2 prog T n
 | 0 => rfl
 | n + 1 => by rw [yF4,yD2,yA7,xYK prog T n]
noncomputable def xYL (prog : Nat → Option AFunc) (T : Known) (n f : Nat) (args : List AV) (v : AV) : Bool := match (yF4 prog T n).pcall f args with
 | some u => xOz 8 u v
 | none => false
theorem xEZ {prog : Nat → Option AFunc} {T : Known} (hT : ∀ e ∈ T,(lim prog).pcall e.1 e.2.1 = some e.2.2) {n f : Nat} {args : List AV} {v : AV} (h : xYL prog T n f args v = true) : (lim prog).pcall f args = some v :=
 xYM hT (n := n) (by unfold xYL at h; rw [xYK] at h; exact h)
end Go.Abs
