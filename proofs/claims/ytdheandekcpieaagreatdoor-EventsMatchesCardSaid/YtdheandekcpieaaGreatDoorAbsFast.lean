/- The interpreter once more,its alternatives as functions of their own: what the kernel unfolds is small. -/
import Derived.Test.YtdheandekcpieaaGreatDoorAbsOver
namespace Go.Abs
set_option linter.unusedVariables false
noncomputable def yC8 (F : List AV) : Nat → AV := List.rec (motive := fun _ => Nat → AV) (fun _ => .any) (fun v _ ih n => Nat.casesOn (motive := fun _ => AV) n v ih) F
noncomputable def yDt (x : AV) (F : List AV) : Nat → List AV := List.rec (motive := fun _ => Nat → List AV) (fun _ => []) (fun v F ih n => Nat.casesOn (motive := fun _ => List AV) n (x :: F) (fun m => v :: ih m)) F
theorem xR9 : ∀ (F : List AV) (i : Nat),yC8 F i = F.getD i .any
 | [],i => by simp [yC8]
 | v :: F,0 => rfl
 | v :: F,i + 1 => by
  show yC8 F i = _
  rw [xR9 F i]; simp
theorem xSa (x : AV) : ∀ (F : List AV) (i : Nat),yDt x F i = F.set i x
 | [],i => rfl
 | v :: F,0 => rfl
 | v :: F,i + 1 => by
  show v :: yDt x F i = _
  rw [xSa x F i]; rfl
noncomputable def xBN (F : List AV) : Arg → AV
 | .t i => yC8 F i
 | .c v => v
theorem xSb : xBN = opv := by
 funext F x
 cases x with
 | t i => exact xR9 F i
 | c v => rfl
noncomputable def yDu (F : List AV) (d : Option Nat) (v : AV) : List AV := match d with
 | some d => yDt v F d
 | none => F
theorem xSc : yDu = putA := by
 funext F d v
 cases d with
 | none => rfl
 | some d => exact xSa v F d
noncomputable def xQR (l : List AV) : Nat → List AV := List.rec (motive := fun _ => Nat → List AV) (fun _ => []) (fun v t ih n => Nat.casesOn (motive := fun _ => List AV) n (v :: t) ih) l
theorem xKy : ∀ (l : List AV) (n : Nat),xQR l n = l.drop n
 | [],n => by simp [xQR]
 | v :: t,0 => rfl
 | v :: t,n + 1 => by
  show xQR t n = _
  rw [xKy t n]; simp
def yA3 (v : AV) : Option (List AV) → Option (List AV)
 | some l => some (v :: l)
 | none => none
noncomputable def xYJ (l : List AV) : Nat → Option (List AV) := List.rec (motive := fun _ => Nat → Option (List AV)) (fun n => Nat.casesOn (motive := fun _ => Option (List AV)) n (some []) (fun _ => none)) (fun v t ih n => Nat.casesOn (motive := fun _ => Option (List AV)) n (some []) (fun m => yA3 v (ih m))) l
theorem xOX : ∀ (l : List AV) (n : Nat),xYJ l n = if n ≤ l.length then some (l.take n) else none
 | [],0 => rfl
 | [],n + 1 => by
  show none = _
  rw [if_neg (by simp)]
 | v :: t,0 => by
  show some [] = _
  rw [if_pos (Nat.zero_le _)]; rfl
 | v :: t,n + 1 => by
  show yA3 v (xYJ t n) = _
  rw [xOX t n]
  by_cases c : n ≤ t.length
  ·rw [if_pos c,if_pos (by simpa using c)]; rfl
  ·rw [if_neg c,if_neg (by simpa using c)]; rfl
noncomputable def xYK (l : List AV) : Nat := List.rec (motive := fun _ => Nat) 0 (fun _ _ n => n + 1) l
theorem xHd : ∀ l : List AV,xYK l = l.length
 | [] => rfl
 | v :: t => by
  show xYK t + 1 = _
  rw [xHd t]; rfl
noncomputable def rdC (cs : List AV) (off n : Nat) : Option (List AV) := match n with
 | 0 => if off ≤ xYK cs then some [] else none
 | n + 1 => xYJ (xQR cs off) (n + 1)
theorem yA4 (cs : List AV) (off n : Nat) : rdC cs off n = if off + n ≤ cs.length then some ((cs.drop off).take n) else none := by
 cases n with
 | zero => rw [rdC,xHd]; rfl
 | succ n =>
  rw [rdC,xOX,xKy,List.length_drop]
  by_cases c : off + (n + 1) ≤ cs.length
  ·rw [if_pos c,if_pos (by omega)]
  ·rw [if_neg c,if_neg (by omega)]
noncomputable def rdF (H : Heap) (p : AV) (n : Nat) : Option (List AV) := match p with
 | .ptr id off => match H[id]? with
  | some (.cells _ _ cs) => rdC cs off n
  | _ => none
 | .vptr cs off => rdC cs off n
 | _ => none
theorem yA5 : rdF = rd := by
 funext H p n
 cases p <;> simp only [rdF,rd,yA4]
 rename_i id off
 rcases H[id]? with _ | b
 ·rfl
 ·cases b <;> rfl
noncomputable def yDv (vs : List AV) (cs : List AV) : Nat → List AV := List.rec (motive := fun _ => Nat → List AV) (fun _ => vs) (fun v t ih n => Nat.casesOn (motive := fun _ => List AV) n (vs ++ xQR (v :: t) (xYK vs)) (fun m => v :: ih m)) cs
theorem xSd (vs : List AV) : ∀ (cs : List AV) (off : Nat),yDv vs cs off = splice cs off vs
 | [],off => by
  show vs = _
  simp [splice]
 | v :: t,0 => by
  show vs ++ xQR (v :: t) (xYK vs) = _
  rw [xKy,xHd]; simp [splice]
 | v :: t,n + 1 => by
  show v :: yDv vs t n = _
  rw [xSd vs t n]
  simp only [splice,List.take_succ_cons,List.cons_append,show n + 1 + vs.length = (n + vs.length) + 1 by omega,List.drop_succ_cons]
noncomputable def wrF (H : Heap) (p : AV) (vs : List AV) : Option Heap := match p with
 | .ptr id off => match H[id]? with
  | some (.cells false z cs) => if off + vs.length ≤ xYK cs ∧ vs.all AV.isCell = true then some (H.set id (.cells false z (yDv vs cs off))) else none
  | _ => none
 | _ => none
theorem yA6 : wrF = wr := by
 funext H p vs
 cases p <;> simp only [wrF,wr,xSd,xHd]
 rename_i id off
 rcases H[id]? with _ | b
 ·rfl
 ·cases b with
  | cells fz z cs => cases fz <;> rfl
  | _ => rfl
noncomputable def tkA (ys cs : List AV) : Nat → List AV := List.rec (motive := fun _ => Nat → List AV) (fun _ => ys) (fun v _ ih n => Nat.casesOn (motive := fun _ => List AV) n ys (fun m => v :: ih m)) cs
theorem xXo (ys : List AV) : ∀ (cs : List AV) (n : Nat),tkA ys cs n = cs.take n ++ ys
 | [],n => by
  show ys = _
  simp
 | v :: t,0 => rfl
 | v :: t,n + 1 => by
  show v :: tkA ys t n = _
  rw [xXo ys t n]; rfl
def yA7 (opv : List AV → Arg → AV) (R : Rec) (F : List AV) (H : Heap) (x : Arg) : Option (AV × Heap) := some (opv F x,H)
def xYL (opv : List AV → Arg → AV) (R : Rec) (F : List AV) (H : Heap) (c : Arg) (a : Arg) (b : Arg) : Option (AV × Heap) := match opv F c with
  | .bool t => some (if t then opv F a else opv F b,H)
  | _ => none
def yA8 (opv : List AV → Arg → AV) (R : Rec) (F : List AV) (H : Heap) (x : Arg) : Option (AV × Heap) := let cs := (opv F x).cells; if cs.all AV.isCell then some (.ptr H.length 0,H ++ [.cells false false cs]) else none
def xV1 (opv : List AV → Arg → AV) (R : Rec) (F : List AV) (H : Heap) (z : List AV) (parts : List (Nat × Nat × Arg)) : Option (AV × Heap) :=
  (if parts.all (fun p => (opv F p.2.2).cells.length == p.2.1) then
   (fillA z (parts.map fun p => (p.1,(opv F p.2.2).cells))).map fun cs => (.agg cs,H) else none)
def xSe (opv : List AV → Arg → AV) (R : Rec) (F : List AV) (H : Heap) (fz : Bool) (z : List AV) (es : Nat) (n : Nat) (parts : List (Nat × Arg)) : Option (AV × Heap) :=
  (if parts.all (fun p => (opv F p.2).cells.length == es) then
   match fillA (xCu z n) (parts.map fun p => (p.1 * es,(opv F p.2).cells)) with
   | some cs => xEc fz false n es cs H
   | none => none
   else none)
def xSf (opv : List AV → Arg → AV) (R : Rec) (F : List AV) (H : Heap) (z : List AV) (es : Nat) (n : Nat) (parts : List (Nat × Arg)) : Option (AV × Heap) :=
  (if parts.all (fun p => (opv F p.2).cells.length == es) then
   match fillA (xCu z n) (parts.map fun p => (p.1 * es,(opv F p.2).cells)) with
   | some cs => if cs.all xCk = true then some (.sl false n cs,H) else none
   | none => none
   else none)
noncomputable def xSg (opv : List AV → Arg → AV) (R : Rec) (F : List AV) (H : Heap) (g : Bool) (n : Nat) (p : Arg) : Option (AV × Heap) := match rdF H (opv F p) n with
  | some cs => (mkv g cs).map fun v => (v,H)
  | none => none
noncomputable def xOY (opv : List AV → Arg → AV) (R : Rec) (F : List AV) (H : Heap) (n : Nat) (p : Arg) (v : Arg) : Option (AV × Heap) := let cs := (opv F v).cells; if cs.length = n then (wrF H (opv F p) cs).map fun H' => (.tup [],H') else none
def xSh (opv : List AV → Arg → AV) (R : Rec) (F : List AV) (H : Heap) (x : Arg) : Option (AV × Heap) := match opv F x with
  | .ptr id off => some (.ptr id off,H)
  | .vptr cs off => some (.vptr cs off,H)
  | .func f caps => some (.func f caps,H)
  | .yield l => some (.yield l,H)
  | _ => none
def yA9 (opv : List AV → Arg → AV) (R : Rec) (F : List AV) (H : Heap) (op : BinOp) (x : Arg) (y : Arg) : Option (AV × Heap) := (xDK op (opv F x) (opv F y)).map fun v => (v,H)
def yBa (opv : List AV → Arg → AV) (R : Rec) (F : List AV) (H : Heap) (neg : Bool) (x : Arg) (y : Arg) : Option (AV × Heap) := match opv F x,opv F y with
  | .bool a,.bool b => some (.bool (if neg then a != b else a == b),H)
  | _,_ => none
def xV2 (opv : List AV → Arg → AV) (R : Rec) (F : List AV) (H : Heap) (neg : Bool) (x : Arg) : Option (AV × Heap) := match opv F x with
  | .sl z _ _ => some (.bool (z != neg),H)
  | .own z _ _ _ _ => some (.bool (z != neg),H)
  | _ => none
def yDw (opv : List AV → Arg → AV) (R : Rec) (F : List AV) (H : Heap) (op : UnOp) (x : Arg) : Option (AV × Heap) := (unA op (opv F x)).map fun v => (v,H)
def xYM (opv : List AV → Arg → AV) (R : Rec) (F : List AV) (H : Heap) (k : IntKind) (x : Arg) : Option (AV × Heap) := match opv F x with
  | .int _ n => some (.int k (k.wrap n),H)
  | _ => none
def xSi (opv : List AV → Arg → AV) (R : Rec) (F : List AV) (H : Heap) (f : Nat) (caps : List Arg) : Option (AV × Heap) := some (.func f (caps.map (opv F)),H)
def xQS (opv : List AV → Arg → AV) (R : Rec) (F : List AV) (H : Heap) (fz : Bool) (z : List AV) (bytes : Nat) (l : Arg) (c : Arg) : Option (AV × Heap) := match opv F l,opv F c with
  | .int _ l,.int _ c => if 0 ≤ l ∧ l ≤ c ∧ c * bytes ≤ xA0 ∧ c ≤ xA0 ∧ z.all AV.isCell = true then xEc fz false l.toNat z.length (xCu z l.toNat) H else none
  | _,_ => none
def xV3 (opv : List AV → Arg → AV) (R : Rec) (F : List AV) (H : Heap) (es : Nat) (x : Arg) (lo : Option Arg) (hi : Option Arg) (mx : Option Arg) : Option (AV × Heap) := match opv F x with
  | .sl z n cs => if cs.length = n * es then (xBh n (lo.map (opv F)) (hi.map (opv F)) (mx.map (opv F))).map fun (l,h) => (.sl z (h - l) ((cs.drop (l * es)).take ((h - l) * es)),H) else none
  | .own z id off n es' => if es' = es then (xBh n (lo.map (opv F)) (hi.map (opv F)) (mx.map (opv F))).map fun (l,h) => (.own z id (off + l * es) (h - l) es,H) else none
  | _ => none
def xV4 (opv : List AV → Arg → AV) (R : Rec) (F : List AV) (H : Heap) (o : Nat) (x : Arg) : Option (AV × Heap) := match opv F x with
  | .ptr id off => some (.ptr id (off + o),H)
  | .vptr cs off => some (.vptr cs (off + o),H)
  | _ => none
def xV5 (opv : List AV → Arg → AV) (R : Rec) (F : List AV) (H : Heap) (g : Bool) (off : Nat) (n : Nat) (x : Arg) : Option (AV × Heap) := match opv F x with
  | .agg cs => if off + n ≤ cs.length then (mkv g ((cs.drop off).take n)).map fun v => (v,H) else none
  | _ => none
def xV6 (opv : List AV → Arg → AV) (R : Rec) (F : List AV) (H : Heap) (es : Nat) (x : Arg) (i : Arg) : Option (AV × Heap) := match opv F x,xBn (opv F i) with
  | .sl _ n cs,some i => if i < n then some (.vptr cs (i * es),H) else none
  | .own _ id off n es',some i => if i < n ∧ es' = es then some (.ptr id (off + i * es),H) else none
  | _,_ => none
def yBb (opv : List AV → Arg → AV) (R : Rec) (F : List AV) (H : Heap) (i : Nat) (x : Arg) : Option (AV × Heap) := match opv F x with
  | .tup vs => (vs[i]?).map fun v => (v,H)
  | _ => none
def yBc (opv : List AV → Arg → AV) (R : Rec) (F : List AV) (H : Heap) (x : Arg) : Option (AV × Heap) := match opv F x with
  | .sl _ n _ => some (.int .i64 n,H)
  | .own _ _ _ n _ => some (.int .i64 n,H)
  | _ => none
def yBd (opv : List AV → Arg → AV) (R : Rec) (F : List AV) (H : Heap) (x : Arg) : Option (AV × Heap) := match opv F x with
  | .sl true _ _ => some (.int .i64 0,H)
  | _ => none
def yBe (opv : List AV → Arg → AV) (R : Rec) (F : List AV) (H : Heap) (neg : Bool) (n : Nat) (x : Arg) (y : Arg) : Option (AV × Heap) := match opv F x,opv F y with
  | .agg cs,.agg ds => if cs.length = n then (xNS cs ds).map fun b => (.bool (b != neg),H) else none
  | _,_ => none
noncomputable def xLT (opv : List AV → Arg → AV) (R : Rec) (F : List AV) (H : Heap) (fz : Bool) (es : Nat) (bytes : Nat) (x : Arg) (y : Arg) : Option (AV × Heap) := match src H es (opv F y) with
  | none => none
  | some (m,ys) => match opv F x with
   | .sl true _ _ => if m * bytes ≤ xA0 ∧ m ≤ xA0 then xEc fz (m == 0) m es ys H else none
   | .own z id off n es' => match H[id]? with
    | some (.cells false _ cs) => if off = 0 ∧ es' = es ∧ n * es ≤ xYK cs ∧ (n + m) * bytes ≤ xA0 ∧ n + m ≤ xA0 then
      some (.own (z && m == 0) H.length 0 (n + m) es,H.set id .dead ++ [.cells false (z && m == 0) (tkA ys cs (n * es))]) else none
    | _ => none
   | _ => none
def xQT (opv : List AV → Arg → AV) (R : Rec) (F : List AV) (H : Heap) (z : List AV) (bytes : Nat) (x : Arg) (n : Arg) : Option (AV × Heap) := match xBn (opv F n),opv F x with
  | some m,.sl true _ _ => if m * bytes ≤ xA0 ∧ m ≤ xA0 ∧ z.all AV.isCell = true then xEc false (m == 0) m z.length (xCu z m) H else none
  | some m,.own false id off k es' => match H[id]? with
   | some (.cells false _ cs) => if off = 0 ∧ es' = z.length ∧ k * z.length ≤ cs.length ∧ (k + m) * bytes ≤ xA0 ∧ k + m ≤ xA0 ∧ 0 < m ∧ z.all AV.isCell = true then
     some (.own false H.length 0 (k + m) z.length,H.set id .dead ++ [.cells false false (cs.take (k * z.length) ++ xCu z m)]) else none
   | _ => none
  | _,_ => none
def xQU (opv : List AV → Arg → AV) (R : Rec) (F : List AV) (H : Heap) (es : Nat) (bytes : Nat) (x : Arg) (y : Arg) : Option (AV × Heap) := match xVV H with
  | none => none
  | some h => (appB H es bytes (opv F x) (opv F y)).map fun r => (.own r.1 h 0 r.2.1 es,(yAY r.2.2.2 H).set h (.cells false r.1 r.2.2.1))
def xYN (opv : List AV → Arg → AV) (R : Rec) (F : List AV) (H : Heap) (_u0 : Nat) (_u1 : Arg) (_u2 : Arg) : Option (AV × Heap) := none
def xYO (opv : List AV → Arg → AV) (R : Rec) (F : List AV) (H : Heap) (x : Arg) (y : Arg) : Option (AV × Heap) := match opv F x,opv F y with
  | .int k a,.int _ b => some (.int k (if b > a then b else a),H)
  | _,_ => none
def xYP (opv : List AV → Arg → AV) (R : Rec) (F : List AV) (H : Heap) (x : Arg) (y : Arg) : Option (AV × Heap) := match opv F x,opv F y with
  | .int k a,.int _ b => some (.int k (if b < a then b else a),H)
  | _,_ => none
def xYQ (opv : List AV → Arg → AV) (R : Rec) (F : List AV) (H : Heap) (f : Nat) (args : List Arg) : Option (AV × Heap) := xBD R f (args.map (opv F)) H
def xV7 (opv : List AV → Arg → AV) (R : Rec) (F : List AV) (H : Heap) (f : Arg) (args : List Arg) : Option (AV × Heap) := R.icall (opv F f) (args.map (opv F)) H
def xV8 (opv : List AV → Arg → AV) (R : Rec) (F : List AV) (H : Heap) (f : Arg) (args : List Arg) : Option (AV × Heap) := match opv F f with
  | .func g caps => xBD R g (args.map (opv F) ++ caps) H
  | _ => none
def yBf (opv : List AV → Arg → AV) (R : Rec) (F : List AV) (H : Heap) (g : Bool) (es : Nat) (len : Nat) (x : Arg) (i : Arg) : Option (AV × Heap) := match opv F x,xBn (opv F i) with
  | .agg cs,some j => if j < len ∧ j * es + es ≤ cs.length then (mkv g ((cs.drop (j * es)).take es)).map fun v => (v,H) else none
  | _,_ => none
def xV9 (opv : List AV → Arg → AV) (R : Rec) (F : List AV) (H : Heap) (es : Nat) (len : Nat) (x : Arg) (i : Arg) : Option (AV × Heap) := match opv F x,xBn (opv F i) with
  | .ptr id off,some j => if j < len then some (.ptr id (off + j * es),H) else none
  | .vptr cs off,some j => if j < len then some (.vptr cs (off + j * es),H) else none
  | _,_ => none
def xYR (opv : List AV → Arg → AV) (R : Rec) (F : List AV) (H : Heap) (b : Nat) (es : Nat) (len : Nat) (i : Arg) : Option (AV × Heap) := match xVT b,xBn (opv F i) with
  | some cs,some j => if j < len then some (.vptr cs (j * es),H) else none
  | _,_ => none
def xYS (opv : List AV → Arg → AV) (R : Rec) (F : List AV) (H : Heap) (x : Arg) (i : Arg) : Option (AV × Heap) := match opv F x,xBn (opv F i) with
  | .str s,some j => (s[j]?).map fun b => (.int .u8 b.toNat,H)
  | _,_ => none
def xYT (opv : List AV → Arg → AV) (R : Rec) (F : List AV) (H : Heap) (x : Arg) : Option (AV × Heap) := match opv F x with
  | .str s => some (.int .i64 s.size,H)
  | _ => none
def yDx (opv : List AV → Arg → AV) (R : Rec) (F : List AV) (H : Heap) (mx : Bool) (xs : List Arg) : Option (AV × Heap) := match xs.map (opv F) with
  | [] => none
  | x :: r => (mmA mx x r).map fun v => (v,H)
def xSj (opv : List AV → Arg → AV) (R : Rec) (F : List AV) (H : Heap) (x : Arg) (lo : Option Arg) (hi : Option Arg) : Option (AV × Heap) := match opv F x with
  | .str s => (xBh s.size (lo.map (opv F)) (hi.map (opv F)) none).map fun (l,h) => (.str (s.extract l h),H)
  | _ => none
def xYU (opv : List AV → Arg → AV) (R : Rec) (F : List AV) (H : Heap) (neg : Bool) (x : Arg) (y : Arg) : Option (AV × Heap) := match opv F x,opv F y with
  | .str s,.str t => some (.bool ((s.toList == t.toList) != neg),H)
  | _,_ => none
def xQV (opv : List AV → Arg → AV) (R : Rec) (F : List AV) (H : Heap) (f : Nat) (first : List Arg) : Option (AV × Heap) := some (.bfunc f (first.map (opv F)),H)
def xWa (opv : List AV → Arg → AV) (R : Rec) (F : List AV) (H : Heap) (f : Arg) (args : List Arg) : Option (AV × Heap) := match opv F f with
  | .bfunc g first => R.icall (.func g []) (first ++ args.map (opv F)) H
  | _ => none
def xWb (opv : List AV → Arg → AV) (R : Rec) (F : List AV) (H : Heap)  : Option (AV × Heap) := some (.mp H.length,H ++ [.mp []])
def xWc (opv : List AV → Arg → AV) (R : Rec) (F : List AV) (H : Heap) (ks : List Nat) (comma : Bool) (z : AV) (x : Arg) (k : Arg) : Option (AV × Heap) := if xBz ks (opv F k) then match xVq H (opv F x) with
  | none => none
  | some es => match xIg (opv F k) es with
   | none => none
   | some none => some (if comma then .tup [z,.bool false] else z,H)
   | some (some v) => some (if comma then .tup [v,.bool true] else v,H)
  else none
def xYV (opv : List AV → Arg → AV) (R : Rec) (F : List AV) (H : Heap) (ks : List Nat) (z : AV) (m : Arg) (k : Arg) : Option (AV × Heap) := if xBz ks (opv F k) then match opv F m with
  | .mp id => match H[id]? with
   | some (.mp es) => (xYE (opv F k) z es 0).map fun r => (.tup [r.1,.int .i64 (r.2.1 : Nat)],H.set id (.mp r.2.2))
   | _ => none
  | _ => none
  else none
def xSk (opv : List AV → Arg → AV) (R : Rec) (F : List AV) (H : Heap) (m : Arg) (s : Arg) (v : Arg) : Option (AV × Heap) := match opv F m,opv F s with
  | .mp id,.int .i64 n => match H[id]? with
   | some (.mp es) => if 0 ≤ n then (es[n.toNat]?).map fun e => (.tup [],H.set id (.mp (es.set n.toNat (e.1,opv F v)))) else none
   | _ => none
  | _,_ => none
def xYW (opv : List AV → Arg → AV) (R : Rec) (F : List AV) (H : Heap) (ks : List Nat) (m : Arg) (k : Arg) (v : Arg) : Option (AV × Heap) := if xBz ks (opv F k) then match opv F m with
  | .mp id => match H[id]? with
   | some (.mp es) => (xVU (opv F k) (opv F v) es).map fun es' => (.tup [],H.set id (.mp es'))
   | _ => none
  | _ => none
  else none
def xYX (opv : List AV → Arg → AV) (R : Rec) (F : List AV) (H : Heap) (x : Arg) : Option (AV × Heap) := (xVq H (opv F x)).map fun es => (.int .i64 es.length,H)
def xYY (opv : List AV → Arg → AV) (R : Rec) (F : List AV) (H : Heap) (neg : Bool) (x : Arg) : Option (AV × Heap) := match opv F x with
  | .nilm => some (.bool (true != neg),H)
  | .mp _ => some (.bool (false != neg),H)
  | _ => none
def xYZ (opv : List AV → Arg → AV) (R : Rec) (F : List AV) (H : Heap) (neg : Bool) (x : Arg) : Option (AV × Heap) := match opv F x with
  | .ptr _ _ => some (.bool (false != neg),H)
  | .nilp => some (.bool (true != neg),H)
  | _ => none
def xSl (opv : List AV → Arg → AV) (R : Rec) (F : List AV) (H : Heap) (fz : Bool) (x : Arg) : Option (AV × Heap) := match opv F x with
  | .str s => xEc fz false s.size 1 (xIw s) H
  | _ => none
def xY0 (opv : List AV → Arg → AV) (R : Rec) (F : List AV) (H : Heap) (x : Arg) : Option (AV × Heap) := match src H 1 (opv F x) with
  | some (_,cs) => (xRO cs).map fun bs => (.str ⟨⟨bs⟩⟩,H)
  | none => none
def xY1 (opv : List AV → Arg → AV) (R : Rec) (F : List AV) (H : Heap) (x : Arg) (y : Arg) : Option (AV × Heap) := match opv F x,opv F y with
  | .str s,.str t => if s.size + t.size ≤ 9223372036854775807 then some (.str ⟨⟨s.data.toList ++ t.data.toList⟩⟩,H) else none
  | _,_ => none
def xWd (opv : List AV → Arg → AV) (R : Rec) (F : List AV) (H : Heap) (f : Nat) (args : List Arg) : Option (AV × Heap) := match (args.map (opv F)).mapM (frz frzN H) with
  | none => none
  | some args' => match xCW R f args' with
   | none => none
   | some (v,B) => some (xCA H.length v,fzIds H ((args.map (opv F)).flatMap (bor frzN H)) ++ B)
def xSm (opv : List AV → Arg → AV) (R : Rec) (F : List AV) (H : Heap) (f : Nat) (args : List Arg) : Option (AV × Heap) := match (args.map (opv F)).mapM (frz frzN H) with
  | none => none
  | some args' => match xCG R f args' with
   | none => none
   | some (v,B) => some (xCA H.length v,fzIds H ((args.map (opv F)).flatMap (bor frzN H)) ++ B.map (xDL H.length))
noncomputable def xKz (R : Rec) (F : List AV) (H : Heap) : AOp → Option (AV × Heap)
 | .mov x => yA7 xBN R F H x
 | .pick c a b => xYL xBN R F H c a b
 | .box x => yA8 xBN R F H x
 | .build z parts => xV1 xBN R F H z parts
 | .bslice fz z es n parts => xSe xBN R F H fz z es n parts
 | .dslice z es n parts => xSf xBN R F H z es n parts
 | .load g n p => xSg xBN R F H g n p
 | .store n p v => xOY xBN R F H n p v
 | .nilchk x => xSh xBN R F H x
 | .bin op x y => yA9 xBN R F H op x y
 | .beq neg x y => yBa xBN R F H neg x y
 | .isnil neg x => xV2 xBN R F H neg x
 | .un op x => yDw xBN R F H op x
 | .conv k x => xYM xBN R F H k x
 | .mkfunc f caps => xSi xBN R F H f caps
 | .mkslice fz z bytes l c => xQS xBN R F H fz z bytes l c
 | .slice es x lo hi mx => xV3 xBN R F H es x lo hi mx
 | .faddr o x => xV4 xBN R F H o x
 | .field g off n x => xV5 xBN R F H g off n x
 | .iaddr es x i => xV6 xBN R F H es x i
 | .ext i x => yBb xBN R F H i x
 | .len x => yBc xBN R F H x
 | .cap x => yBd xBN R F H x
 | .aeq neg n x y => yBe xBN R F H neg n x y
 | .append fz es bytes x y => xLT xBN R F H fz es bytes x y
 | .appendz z bytes x n => xQT xBN R F H z bytes x n
 | .appendh es bytes x y => xQU xBN R F H es bytes x y
 | .copy _u0 _u1 _u2 => xYN xBN R F H _u0 _u1 _u2
 | .maxi x y => xYO xBN R F H x y
 | .mini x y => xYP xBN R F H x y
 | .call f args => xYQ xBN R F H f args
 | .icall f args => xV7 xBN R F H f args
 | .fcall f args => xV8 xBN R F H f args
 | .idx g es len x i => yBf xBN R F H g es len x i
 | .arrat es len x i => xV9 xBN R F H es len x i
 | .garr b es len i => xYR xBN R F H b es len i
 | .sidx x i => xYS xBN R F H x i
 | .slen x => xYT xBN R F H x
 | .mm mx xs => yDx xBN R F H mx xs
 | .sslice x lo hi => xSj xBN R F H x lo hi
 | .sbeq neg x y => xYU xBN R F H neg x y
 | .mkbound f first => xQV xBN R F H f first
 | .bcall f args => xWa xBN R F H f args
 | .mkmap  => xWb xBN R F H 
 | .mlook ks comma z x k => xWc xBN R F H ks comma z x k
 | .ment ks z m k => xYV xBN R F H ks z m k
 | .mstore m s v => xSk xBN R F H m s v
 | .mupd ks m k v => xYW xBN R F H ks m k v
 | .mlen x => xYX xBN R F H x
 | .mnil neg x => xYY xBN R F H neg x
 | .pnil neg x => xYZ xBN R F H neg x
 | .sbytes fz x => xSl xBN R F H fz x
 | .bstr x => xY0 xBN R F H x
 | .sadd x y => xY1 xBN R F H x y
 | .ocall f args => xWd xBN R F H f args
 | .ocallw f args => xSm xBN R F H f args
theorem xII (R : Rec) (F : List AV) (H : Heap) (op : AOp) : xKz R F H op = xAc R F H op := by
 cases op <;> simp only [xKz,xSb] <;> first | rfl | (simp only [xSg,yA5]; rfl) | (simp only [xOY,yA6]; rfl) | (simp only [xLT,xHd,xXo]; rfl)
def fN {α : Type} (a : Nat) (k : Nat → α) : α := match a with
 | 0 => k 0
 | n + 1 => k (n + 1)
theorem yBg {α : Type} (a : Nat) (k : Nat → α) : fN a k = k a := by cases a <;> rfl
def fI {α : Type} (x : Int) (k : Int → α) : α := match x with
 | .ofNat a => fN a fun a => k (.ofNat a)
 | .negSucc a => fN a fun a => k (.negSucc a)
theorem yDy {α : Type} (x : Int) (k : Int → α) : fI x k = k x := by cases x <;> simp only [fI,yBg]
def fBo {α : Type} (x : Bool) (k : Bool → α) : α := match x with
 | true => k true
 | false => k false
theorem yBh {α : Type} (x : Bool) (k : Bool → α) : fBo x k = k x := by cases x <;> rfl
def fV {α : Type} (v : AV) (k : AV → α) : α := match v with
 | .int kd n => fI n fun n => k (.int kd n)
 | .bool b => fBo b fun b => k (.bool b)
 | .ptr i o => fN i fun i => fN o fun o => k (.ptr i o)
 | .own z i o n e => fBo z fun z => fN i fun i => fN o fun o => fN n fun n => fN e fun e => k (.own z i o n e)
 | .sl z n cs => fN n fun n => k (.sl z n cs)
 | v => k v
theorem xY2 {α : Type} (v : AV) (k : AV → α) : fV v k = k v := by
 cases v <;> simp only [fV,yDy,yBh,yBg]
noncomputable def fS {α : Type} (l : List AV) : (List AV → α) → α := List.rec (motive := fun _ => (List AV → α) → α) (fun k => k []) (fun v _ ih k => ih fun vs => k (v :: vs)) l
theorem xWe {α : Type} : ∀ (l : List AV) (k : List AV → α),fS l k = k l
 | [],k => rfl
 | v :: vs,k => by
  show fS vs (fun vs => k (v :: vs)) = _
  rw [xWe vs]
def fL {α : Type} : List AV → (List AV → α) → α
 | [],k => k []
 | v :: vs,k => fV v fun v => fL vs fun vs => k (v :: vs)
theorem yBi {α : Type} : ∀ (l : List AV) (k : List AV → α),fL l k = k l
 | [],k => rfl
 | v :: vs,k => by rw [fL,xY2,yBi vs]
def fB {α : Type} (b : Blk) (k : Blk → α) : α := match b with
 | .cells fz z cs => fL cs fun cs => k (.cells fz z cs)
 | b => k b
theorem yDz {α : Type} (b : Blk) (k : Blk → α) : fB b k = k b := by
 cases b <;> first | rfl | simp only [fB,yBi]
noncomputable def fAt {α : Type} (l : List Blk) : Nat → (List Blk → α) → α := List.rec (motive := fun _ => Nat → (List Blk → α) → α) (fun _ k => k []) (fun b bs ih n k => Nat.casesOn (motive := fun _ => α) n (fB b fun b => k (b :: bs)) (fun m => ih m fun bs => k (b :: bs))) l
theorem xXp {α : Type} : ∀ (l : List Blk) (n : Nat) (k : List Blk → α),fAt l n k = k l
 | [],n,k => rfl
 | b :: bs,0,k => by
  show fB b (fun b => k (b :: bs)) = _
  rw [yDz]
 | b :: bs,n + 1,k => by
  show fAt bs n (fun bs => k (b :: bs)) = _
  rw [xXp bs]
noncomputable def yFl (l : List Blk) : Nat := List.rec (motive := fun _ => Nat) 0 (fun _ _ n => n + 1) l
noncomputable def yDA (F : List AV) (H : List Blk) : AOp → Nat
 | .store _ p _ => match xBN F p with
  | .ptr id _ => id
  | _ => 0
 | _ => yFl H
def yBj : AOp → Bool
 | .mov _ | .pick .. | .bin .. | .beq .. | .aeq .. | .un .. | .conv .. | .ext .. | .faddr .. | .field .. | .iaddr .. | .len _ | .cap _ | .isnil .. | .maxi .. | .mini .. | .nilchk _ | .mkfunc .. | .slice .. | .idx .. | .arrat .. | .garr .. | .sidx .. | .slen .. | .mm .. | .sslice .. | .sbeq .. | .mkbound .. | .load .. | .build .. | .mlook .. | .mlen _ | .mnil .. | .pnil .. => true
 | _ => false
noncomputable def xY3 (d : Option Nat) (F : List AV) (keep : Bool) (sp : Nat) : Option (AV × Heap) → Option St
 | some (v,H) => fV v fun v => fS (yDu F d v) fun F => if keep then some ⟨F,H⟩ else fAt H sp fun H => some ⟨F,H⟩
 | none => none
theorem xWf (d : Option Nat) (F : List AV) (keep : Bool) (sp : Nat) (x : Option (AV × Heap)) : xY3 d F keep sp x = x.map fun (v,H) => ⟨putA F d v,H⟩ := by
 cases x with
 | none => rfl
 | some p =>
  obtain ⟨v,H⟩ := p
  simp only [xY3,xY2,xWe,xXp,ite_self,xSc]
  rfl
def yBk (o : AOper) (s : St) (r : Option St) : Option Bool → Option St
 | none => none
 | some false => some ⟨putA s.F o.dst (.tup []),s.H⟩
 | some true => r
noncomputable def xE6 (R : Rec) (o : AOper) (s : St) : Option St := yBk o s (xY3 o.dst s.F (yBj o.op) (yDA s.F s.H o.op) (xKz R s.F s.H o.op)) (xBJ s.F o.guard)
theorem xLU (R : Rec) (o : AOper) (s : St) : xE6 R o s = xAN R o s := by
 unfold xE6 xAN
 rw [xII,xWf]
 split <;> rename_i e <;> rw [e] <;> rfl
noncomputable def xWg (k : St → Option St) : Option St → Option St
 | some s => k s
 | none => none
noncomputable def xED (R : Rec) (ops : List AOper) : St → Option St := List.rec (motive := fun _ => St → Option St) (fun s => some s) (fun o _ ih s => xWg ih (xE6 R o s)) ops
theorem xD8 (R : Rec) : ∀ (ops : List AOper) (s : St),xED R ops s = xAy R ops s
 | [],s => rfl
 | o :: rest,s => by
  show xWg (xED R rest) (xE6 R o s) = _
  simp only [xAy,xLU]
  cases xAN R o s with
  | none => rfl
  | some s' => exact xD8 R rest s'
def xY4 : AOp → Bool
 | .call .. | .fcall .. | .append .. | .box .. | .bslice .. | .mkslice .. | .appendz .. | .appendh .. | .copy .. | .icall .. | .bcall .. | .store .. | .ocall .. | .ocallw .. | .mkmap | .mupd .. | .ment .. | .mstore .. | .sbytes .. => true
 | _ => false
noncomputable def xNZ (R : Rec) (F : List AV) (H : Heap) (op : AOp) : Option AV := if xY4 op then xAv R F H op else (xKz R F H op).map (·.1)
theorem xQW (R : Rec) (F : List AV) (H : Heap) (op : AOp) : xNZ R F H op = xAv R F H op := by
 unfold xNZ
 rw [xII]
 cases op <;> rfl
noncomputable def frF (d : Option Nat) (s : St) : Option AV → Option St
 | some v => fV v fun v => fS (yDu s.F d v) fun F => some ⟨F,s.H⟩
 | none => none
theorem yBl (d : Option Nat) (s : St) (x : Option AV) : frF d s x = x.map fun v => ⟨putA s.F d v,s.H⟩ := by
 cases x with
 | none => rfl
 | some v => simp only [frF,xY2,xWe,xSc]; rfl
noncomputable def xE7 (R : Rec) (o : AOper) (s : St) : Option St := yBk o s (frF o.dst s (xNZ R s.F s.H o.op)) (xBJ s.F o.guard)
theorem xLV (R : Rec) (o : AOper) (s : St) : xE7 R o s = xAO R o s := by
 unfold xE7 xAO
 rw [xQW,yBl]
 split <;> rename_i e <;> rw [e] <;> rfl
noncomputable def xKA (R : Rec) (ops : List AOper) : St → Option St := List.rec (motive := fun _ => St → Option St) (fun s => some s) (fun o _ ih s => xWg ih (xE7 R o s)) ops
theorem xHe (R : Rec) : ∀ (ops : List AOper) (s : St),xKA R ops s = xA6 R ops s
 | [],s => rfl
 | o :: rest,s => by
  show xWg (xKA R rest) (xE7 R o s) = _
  simp only [xA6,xLV]
  cases xAO R o s with
  | none => rfl
  | some s' => exact xHe R rest s'
noncomputable def yEU (k : St → Option (AExit × St)) : Option (AExit × St) → Option (AExit × St)
 | some (.normal,s') => k s'
 | r => r
noncomputable def yBm (x y : Option (AExit × St)) : AV → Option (AExit × St)
 | .bool t => if t then x else y
 | _ => none
def xXq (id : Nat) : Option (AExit × St) → Option (AExit × St)
 | some (.exit i,s') => if i = id then some (.normal,s') else some (.exit i,s')
 | r => r
def yC9 : Option St → Option (AExit × St)
 | some s => some (.normal,s)
 | none => none
noncomputable def xY5 (R : Rec) (m : Nat) (ops : List AOper) (s : St) : Option (AExit × St) := match xKA R (ops.take m) s with
 | none => none
 | some s1 => yC9 (xED R (ops.drop m) (adopt (ops.take m) s1))
def yEV (i : Nat) (k : AV → Option (AExit × St)) : Option AV → Option (AExit × St)
 | some v => k v
 | none => none
noncomputable def xWh (R : Rec) (c : ACode) : St → Option (AExit × St) :=
 ACode.rec (motive := fun _ => St → Option (AExit × St))
  (fun s => some (.normal,s)) (fun ops s => yC9 (xED R ops s)) (fun m ops s => xY5 R m ops s) (fun ls m ops s => run R (.drawl ls m ops) s)
  (fun als ls m ops s => run R (.drawp als ls m ops) s) (fun hs als ls m ops s => run R (.drawh hs als ls m ops) s) (fun σ als ls m ops s => run R (.drawt σ als ls m ops) s) (fun _ ih s => ih ⟨s.F,s.H ++ [.cells true true []]⟩)
  (fun ss _ ih s => ih ⟨s.F,fzIds s.H (ss.flatMap fun i => bor frzN s.H (s.F.getD i .any))⟩) (fun i _ ih s => yEV i (fun v => ih ⟨s.F.set i v,fzIds s.H (bor frzN s.H (s.F.getD i .any))⟩) (frz frzN s.H (s.F.getD i .any))) (fun _ _ iha ihb s => yEU ihb (iha s)) (fun c _ _ iha ihb s => yBm (iha s) (ihb s) (xBN s.F c))
  (fun id _ ih s => xXq id (ih s)) (fun scr b _ s => R.loop scr b s) (fun f ps asg body _ _ s => run R (.range f ps asg body) s) (fun id s => some (.exit id,s)) (fun _ ih s => ih s)
  (fun s => some (.normal,s)) (fun s => some (.ret,s)) (fun _ => none) c
theorem xSn (x : Option St) : yC9 x = x.map fun s' => (.normal,s') := by cases x <;> rfl
theorem xN0 (R : Rec) (c : ACode) : ∀ s,xWh R c s = run R c s := by
 induction c <;> intro s
 case region ops => show yC9 (xED R ops s) = _; simp only [run,xD8,xSn]
 case draw m ops =>
  show xY5 R m ops s = _
  simp only [run,xY5,xHe,xD8,xSn]
  cases xA6 R (ops.take m) s <;> rfl
 case seq a b iha ihb =>
  show yEU (xWh R b) (xWh R a s) = _
  simp only [run,iha]
  cases run R a s with
  | none => rfl
  | some p =>
   obtain ⟨e,s'⟩ := p
   cases e with
   | normal => exact ihb s'
   | exit i => rfl
   | ret => rfl
 case cond c a b iha ihb =>
  show yBm (xWh R a s) (xWh R b s) (xBN s.F c) = _
  simp only [run,iha,ihb,xSb]
  cases opv s.F c <;> rfl
 case block id b ih =>
  show xXq id (xWh R b s) = _
  simp only [run,ih]
  cases run R b s with
  | none => rfl
  | some p => obtain ⟨e,s'⟩ := p; cases e <;> rfl
 case scope b ih => exact ih s
 case fz ss b ih => exact ih _
 case hole b ih => exact ih _
 case fzs i b ih =>
  show yEV i _ _ = _
  simp only [run]
  cases frz frzN s.H (s.F.getD i .any) with
  | none => rfl
  | some v => exact ih _
 all_goals rfl
def yFm (fn : AFunc) : Option (AExit × St) → Option (AV × Heap)
 | some (.normal,s) | some (.ret,s) => (xA1 fn.results s).map fun v => (v,s.H)
 | _ => none
noncomputable def xWi (R : Rec) (fn : AFunc) (args : List AV) (H : Heap) : Option (AV × Heap) := yFm fn (xWh R fn.code (xLL fn args H))
theorem xOZ (R : Rec) (fn : AFunc) (args : List AV) (H : Heap) : xWi R fn args H = xBa R fn args H := by
 unfold xWi xBa
 rw [xN0]
 cases run R fn.code (xLL fn args H) with
 | none => rfl
 | some p => obtain ⟨e,s'⟩ := p; cases e <;> rfl
def yFn : Option (AV × Heap) → Option AV
 | some (r,H') => frz frzN H' r
 | none => Option.none
def xHf : List AV → Nat → List Nat → List AV
 | [],_,_ => []
 | v :: F,_,[] => v :: F
 | v :: F,i,s :: scr => if s = i then .any :: xHf F (i + 1) scr else v :: xHf F (i + 1) (s :: scr)
def asc : List Nat → Nat → Bool
 | [],_ => true
 | s :: r,lo => decide (lo ≤ s) && asc r (s + 1)
theorem xXr : ∀ {scr : List Nat} {lo : Nat},asc scr lo = true → ∀ s ∈ scr,lo ≤ s
 | [],_,_,s,h => by cases h
 | s0 :: r,lo,h,s,hs => by
  simp only [asc,Bool.and_eq_true,decide_eq_true_eq] at h
  rcases List.mem_cons.1 hs with rfl | hs
  ·exact h.1
  ·have := xXr h.2 s hs; omega
theorem xY6 : ∀ {scr : List Nat} {lo lo' : Nat},asc scr lo = true → (∀ s ∈ scr,lo' ≤ s) → asc scr lo' = true
 | [],_,_,_,_ => rfl
 | s0 :: r,lo,lo',h,hl => by
  simp only [asc,Bool.and_eq_true,decide_eq_true_eq] at h ⊢
  exact ⟨hl s0 (by simp),h.2⟩
theorem xFH : ∀ (F : List AV) (i : Nat) (scr : List Nat),asc scr i = true → ∀ j,(xHf F i scr)[j]? = if i + j ∈ scr then (F[j]?).map (fun _ => AV.any) else F[j]?
 | [],i,scr,h,j => by simp [xHf]
 | v :: F,i,[],h,j => by simp [xHf]
 | v :: F,i,s :: scr,h,j => by
  have h' := h
  simp only [asc,Bool.and_eq_true,decide_eq_true_eq] at h'
  unfold xHf
  by_cases e : s = i
  ·subst e
   rw [if_pos rfl]
   cases j with
   | zero => simp
   | succ j =>
    rw [List.getElem?_cons_succ,xFH F (s + 1) scr h'.2 j,List.getElem?_cons_succ]
    have : (s + 1 + j ∈ scr) ↔ (s + (j + 1) ∈ s :: scr) := by
     rw [show s + (j + 1) = s + 1 + j by omega,List.mem_cons]
     exact ⟨.inr,fun q => q.elim (fun q => by omega) id⟩
    simp only [this]
  ·rw [if_neg e]
   have hm : ∀ x ∈ s :: scr,i + 1 ≤ x := fun x hx => by
    rcases List.mem_cons.1 hx with rfl | hx
    ·omega
    ·have := xXr h'.2 x hx; omega
   cases j with
   | zero =>
    have : ¬ (i + 0 ∈ s :: scr) := fun q => by have := hm _ q; omega
    rw [if_neg this]; rfl
   | succ j =>
    rw [List.getElem?_cons_succ,xFH F (i + 1) (s :: scr) (xY6 h hm) j,List.getElem?_cons_succ]
    simp only [show i + (j + 1) = i + 1 + j by omega]
def xO0 (scr : List Nat) (F : List AV) : List AV := if asc scr 0 then xHf F 0 scr else xAq scr F
theorem xLW (scr : List Nat) (F : List AV) : xO0 scr F = xAq scr F := by
 unfold xO0
 split
 ·rename_i h
  apply List.ext_getElem?
  intro j
  rw [xFH F 0 scr h j,xD9]
  simp only [Nat.zero_add]
 ·rfl
noncomputable def xXs (R : Rec) (scr : List Nat) (b : ACode) : Option (AExit × St) → Option (AExit × St)
 | some (.normal,s') => R.loop scr b s'
 | some (e,s') => some (e,⟨xO0 scr s'.F,s'.H⟩)
 | none => none
noncomputable def yBn (prog : Nat → Option AFunc) (R : Rec) (args : List AV) (H : Heap) : AV → Option (AV × Heap)
 | .func f caps => match prog f with
  | some fn => xWi R fn (args ++ caps) H
  | none => Option.none
 | f => xCX prog R f args H
noncomputable def xY7 (prog : Nat → Option AFunc) (R : Rec) : Rec where
 pcall f args := match prog f with
  | some fn => yFn (xWi R fn args [])
  | none => primA f args
 icall f args H := yBn prog R args H f
 loop scr b s := fS (xO0 scr s.F) fun F => xXs R scr b (xWh R b ⟨F,s.H⟩)
theorem xWj (prog : Nat → Option AFunc) (R : Rec) : xY7 prog R = xCO prog R := by
 unfold xY7 xCO
 congr 1
 ·funext f args
  cases prog f with
  | none => rfl
  | some fn =>
   simp only [xAw,xOZ]
   cases xBa R fn args [] <;> rfl
 ·funext f args H
  unfold yBn
  split
  ·rename_i g caps
   simp only [xCX,xOZ]
   cases prog g <;> rfl
  ·rfl
 ·funext scr b s
  simp only [xG8,xN0,xWe,xLW]
  cases run R b ⟨xAq scr s.F,s.H⟩ with
  | none => rfl
  | some p => obtain ⟨e,s'⟩ := p; cases e <;> simp only [xXs,xLW]
noncomputable def yBo (prog : Nat → Option AFunc) (T : xSp) : Nat → Rec
 | 0 => Rec.none
 | n + 1 => xY8 T (xY7 prog (yBo prog T n))
theorem xSo (prog : Nat → Option AFunc) (T : xSp) : ∀ n,yBo prog T n = yBq prog T n
 | 0 => rfl
 | n + 1 => by rw [yBo,yBq,xWj,xSo prog T n]
end Go.Abs
