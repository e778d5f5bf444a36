/- The interpreter once more,its alternatives as functions of their own: what the kernel unfolds is small. -/
import Derived.Test.YtkpbekcgigigkaaDoorAbsOver
namespace Go.Abs
set_option linter.unusedVariables false
noncomputable def yC4 (F : List AV) : Nat → AV := List.rec (motive := fun _ => Nat → AV) (fun _ => .any) (fun v _ ih n => Nat.casesOn (motive := fun _ => AV) n v ih) F
noncomputable def yDI (x : AV) (F : List AV) : Nat → List AV := List.rec (motive := fun _ => Nat → List AV) (fun _ => []) (fun v F ih n => Nat.casesOn (motive := fun _ => List AV) n (x :: F) (fun m => v :: ih m)) F
theorem xVH : ∀ (F : List AV) (i : Nat),yC4 F i = F.getD i .any
  | [],i => by simp [yC4]
  | v :: F,0 => rfl
  | v :: F,i + 1 => by
    show yC4 F i = _
    rw [xVH F i]; simp
theorem xVI (x : AV) : ∀ (F : List AV) (i : Nat),yDI x F i = F.set i x
  | [],i => rfl
  | v :: F,0 => rfl
  | v :: F,i + 1 => by
    show v :: yDI x F i = _
    rw [xVI x F i]; rfl
noncomputable def xCm (F : List AV) : Arg → AV
  | .t i => yC4 F i
  | .c v => v
theorem xVJ : xCm = opv := by
  funext F x
  cases x with
  | t i => exact xVH F i
  | c v => rfl
noncomputable def yDJ (F : List AV) (d : Option Nat) (v : AV) : List AV := match d with
  | some d => yDI v F d
  | none => F
theorem xVK : yDJ = putA := by
  funext F d v
  cases d with
  | none => rfl
  | some d => exact xVI v F d
noncomputable def xSQ (l : List AV) : Nat → List AV := List.rec (motive := fun _ => Nat → List AV) (fun _ => []) (fun v t ih n => Nat.casesOn (motive := fun _ => List AV) n (v :: t) ih) l
theorem xLM : ∀ (l : List AV) (n : Nat),xSQ l n = l.drop n
  | [],n => by simp [xSQ]
  | v :: t,0 => rfl
  | v :: t,n + 1 => by
    show xSQ t n = _
    rw [xLM t n]; simp
def yCj (v : AV) : Option (List AV) → Option (List AV)
  | some l => some (v :: l)
  | none => none
noncomputable def yAi (l : List AV) : Nat → Option (List AV) := List.rec (motive := fun _ => Nat → Option (List AV)) (fun n => Nat.casesOn (motive := fun _ => Option (List AV)) n (some []) (fun _ => none)) (fun v t ih n => Nat.casesOn (motive := fun _ => Option (List AV)) n (some []) (fun m => yCj v (ih m))) l
theorem xRE : ∀ (l : List AV) (n : Nat),yAi l n = if n ≤ l.length then some (l.take n) else none
  | [],0 => rfl
  | [],n + 1 => by
    show none = _
    rw [if_neg (by simp)]
  | v :: t,0 => by
    show some [] = _
    rw [if_pos (Nat.zero_le _)]; rfl
  | v :: t,n + 1 => by
    show yCj v (yAi t n) = _
    rw [xRE t n]
    by_cases c : n ≤ t.length
    · rw [if_pos c,if_pos (by simpa using c)]; rfl
    · rw [if_neg c,if_neg (by simpa using c)]; rfl
noncomputable def yAj (l : List AV) : Nat := List.rec (motive := fun _ => Nat) 0 (fun _ _ n => n + 1) l
theorem xIJ : ∀ l : List AV,yAj l = l.length
  | [] => rfl
  | v :: t => by
    show yAj t + 1 = _
    rw [xIJ t]; rfl
noncomputable def rdC (cs : List AV) (off n : Nat) : Option (List AV) := match n with
  | 0 => if off ≤ yAj cs then some [] else none
  | n + 1 => yAi (xSQ cs off) (n + 1)
theorem yCk (cs : List AV) (off n : Nat) : rdC cs off n = if off + n ≤ cs.length then some ((cs.drop off).take n) else none := by
  cases n with
  | zero => rw [rdC,xIJ]; rfl
  | succ n =>
    rw [rdC,xRE,xLM,List.length_drop]
    by_cases c : off + (n + 1) ≤ cs.length
    · rw [if_pos c,if_pos (by omega)]
    · rw [if_neg c,if_neg (by omega)]
noncomputable def rdF (H : Heap) (p : AV) (n : Nat) : Option (List AV) := match p with
  | .ptr id off => match H[id]? with
    | some (.cells _ _ cs) => rdC cs off n
    | _ => none
  | .vptr cs off => rdC cs off n
  | _ => none
theorem yCl : rdF = rd := by
  funext H p n
  cases p <;> simp only [rdF,rd,yCk]
  rename_i id off
  rcases H[id]? with _ | b
  · rfl
  · cases b <;> rfl
noncomputable def yDK (vs : List AV) (cs : List AV) : Nat → List AV := List.rec (motive := fun _ => Nat → List AV) (fun _ => vs) (fun v t ih n => Nat.casesOn (motive := fun _ => List AV) n (vs ++ xSQ (v :: t) (yAj vs)) (fun m => v :: ih m)) cs
theorem xVL (vs : List AV) : ∀ (cs : List AV) (off : Nat),yDK vs cs off = splice cs off vs
  | [],off => by
    show vs = _
    simp [splice]
  | v :: t,0 => by
    show vs ++ xSQ (v :: t) (yAj vs) = _
    rw [xLM,xIJ]; simp [splice]
  | v :: t,n + 1 => by
    show v :: yDK vs t n = _
    rw [xVL vs t n]
    simp only [splice,List.take_succ_cons,List.cons_append,show n + 1 + vs.length = (n + vs.length) + 1 by omega,List.drop_succ_cons]
noncomputable def wrF (H : Heap) (p : AV) (vs : List AV) : Option Heap := match p with
  | .ptr id off => match H[id]? with
    | some (.cells false z cs) => if off + vs.length ≤ yAj cs ∧ vs.all AV.isCell = true then some (H.set id (.cells false z (yDK vs cs off))) else none
    | _ => none
  | _ => none
theorem yCm : wrF = wr := by
  funext H p vs
  cases p <;> simp only [wrF,wr,xVL,xIJ]
  rename_i id off
  rcases H[id]? with _ | b
  · rfl
  · cases b with
    | cells fz z cs => cases fz <;> rfl
    | _ => rfl
noncomputable def tkA (ys cs : List AV) : Nat → List AV := List.rec (motive := fun _ => Nat → List AV) (fun _ => ys) (fun v _ ih n => Nat.casesOn (motive := fun _ => List AV) n ys (fun m => v :: ih m)) cs
theorem xZm (ys : List AV) : ∀ (cs : List AV) (n : Nat),tkA ys cs n = cs.take n ++ ys
  | [],n => by
    show ys = _
    simp
  | v :: t,0 => rfl
  | v :: t,n + 1 => by
    show v :: tkA ys t n = _
    rw [xZm ys t n]; rfl
def yCn (opv : List AV → Arg → AV) (R : Rec) (F : List AV) (H : Heap) (x : Arg) : Option (AV × Heap) := some (opv F x,H)
def yAk (opv : List AV → Arg → AV) (R : Rec) (F : List AV) (H : Heap) (c : Arg) (a : Arg) (b : Arg) : Option (AV × Heap) := match opv F c with
    | .bool t => some (if t then opv F a else opv F b,H)
    | _ => none
def yCo (opv : List AV → Arg → AV) (R : Rec) (F : List AV) (H : Heap) (x : Arg) : Option (AV × Heap) := let cs := (opv F x).cells; if cs.all AV.isCell then some (.ptr H.length 0,H ++ [.cells false false cs]) else none
def xXP (opv : List AV → Arg → AV) (R : Rec) (F : List AV) (H : Heap) (z : List AV) (parts : List (Nat × Nat × Arg)) : Option (AV × Heap) :=
    (if parts.all (fun p => (opv F p.2.2).cells.length == p.2.1) then
      (fillA z (parts.map fun p => (p.1,(opv F p.2.2).cells))).map fun cs => (.agg cs,H) else none)
def xVM (opv : List AV → Arg → AV) (R : Rec) (F : List AV) (H : Heap) (fz : Bool) (z : List AV) (es : Nat) (n : Nat) (parts : List (Nat × Arg)) : Option (AV × Heap) :=
    (if parts.all (fun p => (opv F p.2).cells.length == es) then
      match fillA (xC6 z n) (parts.map fun p => (p.1 * es,(opv F p.2).cells)) with
      | some cs => xDO fz false n es cs H
      | none => none
     else none)
def xVN (opv : List AV → Arg → AV) (R : Rec) (F : List AV) (H : Heap) (z : List AV) (es : Nat) (n : Nat) (parts : List (Nat × Arg)) : Option (AV × Heap) :=
    (if parts.all (fun p => (opv F p.2).cells.length == es) then
      match fillA (xC6 z n) (parts.map fun p => (p.1 * es,(opv F p.2).cells)) with
      | some cs => if cs.all xAC = true then some (.sl false n cs,H) else none
      | none => none
     else none)
noncomputable def xVO (opv : List AV → Arg → AV) (R : Rec) (F : List AV) (H : Heap) (g : Bool) (n : Nat) (p : Arg) : Option (AV × Heap) := match rdF H (opv F p) n with
    | some cs => (mkv g cs).map fun v => (v,H)
    | none => none
noncomputable def xRF (opv : List AV → Arg → AV) (R : Rec) (F : List AV) (H : Heap) (n : Nat) (p : Arg) (v : Arg) : Option (AV × Heap) := let cs := (opv F v).cells; if cs.length = n then (wrF H (opv F p) cs).map fun H' => (.tup [],H') else none
def xVP (opv : List AV → Arg → AV) (R : Rec) (F : List AV) (H : Heap) (x : Arg) : Option (AV × Heap) := match opv F x with
    | .ptr id off => some (.ptr id off,H)
    | .vptr cs off => some (.vptr cs off,H)
    | .func f caps => some (.func f caps,H)
    | .yield l => some (.yield l,H)
    | _ => none
def yCp (opv : List AV → Arg → AV) (R : Rec) (F : List AV) (H : Heap) (op : BinOp) (x : Arg) (y : Arg) : Option (AV × Heap) := (xDG op (opv F x) (opv F y)).map fun v => (v,H)
def yCq (opv : List AV → Arg → AV) (R : Rec) (F : List AV) (H : Heap) (neg : Bool) (x : Arg) (y : Arg) : Option (AV × Heap) := match opv F x,opv F y with
    | .bool a,.bool b => some (.bool (if neg then a != b else a == b),H)
    | _,_ => none
def xXQ (opv : List AV → Arg → AV) (R : Rec) (F : List AV) (H : Heap) (neg : Bool) (x : Arg) : Option (AV × Heap) := match opv F x with
    | .sl z _ _ => some (.bool (z != neg),H)
    | .own z _ _ _ _ => some (.bool (z != neg),H)
    | _ => none
def yDL (opv : List AV → Arg → AV) (R : Rec) (F : List AV) (H : Heap) (op : UnOp) (x : Arg) : Option (AV × Heap) := (unA op (opv F x)).map fun v => (v,H)
def yAl (opv : List AV → Arg → AV) (R : Rec) (F : List AV) (H : Heap) (k : IntKind) (x : Arg) : Option (AV × Heap) := match opv F x with
    | .int _ n => some (.int k (k.wrap n),H)
    | _ => none
def xVQ (opv : List AV → Arg → AV) (R : Rec) (F : List AV) (H : Heap) (f : Nat) (caps : List Arg) : Option (AV × Heap) := some (.func f (caps.map (opv F)),H)
def xSR (opv : List AV → Arg → AV) (R : Rec) (F : List AV) (H : Heap) (fz : Bool) (z : List AV) (bytes : Nat) (l : Arg) (c : Arg) : Option (AV × Heap) := match opv F l,opv F c with
    | .int _ l,.int _ c => if 0 ≤ l ∧ l ≤ c ∧ c * bytes ≤ xBy ∧ c ≤ xBy ∧ z.all AV.isCell = true then xDO fz false l.toNat z.length (xC6 z l.toNat) H else none
    | _,_ => none
def xXR (opv : List AV → Arg → AV) (R : Rec) (F : List AV) (H : Heap) (es : Nat) (x : Arg) (lo : Option Arg) (hi : Option Arg) (mx : Option Arg) : Option (AV × Heap) := match opv F x with
    | .sl z n cs => if cs.length = n * es then (xBE n (lo.map (opv F)) (hi.map (opv F)) (mx.map (opv F))).map fun (l,h) => (.sl z (h - l) ((cs.drop (l * es)).take ((h - l) * es)),H) else none
    | .own z id off n es' => if es' = es then (xBE n (lo.map (opv F)) (hi.map (opv F)) (mx.map (opv F))).map fun (l,h) => (.own z id (off + l * es) (h - l) es,H) else none
    | _ => none
def xXS (opv : List AV → Arg → AV) (R : Rec) (F : List AV) (H : Heap) (o : Nat) (x : Arg) : Option (AV × Heap) := match opv F x with
    | .ptr id off => some (.ptr id (off + o),H)
    | .vptr cs off => some (.vptr cs (off + o),H)
    | _ => none
def xXT (opv : List AV → Arg → AV) (R : Rec) (F : List AV) (H : Heap) (g : Bool) (off : Nat) (n : Nat) (x : Arg) : Option (AV × Heap) := match opv F x with
    | .agg cs => if off + n ≤ cs.length then (mkv g ((cs.drop off).take n)).map fun v => (v,H) else none
    | _ => none
def xXU (opv : List AV → Arg → AV) (R : Rec) (F : List AV) (H : Heap) (es : Nat) (x : Arg) (i : Arg) : Option (AV × Heap) := match opv F x,xCv (opv F i) with
    | .sl _ n cs,some i => if i < n then some (.vptr cs (i * es),H) else none
    | .own _ id off n es',some i => if i < n ∧ es' = es then some (.ptr id (off + i * es),H) else none
    | _,_ => none
def yCr (opv : List AV → Arg → AV) (R : Rec) (F : List AV) (H : Heap) (i : Nat) (x : Arg) : Option (AV × Heap) := match opv F x with
    | .tup vs => (vs[i]?).map fun v => (v,H)
    | _ => none
def yCs (opv : List AV → Arg → AV) (R : Rec) (F : List AV) (H : Heap) (x : Arg) : Option (AV × Heap) := match opv F x with
    | .sl _ n _ => some (.int .i64 n,H)
    | .own _ _ _ n _ => some (.int .i64 n,H)
    | _ => none
def yCt (opv : List AV → Arg → AV) (R : Rec) (F : List AV) (H : Heap) (x : Arg) : Option (AV × Heap) := match opv F x with
    | .sl true _ _ => some (.int .i64 0,H)
    | _ => none
def yCu (opv : List AV → Arg → AV) (R : Rec) (F : List AV) (H : Heap) (neg : Bool) (n : Nat) (x : Arg) (y : Arg) : Option (AV × Heap) := match opv F x,opv F y with
    | .agg cs,.agg ds => if cs.length = n then (xB3 cs ds).map fun b => (.bool (b != neg),H) else none
    | _,_ => none
noncomputable def xOL (opv : List AV → Arg → AV) (R : Rec) (F : List AV) (H : Heap) (fz : Bool) (es : Nat) (bytes : Nat) (x : Arg) (y : Arg) : Option (AV × Heap) := match src H es (opv F y) with
    | none => none
    | some (m,ys) => match opv F x with
      | .sl true _ _ => if m * bytes ≤ xBy ∧ m ≤ xBy then xDO fz (m == 0) m es ys H else none
      | .own z id off n es' => match H[id]? with
        | some (.cells false _ cs) => if off = 0 ∧ es' = es ∧ n * es ≤ yAj cs ∧ (n + m) * bytes ≤ xBy ∧ n + m ≤ xBy then
            some (.own (z && m == 0) H.length 0 (n + m) es,H.set id .dead ++ [.cells false (z && m == 0) (tkA ys cs (n * es))]) else none
        | _ => none
      | _ => none
def xSS (opv : List AV → Arg → AV) (R : Rec) (F : List AV) (H : Heap) (z : List AV) (bytes : Nat) (x : Arg) (n : Arg) : Option (AV × Heap) := match xCv (opv F n),opv F x with
    | some m,.sl true _ _ => if m * bytes ≤ xBy ∧ m ≤ xBy ∧ z.all AV.isCell = true then xDO false (m == 0) m z.length (xC6 z m) H else none
    | _,_ => none
def xST (opv : List AV → Arg → AV) (R : Rec) (F : List AV) (H : Heap) (es : Nat) (bytes : Nat) (x : Arg) (y : Arg) : Option (AV × Heap) := match xFc H with
    | none => none
    | some h => (xSG H es bytes (opv F x) (opv F y)).map fun r => (.own r.1 h 0 r.2.1 es,(xCf r.2.2.2 H).set h (.cells false r.1 r.2.2.1))
def yAm (opv : List AV → Arg → AV) (R : Rec) (F : List AV) (H : Heap) (_u0 : Nat) (_u1 : Arg) (_u2 : Arg) : Option (AV × Heap) := none
def yAn (opv : List AV → Arg → AV) (R : Rec) (F : List AV) (H : Heap) (x : Arg) (y : Arg) : Option (AV × Heap) := match opv F x,opv F y with
    | .int k a,.int _ b => some (.int k (if b > a then b else a),H)
    | _,_ => none
def yAo (opv : List AV → Arg → AV) (R : Rec) (F : List AV) (H : Heap) (x : Arg) (y : Arg) : Option (AV × Heap) := match opv F x,opv F y with
    | .int k a,.int _ b => some (.int k (if b < a then b else a),H)
    | _,_ => none
def yAp (opv : List AV → Arg → AV) (R : Rec) (F : List AV) (H : Heap) (f : Nat) (args : List Arg) : Option (AV × Heap) := xBP R f (args.map (opv F)) H
def xXV (opv : List AV → Arg → AV) (R : Rec) (F : List AV) (H : Heap) (f : Arg) (args : List Arg) : Option (AV × Heap) := R.icall (opv F f) (args.map (opv F)) H
def xXW (opv : List AV → Arg → AV) (R : Rec) (F : List AV) (H : Heap) (f : Arg) (args : List Arg) : Option (AV × Heap) := match opv F f with
    | .func g caps => xBP R g (args.map (opv F) ++ caps) H
    | _ => none
def yCv (opv : List AV → Arg → AV) (R : Rec) (F : List AV) (H : Heap) (g : Bool) (es : Nat) (len : Nat) (x : Arg) (i : Arg) : Option (AV × Heap) := match opv F x,xCv (opv F i) with
    | .agg cs,some j => if j < len ∧ j * es + es ≤ cs.length then (mkv g ((cs.drop (j * es)).take es)).map fun v => (v,H) else none
    | _,_ => none
def xXX (opv : List AV → Arg → AV) (R : Rec) (F : List AV) (H : Heap) (es : Nat) (len : Nat) (x : Arg) (i : Arg) : Option (AV × Heap) := match opv F x,xCv (opv F i) with
    | .ptr id off,some j => if j < len then some (.ptr id (off + j * es),H) else none
    | .vptr cs off,some j => if j < len then some (.vptr cs (off + j * es),H) else none
    | _,_ => none
def yAq (opv : List AV → Arg → AV) (R : Rec) (F : List AV) (H : Heap) (b : Nat) (es : Nat) (len : Nat) (i : Arg) : Option (AV × Heap) := match xW9 b,xCv (opv F i) with
    | some cs,some j => if j < len then some (.vptr cs (j * es),H) else none
    | _,_ => none
def yAr (opv : List AV → Arg → AV) (R : Rec) (F : List AV) (H : Heap) (x : Arg) (i : Arg) : Option (AV × Heap) := match opv F x,xCv (opv F i) with
    | .str s,some j => (s[j]?).map fun b => (.int .u8 b.toNat,H)
    | _,_ => none
def yAs (opv : List AV → Arg → AV) (R : Rec) (F : List AV) (H : Heap) (x : Arg) : Option (AV × Heap) := match opv F x with
    | .str s => some (.int .i64 s.size,H)
    | _ => none
def yDM (opv : List AV → Arg → AV) (R : Rec) (F : List AV) (H : Heap) (mx : Bool) (xs : List Arg) : Option (AV × Heap) := match xs.map (opv F) with
    | [] => none
    | x :: r => (mmA mx x r).map fun v => (v,H)
def xVR (opv : List AV → Arg → AV) (R : Rec) (F : List AV) (H : Heap) (x : Arg) (lo : Option Arg) (hi : Option Arg) : Option (AV × Heap) := match opv F x with
    | .str s => (xBE s.size (lo.map (opv F)) (hi.map (opv F)) none).map fun (l,h) => (.str (s.extract l h),H)
    | _ => none
def yAt (opv : List AV → Arg → AV) (R : Rec) (F : List AV) (H : Heap) (neg : Bool) (x : Arg) (y : Arg) : Option (AV × Heap) := match opv F x,opv F y with
    | .str s,.str t => some (.bool ((s.toList == t.toList) != neg),H)
    | _,_ => none
def xSU (opv : List AV → Arg → AV) (R : Rec) (F : List AV) (H : Heap) (f : Nat) (first : List Arg) : Option (AV × Heap) := some (.bfunc f (first.map (opv F)),H)
def xXY (opv : List AV → Arg → AV) (R : Rec) (F : List AV) (H : Heap) (f : Arg) (args : List Arg) : Option (AV × Heap) := match opv F f with
    | .bfunc g first => R.icall (.func g []) (first ++ args.map (opv F)) H
    | _ => none
def xXZ (opv : List AV → Arg → AV) (R : Rec) (F : List AV) (H : Heap)  : Option (AV × Heap) := some (.mp H.length,H ++ [.mp []])
def xX0 (opv : List AV → Arg → AV) (R : Rec) (F : List AV) (H : Heap) (ks : List Nat) (comma : Bool) (z : AV) (x : Arg) (k : Arg) : Option (AV × Heap) := if xBI ks (opv F k) then match xSF H (opv F x) with
    | none => none
    | some es => match xFY (opv F k) es with
      | none => none
      | some none => some (if comma then .tup [z,.bool false] else z,H)
      | some (some v) => some (if comma then .tup [v,.bool true] else v,H)
    else none
def yAu (opv : List AV → Arg → AV) (R : Rec) (F : List AV) (H : Heap) (ks : List Nat) (z : AV) (m : Arg) (k : Arg) : Option (AV × Heap) := if xBI ks (opv F k) then match opv F m with
    | .mp id => match H[id]? with
      | some (.mp es) => (xTI (opv F k) z es 0).map fun r => (.tup [r.1,.int .i64 (r.2.1 : Nat)],H.set id (.mp r.2.2))
      | _ => none
    | _ => none
    else none
def xVS (opv : List AV → Arg → AV) (R : Rec) (F : List AV) (H : Heap) (m : Arg) (s : Arg) (v : Arg) : Option (AV × Heap) := match opv F m,opv F s with
    | .mp id,.int .i64 n => match H[id]? with
      | some (.mp es) => if 0 ≤ n then (es[n.toNat]?).map fun e => (.tup [],H.set id (.mp (es.set n.toNat (e.1,opv F v)))) else none
      | _ => none
    | _,_ => none
def yAv (opv : List AV → Arg → AV) (R : Rec) (F : List AV) (H : Heap) (ks : List Nat) (m : Arg) (k : Arg) (v : Arg) : Option (AV × Heap) := if xBI ks (opv F k) then match opv F m with
    | .mp id => match H[id]? with
      | some (.mp es) => (xTH (opv F k) (opv F v) es).map fun es' => (.tup [],H.set id (.mp es'))
      | _ => none
    | _ => none
    else none
def yAw (opv : List AV → Arg → AV) (R : Rec) (F : List AV) (H : Heap) (x : Arg) : Option (AV × Heap) := (xSF H (opv F x)).map fun es => (.int .i64 es.length,H)
def yAx (opv : List AV → Arg → AV) (R : Rec) (F : List AV) (H : Heap) (neg : Bool) (x : Arg) : Option (AV × Heap) := match opv F x with
    | .nilm => some (.bool (true != neg),H)
    | .mp _ => some (.bool (false != neg),H)
    | _ => none
def xVT (opv : List AV → Arg → AV) (R : Rec) (F : List AV) (H : Heap) (fz : Bool) (x : Arg) : Option (AV × Heap) := match opv F x with
    | .str s => xDO fz false s.size 1 (xCd s) H
    | _ => none
def yAy (opv : List AV → Arg → AV) (R : Rec) (F : List AV) (H : Heap) (x : Arg) : Option (AV × Heap) := match src H 1 (opv F x) with
    | some (_,cs) => (xMC cs).map fun bs => (.str ⟨⟨bs⟩⟩,H)
    | none => none
def yAz (opv : List AV → Arg → AV) (R : Rec) (F : List AV) (H : Heap) (x : Arg) (y : Arg) : Option (AV × Heap) := match opv F x,opv F y with
    | .str s,.str t => if s.size + t.size ≤ 9223372036854775807 then some (.str ⟨⟨s.data.toList ++ t.data.toList⟩⟩,H) else none
    | _,_ => none
def xX1 (opv : List AV → Arg → AV) (R : Rec) (F : List AV) (H : Heap) (f : Nat) (args : List Arg) : Option (AV × Heap) := match (args.map (opv F)).mapM (frz frzN H) with
    | none => none
    | some args' => match xBs R f args' with
      | none => none
      | some (v,B) => some (xAF H.length v,fzIds H ((args.map (opv F)).flatMap (bor frzN H)) ++ B)
def xVU (opv : List AV → Arg → AV) (R : Rec) (F : List AV) (H : Heap) (f : Nat) (args : List Arg) : Option (AV × Heap) := match (args.map (opv F)).mapM (frz frzN H) with
    | none => none
    | some args' => match xHz R f args' with
      | none => none
      | some (v,B) => some (xAF H.length v,fzIds H ((args.map (opv F)).flatMap (bor frzN H)) ++ B.map (xHy H.length))
noncomputable def xLN (R : Rec) (F : List AV) (H : Heap) : AOp → Option (AV × Heap)
  | .mov x => yCn xCm R F H x
  | .pick c a b => yAk xCm R F H c a b
  | .box x => yCo xCm R F H x
  | .build z parts => xXP xCm R F H z parts
  | .bslice fz z es n parts => xVM xCm R F H fz z es n parts
  | .dslice z es n parts => xVN xCm R F H z es n parts
  | .load g n p => xVO xCm R F H g n p
  | .store n p v => xRF xCm R F H n p v
  | .nilchk x => xVP xCm R F H x
  | .bin op x y => yCp xCm R F H op x y
  | .beq neg x y => yCq xCm R F H neg x y
  | .isnil neg x => xXQ xCm R F H neg x
  | .un op x => yDL xCm R F H op x
  | .conv k x => yAl xCm R F H k x
  | .mkfunc f caps => xVQ xCm R F H f caps
  | .mkslice fz z bytes l c => xSR xCm R F H fz z bytes l c
  | .slice es x lo hi mx => xXR xCm R F H es x lo hi mx
  | .faddr o x => xXS xCm R F H o x
  | .field g off n x => xXT xCm R F H g off n x
  | .iaddr es x i => xXU xCm R F H es x i
  | .ext i x => yCr xCm R F H i x
  | .len x => yCs xCm R F H x
  | .cap x => yCt xCm R F H x
  | .aeq neg n x y => yCu xCm R F H neg n x y
  | .append fz es bytes x y => xOL xCm R F H fz es bytes x y
  | .appendz z bytes x n => xSS xCm R F H z bytes x n
  | .appendh es bytes x y => xST xCm R F H es bytes x y
  | .copy _u0 _u1 _u2 => yAm xCm R F H _u0 _u1 _u2
  | .maxi x y => yAn xCm R F H x y
  | .mini x y => yAo xCm R F H x y
  | .call f args => yAp xCm R F H f args
  | .icall f args => xXV xCm R F H f args
  | .fcall f args => xXW xCm R F H f args
  | .idx g es len x i => yCv xCm R F H g es len x i
  | .arrat es len x i => xXX xCm R F H es len x i
  | .garr b es len i => yAq xCm R F H b es len i
  | .sidx x i => yAr xCm R F H x i
  | .slen x => yAs xCm R F H x
  | .mm mx xs => yDM xCm R F H mx xs
  | .sslice x lo hi => xVR xCm R F H x lo hi
  | .sbeq neg x y => yAt xCm R F H neg x y
  | .mkbound f first => xSU xCm R F H f first
  | .bcall f args => xXY xCm R F H f args
  | .mkmap  => xXZ xCm R F H 
  | .mlook ks comma z x k => xX0 xCm R F H ks comma z x k
  | .ment ks z m k => yAu xCm R F H ks z m k
  | .mstore m s v => xVS xCm R F H m s v
  | .mupd ks m k v => yAv xCm R F H ks m k v
  | .mlen x => yAw xCm R F H x
  | .mnil neg x => yAx xCm R F H neg x
  | .sbytes fz x => xVT xCm R F H fz x
  | .bstr x => yAy xCm R F H x
  | .sadd x y => yAz xCm R F H x y
  | .ocall f args => xX1 xCm R F H f args
  | .ocallw f args => xVU xCm R F H f args
theorem xK4 (R : Rec) (F : List AV) (H : Heap) (op : AOp) : xLN R F H op = xAc R F H op := by
  cases op <;> simp only [xLN,xVJ] <;> first | rfl | (simp only [xVO,yCl]; rfl) | (simp only [xRF,yCm]; rfl) | (simp only [xOL,xIJ,xZm]; rfl)
def fN {α : Type} (a : Nat) (k : Nat → α) : α := match a with
  | 0 => k 0
  | n + 1 => k (n + 1)
theorem yCw {α : Type} (a : Nat) (k : Nat → α) : fN a k = k a := by cases a <;> rfl
def fI {α : Type} (x : Int) (k : Int → α) : α := match x with
  | .ofNat a => fN a fun a => k (.ofNat a)
  | .negSucc a => fN a fun a => k (.negSucc a)
theorem yDN {α : Type} (x : Int) (k : Int → α) : fI x k = k x := by cases x <;> simp only [fI,yCw]
def fBo {α : Type} (x : Bool) (k : Bool → α) : α := match x with
  | true => k true
  | false => k false
theorem yCx {α : Type} (x : Bool) (k : Bool → α) : fBo x k = k x := by cases x <;> rfl
def fV {α : Type} (v : AV) (k : AV → α) : α := match v with
  | .int kd n => fI n fun n => k (.int kd n)
  | .bool b => fBo b fun b => k (.bool b)
  | .ptr i o => fN i fun i => fN o fun o => k (.ptr i o)
  | .own z i o n e => fBo z fun z => fN i fun i => fN o fun o => fN n fun n => fN e fun e => k (.own z i o n e)
  | .sl z n cs => fN n fun n => k (.sl z n cs)
  | v => k v
theorem yAA {α : Type} (v : AV) (k : AV → α) : fV v k = k v := by
  cases v <;> simp only [fV,yDN,yCx,yCw]
noncomputable def fS {α : Type} (l : List AV) : (List AV → α) → α := List.rec (motive := fun _ => (List AV → α) → α) (fun k => k []) (fun v _ ih k => ih fun vs => k (v :: vs)) l
theorem xX2 {α : Type} : ∀ (l : List AV) (k : List AV → α),fS l k = k l
  | [],k => rfl
  | v :: vs,k => by
    show fS vs (fun vs => k (v :: vs)) = _
    rw [xX2 vs]
def fL {α : Type} : List AV → (List AV → α) → α
  | [],k => k []
  | v :: vs,k => fV v fun v => fL vs fun vs => k (v :: vs)
theorem yCy {α : Type} : ∀ (l : List AV) (k : List AV → α),fL l k = k l
  | [],k => rfl
  | v :: vs,k => by rw [fL,yAA,yCy vs]
def fB {α : Type} (b : Blk) (k : Blk → α) : α := match b with
  | .cells fz z cs => fL cs fun cs => k (.cells fz z cs)
  | b => k b
theorem yDO {α : Type} (b : Blk) (k : Blk → α) : fB b k = k b := by
  cases b <;> first | rfl | simp only [fB,yCy]
noncomputable def fAt {α : Type} (l : List Blk) : Nat → (List Blk → α) → α := List.rec (motive := fun _ => Nat → (List Blk → α) → α) (fun _ k => k []) (fun b bs ih n k => Nat.casesOn (motive := fun _ => α) n (fB b fun b => k (b :: bs)) (fun m => ih m fun bs => k (b :: bs))) l
theorem xZn {α : Type} : ∀ (l : List Blk) (n : Nat) (k : List Blk → α),fAt l n k = k l
  | [],n,k => rfl
  | b :: bs,0,k => by
    show fB b (fun b => k (b :: bs)) = _
    rw [yDO]
  | b :: bs,n + 1,k => by
    show fAt bs n (fun bs => k (b :: bs)) = _
    rw [xZn bs]
noncomputable def yFa (l : List Blk) : Nat := List.rec (motive := fun _ => Nat) 0 (fun _ _ n => n + 1) l
noncomputable def yDP (F : List AV) (H : List Blk) : AOp → Nat
  | .store _ p _ => match xCm F p with
    | .ptr id _ => id
    | _ => 0
  | _ => yFa H
def yCz : AOp → Bool
  | .mov _ | .pick .. | .bin .. | .beq .. | .aeq .. | .un .. | .conv .. | .ext .. | .faddr .. | .field .. | .iaddr .. | .len _ | .cap _ | .isnil .. | .maxi .. | .mini .. | .nilchk _ | .mkfunc .. | .slice .. | .idx .. | .arrat .. | .garr .. | .sidx .. | .slen .. | .mm .. | .sslice .. | .sbeq .. | .mkbound .. | .load .. | .build .. | .mlook .. | .mlen _ | .mnil .. => true
  | _ => false
noncomputable def yAB (d : Option Nat) (F : List AV) (keep : Bool) (sp : Nat) : Option (AV × Heap) → Option St
  | some (v,H) => fV v fun v => fS (yDJ F d v) fun F => if keep then some ⟨F,H⟩ else fAt H sp fun H => some ⟨F,H⟩
  | none => none
theorem xX3 (d : Option Nat) (F : List AV) (keep : Bool) (sp : Nat) (x : Option (AV × Heap)) : yAB d F keep sp x = x.map fun (v,H) => ⟨putA F d v,H⟩ := by
  cases x with
  | none => rfl
  | some p =>
    obtain ⟨v,H⟩ := p
    simp only [yAB,yAA,xX2,xZn,ite_self,xVK]
    rfl
def yCA (o : AOper) (s : St) (r : Option St) : Option Bool → Option St
  | none => none
  | some false => some ⟨putA s.F o.dst (.tup []),s.H⟩
  | some true => r
noncomputable def xFB (R : Rec) (o : AOper) (s : St) : Option St := yCA o s (yAB o.dst s.F (yCz o.op) (yDP s.F s.H o.op) (xLN R s.F s.H o.op)) (xB8 s.F o.guard)
theorem xOM (R : Rec) (o : AOper) (s : St) : xFB R o s = xBa R o s := by
  unfold xFB xBa
  rw [xK4,xX3]
  split <;> rename_i e <;> rw [e] <;> rfl
noncomputable def xX4 (k : St → Option St) : Option St → Option St
  | some s => k s
  | none => none
noncomputable def xIK (R : Rec) (ops : List AOper) : St → Option St := List.rec (motive := fun _ => St → Option St) (fun s => some s) (fun o _ ih s => xX4 ih (xFB R o s)) ops
theorem xF2 (R : Rec) : ∀ (ops : List AOper) (s : St),xIK R ops s = xAV R ops s
  | [],s => rfl
  | o :: rest,s => by
    show xX4 (xIK R rest) (xFB R o s) = _
    simp only [xAV,xOM]
    cases xBa R o s with
    | none => rfl
    | some s' => exact xF2 R rest s'
def yAC : AOp → Bool
  | .call .. | .fcall .. | .append .. | .box .. | .bslice .. | .mkslice .. | .appendz .. | .appendh .. | .copy .. | .icall .. | .bcall .. | .store .. | .ocall .. | .ocallw .. | .mkmap | .mupd .. | .ment .. | .mstore .. | .sbytes .. => true
  | _ => false
noncomputable def xPH (R : Rec) (F : List AV) (H : Heap) (op : AOp) : Option AV := if yAC op then xAS R F H op else (xLN R F H op).map (·.1)
theorem xSV (R : Rec) (F : List AV) (H : Heap) (op : AOp) : xPH R F H op = xAS R F H op := by
  unfold xPH
  rw [xK4]
  cases op <;> rfl
noncomputable def frF (d : Option Nat) (s : St) : Option AV → Option St
  | some v => fV v fun v => fS (yDJ s.F d v) fun F => some ⟨F,s.H⟩
  | none => none
theorem yCB (d : Option Nat) (s : St) (x : Option AV) : frF d s x = x.map fun v => ⟨putA s.F d v,s.H⟩ := by
  cases x with
  | none => rfl
  | some v => simp only [frF,yAA,xX2,xVK]; rfl
noncomputable def xFC (R : Rec) (o : AOper) (s : St) : Option St := yCA o s (frF o.dst s (xPH R s.F s.H o.op)) (xB8 s.F o.guard)
theorem xON (R : Rec) (o : AOper) (s : St) : xFC R o s = xA8 R o s := by
  unfold xFC xA8
  rw [xSV,yCB]
  split <;> rename_i e <;> rw [e] <;> rfl
noncomputable def xLO (R : Rec) (ops : List AOper) : St → Option St := List.rec (motive := fun _ => St → Option St) (fun s => some s) (fun o _ ih s => xX4 ih (xFC R o s)) ops
theorem xIL (R : Rec) : ∀ (ops : List AOper) (s : St),xLO R ops s = xBo R ops s
  | [],s => rfl
  | o :: rest,s => by
    show xX4 (xLO R rest) (xFC R o s) = _
    simp only [xBo,xON]
    cases xA8 R o s with
    | none => rfl
    | some s' => exact xIL R rest s'
noncomputable def yEt (k : St → Option (AExit × St)) : Option (AExit × St) → Option (AExit × St)
  | some (.normal,s') => k s'
  | r => r
noncomputable def yCC (x y : Option (AExit × St)) : AV → Option (AExit × St)
  | .bool t => if t then x else y
  | _ => none
def xZo (id : Nat) : Option (AExit × St) → Option (AExit × St)
  | some (.exit i,s') => if i = id then some (.normal,s') else some (.exit i,s')
  | r => r
def yC5 : Option St → Option (AExit × St)
  | some s => some (.normal,s)
  | none => none
noncomputable def yAD (R : Rec) (m : Nat) (ops : List AOper) (s : St) : Option (AExit × St) := match xLO R (ops.take m) s with
  | none => none
  | some s1 => yC5 (xIK R (ops.drop m) (adopt (ops.take m) s1))
def yEu (i : Nat) (k : AV → Option (AExit × St)) : Option AV → Option (AExit × St)
  | some v => k v
  | none => none
noncomputable def xZp (R : Rec) (c : ACode) : St → Option (AExit × St) :=
  ACode.rec (motive := fun _ => St → Option (AExit × St))
    (fun s => some (.normal,s)) (fun ops s => yC5 (xIK R ops s)) (fun m ops s => yAD R m ops s) (fun ls m ops s => run R (.drawl ls m ops) s)
    (fun als ls m ops s => run R (.drawp als ls m ops) s) (fun hs als ls m ops s => run R (.drawh hs als ls m ops) s) (fun σ als ls m ops s => run R (.drawt σ als ls m ops) s) (fun _ ih s => ih ⟨s.F,s.H ++ [.cells true true []]⟩)
    (fun ss _ ih s => ih ⟨s.F,fzIds s.H (ss.flatMap fun i => bor frzN s.H (s.F.getD i .any))⟩) (fun i _ ih s => yEu i (fun v => ih ⟨s.F.set i v,fzIds s.H (bor frzN s.H (s.F.getD i .any))⟩) (frz frzN s.H (s.F.getD i .any))) (fun _ _ iha ihb s => yEt ihb (iha s)) (fun c _ _ iha ihb s => yCC (iha s) (ihb s) (xCm s.F c))
    (fun id _ ih s => xZo id (ih s)) (fun scr b _ s => R.loop scr b s) (fun f ps asg body _ _ s => run R (.range f ps asg body) s) (fun id s => some (.exit id,s)) (fun _ ih s => ih s)
    (fun s => some (.normal,s)) (fun s => some (.ret,s)) (fun _ => none) c
theorem xVV (x : Option St) : yC5 x = x.map fun s' => (.normal,s') := by cases x <;> rfl
theorem xVW (R : Rec) (c : ACode) : ∀ s,xZp R c s = run R c s := by
  induction c <;> intro s
  case region ops => show yC5 (xIK R ops s) = _; simp only [run,xF2,xVV]
  case draw m ops =>
    show yAD R m ops s = _
    simp only [run,yAD,xIL,xF2,xVV]
    cases xBo R (ops.take m) s <;> rfl
  case seq a b iha ihb =>
    show yEt (xZp R b) (xZp R a s) = _
    simp only [run,iha]
    cases run R a s with
    | none => rfl
    | some p =>
      obtain ⟨e,s'⟩ := p
      cases e with
      | normal => exact ihb s'
      | exit i => rfl
      | ret => rfl
  case cond c a b iha ihb =>
    show yCC (xZp R a s) (xZp R b s) (xCm s.F c) = _
    simp only [run,iha,ihb,xVJ]
    cases opv s.F c <;> rfl
  case block id b ih =>
    show xZo id (xZp R b s) = _
    simp only [run,ih]
    cases run R b s with
    | none => rfl
    | some p => obtain ⟨e,s'⟩ := p; cases e <;> rfl
  case scope b ih => exact ih s
  case fz ss b ih => exact ih _
  case hole b ih => exact ih _
  case fzs i b ih =>
    show yEu i _ _ = _
    simp only [run]
    cases frz frzN s.H (s.F.getD i .any) with
    | none => rfl
    | some v => exact ih _
  all_goals rfl
def yFb (fn : AFunc) : Option (AExit × St) → Option (AV × Heap)
  | some (.normal,s) | some (.ret,s) => (xBZ fn.results s).map fun v => (v,s.H)
  | _ => none
noncomputable def xX5 (R : Rec) (fn : AFunc) (args : List AV) (H : Heap) : Option (AV × Heap) := yFb fn (xZp R fn.code (xMD fn args H))
theorem xRG (R : Rec) (fn : AFunc) (args : List AV) (H : Heap) : xX5 R fn args H = xB6 R fn args H := by
  unfold xX5 xB6
  rw [xVW]
  cases run R fn.code (xMD fn args H) with
  | none => rfl
  | some p => obtain ⟨e,s'⟩ := p; cases e <;> rfl
def yFc : Option (AV × Heap) → Option AV
  | some (r,H') => frz frzN H' r
  | none => Option.none
def xIM : List AV → Nat → List Nat → List AV
  | [],_,_ => []
  | v :: F,_,[] => v :: F
  | v :: F,i,s :: scr => if s = i then .any :: xIM F (i + 1) scr else v :: xIM F (i + 1) (s :: scr)
def asc : List Nat → Nat → Bool
  | [],_ => true
  | s :: r,lo => decide (lo ≤ s) && asc r (s + 1)
theorem xZq : ∀ {scr : List Nat} {lo : Nat},asc scr lo = true → ∀ s ∈ scr,lo ≤ s
  | [],_,_,s,h => by cases h
  | s0 :: r,lo,h,s,hs => by
    simp only [asc,Bool.and_eq_true,decide_eq_true_eq] at h
    rcases List.mem_cons.1 hs with rfl | hs
    · exact h.1
    · have := xZq h.2 s hs; omega
theorem yAE : ∀ {scr : List Nat} {lo lo' : Nat},asc scr lo = true → (∀ s ∈ scr,lo' ≤ s) → asc scr lo' = true
  | [],_,_,_,_ => rfl
  | s0 :: r,lo,lo',h,hl => by
    simp only [asc,Bool.and_eq_true,decide_eq_true_eq] at h ⊢
    exact ⟨hl s0 (by simp),h.2⟩
theorem xF3 : ∀ (F : List AV) (i : Nat) (scr : List Nat),asc scr i = true → ∀ j,(xIM F i scr)[j]? = if i + j ∈ scr then (F[j]?).map (fun _ => AV.any) else F[j]?
  | [],i,scr,h,j => by simp [xIM]
  | v :: F,i,[],h,j => by simp [xIM]
  | v :: F,i,s :: scr,h,j => by
    have h' := h
    simp only [asc,Bool.and_eq_true,decide_eq_true_eq] at h'
    unfold xIM
    by_cases e : s = i
    · subst e
      rw [if_pos rfl]
      cases j with
      | zero => simp
      | succ j =>
        rw [List.getElem?_cons_succ,xF3 F (s + 1) scr h'.2 j,List.getElem?_cons_succ]
        have : (s + 1 + j ∈ scr) ↔ (s + (j + 1) ∈ s :: scr) := by
          rw [show s + (j + 1) = s + 1 + j by omega,List.mem_cons]
          exact ⟨.inr,fun q => q.elim (fun q => by omega) id⟩
        simp only [this]
    · rw [if_neg e]
      have hm : ∀ x ∈ s :: scr,i + 1 ≤ x := fun x hx => by
        rcases List.mem_cons.1 hx with rfl | hx
        · omega
        · have := xZq h'.2 x hx; omega
      cases j with
      | zero =>
        have : ¬ (i + 0 ∈ s :: scr) := fun q => by have := hm _ q; omega
        rw [if_neg this]; rfl
      | succ j =>
        rw [List.getElem?_cons_succ,xF3 F (i + 1) (s :: scr) (yAE h hm) j,List.getElem?_cons_succ]
        simp only [show i + (j + 1) = i + 1 + j by omega]
def xRH (scr : List Nat) (F : List AV) : List AV := if asc scr 0 then xIM F 0 scr else xAY scr F
theorem xOO (scr : List Nat) (F : List AV) : xRH scr F = xAY scr F := by
  unfold xRH
  split
  · rename_i h
    apply List.ext_getElem?
    intro j
    rw [xF3 F 0 scr h j,xEs]
    simp only [Nat.zero_add]
  · rfl
noncomputable def xZr (R : Rec) (scr : List Nat) (b : ACode) : Option (AExit × St) → Option (AExit × St)
  | some (.normal,s') => R.loop scr b s'
  | some (e,s') => some (e,⟨xRH scr s'.F,s'.H⟩)
  | none => none
noncomputable def yCD (prog : Nat → Option AFunc) (R : Rec) (args : List AV) (H : Heap) : AV → Option (AV × Heap)
  | .func f caps => match prog f with
    | some fn => xX5 R fn (args ++ caps) H
    | none => Option.none
  | f => xDq prog R f args H
noncomputable def yAF (prog : Nat → Option AFunc) (R : Rec) : Rec where
  pcall f args := match prog f with
    | some fn => yFc (xX5 R fn args [])
    | none => primA f args
  icall f args H := yCD prog R args H f
  loop scr b s := fS (xRH scr s.F) fun F => xZr R scr b (xZp R b ⟨F,s.H⟩)
theorem xX6 (prog : Nat → Option AFunc) (R : Rec) : yAF prog R = xC0 prog R := by
  unfold yAF xC0
  congr 1
  · funext f args
    cases prog f with
    | none => rfl
    | some fn =>
      simp only [xA5,xRG]
      cases xB6 R fn args [] <;> rfl
  · funext f args H
    unfold yCD
    split
    · rename_i g caps
      simp only [xDq,xRG]
      cases prog g <;> rfl
    · rfl
  · funext scr b s
    simp only [xHB,xVW,xX2,xOO]
    cases run R b ⟨xAY scr s.F,s.H⟩ with
    | none => rfl
    | some p => obtain ⟨e,s'⟩ := p; cases e <;> simp only [xZr,xOO]
noncomputable def yC6 (prog : Nat → Option AFunc) (T : Known) : Nat → Rec
  | 0 => Rec.none
  | n + 1 => yAG T (yAF prog (yC6 prog T n))
theorem xVX (prog : Nat → Option AFunc) (T : Known) : ∀ n,yC6 prog T n = yAH prog T n
  | 0 => rfl
  | n + 1 => by rw [yC6,yAH,xX6,xVX prog T n]
noncomputable def xVY (prog : Nat → Option AFunc) (T : Known) (n f : Nat) (args : List AV) (v : AV) : Bool := match (yC6 prog T n).pcall f args with
  | some u => xIN 8 u v
  | none => false
theorem xSW {prog : Nat → Option AFunc} {T : Known} (hT : ∀ e ∈ T,(lim prog).pcall e.1 e.2.1 = some e.2.2) {n f : Nat} {args : List AV} {v : AV} (h : xVY prog T n f args v = true) : (lim prog).pcall f args = some v :=
  xVZ hT (n := n) (by unfold xVY at h; rw [xVX] at h; exact h)
end Go.Abs
