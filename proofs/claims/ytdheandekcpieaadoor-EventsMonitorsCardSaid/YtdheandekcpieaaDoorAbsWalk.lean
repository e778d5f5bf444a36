/- The interpreter's equations in the form that simp walks by: one equation for each construct,told apart by what has been computed already. -/
import Derived.Test.YtdheandekcpieaaDoorAbsLim
namespace Go.Abs
set_option linter.unusedVariables false
set_option linter.unusedSimpArgs false
theorem xEB : ∀ (scr : List Nat) (F : List AV) (i : Nat),(xAs scr F)[i]? = if i ∈ scr then (F[i]?).map (fun _ => AV.any) else F[i]?
 | [],F,i => by simp [xAs]
 | j :: scr,F,i => by
  have := xEB scr (F.set j .any) i
  simp only [xAs,List.foldl_cons] at this ⊢
  rw [this]
  by_cases h : i = j
  ·subst h
   simp only [List.getElem?_set_self',List.mem_cons,true_or,if_true]
   cases F[i]? <;> simp
  ·have h' : ¬ j = i := fun e => h e.symm
   simp [List.getElem?_set,h,h']
theorem xPa (scr : List Nat) (F : List AV) : xAs scr (xAs scr F) = xAs scr F := by
 apply List.ext_getElem?
 intro i
 rw [xEB,xEB]
 split
 ·cases F[i]? <;> rfl
 ·rfl
section
variable {prog : Nat → Option AFunc}
theorem xTL (prog : Nat → Option AFunc) (n : Nat) : Tends (fix prog n) (fun _ => lim prog) :=
 ⟨fun f a v h => .all fun _ => xES ((xFe prog n).pcall f a v h),fun f a H v h => .all fun _ => xES ((xFe prog n).icall f a H v h),fun scr b s v h => .all fun _ => xES ((xFe prog n).loop scr b s v h)⟩
theorem Ev.const {p : Prop} (h : Ev fun _ => p) : p := let ⟨n,hn⟩ := h; hn n (Nat.le_refl n)
theorem xTM {α : Type} {a b : Option α} (h1 : ∀ v,a = some v → b = some v) (h2 : ∀ v,b = some v → a = some v) : a = b := by
 cases a with
 | some v => exact (h1 v rfl).symm
 | none =>
  cases b with
  | none => rfl
  | some v => exact h2 v rfl
theorem xAg {f : Nat} {fn : AFunc} (hf : prog f = some fn) (args : List AV) : (lim prog).pcall f args = xAz (lim prog) fn args := by
 refine xTM (fun v h => ?_) (fun v h => xSC hf h)
 obtain ⟨n,hn⟩ := xCg (p := fun m => (fix prog m).pcall f args) h
 have h1 : (xC5 prog (fix prog n)).pcall f args = some v := hn (n + 1) (by omega)
 have h2 := (xBz (xTL prog n) prog).pcall f args v h1 |>.const
 simp only [xC5,hf] at h2
 exact h2
theorem xM4 (f : AV) (args : List AV) (H : Heap) : (lim prog).icall f args H = xDg prog (lim prog) f args H := by
 refine xTM (fun v h => ?_) (fun v h => xSD h)
 obtain ⟨n,hn⟩ := xCg (p := fun m => (fix prog m).icall f args H) h
 have h1 : (xC5 prog (fix prog n)).icall f args H = some v := hn (n + 1) (by omega)
 exact (xBz (xTL prog n) prog).icall f args H v h1 |>.const
theorem xE2 (scr : List Nat) (b : ACode) (s : St) : (lim prog).loop scr b s = xHV (lim prog) scr b s := by
 refine xTM (fun v h => ?_) (fun v h => xWA h)
 obtain ⟨n,hn⟩ := xCg (p := fun m => (fix prog m).loop scr b s) h
 have h1 : (xC5 prog (fix prog n)).loop scr b s = some v := hn (n + 1) (by omega)
 exact (xBz (xTL prog n) prog).loop scr b s v h1 |>.const
theorem xAk {f : Nat} {fn : AFunc} (hf : prog f = some fn) (caps args : List AV) (H : Heap) : (lim prog).icall (.func f caps) args H = xA5 (lim prog) fn (args ++ caps) H := by
 rw [xM4]
 simp only [xDg,hf]
theorem xEK (scr : List Nat) (b : ACode) (F : List AV) (H : Heap) : (lim prog).loop scr b ⟨F,H⟩ = (lim prog).loop scr b ⟨xAs scr F,H⟩ := by
 rw [xE2,xE2]
 unfold xHV
 simp only [xPa]
def xAW (R : Rec) (scr : List Nat) (b : ACode) : Option (AExit × St) → Option (AExit × St)
 | some (.normal,s) => R.loop scr b ⟨xAs scr s.F,s.H⟩
 | some (e,s) => some (e,⟨xAs scr s.F,s.H⟩)
 | none => none
theorem xAe (scr : List Nat) (b : ACode) (F : List AV) (H : Heap) (h : xAs scr F = F) : (lim prog).loop scr b ⟨F,H⟩ = xAW (lim prog) scr b (run (lim prog) b ⟨F,H⟩) := by
 rw [xE2]
 unfold xHV xAW
 simp only [h]
 split
 ·rename_i s' hs
  rw [hs]
  exact xEK scr b s'.F s'.H
 ·rename_i e s' hne hs
  rw [hs]
  cases e with
  | normal => exact (hne rfl).elim
  | exit i => rfl
  | ret => rfl
 ·rename_i hs
  rw [hs]
theorem xQe (scr : List Nat) (b : ACode) (F : List AV) (H : Heap) : run (lim prog) (.loop scr b) ⟨F,H⟩ = (lim prog).loop scr b ⟨xAs scr F,H⟩ := xEK scr b F H
end
section
variable {R : Rec} {F : List AV} {H : Heap} {s : St}
def xWw (R : Rec) (b : ACode) : Option (AExit × St) → Option (AExit × St)
 | some (.normal,s) => run R b s
 | r => r
theorem xTN (a b : ACode) : run R (.seq a b) s = xWw R b (run R a s) := by
 simp only [run,xWw]
 split <;> simp_all
theorem xH4 (b : ACode) (s : St) : xWw R b (some (.normal,s)) = run R b s := rfl
theorem xM5 (b : ACode) (i : Nat) (s : St) : xWw R b (some (.exit i,s)) = some (.exit i,s) := rfl
theorem xQf (b : ACode) (s : St) : xWw R b (some (.ret,s)) = some (.ret,s) := rfl
theorem xM6 (b : ACode) : xWw R b none = none := rfl
theorem xQg (b : ACode) {c : Prop} [Decidable c] (x y : Option (AExit × St)) : xWw R b (if c then x else y) = if c then xWw R b x else xWw R b y := by split <;> rfl
def xZ1 (R : Rec) (a b : ACode) (s : St) : AV → Option (AExit × St)
 | .bool t => if t = true then run R a s else run R b s
 | _ => none
theorem xQh (c : Arg) (a b : ACode) (F : List AV) (H : Heap) : run R (.cond c a b) ⟨F,H⟩ = xZ1 R a b ⟨F,H⟩ (opv F c) := by
 simp only [run,xZ1]
 split <;> simp_all
theorem xJP (a b : ACode) (t : Bool) : xZ1 R a b s (.bool t) = if t = true then run R a s else run R b s := rfl
def xFw (id : Nat) : Option (AExit × St) → Option (AExit × St)
 | some (.exit i,s) => if i = id then some (.normal,s) else some (.exit i,s)
 | r => r
theorem xM7 (id : Nat) (b : ACode) : run R (.block id b) s = xFw id (run R b s) := by
 simp only [run,xFw]
 split <;> simp_all
theorem xH5 (id i : Nat) (s : St) : xFw id (some (.exit i,s)) = if i = id then some (.normal,s) else some (.exit i,s) := rfl
theorem xFx (id : Nat) (s : St) : xFw id (some (.normal,s)) = some (.normal,s) := rfl
theorem xJQ (id : Nat) (s : St) : xFw id (some (.ret,s)) = some (.ret,s) := rfl
theorem xJR (id : Nat) {c : Prop} [Decidable c] (x y : Option (AExit × St)) : xFw id (if c then x else y) = if c then xFw id x else xFw id y := by split <;> rfl
theorem xGQ (scr : List Nat) (b : ACode) (F : List AV) (H : Heap) : xAW R scr b (some (.normal,⟨F,H⟩)) = R.loop scr b ⟨xAs scr F,H⟩ := rfl
theorem xJS (scr : List Nat) (b : ACode) (i : Nat) (F : List AV) (H : Heap) : xAW R scr b (some (.exit i,⟨F,H⟩)) = some (.exit i,⟨xAs scr F,H⟩) := rfl
theorem xM8 (scr : List Nat) (b : ACode) (F : List AV) (H : Heap) : xAW R scr b (some (.ret,⟨F,H⟩)) = some (.ret,⟨xAs scr F,H⟩) := rfl
theorem xM9 (scr : List Nat) (b : ACode) {c : Prop} [Decidable c] (x y : Option (AExit × St)) : xAW R scr b (if c then x else y) = if c then xAW R scr b x else xAW R scr b y := by split <;> rfl
def xWx : Option St → Option (AExit × St)
 | some s => some (.normal,s)
 | none => none
theorem xNa (s : St) : xWx (some s) = some (.normal,s) := rfl
theorem xNb : xWx none = none := rfl
theorem xQi {c : Prop} [Decidable c] (x y : Option St) : xWx (if c then x else y) = if c then xWx x else xWx y := by split <;> rfl
theorem xJT (ops : List AOper) : run R (.region ops) s = xWx (xAr R ops s) := by
 simp only [run,xWx]
 cases xAr R ops s <;> rfl
theorem xQj : run R .skip s = some (.normal,s) := rfl
theorem xQk (i : Nat) : run R (.exit i) s = some (.exit i,s) := rfl
theorem xTO : run R .ret s = some (.ret,s) := rfl
def xZ2 (R : Rec) (rest : List AOper) : Option St → Option St
 | some s => xAr R rest s
 | none => none
theorem xJU : xAr R [] s = some s := rfl
theorem xE3 (o : AOper) (rest : List AOper) : xAr R (o :: rest) s = xZ2 R rest (xAy R o s) := by
 simp only [xAr,xZ2]
 cases xAy R o s <;> rfl
theorem xH6 (rest : List AOper) (s : St) : xZ2 R rest (some s) = xAr R rest s := rfl
theorem xNc (rest : List AOper) : xZ2 R rest none = none := rfl
theorem xQl (rest : List AOper) {c : Prop} [Decidable c] (x y : Option St) : xZ2 R rest (if c then x else y) = if c then xZ2 R rest x else xZ2 R rest y := by split <;> rfl
def xTP (F : List AV) (d : Option Nat) : Option (AV × Heap) → Option St
 | some (v,H) => some ⟨putA F d v,H⟩
 | none => none
theorem xTQ (d : Nat) (v : AV) : xTP F (some d) (some (v,H)) = some ⟨F.set d v,H⟩ := rfl
theorem xTR (v : AV) : xTP F none (some (v,H)) = some ⟨F,H⟩ := rfl
theorem xNd (d : Option Nat) : xTP F d none = none := rfl
theorem xQm (d : Option Nat) {c : Prop} [Decidable c] (x y : Option (AV × Heap)) : xTP F d (if c then x else y) = if c then xTP F d x else xTP F d y := by split <;> rfl
theorem xNe (d : Option Nat) (op : AOp) : xAy R ⟨d,op,none⟩ ⟨F,H⟩ = xTP F d (xAa R F H op) := by
 simp only [xAy,xBO,xTP]
 cases xAa R F H op <;> rfl
def xQn (R : Rec) (d : Option Nat) (op : AOp) (w : Bool) (F : List AV) (H : Heap) : AV → Option St
 | .bool b => if b = w then xTP F d (xAa R F H op) else some ⟨putA F d (.tup []),H⟩
 | .any => none
 | _ => some ⟨putA F d (.tup []),H⟩
theorem xJV (d : Option Nat) (op : AOp) (t : Nat) (w : Bool) : xAy R ⟨d,op,some (t,w)⟩ ⟨F,H⟩ = xQn R d op w F H (F.getD t .any) := by
 simp only [xAy,xBO,xQn]
 cases F.getD t .any with
 | bool b =>
  cases b <;> cases w <;> simp [xTP] <;> cases xAa R F H op <;> rfl
 | _ => rfl
theorem xH7 (d : Option Nat) (op : AOp) (w b : Bool) : xQn R d op w F H (.bool b) = if b = w then xTP F d (xAa R F H op) else some ⟨putA F d (.tup []),H⟩ := rfl
theorem xJW (d : Option Nat) (op : AOp) (w : Bool) (vs : List AV) : xQn R d op w F H (.tup vs) = some ⟨putA F d (.tup []),H⟩ := rfl
theorem xTS (d : Nat) (v : AV) : putA F (some d) v = F.set d v := rfl
def xZ3 (R : Rec) (m : Nat) (ops : List AOper) : Option St → Option (AExit × St)
 | some s => xWx (xAr R (ops.drop m) (adopt (ops.take m) s))
 | none => none
theorem xQo (m : Nat) (ops : List AOper) : run R (.draw m ops) s = xZ3 R m ops (xBb R (ops.take m) s) := by
 simp only [run,xZ3]
 cases xBb R (ops.take m) s with
 | none => rfl
 | some s1 =>
  simp only [xWx]
  cases xAr R (ops.drop m) (adopt (ops.take m) s1) <;> rfl
theorem xJX (m : Nat) (ops : List AOper) (s : St) : xZ3 R m ops (some s) = xWx (xAr R (ops.drop m) (adopt (ops.take m) s)) := rfl
def xGR (ls : List (Nat × Nat × Nat × Nat)) : Option St → Option (AExit × St)
 | some s => if ls.all (apart s.F) = true then some (.normal,s) else none
 | none => none
def xTT (R : Rec) (ls : List (Nat × Nat × Nat × Nat)) (m : Nat) (ops : List AOper) : Option St → Option (AExit × St)
 | some s => xGR ls (xAr R (ops.drop m) (adopt (ops.take m) s))
 | none => none
theorem xNf (ls : List (Nat × Nat × Nat × Nat)) (m : Nat) (ops : List AOper) : run R (.drawl ls m ops) s = xTT R ls m ops (xBb R (ops.take m) s) := by
 simp only [run,xTT]
 cases xBb R (ops.take m) s with
 | none => rfl
 | some s1 =>
  simp only [xGR]
  cases xAr R (ops.drop m) (adopt (ops.take m) s1) <;> rfl
theorem xH8 (ls : List (Nat × Nat × Nat × Nat)) (m : Nat) (ops : List AOper) (s : St) : xTT R ls m ops (some s) = xGR ls (xAr R (ops.drop m) (adopt (ops.take m) s)) := rfl
theorem xH9 (ls : List (Nat × Nat × Nat × Nat)) (s : St) : xGR ls (some s) = if ls.all (apart s.F) = true then some (.normal,s) else none := rfl
def xZ4 (R : Rec) (rest : List AOper) : Option St → Option St
 | some s => xBb R rest s
 | none => none
theorem xIa : xBb R [] s = some s := rfl
theorem xGS (o : AOper) (rest : List AOper) : xBb R (o :: rest) s = xZ4 R rest (xAK R o s) := by
 simp only [xBb,xZ4]
 cases xAK R o s <;> rfl
theorem xJY (rest : List AOper) (s : St) : xZ4 R rest (some s) = xBb R rest s := rfl
def xSh (F : List AV) (d : Option Nat) (H : Heap) : Option (AV × Heap) → Option St
 | some (v,_) => some ⟨putA F d v,H⟩
 | none => none
theorem xQp (d : Nat) (v : AV) (H' : Heap) : xSh F (some d) H (some (v,H')) = some ⟨F.set d v,H⟩ := rfl
def xBo (R : Rec) (F : List AV) (H : Heap) (op : AOp) : Option (AV × Heap) := (xAt R F H op).map fun v => (v,H)
theorem xJZ (d : Option Nat) (op : AOp) : xAK R ⟨d,op,none⟩ ⟨F,H⟩ = xSh F d H (xBo R F H op) := by
 simp only [xAK,xBO,xSh,xBo]
 cases xAt R F H op <;> rfl
def xPb (R : Rec) (d : Option Nat) (op : AOp) (w : Bool) (F : List AV) (H : Heap) : AV → Option St
 | .bool b => if b = w then xSh F d H (xBo R F H op) else some ⟨putA F d (.tup []),H⟩
 | .any => none
 | _ => some ⟨putA F d (.tup []),H⟩
theorem xIb (d : Option Nat) (op : AOp) (t : Nat) (w : Bool) : xAK R ⟨d,op,some (t,w)⟩ ⟨F,H⟩ = xPb R d op w F H (F.getD t .any) := by
 simp only [xAK,xBO,xPb]
 cases F.getD t .any with
 | bool b =>
  cases b <;> cases w <;> simp [xSh,xBo] <;> cases xAt R F H op <;> rfl
 | _ => rfl
theorem xGT (d : Option Nat) (op : AOp) (w b : Bool) : xPb R d op w F H (.bool b) = if b = w then xSh F d H (xBo R F H op) else some ⟨putA F d (.tup []),H⟩ := rfl
def xDl (H : Heap) : Option AV → Option (AV × Heap)
 | some v => some (v,H)
 | none => none
theorem xNg (v : AV) : xDl H (some v) = some (v,H) := rfl
theorem xYs (x : Arg) : xAa R F H (.mov x) = some (opv F x,H) := rfl
def xZ5 : AV → AV → AV → Option AV
 | .bool t,a,b => some (if t = true then a else b)
 | _,_,_ => none
theorem xJ0 (t : Bool) (a b : AV) : xZ5 (.bool t) a b = some (if t = true then a else b) := rfl
theorem xTU (c a b : Arg) : xAa R F H (.pick c a b) = xDl H (xZ5 (opv F c) (opv F a) (opv F b)) := by
 simp only [xAa,xZ5,xDl]
 split <;> simp_all
theorem xYt (x : Arg) : xAa R F H (.box x) = if (opv F x).cells.all AV.isCell = true then some (.ptr H.length 0,H ++ [.cells false false (opv F x).cells]) else none := rfl
theorem xQq (z : List AV) (parts : List (Nat × Nat × Arg)) : xAa R F H (.build z parts) =
  if parts.all (fun p => (opv F p.2.2).cells.length == p.2.1) = true then xDl H ((fillA z (parts.map fun p => (p.1,(opv F p.2.2).cells))).map AV.agg) else none := by
 simp only [xAa,xDl]
 split
 ·cases fillA z (parts.map fun p => (p.1,(opv F p.2.2).cells)) <;> rfl
 ·rfl
def yEb (fz z : Bool) (n es : Nat) (H : Heap) : Option (List AV) → Option (AV × Heap)
 | some cs => xEh fz z n es cs H
 | none => none
theorem xNh (fz z : Bool) (n es : Nat) (cs : List AV) : yEb fz z n es H (some cs) = xEh fz z n es cs H := rfl
theorem xQr (z : Bool) (n es : Nat) (cs : List AV) : xEh false z n es cs H = some (.own z H.length 0 n es,H ++ [.cells false z cs]) := rfl
def slK (z : Bool) (n : Nat) : Option (List AV) → Option AV
 | some cs => some (.sl z n cs)
 | none => none
theorem xQs (z : Bool) (n : Nat) (cs : List AV) : slK z n (some cs) = some (.sl z n cs) := rfl
theorem xNi (z : Bool) (n es : Nat) (cs : List AV) : xEh true z n es cs H = if (cs.flatMap (bor frzN H)).isEmpty = true then xDl H (slK z n (cs.mapM (frz frzN H))) else none := by
 simp only [xEh,xDl,slK]
 split
 ·rename_i h
  cases cs.mapM (frz frzN H) <;> simp_all
 ·simp_all
theorem xNj (fz : Bool) (z : List AV) (es n : Nat) (parts : List (Nat × Arg)) : xAa R F H (.bslice fz z es n parts) =
  if parts.all (fun p => (opv F p.2).cells.length == es) = true then yEb fz false n es H (fillA (xCp z n) (parts.map fun p => (p.1 * es,(opv F p.2).cells))) else none := by
 simp only [xAa,yEb]
 split
 ·cases fillA (xCp z n) (parts.map fun p => (p.1 * es,(opv F p.2).cells)) <;> rfl
 ·rfl
def xXm (g : Bool) : Option (List AV) → Option AV
 | some cs => mkv g cs
 | none => none
theorem xTV (v : AV) : xXm false (some [v]) = some v := rfl
theorem xTW (cs : List AV) : xXm true (some cs) = some (.agg cs) := rfl
theorem xTX (g : Bool) (n : Nat) (p : Arg) : xAa R F H (.load g n p) = xDl H (xXm g (rd H (opv F p) n)) := by
 simp only [xAa,xDl,xXm]
 cases rd H (opv F p) n with
 | none => rfl
 | some cs => simp only; cases mkv g cs <;> rfl
def rdK (off n : Nat) : Option Blk → Option (List AV)
 | some (.cells _ _ cs) => if off + n ≤ cs.length then some ((cs.drop off).take n) else none
 | _ => none
theorem xYu (id off n : Nat) : rd H (.ptr id off) n = rdK off n H[id]? := by
 simp only [rd,rdK]
 rfl
theorem xNk {off n : Nat} {fz z : Bool} {cs : List AV} (h : off + n ≤ cs.length) : rdK off n (some (.cells fz z cs)) = some ((cs.drop off).take n) := if_pos h
theorem xTY {off n : Nat} {cs : List AV} (h : off + n ≤ cs.length) : rd H (.vptr cs off) n = some ((cs.drop off).take n) := if_pos h
def wrK (H : Heap) (id off : Nat) (vs : List AV) : Option Blk → Option Heap
 | some (.cells false z cs) => if off + vs.length ≤ cs.length ∧ vs.all AV.isCell = true then some (H.set id (.cells false z (splice cs off vs))) else none
 | _ => none
theorem xYv (id off : Nat) (vs : List AV) : wr H (.ptr id off) vs = wrK H id off vs H[id]? := by
 simp only [wr,wrK]
 rfl
theorem xIc {id off : Nat} {vs : List AV} {z : Bool} {cs : List AV} (h : off + vs.length ≤ cs.length) (h2 : vs.all AV.isCell = true) : wrK H id off vs (some (.cells false z cs)) = some (H.set id (.cells false z (splice cs off vs))) := if_pos ⟨h,h2⟩
def xTZ : Option Heap → Option (AV × Heap)
 | some H => some (.tup [],H)
 | none => none
theorem xId (H : Heap) : xTZ (some H) = some (.tup [],H) := rfl
theorem xQt (n : Nat) (p v : Arg) : xAa R F H (.store n p v) = if (opv F v).cells.length = n then xTZ (wr H (opv F p) (opv F v).cells) else none := by
 simp only [xAa,xTZ]
 split
 ·cases wr H (opv F p) (opv F v).cells <;> rfl
 ·rfl
def yEc : AV → Option AV
 | .ptr id off => some (.ptr id off)
 | .vptr cs off => some (.vptr cs off)
 | .func f caps => some (.func f caps)
 | .yield l => some (.yield l)
 | _ => none
theorem xQu (id off : Nat) : yEc (.ptr id off) = some (.ptr id off) := rfl
theorem xNl (cs : List AV) (off : Nat) : yEc (.vptr cs off) = some (.vptr cs off) := rfl
theorem xNm (x : Arg) : xAa R F H (.nilchk x) = xDl H (yEc (opv F x)) := by
 simp only [xAa]
 cases opv F x <;> rfl
theorem xYw (op : BinOp) (x y : Arg) : xAa R F H (.bin op x y) = xDl H (xEg op (opv F x) (opv F y)) := by
 simp only [xAa,xDl]
 cases xEg op (opv F x) (opv F y) <;> rfl
section
variable (k : IntKind) (a b : Int)
theorem xT0 : xEg .add (.int k a) (.int k b) = some (.int k (k.wrap (a + b))) := by simp [xEg]
theorem xT1 : xEg .sub (.int k a) (.int k b) = some (.int k (k.wrap (a - b))) := by simp [xEg]
theorem xT2 : xEg .mul (.int k a) (.int k b) = some (.int k (k.wrap (a * b))) := by simp [xEg]
theorem xT3 (h : b ≠ 0) : xEg .quo (.int k a) (.int k b) = some (.int k (k.wrap (a.tdiv b))) := by simp [xEg,h]
theorem xT4 (h : b ≠ 0) : xEg .rem (.int k a) (.int k b) = some (.int k (a.tmod b)) := by simp [xEg,h]
theorem xT5 : xEg .and (.int k a) (.int k b) = some (.int k (xDR .and k a b)) := by simp [xEg]
theorem xYx : xEg .or (.int k a) (.int k b) = some (.int k (xDR .or k a b)) := by simp [xEg]
theorem xT6 (k' : IntKind) (h : 0 ≤ b) : xEg .shl (.int k a) (.int k' b) = some (.int k (k.wrap (a * 2 ^ (min b.toNat k.bits)))) := by simp only [xEg]; rw [if_neg (by omega)]
theorem xT7 (k' : IntKind) (h : 0 ≤ b) : xEg .shr (.int k a) (.int k' b) = some (.int k (a.fdiv (2 ^ (min b.toNat k.bits)))) := by simp only [xEg]; rw [if_neg (by omega)]
theorem xT8 : xEg .eql (.int k a) (.int k b) = some (.bool (decide (a = b))) := by simp [xEg]; rfl
theorem xT9 : xEg .neq (.int k a) (.int k b) = some (.bool (!decide (a = b))) := by simp [xEg]; rfl
theorem xUa : xEg .lss (.int k a) (.int k b) = some (.bool (decide (a < b))) := by simp [xEg]
theorem xUb : xEg .leq (.int k a) (.int k b) = some (.bool (decide (a ≤ b))) := by simp [xEg]
theorem xUc : xEg .gtr (.int k a) (.int k b) = some (.bool (decide (b < a))) := by simp [xEg]
theorem xUd : xEg .geq (.int k a) (.int k b) = some (.bool (decide (b ≤ a))) := by simp [xEg]
end
def yFw (neg : Bool) : AV → AV → Option AV
 | .bool a,.bool b => some (.bool (if neg = true then a != b else a == b))
 | _,_ => none
theorem xYy (a b : Bool) : yFw true (.bool a) (.bool b) = some (.bool (!decide (a = b))) := by cases a <;> cases b <;> rfl
theorem xYz (neg : Bool) (x y : Arg) : xAa R F H (.beq neg x y) = xDl H (yFw neg (opv F x) (opv F y)) := by
 simp only [xAa]
 cases opv F x <;> cases opv F y <;> rfl
def xUe (neg : Bool) : AV → Option AV
 | .sl z _ _ => some (.bool (z != neg))
 | .own z _ _ _ _ => some (.bool (z != neg))
 | _ => none
theorem xJ1 (z : Bool) (n : Nat) (cs : List AV) : xUe false (.sl z n cs) = some (.bool z) := by cases z <;> rfl
theorem xIe (z : Bool) (id off n es : Nat) : xUe false (.own z id off n es) = some (.bool z) := by cases z <;> rfl
theorem xQv (neg : Bool) (x : Arg) : xAa R F H (.isnil neg x) = xDl H (xUe neg (opv F x)) := by
 simp only [xAa]
 cases opv F x <;> rfl
theorem yCa (op : UnOp) (x : Arg) : xAa R F H (.un op x) = xDl H (unA op (opv F x)) := by
 simp only [xAa,xDl]
 cases unA op (opv F x) <;> rfl
theorem xYA (b : Bool) : unA .not (.bool b) = some (.bool !b) := rfl
theorem xYB (k : IntKind) (n : Int) : unA .xor (.int k n) = some (.int k (xDR .xor k (if k.signed then -1 else k.max) n)) := rfl
def yCb (k : IntKind) : AV → Option AV
 | .int _ n => some (.int k (k.wrap n))
 | _ => none
theorem xNn (k k' : IntKind) (n : Int) : yCb k (.int k' n) = some (.int k (k.wrap n)) := rfl
theorem xUf (k : IntKind) (x : Arg) : xAa R F H (.conv k x) = xDl H (yCb k (opv F x)) := by
 simp only [xAa]
 cases opv F x <;> rfl
theorem xNo (f : Nat) (caps : List Arg) : xAa R F H (.mkfunc f caps) = some (.func f (caps.map (opv F)),H) := rfl
def yFx (fz : Bool) (z : List AV) (bytes : Nat) (H : Heap) : AV → AV → Option (AV × Heap)
 | .int _ l,.int _ c => if 0 ≤ l ∧ l ≤ c ∧ c * bytes ≤ xA1 ∧ c ≤ xA1 ∧ z.all AV.isCell = true then xEh fz false l.toNat z.length (xCp z l.toNat) H else none
 | _,_ => none
theorem xQw (fz : Bool) (z : List AV) (bytes : Nat) (k k' : IntKind) {l c : Int} (h1 : 0 ≤ l) (h2 : l ≤ c) (h3 : c * bytes ≤ 140737488355328) (h4 : c ≤ 140737488355328) (h5 : z.all AV.isCell = true) : yFx fz z bytes H (.int k l) (.int k' c) = xEh fz false l.toNat z.length (xCp z l.toNat) H := if_pos ⟨h1,h2,h3,h4,h5⟩
theorem xJ2 (fz : Bool) (z : List AV) (bytes : Nat) (l c : Arg) : xAa R F H (.mkslice fz z bytes l c) = yFx fz z bytes H (opv F l) (opv F c) := by
 simp only [xAa]
 cases opv F l <;> cases opv F c <;> rfl
def xZ6 (es : Nat) (H : Heap) (x : AV) : Option (Nat × Nat) → Option AV
 | none => none
 | some (l,h) => match x with
  | .sl z _ cs => some (.sl z (h - l) ((cs.drop (l * es)).take ((h - l) * es)))
  | .own z id off _ _ => some (.own z id (off + l * es) (h - l) es)
  | _ => none
def xQx (es : Nat) (H : Heap) (lo hi mx : Option AV) : AV → Option AV
 | .sl z n cs => if cs.length = n * es then xZ6 es H (.sl z n cs) (xBn n lo hi mx) else none
 | .own z id off n es' => if es' = es then xZ6 es H (.own z id off n es') (xBn n lo hi mx) else none
 | _ => none
theorem xQy (es : Nat) (x : Arg) (lo hi mx : Option Arg) : xAa R F H (.slice es x lo hi mx) = xDl H (xQx es H (lo.map (opv F)) (hi.map (opv F)) (mx.map (opv F)) (opv F x)) := by
 simp only [xAa,xDl,xQx,xZ6]
 cases opv F x with
 | sl z n cs =>
  simp only
  split
  ·cases xBn n (lo.map (opv F)) (hi.map (opv F)) (mx.map (opv F)) <;> rfl
  ·rfl
 | own z id off n es' =>
  simp only
  split
  ·cases xBn n (lo.map (opv F)) (hi.map (opv F)) (mx.map (opv F)) <;> rfl
  ·rfl
 | _ => rfl
theorem xNp {es n : Nat} {z : Bool} {cs : List AV} (lo hi mx : Option AV) (h : cs.length = n * es) : xQx es H lo hi mx (.sl z n cs) = xZ6 es H (.sl z n cs) (xBn n lo hi mx) := if_pos h
theorem xJ3 {es n id off : Nat} {z : Bool} (lo hi mx : Option AV) : xQx es H lo hi mx (.own z id off n es) = xZ6 es H (.own z id off n es) (xBn n lo hi mx) := if_pos rfl
theorem xUg (es : Nat) (z : Bool) (n : Nat) (cs : List AV) (l h : Nat) : xZ6 es H (.sl z n cs) (some (l,h)) = some (.sl z (h - l) ((cs.drop (l * es)).take ((h - l) * es))) := rfl
theorem xQz (es : Nat) (z : Bool) (id off n es' : Nat) (l h : Nat) : xZ6 es H (.own z id off n es') (some (l,h)) = some (.own z id (off + l * es) (h - l) es) := rfl
theorem xNq {n : Nat} {k : IntKind} {l : Int} (h0 : 0 ≤ l) (h : l ≤ n) : xBn n (some (.int k l)) none none = some (l.toNat,n) := by
 simp only [xBn,xBq,if_pos h0]
 rw [if_pos ⟨by omega,by omega⟩]
theorem xFy {n : Nat} {k : IntKind} {m : Int} (h0 : 0 ≤ m) (h : m ≤ n) : xBn n none (some (.int k m)) none = some (0,m.toNat) := by
 simp only [xBn,xBq,if_pos h0]
 rw [if_pos ⟨by omega,by omega⟩]
def xUh (o : Nat) : AV → Option AV
 | .ptr id off => some (.ptr id (off + o))
 | .vptr cs off => some (.vptr cs (off + o))
 | _ => none
theorem xJ4 (o id off : Nat) : xUh o (.ptr id off) = some (.ptr id (off + o)) := rfl
theorem xIf (o : Nat) (cs : List AV) (off : Nat) : xUh o (.vptr cs off) = some (.vptr cs (off + o)) := rfl
theorem xQA (o : Nat) (x : Arg) : xAa R F H (.faddr o x) = xDl H (xUh o (opv F x)) := by
 simp only [xAa]
 cases opv F x <;> rfl
def xUi (g : Bool) (off n : Nat) : AV → Option AV
 | .agg cs => if off + n ≤ cs.length then mkv g ((cs.drop off).take n) else none
 | _ => none
theorem xJ5 {g : Bool} {off n : Nat} {cs : List AV} (h : off + n ≤ cs.length) : xUi g off n (.agg cs) = mkv g ((cs.drop off).take n) := if_pos h
theorem yCc (v : AV) : mkv false [v] = some v := rfl
theorem yCd (cs : List AV) : mkv true cs = some (.agg cs) := rfl
theorem xQB (g : Bool) (off n : Nat) (x : Arg) : xAa R F H (.field g off n x) = xDl H (xUi g off n (opv F x)) := by
 simp only [xAa]
 cases opv F x with
 | agg cs =>
  simp only [xUi,xDl]
  split
  ·cases mkv g ((cs.drop off).take n) <;> rfl
  ·rfl
 | _ => rfl
def xJ6 (es : Nat) : AV → AV → Option AV
 | .sl _ n cs,.int _ i => if 0 ≤ i ∧ i.toNat < n then some (.vptr cs (i.toNat * es)) else none
 | .own _ id off n es',.int _ i => if 0 ≤ i ∧ i.toNat < n ∧ es' = es then some (.ptr id (off + i.toNat * es)) else none
 | _,_ => none
theorem xNr {es n : Nat} {z : Bool} {cs : List AV} {k : IntKind} {i : Int} (h0 : 0 ≤ i) (h : i < n) : xJ6 es (.sl z n cs) (.int k i) = some (.vptr cs (i.toNat * es)) := if_pos ⟨h0,by omega⟩
theorem xJ7 {es n id off : Nat} {z : Bool} {k : IntKind} {i : Int} (h0 : 0 ≤ i) (h : i < n) : xJ6 es (.own z id off n es) (.int k i) = some (.ptr id (off + i.toNat * es)) := if_pos ⟨h0,by omega,rfl⟩
theorem xQC (es : Nat) (x i : Arg) : xAa R F H (.iaddr es x i) = xDl H (xJ6 es (opv F x) (opv F i)) := by
 simp only [xAa]
 cases opv F x with
 | sl z n cs =>
  cases opv F i with
  | int k j =>
   simp only [xBq,xJ6,xDl]
   by_cases h : 0 ≤ j
   ·by_cases h2 : j.toNat < n <;> simp [h,h2]
   ·simp [h]
  | _ => rfl
 | own z id off n es' =>
  cases opv F i with
  | int k j =>
   simp only [xBq,xJ6,xDl]
   by_cases h : 0 ≤ j
   ·by_cases h2 : j.toNat < n
    ·by_cases h3 : es' = es <;> simp [h,h2,h3]
    ·simp [h,h2]
   ·simp [h]
  | _ => rfl
 | _ => cases opv F i <;> simp [xJ6,xDl,xBq] <;> split <;> simp_all
def yEd (i : Nat) : AV → Option AV
 | .tup vs => vs[i]?
 | _ => none
theorem xQD (i : Nat) (vs : List AV) : yEd i (.tup vs) = vs[i]? := rfl
theorem xYC (i : Nat) (x : Arg) : xAa R F H (.ext i x) = xDl H (yEd i (opv F x)) := by
 simp only [xAa]
 cases opv F x with
 | tup vs => simp only [yEd,xDl]; cases vs[i]? <;> rfl
 | _ => rfl
def yEe : AV → Option AV
 | .sl _ n _ => some (.int .i64 n)
 | .own _ _ _ n _ => some (.int .i64 n)
 | _ => none
theorem xUj (z : Bool) (n : Nat) (cs : List AV) : yEe (.sl z n cs) = some (.int .i64 n) := rfl
theorem xQE (z : Bool) (id off n es : Nat) : yEe (.own z id off n es) = some (.int .i64 n) := rfl
theorem xYD (x : Arg) : xAa R F H (.len x) = xDl H (yEe (opv F x)) := by
 simp only [xAa]
 cases opv F x <;> rfl
def yCe (fz : Bool) (es bytes : Nat) (H : Heap) (x : AV) : Option (Nat × List AV) → Option (AV × Heap)
 | none => none
 | some (m,ys) => match x with
  | .sl true _ _ => if m * bytes ≤ xA1 ∧ m ≤ xA1 then xEh fz (m == 0) m es ys H else none
  | .own z id off n es' => match H[id]? with
   | some (.cells false _ cs) => if off = 0 ∧ es' = es ∧ n * es ≤ cs.length ∧ (n + m) * bytes ≤ xA1 ∧ n + m ≤ xA1 then
     some (.own (z && m == 0) H.length 0 (n + m) es,H.set id .dead ++ [.cells false (z && m == 0) (cs.take (n * es) ++ ys)]) else none
   | _ => none
  | _ => none
theorem xNs (fz : Bool) (es bytes : Nat) (x y : Arg) : xAa R F H (.append fz es bytes x y) = yCe fz es bytes H (opv F x) (src H es (opv F y)) := by
 simp only [xAa,yCe]
 cases src H es (opv F y) <;> rfl
theorem xQF {fz : Bool} {es bytes n m : Nat} {cs ys : List AV} (h : m * bytes ≤ 140737488355328) (h2 : m ≤ 140737488355328) : yCe fz es bytes H (.sl true n cs) (some (m,ys)) = xEh fz (m == 0) m es ys H := if_pos ⟨h,h2⟩
def xZ7 (es bytes n m : Nat) (H : Heap) (z : Bool) (id : Nat) (ys : List AV) : Option Blk → Option (AV × Heap)
 | some (.cells false _ cs) => if n * es ≤ cs.length ∧ (n + m) * bytes ≤ xA1 ∧ n + m ≤ xA1 then
   some (.own (z && m == 0) H.length 0 (n + m) es,H.set id .dead ++ [.cells false (z && m == 0) (cs.take (n * es) ++ ys)]) else none
 | _ => none
theorem xQG (fz : Bool) (es bytes n m id : Nat) (z : Bool) (ys : List AV) : yCe fz es bytes H (.own z id 0 n es) (some (m,ys)) = xZ7 es bytes n m H z id ys H[id]? := by
 simp only [yCe,xZ7]
 split
 ·rename_i z' cs hb
  by_cases h : n * es ≤ cs.length ∧ (n + m) * bytes ≤ xA1 ∧ n + m ≤ xA1
  ·rw [if_pos h,if_pos ⟨trivial,trivial,h⟩]
  ·rw [if_neg h,if_neg (fun g => h g.2.2)]
 ·rename_i hne
  cases hb : H[id]? with
  | none => rfl
  | some b => cases b with
   | cells fz z cs => cases fz with
    | false => exact (hne _ _ hb).elim
    | true => rfl
   | _ => rfl
theorem xIg {es bytes n m id : Nat} {z z' : Bool} {ys cs : List AV} (h : n * es ≤ cs.length) (h2 : (n + m) * bytes ≤ 140737488355328) (h3 : n + m ≤ 140737488355328) : xZ7 es bytes n m H z id ys (some (.cells false z' cs)) =
  some (.own (z && m == 0) H.length 0 (n + m) es,H.set id .dead ++ [.cells false (z && m == 0) (cs.take (n * es) ++ ys)]) := if_pos ⟨h,h2,h3⟩
theorem xYE {es n : Nat} {z : Bool} {cs : List AV} (h : cs.length = n * es) : src H es (.sl z n cs) = some (n,cs) := if_pos h
def yEf (off n es : Nat) : Option Blk → Option (Nat × List AV)
 | some (.cells _ _ cs) => if off + n * es ≤ cs.length then some (n,(cs.drop off).take (n * es)) else none
 | _ => none
theorem xUk (es n id off : Nat) (z : Bool) : src H es (.own z id off n es) = yEf off n es H[id]? := by
 simp only [src,yEf]
 cases H[id]? with
 | none => rfl
 | some b => cases b <;> simp
theorem xJ8 {es n off : Nat} {fz z : Bool} {cs : List AV} (h : off + n * es ≤ cs.length) : yEf off n es (some (.cells fz z cs)) = some (n,(cs.drop off).take (n * es)) := if_pos h
def xSi (z : List AV) (bytes id off k es m : Nat) (H : Heap) : Option Blk → Option (AV × Heap)
 | some (.cells false _ cs) => if off = 0 ∧ es = z.length ∧ k * z.length ≤ cs.length ∧ (k + m) * bytes ≤ xA1 ∧ k + m ≤ xA1 ∧ 0 < m ∧ z.all AV.isCell = true then
   some (.own false H.length 0 (k + m) z.length,H.set id .dead ++ [.cells false false (cs.take (k * z.length) ++ xCp z m)]) else none
 | _ => none
def xHb (z : List AV) (bytes : Nat) (H : Heap) : AV → AV → Option (AV × Heap)
 | .sl true _ _,.int _ m => if 0 ≤ m ∧ m.toNat * bytes ≤ xA1 ∧ m.toNat ≤ xA1 ∧ z.all AV.isCell = true then xEh false (m.toNat == 0) m.toNat z.length (xCp z m.toNat) H else none
 | .own false id off k es,.int _ m => if 0 ≤ m then xSi z bytes id off k es m.toNat H H[id]? else none
 | _,_ => none
theorem xPc (z : List AV) (bytes id off k es m : Nat) (H : Heap) (b : Option Blk) : (match b with
   | some (.cells false _ cs) => if off = 0 ∧ es = z.length ∧ k * z.length ≤ cs.length ∧ (k + m) * bytes ≤ xA1 ∧ k + m ≤ xA1 ∧ 0 < m ∧ z.all AV.isCell = true then
     some (AV.own false H.length 0 (k + m) z.length,H.set id .dead ++ [.cells false false (cs.take (k * z.length) ++ xCp z m)]) else none
   | _ => none) = xSi z bytes id off k es m H b := by
 rcases b with _ | b
 ·rfl
 ·cases b with
  | cells fz zz cs => cases fz <;> rfl
  | _ => rfl
theorem xJ9 (z : List AV) (bytes : Nat) (x n : Arg) : xAa R F H (.appendz z bytes x n) = xHb z bytes H (opv F x) (opv F n) := by
 simp only [xAa]
 cases hn : opv F n with
 | int k m =>
  simp only [xBq]
  by_cases h : 0 ≤ m
  ·cases hx : opv F x with
   | sl zz nn cs => cases zz <;> simp [xHb,h]
   | own zz id off kk es =>
    cases zz with
    | true => simp [xHb,h]
    | false => simp only [h,if_true,xHb]; exact xPc _ _ _ _ _ _ _ _ _
   | _ => simp [xHb,h]
  ·cases hx : opv F x with
   | sl zz nn cs => cases zz <;> simp [xHb,h]
   | own zz id off kk es => cases zz <;> simp [xHb,h]
   | _ => simp [xHb,h]
 | _ =>
  cases hx : opv F x with
  | sl zz nn cs => cases zz <;> simp [xHb,xBq]
  | own zz id off kk es => cases zz <;> simp [xHb,xBq]
  | _ => simp [xHb,xBq]
theorem xNt {z : List AV} {bytes id off k es : Nat} {kk : IntKind} {m : Int} (h0 : 0 ≤ m) : xHb z bytes H (.own false id off k es) (.int kk m) = xSi z bytes id off k es m.toNat H H[id]? := if_pos h0
theorem xIh {z : List AV} {bytes id k m : Nat} {zz : Bool} {cs : List AV} (h1 : k * z.length ≤ cs.length) (h2 : (k + m) * bytes ≤ 140737488355328) (h3 : k + m ≤ 140737488355328) (h4 : 0 < m) (h5 : z.all AV.isCell = true) :
  xSi z bytes id 0 k z.length m H (some (.cells false zz cs)) = some (.own false H.length 0 (k + m) z.length,H.set id .dead ++ [.cells false false (cs.take (k * z.length) ++ xCp z m)]) := if_pos ⟨rfl,rfl,h1,h2,h3,h4,h5⟩
def yEg : AV → AV → Option AV
 | .int k a,.int _ b => some (.int k (min a b))
 | _,_ => none
theorem xQH (k k' : IntKind) (a b : Int) : yEg (.int k a) (.int k' b) = some (.int k (min a b)) := rfl
theorem xUl (x y : Arg) : xAa R F H (.mini x y) = xDl H (yEg (opv F x) (opv F y)) := by
 simp only [xAa]
 cases opv F x with
 | int k a => cases opv F y with
  | int k' b => simp only [yEg,xDl]; congr 3; split <;> omega
  | _ => rfl
 | _ => rfl
theorem xYF (z : List AV) : xCp z 0 = [] := rfl
theorem xYG (z : List AV) : xCp z 1 = z ++ ([]) := rfl
theorem xYH (z : List AV) : xCp z 2 = z ++ (z ++ ([])) := rfl
theorem xYI (z : List AV) : xCp z 3 = z ++ (z ++ (z ++ ([]))) := rfl
theorem xYJ (z : List AV) : xCp z 4 = z ++ (z ++ (z ++ (z ++ ([])))) := rfl
theorem xYK (z : List AV) : xCp z 5 = z ++ (z ++ (z ++ (z ++ (z ++ ([]))))) := rfl
theorem xCM (d : Nat) (k : IntKind) (n : Int) : frz d H (.int k n) = some (.int k n) := by cases d <;> rfl
theorem xFz (d : Nat) (b : Bool) : frz d H (.bool b) = some (.bool b) := by cases d <;> rfl
theorem xUm (d : Nat) (b : ByteArray) : frz d H (.str b) = some (.str b) := by cases d <;> rfl
theorem xEi (d : Nat) (z : Bool) (n : Nat) (cs : List AV) : frz d H (.sl z n cs) = some (.sl z n cs) := by cases d <;> rfl
theorem xUn (d : Nat) (cs : List AV) : frz (d + 1) H (.agg cs) = (cs.mapM (frz d H)).map AV.agg := rfl
theorem xUo (d : Nat) (cs : List AV) : frz (d + 1) H (.tup cs) = (cs.mapM (frz d H)).map AV.tup := rfl
def yEh (d : Nat) (H : Heap) (z : Bool) (off n es : Nat) : Option Blk → Option AV
 | some (.cells _ _ cs) => if off + n * es ≤ cs.length then slK z n (((cs.drop off).take (n * es)).mapM (frz d H)) else none
 | _ => none
theorem xAU (d : Nat) (z : Bool) (id off n es : Nat) : frz (d + 1) H (.own z id off n es) = yEh d H z off n es H[id]? := by
 simp only [frz,yEh]
 cases H[id]? with
 | none => rfl
 | some b => cases b with
  | cells fz z' cs =>
   simp only
   split
   ·cases ((cs.drop off).take (n * es)).mapM (frz d H) <;> rfl
   ·rfl
  | _ => rfl
theorem xBv {d off n es : Nat} {z fz z' : Bool} {cs : List AV} (h : off + n * es ≤ cs.length) : yEh d H z off n es (some (.cells fz z' cs)) = slK z n (((cs.drop off).take (n * es)).mapM (frz d H)) := if_pos h
theorem xGe (d : Nat) (k : IntKind) (n : Int) : bor d H (.int k n) = [] := by cases d <;> rfl
theorem xHj (d : Nat) (b : Bool) : bor d H (.bool b) = [] := by cases d <;> rfl
theorem xUp (d : Nat) (b : ByteArray) : bor d H (.str b) = [] := by cases d <;> rfl
def yEi (R : Rec) (i : Nat) (b : ACode) (s : St) (ids : List Nat) : Option AV → Option (AExit × St)
 | some v => run R b ⟨s.F.set i v,fzIds s.H ids⟩
 | none => none
theorem xUq (i : Nat) (b : ACode) (s : St) : run R (.fzs i b) s = yEi R i b s (bor frzN s.H (s.F.getD i .any)) (frz frzN s.H (s.F.getD i .any)) := by
 simp only [run,yEi]
 cases frz frzN s.H (s.F.getD i .any) <;> rfl
theorem xNu (i : Nat) (b : ACode) (s : St) (ids : List Nat) (v : AV) : yEi R i b s ids (some v) = run R b ⟨s.F.set i v,fzIds s.H ids⟩ := rfl
def yEj (d : Nat) (H : Heap) (off : Nat) : Option Blk → Option AV
 | some (.cells _ _ cs) => (cs.mapM (frz d H)).map fun cs' => .vptr cs' off
 | _ => none
theorem xUr (d i o : Nat) : frz (d + 1) H (.ptr i o) = yEj d H o H[i]? := by
 simp only [frz,yEj]
 cases H[i]? with
 | none => rfl
 | some b => cases b <;> rfl
theorem xKa (d : Nat) (o : Nat) (fz z : Bool) (cs : List AV) : yEj d H o (some (.cells fz z cs)) = (cs.mapM (frz d H)).map fun cs' => .vptr cs' o := rfl
def xZ8 (d : Nat) (H : Heap) : Option Blk → List Nat
 | some (.cells _ _ cs) => cs.flatMap (bor d H)
 | _ => []
theorem xUs (d i o : Nat) : bor (d + 1) H (.ptr i o) = i :: xZ8 d H H[i]? := by
 simp only [bor,xZ8]
 cases H[i]? with
 | none => rfl
 | some b => cases b <;> rfl
theorem xIi (d : Nat) (fz z : Bool) (cs : List AV) : xZ8 d H (some (.cells fz z cs)) = cs.flatMap (bor d H) := rfl
def yCf : Option Blk → Bool
 | some (.cells true _ _) => true
 | _ => false
theorem xKb (i : Nat) : xGa H i = yCf H[i]? := by
 simp only [xGa,yCf]
 cases H[i]? with
 | none => rfl
 | some b => cases b with
  | cells fz z cs => cases fz <;> rfl
  | _ => rfl
theorem xNv (d : Nat) (z : Bool) (n : Nat) (cs : List AV) : bor d H (.sl z n cs) = [] := by cases d <;> rfl
theorem xUt (d : Nat) (cs : List AV) : bor (d + 1) H (.agg cs) = cs.flatMap (bor d H) := rfl
def yEk (d : Nat) (H : Heap) (off n es : Nat) : Option Blk → List Nat
 | some (.cells _ _ cs) => ((cs.drop off).take (n * es)).flatMap (bor d H)
 | _ => []
theorem xCN (d : Nat) (z : Bool) (id off n es : Nat) : bor (d + 1) H (.own z id off n es) = id :: yEk d H off n es H[id]? := by
 simp only [bor,yEk]
 cases H[id]? with
 | none => rfl
 | some b => cases b <;> rfl
theorem xDj (d off n es : Nat) (fz z : Bool) (cs : List AV) : yEk d H off n es (some (.cells fz z cs)) = ((cs.drop off).take (n * es)).flatMap (bor d H) := rfl
def yDL (args : List AV) (H : Heap) : Option AV → Option (AV × Heap)
 | some r => some (r,if xAD r = true then H else fzIds H (args.flatMap (bor frzN H)))
 | none => none
theorem xNw (args : List AV) (r : AV) : yDL args H (some r) = some (r,if xAD r = true then H else fzIds H (args.flatMap (bor frzN H))) := rfl
def yEl (R : Rec) (f : Nat) (args : List AV) (H : Heap) : Option (List AV) → Option (AV × Heap)
 | some args' => yDL args H (R.pcall f args')
 | none => none
theorem xNx (f : Nat) (args args' : List AV) : yEl R f args H (some args') = yDL args H (R.pcall f args') := rfl
theorem xNy (f : Nat) (args : List AV) : xBL R f args H = yEl R f args H (args.mapM (frz frzN H)) := by
 simp only [xBL,yEl]
 cases args.mapM (frz frzN H) with
 | none => rfl
 | some args' => simp only [yDL]; cases R.pcall f args' <;> rfl
theorem xUu (f : Nat) (args : List Arg) : xAa R F H (.call f args) = xBL R f (args.map (opv F)) H := rfl
theorem xQI (f : Arg) (args : List Arg) : xAa R F H (.icall f args) = R.icall (opv F f) (args.map (opv F)) H := rfl
def xKc (args : List AV) (H : Heap) : Option (AV × Heap) → Option (AV × Heap)
 | some (r,_) => if quietCall r H args = true then some (r,H) else none
 | none => none
theorem xIj (args : List AV) (r : AV) (H' : Heap) : xKc args H (some (r,H')) = if quietCall r H args = true then some (r,H) else none := rfl
theorem xUv (f : Nat) (args : List Arg) : xBo R F H (.call f args) = xKc (args.map (opv F)) H (xBL R f (args.map (opv F)) H) := by
 simp only [xBo,xAt,xKc]
 cases xBL R f (args.map (opv F)) H with
 | none => rfl
 | some r => obtain ⟨r,H'⟩ := r; simp only; split <;> rfl
def xPd (R : Rec) (args : List AV) (H : Heap) : AV → Option (AV × Heap)
 | .func g caps => xKc (args ++ caps) H (xBL R g (args ++ caps) H)
 | _ => none
theorem xGU (args : List AV) (g : Nat) (caps : List AV) : xPd R args H (.func g caps) = xKc (args ++ caps) H (xBL R g (args ++ caps) H) := rfl
theorem xQJ (f : Arg) (args : List Arg) : xBo R F H (.fcall f args) = xPd R (args.map (opv F)) H (opv F f) := by
 simp only [xBo,xAt,xKc,xPd]
 cases opv F f with
 | func g caps =>
  simp only
  cases xBL R g (args.map (opv F) ++ caps) H with
  | none => rfl
  | some r => obtain ⟨r,H'⟩ := r; simp only; split <;> rfl
 | _ => rfl
theorem xYL (v : AV) : xBo R F H (.box (.c v)) = if v.cells.all AV.isCell = true then some (.any,H) else none := by
 simp only [xBo,xAt]
 split <;> rfl
def xOC (H : Heap) : Option (AV × Heap) → Option (AV × Heap)
 | some (v,_) => some (v,H)
 | none => none
theorem xNz (v : AV) (H' : Heap) : xOC H (some (v,H')) = some (v,H) := rfl
theorem xGf (op : AOp) (h : xAt R F H op = (xAa R F H op).map (·.1)) : xBo R F H op = xOC H (xAa R F H op) := by
 simp only [xBo,h,xOC]
 cases xAa R F H op <;> rfl
theorem xYM (x : Arg) : xBo R F H (.mov x) = xOC H (xAa R F H (.mov x)) := xGf _ rfl
theorem xUw (c a b : Arg) : xBo R F H (.pick c a b) = xOC H (xAa R F H (.pick c a b)) := xGf _ rfl
theorem xUx (g : Bool) (n : Nat) (p : Arg) : xBo R F H (.load g n p) = xOC H (xAa R F H (.load g n p)) := xGf _ rfl
theorem xNA (x : Arg) : xBo R F H (.nilchk x) = xOC H (xAa R F H (.nilchk x)) := xGf _ rfl
theorem xYN (op : BinOp) (x y : Arg) : xBo R F H (.bin op x y) = xOC H (xAa R F H (.bin op x y)) := xGf _ rfl
theorem xUy (k : IntKind) (x : Arg) : xBo R F H (.conv k x) = xOC H (xAa R F H (.conv k x)) := xGf _ rfl
theorem xQK (es : Nat) (x : Arg) (lo hi mx : Option Arg) : xBo R F H (.slice es x lo hi mx) = xOC H (xAa R F H (.slice es x lo hi mx)) := xGf _ rfl
theorem xQL (o : Nat) (x : Arg) : xBo R F H (.faddr o x) = xOC H (xAa R F H (.faddr o x)) := xGf _ rfl
theorem xQM (es : Nat) (x i : Arg) : xBo R F H (.iaddr es x i) = xOC H (xAa R F H (.iaddr es x i)) := xGf _ rfl
theorem xYO (x : Arg) : xBo R F H (.len x) = xOC H (xAa R F H (.len x)) := xGf _ rfl
def xSj (H : Heap) : Option AV → Option (AV × Heap)
 | some v => some (v,H)
 | none => none
theorem xKd (v : AV) : xSj H (some v) = some (v,H) := rfl
def xLL (rs : List ARes) : Option (AExit × St) → Option (AV × Heap)
 | some (.normal,s) => xSj s.H (xA3 rs s)
 | some (.ret,s) => xSj s.H (xA3 rs s)
 | _ => none
theorem xGV (rs : List ARes) (F : List AV) (H : Heap) : xLL rs (some (.normal,⟨F,H⟩)) = xSj H (xA3 rs ⟨F,H⟩) := rfl
theorem xNB (rs : List ARes) (F : List AV) (H : Heap) : xLL rs (some (.ret,⟨F,H⟩)) = xSj H (xA3 rs ⟨F,H⟩) := rfl
theorem xKe (rs : List ARes) : xLL rs none = none := rfl
theorem xNC (rs : List ARes) {c : Prop} [Decidable c] (x y : Option (AExit × St)) : xLL rs (if c then x else y) = if c then xLL rs x else xLL rs y := by split <;> rfl
def pads : Nat → List AV
 | 0 => []
 | n + 1 => .tup [] :: pads n
theorem xUz : ∀ n,List.replicate n (AV.tup []) = pads n
 | 0 => rfl
 | n + 1 => by rw [List.replicate_succ,xUz n]; rfl
theorem xAm (n : Nat) (code : ACode) (rs : List ARes) (args : List AV) : xA5 R ⟨n,code,rs⟩ args H = xLL rs (run R code ⟨args ++ pads (n - args.length),H⟩) := by
 rw [← xUz]
 simp only [xA5,xLL,xMS,xSj]
 cases h : run R code ⟨args ++ List.replicate (n - args.length) (.tup []),H⟩ with
 | none => rfl
 | some r =>
  obtain ⟨e,s⟩ := r
  cases e with
  | exit i => rfl
  | _ => simp only; cases xA3 rs s <;> rfl
def xGW : Option (AV × Heap) → Option AV
 | some (r,H') => frz frzN H' r
 | none => none
theorem xIk (r : AV) (H' : Heap) : xGW (some (r,H')) = frz frzN H' r := rfl
theorem xIl : xGW none = none := rfl
theorem xKf {c : Prop} [Decidable c] (x y : Option (AV × Heap)) : xGW (if c then x else y) = if c then xGW x else xGW y := by split <;> rfl
theorem xAb (fn : AFunc) (args : List AV) : xAz R fn args = xGW (xA5 R fn args []) := by
 simp only [xAz,xGW]
 cases xA5 R fn args [] <;> rfl
def xZ9 (g : Bool) : Option (List AV) → Option AV
 | some cs => mkv g cs
 | none => none
theorem xKg (g : Bool) (cs : List AV) : xZ9 g (some cs) = mkv g cs := rfl
theorem xUA (t : Nat) : xTd ⟨F,H⟩ (.tmp t) = some (F.getD t .any) := rfl
theorem xQN (t : Nat) (g : Bool) (n : Nat) : xTd ⟨F,H⟩ (.cell t g n) = xZ9 g (rd H (F.getD t .any) n) := by
 simp only [xTd,xZ9]
 cases rd H (F.getD t .any) n <;> rfl
theorem xND : xA3 [] s = some (.tup []) := rfl
theorem xNE (r : ARes) : xA3 [r] s = xTd s r := rfl
def yEm (s : St) (rs : List ARes) : Option AV → Option (List AV)
 | some v => (xR7 s rs).map (v :: ·)
 | none => none
theorem xNF (rs : List ARes) (v : AV) : yEm s rs (some v) = (xR7 s rs).map (v :: ·) := rfl
theorem xQO : xR7 s [] = some [] := rfl
theorem xNG (r : ARes) (rs : List ARes) : xR7 s (r :: rs) = yEm s rs (xTd s r) := by
 simp only [xR7,yEm]
 cases xTd s r <;> rfl
theorem xNH (r r' : ARes) (rs : List ARes) : xA3 (r :: r' :: rs) s = (xR7 s (r :: r' :: rs)).map .tup := rfl
end
section
variable {R : Rec} {F : List AV} {H : Heap} {s : St}
def xUB : Option (AV × Heap) → Option (AV × List Blk)
 | some (r,H') => (xEZ H' r).map fun (v,B) => (v,B.map (·.2))
 | none => none
theorem xUC (f : Nat) (args : List AV) : xDe R f args = xUB (R.icall (.func f []) args []) := by
 unfold xDe xUB
 cases R.icall (.func f []) args [] <;> rfl
theorem xIm (r : AV) (H' : Heap) : xUB (some (r,H')) = (xEZ H' r).map fun (v,B) => (v,B.map (·.2)) := rfl
def ocK (H : Heap) (ids : List Nat) : Option (AV × List Blk) → Option (AV × Heap)
 | some (v,B) => some (xB6 H.length v,fzIds H ids ++ B)
 | none => none
def xUD (R : Rec) (f : Nat) (H : Heap) (ids : List Nat) : Option (List AV) → Option (AV × Heap)
 | some args' => ocK H ids (xDe R f args')
 | none => none
theorem xQP (f : Nat) (args : List Arg) : xAa R F H (.ocall f args) = xUD R f H ((args.map (opv F)).flatMap (bor frzN H)) ((args.map (opv F)).mapM (frz frzN H)) := by
 simp only [xAa,xUD]
 cases (args.map (opv F)).mapM (frz frzN H) with
 | none => rfl
 | some args' =>
  simp only [ocK]
  cases xDe R f args' <;> rfl
theorem xIn (f : Nat) (ids : List Nat) (args' : List AV) : xUD R f H ids (some args') = ocK H ids (xDe R f args') := rfl
theorem xQQ (ids : List Nat) (v : AV) (B : List Blk) : ocK H ids (some (v,B)) = some (xB6 H.length v,fzIds H ids ++ B) := rfl
def yDM (H : Heap) (ids : List Nat) : Option (AV × Heap) → Option (AV × Heap)
 | some (v,B) => some (xB6 H.length v,fzIds H ids ++ B.map (xB7 H.length))
 | none => none
def xPe (R : Rec) (f : Nat) (H : Heap) (ids : List Nat) : Option (List AV) → Option (AV × Heap)
 | some args' => yDM H ids (xDf R f args')
 | none => none
theorem xFA (f : Nat) (args : List Arg) : xAa R F H (.ocallw f args) = xPe R f H ((args.map (opv F)).flatMap (bor frzN H)) ((args.map (opv F)).mapM (frz frzN H)) := by
 simp only [xAa,xPe]
 cases (args.map (opv F)).mapM (frz frzN H) with
 | none => rfl
 | some args' =>
  simp only [yDM]
  cases xDf R f args' <;> rfl
theorem xCW (f : Nat) (ids : List Nat) (args' : List AV) : xPe R f H ids (some args') = yDM H ids (xDf R f args') := rfl
theorem xFB (ids : List Nat) (v : AV) (B : Heap) : yDM H ids (some (v,B)) = some (xB6 H.length v,fzIds H ids ++ B.map (xB7 H.length)) := rfl
theorem xUE {f : Nat} {args : List AV} {v : AV} {B : Heap} (h : R.icall (.func f []) args [] = some (v,B)) (h1 : xWv v = true) : xDf R f args = some (v,B) := by
 unfold xDf
 rw [h]
 exact if_pos h1
def t1B (z : Bool) (id off n es : Nat) (B : List (Nat × Blk)) : Option Blk → Option (AV × List (Nat × Blk))
 | some (.cells false z' cs) => if cs.all xBN = true then some (.own z B.length off n es,B ++ [(id,.cells false z' cs)]) else none
 | _ => none
def t1I (z : Bool) (id off n es : Nat) (B : List (Nat × Blk)) (b : Option Blk) : Option Nat → Option (AV × List (Nat × Blk))
 | some k => some (.own z k off n es,B)
 | none => t1B z id off n es B b
theorem xNI (H : Heap) (z : Bool) (id off n es : Nat) (B : List (Nat × Blk)) : xLF H (.own z id off n es) B = t1I z id off n es B H[id]? (B.findIdx? (fun p => p.1 == id)) := by
 simp only [xLF,t1I]
 cases B.findIdx? (fun p => p.1 == id) with
 | some k => rfl
 | none =>
  simp only [t1B]
  cases H[id]? with
  | none => rfl
  | some b => cases b with
   | cells fz z' cs => cases fz <;> rfl
   | _ => rfl
theorem xUF (z : Bool) (id off n es : Nat) (B : List (Nat × Blk)) (z' : Bool) (cs : List AV) : t1I z id off n es B (some (.cells false z' cs)) none = if cs.all xBN = true then some (.own z B.length off n es,B ++ [(id,.cells false z' cs)]) else none := rfl
theorem xIo (H : Heap) (z : Bool) (id off n es : Nat) : xEZ H (.own z id off n es) = xLF H (.own z id off n es) [] := rfl
theorem xNJ {α : Type} (p : α → Bool) : ([] : List α).findIdx? p = none := rfl
theorem xKh (pl : List Pr) (s : St) : xBa [] pl s = adoptL pl s := rfl
def xXn (e : Pr) : Option (St × List Pr) → Option (St × List Pr)
 | some (s,l) => some (s,e :: l)
 | none => none
theorem xKi (e : Pr) (s : St) (l : List Pr) : xXn e (some (s,l)) = some (s,e :: l) := rfl
def xYP (R : Rec) (rest : List AOper) (s : St) : Option Nat → Option (AV × List Blk) → Option (St × List Pr)
 | some t,some (v,B) => xXn (some (t,v,B)) (xAA R rest ⟨s.F.set t (xEJ v),s.H⟩)
 | _,_ => none
def xUG (R : Rec) (rest : List AOper) : Option St → Option (St × List Pr)
 | some s => xXn none (xAA R rest s)
 | none => none
theorem xIp : xAA R [] s = some (s,[]) := rfl
theorem xGX (o : AOper) (rest : List AOper) : xAA R (o :: rest) s = if xBe o.op = true then xYP R rest s o.dst (xDA R s.F o.op) else xUG R rest (xAK R o s) := by
 simp only [xAA]
 split
 ·cases o.dst with
  | none => rfl
  | some t => cases xDA R s.F o.op with
   | none => rfl
   | some r =>
    obtain ⟨v,B⟩ := r
    simp only [xYP]
    cases xAA R rest ⟨s.F.set t (xEJ v),s.H⟩ <;> rfl
 ·cases xAK R o s with
  | none => rfl
  | some s1 =>
   simp only [xUG]
   cases xAA R rest s1 <;> rfl
theorem xIq (rest : List AOper) (s : St) : xUG R rest (some s) = xXn none (xAA R rest s) := rfl
theorem xKj (x : Arg) : xBe (.mov x) = false := rfl
theorem xIr (g : Bool) (n : Nat) (x : Arg) : xBe (.load g n x) = false := rfl
theorem yAa {α : Type} {f : α → AV} (h : ∀ a,xBN (f a) = true) (l : List α) : (l.map f).all xBN = true := by
 simp [List.all_eq_true,h]
end
section
variable {R : Rec} {F : List AV} {H : Heap}
def yDN (g : Bool) (es len : Nat) : AV → AV → Option AV
 | .agg cs,.int _ i => if 0 ≤ i ∧ i.toNat < len ∧ i.toNat * es + es ≤ cs.length then mkv g ((cs.drop (i.toNat * es)).take es) else none
 | _,_ => none
theorem xQR {g : Bool} {es len : Nat} {cs : List AV} {k : IntKind} {i : Int} (h0 : 0 ≤ i) (h : i < len) (h2 : i.toNat * es + es ≤ cs.length) : yDN g es len (.agg cs) (.int k i) = mkv g ((cs.drop (i.toNat * es)).take es) := if_pos ⟨h0,by omega,h2⟩
theorem xYQ (g : Bool) (es len : Nat) (x i : Arg) : xAa R F H (.idx g es len x i) = xDl H (yDN g es len (opv F x) (opv F i)) := by
 simp only [xAa]
 cases opv F x with
 | agg cs => cases opv F i with
  | int k n =>
   by_cases h0 : 0 ≤ n
   ·have e : xBq (.int k n) = some n.toNat := by simp [xBq,h0]
    simp only [e,yDN,h0,true_and]
    by_cases c : n.toNat < len ∧ n.toNat * es + es ≤ cs.length
    ·rw [if_pos c,if_pos c]
     cases mkv g ((cs.drop (n.toNat * es)).take es) <;> rfl
    ·rw [if_neg c,if_neg c]; rfl
   ·have e : xBq (.int k n) = none := by simp [xBq,h0]
    simp only [e,yDN,h0,false_and,if_false,xDl]
  | _ => rfl
 | _ => rfl
def xKk (es len : Nat) : AV → AV → Option AV
 | .ptr id off,.int _ i => if 0 ≤ i ∧ i.toNat < len then some (.ptr id (off + i.toNat * es)) else none
 | .vptr cs off,.int _ i => if 0 ≤ i ∧ i.toNat < len then some (.vptr cs (off + i.toNat * es)) else none
 | _,_ => none
theorem xKl {es len id off : Nat} {k : IntKind} {i : Int} (h0 : 0 ≤ i) (h : i < len) : xKk es len (.ptr id off) (.int k i) = some (.ptr id (off + i.toNat * es)) := if_pos ⟨h0,by omega⟩
theorem xQS (es len : Nat) (x i : Arg) : xAa R F H (.arrat es len x i) = xDl H (xKk es len (opv F x) (opv F i)) := by
 simp only [xAa]
 cases opv F x with
 | ptr id off => cases opv F i with
  | int k n =>
   by_cases h0 : 0 ≤ n
   ·have e : xBq (.int k n) = some n.toNat := by simp [xBq,h0]
    simp only [e,xKk,h0,true_and]
    by_cases c : n.toNat < len
    ·rw [if_pos c,if_pos c]; rfl
    ·rw [if_neg c,if_neg c]; rfl
   ·have e : xBq (.int k n) = none := by simp [xBq,h0]
    simp only [e,xKk,h0,false_and,if_false,xDl]
  | _ => rfl
 | vptr cs off => cases opv F i with
  | int k n =>
   by_cases h0 : 0 ≤ n
   ·have e : xBq (.int k n) = some n.toNat := by simp [xBq,h0]
    simp only [e,xKk,h0,true_and]
    by_cases c : n.toNat < len
    ·rw [if_pos c,if_pos c]; rfl
    ·rw [if_neg c,if_neg c]; rfl
   ·have e : xBq (.int k n) = none := by simp [xBq,h0]
    simp only [e,xKk,h0,false_and,if_false,xDl]
  | _ => rfl
 | _ => rfl
theorem xQT (es len : Nat) (x i : Arg) : xBo R F H (.arrat es len x i) = xOC H (xAa R F H (.arrat es len x i)) := xGf _ rfl
end
end Go.Abs
