/- The interpreter's equations in the form that simp walks by: one equation for each construct,told apart by what has been computed already. -/
import Derived.Test.YtdheandekcpieaaDoorAbsLim
namespace Go.Abs
set_option linter.unusedVariables false
set_option linter.unusedSimpArgs false
theorem xEa : ∀ (scr : List Nat) (F : List AV) (i : Nat),(xAs scr F)[i]? = if i ∈ scr then (F[i]?).map (fun _ => AV.any) else F[i]?
 | [],F,i => by simp [xAs]
 | j :: scr,F,i => by
  have := xEa scr (F.set j .any) i
  simp only [xAs,List.foldl_cons] at this ⊢
  rw [this]
  by_cases h : i = j
  ·subst h
   simp only [List.getElem?_set_self',List.mem_cons,true_or,if_true]
   cases F[i]? <;> simp
  ·have h' : ¬ j = i := fun e => h e.symm
   simp [List.getElem?_set,h,h']
theorem xN6 (scr : List Nat) (F : List AV) : xAs scr (xAs scr F) = xAs scr F := by
 apply List.ext_getElem?
 intro i
 rw [xEa,xEa]
 split
 ·cases F[i]? <;> rfl
 ·rfl
section
variable {prog : Nat → Option AFunc}
theorem xSI (prog : Nat → Option AFunc) (n : Nat) : Tends (fix prog n) (fun _ => lim prog) :=
 ⟨fun f a v h => .all fun _ => xEn ((xEJ prog n).pcall f a v h),fun f a H v h => .all fun _ => xEn ((xEJ prog n).icall f a H v h),fun scr b s v h => .all fun _ => xEn ((xEJ prog n).loop scr b s v h)⟩
theorem Ev.const {p : Prop} (h : Ev fun _ => p) : p := let ⟨n,hn⟩ := h; hn n (Nat.le_refl n)
theorem xSJ {α : Type} {a b : Option α} (h1 : ∀ v,a = some v → b = some v) (h2 : ∀ v,b = some v → a = some v) : a = b := by
 cases a with
 | some v => exact (h1 v rfl).symm
 | none =>
  cases b with
  | none => rfl
  | some v => exact h2 v rfl
theorem xAe {f : Nat} {fn : AFunc} (hf : prog f = some fn) (args : List AV) : (lim prog).pcall f args = xAw (lim prog) fn args := by
 refine xSJ (fun v h => ?_) (fun v h => xRA hf h)
 obtain ⟨n,hn⟩ := xB6 (p := fun m => (fix prog m).pcall f args) h
 have h1 : (xCL prog (fix prog n)).pcall f args = some v := hn (n + 1) (by omega)
 have h2 := (xBs (xSI prog n) prog).pcall f args v h1 |>.const
 simp only [xCL,hf] at h2
 exact h2
theorem xLZ (f : AV) (args : List AV) (H : Heap) : (lim prog).icall f args H = xCX prog (lim prog) f args H := by
 refine xSJ (fun v h => ?_) (fun v h => xRB h)
 obtain ⟨n,hn⟩ := xB6 (p := fun m => (fix prog m).icall f args H) h
 have h1 : (xCL prog (fix prog n)).icall f args H = some v := hn (n + 1) (by omega)
 exact (xBs (xSI prog n) prog).icall f args H v h1 |>.const
theorem xEx (scr : List Nat) (b : ACode) (s : St) : (lim prog).loop scr b s = xHi (lim prog) scr b s := by
 refine xSJ (fun v h => ?_) (fun v h => xVi h)
 obtain ⟨n,hn⟩ := xB6 (p := fun m => (fix prog m).loop scr b s) h
 have h1 : (xCL prog (fix prog n)).loop scr b s = some v := hn (n + 1) (by omega)
 exact (xBs (xSI prog n) prog).loop scr b s v h1 |>.const
theorem xAn {f : Nat} {fn : AFunc} (hf : prog f = some fn) (caps args : List AV) (H : Heap) : (lim prog).icall (.func f caps) args H = xBb (lim prog) fn (args ++ caps) H := by
 rw [xLZ]
 simp only [xCX,hf]
theorem xEg (scr : List Nat) (b : ACode) (F : List AV) (H : Heap) : (lim prog).loop scr b ⟨F,H⟩ = (lim prog).loop scr b ⟨xAs scr F,H⟩ := by
 rw [xEx,xEx]
 unfold xHi
 simp only [xN6]
def xAZ (R : Rec) (scr : List Nat) (b : ACode) : Option (AExit × St) → Option (AExit × St)
 | some (.normal,s) => R.loop scr b ⟨xAs scr s.F,s.H⟩
 | some (e,s) => some (e,⟨xAs scr s.F,s.H⟩)
 | none => none
theorem xAf (scr : List Nat) (b : ACode) (F : List AV) (H : Heap) (h : xAs scr F = F) : (lim prog).loop scr b ⟨F,H⟩ = xAZ (lim prog) scr b (run (lim prog) b ⟨F,H⟩) := by
 rw [xEx]
 unfold xHi xAZ
 simp only [h]
 split
 ·rename_i s' hs
  rw [hs]
  exact xEg scr b s'.F s'.H
 ·rename_i e s' hne hs
  rw [hs]
  cases e with
  | normal => exact (hne rfl).elim
  | exit i => rfl
  | ret => rfl
 ·rename_i hs
  rw [hs]
theorem xPa (scr : List Nat) (b : ACode) (F : List AV) (H : Heap) : run (lim prog) (.loop scr b) ⟨F,H⟩ = (lim prog).loop scr b ⟨xAs scr F,H⟩ := xEg scr b F H
end
section
variable {R : Rec} {F : List AV} {H : Heap} {s : St}
def xVf (R : Rec) (b : ACode) : Option (AExit × St) → Option (AExit × St)
 | some (.normal,s) => run R b s
 | r => r
theorem xSK (a b : ACode) : run R (.seq a b) s = xVf R b (run R a s) := by
 simp only [run,xVf]
 split <;> simp_all
theorem xHr (b : ACode) (s : St) : xVf R b (some (.normal,s)) = run R b s := rfl
theorem xL0 (b : ACode) (i : Nat) (s : St) : xVf R b (some (.exit i,s)) = some (.exit i,s) := rfl
theorem xPb (b : ACode) (s : St) : xVf R b (some (.ret,s)) = some (.ret,s) := rfl
theorem xL1 (b : ACode) : xVf R b none = none := rfl
theorem xPc (b : ACode) {c : Prop} [Decidable c] (x y : Option (AExit × St)) : xVf R b (if c then x else y) = if c then xVf R b x else xVf R b y := by split <;> rfl
def xYr (R : Rec) (a b : ACode) (s : St) : AV → Option (AExit × St)
 | .bool t => if t = true then run R a s else run R b s
 | _ => none
theorem xPd (c : Arg) (a b : ACode) (F : List AV) (H : Heap) : run R (.cond c a b) ⟨F,H⟩ = xYr R a b ⟨F,H⟩ (opv F c) := by
 simp only [run,xYr]
 split <;> simp_all
theorem xIX (a b : ACode) (t : Bool) : xYr R a b s (.bool t) = if t = true then run R a s else run R b s := rfl
def xE0 (id : Nat) : Option (AExit × St) → Option (AExit × St)
 | some (.exit i,s) => if i = id then some (.normal,s) else some (.exit i,s)
 | r => r
theorem xL2 (id : Nat) (b : ACode) : run R (.block id b) s = xE0 id (run R b s) := by
 simp only [run,xE0]
 split <;> simp_all
theorem xHs (id i : Nat) (s : St) : xE0 id (some (.exit i,s)) = if i = id then some (.normal,s) else some (.exit i,s) := rfl
theorem xE1 (id : Nat) (s : St) : xE0 id (some (.normal,s)) = some (.normal,s) := rfl
theorem xIY (id : Nat) (s : St) : xE0 id (some (.ret,s)) = some (.ret,s) := rfl
theorem xIZ (id : Nat) {c : Prop} [Decidable c] (x y : Option (AExit × St)) : xE0 id (if c then x else y) = if c then xE0 id x else xE0 id y := by split <;> rfl
theorem xGe (scr : List Nat) (b : ACode) (F : List AV) (H : Heap) : xAZ R scr b (some (.normal,⟨F,H⟩)) = R.loop scr b ⟨xAs scr F,H⟩ := rfl
theorem xI0 (scr : List Nat) (b : ACode) (i : Nat) (F : List AV) (H : Heap) : xAZ R scr b (some (.exit i,⟨F,H⟩)) = some (.exit i,⟨xAs scr F,H⟩) := rfl
theorem xL3 (scr : List Nat) (b : ACode) (F : List AV) (H : Heap) : xAZ R scr b (some (.ret,⟨F,H⟩)) = some (.ret,⟨xAs scr F,H⟩) := rfl
theorem xL4 (scr : List Nat) (b : ACode) {c : Prop} [Decidable c] (x y : Option (AExit × St)) : xAZ R scr b (if c then x else y) = if c then xAZ R scr b x else xAZ R scr b y := by split <;> rfl
def xVg : Option St → Option (AExit × St)
 | some s => some (.normal,s)
 | none => none
theorem xL5 (s : St) : xVg (some s) = some (.normal,s) := rfl
theorem xL6 : xVg none = none := rfl
theorem xPe {c : Prop} [Decidable c] (x y : Option St) : xVg (if c then x else y) = if c then xVg x else xVg y := by split <;> rfl
theorem xI1 (ops : List AOper) : run R (.region ops) s = xVg (xAr R ops s) := by
 simp only [run,xVg]
 cases xAr R ops s <;> rfl
theorem xPf : run R .skip s = some (.normal,s) := rfl
theorem xPg (i : Nat) : run R (.exit i) s = some (.exit i,s) := rfl
theorem xSL : run R .ret s = some (.ret,s) := rfl
def xYs (R : Rec) (rest : List AOper) : Option St → Option St
 | some s => xAr R rest s
 | none => none
theorem xI2 : xAr R [] s = some s := rfl
theorem xHt (o : AOper) (rest : List AOper) : xAr R (o :: rest) s = xYs R rest (xAG R o s) := by
 simp only [xAr,xYs]
 cases xAG R o s <;> rfl
theorem xL7 (rest : List AOper) (s : St) : xYs R rest (some s) = xAr R rest s := rfl
theorem xL8 (rest : List AOper) : xYs R rest none = none := rfl
theorem xPh (rest : List AOper) {c : Prop} [Decidable c] (x y : Option St) : xYs R rest (if c then x else y) = if c then xYs R rest x else xYs R rest y := by split <;> rfl
def xSM (F : List AV) (d : Option Nat) : Option (AV × Heap) → Option St
 | some (v,H) => some ⟨putA F d v,H⟩
 | none => none
theorem xSN (d : Nat) (v : AV) : xSM F (some d) (some (v,H)) = some ⟨F.set d v,H⟩ := rfl
theorem xSO (v : AV) : xSM F none (some (v,H)) = some ⟨F,H⟩ := rfl
theorem xL9 (d : Option Nat) : xSM F d none = none := rfl
theorem xPi (d : Option Nat) {c : Prop} [Decidable c] (x y : Option (AV × Heap)) : xSM F d (if c then x else y) = if c then xSM F d x else xSM F d y := by split <;> rfl
theorem xMa (d : Option Nat) (op : AOp) : xAG R ⟨d,op,none⟩ ⟨F,H⟩ = xSM F d (xAa R F H op) := by
 simp only [xAG,xBF,xSM]
 cases xAa R F H op <;> rfl
def xPj (R : Rec) (d : Option Nat) (op : AOp) (w : Bool) (F : List AV) (H : Heap) : AV → Option St
 | .bool b => if b = w then xSM F d (xAa R F H op) else some ⟨putA F d (.tup []),H⟩
 | .any => none
 | _ => some ⟨putA F d (.tup []),H⟩
theorem xI3 (d : Option Nat) (op : AOp) (t : Nat) (w : Bool) : xAG R ⟨d,op,some (t,w)⟩ ⟨F,H⟩ = xPj R d op w F H (F.getD t .any) := by
 simp only [xAG,xBF,xPj]
 cases F.getD t .any with
 | bool b =>
  cases b <;> cases w <;> simp [xSM] <;> cases xAa R F H op <;> rfl
 | _ => rfl
theorem xHu (d : Option Nat) (op : AOp) (w b : Bool) : xPj R d op w F H (.bool b) = if b = w then xSM F d (xAa R F H op) else some ⟨putA F d (.tup []),H⟩ := rfl
theorem xI4 (d : Option Nat) (op : AOp) (w : Bool) (vs : List AV) : xPj R d op w F H (.tup vs) = some ⟨putA F d (.tup []),H⟩ := rfl
theorem xSP (d : Nat) (v : AV) : putA F (some d) v = F.set d v := rfl
def xYt (R : Rec) (m : Nat) (ops : List AOper) : Option St → Option (AExit × St)
 | some s => xVg (xAr R (ops.drop m) (adopt (ops.take m) s))
 | none => none
theorem xPk (m : Nat) (ops : List AOper) : run R (.draw m ops) s = xYt R m ops (xA6 R (ops.take m) s) := by
 simp only [run,xYt]
 cases xA6 R (ops.take m) s with
 | none => rfl
 | some s1 =>
  simp only [xVg]
  cases xAr R (ops.drop m) (adopt (ops.take m) s1) <;> rfl
theorem xI5 (m : Nat) (ops : List AOper) (s : St) : xYt R m ops (some s) = xVg (xAr R (ops.drop m) (adopt (ops.take m) s)) := rfl
def xPl (ls : List (Nat × Nat × Nat × Nat)) : Option St → Option (AExit × St)
 | some s => if ls.all (apart s.F) = true then some (.normal,s) else none
 | none => none
def xSQ (R : Rec) (ls : List (Nat × Nat × Nat × Nat)) (m : Nat) (ops : List AOper) : Option St → Option (AExit × St)
 | some s => xPl ls (xAr R (ops.drop m) (adopt (ops.take m) s))
 | none => none
theorem xMb (ls : List (Nat × Nat × Nat × Nat)) (m : Nat) (ops : List AOper) : run R (.drawl ls m ops) s = xSQ R ls m ops (xA6 R (ops.take m) s) := by
 simp only [run,xSQ]
 cases xA6 R (ops.take m) s with
 | none => rfl
 | some s1 =>
  simp only [xPl]
  cases xAr R (ops.drop m) (adopt (ops.take m) s1) <;> rfl
theorem xHv (ls : List (Nat × Nat × Nat × Nat)) (m : Nat) (ops : List AOper) (s : St) : xSQ R ls m ops (some s) = xPl ls (xAr R (ops.drop m) (adopt (ops.take m) s)) := rfl
theorem xHw (ls : List (Nat × Nat × Nat × Nat)) (s : St) : xPl ls (some s) = if ls.all (apart s.F) = true then some (.normal,s) else none := rfl
def xYu (R : Rec) (rest : List AOper) : Option St → Option St
 | some s => xA6 R rest s
 | none => none
theorem xHx : xA6 R [] s = some s := rfl
theorem xGf (o : AOper) (rest : List AOper) : xA6 R (o :: rest) s = xYu R rest (xAP R o s) := by
 simp only [xA6,xYu]
 cases xAP R o s <;> rfl
theorem xI6 (rest : List AOper) (s : St) : xYu R rest (some s) = xA6 R rest s := rfl
def xQ3 (F : List AV) (d : Option Nat) (H : Heap) : Option (AV × Heap) → Option St
 | some (v,_) => some ⟨putA F d v,H⟩
 | none => none
theorem xPm (d : Nat) (v : AV) (H' : Heap) : xQ3 F (some d) H (some (v,H')) = some ⟨F.set d v,H⟩ := rfl
def xBg (R : Rec) (F : List AV) (H : Heap) (op : AOp) : Option (AV × Heap) := (xAt R F H op).map fun v => (v,H)
theorem xI7 (d : Option Nat) (op : AOp) : xAP R ⟨d,op,none⟩ ⟨F,H⟩ = xQ3 F d H (xBg R F H op) := by
 simp only [xAP,xBF,xQ3,xBg]
 cases xAt R F H op <;> rfl
def xN7 (R : Rec) (d : Option Nat) (op : AOp) (w : Bool) (F : List AV) (H : Heap) : AV → Option St
 | .bool b => if b = w then xQ3 F d H (xBg R F H op) else some ⟨putA F d (.tup []),H⟩
 | .any => none
 | _ => some ⟨putA F d (.tup []),H⟩
theorem xHy (d : Option Nat) (op : AOp) (t : Nat) (w : Bool) : xAP R ⟨d,op,some (t,w)⟩ ⟨F,H⟩ = xN7 R d op w F H (F.getD t .any) := by
 simp only [xAP,xBF,xN7]
 cases F.getD t .any with
 | bool b =>
  cases b <;> cases w <;> simp [xQ3,xBg] <;> cases xAt R F H op <;> rfl
 | _ => rfl
theorem xGg (d : Option Nat) (op : AOp) (w b : Bool) : xN7 R d op w F H (.bool b) = if b = w then xQ3 F d H (xBg R F H op) else some ⟨putA F d (.tup []),H⟩ := rfl
def xC0 (H : Heap) : Option AV → Option (AV × Heap)
 | some v => some (v,H)
 | none => none
theorem xMc (v : AV) : xC0 H (some v) = some (v,H) := rfl
theorem xWO (x : Arg) : xAa R F H (.mov x) = some (opv F x,H) := rfl
def xYv : AV → AV → AV → Option AV
 | .bool t,a,b => some (if t = true then a else b)
 | _,_,_ => none
theorem xI8 (t : Bool) (a b : AV) : xYv (.bool t) a b = some (if t = true then a else b) := rfl
theorem xSR (c a b : Arg) : xAa R F H (.pick c a b) = xC0 H (xYv (opv F c) (opv F a) (opv F b)) := by
 simp only [xAa,xYv,xC0]
 split <;> simp_all
theorem xWP (x : Arg) : xAa R F H (.box x) = if (opv F x).cells.all AV.isCell = true then some (.ptr H.length 0,H ++ [.cells false false (opv F x).cells]) else none := rfl
theorem xPn (z : List AV) (parts : List (Nat × Nat × Arg)) : xAa R F H (.build z parts) =
  if parts.all (fun p => (opv F p.2.2).cells.length == p.2.1) = true then xC0 H ((fillA z (parts.map fun p => (p.1,(opv F p.2.2).cells))).map AV.agg) else none := by
 simp only [xAa,xC0]
 split
 ·cases fillA z (parts.map fun p => (p.1,(opv F p.2.2).cells)) <;> rfl
 ·rfl
def yCc (fz z : Bool) (n es : Nat) (H : Heap) : Option (List AV) → Option (AV × Heap)
 | some cs => xDR fz z n es cs H
 | none => none
theorem xMd (fz z : Bool) (n es : Nat) (cs : List AV) : yCc fz z n es H (some cs) = xDR fz z n es cs H := rfl
theorem xPo (z : Bool) (n es : Nat) (cs : List AV) : xDR false z n es cs H = some (.own z H.length 0 n es,H ++ [.cells false z cs]) := rfl
def slK (z : Bool) (n : Nat) : Option (List AV) → Option AV
 | some cs => some (.sl z n cs)
 | none => none
theorem xPp (z : Bool) (n : Nat) (cs : List AV) : slK z n (some cs) = some (.sl z n cs) := rfl
theorem xMe (z : Bool) (n es : Nat) (cs : List AV) : xDR true z n es cs H = if (cs.flatMap (bor frzN H)).isEmpty = true then xC0 H (slK z n (cs.mapM (frz frzN H))) else none := by
 simp only [xDR,xC0,slK]
 split
 ·rename_i h
  cases cs.mapM (frz frzN H) <;> simp_all
 ·simp_all
theorem xMf (fz : Bool) (z : List AV) (es n : Nat) (parts : List (Nat × Arg)) : xAa R F H (.bslice fz z es n parts) =
  if parts.all (fun p => (opv F p.2).cells.length == es) = true then yCc fz false n es H (fillA (xCo z n) (parts.map fun p => (p.1 * es,(opv F p.2).cells))) else none := by
 simp only [xAa,yCc]
 split
 ·cases fillA (xCo z n) (parts.map fun p => (p.1 * es,(opv F p.2).cells)) <;> rfl
 ·rfl
def xV5 (g : Bool) : Option (List AV) → Option AV
 | some cs => mkv g cs
 | none => none
theorem xSS (v : AV) : xV5 false (some [v]) = some v := rfl
theorem xST (cs : List AV) : xV5 true (some cs) = some (.agg cs) := rfl
theorem xSU (g : Bool) (n : Nat) (p : Arg) : xAa R F H (.load g n p) = xC0 H (xV5 g (rd H (opv F p) n)) := by
 simp only [xAa,xC0,xV5]
 cases rd H (opv F p) n with
 | none => rfl
 | some cs => simp only; cases mkv g cs <;> rfl
def rdK (off n : Nat) : Option Blk → Option (List AV)
 | some (.cells _ _ cs) => if off + n ≤ cs.length then some ((cs.drop off).take n) else none
 | _ => none
theorem xWQ (id off n : Nat) : rd H (.ptr id off) n = rdK off n H[id]? := by
 simp only [rd,rdK]
 rfl
theorem xMg {off n : Nat} {fz z : Bool} {cs : List AV} (h : off + n ≤ cs.length) : rdK off n (some (.cells fz z cs)) = some ((cs.drop off).take n) := if_pos h
theorem xSV {off n : Nat} {cs : List AV} (h : off + n ≤ cs.length) : rd H (.vptr cs off) n = some ((cs.drop off).take n) := if_pos h
def wrK (H : Heap) (id off : Nat) (vs : List AV) : Option Blk → Option Heap
 | some (.cells false z cs) => if off + vs.length ≤ cs.length ∧ vs.all AV.isCell = true then some (H.set id (.cells false z (splice cs off vs))) else none
 | _ => none
theorem xWR (id off : Nat) (vs : List AV) : wr H (.ptr id off) vs = wrK H id off vs H[id]? := by
 simp only [wr,wrK]
 rfl
theorem xHz {id off : Nat} {vs : List AV} {z : Bool} {cs : List AV} (h : off + vs.length ≤ cs.length) (h2 : vs.all AV.isCell = true) : wrK H id off vs (some (.cells false z cs)) = some (H.set id (.cells false z (splice cs off vs))) := if_pos ⟨h,h2⟩
def xSW : Option Heap → Option (AV × Heap)
 | some H => some (.tup [],H)
 | none => none
theorem xHA (H : Heap) : xSW (some H) = some (.tup [],H) := rfl
theorem xPq (n : Nat) (p v : Arg) : xAa R F H (.store n p v) = if (opv F v).cells.length = n then xSW (wr H (opv F p) (opv F v).cells) else none := by
 simp only [xAa,xSW]
 split
 ·cases wr H (opv F p) (opv F v).cells <;> rfl
 ·rfl
def yCd : AV → Option AV
 | .ptr id off => some (.ptr id off)
 | .vptr cs off => some (.vptr cs off)
 | .func f caps => some (.func f caps)
 | .yield l => some (.yield l)
 | _ => none
theorem xPr (id off : Nat) : yCd (.ptr id off) = some (.ptr id off) := rfl
theorem xMh (cs : List AV) (off : Nat) : yCd (.vptr cs off) = some (.vptr cs off) := rfl
theorem xMi (x : Arg) : xAa R F H (.nilchk x) = xC0 H (yCd (opv F x)) := by
 simp only [xAa]
 cases opv F x <;> rfl
theorem xWS (op : BinOp) (x y : Arg) : xAa R F H (.bin op x y) = xC0 H (xDQ op (opv F x) (opv F y)) := by
 simp only [xAa,xC0]
 cases xDQ op (opv F x) (opv F y) <;> rfl
section
variable (k : IntKind) (a b : Int)
theorem xSX : xDQ .add (.int k a) (.int k b) = some (.int k (k.wrap (a + b))) := by simp [xDQ]
theorem xSY : xDQ .sub (.int k a) (.int k b) = some (.int k (k.wrap (a - b))) := by simp [xDQ]
theorem xSZ : xDQ .mul (.int k a) (.int k b) = some (.int k (k.wrap (a * b))) := by simp [xDQ]
theorem xS0 (h : b ≠ 0) : xDQ .quo (.int k a) (.int k b) = some (.int k (k.wrap (a.tdiv b))) := by simp [xDQ,h]
theorem xS1 (h : b ≠ 0) : xDQ .rem (.int k a) (.int k b) = some (.int k (a.tmod b)) := by simp [xDQ,h]
theorem xS2 : xDQ .and (.int k a) (.int k b) = some (.int k (xDu .and k a b)) := by simp [xDQ]
theorem xWT : xDQ .or (.int k a) (.int k b) = some (.int k (xDu .or k a b)) := by simp [xDQ]
theorem xS3 (k' : IntKind) (h : 0 ≤ b) : xDQ .shl (.int k a) (.int k' b) = some (.int k (k.wrap (a * 2 ^ (min b.toNat k.bits)))) := by simp only [xDQ]; rw [if_neg (by omega)]
theorem xS4 (k' : IntKind) (h : 0 ≤ b) : xDQ .shr (.int k a) (.int k' b) = some (.int k (a.fdiv (2 ^ (min b.toNat k.bits)))) := by simp only [xDQ]; rw [if_neg (by omega)]
theorem xS5 : xDQ .eql (.int k a) (.int k b) = some (.bool (decide (a = b))) := by simp [xDQ]; rfl
theorem xS6 : xDQ .neq (.int k a) (.int k b) = some (.bool (!decide (a = b))) := by simp [xDQ]; rfl
theorem xS7 : xDQ .lss (.int k a) (.int k b) = some (.bool (decide (a < b))) := by simp [xDQ]
theorem xS8 : xDQ .leq (.int k a) (.int k b) = some (.bool (decide (a ≤ b))) := by simp [xDQ]
theorem xS9 : xDQ .gtr (.int k a) (.int k b) = some (.bool (decide (b < a))) := by simp [xDQ]
theorem xTa : xDQ .geq (.int k a) (.int k b) = some (.bool (decide (b ≤ a))) := by simp [xDQ]
end
def yDv (neg : Bool) : AV → AV → Option AV
 | .bool a,.bool b => some (.bool (if neg = true then a != b else a == b))
 | _,_ => none
theorem xWU (a b : Bool) : yDv true (.bool a) (.bool b) = some (.bool (!decide (a = b))) := by cases a <;> cases b <;> rfl
theorem xWV (neg : Bool) (x y : Arg) : xAa R F H (.beq neg x y) = xC0 H (yDv neg (opv F x) (opv F y)) := by
 simp only [xAa]
 cases opv F x <;> cases opv F y <;> rfl
def xTb (neg : Bool) : AV → Option AV
 | .sl z _ _ => some (.bool (z != neg))
 | .own z _ _ _ _ => some (.bool (z != neg))
 | _ => none
theorem xI9 (z : Bool) (n : Nat) (cs : List AV) : xTb false (.sl z n cs) = some (.bool z) := by cases z <;> rfl
theorem xHB (z : Bool) (id off n es : Nat) : xTb false (.own z id off n es) = some (.bool z) := by cases z <;> rfl
theorem xPs (neg : Bool) (x : Arg) : xAa R F H (.isnil neg x) = xC0 H (xTb neg (opv F x)) := by
 simp only [xAa]
 cases opv F x <;> rfl
theorem yAp (op : UnOp) (x : Arg) : xAa R F H (.un op x) = xC0 H (unA op (opv F x)) := by
 simp only [xAa,xC0]
 cases unA op (opv F x) <;> rfl
theorem xWW (b : Bool) : unA .not (.bool b) = some (.bool !b) := rfl
theorem xWX (k : IntKind) (n : Int) : unA .xor (.int k n) = some (.int k (xDu .xor k (if k.signed then -1 else k.max) n)) := rfl
def yAq (k : IntKind) : AV → Option AV
 | .int _ n => some (.int k (k.wrap n))
 | _ => none
theorem xMj (k k' : IntKind) (n : Int) : yAq k (.int k' n) = some (.int k (k.wrap n)) := rfl
theorem xTc (k : IntKind) (x : Arg) : xAa R F H (.conv k x) = xC0 H (yAq k (opv F x)) := by
 simp only [xAa]
 cases opv F x <;> rfl
theorem xMk (f : Nat) (caps : List Arg) : xAa R F H (.mkfunc f caps) = some (.func f (caps.map (opv F)),H) := rfl
def yDw (fz : Bool) (z : List AV) (bytes : Nat) (H : Heap) : AV → AV → Option (AV × Heap)
 | .int _ l,.int _ c => if 0 ≤ l ∧ l ≤ c ∧ c * bytes ≤ xAY ∧ c ≤ xAY ∧ z.all AV.isCell = true then xDR fz false l.toNat z.length (xCo z l.toNat) H else none
 | _,_ => none
theorem xPt (fz : Bool) (z : List AV) (bytes : Nat) (k k' : IntKind) {l c : Int} (h1 : 0 ≤ l) (h2 : l ≤ c) (h3 : c * bytes ≤ 140737488355328) (h4 : c ≤ 140737488355328) (h5 : z.all AV.isCell = true) : yDw fz z bytes H (.int k l) (.int k' c) = xDR fz false l.toNat z.length (xCo z l.toNat) H := if_pos ⟨h1,h2,h3,h4,h5⟩
theorem xJa (fz : Bool) (z : List AV) (bytes : Nat) (l c : Arg) : xAa R F H (.mkslice fz z bytes l c) = yDw fz z bytes H (opv F l) (opv F c) := by
 simp only [xAa]
 cases opv F l <;> cases opv F c <;> rfl
def xYw (es : Nat) (H : Heap) (x : AV) : Option (Nat × Nat) → Option AV
 | none => none
 | some (l,h) => match x with
  | .sl z _ cs => some (.sl z (h - l) ((cs.drop (l * es)).take ((h - l) * es)))
  | .own z id off _ _ => some (.own z id (off + l * es) (h - l) es)
  | _ => none
def xPu (es : Nat) (H : Heap) (lo hi mx : Option AV) : AV → Option AV
 | .sl z n cs => if cs.length = n * es then xYw es H (.sl z n cs) (xBa n lo hi mx) else none
 | .own z id off n es' => if es' = es then xYw es H (.own z id off n es') (xBa n lo hi mx) else none
 | _ => none
theorem xPv (es : Nat) (x : Arg) (lo hi mx : Option Arg) : xAa R F H (.slice es x lo hi mx) = xC0 H (xPu es H (lo.map (opv F)) (hi.map (opv F)) (mx.map (opv F)) (opv F x)) := by
 simp only [xAa,xC0,xPu,xYw]
 cases opv F x with
 | sl z n cs =>
  simp only
  split
  ·cases xBa n (lo.map (opv F)) (hi.map (opv F)) (mx.map (opv F)) <;> rfl
  ·rfl
 | own z id off n es' =>
  simp only
  split
  ·cases xBa n (lo.map (opv F)) (hi.map (opv F)) (mx.map (opv F)) <;> rfl
  ·rfl
 | _ => rfl
theorem xMl {es n : Nat} {z : Bool} {cs : List AV} (lo hi mx : Option AV) (h : cs.length = n * es) : xPu es H lo hi mx (.sl z n cs) = xYw es H (.sl z n cs) (xBa n lo hi mx) := if_pos h
theorem xJb {es n id off : Nat} {z : Bool} (lo hi mx : Option AV) : xPu es H lo hi mx (.own z id off n es) = xYw es H (.own z id off n es) (xBa n lo hi mx) := if_pos rfl
theorem xTd (es : Nat) (z : Bool) (n : Nat) (cs : List AV) (l h : Nat) : xYw es H (.sl z n cs) (some (l,h)) = some (.sl z (h - l) ((cs.drop (l * es)).take ((h - l) * es))) := rfl
theorem xPw (es : Nat) (z : Bool) (id off n es' : Nat) (l h : Nat) : xYw es H (.own z id off n es') (some (l,h)) = some (.own z id (off + l * es) (h - l) es) := rfl
theorem xHC {n : Nat} {k : IntKind} {l : Int} (h0 : 0 ≤ l) (h : l ≤ n) : xBa n (some (.int k l)) none none = some (l.toNat,n) := by
 simp only [xBa,xBj,if_pos h0]
 rw [if_pos ⟨by omega,by omega⟩]
theorem xDT {n : Nat} {k : IntKind} {m : Int} (h0 : 0 ≤ m) (h : m ≤ n) : xBa n none (some (.int k m)) none = some (0,m.toNat) := by
 simp only [xBa,xBj,if_pos h0]
 rw [if_pos ⟨by omega,by omega⟩]
def xTe (o : Nat) : AV → Option AV
 | .ptr id off => some (.ptr id (off + o))
 | .vptr cs off => some (.vptr cs (off + o))
 | _ => none
theorem xJc (o id off : Nat) : xTe o (.ptr id off) = some (.ptr id (off + o)) := rfl
theorem xHD (o : Nat) (cs : List AV) (off : Nat) : xTe o (.vptr cs off) = some (.vptr cs (off + o)) := rfl
theorem xPx (o : Nat) (x : Arg) : xAa R F H (.faddr o x) = xC0 H (xTe o (opv F x)) := by
 simp only [xAa]
 cases opv F x <;> rfl
def xTf (g : Bool) (off n : Nat) : AV → Option AV
 | .agg cs => if off + n ≤ cs.length then mkv g ((cs.drop off).take n) else none
 | _ => none
theorem xJd {g : Bool} {off n : Nat} {cs : List AV} (h : off + n ≤ cs.length) : xTf g off n (.agg cs) = mkv g ((cs.drop off).take n) := if_pos h
theorem yAr (v : AV) : mkv false [v] = some v := rfl
theorem yAs (cs : List AV) : mkv true cs = some (.agg cs) := rfl
theorem xPy (g : Bool) (off n : Nat) (x : Arg) : xAa R F H (.field g off n x) = xC0 H (xTf g off n (opv F x)) := by
 simp only [xAa]
 cases opv F x with
 | agg cs =>
  simp only [xTf,xC0]
  split
  ·cases mkv g ((cs.drop off).take n) <;> rfl
  ·rfl
 | _ => rfl
def xJe (es : Nat) : AV → AV → Option AV
 | .sl _ n cs,.int _ i => if 0 ≤ i ∧ i.toNat < n then some (.vptr cs (i.toNat * es)) else none
 | .own _ id off n es',.int _ i => if 0 ≤ i ∧ i.toNat < n ∧ es' = es then some (.ptr id (off + i.toNat * es)) else none
 | _,_ => none
theorem xMm {es n : Nat} {z : Bool} {cs : List AV} {k : IntKind} {i : Int} (h0 : 0 ≤ i) (h : i < n) : xJe es (.sl z n cs) (.int k i) = some (.vptr cs (i.toNat * es)) := if_pos ⟨h0,by omega⟩
theorem xJf {es n id off : Nat} {z : Bool} {k : IntKind} {i : Int} (h0 : 0 ≤ i) (h : i < n) : xJe es (.own z id off n es) (.int k i) = some (.ptr id (off + i.toNat * es)) := if_pos ⟨h0,by omega,rfl⟩
theorem xPz (es : Nat) (x i : Arg) : xAa R F H (.iaddr es x i) = xC0 H (xJe es (opv F x) (opv F i)) := by
 simp only [xAa]
 cases opv F x with
 | sl z n cs =>
  cases opv F i with
  | int k j =>
   simp only [xBj,xJe,xC0]
   by_cases h : 0 ≤ j
   ·by_cases h2 : j.toNat < n <;> simp [h,h2]
   ·simp [h]
  | _ => rfl
 | own z id off n es' =>
  cases opv F i with
  | int k j =>
   simp only [xBj,xJe,xC0]
   by_cases h : 0 ≤ j
   ·by_cases h2 : j.toNat < n
    ·by_cases h3 : es' = es <;> simp [h,h2,h3]
    ·simp [h,h2]
   ·simp [h]
  | _ => rfl
 | _ => cases opv F i <;> simp [xJe,xC0,xBj] <;> split <;> simp_all
def yCe (i : Nat) : AV → Option AV
 | .tup vs => vs[i]?
 | _ => none
theorem xPA (i : Nat) (vs : List AV) : yCe i (.tup vs) = vs[i]? := rfl
theorem xWY (i : Nat) (x : Arg) : xAa R F H (.ext i x) = xC0 H (yCe i (opv F x)) := by
 simp only [xAa]
 cases opv F x with
 | tup vs => simp only [yCe,xC0]; cases vs[i]? <;> rfl
 | _ => rfl
def yCf : AV → Option AV
 | .sl _ n _ => some (.int .i64 n)
 | .own _ _ _ n _ => some (.int .i64 n)
 | _ => none
theorem xTg (z : Bool) (n : Nat) (cs : List AV) : yCf (.sl z n cs) = some (.int .i64 n) := rfl
theorem xPB (z : Bool) (id off n es : Nat) : yCf (.own z id off n es) = some (.int .i64 n) := rfl
theorem xWZ (x : Arg) : xAa R F H (.len x) = xC0 H (yCf (opv F x)) := by
 simp only [xAa]
 cases opv F x <;> rfl
def yAt (fz : Bool) (es bytes : Nat) (H : Heap) (x : AV) : Option (Nat × List AV) → Option (AV × Heap)
 | none => none
 | some (m,ys) => match x with
  | .sl true _ _ => if m * bytes ≤ xAY ∧ m ≤ xAY then xDR fz (m == 0) m es ys H else none
  | .own z id off n es' => match H[id]? with
   | some (.cells false _ cs) => if off = 0 ∧ es' = es ∧ n * es ≤ cs.length ∧ (n + m) * bytes ≤ xAY ∧ n + m ≤ xAY then
     some (.own (z && m == 0) H.length 0 (n + m) es,H.set id .dead ++ [.cells false (z && m == 0) (cs.take (n * es) ++ ys)]) else none
   | _ => none
  | _ => none
theorem xMn (fz : Bool) (es bytes : Nat) (x y : Arg) : xAa R F H (.append fz es bytes x y) = yAt fz es bytes H (opv F x) (src H es (opv F y)) := by
 simp only [xAa,yAt]
 cases src H es (opv F y) <;> rfl
theorem xPC {fz : Bool} {es bytes n m : Nat} {cs ys : List AV} (h : m * bytes ≤ 140737488355328) (h2 : m ≤ 140737488355328) : yAt fz es bytes H (.sl true n cs) (some (m,ys)) = xDR fz (m == 0) m es ys H := if_pos ⟨h,h2⟩
def xYx (es bytes n m : Nat) (H : Heap) (z : Bool) (id : Nat) (ys : List AV) : Option Blk → Option (AV × Heap)
 | some (.cells false _ cs) => if n * es ≤ cs.length ∧ (n + m) * bytes ≤ xAY ∧ n + m ≤ xAY then
   some (.own (z && m == 0) H.length 0 (n + m) es,H.set id .dead ++ [.cells false (z && m == 0) (cs.take (n * es) ++ ys)]) else none
 | _ => none
theorem xPD (fz : Bool) (es bytes n m id : Nat) (z : Bool) (ys : List AV) : yAt fz es bytes H (.own z id 0 n es) (some (m,ys)) = xYx es bytes n m H z id ys H[id]? := by
 simp only [yAt,xYx]
 split
 ·rename_i z' cs hb
  by_cases h : n * es ≤ cs.length ∧ (n + m) * bytes ≤ xAY ∧ n + m ≤ xAY
  ·rw [if_pos h,if_pos ⟨trivial,trivial,h⟩]
  ·rw [if_neg h,if_neg (fun g => h g.2.2)]
 ·rename_i hne
  cases hb : H[id]? with
  | none => rfl
  | some b => cases b with
   | cells fz z cs => cases fz with
    | false => exact (hne _ _ hb).elim
    | true => rfl
   | _ => rfl
theorem xHE {es bytes n m id : Nat} {z z' : Bool} {ys cs : List AV} (h : n * es ≤ cs.length) (h2 : (n + m) * bytes ≤ 140737488355328) (h3 : n + m ≤ 140737488355328) : xYx es bytes n m H z id ys (some (.cells false z' cs)) =
  some (.own (z && m == 0) H.length 0 (n + m) es,H.set id .dead ++ [.cells false (z && m == 0) (cs.take (n * es) ++ ys)]) := if_pos ⟨h,h2,h3⟩
theorem xW0 {es n : Nat} {z : Bool} {cs : List AV} (h : cs.length = n * es) : src H es (.sl z n cs) = some (n,cs) := if_pos h
def yCg (off n es : Nat) : Option Blk → Option (Nat × List AV)
 | some (.cells _ _ cs) => if off + n * es ≤ cs.length then some (n,(cs.drop off).take (n * es)) else none
 | _ => none
theorem xTh (es n id off : Nat) (z : Bool) : src H es (.own z id off n es) = yCg off n es H[id]? := by
 simp only [src,yCg]
 cases H[id]? with
 | none => rfl
 | some b => cases b <;> simp
theorem xJg {es n off : Nat} {fz z : Bool} {cs : List AV} (h : off + n * es ≤ cs.length) : yCg off n es (some (.cells fz z cs)) = some (n,(cs.drop off).take (n * es)) := if_pos h
def xTi (z : List AV) (bytes id off k es m : Nat) (H : Heap) : Option Blk → Option (AV × Heap)
 | some (.cells false _ cs) => if off = 0 ∧ es = z.length ∧ k * z.length ≤ cs.length ∧ (k + m) * bytes ≤ xAY ∧ k + m ≤ xAY ∧ 0 < m ∧ z.all AV.isCell = true then
   some (.own false H.length 0 (k + m) z.length,H.set id .dead ++ [.cells false false (cs.take (k * z.length) ++ xCo z m)]) else none
 | _ => none
def xGv (z : List AV) (bytes : Nat) (H : Heap) : AV → AV → Option (AV × Heap)
 | .sl true _ _,.int _ m => if 0 ≤ m ∧ m.toNat * bytes ≤ xAY ∧ m.toNat ≤ xAY ∧ z.all AV.isCell = true then xDR false (m.toNat == 0) m.toNat z.length (xCo z m.toNat) H else none
 | .own false id off k es,.int _ m => if 0 ≤ m then xTi z bytes id off k es m.toNat H H[id]? else none
 | _,_ => none
theorem xN8 (z : List AV) (bytes id off k es m : Nat) (H : Heap) (b : Option Blk) : (match b with
   | some (.cells false _ cs) => if off = 0 ∧ es = z.length ∧ k * z.length ≤ cs.length ∧ (k + m) * bytes ≤ xAY ∧ k + m ≤ xAY ∧ 0 < m ∧ z.all AV.isCell = true then
     some (AV.own false H.length 0 (k + m) z.length,H.set id .dead ++ [.cells false false (cs.take (k * z.length) ++ xCo z m)]) else none
   | _ => none) = xTi z bytes id off k es m H b := by
 rcases b with _ | b
 ·rfl
 ·cases b with
  | cells fz zz cs => cases fz <;> rfl
  | _ => rfl
theorem xJh (z : List AV) (bytes : Nat) (x n : Arg) : xAa R F H (.appendz z bytes x n) = xGv z bytes H (opv F x) (opv F n) := by
 simp only [xAa]
 cases hn : opv F n with
 | int k m =>
  simp only [xBj]
  by_cases h : 0 ≤ m
  ·cases hx : opv F x with
   | sl zz nn cs => cases zz <;> simp [xGv,h]
   | own zz id off kk es =>
    cases zz with
    | true => simp [xGv,h]
    | false => simp only [h,if_true,xGv]; exact xN8 _ _ _ _ _ _ _ _ _
   | _ => simp [xGv,h]
  ·cases hx : opv F x with
   | sl zz nn cs => cases zz <;> simp [xGv,h]
   | own zz id off kk es => cases zz <;> simp [xGv,h]
   | _ => simp [xGv,h]
 | _ =>
  cases hx : opv F x with
  | sl zz nn cs => cases zz <;> simp [xGv,xBj]
  | own zz id off kk es => cases zz <;> simp [xGv,xBj]
  | _ => simp [xGv,xBj]
theorem xTj {z : List AV} {bytes id off k es : Nat} {kk : IntKind} {m : Int} (h0 : 0 ≤ m) : xGv z bytes H (.own false id off k es) (.int kk m) = xTi z bytes id off k es m.toNat H H[id]? := if_pos h0
theorem xN9 {z : List AV} {bytes id k m : Nat} {zz : Bool} {cs : List AV} (h1 : k * z.length ≤ cs.length) (h2 : (k + m) * bytes ≤ 140737488355328) (h3 : k + m ≤ 140737488355328) (h4 : 0 < m) (h5 : z.all AV.isCell = true) :
  xTi z bytes id 0 k z.length m H (some (.cells false zz cs)) = some (.own false H.length 0 (k + m) z.length,H.set id .dead ++ [.cells false false (cs.take (k * z.length) ++ xCo z m)]) := if_pos ⟨rfl,rfl,h1,h2,h3,h4,h5⟩
def yCh : AV → AV → Option AV
 | .int k a,.int _ b => some (.int k (min a b))
 | _,_ => none
theorem xPE (k k' : IntKind) (a b : Int) : yCh (.int k a) (.int k' b) = some (.int k (min a b)) := rfl
theorem xTk (x y : Arg) : xAa R F H (.mini x y) = xC0 H (yCh (opv F x) (opv F y)) := by
 simp only [xAa]
 cases opv F x with
 | int k a => cases opv F y with
  | int k' b => simp only [yCh,xC0]; congr 3; split <;> omega
  | _ => rfl
 | _ => rfl
theorem xW1 (z : List AV) : xCo z 0 = [] := rfl
theorem xW2 (z : List AV) : xCo z 1 = z ++ ([]) := rfl
theorem xW3 (z : List AV) : xCo z 2 = z ++ (z ++ ([])) := rfl
theorem xW4 (z : List AV) : xCo z 3 = z ++ (z ++ (z ++ ([]))) := rfl
theorem xW5 (z : List AV) : xCo z 4 = z ++ (z ++ (z ++ (z ++ ([])))) := rfl
theorem xW6 (z : List AV) : xCo z 5 = z ++ (z ++ (z ++ (z ++ (z ++ ([]))))) := rfl
theorem xEy (d : Nat) (k : IntKind) (n : Int) : frz d H (.int k n) = some (.int k n) := by cases d <;> rfl
theorem xE2 (d : Nat) (b : Bool) : frz d H (.bool b) = some (.bool b) := by cases d <;> rfl
theorem xTl (d : Nat) (b : ByteArray) : frz d H (.str b) = some (.str b) := by cases d <;> rfl
theorem xGh (d : Nat) (z : Bool) (n : Nat) (cs : List AV) : frz d H (.sl z n cs) = some (.sl z n cs) := by cases d <;> rfl
theorem xTm (d : Nat) (cs : List AV) : frz (d + 1) H (.agg cs) = (cs.mapM (frz d H)).map AV.agg := rfl
theorem xTn (d : Nat) (cs : List AV) : frz (d + 1) H (.tup cs) = (cs.mapM (frz d H)).map AV.tup := rfl
def yCi (d : Nat) (H : Heap) (z : Bool) (off n es : Nat) : Option Blk → Option AV
 | some (.cells _ _ cs) => if off + n * es ≤ cs.length then slK z n (((cs.drop off).take (n * es)).mapM (frz d H)) else none
 | _ => none
theorem xBh (d : Nat) (z : Bool) (id off n es : Nat) : frz (d + 1) H (.own z id off n es) = yCi d H z off n es H[id]? := by
 simp only [frz,yCi]
 cases H[id]? with
 | none => rfl
 | some b => cases b with
  | cells fz z' cs =>
   simp only
   split
   ·cases ((cs.drop off).take (n * es)).mapM (frz d H) <;> rfl
   ·rfl
  | _ => rfl
theorem xFA {d off n es : Nat} {z fz z' : Bool} {cs : List AV} (h : off + n * es ≤ cs.length) : yCi d H z off n es (some (.cells fz z' cs)) = slK z n (((cs.drop off).take (n * es)).mapM (frz d H)) := if_pos h
theorem xKK (d : Nat) (k : IntKind) (n : Int) : bor d H (.int k n) = [] := by cases d <;> rfl
theorem xGD (d : Nat) (b : Bool) : bor d H (.bool b) = [] := by cases d <;> rfl
theorem xTo (d : Nat) (b : ByteArray) : bor d H (.str b) = [] := by cases d <;> rfl
def yCj (R : Rec) (i : Nat) (b : ACode) (s : St) (ids : List Nat) : Option AV → Option (AExit × St)
 | some v => run R b ⟨s.F.set i v,fzIds s.H ids⟩
 | none => none
theorem xTp (i : Nat) (b : ACode) (s : St) : run R (.fzs i b) s = yCj R i b s (bor frzN s.H (s.F.getD i .any)) (frz frzN s.H (s.F.getD i .any)) := by
 simp only [run,yCj]
 cases frz frzN s.H (s.F.getD i .any) <;> rfl
theorem xMo (i : Nat) (b : ACode) (s : St) (ids : List Nat) (v : AV) : yCj R i b s ids (some v) = run R b ⟨s.F.set i v,fzIds s.H ids⟩ := rfl
def yCk (d : Nat) (H : Heap) (off : Nat) : Option Blk → Option AV
 | some (.cells _ _ cs) => (cs.mapM (frz d H)).map fun cs' => .vptr cs' off
 | _ => none
theorem xTq (d i o : Nat) : frz (d + 1) H (.ptr i o) = yCk d H o H[i]? := by
 simp only [frz,yCk]
 cases H[i]? with
 | none => rfl
 | some b => cases b <;> rfl
theorem xJi (d : Nat) (o : Nat) (fz z : Bool) (cs : List AV) : yCk d H o (some (.cells fz z cs)) = (cs.mapM (frz d H)).map fun cs' => .vptr cs' o := rfl
def xYy (d : Nat) (H : Heap) : Option Blk → List Nat
 | some (.cells _ _ cs) => cs.flatMap (bor d H)
 | _ => []
theorem xTr (d i o : Nat) : bor (d + 1) H (.ptr i o) = i :: xYy d H H[i]? := by
 simp only [bor,xYy]
 cases H[i]? with
 | none => rfl
 | some b => cases b <;> rfl
theorem xHF (d : Nat) (fz z : Bool) (cs : List AV) : xYy d H (some (.cells fz z cs)) = cs.flatMap (bor d H) := rfl
def yAu : Option Blk → Bool
 | some (.cells true _ _) => true
 | _ => false
theorem xJj (i : Nat) : xFw H i = yAu H[i]? := by
 simp only [xFw,yAu]
 cases H[i]? with
 | none => rfl
 | some b => cases b with
  | cells fz z cs => cases fz <;> rfl
  | _ => rfl
theorem xW7 (d : Nat) (z : Bool) (n : Nat) (cs : List AV) : bor d H (.sl z n cs) = [] := by cases d <;> rfl
theorem xTs (d : Nat) (cs : List AV) : bor (d + 1) H (.agg cs) = cs.flatMap (bor d H) := rfl
def yCl (d : Nat) (H : Heap) (off n es : Nat) : Option Blk → List Nat
 | some (.cells _ _ cs) => ((cs.drop off).take (n * es)).flatMap (bor d H)
 | _ => []
theorem xHG (d : Nat) (z : Bool) (id off n es : Nat) : bor (d + 1) H (.own z id off n es) = id :: yCl d H off n es H[id]? := by
 simp only [bor,yCl]
 cases H[id]? with
 | none => rfl
 | some b => cases b <;> rfl
theorem xJk (d off n es : Nat) (fz z : Bool) (cs : List AV) : yCl d H off n es (some (.cells fz z cs)) = ((cs.drop off).take (n * es)).flatMap (bor d H) := rfl
def yBS (args : List AV) (H : Heap) : Option AV → Option (AV × Heap)
 | some r => some (r,if xAy r = true then H else fzIds H (args.flatMap (bor frzN H)))
 | none => none
theorem xMp (args : List AV) (r : AV) : yBS args H (some r) = some (r,if xAy r = true then H else fzIds H (args.flatMap (bor frzN H))) := rfl
def yCm (R : Rec) (f : Nat) (args : List AV) (H : Heap) : Option (List AV) → Option (AV × Heap)
 | some args' => yBS args H (R.pcall f args')
 | none => none
theorem xMq (f : Nat) (args args' : List AV) : yCm R f args H (some args') = yBS args H (R.pcall f args') := rfl
theorem xMr (f : Nat) (args : List AV) : xBE R f args H = yCm R f args H (args.mapM (frz frzN H)) := by
 simp only [xBE,yCm]
 cases args.mapM (frz frzN H) with
 | none => rfl
 | some args' => simp only [yBS]; cases R.pcall f args' <;> rfl
theorem xTt (f : Nat) (args : List Arg) : xAa R F H (.call f args) = xBE R f (args.map (opv F)) H := rfl
theorem xPF (f : Arg) (args : List Arg) : xAa R F H (.icall f args) = R.icall (opv F f) (args.map (opv F)) H := rfl
def xJl (args : List AV) (H : Heap) : Option (AV × Heap) → Option (AV × Heap)
 | some (r,_) => if quietCall r H args = true then some (r,H) else none
 | none => none
theorem xHH (args : List AV) (r : AV) (H' : Heap) : xJl args H (some (r,H')) = if quietCall r H args = true then some (r,H) else none := rfl
theorem xTu (f : Nat) (args : List Arg) : xBg R F H (.call f args) = xJl (args.map (opv F)) H (xBE R f (args.map (opv F)) H) := by
 simp only [xBg,xAt,xJl]
 cases xBE R f (args.map (opv F)) H with
 | none => rfl
 | some r => obtain ⟨r,H'⟩ := r; simp only; split <;> rfl
def xOa (R : Rec) (args : List AV) (H : Heap) : AV → Option (AV × Heap)
 | .func g caps => xJl (args ++ caps) H (xBE R g (args ++ caps) H)
 | _ => none
theorem xGi (args : List AV) (g : Nat) (caps : List AV) : xOa R args H (.func g caps) = xJl (args ++ caps) H (xBE R g (args ++ caps) H) := rfl
theorem xPG (f : Arg) (args : List Arg) : xBg R F H (.fcall f args) = xOa R (args.map (opv F)) H (opv F f) := by
 simp only [xBg,xAt,xJl,xOa]
 cases opv F f with
 | func g caps =>
  simp only
  cases xBE R g (args.map (opv F) ++ caps) H with
  | none => rfl
  | some r => obtain ⟨r,H'⟩ := r; simp only; split <;> rfl
 | _ => rfl
theorem xW8 (v : AV) : xBg R F H (.box (.c v)) = if v.cells.all AV.isCell = true then some (.any,H) else none := by
 simp only [xBg,xAt]
 split <;> rfl
def xMs (H : Heap) : Option (AV × Heap) → Option (AV × Heap)
 | some (v,_) => some (v,H)
 | none => none
theorem xMt (v : AV) (H' : Heap) : xMs H (some (v,H')) = some (v,H) := rfl
theorem xE3 (op : AOp) (h : xAt R F H op = (xAa R F H op).map (·.1)) : xBg R F H op = xMs H (xAa R F H op) := by
 simp only [xBg,h,xMs]
 cases xAa R F H op <;> rfl
theorem xW9 (x : Arg) : xBg R F H (.mov x) = xMs H (xAa R F H (.mov x)) := xE3 _ rfl
theorem xTv (c a b : Arg) : xBg R F H (.pick c a b) = xMs H (xAa R F H (.pick c a b)) := xE3 _ rfl
theorem xTw (g : Bool) (n : Nat) (p : Arg) : xBg R F H (.load g n p) = xMs H (xAa R F H (.load g n p)) := xE3 _ rfl
theorem xMu (x : Arg) : xBg R F H (.nilchk x) = xMs H (xAa R F H (.nilchk x)) := xE3 _ rfl
theorem xXa (op : BinOp) (x y : Arg) : xBg R F H (.bin op x y) = xMs H (xAa R F H (.bin op x y)) := xE3 _ rfl
theorem xTx (k : IntKind) (x : Arg) : xBg R F H (.conv k x) = xMs H (xAa R F H (.conv k x)) := xE3 _ rfl
theorem xPH (es : Nat) (x : Arg) (lo hi mx : Option Arg) : xBg R F H (.slice es x lo hi mx) = xMs H (xAa R F H (.slice es x lo hi mx)) := xE3 _ rfl
theorem xPI (o : Nat) (x : Arg) : xBg R F H (.faddr o x) = xMs H (xAa R F H (.faddr o x)) := xE3 _ rfl
theorem xPJ (es : Nat) (x i : Arg) : xBg R F H (.iaddr es x i) = xMs H (xAa R F H (.iaddr es x i)) := xE3 _ rfl
theorem xXb (i : Nat) (x : Arg) : xBg R F H (.ext i x) = xMs H (xAa R F H (.ext i x)) := xE3 _ rfl
theorem xXc (x : Arg) : xBg R F H (.len x) = xMs H (xAa R F H (.len x)) := xE3 _ rfl
theorem xTy (x y : Arg) : xBg R F H (.mini x y) = xMs H (xAa R F H (.mini x y)) := xE3 _ rfl
def xQ4 (H : Heap) : Option AV → Option (AV × Heap)
 | some v => some (v,H)
 | none => none
theorem xJm (v : AV) : xQ4 H (some v) = some (v,H) := rfl
def xKL (rs : List ARes) : Option (AExit × St) → Option (AV × Heap)
 | some (.normal,s) => xQ4 s.H (xA1 rs s)
 | some (.ret,s) => xQ4 s.H (xA1 rs s)
 | _ => none
theorem xGj (rs : List ARes) (F : List AV) (H : Heap) : xKL rs (some (.normal,⟨F,H⟩)) = xQ4 H (xA1 rs ⟨F,H⟩) := rfl
theorem xMv (rs : List ARes) (F : List AV) (H : Heap) : xKL rs (some (.ret,⟨F,H⟩)) = xQ4 H (xA1 rs ⟨F,H⟩) := rfl
theorem xJn (rs : List ARes) : xKL rs none = none := rfl
theorem xMw (rs : List ARes) {c : Prop} [Decidable c] (x y : Option (AExit × St)) : xKL rs (if c then x else y) = if c then xKL rs x else xKL rs y := by split <;> rfl
def pads : Nat → List AV
 | 0 => []
 | n + 1 => .tup [] :: pads n
theorem xTz : ∀ n,List.replicate n (AV.tup []) = pads n
 | 0 => rfl
 | n + 1 => by rw [List.replicate_succ,xTz n]; rfl
theorem xAm (n : Nat) (code : ACode) (rs : List ARes) (args : List AV) : xBb R ⟨n,code,rs⟩ args H = xKL rs (run R code ⟨args ++ pads (n - args.length),H⟩) := by
 rw [← xTz]
 simp only [xBb,xKL,xLN,xQ4]
 cases h : run R code ⟨args ++ List.replicate (n - args.length) (.tup []),H⟩ with
 | none => rfl
 | some r =>
  obtain ⟨e,s⟩ := r
  cases e with
  | exit i => rfl
  | _ => simp only; cases xA1 rs s <;> rfl
def xGk : Option (AV × Heap) → Option AV
 | some (r,H') => frz frzN H' r
 | none => none
theorem xHI (r : AV) (H' : Heap) : xGk (some (r,H')) = frz frzN H' r := rfl
theorem xHJ : xGk none = none := rfl
theorem xJo {c : Prop} [Decidable c] (x y : Option (AV × Heap)) : xGk (if c then x else y) = if c then xGk x else xGk y := by split <;> rfl
theorem xAb (fn : AFunc) (args : List AV) : xAw R fn args = xGk (xBb R fn args []) := by
 simp only [xAw,xGk]
 cases xBb R fn args [] <;> rfl
def xYz (g : Bool) : Option (List AV) → Option AV
 | some cs => mkv g cs
 | none => none
theorem xJp (g : Bool) (cs : List AV) : xYz g (some cs) = mkv g cs := rfl
theorem xTA (t : Nat) : xSa ⟨F,H⟩ (.tmp t) = some (F.getD t .any) := rfl
theorem xPK (t : Nat) (g : Bool) (n : Nat) : xSa ⟨F,H⟩ (.cell t g n) = xYz g (rd H (F.getD t .any) n) := by
 simp only [xSa,xYz]
 cases rd H (F.getD t .any) n <;> rfl
theorem xMx : xA1 [] s = some (.tup []) := rfl
theorem xMy (r : ARes) : xA1 [r] s = xSa s r := rfl
def yCn (s : St) (rs : List ARes) : Option AV → Option (List AV)
 | some v => (xQT s rs).map (v :: ·)
 | none => none
theorem xMz (rs : List ARes) (v : AV) : yCn s rs (some v) = (xQT s rs).map (v :: ·) := rfl
theorem xPL : xQT s [] = some [] := rfl
theorem xMA (r : ARes) (rs : List ARes) : xQT s (r :: rs) = yCn s rs (xSa s r) := by
 simp only [xQT,yCn]
 cases xSa s r <;> rfl
theorem xMB (r r' : ARes) (rs : List ARes) : xA1 (r :: r' :: rs) s = (xQT s (r :: r' :: rs)).map .tup := rfl
end
section
variable {R : Rec} {F : List AV} {H : Heap} {s : St}
def xTB : Option (AV × Heap) → Option (AV × List Blk)
 | some (r,H') => (xEu H' r).map fun (v,B) => (v,B.map (·.2))
 | none => none
theorem xTC (f : Nat) (args : List AV) : xCW R f args = xTB (R.icall (.func f []) args []) := by
 unfold xCW xTB
 cases R.icall (.func f []) args [] <;> rfl
theorem xHK (r : AV) (H' : Heap) : xTB (some (r,H')) = (xEu H' r).map fun (v,B) => (v,B.map (·.2)) := rfl
def ocK (H : Heap) (ids : List Nat) : Option (AV × List Blk) → Option (AV × Heap)
 | some (v,B) => some (xCV H.length v,fzIds H ids ++ B)
 | none => none
def xTD (R : Rec) (f : Nat) (H : Heap) (ids : List Nat) : Option (List AV) → Option (AV × Heap)
 | some args' => ocK H ids (xCW R f args')
 | none => none
theorem xPM (f : Nat) (args : List Arg) : xAa R F H (.ocall f args) = xTD R f H ((args.map (opv F)).flatMap (bor frzN H)) ((args.map (opv F)).mapM (frz frzN H)) := by
 simp only [xAa,xTD]
 cases (args.map (opv F)).mapM (frz frzN H) with
 | none => rfl
 | some args' =>
  simp only [ocK]
  cases xCW R f args' <;> rfl
theorem xHL (f : Nat) (ids : List Nat) (args' : List AV) : xTD R f H ids (some args') = ocK H ids (xCW R f args') := rfl
theorem xPN (ids : List Nat) (v : AV) (B : List Blk) : ocK H ids (some (v,B)) = some (xCV H.length v,fzIds H ids ++ B) := rfl
def t1B (z : Bool) (id off n es : Nat) (B : List (Nat × Blk)) : Option Blk → Option (AV × List (Nat × Blk))
 | some (.cells false z' cs) => if cs.all xB3 = true then some (.own z B.length off n es,B ++ [(id,.cells false z' cs)]) else none
 | _ => none
def t1I (z : Bool) (id off n es : Nat) (B : List (Nat × Blk)) (b : Option Blk) : Option Nat → Option (AV × List (Nat × Blk))
 | some k => some (.own z k off n es,B)
 | none => t1B z id off n es B b
theorem xMC (H : Heap) (z : Bool) (id off n es : Nat) (B : List (Nat × Blk)) : xKE H (.own z id off n es) B = t1I z id off n es B H[id]? (B.findIdx? (fun p => p.1 == id)) := by
 simp only [xKE,t1I]
 cases B.findIdx? (fun p => p.1 == id) with
 | some k => rfl
 | none =>
  simp only [t1B]
  cases H[id]? with
  | none => rfl
  | some b => cases b with
   | cells fz z' cs => cases fz <;> rfl
   | _ => rfl
theorem xTE (z : Bool) (id off n es : Nat) (B : List (Nat × Blk)) (z' : Bool) (cs : List AV) : t1I z id off n es B (some (.cells false z' cs)) none = if cs.all xB3 = true then some (.own z B.length off n es,B ++ [(id,.cells false z' cs)]) else none := rfl
theorem xHM (H : Heap) (z : Bool) (id off n es : Nat) : xEu H (.own z id off n es) = xKE H (.own z id off n es) [] := rfl
theorem xMD {α : Type} (p : α → Bool) : ([] : List α).findIdx? p = none := rfl
end
section
variable {R : Rec} {F : List AV} {H : Heap}
def yBT (g : Bool) (es len : Nat) : AV → AV → Option AV
 | .agg cs,.int _ i => if 0 ≤ i ∧ i.toNat < len ∧ i.toNat * es + es ≤ cs.length then mkv g ((cs.drop (i.toNat * es)).take es) else none
 | _,_ => none
theorem xPO {g : Bool} {es len : Nat} {cs : List AV} {k : IntKind} {i : Int} (h0 : 0 ≤ i) (h : i < len) (h2 : i.toNat * es + es ≤ cs.length) : yBT g es len (.agg cs) (.int k i) = mkv g ((cs.drop (i.toNat * es)).take es) := if_pos ⟨h0,by omega,h2⟩
theorem xXd (g : Bool) (es len : Nat) (x i : Arg) : xAa R F H (.idx g es len x i) = xC0 H (yBT g es len (opv F x) (opv F i)) := by
 simp only [xAa]
 cases opv F x with
 | agg cs => cases opv F i with
  | int k n =>
   by_cases h0 : 0 ≤ n
   ·have e : xBj (.int k n) = some n.toNat := by simp [xBj,h0]
    simp only [e,yBT,h0,true_and]
    by_cases c : n.toNat < len ∧ n.toNat * es + es ≤ cs.length
    ·rw [if_pos c,if_pos c]
     cases mkv g ((cs.drop (n.toNat * es)).take es) <;> rfl
    ·rw [if_neg c,if_neg c]; rfl
   ·have e : xBj (.int k n) = none := by simp [xBj,h0]
    simp only [e,yBT,h0,false_and,if_false,xC0]
  | _ => rfl
 | _ => rfl
def xJq (es len : Nat) : AV → AV → Option AV
 | .ptr id off,.int _ i => if 0 ≤ i ∧ i.toNat < len then some (.ptr id (off + i.toNat * es)) else none
 | .vptr cs off,.int _ i => if 0 ≤ i ∧ i.toNat < len then some (.vptr cs (off + i.toNat * es)) else none
 | _,_ => none
theorem xJr {es len id off : Nat} {k : IntKind} {i : Int} (h0 : 0 ≤ i) (h : i < len) : xJq es len (.ptr id off) (.int k i) = some (.ptr id (off + i.toNat * es)) := if_pos ⟨h0,by omega⟩
theorem xPP (es len : Nat) (x i : Arg) : xAa R F H (.arrat es len x i) = xC0 H (xJq es len (opv F x) (opv F i)) := by
 simp only [xAa]
 cases opv F x with
 | ptr id off => cases opv F i with
  | int k n =>
   by_cases h0 : 0 ≤ n
   ·have e : xBj (.int k n) = some n.toNat := by simp [xBj,h0]
    simp only [e,xJq,h0,true_and]
    by_cases c : n.toNat < len
    ·rw [if_pos c,if_pos c]; rfl
    ·rw [if_neg c,if_neg c]; rfl
   ·have e : xBj (.int k n) = none := by simp [xBj,h0]
    simp only [e,xJq,h0,false_and,if_false,xC0]
  | _ => rfl
 | vptr cs off => cases opv F i with
  | int k n =>
   by_cases h0 : 0 ≤ n
   ·have e : xBj (.int k n) = some n.toNat := by simp [xBj,h0]
    simp only [e,xJq,h0,true_and]
    by_cases c : n.toNat < len
    ·rw [if_pos c,if_pos c]; rfl
    ·rw [if_neg c,if_neg c]; rfl
   ·have e : xBj (.int k n) = none := by simp [xBj,h0]
    simp only [e,xJq,h0,false_and,if_false,xC0]
  | _ => rfl
 | _ => rfl
theorem xPQ (es len : Nat) (x i : Arg) : xBg R F H (.arrat es len x i) = xMs H (xAa R F H (.arrat es len x i)) := xE3 _ rfl
end
end Go.Abs
