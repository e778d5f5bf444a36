/- The interpreter's equations in the form that simp walks by: one equation for each construct,told apart by what has been computed already. -/
import Derived.Test.YtdheandekcpieaaGreatDoorAbsLim
namespace Go.Abs
set_option linter.unusedVariables false
set_option linter.unusedSimpArgs false
theorem xD9 : ∀ (scr : List Nat) (F : List AV) (i : Nat),(xAq scr F)[i]? = if i ∈ scr then (F[i]?).map (fun _ => AV.any) else F[i]?
 | [],F,i => by simp [xAq]
 | j :: scr,F,i => by
  have := xD9 scr (F.set j .any) i
  simp only [xAq,List.foldl_cons] at this ⊢
  rw [this]
  by_cases h : i = j
  ·subst h
   simp only [List.getElem?_set_self',List.mem_cons,true_or,if_true]
   cases F[i]? <;> simp
  ·have h' : ¬ j = i := fun e => h e.symm
   simp [List.getElem?_set,h,h']
theorem xN1 (scr : List Nat) (F : List AV) : xAq scr (xAq scr F) = xAq scr F := by
 apply List.ext_getElem?
 intro i
 rw [xD9,xD9]
 split
 ·cases F[i]? <;> rfl
 ·rfl
section
variable {prog : Nat → Option AFunc}
theorem xSq (prog : Nat → Option AFunc) (n : Nat) : Tends (fix prog n) (fun _ => lim prog) :=
 ⟨fun f a v h => .all fun _ => xEt ((xET prog n).pcall f a v h),fun f a H v h => .all fun _ => xEt ((xET prog n).icall f a H v h),fun scr b s v h => .all fun _ => xEt ((xET prog n).loop scr b s v h)⟩
theorem Ev.const {p : Prop} (h : Ev fun _ => p) : p := let ⟨n,hn⟩ := h; hn n (Nat.le_refl n)
theorem xSr {α : Type} {a b : Option α} (h1 : ∀ v,a = some v → b = some v) (h2 : ∀ v,b = some v → a = some v) : a = b := by
 cases a with
 | some v => exact (h1 v rfl).symm
 | none =>
  cases b with
  | none => rfl
  | some v => exact h2 v rfl
theorem xAi {f : Nat} {fn : AFunc} (hf : prog f = some fn) (args : List AV) : (lim prog).pcall f args = xAw (lim prog) fn args := by
 refine xSr (fun v h => ?_) (fun v h => xRi hf h)
 obtain ⟨n,hn⟩ := xB3 (p := fun m => (fix prog m).pcall f args) h
 have h1 : (xCO prog (fix prog n)).pcall f args = some v := hn (n + 1) (by omega)
 have h2 := (xBv (xSq prog n) prog).pcall f args v h1 |>.const
 simp only [xCO,hf] at h2
 exact h2
theorem xLX (f : AV) (args : List AV) (H : Heap) : (lim prog).icall f args H = xCX prog (lim prog) f args H := by
 refine xSr (fun v h => ?_) (fun v h => xRj h)
 obtain ⟨n,hn⟩ := xB3 (p := fun m => (fix prog m).icall f args H) h
 have h1 : (xCO prog (fix prog n)).icall f args H = some v := hn (n + 1) (by omega)
 exact (xBv (xSq prog n) prog).icall f args H v h1 |>.const
theorem xEE (scr : List Nat) (b : ACode) (s : St) : (lim prog).loop scr b s = xG8 (lim prog) scr b s := by
 refine xSr (fun v h => ?_) (fun v h => xVw h)
 obtain ⟨n,hn⟩ := xB3 (p := fun m => (fix prog m).loop scr b s) h
 have h1 : (xCO prog (fix prog n)).loop scr b s = some v := hn (n + 1) (by omega)
 exact (xBv (xSq prog n) prog).loop scr b s v h1 |>.const
theorem xAo {f : Nat} {fn : AFunc} (hf : prog f = some fn) (caps args : List AV) (H : Heap) : (lim prog).icall (.func f caps) args H = xBa (lim prog) fn (args ++ caps) H := by
 rw [xLX]
 simp only [xCX,hf]
theorem xEk (scr : List Nat) (b : ACode) (F : List AV) (H : Heap) : (lim prog).loop scr b ⟨F,H⟩ = (lim prog).loop scr b ⟨xAq scr F,H⟩ := by
 rw [xEE,xEE]
 unfold xG8
 simp only [xN1]
def xAP (R : Rec) (scr : List Nat) (b : ACode) : Option (AExit × St) → Option (AExit × St)
 | some (.normal,s) => R.loop scr b ⟨xAq scr s.F,s.H⟩
 | some (e,s) => some (e,⟨xAq scr s.F,s.H⟩)
 | none => none
theorem xAh (scr : List Nat) (b : ACode) (F : List AV) (H : Heap) (h : xAq scr F = F) : (lim prog).loop scr b ⟨F,H⟩ = xAP (lim prog) scr b (run (lim prog) b ⟨F,H⟩) := by
 rw [xEE]
 unfold xG8 xAP
 simp only [h]
 split
 ·rename_i s' hs
  rw [hs]
  exact xEk scr b s'.F s'.H
 ·rename_i e s' hne hs
  rw [hs]
  cases e with
  | normal => exact (hne rfl).elim
  | exit i => rfl
  | ret => rfl
 ·rename_i hs
  rw [hs]
theorem xO2 (scr : List Nat) (b : ACode) (F : List AV) (H : Heap) : run (lim prog) (.loop scr b) ⟨F,H⟩ = (lim prog).loop scr b ⟨xAq scr F,H⟩ := xEk scr b F H
end
section
variable {R : Rec} {F : List AV} {H : Heap} {s : St}
def xVs (R : Rec) (b : ACode) : Option (AExit × St) → Option (AExit × St)
 | some (.normal,s) => run R b s
 | r => r
theorem xSs (a b : ACode) : run R (.seq a b) s = xVs R b (run R a s) := by
 simp only [run,xVs]
 split <;> simp_all
theorem xHg (b : ACode) (s : St) : xVs R b (some (.normal,s)) = run R b s := rfl
theorem xLY (b : ACode) (i : Nat) (s : St) : xVs R b (some (.exit i,s)) = some (.exit i,s) := rfl
theorem xO3 (b : ACode) (s : St) : xVs R b (some (.ret,s)) = some (.ret,s) := rfl
theorem xLZ (b : ACode) : xVs R b none = none := rfl
theorem xO4 (b : ACode) {c : Prop} [Decidable c] (x y : Option (AExit × St)) : xVs R b (if c then x else y) = if c then xVs R b x else xVs R b y := by split <;> rfl
def xY9 (R : Rec) (a b : ACode) (s : St) : AV → Option (AExit × St)
 | .bool t => if t = true then run R a s else run R b s
 | _ => none
theorem xO5 (c : Arg) (a b : ACode) (F : List AV) (H : Heap) : run R (.cond c a b) ⟨F,H⟩ = xY9 R a b ⟨F,H⟩ (opv F c) := by
 simp only [run,xY9]
 split <;> simp_all
theorem xIK (a b : ACode) (t : Bool) : xY9 R a b s (.bool t) = if t = true then run R a s else run R b s := rfl
def xE8 (id : Nat) : Option (AExit × St) → Option (AExit × St)
 | some (.exit i,s) => if i = id then some (.normal,s) else some (.exit i,s)
 | r => r
theorem xL0 (id : Nat) (b : ACode) : run R (.block id b) s = xE8 id (run R b s) := by
 simp only [run,xE8]
 split <;> simp_all
theorem xHh (id i : Nat) (s : St) : xE8 id (some (.exit i,s)) = if i = id then some (.normal,s) else some (.exit i,s) := rfl
theorem xE9 (id : Nat) (s : St) : xE8 id (some (.normal,s)) = some (.normal,s) := rfl
theorem xIL (id : Nat) (s : St) : xE8 id (some (.ret,s)) = some (.ret,s) := rfl
theorem xIM (id : Nat) {c : Prop} [Decidable c] (x y : Option (AExit × St)) : xE8 id (if c then x else y) = if c then xE8 id x else xE8 id y := by split <;> rfl
theorem xGi (scr : List Nat) (b : ACode) (F : List AV) (H : Heap) : xAP R scr b (some (.normal,⟨F,H⟩)) = R.loop scr b ⟨xAq scr F,H⟩ := rfl
theorem xIN (scr : List Nat) (b : ACode) (i : Nat) (F : List AV) (H : Heap) : xAP R scr b (some (.exit i,⟨F,H⟩)) = some (.exit i,⟨xAq scr F,H⟩) := rfl
theorem xL1 (scr : List Nat) (b : ACode) (F : List AV) (H : Heap) : xAP R scr b (some (.ret,⟨F,H⟩)) = some (.ret,⟨xAq scr F,H⟩) := rfl
theorem xL2 (scr : List Nat) (b : ACode) {c : Prop} [Decidable c] (x y : Option (AExit × St)) : xAP R scr b (if c then x else y) = if c then xAP R scr b x else xAP R scr b y := by split <;> rfl
def xVt : Option St → Option (AExit × St)
 | some s => some (.normal,s)
 | none => none
theorem xL3 (s : St) : xVt (some s) = some (.normal,s) := rfl
theorem xL4 : xVt none = none := rfl
theorem xO6 {c : Prop} [Decidable c] (x y : Option St) : xVt (if c then x else y) = if c then xVt x else xVt y := by split <;> rfl
theorem xIO (ops : List AOper) : run R (.region ops) s = xVt (xAy R ops s) := by
 simp only [run,xVt]
 cases xAy R ops s <;> rfl
theorem xO7 : run R .skip s = some (.normal,s) := rfl
theorem xO8 (i : Nat) : run R (.exit i) s = some (.exit i,s) := rfl
theorem xSt : run R .ret s = some (.ret,s) := rfl
def xZa (R : Rec) (rest : List AOper) : Option St → Option St
 | some s => xAy R rest s
 | none => none
theorem xIP : xAy R [] s = some s := rfl
theorem xHi (o : AOper) (rest : List AOper) : xAy R (o :: rest) s = xZa R rest (xAN R o s) := by
 simp only [xAy,xZa]
 cases xAN R o s <;> rfl
theorem xL5 (rest : List AOper) (s : St) : xZa R rest (some s) = xAy R rest s := rfl
theorem xL6 (rest : List AOper) : xZa R rest none = none := rfl
theorem xO9 (rest : List AOper) {c : Prop} [Decidable c] (x y : Option St) : xZa R rest (if c then x else y) = if c then xZa R rest x else xZa R rest y := by split <;> rfl
def xSu (F : List AV) (d : Option Nat) : Option (AV × Heap) → Option St
 | some (v,H) => some ⟨putA F d v,H⟩
 | none => none
theorem xSv (d : Nat) (v : AV) : xSu F (some d) (some (v,H)) = some ⟨F.set d v,H⟩ := rfl
theorem xSw (v : AV) : xSu F none (some (v,H)) = some ⟨F,H⟩ := rfl
theorem xL7 (d : Option Nat) : xSu F d none = none := rfl
theorem xPa (d : Option Nat) {c : Prop} [Decidable c] (x y : Option (AV × Heap)) : xSu F d (if c then x else y) = if c then xSu F d x else xSu F d y := by split <;> rfl
theorem xL8 (d : Option Nat) (op : AOp) : xAN R ⟨d,op,none⟩ ⟨F,H⟩ = xSu F d (xAc R F H op) := by
 simp only [xAN,xBJ,xSu]
 cases xAc R F H op <;> rfl
def xPb (R : Rec) (d : Option Nat) (op : AOp) (w : Bool) (F : List AV) (H : Heap) : AV → Option St
 | .bool b => if b = w then xSu F d (xAc R F H op) else some ⟨putA F d (.tup []),H⟩
 | .any => none
 | _ => some ⟨putA F d (.tup []),H⟩
theorem xIQ (d : Option Nat) (op : AOp) (t : Nat) (w : Bool) : xAN R ⟨d,op,some (t,w)⟩ ⟨F,H⟩ = xPb R d op w F H (F.getD t .any) := by
 simp only [xAN,xBJ,xPb]
 cases F.getD t .any with
 | bool b =>
  cases b <;> cases w <;> simp [xSu] <;> cases xAc R F H op <;> rfl
 | _ => rfl
theorem xHj (d : Option Nat) (op : AOp) (w b : Bool) : xPb R d op w F H (.bool b) = if b = w then xSu F d (xAc R F H op) else some ⟨putA F d (.tup []),H⟩ := rfl
theorem xIR (d : Option Nat) (op : AOp) (w : Bool) (vs : List AV) : xPb R d op w F H (.tup vs) = some ⟨putA F d (.tup []),H⟩ := rfl
theorem xSx (d : Nat) (v : AV) : putA F (some d) v = F.set d v := rfl
def xZb (R : Rec) (m : Nat) (ops : List AOper) : Option St → Option (AExit × St)
 | some s => xVt (xAy R (ops.drop m) (adopt (ops.take m) s))
 | none => none
theorem xPc (m : Nat) (ops : List AOper) : run R (.draw m ops) s = xZb R m ops (xA6 R (ops.take m) s) := by
 simp only [run,xZb]
 cases xA6 R (ops.take m) s with
 | none => rfl
 | some s1 =>
  simp only [xVt]
  cases xAy R (ops.drop m) (adopt (ops.take m) s1) <;> rfl
theorem xIS (m : Nat) (ops : List AOper) (s : St) : xZb R m ops (some s) = xVt (xAy R (ops.drop m) (adopt (ops.take m) s)) := rfl
def xPd (ls : List (Nat × Nat × Nat × Nat)) : Option St → Option (AExit × St)
 | some s => if ls.all (apart s.F) = true then some (.normal,s) else none
 | none => none
def xSy (R : Rec) (ls : List (Nat × Nat × Nat × Nat)) (m : Nat) (ops : List AOper) : Option St → Option (AExit × St)
 | some s => xPd ls (xAy R (ops.drop m) (adopt (ops.take m) s))
 | none => none
theorem xL9 (ls : List (Nat × Nat × Nat × Nat)) (m : Nat) (ops : List AOper) : run R (.drawl ls m ops) s = xSy R ls m ops (xA6 R (ops.take m) s) := by
 simp only [run,xSy]
 cases xA6 R (ops.take m) s with
 | none => rfl
 | some s1 =>
  simp only [xPd]
  cases xAy R (ops.drop m) (adopt (ops.take m) s1) <;> rfl
theorem xHk (ls : List (Nat × Nat × Nat × Nat)) (m : Nat) (ops : List AOper) (s : St) : xSy R ls m ops (some s) = xPd ls (xAy R (ops.drop m) (adopt (ops.take m) s)) := rfl
theorem xHl (ls : List (Nat × Nat × Nat × Nat)) (s : St) : xPd ls (some s) = if ls.all (apart s.F) = true then some (.normal,s) else none := rfl
def xZc (R : Rec) (rest : List AOper) : Option St → Option St
 | some s => xA6 R rest s
 | none => none
theorem xHm : xA6 R [] s = some s := rfl
theorem xGj (o : AOper) (rest : List AOper) : xA6 R (o :: rest) s = xZc R rest (xAO R o s) := by
 simp only [xA6,xZc]
 cases xAO R o s <;> rfl
theorem xIT (rest : List AOper) (s : St) : xZc R rest (some s) = xA6 R rest s := rfl
def xQX (F : List AV) (d : Option Nat) (H : Heap) : Option (AV × Heap) → Option St
 | some (v,_) => some ⟨putA F d v,H⟩
 | none => none
theorem xPe (d : Nat) (v : AV) (H' : Heap) : xQX F (some d) H (some (v,H')) = some ⟨F.set d v,H⟩ := rfl
def xBj (R : Rec) (F : List AV) (H : Heap) (op : AOp) : Option (AV × Heap) := (xAv R F H op).map fun v => (v,H)
theorem xIU (d : Option Nat) (op : AOp) : xAO R ⟨d,op,none⟩ ⟨F,H⟩ = xQX F d H (xBj R F H op) := by
 simp only [xAO,xBJ,xQX,xBj]
 cases xAv R F H op <;> rfl
def xN2 (R : Rec) (d : Option Nat) (op : AOp) (w : Bool) (F : List AV) (H : Heap) : AV → Option St
 | .bool b => if b = w then xQX F d H (xBj R F H op) else some ⟨putA F d (.tup []),H⟩
 | .any => none
 | _ => some ⟨putA F d (.tup []),H⟩
theorem xHn (d : Option Nat) (op : AOp) (t : Nat) (w : Bool) : xAO R ⟨d,op,some (t,w)⟩ ⟨F,H⟩ = xN2 R d op w F H (F.getD t .any) := by
 simp only [xAO,xBJ,xN2]
 cases F.getD t .any with
 | bool b =>
  cases b <;> cases w <;> simp [xQX,xBj] <;> cases xAv R F H op <;> rfl
 | _ => rfl
theorem xGk (d : Option Nat) (op : AOp) (w b : Bool) : xN2 R d op w F H (.bool b) = if b = w then xQX F d H (xBj R F H op) else some ⟨putA F d (.tup []),H⟩ := rfl
def xC0 (H : Heap) : Option AV → Option (AV × Heap)
 | some v => some (v,H)
 | none => none
theorem xMa (v : AV) : xC0 H (some v) = some (v,H) := rfl
theorem xXt (x : Arg) : xAc R F H (.mov x) = some (opv F x,H) := rfl
def xZd : AV → AV → AV → Option AV
 | .bool t,a,b => some (if t = true then a else b)
 | _,_,_ => none
theorem xIV (t : Bool) (a b : AV) : xZd (.bool t) a b = some (if t = true then a else b) := rfl
theorem xSz (c a b : Arg) : xAc R F H (.pick c a b) = xC0 H (xZd (opv F c) (opv F a) (opv F b)) := by
 simp only [xAc,xZd,xC0]
 split <;> simp_all
theorem xXu (x : Arg) : xAc R F H (.box x) = if (opv F x).cells.all AV.isCell = true then some (.ptr H.length 0,H ++ [.cells false false (opv F x).cells]) else none := rfl
theorem xPf (z : List AV) (parts : List (Nat × Nat × Arg)) : xAc R F H (.build z parts) =
  if parts.all (fun p => (opv F p.2.2).cells.length == p.2.1) = true then xC0 H ((fillA z (parts.map fun p => (p.1,(opv F p.2.2).cells))).map AV.agg) else none := by
 simp only [xAc,xC0]
 split
 ·cases fillA z (parts.map fun p => (p.1,(opv F p.2.2).cells)) <;> rfl
 ·rfl
def yDB (fz z : Bool) (n es : Nat) (H : Heap) : Option (List AV) → Option (AV × Heap)
 | some cs => xEc fz z n es cs H
 | none => none
theorem xMb (fz z : Bool) (n es : Nat) (cs : List AV) : yDB fz z n es H (some cs) = xEc fz z n es cs H := rfl
theorem xPg (z : Bool) (n es : Nat) (cs : List AV) : xEc false z n es cs H = some (.own z H.length 0 n es,H ++ [.cells false z cs]) := rfl
def slK (z : Bool) (n : Nat) : Option (List AV) → Option AV
 | some cs => some (.sl z n cs)
 | none => none
theorem xPh (z : Bool) (n : Nat) (cs : List AV) : slK z n (some cs) = some (.sl z n cs) := rfl
theorem xMc (z : Bool) (n es : Nat) (cs : List AV) : xEc true z n es cs H = if (cs.flatMap (bor frzN H)).isEmpty = true then xC0 H (slK z n (cs.mapM (frz frzN H))) else none := by
 simp only [xEc,xC0,slK]
 split
 ·rename_i h
  cases cs.mapM (frz frzN H) <;> simp_all
 ·simp_all
theorem xMd (fz : Bool) (z : List AV) (es n : Nat) (parts : List (Nat × Arg)) : xAc R F H (.bslice fz z es n parts) =
  if parts.all (fun p => (opv F p.2).cells.length == es) = true then yDB fz false n es H (fillA (xCu z n) (parts.map fun p => (p.1 * es,(opv F p.2).cells))) else none := by
 simp only [xAc,yDB]
 split
 ·cases fillA (xCu z n) (parts.map fun p => (p.1 * es,(opv F p.2).cells)) <;> rfl
 ·rfl
def xWk (g : Bool) : Option (List AV) → Option AV
 | some cs => mkv g cs
 | none => none
theorem xSA (v : AV) : xWk false (some [v]) = some v := rfl
theorem xSB (cs : List AV) : xWk true (some cs) = some (.agg cs) := rfl
theorem xSC (g : Bool) (n : Nat) (p : Arg) : xAc R F H (.load g n p) = xC0 H (xWk g (rd H (opv F p) n)) := by
 simp only [xAc,xC0,xWk]
 cases rd H (opv F p) n with
 | none => rfl
 | some cs => simp only; cases mkv g cs <;> rfl
def rdK (off n : Nat) : Option Blk → Option (List AV)
 | some (.cells _ _ cs) => if off + n ≤ cs.length then some ((cs.drop off).take n) else none
 | _ => none
theorem xXv (id off n : Nat) : rd H (.ptr id off) n = rdK off n H[id]? := by
 simp only [rd,rdK]
 rfl
theorem xMe {off n : Nat} {fz z : Bool} {cs : List AV} (h : off + n ≤ cs.length) : rdK off n (some (.cells fz z cs)) = some ((cs.drop off).take n) := if_pos h
theorem xSD {off n : Nat} {cs : List AV} (h : off + n ≤ cs.length) : rd H (.vptr cs off) n = some ((cs.drop off).take n) := if_pos h
def wrK (H : Heap) (id off : Nat) (vs : List AV) : Option Blk → Option Heap
 | some (.cells false z cs) => if off + vs.length ≤ cs.length ∧ vs.all AV.isCell = true then some (H.set id (.cells false z (splice cs off vs))) else none
 | _ => none
theorem xXw (id off : Nat) (vs : List AV) : wr H (.ptr id off) vs = wrK H id off vs H[id]? := by
 simp only [wr,wrK]
 rfl
theorem xHo {id off : Nat} {vs : List AV} {z : Bool} {cs : List AV} (h : off + vs.length ≤ cs.length) (h2 : vs.all AV.isCell = true) : wrK H id off vs (some (.cells false z cs)) = some (H.set id (.cells false z (splice cs off vs))) := if_pos ⟨h,h2⟩
def xSE : Option Heap → Option (AV × Heap)
 | some H => some (.tup [],H)
 | none => none
theorem xHp (H : Heap) : xSE (some H) = some (.tup [],H) := rfl
theorem xPi (n : Nat) (p v : Arg) : xAc R F H (.store n p v) = if (opv F v).cells.length = n then xSE (wr H (opv F p) (opv F v).cells) else none := by
 simp only [xAc,xSE]
 split
 ·cases wr H (opv F p) (opv F v).cells <;> rfl
 ·rfl
def yDC : AV → Option AV
 | .ptr id off => some (.ptr id off)
 | .vptr cs off => some (.vptr cs off)
 | .func f caps => some (.func f caps)
 | .yield l => some (.yield l)
 | _ => none
theorem xPj (id off : Nat) : yDC (.ptr id off) = some (.ptr id off) := rfl
theorem xMf (cs : List AV) (off : Nat) : yDC (.vptr cs off) = some (.vptr cs off) := rfl
theorem xMg (x : Arg) : xAc R F H (.nilchk x) = xC0 H (yDC (opv F x)) := by
 simp only [xAc]
 cases opv F x <;> rfl
theorem xXx (op : BinOp) (x y : Arg) : xAc R F H (.bin op x y) = xC0 H (xDK op (opv F x) (opv F y)) := by
 simp only [xAc,xC0]
 cases xDK op (opv F x) (opv F y) <;> rfl
section
variable (k : IntKind) (a b : Int)
theorem xSF : xDK .add (.int k a) (.int k b) = some (.int k (k.wrap (a + b))) := by simp [xDK]
theorem xSG : xDK .sub (.int k a) (.int k b) = some (.int k (k.wrap (a - b))) := by simp [xDK]
theorem xSH : xDK .mul (.int k a) (.int k b) = some (.int k (k.wrap (a * b))) := by simp [xDK]
theorem xSI (h : b ≠ 0) : xDK .quo (.int k a) (.int k b) = some (.int k (k.wrap (a.tdiv b))) := by simp [xDK,h]
theorem xSJ (h : b ≠ 0) : xDK .rem (.int k a) (.int k b) = some (.int k (a.tmod b)) := by simp [xDK,h]
theorem xSK : xDK .and (.int k a) (.int k b) = some (.int k (xDq .and k a b)) := by simp [xDK]
theorem xXy : xDK .or (.int k a) (.int k b) = some (.int k (xDq .or k a b)) := by simp [xDK]
theorem xSL (k' : IntKind) (h : 0 ≤ b) : xDK .shl (.int k a) (.int k' b) = some (.int k (k.wrap (a * 2 ^ (min b.toNat k.bits)))) := by simp only [xDK]; rw [if_neg (by omega)]
theorem xSM (k' : IntKind) (h : 0 ≤ b) : xDK .shr (.int k a) (.int k' b) = some (.int k (a.fdiv (2 ^ (min b.toNat k.bits)))) := by simp only [xDK]; rw [if_neg (by omega)]
theorem xSN : xDK .eql (.int k a) (.int k b) = some (.bool (decide (a = b))) := by simp [xDK]; rfl
theorem xSO : xDK .neq (.int k a) (.int k b) = some (.bool (!decide (a = b))) := by simp [xDK]; rfl
theorem xSP : xDK .lss (.int k a) (.int k b) = some (.bool (decide (a < b))) := by simp [xDK]
theorem xSQ : xDK .leq (.int k a) (.int k b) = some (.bool (decide (a ≤ b))) := by simp [xDK]
theorem xSR : xDK .gtr (.int k a) (.int k b) = some (.bool (decide (b < a))) := by simp [xDK]
theorem xSS : xDK .geq (.int k a) (.int k b) = some (.bool (decide (b ≤ a))) := by simp [xDK]
end
def yEW (neg : Bool) : AV → AV → Option AV
 | .bool a,.bool b => some (.bool (if neg = true then a != b else a == b))
 | _,_ => none
theorem xXz (a b : Bool) : yEW true (.bool a) (.bool b) = some (.bool (!decide (a = b))) := by cases a <;> cases b <;> rfl
theorem xXA (neg : Bool) (x y : Arg) : xAc R F H (.beq neg x y) = xC0 H (yEW neg (opv F x) (opv F y)) := by
 simp only [xAc]
 cases opv F x <;> cases opv F y <;> rfl
def xST (neg : Bool) : AV → Option AV
 | .sl z _ _ => some (.bool (z != neg))
 | .own z _ _ _ _ => some (.bool (z != neg))
 | _ => none
theorem xIW (z : Bool) (n : Nat) (cs : List AV) : xST false (.sl z n cs) = some (.bool z) := by cases z <;> rfl
theorem xHq (z : Bool) (id off n es : Nat) : xST false (.own z id off n es) = some (.bool z) := by cases z <;> rfl
theorem xPk (neg : Bool) (x : Arg) : xAc R F H (.isnil neg x) = xC0 H (xST neg (opv F x)) := by
 simp only [xAc]
 cases opv F x <;> rfl
theorem yBr (op : UnOp) (x : Arg) : xAc R F H (.un op x) = xC0 H (unA op (opv F x)) := by
 simp only [xAc,xC0]
 cases unA op (opv F x) <;> rfl
theorem xXB (b : Bool) : unA .not (.bool b) = some (.bool !b) := rfl
theorem xXC (k : IntKind) (n : Int) : unA .xor (.int k n) = some (.int k (xDq .xor k (if k.signed then -1 else k.max) n)) := rfl
def yBs (k : IntKind) : AV → Option AV
 | .int _ n => some (.int k (k.wrap n))
 | _ => none
theorem xMh (k k' : IntKind) (n : Int) : yBs k (.int k' n) = some (.int k (k.wrap n)) := rfl
theorem xSU (k : IntKind) (x : Arg) : xAc R F H (.conv k x) = xC0 H (yBs k (opv F x)) := by
 simp only [xAc]
 cases opv F x <;> rfl
theorem xMi (f : Nat) (caps : List Arg) : xAc R F H (.mkfunc f caps) = some (.func f (caps.map (opv F)),H) := rfl
def yEX (fz : Bool) (z : List AV) (bytes : Nat) (H : Heap) : AV → AV → Option (AV × Heap)
 | .int _ l,.int _ c => if 0 ≤ l ∧ l ≤ c ∧ c * bytes ≤ xA0 ∧ c ≤ xA0 ∧ z.all AV.isCell = true then xEc fz false l.toNat z.length (xCu z l.toNat) H else none
 | _,_ => none
theorem xPl (fz : Bool) (z : List AV) (bytes : Nat) (k k' : IntKind) {l c : Int} (h1 : 0 ≤ l) (h2 : l ≤ c) (h3 : c * bytes ≤ 140737488355328) (h4 : c ≤ 140737488355328) (h5 : z.all AV.isCell = true) : yEX fz z bytes H (.int k l) (.int k' c) = xEc fz false l.toNat z.length (xCu z l.toNat) H := if_pos ⟨h1,h2,h3,h4,h5⟩
theorem xIX (fz : Bool) (z : List AV) (bytes : Nat) (l c : Arg) : xAc R F H (.mkslice fz z bytes l c) = yEX fz z bytes H (opv F l) (opv F c) := by
 simp only [xAc]
 cases opv F l <;> cases opv F c <;> rfl
def xZe (es : Nat) (H : Heap) (x : AV) : Option (Nat × Nat) → Option AV
 | none => none
 | some (l,h) => match x with
  | .sl z _ cs => some (.sl z (h - l) ((cs.drop (l * es)).take ((h - l) * es)))
  | .own z id off _ _ => some (.own z id (off + l * es) (h - l) es)
  | _ => none
def xPm (es : Nat) (H : Heap) (lo hi mx : Option AV) : AV → Option AV
 | .sl z n cs => if cs.length = n * es then xZe es H (.sl z n cs) (xBh n lo hi mx) else none
 | .own z id off n es' => if es' = es then xZe es H (.own z id off n es') (xBh n lo hi mx) else none
 | _ => none
theorem xPn (es : Nat) (x : Arg) (lo hi mx : Option Arg) : xAc R F H (.slice es x lo hi mx) = xC0 H (xPm es H (lo.map (opv F)) (hi.map (opv F)) (mx.map (opv F)) (opv F x)) := by
 simp only [xAc,xC0,xPm,xZe]
 cases opv F x with
 | sl z n cs =>
  simp only
  split
  ·cases xBh n (lo.map (opv F)) (hi.map (opv F)) (mx.map (opv F)) <;> rfl
  ·rfl
 | own z id off n es' =>
  simp only
  split
  ·cases xBh n (lo.map (opv F)) (hi.map (opv F)) (mx.map (opv F)) <;> rfl
  ·rfl
 | _ => rfl
theorem xMj {es n : Nat} {z : Bool} {cs : List AV} (lo hi mx : Option AV) (h : cs.length = n * es) : xPm es H lo hi mx (.sl z n cs) = xZe es H (.sl z n cs) (xBh n lo hi mx) := if_pos h
theorem xIY {es n id off : Nat} {z : Bool} (lo hi mx : Option AV) : xPm es H lo hi mx (.own z id off n es) = xZe es H (.own z id off n es) (xBh n lo hi mx) := if_pos rfl
theorem xSV (es : Nat) (z : Bool) (n : Nat) (cs : List AV) (l h : Nat) : xZe es H (.sl z n cs) (some (l,h)) = some (.sl z (h - l) ((cs.drop (l * es)).take ((h - l) * es))) := rfl
theorem xPo (es : Nat) (z : Bool) (id off n es' : Nat) (l h : Nat) : xZe es H (.own z id off n es') (some (l,h)) = some (.own z id (off + l * es) (h - l) es) := rfl
theorem xMk {n : Nat} {k : IntKind} {l : Int} (h0 : 0 ≤ l) (h : l ≤ n) : xBh n (some (.int k l)) none none = some (l.toNat,n) := by
 simp only [xBh,xBn,if_pos h0]
 rw [if_pos ⟨by omega,by omega⟩]
theorem xDN {n : Nat} {k : IntKind} {m : Int} (h0 : 0 ≤ m) (h : m ≤ n) : xBh n none (some (.int k m)) none = some (0,m.toNat) := by
 simp only [xBh,xBn,if_pos h0]
 rw [if_pos ⟨by omega,by omega⟩]
def xSW (o : Nat) : AV → Option AV
 | .ptr id off => some (.ptr id (off + o))
 | .vptr cs off => some (.vptr cs (off + o))
 | _ => none
theorem xIZ (o id off : Nat) : xSW o (.ptr id off) = some (.ptr id (off + o)) := rfl
theorem xHr (o : Nat) (cs : List AV) (off : Nat) : xSW o (.vptr cs off) = some (.vptr cs (off + o)) := rfl
theorem xPp (o : Nat) (x : Arg) : xAc R F H (.faddr o x) = xC0 H (xSW o (opv F x)) := by
 simp only [xAc]
 cases opv F x <;> rfl
def xSX (g : Bool) (off n : Nat) : AV → Option AV
 | .agg cs => if off + n ≤ cs.length then mkv g ((cs.drop off).take n) else none
 | _ => none
theorem xI0 {g : Bool} {off n : Nat} {cs : List AV} (h : off + n ≤ cs.length) : xSX g off n (.agg cs) = mkv g ((cs.drop off).take n) := if_pos h
theorem yBt (v : AV) : mkv false [v] = some v := rfl
theorem yBu (cs : List AV) : mkv true cs = some (.agg cs) := rfl
theorem xPq (g : Bool) (off n : Nat) (x : Arg) : xAc R F H (.field g off n x) = xC0 H (xSX g off n (opv F x)) := by
 simp only [xAc]
 cases opv F x with
 | agg cs =>
  simp only [xSX,xC0]
  split
  ·cases mkv g ((cs.drop off).take n) <;> rfl
  ·rfl
 | _ => rfl
def xI1 (es : Nat) : AV → AV → Option AV
 | .sl _ n cs,.int _ i => if 0 ≤ i ∧ i.toNat < n then some (.vptr cs (i.toNat * es)) else none
 | .own _ id off n es',.int _ i => if 0 ≤ i ∧ i.toNat < n ∧ es' = es then some (.ptr id (off + i.toNat * es)) else none
 | _,_ => none
theorem xMl {es n : Nat} {z : Bool} {cs : List AV} {k : IntKind} {i : Int} (h0 : 0 ≤ i) (h : i < n) : xI1 es (.sl z n cs) (.int k i) = some (.vptr cs (i.toNat * es)) := if_pos ⟨h0,by omega⟩
theorem xI2 {es n id off : Nat} {z : Bool} {k : IntKind} {i : Int} (h0 : 0 ≤ i) (h : i < n) : xI1 es (.own z id off n es) (.int k i) = some (.ptr id (off + i.toNat * es)) := if_pos ⟨h0,by omega,rfl⟩
theorem xPr (es : Nat) (x i : Arg) : xAc R F H (.iaddr es x i) = xC0 H (xI1 es (opv F x) (opv F i)) := by
 simp only [xAc]
 cases opv F x with
 | sl z n cs =>
  cases opv F i with
  | int k j =>
   simp only [xBn,xI1,xC0]
   by_cases h : 0 ≤ j
   ·by_cases h2 : j.toNat < n <;> simp [h,h2]
   ·simp [h]
  | _ => rfl
 | own z id off n es' =>
  cases opv F i with
  | int k j =>
   simp only [xBn,xI1,xC0]
   by_cases h : 0 ≤ j
   ·by_cases h2 : j.toNat < n
    ·by_cases h3 : es' = es <;> simp [h,h2,h3]
    ·simp [h,h2]
   ·simp [h]
  | _ => rfl
 | _ => cases opv F i <;> simp [xI1,xC0,xBn] <;> split <;> simp_all
def yDD (i : Nat) : AV → Option AV
 | .tup vs => vs[i]?
 | _ => none
theorem xPs (i : Nat) (vs : List AV) : yDD i (.tup vs) = vs[i]? := rfl
theorem xXD (i : Nat) (x : Arg) : xAc R F H (.ext i x) = xC0 H (yDD i (opv F x)) := by
 simp only [xAc]
 cases opv F x with
 | tup vs => simp only [yDD,xC0]; cases vs[i]? <;> rfl
 | _ => rfl
def yDE : AV → Option AV
 | .sl _ n _ => some (.int .i64 n)
 | .own _ _ _ n _ => some (.int .i64 n)
 | _ => none
theorem xSY (z : Bool) (n : Nat) (cs : List AV) : yDE (.sl z n cs) = some (.int .i64 n) := rfl
theorem xPt (z : Bool) (id off n es : Nat) : yDE (.own z id off n es) = some (.int .i64 n) := rfl
theorem xXE (x : Arg) : xAc R F H (.len x) = xC0 H (yDE (opv F x)) := by
 simp only [xAc]
 cases opv F x <;> rfl
def yBv (fz : Bool) (es bytes : Nat) (H : Heap) (x : AV) : Option (Nat × List AV) → Option (AV × Heap)
 | none => none
 | some (m,ys) => match x with
  | .sl true _ _ => if m * bytes ≤ xA0 ∧ m ≤ xA0 then xEc fz (m == 0) m es ys H else none
  | .own z id off n es' => match H[id]? with
   | some (.cells false _ cs) => if off = 0 ∧ es' = es ∧ n * es ≤ cs.length ∧ (n + m) * bytes ≤ xA0 ∧ n + m ≤ xA0 then
     some (.own (z && m == 0) H.length 0 (n + m) es,H.set id .dead ++ [.cells false (z && m == 0) (cs.take (n * es) ++ ys)]) else none
   | _ => none
  | _ => none
theorem xMm (fz : Bool) (es bytes : Nat) (x y : Arg) : xAc R F H (.append fz es bytes x y) = yBv fz es bytes H (opv F x) (src H es (opv F y)) := by
 simp only [xAc,yBv]
 cases src H es (opv F y) <;> rfl
theorem xPu {fz : Bool} {es bytes n m : Nat} {cs ys : List AV} (h : m * bytes ≤ 140737488355328) (h2 : m ≤ 140737488355328) : yBv fz es bytes H (.sl true n cs) (some (m,ys)) = xEc fz (m == 0) m es ys H := if_pos ⟨h,h2⟩
def xZf (es bytes n m : Nat) (H : Heap) (z : Bool) (id : Nat) (ys : List AV) : Option Blk → Option (AV × Heap)
 | some (.cells false _ cs) => if n * es ≤ cs.length ∧ (n + m) * bytes ≤ xA0 ∧ n + m ≤ xA0 then
   some (.own (z && m == 0) H.length 0 (n + m) es,H.set id .dead ++ [.cells false (z && m == 0) (cs.take (n * es) ++ ys)]) else none
 | _ => none
theorem xPv (fz : Bool) (es bytes n m id : Nat) (z : Bool) (ys : List AV) : yBv fz es bytes H (.own z id 0 n es) (some (m,ys)) = xZf es bytes n m H z id ys H[id]? := by
 simp only [yBv,xZf]
 split
 ·rename_i z' cs hb
  by_cases h : n * es ≤ cs.length ∧ (n + m) * bytes ≤ xA0 ∧ n + m ≤ xA0
  ·rw [if_pos h,if_pos ⟨trivial,trivial,h⟩]
  ·rw [if_neg h,if_neg (fun g => h g.2.2)]
 ·rename_i hne
  cases hb : H[id]? with
  | none => rfl
  | some b => cases b with
   | cells fz z cs => cases fz with
    | false => exact (hne _ _ hb).elim
    | true => rfl
   | _ => rfl
theorem xHs {es bytes n m id : Nat} {z z' : Bool} {ys cs : List AV} (h : n * es ≤ cs.length) (h2 : (n + m) * bytes ≤ 140737488355328) (h3 : n + m ≤ 140737488355328) : xZf es bytes n m H z id ys (some (.cells false z' cs)) =
  some (.own (z && m == 0) H.length 0 (n + m) es,H.set id .dead ++ [.cells false (z && m == 0) (cs.take (n * es) ++ ys)]) := if_pos ⟨h,h2,h3⟩
theorem xXF {es n : Nat} {z : Bool} {cs : List AV} (h : cs.length = n * es) : src H es (.sl z n cs) = some (n,cs) := if_pos h
def yDF (off n es : Nat) : Option Blk → Option (Nat × List AV)
 | some (.cells _ _ cs) => if off + n * es ≤ cs.length then some (n,(cs.drop off).take (n * es)) else none
 | _ => none
theorem xSZ (es n id off : Nat) (z : Bool) : src H es (.own z id off n es) = yDF off n es H[id]? := by
 simp only [src,yDF]
 cases H[id]? with
 | none => rfl
 | some b => cases b <;> simp
theorem xI3 {es n off : Nat} {fz z : Bool} {cs : List AV} (h : off + n * es ≤ cs.length) : yDF off n es (some (.cells fz z cs)) = some (n,(cs.drop off).take (n * es)) := if_pos h
def xS0 (z : List AV) (bytes id off k es m : Nat) (H : Heap) : Option Blk → Option (AV × Heap)
 | some (.cells false _ cs) => if off = 0 ∧ es = z.length ∧ k * z.length ≤ cs.length ∧ (k + m) * bytes ≤ xA0 ∧ k + m ≤ xA0 ∧ 0 < m ∧ z.all AV.isCell = true then
   some (.own false H.length 0 (k + m) z.length,H.set id .dead ++ [.cells false false (cs.take (k * z.length) ++ xCu z m)]) else none
 | _ => none
def xGz (z : List AV) (bytes : Nat) (H : Heap) : AV → AV → Option (AV × Heap)
 | .sl true _ _,.int _ m => if 0 ≤ m ∧ m.toNat * bytes ≤ xA0 ∧ m.toNat ≤ xA0 ∧ z.all AV.isCell = true then xEc false (m.toNat == 0) m.toNat z.length (xCu z m.toNat) H else none
 | .own false id off k es,.int _ m => if 0 ≤ m then xS0 z bytes id off k es m.toNat H H[id]? else none
 | _,_ => none
theorem xN3 (z : List AV) (bytes id off k es m : Nat) (H : Heap) (b : Option Blk) : (match b with
   | some (.cells false _ cs) => if off = 0 ∧ es = z.length ∧ k * z.length ≤ cs.length ∧ (k + m) * bytes ≤ xA0 ∧ k + m ≤ xA0 ∧ 0 < m ∧ z.all AV.isCell = true then
     some (AV.own false H.length 0 (k + m) z.length,H.set id .dead ++ [.cells false false (cs.take (k * z.length) ++ xCu z m)]) else none
   | _ => none) = xS0 z bytes id off k es m H b := by
 rcases b with _ | b
 ·rfl
 ·cases b with
  | cells fz zz cs => cases fz <;> rfl
  | _ => rfl
theorem xI4 (z : List AV) (bytes : Nat) (x n : Arg) : xAc R F H (.appendz z bytes x n) = xGz z bytes H (opv F x) (opv F n) := by
 simp only [xAc]
 cases hn : opv F n with
 | int k m =>
  simp only [xBn]
  by_cases h : 0 ≤ m
  ·cases hx : opv F x with
   | sl zz nn cs => cases zz <;> simp [xGz,h]
   | own zz id off kk es =>
    cases zz with
    | true => simp [xGz,h]
    | false => simp only [h,if_true,xGz]; exact xN3 _ _ _ _ _ _ _ _ _
   | _ => simp [xGz,h]
  ·cases hx : opv F x with
   | sl zz nn cs => cases zz <;> simp [xGz,h]
   | own zz id off kk es => cases zz <;> simp [xGz,h]
   | _ => simp [xGz,h]
 | _ =>
  cases hx : opv F x with
  | sl zz nn cs => cases zz <;> simp [xGz,xBn]
  | own zz id off kk es => cases zz <;> simp [xGz,xBn]
  | _ => simp [xGz,xBn]
theorem xS1 {z : List AV} {bytes id off k es : Nat} {kk : IntKind} {m : Int} (h0 : 0 ≤ m) : xGz z bytes H (.own false id off k es) (.int kk m) = xS0 z bytes id off k es m.toNat H H[id]? := if_pos h0
theorem xN4 {z : List AV} {bytes id k m : Nat} {zz : Bool} {cs : List AV} (h1 : k * z.length ≤ cs.length) (h2 : (k + m) * bytes ≤ 140737488355328) (h3 : k + m ≤ 140737488355328) (h4 : 0 < m) (h5 : z.all AV.isCell = true) :
  xS0 z bytes id 0 k z.length m H (some (.cells false zz cs)) = some (.own false H.length 0 (k + m) z.length,H.set id .dead ++ [.cells false false (cs.take (k * z.length) ++ xCu z m)]) := if_pos ⟨rfl,rfl,h1,h2,h3,h4,h5⟩
def yDG : AV → AV → Option AV
 | .int k a,.int _ b => some (.int k (min a b))
 | _,_ => none
theorem xPw (k k' : IntKind) (a b : Int) : yDG (.int k a) (.int k' b) = some (.int k (min a b)) := rfl
theorem xS2 (x y : Arg) : xAc R F H (.mini x y) = xC0 H (yDG (opv F x) (opv F y)) := by
 simp only [xAc]
 cases opv F x with
 | int k a => cases opv F y with
  | int k' b => simp only [yDG,xC0]; congr 3; split <;> omega
  | _ => rfl
 | _ => rfl
theorem xXG (z : List AV) : xCu z 0 = [] := rfl
theorem xXH (z : List AV) : xCu z 1 = z ++ ([]) := rfl
theorem xXI (z : List AV) : xCu z 2 = z ++ (z ++ ([])) := rfl
theorem xXJ (z : List AV) : xCu z 3 = z ++ (z ++ (z ++ ([]))) := rfl
theorem xXK (z : List AV) : xCu z 4 = z ++ (z ++ (z ++ (z ++ ([])))) := rfl
theorem xXL (z : List AV) : xCu z 5 = z ++ (z ++ (z ++ (z ++ (z ++ ([]))))) := rfl
theorem xS3 (z : List AV) : xCu z 11 = z ++ (z ++ (z ++ (z ++ (z ++ (z ++ (z ++ (z ++ (z ++ (z ++ (z ++ ([]))))))))))) := rfl
theorem xDO (d : Nat) (k : IntKind) (n : Int) : frz d H (.int k n) = some (.int k n) := by cases d <;> rfl
theorem xFa (d : Nat) (b : Bool) : frz d H (.bool b) = some (.bool b) := by cases d <;> rfl
theorem xS4 (d : Nat) (b : ByteArray) : frz d H (.str b) = some (.str b) := by cases d <;> rfl
theorem xEl (d : Nat) (z : Bool) (n : Nat) (cs : List AV) : frz d H (.sl z n cs) = some (.sl z n cs) := by cases d <;> rfl
theorem xS5 (d : Nat) (cs : List AV) : frz (d + 1) H (.agg cs) = (cs.mapM (frz d H)).map AV.agg := rfl
theorem xS6 (d : Nat) (cs : List AV) : frz (d + 1) H (.tup cs) = (cs.mapM (frz d H)).map AV.tup := rfl
def yDH (d : Nat) (H : Heap) (z : Bool) (off n es : Nat) : Option Blk → Option AV
 | some (.cells _ _ cs) => if off + n * es ≤ cs.length then slK z n (((cs.drop off).take (n * es)).mapM (frz d H)) else none
 | _ => none
theorem xAR (d : Nat) (z : Bool) (id off n es : Nat) : frz (d + 1) H (.own z id off n es) = yDH d H z off n es H[id]? := by
 simp only [frz,yDH]
 cases H[id]? with
 | none => rfl
 | some b => cases b with
  | cells fz z' cs =>
   simp only
   split
   ·cases ((cs.drop off).take (n * es)).mapM (frz d H) <;> rfl
   ·rfl
  | _ => rfl
theorem xFI {d off n es : Nat} {z fz z' : Bool} {cs : List AV} (h : off + n * es ≤ cs.length) : yDH d H z off n es (some (.cells fz z' cs)) = slK z n (((cs.drop off).take (n * es)).mapM (frz d H)) := if_pos h
theorem xN5 (d : Nat) (k : IntKind) (n : Int) : bor d H (.int k n) = [] := by cases d <;> rfl
theorem xGF (d : Nat) (b : Bool) : bor d H (.bool b) = [] := by cases d <;> rfl
theorem xS7 (d : Nat) (b : ByteArray) : bor d H (.str b) = [] := by cases d <;> rfl
def yDI (R : Rec) (i : Nat) (b : ACode) (s : St) (ids : List Nat) : Option AV → Option (AExit × St)
 | some v => run R b ⟨s.F.set i v,fzIds s.H ids⟩
 | none => none
theorem xS8 (i : Nat) (b : ACode) (s : St) : run R (.fzs i b) s = yDI R i b s (bor frzN s.H (s.F.getD i .any)) (frz frzN s.H (s.F.getD i .any)) := by
 simp only [run,yDI]
 cases frz frzN s.H (s.F.getD i .any) <;> rfl
theorem xMn (i : Nat) (b : ACode) (s : St) (ids : List Nat) (v : AV) : yDI R i b s ids (some v) = run R b ⟨s.F.set i v,fzIds s.H ids⟩ := rfl
def yDJ (d : Nat) (H : Heap) (off : Nat) : Option Blk → Option AV
 | some (.cells _ _ cs) => (cs.mapM (frz d H)).map fun cs' => .vptr cs' off
 | _ => none
theorem xS9 (d i o : Nat) : frz (d + 1) H (.ptr i o) = yDJ d H o H[i]? := by
 simp only [frz,yDJ]
 cases H[i]? with
 | none => rfl
 | some b => cases b <;> rfl
theorem xI5 (d : Nat) (o : Nat) (fz z : Bool) (cs : List AV) : yDJ d H o (some (.cells fz z cs)) = (cs.mapM (frz d H)).map fun cs' => .vptr cs' o := rfl
def xZg (d : Nat) (H : Heap) : Option Blk → List Nat
 | some (.cells _ _ cs) => cs.flatMap (bor d H)
 | _ => []
theorem xTa (d i o : Nat) : bor (d + 1) H (.ptr i o) = i :: xZg d H H[i]? := by
 simp only [bor,xZg]
 cases H[i]? with
 | none => rfl
 | some b => cases b <;> rfl
theorem xHt (d : Nat) (fz z : Bool) (cs : List AV) : xZg d H (some (.cells fz z cs)) = cs.flatMap (bor d H) := rfl
def yBw : Option Blk → Bool
 | some (.cells true _ _) => true
 | _ => false
theorem xI6 (i : Nat) : xFF H i = yBw H[i]? := by
 simp only [xFF,yBw]
 cases H[i]? with
 | none => rfl
 | some b => cases b with
  | cells fz z cs => cases fz <;> rfl
  | _ => rfl
theorem xTb (d : Nat) (z : Bool) (n : Nat) (cs : List AV) : bor d H (.sl z n cs) = [] := by cases d <;> rfl
theorem xTc (d : Nat) (cs : List AV) : bor (d + 1) H (.agg cs) = cs.flatMap (bor d H) := rfl
def yDK (d : Nat) (H : Heap) (off n es : Nat) : Option Blk → List Nat
 | some (.cells _ _ cs) => ((cs.drop off).take (n * es)).flatMap (bor d H)
 | _ => []
theorem xKB (d : Nat) (z : Bool) (id off n es : Nat) : bor (d + 1) H (.own z id off n es) = id :: yDK d H off n es H[id]? := by
 simp only [bor,yDK]
 cases H[id]? with
 | none => rfl
 | some b => cases b <;> rfl
theorem xI7 (d off n es : Nat) (fz z : Bool) (cs : List AV) : yDK d H off n es (some (.cells fz z cs)) = ((cs.drop off).take (n * es)).flatMap (bor d H) := rfl
def yDa (args : List AV) (H : Heap) : Option AV → Option (AV × Heap)
 | some r => some (r,if xAA r = true then H else fzIds H (args.flatMap (bor frzN H)))
 | none => none
theorem xMo (args : List AV) (r : AV) : yDa args H (some r) = some (r,if xAA r = true then H else fzIds H (args.flatMap (bor frzN H))) := rfl
def yDL (R : Rec) (f : Nat) (args : List AV) (H : Heap) : Option (List AV) → Option (AV × Heap)
 | some args' => yDa args H (R.pcall f args')
 | none => none
theorem xMp (f : Nat) (args args' : List AV) : yDL R f args H (some args') = yDa args H (R.pcall f args') := rfl
theorem xMq (f : Nat) (args : List AV) : xBD R f args H = yDL R f args H (args.mapM (frz frzN H)) := by
 simp only [xBD,yDL]
 cases args.mapM (frz frzN H) with
 | none => rfl
 | some args' => simp only [yDa]; cases R.pcall f args' <;> rfl
theorem xTd (f : Nat) (args : List Arg) : xAc R F H (.call f args) = xBD R f (args.map (opv F)) H := rfl
theorem xPx (f : Arg) (args : List Arg) : xAc R F H (.icall f args) = R.icall (opv F f) (args.map (opv F)) H := rfl
def xI8 (args : List AV) (H : Heap) : Option (AV × Heap) → Option (AV × Heap)
 | some (r,_) => if quietCall r H args = true then some (r,H) else none
 | none => none
theorem xHu (args : List AV) (r : AV) (H' : Heap) : xI8 args H (some (r,H')) = if quietCall r H args = true then some (r,H) else none := rfl
theorem xTe (f : Nat) (args : List Arg) : xBj R F H (.call f args) = xI8 (args.map (opv F)) H (xBD R f (args.map (opv F)) H) := by
 simp only [xBj,xAv,xI8]
 cases xBD R f (args.map (opv F)) H with
 | none => rfl
 | some r => obtain ⟨r,H'⟩ := r; simp only; split <;> rfl
def xN6 (R : Rec) (args : List AV) (H : Heap) : AV → Option (AV × Heap)
 | .func g caps => xI8 (args ++ caps) H (xBD R g (args ++ caps) H)
 | _ => none
theorem xGl (args : List AV) (g : Nat) (caps : List AV) : xN6 R args H (.func g caps) = xI8 (args ++ caps) H (xBD R g (args ++ caps) H) := rfl
theorem xPy (f : Arg) (args : List Arg) : xBj R F H (.fcall f args) = xN6 R (args.map (opv F)) H (opv F f) := by
 simp only [xBj,xAv,xI8,xN6]
 cases opv F f with
 | func g caps =>
  simp only
  cases xBD R g (args.map (opv F) ++ caps) H with
  | none => rfl
  | some r => obtain ⟨r,H'⟩ := r; simp only; split <;> rfl
 | _ => rfl
theorem xXM (v : AV) : xBj R F H (.box (.c v)) = if v.cells.all AV.isCell = true then some (.any,H) else none := by
 simp only [xBj,xAv]
 split <;> rfl
def xNs (H : Heap) : Option (AV × Heap) → Option (AV × Heap)
 | some (v,_) => some (v,H)
 | none => none
theorem xMr (v : AV) (H' : Heap) : xNs H (some (v,H')) = some (v,H) := rfl
theorem xFJ (op : AOp) (h : xAv R F H op = (xAc R F H op).map (·.1)) : xBj R F H op = xNs H (xAc R F H op) := by
 simp only [xBj,h,xNs]
 cases xAc R F H op <;> rfl
theorem xXN (x : Arg) : xBj R F H (.mov x) = xNs H (xAc R F H (.mov x)) := xFJ _ rfl
theorem xTf (c a b : Arg) : xBj R F H (.pick c a b) = xNs H (xAc R F H (.pick c a b)) := xFJ _ rfl
theorem xTg (g : Bool) (n : Nat) (p : Arg) : xBj R F H (.load g n p) = xNs H (xAc R F H (.load g n p)) := xFJ _ rfl
theorem xMs (x : Arg) : xBj R F H (.nilchk x) = xNs H (xAc R F H (.nilchk x)) := xFJ _ rfl
theorem xXO (op : BinOp) (x y : Arg) : xBj R F H (.bin op x y) = xNs H (xAc R F H (.bin op x y)) := xFJ _ rfl
theorem xTh (k : IntKind) (x : Arg) : xBj R F H (.conv k x) = xNs H (xAc R F H (.conv k x)) := xFJ _ rfl
theorem xPz (es : Nat) (x : Arg) (lo hi mx : Option Arg) : xBj R F H (.slice es x lo hi mx) = xNs H (xAc R F H (.slice es x lo hi mx)) := xFJ _ rfl
theorem xPA (o : Nat) (x : Arg) : xBj R F H (.faddr o x) = xNs H (xAc R F H (.faddr o x)) := xFJ _ rfl
theorem xPB (es : Nat) (x i : Arg) : xBj R F H (.iaddr es x i) = xNs H (xAc R F H (.iaddr es x i)) := xFJ _ rfl
theorem xXP (x : Arg) : xBj R F H (.len x) = xNs H (xAc R F H (.len x)) := xFJ _ rfl
theorem xTi (x y : Arg) : xBj R F H (.mini x y) = xNs H (xAc R F H (.mini x y)) := xFJ _ rfl
def xQY (H : Heap) : Option AV → Option (AV × Heap)
 | some v => some (v,H)
 | none => none
theorem xI9 (v : AV) : xQY H (some v) = some (v,H) := rfl
def xKC (rs : List ARes) : Option (AExit × St) → Option (AV × Heap)
 | some (.normal,s) => xQY s.H (xA1 rs s)
 | some (.ret,s) => xQY s.H (xA1 rs s)
 | _ => none
theorem xGm (rs : List ARes) (F : List AV) (H : Heap) : xKC rs (some (.normal,⟨F,H⟩)) = xQY H (xA1 rs ⟨F,H⟩) := rfl
theorem xMt (rs : List ARes) (F : List AV) (H : Heap) : xKC rs (some (.ret,⟨F,H⟩)) = xQY H (xA1 rs ⟨F,H⟩) := rfl
theorem xJa (rs : List ARes) : xKC rs none = none := rfl
theorem xMu (rs : List ARes) {c : Prop} [Decidable c] (x y : Option (AExit × St)) : xKC rs (if c then x else y) = if c then xKC rs x else xKC rs y := by split <;> rfl
def pads : Nat → List AV
 | 0 => []
 | n + 1 => .tup [] :: pads n
theorem xTj : ∀ n,List.replicate n (AV.tup []) = pads n
 | 0 => rfl
 | n + 1 => by rw [List.replicate_succ,xTj n]; rfl
theorem xAu (n : Nat) (code : ACode) (rs : List ARes) (args : List AV) : xBa R ⟨n,code,rs⟩ args H = xKC rs (run R code ⟨args ++ pads (n - args.length),H⟩) := by
 rw [← xTj]
 simp only [xBa,xKC,xLL,xQY]
 cases h : run R code ⟨args ++ List.replicate (n - args.length) (.tup []),H⟩ with
 | none => rfl
 | some r =>
  obtain ⟨e,s⟩ := r
  cases e with
  | exit i => rfl
  | _ => simp only; cases xA1 rs s <;> rfl
def xGn : Option (AV × Heap) → Option AV
 | some (r,H') => frz frzN H' r
 | none => none
theorem xHv (r : AV) (H' : Heap) : xGn (some (r,H')) = frz frzN H' r := rfl
theorem xHw : xGn none = none := rfl
theorem xJb {c : Prop} [Decidable c] (x y : Option (AV × Heap)) : xGn (if c then x else y) = if c then xGn x else xGn y := by split <;> rfl
theorem xAa (fn : AFunc) (args : List AV) : xAw R fn args = xGn (xBa R fn args []) := by
 simp only [xAw,xGn]
 cases xBa R fn args [] <;> rfl
def xZh (g : Bool) : Option (List AV) → Option AV
 | some cs => mkv g cs
 | none => none
theorem xJc (g : Bool) (cs : List AV) : xZh g (some cs) = mkv g cs := rfl
theorem xTk (t : Nat) : xRR ⟨F,H⟩ (.tmp t) = some (F.getD t .any) := rfl
theorem xPC (t : Nat) (g : Bool) (n : Nat) : xRR ⟨F,H⟩ (.cell t g n) = xZh g (rd H (F.getD t .any) n) := by
 simp only [xRR,xZh]
 cases rd H (F.getD t .any) n <;> rfl
theorem xMv : xA1 [] s = some (.tup []) := rfl
theorem xMw (r : ARes) : xA1 [r] s = xRR s r := rfl
def yDM (s : St) (rs : List ARes) : Option AV → Option (List AV)
 | some v => (xQN s rs).map (v :: ·)
 | none => none
theorem xMx (rs : List ARes) (v : AV) : yDM s rs (some v) = (xQN s rs).map (v :: ·) := rfl
theorem xPD : xQN s [] = some [] := rfl
theorem xMy (r : ARes) (rs : List ARes) : xQN s (r :: rs) = yDM s rs (xRR s r) := by
 simp only [xQN,yDM]
 cases xRR s r <;> rfl
theorem xMz (r r' : ARes) (rs : List ARes) : xA1 (r :: r' :: rs) s = (xQN s (r :: r' :: rs)).map .tup := rfl
end
section
variable {R : Rec} {F : List AV} {H : Heap} {s : St}
def xTl : Option (AV × Heap) → Option (AV × List Blk)
 | some (r,H') => (xEC H' r).map fun (v,B) => (v,B.map (·.2))
 | none => none
theorem xTm (f : Nat) (args : List AV) : xCW R f args = xTl (R.icall (.func f []) args []) := by
 unfold xCW xTl
 cases R.icall (.func f []) args [] <;> rfl
theorem xHx (r : AV) (H' : Heap) : xTl (some (r,H')) = (xEC H' r).map fun (v,B) => (v,B.map (·.2)) := rfl
def ocK (H : Heap) (ids : List Nat) : Option (AV × List Blk) → Option (AV × Heap)
 | some (v,B) => some (xCA H.length v,fzIds H ids ++ B)
 | none => none
def xTn (R : Rec) (f : Nat) (H : Heap) (ids : List Nat) : Option (List AV) → Option (AV × Heap)
 | some args' => ocK H ids (xCW R f args')
 | none => none
theorem xPE (f : Nat) (args : List Arg) : xAc R F H (.ocall f args) = xTn R f H ((args.map (opv F)).flatMap (bor frzN H)) ((args.map (opv F)).mapM (frz frzN H)) := by
 simp only [xAc,xTn]
 cases (args.map (opv F)).mapM (frz frzN H) with
 | none => rfl
 | some args' =>
  simp only [ocK]
  cases xCW R f args' <;> rfl
theorem xHy (f : Nat) (ids : List Nat) (args' : List AV) : xTn R f H ids (some args') = ocK H ids (xCW R f args') := rfl
theorem xPF (ids : List Nat) (v : AV) (B : List Blk) : ocK H ids (some (v,B)) = some (xCA H.length v,fzIds H ids ++ B) := rfl
def yAJ (H : Heap) (ids : List Nat) : Option (AV × Heap) → Option (AV × Heap)
 | some (v,B) => some (xCA H.length v,fzIds H ids ++ B.map (xDL H.length))
 | none => none
def xN7 (R : Rec) (f : Nat) (H : Heap) (ids : List Nat) : Option (List AV) → Option (AV × Heap)
 | some args' => yAJ H ids (xCG R f args')
 | none => none
theorem xMA (f : Nat) (args : List Arg) : xAc R F H (.ocallw f args) = xN7 R f H ((args.map (opv F)).flatMap (bor frzN H)) ((args.map (opv F)).mapM (frz frzN H)) := by
 simp only [xAc,xN7]
 cases (args.map (opv F)).mapM (frz frzN H) with
 | none => rfl
 | some args' =>
  simp only [yAJ]
  cases xCG R f args' <;> rfl
theorem xGo (f : Nat) (ids : List Nat) (args' : List AV) : xN7 R f H ids (some args') = yAJ H ids (xCG R f args') := rfl
theorem xMB (ids : List Nat) (v : AV) (B : Heap) : yAJ H ids (some (v,B)) = some (xCA H.length v,fzIds H ids ++ B.map (xDL H.length)) := rfl
theorem xMC {f : Nat} {args : List AV} {v : AV} {B : Heap} (h : R.icall (.func f []) args [] = some (v,B)) (h1 : xVr v = true) : xCG R f args = some (v,B) := by
 unfold xCG
 rw [h]
 exact if_pos h1
def t1B (z : Bool) (id off n es : Nat) (B : List (Nat × Blk)) : Option Blk → Option (AV × List (Nat × Blk))
 | some (.cells false z' cs) => if cs.all xCk = true then some (.own z B.length off n es,B ++ [(id,.cells false z' cs)]) else none
 | _ => none
def t1I (z : Bool) (id off n es : Nat) (B : List (Nat × Blk)) (b : Option Blk) : Option Nat → Option (AV × List (Nat × Blk))
 | some k => some (.own z k off n es,B)
 | none => t1B z id off n es B b
theorem xMD (H : Heap) (z : Bool) (id off n es : Nat) (B : List (Nat × Blk)) : xKv H (.own z id off n es) B = t1I z id off n es B H[id]? (B.findIdx? (fun p => p.1 == id)) := by
 simp only [xKv,t1I]
 cases B.findIdx? (fun p => p.1 == id) with
 | some k => rfl
 | none =>
  simp only [t1B]
  cases H[id]? with
  | none => rfl
  | some b => cases b with
   | cells fz z' cs => cases fz <;> rfl
   | _ => rfl
theorem xTo (z : Bool) (id off n es : Nat) (B : List (Nat × Blk)) (z' : Bool) (cs : List AV) : t1I z id off n es B (some (.cells false z' cs)) none = if cs.all xCk = true then some (.own z B.length off n es,B ++ [(id,.cells false z' cs)]) else none := rfl
theorem xHz (H : Heap) (z : Bool) (id off n es : Nat) : xEC H (.own z id off n es) = xKv H (.own z id off n es) [] := rfl
theorem xME {α : Type} (p : α → Bool) : ([] : List α).findIdx? p = none := rfl
end
section
variable {R : Rec} {F : List AV} {H : Heap}
def yDb (g : Bool) (es len : Nat) : AV → AV → Option AV
 | .agg cs,.int _ i => if 0 ≤ i ∧ i.toNat < len ∧ i.toNat * es + es ≤ cs.length then mkv g ((cs.drop (i.toNat * es)).take es) else none
 | _,_ => none
theorem xPG {g : Bool} {es len : Nat} {cs : List AV} {k : IntKind} {i : Int} (h0 : 0 ≤ i) (h : i < len) (h2 : i.toNat * es + es ≤ cs.length) : yDb g es len (.agg cs) (.int k i) = mkv g ((cs.drop (i.toNat * es)).take es) := if_pos ⟨h0,by omega,h2⟩
theorem xXQ (g : Bool) (es len : Nat) (x i : Arg) : xAc R F H (.idx g es len x i) = xC0 H (yDb g es len (opv F x) (opv F i)) := by
 simp only [xAc]
 cases opv F x with
 | agg cs => cases opv F i with
  | int k n =>
   by_cases h0 : 0 ≤ n
   ·have e : xBn (.int k n) = some n.toNat := by simp [xBn,h0]
    simp only [e,yDb,h0,true_and]
    by_cases c : n.toNat < len ∧ n.toNat * es + es ≤ cs.length
    ·rw [if_pos c,if_pos c]
     cases mkv g ((cs.drop (n.toNat * es)).take es) <;> rfl
    ·rw [if_neg c,if_neg c]; rfl
   ·have e : xBn (.int k n) = none := by simp [xBn,h0]
    simp only [e,yDb,h0,false_and,if_false,xC0]
  | _ => rfl
 | _ => rfl
def xJd (es len : Nat) : AV → AV → Option AV
 | .ptr id off,.int _ i => if 0 ≤ i ∧ i.toNat < len then some (.ptr id (off + i.toNat * es)) else none
 | .vptr cs off,.int _ i => if 0 ≤ i ∧ i.toNat < len then some (.vptr cs (off + i.toNat * es)) else none
 | _,_ => none
theorem xJe {es len id off : Nat} {k : IntKind} {i : Int} (h0 : 0 ≤ i) (h : i < len) : xJd es len (.ptr id off) (.int k i) = some (.ptr id (off + i.toNat * es)) := if_pos ⟨h0,by omega⟩
theorem xPH (es len : Nat) (x i : Arg) : xAc R F H (.arrat es len x i) = xC0 H (xJd es len (opv F x) (opv F i)) := by
 simp only [xAc]
 cases opv F x with
 | ptr id off => cases opv F i with
  | int k n =>
   by_cases h0 : 0 ≤ n
   ·have e : xBn (.int k n) = some n.toNat := by simp [xBn,h0]
    simp only [e,xJd,h0,true_and]
    by_cases c : n.toNat < len
    ·rw [if_pos c,if_pos c]; rfl
    ·rw [if_neg c,if_neg c]; rfl
   ·have e : xBn (.int k n) = none := by simp [xBn,h0]
    simp only [e,xJd,h0,false_and,if_false,xC0]
  | _ => rfl
 | vptr cs off => cases opv F i with
  | int k n =>
   by_cases h0 : 0 ≤ n
   ·have e : xBn (.int k n) = some n.toNat := by simp [xBn,h0]
    simp only [e,xJd,h0,true_and]
    by_cases c : n.toNat < len
    ·rw [if_pos c,if_pos c]; rfl
    ·rw [if_neg c,if_neg c]; rfl
   ·have e : xBn (.int k n) = none := by simp [xBn,h0]
    simp only [e,xJd,h0,false_and,if_false,xC0]
  | _ => rfl
 | _ => rfl
theorem xPI (es len : Nat) (x i : Arg) : xBj R F H (.arrat es len x i) = xNs H (xAc R F H (.arrat es len x i)) := xFJ _ rfl
end
end Go.Abs
