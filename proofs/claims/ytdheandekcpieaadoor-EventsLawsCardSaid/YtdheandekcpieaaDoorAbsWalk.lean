/- The interpreter's equations in the form that simp walks by: one equation for each construct,told apart by what has been computed already. -/
import Derived.Test.YtdheandekcpieaaDoorAbsLim
namespace Go.Abs
set_option linter.unusedVariables false
set_option linter.unusedSimpArgs false
theorem xEw : ∀ (scr : List Nat) (F : List AV) (i : Nat),(xAx scr F)[i]? = if i ∈ scr then (F[i]?).map (fun _ => AV.any) else F[i]?
 | [],F,i => by simp [xAx]
 | j :: scr,F,i => by
  have := xEw scr (F.set j .any) i
  simp only [xAx,List.foldl_cons] at this ⊢
  rw [this]
  by_cases h : i = j
  ·subst h
   simp only [List.getElem?_set_self',List.mem_cons,true_or,if_true]
   cases F[i]? <;> simp
  ·have h' : ¬ j = i := fun e => h e.symm
   simp [List.getElem?_set,h,h']
theorem xOw (scr : List Nat) (F : List AV) : xAx scr (xAx scr F) = xAx scr F := by
 apply List.ext_getElem?
 intro i
 rw [xEw,xEw]
 split
 ·cases F[i]? <;> rfl
 ·rfl
section
variable {prog : Nat → Option AFunc}
theorem xS8 (prog : Nat → Option AFunc) (n : Nat) : Tends (fix prog n) (fun _ => lim prog) :=
 ⟨fun f a v h => .all fun _ => xEN ((xFb prog n).pcall f a v h),fun f a H v h => .all fun _ => xEN ((xFb prog n).icall f a H v h),fun scr b s v h => .all fun _ => xEN ((xFb prog n).loop scr b s v h)⟩
theorem Ev.const {p : Prop} (h : Ev fun _ => p) : p := let ⟨n,hn⟩ := h; hn n (Nat.le_refl n)
theorem xS9 {α : Type} {a b : Option α} (h1 : ∀ v,a = some v → b = some v) (h2 : ∀ v,b = some v → a = some v) : a = b := by
 cases a with
 | some v => exact (h1 v rfl).symm
 | none =>
  cases b with
  | none => rfl
  | some v => exact h2 v rfl
theorem xAg {f : Nat} {fn : AFunc} (hf : prog f = some fn) (args : List AV) : (lim prog).pcall f args = xAF (lim prog) fn args := by
 refine xS9 (fun v h => ?_) (fun v h => xRO hf h)
 obtain ⟨n,hn⟩ := xB6 (p := fun m => (fix prog m).pcall f args) h
 have h1 : (xC2 prog (fix prog n)).pcall f args = some v := hn (n + 1) (by omega)
 have h2 := (xBw (xS8 prog n) prog).pcall f args v h1 |>.const
 simp only [xC2,hf] at h2
 exact h2
theorem xMC (f : AV) (args : List AV) (H : Heap) : (lim prog).icall f args H = xDf prog (lim prog) f args H := by
 refine xS9 (fun v h => ?_) (fun v h => xRP h)
 obtain ⟨n,hn⟩ := xB6 (p := fun m => (fix prog m).icall f args H) h
 have h1 : (xC2 prog (fix prog n)).icall f args H = some v := hn (n + 1) (by omega)
 exact (xBw (xS8 prog n) prog).icall f args H v h1 |>.const
theorem xEX (scr : List Nat) (b : ACode) (s : St) : (lim prog).loop scr b s = xHT (lim prog) scr b s := by
 refine xS9 (fun v h => ?_) (fun v h => xVE h)
 obtain ⟨n,hn⟩ := xB6 (p := fun m => (fix prog m).loop scr b s) h
 have h1 : (xC2 prog (fix prog n)).loop scr b s = some v := hn (n + 1) (by omega)
 exact (xBw (xS8 prog n) prog).loop scr b s v h1 |>.const
theorem xAl {f : Nat} {fn : AFunc} (hf : prog f = some fn) (caps args : List AV) (H : Heap) : (lim prog).icall (.func f caps) args H = xA2 (lim prog) fn (args ++ caps) H := by
 rw [xMC]
 simp only [xDf,hf]
theorem xEG (scr : List Nat) (b : ACode) (F : List AV) (H : Heap) : (lim prog).loop scr b ⟨F,H⟩ = (lim prog).loop scr b ⟨xAx scr F,H⟩ := by
 rw [xEX,xEX]
 unfold xHT
 simp only [xOw]
def xBn (R : Rec) (scr : List Nat) (b : ACode) : Option (AExit × St) → Option (AExit × St)
 | some (.normal,s) => R.loop scr b ⟨xAx scr s.F,s.H⟩
 | some (e,s) => some (e,⟨xAx scr s.F,s.H⟩)
 | none => none
theorem xAk (scr : List Nat) (b : ACode) (F : List AV) (H : Heap) (h : xAx scr F = F) : (lim prog).loop scr b ⟨F,H⟩ = xBn (lim prog) scr b (run (lim prog) b ⟨F,H⟩) := by
 rw [xEX]
 unfold xHT xBn
 simp only [h]
 split
 ·rename_i s' hs
  rw [hs]
  exact xEG scr b s'.F s'.H
 ·rename_i e s' hne hs
  rw [hs]
  cases e with
  | normal => exact (hne rfl).elim
  | exit i => rfl
  | ret => rfl
 ·rename_i hs
  rw [hs]
theorem xLc (scr : List Nat) (b : ACode) (F : List AV) (H : Heap) : run (lim prog) (.loop scr b) ⟨F,H⟩ = (lim prog).loop scr b ⟨xAx scr F,H⟩ := xEG scr b F H
end
section
variable {R : Rec} {F : List AV} {H : Heap} {s : St}
def xXG (R : Rec) (b : ACode) : Option (AExit × St) → Option (AExit × St)
 | some (.normal,s) => run R b s
 | r => r
theorem xBr (a b : ACode) : run R (.seq a b) s = xXG R b (run R a s) := by
 simp only [run,xXG]
 split <;> simp_all
theorem xAD (b : ACode) (s : St) : xXG R b (some (.normal,s)) = run R b s := rfl
theorem xMD (b : ACode) (i : Nat) (s : St) : xXG R b (some (.exit i,s)) = some (.exit i,s) := rfl
theorem xPC (b : ACode) (s : St) : xXG R b (some (.ret,s)) = some (.ret,s) := rfl
theorem xPD (b : ACode) {c : Prop} [Decidable c] (x y : Option (AExit × St)) : xXG R b (if c then x else y) = if c then xXG R b x else xXG R b y := by split <;> rfl
def xZy (R : Rec) (a b : ACode) (s : St) : AV → Option (AExit × St)
 | .bool t => if t = true then run R a s else run R b s
 | _ => none
theorem xPE (c : Arg) (a b : ACode) (F : List AV) (H : Heap) : run R (.cond c a b) ⟨F,H⟩ = xZy R a b ⟨F,H⟩ (opv F c) := by
 simp only [run,xZy]
 split <;> simp_all
theorem xJF (a b : ACode) (t : Bool) : xZy R a b s (.bool t) = if t = true then run R a s else run R b s := rfl
def xGN (id : Nat) : Option (AExit × St) → Option (AExit × St)
 | some (.exit i,s) => if i = id then some (.normal,s) else some (.exit i,s)
 | r => r
theorem xH8 (id : Nat) (b : ACode) : run R (.block id b) s = xGN id (run R b s) := by
 simp only [run,xGN]
 split <;> simp_all
theorem xH9 (id i : Nat) (s : St) : xGN id (some (.exit i,s)) = if i = id then some (.normal,s) else some (.exit i,s) := rfl
theorem xFy (id : Nat) (s : St) : xGN id (some (.normal,s)) = some (.normal,s) := rfl
theorem xJG (id : Nat) (s : St) : xGN id (some (.ret,s)) = some (.ret,s) := rfl
theorem xJH (id : Nat) {c : Prop} [Decidable c] (x y : Option (AExit × St)) : xGN id (if c then x else y) = if c then xGN id x else xGN id y := by split <;> rfl
theorem xGO (scr : List Nat) (b : ACode) (F : List AV) (H : Heap) : xBn R scr b (some (.normal,⟨F,H⟩)) = R.loop scr b ⟨xAx scr F,H⟩ := rfl
theorem xJI (scr : List Nat) (b : ACode) (i : Nat) (F : List AV) (H : Heap) : xBn R scr b (some (.exit i,⟨F,H⟩)) = some (.exit i,⟨xAx scr F,H⟩) := rfl
theorem xME (scr : List Nat) (b : ACode) (F : List AV) (H : Heap) : xBn R scr b (some (.ret,⟨F,H⟩)) = some (.ret,⟨xAx scr F,H⟩) := rfl
theorem xMF (scr : List Nat) (b : ACode) {c : Prop} [Decidable c] (x y : Option (AExit × St)) : xBn R scr b (if c then x else y) = if c then xBn R scr b x else xBn R scr b y := by split <;> rfl
def yA3 : Option St → Option (AExit × St)
 | some s => some (.normal,s)
 | none => none
theorem xMG (s : St) : yA3 (some s) = some (.normal,s) := rfl
theorem xJJ (ops : List AOper) : run R (.region ops) s = yA3 (xAq R ops s) := by
 simp only [run,yA3]
 cases xAq R ops s <;> rfl
theorem xPF : run R .skip s = some (.normal,s) := rfl
theorem xPG (i : Nat) : run R (.exit i) s = some (.exit i,s) := rfl
theorem xTa : run R .ret s = some (.ret,s) := rfl
def yDT (R : Rec) (rest : List AOper) : Option St → Option St
 | some s => xAq R rest s
 | none => none
theorem xJK : xAq R [] s = some s := rfl
theorem xEY (o : AOper) (rest : List AOper) : xAq R (o :: rest) s = yDT R rest (xAz R o s) := by
 simp only [xAq,yDT]
 cases xAz R o s <;> rfl
theorem xIa (rest : List AOper) (s : St) : yDT R rest (some s) = xAq R rest s := rfl
def xZz (F : List AV) (d : Option Nat) : Option (AV × Heap) → Option St
 | some (v,H) => some ⟨putA F d v,H⟩
 | none => none
theorem xTb (d : Nat) (v : AV) : xZz F (some d) (some (v,H)) = some ⟨F.set d v,H⟩ := rfl
theorem xTc (v : AV) : xZz F none (some (v,H)) = some ⟨F,H⟩ := rfl
theorem xMH (d : Option Nat) (op : AOp) : xAz R ⟨d,op,none⟩ ⟨F,H⟩ = xZz F d (xAa R F H op) := by
 simp only [xAz,xBI,xZz]
 cases xAa R F H op <;> rfl
def xPH (R : Rec) (d : Option Nat) (op : AOp) (w : Bool) (F : List AV) (H : Heap) : AV → Option St
 | .bool b => if b = w then xZz F d (xAa R F H op) else some ⟨putA F d (.tup []),H⟩
 | .any => none
 | _ => some ⟨putA F d (.tup []),H⟩
theorem xJL (d : Option Nat) (op : AOp) (t : Nat) (w : Bool) : xAz R ⟨d,op,some (t,w)⟩ ⟨F,H⟩ = xPH R d op w F H (F.getD t .any) := by
 simp only [xAz,xBI,xPH]
 cases F.getD t .any with
 | bool b =>
  cases b <;> cases w <;> simp [xZz] <;> cases xAa R F H op <;> rfl
 | _ => rfl
theorem xIb (d : Option Nat) (op : AOp) (w b : Bool) : xPH R d op w F H (.bool b) = if b = w then xZz F d (xAa R F H op) else some ⟨putA F d (.tup []),H⟩ := rfl
theorem xJM (d : Option Nat) (op : AOp) (w : Bool) (vs : List AV) : xPH R d op w F H (.tup vs) = some ⟨putA F d (.tup []),H⟩ := rfl
theorem xTd (d : Nat) (v : AV) : putA F (some d) v = F.set d v := rfl
def xZA (R : Rec) (m : Nat) (ops : List AOper) : Option St → Option (AExit × St)
 | some s => yA3 (xAq R (ops.drop m) (adopt (ops.take m) s))
 | none => none
theorem xPI (m : Nat) (ops : List AOper) : run R (.draw m ops) s = xZA R m ops (xA9 R (ops.take m) s) := by
 simp only [run,xZA]
 cases xA9 R (ops.take m) s with
 | none => rfl
 | some s1 =>
  simp only [yA3]
  cases xAq R (ops.drop m) (adopt (ops.take m) s1) <;> rfl
theorem xJN (m : Nat) (ops : List AOper) (s : St) : xZA R m ops (some s) = yA3 (xAq R (ops.drop m) (adopt (ops.take m) s)) := rfl
def xGP (ls : List (Nat × Nat × Nat × Nat)) : Option St → Option (AExit × St)
 | some s => if ls.all (apart s.F) = true then some (.normal,s) else none
 | none => none
def xTe (R : Rec) (ls : List (Nat × Nat × Nat × Nat)) (m : Nat) (ops : List AOper) : Option St → Option (AExit × St)
 | some s => xGP ls (xAq R (ops.drop m) (adopt (ops.take m) s))
 | none => none
theorem xMI (ls : List (Nat × Nat × Nat × Nat)) (m : Nat) (ops : List AOper) : run R (.drawl ls m ops) s = xTe R ls m ops (xA9 R (ops.take m) s) := by
 simp only [run,xTe]
 cases xA9 R (ops.take m) s with
 | none => rfl
 | some s1 =>
  simp only [xGP]
  cases xAq R (ops.drop m) (adopt (ops.take m) s1) <;> rfl
theorem xIc (ls : List (Nat × Nat × Nat × Nat)) (m : Nat) (ops : List AOper) (s : St) : xTe R ls m ops (some s) = xGP ls (xAq R (ops.drop m) (adopt (ops.take m) s)) := rfl
theorem xId (ls : List (Nat × Nat × Nat × Nat)) (s : St) : xGP ls (some s) = if ls.all (apart s.F) = true then some (.normal,s) else none := rfl
def xZB (R : Rec) (rest : List AOper) : Option St → Option St
 | some s => xA9 R rest s
 | none => none
theorem xIe : xA9 R [] s = some s := rfl
theorem xGQ (o : AOper) (rest : List AOper) : xA9 R (o :: rest) s = xZB R rest (xAJ R o s) := by
 simp only [xA9,xZB]
 cases xAJ R o s <;> rfl
theorem xJO (rest : List AOper) (s : St) : xZB R rest (some s) = xA9 R rest s := rfl
def xRv (F : List AV) (d : Option Nat) (H : Heap) : Option (AV × Heap) → Option St
 | some (v,_) => some ⟨putA F d v,H⟩
 | none => none
theorem xPJ (d : Nat) (v : AV) (H' : Heap) : xRv F (some d) H (some (v,H')) = some ⟨F.set d v,H⟩ := rfl
def xBi (R : Rec) (F : List AV) (H : Heap) (op : AOp) : Option (AV × Heap) := (xAv R F H op).map fun v => (v,H)
theorem xJP (d : Option Nat) (op : AOp) : xAJ R ⟨d,op,none⟩ ⟨F,H⟩ = xRv F d H (xBi R F H op) := by
 simp only [xAJ,xBI,xRv,xBi]
 cases xAv R F H op <;> rfl
def xLd (R : Rec) (d : Option Nat) (op : AOp) (w : Bool) (F : List AV) (H : Heap) : AV → Option St
 | .bool b => if b = w then xRv F d H (xBi R F H op) else some ⟨putA F d (.tup []),H⟩
 | .any => none
 | _ => some ⟨putA F d (.tup []),H⟩
theorem xIf (d : Option Nat) (op : AOp) (t : Nat) (w : Bool) : xAJ R ⟨d,op,some (t,w)⟩ ⟨F,H⟩ = xLd R d op w F H (F.getD t .any) := by
 simp only [xAJ,xBI,xLd]
 cases F.getD t .any with
 | bool b =>
  cases b <;> cases w <;> simp [xRv,xBi] <;> cases xAv R F H op <;> rfl
 | _ => rfl
theorem xGR (d : Option Nat) (op : AOp) (w b : Bool) : xLd R d op w F H (.bool b) = if b = w then xRv F d H (xBi R F H op) else some ⟨putA F d (.tup []),H⟩ := rfl
theorem xIg (d : Option Nat) (op : AOp) (w : Bool) (vs : List AV) : xLd R d op w F H (.tup vs) = some ⟨putA F d (.tup []),H⟩ := rfl
def xDi (H : Heap) : Option AV → Option (AV × Heap)
 | some v => some (v,H)
 | none => none
theorem xMJ (v : AV) : xDi H (some v) = some (v,H) := rfl
theorem xXH (x : Arg) : xAa R F H (.mov x) = some (opv F x,H) := rfl
def xZC : AV → AV → AV → Option AV
 | .bool t,a,b => some (if t = true then a else b)
 | _,_,_ => none
theorem xJQ (t : Bool) (a b : AV) : xZC (.bool t) a b = some (if t = true then a else b) := rfl
theorem xTf (c a b : Arg) : xAa R F H (.pick c a b) = xDi H (xZC (opv F c) (opv F a) (opv F b)) := by
 simp only [xAa,xZC,xDi]
 split <;> simp_all
theorem xXI (x : Arg) : xAa R F H (.box x) = if (opv F x).cells.all AV.isCell = true then some (.ptr H.length 0,H ++ [.cells false false (opv F x).cells]) else none := rfl
theorem xPK (z : List AV) (parts : List (Nat × Nat × Arg)) : xAa R F H (.build z parts) =
  if parts.all (fun p => (opv F p.2.2).cells.length == p.2.1) = true then xDi H ((fillA z (parts.map fun p => (p.1,(opv F p.2.2).cells))).map AV.agg) else none := by
 simp only [xAa,xDi]
 split
 ·cases fillA z (parts.map fun p => (p.1,(opv F p.2.2).cells)) <;> rfl
 ·rfl
def yDU (fz z : Bool) (n es : Nat) (H : Heap) : Option (List AV) → Option (AV × Heap)
 | some cs => xD9 fz z n es cs H
 | none => none
theorem xMK (fz z : Bool) (n es : Nat) (cs : List AV) : yDU fz z n es H (some cs) = xD9 fz z n es cs H := rfl
theorem xPL (z : Bool) (n es : Nat) (cs : List AV) : xD9 false z n es cs H = some (.own z H.length 0 n es,H ++ [.cells false z cs]) := rfl
def slK (z : Bool) (n : Nat) : Option (List AV) → Option AV
 | some cs => some (.sl z n cs)
 | none => none
theorem xPM (z : Bool) (n : Nat) (cs : List AV) : slK z n (some cs) = some (.sl z n cs) := rfl
theorem xML (z : Bool) (n es : Nat) (cs : List AV) : xD9 true z n es cs H = if (cs.flatMap (bor frzN H)).isEmpty = true then xDi H (slK z n (cs.mapM (frz frzN H))) else none := by
 simp only [xD9,xDi,slK]
 split
 ·rename_i h
  cases cs.mapM (frz frzN H) <;> simp_all
 ·simp_all
theorem xMM (fz : Bool) (z : List AV) (es n : Nat) (parts : List (Nat × Arg)) : xAa R F H (.bslice fz z es n parts) =
  if parts.all (fun p => (opv F p.2).cells.length == es) = true then yDU fz false n es H (fillA (xC1 z n) (parts.map fun p => (p.1 * es,(opv F p.2).cells))) else none := by
 simp only [xAa,yDU]
 split
 ·cases fillA (xC1 z n) (parts.map fun p => (p.1 * es,(opv F p.2).cells)) <;> rfl
 ·rfl
def xWF (g : Bool) : Option (List AV) → Option AV
 | some cs => mkv g cs
 | none => none
theorem xTg (v : AV) : xWF false (some [v]) = some v := rfl
theorem xTh (cs : List AV) : xWF true (some cs) = some (.agg cs) := rfl
theorem xTi (g : Bool) (n : Nat) (p : Arg) : xAa R F H (.load g n p) = xDi H (xWF g (rd H (opv F p) n)) := by
 simp only [xAa,xDi,xWF]
 cases rd H (opv F p) n with
 | none => rfl
 | some cs => simp only; cases mkv g cs <;> rfl
def rdK (off n : Nat) : Option Blk → Option (List AV)
 | some (.cells _ _ cs) => if off + n ≤ cs.length then some ((cs.drop off).take n) else none
 | _ => none
theorem xXJ (id off n : Nat) : rd H (.ptr id off) n = rdK off n H[id]? := by
 simp only [rd,rdK]
 rfl
theorem xMN {off n : Nat} {fz z : Bool} {cs : List AV} (h : off + n ≤ cs.length) : rdK off n (some (.cells fz z cs)) = some ((cs.drop off).take n) := if_pos h
theorem xTj {off n : Nat} {cs : List AV} (h : off + n ≤ cs.length) : rd H (.vptr cs off) n = some ((cs.drop off).take n) := if_pos h
def wrK (H : Heap) (id off : Nat) (vs : List AV) : Option Blk → Option Heap
 | some (.cells false z cs) => if off + vs.length ≤ cs.length ∧ vs.all AV.isCell = true then some (H.set id (.cells false z (splice cs off vs))) else none
 | _ => none
theorem xXK (id off : Nat) (vs : List AV) : wr H (.ptr id off) vs = wrK H id off vs H[id]? := by
 simp only [wr,wrK]
 rfl
theorem xIh {id off : Nat} {vs : List AV} {z : Bool} {cs : List AV} (h : off + vs.length ≤ cs.length) (h2 : vs.all AV.isCell = true) : wrK H id off vs (some (.cells false z cs)) = some (H.set id (.cells false z (splice cs off vs))) := if_pos ⟨h,h2⟩
def xTk : Option Heap → Option (AV × Heap)
 | some H => some (.tup [],H)
 | none => none
theorem xIi (H : Heap) : xTk (some H) = some (.tup [],H) := rfl
theorem xPN (n : Nat) (p v : Arg) : xAa R F H (.store n p v) = if (opv F v).cells.length = n then xTk (wr H (opv F p) (opv F v).cells) else none := by
 simp only [xAa,xTk]
 split
 ·cases wr H (opv F p) (opv F v).cells <;> rfl
 ·rfl
def yDV : AV → Option AV
 | .ptr id off => some (.ptr id off)
 | .vptr cs off => some (.vptr cs off)
 | .func f caps => some (.func f caps)
 | .yield l => some (.yield l)
 | _ => none
theorem xPO (id off : Nat) : yDV (.ptr id off) = some (.ptr id off) := rfl
theorem xMO (cs : List AV) (off : Nat) : yDV (.vptr cs off) = some (.vptr cs off) := rfl
theorem xMP (x : Arg) : xAa R F H (.nilchk x) = xDi H (yDV (opv F x)) := by
 simp only [xAa]
 cases opv F x <;> rfl
theorem xXL (op : BinOp) (x y : Arg) : xAa R F H (.bin op x y) = xDi H (xD8 op (opv F x) (opv F y)) := by
 simp only [xAa,xDi]
 cases xD8 op (opv F x) (opv F y) <;> rfl
section
variable (k : IntKind) (a b : Int)
theorem xTl : xD8 .add (.int k a) (.int k b) = some (.int k (k.wrap (a + b))) := by simp [xD8]
theorem xTm : xD8 .sub (.int k a) (.int k b) = some (.int k (k.wrap (a - b))) := by simp [xD8]
theorem xTn : xD8 .mul (.int k a) (.int k b) = some (.int k (k.wrap (a * b))) := by simp [xD8]
theorem xTo (h : b ≠ 0) : xD8 .quo (.int k a) (.int k b) = some (.int k (k.wrap (a.tdiv b))) := by simp [xD8,h]
theorem xTp (h : b ≠ 0) : xD8 .rem (.int k a) (.int k b) = some (.int k (a.tmod b)) := by simp [xD8,h]
theorem xTq : xD8 .and (.int k a) (.int k b) = some (.int k (xDz .and k a b)) := by simp [xD8]
theorem xXM : xD8 .or (.int k a) (.int k b) = some (.int k (xDz .or k a b)) := by simp [xD8]
theorem xTr (k' : IntKind) (h : 0 ≤ b) : xD8 .shl (.int k a) (.int k' b) = some (.int k (k.wrap (a * 2 ^ (min b.toNat k.bits)))) := by simp only [xD8]; rw [if_neg (by omega)]
theorem xTs (k' : IntKind) (h : 0 ≤ b) : xD8 .shr (.int k a) (.int k' b) = some (.int k (a.fdiv (2 ^ (min b.toNat k.bits)))) := by simp only [xD8]; rw [if_neg (by omega)]
theorem xTt : xD8 .eql (.int k a) (.int k b) = some (.bool (decide (a = b))) := by simp [xD8]; rfl
theorem xTu : xD8 .neq (.int k a) (.int k b) = some (.bool (!decide (a = b))) := by simp [xD8]; rfl
theorem xTv : xD8 .lss (.int k a) (.int k b) = some (.bool (decide (a < b))) := by simp [xD8]
theorem xTw : xD8 .leq (.int k a) (.int k b) = some (.bool (decide (a ≤ b))) := by simp [xD8]
theorem xTx : xD8 .gtr (.int k a) (.int k b) = some (.bool (decide (b < a))) := by simp [xD8]
theorem xTy : xD8 .geq (.int k a) (.int k b) = some (.bool (decide (b ≤ a))) := by simp [xD8]
end
def yDW (neg : Bool) : AV → AV → Option AV
 | .bool a,.bool b => some (.bool (if neg = true then a != b else a == b))
 | _,_ => none
theorem xXN (a b : Bool) : yDW false (.bool a) (.bool b) = some (.bool (decide (a = b))) := by cases a <;> cases b <;> rfl
theorem xXO (a b : Bool) : yDW true (.bool a) (.bool b) = some (.bool (!decide (a = b))) := by cases a <;> cases b <;> rfl
theorem xXP (neg : Bool) (x y : Arg) : xAa R F H (.beq neg x y) = xDi H (yDW neg (opv F x) (opv F y)) := by
 simp only [xAa]
 cases opv F x <;> cases opv F y <;> rfl
def xTz (neg : Bool) : AV → Option AV
 | .sl z _ _ => some (.bool (z != neg))
 | .own z _ _ _ _ => some (.bool (z != neg))
 | _ => none
theorem xJR (z : Bool) (n : Nat) (cs : List AV) : xTz false (.sl z n cs) = some (.bool z) := by cases z <;> rfl
theorem xIj (z : Bool) (id off n es : Nat) : xTz false (.own z id off n es) = some (.bool z) := by cases z <;> rfl
theorem xPP (neg : Bool) (x : Arg) : xAa R F H (.isnil neg x) = xDi H (xTz neg (opv F x)) := by
 simp only [xAa]
 cases opv F x <;> rfl
theorem yBU (op : UnOp) (x : Arg) : xAa R F H (.un op x) = xDi H (unA op (opv F x)) := by
 simp only [xAa,xDi]
 cases unA op (opv F x) <;> rfl
theorem xXQ (b : Bool) : unA .not (.bool b) = some (.bool !b) := rfl
theorem xXR (k : IntKind) (n : Int) : unA .xor (.int k n) = some (.int k (xDz .xor k (if k.signed then -1 else k.max) n)) := rfl
def yBV (k : IntKind) : AV → Option AV
 | .int _ n => some (.int k (k.wrap n))
 | _ => none
theorem xMQ (k k' : IntKind) (n : Int) : yBV k (.int k' n) = some (.int k (k.wrap n)) := rfl
theorem xTA (k : IntKind) (x : Arg) : xAa R F H (.conv k x) = xDi H (yBV k (opv F x)) := by
 simp only [xAa]
 cases opv F x <;> rfl
theorem xMR (f : Nat) (caps : List Arg) : xAa R F H (.mkfunc f caps) = some (.func f (caps.map (opv F)),H) := rfl
def yFr (fz : Bool) (z : List AV) (bytes : Nat) (H : Heap) : AV → AV → Option (AV × Heap)
 | .int _ l,.int _ c => if 0 ≤ l ∧ l ≤ c ∧ c * bytes ≤ xAY ∧ c ≤ xAY ∧ z.all AV.isCell = true then xD9 fz false l.toNat z.length (xC1 z l.toNat) H else none
 | _,_ => none
theorem xPQ (fz : Bool) (z : List AV) (bytes : Nat) (k k' : IntKind) {l c : Int} (h1 : 0 ≤ l) (h2 : l ≤ c) (h3 : c * bytes ≤ 140737488355328) (h4 : c ≤ 140737488355328) (h5 : z.all AV.isCell = true) : yFr fz z bytes H (.int k l) (.int k' c) = xD9 fz false l.toNat z.length (xC1 z l.toNat) H := if_pos ⟨h1,h2,h3,h4,h5⟩
theorem xJS (fz : Bool) (z : List AV) (bytes : Nat) (l c : Arg) : xAa R F H (.mkslice fz z bytes l c) = yFr fz z bytes H (opv F l) (opv F c) := by
 simp only [xAa]
 cases opv F l <;> cases opv F c <;> rfl
def xZD (es : Nat) (H : Heap) (x : AV) : Option (Nat × Nat) → Option AV
 | none => none
 | some (l,h) => match x with
  | .sl z _ cs => some (.sl z (h - l) ((cs.drop (l * es)).take ((h - l) * es)))
  | .own z id off _ _ => some (.own z id (off + l * es) (h - l) es)
  | _ => none
def xPR (es : Nat) (H : Heap) (lo hi mx : Option AV) : AV → Option AV
 | .sl z n cs => if cs.length = n * es then xZD es H (.sl z n cs) (xA1 n lo hi mx) else none
 | .own z id off n es' => if es' = es then xZD es H (.own z id off n es') (xA1 n lo hi mx) else none
 | _ => none
theorem xPS (es : Nat) (x : Arg) (lo hi mx : Option Arg) : xAa R F H (.slice es x lo hi mx) = xDi H (xPR es H (lo.map (opv F)) (hi.map (opv F)) (mx.map (opv F)) (opv F x)) := by
 simp only [xAa,xDi,xPR,xZD]
 cases opv F x with
 | sl z n cs =>
  simp only
  split
  ·cases xA1 n (lo.map (opv F)) (hi.map (opv F)) (mx.map (opv F)) <;> rfl
  ·rfl
 | own z id off n es' =>
  simp only
  split
  ·cases xA1 n (lo.map (opv F)) (hi.map (opv F)) (mx.map (opv F)) <;> rfl
  ·rfl
 | _ => rfl
theorem xMS {es n : Nat} {z : Bool} {cs : List AV} (lo hi mx : Option AV) (h : cs.length = n * es) : xPR es H lo hi mx (.sl z n cs) = xZD es H (.sl z n cs) (xA1 n lo hi mx) := if_pos h
theorem xJT {es n id off : Nat} {z : Bool} (lo hi mx : Option AV) : xPR es H lo hi mx (.own z id off n es) = xZD es H (.own z id off n es) (xA1 n lo hi mx) := if_pos rfl
theorem xTB (es : Nat) (z : Bool) (n : Nat) (cs : List AV) (l h : Nat) : xZD es H (.sl z n cs) (some (l,h)) = some (.sl z (h - l) ((cs.drop (l * es)).take ((h - l) * es))) := rfl
theorem xPT (es : Nat) (z : Bool) (id off n es' : Nat) (l h : Nat) : xZD es H (.own z id off n es') (some (l,h)) = some (.own z id (off + l * es) (h - l) es) := rfl
theorem xMT {n : Nat} {k : IntKind} {l : Int} (h0 : 0 ≤ l) (h : l ≤ n) : xA1 n (some (.int k l)) none none = some (l.toNat,n) := by
 simp only [xA1,xA4,if_pos h0]
 rw [if_pos ⟨by omega,by omega⟩]
theorem xFz {n : Nat} {k : IntKind} {m : Int} (h0 : 0 ≤ m) (h : m ≤ n) : xA1 n none (some (.int k m)) none = some (0,m.toNat) := by
 simp only [xA1,xA4,if_pos h0]
 rw [if_pos ⟨by omega,by omega⟩]
theorem xTC {n : Nat} {k k' : IntKind} {l m : Int} (h0 : 0 ≤ l) (h1 : l ≤ m) (h : m ≤ n) : xA1 n (some (.int k l)) (some (.int k' m)) none = some (l.toNat,m.toNat) := by
 have h2 : 0 ≤ m := by omega
 simp only [xA1,xA4,if_pos h0,if_pos h2]
 rw [if_pos ⟨by omega,by omega⟩]
def xTD (o : Nat) : AV → Option AV
 | .ptr id off => some (.ptr id (off + o))
 | .vptr cs off => some (.vptr cs (off + o))
 | _ => none
theorem xJU (o id off : Nat) : xTD o (.ptr id off) = some (.ptr id (off + o)) := rfl
theorem xIk (o : Nat) (cs : List AV) (off : Nat) : xTD o (.vptr cs off) = some (.vptr cs (off + o)) := rfl
theorem xPU (o : Nat) (x : Arg) : xAa R F H (.faddr o x) = xDi H (xTD o (opv F x)) := by
 simp only [xAa]
 cases opv F x <;> rfl
def xTE (g : Bool) (off n : Nat) : AV → Option AV
 | .agg cs => if off + n ≤ cs.length then mkv g ((cs.drop off).take n) else none
 | _ => none
theorem xJV {g : Bool} {off n : Nat} {cs : List AV} (h : off + n ≤ cs.length) : xTE g off n (.agg cs) = mkv g ((cs.drop off).take n) := if_pos h
theorem yBW (v : AV) : mkv false [v] = some v := rfl
theorem yBX (cs : List AV) : mkv true cs = some (.agg cs) := rfl
theorem xPV (g : Bool) (off n : Nat) (x : Arg) : xAa R F H (.field g off n x) = xDi H (xTE g off n (opv F x)) := by
 simp only [xAa]
 cases opv F x with
 | agg cs =>
  simp only [xTE,xDi]
  split
  ·cases mkv g ((cs.drop off).take n) <;> rfl
  ·rfl
 | _ => rfl
def xJW (es : Nat) : AV → AV → Option AV
 | .sl _ n cs,.int _ i => if 0 ≤ i ∧ i.toNat < n then some (.vptr cs (i.toNat * es)) else none
 | .own _ id off n es',.int _ i => if 0 ≤ i ∧ i.toNat < n ∧ es' = es then some (.ptr id (off + i.toNat * es)) else none
 | _,_ => none
theorem xMU {es n : Nat} {z : Bool} {cs : List AV} {k : IntKind} {i : Int} (h0 : 0 ≤ i) (h : i < n) : xJW es (.sl z n cs) (.int k i) = some (.vptr cs (i.toNat * es)) := if_pos ⟨h0,by omega⟩
theorem xJX {es n id off : Nat} {z : Bool} {k : IntKind} {i : Int} (h0 : 0 ≤ i) (h : i < n) : xJW es (.own z id off n es) (.int k i) = some (.ptr id (off + i.toNat * es)) := if_pos ⟨h0,by omega,rfl⟩
theorem xPW (es : Nat) (x i : Arg) : xAa R F H (.iaddr es x i) = xDi H (xJW es (opv F x) (opv F i)) := by
 simp only [xAa]
 cases opv F x with
 | sl z n cs =>
  cases opv F i with
  | int k j =>
   simp only [xA4,xJW,xDi]
   by_cases h : 0 ≤ j
   ·by_cases h2 : j.toNat < n <;> simp [h,h2]
   ·simp [h]
  | _ => rfl
 | own z id off n es' =>
  cases opv F i with
  | int k j =>
   simp only [xA4,xJW,xDi]
   by_cases h : 0 ≤ j
   ·by_cases h2 : j.toNat < n
    ·by_cases h3 : es' = es <;> simp [h,h2,h3]
    ·simp [h,h2]
   ·simp [h]
  | _ => rfl
 | _ => cases opv F i <;> simp [xJW,xDi,xA4] <;> split <;> simp_all
def yDX (i : Nat) : AV → Option AV
 | .tup vs => vs[i]?
 | _ => none
theorem xPX (i : Nat) (vs : List AV) : yDX i (.tup vs) = vs[i]? := rfl
theorem xXS (i : Nat) (x : Arg) : xAa R F H (.ext i x) = xDi H (yDX i (opv F x)) := by
 simp only [xAa]
 cases opv F x with
 | tup vs => simp only [yDX,xDi]; cases vs[i]? <;> rfl
 | _ => rfl
def yDY : AV → Option AV
 | .sl _ n _ => some (.int .i64 n)
 | .own _ _ _ n _ => some (.int .i64 n)
 | _ => none
theorem xTF (z : Bool) (n : Nat) (cs : List AV) : yDY (.sl z n cs) = some (.int .i64 n) := rfl
theorem xPY (z : Bool) (id off n es : Nat) : yDY (.own z id off n es) = some (.int .i64 n) := rfl
theorem xXT (x : Arg) : xAa R F H (.len x) = xDi H (yDY (opv F x)) := by
 simp only [xAa]
 cases opv F x <;> rfl
def yBY (fz : Bool) (es bytes : Nat) (H : Heap) (x : AV) : Option (Nat × List AV) → Option (AV × Heap)
 | none => none
 | some (m,ys) => match x with
  | .sl true _ _ => if m * bytes ≤ xAY ∧ m ≤ xAY then xD9 fz (m == 0) m es ys H else none
  | .own z id off n es' => match H[id]? with
   | some (.cells false _ cs) => if off = 0 ∧ es' = es ∧ n * es ≤ cs.length ∧ (n + m) * bytes ≤ xAY ∧ n + m ≤ xAY then
     some (.own (z && m == 0) H.length 0 (n + m) es,H.set id .dead ++ [.cells false (z && m == 0) (cs.take (n * es) ++ ys)]) else none
   | _ => none
  | _ => none
theorem xMV (fz : Bool) (es bytes : Nat) (x y : Arg) : xAa R F H (.append fz es bytes x y) = yBY fz es bytes H (opv F x) (src H es (opv F y)) := by
 simp only [xAa,yBY]
 cases src H es (opv F y) <;> rfl
theorem xPZ {fz : Bool} {es bytes n m : Nat} {cs ys : List AV} (h : m * bytes ≤ 140737488355328) (h2 : m ≤ 140737488355328) : yBY fz es bytes H (.sl true n cs) (some (m,ys)) = xD9 fz (m == 0) m es ys H := if_pos ⟨h,h2⟩
def xZE (es bytes n m : Nat) (H : Heap) (z : Bool) (id : Nat) (ys : List AV) : Option Blk → Option (AV × Heap)
 | some (.cells false _ cs) => if n * es ≤ cs.length ∧ (n + m) * bytes ≤ xAY ∧ n + m ≤ xAY then
   some (.own (z && m == 0) H.length 0 (n + m) es,H.set id .dead ++ [.cells false (z && m == 0) (cs.take (n * es) ++ ys)]) else none
 | _ => none
theorem xP0 (fz : Bool) (es bytes n m id : Nat) (z : Bool) (ys : List AV) : yBY fz es bytes H (.own z id 0 n es) (some (m,ys)) = xZE es bytes n m H z id ys H[id]? := by
 simp only [yBY,xZE]
 split
 ·rename_i z' cs hb
  by_cases h : n * es ≤ cs.length ∧ (n + m) * bytes ≤ xAY ∧ n + m ≤ xAY
  ·rw [if_pos h,if_pos ⟨trivial,trivial,h⟩]
  ·rw [if_neg h,if_neg (fun g => h g.2.2)]
 ·rename_i hne
  cases hb : H[id]? with
  | none => rfl
  | some b => cases b with
   | cells fz z cs => cases fz with
    | false => exact (hne _ _ hb).elim
    | true => rfl
   | _ => rfl
theorem xIl {es bytes n m id : Nat} {z z' : Bool} {ys cs : List AV} (h : n * es ≤ cs.length) (h2 : (n + m) * bytes ≤ 140737488355328) (h3 : n + m ≤ 140737488355328) : xZE es bytes n m H z id ys (some (.cells false z' cs)) =
  some (.own (z && m == 0) H.length 0 (n + m) es,H.set id .dead ++ [.cells false (z && m == 0) (cs.take (n * es) ++ ys)]) := if_pos ⟨h,h2,h3⟩
theorem xXU {es n : Nat} {z : Bool} {cs : List AV} (h : cs.length = n * es) : src H es (.sl z n cs) = some (n,cs) := if_pos h
def yDZ (off n es : Nat) : Option Blk → Option (Nat × List AV)
 | some (.cells _ _ cs) => if off + n * es ≤ cs.length then some (n,(cs.drop off).take (n * es)) else none
 | _ => none
theorem xTG (es n id off : Nat) (z : Bool) : src H es (.own z id off n es) = yDZ off n es H[id]? := by
 simp only [src,yDZ]
 cases H[id]? with
 | none => rfl
 | some b => cases b <;> simp
theorem xJY {es n off : Nat} {fz z : Bool} {cs : List AV} (h : off + n * es ≤ cs.length) : yDZ off n es (some (.cells fz z cs)) = some (n,(cs.drop off).take (n * es)) := if_pos h
def xTH (z : List AV) (bytes id off k es m : Nat) (H : Heap) : Option Blk → Option (AV × Heap)
 | some (.cells false _ cs) => if off = 0 ∧ es = z.length ∧ k * z.length ≤ cs.length ∧ (k + m) * bytes ≤ xAY ∧ k + m ≤ xAY ∧ 0 < m ∧ z.all AV.isCell = true then
   some (.own false H.length 0 (k + m) z.length,H.set id .dead ++ [.cells false false (cs.take (k * z.length) ++ xC1 z m)]) else none
 | _ => none
def xG7 (z : List AV) (bytes : Nat) (H : Heap) : AV → AV → Option (AV × Heap)
 | .sl true _ _,.int _ m => if 0 ≤ m ∧ m.toNat * bytes ≤ xAY ∧ m.toNat ≤ xAY ∧ z.all AV.isCell = true then xD9 false (m.toNat == 0) m.toNat z.length (xC1 z m.toNat) H else none
 | .own false id off k es,.int _ m => if 0 ≤ m then xTH z bytes id off k es m.toNat H H[id]? else none
 | _,_ => none
theorem xOx (z : List AV) (bytes id off k es m : Nat) (H : Heap) (b : Option Blk) : (match b with
   | some (.cells false _ cs) => if off = 0 ∧ es = z.length ∧ k * z.length ≤ cs.length ∧ (k + m) * bytes ≤ xAY ∧ k + m ≤ xAY ∧ 0 < m ∧ z.all AV.isCell = true then
     some (AV.own false H.length 0 (k + m) z.length,H.set id .dead ++ [.cells false false (cs.take (k * z.length) ++ xC1 z m)]) else none
   | _ => none) = xTH z bytes id off k es m H b := by
 rcases b with _ | b
 ·rfl
 ·cases b with
  | cells fz zz cs => cases fz <;> rfl
  | _ => rfl
theorem xJZ (z : List AV) (bytes : Nat) (x n : Arg) : xAa R F H (.appendz z bytes x n) = xG7 z bytes H (opv F x) (opv F n) := by
 simp only [xAa]
 cases hn : opv F n with
 | int k m =>
  simp only [xA4]
  by_cases h : 0 ≤ m
  ·cases hx : opv F x with
   | sl zz nn cs => cases zz <;> simp [xG7,h]
   | own zz id off kk es =>
    cases zz with
    | true => simp [xG7,h]
    | false => simp only [h,if_true,xG7]; exact xOx _ _ _ _ _ _ _ _ _
   | _ => simp [xG7,h]
  ·cases hx : opv F x with
   | sl zz nn cs => cases zz <;> simp [xG7,h]
   | own zz id off kk es => cases zz <;> simp [xG7,h]
   | _ => simp [xG7,h]
 | _ =>
  cases hx : opv F x with
  | sl zz nn cs => cases zz <;> simp [xG7,xA4]
  | own zz id off kk es => cases zz <;> simp [xG7,xA4]
  | _ => simp [xG7,xA4]
theorem xTI {z : List AV} {bytes id off k es : Nat} {kk : IntKind} {m : Int} (h0 : 0 ≤ m) : xG7 z bytes H (.own false id off k es) (.int kk m) = xTH z bytes id off k es m.toNat H H[id]? := if_pos h0
theorem xOy {z : List AV} {bytes id k m : Nat} {zz : Bool} {cs : List AV} (h1 : k * z.length ≤ cs.length) (h2 : (k + m) * bytes ≤ 140737488355328) (h3 : k + m ≤ 140737488355328) (h4 : 0 < m) (h5 : z.all AV.isCell = true) :
  xTH z bytes id 0 k z.length m H (some (.cells false zz cs)) = some (.own false H.length 0 (k + m) z.length,H.set id .dead ++ [.cells false false (cs.take (k * z.length) ++ xC1 z m)]) := if_pos ⟨rfl,rfl,h1,h2,h3,h4,h5⟩
def yD0 : AV → AV → Option AV
 | .int k a,.int _ b => some (.int k (min a b))
 | _,_ => none
theorem xP1 (k k' : IntKind) (a b : Int) : yD0 (.int k a) (.int k' b) = some (.int k (min a b)) := rfl
theorem xTJ (x y : Arg) : xAa R F H (.mini x y) = xDi H (yD0 (opv F x) (opv F y)) := by
 simp only [xAa]
 cases opv F x with
 | int k a => cases opv F y with
  | int k' b => simp only [yD0,xDi]; congr 3; split <;> omega
  | _ => rfl
 | _ => rfl
theorem xXV (z : List AV) : xC1 z 0 = [] := rfl
theorem xXW (z : List AV) : xC1 z 1 = z ++ ([]) := rfl
theorem xXX (z : List AV) : xC1 z 2 = z ++ (z ++ ([])) := rfl
theorem xXY (z : List AV) : xC1 z 3 = z ++ (z ++ (z ++ ([]))) := rfl
theorem xXZ (z : List AV) : xC1 z 4 = z ++ (z ++ (z ++ (z ++ ([])))) := rfl
theorem xX0 (z : List AV) : xC1 z 5 = z ++ (z ++ (z ++ (z ++ (z ++ ([]))))) := rfl
theorem xC4 (d : Nat) (k : IntKind) (n : Int) : frz d H (.int k n) = some (.int k n) := by cases d <;> rfl
theorem xHf (d : Nat) (b : Bool) : frz d H (.bool b) = some (.bool b) := by cases d <;> rfl
theorem xTK (d : Nat) (b : ByteArray) : frz d H (.str b) = some (.str b) := by cases d <;> rfl
theorem xEc (d : Nat) (z : Bool) (n : Nat) (cs : List AV) : frz d H (.sl z n cs) = some (.sl z n cs) := by cases d <;> rfl
theorem xTL (d : Nat) (cs : List AV) : frz (d + 1) H (.agg cs) = (cs.mapM (frz d H)).map AV.agg := rfl
theorem xTM (d : Nat) (cs : List AV) : frz (d + 1) H (.tup cs) = (cs.mapM (frz d H)).map AV.tup := rfl
def yD1 (d : Nat) (H : Heap) (z : Bool) (off n es : Nat) : Option Blk → Option AV
 | some (.cells _ _ cs) => if off + n * es ≤ cs.length then slK z n (((cs.drop off).take (n * es)).mapM (frz d H)) else none
 | _ => none
theorem xBe (d : Nat) (z : Bool) (id off n es : Nat) : frz (d + 1) H (.own z id off n es) = yD1 d H z off n es H[id]? := by
 simp only [frz,yD1]
 cases H[id]? with
 | none => rfl
 | some b => cases b with
  | cells fz z' cs =>
   simp only
   split
   ·cases ((cs.drop off).take (n * es)).mapM (frz d H) <;> rfl
   ·rfl
  | _ => rfl
theorem xDj {d off n es : Nat} {z fz z' : Bool} {cs : List AV} (h : off + n * es ≤ cs.length) : yD1 d H z off n es (some (.cells fz z' cs)) = slK z n (((cs.drop off).take (n * es)).mapM (frz d H)) := if_pos h
theorem xLe (d : Nat) (k : IntKind) (n : Int) : bor d H (.int k n) = [] := by cases d <;> rfl
theorem xP2 (d : Nat) (b : Bool) : bor d H (.bool b) = [] := by cases d <;> rfl
theorem xTN (d : Nat) (b : ByteArray) : bor d H (.str b) = [] := by cases d <;> rfl
def yD2 (d : Nat) (H : Heap) (off : Nat) : Option Blk → Option AV
 | some (.cells _ _ cs) => (cs.mapM (frz d H)).map fun cs' => .vptr cs' off
 | _ => none
theorem xTO (d i o : Nat) : frz (d + 1) H (.ptr i o) = yD2 d H o H[i]? := by
 simp only [frz,yD2]
 cases H[i]? with
 | none => rfl
 | some b => cases b <;> rfl
theorem xJ0 (d : Nat) (o : Nat) (fz z : Bool) (cs : List AV) : yD2 d H o (some (.cells fz z cs)) = (cs.mapM (frz d H)).map fun cs' => .vptr cs' o := rfl
def xZF (d : Nat) (H : Heap) : Option Blk → List Nat
 | some (.cells _ _ cs) => cs.flatMap (bor d H)
 | _ => []
theorem xTP (d i o : Nat) : bor (d + 1) H (.ptr i o) = i :: xZF d H H[i]? := by
 simp only [bor,xZF]
 cases H[i]? with
 | none => rfl
 | some b => cases b <;> rfl
theorem xIm (d : Nat) (fz z : Bool) (cs : List AV) : xZF d H (some (.cells fz z cs)) = cs.flatMap (bor d H) := rfl
def yBZ : Option Blk → Bool
 | some (.cells true _ _) => true
 | _ => false
theorem xJ1 (i : Nat) : xF4 H i = yBZ H[i]? := by
 simp only [xF4,yBZ]
 cases H[i]? with
 | none => rfl
 | some b => cases b with
  | cells fz z cs => cases fz <;> rfl
  | _ => rfl
theorem xTQ (d : Nat) (z : Bool) (n : Nat) (cs : List AV) : bor d H (.sl z n cs) = [] := by cases d <;> rfl
theorem xTR (d : Nat) (cs : List AV) : bor (d + 1) H (.agg cs) = cs.flatMap (bor d H) := rfl
def yD3 (d : Nat) (H : Heap) (off n es : Nat) : Option Blk → List Nat
 | some (.cells _ _ cs) => ((cs.drop off).take (n * es)).flatMap (bor d H)
 | _ => []
theorem xTS (d : Nat) (z : Bool) (id off n es : Nat) : bor (d + 1) H (.own z id off n es) = id :: yD3 d H off n es H[id]? := by
 simp only [bor,yD3]
 cases H[id]? with
 | none => rfl
 | some b => cases b <;> rfl
theorem xJ2 (d off n es : Nat) (fz z : Bool) (cs : List AV) : yD3 d H off n es (some (.cells fz z cs)) = ((cs.drop off).take (n * es)).flatMap (bor d H) := rfl
def yDc (args : List AV) (H : Heap) : Option AV → Option (AV × Heap)
 | some r => some (r,if xAI r = true then H else fzIds H (args.flatMap (bor frzN H)))
 | none => none
theorem xMW (args : List AV) (r : AV) : yDc args H (some r) = some (r,if xAI r = true then H else fzIds H (args.flatMap (bor frzN H))) := rfl
def yD4 (R : Rec) (f : Nat) (args : List AV) (H : Heap) : Option (List AV) → Option (AV × Heap)
 | some args' => yDc args H (R.pcall f args')
 | none => none
theorem xMX (f : Nat) (args args' : List AV) : yD4 R f args H (some args') = yDc args H (R.pcall f args') := rfl
theorem xMY (f : Nat) (args : List AV) : xBG R f args H = yD4 R f args H (args.mapM (frz frzN H)) := by
 simp only [xBG,yD4]
 cases args.mapM (frz frzN H) with
 | none => rfl
 | some args' => simp only [yDc]; cases R.pcall f args' <;> rfl
theorem xTT (f : Nat) (args : List Arg) : xAa R F H (.call f args) = xBG R f (args.map (opv F)) H := rfl
theorem xP3 (f : Arg) (args : List Arg) : xAa R F H (.icall f args) = R.icall (opv F f) (args.map (opv F)) H := rfl
def xJ3 (args : List AV) (H : Heap) : Option (AV × Heap) → Option (AV × Heap)
 | some (r,_) => if quietCall r H args = true then some (r,H) else none
 | none => none
theorem xIn (args : List AV) (r : AV) (H' : Heap) : xJ3 args H (some (r,H')) = if quietCall r H args = true then some (r,H) else none := rfl
theorem xTU (f : Nat) (args : List Arg) : xBi R F H (.call f args) = xJ3 (args.map (opv F)) H (xBG R f (args.map (opv F)) H) := by
 simp only [xBi,xAv,xJ3]
 cases xBG R f (args.map (opv F)) H with
 | none => rfl
 | some r => obtain ⟨r,H'⟩ := r; simp only; split <;> rfl
def xOz (R : Rec) (args : List AV) (H : Heap) : AV → Option (AV × Heap)
 | .func g caps => xJ3 (args ++ caps) H (xBG R g (args ++ caps) H)
 | _ => none
theorem xGS (args : List AV) (g : Nat) (caps : List AV) : xOz R args H (.func g caps) = xJ3 (args ++ caps) H (xBG R g (args ++ caps) H) := rfl
theorem xP4 (f : Arg) (args : List Arg) : xBi R F H (.fcall f args) = xOz R (args.map (opv F)) H (opv F f) := by
 simp only [xBi,xAv,xJ3,xOz]
 cases opv F f with
 | func g caps =>
  simp only
  cases xBG R g (args.map (opv F) ++ caps) H with
  | none => rfl
  | some r => obtain ⟨r,H'⟩ := r; simp only; split <;> rfl
 | _ => rfl
def xLf (H : Heap) : Option (AV × Heap) → Option (AV × Heap)
 | some (v,_) => some (v,H)
 | none => none
theorem xMZ (v : AV) (H' : Heap) : xLf H (some (v,H')) = some (v,H) := rfl
theorem xEA (op : AOp) (h : xAv R F H op = (xAa R F H op).map (·.1)) : xBi R F H op = xLf H (xAa R F H op) := by
 simp only [xBi,h,xLf]
 cases xAa R F H op <;> rfl
theorem xX1 (x : Arg) : xBi R F H (.mov x) = xLf H (xAa R F H (.mov x)) := xEA _ rfl
theorem xTV (c a b : Arg) : xBi R F H (.pick c a b) = xLf H (xAa R F H (.pick c a b)) := xEA _ rfl
theorem xTW (g : Bool) (n : Nat) (p : Arg) : xBi R F H (.load g n p) = xLf H (xAa R F H (.load g n p)) := xEA _ rfl
theorem xM0 (x : Arg) : xBi R F H (.nilchk x) = xLf H (xAa R F H (.nilchk x)) := xEA _ rfl
theorem xX2 (op : BinOp) (x y : Arg) : xBi R F H (.bin op x y) = xLf H (xAa R F H (.bin op x y)) := xEA _ rfl
theorem xTX (k : IntKind) (x : Arg) : xBi R F H (.conv k x) = xLf H (xAa R F H (.conv k x)) := xEA _ rfl
theorem xP5 (es : Nat) (x : Arg) (lo hi mx : Option Arg) : xBi R F H (.slice es x lo hi mx) = xLf H (xAa R F H (.slice es x lo hi mx)) := xEA _ rfl
theorem xP6 (o : Nat) (x : Arg) : xBi R F H (.faddr o x) = xLf H (xAa R F H (.faddr o x)) := xEA _ rfl
theorem xP7 (es : Nat) (x i : Arg) : xBi R F H (.iaddr es x i) = xLf H (xAa R F H (.iaddr es x i)) := xEA _ rfl
theorem xX3 (x : Arg) : xBi R F H (.len x) = xLf H (xAa R F H (.len x)) := xEA _ rfl
theorem xTY (x y : Arg) : xBi R F H (.mini x y) = xLf H (xAa R F H (.mini x y)) := xEA _ rfl
def xM1 (H : Heap) : Option AV → Option (AV × Heap)
 | some v => some (v,H)
 | none => none
theorem xJ4 (v : AV) : xM1 H (some v) = some (v,H) := rfl
def xRw (rs : List ARes) : Option (AExit × St) → Option (AV × Heap)
 | some (.normal,s) => xM1 s.H (xAR rs s)
 | some (.ret,s) => xM1 s.H (xAR rs s)
 | _ => none
theorem xGT (rs : List ARes) (F : List AV) (H : Heap) : xRw rs (some (.normal,⟨F,H⟩)) = xM1 H (xAR rs ⟨F,H⟩) := rfl
theorem xIo (rs : List ARes) (F : List AV) (H : Heap) : xRw rs (some (.ret,⟨F,H⟩)) = xM1 H (xAR rs ⟨F,H⟩) := rfl
def pads : Nat → List AV
 | 0 => []
 | n + 1 => .tup [] :: pads n
theorem xTZ : ∀ n,List.replicate n (AV.tup []) = pads n
 | 0 => rfl
 | n + 1 => by rw [List.replicate_succ,xTZ n]; rfl
theorem xAt (n : Nat) (code : ACode) (rs : List ARes) (args : List AV) : xA2 R ⟨n,code,rs⟩ args H = xRw rs (run R code ⟨args ++ pads (n - args.length),H⟩) := by
 rw [← xTZ]
 simp only [xA2,xRw,xMi,xM1]
 cases h : run R code ⟨args ++ List.replicate (n - args.length) (.tup []),H⟩ with
 | none => rfl
 | some r =>
  obtain ⟨e,s⟩ := r
  cases e with
  | exit i => rfl
  | _ => simp only; cases xAR rs s <;> rfl
def xT0 : Option (AV × Heap) → Option AV
 | some (r,H') => frz frzN H' r
 | none => none
theorem xIp (r : AV) (H' : Heap) : xT0 (some (r,H')) = frz frzN H' r := rfl
theorem xAd (fn : AFunc) (args : List AV) : xAF R fn args = xT0 (xA2 R fn args []) := by
 simp only [xAF,xT0]
 cases xA2 R fn args [] <;> rfl
def xZG (g : Bool) : Option (List AV) → Option AV
 | some cs => mkv g cs
 | none => none
theorem xJ5 (g : Bool) (cs : List AV) : xZG g (some cs) = mkv g cs := rfl
theorem xOA (t : Nat) : xRM ⟨F,H⟩ (.tmp t) = some (F.getD t .any) := rfl
theorem xP8 (t : Nat) (g : Bool) (n : Nat) : xRM ⟨F,H⟩ (.cell t g n) = xZG g (rd H (F.getD t .any) n) := by
 simp only [xRM,xZG]
 cases rd H (F.getD t .any) n <;> rfl
theorem xM2 : xAR [] s = some (.tup []) := rfl
theorem xIq (r : ARes) : xAR [r] s = xRM s r := rfl
def yD5 (s : St) (rs : List ARes) : Option AV → Option (List AV)
 | some v => (xOm s rs).map (v :: ·)
 | none => none
theorem xM3 (rs : List ARes) (v : AV) : yD5 s rs (some v) = (xOm s rs).map (v :: ·) := rfl
theorem xP9 : xOm s [] = some [] := rfl
theorem xM4 (r : ARes) (rs : List ARes) : xOm s (r :: rs) = yD5 s rs (xRM s r) := by
 simp only [xOm,yD5]
 cases xRM s r <;> rfl
theorem xM5 (r r' : ARes) (rs : List ARes) : xAR (r :: r' :: rs) s = (xOm s (r :: r' :: rs)).map .tup := rfl
end
section
variable {R : Rec} {F : List AV} {H : Heap} {s : St}
def xT1 : Option (AV × Heap) → Option (AV × List Blk)
 | some (r,H') => (xEU H' r).map fun (v,B) => (v,B.map (·.2))
 | none => none
theorem xT2 (f : Nat) (args : List AV) : xDe R f args = xT1 (R.icall (.func f []) args []) := by
 unfold xDe xT1
 cases R.icall (.func f []) args [] <;> rfl
theorem xIr (r : AV) (H' : Heap) : xT1 (some (r,H')) = (xEU H' r).map fun (v,B) => (v,B.map (·.2)) := rfl
def ocK (H : Heap) (ids : List Nat) : Option (AV × List Blk) → Option (AV × Heap)
 | some (v,B) => some (xDd H.length v,fzIds H ids ++ B)
 | none => none
def xT3 (R : Rec) (f : Nat) (H : Heap) (ids : List Nat) : Option (List AV) → Option (AV × Heap)
 | some args' => ocK H ids (xDe R f args')
 | none => none
theorem xQa (f : Nat) (args : List Arg) : xAa R F H (.ocall f args) = xT3 R f H ((args.map (opv F)).flatMap (bor frzN H)) ((args.map (opv F)).mapM (frz frzN H)) := by
 simp only [xAa,xT3]
 cases (args.map (opv F)).mapM (frz frzN H) with
 | none => rfl
 | some args' =>
  simp only [ocK]
  cases xDe R f args' <;> rfl
theorem xIs (f : Nat) (ids : List Nat) (args' : List AV) : xT3 R f H ids (some args') = ocK H ids (xDe R f args') := rfl
theorem xQb (ids : List Nat) (v : AV) (B : List Blk) : ocK H ids (some (v,B)) = some (xDd H.length v,fzIds H ids ++ B) := rfl
def t1B (z : Bool) (id off n es : Nat) (B : List (Nat × Blk)) : Option Blk → Option (AV × List (Nat × Blk))
 | some (.cells false z' cs) => if cs.all xB4 = true then some (.own z B.length off n es,B ++ [(id,.cells false z' cs)]) else none
 | _ => none
def t1I (z : Bool) (id off n es : Nat) (B : List (Nat × Blk)) (b : Option Blk) : Option Nat → Option (AV × List (Nat × Blk))
 | some k => some (.own z k off n es,B)
 | none => t1B z id off n es B b
theorem xM6 (H : Heap) (z : Bool) (id off n es : Nat) (B : List (Nat × Blk)) : xK4 H (.own z id off n es) B = t1I z id off n es B H[id]? (B.findIdx? (fun p => p.1 == id)) := by
 simp only [xK4,t1I]
 cases B.findIdx? (fun p => p.1 == id) with
 | some k => rfl
 | none =>
  simp only [t1B]
  cases H[id]? with
  | none => rfl
  | some b => cases b with
   | cells fz z' cs => cases fz <;> rfl
   | _ => rfl
theorem xT4 (z : Bool) (id off n es : Nat) (B : List (Nat × Blk)) (z' : Bool) (cs : List AV) : t1I z id off n es B (some (.cells false z' cs)) none = if cs.all xB4 = true then some (.own z B.length off n es,B ++ [(id,.cells false z' cs)]) else none := rfl
theorem xIt (H : Heap) (z : Bool) (id off n es : Nat) : xEU H (.own z id off n es) = xK4 H (.own z id off n es) [] := rfl
theorem xM7 {α : Type} (p : α → Bool) : ([] : List α).findIdx? p = none := rfl
theorem xJ6 (pl : List Pr) (s : St) : xA8 [] pl s = adoptL pl s := rfl
def xWG (e : Pr) : Option (St × List Pr) → Option (St × List Pr)
 | some (s,l) => some (s,e :: l)
 | none => none
theorem xJ7 (e : Pr) (s : St) (l : List Pr) : xWG e (some (s,l)) = some (s,e :: l) := rfl
def xX4 (R : Rec) (rest : List AOper) (s : St) : Option Nat → Option (AV × List Blk) → Option (St × List Pr)
 | some t,some (v,B) => xWG (some (t,v,B)) (xAA R rest ⟨s.F.set t (xEF v),s.H⟩)
 | _,_ => none
def xT5 (R : Rec) (rest : List AOper) : Option St → Option (St × List Pr)
 | some s => xWG none (xAA R rest s)
 | none => none
theorem xIu : xAA R [] s = some (s,[]) := rfl
theorem xGU (o : AOper) (rest : List AOper) : xAA R (o :: rest) s = if xA7 o.op = true then xX4 R rest s o.dst (xDA R s.F o.op) else xT5 R rest (xAJ R o s) := by
 simp only [xAA]
 split
 ·cases o.dst with
  | none => rfl
  | some t => cases xDA R s.F o.op with
   | none => rfl
   | some r =>
    obtain ⟨v,B⟩ := r
    simp only [xX4]
    cases xAA R rest ⟨s.F.set t (xEF v),s.H⟩ <;> rfl
 ·cases xAJ R o s with
  | none => rfl
  | some s1 =>
   simp only [xT5]
   cases xAA R rest s1 <;> rfl
theorem xIv (rest : List AOper) (s : St) : xT5 R rest (some s) = xWG none (xAA R rest s) := rfl
theorem xJ8 (x : Arg) : xA7 (.mov x) = false := rfl
theorem xIw (g : Bool) (n : Nat) (x : Arg) : xA7 (.load g n x) = false := rfl
theorem xFA (x : Arg) : xA7 (.nilchk x) = false := rfl
theorem xGV (o : Nat) (x : Arg) : xA7 (.faddr o x) = false := rfl
end
section
variable {R : Rec} {F : List AV} {H : Heap}
def yDd (g : Bool) (es len : Nat) : AV → AV → Option AV
 | .agg cs,.int _ i => if 0 ≤ i ∧ i.toNat < len ∧ i.toNat * es + es ≤ cs.length then mkv g ((cs.drop (i.toNat * es)).take es) else none
 | _,_ => none
theorem xQc {g : Bool} {es len : Nat} {cs : List AV} {k : IntKind} {i : Int} (h0 : 0 ≤ i) (h : i < len) (h2 : i.toNat * es + es ≤ cs.length) : yDd g es len (.agg cs) (.int k i) = mkv g ((cs.drop (i.toNat * es)).take es) := if_pos ⟨h0,by omega,h2⟩
theorem xX5 (g : Bool) (es len : Nat) (x i : Arg) : xAa R F H (.idx g es len x i) = xDi H (yDd g es len (opv F x) (opv F i)) := by
 simp only [xAa]
 cases opv F x with
 | agg cs => cases opv F i with
  | int k n =>
   by_cases h0 : 0 ≤ n
   ·have e : xA4 (.int k n) = some n.toNat := by simp [xA4,h0]
    simp only [e,yDd,h0,true_and]
    by_cases c : n.toNat < len ∧ n.toNat * es + es ≤ cs.length
    ·rw [if_pos c,if_pos c]
     cases mkv g ((cs.drop (n.toNat * es)).take es) <;> rfl
    ·rw [if_neg c,if_neg c]; rfl
   ·have e : xA4 (.int k n) = none := by simp [xA4,h0]
    simp only [e,yDd,h0,false_and,if_false,xDi]
  | _ => rfl
 | _ => rfl
def xJ9 (es len : Nat) : AV → AV → Option AV
 | .ptr id off,.int _ i => if 0 ≤ i ∧ i.toNat < len then some (.ptr id (off + i.toNat * es)) else none
 | .vptr cs off,.int _ i => if 0 ≤ i ∧ i.toNat < len then some (.vptr cs (off + i.toNat * es)) else none
 | _,_ => none
theorem xKa {es len id off : Nat} {k : IntKind} {i : Int} (h0 : 0 ≤ i) (h : i < len) : xJ9 es len (.ptr id off) (.int k i) = some (.ptr id (off + i.toNat * es)) := if_pos ⟨h0,by omega⟩
theorem xQd (es len : Nat) (x i : Arg) : xAa R F H (.arrat es len x i) = xDi H (xJ9 es len (opv F x) (opv F i)) := by
 simp only [xAa]
 cases opv F x with
 | ptr id off => cases opv F i with
  | int k n =>
   by_cases h0 : 0 ≤ n
   ·have e : xA4 (.int k n) = some n.toNat := by simp [xA4,h0]
    simp only [e,xJ9,h0,true_and]
    by_cases c : n.toNat < len
    ·rw [if_pos c,if_pos c]; rfl
    ·rw [if_neg c,if_neg c]; rfl
   ·have e : xA4 (.int k n) = none := by simp [xA4,h0]
    simp only [e,xJ9,h0,false_and,if_false,xDi]
  | _ => rfl
 | vptr cs off => cases opv F i with
  | int k n =>
   by_cases h0 : 0 ≤ n
   ·have e : xA4 (.int k n) = some n.toNat := by simp [xA4,h0]
    simp only [e,xJ9,h0,true_and]
    by_cases c : n.toNat < len
    ·rw [if_pos c,if_pos c]; rfl
    ·rw [if_neg c,if_neg c]; rfl
   ·have e : xA4 (.int k n) = none := by simp [xA4,h0]
    simp only [e,xJ9,h0,false_and,if_false,xDi]
  | _ => rfl
 | _ => rfl
def yB0 : AV → Option AV
 | .str s => some (.int .i64 s.size)
 | _ => none
theorem xM8 (s : ByteArray) : yB0 (.str s) = some (.int .i64 s.size) := rfl
theorem xT6 (x : Arg) : xAa R F H (.slen x) = xDi H (yB0 (opv F x)) := by
 simp only [xAa]
 cases opv F x <;> rfl
theorem xQe (es len : Nat) (x i : Arg) : xBi R F H (.arrat es len x i) = xLf H (xAa R F H (.arrat es len x i)) := xEA _ rfl
theorem xT7 (x : Arg) : xBi R F H (.slen x) = xLf H (xAa R F H (.slen x)) := xEA _ rfl
end
end Go.Abs
