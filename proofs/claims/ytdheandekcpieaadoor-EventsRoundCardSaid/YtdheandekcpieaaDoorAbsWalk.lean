/- The interpreter's equations in the form that simp walks by: one equation for each construct,told apart by what has been computed already. -/
import Derived.Test.YtdheandekcpieaaDoorAbsLim
namespace Go.Abs
set_option linter.unusedVariables false
set_option linter.unusedSimpArgs false
theorem xF8 : ∀ (scr : List Nat) (F : List AV) (i : Nat),(xAw scr F)[i]? = if i ∈ scr then (F[i]?).map (fun _ => AV.any) else F[i]?
 | [],F,i => by simp [xAw]
 | j :: scr,F,i => by
  have := xF8 scr (F.set j .any) i
  simp only [xAw,List.foldl_cons] at this ⊢
  rw [this]
  by_cases h : i = j
  ·subst h
   simp only [List.getElem?_set_self',List.mem_cons,true_or,if_true]
   cases F[i]? <;> simp
  ·have h' : ¬ j = i := fun e => h e.symm
   simp [List.getElem?_set,h,h']
theorem xOo (scr : List Nat) (F : List AV) : xAw scr (xAw scr F) = xAw scr F := by
 apply List.ext_getElem?
 intro i
 rw [xF8,xF8]
 split
 ·cases F[i]? <;> rfl
 ·rfl
section
variable {prog : Nat → Option AFunc}
theorem xSs (prog : Nat → Option AFunc) (n : Nat) : Tends (fix prog n) (fun _ => lim prog) :=
 ⟨fun f a v h => .all fun _ => xER ((xFe prog n).pcall f a v h),fun f a H v h => .all fun _ => xER ((xFe prog n).icall f a H v h),fun scr b s v h => .all fun _ => xER ((xFe prog n).loop scr b s v h)⟩
theorem Ev.const {p : Prop} (h : Ev fun _ => p) : p := let ⟨n,hn⟩ := h; hn n (Nat.le_refl n)
theorem xSt {α : Type} {a b : Option α} (h1 : ∀ v,a = some v → b = some v) (h2 : ∀ v,b = some v → a = some v) : a = b := by
 cases a with
 | some v => exact (h1 v rfl).symm
 | none =>
  cases b with
  | none => rfl
  | some v => exact h2 v rfl
theorem xAi {f : Nat} {fn : AFunc} (hf : prog f = some fn) (args : List AV) : (lim prog).pcall f args = xAF (lim prog) fn args := by
 refine xSt (fun v h => ?_) (fun v h => xRB hf h)
 obtain ⟨n,hn⟩ := xCf (p := fun m => (fix prog m).pcall f args) h
 have h1 : (xDV prog (fix prog n)).pcall f args = some v := hn (n + 1) (by omega)
 have h2 := (xBB (xSs prog n) prog).pcall f args v h1 |>.const
 simp only [xDV,hf] at h2
 exact h2
theorem xMp (f : AV) (args : List AV) (H : Heap) : (lim prog).icall f args H = xEh prog (lim prog) f args H := by
 refine xSt (fun v h => ?_) (fun v h => xRC h)
 obtain ⟨n,hn⟩ := xCf (p := fun m => (fix prog m).icall f args H) h
 have h1 : (xDV prog (fix prog n)).icall f args H = some v := hn (n + 1) (by omega)
 exact (xBB (xSs prog n) prog).icall f args H v h1 |>.const
theorem xE2 (scr : List Nat) (b : ACode) (s : St) : (lim prog).loop scr b s = xIW (lim prog) scr b s := by
 refine xSt (fun v h => ?_) (fun v h => xU3 h)
 obtain ⟨n,hn⟩ := xCf (p := fun m => (fix prog m).loop scr b s) h
 have h1 : (xDV prog (fix prog n)).loop scr b s = some v := hn (n + 1) (by omega)
 exact (xBB (xSs prog n) prog).loop scr b s v h1 |>.const
theorem xAm {f : Nat} {fn : AFunc} (hf : prog f = some fn) (caps args : List AV) (H : Heap) : (lim prog).icall (.func f caps) args H = xBa (lim prog) fn (args ++ caps) H := by
 rw [xMp]
 simp only [xEh,hf]
theorem xEJ (scr : List Nat) (b : ACode) (F : List AV) (H : Heap) : (lim prog).loop scr b ⟨F,H⟩ = (lim prog).loop scr b ⟨xAw scr F,H⟩ := by
 rw [xE2,xE2]
 unfold xIW
 simp only [xOo]
def xBe (R : Rec) (scr : List Nat) (b : ACode) : Option (AExit × St) → Option (AExit × St)
 | some (.normal,s) => R.loop scr b ⟨xAw scr s.F,s.H⟩
 | some (e,s) => some (e,⟨xAw scr s.F,s.H⟩)
 | none => none
theorem xAk (scr : List Nat) (b : ACode) (F : List AV) (H : Heap) (h : xAw scr F = F) : (lim prog).loop scr b ⟨F,H⟩ = xBe (lim prog) scr b (run (lim prog) b ⟨F,H⟩) := by
 rw [xE2]
 unfold xIW xBe
 simp only [h]
 split
 ·rename_i s' hs
  rw [hs]
  exact xEJ scr b s'.F s'.H
 ·rename_i e s' hne hs
  rw [hs]
  cases e with
  | normal => exact (hne rfl).elim
  | exit i => rfl
  | ret => rfl
 ·rename_i hs
  rw [hs]
theorem xK1 (scr : List Nat) (b : ACode) (F : List AV) (H : Heap) : run (lim prog) (.loop scr b) ⟨F,H⟩ = (lim prog).loop scr b ⟨xAw scr F,H⟩ := xEJ scr b F H
end
section
variable {R : Rec} {F : List AV} {H : Heap} {s : St}
def xVA (R : Rec) (b : ACode) : Option (AExit × St) → Option (AExit × St)
 | some (.normal,s) => run R b s
 | r => r
theorem xBw (a b : ACode) : run R (.seq a b) s = xVA R b (run R a s) := by
 simp only [run,xVA]
 split <;> simp_all
theorem xAD (b : ACode) (s : St) : xVA R b (some (.normal,s)) = run R b s := rfl
theorem xMq (b : ACode) (i : Nat) (s : St) : xVA R b (some (.exit i,s)) = some (.exit i,s) := rfl
theorem xPn (b : ACode) (s : St) : xVA R b (some (.ret,s)) = some (.ret,s) := rfl
theorem xPo (b : ACode) {c : Prop} [Decidable c] (x y : Option (AExit × St)) : xVA R b (if c then x else y) = if c then xVA R b x else xVA R b y := by split <;> rfl
def xX1 (R : Rec) (a b : ACode) (s : St) : AV → Option (AExit × St)
 | .bool t => if t = true then run R a s else run R b s
 | _ => none
theorem xPp (c : Arg) (a b : ACode) (F : List AV) (H : Heap) : run R (.cond c a b) ⟨F,H⟩ = xX1 R a b ⟨F,H⟩ (opv F c) := by
 simp only [run,xX1]
 split <;> simp_all
theorem xJn (a b : ACode) (t : Bool) : xX1 R a b s (.bool t) = if t = true then run R a s else run R b s := rfl
def xFy (id : Nat) : Option (AExit × St) → Option (AExit × St)
 | some (.exit i,s) => if i = id then some (.normal,s) else some (.exit i,s)
 | r => r
theorem xHU (id : Nat) (b : ACode) : run R (.block id b) s = xFy id (run R b s) := by
 simp only [run,xFy]
 split <;> simp_all
theorem xHV (id i : Nat) (s : St) : xFy id (some (.exit i,s)) = if i = id then some (.normal,s) else some (.exit i,s) := rfl
theorem xFz (id : Nat) (s : St) : xFy id (some (.normal,s)) = some (.normal,s) := rfl
theorem xJo (id : Nat) (s : St) : xFy id (some (.ret,s)) = some (.ret,s) := rfl
theorem xJp (id : Nat) {c : Prop} [Decidable c] (x y : Option (AExit × St)) : xFy id (if c then x else y) = if c then xFy id x else xFy id y := by split <;> rfl
theorem xBT (scr : List Nat) (b : ACode) (F : List AV) (H : Heap) : xBe R scr b (some (.normal,⟨F,H⟩)) = R.loop scr b ⟨xAw scr F,H⟩ := rfl
theorem xJq (scr : List Nat) (b : ACode) (i : Nat) (F : List AV) (H : Heap) : xBe R scr b (some (.exit i,⟨F,H⟩)) = some (.exit i,⟨xAw scr F,H⟩) := rfl
theorem xMr (scr : List Nat) (b : ACode) (F : List AV) (H : Heap) : xBe R scr b (some (.ret,⟨F,H⟩)) = some (.ret,⟨xAw scr F,H⟩) := rfl
theorem xMs (scr : List Nat) (b : ACode) {c : Prop} [Decidable c] (x y : Option (AExit × St)) : xBe R scr b (if c then x else y) = if c then xBe R scr b x else xBe R scr b y := by split <;> rfl
def xZB : Option St → Option (AExit × St)
 | some s => some (.normal,s)
 | none => none
theorem xMt (s : St) : xZB (some s) = some (.normal,s) := rfl
theorem xJr (ops : List AOper) : run R (.region ops) s = xZB (xAq R ops s) := by
 simp only [run,xZB]
 cases xAq R ops s <;> rfl
theorem xPq : run R .skip s = some (.normal,s) := rfl
theorem xPr (i : Nat) : run R (.exit i) s = some (.exit i,s) := rfl
theorem xSu : run R .ret s = some (.ret,s) := rfl
def yBt (R : Rec) (rest : List AOper) : Option St → Option St
 | some s => xAq R rest s
 | none => none
theorem xJs : xAq R [] s = some s := rfl
theorem xE3 (o : AOper) (rest : List AOper) : xAq R (o :: rest) s = yBt R rest (xAE R o s) := by
 simp only [xAq,yBt]
 cases xAE R o s <;> rfl
theorem xHW (rest : List AOper) (s : St) : yBt R rest (some s) = xAq R rest s := rfl
def xX2 (F : List AV) (d : Option Nat) : Option (AV × Heap) → Option St
 | some (v,H) => some ⟨xCp F d v,H⟩
 | none => none
theorem xSv (d : Nat) (v : AV) : xX2 F (some d) (some (v,H)) = some ⟨F.set d v,H⟩ := rfl
theorem xSw (v : AV) : xX2 F none (some (v,H)) = some ⟨F,H⟩ := rfl
theorem xMu (d : Option Nat) (op : AOp) : xAE R ⟨d,op,none⟩ ⟨F,H⟩ = xX2 F d (xAa R F H op) := by
 simp only [xAE,xBU,xX2]
 cases xAa R F H op <;> rfl
def xPs (R : Rec) (d : Option Nat) (op : AOp) (w : Bool) (F : List AV) (H : Heap) : AV → Option St
 | .bool b => if b = w then xX2 F d (xAa R F H op) else some ⟨xCp F d (.tup []),H⟩
 | .any => none
 | _ => some ⟨xCp F d (.tup []),H⟩
theorem xJt (d : Option Nat) (op : AOp) (t : Nat) (w : Bool) : xAE R ⟨d,op,some (t,w)⟩ ⟨F,H⟩ = xPs R d op w F H (F.getD t .any) := by
 simp only [xAE,xBU,xPs]
 cases F.getD t .any with
 | bool b =>
  cases b <;> cases w <;> simp [xX2] <;> cases xAa R F H op <;> rfl
 | _ => rfl
theorem xHX (d : Option Nat) (op : AOp) (w b : Bool) : xPs R d op w F H (.bool b) = if b = w then xX2 F d (xAa R F H op) else some ⟨xCp F d (.tup []),H⟩ := rfl
theorem xJu (d : Option Nat) (op : AOp) (w : Bool) (vs : List AV) : xPs R d op w F H (.tup vs) = some ⟨xCp F d (.tup []),H⟩ := rfl
theorem xSx (d : Nat) (v : AV) : xCp F (some d) v = F.set d v := rfl
def xX3 (R : Rec) (m : Nat) (ops : List AOper) : Option St → Option (AExit × St)
 | some s => xZB (xAq R (ops.drop m) (adopt (ops.take m) s))
 | none => none
theorem xPt (m : Nat) (ops : List AOper) : run R (.draw m ops) s = xX3 R m ops (xBr R (ops.take m) s) := by
 simp only [run,xX3]
 cases xBr R (ops.take m) s with
 | none => rfl
 | some s1 =>
  simp only [xZB]
  cases xAq R (ops.drop m) (adopt (ops.take m) s1) <;> rfl
theorem xJv (m : Nat) (ops : List AOper) (s : St) : xX3 R m ops (some s) = xZB (xAq R (ops.drop m) (adopt (ops.take m) s)) := rfl
def xGJ (ls : List (Nat × Nat × Nat × Nat)) : Option St → Option (AExit × St)
 | some s => if ls.all (apart s.F) = true then some (.normal,s) else none
 | none => none
def xSy (R : Rec) (ls : List (Nat × Nat × Nat × Nat)) (m : Nat) (ops : List AOper) : Option St → Option (AExit × St)
 | some s => xGJ ls (xAq R (ops.drop m) (adopt (ops.take m) s))
 | none => none
theorem xMv (ls : List (Nat × Nat × Nat × Nat)) (m : Nat) (ops : List AOper) : run R (.drawl ls m ops) s = xSy R ls m ops (xBr R (ops.take m) s) := by
 simp only [run,xSy]
 cases xBr R (ops.take m) s with
 | none => rfl
 | some s1 =>
  simp only [xGJ]
  cases xAq R (ops.drop m) (adopt (ops.take m) s1) <;> rfl
theorem xHY (ls : List (Nat × Nat × Nat × Nat)) (m : Nat) (ops : List AOper) (s : St) : xSy R ls m ops (some s) = xGJ ls (xAq R (ops.drop m) (adopt (ops.take m) s)) := rfl
theorem xHZ (ls : List (Nat × Nat × Nat × Nat)) (s : St) : xGJ ls (some s) = if ls.all (apart s.F) = true then some (.normal,s) else none := rfl
def xX4 (R : Rec) (rest : List AOper) : Option St → Option St
 | some s => xBr R rest s
 | none => none
theorem xH0 : xBr R [] s = some s := rfl
theorem xGK (o : AOper) (rest : List AOper) : xBr R (o :: rest) s = xX4 R rest (xAU R o s) := by
 simp only [xBr,xX4]
 cases xAU R o s <;> rfl
theorem xJw (rest : List AOper) (s : St) : xX4 R rest (some s) = xBr R rest s := rfl
def xRi (F : List AV) (d : Option Nat) (H : Heap) : Option (AV × Heap) → Option St
 | some (v,_) => some ⟨xCp F d v,H⟩
 | none => none
theorem xPu (d : Nat) (v : AV) (H' : Heap) : xRi F (some d) H (some (v,H')) = some ⟨F.set d v,H⟩ := rfl
def xBo (R : Rec) (F : List AV) (H : Heap) (op : AOp) : Option (AV × Heap) := (xAy R F H op).map fun v => (v,H)
theorem xJx (d : Option Nat) (op : AOp) : xAU R ⟨d,op,none⟩ ⟨F,H⟩ = xRi F d H (xBo R F H op) := by
 simp only [xAU,xBU,xRi,xBo]
 cases xAy R F H op <;> rfl
def xK2 (R : Rec) (d : Option Nat) (op : AOp) (w : Bool) (F : List AV) (H : Heap) : AV → Option St
 | .bool b => if b = w then xRi F d H (xBo R F H op) else some ⟨xCp F d (.tup []),H⟩
 | .any => none
 | _ => some ⟨xCp F d (.tup []),H⟩
theorem xH1 (d : Option Nat) (op : AOp) (t : Nat) (w : Bool) : xAU R ⟨d,op,some (t,w)⟩ ⟨F,H⟩ = xK2 R d op w F H (F.getD t .any) := by
 simp only [xAU,xBU,xK2]
 cases F.getD t .any with
 | bool b =>
  cases b <;> cases w <;> simp [xRi,xBo] <;> cases xAy R F H op <;> rfl
 | _ => rfl
theorem xGL (d : Option Nat) (op : AOp) (w b : Bool) : xK2 R d op w F H (.bool b) = if b = w then xRi F d H (xBo R F H op) else some ⟨xCp F d (.tup []),H⟩ := rfl
theorem xH2 (d : Option Nat) (op : AOp) (w : Bool) (vs : List AV) : xK2 R d op w F H (.tup vs) = some ⟨xCp F d (.tup []),H⟩ := rfl
def xDl (H : Heap) : Option AV → Option (AV × Heap)
 | some v => some (v,H)
 | none => none
theorem xMw (v : AV) : xDl H (some v) = some (v,H) := rfl
theorem xWF (x : Arg) : xAa R F H (.mov x) = some (opv F x,H) := rfl
def xX5 : AV → AV → AV → Option AV
 | .bool t,a,b => some (if t = true then a else b)
 | _,_,_ => none
theorem xJy (t : Bool) (a b : AV) : xX5 (.bool t) a b = some (if t = true then a else b) := rfl
theorem xSz (c a b : Arg) : xAa R F H (.pick c a b) = xDl H (xX5 (opv F c) (opv F a) (opv F b)) := by
 simp only [xAa,xX5,xDl]
 split <;> simp_all
theorem xWG (x : Arg) : xAa R F H (.box x) = if (opv F x).cells.all AV.isCell = true then some (.ptr H.length 0,H ++ [.cells false false (opv F x).cells]) else none := rfl
theorem xPv (z : List AV) (parts : List (Nat × Nat × Arg)) : xAa R F H (.build z parts) =
  if parts.all (fun p => (opv F p.2.2).cells.length == p.2.1) = true then xDl H ((fillA z (parts.map fun p => (p.1,(opv F p.2.2).cells))).map AV.agg) else none := by
 simp only [xAa,xDl]
 split
 ·cases fillA z (parts.map fun p => (p.1,(opv F p.2.2).cells)) <;> rfl
 ·rfl
def yBu (fz z : Bool) (n es : Nat) (H : Heap) : Option (List AV) → Option (AV × Heap)
 | some cs => xE7 fz z n es cs H
 | none => none
theorem xMx (fz z : Bool) (n es : Nat) (cs : List AV) : yBu fz z n es H (some cs) = xE7 fz z n es cs H := rfl
theorem xPw (z : Bool) (n es : Nat) (cs : List AV) : xE7 false z n es cs H = some (.own z H.length 0 n es,H ++ [.cells false z cs]) := rfl
def slK (z : Bool) (n : Nat) : Option (List AV) → Option AV
 | some cs => some (.sl z n cs)
 | none => none
theorem xPx (z : Bool) (n : Nat) (cs : List AV) : slK z n (some cs) = some (.sl z n cs) := rfl
theorem xMy (z : Bool) (n es : Nat) (cs : List AV) : xE7 true z n es cs H = if (cs.flatMap (bor frzN H)).isEmpty = true then xDl H (slK z n (cs.mapM (frz frzN H))) else none := by
 simp only [xE7,xDl,slK]
 split
 ·rename_i h
  cases cs.mapM (frz frzN H) <;> simp_all
 ·simp_all
theorem xMz (fz : Bool) (z : List AV) (es n : Nat) (parts : List (Nat × Arg)) : xAa R F H (.bslice fz z es n parts) =
  if parts.all (fun p => (opv F p.2).cells.length == es) = true then yBu fz false n es H (fillA (xDP z n) (parts.map fun p => (p.1 * es,(opv F p.2).cells))) else none := by
 simp only [xAa,yBu]
 split
 ·cases fillA (xDP z n) (parts.map fun p => (p.1 * es,(opv F p.2).cells)) <;> rfl
 ·rfl
def xVB (g : Bool) : Option (List AV) → Option AV
 | some cs => mkv g cs
 | none => none
theorem xSA (v : AV) : xVB false (some [v]) = some v := rfl
theorem xSB (cs : List AV) : xVB true (some cs) = some (.agg cs) := rfl
theorem xSC (g : Bool) (n : Nat) (p : Arg) : xAa R F H (.load g n p) = xDl H (xVB g (rd H (opv F p) n)) := by
 simp only [xAa,xDl,xVB]
 cases rd H (opv F p) n with
 | none => rfl
 | some cs => simp only; cases mkv g cs <;> rfl
def rdK (off n : Nat) : Option Blk → Option (List AV)
 | some (.cells _ _ cs) => if off + n ≤ cs.length then some ((cs.drop off).take n) else none
 | _ => none
theorem xWH (id off n : Nat) : rd H (.ptr id off) n = rdK off n H[id]? := by
 simp only [rd,rdK]
 rfl
theorem xMA {off n : Nat} {fz z : Bool} {cs : List AV} (h : off + n ≤ cs.length) : rdK off n (some (.cells fz z cs)) = some ((cs.drop off).take n) := if_pos h
theorem xSD {off n : Nat} {cs : List AV} (h : off + n ≤ cs.length) : rd H (.vptr cs off) n = some ((cs.drop off).take n) := if_pos h
def wrK (H : Heap) (id off : Nat) (vs : List AV) : Option Blk → Option Heap
 | some (.cells false z cs) => if off + vs.length ≤ cs.length ∧ vs.all AV.isCell = true then some (H.set id (.cells false z (splice cs off vs))) else none
 | _ => none
theorem xWI (id off : Nat) (vs : List AV) : wr H (.ptr id off) vs = wrK H id off vs H[id]? := by
 simp only [wr,wrK]
 rfl
theorem xH3 {id off : Nat} {vs : List AV} {z : Bool} {cs : List AV} (h : off + vs.length ≤ cs.length) (h2 : vs.all AV.isCell = true) : wrK H id off vs (some (.cells false z cs)) = some (H.set id (.cells false z (splice cs off vs))) := if_pos ⟨h,h2⟩
def xSE : Option Heap → Option (AV × Heap)
 | some H => some (.tup [],H)
 | none => none
theorem xH4 (H : Heap) : xSE (some H) = some (.tup [],H) := rfl
theorem xPy (n : Nat) (p v : Arg) : xAa R F H (.store n p v) = if (opv F v).cells.length = n then xSE (wr H (opv F p) (opv F v).cells) else none := by
 simp only [xAa,xSE]
 split
 ·cases wr H (opv F p) (opv F v).cells <;> rfl
 ·rfl
def yBv : AV → Option AV
 | .ptr id off => some (.ptr id off)
 | .vptr cs off => some (.vptr cs off)
 | .func f caps => some (.func f caps)
 | .yield l => some (.yield l)
 | _ => none
theorem xPz (id off : Nat) : yBv (.ptr id off) = some (.ptr id off) := rfl
theorem xMB (cs : List AV) (off : Nat) : yBv (.vptr cs off) = some (.vptr cs off) := rfl
theorem xMC (x : Arg) : xAa R F H (.nilchk x) = xDl H (yBv (opv F x)) := by
 simp only [xAa]
 cases opv F x <;> rfl
theorem xWJ (op : BinOp) (x y : Arg) : xAa R F H (.bin op x y) = xDl H (xEy op (opv F x) (opv F y)) := by
 simp only [xAa,xDl]
 cases xEy op (opv F x) (opv F y) <;> rfl
section
variable (k : IntKind) (a b : Int)
theorem xSF : xEy .add (.int k a) (.int k b) = some (.int k (k.wrap (a + b))) := by simp [xEy]
theorem xSG : xEy .sub (.int k a) (.int k b) = some (.int k (k.wrap (a - b))) := by simp [xEy]
theorem xSH : xEy .mul (.int k a) (.int k b) = some (.int k (k.wrap (a * b))) := by simp [xEy]
theorem xSI (h : b ≠ 0) : xEy .quo (.int k a) (.int k b) = some (.int k (k.wrap (a.tdiv b))) := by simp [xEy,h]
theorem xSJ (h : b ≠ 0) : xEy .rem (.int k a) (.int k b) = some (.int k (a.tmod b)) := by simp [xEy,h]
theorem xSK : xEy .and (.int k a) (.int k b) = some (.int k (xDD .and k a b)) := by simp [xEy]
theorem xWK : xEy .or (.int k a) (.int k b) = some (.int k (xDD .or k a b)) := by simp [xEy]
theorem xSL (k' : IntKind) (h : 0 ≤ b) : xEy .shl (.int k a) (.int k' b) = some (.int k (k.wrap (a * 2 ^ (min b.toNat k.bits)))) := by simp only [xEy]; rw [if_neg (by omega)]
theorem xSM (k' : IntKind) (h : 0 ≤ b) : xEy .shr (.int k a) (.int k' b) = some (.int k (a.fdiv (2 ^ (min b.toNat k.bits)))) := by simp only [xEy]; rw [if_neg (by omega)]
theorem xSN : xEy .eql (.int k a) (.int k b) = some (.bool (decide (a = b))) := by simp [xEy]; rfl
theorem xSO : xEy .neq (.int k a) (.int k b) = some (.bool (!decide (a = b))) := by simp [xEy]; rfl
theorem xSP : xEy .lss (.int k a) (.int k b) = some (.bool (decide (a < b))) := by simp [xEy]
theorem xSQ : xEy .leq (.int k a) (.int k b) = some (.bool (decide (a ≤ b))) := by simp [xEy]
theorem xSR : xEy .gtr (.int k a) (.int k b) = some (.bool (decide (b < a))) := by simp [xEy]
theorem xSS : xEy .geq (.int k a) (.int k b) = some (.bool (decide (b ≤ a))) := by simp [xEy]
end
def yBw (neg : Bool) : AV → AV → Option AV
 | .bool a,.bool b => some (.bool (if neg = true then a != b else a == b))
 | _,_ => none
theorem xWL (a b : Bool) : yBw false (.bool a) (.bool b) = some (.bool (decide (a = b))) := by cases a <;> cases b <;> rfl
theorem xWM (a b : Bool) : yBw true (.bool a) (.bool b) = some (.bool (!decide (a = b))) := by cases a <;> cases b <;> rfl
theorem xWN (neg : Bool) (x y : Arg) : xAa R F H (.beq neg x y) = xDl H (yBw neg (opv F x) (opv F y)) := by
 simp only [xAa]
 cases opv F x <;> cases opv F y <;> rfl
def xST (neg : Bool) : AV → Option AV
 | .sl z _ _ => some (.bool (z != neg))
 | .own z _ _ _ _ => some (.bool (z != neg))
 | _ => none
theorem xJz (z : Bool) (n : Nat) (cs : List AV) : xST false (.sl z n cs) = some (.bool z) := by cases z <;> rfl
theorem xH5 (z : Bool) (id off n es : Nat) : xST false (.own z id off n es) = some (.bool z) := by cases z <;> rfl
theorem xPA (neg : Bool) (x : Arg) : xAa R F H (.isnil neg x) = xDl H (xST neg (opv F x)) := by
 simp only [xAa]
 cases opv F x <;> rfl
theorem xZV (op : UnOp) (x : Arg) : xAa R F H (.un op x) = xDl H (unA op (opv F x)) := by
 simp only [xAa,xDl]
 cases unA op (opv F x) <;> rfl
theorem xWO (b : Bool) : unA .not (.bool b) = some (.bool !b) := rfl
theorem xWP (k : IntKind) (n : Int) : unA .xor (.int k n) = some (.int k (xDD .xor k (if k.signed then -1 else k.max) n)) := rfl
def xZW (k : IntKind) : AV → Option AV
 | .int _ n => some (.int k (k.wrap n))
 | _ => none
theorem xMD (k k' : IntKind) (n : Int) : xZW k (.int k' n) = some (.int k (k.wrap n)) := rfl
theorem xSU (k : IntKind) (x : Arg) : xAa R F H (.conv k x) = xDl H (xZW k (opv F x)) := by
 simp only [xAa]
 cases opv F x <;> rfl
theorem xME (f : Nat) (caps : List Arg) : xAa R F H (.mkfunc f caps) = some (.func f (caps.map (opv F)),H) := rfl
def yCW (fz : Bool) (z : List AV) (bytes : Nat) (H : Heap) : AV → AV → Option (AV × Heap)
 | .int _ l,.int _ c => if 0 ≤ l ∧ l ≤ c ∧ c * bytes ≤ xBj ∧ c ≤ xBj ∧ z.all AV.isCell = true then xE7 fz false l.toNat z.length (xDP z l.toNat) H else none
 | _,_ => none
theorem xPB (fz : Bool) (z : List AV) (bytes : Nat) (k k' : IntKind) {l c : Int} (h1 : 0 ≤ l) (h2 : l ≤ c) (h3 : c * bytes ≤ 140737488355328) (h4 : c ≤ 140737488355328) (h5 : z.all AV.isCell = true) : yCW fz z bytes H (.int k l) (.int k' c) = xE7 fz false l.toNat z.length (xDP z l.toNat) H := if_pos ⟨h1,h2,h3,h4,h5⟩
theorem xJA (fz : Bool) (z : List AV) (bytes : Nat) (l c : Arg) : xAa R F H (.mkslice fz z bytes l c) = yCW fz z bytes H (opv F l) (opv F c) := by
 simp only [xAa]
 cases opv F l <;> cases opv F c <;> rfl
def xX6 (es : Nat) (H : Heap) (x : AV) : Option (Nat × Nat) → Option AV
 | none => none
 | some (l,h) => match x with
  | .sl z _ cs => some (.sl z (h - l) ((cs.drop (l * es)).take ((h - l) * es)))
  | .own z id off _ _ => some (.own z id (off + l * es) (h - l) es)
  | _ => none
def xPC (es : Nat) (H : Heap) (lo hi mx : Option AV) : AV → Option AV
 | .sl z n cs => if cs.length = n * es then xX6 es H (.sl z n cs) (xBt n lo hi mx) else none
 | .own z id off n es' => if es' = es then xX6 es H (.own z id off n es') (xBt n lo hi mx) else none
 | _ => none
theorem xPD (es : Nat) (x : Arg) (lo hi mx : Option Arg) : xAa R F H (.slice es x lo hi mx) = xDl H (xPC es H (lo.map (opv F)) (hi.map (opv F)) (mx.map (opv F)) (opv F x)) := by
 simp only [xAa,xDl,xPC,xX6]
 cases opv F x with
 | sl z n cs =>
  simp only
  split
  ·cases xBt n (lo.map (opv F)) (hi.map (opv F)) (mx.map (opv F)) <;> rfl
  ·rfl
 | own z id off n es' =>
  simp only
  split
  ·cases xBt n (lo.map (opv F)) (hi.map (opv F)) (mx.map (opv F)) <;> rfl
  ·rfl
 | _ => rfl
theorem xMF {es n : Nat} {z : Bool} {cs : List AV} (lo hi mx : Option AV) (h : cs.length = n * es) : xPC es H lo hi mx (.sl z n cs) = xX6 es H (.sl z n cs) (xBt n lo hi mx) := if_pos h
theorem xJB {es n id off : Nat} {z : Bool} (lo hi mx : Option AV) : xPC es H lo hi mx (.own z id off n es) = xX6 es H (.own z id off n es) (xBt n lo hi mx) := if_pos rfl
theorem xSV (es : Nat) (z : Bool) (n : Nat) (cs : List AV) (l h : Nat) : xX6 es H (.sl z n cs) (some (l,h)) = some (.sl z (h - l) ((cs.drop (l * es)).take ((h - l) * es))) := rfl
theorem xPE (es : Nat) (z : Bool) (id off n es' : Nat) (l h : Nat) : xX6 es H (.own z id off n es') (some (l,h)) = some (.own z id (off + l * es) (h - l) es) := rfl
theorem xMG {n : Nat} {k : IntKind} {l : Int} (h0 : 0 ≤ l) (h : l ≤ n) : xBt n (some (.int k l)) none none = some (l.toNat,n) := by
 simp only [xBt,xBn,if_pos h0]
 rw [if_pos ⟨by omega,by omega⟩]
theorem xH6 {n : Nat} {k : IntKind} {m : Int} (h0 : 0 ≤ m) (h : m ≤ n) : xBt n none (some (.int k m)) none = some (0,m.toNat) := by
 simp only [xBt,xBn,if_pos h0]
 rw [if_pos ⟨by omega,by omega⟩]
def xSW (o : Nat) : AV → Option AV
 | .ptr id off => some (.ptr id (off + o))
 | .vptr cs off => some (.vptr cs (off + o))
 | _ => none
theorem xJC (o id off : Nat) : xSW o (.ptr id off) = some (.ptr id (off + o)) := rfl
theorem xH7 (o : Nat) (cs : List AV) (off : Nat) : xSW o (.vptr cs off) = some (.vptr cs (off + o)) := rfl
theorem xPF (o : Nat) (x : Arg) : xAa R F H (.faddr o x) = xDl H (xSW o (opv F x)) := by
 simp only [xAa]
 cases opv F x <;> rfl
def xSX (g : Bool) (off n : Nat) : AV → Option AV
 | .agg cs => if off + n ≤ cs.length then mkv g ((cs.drop off).take n) else none
 | _ => none
theorem xJD {g : Bool} {off n : Nat} {cs : List AV} (h : off + n ≤ cs.length) : xSX g off n (.agg cs) = mkv g ((cs.drop off).take n) := if_pos h
theorem xZX (v : AV) : mkv false [v] = some v := rfl
theorem xZY (cs : List AV) : mkv true cs = some (.agg cs) := rfl
theorem xPG (g : Bool) (off n : Nat) (x : Arg) : xAa R F H (.field g off n x) = xDl H (xSX g off n (opv F x)) := by
 simp only [xAa]
 cases opv F x with
 | agg cs =>
  simp only [xSX,xDl]
  split
  ·cases mkv g ((cs.drop off).take n) <;> rfl
  ·rfl
 | _ => rfl
def xJE (es : Nat) : AV → AV → Option AV
 | .sl _ n cs,.int _ i => if 0 ≤ i ∧ i.toNat < n then some (.vptr cs (i.toNat * es)) else none
 | .own _ id off n es',.int _ i => if 0 ≤ i ∧ i.toNat < n ∧ es' = es then some (.ptr id (off + i.toNat * es)) else none
 | _,_ => none
theorem xMH {es n : Nat} {z : Bool} {cs : List AV} {k : IntKind} {i : Int} (h0 : 0 ≤ i) (h : i < n) : xJE es (.sl z n cs) (.int k i) = some (.vptr cs (i.toNat * es)) := if_pos ⟨h0,by omega⟩
theorem xJF {es n id off : Nat} {z : Bool} {k : IntKind} {i : Int} (h0 : 0 ≤ i) (h : i < n) : xJE es (.own z id off n es) (.int k i) = some (.ptr id (off + i.toNat * es)) := if_pos ⟨h0,by omega,rfl⟩
theorem xPH (es : Nat) (x i : Arg) : xAa R F H (.iaddr es x i) = xDl H (xJE es (opv F x) (opv F i)) := by
 simp only [xAa]
 cases opv F x with
 | sl z n cs =>
  cases opv F i with
  | int k j =>
   simp only [xBn,xJE,xDl]
   by_cases h : 0 ≤ j
   ·by_cases h2 : j.toNat < n <;> simp [h,h2]
   ·simp [h]
  | _ => rfl
 | own z id off n es' =>
  cases opv F i with
  | int k j =>
   simp only [xBn,xJE,xDl]
   by_cases h : 0 ≤ j
   ·by_cases h2 : j.toNat < n
    ·by_cases h3 : es' = es <;> simp [h,h2,h3]
    ·simp [h,h2]
   ·simp [h]
  | _ => rfl
 | _ => cases opv F i <;> simp [xJE,xDl,xBn] <;> split <;> simp_all
def yBx (i : Nat) : AV → Option AV
 | .tup vs => vs[i]?
 | _ => none
theorem xPI (i : Nat) (vs : List AV) : yBx i (.tup vs) = vs[i]? := rfl
theorem xWQ (i : Nat) (x : Arg) : xAa R F H (.ext i x) = xDl H (yBx i (opv F x)) := by
 simp only [xAa]
 cases opv F x with
 | tup vs => simp only [yBx,xDl]; cases vs[i]? <;> rfl
 | _ => rfl
def yBy : AV → Option AV
 | .sl _ n _ => some (.int .i64 n)
 | .own _ _ _ n _ => some (.int .i64 n)
 | _ => none
theorem xSY (z : Bool) (n : Nat) (cs : List AV) : yBy (.sl z n cs) = some (.int .i64 n) := rfl
theorem xPJ (z : Bool) (id off n es : Nat) : yBy (.own z id off n es) = some (.int .i64 n) := rfl
theorem xWR (x : Arg) : xAa R F H (.len x) = xDl H (yBy (opv F x)) := by
 simp only [xAa]
 cases opv F x <;> rfl
def xZZ (fz : Bool) (es bytes : Nat) (H : Heap) (x : AV) : Option (Nat × List AV) → Option (AV × Heap)
 | none => none
 | some (m,ys) => match x with
  | .sl true _ _ => if m * bytes ≤ xBj ∧ m ≤ xBj then xE7 fz (m == 0) m es ys H else none
  | .own z id off n es' => match H[id]? with
   | some (.cells false _ cs) => if off = 0 ∧ es' = es ∧ n * es ≤ cs.length ∧ (n + m) * bytes ≤ xBj ∧ n + m ≤ xBj then
     some (.own (z && m == 0) H.length 0 (n + m) es,H.set id .dead ++ [.cells false (z && m == 0) (cs.take (n * es) ++ ys)]) else none
   | _ => none
  | _ => none
theorem xMI (fz : Bool) (es bytes : Nat) (x y : Arg) : xAa R F H (.append fz es bytes x y) = xZZ fz es bytes H (opv F x) (src H es (opv F y)) := by
 simp only [xAa,xZZ]
 cases src H es (opv F y) <;> rfl
theorem xPK {fz : Bool} {es bytes n m : Nat} {cs ys : List AV} (h : m * bytes ≤ 140737488355328) (h2 : m ≤ 140737488355328) : xZZ fz es bytes H (.sl true n cs) (some (m,ys)) = xE7 fz (m == 0) m es ys H := if_pos ⟨h,h2⟩
def xX7 (es bytes n m : Nat) (H : Heap) (z : Bool) (id : Nat) (ys : List AV) : Option Blk → Option (AV × Heap)
 | some (.cells false _ cs) => if n * es ≤ cs.length ∧ (n + m) * bytes ≤ xBj ∧ n + m ≤ xBj then
   some (.own (z && m == 0) H.length 0 (n + m) es,H.set id .dead ++ [.cells false (z && m == 0) (cs.take (n * es) ++ ys)]) else none
 | _ => none
theorem xPL (fz : Bool) (es bytes n m id : Nat) (z : Bool) (ys : List AV) : xZZ fz es bytes H (.own z id 0 n es) (some (m,ys)) = xX7 es bytes n m H z id ys H[id]? := by
 simp only [xZZ,xX7]
 split
 ·rename_i z' cs hb
  by_cases h : n * es ≤ cs.length ∧ (n + m) * bytes ≤ xBj ∧ n + m ≤ xBj
  ·rw [if_pos h,if_pos ⟨trivial,trivial,h⟩]
  ·rw [if_neg h,if_neg (fun g => h g.2.2)]
 ·rename_i hne
  cases hb : H[id]? with
  | none => rfl
  | some b => cases b with
   | cells fz z cs => cases fz with
    | false => exact (hne _ _ hb).elim
    | true => rfl
   | _ => rfl
theorem xH8 {es bytes n m id : Nat} {z z' : Bool} {ys cs : List AV} (h : n * es ≤ cs.length) (h2 : (n + m) * bytes ≤ 140737488355328) (h3 : n + m ≤ 140737488355328) : xX7 es bytes n m H z id ys (some (.cells false z' cs)) =
  some (.own (z && m == 0) H.length 0 (n + m) es,H.set id .dead ++ [.cells false (z && m == 0) (cs.take (n * es) ++ ys)]) := if_pos ⟨h,h2,h3⟩
theorem xWS {es n : Nat} {z : Bool} {cs : List AV} (h : cs.length = n * es) : src H es (.sl z n cs) = some (n,cs) := if_pos h
def yBz (off n es : Nat) : Option Blk → Option (Nat × List AV)
 | some (.cells _ _ cs) => if off + n * es ≤ cs.length then some (n,(cs.drop off).take (n * es)) else none
 | _ => none
theorem xSZ (es n id off : Nat) (z : Bool) : src H es (.own z id off n es) = yBz off n es H[id]? := by
 simp only [src,yBz]
 cases H[id]? with
 | none => rfl
 | some b => cases b <;> simp
theorem xJG {es n off : Nat} {fz z : Bool} {cs : List AV} (h : off + n * es ≤ cs.length) : yBz off n es (some (.cells fz z cs)) = some (n,(cs.drop off).take (n * es)) := if_pos h
def xS0 (z : List AV) (bytes id off k es m : Nat) (H : Heap) : Option Blk → Option (AV × Heap)
 | some (.cells false _ cs) => if off = 0 ∧ es = z.length ∧ k * z.length ≤ cs.length ∧ (k + m) * bytes ≤ xBj ∧ k + m ≤ xBj ∧ 0 < m ∧ z.all AV.isCell = true then
   some (.own false H.length 0 (k + m) z.length,H.set id .dead ++ [.cells false false (cs.take (k * z.length) ++ xDP z m)]) else none
 | _ => none
def xG3 (z : List AV) (bytes : Nat) (H : Heap) : AV → AV → Option (AV × Heap)
 | .sl true _ _,.int _ m => if 0 ≤ m ∧ m.toNat * bytes ≤ xBj ∧ m.toNat ≤ xBj ∧ z.all AV.isCell = true then xE7 false (m.toNat == 0) m.toNat z.length (xDP z m.toNat) H else none
 | .own false id off k es,.int _ m => if 0 ≤ m then xS0 z bytes id off k es m.toNat H H[id]? else none
 | _,_ => none
theorem xOp (z : List AV) (bytes id off k es m : Nat) (H : Heap) (b : Option Blk) : (match b with
   | some (.cells false _ cs) => if off = 0 ∧ es = z.length ∧ k * z.length ≤ cs.length ∧ (k + m) * bytes ≤ xBj ∧ k + m ≤ xBj ∧ 0 < m ∧ z.all AV.isCell = true then
     some (AV.own false H.length 0 (k + m) z.length,H.set id .dead ++ [.cells false false (cs.take (k * z.length) ++ xDP z m)]) else none
   | _ => none) = xS0 z bytes id off k es m H b := by
 rcases b with _ | b
 ·rfl
 ·cases b with
  | cells fz zz cs => cases fz <;> rfl
  | _ => rfl
theorem xJH (z : List AV) (bytes : Nat) (x n : Arg) : xAa R F H (.appendz z bytes x n) = xG3 z bytes H (opv F x) (opv F n) := by
 simp only [xAa]
 cases hn : opv F n with
 | int k m =>
  simp only [xBn]
  by_cases h : 0 ≤ m
  ·cases hx : opv F x with
   | sl zz nn cs => cases zz <;> simp [xG3,h]
   | own zz id off kk es =>
    cases zz with
    | true => simp [xG3,h]
    | false => simp only [h,if_true,xG3]; exact xOp _ _ _ _ _ _ _ _ _
   | _ => simp [xG3,h]
  ·cases hx : opv F x with
   | sl zz nn cs => cases zz <;> simp [xG3,h]
   | own zz id off kk es => cases zz <;> simp [xG3,h]
   | _ => simp [xG3,h]
 | _ =>
  cases hx : opv F x with
  | sl zz nn cs => cases zz <;> simp [xG3,xBn]
  | own zz id off kk es => cases zz <;> simp [xG3,xBn]
  | _ => simp [xG3,xBn]
theorem xS1 {z : List AV} {bytes id off k es : Nat} {kk : IntKind} {m : Int} (h0 : 0 ≤ m) : xG3 z bytes H (.own false id off k es) (.int kk m) = xS0 z bytes id off k es m.toNat H H[id]? := if_pos h0
theorem xOq {z : List AV} {bytes id k m : Nat} {zz : Bool} {cs : List AV} (h1 : k * z.length ≤ cs.length) (h2 : (k + m) * bytes ≤ 140737488355328) (h3 : k + m ≤ 140737488355328) (h4 : 0 < m) (h5 : z.all AV.isCell = true) :
  xS0 z bytes id 0 k z.length m H (some (.cells false zz cs)) = some (.own false H.length 0 (k + m) z.length,H.set id .dead ++ [.cells false false (cs.take (k * z.length) ++ xDP z m)]) := if_pos ⟨rfl,rfl,h1,h2,h3,h4,h5⟩
def yBA : AV → AV → Option AV
 | .int k a,.int _ b => some (.int k (min a b))
 | _,_ => none
theorem xPM (k k' : IntKind) (a b : Int) : yBA (.int k a) (.int k' b) = some (.int k (min a b)) := rfl
theorem xS2 (x y : Arg) : xAa R F H (.mini x y) = xDl H (yBA (opv F x) (opv F y)) := by
 simp only [xAa]
 cases opv F x with
 | int k a => cases opv F y with
  | int k' b => simp only [yBA,xDl]; congr 3; split <;> omega
  | _ => rfl
 | _ => rfl
theorem xWT (z : List AV) : xDP z 0 = [] := rfl
theorem xWU (z : List AV) : xDP z 1 = z ++ ([]) := rfl
theorem xWV (z : List AV) : xDP z 2 = z ++ (z ++ ([])) := rfl
theorem xWW (z : List AV) : xDP z 3 = z ++ (z ++ (z ++ ([]))) := rfl
theorem xWX (z : List AV) : xDP z 4 = z ++ (z ++ (z ++ (z ++ ([])))) := rfl
theorem xWY (z : List AV) : xDP z 5 = z ++ (z ++ (z ++ (z ++ (z ++ ([]))))) := rfl
theorem xDI (d : Nat) (k : IntKind) (n : Int) : frz d H (.int k n) = some (.int k n) := by cases d <;> rfl
theorem xHd (d : Nat) (b : Bool) : frz d H (.bool b) = some (.bool b) := by cases d <;> rfl
theorem xS3 (d : Nat) (b : ByteArray) : frz d H (.str b) = some (.str b) := by cases d <;> rfl
theorem xFA (d : Nat) (z : Bool) (n : Nat) (cs : List AV) : frz d H (.sl z n cs) = some (.sl z n cs) := by cases d <;> rfl
theorem xS4 (d : Nat) (cs : List AV) : frz (d + 1) H (.agg cs) = (cs.mapM (frz d H)).map AV.agg := rfl
theorem xS5 (d : Nat) (cs : List AV) : frz (d + 1) H (.tup cs) = (cs.mapM (frz d H)).map AV.tup := rfl
def yBB (d : Nat) (H : Heap) (z : Bool) (off n es : Nat) : Option Blk → Option AV
 | some (.cells _ _ cs) => if off + n * es ≤ cs.length then slK z n (((cs.drop off).take (n * es)).mapM (frz d H)) else none
 | _ => none
theorem xBl (d : Nat) (z : Bool) (id off n es : Nat) : frz (d + 1) H (.own z id off n es) = yBB d H z off n es H[id]? := by
 simp only [frz,yBB]
 cases H[id]? with
 | none => rfl
 | some b => cases b with
  | cells fz z' cs =>
   simp only
   split
   ·cases ((cs.drop off).take (n * es)).mapM (frz d H) <;> rfl
   ·rfl
  | _ => rfl
theorem xDm {d off n es : Nat} {z fz z' : Bool} {cs : List AV} (h : off + n * es ≤ cs.length) : yBB d H z off n es (some (.cells fz z' cs)) = slK z n (((cs.drop off).take (n * es)).mapM (frz d H)) := if_pos h
theorem xOr (d : Nat) (k : IntKind) (n : Int) : bor d H (.int k n) = [] := by cases d <;> rfl
theorem xPN (d : Nat) (b : Bool) : bor d H (.bool b) = [] := by cases d <;> rfl
theorem xS6 (d : Nat) (b : ByteArray) : bor d H (.str b) = [] := by cases d <;> rfl
def yBC (d : Nat) (H : Heap) (off : Nat) : Option Blk → Option AV
 | some (.cells _ _ cs) => (cs.mapM (frz d H)).map fun cs' => .vptr cs' off
 | _ => none
theorem xS7 (d i o : Nat) : frz (d + 1) H (.ptr i o) = yBC d H o H[i]? := by
 simp only [frz,yBC]
 cases H[i]? with
 | none => rfl
 | some b => cases b <;> rfl
theorem xJI (d : Nat) (o : Nat) (fz z : Bool) (cs : List AV) : yBC d H o (some (.cells fz z cs)) = (cs.mapM (frz d H)).map fun cs' => .vptr cs' o := rfl
def xX8 (d : Nat) (H : Heap) : Option Blk → List Nat
 | some (.cells _ _ cs) => cs.flatMap (bor d H)
 | _ => []
theorem xS8 (d i o : Nat) : bor (d + 1) H (.ptr i o) = i :: xX8 d H H[i]? := by
 simp only [bor,xX8]
 cases H[i]? with
 | none => rfl
 | some b => cases b <;> rfl
theorem xH9 (d : Nat) (fz z : Bool) (cs : List AV) : xX8 d H (some (.cells fz z cs)) = cs.flatMap (bor d H) := rfl
def xZ0 : Option Blk → Bool
 | some (.cells true _ _) => true
 | _ => false
theorem xJJ (i : Nat) : xF4 H i = xZ0 H[i]? := by
 simp only [xF4,xZ0]
 cases H[i]? with
 | none => rfl
 | some b => cases b with
  | cells fz z cs => cases fz <;> rfl
  | _ => rfl
theorem xWZ (d : Nat) (z : Bool) (n : Nat) (cs : List AV) : bor d H (.sl z n cs) = [] := by cases d <;> rfl
theorem xS9 (d : Nat) (cs : List AV) : bor (d + 1) H (.agg cs) = cs.flatMap (bor d H) := rfl
def yDm (d : Nat) (H : Heap) (off n es : Nat) : Option Blk → List Nat
 | some (.cells _ _ cs) => ((cs.drop off).take (n * es)).flatMap (bor d H)
 | _ => []
theorem xJK (d off n es : Nat) (fz z : Bool) (cs : List AV) : yDm d H off n es (some (.cells fz z cs)) = ((cs.drop off).take (n * es)).flatMap (bor d H) := rfl
def yBc (args : List AV) (H : Heap) : Option AV → Option (AV × Heap)
 | some r => some (r,if xAO r = true then H else fzIds H (args.flatMap (bor frzN H)))
 | none => none
theorem xMJ (args : List AV) (r : AV) : yBc args H (some r) = some (r,if xAO r = true then H else fzIds H (args.flatMap (bor frzN H))) := rfl
def yBD (R : Rec) (f : Nat) (args : List AV) (H : Heap) : Option (List AV) → Option (AV × Heap)
 | some args' => yBc args H (R.pcall f args')
 | none => none
theorem xMK (f : Nat) (args args' : List AV) : yBD R f args H (some args') = yBc args H (R.pcall f args') := rfl
theorem xML (f : Nat) (args : List AV) : xBS R f args H = yBD R f args H (args.mapM (frz frzN H)) := by
 simp only [xBS,yBD]
 cases args.mapM (frz frzN H) with
 | none => rfl
 | some args' => simp only [yBc]; cases R.pcall f args' <;> rfl
theorem xTa (f : Nat) (args : List Arg) : xAa R F H (.call f args) = xBS R f (args.map (opv F)) H := rfl
theorem xPO (f : Arg) (args : List Arg) : xAa R F H (.icall f args) = R.icall (opv F f) (args.map (opv F)) H := rfl
def xJL (args : List AV) (H : Heap) : Option (AV × Heap) → Option (AV × Heap)
 | some (r,_) => if quietCall r H args = true then some (r,H) else none
 | none => none
theorem xIa (args : List AV) (r : AV) (H' : Heap) : xJL args H (some (r,H')) = if quietCall r H args = true then some (r,H) else none := rfl
theorem xTb (f : Nat) (args : List Arg) : xBo R F H (.call f args) = xJL (args.map (opv F)) H (xBS R f (args.map (opv F)) H) := by
 simp only [xBo,xAy,xJL]
 cases xBS R f (args.map (opv F)) H with
 | none => rfl
 | some r => obtain ⟨r,H'⟩ := r; simp only; split <;> rfl
def xOs (R : Rec) (args : List AV) (H : Heap) : AV → Option (AV × Heap)
 | .func g caps => xJL (args ++ caps) H (xBS R g (args ++ caps) H)
 | _ => none
theorem xGM (args : List AV) (g : Nat) (caps : List AV) : xOs R args H (.func g caps) = xJL (args ++ caps) H (xBS R g (args ++ caps) H) := rfl
theorem xPP (f : Arg) (args : List Arg) : xBo R F H (.fcall f args) = xOs R (args.map (opv F)) H (opv F f) := by
 simp only [xBo,xAy,xJL,xOs]
 cases opv F f with
 | func g caps =>
  simp only
  cases xBS R g (args.map (opv F) ++ caps) H with
  | none => rfl
  | some r => obtain ⟨r,H'⟩ := r; simp only; split <;> rfl
 | _ => rfl
theorem xW0 (v : AV) : xBo R F H (.box (.c v)) = if v.cells.all AV.isCell = true then some (.any,H) else none := by
 simp only [xBo,xAy]
 split <;> rfl
def xNP (H : Heap) : Option (AV × Heap) → Option (AV × Heap)
 | some (v,_) => some (v,H)
 | none => none
theorem xMM (v : AV) (H' : Heap) : xNP H (some (v,H')) = some (v,H) := rfl
theorem xF9 (op : AOp) (h : xAy R F H op = (xAa R F H op).map (·.1)) : xBo R F H op = xNP H (xAa R F H op) := by
 simp only [xBo,h,xNP]
 cases xAa R F H op <;> rfl
theorem xW1 (x : Arg) : xBo R F H (.mov x) = xNP H (xAa R F H (.mov x)) := xF9 _ rfl
theorem xTc (c a b : Arg) : xBo R F H (.pick c a b) = xNP H (xAa R F H (.pick c a b)) := xF9 _ rfl
theorem xTd (g : Bool) (n : Nat) (p : Arg) : xBo R F H (.load g n p) = xNP H (xAa R F H (.load g n p)) := xF9 _ rfl
theorem xMN (x : Arg) : xBo R F H (.nilchk x) = xNP H (xAa R F H (.nilchk x)) := xF9 _ rfl
theorem xW2 (op : BinOp) (x y : Arg) : xBo R F H (.bin op x y) = xNP H (xAa R F H (.bin op x y)) := xF9 _ rfl
theorem xTe (k : IntKind) (x : Arg) : xBo R F H (.conv k x) = xNP H (xAa R F H (.conv k x)) := xF9 _ rfl
theorem xPQ (es : Nat) (x : Arg) (lo hi mx : Option Arg) : xBo R F H (.slice es x lo hi mx) = xNP H (xAa R F H (.slice es x lo hi mx)) := xF9 _ rfl
theorem xPR (o : Nat) (x : Arg) : xBo R F H (.faddr o x) = xNP H (xAa R F H (.faddr o x)) := xF9 _ rfl
theorem xPS (es : Nat) (x i : Arg) : xBo R F H (.iaddr es x i) = xNP H (xAa R F H (.iaddr es x i)) := xF9 _ rfl
theorem xW3 (x : Arg) : xBo R F H (.len x) = xNP H (xAa R F H (.len x)) := xF9 _ rfl
def xMO (H : Heap) : Option AV → Option (AV × Heap)
 | some v => some (v,H)
 | none => none
theorem xJM (v : AV) : xMO H (some v) = some (v,H) := rfl
def xOt (rs : List ARes) : Option (AExit × St) → Option (AV × Heap)
 | some (.normal,s) => xMO s.H (xA2 rs s)
 | some (.ret,s) => xMO s.H (xA2 rs s)
 | _ => none
theorem xGN (rs : List ARes) (F : List AV) (H : Heap) : xOt rs (some (.normal,⟨F,H⟩)) = xMO H (xA2 rs ⟨F,H⟩) := rfl
theorem xIb (rs : List ARes) (F : List AV) (H : Heap) : xOt rs (some (.ret,⟨F,H⟩)) = xMO H (xA2 rs ⟨F,H⟩) := rfl
def pads : Nat → List AV
 | 0 => []
 | n + 1 => .tup [] :: pads n
theorem xTf : ∀ n,List.replicate n (AV.tup []) = pads n
 | 0 => rfl
 | n + 1 => by rw [List.replicate_succ,xTf n]; rfl
theorem xAu (n : Nat) (code : ACode) (rs : List ARes) (args : List AV) : xBa R ⟨n,code,rs⟩ args H = xOt rs (run R code ⟨args ++ pads (n - args.length),H⟩) := by
 rw [← xTf]
 simp only [xBa,xOt,xR8,xMO]
 cases h : run R code ⟨args ++ List.replicate (n - args.length) (.tup []),H⟩ with
 | none => rfl
 | some r =>
  obtain ⟨e,s⟩ := r
  cases e with
  | exit i => rfl
  | _ => simp only; cases xA2 rs s <;> rfl
def xPT : Option (AV × Heap) → Option AV
 | some (r,H') => frz frzN H' r
 | none => none
theorem xIc (r : AV) (H' : Heap) : xPT (some (r,H')) = frz frzN H' r := rfl
theorem xAd (fn : AFunc) (args : List AV) : xAF R fn args = xPT (xBa R fn args []) := by
 simp only [xAF,xPT]
 cases xBa R fn args [] <;> rfl
def xX9 (g : Bool) : Option (List AV) → Option AV
 | some cs => mkv g cs
 | none => none
theorem xJN (g : Bool) (cs : List AV) : xX9 g (some cs) = mkv g cs := rfl
theorem xOu (t : Nat) : xRz ⟨F,H⟩ (.tmp t) = some (F.getD t .any) := rfl
theorem xPU (t : Nat) (g : Bool) (n : Nat) : xRz ⟨F,H⟩ (.cell t g n) = xX9 g (rd H (F.getD t .any) n) := by
 simp only [xRz,xX9]
 cases rd H (F.getD t .any) n <;> rfl
theorem xMP : xA2 [] s = some (.tup []) := rfl
theorem xId (r : ARes) : xA2 [r] s = xRz s r := rfl
def yBE (s : St) (rs : List ARes) : Option AV → Option (List AV)
 | some v => (xOi s rs).map (v :: ·)
 | none => none
theorem xMQ (rs : List ARes) (v : AV) : yBE s rs (some v) = (xOi s rs).map (v :: ·) := rfl
theorem xPV : xOi s [] = some [] := rfl
theorem xMR (r : ARes) (rs : List ARes) : xOi s (r :: rs) = yBE s rs (xRz s r) := by
 simp only [xOi,yBE]
 cases xRz s r <;> rfl
theorem xMS (r r' : ARes) (rs : List ARes) : xA2 (r :: r' :: rs) s = (xOi s (r :: r' :: rs)).map .tup := rfl
end
section
variable {R : Rec} {F : List AV} {H : Heap} {s : St}
def xTg : Option (AV × Heap) → Option (AV × List Blk)
 | some (r,H') => (xEY H' r).map fun (v,B) => (v,B.map (·.2))
 | none => none
theorem xTh (f : Nat) (args : List AV) : xDR R f args = xTg (R.icall (.func f []) args []) := by
 unfold xDR xTg
 cases R.icall (.func f []) args [] <;> rfl
theorem xIe (r : AV) (H' : Heap) : xTg (some (r,H')) = (xEY H' r).map fun (v,B) => (v,B.map (·.2)) := rfl
def ocK (H : Heap) (ids : List Nat) : Option (AV × List Blk) → Option (AV × Heap)
 | some (v,B) => some (xDT H.length v,fzIds H ids ++ B)
 | none => none
def xTi (R : Rec) (f : Nat) (H : Heap) (ids : List Nat) : Option (List AV) → Option (AV × Heap)
 | some args' => ocK H ids (xDR R f args')
 | none => none
theorem xPW (f : Nat) (args : List Arg) : xAa R F H (.ocall f args) = xTi R f H ((args.map (opv F)).flatMap (bor frzN H)) ((args.map (opv F)).mapM (frz frzN H)) := by
 simp only [xAa,xTi]
 cases (args.map (opv F)).mapM (frz frzN H) with
 | none => rfl
 | some args' =>
  simp only [ocK]
  cases xDR R f args' <;> rfl
theorem xIf (f : Nat) (ids : List Nat) (args' : List AV) : xTi R f H ids (some args') = ocK H ids (xDR R f args') := rfl
theorem xPX (ids : List Nat) (v : AV) (B : List Blk) : ocK H ids (some (v,B)) = some (xDT H.length v,fzIds H ids ++ B) := rfl
def t1B (z : Bool) (id off n es : Nat) (B : List (Nat × Blk)) : Option Blk → Option (AV × List (Nat × Blk))
 | some (.cells false z' cs) => if cs.all xCj = true then some (.own z B.length off n es,B ++ [(id,.cells false z' cs)]) else none
 | _ => none
def t1I (z : Bool) (id off n es : Nat) (B : List (Nat × Blk)) (b : Option Blk) : Option Nat → Option (AV × List (Nat × Blk))
 | some k => some (.own z k off n es,B)
 | none => t1B z id off n es B b
theorem xMT (H : Heap) (z : Bool) (id off n es : Nat) (B : List (Nat × Blk)) : xKW H (.own z id off n es) B = t1I z id off n es B H[id]? (B.findIdx? (fun p => p.1 == id)) := by
 simp only [xKW,t1I]
 cases B.findIdx? (fun p => p.1 == id) with
 | some k => rfl
 | none =>
  simp only [t1B]
  cases H[id]? with
  | none => rfl
  | some b => cases b with
   | cells fz z' cs => cases fz <;> rfl
   | _ => rfl
theorem xTj (z : Bool) (id off n es : Nat) (B : List (Nat × Blk)) (z' : Bool) (cs : List AV) : t1I z id off n es B (some (.cells false z' cs)) none = if cs.all xCj = true then some (.own z B.length off n es,B ++ [(id,.cells false z' cs)]) else none := rfl
theorem xIg (H : Heap) (z : Bool) (id off n es : Nat) : xEY H (.own z id off n es) = xKW H (.own z id off n es) [] := rfl
theorem xMU {α : Type} (p : α → Bool) : ([] : List α).findIdx? p = none := rfl
theorem xJO (pl : List Pr) (s : St) : xA9 [] pl s = adoptL pl s := rfl
def xVC (e : Pr) : Option (St × List Pr) → Option (St × List Pr)
 | some (s,l) => some (s,e :: l)
 | none => none
theorem xJP (e : Pr) (s : St) (l : List Pr) : xVC e (some (s,l)) = some (s,e :: l) := rfl
def xW4 (R : Rec) (rest : List AOper) (s : St) : Option Nat → Option (AV × List Blk) → Option (St × List Pr)
 | some t,some (v,B) => xVC (some (t,v,B)) (xAA R rest ⟨s.F.set t (xEI v),s.H⟩)
 | _,_ => none
def xTk (R : Rec) (rest : List AOper) : Option St → Option (St × List Pr)
 | some s => xVC none (xAA R rest s)
 | none => none
theorem xIh : xAA R [] s = some (s,[]) := rfl
theorem xGO (o : AOper) (rest : List AOper) : xAA R (o :: rest) s = if xA8 o.op = true then xW4 R rest s o.dst (xDE R s.F o.op) else xTk R rest (xAU R o s) := by
 simp only [xAA]
 split
 ·cases o.dst with
  | none => rfl
  | some t => cases xDE R s.F o.op with
   | none => rfl
   | some r =>
    obtain ⟨v,B⟩ := r
    simp only [xW4]
    cases xAA R rest ⟨s.F.set t (xEI v),s.H⟩ <;> rfl
 ·cases xAU R o s with
  | none => rfl
  | some s1 =>
   simp only [xTk]
   cases xAA R rest s1 <;> rfl
theorem xIi (rest : List AOper) (s : St) : xTk R rest (some s) = xVC none (xAA R rest s) := rfl
theorem xJQ (x : Arg) : xA8 (.mov x) = false := rfl
theorem xIj (g : Bool) (n : Nat) (x : Arg) : xA8 (.load g n x) = false := rfl
theorem xFB (x : Arg) : xA8 (.nilchk x) = false := rfl
theorem xGP (o : Nat) (x : Arg) : xA8 (.faddr o x) = false := rfl
end
section
variable {R : Rec} {F : List AV} {H : Heap}
def yBd (g : Bool) (es len : Nat) : AV → AV → Option AV
 | .agg cs,.int _ i => if 0 ≤ i ∧ i.toNat < len ∧ i.toNat * es + es ≤ cs.length then mkv g ((cs.drop (i.toNat * es)).take es) else none
 | _,_ => none
theorem xPY {g : Bool} {es len : Nat} {cs : List AV} {k : IntKind} {i : Int} (h0 : 0 ≤ i) (h : i < len) (h2 : i.toNat * es + es ≤ cs.length) : yBd g es len (.agg cs) (.int k i) = mkv g ((cs.drop (i.toNat * es)).take es) := if_pos ⟨h0,by omega,h2⟩
theorem xW5 (g : Bool) (es len : Nat) (x i : Arg) : xAa R F H (.idx g es len x i) = xDl H (yBd g es len (opv F x) (opv F i)) := by
 simp only [xAa]
 cases opv F x with
 | agg cs => cases opv F i with
  | int k n =>
   by_cases h0 : 0 ≤ n
   ·have e : xBn (.int k n) = some n.toNat := by simp [xBn,h0]
    simp only [e,yBd,h0,true_and]
    by_cases c : n.toNat < len ∧ n.toNat * es + es ≤ cs.length
    ·rw [if_pos c,if_pos c]
     cases mkv g ((cs.drop (n.toNat * es)).take es) <;> rfl
    ·rw [if_neg c,if_neg c]; rfl
   ·have e : xBn (.int k n) = none := by simp [xBn,h0]
    simp only [e,yBd,h0,false_and,if_false,xDl]
  | _ => rfl
 | _ => rfl
def xJR (es len : Nat) : AV → AV → Option AV
 | .ptr id off,.int _ i => if 0 ≤ i ∧ i.toNat < len then some (.ptr id (off + i.toNat * es)) else none
 | .vptr cs off,.int _ i => if 0 ≤ i ∧ i.toNat < len then some (.vptr cs (off + i.toNat * es)) else none
 | _,_ => none
theorem xJS {es len id off : Nat} {k : IntKind} {i : Int} (h0 : 0 ≤ i) (h : i < len) : xJR es len (.ptr id off) (.int k i) = some (.ptr id (off + i.toNat * es)) := if_pos ⟨h0,by omega⟩
theorem xPZ (es len : Nat) (x i : Arg) : xAa R F H (.arrat es len x i) = xDl H (xJR es len (opv F x) (opv F i)) := by
 simp only [xAa]
 cases opv F x with
 | ptr id off => cases opv F i with
  | int k n =>
   by_cases h0 : 0 ≤ n
   ·have e : xBn (.int k n) = some n.toNat := by simp [xBn,h0]
    simp only [e,xJR,h0,true_and]
    by_cases c : n.toNat < len
    ·rw [if_pos c,if_pos c]; rfl
    ·rw [if_neg c,if_neg c]; rfl
   ·have e : xBn (.int k n) = none := by simp [xBn,h0]
    simp only [e,xJR,h0,false_and,if_false,xDl]
  | _ => rfl
 | vptr cs off => cases opv F i with
  | int k n =>
   by_cases h0 : 0 ≤ n
   ·have e : xBn (.int k n) = some n.toNat := by simp [xBn,h0]
    simp only [e,xJR,h0,true_and]
    by_cases c : n.toNat < len
    ·rw [if_pos c,if_pos c]; rfl
    ·rw [if_neg c,if_neg c]; rfl
   ·have e : xBn (.int k n) = none := by simp [xBn,h0]
    simp only [e,xJR,h0,false_and,if_false,xDl]
  | _ => rfl
 | _ => rfl
def xZ1 : AV → Option AV
 | .str s => some (.int .i64 s.size)
 | _ => none
theorem xMV (s : ByteArray) : xZ1 (.str s) = some (.int .i64 s.size) := rfl
theorem xTl (x : Arg) : xAa R F H (.slen x) = xDl H (xZ1 (opv F x)) := by
 simp only [xAa]
 cases opv F x <;> rfl
theorem xP0 (es len : Nat) (x i : Arg) : xBo R F H (.arrat es len x i) = xNP H (xAa R F H (.arrat es len x i)) := xF9 _ rfl
theorem xTm (x : Arg) : xBo R F H (.slen x) = xNP H (xAa R F H (.slen x)) := xF9 _ rfl
end
end Go.Abs
