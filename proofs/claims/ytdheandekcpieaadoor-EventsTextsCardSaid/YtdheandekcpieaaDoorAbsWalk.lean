/- The interpreter's equations in the form that simp walks by: one equation for each construct,told apart by what has been computed already. -/
import Derived.Test.YtdheandekcpieaaDoorAbsLim
namespace Go.Abs
set_option linter.unusedVariables false
set_option linter.unusedSimpArgs false
theorem xFJ : ∀ (scr : List Nat) (F : List AV) (i : Nat),(xAu scr F)[i]? = if i ∈ scr then (F[i]?).map (fun _ => AV.any) else F[i]?
 | [],F,i => by simp [xAu]
 | j :: scr,F,i => by
  have := xFJ scr (F.set j .any) i
  simp only [xAu,List.foldl_cons] at this ⊢
  rw [this]
  by_cases h : i = j
  ·subst h
   simp only [List.getElem?_set_self',List.mem_cons,true_or,if_true]
   cases F[i]? <;> simp
  ·have h' : ¬ j = i := fun e => h e.symm
   simp [List.getElem?_set,h,h']
theorem xNO (scr : List Nat) (F : List AV) : xAu scr (xAu scr F) = xAu scr F := by
 apply List.ext_getElem?
 intro i
 rw [xFJ,xFJ]
 split
 ·cases F[i]? <;> rfl
 ·rfl
section
variable {prog : Nat → Option AFunc}
theorem xRL (prog : Nat → Option AFunc) (n : Nat) : Tends (fix prog n) (fun _ => lim prog) :=
 ⟨fun f a v h => .all fun _ => xEE ((xEY prog n).pcall f a v h),fun f a H v h => .all fun _ => xEE ((xEY prog n).icall f a H v h),fun scr b s v h => .all fun _ => xEE ((xEY prog n).loop scr b s v h)⟩
theorem Ev.const {p : Prop} (h : Ev fun _ => p) : p := let ⟨n,hn⟩ := h; hn n (Nat.le_refl n)
theorem xRM {α : Type} {a b : Option α} (h1 : ∀ v,a = some v → b = some v) (h2 : ∀ v,b = some v → a = some v) : a = b := by
 cases a with
 | some v => exact (h1 v rfl).symm
 | none =>
  cases b with
  | none => rfl
  | some v => exact h2 v rfl
theorem xAo {f : Nat} {fn : AFunc} (hf : prog f = some fn) (args : List AV) : (lim prog).pcall f args = xAE (lim prog) fn args := by
 refine xRM (fun v h => ?_) (fun v h => xQT hf h)
 obtain ⟨n,hn⟩ := xB6 (p := fun m => (fix prog m).pcall f args) h
 have h1 : (xDC prog (fix prog n)).pcall f args = some v := hn (n + 1) (by omega)
 have h2 := (xBs (xRL prog n) prog).pcall f args v h1 |>.const
 simp only [xDC,hf] at h2
 exact h2
theorem xLR (f : AV) (args : List AV) (H : Heap) : (lim prog).icall f args H = xDW prog (lim prog) f args H := by
 refine xRM (fun v h => ?_) (fun v h => xQU h)
 obtain ⟨n,hn⟩ := xB6 (p := fun m => (fix prog m).icall f args H) h
 have h1 : (xDC prog (fix prog n)).icall f args H = some v := hn (n + 1) (by omega)
 exact (xBs (xRL prog n) prog).icall f args H v h1 |>.const
theorem xEN (scr : List Nat) (b : ACode) (s : St) : (lim prog).loop scr b s = xIi (lim prog) scr b s := by
 refine xRM (fun v h => ?_) (fun v h => xUD h)
 obtain ⟨n,hn⟩ := xB6 (p := fun m => (fix prog m).loop scr b s) h
 have h1 : (xDC prog (fix prog n)).loop scr b s = some v := hn (n + 1) (by omega)
 exact (xBs (xRL prog n) prog).loop scr b s v h1 |>.const
theorem xAk {f : Nat} {fn : AFunc} (hf : prog f = some fn) (caps args : List AV) (H : Heap) : (lim prog).icall (.func f caps) args H = xAS (lim prog) fn (args ++ caps) H := by
 rw [xLR]
 simp only [xDW,hf]
theorem xEw (scr : List Nat) (b : ACode) (F : List AV) (H : Heap) : (lim prog).loop scr b ⟨F,H⟩ = (lim prog).loop scr b ⟨xAu scr F,H⟩ := by
 rw [xEN,xEN]
 unfold xIi
 simp only [xNO]
def xA5 (R : Rec) (scr : List Nat) (b : ACode) : Option (AExit × St) → Option (AExit × St)
 | some (.normal,s) => R.loop scr b ⟨xAu scr s.F,s.H⟩
 | some (e,s) => some (e,⟨xAu scr s.F,s.H⟩)
 | none => none
theorem xAm (scr : List Nat) (b : ACode) (F : List AV) (H : Heap) (h : xAu scr F = F) : (lim prog).loop scr b ⟨F,H⟩ = xA5 (lim prog) scr b (run (lim prog) b ⟨F,H⟩) := by
 rw [xEN]
 unfold xIi xA5
 simp only [h]
 split
 ·rename_i s' hs
  rw [hs]
  exact xEw scr b s'.F s'.H
 ·rename_i e s' hne hs
  rw [hs]
  cases e with
  | normal => exact (hne rfl).elim
  | exit i => rfl
  | ret => rfl
 ·rename_i hs
  rw [hs]
theorem xGJ (scr : List Nat) (b : ACode) (F : List AV) (H : Heap) : run (lim prog) (.loop scr b) ⟨F,H⟩ = (lim prog).loop scr b ⟨xAu scr F,H⟩ := xEw scr b F H
end
section
variable {R : Rec} {F : List AV} {H : Heap} {s : St}
def xU6 (R : Rec) (b : ACode) : Option (AExit × St) → Option (AExit × St)
 | some (.normal,s) => run R b s
 | r => r
theorem xAw (a b : ACode) : run R (.seq a b) s = xU6 R b (run R a s) := by
 simp only [run,xU6]
 split <;> simp_all
theorem xAl (b : ACode) (s : St) : xU6 R b (some (.normal,s)) = run R b s := rfl
theorem xLS (b : ACode) (i : Nat) (s : St) : xU6 R b (some (.exit i,s)) = some (.exit i,s) := rfl
theorem xDq (b : ACode) (s : St) : xU6 R b (some (.ret,s)) = some (.ret,s) := rfl
theorem xOH (b : ACode) {c : Prop} [Decidable c] (x y : Option (AExit × St)) : xU6 R b (if c then x else y) = if c then xU6 R b x else xU6 R b y := by split <;> rfl
def xXA (R : Rec) (a b : ACode) (s : St) : AV → Option (AExit × St)
 | .bool t => if t = true then run R a s else run R b s
 | _ => none
theorem xOI (c : Arg) (a b : ACode) (F : List AV) (H : Heap) : run R (.cond c a b) ⟨F,H⟩ = xXA R a b ⟨F,H⟩ (opv F c) := by
 simp only [run,xXA]
 split <;> simp_all
theorem xIL (a b : ACode) (t : Bool) : xXA R a b s (.bool t) = if t = true then run R a s else run R b s := rfl
def xFf (id : Nat) : Option (AExit × St) → Option (AExit × St)
 | some (.exit i,s) => if i = id then some (.normal,s) else some (.exit i,s)
 | r => r
theorem xHg (id : Nat) (b : ACode) : run R (.block id b) s = xFf id (run R b s) := by
 simp only [run,xFf]
 split <;> simp_all
theorem xHh (id i : Nat) (s : St) : xFf id (some (.exit i,s)) = if i = id then some (.normal,s) else some (.exit i,s) := rfl
theorem xFg (id : Nat) (s : St) : xFf id (some (.normal,s)) = some (.normal,s) := rfl
theorem xIM (id : Nat) (s : St) : xFf id (some (.ret,s)) = some (.ret,s) := rfl
theorem xIN (id : Nat) {c : Prop} [Decidable c] (x y : Option (AExit × St)) : xFf id (if c then x else y) = if c then xFf id x else xFf id y := by split <;> rfl
theorem xBL (scr : List Nat) (b : ACode) (F : List AV) (H : Heap) : xA5 R scr b (some (.normal,⟨F,H⟩)) = R.loop scr b ⟨xAu scr F,H⟩ := rfl
theorem xIO (scr : List Nat) (b : ACode) (i : Nat) (F : List AV) (H : Heap) : xA5 R scr b (some (.exit i,⟨F,H⟩)) = some (.exit i,⟨xAu scr F,H⟩) := rfl
theorem xLT (scr : List Nat) (b : ACode) (F : List AV) (H : Heap) : xA5 R scr b (some (.ret,⟨F,H⟩)) = some (.ret,⟨xAu scr F,H⟩) := rfl
theorem xLU (scr : List Nat) (b : ACode) {c : Prop} [Decidable c] (x y : Option (AExit × St)) : xA5 R scr b (if c then x else y) = if c then xA5 R scr b x else xA5 R scr b y := by split <;> rfl
def xZi : Option St → Option (AExit × St)
 | some s => some (.normal,s)
 | none => none
theorem xLV (s : St) : xZi (some s) = some (.normal,s) := rfl
theorem xIP (ops : List AOper) : run R (.region ops) s = xZi (xAx R ops s) := by
 simp only [run,xZi]
 cases xAx R ops s <;> rfl
theorem xOJ : run R .skip s = some (.normal,s) := rfl
theorem xOK (i : Nat) : run R (.exit i) s = some (.exit i,s) := rfl
theorem xRN : run R .ret s = some (.ret,s) := rfl
def yBG (R : Rec) (rest : List AOper) : Option St → Option St
 | some s => xAx R rest s
 | none => none
theorem xIQ : xAx R [] s = some s := rfl
theorem xEO (o : AOper) (rest : List AOper) : xAx R (o :: rest) s = yBG R rest (xAJ R o s) := by
 simp only [xAx,yBG]
 cases xAJ R o s <;> rfl
theorem xHi (rest : List AOper) (s : St) : yBG R rest (some s) = xAx R rest s := rfl
def xXB (F : List AV) (d : Option Nat) : Option (AV × Heap) → Option St
 | some (v,H) => some ⟨xCk F d v,H⟩
 | none => none
theorem xRO (d : Nat) (v : AV) : xXB F (some d) (some (v,H)) = some ⟨F.set d v,H⟩ := rfl
theorem xRP (v : AV) : xXB F none (some (v,H)) = some ⟨F,H⟩ := rfl
theorem xLW (d : Option Nat) (op : AOp) : xAJ R ⟨d,op,none⟩ ⟨F,H⟩ = xXB F d (xAb R F H op) := by
 simp only [xAJ,xBQ,xXB]
 cases xAb R F H op <;> rfl
def xOL (R : Rec) (d : Option Nat) (op : AOp) (w : Bool) (F : List AV) (H : Heap) : AV → Option St
 | .bool b => if b = w then xXB F d (xAb R F H op) else some ⟨xCk F d (.tup []),H⟩
 | .any => none
 | _ => some ⟨xCk F d (.tup []),H⟩
theorem xIR (d : Option Nat) (op : AOp) (t : Nat) (w : Bool) : xAJ R ⟨d,op,some (t,w)⟩ ⟨F,H⟩ = xOL R d op w F H (F.getD t .any) := by
 simp only [xAJ,xBQ,xOL]
 cases F.getD t .any with
 | bool b =>
  cases b <;> cases w <;> simp [xXB] <;> cases xAb R F H op <;> rfl
 | _ => rfl
theorem xHj (d : Option Nat) (op : AOp) (w b : Bool) : xOL R d op w F H (.bool b) = if b = w then xXB F d (xAb R F H op) else some ⟨xCk F d (.tup []),H⟩ := rfl
theorem xIS (d : Option Nat) (op : AOp) (w : Bool) (vs : List AV) : xOL R d op w F H (.tup vs) = some ⟨xCk F d (.tup []),H⟩ := rfl
theorem xRQ (d : Nat) (v : AV) : xCk F (some d) v = F.set d v := rfl
def xXC (R : Rec) (m : Nat) (ops : List AOper) : Option St → Option (AExit × St)
 | some s => xZi (xAx R (ops.drop m) (adopt (ops.take m) s))
 | none => none
theorem xOM (m : Nat) (ops : List AOper) : run R (.draw m ops) s = xXC R m ops (xBm R (ops.take m) s) := by
 simp only [run,xXC]
 cases xBm R (ops.take m) s with
 | none => rfl
 | some s1 =>
  simp only [xZi]
  cases xAx R (ops.drop m) (adopt (ops.take m) s1) <;> rfl
theorem xIT (m : Nat) (ops : List AOper) (s : St) : xXC R m ops (some s) = xZi (xAx R (ops.drop m) (adopt (ops.take m) s)) := rfl
def xGe (ls : List (Nat × Nat × Nat × Nat)) : Option St → Option (AExit × St)
 | some s => if ls.all (apart s.F) = true then some (.normal,s) else none
 | none => none
def xRR (R : Rec) (ls : List (Nat × Nat × Nat × Nat)) (m : Nat) (ops : List AOper) : Option St → Option (AExit × St)
 | some s => xGe ls (xAx R (ops.drop m) (adopt (ops.take m) s))
 | none => none
theorem xLX (ls : List (Nat × Nat × Nat × Nat)) (m : Nat) (ops : List AOper) : run R (.drawl ls m ops) s = xRR R ls m ops (xBm R (ops.take m) s) := by
 simp only [run,xRR]
 cases xBm R (ops.take m) s with
 | none => rfl
 | some s1 =>
  simp only [xGe]
  cases xAx R (ops.drop m) (adopt (ops.take m) s1) <;> rfl
theorem xHk (ls : List (Nat × Nat × Nat × Nat)) (m : Nat) (ops : List AOper) (s : St) : xRR R ls m ops (some s) = xGe ls (xAx R (ops.drop m) (adopt (ops.take m) s)) := rfl
theorem xHl (ls : List (Nat × Nat × Nat × Nat)) (s : St) : xGe ls (some s) = if ls.all (apart s.F) = true then some (.normal,s) else none := rfl
def xXD (R : Rec) (rest : List AOper) : Option St → Option St
 | some s => xBm R rest s
 | none => none
theorem xHm : xBm R [] s = some s := rfl
theorem xGf (o : AOper) (rest : List AOper) : xBm R (o :: rest) s = xXD R rest (xAV R o s) := by
 simp only [xBm,xXD]
 cases xAV R o s <;> rfl
theorem xIU (rest : List AOper) (s : St) : xXD R rest (some s) = xBm R rest s := rfl
def xQq (F : List AV) (d : Option Nat) (H : Heap) : Option (AV × Heap) → Option St
 | some (v,_) => some ⟨xCk F d v,H⟩
 | none => none
theorem xON (d : Nat) (v : AV) (H' : Heap) : xQq F (some d) H (some (v,H')) = some ⟨F.set d v,H⟩ := rfl
def xA9 (R : Rec) (F : List AV) (H : Heap) (op : AOp) : Option (AV × Heap) := (xAy R F H op).map fun v => (v,H)
theorem xIV (d : Option Nat) (op : AOp) : xAV R ⟨d,op,none⟩ ⟨F,H⟩ = xQq F d H (xA9 R F H op) := by
 simp only [xAV,xBQ,xQq,xA9]
 cases xAy R F H op <;> rfl
def xKx (R : Rec) (d : Option Nat) (op : AOp) (w : Bool) (F : List AV) (H : Heap) : AV → Option St
 | .bool b => if b = w then xQq F d H (xA9 R F H op) else some ⟨xCk F d (.tup []),H⟩
 | .any => none
 | _ => some ⟨xCk F d (.tup []),H⟩
theorem xHn (d : Option Nat) (op : AOp) (t : Nat) (w : Bool) : xAV R ⟨d,op,some (t,w)⟩ ⟨F,H⟩ = xKx R d op w F H (F.getD t .any) := by
 simp only [xAV,xBQ,xKx]
 cases F.getD t .any with
 | bool b =>
  cases b <;> cases w <;> simp [xQq,xA9] <;> cases xAy R F H op <;> rfl
 | _ => rfl
theorem xGg (d : Option Nat) (op : AOp) (w b : Bool) : xKx R d op w F H (.bool b) = if b = w then xQq F d H (xA9 R F H op) else some ⟨xCk F d (.tup []),H⟩ := rfl
theorem xHo (d : Option Nat) (op : AOp) (w : Bool) (vs : List AV) : xKx R d op w F H (.tup vs) = some ⟨xCk F d (.tup []),H⟩ := rfl
def xC4 (H : Heap) : Option AV → Option (AV × Heap)
 | some v => some (v,H)
 | none => none
theorem xLY (v : AV) : xC4 H (some v) = some (v,H) := rfl
theorem xWh (x : Arg) : xAb R F H (.mov x) = some (opv F x,H) := rfl
def xXE : AV → AV → AV → Option AV
 | .bool t,a,b => some (if t = true then a else b)
 | _,_,_ => none
theorem xIW (t : Bool) (a b : AV) : xXE (.bool t) a b = some (if t = true then a else b) := rfl
theorem xRS (c a b : Arg) : xAb R F H (.pick c a b) = xC4 H (xXE (opv F c) (opv F a) (opv F b)) := by
 simp only [xAb,xXE,xC4]
 split <;> simp_all
theorem xWi (x : Arg) : xAb R F H (.box x) = if (opv F x).cells.all AV.isCell = true then some (.ptr H.length 0,H ++ [.cells false false (opv F x).cells]) else none := rfl
theorem xOO (z : List AV) (parts : List (Nat × Nat × Arg)) : xAb R F H (.build z parts) =
  if parts.all (fun p => (opv F p.2.2).cells.length == p.2.1) = true then xC4 H ((fillA z (parts.map fun p => (p.1,(opv F p.2.2).cells))).map AV.agg) else none := by
 simp only [xAb,xC4]
 split
 ·cases fillA z (parts.map fun p => (p.1,(opv F p.2.2).cells)) <;> rfl
 ·rfl
def yBH (fz z : Bool) (n es : Nat) (H : Heap) : Option (List AV) → Option (AV × Heap)
 | some cs => xFs fz z n es cs H
 | none => none
theorem xLZ (fz z : Bool) (n es : Nat) (cs : List AV) : yBH fz z n es H (some cs) = xFs fz z n es cs H := rfl
theorem xOP (z : Bool) (n es : Nat) (cs : List AV) : xFs false z n es cs H = some (.own z H.length 0 n es,H ++ [.cells false z cs]) := rfl
def slK (z : Bool) (n : Nat) : Option (List AV) → Option AV
 | some cs => some (.sl z n cs)
 | none => none
theorem xOQ (z : Bool) (n : Nat) (cs : List AV) : slK z n (some cs) = some (.sl z n cs) := rfl
theorem xL0 (z : Bool) (n es : Nat) (cs : List AV) : xFs true z n es cs H = if (cs.flatMap (bor frzN H)).isEmpty = true then xC4 H (slK z n (cs.mapM (frz frzN H))) else none := by
 simp only [xFs,xC4,slK]
 split
 ·rename_i h
  cases cs.mapM (frz frzN H) <;> simp_all
 ·simp_all
theorem xL1 (fz : Bool) (z : List AV) (es n : Nat) (parts : List (Nat × Arg)) : xAb R F H (.bslice fz z es n parts) =
  if parts.all (fun p => (opv F p.2).cells.length == es) = true then yBH fz false n es H (fillA (xDl z n) (parts.map fun p => (p.1 * es,(opv F p.2).cells))) else none := by
 simp only [xAb,yBH]
 split
 ·cases fillA (xDl z n) (parts.map fun p => (p.1 * es,(opv F p.2).cells)) <;> rfl
 ·rfl
def xU7 (g : Bool) : Option (List AV) → Option AV
 | some cs => mkv g cs
 | none => none
theorem xRT (v : AV) : xU7 false (some [v]) = some v := rfl
theorem xRU (cs : List AV) : xU7 true (some cs) = some (.agg cs) := rfl
theorem xRV (g : Bool) (n : Nat) (p : Arg) : xAb R F H (.load g n p) = xC4 H (xU7 g (rd H (opv F p) n)) := by
 simp only [xAb,xC4,xU7]
 cases rd H (opv F p) n with
 | none => rfl
 | some cs => simp only; cases mkv g cs <;> rfl
def rdK (off n : Nat) : Option Blk → Option (List AV)
 | some (.cells _ _ cs) => if off + n ≤ cs.length then some ((cs.drop off).take n) else none
 | _ => none
theorem xWj (id off n : Nat) : rd H (.ptr id off) n = rdK off n H[id]? := by
 simp only [rd,rdK]
 rfl
theorem xL2 {off n : Nat} {fz z : Bool} {cs : List AV} (h : off + n ≤ cs.length) : rdK off n (some (.cells fz z cs)) = some ((cs.drop off).take n) := if_pos h
theorem xRW {off n : Nat} {cs : List AV} (h : off + n ≤ cs.length) : rd H (.vptr cs off) n = some ((cs.drop off).take n) := if_pos h
def wrK (H : Heap) (id off : Nat) (vs : List AV) : Option Blk → Option Heap
 | some (.cells false z cs) => if off + vs.length ≤ cs.length ∧ vs.all AV.isCell = true then some (H.set id (.cells false z (splice cs off vs))) else none
 | _ => none
theorem xWk (id off : Nat) (vs : List AV) : wr H (.ptr id off) vs = wrK H id off vs H[id]? := by
 simp only [wr,wrK]
 rfl
theorem xHp {id off : Nat} {vs : List AV} {z : Bool} {cs : List AV} (h : off + vs.length ≤ cs.length) (h2 : vs.all AV.isCell = true) : wrK H id off vs (some (.cells false z cs)) = some (H.set id (.cells false z (splice cs off vs))) := if_pos ⟨h,h2⟩
def xRX : Option Heap → Option (AV × Heap)
 | some H => some (.tup [],H)
 | none => none
theorem xHq (H : Heap) : xRX (some H) = some (.tup [],H) := rfl
theorem xOR (n : Nat) (p v : Arg) : xAb R F H (.store n p v) = if (opv F v).cells.length = n then xRX (wr H (opv F p) (opv F v).cells) else none := by
 simp only [xAb,xRX]
 split
 ·cases wr H (opv F p) (opv F v).cells <;> rfl
 ·rfl
def yBI : AV → Option AV
 | .ptr id off => some (.ptr id off)
 | .vptr cs off => some (.vptr cs off)
 | .func f caps => some (.func f caps)
 | .yield l => some (.yield l)
 | _ => none
theorem xOS (id off : Nat) : yBI (.ptr id off) = some (.ptr id off) := rfl
theorem xL3 (cs : List AV) (off : Nat) : yBI (.vptr cs off) = some (.vptr cs off) := rfl
theorem xL4 (x : Arg) : xAb R F H (.nilchk x) = xC4 H (yBI (opv F x)) := by
 simp only [xAb]
 cases opv F x <;> rfl
theorem xWl (op : BinOp) (x y : Arg) : xAb R F H (.bin op x y) = xC4 H (xEh op (opv F x) (opv F y)) := by
 simp only [xAb,xC4]
 cases xEh op (opv F x) (opv F y) <;> rfl
section
variable (k : IntKind) (a b : Int)
theorem xRY : xEh .add (.int k a) (.int k b) = some (.int k (k.wrap (a + b))) := by simp [xEh]
theorem xRZ : xEh .sub (.int k a) (.int k b) = some (.int k (k.wrap (a - b))) := by simp [xEh]
theorem xR0 : xEh .mul (.int k a) (.int k b) = some (.int k (k.wrap (a * b))) := by simp [xEh]
theorem xR1 (h : b ≠ 0) : xEh .quo (.int k a) (.int k b) = some (.int k (k.wrap (a.tdiv b))) := by simp [xEh,h]
theorem xR2 (h : b ≠ 0) : xEh .rem (.int k a) (.int k b) = some (.int k (a.tmod b)) := by simp [xEh,h]
theorem xR3 : xEh .and (.int k a) (.int k b) = some (.int k (xDk .and k a b)) := by simp [xEh]
theorem xWm : xEh .or (.int k a) (.int k b) = some (.int k (xDk .or k a b)) := by simp [xEh]
theorem xR4 (k' : IntKind) (h : 0 ≤ b) : xEh .shl (.int k a) (.int k' b) = some (.int k (k.wrap (a * 2 ^ (min b.toNat k.bits)))) := by simp only [xEh]; rw [if_neg (by omega)]
theorem xR5 (k' : IntKind) (h : 0 ≤ b) : xEh .shr (.int k a) (.int k' b) = some (.int k (a.fdiv (2 ^ (min b.toNat k.bits)))) := by simp only [xEh]; rw [if_neg (by omega)]
theorem xR6 : xEh .eql (.int k a) (.int k b) = some (.bool (decide (a = b))) := by simp [xEh]; rfl
theorem xR7 : xEh .neq (.int k a) (.int k b) = some (.bool (!decide (a = b))) := by simp [xEh]; rfl
theorem xR8 : xEh .lss (.int k a) (.int k b) = some (.bool (decide (a < b))) := by simp [xEh]
theorem xR9 : xEh .leq (.int k a) (.int k b) = some (.bool (decide (a ≤ b))) := by simp [xEh]
theorem xSa : xEh .gtr (.int k a) (.int k b) = some (.bool (decide (b < a))) := by simp [xEh]
theorem xSb : xEh .geq (.int k a) (.int k b) = some (.bool (decide (b ≤ a))) := by simp [xEh]
end
def yBJ (neg : Bool) : AV → AV → Option AV
 | .bool a,.bool b => some (.bool (if neg = true then a != b else a == b))
 | _,_ => none
theorem xWn (a b : Bool) : yBJ false (.bool a) (.bool b) = some (.bool (decide (a = b))) := by cases a <;> cases b <;> rfl
theorem xWo (a b : Bool) : yBJ true (.bool a) (.bool b) = some (.bool (!decide (a = b))) := by cases a <;> cases b <;> rfl
theorem xWp (neg : Bool) (x y : Arg) : xAb R F H (.beq neg x y) = xC4 H (yBJ neg (opv F x) (opv F y)) := by
 simp only [xAb]
 cases opv F x <;> cases opv F y <;> rfl
def xSc (neg : Bool) : AV → Option AV
 | .sl z _ _ => some (.bool (z != neg))
 | .own z _ _ _ _ => some (.bool (z != neg))
 | _ => none
theorem xIX (z : Bool) (n : Nat) (cs : List AV) : xSc false (.sl z n cs) = some (.bool z) := by cases z <;> rfl
theorem xHr (z : Bool) (id off n es : Nat) : xSc false (.own z id off n es) = some (.bool z) := by cases z <;> rfl
theorem xOT (neg : Bool) (x : Arg) : xAb R F H (.isnil neg x) = xC4 H (xSc neg (opv F x)) := by
 simp only [xAb]
 cases opv F x <;> rfl
theorem xZJ (op : UnOp) (x : Arg) : xAb R F H (.un op x) = xC4 H (unA op (opv F x)) := by
 simp only [xAb,xC4]
 cases unA op (opv F x) <;> rfl
theorem xWq (b : Bool) : unA .not (.bool b) = some (.bool !b) := rfl
theorem xWr (k : IntKind) (n : Int) : unA .xor (.int k n) = some (.int k (xDk .xor k (if k.signed then -1 else k.max) n)) := rfl
def xZK (k : IntKind) : AV → Option AV
 | .int _ n => some (.int k (k.wrap n))
 | _ => none
theorem xL5 (k k' : IntKind) (n : Int) : xZK k (.int k' n) = some (.int k (k.wrap n)) := rfl
theorem xSd (k : IntKind) (x : Arg) : xAb R F H (.conv k x) = xC4 H (xZK k (opv F x)) := by
 simp only [xAb]
 cases opv F x <;> rfl
theorem xL6 (f : Nat) (caps : List Arg) : xAb R F H (.mkfunc f caps) = some (.func f (caps.map (opv F)),H) := rfl
def yDl (fz : Bool) (z : List AV) (bytes : Nat) (H : Heap) : AV → AV → Option (AV × Heap)
 | .int _ l,.int _ c => if 0 ≤ l ∧ l ≤ c ∧ c * bytes ≤ xBd ∧ c ≤ xBd ∧ z.all AV.isCell = true then xFs fz false l.toNat z.length (xDl z l.toNat) H else none
 | _,_ => none
theorem xOU (fz : Bool) (z : List AV) (bytes : Nat) (k k' : IntKind) {l c : Int} (h1 : 0 ≤ l) (h2 : l ≤ c) (h3 : c * bytes ≤ 140737488355328) (h4 : c ≤ 140737488355328) (h5 : z.all AV.isCell = true) : yDl fz z bytes H (.int k l) (.int k' c) = xFs fz false l.toNat z.length (xDl z l.toNat) H := if_pos ⟨h1,h2,h3,h4,h5⟩
theorem xIY (fz : Bool) (z : List AV) (bytes : Nat) (l c : Arg) : xAb R F H (.mkslice fz z bytes l c) = yDl fz z bytes H (opv F l) (opv F c) := by
 simp only [xAb]
 cases opv F l <;> cases opv F c <;> rfl
def xXF (es : Nat) (H : Heap) (x : AV) : Option (Nat × Nat) → Option AV
 | none => none
 | some (l,h) => match x with
  | .sl z _ cs => some (.sl z (h - l) ((cs.drop (l * es)).take ((h - l) * es)))
  | .own z id off _ _ => some (.own z id (off + l * es) (h - l) es)
  | _ => none
def xOV (es : Nat) (H : Heap) (lo hi mx : Option AV) : AV → Option AV
 | .sl z n cs => if cs.length = n * es then xXF es H (.sl z n cs) (xBi n lo hi mx) else none
 | .own z id off n es' => if es' = es then xXF es H (.own z id off n es') (xBi n lo hi mx) else none
 | _ => none
theorem xOW (es : Nat) (x : Arg) (lo hi mx : Option Arg) : xAb R F H (.slice es x lo hi mx) = xC4 H (xOV es H (lo.map (opv F)) (hi.map (opv F)) (mx.map (opv F)) (opv F x)) := by
 simp only [xAb,xC4,xOV,xXF]
 cases opv F x with
 | sl z n cs =>
  simp only
  split
  ·cases xBi n (lo.map (opv F)) (hi.map (opv F)) (mx.map (opv F)) <;> rfl
  ·rfl
 | own z id off n es' =>
  simp only
  split
  ·cases xBi n (lo.map (opv F)) (hi.map (opv F)) (mx.map (opv F)) <;> rfl
  ·rfl
 | _ => rfl
theorem xL7 {es n : Nat} {z : Bool} {cs : List AV} (lo hi mx : Option AV) (h : cs.length = n * es) : xOV es H lo hi mx (.sl z n cs) = xXF es H (.sl z n cs) (xBi n lo hi mx) := if_pos h
theorem xIZ {es n id off : Nat} {z : Bool} (lo hi mx : Option AV) : xOV es H lo hi mx (.own z id off n es) = xXF es H (.own z id off n es) (xBi n lo hi mx) := if_pos rfl
theorem xSe (es : Nat) (z : Bool) (n : Nat) (cs : List AV) (l h : Nat) : xXF es H (.sl z n cs) (some (l,h)) = some (.sl z (h - l) ((cs.drop (l * es)).take ((h - l) * es))) := rfl
theorem xOX (es : Nat) (z : Bool) (id off n es' : Nat) (l h : Nat) : xXF es H (.own z id off n es') (some (l,h)) = some (.own z id (off + l * es) (h - l) es) := rfl
theorem xL8 {n : Nat} {k : IntKind} {l : Int} (h0 : 0 ≤ l) (h : l ≤ n) : xBi n (some (.int k l)) none none = some (l.toNat,n) := by
 simp only [xBi,xA7,if_pos h0]
 rw [if_pos ⟨by omega,by omega⟩]
theorem xL9 {n : Nat} {k : IntKind} {m : Int} (h0 : 0 ≤ m) (h : m ≤ n) : xBi n none (some (.int k m)) none = some (0,m.toNat) := by
 simp only [xBi,xA7,if_pos h0]
 rw [if_pos ⟨by omega,by omega⟩]
def xSf (o : Nat) : AV → Option AV
 | .ptr id off => some (.ptr id (off + o))
 | .vptr cs off => some (.vptr cs (off + o))
 | _ => none
theorem xI0 (o id off : Nat) : xSf o (.ptr id off) = some (.ptr id (off + o)) := rfl
theorem xHs (o : Nat) (cs : List AV) (off : Nat) : xSf o (.vptr cs off) = some (.vptr cs (off + o)) := rfl
theorem xOY (o : Nat) (x : Arg) : xAb R F H (.faddr o x) = xC4 H (xSf o (opv F x)) := by
 simp only [xAb]
 cases opv F x <;> rfl
def xSg (g : Bool) (off n : Nat) : AV → Option AV
 | .agg cs => if off + n ≤ cs.length then mkv g ((cs.drop off).take n) else none
 | _ => none
theorem xI1 {g : Bool} {off n : Nat} {cs : List AV} (h : off + n ≤ cs.length) : xSg g off n (.agg cs) = mkv g ((cs.drop off).take n) := if_pos h
theorem xZL (v : AV) : mkv false [v] = some v := rfl
theorem xZM (cs : List AV) : mkv true cs = some (.agg cs) := rfl
theorem xOZ (g : Bool) (off n : Nat) (x : Arg) : xAb R F H (.field g off n x) = xC4 H (xSg g off n (opv F x)) := by
 simp only [xAb]
 cases opv F x with
 | agg cs =>
  simp only [xSg,xC4]
  split
  ·cases mkv g ((cs.drop off).take n) <;> rfl
  ·rfl
 | _ => rfl
def xI2 (es : Nat) : AV → AV → Option AV
 | .sl _ n cs,.int _ i => if 0 ≤ i ∧ i.toNat < n then some (.vptr cs (i.toNat * es)) else none
 | .own _ id off n es',.int _ i => if 0 ≤ i ∧ i.toNat < n ∧ es' = es then some (.ptr id (off + i.toNat * es)) else none
 | _,_ => none
theorem xMa {es n : Nat} {z : Bool} {cs : List AV} {k : IntKind} {i : Int} (h0 : 0 ≤ i) (h : i < n) : xI2 es (.sl z n cs) (.int k i) = some (.vptr cs (i.toNat * es)) := if_pos ⟨h0,by omega⟩
theorem xI3 {es n id off : Nat} {z : Bool} {k : IntKind} {i : Int} (h0 : 0 ≤ i) (h : i < n) : xI2 es (.own z id off n es) (.int k i) = some (.ptr id (off + i.toNat * es)) := if_pos ⟨h0,by omega,rfl⟩
theorem xO0 (es : Nat) (x i : Arg) : xAb R F H (.iaddr es x i) = xC4 H (xI2 es (opv F x) (opv F i)) := by
 simp only [xAb]
 cases opv F x with
 | sl z n cs =>
  cases opv F i with
  | int k j =>
   simp only [xA7,xI2,xC4]
   by_cases h : 0 ≤ j
   ·by_cases h2 : j.toNat < n <;> simp [h,h2]
   ·simp [h]
  | _ => rfl
 | own z id off n es' =>
  cases opv F i with
  | int k j =>
   simp only [xA7,xI2,xC4]
   by_cases h : 0 ≤ j
   ·by_cases h2 : j.toNat < n
    ·by_cases h3 : es' = es <;> simp [h,h2,h3]
    ·simp [h,h2]
   ·simp [h]
  | _ => rfl
 | _ => cases opv F i <;> simp [xI2,xC4,xA7] <;> split <;> simp_all
def yBK (i : Nat) : AV → Option AV
 | .tup vs => vs[i]?
 | _ => none
theorem xO1 (i : Nat) (vs : List AV) : yBK i (.tup vs) = vs[i]? := rfl
theorem xWs (i : Nat) (x : Arg) : xAb R F H (.ext i x) = xC4 H (yBK i (opv F x)) := by
 simp only [xAb]
 cases opv F x with
 | tup vs => simp only [yBK,xC4]; cases vs[i]? <;> rfl
 | _ => rfl
def yBL : AV → Option AV
 | .sl _ n _ => some (.int .i64 n)
 | .own _ _ _ n _ => some (.int .i64 n)
 | _ => none
theorem xSh (z : Bool) (n : Nat) (cs : List AV) : yBL (.sl z n cs) = some (.int .i64 n) := rfl
theorem xO2 (z : Bool) (id off n es : Nat) : yBL (.own z id off n es) = some (.int .i64 n) := rfl
theorem xWt (x : Arg) : xAb R F H (.len x) = xC4 H (yBL (opv F x)) := by
 simp only [xAb]
 cases opv F x <;> rfl
def xZN (fz : Bool) (es bytes : Nat) (H : Heap) (x : AV) : Option (Nat × List AV) → Option (AV × Heap)
 | none => none
 | some (m,ys) => match x with
  | .sl true _ _ => if m * bytes ≤ xBd ∧ m ≤ xBd then xFs fz (m == 0) m es ys H else none
  | .own z id off n es' => match H[id]? with
   | some (.cells false _ cs) => if off = 0 ∧ es' = es ∧ n * es ≤ cs.length ∧ (n + m) * bytes ≤ xBd ∧ n + m ≤ xBd then
     some (.own (z && m == 0) H.length 0 (n + m) es,H.set id .dead ++ [.cells false (z && m == 0) (cs.take (n * es) ++ ys)]) else none
   | _ => none
  | _ => none
theorem xMb (fz : Bool) (es bytes : Nat) (x y : Arg) : xAb R F H (.append fz es bytes x y) = xZN fz es bytes H (opv F x) (src H es (opv F y)) := by
 simp only [xAb,xZN]
 cases src H es (opv F y) <;> rfl
theorem xO3 {fz : Bool} {es bytes n m : Nat} {cs ys : List AV} (h : m * bytes ≤ 140737488355328) (h2 : m ≤ 140737488355328) : xZN fz es bytes H (.sl true n cs) (some (m,ys)) = xFs fz (m == 0) m es ys H := if_pos ⟨h,h2⟩
def xXG (es bytes n m : Nat) (H : Heap) (z : Bool) (id : Nat) (ys : List AV) : Option Blk → Option (AV × Heap)
 | some (.cells false _ cs) => if n * es ≤ cs.length ∧ (n + m) * bytes ≤ xBd ∧ n + m ≤ xBd then
   some (.own (z && m == 0) H.length 0 (n + m) es,H.set id .dead ++ [.cells false (z && m == 0) (cs.take (n * es) ++ ys)]) else none
 | _ => none
theorem xO4 (fz : Bool) (es bytes n m id : Nat) (z : Bool) (ys : List AV) : xZN fz es bytes H (.own z id 0 n es) (some (m,ys)) = xXG es bytes n m H z id ys H[id]? := by
 simp only [xZN,xXG]
 split
 ·rename_i z' cs hb
  by_cases h : n * es ≤ cs.length ∧ (n + m) * bytes ≤ xBd ∧ n + m ≤ xBd
  ·rw [if_pos h,if_pos ⟨trivial,trivial,h⟩]
  ·rw [if_neg h,if_neg (fun g => h g.2.2)]
 ·rename_i hne
  cases hb : H[id]? with
  | none => rfl
  | some b => cases b with
   | cells fz z cs => cases fz with
    | false => exact (hne _ _ hb).elim
    | true => rfl
   | _ => rfl
theorem xHt {es bytes n m id : Nat} {z z' : Bool} {ys cs : List AV} (h : n * es ≤ cs.length) (h2 : (n + m) * bytes ≤ 140737488355328) (h3 : n + m ≤ 140737488355328) : xXG es bytes n m H z id ys (some (.cells false z' cs)) =
  some (.own (z && m == 0) H.length 0 (n + m) es,H.set id .dead ++ [.cells false (z && m == 0) (cs.take (n * es) ++ ys)]) := if_pos ⟨h,h2,h3⟩
theorem xWu {es n : Nat} {z : Bool} {cs : List AV} (h : cs.length = n * es) : src H es (.sl z n cs) = some (n,cs) := if_pos h
def yBM (off n es : Nat) : Option Blk → Option (Nat × List AV)
 | some (.cells _ _ cs) => if off + n * es ≤ cs.length then some (n,(cs.drop off).take (n * es)) else none
 | _ => none
theorem xSi (es n id off : Nat) (z : Bool) : src H es (.own z id off n es) = yBM off n es H[id]? := by
 simp only [src,yBM]
 cases H[id]? with
 | none => rfl
 | some b => cases b <;> simp
theorem xI4 {es n off : Nat} {fz z : Bool} {cs : List AV} (h : off + n * es ≤ cs.length) : yBM off n es (some (.cells fz z cs)) = some (n,(cs.drop off).take (n * es)) := if_pos h
def xSj (z : List AV) (bytes id off k es m : Nat) (H : Heap) : Option Blk → Option (AV × Heap)
 | some (.cells false _ cs) => if off = 0 ∧ es = z.length ∧ k * z.length ≤ cs.length ∧ (k + m) * bytes ≤ xBd ∧ k + m ≤ xBd ∧ 0 < m ∧ z.all AV.isCell = true then
   some (.own false H.length 0 (k + m) z.length,H.set id .dead ++ [.cells false false (cs.take (k * z.length) ++ xDl z m)]) else none
 | _ => none
def xGB (z : List AV) (bytes : Nat) (H : Heap) : AV → AV → Option (AV × Heap)
 | .sl true _ _,.int _ m => if 0 ≤ m ∧ m.toNat * bytes ≤ xBd ∧ m.toNat ≤ xBd ∧ z.all AV.isCell = true then xFs false (m.toNat == 0) m.toNat z.length (xDl z m.toNat) H else none
 | .own false id off k es,.int _ m => if 0 ≤ m then xSj z bytes id off k es m.toNat H H[id]? else none
 | _,_ => none
theorem xNP (z : List AV) (bytes id off k es m : Nat) (H : Heap) (b : Option Blk) : (match b with
   | some (.cells false _ cs) => if off = 0 ∧ es = z.length ∧ k * z.length ≤ cs.length ∧ (k + m) * bytes ≤ xBd ∧ k + m ≤ xBd ∧ 0 < m ∧ z.all AV.isCell = true then
     some (AV.own false H.length 0 (k + m) z.length,H.set id .dead ++ [.cells false false (cs.take (k * z.length) ++ xDl z m)]) else none
   | _ => none) = xSj z bytes id off k es m H b := by
 rcases b with _ | b
 ·rfl
 ·cases b with
  | cells fz zz cs => cases fz <;> rfl
  | _ => rfl
theorem xI5 (z : List AV) (bytes : Nat) (x n : Arg) : xAb R F H (.appendz z bytes x n) = xGB z bytes H (opv F x) (opv F n) := by
 simp only [xAb]
 cases hn : opv F n with
 | int k m =>
  simp only [xA7]
  by_cases h : 0 ≤ m
  ·cases hx : opv F x with
   | sl zz nn cs => cases zz <;> simp [xGB,h]
   | own zz id off kk es =>
    cases zz with
    | true => simp [xGB,h]
    | false => simp only [h,if_true,xGB]; exact xNP _ _ _ _ _ _ _ _ _
   | _ => simp [xGB,h]
  ·cases hx : opv F x with
   | sl zz nn cs => cases zz <;> simp [xGB,h]
   | own zz id off kk es => cases zz <;> simp [xGB,h]
   | _ => simp [xGB,h]
 | _ =>
  cases hx : opv F x with
  | sl zz nn cs => cases zz <;> simp [xGB,xA7]
  | own zz id off kk es => cases zz <;> simp [xGB,xA7]
  | _ => simp [xGB,xA7]
theorem xSk {z : List AV} {bytes id off k es : Nat} {kk : IntKind} {m : Int} (h0 : 0 ≤ m) : xGB z bytes H (.own false id off k es) (.int kk m) = xSj z bytes id off k es m.toNat H H[id]? := if_pos h0
theorem xNQ {z : List AV} {bytes id k m : Nat} {zz : Bool} {cs : List AV} (h1 : k * z.length ≤ cs.length) (h2 : (k + m) * bytes ≤ 140737488355328) (h3 : k + m ≤ 140737488355328) (h4 : 0 < m) (h5 : z.all AV.isCell = true) :
  xSj z bytes id 0 k z.length m H (some (.cells false zz cs)) = some (.own false H.length 0 (k + m) z.length,H.set id .dead ++ [.cells false false (cs.take (k * z.length) ++ xDl z m)]) := if_pos ⟨rfl,rfl,h1,h2,h3,h4,h5⟩
def yBN : AV → AV → Option AV
 | .int k a,.int _ b => some (.int k (min a b))
 | _,_ => none
theorem xO5 (k k' : IntKind) (a b : Int) : yBN (.int k a) (.int k' b) = some (.int k (min a b)) := rfl
theorem xSl (x y : Arg) : xAb R F H (.mini x y) = xC4 H (yBN (opv F x) (opv F y)) := by
 simp only [xAb]
 cases opv F x with
 | int k a => cases opv F y with
  | int k' b => simp only [yBN,xC4]; congr 3; split <;> omega
  | _ => rfl
 | _ => rfl
theorem xWv (z : List AV) : xDl z 0 = [] := rfl
theorem xWw (z : List AV) : xDl z 1 = z ++ ([]) := rfl
theorem xWx (z : List AV) : xDl z 2 = z ++ (z ++ ([])) := rfl
theorem xWy (z : List AV) : xDl z 3 = z ++ (z ++ (z ++ ([]))) := rfl
theorem xWz (z : List AV) : xDl z 4 = z ++ (z ++ (z ++ (z ++ ([])))) := rfl
theorem xWA (z : List AV) : xDl z 5 = z ++ (z ++ (z ++ (z ++ (z ++ ([]))))) := rfl
theorem xSm (z : List AV) : xDl z 11 = z ++ (z ++ (z ++ (z ++ (z ++ (z ++ (z ++ (z ++ (z ++ (z ++ (z ++ ([]))))))))))) := rfl
theorem xCV (d : Nat) (k : IntKind) (n : Int) : frz d H (.int k n) = some (.int k n) := by cases d <;> rfl
theorem xFh (d : Nat) (b : Bool) : frz d H (.bool b) = some (.bool b) := by cases d <;> rfl
theorem xSn (d : Nat) (b : ByteArray) : frz d H (.str b) = some (.str b) := by cases d <;> rfl
theorem xDY (d : Nat) (z : Bool) (n : Nat) (cs : List AV) : frz d H (.sl z n cs) = some (.sl z n cs) := by cases d <;> rfl
theorem xSo (d : Nat) (cs : List AV) : frz (d + 1) H (.agg cs) = (cs.mapM (frz d H)).map AV.agg := rfl
theorem xSp (d : Nat) (cs : List AV) : frz (d + 1) H (.tup cs) = (cs.mapM (frz d H)).map AV.tup := rfl
def yBO (d : Nat) (H : Heap) (z : Bool) (off n es : Nat) : Option Blk → Option AV
 | some (.cells _ _ cs) => if off + n * es ≤ cs.length then slK z n (((cs.drop off).take (n * es)).mapM (frz d H)) else none
 | _ => none
theorem xCi (d : Nat) (z : Bool) (id off n es : Nat) : frz (d + 1) H (.own z id off n es) = yBO d H z off n es H[id]? := by
 simp only [frz,yBO]
 cases H[id]? with
 | none => rfl
 | some b => cases b with
  | cells fz z' cs =>
   simp only
   split
   ·cases ((cs.drop off).take (n * es)).mapM (frz d H) <;> rfl
   ·rfl
  | _ => rfl
theorem xB1 {d off n es : Nat} {z fz z' : Bool} {cs : List AV} (h : off + n * es ≤ cs.length) : yBO d H z off n es (some (.cells fz z' cs)) = slK z n (((cs.drop off).take (n * es)).mapM (frz d H)) := if_pos h
theorem xNR (d : Nat) (k : IntKind) (n : Int) : bor d H (.int k n) = [] := by cases d <;> rfl
theorem xKy (d : Nat) (b : Bool) : bor d H (.bool b) = [] := by cases d <;> rfl
theorem xSq (d : Nat) (b : ByteArray) : bor d H (.str b) = [] := by cases d <;> rfl
def yBP (d : Nat) (H : Heap) (off : Nat) : Option Blk → Option AV
 | some (.cells _ _ cs) => (cs.mapM (frz d H)).map fun cs' => .vptr cs' off
 | _ => none
theorem xSr (d i o : Nat) : frz (d + 1) H (.ptr i o) = yBP d H o H[i]? := by
 simp only [frz,yBP]
 cases H[i]? with
 | none => rfl
 | some b => cases b <;> rfl
theorem xI6 (d : Nat) (o : Nat) (fz z : Bool) (cs : List AV) : yBP d H o (some (.cells fz z cs)) = (cs.mapM (frz d H)).map fun cs' => .vptr cs' o := rfl
def xXH (d : Nat) (H : Heap) : Option Blk → List Nat
 | some (.cells _ _ cs) => cs.flatMap (bor d H)
 | _ => []
theorem xSs (d i o : Nat) : bor (d + 1) H (.ptr i o) = i :: xXH d H H[i]? := by
 simp only [bor,xXH]
 cases H[i]? with
 | none => rfl
 | some b => cases b <;> rfl
theorem xHu (d : Nat) (fz z : Bool) (cs : List AV) : xXH d H (some (.cells fz z cs)) = cs.flatMap (bor d H) := rfl
def xZO : Option Blk → Bool
 | some (.cells true _ _) => true
 | _ => false
theorem xI7 (i : Nat) : xFG H i = xZO H[i]? := by
 simp only [xFG,xZO]
 cases H[i]? with
 | none => rfl
 | some b => cases b with
  | cells fz z cs => cases fz <;> rfl
  | _ => rfl
theorem xWB (d : Nat) (z : Bool) (n : Nat) (cs : List AV) : bor d H (.sl z n cs) = [] := by cases d <;> rfl
theorem xSt (d : Nat) (cs : List AV) : bor (d + 1) H (.agg cs) = cs.flatMap (bor d H) := rfl
def yDI (d : Nat) (H : Heap) (off n es : Nat) : Option Blk → List Nat
 | some (.cells _ _ cs) => ((cs.drop off).take (n * es)).flatMap (bor d H)
 | _ => []
theorem xI8 (d off n es : Nat) (fz z : Bool) (cs : List AV) : yDI d H off n es (some (.cells fz z cs)) = ((cs.drop off).take (n * es)).flatMap (bor d H) := rfl
def yBn (args : List AV) (H : Heap) : Option AV → Option (AV × Heap)
 | some r => some (r,if xAN r = true then H else fzIds H (args.flatMap (bor frzN H)))
 | none => none
theorem xMc (args : List AV) (r : AV) : yBn args H (some r) = some (r,if xAN r = true then H else fzIds H (args.flatMap (bor frzN H))) := rfl
def yBQ (R : Rec) (f : Nat) (args : List AV) (H : Heap) : Option (List AV) → Option (AV × Heap)
 | some args' => yBn args H (R.pcall f args')
 | none => none
theorem xMd (f : Nat) (args args' : List AV) : yBQ R f args H (some args') = yBn args H (R.pcall f args') := rfl
theorem xMe (f : Nat) (args : List AV) : xBK R f args H = yBQ R f args H (args.mapM (frz frzN H)) := by
 simp only [xBK,yBQ]
 cases args.mapM (frz frzN H) with
 | none => rfl
 | some args' => simp only [yBn]; cases R.pcall f args' <;> rfl
theorem xSu (f : Nat) (args : List Arg) : xAb R F H (.call f args) = xBK R f (args.map (opv F)) H := rfl
theorem xO6 (f : Arg) (args : List Arg) : xAb R F H (.icall f args) = R.icall (opv F f) (args.map (opv F)) H := rfl
def xI9 (args : List AV) (H : Heap) : Option (AV × Heap) → Option (AV × Heap)
 | some (r,_) => if quietCall r H args = true then some (r,H) else none
 | none => none
theorem xHv (args : List AV) (r : AV) (H' : Heap) : xI9 args H (some (r,H')) = if quietCall r H args = true then some (r,H) else none := rfl
theorem xSv (f : Nat) (args : List Arg) : xA9 R F H (.call f args) = xI9 (args.map (opv F)) H (xBK R f (args.map (opv F)) H) := by
 simp only [xA9,xAy,xI9]
 cases xBK R f (args.map (opv F)) H with
 | none => rfl
 | some r => obtain ⟨r,H'⟩ := r; simp only; split <;> rfl
def xNS (R : Rec) (args : List AV) (H : Heap) : AV → Option (AV × Heap)
 | .func g caps => xI9 (args ++ caps) H (xBK R g (args ++ caps) H)
 | _ => none
theorem xGh (args : List AV) (g : Nat) (caps : List AV) : xNS R args H (.func g caps) = xI9 (args ++ caps) H (xBK R g (args ++ caps) H) := rfl
theorem xO7 (f : Arg) (args : List Arg) : xA9 R F H (.fcall f args) = xNS R (args.map (opv F)) H (opv F f) := by
 simp only [xA9,xAy,xI9,xNS]
 cases opv F f with
 | func g caps =>
  simp only
  cases xBK R g (args.map (opv F) ++ caps) H with
  | none => rfl
  | some r => obtain ⟨r,H'⟩ := r; simp only; split <;> rfl
 | _ => rfl
theorem xWC (v : AV) : xA9 R F H (.box (.c v)) = if v.cells.all AV.isCell = true then some (.any,H) else none := by
 simp only [xA9,xAy]
 split <;> rfl
def xKz (H : Heap) : Option (AV × Heap) → Option (AV × Heap)
 | some (v,_) => some (v,H)
 | none => none
theorem xMf (v : AV) (H' : Heap) : xKz H (some (v,H')) = some (v,H) := rfl
theorem xEo (op : AOp) (h : xAy R F H op = (xAb R F H op).map (·.1)) : xA9 R F H op = xKz H (xAb R F H op) := by
 simp only [xA9,h,xKz]
 cases xAb R F H op <;> rfl
theorem xWD (x : Arg) : xA9 R F H (.mov x) = xKz H (xAb R F H (.mov x)) := xEo _ rfl
theorem xSw (c a b : Arg) : xA9 R F H (.pick c a b) = xKz H (xAb R F H (.pick c a b)) := xEo _ rfl
theorem xSx (g : Bool) (n : Nat) (p : Arg) : xA9 R F H (.load g n p) = xKz H (xAb R F H (.load g n p)) := xEo _ rfl
theorem xMg (x : Arg) : xA9 R F H (.nilchk x) = xKz H (xAb R F H (.nilchk x)) := xEo _ rfl
theorem xWE (op : BinOp) (x y : Arg) : xA9 R F H (.bin op x y) = xKz H (xAb R F H (.bin op x y)) := xEo _ rfl
theorem xSy (k : IntKind) (x : Arg) : xA9 R F H (.conv k x) = xKz H (xAb R F H (.conv k x)) := xEo _ rfl
theorem xO8 (es : Nat) (x : Arg) (lo hi mx : Option Arg) : xA9 R F H (.slice es x lo hi mx) = xKz H (xAb R F H (.slice es x lo hi mx)) := xEo _ rfl
theorem xO9 (o : Nat) (x : Arg) : xA9 R F H (.faddr o x) = xKz H (xAb R F H (.faddr o x)) := xEo _ rfl
theorem xPa (es : Nat) (x i : Arg) : xA9 R F H (.iaddr es x i) = xKz H (xAb R F H (.iaddr es x i)) := xEo _ rfl
theorem xWF (x : Arg) : xA9 R F H (.len x) = xKz H (xAb R F H (.len x)) := xEo _ rfl
def xMh (H : Heap) : Option AV → Option (AV × Heap)
 | some v => some (v,H)
 | none => none
theorem xJa (v : AV) : xMh H (some v) = some (v,H) := rfl
def xHw (rs : List ARes) : Option (AExit × St) → Option (AV × Heap)
 | some (.normal,s) => xMh s.H (xA2 rs s)
 | some (.ret,s) => xMh s.H (xA2 rs s)
 | _ => none
theorem xGi (rs : List ARes) (F : List AV) (H : Heap) : xHw rs (some (.normal,⟨F,H⟩)) = xMh H (xA2 rs ⟨F,H⟩) := rfl
theorem xHx (rs : List ARes) (F : List AV) (H : Heap) : xHw rs (some (.ret,⟨F,H⟩)) = xMh H (xA2 rs ⟨F,H⟩) := rfl
def pads : Nat → List AV
 | 0 => []
 | n + 1 => .tup [] :: pads n
theorem xSz : ∀ n,List.replicate n (AV.tup []) = pads n
 | 0 => rfl
 | n + 1 => by rw [List.replicate_succ,xSz n]; rfl
theorem xAj (n : Nat) (code : ACode) (rs : List ARes) (args : List AV) : xAS R ⟨n,code,rs⟩ args H = xHw rs (run R code ⟨args ++ pads (n - args.length),H⟩) := by
 rw [← xSz]
 simp only [xAS,xHw,xRr,xMh]
 cases h : run R code ⟨args ++ List.replicate (n - args.length) (.tup []),H⟩ with
 | none => rfl
 | some r =>
  obtain ⟨e,s⟩ := r
  cases e with
  | exit i => rfl
  | _ => simp only; cases xA2 rs s <;> rfl
def xPb : Option (AV × Heap) → Option AV
 | some (r,H') => frz frzN H' r
 | none => none
theorem xHy (r : AV) (H' : Heap) : xPb (some (r,H')) = frz frzN H' r := rfl
theorem xAe (fn : AFunc) (args : List AV) : xAE R fn args = xPb (xAS R fn args []) := by
 simp only [xAE,xPb]
 cases xAS R fn args [] <;> rfl
def xXI (g : Bool) : Option (List AV) → Option AV
 | some cs => mkv g cs
 | none => none
theorem xJb (g : Bool) (cs : List AV) : xXI g (some cs) = mkv g cs := rfl
theorem xNT (t : Nat) : xQP ⟨F,H⟩ (.tmp t) = some (F.getD t .any) := rfl
theorem xPc (t : Nat) (g : Bool) (n : Nat) : xQP ⟨F,H⟩ (.cell t g n) = xXI g (rd H (F.getD t .any) n) := by
 simp only [xQP,xXI]
 cases rd H (F.getD t .any) n <;> rfl
theorem xMi : xA2 [] s = some (.tup []) := rfl
theorem xHz (r : ARes) : xA2 [r] s = xQP s r := rfl
def yBR (s : St) (rs : List ARes) : Option AV → Option (List AV)
 | some v => (xNJ s rs).map (v :: ·)
 | none => none
theorem xMj (rs : List ARes) (v : AV) : yBR s rs (some v) = (xNJ s rs).map (v :: ·) := rfl
theorem xPd : xNJ s [] = some [] := rfl
theorem xMk (r : ARes) (rs : List ARes) : xNJ s (r :: rs) = yBR s rs (xQP s r) := by
 simp only [xNJ,yBR]
 cases xQP s r <;> rfl
theorem xMl (r r' : ARes) (rs : List ARes) : xA2 (r :: r' :: rs) s = (xNJ s (r :: r' :: rs)).map .tup := rfl
end
section
variable {R : Rec} {F : List AV} {H : Heap} {s : St}
def xSA : Option (AV × Heap) → Option (AV × List Blk)
 | some (r,H') => (xEM H' r).map fun (v,B) => (v,B.map (·.2))
 | none => none
theorem xSB (f : Nat) (args : List AV) : xDy R f args = xSA (R.icall (.func f []) args []) := by
 unfold xDy xSA
 cases R.icall (.func f []) args [] <;> rfl
theorem xHA (r : AV) (H' : Heap) : xSA (some (r,H')) = (xEM H' r).map fun (v,B) => (v,B.map (·.2)) := rfl
def ocK (H : Heap) (ids : List Nat) : Option (AV × List Blk) → Option (AV × Heap)
 | some (v,B) => some (xCH H.length v,fzIds H ids ++ B)
 | none => none
def xSC (R : Rec) (f : Nat) (H : Heap) (ids : List Nat) : Option (List AV) → Option (AV × Heap)
 | some args' => ocK H ids (xDy R f args')
 | none => none
theorem xPe (f : Nat) (args : List Arg) : xAb R F H (.ocall f args) = xSC R f H ((args.map (opv F)).flatMap (bor frzN H)) ((args.map (opv F)).mapM (frz frzN H)) := by
 simp only [xAb,xSC]
 cases (args.map (opv F)).mapM (frz frzN H) with
 | none => rfl
 | some args' =>
  simp only [ocK]
  cases xDy R f args' <;> rfl
theorem xHB (f : Nat) (ids : List Nat) (args' : List AV) : xSC R f H ids (some args') = ocK H ids (xDy R f args') := rfl
theorem xPf (ids : List Nat) (v : AV) (B : List Blk) : ocK H ids (some (v,B)) = some (xCH H.length v,fzIds H ids ++ B) := rfl
def xZP (H : Heap) (ids : List Nat) : Option (AV × Heap) → Option (AV × Heap)
 | some (v,B) => some (xCH H.length v,fzIds H ids ++ B.map (xCI H.length))
 | none => none
def xNU (R : Rec) (f : Nat) (H : Heap) (ids : List Nat) : Option (List AV) → Option (AV × Heap)
 | some args' => xZP H ids (xDz R f args')
 | none => none
theorem xMm (f : Nat) (args : List Arg) : xAb R F H (.ocallw f args) = xNU R f H ((args.map (opv F)).flatMap (bor frzN H)) ((args.map (opv F)).mapM (frz frzN H)) := by
 simp only [xAb,xNU]
 cases (args.map (opv F)).mapM (frz frzN H) with
 | none => rfl
 | some args' =>
  simp only [xZP]
  cases xDz R f args' <;> rfl
theorem xGj (f : Nat) (ids : List Nat) (args' : List AV) : xNU R f H ids (some args') = xZP H ids (xDz R f args') := rfl
theorem xSD (ids : List Nat) (v : AV) (B : Heap) : xZP H ids (some (v,B)) = some (xCH H.length v,fzIds H ids ++ B.map (xCI H.length)) := rfl
theorem xSE {f : Nat} {args : List AV} {v : AV} {B : Heap} (h : R.icall (.func f []) args [] = some (v,B)) (h1 : xRq v = true) : xDz R f args = some (v,B) := by
 unfold xDz
 rw [h]
 exact if_pos h1
def t1B (z : Bool) (id off n es : Nat) (B : List (Nat × Blk)) : Option Blk → Option (AV × List (Nat × Blk))
 | some (.cells false z' cs) => if cs.all xCr = true then some (.own z B.length off n es,B ++ [(id,.cells false z' cs)]) else none
 | _ => none
def t1I (z : Bool) (id off n es : Nat) (B : List (Nat × Blk)) (b : Option Blk) : Option Nat → Option (AV × List (Nat × Blk))
 | some k => some (.own z k off n es,B)
 | none => t1B z id off n es B b
theorem xMn (H : Heap) (z : Bool) (id off n es : Nat) (B : List (Nat × Blk)) : xKr H (.own z id off n es) B = t1I z id off n es B H[id]? (B.findIdx? (fun p => p.1 == id)) := by
 simp only [xKr,t1I]
 cases B.findIdx? (fun p => p.1 == id) with
 | some k => rfl
 | none =>
  simp only [t1B]
  cases H[id]? with
  | none => rfl
  | some b => cases b with
   | cells fz z' cs => cases fz <;> rfl
   | _ => rfl
theorem xSF (z : Bool) (id off n es : Nat) (B : List (Nat × Blk)) (z' : Bool) (cs : List AV) : t1I z id off n es B (some (.cells false z' cs)) none = if cs.all xCr = true then some (.own z B.length off n es,B ++ [(id,.cells false z' cs)]) else none := rfl
theorem xHC (H : Heap) (z : Bool) (id off n es : Nat) : xEM H (.own z id off n es) = xKr H (.own z id off n es) [] := rfl
theorem xMo {α : Type} (p : α → Bool) : ([] : List α).findIdx? p = none := rfl
theorem xJc (pl : List Pr) (s : St) : xBj [] pl s = adoptL pl s := rfl
def xU8 (e : Pr) : Option (St × List Pr) → Option (St × List Pr)
 | some (s,l) => some (s,e :: l)
 | none => none
theorem xJd (e : Pr) (s : St) (l : List Pr) : xU8 e (some (s,l)) = some (s,e :: l) := rfl
def xWG (R : Rec) (rest : List AOper) (s : St) : Option Nat → Option (AV × List Blk) → Option (St × List Pr)
 | some t,some (v,B) => xU8 (some (t,v,B)) (xAD R rest ⟨s.F.set t (xEv v),s.H⟩)
 | _,_ => none
def xSG (R : Rec) (rest : List AOper) : Option St → Option (St × List Pr)
 | some s => xU8 none (xAD R rest s)
 | none => none
theorem xHD : xAD R [] s = some (s,[]) := rfl
theorem xGk (o : AOper) (rest : List AOper) : xAD R (o :: rest) s = if xA4 o.op = true then xWG R rest s o.dst (xDm R s.F o.op) else xSG R rest (xAV R o s) := by
 simp only [xAD]
 split
 ·cases o.dst with
  | none => rfl
  | some t => cases xDm R s.F o.op with
   | none => rfl
   | some r =>
    obtain ⟨v,B⟩ := r
    simp only [xWG]
    cases xAD R rest ⟨s.F.set t (xEv v),s.H⟩ <;> rfl
 ·cases xAV R o s with
  | none => rfl
  | some s1 =>
   simp only [xSG]
   cases xAD R rest s1 <;> rfl
theorem xHE (rest : List AOper) (s : St) : xSG R rest (some s) = xU8 none (xAD R rest s) := rfl
theorem xJe (x : Arg) : xA4 (.mov x) = false := rfl
theorem xHF (g : Bool) (n : Nat) (x : Arg) : xA4 (.load g n x) = false := rfl
theorem xFi (x : Arg) : xA4 (.nilchk x) = false := rfl
theorem xGl (o : Nat) (x : Arg) : xA4 (.faddr o x) = false := rfl
end
section
variable {R : Rec} {F : List AV} {H : Heap}
def yBo (g : Bool) (es len : Nat) : AV → AV → Option AV
 | .agg cs,.int _ i => if 0 ≤ i ∧ i.toNat < len ∧ i.toNat * es + es ≤ cs.length then mkv g ((cs.drop (i.toNat * es)).take es) else none
 | _,_ => none
theorem xPg {g : Bool} {es len : Nat} {cs : List AV} {k : IntKind} {i : Int} (h0 : 0 ≤ i) (h : i < len) (h2 : i.toNat * es + es ≤ cs.length) : yBo g es len (.agg cs) (.int k i) = mkv g ((cs.drop (i.toNat * es)).take es) := if_pos ⟨h0,by omega,h2⟩
theorem xWH (g : Bool) (es len : Nat) (x i : Arg) : xAb R F H (.idx g es len x i) = xC4 H (yBo g es len (opv F x) (opv F i)) := by
 simp only [xAb]
 cases opv F x with
 | agg cs => cases opv F i with
  | int k n =>
   by_cases h0 : 0 ≤ n
   ·have e : xA7 (.int k n) = some n.toNat := by simp [xA7,h0]
    simp only [e,yBo,h0,true_and]
    by_cases c : n.toNat < len ∧ n.toNat * es + es ≤ cs.length
    ·rw [if_pos c,if_pos c]
     cases mkv g ((cs.drop (n.toNat * es)).take es) <;> rfl
    ·rw [if_neg c,if_neg c]; rfl
   ·have e : xA7 (.int k n) = none := by simp [xA7,h0]
    simp only [e,yBo,h0,false_and,if_false,xC4]
  | _ => rfl
 | _ => rfl
def xJf (es len : Nat) : AV → AV → Option AV
 | .ptr id off,.int _ i => if 0 ≤ i ∧ i.toNat < len then some (.ptr id (off + i.toNat * es)) else none
 | .vptr cs off,.int _ i => if 0 ≤ i ∧ i.toNat < len then some (.vptr cs (off + i.toNat * es)) else none
 | _,_ => none
theorem xJg {es len id off : Nat} {k : IntKind} {i : Int} (h0 : 0 ≤ i) (h : i < len) : xJf es len (.ptr id off) (.int k i) = some (.ptr id (off + i.toNat * es)) := if_pos ⟨h0,by omega⟩
theorem xPh (es len : Nat) (x i : Arg) : xAb R F H (.arrat es len x i) = xC4 H (xJf es len (opv F x) (opv F i)) := by
 simp only [xAb]
 cases opv F x with
 | ptr id off => cases opv F i with
  | int k n =>
   by_cases h0 : 0 ≤ n
   ·have e : xA7 (.int k n) = some n.toNat := by simp [xA7,h0]
    simp only [e,xJf,h0,true_and]
    by_cases c : n.toNat < len
    ·rw [if_pos c,if_pos c]; rfl
    ·rw [if_neg c,if_neg c]; rfl
   ·have e : xA7 (.int k n) = none := by simp [xA7,h0]
    simp only [e,xJf,h0,false_and,if_false,xC4]
  | _ => rfl
 | vptr cs off => cases opv F i with
  | int k n =>
   by_cases h0 : 0 ≤ n
   ·have e : xA7 (.int k n) = some n.toNat := by simp [xA7,h0]
    simp only [e,xJf,h0,true_and]
    by_cases c : n.toNat < len
    ·rw [if_pos c,if_pos c]; rfl
    ·rw [if_neg c,if_neg c]; rfl
   ·have e : xA7 (.int k n) = none := by simp [xA7,h0]
    simp only [e,xJf,h0,false_and,if_false,xC4]
  | _ => rfl
 | _ => rfl
def xZQ : AV → Option AV
 | .str s => some (.int .i64 s.size)
 | _ => none
theorem xMp (s : ByteArray) : xZQ (.str s) = some (.int .i64 s.size) := rfl
theorem xSH (x : Arg) : xAb R F H (.slen x) = xC4 H (xZQ (opv F x)) := by
 simp only [xAb]
 cases opv F x <;> rfl
theorem xPi (es len : Nat) (x i : Arg) : xA9 R F H (.arrat es len x i) = xKz H (xAb R F H (.arrat es len x i)) := xEo _ rfl
theorem xSI (x : Arg) : xA9 R F H (.slen x) = xKz H (xAb R F H (.slen x)) := xEo _ rfl
end
end Go.Abs
