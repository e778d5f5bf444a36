/- The interpreter's equations in the form that simp walks by: one equation for each construct,told apart by what has been computed already. -/
import Derived.Test.YtijmhicopfphnaaDoorAbsLim
namespace Go.Abs
set_option linter.unusedVariables false
set_option linter.unusedSimpArgs false
theorem xLt : ∀ (scr : List Nat) (F : List AV) (i : Nat),(xAH scr F)[i]? = if i ∈ scr then (F[i]?).map (fun _ => AV.any) else F[i]?
 | [],F,i => by simp [xAH]
 | j :: scr,F,i => by
  have := xLt scr (F.set j .any) i
  simp only [xAH,List.foldl_cons] at this ⊢
  rw [this]
  by_cases h : i = j
  ·subst h
   simp only [List.getElem?_set_self',List.mem_cons,true_or,if_true]
   cases F[i]? <;> simp
  ·have h' : ¬ j = i := fun e => h e.symm
   simp [List.getElem?_set,h,h']
theorem xTr (scr : List Nat) (F : List AV) : xAH scr (xAH scr F) = xAH scr F := by
 apply List.ext_getElem?
 intro i
 rw [xLt,xLt]
 split
 ·cases F[i]? <;> rfl
 ·rfl
section
variable {prog : Nat → Option AFunc}
theorem xXG (prog : Nat → Option AFunc) (n : Nat) : Tends (fix prog n) (fun _ => lim prog) :=
 ⟨fun f a v h => .all fun _ => xLP ((xL2 prog n).pcall f a v h),fun f a H v h => .all fun _ => xLP ((xL2 prog n).icall f a H v h),fun scr b s v h => .all fun _ => xLP ((xL2 prog n).loop scr b s v h)⟩
theorem Ev.const {p : Prop} (h : Ev fun _ => p) : p := let ⟨n,hn⟩ := h; hn n (Nat.le_refl n)
theorem xXH {α : Type} {a b : Option α} (h1 : ∀ v,a = some v → b = some v) (h2 : ∀ v,b = some v → a = some v) : a = b := by
 cases a with
 | some v => exact (h1 v rfl).symm
 | none =>
  cases b with
  | none => rfl
  | some v => exact h2 v rfl
theorem xAi {f : Nat} {fn : AFunc} (hf : prog f = some fn) (args : List AV) : (lim prog).pcall f args = xBK (lim prog) fn args := by
 refine xXH (fun v h => ?_) (fun v h => xQC hf h)
 obtain ⟨n,hn⟩ := xIW (p := fun m => (fix prog m).pcall f args) h
 have h1 : (xJE prog (fix prog n)).pcall f args = some v := hn (n + 1) (by omega)
 have h2 := (xGL (xXG prog n) prog).pcall f args v h1 |>.const
 simp only [xJE,hf] at h2
 exact h2
theorem xSm (f : AV) (args : List AV) (H : Heap) : (lim prog).icall f args H = xKd prog (lim prog) f args H := by
 refine xXH (fun v h => ?_) (fun v h => xQD h)
 obtain ⟨n,hn⟩ := xIW (p := fun m => (fix prog m).icall f args H) h
 have h1 : (xJE prog (fix prog n)).icall f args H = some v := hn (n + 1) (by omega)
 exact (xGL (xXG prog n) prog).icall f args H v h1 |>.const
theorem xLV (scr : List Nat) (b : ACode) (s : St) : (lim prog).loop scr b s = xNU (lim prog) scr b s := by
 refine xXH (fun v h => ?_) (fun v h => xTM h)
 obtain ⟨n,hn⟩ := xIW (p := fun m => (fix prog m).loop scr b s) h
 have h1 : (xJE prog (fix prog n)).loop scr b s = some v := hn (n + 1) (by omega)
 exact (xGL (xXG prog n) prog).loop scr b s v h1 |>.const
theorem xAB {f : Nat} {fn : AFunc} (hf : prog f = some fn) (caps args : List AV) (H : Heap) : (lim prog).icall (.func f caps) args H = xGp (lim prog) fn (args ++ caps) H := by
 rw [xSm]
 simp only [xKd,hf]
theorem xLJ (scr : List Nat) (b : ACode) (F : List AV) (H : Heap) : (lim prog).loop scr b ⟨F,H⟩ = (lim prog).loop scr b ⟨xAH scr F,H⟩ := by
 rw [xLV,xLV]
 unfold xNU
 simp only [xTr]
def xDR (R : Rec) (scr : List Nat) (b : ACode) : Option (AExit × St) → Option (AExit × St)
 | some (.normal,s) => R.loop scr b ⟨xAH scr s.F,s.H⟩
 | some (e,s) => some (e,⟨xAH scr s.F,s.H⟩)
 | none => none
theorem xAe (scr : List Nat) (b : ACode) (F : List AV) (H : Heap) (h : xAH scr F = F) : (lim prog).loop scr b ⟨F,H⟩ = xDR (lim prog) scr b (run (lim prog) b ⟨F,H⟩) := by
 rw [xLV]
 unfold xNU xDR
 simp only [h]
 split
 ·rename_i s' hs
  rw [hs]
  exact xLJ scr b s'.F s'.H
 ·rename_i e s' hne hs
  rw [hs]
  cases e with
  | normal => exact (hne rfl).elim
  | exit i => rfl
  | ret => rfl
 ·rename_i hs
  rw [hs]
theorem xCZ (scr : List Nat) (b : ACode) (F : List AV) (H : Heap) : run (lim prog) (.loop scr b) ⟨F,H⟩ = (lim prog).loop scr b ⟨xAH scr F,H⟩ := xLJ scr b F H
end
section
variable {R : Rec} {F : List AV} {H : Heap} {s : St}
def yAy (R : Rec) (b : ACode) : Option (AExit × St) → Option (AExit × St)
 | some (.normal,s) => run R b s
 | r => r
theorem xBi (a b : ACode) : run R (.seq a b) s = yAy R b (run R a s) := by
 simp only [run,yAy]
 split <;> simp_all
theorem xAk (b : ACode) (s : St) : yAy R b (some (.normal,s)) = run R b s := rfl
theorem xCv (b : ACode) (i : Nat) (s : St) : yAy R b (some (.exit i,s)) = some (.exit i,s) := rfl
theorem xDE (b : ACode) (s : St) : yAy R b (some (.ret,s)) = some (.ret,s) := rfl
theorem xEg (b : ACode) : yAy R b none = none := rfl
theorem xFz (b : ACode) {c : Prop} [Decidable c] (x y : Option (AExit × St)) : yAy R b (if c then x else y) = if c then yAy R b x else yAy R b y := by split <;> rfl
def yDg (R : Rec) (a b : ACode) (s : St) : AV → Option (AExit × St)
 | .bool t => if t = true then run R a s else run R b s
 | _ => none
theorem xAP (c : Arg) (a b : ACode) (F : List AV) (H : Heap) : run R (.cond c a b) ⟨F,H⟩ = yDg R a b ⟨F,H⟩ (opv F c) := by
 simp only [run,yDg]
 split <;> simp_all
theorem xAv (a b : ACode) (t : Bool) : yDg R a b s (.bool t) = if t = true then run R a s else run R b s := rfl
def xMn (id : Nat) : Option (AExit × St) → Option (AExit × St)
 | some (.exit i,s) => if i = id then some (.normal,s) else some (.exit i,s)
 | r => r
theorem xAD (id : Nat) (b : ACode) : run R (.block id b) s = xMn id (run R b s) := by
 simp only [run,xMn]
 split <;> simp_all
theorem xAQ (id i : Nat) (s : St) : xMn id (some (.exit i,s)) = if i = id then some (.normal,s) else some (.exit i,s) := rfl
theorem xAt (id : Nat) (s : St) : xMn id (some (.normal,s)) = some (.normal,s) := rfl
theorem xBa (id : Nat) (s : St) : xMn id (some (.ret,s)) = some (.ret,s) := rfl
theorem xB3 (id : Nat) : xMn id none = none := rfl
theorem xC0 (id : Nat) {c : Prop} [Decidable c] (x y : Option (AExit × St)) : xMn id (if c then x else y) = if c then xMn id x else xMn id y := by split <;> rfl
theorem xAC (scr : List Nat) (b : ACode) (F : List AV) (H : Heap) : xDR R scr b (some (.normal,⟨F,H⟩)) = R.loop scr b ⟨xAH scr F,H⟩ := rfl
theorem xBn (scr : List Nat) (b : ACode) (i : Nat) (F : List AV) (H : Heap) : xDR R scr b (some (.exit i,⟨F,H⟩)) = some (.exit i,⟨xAH scr F,H⟩) := rfl
theorem xDI (scr : List Nat) (b : ACode) (F : List AV) (H : Heap) : xDR R scr b (some (.ret,⟨F,H⟩)) = some (.ret,⟨xAH scr F,H⟩) := rfl
theorem xEh (scr : List Nat) (b : ACode) {c : Prop} [Decidable c] (x y : Option (AExit × St)) : xDR R scr b (if c then x else y) = if c then xDR R scr b x else xDR R scr b y := by split <;> rfl
def xZo : Option St → Option (AExit × St)
 | some s => some (.normal,s)
 | none => none
theorem xAx (s : St) : xZo (some s) = some (.normal,s) := rfl
theorem xEi : xZo none = none := rfl
theorem xFA {c : Prop} [Decidable c] (x y : Option St) : xZo (if c then x else y) = if c then xZo x else xZo y := by split <;> rfl
theorem xAr (ops : List AOper) : run R (.region ops) s = xZo (xBJ R ops s) := by
 simp only [run,xZo]
 cases xBJ R ops s <;> rfl
theorem xBZ : run R .skip s = some (.normal,s) := rfl
theorem xEj : run R .label s = some (.normal,s) := rfl
theorem xDM (i : Nat) : run R (.exit i) s = some (.exit i,s) := rfl
theorem xE2 : run R .ret s = some (.ret,s) := rfl
theorem xEk (b : ACode) : run R (.scope b) s = run R b s := rfl
theorem xEl : run R .stuck s = none := rfl
def yDh (R : Rec) (rest : List AOper) : Option St → Option St
 | some s => xBJ R rest s
 | none => none
theorem xAs : xBJ R [] s = some s := rfl
theorem xAl (o : AOper) (rest : List AOper) : xBJ R (o :: rest) s = yDh R rest (xEc R o s) := by
 simp only [xBJ,yDh]
 cases xEc R o s <;> rfl
theorem xAy (rest : List AOper) (s : St) : yDh R rest (some s) = xBJ R rest s := rfl
theorem xEm (rest : List AOper) : yDh R rest none = none := rfl
theorem xFB (rest : List AOper) {c : Prop} [Decidable c] (x y : Option St) : yDh R rest (if c then x else y) = if c then yDh R rest x else yDh R rest y := by split <;> rfl
def xXI (F : List AV) (d : Option Nat) : Option (AV × Heap) → Option St
 | some (v,H) => some ⟨putA F d v,H⟩
 | none => none
theorem xBj (d : Nat) (v : AV) : xXI F (some d) (some (v,H)) = some ⟨F.set d v,H⟩ := rfl
theorem xCX (v : AV) : xXI F none (some (v,H)) = some ⟨F,H⟩ := rfl
theorem xEn (d : Option Nat) : xXI F d none = none := rfl
theorem xFC (d : Option Nat) {c : Prop} [Decidable c] (x y : Option (AV × Heap)) : xXI F d (if c then x else y) = if c then xXI F d x else xXI F d y := by split <;> rfl
theorem xAz (d : Option Nat) (op : AOp) : xEc R ⟨d,op,none⟩ ⟨F,H⟩ = xXI F d (xAc R F H op) := by
 simp only [xEc,xH9,xXI]
 cases xAc R F H op <;> rfl
def xUD (R : Rec) (d : Option Nat) (op : AOp) (w : Bool) (F : List AV) (H : Heap) : AV → Option St
 | .bool b => if b = w then xXI F d (xAc R F H op) else some ⟨putA F d (.tup []),H⟩
 | .any => none
 | _ => some ⟨putA F d (.tup []),H⟩
theorem xBb (d : Option Nat) (op : AOp) (t : Nat) (w : Bool) : xEc R ⟨d,op,some (t,w)⟩ ⟨F,H⟩ = xUD R d op w F H (F.getD t .any) := by
 simp only [xEc,xH9,xUD]
 cases F.getD t .any with
 | bool b =>
  cases b <;> cases w <;> simp [xXI] <;> cases xAc R F H op <;> rfl
 | _ => rfl
theorem xAL (d : Option Nat) (op : AOp) (w b : Bool) : xUD R d op w F H (.bool b) = if b = w then xXI F d (xAc R F H op) else some ⟨putA F d (.tup []),H⟩ := rfl
theorem xC1 (d : Option Nat) (op : AOp) (w : Bool) (vs : List AV) : xUD R d op w F H (.tup vs) = some ⟨putA F d (.tup []),H⟩ := rfl
theorem xGv (d : Nat) (v : AV) : putA F (some d) v = F.set d v := rfl
theorem xGR (v : AV) : putA F none v = F := rfl
def xTs (R : Rec) (m : Nat) (ops : List AOper) : Option St → Option (AExit × St)
 | some s => xZo (xBJ R (ops.drop m) (adopt (ops.take m) s))
 | none => none
theorem xEo (m : Nat) (ops : List AOper) : run R (.draw m ops) s = xTs R m ops (xGh R (ops.take m) s) := by
 simp only [run,xTs]
 cases xGh R (ops.take m) s with
 | none => rfl
 | some s1 =>
  simp only [xZo]
  cases xBJ R (ops.drop m) (adopt (ops.take m) s1) <;> rfl
theorem xBL (m : Nat) (ops : List AOper) (s : St) : xTs R m ops (some s) = xZo (xBJ R (ops.drop m) (adopt (ops.take m) s)) := rfl
theorem xC2 (m : Nat) (ops : List AOper) : xTs R m ops none = none := rfl
theorem xEp (m : Nat) (ops : List AOper) {c : Prop} [Decidable c] (x y : Option St) : xTs R m ops (if c then x else y) = if c then xTs R m ops x else xTs R m ops y := by split <;> rfl
def xLe (ls : List (Nat × Nat × Nat × Nat)) : Option St → Option (AExit × St)
 | some s => if ls.all (apart s.F) = true then some (.normal,s) else none
 | none => none
def xOe (R : Rec) (ls : List (Nat × Nat × Nat × Nat)) (m : Nat) (ops : List AOper) : Option St → Option (AExit × St)
 | some s => xLe ls (xBJ R (ops.drop m) (adopt (ops.take m) s))
 | none => none
theorem xEq (ls : List (Nat × Nat × Nat × Nat)) (m : Nat) (ops : List AOper) : run R (.drawl ls m ops) s = xOe R ls m ops (xGh R (ops.take m) s) := by
 simp only [run,xOe]
 cases xGh R (ops.take m) s with
 | none => rfl
 | some s1 =>
  simp only [xLe]
  cases xBJ R (ops.drop m) (adopt (ops.take m) s1) <;> rfl
theorem xB4 (ls : List (Nat × Nat × Nat × Nat)) (m : Nat) (ops : List AOper) (s : St) : xOe R ls m ops (some s) = xLe ls (xBJ R (ops.drop m) (adopt (ops.take m) s)) := rfl
theorem xB5 (ls : List (Nat × Nat × Nat × Nat)) (m : Nat) (ops : List AOper) : xOe R ls m ops none = none := rfl
theorem xC3 (ls : List (Nat × Nat × Nat × Nat)) (m : Nat) (ops : List AOper) {c : Prop} [Decidable c] (x y : Option St) : xOe R ls m ops (if c then x else y) = if c then xOe R ls m ops x else xOe R ls m ops y := by split <;> rfl
theorem xBM (ls : List (Nat × Nat × Nat × Nat)) (s : St) : xLe ls (some s) = if ls.all (apart s.F) = true then some (.normal,s) else none := rfl
theorem xB6 (ls : List (Nat × Nat × Nat × Nat)) : xLe ls none = none := rfl
theorem xC4 (ls : List (Nat × Nat × Nat × Nat)) {c : Prop} [Decidable c] (x y : Option St) : xLe ls (if c then x else y) = if c then xLe ls x else xLe ls y := by split <;> rfl
def xTt (R : Rec) (rest : List AOper) : Option St → Option St
 | some s => xGh R rest s
 | none => none
theorem xA7 : xGh R [] s = some s := rfl
theorem xAM (o : AOper) (rest : List AOper) : xGh R (o :: rest) s = xTt R rest (xCW R o s) := by
 simp only [xGh,xTt]
 cases xCW R o s <;> rfl
theorem xBN (rest : List AOper) (s : St) : xTt R rest (some s) = xGh R rest s := rfl
theorem xC5 (rest : List AOper) : xTt R rest none = none := rfl
theorem xEr (rest : List AOper) {c : Prop} [Decidable c] (x y : Option St) : xTt R rest (if c then x else y) = if c then xTt R rest x else xTt R rest y := by split <;> rfl
def xOf (F : List AV) (d : Option Nat) (H : Heap) : Option (AV × Heap) → Option St
 | some (v,_) => some ⟨putA F d v,H⟩
 | none => none
theorem xD3 (d : Nat) (v : AV) (H' : Heap) : xOf F (some d) H (some (v,H')) = some ⟨F.set d v,H⟩ := rfl
theorem xFD (v : AV) (H' : Heap) : xOf F none H (some (v,H')) = some ⟨F,H⟩ := rfl
theorem xC6 (d : Option Nat) : xOf F d H none = none := rfl
theorem xEs (d : Option Nat) {c : Prop} [Decidable c] (x y : Option (AV × Heap)) : xOf F d H (if c then x else y) = if c then xOf F d H x else xOf F d H y := by split <;> rfl
def xDP (R : Rec) (F : List AV) (H : Heap) (op : AOp) : Option (AV × Heap) := (xAO R F H op).map fun v => (v,H)
theorem xBF (d : Option Nat) (op : AOp) : xCW R ⟨d,op,none⟩ ⟨F,H⟩ = xOf F d H (xDP R F H op) := by
 simp only [xCW,xH9,xOf,xDP]
 cases xAO R F H op <;> rfl
def xQa (R : Rec) (d : Option Nat) (op : AOp) (w : Bool) (F : List AV) (H : Heap) : AV → Option St
 | .bool b => if b = w then xOf F d H (xDP R F H op) else some ⟨putA F d (.tup []),H⟩
 | .any => none
 | _ => some ⟨putA F d (.tup []),H⟩
theorem xBl (d : Option Nat) (op : AOp) (t : Nat) (w : Bool) : xCW R ⟨d,op,some (t,w)⟩ ⟨F,H⟩ = xQa R d op w F H (F.getD t .any) := by
 simp only [xCW,xH9,xQa]
 cases F.getD t .any with
 | bool b =>
  cases b <;> cases w <;> simp [xOf,xDP] <;> cases xAO R F H op <;> rfl
 | _ => rfl
theorem xAU (d : Option Nat) (op : AOp) (w b : Bool) : xQa R d op w F H (.bool b) = if b = w then xOf F d H (xDP R F H op) else some ⟨putA F d (.tup []),H⟩ := rfl
theorem xB7 (d : Option Nat) (op : AOp) (w : Bool) (vs : List AV) : xQa R d op w F H (.tup vs) = some ⟨putA F d (.tup []),H⟩ := rfl
def xJo (H : Heap) : Option AV → Option (AV × Heap)
 | some v => some (v,H)
 | none => none
theorem xAA (v : AV) : xJo H (some v) = some (v,H) := rfl
theorem xEt : xJo H none = none := rfl
theorem xFE {c : Prop} [Decidable c] (x y : Option AV) : xJo H (if c then x else y) = if c then xJo H x else xJo H y := by split <;> rfl
theorem xDQ (x : Arg) : xAc R F H (.mov x) = some (opv F x,H) := rfl
def yDi : AV → AV → AV → Option AV
 | .bool t,a,b => some (if t = true then a else b)
 | _,_,_ => none
theorem xBc (t : Bool) (a b : AV) : yDi (.bool t) a b = some (if t = true then a else b) := rfl
theorem xFd (c a b : Arg) : xAc R F H (.pick c a b) = xJo H (yDi (opv F c) (opv F a) (opv F b)) := by
 simp only [xAc,yDi,xJo]
 split <;> simp_all
theorem xFh (x : Arg) : xAc R F H (.box x) = if (opv F x).cells.all AV.isCell = true then some (.ptr H.length 0,H ++ [.cells false false (opv F x).cells]) else none := rfl
theorem xBG (z : List AV) (parts : List (Nat × Nat × Arg)) : xAc R F H (.build z parts) =
  if parts.all (fun p => (opv F p.2.2).cells.length == p.2.1) = true then xJo H ((fillA z (parts.map fun p => (p.1,(opv F p.2.2).cells))).map AV.agg) else none := by
 simp only [xAc,xJo]
 split
 ·cases fillA z (parts.map fun p => (p.1,(opv F p.2.2).cells)) <;> rfl
 ·rfl
def yGi (fz z : Bool) (n es : Nat) (H : Heap) : Option (List AV) → Option (AV × Heap)
 | some cs => xLr fz z n es cs H
 | none => none
theorem xBO (fz z : Bool) (n es : Nat) (cs : List AV) : yGi fz z n es H (some cs) = xLr fz z n es cs H := rfl
theorem xEu (z : Bool) (n es : Nat) (cs : List AV) : xLr false z n es cs H = some (.own z H.length 0 n es,H ++ [.cells false z cs]) := rfl
def slK (z : Bool) (n : Nat) : Option (List AV) → Option AV
 | some cs => some (.sl z n cs)
 | none => none
theorem xCU (z : Bool) (n : Nat) (cs : List AV) : slK z n (some cs) = some (.sl z n cs) := rfl
theorem xB0 (z : Bool) (n es : Nat) (cs : List AV) : xLr true z n es cs H = if (cs.flatMap (bor frzN H)).isEmpty = true then xJo H (slK z n (cs.mapM (frz frzN H))) else none := by
 simp only [xLr,xJo,slK]
 split
 ·rename_i h
  cases cs.mapM (frz frzN H) <;> simp_all
 ·simp_all
theorem xBP (fz : Bool) (z : List AV) (es n : Nat) (parts : List (Nat × Arg)) : xAc R F H (.bslice fz z es n parts) =
  if parts.all (fun p => (opv F p.2).cells.length == es) = true then yGi fz false n es H (fillA (xJf z n) (parts.map fun p => (p.1 * es,(opv F p.2).cells))) else none := by
 simp only [xAc,yGi]
 split
 ·cases fillA (xJf z n) (parts.map fun p => (p.1 * es,(opv F p.2).cells)) <;> rfl
 ·rfl
def yAz (g : Bool) : Option (List AV) → Option AV
 | some cs => mkv g cs
 | none => none
theorem xE3 (v : AV) : yAz false (some [v]) = some v := rfl
theorem xC7 (cs : List AV) : yAz true (some cs) = some (.agg cs) := rfl
theorem xCw (g : Bool) (n : Nat) (p : Arg) : xAc R F H (.load g n p) = xJo H (yAz g (rd H (opv F p) n)) := by
 simp only [xAc,xJo,yAz]
 cases rd H (opv F p) n with
 | none => rfl
 | some cs => simp only; cases mkv g cs <;> rfl
def rdK (off n : Nat) : Option Blk → Option (List AV)
 | some (.cells _ _ cs) => if off + n ≤ cs.length then some ((cs.drop off).take n) else none
 | _ => none
theorem xEv (id off n : Nat) : rd H (.ptr id off) n = rdK off n H[id]? := by
 simp only [rd,rdK]
 rfl
theorem xAE {off n : Nat} {fz z : Bool} {cs : List AV} (h : off + n ≤ cs.length) : rdK off n (some (.cells fz z cs)) = some ((cs.drop off).take n) := if_pos h
theorem xGS {off n : Nat} {cs : List AV} (h : off + n ≤ cs.length) : rd H (.vptr cs off) n = some ((cs.drop off).take n) := if_pos h
def wrK (H : Heap) (id off : Nat) (vs : List AV) : Option Blk → Option Heap
 | some (.cells false z cs) => if off + vs.length ≤ cs.length ∧ vs.all AV.isCell = true then some (H.set id (.cells false z (splice cs off vs))) else none
 | _ => none
theorem xFe (id off : Nat) (vs : List AV) : wr H (.ptr id off) vs = wrK H id off vs H[id]? := by
 simp only [wr,wrK]
 rfl
theorem xAN {id off : Nat} {vs : List AV} {z : Bool} {cs : List AV} (h : off + vs.length ≤ cs.length) (h2 : vs.all AV.isCell = true) : wrK H id off vs (some (.cells false z cs)) = some (H.set id (.cells false z (splice cs off vs))) := if_pos ⟨h,h2⟩
def xXJ : Option Heap → Option (AV × Heap)
 | some H => some (.tup [],H)
 | none => none
theorem xAw (H : Heap) : xXJ (some H) = some (.tup [],H) := rfl
theorem xBr (n : Nat) (p v : Arg) : xAc R F H (.store n p v) = if (opv F v).cells.length = n then xXJ (wr H (opv F p) (opv F v).cells) else none := by
 simp only [xAc,xXJ]
 split
 ·cases wr H (opv F p) (opv F v).cells <;> rfl
 ·rfl
def yEU : AV → Option AV
 | .ptr id off => some (.ptr id off)
 | .vptr cs off => some (.vptr cs off)
 | .func f caps => some (.func f caps)
 | .yield l => some (.yield l)
 | _ => none
theorem xFF (id off : Nat) : yEU (.ptr id off) = some (.ptr id off) := rfl
theorem xEw (cs : List AV) (off : Nat) : yEU (.vptr cs off) = some (.vptr cs off) := rfl
theorem xEx (f : Nat) (cs : List AV) : yEU (.func f cs) = some (.func f cs) := rfl
theorem xC8 (l : Nat) : yEU (.yield l) = some (.yield l) := rfl
theorem xEy (x : Arg) : xAc R F H (.nilchk x) = xJo H (yEU (opv F x)) := by
 simp only [xAc]
 cases opv F x <;> rfl
theorem xDV (op : BinOp) (x y : Arg) : xAc R F H (.bin op x y) = xJo H (xKt op (opv F x) (opv F y)) := by
 simp only [xAc,xJo]
 cases xKt op (opv F x) (opv F y) <;> rfl
section
variable (k : IntKind) (a b : Int)
theorem xDS : xKt .add (.int k a) (.int k b) = some (.int k (k.wrap (a + b))) := by simp [xKt]
theorem xGT : xKt .sub (.int k a) (.int k b) = some (.int k (k.wrap (a - b))) := by simp [xKt]
theorem xGU : xKt .mul (.int k a) (.int k b) = some (.int k (k.wrap (a * b))) := by simp [xKt]
theorem xGV (h : b ≠ 0) : xKt .quo (.int k a) (.int k b) = some (.int k (k.wrap (a.tdiv b))) := by simp [xKt,h]
theorem xGW (h : b ≠ 0) : xKt .rem (.int k a) (.int k b) = some (.int k (a.tmod b)) := by simp [xKt,h]
theorem xGw : xKt .and (.int k a) (.int k b) = some (.int k (xK8 .and k a b)) := by simp [xKt]
theorem xIs : xKt .or (.int k a) (.int k b) = some (.int k (xK8 .or k a b)) := by simp [xKt]
theorem xGX : xKt .xor (.int k a) (.int k b) = some (.int k (xK8 .xor k a b)) := by simp [xKt]
theorem xC9 : xKt .andNot (.int k a) (.int k b) = some (.int k (xK8 .andNot k a b)) := by simp [xKt]
theorem xGY (k' : IntKind) (h : 0 ≤ b) : xKt .shl (.int k a) (.int k' b) = some (.int k (k.wrap (a * 2 ^ (min b.toNat k.bits)))) := by simp only [xKt]; rw [if_neg (by omega)]
theorem xGZ (k' : IntKind) (h : 0 ≤ b) : xKt .shr (.int k a) (.int k' b) = some (.int k (a.fdiv (2 ^ (min b.toNat k.bits)))) := by simp only [xKt]; rw [if_neg (by omega)]
theorem xG0 : xKt .eql (.int k a) (.int k b) = some (.bool (decide (a = b))) := by simp [xKt]; rfl
theorem xEz : xKt .neq (.int k a) (.int k b) = some (.bool (!decide (a = b))) := by simp [xKt]; rfl
theorem xCH : xKt .lss (.int k a) (.int k b) = some (.bool (decide (a < b))) := by simp [xKt]
theorem xG1 : xKt .leq (.int k a) (.int k b) = some (.bool (decide (a ≤ b))) := by simp [xKt]
theorem xGi : xKt .gtr (.int k a) (.int k b) = some (.bool (decide (b < a))) := by simp [xKt]
theorem xG2 : xKt .geq (.int k a) (.int k b) = some (.bool (decide (b ≤ a))) := by simp [xKt]
end
def yGj (neg : Bool) : AV → AV → Option AV
 | .bool a,.bool b => some (.bool (if neg = true then a != b else a == b))
 | _,_ => none
theorem xIt (a b : Bool) : yGj false (.bool a) (.bool b) = some (.bool (decide (a = b))) := by cases a <;> cases b <;> rfl
theorem xIu (a b : Bool) : yGj true (.bool a) (.bool b) = some (.bool (!decide (a = b))) := by cases a <;> cases b <;> rfl
theorem xIv (neg : Bool) (x y : Arg) : xAc R F H (.beq neg x y) = xJo H (yGj neg (opv F x) (opv F y)) := by
 simp only [xAc]
 cases opv F x <;> cases opv F y <;> rfl
def xSn (neg : Bool) : AV → Option AV
 | .sl z _ _ => some (.bool (z != neg))
 | .own z _ _ _ _ => some (.bool (z != neg))
 | _ => none
theorem xDa (z : Bool) (n : Nat) (cs : List AV) : xSn false (.sl z n cs) = some (.bool z) := by cases z <;> rfl
theorem xDb (z : Bool) (n : Nat) (cs : List AV) : xSn true (.sl z n cs) = some (.bool (!z)) := by cases z <;> rfl
theorem xB8 (z : Bool) (id off n es : Nat) : xSn false (.own z id off n es) = some (.bool z) := by cases z <;> rfl
theorem xB9 (z : Bool) (id off n es : Nat) : xSn true (.own z id off n es) = some (.bool (!z)) := by cases z <;> rfl
theorem xFG (neg : Bool) (x : Arg) : xAc R F H (.isnil neg x) = xJo H (xSn neg (opv F x)) := by
 simp only [xAc]
 cases opv F x <;> rfl
theorem xJH (op : UnOp) (x : Arg) : xAc R F H (.un op x) = xJo H (unA op (opv F x)) := by
 simp only [xAc,xJo]
 cases unA op (opv F x) <;> rfl
theorem xHZ (b : Bool) : unA .not (.bool b) = some (.bool !b) := rfl
theorem xIw (k : IntKind) (n : Int) : unA .neg (.int k n) = some (.int k (k.wrap (0 - n))) := rfl
theorem xIx (k : IntKind) (n : Int) : unA .xor (.int k n) = some (.int k (xK8 .xor k (if k.signed then -1 else k.max) n)) := rfl
def yEV (k : IntKind) : AV → Option AV
 | .int _ n => some (.int k (k.wrap n))
 | _ => none
theorem xDJ (k k' : IntKind) (n : Int) : yEV k (.int k' n) = some (.int k (k.wrap n)) := rfl
theorem xGx (k : IntKind) (x : Arg) : xAc R F H (.conv k x) = xJo H (yEV k (opv F x)) := by
 simp only [xAc]
 cases opv F x <;> rfl
theorem xEA (f : Nat) (caps : List Arg) : xAc R F H (.mkfunc f caps) = some (.func f (caps.map (opv F)),H) := rfl
def yG8 (fz : Bool) (z : List AV) (bytes : Nat) (H : Heap) : AV → AV → Option (AV × Heap)
 | .int _ l,.int _ c => if 0 ≤ l ∧ l ≤ c ∧ c * bytes ≤ xFr ∧ c ≤ xFr ∧ z.all AV.isCell = true then xLr fz false l.toNat z.length (xJf z l.toNat) H else none
 | _,_ => none
theorem xFi (fz : Bool) (z : List AV) (bytes : Nat) (k k' : IntKind) {l c : Int} (h1 : 0 ≤ l) (h2 : l ≤ c) (h3 : c * bytes ≤ 140737488355328) (h4 : c ≤ 140737488355328) (h5 : z.all AV.isCell = true) : yG8 fz z bytes H (.int k l) (.int k' c) = xLr fz false l.toNat z.length (xJf z l.toNat) H := if_pos ⟨h1,h2,h3,h4,h5⟩
theorem xCL (fz : Bool) (z : List AV) (bytes : Nat) (l c : Arg) : xAc R F H (.mkslice fz z bytes l c) = yG8 fz z bytes H (opv F l) (opv F c) := by
 simp only [xAc]
 cases opv F l <;> cases opv F c <;> rfl
def yDj (es : Nat) (H : Heap) (x : AV) : Option (Nat × Nat) → Option AV
 | none => none
 | some (l,h) => match x with
  | .sl z _ cs => some (.sl z (h - l) ((cs.drop (l * es)).take ((h - l) * es)))
  | .own z id off _ _ => some (.own z id (off + l * es) (h - l) es)
  | _ => none
def xUE (es : Nat) (H : Heap) (lo hi mx : Option AV) : AV → Option AV
 | .sl z n cs => if cs.length = n * es then yDj es H (.sl z n cs) (xGJ n lo hi mx) else none
 | .own z id off n es' => if es' = es then yDj es H (.own z id off n es') (xGJ n lo hi mx) else none
 | _ => none
theorem xFj (es : Nat) (x : Arg) (lo hi mx : Option Arg) : xAc R F H (.slice es x lo hi mx) = xJo H (xUE es H (lo.map (opv F)) (hi.map (opv F)) (mx.map (opv F)) (opv F x)) := by
 simp only [xAc,xJo,xUE,yDj]
 cases opv F x with
 | sl z n cs =>
  simp only
  split
  ·cases xGJ n (lo.map (opv F)) (hi.map (opv F)) (mx.map (opv F)) <;> rfl
  ·rfl
 | own z id off n es' =>
  simp only
  split
  ·cases xGJ n (lo.map (opv F)) (hi.map (opv F)) (mx.map (opv F)) <;> rfl
  ·rfl
 | _ => rfl
theorem xEB {es n : Nat} {z : Bool} {cs : List AV} (lo hi mx : Option AV) (h : cs.length = n * es) : xUE es H lo hi mx (.sl z n cs) = yDj es H (.sl z n cs) (xGJ n lo hi mx) := if_pos h
theorem xCM {es n id off : Nat} {z : Bool} (lo hi mx : Option AV) : xUE es H lo hi mx (.own z id off n es) = yDj es H (.own z id off n es) (xGJ n lo hi mx) := if_pos rfl
theorem xG3 (es : Nat) (z : Bool) (n : Nat) (cs : List AV) (l h : Nat) : yDj es H (.sl z n cs) (some (l,h)) = some (.sl z (h - l) ((cs.drop (l * es)).take ((h - l) * es))) := rfl
theorem xFk (es : Nat) (z : Bool) (id off n es' : Nat) (l h : Nat) : yDj es H (.own z id off n es') (some (l,h)) = some (.own z id (off + l * es) (h - l) es) := rfl
theorem xEC (n : Nat) : xGJ n none none none = some (0,n) := by simp [xGJ]
theorem xED {n : Nat} {k : IntKind} {l : Int} (h0 : 0 ≤ l) (h : l ≤ n) : xGJ n (some (.int k l)) none none = some (l.toNat,n) := by
 simp only [xGJ,xGn,if_pos h0]
 rw [if_pos ⟨by omega,by omega⟩]
theorem xDW {n : Nat} {k : IntKind} {m : Int} (h0 : 0 ≤ m) (h : m ≤ n) : xGJ n none (some (.int k m)) none = some (0,m.toNat) := by
 simp only [xGJ,xGn,if_pos h0]
 rw [if_pos ⟨by omega,by omega⟩]
theorem xEE {n : Nat} {k k' : IntKind} {l m : Int} (h0 : 0 ≤ l) (h1 : l ≤ m) (h : m ≤ n) : xGJ n (some (.int k l)) (some (.int k' m)) none = some (l.toNat,m.toNat) := by
 have h2 : 0 ≤ m := by omega
 simp only [xGJ,xGn,if_pos h0,if_pos h2]
 rw [if_pos ⟨by omega,by omega⟩]
def xXK (o : Nat) : AV → Option AV
 | .ptr id off => some (.ptr id (off + o))
 | .vptr cs off => some (.vptr cs (off + o))
 | _ => none
theorem xAW (o id off : Nat) : xXK o (.ptr id off) = some (.ptr id (off + o)) := rfl
theorem xCa (o : Nat) (cs : List AV) (off : Nat) : xXK o (.vptr cs off) = some (.vptr cs (off + o)) := rfl
theorem xCV (o : Nat) (x : Arg) : xAc R F H (.faddr o x) = xJo H (xXK o (opv F x)) := by
 simp only [xAc]
 cases opv F x <;> rfl
def xXL (g : Bool) (off n : Nat) : AV → Option AV
 | .agg cs => if off + n ≤ cs.length then mkv g ((cs.drop off).take n) else none
 | _ => none
theorem xDc {g : Bool} {off n : Nat} {cs : List AV} (h : off + n ≤ cs.length) : xXL g off n (.agg cs) = mkv g ((cs.drop off).take n) := if_pos h
theorem xKx (v : AV) : mkv false [v] = some v := rfl
theorem xIh (cs : List AV) : mkv true cs = some (.agg cs) := rfl
theorem xFH (g : Bool) (off n : Nat) (x : Arg) : xAc R F H (.field g off n x) = xJo H (xXL g off n (opv F x)) := by
 simp only [xAc]
 cases opv F x with
 | agg cs =>
  simp only [xXL,xJo]
  split
  ·cases mkv g ((cs.drop off).take n) <;> rfl
  ·rfl
 | _ => rfl
def xPx (es : Nat) : AV → AV → Option AV
 | .sl _ n cs,.int _ i => if 0 ≤ i ∧ i.toNat < n then some (.vptr cs (i.toNat * es)) else none
 | .own _ id off n es',.int _ i => if 0 ≤ i ∧ i.toNat < n ∧ es' = es then some (.ptr id (off + i.toNat * es)) else none
 | _,_ => none
theorem xEF {es n : Nat} {z : Bool} {cs : List AV} {k : IntKind} {i : Int} (h0 : 0 ≤ i) (h : i < n) : xPx es (.sl z n cs) (.int k i) = some (.vptr cs (i.toNat * es)) := if_pos ⟨h0,by omega⟩
theorem xCN {es n id off : Nat} {z : Bool} {k : IntKind} {i : Int} (h0 : 0 ≤ i) (h : i < n) : xPx es (.own z id off n es) (.int k i) = some (.ptr id (off + i.toNat * es)) := if_pos ⟨h0,by omega,rfl⟩
theorem xFl (es : Nat) (x i : Arg) : xAc R F H (.iaddr es x i) = xJo H (xPx es (opv F x) (opv F i)) := by
 simp only [xAc]
 cases opv F x with
 | sl z n cs =>
  cases opv F i with
  | int k j =>
   simp only [xGn,xPx,xJo]
   by_cases h : 0 ≤ j
   ·by_cases h2 : j.toNat < n <;> simp [h,h2]
   ·simp [h]
  | _ => rfl
 | own z id off n es' =>
  cases opv F i with
  | int k j =>
   simp only [xGn,xPx,xJo]
   by_cases h : 0 ≤ j
   ·by_cases h2 : j.toNat < n
    ·by_cases h3 : es' = es <;> simp [h,h2,h3]
    ·simp [h,h2]
   ·simp [h]
  | _ => rfl
 | _ => cases opv F i <;> simp [xPx,xJo,xGn] <;> split <;> simp_all
def yGk (i : Nat) : AV → Option AV
 | .tup vs => vs[i]?
 | _ => none
theorem xE9 (i : Nat) (vs : List AV) : yGk i (.tup vs) = vs[i]? := rfl
theorem xH4 (i : Nat) (x : Arg) : xAc R F H (.ext i x) = xJo H (yGk i (opv F x)) := by
 simp only [xAc]
 cases opv F x with
 | tup vs => simp only [yGk,xJo]; cases vs[i]? <;> rfl
 | _ => rfl
def yGl : AV → Option AV
 | .sl _ n _ => some (.int .i64 n)
 | .own _ _ _ n _ => some (.int .i64 n)
 | _ => none
theorem xGy (z : Bool) (n : Nat) (cs : List AV) : yGl (.sl z n cs) = some (.int .i64 n) := rfl
theorem xD4 (z : Bool) (id off n es : Nat) : yGl (.own z id off n es) = some (.int .i64 n) := rfl
theorem xHu (x : Arg) : xAc R F H (.len x) = xJo H (yGl (opv F x)) := by
 simp only [xAc]
 cases opv F x <;> rfl
theorem xIy (x : Arg) : xAc R F H (.cap x) = match opv F x with
 | .sl true _ _ => some (.int .i64 0,H)
 | _ => none := rfl
def yGm (neg : Bool) (n : Nat) : AV → AV → Option AV
 | .agg cs,.agg ds => if cs.length = n then (xHC cs ds).map fun b => .bool (b != neg) else none
 | _,_ => none
theorem xFI {neg : Bool} {n : Nat} {cs ds : List AV} (h : cs.length = n) : yGm neg n (.agg cs) (.agg ds) = (xHC cs ds).map fun b => .bool (b != neg) := if_pos h
theorem xIz (neg : Bool) (n : Nat) (x y : Arg) : xAc R F H (.aeq neg n x y) = xJo H (yGm neg n (opv F x) (opv F y)) := by
 simp only [xAc]
 cases opv F x with
 | agg cs => cases opv F y with
  | agg ds =>
   simp only [yGm,xJo]
   split
   ·cases xHC cs ds <;> rfl
   ·rfl
  | _ => rfl
 | _ => rfl
def yBT (fz : Bool) (es bytes : Nat) (H : Heap) (x : AV) : Option (Nat × List AV) → Option (AV × Heap)
 | none => none
 | some (m,ys) => match x with
  | .sl true _ _ => if m * bytes ≤ xFr ∧ m ≤ xFr then xLr fz (m == 0) m es ys H else none
  | .own z id off n es' => match H[id]? with
   | some (.cells false _ cs) => if off = 0 ∧ es' = es ∧ n * es ≤ cs.length ∧ (n + m) * bytes ≤ xFr ∧ n + m ≤ xFr then
     some (.own (z && m == 0) H.length 0 (n + m) es,H.set id .dead ++ [.cells false (z && m == 0) (cs.take (n * es) ++ ys)]) else none
   | _ => none
  | _ => none
theorem xB1 (fz : Bool) (es bytes : Nat) (x y : Arg) : xAc R F H (.append fz es bytes x y) = yBT fz es bytes H (opv F x) (src H es (opv F y)) := by
 simp only [xAc,yBT]
 cases src H es (opv F y) <;> rfl
theorem xFa {fz : Bool} {es bytes n m : Nat} {cs ys : List AV} (h : m * bytes ≤ 140737488355328) (h2 : m ≤ 140737488355328) : yBT fz es bytes H (.sl true n cs) (some (m,ys)) = xLr fz (m == 0) m es ys H := if_pos ⟨h,h2⟩
def yDk (es bytes n m : Nat) (H : Heap) (z : Bool) (id : Nat) (ys : List AV) : Option Blk → Option (AV × Heap)
 | some (.cells false _ cs) => if n * es ≤ cs.length ∧ (n + m) * bytes ≤ xFr ∧ n + m ≤ xFr then
   some (.own (z && m == 0) H.length 0 (n + m) es,H.set id .dead ++ [.cells false (z && m == 0) (cs.take (n * es) ++ ys)]) else none
 | _ => none
theorem xD5 (fz : Bool) (es bytes n m id : Nat) (z : Bool) (ys : List AV) : yBT fz es bytes H (.own z id 0 n es) (some (m,ys)) = yDk es bytes n m H z id ys H[id]? := by
 simp only [yBT,yDk]
 split
 ·rename_i z' cs hb
  by_cases h : n * es ≤ cs.length ∧ (n + m) * bytes ≤ xFr ∧ n + m ≤ xFr
  ·rw [if_pos h,if_pos ⟨trivial,trivial,h⟩]
  ·rw [if_neg h,if_neg (fun g => h g.2.2)]
 ·rename_i hne
  cases hb : H[id]? with
  | none => rfl
  | some b => cases b with
   | cells fz z cs => cases fz with
    | false => exact (hne _ _ hb).elim
    | true => rfl
   | _ => rfl
theorem xAY {es bytes n m id : Nat} {z z' : Bool} {ys cs : List AV} (h : n * es ≤ cs.length) (h2 : (n + m) * bytes ≤ 140737488355328) (h3 : n + m ≤ 140737488355328) : yDk es bytes n m H z id ys (some (.cells false z' cs)) =
  some (.own (z && m == 0) H.length 0 (n + m) es,H.set id .dead ++ [.cells false (z && m == 0) (cs.take (n * es) ++ ys)]) := if_pos ⟨h,h2,h3⟩
theorem xHv {es n : Nat} {z : Bool} {cs : List AV} (h : cs.length = n * es) : src H es (.sl z n cs) = some (n,cs) := if_pos h
def yGn (off n es : Nat) : Option Blk → Option (Nat × List AV)
 | some (.cells _ _ cs) => if off + n * es ≤ cs.length then some (n,(cs.drop off).take (n * es)) else none
 | _ => none
theorem xG4 (es n id off : Nat) (z : Bool) : src H es (.own z id off n es) = yGn off n es H[id]? := by
 simp only [src,yGn]
 cases H[id]? with
 | none => rfl
 | some b => cases b <;> simp
theorem xDd {es n off : Nat} {fz z : Bool} {cs : List AV} (h : off + n * es ≤ cs.length) : yGn off n es (some (.cells fz z cs)) = some (n,(cs.drop off).take (n * es)) := if_pos h
def yEW (z : List AV) (bytes id off k es m : Nat) (H : Heap) : Option Blk → Option (AV × Heap)
 | some (.cells false _ cs) => if off = 0 ∧ es = z.length ∧ k * z.length ≤ cs.length ∧ (k + m) * bytes ≤ xFr ∧ k + m ≤ xFr ∧ 0 < m ∧ z.all AV.isCell = true then
   some (.own false H.length 0 (k + m) z.length,H.set id .dead ++ [.cells false false (cs.take (k * z.length) ++ xJf z m)]) else none
 | _ => none
def xNe (z : List AV) (bytes : Nat) (H : Heap) : AV → AV → Option (AV × Heap)
 | .sl true _ _,.int _ m => if 0 ≤ m ∧ m.toNat * bytes ≤ xFr ∧ m.toNat ≤ xFr ∧ z.all AV.isCell = true then xLr false (m.toNat == 0) m.toNat z.length (xJf z m.toNat) H else none
 | .own false id off k es,.int _ m => if 0 ≤ m then yEW z bytes id off k es m.toNat H H[id]? else none
 | _,_ => none
theorem xTu (z : List AV) (bytes id off k es m : Nat) (H : Heap) (b : Option Blk) : (match b with
   | some (.cells false _ cs) => if off = 0 ∧ es = z.length ∧ k * z.length ≤ cs.length ∧ (k + m) * bytes ≤ xFr ∧ k + m ≤ xFr ∧ 0 < m ∧ z.all AV.isCell = true then
     some (AV.own false H.length 0 (k + m) z.length,H.set id .dead ++ [.cells false false (cs.take (k * z.length) ++ xJf z m)]) else none
   | _ => none) = yEW z bytes id off k es m H b := by
 rcases b with _ | b
 ·rfl
 ·cases b with
  | cells fz zz cs => cases fz <;> rfl
  | _ => rfl
theorem xDe (z : List AV) (bytes : Nat) (x n : Arg) : xAc R F H (.appendz z bytes x n) = xNe z bytes H (opv F x) (opv F n) := by
 simp only [xAc]
 cases hn : opv F n with
 | int k m =>
  simp only [xGn]
  by_cases h : 0 ≤ m
  ·cases hx : opv F x with
   | sl zz nn cs => cases zz <;> simp [xNe,h]
   | own zz id off kk es =>
    cases zz with
    | true => simp [xNe,h]
    | false => simp only [h,if_true,xNe]; exact xTu _ _ _ _ _ _ _ _ _
   | _ => simp [xNe,h]
  ·cases hx : opv F x with
   | sl zz nn cs => cases zz <;> simp [xNe,h]
   | own zz id off kk es => cases zz <;> simp [xNe,h]
   | _ => simp [xNe,h]
 | _ =>
  cases hx : opv F x with
  | sl zz nn cs => cases zz <;> simp [xNe,xGn]
  | own zz id off kk es => cases zz <;> simp [xNe,xGn]
  | _ => simp [xNe,xGn]
theorem xEG {z : List AV} {bytes n : Nat} {cs : List AV} {k : IntKind} {m : Int} (h0 : 0 ≤ m) (h1 : m.toNat * bytes ≤ 140737488355328) (h2 : m.toNat ≤ 140737488355328) (h3 : z.all AV.isCell = true) : xNe z bytes H (.sl true n cs) (.int k m) = xLr false (m.toNat == 0) m.toNat z.length (xJf z m.toNat) H := if_pos ⟨h0,h1,h2,h3⟩
def yGo : AV → AV → Option AV
 | .int k a,.int _ b => some (.int k (max a b))
 | _,_ => none
def yGp : AV → AV → Option AV
 | .int k a,.int _ b => some (.int k (min a b))
 | _,_ => none
theorem xFJ (k k' : IntKind) (a b : Int) : yGo (.int k a) (.int k' b) = some (.int k (max a b)) := rfl
theorem xFK (k k' : IntKind) (a b : Int) : yGp (.int k a) (.int k' b) = some (.int k (min a b)) := rfl
theorem xG5 (x y : Arg) : xAc R F H (.maxi x y) = xJo H (yGo (opv F x) (opv F y)) := by
 simp only [xAc]
 cases opv F x with
 | int k a => cases opv F y with
  | int k' b => simp only [yGo,xJo]; congr 3; split <;> omega
  | _ => rfl
 | _ => rfl
theorem xG6 (x y : Arg) : xAc R F H (.mini x y) = xJo H (yGp (opv F x) (opv F y)) := by
 simp only [xAc]
 cases opv F x with
 | int k a => cases opv F y with
  | int k' b => simp only [yGp,xJo]; congr 3; split <;> omega
  | _ => rfl
 | _ => rfl
theorem xIA (z : List AV) : xJf z 0 = [] := rfl
theorem xHH (z : List AV) : xJf z 1 = z ++ ([]) := rfl
theorem xHw (z : List AV) : xJf z 2 = z ++ (z ++ ([])) := rfl
theorem xIf (z : List AV) : xJf z 3 = z ++ (z ++ (z ++ ([]))) := rfl
theorem xH0 (z : List AV) : xJf z 4 = z ++ (z ++ (z ++ (z ++ ([])))) := rfl
theorem xIB (z : List AV) : xJf z 5 = z ++ (z ++ (z ++ (z ++ (z ++ ([]))))) := rfl
theorem xH5 (z : List AV) : xJf z 6 = z ++ (z ++ (z ++ (z ++ (z ++ (z ++ ([])))))) := rfl
theorem xIC (z : List AV) : xJf z 7 = z ++ (z ++ (z ++ (z ++ (z ++ (z ++ (z ++ ([]))))))) := rfl
theorem xID (z : List AV) : xJf z 8 = z ++ (z ++ (z ++ (z ++ (z ++ (z ++ (z ++ (z ++ ([])))))))) := rfl
theorem xIE (z : List AV) : xJf z 9 = z ++ (z ++ (z ++ (z ++ (z ++ (z ++ (z ++ (z ++ (z ++ ([]))))))))) := rfl
theorem xG7 (z : List AV) : xJf z 10 = z ++ (z ++ (z ++ (z ++ (z ++ (z ++ (z ++ (z ++ (z ++ (z ++ ([])))))))))) := rfl
theorem xG8 (z : List AV) : xJf z 11 = z ++ (z ++ (z ++ (z ++ (z ++ (z ++ (z ++ (z ++ (z ++ (z ++ (z ++ ([]))))))))))) := rfl
theorem xG9 (z : List AV) : xJf z 12 = z ++ (z ++ (z ++ (z ++ (z ++ (z ++ (z ++ (z ++ (z ++ (z ++ (z ++ (z ++ ([])))))))))))) := rfl
theorem xBQ (d : Nat) (k : IntKind) (n : Int) : frz d H (.int k n) = some (.int k n) := by cases d <;> rfl
theorem xFb (d : Nat) (b : Bool) : frz d H (.bool b) = some (.bool b) := by cases d <;> rfl
theorem xHa (d : Nat) (b : ByteArray) : frz d H (.str b) = some (.str b) := by cases d <;> rfl
theorem xFL (d : Nat) : frz d H .nilp = some .nilp := by cases d <;> rfl
theorem xFM (d : Nat) : frz d H .nilf = some .nilf := by cases d <;> rfl
theorem xHb (d : Nat) : frz d H .any = some .any := by cases d <;> rfl
theorem xFN (d f : Nat) : frz d H (.func f []) = some (.func f []) := by cases d <;> rfl
theorem xGe (d : Nat) (z : Bool) (n : Nat) (cs : List AV) : frz d H (.sl z n cs) = some (.sl z n cs) := by cases d <;> rfl
theorem xD7 (d : Nat) (cs : List AV) : frz (d + 1) H (.agg cs) = (cs.mapM (frz d H)).map AV.agg := rfl
theorem xHc (d : Nat) (cs : List AV) : frz (d + 1) H (.tup cs) = (cs.mapM (frz d H)).map AV.tup := rfl
def yGq (d : Nat) (H : Heap) (z : Bool) (off n es : Nat) : Option Blk → Option AV
 | some (.cells _ _ cs) => if off + n * es ≤ cs.length then slK z n (((cs.drop off).take (n * es)).mapM (frz d H)) else none
 | _ => none
theorem xDT (d : Nat) (z : Bool) (id off n es : Nat) : frz (d + 1) H (.own z id off n es) = yGq d H z off n es H[id]? := by
 simp only [frz,yGq]
 cases H[id]? with
 | none => rfl
 | some b => cases b with
  | cells fz z' cs =>
   simp only
   split
   ·cases ((cs.drop off).take (n * es)).mapM (frz d H) <;> rfl
   ·rfl
  | _ => rfl
theorem xBR {d off n es : Nat} {z fz z' : Bool} {cs : List AV} (h : off + n * es ≤ cs.length) : yGq d H z off n es (some (.cells fz z' cs)) = slK z n (((cs.drop off).take (n * es)).mapM (frz d H)) := if_pos h
theorem xCK (d : Nat) (k : IntKind) (n : Int) : bor d H (.int k n) = [] := by cases d <;> rfl
theorem xFO (d : Nat) (b : Bool) : bor d H (.bool b) = [] := by cases d <;> rfl
theorem xHd (d : Nat) (b : ByteArray) : bor d H (.str b) = [] := by cases d <;> rfl
theorem xFP (d : Nat) : bor d H .nilp = [] := by cases d <;> rfl
theorem xFQ (d : Nat) : bor d H .nilf = [] := by cases d <;> rfl
theorem xHe (d : Nat) : bor d H .any = [] := by cases d <;> rfl
theorem xFR (d f : Nat) (cs : List AV) : bor d H (.func f cs) = [] := by cases d <;> rfl
theorem xIF (ss : List Nat) (b : ACode) (s : St) : run R (.fz ss b) s = run R b ⟨s.F,fzIds s.H (ss.flatMap fun i => bor frzN s.H (s.F.getD i .any))⟩ := rfl
def yGr (R : Rec) (i : Nat) (b : ACode) (s : St) (ids : List Nat) : Option AV → Option (AExit × St)
 | some v => run R b ⟨s.F.set i v,fzIds s.H ids⟩
 | none => none
theorem xHf (i : Nat) (b : ACode) (s : St) : run R (.fzs i b) s = yGr R i b s (yEi s.H (s.F.getD i .any)) (yBu s.H (s.F.getD i .any)) := by
 simp only [run,yGr]
 cases yBu s.H (s.F.getD i .any) <;> rfl
theorem xI1 (f : Nat) (caps : List AV) : yBu H (.func f caps) = (caps.mapM (frz frzN H)).map (AV.func f) := rfl
theorem xI2 (f : Nat) (caps : List AV) : yEi H (.func f caps) = caps.flatMap (bor frzN H) := rfl
theorem xEH (i : Nat) (b : ACode) (s : St) (ids : List Nat) (v : AV) : yGr R i b s ids (some v) = run R b ⟨s.F.set i v,fzIds s.H ids⟩ := rfl
def yGs (d : Nat) (H : Heap) (off : Nat) : Option Blk → Option AV
 | some (.cells _ _ cs) => (cs.mapM (frz d H)).map fun cs' => .vptr cs' off
 | _ => none
theorem xHg (d i o : Nat) : frz (d + 1) H (.ptr i o) = yGs d H o H[i]? := by
 simp only [frz,yGs]
 cases H[i]? with
 | none => rfl
 | some b => cases b <;> rfl
theorem xDf (d : Nat) (o : Nat) (fz z : Bool) (cs : List AV) : yGs d H o (some (.cells fz z cs)) = (cs.mapM (frz d H)).map fun cs' => .vptr cs' o := rfl
theorem xFS (d : Nat) (cs : List AV) (o : Nat) : frz d H (.vptr cs o) = some (.vptr cs o) := by cases d <;> rfl
def yDl (d : Nat) (H : Heap) : Option Blk → List Nat
 | some (.cells _ _ cs) => cs.flatMap (bor d H)
 | _ => []
theorem xHh (d i o : Nat) : bor (d + 1) H (.ptr i o) = i :: yDl d H H[i]? := by
 simp only [bor,yDl]
 cases H[i]? with
 | none => rfl
 | some b => cases b <;> rfl
theorem xCb (d : Nat) (fz z : Bool) (cs : List AV) : yDl d H (some (.cells fz z cs)) = cs.flatMap (bor d H) := rfl
theorem xFT (d : Nat) (cs : List AV) (o : Nat) : bor d H (.vptr cs o) = [] := by cases d <;> rfl
def yDm : Option Blk → Bool
 | some (.cells true _ _) => true
 | _ => false
theorem xCO (i : Nat) : xMP H i = yDm H[i]? := by
 simp only [xMP,yDm]
 cases H[i]? with
 | none => rfl
 | some b => cases b with
  | cells fz z cs => cases fz <;> rfl
  | _ => rfl
theorem xHi (z : Bool) (cs : List AV) : yDm (some (.cells true z cs)) = true := rfl
theorem xGF (d : Nat) (z : Bool) (n : Nat) (cs : List AV) : bor d H (.sl z n cs) = [] := by cases d <;> rfl
theorem xFs (d : Nat) (cs : List AV) : bor (d + 1) H (.agg cs) = cs.flatMap (bor d H) := rfl
theorem xHj (d : Nat) (cs : List AV) : bor (d + 1) H (.tup cs) = cs.flatMap (bor d H) := rfl
def yGt (d : Nat) (H : Heap) (off n es : Nat) : Option Blk → List Nat
 | some (.cells _ _ cs) => ((cs.drop off).take (n * es)).flatMap (bor d H)
 | _ => []
theorem xGz (d : Nat) (z : Bool) (id off n es : Nat) : bor (d + 1) H (.own z id off n es) = id :: yGt d H off n es H[id]? := by
 simp only [bor,yGt]
 cases H[id]? with
 | none => rfl
 | some b => cases b <;> rfl
theorem xB2 (d off n es : Nat) (fz z : Bool) (cs : List AV) : yGt d H off n es (some (.cells fz z cs)) = ((cs.drop off).take (n * es)).flatMap (bor d H) := rfl
def yBU (args : List AV) (H : Heap) : Option AV → Option (AV × Heap)
 | some r => some (r,if xE0 r = true then H else fzIds H (args.flatMap (bor frzN H)))
 | none => none
theorem xBs (args : List AV) (r : AV) : yBU args H (some r) = some (r,if xE0 r = true then H else fzIds H (args.flatMap (bor frzN H))) := rfl
theorem xEI (args : List AV) : yBU args H none = none := rfl
theorem xFU (args : List AV) {c : Prop} [Decidable c] (x y : Option AV) : yBU args H (if c then x else y) = if c then yBU args H x else yBU args H y := by split <;> rfl
def yGu (R : Rec) (f : Nat) (args : List AV) (H : Heap) : Option (List AV) → Option (AV × Heap)
 | some args' => yBU args H (R.pcall f args')
 | none => none
theorem xBt (f : Nat) (args args' : List AV) : yGu R f args H (some args') = yBU args H (R.pcall f args') := rfl
theorem xBu (f : Nat) (args : List AV) : xHG R f args H = yGu R f args H (args.mapM (frz frzN H)) := by
 simp only [xHG,yGu]
 cases args.mapM (frz frzN H) with
 | none => rfl
 | some args' => simp only [yBU]; cases R.pcall f args' <;> rfl
theorem xEJ (f : Nat) (args : List Arg) : xAc R F H (.call f args) = xHG R f (args.map (opv F)) H := rfl
theorem xFc (f : Arg) (args : List Arg) : xAc R F H (.icall f args) = R.icall (opv F f) (args.map (opv F)) H := rfl
def yBV (R : Rec) (args : List AV) (H : Heap) : AV → Option (AV × Heap)
 | .func g caps => xHG R g (args ++ caps) H
 | _ => none
theorem xCc (args : List AV) (g : Nat) (caps : List AV) : yBV R args H (.func g caps) = xHG R g (args ++ caps) H := rfl
theorem xFV (f : Arg) (args : List Arg) : xAc R F H (.fcall f args) = yBV R (args.map (opv F)) H (opv F f) := by
 simp only [xAc]
 cases opv F f <;> rfl
def xLK (args : List AV) (H : Heap) : Option (AV × Heap) → Option (AV × Heap)
 | some (r,_) => if quietCall r H args = true then some (r,H) else none
 | none => none
theorem xA8 (args : List AV) (r : AV) (H' : Heap) : xLK args H (some (r,H')) = if quietCall r H args = true then some (r,H) else none := rfl
theorem xCd (args : List AV) : xLK args H none = none := rfl
theorem xDg (args : List AV) {c : Prop} [Decidable c] (x y : Option (AV × Heap)) : xLK args H (if c then x else y) = if c then xLK args H x else xLK args H y := by split <;> rfl
theorem xGf (f : Nat) (args : List Arg) : xDP R F H (.call f args) = xLK (args.map (opv F)) H (xHG R f (args.map (opv F)) H) := by
 simp only [xDP,xAO,xLK]
 cases xHG R f (args.map (opv F)) H with
 | none => rfl
 | some r => obtain ⟨r,H'⟩ := r; simp only; split <;> rfl
def xTv (R : Rec) (args : List AV) (H : Heap) : AV → Option (AV × Heap)
 | .func g caps => xLK (args ++ caps) H (xHG R g (args ++ caps) H)
 | _ => none
theorem xBv (args : List AV) (g : Nat) (caps : List AV) : xTv R args H (.func g caps) = xLK (args ++ caps) H (xHG R g (args ++ caps) H) := rfl
theorem xFW (f : Arg) (args : List Arg) : xDP R F H (.fcall f args) = xTv R (args.map (opv F)) H (opv F f) := by
 simp only [xDP,xAO,xLK,xTv]
 cases opv F f with
 | func g caps =>
  simp only
  cases xHG R g (args.map (opv F) ++ caps) H with
  | none => rfl
  | some r => obtain ⟨r,H'⟩ := r; simp only; split <;> rfl
 | _ => rfl
theorem xIg (v : AV) : xDP R F H (.box (.c v)) = if v.cells.all AV.isCell = true then some (.any,H) else none := by
 simp only [xDP,xAO]
 split <;> rfl
def xKH (H : Heap) : Option (AV × Heap) → Option (AV × Heap)
 | some (v,_) => some (v,H)
 | none => none
theorem xCI (v : AV) (H' : Heap) : xKH H (some (v,H')) = some (v,H) := rfl
theorem xEK : xKH H none = none := rfl
theorem xFX {c : Prop} [Decidable c] (x y : Option (AV × Heap)) : xKH H (if c then x else y) = if c then xKH H x else xKH H y := by split <;> rfl
theorem xIS (op : AOp) (h : xAO R F H op = (xAc R F H op).map (·.1)) : xDP R F H op = xKH H (xAc R F H op) := by
 simp only [xDP,h,xKH]
 cases xAc R F H op <;> rfl
theorem xH1 (x : Arg) : xDP R F H (.mov x) = xKH H (xAc R F H (.mov x)) := xIS _ rfl
theorem xGj (c a b : Arg) : xDP R F H (.pick c a b) = xKH H (xAc R F H (.pick c a b)) := xIS _ rfl
theorem xFY (z : List AV) (parts : List (Nat × Nat × Arg)) : xDP R F H (.build z parts) = xKH H (xAc R F H (.build z parts)) := xIS _ rfl
theorem xDX (z : List AV) (es n : Nat) (parts : List (Nat × Arg)) : xDP R F H (.bslice true z es n parts) = xKH H (xAc R F H (.bslice true z es n parts)) := xIS _ rfl
theorem xFZ (g : Bool) (n : Nat) (p : Arg) : xDP R F H (.load g n p) = xKH H (xAc R F H (.load g n p)) := xIS _ rfl
theorem xEL (x : Arg) : xDP R F H (.nilchk x) = xKH H (xAc R F H (.nilchk x)) := xIS _ rfl
theorem xH2 (op : BinOp) (x y : Arg) : xDP R F H (.bin op x y) = xKH H (xAc R F H (.bin op x y)) := xIS _ rfl
theorem xIG (neg : Bool) (x y : Arg) : xDP R F H (.beq neg x y) = xKH H (xAc R F H (.beq neg x y)) := xIS _ rfl
theorem xF0 (neg : Bool) (x : Arg) : xDP R F H (.isnil neg x) = xKH H (xAc R F H (.isnil neg x)) := xIS _ rfl
theorem xJI (op : UnOp) (x : Arg) : xDP R F H (.un op x) = xKH H (xAc R F H (.un op x)) := xIS _ rfl
theorem xHk (k : IntKind) (x : Arg) : xDP R F H (.conv k x) = xKH H (xAc R F H (.conv k x)) := xIS _ rfl
theorem xEM (f : Nat) (caps : List Arg) : xDP R F H (.mkfunc f caps) = xKH H (xAc R F H (.mkfunc f caps)) := xIS _ rfl
theorem xDh (z : List AV) (bytes : Nat) (l c : Arg) : xDP R F H (.mkslice true z bytes l c) = xKH H (xAc R F H (.mkslice true z bytes l c)) := xIS _ rfl
theorem xF1 (es : Nat) (x : Arg) (lo hi mx : Option Arg) : xDP R F H (.slice es x lo hi mx) = xKH H (xAc R F H (.slice es x lo hi mx)) := xIS _ rfl
theorem xFm (o : Nat) (x : Arg) : xDP R F H (.faddr o x) = xKH H (xAc R F H (.faddr o x)) := xIS _ rfl
theorem xF2 (g : Bool) (off n : Nat) (x : Arg) : xDP R F H (.field g off n x) = xKH H (xAc R F H (.field g off n x)) := xIS _ rfl
theorem xFn (es : Nat) (x i : Arg) : xDP R F H (.iaddr es x i) = xKH H (xAc R F H (.iaddr es x i)) := xIS _ rfl
theorem xIH (i : Nat) (x : Arg) : xDP R F H (.ext i x) = xKH H (xAc R F H (.ext i x)) := xIS _ rfl
theorem xII (x : Arg) : xDP R F H (.len x) = xKH H (xAc R F H (.len x)) := xIS _ rfl
theorem xIJ (x : Arg) : xDP R F H (.cap x) = xKH H (xAc R F H (.cap x)) := xIS _ rfl
theorem xIK (neg : Bool) (n : Nat) (x y : Arg) : xDP R F H (.aeq neg n x y) = xKH H (xAc R F H (.aeq neg n x y)) := xIS _ rfl
theorem xHl (x y : Arg) : xDP R F H (.maxi x y) = xKH H (xAc R F H (.maxi x y)) := xIS _ rfl
theorem xHm (x y : Arg) : xDP R F H (.mini x y) = xKH H (xAc R F H (.mini x y)) := xIS _ rfl
def yDn (es bytes : Nat) (H : Heap) (x : AV) (o : Option (Nat × List AV)) : Option (AV × Heap) := match x with
 | .sl _ _ _ => xKH H (yBT true es bytes H x o)
 | _ => none
theorem xF3 (es bytes : Nat) (z : Bool) (n : Nat) (cs : List AV) (o : Option (Nat × List AV)) : yDn es bytes H (.sl z n cs) o = xKH H (yBT true es bytes H (.sl z n cs) o) := rfl
theorem xEN (es bytes : Nat) (x y : Arg) : xDP R F H (.append true es bytes x y) = yDn es bytes H (opv F x) (src H es (opv F y)) := by
 simp only [xDP,xAO,yDn]
 cases h : opv F x with
 | sl z n cs =>
  simp only [xB1,h,xKH]
  cases yBT true es bytes H (.sl z n cs) (src H es (opv F y)) <;> rfl
 | _ => rfl
def xVM (H : Heap) : Option AV → Option (AV × Heap)
 | some v => some (v,H)
 | none => none
theorem xAX (v : AV) : xVM H (some v) = some (v,H) := rfl
def xSo (rs : List ARes) : Option (AExit × St) → Option (AV × Heap)
 | some (.normal,s) => xVM s.H (xHX rs s)
 | some (.ret,s) => xVM s.H (xHX rs s)
 | _ => none
theorem xBw (rs : List ARes) (F : List AV) (H : Heap) : xSo rs (some (.normal,⟨F,H⟩)) = xVM H (xHX rs ⟨F,H⟩) := rfl
theorem xBH (rs : List ARes) (F : List AV) (H : Heap) : xSo rs (some (.ret,⟨F,H⟩)) = xVM H (xHX rs ⟨F,H⟩) := rfl
theorem xDi (rs : List ARes) : xSo rs none = none := rfl
theorem xEO (rs : List ARes) {c : Prop} [Decidable c] (x y : Option (AExit × St)) : xSo rs (if c then x else y) = if c then xSo rs x else xSo rs y := by split <;> rfl
def pads : Nat → List AV
 | 0 => []
 | n + 1 => .tup [] :: pads n
theorem xXM : ∀ n,List.replicate n (AV.tup []) = pads n
 | 0 => rfl
 | n + 1 => by rw [List.replicate_succ,xXM n]; rfl
theorem xAp (n : Nat) (code : ACode) (rs : List ARes) (args : List AV) : xGp R ⟨n,code,rs⟩ args H = xSo rs (run R code ⟨args ++ pads (n - args.length),H⟩) := by
 rw [← xXM]
 simp only [xGp,xSo,xQZ,xVM]
 cases h : run R code ⟨args ++ List.replicate (n - args.length) (.tup []),H⟩ with
 | none => rfl
 | some r =>
  obtain ⟨e,s⟩ := r
  cases e with
  | exit i => rfl
  | _ => simp only; cases xHX rs s <;> rfl
def xOg : Option (AV × Heap) → Option AV
 | some (r,H') => frz frzN H' r
 | none => none
theorem xBm (r : AV) (H' : Heap) : xOg (some (r,H')) = frz frzN H' r := rfl
theorem xCe : xOg none = none := rfl
theorem xDj {c : Prop} [Decidable c] (x y : Option (AV × Heap)) : xOg (if c then x else y) = if c then xOg x else xOg y := by split <;> rfl
theorem xAd (fn : AFunc) (args : List AV) : xBK R fn args = xOg (xGp R fn args []) := by
 simp only [xBK,xOg]
 cases xGp R fn args [] <;> rfl
def yDo (g : Bool) : Option (List AV) → Option AV
 | some cs => mkv g cs
 | none => none
theorem xBd (g : Bool) (cs : List AV) : yDo g (some cs) = mkv g cs := rfl
theorem xE6 (t : Nat) : xWM ⟨F,H⟩ (.tmp t) = some (F.getD t .any) := rfl
theorem xDF (t : Nat) (g : Bool) (n : Nat) : xWM ⟨F,H⟩ (.cell t g n) = yDo g (rd H (F.getD t .any) n) := by
 simp only [xWM,yDo]
 cases rd H (F.getD t .any) n <;> rfl
theorem xEP : xHX [] s = some (.tup []) := rfl
theorem xDD (r : ARes) : xHX [r] s = xWM s r := rfl
def yGv (s : St) (rs : List ARes) : Option AV → Option (List AV)
 | some v => (xVG s rs).map (v :: ·)
 | none => none
theorem xCx (rs : List ARes) (v : AV) : yGv s rs (some v) = (xVG s rs).map (v :: ·) := rfl
theorem xDN : xVG s [] = some [] := rfl
theorem xCy (r : ARes) (rs : List ARes) : xVG s (r :: rs) = yGv s rs (xWM s r) := by
 simp only [xVG,yGv]
 cases xWM s r <;> rfl
theorem xCz (r r' : ARes) (rs : List ARes) : xHX (r :: r' :: rs) s = (xVG s (r :: r' :: rs)).map .tup := rfl
def xMo (F : List AV) (l : Nat) : Option (AV × Heap) → Option (AExit × St)
 | some (_,H') => match H'[l]? with
  | some (.loop st pend _ _ _ _) => if st = 1 then none else some ((match pend with | none => .normal | some e => e),⟨F,H'.set l .dead⟩)
  | _ => none
 | none => none
def xXN (R : Rec) (F : List AV) (H : Heap) (ps : List Nat) (asg body : ACode) : AV → Option (AExit × St)
 | .func g caps => xMo F H.length (R.icall (.func g caps) [.yield H.length] (H ++ [.loop 0 none F ps asg body]))
 | _ => none
theorem xEQ (f : Arg) (ps : List Nat) (asg body : ACode) (F : List AV) (H : Heap) : run R (.range f ps asg body) ⟨F,H⟩ = xXN R F H ps asg body (opv F f) := by
 simp only [run]
 cases opv F f with
 | func g caps =>
  simp only [xXN,xMo]
  cases R.icall (.func g caps) [.yield H.length] (H ++ [.loop 0 none F ps asg body]) with
  | none => rfl
  | some r =>
   obtain ⟨v,H'⟩ := r
   simp only
   cases H'[H.length]? with
   | none => rfl
   | some b => cases b <;> rfl
 | _ => rfl
theorem xCf (ps : List Nat) (asg body : ACode) (g : Nat) (caps : List AV) : xXN R F H ps asg body (.func g caps) = xMo F H.length (R.icall (.func g caps) [.yield H.length] (H ++ [.loop 0 none F ps asg body])) := rfl
def xMp (l : Nat) (e : AExit) (H : Heap) : Option Blk → Option (AV × Heap)
 | some (.loop 1 _ F ps asg body) => some (match e with
  | .normal => (.bool true,H.set l (.loop 0 none F ps asg body))
  | e => (.bool false,H.set l (.loop 2 (some e) F ps asg body)))
 | _ => none
def xKh (l : Nat) : Option (AExit × St) → Option (AV × Heap)
 | some (e,s) => xMp l e s.H s.H[l]?
 | none => none
def xQb (R : Rec) (l : Nat) (body0 : ACode) (s : St) : Option Blk → Option (AV × Heap)
 | some (.loop 0 pend F ps asg body) => xKh l (run R body0 ⟨s.F,s.H.set l (.loop 1 pend F ps asg body)⟩)
 | _ => none
def yAA (R : Rec) (l : Nat) (body0 : ACode) : Option (AExit × St) → Option (AV × Heap)
 | some (.normal,s) => xQb R l body0 s s.H[l]?
 | _ => none
theorem xAF (l : Nat) (body0 : ACode) (F : List AV) (H : Heap) : yAA R l body0 (some (.normal,⟨F,H⟩)) = xQb R l body0 ⟨F,H⟩ H[l]? := rfl
theorem xAZ (l : Nat) (body0 : ACode) (F : List AV) (H : Heap) (pend : Option AExit) (F1 : List AV) (ps : List Nat) (asg body : ACode) : xQb R l body0 ⟨F,H⟩ (some (.loop 0 pend F1 ps asg body)) = xKh l (run R body0 ⟨F,H.set l (.loop 1 pend F1 ps asg body)⟩) := rfl
theorem xAK (l : Nat) (e : AExit) (F : List AV) (H : Heap) : xKh l (some (e,⟨F,H⟩)) = xMp l e H H[l]? := rfl
theorem xA0 (l : Nat) {c : Prop} [Decidable c] (x y : Option (AExit × St)) : xKh l (if c then x else y) = if c then xKh l x else xKh l y := by split <;> rfl
theorem xAG (l : Nat) (H : Heap) (pend : Option AExit) (F : List AV) (ps : List Nat) (asg body : ACode) : xMp l .normal H (some (.loop 1 pend F ps asg body)) = some (.bool true,H.set l (.loop 0 none F ps asg body)) := rfl
theorem xA1 (l i : Nat) (H : Heap) (pend : Option AExit) (F : List AV) (ps : List Nat) (asg body : ACode) : xMp l (.exit i) H (some (.loop 1 pend F ps asg body)) = some (.bool false,H.set l (.loop 2 (some (.exit i)) F ps asg body)) := rfl
theorem xBx (l : Nat) (H : Heap) (pend : Option AExit) (F : List AV) (ps : List Nat) (asg body : ACode) : xMp l .ret H (some (.loop 1 pend F ps asg body)) = some (.bool false,H.set l (.loop 2 (some .ret) F ps asg body)) := rfl
def xNn (F : List AV) (l : Nat) (H : Heap) : Option Blk → Option (AExit × St)
 | some (.loop st pend _ _ _ _) => if st = 1 then none else some ((match pend with | none => .normal | some e => e),⟨F,H.set l .dead⟩)
 | _ => none
theorem xA2 (l : Nat) (v : AV) (H : Heap) : xMo F l (some (v,H)) = xNn F l H H[l]? := by
 simp only [xMo,xNn]
theorem xDk (l : Nat) (H : Heap) (F1 : List AV) (ps : List Nat) (asg body : ACode) : xNn F l H (some (.loop 0 none F1 ps asg body)) = some (.normal,⟨F,H.set l .dead⟩) := rfl
theorem xDl (l : Nat) (H : Heap) (e : AExit) (F1 : List AV) (ps : List Nat) (asg body : ACode) : xNn F l H (some (.loop 2 (some e) F1 ps asg body)) = some (e,⟨F,H.set l .dead⟩) := rfl
end
section
variable {R : Rec} {F : List AV} {H : Heap} {s : St}
def xXO : Option (AV × Heap) → Option (AV × List Blk)
 | some (r,H') => (xJ2 H' r).map fun (v,B) => (v,B.map (·.2))
 | none => none
theorem xBI (f : Nat) (args : List AV) : xCG R f args = xXO (R.icall (.func f []) args []) := by
 unfold xCG xXO
 cases R.icall (.func f []) args [] <;> rfl
theorem xAR (r : AV) (H' : Heap) : xXO (some (r,H')) = (xJ2 H' r).map fun (v,B) => (v,B.map (·.2)) := rfl
def ocK (H : Heap) (ids : List Nat) : Option (AV × List Blk) → Option (AV × Heap)
 | some (v,B) => some (xCY H.length v,fzIds H ids ++ B)
 | none => none
def xPy (R : Rec) (f : Nat) (H : Heap) (ids : List Nat) : Option (List AV) → Option (AV × Heap)
 | some args' => ocK H ids (xCG R f args')
 | none => none
theorem xER (f : Nat) (args : List Arg) : xAc R F H (.ocall f args) = xPy R f H ((args.map (opv F)).flatMap (bor frzN H)) ((args.map (opv F)).mapM (frz frzN H)) := by
 simp only [xAc,xPy]
 cases (args.map (opv F)).mapM (frz frzN H) with
 | none => rfl
 | some args' =>
  simp only [ocK]
  cases xCG R f args' <;> rfl
theorem xA9 (f : Nat) (ids : List Nat) (args' : List AV) : xPy R f H ids (some args') = ocK H ids (xCG R f args') := rfl
theorem xES (ids : List Nat) (v : AV) (B : List Blk) : ocK H ids (some (v,B)) = some (xCY H.length v,fzIds H ids ++ B) := rfl
def ofK (R : Rec) (H : Heap) (args : List AV) : AV → Option (AV × Heap)
 | .func g caps => xPy R g H ((args ++ caps).flatMap (bor frzN H)) ((args ++ caps).mapM (frz frzN H))
 | _ => none
theorem xJS (args : List AV) (g : Nat) (caps : List AV) : ofK R H args (.func g caps) = xPy R g H ((args ++ caps).flatMap (bor frzN H)) ((args ++ caps).mapM (frz frzN H)) := rfl
theorem xI3 (f : Arg) (args : List Arg) : xAc R F H (.ofcall f args) = ofK R H (args.map (opv F)) (opv F f) := by
 simp only [xAc,ofK]
 cases opv F f <;> try rfl
 simp only [xPy]
 split
 ·rename_i e; rw [e]
 ·rename_i args' e
  rw [e]
  simp only [ocK]
  cases xCG R _ args' <;> rfl
def yFV (H : Heap) (ids : List Nat) : Option (AV × Heap) → Option (AV × Heap)
 | some (v,B) => some (xCY H.length v,fzIds H ids ++ B.map (xI0 H.length))
 | none => none
def xTw (R : Rec) (f : Nat) (H : Heap) (ids : List Nat) : Option (List AV) → Option (AV × Heap)
 | some args' => yFV H ids (xJi R f args')
 | none => none
theorem xSp (f : Nat) (args : List Arg) : xAc R F H (.ocallw f args) = xTw R f H ((args.map (opv F)).flatMap (bor frzN H)) ((args.map (opv F)).mapM (frz frzN H)) := by
 simp only [xAc,xTw]
 cases (args.map (opv F)).mapM (frz frzN H) with
 | none => rfl
 | some args' =>
  simp only [yFV]
  cases xJi R f args' <;> rfl
theorem xNc (f : Nat) (ids : List Nat) (args' : List AV) : xTw R f H ids (some args') = yFV H ids (xJi R f args') := rfl
theorem xSq (ids : List Nat) (v : AV) (B : Heap) : yFV H ids (some (v,B)) = some (xCY H.length v,fzIds H ids ++ B.map (xI0 H.length)) := rfl
theorem xOh {f : Nat} {args : List AV} {v : AV} {B : Heap} (h : R.icall (.func f []) args [] = some (v,B)) (h1 : xJ4 v = true) : xJi R f args = some (v,B) := by
 unfold xJi
 rw [h]
 exact if_pos h1
def t1B (z : Bool) (id off n es : Nat) (B : List (Nat × Blk)) : Option Blk → Option (AV × List (Nat × Blk))
 | some (.cells false z' cs) => if cs.all xEb = true then some (.own z B.length off n es,B ++ [(id,.cells false z' cs)]) else none
 | _ => none
def t1I (z : Bool) (id off n es : Nat) (B : List (Nat × Blk)) (b : Option Blk) : Option Nat → Option (AV × List (Nat × Blk))
 | some k => some (.own z k off n es,B)
 | none => t1B z id off n es B b
theorem xDY (H : Heap) (z : Bool) (id off n es : Nat) (B : List (Nat × Blk)) : xLB H (.own z id off n es) B = t1I z id off n es B H[id]? (B.findIdx? (fun p => p.1 == id)) := by
 simp only [xLB,t1I]
 cases B.findIdx? (fun p => p.1 == id) with
 | some k => rfl
 | none =>
  simp only [t1B]
  cases H[id]? with
  | none => rfl
  | some b => cases b with
   | cells fz z' cs => cases fz <;> rfl
   | _ => rfl
theorem xHn (z : Bool) (id off n es : Nat) (B : List (Nat × Blk)) (b : Option Blk) (k : Nat) : t1I z id off n es B b (some k) = some (.own z k off n es,B) := rfl
theorem xGG (z : Bool) (id off n es : Nat) (B : List (Nat × Blk)) (z' : Bool) (cs : List AV) : t1I z id off n es B (some (.cells false z' cs)) none = if cs.all xEb = true then some (.own z B.length off n es,B ++ [(id,.cells false z' cs)]) else none := rfl
theorem xCA (H : Heap) (k : IntKind) (n : Int) (B : List (Nat × Blk)) : xLB H (.int k n) B = some (.int k n,B) := rfl
theorem xDm (H : Heap) (b : Bool) (B : List (Nat × Blk)) : xLB H (.bool b) B = some (.bool b,B) := rfl
theorem xD6 (H : Heap) (z : Bool) (n : Nat) (cs : List AV) (B : List (Nat × Blk)) : xLB H (.sl z n cs) B = some (.sl z n cs,B) := rfl
theorem xET (H : Heap) (b : ByteArray) (B : List (Nat × Blk)) : xLB H (.str b) B = some (.str b,B) := rfl
def tkL (H : Heap) (vs : List AV) : Option (AV × List (Nat × Blk)) → Option (List AV × List (Nat × Blk))
 | some (v',B') => (xNS H vs B').map fun (vs',B2) => (v' :: vs',B2)
 | none => none
theorem xCB (H : Heap) (B : List (Nat × Blk)) : xNS H [] B = some ([],B) := rfl
theorem xBo (H : Heap) (v : AV) (vs : List AV) (B : List (Nat × Blk)) : xNS H (v :: vs) B = tkL H vs (xLB H v B) := by
 simp only [xNS,tkL]
 cases xLB H v B <;> rfl
theorem xDO (H : Heap) (vs : List AV) (v' : AV) (B' : List (Nat × Blk)) : tkL H vs (some (v',B')) = (xNS H vs B').map fun (vs',B2) => (v' :: vs',B2) := rfl
theorem xCC (H : Heap) (cs : List AV) (B : List (Nat × Blk)) : xMf H (.agg cs) B = if cs.all AV.isCell = true then (xNS H cs B).map fun (cs',B') => (.agg cs',B') else none := rfl
theorem xEU (H : Heap) (z : Bool) (id off n es : Nat) (B : List (Nat × Blk)) : xMf H (.own z id off n es) B = xLB H (.own z id off n es) B := rfl
theorem xCD (H : Heap) (k : IntKind) (n : Int) (B : List (Nat × Blk)) : xMf H (.int k n) B = some (.int k n,B) := rfl
theorem xDn (H : Heap) (b : Bool) (B : List (Nat × Blk)) : xMf H (.bool b) B = some (.bool b,B) := rfl
theorem xF4 (H : Heap) (z : Bool) (n : Nat) (cs : List AV) (B : List (Nat × Blk)) : xMf H (.sl z n cs) B = some (.sl z n cs,B) := rfl
def yGw (H : Heap) (vs : List AV) : Option (AV × List (Nat × Blk)) → Option (List AV × List (Nat × Blk))
 | some (v',B') => (xK9 H vs B').map fun (vs',B2) => (v' :: vs',B2)
 | none => none
theorem xBp (H : Heap) (B : List (Nat × Blk)) : xK9 H [] B = some ([],B) := rfl
theorem xAS (H : Heap) (v : AV) (vs : List AV) (B : List (Nat × Blk)) : xK9 H (v :: vs) B = yGw H vs (xMf H v B) := by
 simp only [xK9,yGw]
 cases xMf H v B <;> rfl
theorem xCE (H : Heap) (vs : List AV) (v' : AV) (B' : List (Nat × Blk)) : yGw H vs (some (v',B')) = (xK9 H vs B').map fun (vs',B2) => (v' :: vs',B2) := rfl
theorem xAT (H : Heap) (vs : List AV) : xJ2 H (.tup vs) = (xK9 H vs []).map fun (vs',B) => (.tup vs',B) := rfl
theorem xCg (H : Heap) (cs : List AV) : xJ2 H (.agg cs) = xMf H (.agg cs) [] := rfl
theorem xCh (H : Heap) (z : Bool) (id off n es : Nat) : xJ2 H (.own z id off n es) = xLB H (.own z id off n es) [] := rfl
theorem xDo (H : Heap) (z : Bool) (n : Nat) (cs : List AV) : xJ2 H (.sl z n cs) = some (.sl z n cs,[]) := rfl
theorem xDZ {α : Type} (p : α → Bool) : ([] : List α).findIdx? p = none := rfl
theorem xCP {α : Type} (p : α → Bool) (a : α) (l : List α) : (a :: l).findIdx? p = if p a = true then some 0 else (l.findIdx? p).map (· + 1) := by
 rw [List.findIdx?_cons]
def xXP (R : Rec) (als : List (Nat × Nat)) (ls : List (Nat × Nat × Nat × Nat)) (m : Nat) (ops : List AOper) : Option (St × List Pr) → Option (AExit × St)
 | some (s,pl) => xLe ls (xBJ R (ops.drop m) (xGo als pl s))
 | none => none
theorem xD0 (als : List (Nat × Nat)) (ls : List (Nat × Nat × Nat × Nat)) (m : Nat) (ops : List AOper) : run R (.drawp als ls m ops) s = xXP R als ls m ops (xA6 R (ops.take m) s) := by
 simp only [run,xXP]
 cases xA6 R (ops.take m) s with
 | none => rfl
 | some r =>
  obtain ⟨s1,pl⟩ := r
  simp only [xLe]
  cases xBJ R (ops.drop m) (xGo als pl s1) <;> rfl
theorem xBS (als : List (Nat × Nat)) (ls : List (Nat × Nat × Nat × Nat)) (m : Nat) (ops : List AOper) (s : St) (pl : List Pr) : xXP R als ls m ops (some (s,pl)) = xLe ls (xBJ R (ops.drop m) (xGo als pl s)) := rfl
theorem xCQ (pl : List Pr) (s : St) : xGo [] pl s = adoptL pl s := rfl
def alK (als : List (Nat × Nat)) : St → St
 | ⟨F,H⟩ => ⟨xHY als F,H⟩
theorem xCi (p : Nat × Nat) (r : List (Nat × Nat)) (pl : List Pr) (s : St) : xGo (p :: r) pl s = alK (p :: r) (adoptL pl s) := rfl
theorem xIL (als : List (Nat × Nat)) (F : List AV) (H : Heap) : alK als ⟨F,H⟩ = ⟨xHY als F,H⟩ := rfl
theorem xDp (F : List AV) : xHY [] F = F := rfl
theorem xCj (d q : Nat) (r : List (Nat × Nat)) (F : List AV) : xHY ((d,q) :: r) F = xHY r (F.set d (xZM (q / 4096) (F.getD (q % 4096) .any))) := rfl
theorem xI4 (v : AV) : xZM 0 v = v := rfl
theorem xI5 (vs : List AV) : xZM 1 (.tup vs) = vs.getD 0 .any := rfl
theorem xI6 (vs : List AV) : xZM 2 (.tup vs) = vs.getD 1 .any := rfl
theorem xI7 (vs : List AV) : xZM 3 (.tup vs) = vs.getD 2 .any := rfl
theorem xGK (z : Bool) (i o n e : Nat) : xIn (.own z i o n e) = .any := rfl
theorem xHx (i o : Nat) : xIn (.ptr i o) = .any := rfl
theorem xJB (z : Bool) (n : Nat) (cs : List AV) : xIn (.sl z n cs) = .any := rfl
theorem xI8 (cs : List AV) : xIn (.agg cs) = .any := rfl
theorem xI9 (k : IntKind) (n : Int) : xIn (.int k n) = .any := rfl
theorem xHL (b : Bool) : xIn (.bool b) = .any := rfl
theorem xJa (vs : List AV) : xIn (.tup vs) = .tup (vs.map xLb) := rfl
theorem xHM (z : Bool) (i o n e : Nat) : xLb (.own z i o n e) = .any := rfl
theorem xHN (i o : Nat) : xLb (.ptr i o) = .any := rfl
theorem xJb (z : Bool) (n : Nat) (cs : List AV) : xLb (.sl z n cs) = .any := rfl
theorem xHO (cs : List AV) : xLb (.agg cs) = .any := rfl
theorem xHP (k : IntKind) (n : Int) : xLb (.int k n) = .int k n := rfl
theorem xGq (b : Bool) : xLb (.bool b) = .bool b := rfl
def xXQ (e : Pr) : Option (St × List Pr) → Option (St × List Pr)
 | some (s,l) => some (s,e :: l)
 | none => none
theorem xCR (e : Pr) (s : St) (l : List Pr) : xXQ e (some (s,l)) = some (s,e :: l) := rfl
def xXR (R : Rec) (rest : List AOper) (s : St) : Option Nat → Option (AV × List Blk) → Option (St × List Pr)
 | some t,some (v,B) => xXQ (some (t,v,B)) (xA6 R rest ⟨s.F.set t (xIn v),s.H⟩)
 | _,_ => none
def xXS (R : Rec) (rest : List AOper) : Option St → Option (St × List Pr)
 | some s => xXQ none (xA6 R rest s)
 | none => none
theorem xBT : xA6 R [] s = some (s,[]) := rfl
theorem xBe (o : AOper) (rest : List AOper) : xA6 R (o :: rest) s = if xBk o.op = true then xXR R rest s o.dst (xJn R s.F o.op) else xXS R rest (xCW R o s) := by
 simp only [xA6]
 split
 ·cases o.dst with
  | none => rfl
  | some t => cases xJn R s.F o.op with
   | none => rfl
   | some r =>
    obtain ⟨v,B⟩ := r
    simp only [xXR]
    cases xA6 R rest ⟨s.F.set t (xIn v),s.H⟩ <;> rfl
 ·cases xCW R o s with
  | none => rfl
  | some s1 =>
   simp only [xXS]
   cases xA6 R rest s1 <;> rfl
theorem xBU (rest : List AOper) (t : Nat) (v : AV) (B : List Blk) : xXR R rest s (some t) (some (v,B)) = xXQ (some (t,v,B)) (xA6 R rest ⟨s.F.set t (xIn v),s.H⟩) := rfl
theorem xBV (rest : List AOper) (s : St) : xXS R rest (some s) = xXQ none (xA6 R rest s) := rfl
def yDp : Option (AV × Heap) → Option (AV × List Blk)
 | some (v,B) => if xJ4 v = true ∧ xLa B = true then some (v,B) else none
 | none => none
theorem xFo (op : AOp) : xJn R F op = if op.args.all (fun x => xGO (opv F x)) = true then yDp (xAc R F [] op) else none := by
 unfold xJn yDp
 split
 ·cases xAc R F [] op <;> rfl
 ·rfl
theorem xCS (v : AV) (B : Heap) : yDp (some (v,B)) = if xJ4 v = true ∧ xLa B = true then some (v,B) else none := rfl
theorem xBf (f : Nat) (as : List Arg) : xBk (.ocall f as) = true := rfl
theorem xGr (f : Arg) (as : List Arg) : xBk (.ofcall f as) = true := rfl
theorem xDq (x : Arg) : xBk (.box x) = true := rfl
theorem xCk (z : List AV) (b : Nat) (x y : Arg) : xBk (.mkslice false z b x y) = true := rfl
theorem xCl (z : List AV) (b : Nat) (x y : Arg) : xBk (.mkslice true z b x y) = false := rfl
theorem xCm (z : List AV) (es n : Nat) (ps : List (Nat × Arg)) : xBk (.bslice false z es n ps) = true := rfl
theorem xBW (z : List AV) (es n : Nat) (ps : List (Nat × Arg)) : xBk (.bslice true z es n ps) = false := rfl
theorem xCn (es b : Nat) (x y : Arg) : xBk (.append false es b x y) = true := rfl
theorem xCo (es b : Nat) (x y : Arg) : xBk (.append true es b x y) = false := rfl
theorem xCp (z : List AV) (b : Nat) (x y : Arg) : xBk (.appendz z b x y) = true := rfl
theorem xDr (x : Arg) : xBk (.mov x) = false := rfl
theorem xCq (x y z : Arg) : xBk (.pick x y z) = false := rfl
theorem xBy (z : List AV) (ps : List (Nat × Nat × Arg)) : xBk (.build z ps) = false := rfl
theorem xBX (g : Bool) (n : Nat) (x : Arg) : xBk (.load g n x) = false := rfl
theorem xA3 (x : Arg) : xBk (.nilchk x) = false := rfl
theorem xCT (op : BinOp) (x y : Arg) : xBk (.bin op x y) = false := rfl
theorem xDs (g : Bool) (x y : Arg) : xBk (.beq g x y) = false := rfl
theorem xBz (g : Bool) (x : Arg) : xBk (.isnil g x) = false := rfl
theorem xEV (op : UnOp) (x : Arg) : xBk (.un op x) = false := rfl
theorem xCr (k : IntKind) (x : Arg) : xBk (.conv k x) = false := rfl
theorem xA4 (f : Nat) (as : List Arg) : xBk (.mkfunc f as) = false := rfl
theorem xBA (es : Nat) (x : Arg) (a b c : Option Arg) : xBk (.slice es x a b c) = false := rfl
theorem xBg (o : Nat) (x : Arg) : xBk (.faddr o x) = false := rfl
theorem xBB (g : Bool) (o n : Nat) (x : Arg) : xBk (.field g o n x) = false := rfl
theorem xBC (es : Nat) (x i : Arg) : xBk (.iaddr es x i) = false := rfl
theorem xDt (i : Nat) (x : Arg) : xBk (.ext i x) = false := rfl
theorem xDu (x : Arg) : xBk (.len x) = false := rfl
theorem xDv (x : Arg) : xBk (.cap x) = false := rfl
theorem xDw (g : Bool) (n : Nat) (x y : Arg) : xBk (.aeq g n x y) = false := rfl
theorem xCs (f : Nat) (as : List Arg) : xBk (.call f as) = false := rfl
theorem xBD (f : Arg) (as : List Arg) : xBk (.fcall f as) = false := rfl
theorem xCt (x y : Arg) : xBk (.maxi x y) = false := rfl
theorem xCu (x y : Arg) : xBk (.mini x y) = false := rfl
theorem xBY : xLa [] = true := rfl
theorem xBh (z : Bool) (cs : List AV) (B : List Blk) : xLa (.cells false z cs :: B) = (cs.all xEb && xLa B) := rfl
theorem xQc {α : Type} {f : α → AV} (h : ∀ a,xEb (f a) = true) (l : List α) : (l.map f).all xEb = true := by
 simp [List.all_eq_true,h]
end
section
variable {R : Rec} {F : List AV} {H : Heap}
def yFW (g : Bool) (es len : Nat) : AV → AV → Option AV
 | .agg cs,.int _ i => if 0 ≤ i ∧ i.toNat < len ∧ i.toNat * es + es ≤ cs.length then mkv g ((cs.drop (i.toNat * es)).take es) else none
 | _,_ => none
theorem xLu {g : Bool} {es len : Nat} {cs : List AV} {k : IntKind} {i : Int} (h0 : 0 ≤ i) (h : i < len) (h2 : i.toNat * es + es ≤ cs.length) : yFW g es len (.agg cs) (.int k i) = mkv g ((cs.drop (i.toNat * es)).take es) := if_pos ⟨h0,by omega,h2⟩
theorem xPz (g : Bool) (es len : Nat) (x i : Arg) : xAc R F H (.idx g es len x i) = xJo H (yFW g es len (opv F x) (opv F i)) := by
 simp only [xAc]
 cases opv F x with
 | agg cs => cases opv F i with
  | int k n =>
   by_cases h0 : 0 ≤ n
   ·have e : xGn (.int k n) = some n.toNat := by simp [xGn,h0]
    simp only [e,yFW,h0,true_and]
    by_cases c : n.toNat < len ∧ n.toNat * es + es ≤ cs.length
    ·rw [if_pos c,if_pos c]
     cases mkv g ((cs.drop (n.toNat * es)).take es) <;> rfl
    ·rw [if_neg c,if_neg c]; rfl
   ·have e : xGn (.int k n) = none := by simp [xGn,h0]
    simp only [e,yFW,h0,false_and,if_false,xJo]
  | _ => rfl
 | _ => rfl
def xOi (es len : Nat) : AV → AV → Option AV
 | .ptr id off,.int _ i => if 0 ≤ i ∧ i.toNat < len then some (.ptr id (off + i.toNat * es)) else none
 | .vptr cs off,.int _ i => if 0 ≤ i ∧ i.toNat < len then some (.vptr cs (off + i.toNat * es)) else none
 | _,_ => none
theorem xPA {es len id off : Nat} {k : IntKind} {i : Int} (h0 : 0 ≤ i) (h : i < len) : xOi es len (.ptr id off) (.int k i) = some (.ptr id (off + i.toNat * es)) := if_pos ⟨h0,by omega⟩
theorem xOj {es len off : Nat} {cs : List AV} {k : IntKind} {i : Int} (h0 : 0 ≤ i) (h : i < len) : xOi es len (.vptr cs off) (.int k i) = some (.vptr cs (off + i.toNat * es)) := if_pos ⟨h0,by omega⟩
theorem xUF (es len : Nat) (x i : Arg) : xAc R F H (.arrat es len x i) = xJo H (xOi es len (opv F x) (opv F i)) := by
 simp only [xAc]
 cases opv F x with
 | ptr id off => cases opv F i with
  | int k n =>
   by_cases h0 : 0 ≤ n
   ·have e : xGn (.int k n) = some n.toNat := by simp [xGn,h0]
    simp only [e,xOi,h0,true_and]
    by_cases c : n.toNat < len
    ·rw [if_pos c,if_pos c]; rfl
    ·rw [if_neg c,if_neg c]; rfl
   ·have e : xGn (.int k n) = none := by simp [xGn,h0]
    simp only [e,xOi,h0,false_and,if_false,xJo]
  | _ => rfl
 | vptr cs off => cases opv F i with
  | int k n =>
   by_cases h0 : 0 ≤ n
   ·have e : xGn (.int k n) = some n.toNat := by simp [xGn,h0]
    simp only [e,xOi,h0,true_and]
    by_cases c : n.toNat < len
    ·rw [if_pos c,if_pos c]; rfl
    ·rw [if_neg c,if_neg c]; rfl
   ·have e : xGn (.int k n) = none := by simp [xGn,h0]
    simp only [e,xOi,h0,false_and,if_false,xJo]
  | _ => rfl
 | _ => rfl
def yAB (es len : Nat) : Option (List AV) → AV → Option AV
 | some cs,.int _ i => if 0 ≤ i ∧ i.toNat < len then some (.vptr cs (i.toNat * es)) else none
 | _,_ => none
theorem xPB {es len : Nat} {cs : List AV} {k : IntKind} {i : Int} (h0 : 0 ≤ i) (h : i < len) : yAB es len (some cs) (.int k i) = some (.vptr cs (i.toNat * es)) := if_pos ⟨h0,by omega⟩
theorem xXT (b es len : Nat) (i : Arg) : xAc R F H (.garr b es len i) = xJo H (yAB es len (xVE b) (opv F i)) := by
 simp only [xAc]
 cases xVE b with
 | none => rfl
 | some cs => cases opv F i with
  | int k n =>
   by_cases h0 : 0 ≤ n
   ·have e : xGn (.int k n) = some n.toNat := by simp [xGn,h0]
    simp only [e,yAB,h0,true_and]
    by_cases c : n.toNat < len
    ·rw [if_pos c,if_pos c]; rfl
    ·rw [if_neg c,if_neg c]; rfl
   ·have e : xGn (.int k n) = none := by simp [xGn,h0]
    simp only [e,yAB,h0,false_and,if_false,xJo]
  | _ => rfl
def yEX : AV → Option AV
 | .str s => some (.int .i64 s.size)
 | _ => none
theorem xSr (s : ByteArray) : yEX (.str s) = some (.int .i64 s.size) := rfl
theorem xXU (x : Arg) : xAc R F H (.slen x) = xJo H (yEX (opv F x)) := by
 simp only [xAc]
 cases opv F x <;> rfl
theorem yBW (g : Bool) (es len : Nat) (x i : Arg) : xDP R F H (.idx g es len x i) = xKH H (xAc R F H (.idx g es len x i)) := xIS _ rfl
theorem xUG (es len : Nat) (x i : Arg) : xDP R F H (.arrat es len x i) = xKH H (xAc R F H (.arrat es len x i)) := xIS _ rfl
theorem xXV (b es len : Nat) (i : Arg) : xDP R F H (.garr b es len i) = xKH H (xAc R F H (.garr b es len i)) := xIS _ rfl
theorem xSs (mx : Bool) (x : Arg) (xs : List Arg) : xAc R F H (.mm mx (x :: xs)) = xJo H (mmA mx (opv F x) (xs.map (opv F))) := by
 simp only [xAc,List.map_cons,xJo]
 cases mmA mx (opv F x) (xs.map (opv F)) <;> rfl
theorem xLf (mx : Bool) (k : IntKind) (a : Int) : mmA mx (.int k a) [] = some (.int k a) := rfl
theorem xLg (k k' : IntKind) (a b : Int) (r : List AV) : mmA false (.int k a) (.int k' b :: r) = mmA false (.int k (min a b)) r := by
 simp only [mmA,Bool.false_eq_true,if_false]
 congr 2; split <;> omega
theorem xQd (k k' : IntKind) (a b : Int) (r : List AV) : mmA true (.int k a) (.int k' b :: r) = mmA true (.int k (max a b)) r := by
 simp only [mmA,if_true]
 congr 2; split <;> omega
theorem xXW (x : Arg) : xDP R F H (.slen x) = xKH H (xAc R F H (.slen x)) := xIS _ rfl
end
end Go.Abs
