/- The interpreter's equations in the form that simp walks by: one equation for each construct,told apart by what has been computed already. -/
import Derived.Test.YtkpbekcgigigkaaDoorAbsLim
namespace Go.Abs
set_option linter.unusedVariables false
set_option linter.unusedSimpArgs false
theorem xEa : ∀ (scr : List Nat) (F : List AV) (i : Nat),(xAM scr F)[i]? = if i ∈ scr then (F[i]?).map (fun _ => AV.any) else F[i]?
  | [],F,i => by simp [xAM]
  | j :: scr,F,i => by
    have := xEa scr (F.set j .any) i
    simp only [xAM,List.foldl_cons] at this ⊢
    rw [this]
    by_cases h : i = j
    · subst h
      simp only [List.getElem?_set_self',List.mem_cons,true_or,if_true]
      cases F[i]? <;> simp
    · have h' : ¬ j = i := fun e => h e.symm
      simp [List.getElem?_set,h,h']
theorem xO3 (scr : List Nat) (F : List AV) : xAM scr (xAM scr F) = xAM scr F := by
  apply List.ext_getElem?
  intro i
  rw [xEa,xEa]
  split
  · cases F[i]? <;> rfl
  · rfl
section
variable {prog : Nat → Option AFunc}
theorem xTM (prog : Nat → Option AFunc) (n : Nat) : Tends (fix prog n) (fun _ => lim prog) :=
  ⟨fun f a v h => .all fun _ => xEs ((xEK prog n).pcall f a v h),fun f a H v h => .all fun _ => xEs ((xEK prog n).icall f a H v h),fun scr b s v h => .all fun _ => xEs ((xEK prog n).loop scr b s v h)⟩
theorem Ev.const {p : Prop} (h : Ev fun _ => p) : p := let ⟨n,hn⟩ := h; hn n (Nat.le_refl n)
theorem xTN {α : Type} {a b : Option α} (h1 : ∀ v,a = some v → b = some v) (h2 : ∀ v,b = some v → a = some v) : a = b := by
  cases a with
  | some v => exact (h1 v rfl).symm
  | none =>
    cases b with
    | none => rfl
    | some v => exact h2 v rfl
theorem xAH {f : Nat} {fn : AFunc} (hf : prog f = some fn) (args : List AV) : (lim prog).pcall f args = xBj (lim prog) fn args := by
  refine xTN (fun v h => ?_) (fun v h => xL2 hf h)
  obtain ⟨n,hn⟩ := xCf (p := fun m => (fix prog m).pcall f args) h
  have h1 : (xCL prog (fix prog n)).pcall f args = some v := hn (n + 1) (by omega)
  have h2 := (xBq (xTM prog n) prog).pcall f args v h1 |>.const
  simp only [xCL,hf] at h2
  exact h2
theorem xGe (f : AV) (args : List AV) (H : Heap) : (lim prog).icall f args H = xC7 prog (lim prog) f args H := by
  refine xTN (fun v h => ?_) (fun v h => xL3 h)
  obtain ⟨n,hn⟩ := xCf (p := fun m => (fix prog m).icall f args H) h
  have h1 : (xCL prog (fix prog n)).icall f args H = some v := hn (n + 1) (by omega)
  exact (xBq (xTM prog n) prog).icall f args H v h1 |>.const
theorem xEA (scr : List Nat) (b : ACode) (s : St) : (lim prog).loop scr b s = xHj (lim prog) scr b s := by
  refine xTN (fun v h => ?_) (fun v h => xPn h)
  obtain ⟨n,hn⟩ := xCf (p := fun m => (fix prog m).loop scr b s) h
  have h1 : (xCL prog (fix prog n)).loop scr b s = some v := hn (n + 1) (by omega)
  exact (xBq (xTM prog n) prog).loop scr b s v h1 |>.const
theorem xAL {f : Nat} {fn : AFunc} (hf : prog f = some fn) (caps args : List AV) (H : Heap) : (lim prog).icall (.func f caps) args H = xB1 (lim prog) fn (args ++ caps) H := by
  rw [xGe]
  simp only [xC7,hf]
theorem xGf (l : Nat) (args : List AV) (H : Heap) : (lim prog).icall (.yield l) args H = xEY (lim prog) l args H := by
  rw [xGe]
  rfl
theorem xEl (scr : List Nat) (b : ACode) (F : List AV) (H : Heap) : (lim prog).loop scr b ⟨F,H⟩ = (lim prog).loop scr b ⟨xAM scr F,H⟩ := by
  rw [xEA,xEA]
  unfold xHj
  simp only [xO3]
def xBT (R : Rec) (scr : List Nat) (b : ACode) : Option (AExit × St) → Option (AExit × St)
  | some (.normal,s) => R.loop scr b ⟨xAM scr s.F,s.H⟩
  | some (e,s) => some (e,⟨xAM scr s.F,s.H⟩)
  | none => none
theorem xAo (scr : List Nat) (b : ACode) (F : List AV) (H : Heap) (h : xAM scr F = F) : (lim prog).loop scr b ⟨F,H⟩ = xBT (lim prog) scr b (run (lim prog) b ⟨F,H⟩) := by
  rw [xEA]
  unfold xHj xBT
  simp only [h]
  split
  · rename_i s' hs
    rw [hs]
    exact xEl scr b s'.F s'.H
  · rename_i e s' hne hs
    rw [hs]
    cases e with
    | normal => exact (hne rfl).elim
    | exit i => rfl
    | ret => rfl
  · rename_i hs
    rw [hs]
theorem xPY (scr : List Nat) (b : ACode) (F : List AV) (H : Heap) : run (lim prog) (.loop scr b) ⟨F,H⟩ = (lim prog).loop scr b ⟨xAM scr F,H⟩ := xEl scr b F H
end
section
variable {R : Rec} {F : List AV} {H : Heap} {s : St}
def xW0 (R : Rec) (b : ACode) : Option (AExit × St) → Option (AExit × St)
  | some (.normal,s) => run R b s
  | r => r
theorem xTO (a b : ACode) : run R (.seq a b) s = xW0 R b (run R a s) := by
  simp only [run,xW0]
  split <;> simp_all
theorem xHt (b : ACode) (s : St) : xW0 R b (some (.normal,s)) = run R b s := rfl
theorem xM1 (b : ACode) (i : Nat) (s : St) : xW0 R b (some (.exit i,s)) = some (.exit i,s) := rfl
theorem xPZ (b : ACode) (s : St) : xW0 R b (some (.ret,s)) = some (.ret,s) := rfl
theorem xM2 (b : ACode) : xW0 R b none = none := rfl
theorem xP0 (b : ACode) {c : Prop} [Decidable c] (x y : Option (AExit × St)) : xW0 R b (if c then x else y) = if c then xW0 R b x else xW0 R b y := by split <;> rfl
def xZA (R : Rec) (a b : ACode) (s : St) : AV → Option (AExit × St)
  | .bool t => if t = true then run R a s else run R b s
  | _ => none
theorem xP1 (c : Arg) (a b : ACode) (F : List AV) (H : Heap) : run R (.cond c a b) ⟨F,H⟩ = xZA R a b ⟨F,H⟩ (opv F c) := by
  simp only [run,xZA]
  split <;> simp_all
theorem xJO (a b : ACode) (t : Bool) : xZA R a b s (.bool t) = if t = true then run R a s else run R b s := rfl
def xE9 (id : Nat) : Option (AExit × St) → Option (AExit × St)
  | some (.exit i,s) => if i = id then some (.normal,s) else some (.exit i,s)
  | r => r
theorem xM3 (id : Nat) (b : ACode) : run R (.block id b) s = xE9 id (run R b s) := by
  simp only [run,xE9]
  split <;> simp_all
theorem xHu (id i : Nat) (s : St) : xE9 id (some (.exit i,s)) = if i = id then some (.normal,s) else some (.exit i,s) := rfl
theorem xFa (id : Nat) (s : St) : xE9 id (some (.normal,s)) = some (.normal,s) := rfl
theorem xJP (id : Nat) (s : St) : xE9 id (some (.ret,s)) = some (.ret,s) := rfl
theorem xHv (id : Nat) : xE9 id none = none := rfl
theorem xJQ (id : Nat) {c : Prop} [Decidable c] (x y : Option (AExit × St)) : xE9 id (if c then x else y) = if c then xE9 id x else xE9 id y := by split <;> rfl
theorem xGg (scr : List Nat) (b : ACode) (F : List AV) (H : Heap) : xBT R scr b (some (.normal,⟨F,H⟩)) = R.loop scr b ⟨xAM scr F,H⟩ := rfl
theorem xJR (scr : List Nat) (b : ACode) (i : Nat) (F : List AV) (H : Heap) : xBT R scr b (some (.exit i,⟨F,H⟩)) = some (.exit i,⟨xAM scr F,H⟩) := rfl
theorem xM4 (scr : List Nat) (b : ACode) (F : List AV) (H : Heap) : xBT R scr b (some (.ret,⟨F,H⟩)) = some (.ret,⟨xAM scr F,H⟩) := rfl
theorem xM5 (scr : List Nat) (b : ACode) {c : Prop} [Decidable c] (x y : Option (AExit × St)) : xBT R scr b (if c then x else y) = if c then xBT R scr b x else xBT R scr b y := by split <;> rfl
def xWf : Option St → Option (AExit × St)
  | some s => some (.normal,s)
  | none => none
theorem xM6 (s : St) : xWf (some s) = some (.normal,s) := rfl
theorem xM7 : xWf none = none := rfl
theorem xP2 {c : Prop} [Decidable c] (x y : Option St) : xWf (if c then x else y) = if c then xWf x else xWf y := by split <;> rfl
theorem xJS (ops : List AOper) : run R (.region ops) s = xWf (xAx R ops s) := by
  simp only [run,xWf]
  cases xAx R ops s <;> rfl
theorem xP3 : run R .skip s = some (.normal,s) := rfl
theorem xM8 : run R .label s = some (.normal,s) := rfl
theorem xP4 (i : Nat) : run R (.exit i) s = some (.exit i,s) := rfl
theorem xTP : run R .ret s = some (.ret,s) := rfl
theorem xM9 (b : ACode) : run R (.scope b) s = run R b s := rfl
theorem xNa : run R .stuck s = none := rfl
def xZB (R : Rec) (rest : List AOper) : Option St → Option St
  | some s => xAx R rest s
  | none => none
theorem xJT : xAx R [] s = some s := rfl
theorem xEB (o : AOper) (rest : List AOper) : xAx R (o :: rest) s = xZB R rest (xAG R o s) := by
  simp only [xAx,xZB]
  cases xAG R o s <;> rfl
theorem xHw (rest : List AOper) (s : St) : xZB R rest (some s) = xAx R rest s := rfl
theorem xNb (rest : List AOper) : xZB R rest none = none := rfl
theorem xP5 (rest : List AOper) {c : Prop} [Decidable c] (x y : Option St) : xZB R rest (if c then x else y) = if c then xZB R rest x else xZB R rest y := by split <;> rfl
def xTQ (F : List AV) (d : Option Nat) : Option (AV × Heap) → Option St
  | some (v,H) => some ⟨putA F d v,H⟩
  | none => none
theorem xTR (d : Nat) (v : AV) : xTQ F (some d) (some (v,H)) = some ⟨F.set d v,H⟩ := rfl
theorem xTS (v : AV) : xTQ F none (some (v,H)) = some ⟨F,H⟩ := rfl
theorem xNc (d : Option Nat) : xTQ F d none = none := rfl
theorem xP6 (d : Option Nat) {c : Prop} [Decidable c] (x y : Option (AV × Heap)) : xTQ F d (if c then x else y) = if c then xTQ F d x else xTQ F d y := by split <;> rfl
theorem xNd (d : Option Nat) (op : AOp) : xAG R ⟨d,op,none⟩ ⟨F,H⟩ = xTQ F d (xAa R F H op) := by
  simp only [xAG,xB0,xTQ]
  cases xAa R F H op <;> rfl
def xP7 (R : Rec) (d : Option Nat) (op : AOp) (w : Bool) (F : List AV) (H : Heap) : AV → Option St
  | .bool b => if b = w then xTQ F d (xAa R F H op) else some ⟨putA F d (.tup []),H⟩
  | .any => none
  | _ => some ⟨putA F d (.tup []),H⟩
theorem xJU (d : Option Nat) (op : AOp) (t : Nat) (w : Bool) : xAG R ⟨d,op,some (t,w)⟩ ⟨F,H⟩ = xP7 R d op w F H (F.getD t .any) := by
  simp only [xAG,xB0,xP7]
  cases F.getD t .any with
  | bool b =>
    cases b <;> cases w <;> simp [xTQ] <;> cases xAa R F H op <;> rfl
  | _ => rfl
theorem xHx (d : Option Nat) (op : AOp) (w b : Bool) : xP7 R d op w F H (.bool b) = if b = w then xTQ F d (xAa R F H op) else some ⟨putA F d (.tup []),H⟩ := rfl
theorem xJV (d : Option Nat) (op : AOp) (w : Bool) (vs : List AV) : xP7 R d op w F H (.tup vs) = some ⟨putA F d (.tup []),H⟩ := rfl
theorem xTT (d : Nat) (v : AV) : putA F (some d) v = F.set d v := rfl
theorem xTU (v : AV) : putA F none v = F := rfl
def xO4 (R : Rec) (m : Nat) (ops : List AOper) : Option St → Option (AExit × St)
  | some s => xWf (xAx R (ops.drop m) (adopt (ops.take m) s))
  | none => none
theorem xP8 (m : Nat) (ops : List AOper) : run R (.draw m ops) s = xO4 R m ops (xBb R (ops.take m) s) := by
  simp only [run,xO4]
  cases xBb R (ops.take m) s with
  | none => rfl
  | some s1 =>
    simp only [xWf]
    cases xAx R (ops.drop m) (adopt (ops.take m) s1) <;> rfl
theorem xJW (m : Nat) (ops : List AOper) (s : St) : xO4 R m ops (some s) = xWf (xAx R (ops.drop m) (adopt (ops.take m) s)) := rfl
theorem xJX (m : Nat) (ops : List AOper) : xO4 R m ops none = none := rfl
theorem xNe (m : Nat) (ops : List AOper) {c : Prop} [Decidable c] (x y : Option St) : xO4 R m ops (if c then x else y) = if c then xO4 R m ops x else xO4 R m ops y := by split <;> rfl
def xCA (ls : List (Nat × Nat × Nat × Nat)) : Option St → Option (AExit × St)
  | some s => if ls.all (apart s.F) = true then some (.normal,s) else none
  | none => none
def xHy (R : Rec) (ls : List (Nat × Nat × Nat × Nat)) (m : Nat) (ops : List AOper) : Option St → Option (AExit × St)
  | some s => xCA ls (xAx R (ops.drop m) (adopt (ops.take m) s))
  | none => none
theorem xNf (ls : List (Nat × Nat × Nat × Nat)) (m : Nat) (ops : List AOper) : run R (.drawl ls m ops) s = xHy R ls m ops (xBb R (ops.take m) s) := by
  simp only [run,xHy]
  cases xBb R (ops.take m) s with
  | none => rfl
  | some s1 =>
    simp only [xCA]
    cases xAx R (ops.drop m) (adopt (ops.take m) s1) <;> rfl
theorem xHz (ls : List (Nat × Nat × Nat × Nat)) (m : Nat) (ops : List AOper) (s : St) : xHy R ls m ops (some s) = xCA ls (xAx R (ops.drop m) (adopt (ops.take m) s)) := rfl
theorem xHA (ls : List (Nat × Nat × Nat × Nat)) (m : Nat) (ops : List AOper) : xHy R ls m ops none = none := rfl
theorem xJY (ls : List (Nat × Nat × Nat × Nat)) (m : Nat) (ops : List AOper) {c : Prop} [Decidable c] (x y : Option St) : xHy R ls m ops (if c then x else y) = if c then xHy R ls m ops x else xHy R ls m ops y := by split <;> rfl
theorem xHB (ls : List (Nat × Nat × Nat × Nat)) (s : St) : xCA ls (some s) = if ls.all (apart s.F) = true then some (.normal,s) else none := rfl
theorem xHC (ls : List (Nat × Nat × Nat × Nat)) : xCA ls none = none := rfl
theorem xJZ (ls : List (Nat × Nat × Nat × Nat)) {c : Prop} [Decidable c] (x y : Option St) : xCA ls (if c then x else y) = if c then xCA ls x else xCA ls y := by split <;> rfl
def xO5 (R : Rec) (rest : List AOper) : Option St → Option St
  | some s => xBb R rest s
  | none => none
theorem xHD : xBb R [] s = some s := rfl
theorem xGh (o : AOper) (rest : List AOper) : xBb R (o :: rest) s = xO5 R rest (xAO R o s) := by
  simp only [xBb,xO5]
  cases xAO R o s <;> rfl
theorem xJ0 (rest : List AOper) (s : St) : xO5 R rest (some s) = xBb R rest s := rfl
theorem xJ1 (rest : List AOper) : xO5 R rest none = none := rfl
theorem xNg (rest : List AOper) {c : Prop} [Decidable c] (x y : Option St) : xO5 R rest (if c then x else y) = if c then xO5 R rest x else xO5 R rest y := by split <;> rfl
def xHE (F : List AV) (d : Option Nat) (H : Heap) : Option (AV × Heap) → Option St
  | some (v,_) => some ⟨putA F d v,H⟩
  | none => none
theorem xP9 (d : Nat) (v : AV) (H' : Heap) : xHE F (some d) H (some (v,H')) = some ⟨F.set d v,H⟩ := rfl
theorem xQa (v : AV) (H' : Heap) : xHE F none H (some (v,H')) = some ⟨F,H⟩ := rfl
theorem xJ2 (d : Option Nat) : xHE F d H none = none := rfl
theorem xNh (d : Option Nat) {c : Prop} [Decidable c] (x y : Option (AV × Heap)) : xHE F d H (if c then x else y) = if c then xHE F d H x else xHE F d H y := by split <;> rfl
def xAN (R : Rec) (F : List AV) (H : Heap) (op : AOp) : Option (AV × Heap) := (xAw R F H op).map fun v => (v,H)
theorem xJ3 (d : Option Nat) (op : AOp) : xAO R ⟨d,op,none⟩ ⟨F,H⟩ = xHE F d H (xAN R F H op) := by
  simp only [xAO,xB0,xHE,xAN]
  cases xAw R F H op <;> rfl
def xLy (R : Rec) (d : Option Nat) (op : AOp) (w : Bool) (F : List AV) (H : Heap) : AV → Option St
  | .bool b => if b = w then xHE F d H (xAN R F H op) else some ⟨putA F d (.tup []),H⟩
  | .any => none
  | _ => some ⟨putA F d (.tup []),H⟩
theorem xHF (d : Option Nat) (op : AOp) (t : Nat) (w : Bool) : xAO R ⟨d,op,some (t,w)⟩ ⟨F,H⟩ = xLy R d op w F H (F.getD t .any) := by
  simp only [xAO,xB0,xLy]
  cases F.getD t .any with
  | bool b =>
    cases b <;> cases w <;> simp [xHE,xAN] <;> cases xAw R F H op <;> rfl
  | _ => rfl
theorem xGi (d : Option Nat) (op : AOp) (w b : Bool) : xLy R d op w F H (.bool b) = if b = w then xHE F d H (xAN R F H op) else some ⟨putA F d (.tup []),H⟩ := rfl
theorem xHG (d : Option Nat) (op : AOp) (w : Bool) (vs : List AV) : xLy R d op w F H (.tup vs) = some ⟨putA F d (.tup []),H⟩ := rfl
def xCB (H : Heap) : Option AV → Option (AV × Heap)
  | some v => some (v,H)
  | none => none
theorem xNi (v : AV) : xCB H (some v) = some (v,H) := rfl
theorem xNj : xCB H none = none := rfl
theorem xQb {c : Prop} [Decidable c] (x y : Option AV) : xCB H (if c then x else y) = if c then xCB H x else xCB H y := by split <;> rfl
theorem xYd (x : Arg) : xAa R F H (.mov x) = some (opv F x,H) := rfl
def xZC : AV → AV → AV → Option AV
  | .bool t,a,b => some (if t = true then a else b)
  | _,_,_ => none
theorem xJ4 (t : Bool) (a b : AV) : xZC (.bool t) a b = some (if t = true then a else b) := rfl
theorem xTV (c a b : Arg) : xAa R F H (.pick c a b) = xCB H (xZC (opv F c) (opv F a) (opv F b)) := by
  simp only [xAa,xZC,xCB]
  split <;> simp_all
theorem xYe (x : Arg) : xAa R F H (.box x) = if (opv F x).cells.all AV.isCell = true then some (.ptr H.length 0,H ++ [.cells false false (opv F x).cells]) else none := rfl
theorem xQc (z : List AV) (parts : List (Nat × Nat × Arg)) : xAa R F H (.build z parts) =
    if parts.all (fun p => (opv F p.2.2).cells.length == p.2.1) = true then xCB H ((fillA z (parts.map fun p => (p.1,(opv F p.2.2).cells))).map AV.agg) else none := by
  simp only [xAa,xCB]
  split
  · cases fillA z (parts.map fun p => (p.1,(opv F p.2.2).cells)) <;> rfl
  · rfl
def yCo (fz z : Bool) (n es : Nat) (H : Heap) : Option (List AV) → Option (AV × Heap)
  | some cs => xDv fz z n es cs H
  | none => none
theorem xNk (fz z : Bool) (n es : Nat) (cs : List AV) : yCo fz z n es H (some cs) = xDv fz z n es cs H := rfl
theorem xQd (z : Bool) (n es : Nat) (cs : List AV) : xDv false z n es cs H = some (.own z H.length 0 n es,H ++ [.cells false z cs]) := rfl
def slK (z : Bool) (n : Nat) : Option (List AV) → Option AV
  | some cs => some (.sl z n cs)
  | none => none
theorem xQe (z : Bool) (n : Nat) (cs : List AV) : slK z n (some cs) = some (.sl z n cs) := rfl
theorem xNl (z : Bool) (n es : Nat) (cs : List AV) : xDv true z n es cs H = if (cs.flatMap (bor frzN H)).isEmpty = true then xCB H (slK z n (cs.mapM (frz frzN H))) else none := by
  simp only [xDv,xCB,slK]
  split
  · rename_i h
    cases cs.mapM (frz frzN H) <;> simp_all
  · simp_all
theorem xNm (fz : Bool) (z : List AV) (es n : Nat) (parts : List (Nat × Arg)) : xAa R F H (.bslice fz z es n parts) =
    if parts.all (fun p => (opv F p.2).cells.length == es) = true then yCo fz false n es H (fillA (xCS z n) (parts.map fun p => (p.1 * es,(opv F p.2).cells))) else none := by
  simp only [xAa,yCo]
  split
  · cases fillA (xCS z n) (parts.map fun p => (p.1 * es,(opv F p.2).cells)) <;> rfl
  · rfl
def xW1 (g : Bool) : Option (List AV) → Option AV
  | some cs => mkv g cs
  | none => none
theorem xTW (v : AV) : xW1 false (some [v]) = some v := rfl
theorem xTX (cs : List AV) : xW1 true (some cs) = some (.agg cs) := rfl
theorem xTY (g : Bool) (n : Nat) (p : Arg) : xAa R F H (.load g n p) = xCB H (xW1 g (rd H (opv F p) n)) := by
  simp only [xAa,xCB,xW1]
  cases rd H (opv F p) n with
  | none => rfl
  | some cs => simp only; cases mkv g cs <;> rfl
def rdK (off n : Nat) : Option Blk → Option (List AV)
  | some (.cells _ _ cs) => if off + n ≤ cs.length then some ((cs.drop off).take n) else none
  | _ => none
theorem xYf (id off n : Nat) : rd H (.ptr id off) n = rdK off n H[id]? := by
  simp only [rd,rdK]
  rfl
theorem xNn {off n : Nat} {fz z : Bool} {cs : List AV} (h : off + n ≤ cs.length) : rdK off n (some (.cells fz z cs)) = some ((cs.drop off).take n) := if_pos h
theorem xTZ {off n : Nat} {cs : List AV} (h : off + n ≤ cs.length) : rd H (.vptr cs off) n = some ((cs.drop off).take n) := if_pos h
def wrK (H : Heap) (id off : Nat) (vs : List AV) : Option Blk → Option Heap
  | some (.cells false z cs) => if off + vs.length ≤ cs.length ∧ vs.all AV.isCell = true then some (H.set id (.cells false z (splice cs off vs))) else none
  | _ => none
theorem xYg (id off : Nat) (vs : List AV) : wr H (.ptr id off) vs = wrK H id off vs H[id]? := by
  simp only [wr,wrK]
  rfl
theorem xNo {id off : Nat} {vs : List AV} {z : Bool} {cs : List AV} (h : off + vs.length ≤ cs.length) (h2 : vs.all AV.isCell = true) : wrK H id off vs (some (.cells false z cs)) = some (H.set id (.cells false z (splice cs off vs))) := if_pos ⟨h,h2⟩
def xT0 : Option Heap → Option (AV × Heap)
  | some H => some (.tup [],H)
  | none => none
theorem xHH (H : Heap) : xT0 (some H) = some (.tup [],H) := rfl
theorem xQf (n : Nat) (p v : Arg) : xAa R F H (.store n p v) = if (opv F v).cells.length = n then xT0 (wr H (opv F p) (opv F v).cells) else none := by
  simp only [xAa,xT0]
  split
  · cases wr H (opv F p) (opv F v).cells <;> rfl
  · rfl
def yBb : AV → Option AV
  | .ptr id off => some (.ptr id off)
  | .vptr cs off => some (.vptr cs off)
  | .func f caps => some (.func f caps)
  | .yield l => some (.yield l)
  | _ => none
theorem xQg (id off : Nat) : yBb (.ptr id off) = some (.ptr id off) := rfl
theorem xNp (cs : List AV) (off : Nat) : yBb (.vptr cs off) = some (.vptr cs off) := rfl
theorem xNq (f : Nat) (cs : List AV) : yBb (.func f cs) = some (.func f cs) := rfl
theorem xJ5 (l : Nat) : yBb (.yield l) = some (.yield l) := rfl
theorem xNr (x : Arg) : xAa R F H (.nilchk x) = xCB H (yBb (opv F x)) := by
  simp only [xAa]
  cases opv F x <;> rfl
theorem xYh (op : BinOp) (x y : Arg) : xAa R F H (.bin op x y) = xCB H (xDo op (opv F x) (opv F y)) := by
  simp only [xAa,xCB]
  cases xDo op (opv F x) (opv F y) <;> rfl
section
variable (k : IntKind) (a b : Int)
theorem xT1 : xDo .add (.int k a) (.int k b) = some (.int k (k.wrap (a + b))) := by simp [xDo]
theorem xT2 : xDo .sub (.int k a) (.int k b) = some (.int k (k.wrap (a - b))) := by simp [xDo]
theorem xT3 : xDo .mul (.int k a) (.int k b) = some (.int k (k.wrap (a * b))) := by simp [xDo]
theorem xT4 (h : b ≠ 0) : xDo .quo (.int k a) (.int k b) = some (.int k (k.wrap (a.tdiv b))) := by simp [xDo,h]
theorem xT5 (h : b ≠ 0) : xDo .rem (.int k a) (.int k b) = some (.int k (a.tmod b)) := by simp [xDo,h]
theorem xT6 : xDo .and (.int k a) (.int k b) = some (.int k (xIL .and k a b)) := by simp [xDo]
theorem xYi : xDo .or (.int k a) (.int k b) = some (.int k (xIL .or k a b)) := by simp [xDo]
theorem xT7 : xDo .xor (.int k a) (.int k b) = some (.int k (xIL .xor k a b)) := by simp [xDo]
theorem xJ6 : xDo .andNot (.int k a) (.int k b) = some (.int k (xIL .andNot k a b)) := by simp [xDo]
theorem xT8 (k' : IntKind) (h : 0 ≤ b) : xDo .shl (.int k a) (.int k' b) = some (.int k (k.wrap (a * 2 ^ (min b.toNat k.bits)))) := by simp only [xDo]; rw [if_neg (by omega)]
theorem xT9 (k' : IntKind) (h : 0 ≤ b) : xDo .shr (.int k a) (.int k' b) = some (.int k (a.fdiv (2 ^ (min b.toNat k.bits)))) := by simp only [xDo]; rw [if_neg (by omega)]
theorem xUa : xDo .eql (.int k a) (.int k b) = some (.bool (decide (a = b))) := by simp [xDo]; rfl
theorem xUb : xDo .neq (.int k a) (.int k b) = some (.bool (!decide (a = b))) := by simp [xDo]; rfl
theorem xUc : xDo .lss (.int k a) (.int k b) = some (.bool (decide (a < b))) := by simp [xDo]
theorem xUd : xDo .leq (.int k a) (.int k b) = some (.bool (decide (a ≤ b))) := by simp [xDo]
theorem xUe : xDo .gtr (.int k a) (.int k b) = some (.bool (decide (b < a))) := by simp [xDo]
theorem xUf : xDo .geq (.int k a) (.int k b) = some (.bool (decide (b ≤ a))) := by simp [xDo]
end
def yCp (neg : Bool) : AV → AV → Option AV
  | .bool a,.bool b => some (.bool (if neg = true then a != b else a == b))
  | _,_ => none
theorem xYj (a b : Bool) : yCp false (.bool a) (.bool b) = some (.bool (decide (a = b))) := by cases a <;> cases b <;> rfl
theorem xYk (a b : Bool) : yCp true (.bool a) (.bool b) = some (.bool (!decide (a = b))) := by cases a <;> cases b <;> rfl
theorem xYl (neg : Bool) (x y : Arg) : xAa R F H (.beq neg x y) = xCB H (yCp neg (opv F x) (opv F y)) := by
  simp only [xAa]
  cases opv F x <;> cases opv F y <;> rfl
def xNs (neg : Bool) : AV → Option AV
  | .sl z _ _ => some (.bool (z != neg))
  | .own z _ _ _ _ => some (.bool (z != neg))
  | _ => none
theorem xJ7 (z : Bool) (n : Nat) (cs : List AV) : xNs false (.sl z n cs) = some (.bool z) := by cases z <;> rfl
theorem xJ8 (z : Bool) (n : Nat) (cs : List AV) : xNs true (.sl z n cs) = some (.bool (!z)) := by cases z <;> rfl
theorem xHI (z : Bool) (id off n es : Nat) : xNs false (.own z id off n es) = some (.bool z) := by cases z <;> rfl
theorem xHJ (z : Bool) (id off n es : Nat) : xNs true (.own z id off n es) = some (.bool (!z)) := by cases z <;> rfl
theorem xQh (neg : Bool) (x : Arg) : xAa R F H (.isnil neg x) = xCB H (xNs neg (opv F x)) := by
  simp only [xAa]
  cases opv F x <;> rfl
theorem yBc (op : UnOp) (x : Arg) : xAa R F H (.un op x) = xCB H (unA op (opv F x)) := by
  simp only [xAa,xCB]
  cases unA op (opv F x) <;> rfl
theorem xYm (b : Bool) : unA .not (.bool b) = some (.bool !b) := rfl
theorem xYn (k : IntKind) (n : Int) : unA .neg (.int k n) = some (.int k (k.wrap (0 - n))) := rfl
theorem xYo (k : IntKind) (n : Int) : unA .xor (.int k n) = some (.int k (xIL .xor k (if k.signed then -1 else k.max) n)) := rfl
def yBd (k : IntKind) : AV → Option AV
  | .int _ n => some (.int k (k.wrap n))
  | _ => none
theorem xNt (k k' : IntKind) (n : Int) : yBd k (.int k' n) = some (.int k (k.wrap n)) := rfl
theorem xUg (k : IntKind) (x : Arg) : xAa R F H (.conv k x) = xCB H (yBd k (opv F x)) := by
  simp only [xAa]
  cases opv F x <;> rfl
theorem xNu (f : Nat) (caps : List Arg) : xAa R F H (.mkfunc f caps) = some (.func f (caps.map (opv F)),H) := rfl
def yDq (fz : Bool) (z : List AV) (bytes : Nat) (H : Heap) : AV → AV → Option (AV × Heap)
  | .int _ l,.int _ c => if 0 ≤ l ∧ l ≤ c ∧ c * bytes ≤ xBk ∧ c ≤ xBk ∧ z.all AV.isCell = true then xDv fz false l.toNat z.length (xCS z l.toNat) H else none
  | _,_ => none
theorem xQi (fz : Bool) (z : List AV) (bytes : Nat) (k k' : IntKind) {l c : Int} (h1 : 0 ≤ l) (h2 : l ≤ c) (h3 : c * bytes ≤ 140737488355328) (h4 : c ≤ 140737488355328) (h5 : z.all AV.isCell = true) : yDq fz z bytes H (.int k l) (.int k' c) = xDv fz false l.toNat z.length (xCS z l.toNat) H := if_pos ⟨h1,h2,h3,h4,h5⟩
theorem xJ9 (fz : Bool) (z : List AV) (bytes : Nat) (l c : Arg) : xAa R F H (.mkslice fz z bytes l c) = yDq fz z bytes H (opv F l) (opv F c) := by
  simp only [xAa]
  cases opv F l <;> cases opv F c <;> rfl
def xZD (es : Nat) (H : Heap) (x : AV) : Option (Nat × Nat) → Option AV
  | none => none
  | some (l,h) => match x with
    | .sl z _ cs => some (.sl z (h - l) ((cs.drop (l * es)).take ((h - l) * es)))
    | .own z id off _ _ => some (.own z id (off + l * es) (h - l) es)
    | _ => none
def xQj (es : Nat) (H : Heap) (lo hi mx : Option AV) : AV → Option AV
  | .sl z n cs => if cs.length = n * es then xZD es H (.sl z n cs) (xBo n lo hi mx) else none
  | .own z id off n es' => if es' = es then xZD es H (.own z id off n es') (xBo n lo hi mx) else none
  | _ => none
theorem xQk (es : Nat) (x : Arg) (lo hi mx : Option Arg) : xAa R F H (.slice es x lo hi mx) = xCB H (xQj es H (lo.map (opv F)) (hi.map (opv F)) (mx.map (opv F)) (opv F x)) := by
  simp only [xAa,xCB,xQj,xZD]
  cases opv F x with
  | sl z n cs =>
    simp only
    split
    · cases xBo n (lo.map (opv F)) (hi.map (opv F)) (mx.map (opv F)) <;> rfl
    · rfl
  | own z id off n es' =>
    simp only
    split
    · cases xBo n (lo.map (opv F)) (hi.map (opv F)) (mx.map (opv F)) <;> rfl
    · rfl
  | _ => rfl
theorem xNv {es n : Nat} {z : Bool} {cs : List AV} (lo hi mx : Option AV) (h : cs.length = n * es) : xQj es H lo hi mx (.sl z n cs) = xZD es H (.sl z n cs) (xBo n lo hi mx) := if_pos h
theorem xKa {es n id off : Nat} {z : Bool} (lo hi mx : Option AV) : xQj es H lo hi mx (.own z id off n es) = xZD es H (.own z id off n es) (xBo n lo hi mx) := if_pos rfl
theorem xUh (es : Nat) (z : Bool) (n : Nat) (cs : List AV) (l h : Nat) : xZD es H (.sl z n cs) (some (l,h)) = some (.sl z (h - l) ((cs.drop (l * es)).take ((h - l) * es))) := rfl
theorem xQl (es : Nat) (z : Bool) (id off n es' : Nat) (l h : Nat) : xZD es H (.own z id off n es') (some (l,h)) = some (.own z id (off + l * es) (h - l) es) := rfl
theorem xNw (n : Nat) : xBo n none none none = some (0,n) := by simp [xBo]
theorem xNx {n : Nat} {k : IntKind} {l : Int} (h0 : 0 ≤ l) (h : l ≤ n) : xBo n (some (.int k l)) none none = some (l.toNat,n) := by
  simp only [xBo,xBh,if_pos h0]
  rw [if_pos ⟨by omega,by omega⟩]
theorem xNy {n : Nat} {k : IntKind} {m : Int} (h0 : 0 ≤ m) (h : m ≤ n) : xBo n none (some (.int k m)) none = some (0,m.toNat) := by
  simp only [xBo,xBh,if_pos h0]
  rw [if_pos ⟨by omega,by omega⟩]
theorem xNz {n : Nat} {k k' : IntKind} {l m : Int} (h0 : 0 ≤ l) (h1 : l ≤ m) (h : m ≤ n) : xBo n (some (.int k l)) (some (.int k' m)) none = some (l.toNat,m.toNat) := by
  have h2 : 0 ≤ m := by omega
  simp only [xBo,xBh,if_pos h0,if_pos h2]
  rw [if_pos ⟨by omega,by omega⟩]
def xUi (o : Nat) : AV → Option AV
  | .ptr id off => some (.ptr id (off + o))
  | .vptr cs off => some (.vptr cs (off + o))
  | _ => none
theorem xKb (o id off : Nat) : xUi o (.ptr id off) = some (.ptr id (off + o)) := rfl
theorem xHK (o : Nat) (cs : List AV) (off : Nat) : xUi o (.vptr cs off) = some (.vptr cs (off + o)) := rfl
theorem xQm (o : Nat) (x : Arg) : xAa R F H (.faddr o x) = xCB H (xUi o (opv F x)) := by
  simp only [xAa]
  cases opv F x <;> rfl
def xUj (g : Bool) (off n : Nat) : AV → Option AV
  | .agg cs => if off + n ≤ cs.length then mkv g ((cs.drop off).take n) else none
  | _ => none
theorem xKc {g : Bool} {off n : Nat} {cs : List AV} (h : off + n ≤ cs.length) : xUj g off n (.agg cs) = mkv g ((cs.drop off).take n) := if_pos h
theorem yBe (v : AV) : mkv false [v] = some v := rfl
theorem yBf (cs : List AV) : mkv true cs = some (.agg cs) := rfl
theorem xQn (g : Bool) (off n : Nat) (x : Arg) : xAa R F H (.field g off n x) = xCB H (xUj g off n (opv F x)) := by
  simp only [xAa]
  cases opv F x with
  | agg cs =>
    simp only [xUj,xCB]
    split
    · cases mkv g ((cs.drop off).take n) <;> rfl
    · rfl
  | _ => rfl
def xKd (es : Nat) : AV → AV → Option AV
  | .sl _ n cs,.int _ i => if 0 ≤ i ∧ i.toNat < n then some (.vptr cs (i.toNat * es)) else none
  | .own _ id off n es',.int _ i => if 0 ≤ i ∧ i.toNat < n ∧ es' = es then some (.ptr id (off + i.toNat * es)) else none
  | _,_ => none
theorem xNA {es n : Nat} {z : Bool} {cs : List AV} {k : IntKind} {i : Int} (h0 : 0 ≤ i) (h : i < n) : xKd es (.sl z n cs) (.int k i) = some (.vptr cs (i.toNat * es)) := if_pos ⟨h0,by omega⟩
theorem xKe {es n id off : Nat} {z : Bool} {k : IntKind} {i : Int} (h0 : 0 ≤ i) (h : i < n) : xKd es (.own z id off n es) (.int k i) = some (.ptr id (off + i.toNat * es)) := if_pos ⟨h0,by omega,rfl⟩
theorem xQo (es : Nat) (x i : Arg) : xAa R F H (.iaddr es x i) = xCB H (xKd es (opv F x) (opv F i)) := by
  simp only [xAa]
  cases opv F x with
  | sl z n cs =>
    cases opv F i with
    | int k j =>
      simp only [xBh,xKd,xCB]
      by_cases h : 0 ≤ j
      · by_cases h2 : j.toNat < n <;> simp [h,h2]
      · simp [h]
    | _ => rfl
  | own z id off n es' =>
    cases opv F i with
    | int k j =>
      simp only [xBh,xKd,xCB]
      by_cases h : 0 ≤ j
      · by_cases h2 : j.toNat < n
        · by_cases h3 : es' = es <;> simp [h,h2,h3]
        · simp [h,h2]
      · simp [h]
    | _ => rfl
  | _ => cases opv F i <;> simp [xKd,xCB,xBh] <;> split <;> simp_all
def yCq (i : Nat) : AV → Option AV
  | .tup vs => vs[i]?
  | _ => none
theorem xQp (i : Nat) (vs : List AV) : yCq i (.tup vs) = vs[i]? := rfl
theorem xYp (i : Nat) (x : Arg) : xAa R F H (.ext i x) = xCB H (yCq i (opv F x)) := by
  simp only [xAa]
  cases opv F x with
  | tup vs => simp only [yCq,xCB]; cases vs[i]? <;> rfl
  | _ => rfl
def yB6 : AV → Option AV
  | .sl _ n _ => some (.int .i64 n)
  | .own _ _ _ n _ => some (.int .i64 n)
  | _ => none
theorem xUk (z : Bool) (n : Nat) (cs : List AV) : yB6 (.sl z n cs) = some (.int .i64 n) := rfl
theorem xQq (z : Bool) (id off n es : Nat) : yB6 (.own z id off n es) = some (.int .i64 n) := rfl
theorem xYq (x : Arg) : xAa R F H (.len x) = xCB H (yB6 (opv F x)) := by
  simp only [xAa]
  cases opv F x <;> rfl
theorem xYr (x : Arg) : xAa R F H (.cap x) = match opv F x with
  | .sl true _ _ => some (.int .i64 0,H)
  | _ => none := rfl
def yCr (neg : Bool) (n : Nat) : AV → AV → Option AV
  | .agg cs,.agg ds => if cs.length = n then (xBO cs ds).map fun b => .bool (b != neg) else none
  | _,_ => none
theorem xQr {neg : Bool} {n : Nat} {cs ds : List AV} (h : cs.length = n) : yCr neg n (.agg cs) (.agg ds) = (xBO cs ds).map fun b => .bool (b != neg) := if_pos h
theorem xYs (neg : Bool) (n : Nat) (x y : Arg) : xAa R F H (.aeq neg n x y) = xCB H (yCr neg n (opv F x) (opv F y)) := by
  simp only [xAa]
  cases opv F x with
  | agg cs => cases opv F y with
    | agg ds =>
      simp only [yCr,xCB]
      split
      · cases xBO cs ds <;> rfl
      · rfl
    | _ => rfl
  | _ => rfl
def xYt (fz : Bool) (es bytes : Nat) (H : Heap) (x : AV) : Option (Nat × List AV) → Option (AV × Heap)
  | none => none
  | some (m,ys) => match x with
    | .sl true _ _ => if m * bytes ≤ xBk ∧ m ≤ xBk then xDv fz (m == 0) m es ys H else none
    | .own z id off n es' => match H[id]? with
      | some (.cells false _ cs) => if off = 0 ∧ es' = es ∧ n * es ≤ cs.length ∧ (n + m) * bytes ≤ xBk ∧ n + m ≤ xBk then
          some (.own (z && m == 0) H.length 0 (n + m) es,H.set id .dead ++ [.cells false (z && m == 0) (cs.take (n * es) ++ ys)]) else none
      | _ => none
    | _ => none
theorem xHL (fz : Bool) (es bytes : Nat) (x y : Arg) : xAa R F H (.append fz es bytes x y) = xYt fz es bytes H (opv F x) (src H es (opv F y)) := by
  simp only [xAa,xYt]
  cases src H es (opv F y) <;> rfl
theorem xQs {fz : Bool} {es bytes n m : Nat} {cs ys : List AV} (h : m * bytes ≤ 140737488355328) (h2 : m ≤ 140737488355328) : xYt fz es bytes H (.sl true n cs) (some (m,ys)) = xDv fz (m == 0) m es ys H := if_pos ⟨h,h2⟩
def xZE (es bytes n m : Nat) (H : Heap) (z : Bool) (id : Nat) (ys : List AV) : Option Blk → Option (AV × Heap)
  | some (.cells false _ cs) => if n * es ≤ cs.length ∧ (n + m) * bytes ≤ xBk ∧ n + m ≤ xBk then
      some (.own (z && m == 0) H.length 0 (n + m) es,H.set id .dead ++ [.cells false (z && m == 0) (cs.take (n * es) ++ ys)]) else none
  | _ => none
theorem xQt (fz : Bool) (es bytes n m id : Nat) (z : Bool) (ys : List AV) : xYt fz es bytes H (.own z id 0 n es) (some (m,ys)) = xZE es bytes n m H z id ys H[id]? := by
  simp only [xYt,xZE]
  split
  · rename_i z' cs hb
    by_cases h : n * es ≤ cs.length ∧ (n + m) * bytes ≤ xBk ∧ n + m ≤ xBk
    · rw [if_pos h,if_pos ⟨trivial,trivial,h⟩]
    · rw [if_neg h,if_neg (fun g => h g.2.2)]
  · rename_i hne
    cases hb : H[id]? with
    | none => rfl
    | some b => cases b with
      | cells fz z cs => cases fz with
        | false => exact (hne _ _ hb).elim
        | true => rfl
      | _ => rfl
theorem xHM {es bytes n m id : Nat} {z z' : Bool} {ys cs : List AV} (h : n * es ≤ cs.length) (h2 : (n + m) * bytes ≤ 140737488355328) (h3 : n + m ≤ 140737488355328) : xZE es bytes n m H z id ys (some (.cells false z' cs)) =
    some (.own (z && m == 0) H.length 0 (n + m) es,H.set id .dead ++ [.cells false (z && m == 0) (cs.take (n * es) ++ ys)]) := if_pos ⟨h,h2,h3⟩
theorem xYu {es n : Nat} {z : Bool} {cs : List AV} (h : cs.length = n * es) : src H es (.sl z n cs) = some (n,cs) := if_pos h
def yCs (off n es : Nat) : Option Blk → Option (Nat × List AV)
  | some (.cells _ _ cs) => if off + n * es ≤ cs.length then some (n,(cs.drop off).take (n * es)) else none
  | _ => none
theorem xUl (es n id off : Nat) (z : Bool) : src H es (.own z id off n es) = yCs off n es H[id]? := by
  simp only [src,yCs]
  cases H[id]? with
  | none => rfl
  | some b => cases b <;> simp
theorem xKf {es n off : Nat} {fz z : Bool} {cs : List AV} (h : off + n * es ≤ cs.length) : yCs off n es (some (.cells fz z cs)) = some (n,(cs.drop off).take (n * es)) := if_pos h
def xNB (z : List AV) (bytes : Nat) (H : Heap) : AV → AV → Option (AV × Heap)
  | .sl true _ _,.int _ m => if 0 ≤ m ∧ m.toNat * bytes ≤ xBk ∧ m.toNat ≤ xBk ∧ z.all AV.isCell = true then xDv false (m.toNat == 0) m.toNat z.length (xCS z m.toNat) H else none
  | _,_ => none
theorem xKg (z : List AV) (bytes : Nat) (x n : Arg) : xAa R F H (.appendz z bytes x n) = xNB z bytes H (opv F x) (opv F n) := by
  simp only [xAa]
  cases hn : opv F n with
  | int k m =>
    simp only [xBh]
    by_cases h : 0 ≤ m
    · cases hx : opv F x with
      | sl zz nn cs => cases zz <;> simp [xNB,h]
      | _ => simp [xNB,h]
    · cases hx : opv F x with
      | sl zz nn cs => cases zz <;> simp [xNB,h]
      | _ => simp [xNB,h]
  | _ =>
    cases hx : opv F x with
    | sl zz nn cs => cases zz <;> simp [xNB,xBh]
    | _ => simp [xNB,xBh]
theorem xNC {z : List AV} {bytes n : Nat} {cs : List AV} {k : IntKind} {m : Int} (h0 : 0 ≤ m) (h1 : m.toNat * bytes ≤ 140737488355328) (h2 : m.toNat ≤ 140737488355328) (h3 : z.all AV.isCell = true) : xNB z bytes H (.sl true n cs) (.int k m) = xDv false (m.toNat == 0) m.toNat z.length (xCS z m.toNat) H := if_pos ⟨h0,h1,h2,h3⟩
def yCt : AV → AV → Option AV
  | .int k a,.int _ b => some (.int k (max a b))
  | _,_ => none
def yCu : AV → AV → Option AV
  | .int k a,.int _ b => some (.int k (min a b))
  | _,_ => none
theorem xQu (k k' : IntKind) (a b : Int) : yCt (.int k a) (.int k' b) = some (.int k (max a b)) := rfl
theorem xQv (k k' : IntKind) (a b : Int) : yCu (.int k a) (.int k' b) = some (.int k (min a b)) := rfl
theorem xUm (x y : Arg) : xAa R F H (.maxi x y) = xCB H (yCt (opv F x) (opv F y)) := by
  simp only [xAa]
  cases opv F x with
  | int k a => cases opv F y with
    | int k' b => simp only [yCt,xCB]; congr 3; split <;> omega
    | _ => rfl
  | _ => rfl
theorem xUn (x y : Arg) : xAa R F H (.mini x y) = xCB H (yCu (opv F x) (opv F y)) := by
  simp only [xAa]
  cases opv F x with
  | int k a => cases opv F y with
    | int k' b => simp only [yCu,xCB]; congr 3; split <;> omega
    | _ => rfl
  | _ => rfl
theorem xYv (z : List AV) : xCS z 0 = [] := rfl
theorem xYw (z : List AV) : xCS z 1 = z ++ ([]) := rfl
theorem xYx (z : List AV) : xCS z 2 = z ++ (z ++ ([])) := rfl
theorem xYy (z : List AV) : xCS z 3 = z ++ (z ++ (z ++ ([]))) := rfl
theorem xYz (z : List AV) : xCS z 4 = z ++ (z ++ (z ++ (z ++ ([])))) := rfl
theorem xYA (z : List AV) : xCS z 5 = z ++ (z ++ (z ++ (z ++ (z ++ ([]))))) := rfl
theorem xYB (z : List AV) : xCS z 6 = z ++ (z ++ (z ++ (z ++ (z ++ (z ++ ([])))))) := rfl
theorem xYC (z : List AV) : xCS z 7 = z ++ (z ++ (z ++ (z ++ (z ++ (z ++ (z ++ ([]))))))) := rfl
theorem xYD (z : List AV) : xCS z 8 = z ++ (z ++ (z ++ (z ++ (z ++ (z ++ (z ++ (z ++ ([])))))))) := rfl
theorem xYE (z : List AV) : xCS z 9 = z ++ (z ++ (z ++ (z ++ (z ++ (z ++ (z ++ (z ++ (z ++ ([]))))))))) := rfl
theorem xUo (z : List AV) : xCS z 10 = z ++ (z ++ (z ++ (z ++ (z ++ (z ++ (z ++ (z ++ (z ++ (z ++ ([])))))))))) := rfl
theorem xUp (z : List AV) : xCS z 11 = z ++ (z ++ (z ++ (z ++ (z ++ (z ++ (z ++ (z ++ (z ++ (z ++ (z ++ ([]))))))))))) := rfl
theorem xUq (z : List AV) : xCS z 12 = z ++ (z ++ (z ++ (z ++ (z ++ (z ++ (z ++ (z ++ (z ++ (z ++ (z ++ (z ++ ([])))))))))))) := rfl
theorem xHN (d : Nat) (k : IntKind) (n : Int) : frz d H (.int k n) = some (.int k n) := by cases d <;> rfl
theorem xQw (d : Nat) (b : Bool) : frz d H (.bool b) = some (.bool b) := by cases d <;> rfl
theorem xUr (d : Nat) (b : ByteArray) : frz d H (.str b) = some (.str b) := by cases d <;> rfl
theorem xQx (d : Nat) : frz d H .nilp = some .nilp := by cases d <;> rfl
theorem xQy (d : Nat) : frz d H .nilf = some .nilf := by cases d <;> rfl
theorem xUs (d : Nat) : frz d H .any = some .any := by cases d <;> rfl
theorem xQz (d f : Nat) : frz d H (.func f []) = some (.func f []) := by cases d <;> rfl
theorem xQA (d : Nat) (z : Bool) (n : Nat) (cs : List AV) : frz d H (.sl z n cs) = some (.sl z n cs) := by cases d <;> rfl
theorem xUt (d : Nat) (cs : List AV) : frz (d + 1) H (.agg cs) = (cs.mapM (frz d H)).map AV.agg := rfl
theorem xUu (d : Nat) (cs : List AV) : frz (d + 1) H (.tup cs) = (cs.mapM (frz d H)).map AV.tup := rfl
def yCv (d : Nat) (H : Heap) (z : Bool) (off n es : Nat) : Option Blk → Option AV
  | some (.cells _ _ cs) => if off + n * es ≤ cs.length then slK z n (((cs.drop off).take (n * es)).mapM (frz d H)) else none
  | _ => none
theorem xAf (d : Nat) (z : Bool) (id off n es : Nat) : frz (d + 1) H (.own z id off n es) = yCv d H z off n es H[id]? := by
  simp only [frz,yCv]
  cases H[id]? with
  | none => rfl
  | some b => cases b with
    | cells fz z' cs =>
      simp only
      split
      · cases ((cs.drop off).take (n * es)).mapM (frz d H) <;> rfl
      · rfl
    | _ => rfl
theorem xKh {d off n es : Nat} {z fz z' : Bool} {cs : List AV} (h : off + n * es ≤ cs.length) : yCv d H z off n es (some (.cells fz z' cs)) = slK z n (((cs.drop off).take (n * es)).mapM (frz d H)) := if_pos h
theorem xFJ (d : Nat) (k : IntKind) (n : Int) : bor d H (.int k n) = [] := by cases d <;> rfl
theorem xQB (d : Nat) (b : Bool) : bor d H (.bool b) = [] := by cases d <;> rfl
theorem xUv (d : Nat) (b : ByteArray) : bor d H (.str b) = [] := by cases d <;> rfl
theorem xQC (d : Nat) : bor d H .nilp = [] := by cases d <;> rfl
theorem xQD (d : Nat) : bor d H .nilf = [] := by cases d <;> rfl
theorem xUw (d : Nat) : bor d H .any = [] := by cases d <;> rfl
theorem xQE (d f : Nat) (cs : List AV) : bor d H (.func f cs) = [] := by cases d <;> rfl
theorem xYF (ss : List Nat) (b : ACode) (s : St) : run R (.fz ss b) s = run R b ⟨s.F,fzIds s.H (ss.flatMap fun i => bor frzN s.H (s.F.getD i .any))⟩ := rfl
def yCw (R : Rec) (i : Nat) (b : ACode) (s : St) (ids : List Nat) : Option AV → Option (AExit × St)
  | some v => run R b ⟨s.F.set i v,fzIds s.H ids⟩
  | none => none
theorem xUx (i : Nat) (b : ACode) (s : St) : run R (.fzs i b) s = yCw R i b s (bor frzN s.H (s.F.getD i .any)) (frz frzN s.H (s.F.getD i .any)) := by
  simp only [run,yCw]
  cases frz frzN s.H (s.F.getD i .any) <;> rfl
theorem xND (i : Nat) (b : ACode) (s : St) (ids : List Nat) (v : AV) : yCw R i b s ids (some v) = run R b ⟨s.F.set i v,fzIds s.H ids⟩ := rfl
def yCx (d : Nat) (H : Heap) (off : Nat) : Option Blk → Option AV
  | some (.cells _ _ cs) => (cs.mapM (frz d H)).map fun cs' => .vptr cs' off
  | _ => none
theorem xUy (d i o : Nat) : frz (d + 1) H (.ptr i o) = yCx d H o H[i]? := by
  simp only [frz,yCx]
  cases H[i]? with
  | none => rfl
  | some b => cases b <;> rfl
theorem xKi (d : Nat) (o : Nat) (fz z : Bool) (cs : List AV) : yCx d H o (some (.cells fz z cs)) = (cs.mapM (frz d H)).map fun cs' => .vptr cs' o := rfl
theorem xQF (d : Nat) (cs : List AV) (o : Nat) : frz d H (.vptr cs o) = some (.vptr cs o) := by cases d <;> rfl
def xZF (d : Nat) (H : Heap) : Option Blk → List Nat
  | some (.cells _ _ cs) => cs.flatMap (bor d H)
  | _ => []
theorem xUz (d i o : Nat) : bor (d + 1) H (.ptr i o) = i :: xZF d H H[i]? := by
  simp only [bor,xZF]
  cases H[i]? with
  | none => rfl
  | some b => cases b <;> rfl
theorem xHO (d : Nat) (fz z : Bool) (cs : List AV) : xZF d H (some (.cells fz z cs)) = cs.flatMap (bor d H) := rfl
theorem xQG (d : Nat) (cs : List AV) (o : Nat) : bor d H (.vptr cs o) = [] := by cases d <;> rfl
def xZG : Option Blk → Bool
  | some (.cells true _ _) => true
  | _ => false
theorem xKj (i : Nat) : xFG H i = xZG H[i]? := by
  simp only [xFG,xZG]
  cases H[i]? with
  | none => rfl
  | some b => cases b with
    | cells fz z cs => cases fz <;> rfl
    | _ => rfl
theorem xUA (z : Bool) (cs : List AV) : xZG (some (.cells true z cs)) = true := rfl
theorem xYG (d : Nat) (z : Bool) (n : Nat) (cs : List AV) : bor d H (.sl z n cs) = [] := by cases d <;> rfl
theorem xUB (d : Nat) (cs : List AV) : bor (d + 1) H (.agg cs) = cs.flatMap (bor d H) := rfl
theorem xUC (d : Nat) (cs : List AV) : bor (d + 1) H (.tup cs) = cs.flatMap (bor d H) := rfl
def yCy (d : Nat) (H : Heap) (off n es : Nat) : Option Blk → List Nat
  | some (.cells _ _ cs) => ((cs.drop off).take (n * es)).flatMap (bor d H)
  | _ => []
theorem xAg (d : Nat) (z : Bool) (id off n es : Nat) : bor (d + 1) H (.own z id off n es) = id :: yCy d H off n es H[id]? := by
  simp only [bor,yCy]
  cases H[id]? with
  | none => rfl
  | some b => cases b <;> rfl
theorem xKk (d off n es : Nat) (fz z : Bool) (cs : List AV) : yCy d H off n es (some (.cells fz z cs)) = ((cs.drop off).take (n * es)).flatMap (bor d H) := rfl
def xYH (args : List AV) (H : Heap) : Option AV → Option (AV × Heap)
  | some r => some (r,if xAB r = true then H else fzIds H (args.flatMap (bor frzN H)))
  | none => none
theorem xNE (args : List AV) (r : AV) : xYH args H (some r) = some (r,if xAB r = true then H else fzIds H (args.flatMap (bor frzN H))) := rfl
theorem xNF (args : List AV) : xYH args H none = none := rfl
theorem xQH (args : List AV) {c : Prop} [Decidable c] (x y : Option AV) : xYH args H (if c then x else y) = if c then xYH args H x else xYH args H y := by split <;> rfl
def yCz (R : Rec) (f : Nat) (args : List AV) (H : Heap) : Option (List AV) → Option (AV × Heap)
  | some args' => xYH args H (R.pcall f args')
  | none => none
theorem xNG (f : Nat) (args args' : List AV) : yCz R f args H (some args') = xYH args H (R.pcall f args') := rfl
theorem xNH (f : Nat) (args : List AV) : xBw R f args H = yCz R f args H (args.mapM (frz frzN H)) := by
  simp only [xBw,yCz]
  cases args.mapM (frz frzN H) with
  | none => rfl
  | some args' => simp only [xYH]; cases R.pcall f args' <;> rfl
theorem xUD (f : Nat) (args : List Arg) : xAa R F H (.call f args) = xBw R f (args.map (opv F)) H := rfl
theorem xQI (f : Arg) (args : List Arg) : xAa R F H (.icall f args) = R.icall (opv F f) (args.map (opv F)) H := rfl
def xYI (R : Rec) (args : List AV) (H : Heap) : AV → Option (AV × Heap)
  | .func g caps => xBw R g (args ++ caps) H
  | _ => none
theorem xHP (args : List AV) (g : Nat) (caps : List AV) : xYI R args H (.func g caps) = xBw R g (args ++ caps) H := rfl
theorem xQJ (f : Arg) (args : List Arg) : xAa R F H (.fcall f args) = xYI R (args.map (opv F)) H (opv F f) := by
  simp only [xAa]
  cases opv F f <;> rfl
def xEm (args : List AV) (H : Heap) : Option (AV × Heap) → Option (AV × Heap)
  | some (r,_) => if quietCall r H args = true then some (r,H) else none
  | none => none
theorem xHQ (args : List AV) (r : AV) (H' : Heap) : xEm args H (some (r,H')) = if quietCall r H args = true then some (r,H) else none := rfl
theorem xHR (args : List AV) : xEm args H none = none := rfl
theorem xKl (args : List AV) {c : Prop} [Decidable c] (x y : Option (AV × Heap)) : xEm args H (if c then x else y) = if c then xEm args H x else xEm args H y := by split <;> rfl
theorem xUE (f : Nat) (args : List Arg) : xAN R F H (.call f args) = xEm (args.map (opv F)) H (xBw R f (args.map (opv F)) H) := by
  simp only [xAN,xAw,xEm]
  cases xBw R f (args.map (opv F)) H with
  | none => rfl
  | some r => obtain ⟨r,H'⟩ := r; simp only; split <;> rfl
def xO6 (R : Rec) (args : List AV) (H : Heap) : AV → Option (AV × Heap)
  | .func g caps => xEm (args ++ caps) H (xBw R g (args ++ caps) H)
  | _ => none
theorem xGj (args : List AV) (g : Nat) (caps : List AV) : xO6 R args H (.func g caps) = xEm (args ++ caps) H (xBw R g (args ++ caps) H) := rfl
theorem xQK (f : Arg) (args : List Arg) : xAN R F H (.fcall f args) = xO6 R (args.map (opv F)) H (opv F f) := by
  simp only [xAN,xAw,xEm,xO6]
  cases opv F f with
  | func g caps =>
    simp only
    cases xBw R g (args.map (opv F) ++ caps) H with
    | none => rfl
    | some r => obtain ⟨r,H'⟩ := r; simp only; split <;> rfl
  | _ => rfl
theorem xYJ (v : AV) : xAN R F H (.box (.c v)) = if v.cells.all AV.isCell = true then some (.any,H) else none := by
  simp only [xAN,xAw]
  split <;> rfl
def xDe (H : Heap) : Option (AV × Heap) → Option (AV × Heap)
  | some (v,_) => some (v,H)
  | none => none
theorem xNI (v : AV) (H' : Heap) : xDe H (some (v,H')) = some (v,H) := rfl
theorem xNJ : xDe H none = none := rfl
theorem xQL {c : Prop} [Decidable c] (x y : Option (AV × Heap)) : xDe H (if c then x else y) = if c then xDe H x else xDe H y := by split <;> rfl
theorem xB2 (op : AOp) (h : xAw R F H op = (xAa R F H op).map (·.1)) : xAN R F H op = xDe H (xAa R F H op) := by
  simp only [xAN,h,xDe]
  cases xAa R F H op <;> rfl
theorem xYK (x : Arg) : xAN R F H (.mov x) = xDe H (xAa R F H (.mov x)) := xB2 _ rfl
theorem xUF (c a b : Arg) : xAN R F H (.pick c a b) = xDe H (xAa R F H (.pick c a b)) := xB2 _ rfl
theorem xQM (z : List AV) (parts : List (Nat × Nat × Arg)) : xAN R F H (.build z parts) = xDe H (xAa R F H (.build z parts)) := xB2 _ rfl
theorem xNK (z : List AV) (es n : Nat) (parts : List (Nat × Arg)) : xAN R F H (.bslice true z es n parts) = xDe H (xAa R F H (.bslice true z es n parts)) := xB2 _ rfl
theorem xUG (g : Bool) (n : Nat) (p : Arg) : xAN R F H (.load g n p) = xDe H (xAa R F H (.load g n p)) := xB2 _ rfl
theorem xNL (x : Arg) : xAN R F H (.nilchk x) = xDe H (xAa R F H (.nilchk x)) := xB2 _ rfl
theorem xYL (op : BinOp) (x y : Arg) : xAN R F H (.bin op x y) = xDe H (xAa R F H (.bin op x y)) := xB2 _ rfl
theorem xYM (neg : Bool) (x y : Arg) : xAN R F H (.beq neg x y) = xDe H (xAa R F H (.beq neg x y)) := xB2 _ rfl
theorem xQN (neg : Bool) (x : Arg) : xAN R F H (.isnil neg x) = xDe H (xAa R F H (.isnil neg x)) := xB2 _ rfl
theorem yBg (op : UnOp) (x : Arg) : xAN R F H (.un op x) = xDe H (xAa R F H (.un op x)) := xB2 _ rfl
theorem xUH (k : IntKind) (x : Arg) : xAN R F H (.conv k x) = xDe H (xAa R F H (.conv k x)) := xB2 _ rfl
theorem xNM (f : Nat) (caps : List Arg) : xAN R F H (.mkfunc f caps) = xDe H (xAa R F H (.mkfunc f caps)) := xB2 _ rfl
theorem xKm (z : List AV) (bytes : Nat) (l c : Arg) : xAN R F H (.mkslice true z bytes l c) = xDe H (xAa R F H (.mkslice true z bytes l c)) := xB2 _ rfl
theorem xQO (es : Nat) (x : Arg) (lo hi mx : Option Arg) : xAN R F H (.slice es x lo hi mx) = xDe H (xAa R F H (.slice es x lo hi mx)) := xB2 _ rfl
theorem xQP (o : Nat) (x : Arg) : xAN R F H (.faddr o x) = xDe H (xAa R F H (.faddr o x)) := xB2 _ rfl
theorem xQQ (g : Bool) (off n : Nat) (x : Arg) : xAN R F H (.field g off n x) = xDe H (xAa R F H (.field g off n x)) := xB2 _ rfl
theorem xQR (es : Nat) (x i : Arg) : xAN R F H (.iaddr es x i) = xDe H (xAa R F H (.iaddr es x i)) := xB2 _ rfl
theorem xYN (i : Nat) (x : Arg) : xAN R F H (.ext i x) = xDe H (xAa R F H (.ext i x)) := xB2 _ rfl
theorem xYO (x : Arg) : xAN R F H (.len x) = xDe H (xAa R F H (.len x)) := xB2 _ rfl
theorem xYP (x : Arg) : xAN R F H (.cap x) = xDe H (xAa R F H (.cap x)) := xB2 _ rfl
theorem xYQ (neg : Bool) (n : Nat) (x y : Arg) : xAN R F H (.aeq neg n x y) = xDe H (xAa R F H (.aeq neg n x y)) := xB2 _ rfl
theorem xUI (x y : Arg) : xAN R F H (.maxi x y) = xDe H (xAa R F H (.maxi x y)) := xB2 _ rfl
theorem xUJ (x y : Arg) : xAN R F H (.mini x y) = xDe H (xAa R F H (.mini x y)) := xB2 _ rfl
def xZH (es bytes : Nat) (H : Heap) (x : AV) (o : Option (Nat × List AV)) : Option (AV × Heap) := match x with
  | .sl _ _ _ => xDe H (xYt true es bytes H x o)
  | _ => none
theorem xQS (es bytes : Nat) (z : Bool) (n : Nat) (cs : List AV) (o : Option (Nat × List AV)) : xZH es bytes H (.sl z n cs) o = xDe H (xYt true es bytes H (.sl z n cs) o) := rfl
theorem xNN (es bytes : Nat) (x y : Arg) : xAN R F H (.append true es bytes x y) = xZH es bytes H (opv F x) (src H es (opv F y)) := by
  simp only [xAN,xAw,xZH]
  cases h : opv F x with
  | sl z n cs =>
    simp only [xHL,h,xDe]
    cases xYt true es bytes H (.sl z n cs) (src H es (opv F y)) <;> rfl
  | _ => rfl
def xSk (H : Heap) : Option AV → Option (AV × Heap)
  | some v => some (v,H)
  | none => none
theorem xKn (v : AV) : xSk H (some v) = some (v,H) := rfl
def xNO (rs : List ARes) : Option (AExit × St) → Option (AV × Heap)
  | some (.normal,s) => xSk s.H (xBM rs s)
  | some (.ret,s) => xSk s.H (xBM rs s)
  | _ => none
theorem xGk (rs : List ARes) (F : List AV) (H : Heap) : xNO rs (some (.normal,⟨F,H⟩)) = xSk H (xBM rs ⟨F,H⟩) := rfl
theorem xNP (rs : List ARes) (F : List AV) (H : Heap) : xNO rs (some (.ret,⟨F,H⟩)) = xSk H (xBM rs ⟨F,H⟩) := rfl
theorem xKo (rs : List ARes) : xNO rs none = none := rfl
theorem xNQ (rs : List ARes) {c : Prop} [Decidable c] (x y : Option (AExit × St)) : xNO rs (if c then x else y) = if c then xNO rs x else xNO rs y := by split <;> rfl
def pads : Nat → List AV
  | 0 => []
  | n + 1 => .tup [] :: pads n
theorem xUK : ∀ n,List.replicate n (AV.tup []) = pads n
  | 0 => rfl
  | n + 1 => by rw [List.replicate_succ,xUK n]; rfl
theorem xEb (n : Nat) (code : ACode) (rs : List ARes) (args : List AV) : xB1 R ⟨n,code,rs⟩ args H = xNO rs (run R code ⟨args ++ pads (n - args.length),H⟩) := by
  rw [← xUK]
  simp only [xB1,xNO,xMt,xSk]
  cases h : run R code ⟨args ++ List.replicate (n - args.length) (.tup []),H⟩ with
  | none => rfl
  | some r =>
    obtain ⟨e,s⟩ := r
    cases e with
    | exit i => rfl
    | _ => simp only; cases xBM rs s <;> rfl
def xHS : Option (AV × Heap) → Option AV
  | some (r,H') => frz frzN H' r
  | none => none
theorem xHT (r : AV) (H' : Heap) : xHS (some (r,H')) = frz frzN H' r := rfl
theorem xHU : xHS none = none := rfl
theorem xKp {c : Prop} [Decidable c] (x y : Option (AV × Heap)) : xHS (if c then x else y) = if c then xHS x else xHS y := by split <;> rfl
theorem xAr (fn : AFunc) (args : List AV) : xBj R fn args = xHS (xB1 R fn args []) := by
  simp only [xBj,xHS]
  cases xB1 R fn args [] <;> rfl
def xZI (g : Bool) : Option (List AV) → Option AV
  | some cs => mkv g cs
  | none => none
theorem xKq (g : Bool) (cs : List AV) : xZI g (some cs) = mkv g cs := rfl
theorem xUL (t : Nat) : xS9 ⟨F,H⟩ (.tmp t) = some (F.getD t .any) := rfl
theorem xQT (t : Nat) (g : Bool) (n : Nat) : xS9 ⟨F,H⟩ (.cell t g n) = xZI g (rd H (F.getD t .any) n) := by
  simp only [xS9,xZI]
  cases rd H (F.getD t .any) n <;> rfl
theorem xNR : xBM [] s = some (.tup []) := rfl
theorem xNS (r : ARes) : xBM [r] s = xS9 s r := rfl
def yCA (s : St) (rs : List ARes) : Option AV → Option (List AV)
  | some v => (xSf s rs).map (v :: ·)
  | none => none
theorem xNT (rs : List ARes) (v : AV) : yCA s rs (some v) = (xSf s rs).map (v :: ·) := rfl
theorem xQU : xSf s [] = some [] := rfl
theorem xNU (r : ARes) (rs : List ARes) : xSf s (r :: rs) = yCA s rs (xS9 s r) := by
  simp only [xSf,yCA]
  cases xS9 s r <;> rfl
theorem xNV (r r' : ARes) (rs : List ARes) : xBM (r :: r' :: rs) s = (xSf s (r :: r' :: rs)).map .tup := rfl
def xFb (F : List AV) (l : Nat) : Option (AV × Heap) → Option (AExit × St)
  | some (_,H') => match H'[l]? with
    | some (.loop st pend _ _ _ _) => if st = 1 then none else some ((match pend with | none => .normal | some e => e),⟨F,H'.set l .dead⟩)
    | _ => none
  | none => none
def xUM (R : Rec) (F : List AV) (H : Heap) (ps : List Nat) (asg body : ACode) : AV → Option (AExit × St)
  | .func g caps => xFb F H.length (R.icall (.func g caps) [.yield H.length] (H ++ [.loop 0 none F ps asg body]))
  | _ => none
theorem xNW (f : Arg) (ps : List Nat) (asg body : ACode) (F : List AV) (H : Heap) : run R (.range f ps asg body) ⟨F,H⟩ = xUM R F H ps asg body (opv F f) := by
  simp only [run]
  cases opv F f with
  | func g caps =>
    simp only [xUM,xFb]
    cases R.icall (.func g caps) [.yield H.length] (H ++ [.loop 0 none F ps asg body]) with
    | none => rfl
    | some r =>
      obtain ⟨v,H'⟩ := r
      simp only
      cases H'[H.length]? with
      | none => rfl
      | some b => cases b <;> rfl
  | _ => rfl
theorem xHV (ps : List Nat) (asg body : ACode) (g : Nat) (caps : List AV) : xUM R F H ps asg body (.func g caps) = xFb F H.length (R.icall (.func g caps) [.yield H.length] (H ++ [.loop 0 none F ps asg body])) := rfl
def xFc (l : Nat) (e : AExit) (H : Heap) : Option Blk → Option (AV × Heap)
  | some (.loop 1 _ F ps asg body) => some (match e with
    | .normal => (.bool true,H.set l (.loop 0 none F ps asg body))
    | e => (.bool false,H.set l (.loop 2 (some e) F ps asg body)))
  | _ => none
def xCC (l : Nat) : Option (AExit × St) → Option (AV × Heap)
  | some (e,s) => xFc l e s.H s.H[l]?
  | none => none
def xGI (R : Rec) (l : Nat) (body0 : ACode) (s : St) : Option Blk → Option (AV × Heap)
  | some (.loop 0 pend F ps asg body) => xCC l (run R body0 ⟨s.F,s.H.set l (.loop 1 pend F ps asg body)⟩)
  | _ => none
def xLz (R : Rec) (l : Nat) (body0 : ACode) : Option (AExit × St) → Option (AV × Heap)
  | some (.normal,s) => xGI R l body0 s s.H[l]?
  | _ => none
theorem xNX (l : Nat) (args : List AV) (H : Heap) (asg body : ACode) (F : List AV) (ps : List Nat) (pend : Option AExit) (hH : H[l]? = some (.loop 0 pend F ps asg body)) (h1 : args.length = ps.length) (h2 : asg.noRange = true) (h3 : body.noRange = true) :
    xEY R l args H = xLz R l body (run R asg ⟨(ps.zip args).foldl (fun F (p,v) => F.set p v) F,H⟩) := by
  unfold xEY
  rw [hH]
  simp only
  rw [if_pos ⟨h1,h2,h3⟩]
  cases ha : run R asg ⟨(ps.zip args).foldl (fun F (p,v) => F.set p v) F,H⟩ with
  | none => rfl
  | some r =>
    obtain ⟨e,s1⟩ := r
    cases e with
    | normal =>
      simp only [xLz]
      cases hb : s1.H[l]? with
      | none => rfl
      | some b =>
        cases b with
        | loop st pend1 F1 ps1 asg1 body1 =>
          match st with
          | 0 =>
            simp only [xGI]
            cases hr : run R body ⟨s1.F,s1.H.set l (.loop 1 pend1 F1 ps1 asg1 body1)⟩ with
            | none => rfl
            | some r =>
              obtain ⟨e,s2⟩ := r
              simp only [xCC]
              cases hc : s2.H[l]? with
              | none => rfl
              | some b =>
                cases b with
                | loop st2 pend2 F2 ps2 asg2 body2 =>
                  match st2 with
                  | 0 => rfl
                  | 1 => rfl
                  | _ + 2 => rfl
                | _ => rfl
          | _ + 1 => rfl
        | _ => rfl
    | _ => rfl
theorem xDY (l : Nat) (body0 : ACode) (F : List AV) (H : Heap) : xLz R l body0 (some (.normal,⟨F,H⟩)) = xGI R l body0 ⟨F,H⟩ H[l]? := rfl
theorem xFd (l : Nat) (body0 : ACode) (F : List AV) (H : Heap) (pend : Option AExit) (F1 : List AV) (ps : List Nat) (asg body : ACode) : xGI R l body0 ⟨F,H⟩ (some (.loop 0 pend F1 ps asg body)) = xCC l (run R body0 ⟨F,H.set l (.loop 1 pend F1 ps asg body)⟩) := rfl
theorem xEn (l : Nat) (e : AExit) (F : List AV) (H : Heap) : xCC l (some (e,⟨F,H⟩)) = xFc l e H H[l]? := rfl
theorem xFe (l : Nat) {c : Prop} [Decidable c] (x y : Option (AExit × St)) : xCC l (if c then x else y) = if c then xCC l x else xCC l y := by split <;> rfl
theorem xDZ (l : Nat) (H : Heap) (pend : Option AExit) (F : List AV) (ps : List Nat) (asg body : ACode) : xFc l .normal H (some (.loop 1 pend F ps asg body)) = some (.bool true,H.set l (.loop 0 none F ps asg body)) := rfl
theorem xFf (l i : Nat) (H : Heap) (pend : Option AExit) (F : List AV) (ps : List Nat) (asg body : ACode) : xFc l (.exit i) H (some (.loop 1 pend F ps asg body)) = some (.bool false,H.set l (.loop 2 (some (.exit i)) F ps asg body)) := rfl
theorem xGl (l : Nat) (H : Heap) (pend : Option AExit) (F : List AV) (ps : List Nat) (asg body : ACode) : xFc l .ret H (some (.loop 1 pend F ps asg body)) = some (.bool false,H.set l (.loop 2 (some .ret) F ps asg body)) := rfl
def xGJ (F : List AV) (l : Nat) (H : Heap) : Option Blk → Option (AExit × St)
  | some (.loop st pend _ _ _ _) => if st = 1 then none else some ((match pend with | none => .normal | some e => e),⟨F,H.set l .dead⟩)
  | _ => none
theorem xFg (l : Nat) (v : AV) (H : Heap) : xFb F l (some (v,H)) = xGJ F l H H[l]? := by
  simp only [xFb,xGJ]
theorem xKr (l : Nat) (H : Heap) (F1 : List AV) (ps : List Nat) (asg body : ACode) : xGJ F l H (some (.loop 0 none F1 ps asg body)) = some (.normal,⟨F,H.set l .dead⟩) := rfl
theorem xKs (l : Nat) (H : Heap) (e : AExit) (F1 : List AV) (ps : List Nat) (asg body : ACode) : xGJ F l H (some (.loop 2 (some e) F1 ps asg body)) = some (e,⟨F,H.set l .dead⟩) := rfl
end
section
variable {R : Rec} {F : List AV} {H : Heap} {s : St}
def xUN : Option (AV × Heap) → Option (AV × List Blk)
  | some (r,H') => (xCZ H' r).map fun (v,B) => (v,B.map (·.2))
  | none => none
theorem xFh (f : Nat) (args : List AV) : xCz R f args = xUN (R.icall (.func f []) args []) := by
  unfold xCz xUN
  cases R.icall (.func f []) args [] <;> rfl
theorem xHW (r : AV) (H' : Heap) : xUN (some (r,H')) = (xCZ H' r).map fun (v,B) => (v,B.map (·.2)) := rfl
def ocK (H : Heap) (ids : List Nat) : Option (AV × List Blk) → Option (AV × Heap)
  | some (v,B) => some (xAq H.length v,fzIds H ids ++ B)
  | none => none
def xUO (R : Rec) (f : Nat) (H : Heap) (ids : List Nat) : Option (List AV) → Option (AV × Heap)
  | some args' => ocK H ids (xCz R f args')
  | none => none
theorem xQV (f : Nat) (args : List Arg) : xAa R F H (.ocall f args) = xUO R f H ((args.map (opv F)).flatMap (bor frzN H)) ((args.map (opv F)).mapM (frz frzN H)) := by
  simp only [xAa,xUO]
  cases (args.map (opv F)).mapM (frz frzN H) with
  | none => rfl
  | some args' =>
    simp only [ocK]
    cases xCz R f args' <;> rfl
theorem xHX (f : Nat) (ids : List Nat) (args' : List AV) : xUO R f H ids (some args') = ocK H ids (xCz R f args') := rfl
theorem xQW (ids : List Nat) (v : AV) (B : List Blk) : ocK H ids (some (v,B)) = some (xAq H.length v,fzIds H ids ++ B) := rfl
def t1B (z : Bool) (id off n es : Nat) (B : List (Nat × Blk)) : Option Blk → Option (AV × List (Nat × Blk))
  | some (.cells false z' cs) => if cs.all xAm = true then some (.own z B.length off n es,B ++ [(id,.cells false z' cs)]) else none
  | _ => none
def t1I (z : Bool) (id off n es : Nat) (B : List (Nat × Blk)) (b : Option Blk) : Option Nat → Option (AV × List (Nat × Blk))
  | some k => some (.own z k off n es,B)
  | none => t1B z id off n es B b
theorem xNY (H : Heap) (z : Bool) (id off n es : Nat) (B : List (Nat × Blk)) : xEf H (.own z id off n es) B = t1I z id off n es B H[id]? (B.findIdx? (fun p => p.1 == id)) := by
  simp only [xEf,t1I]
  cases B.findIdx? (fun p => p.1 == id) with
  | some k => rfl
  | none =>
    simp only [t1B]
    cases H[id]? with
    | none => rfl
    | some b => cases b with
      | cells fz z' cs => cases fz <;> rfl
      | _ => rfl
theorem xUP (z : Bool) (id off n es : Nat) (B : List (Nat × Blk)) (b : Option Blk) (k : Nat) : t1I z id off n es B b (some k) = some (.own z k off n es,B) := rfl
theorem xUQ (z : Bool) (id off n es : Nat) (B : List (Nat × Blk)) (z' : Bool) (cs : List AV) : t1I z id off n es B (some (.cells false z' cs)) none = if cs.all xAm = true then some (.own z B.length off n es,B ++ [(id,.cells false z' cs)]) else none := rfl
theorem xNZ (H : Heap) (k : IntKind) (n : Int) (B : List (Nat × Blk)) : xEf H (.int k n) B = some (.int k n,B) := rfl
theorem xKt (H : Heap) (b : Bool) (B : List (Nat × Blk)) : xEf H (.bool b) B = some (.bool b,B) := rfl
theorem xQX (H : Heap) (z : Bool) (n : Nat) (cs : List AV) (B : List (Nat × Blk)) : xEf H (.sl z n cs) B = some (.sl z n cs,B) := rfl
theorem xN0 (H : Heap) (b : ByteArray) (B : List (Nat × Blk)) : xEf H (.str b) B = some (.str b,B) := rfl
def tkL (H : Heap) (vs : List AV) : Option (AV × List (Nat × Blk)) → Option (List AV × List (Nat × Blk))
  | some (v',B') => (xHe H vs B').map fun (vs',B2) => (v' :: vs',B2)
  | none => none
theorem xN1 (H : Heap) (B : List (Nat × Blk)) : xHe H [] B = some ([],B) := rfl
theorem xKu (H : Heap) (v : AV) (vs : List AV) (B : List (Nat × Blk)) : xHe H (v :: vs) B = tkL H vs (xEf H v B) := by
  simp only [xHe,tkL]
  cases xEf H v B <;> rfl
theorem xQY (H : Heap) (vs : List AV) (v' : AV) (B' : List (Nat × Blk)) : tkL H vs (some (v',B')) = (xHe H vs B').map fun (vs',B2) => (v' :: vs',B2) := rfl
theorem xN2 (H : Heap) (cs : List AV) (B : List (Nat × Blk)) : xEW H (.agg cs) B = if cs.all AV.isCell = true then (xHe H cs B).map fun (cs',B') => (.agg cs',B') else none := rfl
theorem xN3 (H : Heap) (z : Bool) (id off n es : Nat) (B : List (Nat × Blk)) : xEW H (.own z id off n es) B = xEf H (.own z id off n es) B := rfl
theorem xN4 (H : Heap) (k : IntKind) (n : Int) (B : List (Nat × Blk)) : xEW H (.int k n) B = some (.int k n,B) := rfl
theorem xKv (H : Heap) (b : Bool) (B : List (Nat × Blk)) : xEW H (.bool b) B = some (.bool b,B) := rfl
theorem xQZ (H : Heap) (z : Bool) (n : Nat) (cs : List AV) (B : List (Nat × Blk)) : xEW H (.sl z n cs) B = some (.sl z n cs,B) := rfl
def yCB (H : Heap) (vs : List AV) : Option (AV × List (Nat × Blk)) → Option (List AV × List (Nat × Blk))
  | some (v',B') => (xDU H vs B').map fun (vs',B2) => (v' :: vs',B2)
  | none => none
theorem xKw (H : Heap) (B : List (Nat × Blk)) : xDU H [] B = some ([],B) := rfl
theorem xHY (H : Heap) (v : AV) (vs : List AV) (B : List (Nat × Blk)) : xDU H (v :: vs) B = yCB H vs (xEW H v B) := by
  simp only [xDU,yCB]
  cases xEW H v B <;> rfl
theorem xN5 (H : Heap) (vs : List AV) (v' : AV) (B' : List (Nat × Blk)) : yCB H vs (some (v',B')) = (xDU H vs B').map fun (vs',B2) => (v' :: vs',B2) := rfl
theorem xHZ (H : Heap) (vs : List AV) : xCZ H (.tup vs) = (xDU H vs []).map fun (vs',B) => (.tup vs',B) := rfl
theorem xH0 (H : Heap) (cs : List AV) : xCZ H (.agg cs) = xEW H (.agg cs) [] := rfl
theorem xH1 (H : Heap) (z : Bool) (id off n es : Nat) : xCZ H (.own z id off n es) = xEf H (.own z id off n es) [] := rfl
theorem xKx (H : Heap) (z : Bool) (n : Nat) (cs : List AV) : xCZ H (.sl z n cs) = some (.sl z n cs,[]) := rfl
theorem xN6 {α : Type} (p : α → Bool) : ([] : List α).findIdx? p = none := rfl
theorem xKy {α : Type} (p : α → Bool) (a : α) (l : List α) : (a :: l).findIdx? p = if p a = true then some 0 else (l.findIdx? p).map (· + 1) := by
  rw [List.findIdx?_cons]
def xUR (R : Rec) (als : List (Nat × Nat)) (ls : List (Nat × Nat × Nat × Nat)) (m : Nat) (ops : List AOper) : Option (St × List Pr) → Option (AExit × St)
  | some (s,pl) => xCA ls (xAx R (ops.drop m) (xA3 als pl s))
  | none => none
theorem xN7 (als : List (Nat × Nat)) (ls : List (Nat × Nat × Nat × Nat)) (m : Nat) (ops : List AOper) : run R (.drawp als ls m ops) s = xUR R als ls m ops (xAF R (ops.take m) s) := by
  simp only [run,xUR]
  cases xAF R (ops.take m) s with
  | none => rfl
  | some r =>
    obtain ⟨s1,pl⟩ := r
    simp only [xCA]
    cases xAx R (ops.drop m) (xA3 als pl s1) <;> rfl
theorem xH2 (als : List (Nat × Nat)) (ls : List (Nat × Nat × Nat × Nat)) (m : Nat) (ops : List AOper) (s : St) (pl : List Pr) : xUR R als ls m ops (some (s,pl)) = xCA ls (xAx R (ops.drop m) (xA3 als pl s)) := rfl
theorem xKz (pl : List Pr) (s : St) : xA3 [] pl s = adoptL pl s := rfl
def alK (als : List (Nat × Nat)) : St → St
  | ⟨F,H⟩ => ⟨xBN als F,H⟩
theorem xH3 (p : Nat × Nat) (r : List (Nat × Nat)) (pl : List Pr) (s : St) : xA3 (p :: r) pl s = alK (p :: r) (adoptL pl s) := rfl
theorem xYR (als : List (Nat × Nat)) (F : List AV) (H : Heap) : alK als ⟨F,H⟩ = ⟨xBN als F,H⟩ := rfl
theorem xKA (F : List AV) : xBN [] F = F := rfl
theorem xH4 (d q : Nat) (r : List (Nat × Nat)) (F : List AV) : xBN ((d,q) :: r) F = xBN r (F.set d (F.getD q .any)) := rfl
def xUS (e : Pr) : Option (St × List Pr) → Option (St × List Pr)
  | some (s,l) => some (s,e :: l)
  | none => none
theorem xKB (e : Pr) (s : St) (l : List Pr) : xUS e (some (s,l)) = some (s,e :: l) := rfl
def xUT (R : Rec) (rest : List AOper) (s : St) : Option Nat → Option (AV × List Blk) → Option (St × List Pr)
  | some t,some (v,B) => xUS (some (t,v,B)) (xAF R rest ⟨s.F.set t .any,s.H⟩)
  | _,_ => none
def xUU (R : Rec) (rest : List AOper) : Option St → Option (St × List Pr)
  | some s => xUS none (xAF R rest s)
  | none => none
theorem xH5 : xAF R [] s = some (s,[]) := rfl
theorem xGm (o : AOper) (rest : List AOper) : xAF R (o :: rest) s = if xAD o.op = true then xUT R rest s o.dst (xC0 R s.F o.op) else xUU R rest (xAO R o s) := by
  simp only [xAF]
  split
  · cases o.dst with
    | none => rfl
    | some t => cases xC0 R s.F o.op with
      | none => rfl
      | some r =>
        obtain ⟨v,B⟩ := r
        simp only [xUT]
        cases xAF R rest ⟨s.F.set t .any,s.H⟩ <;> rfl
  · cases xAO R o s with
    | none => rfl
    | some s1 =>
      simp only [xUU]
      cases xAF R rest s1 <;> rfl
theorem xH6 (rest : List AOper) (t : Nat) (v : AV) (B : List Blk) : xUT R rest s (some t) (some (v,B)) = xUS (some (t,v,B)) (xAF R rest ⟨s.F.set t .any,s.H⟩) := rfl
theorem xH7 (rest : List AOper) (s : St) : xUU R rest (some s) = xUS none (xAF R rest s) := rfl
def xZJ : Option (AV × Heap) → Option (AV × List Blk)
  | some (v,B) => if xA0 v = true ∧ xDV B = true then some (v,B) else none
  | none => none
theorem xQ0 (op : AOp) : xC0 R F op = if op.args.all (fun x => xAt (opv F x)) = true then xZJ (xAa R F [] op) else none := by
  unfold xC0 xZJ
  split
  · cases xAa R F [] op <;> rfl
  · rfl
theorem xKC (v : AV) (B : Heap) : xZJ (some (v,B)) = if xA0 v = true ∧ xDV B = true then some (v,B) else none := rfl
theorem xGn (f : Nat) (as : List Arg) : xAD (.ocall f as) = true := rfl
theorem xKD (x : Arg) : xAD (.box x) = true := rfl
theorem xH8 (z : List AV) (b : Nat) (x y : Arg) : xAD (.mkslice false z b x y) = true := rfl
theorem xH9 (z : List AV) (b : Nat) (x y : Arg) : xAD (.mkslice true z b x y) = false := rfl
theorem xIa (z : List AV) (es n : Nat) (ps : List (Nat × Arg)) : xAD (.bslice false z es n ps) = true := rfl
theorem xIb (z : List AV) (es n : Nat) (ps : List (Nat × Arg)) : xAD (.bslice true z es n ps) = false := rfl
theorem xIc (es b : Nat) (x y : Arg) : xAD (.append false es b x y) = true := rfl
theorem xId (es b : Nat) (x y : Arg) : xAD (.append true es b x y) = false := rfl
theorem xIe (z : List AV) (b : Nat) (x y : Arg) : xAD (.appendz z b x y) = true := rfl
theorem xKE (x : Arg) : xAD (.mov x) = false := rfl
theorem xIf (x y z : Arg) : xAD (.pick x y z) = false := rfl
theorem xGo (z : List AV) (ps : List (Nat × Nat × Arg)) : xAD (.build z ps) = false := rfl
theorem xIg (g : Bool) (n : Nat) (x : Arg) : xAD (.load g n x) = false := rfl
theorem xFi (x : Arg) : xAD (.nilchk x) = false := rfl
theorem xKF (op : BinOp) (x y : Arg) : xAD (.bin op x y) = false := rfl
theorem xKG (g : Bool) (x y : Arg) : xAD (.beq g x y) = false := rfl
theorem xGp (g : Bool) (x : Arg) : xAD (.isnil g x) = false := rfl
theorem xN8 (op : UnOp) (x : Arg) : xAD (.un op x) = false := rfl
theorem xIh (k : IntKind) (x : Arg) : xAD (.conv k x) = false := rfl
theorem xFj (f : Nat) (as : List Arg) : xAD (.mkfunc f as) = false := rfl
theorem xGq (es : Nat) (x : Arg) (a b c : Option Arg) : xAD (.slice es x a b c) = false := rfl
theorem xGr (o : Nat) (x : Arg) : xAD (.faddr o x) = false := rfl
theorem xGs (g : Bool) (o n : Nat) (x : Arg) : xAD (.field g o n x) = false := rfl
theorem xGt (es : Nat) (x i : Arg) : xAD (.iaddr es x i) = false := rfl
theorem xKH (i : Nat) (x : Arg) : xAD (.ext i x) = false := rfl
theorem xKI (x : Arg) : xAD (.len x) = false := rfl
theorem xKJ (x : Arg) : xAD (.cap x) = false := rfl
theorem xKK (g : Bool) (n : Nat) (x y : Arg) : xAD (.aeq g n x y) = false := rfl
theorem xIi (f : Nat) (as : List Arg) : xAD (.call f as) = false := rfl
theorem xGu (f : Arg) (as : List Arg) : xAD (.fcall f as) = false := rfl
theorem xIj (x y : Arg) : xAD (.maxi x y) = false := rfl
theorem xIk (x y : Arg) : xAD (.mini x y) = false := rfl
theorem xIl : xDV [] = true := rfl
theorem xGv (z : Bool) (cs : List AV) (B : List Blk) : xDV (.cells false z cs :: B) = (cs.all xAm && xDV B) := rfl
theorem xLA {α : Type} {f : α → AV} (h : ∀ a,xAm (f a) = true) (l : List α) : (l.map f).all xAm = true := by
  simp [List.all_eq_true,h]
end
section
variable {R : Rec} {F : List AV} {H : Heap}
def yB7 (g : Bool) (es len : Nat) : AV → AV → Option AV
  | .agg cs,.int _ i => if 0 ≤ i ∧ i.toNat < len ∧ i.toNat * es + es ≤ cs.length then mkv g ((cs.drop (i.toNat * es)).take es) else none
  | _,_ => none
theorem xQ1 {g : Bool} {es len : Nat} {cs : List AV} {k : IntKind} {i : Int} (h0 : 0 ≤ i) (h : i < len) (h2 : i.toNat * es + es ≤ cs.length) : yB7 g es len (.agg cs) (.int k i) = mkv g ((cs.drop (i.toNat * es)).take es) := if_pos ⟨h0,by omega,h2⟩
theorem xYS (g : Bool) (es len : Nat) (x i : Arg) : xAa R F H (.idx g es len x i) = xCB H (yB7 g es len (opv F x) (opv F i)) := by
  simp only [xAa]
  cases opv F x with
  | agg cs => cases opv F i with
    | int k n =>
      by_cases h0 : 0 ≤ n
      · have e : xBh (.int k n) = some n.toNat := by simp [xBh,h0]
        simp only [e,yB7,h0,true_and]
        by_cases c : n.toNat < len ∧ n.toNat * es + es ≤ cs.length
        · rw [if_pos c,if_pos c]
          cases mkv g ((cs.drop (n.toNat * es)).take es) <;> rfl
        · rw [if_neg c,if_neg c]; rfl
      · have e : xBh (.int k n) = none := by simp [xBh,h0]
        simp only [e,yB7,h0,false_and,if_false,xCB]
    | _ => rfl
  | _ => rfl
def xIm (es len : Nat) : AV → AV → Option AV
  | .ptr id off,.int _ i => if 0 ≤ i ∧ i.toNat < len then some (.ptr id (off + i.toNat * es)) else none
  | .vptr cs off,.int _ i => if 0 ≤ i ∧ i.toNat < len then some (.vptr cs (off + i.toNat * es)) else none
  | _,_ => none
theorem xKL {es len id off : Nat} {k : IntKind} {i : Int} (h0 : 0 ≤ i) (h : i < len) : xIm es len (.ptr id off) (.int k i) = some (.ptr id (off + i.toNat * es)) := if_pos ⟨h0,by omega⟩
theorem xIn {es len off : Nat} {cs : List AV} {k : IntKind} {i : Int} (h0 : 0 ≤ i) (h : i < len) : xIm es len (.vptr cs off) (.int k i) = some (.vptr cs (off + i.toNat * es)) := if_pos ⟨h0,by omega⟩
theorem xQ2 (es len : Nat) (x i : Arg) : xAa R F H (.arrat es len x i) = xCB H (xIm es len (opv F x) (opv F i)) := by
  simp only [xAa]
  cases opv F x with
  | ptr id off => cases opv F i with
    | int k n =>
      by_cases h0 : 0 ≤ n
      · have e : xBh (.int k n) = some n.toNat := by simp [xBh,h0]
        simp only [e,xIm,h0,true_and]
        by_cases c : n.toNat < len
        · rw [if_pos c,if_pos c]; rfl
        · rw [if_neg c,if_neg c]; rfl
      · have e : xBh (.int k n) = none := by simp [xBh,h0]
        simp only [e,xIm,h0,false_and,if_false,xCB]
    | _ => rfl
  | vptr cs off => cases opv F i with
    | int k n =>
      by_cases h0 : 0 ≤ n
      · have e : xBh (.int k n) = some n.toNat := by simp [xBh,h0]
        simp only [e,xIm,h0,true_and]
        by_cases c : n.toNat < len
        · rw [if_pos c,if_pos c]; rfl
        · rw [if_neg c,if_neg c]; rfl
      · have e : xBh (.int k n) = none := by simp [xBh,h0]
        simp only [e,xIm,h0,false_and,if_false,xCB]
    | _ => rfl
  | _ => rfl
def xW2 (es len : Nat) : Option (List AV) → AV → Option AV
  | some cs,.int _ i => if 0 ≤ i ∧ i.toNat < len then some (.vptr cs (i.toNat * es)) else none
  | _,_ => none
theorem xKM {es len : Nat} {cs : List AV} {k : IntKind} {i : Int} (h0 : 0 ≤ i) (h : i < len) : xW2 es len (some cs) (.int k i) = some (.vptr cs (i.toNat * es)) := if_pos ⟨h0,by omega⟩
theorem xUV (b es len : Nat) (i : Arg) : xAa R F H (.garr b es len i) = xCB H (xW2 es len (xSb b) (opv F i)) := by
  simp only [xAa]
  cases xSb b with
  | none => rfl
  | some cs => cases opv F i with
    | int k n =>
      by_cases h0 : 0 ≤ n
      · have e : xBh (.int k n) = some n.toNat := by simp [xBh,h0]
        simp only [e,xW2,h0,true_and]
        by_cases c : n.toNat < len
        · rw [if_pos c,if_pos c]; rfl
        · rw [if_neg c,if_neg c]; rfl
      · have e : xBh (.int k n) = none := by simp [xBh,h0]
        simp only [e,xW2,h0,false_and,if_false,xCB]
    | _ => rfl
def yBh : AV → Option AV
  | .str s => some (.int .i64 s.size)
  | _ => none
theorem xN9 (s : ByteArray) : yBh (.str s) = some (.int .i64 s.size) := rfl
theorem xUW (x : Arg) : xAa R F H (.slen x) = xCB H (yBh (opv F x)) := by
  simp only [xAa]
  cases opv F x <;> rfl
theorem xYT (g : Bool) (es len : Nat) (x i : Arg) : xAN R F H (.idx g es len x i) = xDe H (xAa R F H (.idx g es len x i)) := xB2 _ rfl
theorem xQ3 (es len : Nat) (x i : Arg) : xAN R F H (.arrat es len x i) = xDe H (xAa R F H (.arrat es len x i)) := xB2 _ rfl
theorem xUX (b es len : Nat) (i : Arg) : xAN R F H (.garr b es len i) = xDe H (xAa R F H (.garr b es len i)) := xB2 _ rfl
theorem xUY (x : Arg) : xAN R F H (.slen x) = xDe H (xAa R F H (.slen x)) := xB2 _ rfl
end
end Go.Abs
