/- The interpreter's equations in the form that simp walks by: one equation for each construct,told apart by what has been computed already. -/
import Derived.Test.YtbfnjdhafgnlnaaDoorAbsLim
namespace Go.Abs
set_option linter.unusedVariables false
set_option linter.unusedSimpArgs false
theorem xFX : ∀ (scr : List Nat) (F : List AV) (i : Nat),(xBA scr F)[i]? = if i ∈ scr then (F[i]?).map (fun _ => AV.any) else F[i]?
  | [],F,i => by simp [xBA]
  | j :: scr,F,i => by
    have := xFX scr (F.set j .any) i
    simp only [xBA,List.foldl_cons] at this ⊢
    rw [this]
    by_cases h : i = j
    · subst h
      simp only [List.getElem?_set_self',List.mem_cons,true_or,if_true]
      cases F[i]? <;> simp
    · have h' : ¬ j = i := fun e => h e.symm
      simp [List.getElem?_set,h,h']
theorem xOZ (scr : List Nat) (F : List AV) : xBA scr (xBA scr F) = xBA scr F := by
  apply List.ext_getElem?
  intro i
  rw [xFX,xFX]
  split
  · cases F[i]? <;> rfl
  · rfl
section
variable {prog : Nat → Option AFunc}
theorem xSP (prog : Nat → Option AFunc) (n : Nat) : Tends (fix prog n) (fun _ => lim prog) :=
  ⟨fun f a v h => .all fun _ => xFg ((xFh prog n).pcall f a v h),fun f a H v h => .all fun _ => xFg ((xFh prog n).icall f a H v h),fun scr b s v h => .all fun _ => xFg ((xFh prog n).loop scr b s v h)⟩
theorem Ev.const {p : Prop} (h : Ev fun _ => p) : p := let ⟨n,hn⟩ := h; hn n (Nat.le_refl n)
theorem xSQ {α : Type} {a b : Option α} (h1 : ∀ v,a = some v → b = some v) (h2 : ∀ v,b = some v → a = some v) : a = b := by
  cases a with
  | some v => exact (h1 v rfl).symm
  | none =>
    cases b with
    | none => rfl
    | some v => exact h2 v rfl
theorem xAR {f : Nat} {fn : AFunc} (hf : prog f = some fn) (args : List AV) : (lim prog).pcall f args = xBJ (lim prog) fn args := by
  refine xSQ (fun v h => ?_) (fun v h => xMq hf h)
  obtain ⟨n,hn⟩ := xDG (p := fun m => (fix prog m).pcall f args) h
  have h1 : (xEi prog (fix prog n)).pcall f args = some v := hn (n + 1) (by omega)
  have h2 := (xCD (xSP prog n) prog).pcall f args v h1 |>.const
  simp only [xEi,hf] at h2
  exact h2
theorem xHK (f : AV) (args : List AV) (H : Heap) : (lim prog).icall f args H = xEM prog (lim prog) f args H := by
  refine xSQ (fun v h => ?_) (fun v h => xMr h)
  obtain ⟨n,hn⟩ := xDG (p := fun m => (fix prog m).icall f args H) h
  have h1 : (xEi prog (fix prog n)).icall f args H = some v := hn (n + 1) (by omega)
  exact (xCD (xSP prog n) prog).icall f args H v h1 |>.const
theorem xGi (scr : List Nat) (b : ACode) (s : St) : (lim prog).loop scr b s = xIU (lim prog) scr b s := by
  refine xSQ (fun v h => ?_) (fun v h => xPj h)
  obtain ⟨n,hn⟩ := xDG (p := fun m => (fix prog m).loop scr b s) h
  have h1 : (xEi prog (fix prog n)).loop scr b s = some v := hn (n + 1) (by omega)
  exact (xCD (xSP prog n) prog).loop scr b s v h1 |>.const
theorem xBf {f : Nat} {fn : AFunc} (hf : prog f = some fn) (caps args : List AV) (H : Heap) : (lim prog).icall (.func f caps) args H = xCY (lim prog) fn (args ++ caps) H := by
  rw [xHK]
  simp only [xEM,hf]
theorem xEq (l : Nat) (args : List AV) (H : Heap) : (lim prog).icall (.yield l) args H = xGE (lim prog) l args H := by
  rw [xHK]
  rfl
theorem xGa (scr : List Nat) (b : ACode) (F : List AV) (H : Heap) : (lim prog).loop scr b ⟨F,H⟩ = (lim prog).loop scr b ⟨xBA scr F,H⟩ := by
  rw [xGi,xGi]
  unfold xIU
  simp only [xOZ]
def xDn (R : Rec) (scr : List Nat) (b : ACode) : Option (AExit × St) → Option (AExit × St)
  | some (.normal,s) => R.loop scr b ⟨xBA scr s.F,s.H⟩
  | some (e,s) => some (e,⟨xBA scr s.F,s.H⟩)
  | none => none
theorem xA5 (scr : List Nat) (b : ACode) (F : List AV) (H : Heap) (h : xBA scr F = F) : (lim prog).loop scr b ⟨F,H⟩ = xDn (lim prog) scr b (run (lim prog) b ⟨F,H⟩) := by
  rw [xGi]
  unfold xIU xDn
  simp only [h]
  split
  · rename_i s' hs
    rw [hs]
    exact xGa scr b s'.F s'.H
  · rename_i e s' hne hs
    rw [hs]
    cases e with
    | normal => exact (hne rfl).elim
    | exit i => rfl
    | ret => rfl
  · rename_i hs
    rw [hs]
theorem xBw (scr : List Nat) (b : ACode) (F : List AV) (H : Heap) : run (lim prog) (.loop scr b) ⟨F,H⟩ = (lim prog).loop scr b ⟨xBA scr F,H⟩ := xGa scr b F H
end
section
variable {R : Rec} {F : List AV} {H : Heap} {s : St}
def xUU (R : Rec) (b : ACode) : Option (AExit × St) → Option (AExit × St)
  | some (.normal,s) => run R b s
  | r => r
theorem xAr (a b : ACode) : run R (.seq a b) s = xUU R b (run R a s) := by
  simp only [run,xUU]
  split <;> simp_all
theorem xAf (b : ACode) (s : St) : xUU R b (some (.normal,s)) = run R b s := rfl
theorem xBp (b : ACode) (i : Nat) (s : St) : xUU R b (some (.exit i,s)) = some (.exit i,s) := rfl
theorem xBI (b : ACode) (s : St) : xUU R b (some (.ret,s)) = some (.ret,s) := rfl
theorem xNA (b : ACode) : xUU R b none = none := rfl
theorem xPX (b : ACode) {c : Prop} [Decidable c] (x y : Option (AExit × St)) : xUU R b (if c then x else y) = if c then xUU R b x else xUU R b y := by split <;> rfl
def xWP (R : Rec) (a b : ACode) (s : St) : AV → Option (AExit × St)
  | .bool t => if t = true then run R a s else run R b s
  | _ => none
theorem xAv (c : Arg) (a b : ACode) (F : List AV) (H : Heap) : run R (.cond c a b) ⟨F,H⟩ = xWP R a b ⟨F,H⟩ (opv F c) := by
  simp only [run,xWP]
  split <;> simp_all
theorem xAo (a b : ACode) (t : Bool) : xWP R a b s (.bool t) = if t = true then run R a s else run R b s := rfl
def xGL (id : Nat) : Option (AExit × St) → Option (AExit × St)
  | some (.exit i,s) => if i = id then some (.normal,s) else some (.exit i,s)
  | r => r
theorem xAu (id : Nat) (b : ACode) : run R (.block id b) s = xGL id (run R b s) := by
  simp only [run,xGL]
  split <;> simp_all
theorem xBc (id i : Nat) (s : St) : xGL id (some (.exit i,s)) = if i = id then some (.normal,s) else some (.exit i,s) := rfl
theorem xAs (id : Nat) (s : St) : xGL id (some (.normal,s)) = some (.normal,s) := rfl
theorem xBy (id : Nat) (s : St) : xGL id (some (.ret,s)) = some (.ret,s) := rfl
theorem xI8 (id : Nat) : xGL id none = none := rfl
theorem xKV (id : Nat) {c : Prop} [Decidable c] (x y : Option (AExit × St)) : xGL id (if c then x else y) = if c then xGL id x else xGL id y := by split <;> rfl
theorem xAB (scr : List Nat) (b : ACode) (F : List AV) (H : Heap) : xDn R scr b (some (.normal,⟨F,H⟩)) = R.loop scr b ⟨xBA scr F,H⟩ := rfl
theorem xBe (scr : List Nat) (b : ACode) (i : Nat) (F : List AV) (H : Heap) : xDn R scr b (some (.exit i,⟨F,H⟩)) = some (.exit i,⟨xBA scr F,H⟩) := rfl
theorem xCG (scr : List Nat) (b : ACode) (F : List AV) (H : Heap) : xDn R scr b (some (.ret,⟨F,H⟩)) = some (.ret,⟨xBA scr F,H⟩) := rfl
theorem xNB (scr : List Nat) (b : ACode) {c : Prop} [Decidable c] (x y : Option (AExit × St)) : xDn R scr b (if c then x else y) = if c then xDn R scr b x else xDn R scr b y := by split <;> rfl
def xUc : Option St → Option (AExit × St)
  | some s => some (.normal,s)
  | none => none
theorem xAk (s : St) : xUc (some s) = some (.normal,s) := rfl
theorem xNC : xUc none = none := rfl
theorem xPY {c : Prop} [Decidable c] (x y : Option St) : xUc (if c then x else y) = if c then xUc x else xUc y := by split <;> rfl
theorem xAh (ops : List AOper) : run R (.region ops) s = xUc (xBd R ops s) := by
  simp only [run,xUc]
  cases xBd R ops s <;> rfl
theorem xAw : run R .skip s = some (.normal,s) := rfl
theorem xND : run R .label s = some (.normal,s) := rfl
theorem xAD (i : Nat) : run R (.exit i) s = some (.exit i,s) := rfl
theorem xAH : run R .ret s = some (.ret,s) := rfl
theorem xNE (b : ACode) : run R (.scope b) s = run R b s := rfl
theorem xNF : run R .stuck s = none := rfl
def xWQ (R : Rec) (rest : List AOper) : Option St → Option St
  | some s => xBd R rest s
  | none => none
theorem xAi : xBd R [] s = some s := rfl
theorem xAe (o : AOper) (rest : List AOper) : xBd R (o :: rest) s = xWQ R rest (xBD R o s) := by
  simp only [xBd,xWQ]
  cases xBD R o s <;> rfl
theorem xAl (rest : List AOper) (s : St) : xWQ R rest (some s) = xBd R rest s := rfl
theorem xNG (rest : List AOper) : xWQ R rest none = none := rfl
theorem xPZ (rest : List AOper) {c : Prop} [Decidable c] (x y : Option St) : xWQ R rest (if c then x else y) = if c then xWQ R rest x else xWQ R rest y := by split <;> rfl
def xSR (F : List AV) (d : Option Nat) : Option (AV × Heap) → Option St
  | some (v,H) => some ⟨putA F d v,H⟩
  | none => none
theorem xAq (d : Nat) (v : AV) : xSR F (some d) (some (v,H)) = some ⟨F.set d v,H⟩ := rfl
theorem xBj (v : AV) : xSR F none (some (v,H)) = some ⟨F,H⟩ := rfl
theorem xNH (d : Option Nat) : xSR F d none = none := rfl
theorem xP0 (d : Option Nat) {c : Prop} [Decidable c] (x y : Option (AV × Heap)) : xSR F d (if c then x else y) = if c then xSR F d x else xSR F d y := by split <;> rfl
theorem xAm (d : Option Nat) (op : AOp) : xBD R ⟨d,op,none⟩ ⟨F,H⟩ = xSR F d (xAa R F H op) := by
  simp only [xBD,xDk,xSR]
  cases xAa R F H op <;> rfl
def xP1 (R : Rec) (d : Option Nat) (op : AOp) (w : Bool) (F : List AV) (H : Heap) : AV → Option St
  | .bool b => if b = w then xSR F d (xAa R F H op) else some ⟨putA F d (.tup []),H⟩
  | .any => none
  | _ => some ⟨putA F d (.tup []),H⟩
theorem xAP (d : Option Nat) (op : AOp) (t : Nat) (w : Bool) : xBD R ⟨d,op,some (t,w)⟩ ⟨F,H⟩ = xP1 R d op w F H (F.getD t .any) := by
  simp only [xBD,xDk,xP1]
  cases F.getD t .any with
  | bool b =>
    cases b <;> cases w <;> simp [xSR] <;> cases xAa R F H op <;> rfl
  | _ => rfl
theorem xAI (d : Option Nat) (op : AOp) (w b : Bool) : xP1 R d op w F H (.bool b) = if b = w then xSR F d (xAa R F H op) else some ⟨putA F d (.tup []),H⟩ := rfl
theorem xFY (d : Option Nat) (op : AOp) (w : Bool) (vs : List AV) : xP1 R d op w F H (.tup vs) = some ⟨putA F d (.tup []),H⟩ := rfl
theorem xBk (d : Nat) (v : AV) : putA F (some d) v = F.set d v := rfl
theorem xSS (v : AV) : putA F none v = F := rfl
def xO0 (R : Rec) (m : Nat) (ops : List AOper) : Option St → Option (AExit × St)
  | some s => xUc (xBd R (ops.drop m) (adopt (ops.take m) s))
  | none => none
theorem xE6 (m : Nat) (ops : List AOper) : run R (.draw m ops) s = xO0 R m ops (xCb R (ops.take m) s) := by
  simp only [run,xO0]
  cases xCb R (ops.take m) s with
  | none => rfl
  | some s1 =>
    simp only [xUc]
    cases xBd R (ops.drop m) (adopt (ops.take m) s1) <;> rfl
theorem xDC (m : Nat) (ops : List AOper) (s : St) : xO0 R m ops (some s) = xUc (xBd R (ops.drop m) (adopt (ops.take m) s)) := rfl
theorem xKW (m : Nat) (ops : List AOper) : xO0 R m ops none = none := rfl
theorem xNI (m : Nat) (ops : List AOper) {c : Prop} [Decidable c] (x y : Option St) : xO0 R m ops (if c then x else y) = if c then xO0 R m ops x else xO0 R m ops y := by split <;> rfl
def xFF (ls : List (Nat × Nat × Nat × Nat)) : Option St → Option (AExit × St)
  | some s => if ls.all (apart s.F) = true then some (.normal,s) else none
  | none => none
def xI9 (R : Rec) (ls : List (Nat × Nat × Nat × Nat)) (m : Nat) (ops : List AOper) : Option St → Option (AExit × St)
  | some s => xFF ls (xBd R (ops.drop m) (adopt (ops.take m) s))
  | none => none
theorem xJa (ls : List (Nat × Nat × Nat × Nat)) (m : Nat) (ops : List AOper) : run R (.drawl ls m ops) s = xI9 R ls m ops (xCb R (ops.take m) s) := by
  simp only [run,xI9]
  cases xCb R (ops.take m) s with
  | none => rfl
  | some s1 =>
    simp only [xFF]
    cases xBd R (ops.drop m) (adopt (ops.take m) s1) <;> rfl
theorem xGj (ls : List (Nat × Nat × Nat × Nat)) (m : Nat) (ops : List AOper) (s : St) : xI9 R ls m ops (some s) = xFF ls (xBd R (ops.drop m) (adopt (ops.take m) s)) := rfl
theorem xJb (ls : List (Nat × Nat × Nat × Nat)) (m : Nat) (ops : List AOper) : xI9 R ls m ops none = none := rfl
theorem xKX (ls : List (Nat × Nat × Nat × Nat)) (m : Nat) (ops : List AOper) {c : Prop} [Decidable c] (x y : Option St) : xI9 R ls m ops (if c then x else y) = if c then xI9 R ls m ops x else xI9 R ls m ops y := by split <;> rfl
theorem xGk (ls : List (Nat × Nat × Nat × Nat)) (s : St) : xFF ls (some s) = if ls.all (apart s.F) = true then some (.normal,s) else none := rfl
theorem xJc (ls : List (Nat × Nat × Nat × Nat)) : xFF ls none = none := rfl
theorem xKY (ls : List (Nat × Nat × Nat × Nat)) {c : Prop} [Decidable c] (x y : Option St) : xFF ls (if c then x else y) = if c then xFF ls x else xFF ls y := by split <;> rfl
def xO1 (R : Rec) (rest : List AOper) : Option St → Option St
  | some s => xCb R rest s
  | none => none
theorem xCQ : xCb R [] s = some s := rfl
theorem xCC (o : AOper) (rest : List AOper) : xCb R (o :: rest) s = xO1 R rest (xBz R o s) := by
  simp only [xCb,xO1]
  cases xBz R o s <;> rfl
theorem xDg (rest : List AOper) (s : St) : xO1 R rest (some s) = xCb R rest s := rfl
theorem xKZ (rest : List AOper) : xO1 R rest none = none := rfl
theorem xNJ (rest : List AOper) {c : Prop} [Decidable c] (x y : Option St) : xO1 R rest (if c then x else y) = if c then xO1 R rest x else xO1 R rest y := by split <;> rfl
def xJd (F : List AV) (d : Option Nat) (H : Heap) : Option (AV × Heap) → Option St
  | some (v,_) => some ⟨putA F d v,H⟩
  | none => none
theorem xEr (d : Nat) (v : AV) (H' : Heap) : xJd F (some d) H (some (v,H')) = some ⟨F.set d v,H⟩ := rfl
theorem xP2 (v : AV) (H' : Heap) : xJd F none H (some (v,H')) = some ⟨F,H⟩ := rfl
theorem xK0 (d : Option Nat) : xJd F d H none = none := rfl
theorem xNK (d : Option Nat) {c : Prop} [Decidable c] (x y : Option (AV × Heap)) : xJd F d H (if c then x else y) = if c then xJd F d H x else xJd F d H y := by split <;> rfl
def xBN (R : Rec) (F : List AV) (H : Heap) (op : AOp) : Option (AV × Heap) := (xA8 R F H op).map fun v => (v,H)
theorem xDh (d : Option Nat) (op : AOp) : xBz R ⟨d,op,none⟩ ⟨F,H⟩ = xJd F d H (xBN R F H op) := by
  simp only [xBz,xDk,xJd,xBN]
  cases xA8 R F H op <;> rfl
def xL2 (R : Rec) (d : Option Nat) (op : AOp) (w : Bool) (F : List AV) (H : Heap) : AV → Option St
  | .bool b => if b = w then xJd F d H (xBN R F H op) else some ⟨putA F d (.tup []),H⟩
  | .any => none
  | _ => some ⟨putA F d (.tup []),H⟩
theorem xJe (d : Option Nat) (op : AOp) (t : Nat) (w : Bool) : xBz R ⟨d,op,some (t,w)⟩ ⟨F,H⟩ = xL2 R d op w F H (F.getD t .any) := by
  simp only [xBz,xDk,xL2]
  cases F.getD t .any with
  | bool b =>
    cases b <;> cases w <;> simp [xJd,xBN] <;> cases xA8 R F H op <;> rfl
  | _ => rfl
theorem xHL (d : Option Nat) (op : AOp) (w b : Bool) : xL2 R d op w F H (.bool b) = if b = w then xJd F d H (xBN R F H op) else some ⟨putA F d (.tup []),H⟩ := rfl
theorem xJf (d : Option Nat) (op : AOp) (w : Bool) (vs : List AV) : xL2 R d op w F H (.tup vs) = some ⟨putA F d (.tup []),H⟩ := rfl
def xEQ (H : Heap) : Option AV → Option (AV × Heap)
  | some v => some (v,H)
  | none => none
theorem xAn (v : AV) : xEQ H (some v) = some (v,H) := rfl
theorem xNL : xEQ H none = none := rfl
theorem xP3 {c : Prop} [Decidable c] (x y : Option AV) : xEQ H (if c then x else y) = if c then xEQ H x else xEQ H y := by split <;> rfl
theorem xAE (x : Arg) : xAa R F H (.mov x) = some (opv F x,H) := rfl
def xWR : AV → AV → AV → Option AV
  | .bool t,a,b => some (if t = true then a else b)
  | _,_,_ => none
theorem xAQ (t : Bool) (a b : AV) : xWR (.bool t) a b = some (if t = true then a else b) := rfl
theorem xBq (c a b : Arg) : xAa R F H (.pick c a b) = xEQ H (xWR (opv F c) (opv F a) (opv F b)) := by
  simp only [xAa,xWR,xEQ]
  split <;> simp_all
theorem xBv (x : Arg) : xAa R F H (.box x) = if (opv F x).cells.all AV.isCell = true then some (.ptr H.length 0,H ++ [.cells false false (opv F x).cells]) else none := rfl
theorem xBR (z : List AV) (parts : List (Nat × Nat × Arg)) : xAa R F H (.build z parts) =
    if parts.all (fun p => (opv F p.2.2).cells.length == p.2.1) = true then xEQ H ((fillA z (parts.map fun p => (p.1,(opv F p.2.2).cells))).map AV.agg) else none := by
  simp only [xAa,xEQ]
  split
  · cases fillA z (parts.map fun p => (p.1,(opv F p.2.2).cells)) <;> rfl
  · rfl
def xY5 (fz z : Bool) (n es : Nat) (H : Heap) : Option (List AV) → Option (AV × Heap)
  | some cs => xFd fz z n es cs H
  | none => none
theorem xBr (fz z : Bool) (n es : Nat) (cs : List AV) : xY5 fz z n es H (some cs) = xFd fz z n es cs H := rfl
theorem xCq (z : Bool) (n es : Nat) (cs : List AV) : xFd false z n es cs H = some (.own z H.length 0 n es,H ++ [.cells false z cs]) := rfl
def slK (z : Bool) (n : Nat) : Option (List AV) → Option AV
  | some cs => some (.sl z n cs)
  | none => none
theorem xBS (z : Bool) (n : Nat) (cs : List AV) : slK z n (some cs) = some (.sl z n cs) := rfl
theorem xBT (z : Bool) (n es : Nat) (cs : List AV) : xFd true z n es cs H = if (cs.flatMap (bor frzN H)).isEmpty = true then xEQ H (slK z n (cs.mapM (frz frzN H))) else none := by
  simp only [xFd,xEQ,slK]
  split
  · rename_i h
    cases cs.mapM (frz frzN H) <;> simp_all
  · simp_all
theorem xBs (fz : Bool) (z : List AV) (es n : Nat) (parts : List (Nat × Arg)) : xAa R F H (.bslice fz z es n parts) =
    if parts.all (fun p => (opv F p.2).cells.length == es) = true then xY5 fz false n es H (fillA (xEo z n) (parts.map fun p => (p.1 * es,(opv F p.2).cells))) else none := by
  simp only [xAa,xY5]
  split
  · cases fillA (xEo z n) (parts.map fun p => (p.1 * es,(opv F p.2).cells)) <;> rfl
  · rfl
def xUV (g : Bool) : Option (List AV) → Option AV
  | some cs => mkv g cs
  | none => none
theorem xAM (v : AV) : xUV false (some [v]) = some v := rfl
theorem xBt (cs : List AV) : xUV true (some cs) = some (.agg cs) := rfl
theorem xAF (g : Bool) (n : Nat) (p : Arg) : xAa R F H (.load g n p) = xEQ H (xUV g (rd H (opv F p) n)) := by
  simp only [xAa,xEQ,xUV]
  cases rd H (opv F p) n with
  | none => rfl
  | some cs => simp only; cases mkv g cs <;> rfl
def rdK (off n : Nat) : Option Blk → Option (List AV)
  | some (.cells _ _ cs) => if off + n ≤ cs.length then some ((cs.drop off).take n) else none
  | _ => none
theorem xA7 (id off n : Nat) : rd H (.ptr id off) n = rdK off n H[id]? := by
  simp only [rd,rdK]
  rfl
theorem xAy {off n : Nat} {fz z : Bool} {cs : List AV} (h : off + n ≤ cs.length) : rdK off n (some (.cells fz z cs)) = some ((cs.drop off).take n) := if_pos h
theorem xBl {off n : Nat} {cs : List AV} (h : off + n ≤ cs.length) : rd H (.vptr cs off) n = some ((cs.drop off).take n) := if_pos h
def wrK (H : Heap) (id off : Nat) (vs : List AV) : Option Blk → Option Heap
  | some (.cells false z cs) => if off + vs.length ≤ cs.length ∧ vs.all AV.isCell = true then some (H.set id (.cells false z (splice cs off vs))) else none
  | _ => none
theorem xBK (id off : Nat) (vs : List AV) : wr H (.ptr id off) vs = wrK H id off vs H[id]? := by
  simp only [wr,wrK]
  rfl
theorem xAX {id off : Nat} {vs : List AV} {z : Bool} {cs : List AV} (h : off + vs.length ≤ cs.length) (h2 : vs.all AV.isCell = true) : wrK H id off vs (some (.cells false z cs)) = some (H.set id (.cells false z (splice cs off vs))) := if_pos ⟨h,h2⟩
def xST : Option Heap → Option (AV × Heap)
  | some H => some (.tup [],H)
  | none => none
theorem xAG (H : Heap) : xST (some H) = some (.tup [],H) := rfl
theorem xA6 (n : Nat) (p v : Arg) : xAa R F H (.store n p v) = if (opv F v).cells.length = n then xST (wr H (opv F p) (opv F v).cells) else none := by
  simp only [xAa,xST]
  split
  · cases wr H (opv F p) (opv F v).cells <;> rfl
  · rfl
def xX9 : AV → Option AV
  | .ptr id off => some (.ptr id off)
  | .vptr cs off => some (.vptr cs off)
  | .func f caps => some (.func f caps)
  | .yield l => some (.yield l)
  | _ => none
theorem xP4 (id off : Nat) : xX9 (.ptr id off) = some (.ptr id off) := rfl
theorem xNM (cs : List AV) (off : Nat) : xX9 (.vptr cs off) = some (.vptr cs off) := rfl
theorem xNN (f : Nat) (cs : List AV) : xX9 (.func f cs) = some (.func f cs) := rfl
theorem xK1 (l : Nat) : xX9 (.yield l) = some (.yield l) := rfl
theorem xNO (x : Arg) : xAa R F H (.nilchk x) = xEQ H (xX9 (opv F x)) := by
  simp only [xAa]
  cases opv F x <;> rfl
theorem xAK (op : BinOp) (x y : Arg) : xAa R F H (.bin op x y) = xEQ H (xE5 op (opv F x) (opv F y)) := by
  simp only [xAa,xEQ]
  cases xE5 op (opv F x) (opv F y) <;> rfl
section
variable (k : IntKind) (a b : Int)
theorem xBm : xE5 .add (.int k a) (.int k b) = some (.int k (k.wrap (a + b))) := by simp [xE5]
theorem xJg : xE5 .sub (.int k a) (.int k b) = some (.int k (k.wrap (a - b))) := by simp [xE5]
theorem xL3 : xE5 .mul (.int k a) (.int k b) = some (.int k (k.wrap (a * b))) := by simp [xE5]
theorem xO2 (h : b ≠ 0) : xE5 .quo (.int k a) (.int k b) = some (.int k (k.wrap (a.tdiv b))) := by simp [xE5,h]
theorem xO3 (h : b ≠ 0) : xE5 .rem (.int k a) (.int k b) = some (.int k (a.tmod b)) := by simp [xE5,h]
theorem xFG : xE5 .and (.int k a) (.int k b) = some (.int k (xF2 .and k a b)) := by simp [xE5]
theorem xNP : xE5 .or (.int k a) (.int k b) = some (.int k (xF2 .or k a b)) := by simp [xE5]
theorem xSU : xE5 .xor (.int k a) (.int k b) = some (.int k (xF2 .xor k a b)) := by simp [xE5]
theorem xK2 : xE5 .andNot (.int k a) (.int k b) = some (.int k (xF2 .andNot k a b)) := by simp [xE5]
theorem xHk (k' : IntKind) (h : 0 ≤ b) : xE5 .shl (.int k a) (.int k' b) = some (.int k (k.wrap (a * 2 ^ (min b.toNat k.bits)))) := by simp only [xE5]; rw [if_neg (by omega)]
theorem xJh (k' : IntKind) (h : 0 ≤ b) : xE5 .shr (.int k a) (.int k' b) = some (.int k (a.fdiv (2 ^ (min b.toNat k.bits)))) := by simp only [xE5]; rw [if_neg (by omega)]
theorem xDo : xE5 .eql (.int k a) (.int k b) = some (.bool (decide (a = b))) := by simp [xE5]; rfl
theorem xCu : xE5 .neq (.int k a) (.int k b) = some (.bool (!decide (a = b))) := by simp [xE5]; rfl
theorem xAN : xE5 .lss (.int k a) (.int k b) = some (.bool (decide (a < b))) := by simp [xE5]
theorem xHl : xE5 .leq (.int k a) (.int k b) = some (.bool (decide (a ≤ b))) := by simp [xE5]
theorem xDa : xE5 .gtr (.int k a) (.int k b) = some (.bool (decide (b < a))) := by simp [xE5]
theorem xDp : xE5 .geq (.int k a) (.int k b) = some (.bool (decide (b ≤ a))) := by simp [xE5]
end
def xY6 (neg : Bool) : AV → AV → Option AV
  | .bool a,.bool b => some (.bool (if neg = true then a != b else a == b))
  | _,_ => none
theorem xVN (a b : Bool) : xY6 false (.bool a) (.bool b) = some (.bool (decide (a = b))) := by cases a <;> cases b <;> rfl
theorem xVO (a b : Bool) : xY6 true (.bool a) (.bool b) = some (.bool (!decide (a = b))) := by cases a <;> cases b <;> rfl
theorem xVP (neg : Bool) (x y : Arg) : xAa R F H (.beq neg x y) = xEQ H (xY6 neg (opv F x) (opv F y)) := by
  simp only [xAa]
  cases opv F x <;> cases opv F y <;> rfl
def xNQ (neg : Bool) : AV → Option AV
  | .sl z _ _ => some (.bool (z != neg))
  | .own z _ _ _ _ => some (.bool (z != neg))
  | _ => none
theorem xFZ (z : Bool) (n : Nat) (cs : List AV) : xNQ false (.sl z n cs) = some (.bool z) := by cases z <;> rfl
theorem xK3 (z : Bool) (n : Nat) (cs : List AV) : xNQ true (.sl z n cs) = some (.bool (!z)) := by cases z <;> rfl
theorem xJi (z : Bool) (id off n es : Nat) : xNQ false (.own z id off n es) = some (.bool z) := by cases z <;> rfl
theorem xJj (z : Bool) (id off n es : Nat) : xNQ true (.own z id off n es) = some (.bool (!z)) := by cases z <;> rfl
theorem xId (neg : Bool) (x : Arg) : xAa R F H (.isnil neg x) = xEQ H (xNQ neg (opv F x)) := by
  simp only [xAa]
  cases opv F x <;> rfl
theorem xJk (op : UnOp) (x : Arg) : xAa R F H (.un op x) = xEQ H (unA op (opv F x)) := by
  simp only [xAa,xEQ]
  cases unA op (opv F x) <;> rfl
theorem xJl (b : Bool) : unA .not (.bool b) = some (.bool !b) := rfl
theorem xSV (k : IntKind) (n : Int) : unA .neg (.int k n) = some (.int k (k.wrap (0 - n))) := rfl
theorem xVQ (k : IntKind) (n : Int) : unA .xor (.int k n) = some (.int k (xF2 .xor k (if k.signed then -1 else k.max) n)) := rfl
def xYa (k : IntKind) : AV → Option AV
  | .int _ n => some (.int k (k.wrap n))
  | _ => none
theorem xDO (k k' : IntKind) (n : Int) : xYa k (.int k' n) = some (.int k (k.wrap n)) := rfl
theorem xFH (k : IntKind) (x : Arg) : xAa R F H (.conv k x) = xEQ H (xYa k (opv F x)) := by
  simp only [xAa]
  cases opv F x <;> rfl
theorem xB4 (f : Nat) (caps : List Arg) : xAa R F H (.mkfunc f caps) = some (.func f (caps.map (opv F)),H) := rfl
def xZL (fz : Bool) (z : List AV) (bytes : Nat) (H : Heap) : AV → AV → Option (AV × Heap)
  | .int _ l,.int _ c => if 0 ≤ l ∧ l ≤ c ∧ c * bytes ≤ xCo ∧ c ≤ xCo ∧ z.all AV.isCell = true then xFd fz false l.toNat z.length (xEo z l.toNat) H else none
  | _,_ => none
theorem xL4 (fz : Bool) (z : List AV) (bytes : Nat) (k k' : IntKind) {l c : Int} (h1 : 0 ≤ l) (h2 : l ≤ c) (h3 : c * bytes ≤ 140737488355328) (h4 : c ≤ 140737488355328) (h5 : z.all AV.isCell = true) : xZL fz z bytes H (.int k l) (.int k' c) = xFd fz false l.toNat z.length (xEo z l.toNat) H := if_pos ⟨h1,h2,h3,h4,h5⟩
theorem xHm (fz : Bool) (z : List AV) (bytes : Nat) (l c : Arg) : xAa R F H (.mkslice fz z bytes l c) = xZL fz z bytes H (opv F l) (opv F c) := by
  simp only [xAa]
  cases opv F l <;> cases opv F c <;> rfl
def xWS (es : Nat) (H : Heap) (x : AV) : Option (Nat × Nat) → Option AV
  | none => none
  | some (l,h) => match x with
    | .sl z _ cs => some (.sl z (h - l) ((cs.drop (l * es)).take ((h - l) * es)))
    | .own z id off _ _ => some (.own z id (off + l * es) (h - l) es)
    | _ => none
def xP5 (es : Nat) (H : Heap) (lo hi mx : Option AV) : AV → Option AV
  | .sl z n cs => if cs.length = n * es then xWS es H (.sl z n cs) (xCB n lo hi mx) else none
  | .own z id off n es' => if es' = es then xWS es H (.own z id off n es') (xCB n lo hi mx) else none
  | _ => none
theorem xF0 (es : Nat) (x : Arg) (lo hi mx : Option Arg) : xAa R F H (.slice es x lo hi mx) = xEQ H (xP5 es H (lo.map (opv F)) (hi.map (opv F)) (mx.map (opv F)) (opv F x)) := by
  simp only [xAa,xEQ,xP5,xWS]
  cases opv F x with
  | sl z n cs =>
    simp only
    split
    · cases xCB n (lo.map (opv F)) (hi.map (opv F)) (mx.map (opv F)) <;> rfl
    · rfl
  | own z id off n es' =>
    simp only
    split
    · cases xCB n (lo.map (opv F)) (hi.map (opv F)) (mx.map (opv F)) <;> rfl
    · rfl
  | _ => rfl
theorem xFI {es n : Nat} {z : Bool} {cs : List AV} (lo hi mx : Option AV) (h : cs.length = n * es) : xP5 es H lo hi mx (.sl z n cs) = xWS es H (.sl z n cs) (xCB n lo hi mx) := if_pos h
theorem xHn {es n id off : Nat} {z : Bool} (lo hi mx : Option AV) : xP5 es H lo hi mx (.own z id off n es) = xWS es H (.own z id off n es) (xCB n lo hi mx) := if_pos rfl
theorem xJm (es : Nat) (z : Bool) (n : Nat) (cs : List AV) (l h : Nat) : xWS es H (.sl z n cs) (some (l,h)) = some (.sl z (h - l) ((cs.drop (l * es)).take ((h - l) * es))) := rfl
theorem xL5 (es : Nat) (z : Bool) (id off n es' : Nat) (l h : Nat) : xWS es H (.own z id off n es') (some (l,h)) = some (.own z id (off + l * es) (h - l) es) := rfl
theorem xNR (n : Nat) : xCB n none none none = some (0,n) := by simp [xCB]
theorem xNS {n : Nat} {k : IntKind} {l : Int} (h0 : 0 ≤ l) (h : l ≤ n) : xCB n (some (.int k l)) none none = some (l.toNat,n) := by
  simp only [xCB,xC7,if_pos h0]
  rw [if_pos ⟨by omega,by omega⟩]
theorem xFJ {n : Nat} {k : IntKind} {m : Int} (h0 : 0 ≤ m) (h : m ≤ n) : xCB n none (some (.int k m)) none = some (0,m.toNat) := by
  simp only [xCB,xC7,if_pos h0]
  rw [if_pos ⟨by omega,by omega⟩]
theorem xNT {n : Nat} {k k' : IntKind} {l m : Int} (h0 : 0 ≤ l) (h1 : l ≤ m) (h : m ≤ n) : xCB n (some (.int k l)) (some (.int k' m)) none = some (l.toNat,m.toNat) := by
  have h2 : 0 ≤ m := by omega
  simp only [xCB,xC7,if_pos h0,if_pos h2]
  rw [if_pos ⟨by omega,by omega⟩]
def xSW (o : Nat) : AV → Option AV
  | .ptr id off => some (.ptr id (off + o))
  | .vptr cs off => some (.vptr cs (off + o))
  | _ => none
theorem xAA (o id off : Nat) : xSW o (.ptr id off) = some (.ptr id (off + o)) := rfl
theorem xJn (o : Nat) (cs : List AV) (off : Nat) : xSW o (.vptr cs off) = some (.vptr cs (off + o)) := rfl
theorem xAS (o : Nat) (x : Arg) : xAa R F H (.faddr o x) = xEQ H (xSW o (opv F x)) := by
  simp only [xAa]
  cases opv F x <;> rfl
def xSX (g : Bool) (off n : Nat) : AV → Option AV
  | .agg cs => if off + n ≤ cs.length then mkv g ((cs.drop off).take n) else none
  | _ => none
theorem xK4 {g : Bool} {off n : Nat} {cs : List AV} (h : off + n ≤ cs.length) : xSX g off n (.agg cs) = mkv g ((cs.drop off).take n) := if_pos h
theorem xSY (v : AV) : mkv false [v] = some v := rfl
theorem xRl (cs : List AV) : mkv true cs = some (.agg cs) := rfl
theorem xP6 (g : Bool) (off n : Nat) (x : Arg) : xAa R F H (.field g off n x) = xEQ H (xSX g off n (opv F x)) := by
  simp only [xAa]
  cases opv F x with
  | agg cs =>
    simp only [xSX,xEQ]
    split
    · cases mkv g ((cs.drop off).take n) <;> rfl
    · rfl
  | _ => rfl
def xK5 (es : Nat) : AV → AV → Option AV
  | .sl _ n cs,.int _ i => if 0 ≤ i ∧ i.toNat < n then some (.vptr cs (i.toNat * es)) else none
  | .own _ id off n es',.int _ i => if 0 ≤ i ∧ i.toNat < n ∧ es' = es then some (.ptr id (off + i.toNat * es)) else none
  | _,_ => none
theorem xAY {es n : Nat} {z : Bool} {cs : List AV} {k : IntKind} {i : Int} (h0 : 0 ≤ i) (h : i < n) : xK5 es (.sl z n cs) (.int k i) = some (.vptr cs (i.toNat * es)) := if_pos ⟨h0,by omega⟩
theorem xCv {es n id off : Nat} {z : Bool} {k : IntKind} {i : Int} (h0 : 0 ≤ i) (h : i < n) : xK5 es (.own z id off n es) (.int k i) = some (.ptr id (off + i.toNat * es)) := if_pos ⟨h0,by omega,rfl⟩
theorem xAT (es : Nat) (x i : Arg) : xAa R F H (.iaddr es x i) = xEQ H (xK5 es (opv F x) (opv F i)) := by
  simp only [xAa]
  cases opv F x with
  | sl z n cs =>
    cases opv F i with
    | int k j =>
      simp only [xC7,xK5,xEQ]
      by_cases h : 0 ≤ j
      · by_cases h2 : j.toNat < n <;> simp [h,h2]
      · simp [h]
    | _ => rfl
  | own z id off n es' =>
    cases opv F i with
    | int k j =>
      simp only [xC7,xK5,xEQ]
      by_cases h : 0 ≤ j
      · by_cases h2 : j.toNat < n
        · by_cases h3 : es' = es <;> simp [h,h2,h3]
        · simp [h,h2]
      · simp [h]
    | _ => rfl
  | _ => cases opv F i <;> simp [xK5,xEQ,xC7] <;> split <;> simp_all
def xY7 (i : Nat) : AV → Option AV
  | .tup vs => vs[i]?
  | _ => none
theorem xB8 (i : Nat) (vs : List AV) : xY7 i (.tup vs) = vs[i]? := rfl
theorem xDv (i : Nat) (x : Arg) : xAa R F H (.ext i x) = xEQ H (xY7 i (opv F x)) := by
  simp only [xAa]
  cases opv F x with
  | tup vs => simp only [xY7,xEQ]; cases vs[i]? <;> rfl
  | _ => rfl
def xY8 : AV → Option AV
  | .sl _ n _ => some (.int .i64 n)
  | .own _ _ _ n _ => some (.int .i64 n)
  | _ => none
theorem xBC (z : Bool) (n : Nat) (cs : List AV) : xY8 (.sl z n cs) = some (.int .i64 n) := rfl
theorem xDq (z : Bool) (id off n es : Nat) : xY8 (.own z id off n es) = some (.int .i64 n) := rfl
theorem xBO (x : Arg) : xAa R F H (.len x) = xEQ H (xY8 (opv F x)) := by
  simp only [xAa]
  cases opv F x <;> rfl
theorem xVR (x : Arg) : xAa R F H (.cap x) = match opv F x with
  | .sl true _ _ => some (.int .i64 0,H)
  | _ => none := rfl
def xY9 (neg : Bool) (n : Nat) : AV → AV → Option AV
  | .agg cs,.agg ds => if cs.length = n then (xC3 cs ds).map fun b => .bool (b != neg) else none
  | _,_ => none
theorem xP7 {neg : Bool} {n : Nat} {cs ds : List AV} (h : cs.length = n) : xY9 neg n (.agg cs) (.agg ds) = (xC3 cs ds).map fun b => .bool (b != neg) := if_pos h
theorem xVS (neg : Bool) (n : Nat) (x y : Arg) : xAa R F H (.aeq neg n x y) = xEQ H (xY9 neg n (opv F x) (opv F y)) := by
  simp only [xAa]
  cases opv F x with
  | agg cs => cases opv F y with
    | agg ds =>
      simp only [xY9,xEQ]
      split
      · cases xC3 cs ds <;> rfl
      · rfl
    | _ => rfl
  | _ => rfl
def xVT (fz : Bool) (es bytes : Nat) (H : Heap) (x : AV) : Option (Nat × List AV) → Option (AV × Heap)
  | none => none
  | some (m,ys) => match x with
    | .sl true _ _ => if m * bytes ≤ xCo ∧ m ≤ xCo then xFd fz (m == 0) m es ys H else none
    | .own z id off n es' => match H[id]? with
      | some (.cells false _ cs) => if off = 0 ∧ es' = es ∧ n * es ≤ cs.length ∧ (n + m) * bytes ≤ xCo ∧ n + m ≤ xCo then
          some (.own (z && m == 0) H.length 0 (n + m) es,H.set id .dead ++ [.cells false (z && m == 0) (cs.take (n * es) ++ ys)]) else none
      | _ => none
    | _ => none
theorem xBE (fz : Bool) (es bytes : Nat) (x y : Arg) : xAa R F H (.append fz es bytes x y) = xVT fz es bytes H (opv F x) (src H es (opv F y)) := by
  simp only [xAa,xVT]
  cases src H es (opv F y) <;> rfl
theorem xEs {fz : Bool} {es bytes n m : Nat} {cs ys : List AV} (h : m * bytes ≤ 140737488355328) (h2 : m ≤ 140737488355328) : xVT fz es bytes H (.sl true n cs) (some (m,ys)) = xFd fz (m == 0) m es ys H := if_pos ⟨h,h2⟩
def xWT (es bytes n m : Nat) (H : Heap) (z : Bool) (id : Nat) (ys : List AV) : Option Blk → Option (AV × Heap)
  | some (.cells false _ cs) => if n * es ≤ cs.length ∧ (n + m) * bytes ≤ xCo ∧ n + m ≤ xCo then
      some (.own (z && m == 0) H.length 0 (n + m) es,H.set id .dead ++ [.cells false (z && m == 0) (cs.take (n * es) ++ ys)]) else none
  | _ => none
theorem xDW (fz : Bool) (es bytes n m id : Nat) (z : Bool) (ys : List AV) : xVT fz es bytes H (.own z id 0 n es) (some (m,ys)) = xWT es bytes n m H z id ys H[id]? := by
  simp only [xVT,xWT]
  split
  · rename_i z' cs hb
    by_cases h : n * es ≤ cs.length ∧ (n + m) * bytes ≤ xCo ∧ n + m ≤ xCo
    · rw [if_pos h,if_pos ⟨trivial,trivial,h⟩]
    · rw [if_neg h,if_neg (fun g => h g.2.2)]
  · rename_i hne
    cases hb : H[id]? with
    | none => rfl
    | some b => cases b with
      | cells fz z cs => cases fz with
        | false => exact (hne _ _ hb).elim
        | true => rfl
      | _ => rfl
theorem xCF {es bytes n m id : Nat} {z z' : Bool} {ys cs : List AV} (h : n * es ≤ cs.length) (h2 : (n + m) * bytes ≤ 140737488355328) (h3 : n + m ≤ 140737488355328) : xWT es bytes n m H z id ys (some (.cells false z' cs)) =
    some (.own (z && m == 0) H.length 0 (n + m) es,H.set id .dead ++ [.cells false (z && m == 0) (cs.take (n * es) ++ ys)]) := if_pos ⟨h,h2,h3⟩
theorem xDr {es n : Nat} {z : Bool} {cs : List AV} (h : cs.length = n * es) : src H es (.sl z n cs) = some (n,cs) := if_pos h
def xZa (off n es : Nat) : Option Blk → Option (Nat × List AV)
  | some (.cells _ _ cs) => if off + n * es ≤ cs.length then some (n,(cs.drop off).take (n * es)) else none
  | _ => none
theorem xSZ (es n id off : Nat) (z : Bool) : src H es (.own z id off n es) = xZa off n es H[id]? := by
  simp only [src,xZa]
  cases H[id]? with
  | none => rfl
  | some b => cases b <;> simp
theorem xK6 {es n off : Nat} {fz z : Bool} {cs : List AV} (h : off + n * es ≤ cs.length) : xZa off n es (some (.cells fz z cs)) = some (n,(cs.drop off).take (n * es)) := if_pos h
def xNU (z : List AV) (bytes : Nat) (H : Heap) : AV → AV → Option (AV × Heap)
  | .sl true _ _,.int _ m => if 0 ≤ m ∧ m.toNat * bytes ≤ xCo ∧ m.toNat ≤ xCo ∧ z.all AV.isCell = true then xFd false (m.toNat == 0) m.toNat z.length (xEo z m.toNat) H else none
  | _,_ => none
theorem xK7 (z : List AV) (bytes : Nat) (x n : Arg) : xAa R F H (.appendz z bytes x n) = xNU z bytes H (opv F x) (opv F n) := by
  simp only [xAa]
  cases hn : opv F n with
  | int k m =>
    simp only [xC7]
    by_cases h : 0 ≤ m
    · cases hx : opv F x with
      | sl zz nn cs => cases zz <;> simp [xNU,h]
      | _ => simp [xNU,h]
    · cases hx : opv F x with
      | sl zz nn cs => cases zz <;> simp [xNU,h]
      | _ => simp [xNU,h]
  | _ =>
    cases hx : opv F x with
    | sl zz nn cs => cases zz <;> simp [xNU,xC7]
    | _ => simp [xNU,xC7]
theorem xNV {z : List AV} {bytes n : Nat} {cs : List AV} {k : IntKind} {m : Int} (h0 : 0 ≤ m) (h1 : m.toNat * bytes ≤ 140737488355328) (h2 : m.toNat ≤ 140737488355328) (h3 : z.all AV.isCell = true) : xNU z bytes H (.sl true n cs) (.int k m) = xFd false (m.toNat == 0) m.toNat z.length (xEo z m.toNat) H := if_pos ⟨h0,h1,h2,h3⟩
def xZb : AV → AV → Option AV
  | .int k a,.int _ b => some (.int k (max a b))
  | _,_ => none
def xZc : AV → AV → Option AV
  | .int k a,.int _ b => some (.int k (min a b))
  | _,_ => none
theorem xEt (k k' : IntKind) (a b : Int) : xZb (.int k a) (.int k' b) = some (.int k (max a b)) := rfl
theorem xDs (k k' : IntKind) (a b : Int) : xZc (.int k a) (.int k' b) = some (.int k (min a b)) := rfl
theorem xE7 (x y : Arg) : xAa R F H (.maxi x y) = xEQ H (xZb (opv F x) (opv F y)) := by
  simp only [xAa]
  cases opv F x with
  | int k a => cases opv F y with
    | int k' b => simp only [xZb,xEQ]; congr 3; split <;> omega
    | _ => rfl
  | _ => rfl
theorem xEa (x y : Arg) : xAa R F H (.mini x y) = xEQ H (xZc (opv F x) (opv F y)) := by
  simp only [xAa]
  cases opv F x with
  | int k a => cases opv F y with
    | int k' b => simp only [xZc,xEQ]; congr 3; split <;> omega
    | _ => rfl
  | _ => rfl
theorem xS0 (z : List AV) : xEo z 0 = [] := rfl
theorem xDw (z : List AV) : xEo z 1 = z ++ ([]) := rfl
theorem xVU (z : List AV) : xEo z 2 = z ++ (z ++ ([])) := rfl
theorem xVV (z : List AV) : xEo z 3 = z ++ (z ++ (z ++ ([]))) := rfl
theorem xHM (z : List AV) : xEo z 4 = z ++ (z ++ (z ++ (z ++ ([])))) := rfl
theorem xVW (z : List AV) : xEo z 5 = z ++ (z ++ (z ++ (z ++ (z ++ ([]))))) := rfl
theorem xVX (z : List AV) : xEo z 6 = z ++ (z ++ (z ++ (z ++ (z ++ (z ++ ([])))))) := rfl
theorem xVY (z : List AV) : xEo z 7 = z ++ (z ++ (z ++ (z ++ (z ++ (z ++ (z ++ ([]))))))) := rfl
theorem xVZ (z : List AV) : xEo z 8 = z ++ (z ++ (z ++ (z ++ (z ++ (z ++ (z ++ (z ++ ([])))))))) := rfl
theorem xV0 (z : List AV) : xEo z 9 = z ++ (z ++ (z ++ (z ++ (z ++ (z ++ (z ++ (z ++ (z ++ ([]))))))))) := rfl
theorem xS1 (z : List AV) : xEo z 10 = z ++ (z ++ (z ++ (z ++ (z ++ (z ++ (z ++ (z ++ (z ++ (z ++ ([])))))))))) := rfl
theorem xS2 (z : List AV) : xEo z 11 = z ++ (z ++ (z ++ (z ++ (z ++ (z ++ (z ++ (z ++ (z ++ (z ++ (z ++ ([]))))))))))) := rfl
theorem xS3 (z : List AV) : xEo z 12 = z ++ (z ++ (z ++ (z ++ (z ++ (z ++ (z ++ (z ++ (z ++ (z ++ (z ++ (z ++ ([])))))))))))) := rfl
theorem xAO (d : Nat) (k : IntKind) (n : Int) : frz d H (.int k n) = some (.int k n) := by cases d <;> rfl
theorem xCr (d : Nat) (b : Bool) : frz d H (.bool b) = some (.bool b) := by cases d <;> rfl
theorem xS4 (d : Nat) (b : ByteArray) : frz d H (.str b) = some (.str b) := by cases d <;> rfl
theorem xP8 (d : Nat) : frz d H .nilp = some .nilp := by cases d <;> rfl
theorem xP9 (d : Nat) : frz d H .nilf = some .nilf := by cases d <;> rfl
theorem xS5 (d : Nat) : frz d H .any = some .any := by cases d <;> rfl
theorem xQa (d f : Nat) : frz d H (.func f []) = some (.func f []) := by cases d <;> rfl
theorem xBZ (d : Nat) (z : Bool) (n : Nat) (cs : List AV) : frz d H (.sl z n cs) = some (.sl z n cs) := by cases d <;> rfl
theorem xCk (d : Nat) (cs : List AV) : frz (d + 1) H (.agg cs) = (cs.mapM (frz d H)).map AV.agg := rfl
theorem xCw (d : Nat) (cs : List AV) : frz (d + 1) H (.tup cs) = (cs.mapM (frz d H)).map AV.tup := rfl
def xZd (d : Nat) (H : Heap) (z : Bool) (off n es : Nat) : Option Blk → Option AV
  | some (.cells _ _ cs) => if off + n * es ≤ cs.length then slK z n (((cs.drop off).take (n * es)).mapM (frz d H)) else none
  | _ => none
theorem xCc (d : Nat) (z : Bool) (id off n es : Nat) : frz (d + 1) H (.own z id off n es) = xZd d H z off n es H[id]? := by
  simp only [frz,xZd]
  cases H[id]? with
  | none => rfl
  | some b => cases b with
    | cells fz z' cs =>
      simp only
      split
      · cases ((cs.drop off).take (n * es)).mapM (frz d H) <;> rfl
      · rfl
    | _ => rfl
theorem xDD {d off n es : Nat} {z fz z' : Bool} {cs : List AV} (h : off + n * es ≤ cs.length) : xZd d H z off n es (some (.cells fz z' cs)) = slK z n (((cs.drop off).take (n * es)).mapM (frz d H)) := if_pos h
theorem xA4 (d : Nat) (k : IntKind) (n : Int) : bor d H (.int k n) = [] := by cases d <;> rfl
theorem xQb (d : Nat) (b : Bool) : bor d H (.bool b) = [] := by cases d <;> rfl
theorem xS6 (d : Nat) (b : ByteArray) : bor d H (.str b) = [] := by cases d <;> rfl
theorem xQc (d : Nat) : bor d H .nilp = [] := by cases d <;> rfl
theorem xQd (d : Nat) : bor d H .nilf = [] := by cases d <;> rfl
theorem xS7 (d : Nat) : bor d H .any = [] := by cases d <;> rfl
theorem xQe (d f : Nat) (cs : List AV) : bor d H (.func f cs) = [] := by cases d <;> rfl
theorem xV1 (ss : List Nat) (b : ACode) (s : St) : run R (.fz ss b) s = run R b ⟨s.F,fzIds s.H (ss.flatMap fun i => bor frzN s.H (s.F.getD i .any))⟩ := rfl
def xZe (R : Rec) (i : Nat) (b : ACode) (s : St) (ids : List Nat) : Option AV → Option (AExit × St)
  | some v => run R b ⟨s.F.set i v,fzIds s.H ids⟩
  | none => none
theorem xS8 (i : Nat) (b : ACode) (s : St) : run R (.fzs i b) s = xZe R i b s (bor frzN s.H (s.F.getD i .any)) (frz frzN s.H (s.F.getD i .any)) := by
  simp only [run,xZe]
  cases frz frzN s.H (s.F.getD i .any) <;> rfl
theorem xNW (i : Nat) (b : ACode) (s : St) (ids : List Nat) (v : AV) : xZe R i b s ids (some v) = run R b ⟨s.F.set i v,fzIds s.H ids⟩ := rfl
def xZf (d : Nat) (H : Heap) (off : Nat) : Option Blk → Option AV
  | some (.cells _ _ cs) => (cs.mapM (frz d H)).map fun cs' => .vptr cs' off
  | _ => none
theorem xS9 (d i o : Nat) : frz (d + 1) H (.ptr i o) = xZf d H o H[i]? := by
  simp only [frz,xZf]
  cases H[i]? with
  | none => rfl
  | some b => cases b <;> rfl
theorem xK8 (d : Nat) (o : Nat) (fz z : Bool) (cs : List AV) : xZf d H o (some (.cells fz z cs)) = (cs.mapM (frz d H)).map fun cs' => .vptr cs' o := rfl
theorem xQf (d : Nat) (cs : List AV) (o : Nat) : frz d H (.vptr cs o) = some (.vptr cs o) := by cases d <;> rfl
def xWU (d : Nat) (H : Heap) : Option Blk → List Nat
  | some (.cells _ _ cs) => cs.flatMap (bor d H)
  | _ => []
theorem xTa (d i o : Nat) : bor (d + 1) H (.ptr i o) = i :: xWU d H H[i]? := by
  simp only [bor,xWU]
  cases H[i]? with
  | none => rfl
  | some b => cases b <;> rfl
theorem xJo (d : Nat) (fz z : Bool) (cs : List AV) : xWU d H (some (.cells fz z cs)) = cs.flatMap (bor d H) := rfl
theorem xQg (d : Nat) (cs : List AV) (o : Nat) : bor d H (.vptr cs o) = [] := by cases d <;> rfl
def xWV : Option Blk → Bool
  | some (.cells true _ _) => true
  | _ => false
theorem xK9 (i : Nat) : xHi H i = xWV H[i]? := by
  simp only [xHi,xWV]
  cases H[i]? with
  | none => rfl
  | some b => cases b with
    | cells fz z cs => cases fz <;> rfl
    | _ => rfl
theorem xTb (z : Bool) (cs : List AV) : xWV (some (.cells true z cs)) = true := rfl
theorem xCx (d : Nat) (z : Bool) (n : Nat) (cs : List AV) : bor d H (.sl z n cs) = [] := by cases d <;> rfl
theorem xCl (d : Nat) (cs : List AV) : bor (d + 1) H (.agg cs) = cs.flatMap (bor d H) := rfl
theorem xTc (d : Nat) (cs : List AV) : bor (d + 1) H (.tup cs) = cs.flatMap (bor d H) := rfl
def xZg (d : Nat) (H : Heap) (off n es : Nat) : Option Blk → List Nat
  | some (.cells _ _ cs) => ((cs.drop off).take (n * es)).flatMap (bor d H)
  | _ => []
theorem xCK (d : Nat) (z : Bool) (id off n es : Nat) : bor (d + 1) H (.own z id off n es) = id :: xZg d H off n es H[id]? := by
  simp only [bor,xZg]
  cases H[id]? with
  | none => rfl
  | some b => cases b <;> rfl
theorem xHo (d off n es : Nat) (fz z : Bool) (cs : List AV) : xZg d H off n es (some (.cells fz z cs)) = ((cs.drop off).take (n * es)).flatMap (bor d H) := rfl
def xV2 (args : List AV) (H : Heap) : Option AV → Option (AV × Heap)
  | some r => some (r,if xC6 r = true then H else fzIds H (args.flatMap (bor frzN H)))
  | none => none
theorem xA2 (args : List AV) (r : AV) : xV2 args H (some r) = some (r,if xC6 r = true then H else fzIds H (args.flatMap (bor frzN H))) := rfl
theorem xNX (args : List AV) : xV2 args H none = none := rfl
theorem xQh (args : List AV) {c : Prop} [Decidable c] (x y : Option AV) : xV2 args H (if c then x else y) = if c then xV2 args H x else xV2 args H y := by split <;> rfl
def xZh (R : Rec) (f : Nat) (args : List AV) (H : Heap) : Option (List AV) → Option (AV × Heap)
  | some args' => xV2 args H (R.pcall f args')
  | none => none
theorem xAZ (f : Nat) (args args' : List AV) : xZh R f args H (some args') = xV2 args H (R.pcall f args') := rfl
theorem xA0 (f : Nat) (args : List AV) : xCL R f args H = xZh R f args H (args.mapM (frz frzN H)) := by
  simp only [xCL,xZh]
  cases args.mapM (frz frzN H) with
  | none => rfl
  | some args' => simp only [xV2]; cases R.pcall f args' <;> rfl
theorem xBn (f : Nat) (args : List Arg) : xAa R F H (.call f args) = xCL R f (args.map (opv F)) H := rfl
theorem xBa (f : Arg) (args : List Arg) : xAa R F H (.icall f args) = R.icall (opv F f) (args.map (opv F)) H := rfl
def xV3 (R : Rec) (args : List AV) (H : Heap) : AV → Option (AV × Heap)
  | .func g caps => xCL R g (args ++ caps) H
  | _ => none
theorem xJp (args : List AV) (g : Nat) (caps : List AV) : xV3 R args H (.func g caps) = xCL R g (args ++ caps) H := rfl
theorem xQi (f : Arg) (args : List Arg) : xAa R F H (.fcall f args) = xV3 R (args.map (opv F)) H (opv F f) := by
  simp only [xAa]
  cases opv F f <;> rfl
def xGb (args : List AV) (H : Heap) : Option (AV × Heap) → Option (AV × Heap)
  | some (r,_) => if quietCall r H args = true then some (r,H) else none
  | none => none
theorem xEb (args : List AV) (r : AV) (H' : Heap) : xGb args H (some (r,H')) = if quietCall r H args = true then some (r,H) else none := rfl
theorem xJq (args : List AV) : xGb args H none = none := rfl
theorem xLa (args : List AV) {c : Prop} [Decidable c] (x y : Option (AV × Heap)) : xGb args H (if c then x else y) = if c then xGb args H x else xGb args H y := by split <;> rfl
theorem xJr (f : Nat) (args : List Arg) : xBN R F H (.call f args) = xGb (args.map (opv F)) H (xCL R f (args.map (opv F)) H) := by
  simp only [xBN,xA8,xGb]
  cases xCL R f (args.map (opv F)) H with
  | none => rfl
  | some r => obtain ⟨r,H'⟩ := r; simp only; split <;> rfl
def xO4 (R : Rec) (args : List AV) (H : Heap) : AV → Option (AV × Heap)
  | .func g caps => xGb (args ++ caps) H (xCL R g (args ++ caps) H)
  | _ => none
theorem xHN (args : List AV) (g : Nat) (caps : List AV) : xO4 R args H (.func g caps) = xGb (args ++ caps) H (xCL R g (args ++ caps) H) := rfl
theorem xQj (f : Arg) (args : List Arg) : xBN R F H (.fcall f args) = xO4 R (args.map (opv F)) H (opv F f) := by
  simp only [xBN,xA8,xGb,xO4]
  cases opv F f with
  | func g caps =>
    simp only
    cases xCL R g (args.map (opv F) ++ caps) H with
    | none => rfl
    | some r => obtain ⟨r,H'⟩ := r; simp only; split <;> rfl
  | _ => rfl
theorem xQk (v : AV) : xBN R F H (.box (.c v)) = if v.cells.all AV.isCell = true then some (.any,H) else none := by
  simp only [xBN,xA8]
  split <;> rfl
def xF5 (H : Heap) : Option (AV × Heap) → Option (AV × Heap)
  | some (v,_) => some (v,H)
  | none => none
theorem xDP (v : AV) (H' : Heap) : xF5 H (some (v,H')) = some (v,H) := rfl
theorem xNY : xF5 H none = none := rfl
theorem xQl {c : Prop} [Decidable c] (x y : Option (AV × Heap)) : xF5 H (if c then x else y) = if c then xF5 H x else xF5 H y := by split <;> rfl
theorem xEc (op : AOp) (h : xA8 R F H op = (xAa R F H op).map (·.1)) : xBN R F H op = xF5 H (xAa R F H op) := by
  simp only [xBN,h,xF5]
  cases xAa R F H op <;> rfl
theorem xV4 (x : Arg) : xBN R F H (.mov x) = xF5 H (xAa R F H (.mov x)) := xEc _ rfl
theorem xTd (c a b : Arg) : xBN R F H (.pick c a b) = xF5 H (xAa R F H (.pick c a b)) := xEc _ rfl
theorem xIe (z : List AV) (parts : List (Nat × Nat × Arg)) : xBN R F H (.build z parts) = xF5 H (xAa R F H (.build z parts)) := xEc _ rfl
theorem xNZ (z : List AV) (es n : Nat) (parts : List (Nat × Arg)) : xBN R F H (.bslice true z es n parts) = xF5 H (xAa R F H (.bslice true z es n parts)) := xEc _ rfl
theorem xFK (g : Bool) (n : Nat) (p : Arg) : xBN R F H (.load g n p) = xF5 H (xAa R F H (.load g n p)) := xEc _ rfl
theorem xN0 (x : Arg) : xBN R F H (.nilchk x) = xF5 H (xAa R F H (.nilchk x)) := xEc _ rfl
theorem xQm (op : BinOp) (x y : Arg) : xBN R F H (.bin op x y) = xF5 H (xAa R F H (.bin op x y)) := xEc _ rfl
theorem xV5 (neg : Bool) (x y : Arg) : xBN R F H (.beq neg x y) = xF5 H (xAa R F H (.beq neg x y)) := xEc _ rfl
theorem xQn (neg : Bool) (x : Arg) : xBN R F H (.isnil neg x) = xF5 H (xAa R F H (.isnil neg x)) := xEc _ rfl
theorem xYb (op : UnOp) (x : Arg) : xBN R F H (.un op x) = xF5 H (xAa R F H (.un op x)) := xEc _ rfl
theorem xL6 (k : IntKind) (x : Arg) : xBN R F H (.conv k x) = xF5 H (xAa R F H (.conv k x)) := xEc _ rfl
theorem xN1 (f : Nat) (caps : List Arg) : xBN R F H (.mkfunc f caps) = xF5 H (xAa R F H (.mkfunc f caps)) := xEc _ rfl
theorem xLb (z : List AV) (bytes : Nat) (l c : Arg) : xBN R F H (.mkslice true z bytes l c) = xF5 H (xAa R F H (.mkslice true z bytes l c)) := xEc _ rfl
theorem xQo (es : Nat) (x : Arg) (lo hi mx : Option Arg) : xBN R F H (.slice es x lo hi mx) = xF5 H (xAa R F H (.slice es x lo hi mx)) := xEc _ rfl
theorem xEu (o : Nat) (x : Arg) : xBN R F H (.faddr o x) = xF5 H (xAa R F H (.faddr o x)) := xEc _ rfl
theorem xQp (g : Bool) (off n : Nat) (x : Arg) : xBN R F H (.field g off n x) = xF5 H (xAa R F H (.field g off n x)) := xEc _ rfl
theorem xQq (es : Nat) (x i : Arg) : xBN R F H (.iaddr es x i) = xF5 H (xAa R F H (.iaddr es x i)) := xEc _ rfl
theorem xV6 (i : Nat) (x : Arg) : xBN R F H (.ext i x) = xF5 H (xAa R F H (.ext i x)) := xEc _ rfl
theorem xTe (x : Arg) : xBN R F H (.len x) = xF5 H (xAa R F H (.len x)) := xEc _ rfl
theorem xV7 (x : Arg) : xBN R F H (.cap x) = xF5 H (xAa R F H (.cap x)) := xEc _ rfl
theorem xV8 (neg : Bool) (n : Nat) (x y : Arg) : xBN R F H (.aeq neg n x y) = xF5 H (xAa R F H (.aeq neg n x y)) := xEc _ rfl
theorem xTf (x y : Arg) : xBN R F H (.maxi x y) = xF5 H (xAa R F H (.maxi x y)) := xEc _ rfl
theorem xTg (x y : Arg) : xBN R F H (.mini x y) = xF5 H (xAa R F H (.mini x y)) := xEc _ rfl
def xWW (es bytes : Nat) (H : Heap) (x : AV) (o : Option (Nat × List AV)) : Option (AV × Heap) := match x with
  | .sl _ _ _ => xF5 H (xVT true es bytes H x o)
  | _ => none
theorem xQr (es bytes : Nat) (z : Bool) (n : Nat) (cs : List AV) (o : Option (Nat × List AV)) : xWW es bytes H (.sl z n cs) o = xF5 H (xVT true es bytes H (.sl z n cs) o) := rfl
theorem xN2 (es bytes : Nat) (x y : Arg) : xBN R F H (.append true es bytes x y) = xWW es bytes H (opv F x) (src H es (opv F y)) := by
  simp only [xBN,xA8,xWW]
  cases h : opv F x with
  | sl z n cs =>
    simp only [xBE,h,xF5]
    cases xVT true es bytes H (.sl z n cs) (src H es (opv F y)) <;> rfl
  | _ => rfl
def xRm (H : Heap) : Option AV → Option (AV × Heap)
  | some v => some (v,H)
  | none => none
theorem xAt (v : AV) : xRm H (some v) = some (v,H) := rfl
def xN3 (rs : List ARes) : Option (AExit × St) → Option (AV × Heap)
  | some (.normal,s) => xRm s.H (xCX rs s)
  | some (.ret,s) => xRm s.H (xCX rs s)
  | _ => none
theorem xDQ (rs : List ARes) (F : List AV) (H : Heap) : xN3 rs (some (.normal,⟨F,H⟩)) = xRm H (xCX rs ⟨F,H⟩) := rfl
theorem xAz (rs : List ARes) (F : List AV) (H : Heap) : xN3 rs (some (.ret,⟨F,H⟩)) = xRm H (xCX rs ⟨F,H⟩) := rfl
theorem xLc (rs : List ARes) : xN3 rs none = none := rfl
theorem xN4 (rs : List ARes) {c : Prop} [Decidable c] (x y : Option (AExit × St)) : xN3 rs (if c then x else y) = if c then xN3 rs x else xN3 rs y := by split <;> rfl
def pads : Nat → List AV
  | 0 => []
  | n + 1 => .tup [] :: pads n
theorem xTh : ∀ n,List.replicate n (AV.tup []) = pads n
  | 0 => rfl
  | n + 1 => by rw [List.replicate_succ,xTh n]; rfl
theorem xAC (n : Nat) (code : ACode) (rs : List ARes) (args : List AV) : xCY R ⟨n,code,rs⟩ args H = xN3 rs (run R code ⟨args ++ pads (n - args.length),H⟩) := by
  rw [← xTh]
  simp only [xCY,xN3,xMR,xRm]
  cases h : run R code ⟨args ++ List.replicate (n - args.length) (.tup []),H⟩ with
  | none => rfl
  | some r =>
    obtain ⟨e,s⟩ := r
    cases e with
    | exit i => rfl
    | _ => simp only; cases xCX rs s <;> rfl
def xJs : Option (AV × Heap) → Option AV
  | some (r,H') => frz frzN H' r
  | none => none
theorem xAx (r : AV) (H' : Heap) : xJs (some (r,H')) = frz frzN H' r := rfl
theorem xJt : xJs none = none := rfl
theorem xLd {c : Prop} [Decidable c] (x y : Option (AV × Heap)) : xJs (if c then x else y) = if c then xJs x else xJs y := by split <;> rfl
theorem xAL (fn : AFunc) (args : List AV) : xBJ R fn args = xJs (xCY R fn args []) := by
  simp only [xBJ,xJs]
  cases xCY R fn args [] <;> rfl
def xWX (g : Bool) : Option (List AV) → Option AV
  | some cs => mkv g cs
  | none => none
theorem xCZ (g : Bool) (cs : List AV) : xWX g (some cs) = mkv g cs := rfl
theorem xAU (t : Nat) : xSg ⟨F,H⟩ (.tmp t) = some (F.getD t .any) := rfl
theorem xDX (t : Nat) (g : Bool) (n : Nat) : xSg ⟨F,H⟩ (.cell t g n) = xWX g (rd H (F.getD t .any) n) := by
  simp only [xSg,xWX]
  cases rd H (F.getD t .any) n <;> rfl
theorem xFL : xCX [] s = some (.tup []) := rfl
theorem xAJ (r : ARes) : xCX [r] s = xSg s r := rfl
def xZi (s : St) (rs : List ARes) : Option AV → Option (List AV)
  | some v => (xRe s rs).map (v :: ·)
  | none => none
theorem xBU (rs : List ARes) (v : AV) : xZi s rs (some v) = (xRe s rs).map (v :: ·) := rfl
theorem xB9 : xRe s [] = some [] := rfl
theorem xBV (r : ARes) (rs : List ARes) : xRe s (r :: rs) = xZi s rs (xSg s r) := by
  simp only [xRe,xZi]
  cases xSg s r <;> rfl
theorem xBW (r r' : ARes) (rs : List ARes) : xCX (r :: r' :: rs) s = (xRe s (r :: r' :: rs)).map .tup := rfl
def xGM (F : List AV) (l : Nat) : Option (AV × Heap) → Option (AExit × St)
  | some (_,H') => match H'[l]? with
    | some (.loop st pend _ _ _ _) => if st = 1 then none else some ((match pend with | none => .normal | some e => e),⟨F,H'.set l .dead⟩)
    | _ => none
  | none => none
def xTi (R : Rec) (F : List AV) (H : Heap) (ps : List Nat) (asg body : ACode) : AV → Option (AExit × St)
  | .func g caps => xGM F H.length (R.icall (.func g caps) [.yield H.length] (H ++ [.loop 0 none F ps asg body]))
  | _ => none
theorem xFM (f : Arg) (ps : List Nat) (asg body : ACode) (F : List AV) (H : Heap) : run R (.range f ps asg body) ⟨F,H⟩ = xTi R F H ps asg body (opv F f) := by
  simp only [run]
  cases opv F f with
  | func g caps =>
    simp only [xTi,xGM]
    cases R.icall (.func g caps) [.yield H.length] (H ++ [.loop 0 none F ps asg body]) with
    | none => rfl
    | some r =>
      obtain ⟨v,H'⟩ := r
      simp only
      cases H'[H.length]? with
      | none => rfl
      | some b => cases b <;> rfl
  | _ => rfl
theorem xEd (ps : List Nat) (asg body : ACode) (g : Nat) (caps : List AV) : xTi R F H ps asg body (.func g caps) = xGM F H.length (R.icall (.func g caps) [.yield H.length] (H ++ [.loop 0 none F ps asg body])) := rfl
def xGN (l : Nat) (e : AExit) (H : Heap) : Option Blk → Option (AV × Heap)
  | some (.loop 1 _ F ps asg body) => some (match e with
    | .normal => (.bool true,H.set l (.loop 0 none F ps asg body))
    | e => (.bool false,H.set l (.loop 2 (some e) F ps asg body)))
  | _ => none
def xEe (l : Nat) : Option (AExit × St) → Option (AV × Heap)
  | some (e,s) => xGN l e s.H s.H[l]?
  | none => none
def xIf (R : Rec) (l : Nat) (body0 : ACode) (s : St) : Option Blk → Option (AV × Heap)
  | some (.loop 0 pend F ps asg body) => xEe l (run R body0 ⟨s.F,s.H.set l (.loop 1 pend F ps asg body)⟩)
  | _ => none
def xL7 (R : Rec) (l : Nat) (body0 : ACode) : Option (AExit × St) → Option (AV × Heap)
  | some (.normal,s) => xIf R l body0 s s.H[l]?
  | _ => none
theorem xGO (l : Nat) (args : List AV) (H : Heap) (asg body : ACode) (F : List AV) (ps : List Nat) (pend : Option AExit) (hH : H[l]? = some (.loop 0 pend F ps asg body)) (h1 : args.length = ps.length) (h2 : asg.noRange = true) (h3 : body.noRange = true) :
    xGE R l args H = xL7 R l body (run R asg ⟨(ps.zip args).foldl (fun F (p,v) => F.set p v) F,H⟩) := by
  unfold xGE
  rw [hH]
  simp only
  rw [if_pos ⟨h1,h2,h3⟩]
  cases ha : run R asg ⟨(ps.zip args).foldl (fun F (p,v) => F.set p v) F,H⟩ with
  | none => rfl
  | some r =>
    obtain ⟨e,s1⟩ := r
    cases e with
    | normal =>
      simp only [xL7]
      cases hb : s1.H[l]? with
      | none => rfl
      | some b =>
        cases b with
        | loop st pend1 F1 ps1 asg1 body1 =>
          match st with
          | 0 =>
            simp only [xIf]
            cases hr : run R body ⟨s1.F,s1.H.set l (.loop 1 pend1 F1 ps1 asg1 body1)⟩ with
            | none => rfl
            | some r =>
              obtain ⟨e,s2⟩ := r
              simp only [xEe]
              cases hc : s2.H[l]? with
              | none => rfl
              | some b =>
                cases b with
                | loop st2 pend2 F2 ps2 asg2 body2 =>
                  match st2 with
                  | 0 => rfl
                  | 1 => rfl
                  | _ + 2 => rfl
                | _ => rfl
          | _ + 1 => rfl
        | _ => rfl
    | _ => rfl
theorem xCy (l : Nat) (body0 : ACode) (F : List AV) (H : Heap) : xL7 R l body0 (some (.normal,⟨F,H⟩)) = xIf R l body0 ⟨F,H⟩ H[l]? := rfl
theorem xC0 (l : Nat) (body0 : ACode) (F : List AV) (H : Heap) (pend : Option AExit) (F1 : List AV) (ps : List Nat) (asg body : ACode) : xIf R l body0 ⟨F,H⟩ (some (.loop 0 pend F1 ps asg body)) = xEe l (run R body0 ⟨F,H.set l (.loop 1 pend F1 ps asg body)⟩) := rfl
theorem xCJ (l : Nat) (e : AExit) (F : List AV) (H : Heap) : xEe l (some (e,⟨F,H⟩)) = xGN l e H H[l]? := rfl
theorem xGP (l : Nat) {c : Prop} [Decidable c] (x y : Option (AExit × St)) : xEe l (if c then x else y) = if c then xEe l x else xEe l y := by split <;> rfl
theorem xCz (l : Nat) (H : Heap) (pend : Option AExit) (F : List AV) (ps : List Nat) (asg body : ACode) : xGN l .normal H (some (.loop 1 pend F ps asg body)) = some (.bool true,H.set l (.loop 0 none F ps asg body)) := rfl
theorem xGQ (l i : Nat) (H : Heap) (pend : Option AExit) (F : List AV) (ps : List Nat) (asg body : ACode) : xGN l (.exit i) H (some (.loop 1 pend F ps asg body)) = some (.bool false,H.set l (.loop 2 (some (.exit i)) F ps asg body)) := rfl
theorem xHO (l : Nat) (H : Heap) (pend : Option AExit) (F : List AV) (ps : List Nat) (asg body : ACode) : xGN l .ret H (some (.loop 1 pend F ps asg body)) = some (.bool false,H.set l (.loop 2 (some .ret) F ps asg body)) := rfl
def xIg (F : List AV) (l : Nat) (H : Heap) : Option Blk → Option (AExit × St)
  | some (.loop st pend _ _ _ _) => if st = 1 then none else some ((match pend with | none => .normal | some e => e),⟨F,H.set l .dead⟩)
  | _ => none
theorem xDt (l : Nat) (v : AV) (H : Heap) : xGM F l (some (v,H)) = xIg F l H H[l]? := by
  simp only [xGM,xIg]
theorem xER (l : Nat) (H : Heap) (F1 : List AV) (ps : List Nat) (asg body : ACode) : xIg F l H (some (.loop 0 none F1 ps asg body)) = some (.normal,⟨F,H.set l .dead⟩) := rfl
theorem xLe (l : Nat) (H : Heap) (e : AExit) (F1 : List AV) (ps : List Nat) (asg body : ACode) : xIg F l H (some (.loop 2 (some e) F1 ps asg body)) = some (e,⟨F,H.set l .dead⟩) := rfl
end
section
variable {R : Rec} {F : List AV} {H : Heap} {s : St}
def xTj : Option (AV × Heap) → Option (AV × List Blk)
  | some (r,H') => (xEC H' r).map fun (v,B) => (v,B.map (·.2))
  | none => none
theorem xGR (f : Nat) (args : List AV) : xEp R f args = xTj (R.icall (.func f []) args []) := by
  unfold xEp xTj
  cases R.icall (.func f []) args [] <;> rfl
theorem xJu (r : AV) (H' : Heap) : xTj (some (r,H')) = (xEC H' r).map fun (v,B) => (v,B.map (·.2)) := rfl
def ocK (H : Heap) (ids : List Nat) : Option (AV × List Blk) → Option (AV × Heap)
  | some (v,B) => some (xCa H.length v,fzIds H ids ++ B)
  | none => none
def xTk (R : Rec) (f : Nat) (H : Heap) (ids : List Nat) : Option (List AV) → Option (AV × Heap)
  | some args' => ocK H ids (xEp R f args')
  | none => none
theorem xQs (f : Nat) (args : List Arg) : xAa R F H (.ocall f args) = xTk R f H ((args.map (opv F)).flatMap (bor frzN H)) ((args.map (opv F)).mapM (frz frzN H)) := by
  simp only [xAa,xTk]
  cases (args.map (opv F)).mapM (frz frzN H) with
  | none => rfl
  | some args' =>
    simp only [ocK]
    cases xEp R f args' <;> rfl
theorem xJv (f : Nat) (ids : List Nat) (args' : List AV) : xTk R f H ids (some args') = ocK H ids (xEp R f args') := rfl
theorem xQt (ids : List Nat) (v : AV) (B : List Blk) : ocK H ids (some (v,B)) = some (xCa H.length v,fzIds H ids ++ B) := rfl
def t1B (z : Bool) (id off n es : Nat) (B : List (Nat × Blk)) : Option Blk → Option (AV × List (Nat × Blk))
  | some (.cells false z' cs) => if cs.all xB3 = true then some (.own z B.length off n es,B ++ [(id,.cells false z' cs)]) else none
  | _ => none
def t1I (z : Bool) (id off n es : Nat) (B : List (Nat × Blk)) (b : Option Blk) : Option Nat → Option (AV × List (Nat × Blk))
  | some k => some (.own z k off n es,B)
  | none => t1B z id off n es B b
theorem xN5 (H : Heap) (z : Bool) (id off n es : Nat) (B : List (Nat × Blk)) : xF3 H (.own z id off n es) B = t1I z id off n es B H[id]? (B.findIdx? (fun p => p.1 == id)) := by
  simp only [xF3,t1I]
  cases B.findIdx? (fun p => p.1 == id) with
  | some k => rfl
  | none =>
    simp only [t1B]
    cases H[id]? with
    | none => rfl
    | some b => cases b with
      | cells fz z' cs => cases fz <;> rfl
      | _ => rfl
theorem xTl (z : Bool) (id off n es : Nat) (B : List (Nat × Blk)) (b : Option Blk) (k : Nat) : t1I z id off n es B b (some k) = some (.own z k off n es,B) := rfl
theorem xTm (z : Bool) (id off n es : Nat) (B : List (Nat × Blk)) (z' : Bool) (cs : List AV) : t1I z id off n es B (some (.cells false z' cs)) none = if cs.all xB3 = true then some (.own z B.length off n es,B ++ [(id,.cells false z' cs)]) else none := rfl
theorem xN6 (H : Heap) (k : IntKind) (n : Int) (B : List (Nat × Blk)) : xF3 H (.int k n) B = some (.int k n,B) := rfl
theorem xLf (H : Heap) (b : Bool) (B : List (Nat × Blk)) : xF3 H (.bool b) B = some (.bool b,B) := rfl
theorem xQu (H : Heap) (z : Bool) (n : Nat) (cs : List AV) (B : List (Nat × Blk)) : xF3 H (.sl z n cs) B = some (.sl z n cs,B) := rfl
theorem xN7 (H : Heap) (b : ByteArray) (B : List (Nat × Blk)) : xF3 H (.str b) B = some (.str b,B) := rfl
def tkL (H : Heap) (vs : List AV) : Option (AV × List (Nat × Blk)) → Option (List AV × List (Nat × Blk))
  | some (v',B') => (xIQ H vs B').map fun (vs',B2) => (v' :: vs',B2)
  | none => none
theorem xN8 (H : Heap) (B : List (Nat × Blk)) : xIQ H [] B = some ([],B) := rfl
theorem xLg (H : Heap) (v : AV) (vs : List AV) (B : List (Nat × Blk)) : xIQ H (v :: vs) B = tkL H vs (xF3 H v B) := by
  simp only [xIQ,tkL]
  cases xF3 H v B <;> rfl
theorem xQv (H : Heap) (vs : List AV) (v' : AV) (B' : List (Nat × Blk)) : tkL H vs (some (v',B')) = (xIQ H vs B').map fun (vs',B2) => (v' :: vs',B2) := rfl
theorem xN9 (H : Heap) (cs : List AV) (B : List (Nat × Blk)) : xGB H (.agg cs) B = if cs.all AV.isCell = true then (xIQ H cs B).map fun (cs',B') => (.agg cs',B') else none := rfl
theorem xOa (H : Heap) (z : Bool) (id off n es : Nat) (B : List (Nat × Blk)) : xGB H (.own z id off n es) B = xF3 H (.own z id off n es) B := rfl
theorem xOb (H : Heap) (k : IntKind) (n : Int) (B : List (Nat × Blk)) : xGB H (.int k n) B = some (.int k n,B) := rfl
theorem xLh (H : Heap) (b : Bool) (B : List (Nat × Blk)) : xGB H (.bool b) B = some (.bool b,B) := rfl
theorem xQw (H : Heap) (z : Bool) (n : Nat) (cs : List AV) (B : List (Nat × Blk)) : xGB H (.sl z n cs) B = some (.sl z n cs,B) := rfl
def xZj (H : Heap) (vs : List AV) : Option (AV × List (Nat × Blk)) → Option (List AV × List (Nat × Blk))
  | some (v',B') => (xFB H vs B').map fun (vs',B2) => (v' :: vs',B2)
  | none => none
theorem xLi (H : Heap) (B : List (Nat × Blk)) : xFB H [] B = some ([],B) := rfl
theorem xJw (H : Heap) (v : AV) (vs : List AV) (B : List (Nat × Blk)) : xFB H (v :: vs) B = xZj H vs (xGB H v B) := by
  simp only [xFB,xZj]
  cases xGB H v B <;> rfl
theorem xOc (H : Heap) (vs : List AV) (v' : AV) (B' : List (Nat × Blk)) : xZj H vs (some (v',B')) = (xFB H vs B').map fun (vs',B2) => (v' :: vs',B2) := rfl
theorem xJx (H : Heap) (vs : List AV) : xEC H (.tup vs) = (xFB H vs []).map fun (vs',B) => (.tup vs',B) := rfl
theorem xJy (H : Heap) (cs : List AV) : xEC H (.agg cs) = xGB H (.agg cs) [] := rfl
theorem xJz (H : Heap) (z : Bool) (id off n es : Nat) : xEC H (.own z id off n es) = xF3 H (.own z id off n es) [] := rfl
theorem xLj (H : Heap) (z : Bool) (n : Nat) (cs : List AV) : xEC H (.sl z n cs) = some (.sl z n cs,[]) := rfl
theorem xOd {α : Type} (p : α → Bool) : ([] : List α).findIdx? p = none := rfl
theorem xLk {α : Type} (p : α → Bool) (a : α) (l : List α) : (a :: l).findIdx? p = if p a = true then some 0 else (l.findIdx? p).map (· + 1) := by
  rw [List.findIdx?_cons]
def xTn (R : Rec) (als : List (Nat × Nat)) (ls : List (Nat × Nat × Nat × Nat)) (m : Nat) (ops : List AOper) : Option (St × List Pr) → Option (AExit × St)
  | some (s,pl) => xFF ls (xBd R (ops.drop m) (xCn als pl s))
  | none => none
theorem xOe (als : List (Nat × Nat)) (ls : List (Nat × Nat × Nat × Nat)) (m : Nat) (ops : List AOper) : run R (.drawp als ls m ops) s = xTn R als ls m ops (xBo R (ops.take m) s) := by
  simp only [run,xTn]
  cases xBo R (ops.take m) s with
  | none => rfl
  | some r =>
    obtain ⟨s1,pl⟩ := r
    simp only [xFF]
    cases xBd R (ops.drop m) (xCn als pl s1) <;> rfl
theorem xJA (als : List (Nat × Nat)) (ls : List (Nat × Nat × Nat × Nat)) (m : Nat) (ops : List AOper) (s : St) (pl : List Pr) : xTn R als ls m ops (some (s,pl)) = xFF ls (xBd R (ops.drop m) (xCn als pl s)) := rfl
theorem xLl (pl : List Pr) (s : St) : xCn [] pl s = adoptL pl s := rfl
def alK (als : List (Nat × Nat)) : St → St
  | ⟨F,H⟩ => ⟨xC2 als F,H⟩
theorem xJB (p : Nat × Nat) (r : List (Nat × Nat)) (pl : List Pr) (s : St) : xCn (p :: r) pl s = alK (p :: r) (adoptL pl s) := rfl
theorem xV9 (als : List (Nat × Nat)) (F : List AV) (H : Heap) : alK als ⟨F,H⟩ = ⟨xC2 als F,H⟩ := rfl
theorem xLm (F : List AV) : xC2 [] F = F := rfl
theorem xJC (d q : Nat) (r : List (Nat × Nat)) (F : List AV) : xC2 ((d,q) :: r) F = xC2 r (F.set d (F.getD q .any)) := rfl
def xTo (e : Pr) : Option (St × List Pr) → Option (St × List Pr)
  | some (s,l) => some (s,e :: l)
  | none => none
theorem xLn (e : Pr) (s : St) (l : List Pr) : xTo e (some (s,l)) = some (s,e :: l) := rfl
def xTp (R : Rec) (rest : List AOper) (s : St) : Option Nat → Option (AV × List Blk) → Option (St × List Pr)
  | some t,some (v,B) => xTo (some (t,v,B)) (xBo R rest ⟨s.F.set t .any,s.H⟩)
  | _,_ => none
def xTq (R : Rec) (rest : List AOper) : Option St → Option (St × List Pr)
  | some s => xTo none (xBo R rest s)
  | none => none
theorem xJD : xBo R [] s = some (s,[]) := rfl
theorem xHP (o : AOper) (rest : List AOper) : xBo R (o :: rest) s = if xBi o.op = true then xTp R rest s o.dst (xED R s.F o.op) else xTq R rest (xBz R o s) := by
  simp only [xBo]
  split
  · cases o.dst with
    | none => rfl
    | some t => cases xED R s.F o.op with
      | none => rfl
      | some r =>
        obtain ⟨v,B⟩ := r
        simp only [xTp]
        cases xBo R rest ⟨s.F.set t .any,s.H⟩ <;> rfl
  · cases xBz R o s with
    | none => rfl
    | some s1 =>
      simp only [xTq]
      cases xBo R rest s1 <;> rfl
theorem xJE (rest : List AOper) (t : Nat) (v : AV) (B : List Blk) : xTp R rest s (some t) (some (v,B)) = xTo (some (t,v,B)) (xBo R rest ⟨s.F.set t .any,s.H⟩) := rfl
theorem xJF (rest : List AOper) (s : St) : xTq R rest (some s) = xTo none (xBo R rest s) := rfl
def xWY : Option (AV × Heap) → Option (AV × List Blk)
  | some (v,B) => if xG4 v = true ∧ xFC B = true then some (v,B) else none
  | none => none
theorem xQx (op : AOp) : xED R F op = if op.args.all (fun x => xDB (opv F x)) = true then xWY (xAa R F [] op) else none := by
  unfold xED xWY
  split
  · cases xAa R F [] op <;> rfl
  · rfl
theorem xLo (v : AV) (B : Heap) : xWY (some (v,B)) = if xG4 v = true ∧ xFC B = true then some (v,B) else none := rfl
theorem xHQ (f : Nat) (as : List Arg) : xBi (.ocall f as) = true := rfl
theorem xLp (x : Arg) : xBi (.box x) = true := rfl
theorem xJG (z : List AV) (b : Nat) (x y : Arg) : xBi (.mkslice false z b x y) = true := rfl
theorem xJH (z : List AV) (b : Nat) (x y : Arg) : xBi (.mkslice true z b x y) = false := rfl
theorem xJI (z : List AV) (es n : Nat) (ps : List (Nat × Arg)) : xBi (.bslice false z es n ps) = true := rfl
theorem xJJ (z : List AV) (es n : Nat) (ps : List (Nat × Arg)) : xBi (.bslice true z es n ps) = false := rfl
theorem xJK (es b : Nat) (x y : Arg) : xBi (.append false es b x y) = true := rfl
theorem xJL (es b : Nat) (x y : Arg) : xBi (.append true es b x y) = false := rfl
theorem xJM (z : List AV) (b : Nat) (x y : Arg) : xBi (.appendz z b x y) = true := rfl
theorem xLq (x : Arg) : xBi (.mov x) = false := rfl
theorem xJN (x y z : Arg) : xBi (.pick x y z) = false := rfl
theorem xHR (z : List AV) (ps : List (Nat × Nat × Arg)) : xBi (.build z ps) = false := rfl
theorem xJO (g : Bool) (n : Nat) (x : Arg) : xBi (.load g n x) = false := rfl
theorem xGS (x : Arg) : xBi (.nilchk x) = false := rfl
theorem xLr (op : BinOp) (x y : Arg) : xBi (.bin op x y) = false := rfl
theorem xLs (g : Bool) (x y : Arg) : xBi (.beq g x y) = false := rfl
theorem xHS (g : Bool) (x : Arg) : xBi (.isnil g x) = false := rfl
theorem xOf (op : UnOp) (x : Arg) : xBi (.un op x) = false := rfl
theorem xJP (k : IntKind) (x : Arg) : xBi (.conv k x) = false := rfl
theorem xGT (f : Nat) (as : List Arg) : xBi (.mkfunc f as) = false := rfl
theorem xHT (es : Nat) (x : Arg) (a b c : Option Arg) : xBi (.slice es x a b c) = false := rfl
theorem xHU (o : Nat) (x : Arg) : xBi (.faddr o x) = false := rfl
theorem xHV (g : Bool) (o n : Nat) (x : Arg) : xBi (.field g o n x) = false := rfl
theorem xHW (es : Nat) (x i : Arg) : xBi (.iaddr es x i) = false := rfl
theorem xLt (i : Nat) (x : Arg) : xBi (.ext i x) = false := rfl
theorem xLu (x : Arg) : xBi (.len x) = false := rfl
theorem xLv (x : Arg) : xBi (.cap x) = false := rfl
theorem xLw (g : Bool) (n : Nat) (x y : Arg) : xBi (.aeq g n x y) = false := rfl
theorem xJQ (f : Nat) (as : List Arg) : xBi (.call f as) = false := rfl
theorem xHX (f : Arg) (as : List Arg) : xBi (.fcall f as) = false := rfl
theorem xJR (x y : Arg) : xBi (.maxi x y) = false := rfl
theorem xJS (x y : Arg) : xBi (.mini x y) = false := rfl
theorem xJT : xFC [] = true := rfl
theorem xHY (z : Bool) (cs : List AV) (B : List Blk) : xFC (.cells false z cs :: B) = (cs.all xB3 && xFC B) := rfl
theorem xL8 {α : Type} {f : α → AV} (h : ∀ a,xB3 (f a) = true) (l : List α) : (l.map f).all xB3 = true := by
  simp [List.all_eq_true,h]
end
section
variable {R : Rec} {F : List AV} {H : Heap}
def xUW (es len : Nat) : Option (List AV) → AV → Option AV
  | some cs,.int _ i => if 0 ≤ i ∧ i.toNat < len then some (.vptr cs (i.toNat * es)) else none
  | _,_ => none
theorem xRn {es len : Nat} {cs : List AV} {k : IntKind} {i : Int} (h0 : 0 ≤ i) (h : i < len) : xUW es len (some cs) (.int k i) = some (.vptr cs (i.toNat * es)) := if_pos ⟨h0,by omega⟩
theorem xWZ (b es len : Nat) (i : Arg) : xAa R F H (.garr b es len i) = xEQ H (xUW es len (xIP b) (opv F i)) := by
  simp only [xAa]
  cases xIP b with
  | none => rfl
  | some cs => cases opv F i with
    | int k n =>
      by_cases h0 : 0 ≤ n
      · have e : xC7 (.int k n) = some n.toNat := by simp [xC7,h0]
        simp only [e,xUW,h0,true_and]
        by_cases c : n.toNat < len
        · rw [if_pos c,if_pos c]; rfl
        · rw [if_neg c,if_neg c]; rfl
      · have e : xC7 (.int k n) = none := by simp [xC7,h0]
        simp only [e,xUW,h0,false_and,if_false,xEQ]
    | _ => rfl
end
end Go.Abs
