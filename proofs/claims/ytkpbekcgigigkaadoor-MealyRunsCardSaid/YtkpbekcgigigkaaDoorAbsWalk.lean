/- The interpreter's equations in the form that simp walks by: one equation for each construct,told apart by what has been computed already. -/
import Derived.Test.YtkpbekcgigigkaaDoorAbsLim
namespace Go.Abs
set_option linter.unusedVariables false
set_option linter.unusedSimpArgs false
theorem xDQ : ∀ (scr : List Nat) (F : List AV) (i : Nat),(xAL scr F)[i]? = if i ∈ scr then (F[i]?).map (fun _ => AV.any) else F[i]?
  | [],F,i => by simp [xAL]
  | j :: scr,F,i => by
    have := xDQ scr (F.set j .any) i
    simp only [xAL,List.foldl_cons] at this ⊢
    rw [this]
    by_cases h : i = j
    · subst h
      simp only [List.getElem?_set_self',List.mem_cons,true_or,if_true]
      cases F[i]? <;> simp
    · have h' : ¬ j = i := fun e => h e.symm
      simp [List.getElem?_set,h,h']
theorem xOn (scr : List Nat) (F : List AV) : xAL scr (xAL scr F) = xAL scr F := by
  apply List.ext_getElem?
  intro i
  rw [xDQ,xDQ]
  split
  · cases F[i]? <;> rfl
  · rfl
section
variable {prog : Nat → Option AFunc}
theorem xSG (prog : Nat → Option AFunc) (n : Nat) : Tends (fix prog n) (fun _ => lim prog) :=
  ⟨fun f a v h => .all fun _ => xD5 ((xEl prog n).pcall f a v h),fun f a H v h => .all fun _ => xD5 ((xEl prog n).icall f a H v h),fun scr b s v h => .all fun _ => xD5 ((xEl prog n).loop scr b s v h)⟩
theorem Ev.const {p : Prop} (h : Ev fun _ => p) : p := let ⟨n,hn⟩ := h; hn n (Nat.le_refl n)
theorem xSH {α : Type} {a b : Option α} (h1 : ∀ v,a = some v → b = some v) (h2 : ∀ v,b = some v → a = some v) : a = b := by
  cases a with
  | some v => exact (h1 v rfl).symm
  | none =>
    cases b with
    | none => rfl
    | some v => exact h2 v rfl
theorem xAm {f : Nat} {fn : AFunc} (hf : prog f = some fn) (args : List AV) : (lim prog).pcall f args = xAR (lim prog) fn args := by
  refine xSH (fun v h => ?_) (fun v h => xLk hf h)
  obtain ⟨n,hn⟩ := xB0 (p := fun m => (fix prog m).pcall f args) h
  have h1 : (xCs prog (fix prog n)).pcall f args = some v := hn (n + 1) (by omega)
  have h2 := (xBk (xSG prog n) prog).pcall f args v h1 |>.const
  simp only [xCs,hf] at h2
  exact h2
theorem xFO (f : AV) (args : List AV) (H : Heap) : (lim prog).icall f args H = xCS prog (lim prog) f args H := by
  refine xSH (fun v h => ?_) (fun v h => xLl h)
  obtain ⟨n,hn⟩ := xB0 (p := fun m => (fix prog m).icall f args H) h
  have h1 : (xCs prog (fix prog n)).icall f args H = some v := hn (n + 1) (by omega)
  exact (xBk (xSG prog n) prog).icall f args H v h1 |>.const
theorem xEc (scr : List Nat) (b : ACode) (s : St) : (lim prog).loop scr b s = xGS (lim prog) scr b s := by
  refine xSH (fun v h => ?_) (fun v h => xOB h)
  obtain ⟨n,hn⟩ := xB0 (p := fun m => (fix prog m).loop scr b s) h
  have h1 : (xCs prog (fix prog n)).loop scr b s = some v := hn (n + 1) (by omega)
  exact (xBk (xSG prog n) prog).loop scr b s v h1 |>.const
theorem xAC {f : Nat} {fn : AFunc} (hf : prog f = some fn) (caps args : List AV) (H : Heap) : (lim prog).icall (.func f caps) args H = xBD (lim prog) fn (args ++ caps) H := by
  rw [xFO]
  simp only [xCS,hf]
theorem xDF (l : Nat) (args : List AV) (H : Heap) : (lim prog).icall (.yield l) args H = xEA (lim prog) l args H := by
  rw [xFO]
  rfl
theorem xD2 (scr : List Nat) (b : ACode) (F : List AV) (H : Heap) : (lim prog).loop scr b ⟨F,H⟩ = (lim prog).loop scr b ⟨xAL scr F,H⟩ := by
  rw [xEc,xEc]
  unfold xGS
  simp only [xOn]
def xBH (R : Rec) (scr : List Nat) (b : ACode) : Option (AExit × St) → Option (AExit × St)
  | some (.normal,s) => R.loop scr b ⟨xAL scr s.F,s.H⟩
  | some (e,s) => some (e,⟨xAL scr s.F,s.H⟩)
  | none => none
theorem xAo (scr : List Nat) (b : ACode) (F : List AV) (H : Heap) (h : xAL scr F = F) : (lim prog).loop scr b ⟨F,H⟩ = xBH (lim prog) scr b (run (lim prog) b ⟨F,H⟩) := by
  rw [xEc]
  unfold xGS xBH
  simp only [h]
  split
  · rename_i s' hs
    rw [hs]
    exact xD2 scr b s'.F s'.H
  · rename_i e s' hne hs
    rw [hs]
    cases e with
    | normal => exact (hne rfl).elim
    | exit i => rfl
    | ret => rfl
  · rename_i hs
    rw [hs]
theorem xO8 (scr : List Nat) (b : ACode) (F : List AV) (H : Heap) : run (lim prog) (.loop scr b) ⟨F,H⟩ = (lim prog).loop scr b ⟨xAL scr F,H⟩ := xD2 scr b F H
end
section
variable {R : Rec} {F : List AV} {H : Heap} {s : St}
def xVC (R : Rec) (b : ACode) : Option (AExit × St) → Option (AExit × St)
  | some (.normal,s) => run R b s
  | r => r
theorem xSI (a b : ACode) : run R (.seq a b) s = xVC R b (run R a s) := by
  simp only [run,xVC]
  split <;> simp_all
theorem xG5 (b : ACode) (s : St) : xVC R b (some (.normal,s)) = run R b s := rfl
theorem xMr (b : ACode) (i : Nat) (s : St) : xVC R b (some (.exit i,s)) = some (.exit i,s) := rfl
theorem xO9 (b : ACode) (s : St) : xVC R b (some (.ret,s)) = some (.ret,s) := rfl
theorem xMs (b : ACode) : xVC R b none = none := rfl
theorem xPa (b : ACode) {c : Prop} [Decidable c] (x y : Option (AExit × St)) : xVC R b (if c then x else y) = if c then xVC R b x else xVC R b y := by split <;> rfl
def xXX (R : Rec) (a b : ACode) (s : St) : AV → Option (AExit × St)
  | .bool t => if t = true then run R a s else run R b s
  | _ => none
theorem xPb (c : Arg) (a b : ACode) (F : List AV) (H : Heap) : run R (.cond c a b) ⟨F,H⟩ = xXX R a b ⟨F,H⟩ (opv F c) := by
  simp only [run,xXX]
  split <;> simp_all
theorem xI9 (a b : ACode) (t : Bool) : xXX R a b s (.bool t) = if t = true then run R a s else run R b s := rfl
def xEM (id : Nat) : Option (AExit × St) → Option (AExit × St)
  | some (.exit i,s) => if i = id then some (.normal,s) else some (.exit i,s)
  | r => r
theorem xMt (id : Nat) (b : ACode) : run R (.block id b) s = xEM id (run R b s) := by
  simp only [run,xEM]
  split <;> simp_all
theorem xG6 (id i : Nat) (s : St) : xEM id (some (.exit i,s)) = if i = id then some (.normal,s) else some (.exit i,s) := rfl
theorem xEN (id : Nat) (s : St) : xEM id (some (.normal,s)) = some (.normal,s) := rfl
theorem xJa (id : Nat) (s : St) : xEM id (some (.ret,s)) = some (.ret,s) := rfl
theorem xG7 (id : Nat) : xEM id none = none := rfl
theorem xJb (id : Nat) {c : Prop} [Decidable c] (x y : Option (AExit × St)) : xEM id (if c then x else y) = if c then xEM id x else xEM id y := by split <;> rfl
theorem xFP (scr : List Nat) (b : ACode) (F : List AV) (H : Heap) : xBH R scr b (some (.normal,⟨F,H⟩)) = R.loop scr b ⟨xAL scr F,H⟩ := rfl
theorem xJc (scr : List Nat) (b : ACode) (i : Nat) (F : List AV) (H : Heap) : xBH R scr b (some (.exit i,⟨F,H⟩)) = some (.exit i,⟨xAL scr F,H⟩) := rfl
theorem xMu (scr : List Nat) (b : ACode) (F : List AV) (H : Heap) : xBH R scr b (some (.ret,⟨F,H⟩)) = some (.ret,⟨xAL scr F,H⟩) := rfl
theorem xMv (scr : List Nat) (b : ACode) {c : Prop} [Decidable c] (x y : Option (AExit × St)) : xBH R scr b (if c then x else y) = if c then xBH R scr b x else xBH R scr b y := by split <;> rfl
def xUN : Option St → Option (AExit × St)
  | some s => some (.normal,s)
  | none => none
theorem xMw (s : St) : xUN (some s) = some (.normal,s) := rfl
theorem xMx : xUN none = none := rfl
theorem xPc {c : Prop} [Decidable c] (x y : Option St) : xUN (if c then x else y) = if c then xUN x else xUN y := by split <;> rfl
theorem xJd (ops : List AOper) : run R (.region ops) s = xUN (xAy R ops s) := by
  simp only [run,xUN]
  cases xAy R ops s <;> rfl
theorem xPd : run R .skip s = some (.normal,s) := rfl
theorem xMy : run R .label s = some (.normal,s) := rfl
theorem xPe (i : Nat) : run R (.exit i) s = some (.exit i,s) := rfl
theorem xSJ : run R .ret s = some (.ret,s) := rfl
theorem xMz (b : ACode) : run R (.scope b) s = run R b s := rfl
theorem xMA : run R .stuck s = none := rfl
def xXY (R : Rec) (rest : List AOper) : Option St → Option St
  | some s => xAy R rest s
  | none => none
theorem xJe : xAy R [] s = some s := rfl
theorem xG8 (o : AOper) (rest : List AOper) : xAy R (o :: rest) s = xXY R rest (xAO R o s) := by
  simp only [xAy,xXY]
  cases xAO R o s <;> rfl
theorem xMB (rest : List AOper) (s : St) : xXY R rest (some s) = xAy R rest s := rfl
theorem xMC (rest : List AOper) : xXY R rest none = none := rfl
theorem xPf (rest : List AOper) {c : Prop} [Decidable c] (x y : Option St) : xXY R rest (if c then x else y) = if c then xXY R rest x else xXY R rest y := by split <;> rfl
def xSK (F : List AV) (d : Option Nat) : Option (AV × Heap) → Option St
  | some (v,H) => some ⟨putA F d v,H⟩
  | none => none
theorem xSL (d : Nat) (v : AV) : xSK F (some d) (some (v,H)) = some ⟨F.set d v,H⟩ := rfl
theorem xSM (v : AV) : xSK F none (some (v,H)) = some ⟨F,H⟩ := rfl
theorem xMD (d : Option Nat) : xSK F d none = none := rfl
theorem xPg (d : Option Nat) {c : Prop} [Decidable c] (x y : Option (AV × Heap)) : xSK F d (if c then x else y) = if c then xSK F d x else xSK F d y := by split <;> rfl
theorem xME (d : Option Nat) (op : AOp) : xAO R ⟨d,op,none⟩ ⟨F,H⟩ = xSK F d (xAa R F H op) := by
  simp only [xAO,xBP,xSK]
  cases xAa R F H op <;> rfl
def xPh (R : Rec) (d : Option Nat) (op : AOp) (w : Bool) (F : List AV) (H : Heap) : AV → Option St
  | .bool b => if b = w then xSK F d (xAa R F H op) else some ⟨putA F d (.tup []),H⟩
  | .any => none
  | _ => some ⟨putA F d (.tup []),H⟩
theorem xJf (d : Option Nat) (op : AOp) (t : Nat) (w : Bool) : xAO R ⟨d,op,some (t,w)⟩ ⟨F,H⟩ = xPh R d op w F H (F.getD t .any) := by
  simp only [xAO,xBP,xPh]
  cases F.getD t .any with
  | bool b =>
    cases b <;> cases w <;> simp [xSK] <;> cases xAa R F H op <;> rfl
  | _ => rfl
theorem xG9 (d : Option Nat) (op : AOp) (w b : Bool) : xPh R d op w F H (.bool b) = if b = w then xSK F d (xAa R F H op) else some ⟨putA F d (.tup []),H⟩ := rfl
theorem xJg (d : Option Nat) (op : AOp) (w : Bool) (vs : List AV) : xPh R d op w F H (.tup vs) = some ⟨putA F d (.tup []),H⟩ := rfl
theorem xSN (d : Nat) (v : AV) : putA F (some d) v = F.set d v := rfl
theorem xSO (v : AV) : putA F none v = F := rfl
def xOo (R : Rec) (m : Nat) (ops : List AOper) : Option St → Option (AExit × St)
  | some s => xUN (xAy R (ops.drop m) (adopt (ops.take m) s))
  | none => none
theorem xPi (m : Nat) (ops : List AOper) : run R (.draw m ops) s = xOo R m ops (xA3 R (ops.take m) s) := by
  simp only [run,xOo]
  cases xA3 R (ops.take m) s with
  | none => rfl
  | some s1 =>
    simp only [xUN]
    cases xAy R (ops.drop m) (adopt (ops.take m) s1) <;> rfl
theorem xJh (m : Nat) (ops : List AOper) (s : St) : xOo R m ops (some s) = xUN (xAy R (ops.drop m) (adopt (ops.take m) s)) := rfl
theorem xJi (m : Nat) (ops : List AOper) : xOo R m ops none = none := rfl
theorem xMF (m : Nat) (ops : List AOper) {c : Prop} [Decidable c] (x y : Option St) : xOo R m ops (if c then x else y) = if c then xOo R m ops x else xOo R m ops y := by split <;> rfl
def xDG (ls : List (Nat × Nat × Nat × Nat)) : Option St → Option (AExit × St)
  | some s => if ls.all (apart s.F) = true then some (.normal,s) else none
  | none => none
def xHa (R : Rec) (ls : List (Nat × Nat × Nat × Nat)) (m : Nat) (ops : List AOper) : Option St → Option (AExit × St)
  | some s => xDG ls (xAy R (ops.drop m) (adopt (ops.take m) s))
  | none => none
theorem xMG (ls : List (Nat × Nat × Nat × Nat)) (m : Nat) (ops : List AOper) : run R (.drawl ls m ops) s = xHa R ls m ops (xA3 R (ops.take m) s) := by
  simp only [run,xHa]
  cases xA3 R (ops.take m) s with
  | none => rfl
  | some s1 =>
    simp only [xDG]
    cases xAy R (ops.drop m) (adopt (ops.take m) s1) <;> rfl
theorem xHb (ls : List (Nat × Nat × Nat × Nat)) (m : Nat) (ops : List AOper) (s : St) : xHa R ls m ops (some s) = xDG ls (xAy R (ops.drop m) (adopt (ops.take m) s)) := rfl
theorem xHc (ls : List (Nat × Nat × Nat × Nat)) (m : Nat) (ops : List AOper) : xHa R ls m ops none = none := rfl
theorem xJj (ls : List (Nat × Nat × Nat × Nat)) (m : Nat) (ops : List AOper) {c : Prop} [Decidable c] (x y : Option St) : xHa R ls m ops (if c then x else y) = if c then xHa R ls m ops x else xHa R ls m ops y := by split <;> rfl
theorem xHd (ls : List (Nat × Nat × Nat × Nat)) (s : St) : xDG ls (some s) = if ls.all (apart s.F) = true then some (.normal,s) else none := rfl
theorem xHe (ls : List (Nat × Nat × Nat × Nat)) : xDG ls none = none := rfl
theorem xJk (ls : List (Nat × Nat × Nat × Nat)) {c : Prop} [Decidable c] (x y : Option St) : xDG ls (if c then x else y) = if c then xDG ls x else xDG ls y := by split <;> rfl
def xOp (R : Rec) (rest : List AOper) : Option St → Option St
  | some s => xA3 R rest s
  | none => none
theorem xHf : xA3 R [] s = some s := rfl
theorem xFQ (o : AOper) (rest : List AOper) : xA3 R (o :: rest) s = xOp R rest (xAM R o s) := by
  simp only [xA3,xOp]
  cases xAM R o s <;> rfl
theorem xJl (rest : List AOper) (s : St) : xOp R rest (some s) = xA3 R rest s := rfl
theorem xJm (rest : List AOper) : xOp R rest none = none := rfl
theorem xMH (rest : List AOper) {c : Prop} [Decidable c] (x y : Option St) : xOp R rest (if c then x else y) = if c then xOp R rest x else xOp R rest y := by split <;> rfl
def xHg (F : List AV) (d : Option Nat) (H : Heap) : Option (AV × Heap) → Option St
  | some (v,_) => some ⟨putA F d v,H⟩
  | none => none
theorem xPj (d : Nat) (v : AV) (H' : Heap) : xHg F (some d) H (some (v,H')) = some ⟨F.set d v,H⟩ := rfl
theorem xPk (v : AV) (H' : Heap) : xHg F none H (some (v,H')) = some ⟨F,H⟩ := rfl
theorem xJn (d : Option Nat) : xHg F d H none = none := rfl
theorem xMI (d : Option Nat) {c : Prop} [Decidable c] (x y : Option (AV × Heap)) : xHg F d H (if c then x else y) = if c then xHg F d H x else xHg F d H y := by split <;> rfl
def xAS (R : Rec) (F : List AV) (H : Heap) (op : AOp) : Option (AV × Heap) := (xAv R F H op).map fun v => (v,H)
theorem xJo (d : Option Nat) (op : AOp) : xAM R ⟨d,op,none⟩ ⟨F,H⟩ = xHg F d H (xAS R F H op) := by
  simp only [xAM,xBP,xHg,xAS]
  cases xAv R F H op <;> rfl
def xKP (R : Rec) (d : Option Nat) (op : AOp) (w : Bool) (F : List AV) (H : Heap) : AV → Option St
  | .bool b => if b = w then xHg F d H (xAS R F H op) else some ⟨putA F d (.tup []),H⟩
  | .any => none
  | _ => some ⟨putA F d (.tup []),H⟩
theorem xHh (d : Option Nat) (op : AOp) (t : Nat) (w : Bool) : xAM R ⟨d,op,some (t,w)⟩ ⟨F,H⟩ = xKP R d op w F H (F.getD t .any) := by
  simp only [xAM,xBP,xKP]
  cases F.getD t .any with
  | bool b =>
    cases b <;> cases w <;> simp [xHg,xAS] <;> cases xAv R F H op <;> rfl
  | _ => rfl
theorem xFR (d : Option Nat) (op : AOp) (w b : Bool) : xKP R d op w F H (.bool b) = if b = w then xHg F d H (xAS R F H op) else some ⟨putA F d (.tup []),H⟩ := rfl
theorem xHi (d : Option Nat) (op : AOp) (w : Bool) (vs : List AV) : xKP R d op w F H (.tup vs) = some ⟨putA F d (.tup []),H⟩ := rfl
def xC8 (H : Heap) : Option AV → Option (AV × Heap)
  | some v => some (v,H)
  | none => none
theorem xMJ (v : AV) : xC8 H (some v) = some (v,H) := rfl
theorem xMK : xC8 H none = none := rfl
theorem xPl {c : Prop} [Decidable c] (x y : Option AV) : xC8 H (if c then x else y) = if c then xC8 H x else xC8 H y := by split <;> rfl
theorem xWC (x : Arg) : xAa R F H (.mov x) = some (opv F x,H) := rfl
def xXZ : AV → AV → AV → Option AV
  | .bool t,a,b => some (if t = true then a else b)
  | _,_,_ => none
theorem xJp (t : Bool) (a b : AV) : xXZ (.bool t) a b = some (if t = true then a else b) := rfl
theorem xSP (c a b : Arg) : xAa R F H (.pick c a b) = xC8 H (xXZ (opv F c) (opv F a) (opv F b)) := by
  simp only [xAa,xXZ,xC8]
  split <;> simp_all
theorem xWD (x : Arg) : xAa R F H (.box x) = if (opv F x).cells.all AV.isCell = true then some (.ptr H.length 0,H ++ [.cells false false (opv F x).cells]) else none := rfl
theorem xPm (z : List AV) (parts : List (Nat × Nat × Arg)) : xAa R F H (.build z parts) =
    if parts.all (fun p => (opv F p.2.2).cells.length == p.2.1) = true then xC8 H ((fillA z (parts.map fun p => (p.1,(opv F p.2.2).cells))).map AV.agg) else none := by
  simp only [xAa,xC8]
  split
  · cases fillA z (parts.map fun p => (p.1,(opv F p.2.2).cells)) <;> rfl
  · rfl
def yBb (fz z : Bool) (n es : Nat) (H : Heap) : Option (List AV) → Option (AV × Heap)
  | some cs => xDb fz z n es cs H
  | none => none
theorem xML (fz z : Bool) (n es : Nat) (cs : List AV) : yBb fz z n es H (some cs) = xDb fz z n es cs H := rfl
theorem xPn (z : Bool) (n es : Nat) (cs : List AV) : xDb false z n es cs H = some (.own z H.length 0 n es,H ++ [.cells false z cs]) := rfl
def slK (z : Bool) (n : Nat) : Option (List AV) → Option AV
  | some cs => some (.sl z n cs)
  | none => none
theorem xPo (z : Bool) (n : Nat) (cs : List AV) : slK z n (some cs) = some (.sl z n cs) := rfl
theorem xMM (z : Bool) (n es : Nat) (cs : List AV) : xDb true z n es cs H = if (cs.flatMap (bor frzN H)).isEmpty = true then xC8 H (slK z n (cs.mapM (frz frzN H))) else none := by
  simp only [xDb,xC8,slK]
  split
  · rename_i h
    cases cs.mapM (frz frzN H) <;> simp_all
  · simp_all
theorem xMN (fz : Bool) (z : List AV) (es n : Nat) (parts : List (Nat × Arg)) : xAa R F H (.bslice fz z es n parts) =
    if parts.all (fun p => (opv F p.2).cells.length == es) = true then yBb fz false n es H (fillA (xCE z n) (parts.map fun p => (p.1 * es,(opv F p.2).cells))) else none := by
  simp only [xAa,yBb]
  split
  · cases fillA (xCE z n) (parts.map fun p => (p.1 * es,(opv F p.2).cells)) <;> rfl
  · rfl
def xVD (g : Bool) : Option (List AV) → Option AV
  | some cs => mkv g cs
  | none => none
theorem xSQ (v : AV) : xVD false (some [v]) = some v := rfl
theorem xSR (cs : List AV) : xVD true (some cs) = some (.agg cs) := rfl
theorem xSS (g : Bool) (n : Nat) (p : Arg) : xAa R F H (.load g n p) = xC8 H (xVD g (rd H (opv F p) n)) := by
  simp only [xAa,xC8,xVD]
  cases rd H (opv F p) n with
  | none => rfl
  | some cs => simp only; cases mkv g cs <;> rfl
def rdK (off n : Nat) : Option Blk → Option (List AV)
  | some (.cells _ _ cs) => if off + n ≤ cs.length then some ((cs.drop off).take n) else none
  | _ => none
theorem xWE (id off n : Nat) : rd H (.ptr id off) n = rdK off n H[id]? := by
  simp only [rd,rdK]
  rfl
theorem xMO {off n : Nat} {fz z : Bool} {cs : List AV} (h : off + n ≤ cs.length) : rdK off n (some (.cells fz z cs)) = some ((cs.drop off).take n) := if_pos h
theorem xST {off n : Nat} {cs : List AV} (h : off + n ≤ cs.length) : rd H (.vptr cs off) n = some ((cs.drop off).take n) := if_pos h
def wrK (H : Heap) (id off : Nat) (vs : List AV) : Option Blk → Option Heap
  | some (.cells false z cs) => if off + vs.length ≤ cs.length ∧ vs.all AV.isCell = true then some (H.set id (.cells false z (splice cs off vs))) else none
  | _ => none
theorem xWF (id off : Nat) (vs : List AV) : wr H (.ptr id off) vs = wrK H id off vs H[id]? := by
  simp only [wr,wrK]
  rfl
theorem xMP {id off : Nat} {vs : List AV} {z : Bool} {cs : List AV} (h : off + vs.length ≤ cs.length) (h2 : vs.all AV.isCell = true) : wrK H id off vs (some (.cells false z cs)) = some (H.set id (.cells false z (splice cs off vs))) := if_pos ⟨h,h2⟩
def xSU : Option Heap → Option (AV × Heap)
  | some H => some (.tup [],H)
  | none => none
theorem xHj (H : Heap) : xSU (some H) = some (.tup [],H) := rfl
theorem xPp (n : Nat) (p v : Arg) : xAa R F H (.store n p v) = if (opv F v).cells.length = n then xSU (wr H (opv F p) (opv F v).cells) else none := by
  simp only [xAa,xSU]
  split
  · cases wr H (opv F p) (opv F v).cells <;> rfl
  · rfl
def xZT : AV → Option AV
  | .ptr id off => some (.ptr id off)
  | .vptr cs off => some (.vptr cs off)
  | .func f caps => some (.func f caps)
  | .yield l => some (.yield l)
  | _ => none
theorem xPq (id off : Nat) : xZT (.ptr id off) = some (.ptr id off) := rfl
theorem xMQ (cs : List AV) (off : Nat) : xZT (.vptr cs off) = some (.vptr cs off) := rfl
theorem xMR (f : Nat) (cs : List AV) : xZT (.func f cs) = some (.func f cs) := rfl
theorem xJq (l : Nat) : xZT (.yield l) = some (.yield l) := rfl
theorem xMS (x : Arg) : xAa R F H (.nilchk x) = xC8 H (xZT (opv F x)) := by
  simp only [xAa]
  cases opv F x <;> rfl
theorem xWG (op : BinOp) (x y : Arg) : xAa R F H (.bin op x y) = xC8 H (xC7 op (opv F x) (opv F y)) := by
  simp only [xAa,xC8]
  cases xC7 op (opv F x) (opv F y) <;> rfl
section
variable (k : IntKind) (a b : Int)
theorem xSV : xC7 .add (.int k a) (.int k b) = some (.int k (k.wrap (a + b))) := by simp [xC7]
theorem xSW : xC7 .sub (.int k a) (.int k b) = some (.int k (k.wrap (a - b))) := by simp [xC7]
theorem xSX : xC7 .mul (.int k a) (.int k b) = some (.int k (k.wrap (a * b))) := by simp [xC7]
theorem xSY (h : b ≠ 0) : xC7 .quo (.int k a) (.int k b) = some (.int k (k.wrap (a.tdiv b))) := by simp [xC7,h]
theorem xSZ (h : b ≠ 0) : xC7 .rem (.int k a) (.int k b) = some (.int k (a.tmod b)) := by simp [xC7,h]
theorem xS0 : xC7 .and (.int k a) (.int k b) = some (.int k (xEx .and k a b)) := by simp [xC7]
theorem xWH : xC7 .or (.int k a) (.int k b) = some (.int k (xEx .or k a b)) := by simp [xC7]
theorem xS1 : xC7 .xor (.int k a) (.int k b) = some (.int k (xEx .xor k a b)) := by simp [xC7]
theorem xJr : xC7 .andNot (.int k a) (.int k b) = some (.int k (xEx .andNot k a b)) := by simp [xC7]
theorem xS2 (k' : IntKind) (h : 0 ≤ b) : xC7 .shl (.int k a) (.int k' b) = some (.int k (k.wrap (a * 2 ^ (min b.toNat k.bits)))) := by simp only [xC7]; rw [if_neg (by omega)]
theorem xS3 (k' : IntKind) (h : 0 ≤ b) : xC7 .shr (.int k a) (.int k' b) = some (.int k (a.fdiv (2 ^ (min b.toNat k.bits)))) := by simp only [xC7]; rw [if_neg (by omega)]
theorem xS4 : xC7 .eql (.int k a) (.int k b) = some (.bool (decide (a = b))) := by simp [xC7]; rfl
theorem xS5 : xC7 .neq (.int k a) (.int k b) = some (.bool (!decide (a = b))) := by simp [xC7]; rfl
theorem xS6 : xC7 .lss (.int k a) (.int k b) = some (.bool (decide (a < b))) := by simp [xC7]
theorem xS7 : xC7 .leq (.int k a) (.int k b) = some (.bool (decide (a ≤ b))) := by simp [xC7]
theorem xS8 : xC7 .gtr (.int k a) (.int k b) = some (.bool (decide (b < a))) := by simp [xC7]
theorem xS9 : xC7 .geq (.int k a) (.int k b) = some (.bool (decide (b ≤ a))) := by simp [xC7]
end
def yBc (neg : Bool) : AV → AV → Option AV
  | .bool a,.bool b => some (.bool (if neg = true then a != b else a == b))
  | _,_ => none
theorem xWI (a b : Bool) : yBc false (.bool a) (.bool b) = some (.bool (decide (a = b))) := by cases a <;> cases b <;> rfl
theorem xWJ (a b : Bool) : yBc true (.bool a) (.bool b) = some (.bool (!decide (a = b))) := by cases a <;> cases b <;> rfl
theorem xWK (neg : Bool) (x y : Arg) : xAa R F H (.beq neg x y) = xC8 H (yBc neg (opv F x) (opv F y)) := by
  simp only [xAa]
  cases opv F x <;> cases opv F y <;> rfl
def xMT (neg : Bool) : AV → Option AV
  | .sl z _ _ => some (.bool (z != neg))
  | .own z _ _ _ _ => some (.bool (z != neg))
  | _ => none
theorem xJs (z : Bool) (n : Nat) (cs : List AV) : xMT false (.sl z n cs) = some (.bool z) := by cases z <;> rfl
theorem xJt (z : Bool) (n : Nat) (cs : List AV) : xMT true (.sl z n cs) = some (.bool (!z)) := by cases z <;> rfl
theorem xHk (z : Bool) (id off n es : Nat) : xMT false (.own z id off n es) = some (.bool z) := by cases z <;> rfl
theorem xHl (z : Bool) (id off n es : Nat) : xMT true (.own z id off n es) = some (.bool (!z)) := by cases z <;> rfl
theorem xPr (neg : Bool) (x : Arg) : xAa R F H (.isnil neg x) = xC8 H (xMT neg (opv F x)) := by
  simp only [xAa]
  cases opv F x <;> rfl
theorem xZU (op : UnOp) (x : Arg) : xAa R F H (.un op x) = xC8 H (unA op (opv F x)) := by
  simp only [xAa,xC8]
  cases unA op (opv F x) <;> rfl
theorem xWL (b : Bool) : unA .not (.bool b) = some (.bool !b) := rfl
theorem xWM (k : IntKind) (n : Int) : unA .neg (.int k n) = some (.int k (k.wrap (0 - n))) := rfl
theorem xWN (k : IntKind) (n : Int) : unA .xor (.int k n) = some (.int k (xEx .xor k (if k.signed then -1 else k.max) n)) := rfl
def xZV (k : IntKind) : AV → Option AV
  | .int _ n => some (.int k (k.wrap n))
  | _ => none
theorem xMU (k k' : IntKind) (n : Int) : xZV k (.int k' n) = some (.int k (k.wrap n)) := rfl
theorem xTa (k : IntKind) (x : Arg) : xAa R F H (.conv k x) = xC8 H (xZV k (opv F x)) := by
  simp only [xAa]
  cases opv F x <;> rfl
theorem xMV (f : Nat) (caps : List Arg) : xAa R F H (.mkfunc f caps) = some (.func f (caps.map (opv F)),H) := rfl
def yB5 (fz : Bool) (z : List AV) (bytes : Nat) (H : Heap) : AV → AV → Option (AV × Heap)
  | .int _ l,.int _ c => if 0 ≤ l ∧ l ≤ c ∧ c * bytes ≤ xBb ∧ c ≤ xBb ∧ z.all AV.isCell = true then xDb fz false l.toNat z.length (xCE z l.toNat) H else none
  | _,_ => none
theorem xPs (fz : Bool) (z : List AV) (bytes : Nat) (k k' : IntKind) {l c : Int} (h1 : 0 ≤ l) (h2 : l ≤ c) (h3 : c * bytes ≤ 140737488355328) (h4 : c ≤ 140737488355328) (h5 : z.all AV.isCell = true) : yB5 fz z bytes H (.int k l) (.int k' c) = xDb fz false l.toNat z.length (xCE z l.toNat) H := if_pos ⟨h1,h2,h3,h4,h5⟩
theorem xJu (fz : Bool) (z : List AV) (bytes : Nat) (l c : Arg) : xAa R F H (.mkslice fz z bytes l c) = yB5 fz z bytes H (opv F l) (opv F c) := by
  simp only [xAa]
  cases opv F l <;> cases opv F c <;> rfl
def xX0 (es : Nat) (H : Heap) (x : AV) : Option (Nat × Nat) → Option AV
  | none => none
  | some (l,h) => match x with
    | .sl z _ cs => some (.sl z (h - l) ((cs.drop (l * es)).take ((h - l) * es)))
    | .own z id off _ _ => some (.own z id (off + l * es) (h - l) es)
    | _ => none
def xPt (es : Nat) (H : Heap) (lo hi mx : Option AV) : AV → Option AV
  | .sl z n cs => if cs.length = n * es then xX0 es H (.sl z n cs) (xBi n lo hi mx) else none
  | .own z id off n es' => if es' = es then xX0 es H (.own z id off n es') (xBi n lo hi mx) else none
  | _ => none
theorem xPu (es : Nat) (x : Arg) (lo hi mx : Option Arg) : xAa R F H (.slice es x lo hi mx) = xC8 H (xPt es H (lo.map (opv F)) (hi.map (opv F)) (mx.map (opv F)) (opv F x)) := by
  simp only [xAa,xC8,xPt,xX0]
  cases opv F x with
  | sl z n cs =>
    simp only
    split
    · cases xBi n (lo.map (opv F)) (hi.map (opv F)) (mx.map (opv F)) <;> rfl
    · rfl
  | own z id off n es' =>
    simp only
    split
    · cases xBi n (lo.map (opv F)) (hi.map (opv F)) (mx.map (opv F)) <;> rfl
    · rfl
  | _ => rfl
theorem xMW {es n : Nat} {z : Bool} {cs : List AV} (lo hi mx : Option AV) (h : cs.length = n * es) : xPt es H lo hi mx (.sl z n cs) = xX0 es H (.sl z n cs) (xBi n lo hi mx) := if_pos h
theorem xJv {es n id off : Nat} {z : Bool} (lo hi mx : Option AV) : xPt es H lo hi mx (.own z id off n es) = xX0 es H (.own z id off n es) (xBi n lo hi mx) := if_pos rfl
theorem xTb (es : Nat) (z : Bool) (n : Nat) (cs : List AV) (l h : Nat) : xX0 es H (.sl z n cs) (some (l,h)) = some (.sl z (h - l) ((cs.drop (l * es)).take ((h - l) * es))) := rfl
theorem xPv (es : Nat) (z : Bool) (id off n es' : Nat) (l h : Nat) : xX0 es H (.own z id off n es') (some (l,h)) = some (.own z id (off + l * es) (h - l) es) := rfl
theorem xMX (n : Nat) : xBi n none none none = some (0,n) := by simp [xBi]
theorem xMY {n : Nat} {k : IntKind} {l : Int} (h0 : 0 ≤ l) (h : l ≤ n) : xBi n (some (.int k l)) none none = some (l.toNat,n) := by
  simp only [xBi,xBZ,if_pos h0]
  rw [if_pos ⟨by omega,by omega⟩]
theorem xMZ {n : Nat} {k : IntKind} {m : Int} (h0 : 0 ≤ m) (h : m ≤ n) : xBi n none (some (.int k m)) none = some (0,m.toNat) := by
  simp only [xBi,xBZ,if_pos h0]
  rw [if_pos ⟨by omega,by omega⟩]
theorem xM0 {n : Nat} {k k' : IntKind} {l m : Int} (h0 : 0 ≤ l) (h1 : l ≤ m) (h : m ≤ n) : xBi n (some (.int k l)) (some (.int k' m)) none = some (l.toNat,m.toNat) := by
  have h2 : 0 ≤ m := by omega
  simp only [xBi,xBZ,if_pos h0,if_pos h2]
  rw [if_pos ⟨by omega,by omega⟩]
def xTc (o : Nat) : AV → Option AV
  | .ptr id off => some (.ptr id (off + o))
  | .vptr cs off => some (.vptr cs (off + o))
  | _ => none
theorem xJw (o id off : Nat) : xTc o (.ptr id off) = some (.ptr id (off + o)) := rfl
theorem xHm (o : Nat) (cs : List AV) (off : Nat) : xTc o (.vptr cs off) = some (.vptr cs (off + o)) := rfl
theorem xPw (o : Nat) (x : Arg) : xAa R F H (.faddr o x) = xC8 H (xTc o (opv F x)) := by
  simp only [xAa]
  cases opv F x <;> rfl
def xTd (g : Bool) (off n : Nat) : AV → Option AV
  | .agg cs => if off + n ≤ cs.length then mkv g ((cs.drop off).take n) else none
  | _ => none
theorem xJx {g : Bool} {off n : Nat} {cs : List AV} (h : off + n ≤ cs.length) : xTd g off n (.agg cs) = mkv g ((cs.drop off).take n) := if_pos h
theorem xZW (v : AV) : mkv false [v] = some v := rfl
theorem xZX (cs : List AV) : mkv true cs = some (.agg cs) := rfl
theorem xPx (g : Bool) (off n : Nat) (x : Arg) : xAa R F H (.field g off n x) = xC8 H (xTd g off n (opv F x)) := by
  simp only [xAa]
  cases opv F x with
  | agg cs =>
    simp only [xTd,xC8]
    split
    · cases mkv g ((cs.drop off).take n) <;> rfl
    · rfl
  | _ => rfl
def xJy (es : Nat) : AV → AV → Option AV
  | .sl _ n cs,.int _ i => if 0 ≤ i ∧ i.toNat < n then some (.vptr cs (i.toNat * es)) else none
  | .own _ id off n es',.int _ i => if 0 ≤ i ∧ i.toNat < n ∧ es' = es then some (.ptr id (off + i.toNat * es)) else none
  | _,_ => none
theorem xM1 {es n : Nat} {z : Bool} {cs : List AV} {k : IntKind} {i : Int} (h0 : 0 ≤ i) (h : i < n) : xJy es (.sl z n cs) (.int k i) = some (.vptr cs (i.toNat * es)) := if_pos ⟨h0,by omega⟩
theorem xJz {es n id off : Nat} {z : Bool} {k : IntKind} {i : Int} (h0 : 0 ≤ i) (h : i < n) : xJy es (.own z id off n es) (.int k i) = some (.ptr id (off + i.toNat * es)) := if_pos ⟨h0,by omega,rfl⟩
theorem xPy (es : Nat) (x i : Arg) : xAa R F H (.iaddr es x i) = xC8 H (xJy es (opv F x) (opv F i)) := by
  simp only [xAa]
  cases opv F x with
  | sl z n cs =>
    cases opv F i with
    | int k j =>
      simp only [xBZ,xJy,xC8]
      by_cases h : 0 ≤ j
      · by_cases h2 : j.toNat < n <;> simp [h,h2]
      · simp [h]
    | _ => rfl
  | own z id off n es' =>
    cases opv F i with
    | int k j =>
      simp only [xBZ,xJy,xC8]
      by_cases h : 0 ≤ j
      · by_cases h2 : j.toNat < n
        · by_cases h3 : es' = es <;> simp [h,h2,h3]
        · simp [h,h2]
      · simp [h]
    | _ => rfl
  | _ => cases opv F i <;> simp [xJy,xC8,xBZ] <;> split <;> simp_all
def yBd (i : Nat) : AV → Option AV
  | .tup vs => vs[i]?
  | _ => none
theorem xPz (i : Nat) (vs : List AV) : yBd i (.tup vs) = vs[i]? := rfl
theorem xWO (i : Nat) (x : Arg) : xAa R F H (.ext i x) = xC8 H (yBd i (opv F x)) := by
  simp only [xAa]
  cases opv F x with
  | tup vs => simp only [yBd,xC8]; cases vs[i]? <;> rfl
  | _ => rfl
def yAH : AV → Option AV
  | .sl _ n _ => some (.int .i64 n)
  | .own _ _ _ n _ => some (.int .i64 n)
  | _ => none
theorem xTe (z : Bool) (n : Nat) (cs : List AV) : yAH (.sl z n cs) = some (.int .i64 n) := rfl
theorem xPA (z : Bool) (id off n es : Nat) : yAH (.own z id off n es) = some (.int .i64 n) := rfl
theorem xWP (x : Arg) : xAa R F H (.len x) = xC8 H (yAH (opv F x)) := by
  simp only [xAa]
  cases opv F x <;> rfl
theorem xWQ (x : Arg) : xAa R F H (.cap x) = match opv F x with
  | .sl true _ _ => some (.int .i64 0,H)
  | _ => none := rfl
def yBe (neg : Bool) (n : Nat) : AV → AV → Option AV
  | .agg cs,.agg ds => if cs.length = n then (xBC cs ds).map fun b => .bool (b != neg) else none
  | _,_ => none
theorem xPB {neg : Bool} {n : Nat} {cs ds : List AV} (h : cs.length = n) : yBe neg n (.agg cs) (.agg ds) = (xBC cs ds).map fun b => .bool (b != neg) := if_pos h
theorem xWR (neg : Bool) (n : Nat) (x y : Arg) : xAa R F H (.aeq neg n x y) = xC8 H (yBe neg n (opv F x) (opv F y)) := by
  simp only [xAa]
  cases opv F x with
  | agg cs => cases opv F y with
    | agg ds =>
      simp only [yBe,xC8]
      split
      · cases xBC cs ds <;> rfl
      · rfl
    | _ => rfl
  | _ => rfl
def xWS (fz : Bool) (es bytes : Nat) (H : Heap) (x : AV) : Option (Nat × List AV) → Option (AV × Heap)
  | none => none
  | some (m,ys) => match x with
    | .sl true _ _ => if m * bytes ≤ xBb ∧ m ≤ xBb then xDb fz (m == 0) m es ys H else none
    | .own z id off n es' => match H[id]? with
      | some (.cells false _ cs) => if off = 0 ∧ es' = es ∧ n * es ≤ cs.length ∧ (n + m) * bytes ≤ xBb ∧ n + m ≤ xBb then
          some (.own (z && m == 0) H.length 0 (n + m) es,H.set id .dead ++ [.cells false (z && m == 0) (cs.take (n * es) ++ ys)]) else none
      | _ => none
    | _ => none
theorem xHn (fz : Bool) (es bytes : Nat) (x y : Arg) : xAa R F H (.append fz es bytes x y) = xWS fz es bytes H (opv F x) (src H es (opv F y)) := by
  simp only [xAa,xWS]
  cases src H es (opv F y) <;> rfl
theorem xPC {fz : Bool} {es bytes n m : Nat} {cs ys : List AV} (h : m * bytes ≤ 140737488355328) (h2 : m ≤ 140737488355328) : xWS fz es bytes H (.sl true n cs) (some (m,ys)) = xDb fz (m == 0) m es ys H := if_pos ⟨h,h2⟩
def xX1 (es bytes n m : Nat) (H : Heap) (z : Bool) (id : Nat) (ys : List AV) : Option Blk → Option (AV × Heap)
  | some (.cells false _ cs) => if n * es ≤ cs.length ∧ (n + m) * bytes ≤ xBb ∧ n + m ≤ xBb then
      some (.own (z && m == 0) H.length 0 (n + m) es,H.set id .dead ++ [.cells false (z && m == 0) (cs.take (n * es) ++ ys)]) else none
  | _ => none
theorem xPD (fz : Bool) (es bytes n m id : Nat) (z : Bool) (ys : List AV) : xWS fz es bytes H (.own z id 0 n es) (some (m,ys)) = xX1 es bytes n m H z id ys H[id]? := by
  simp only [xWS,xX1]
  split
  · rename_i z' cs hb
    by_cases h : n * es ≤ cs.length ∧ (n + m) * bytes ≤ xBb ∧ n + m ≤ xBb
    · rw [if_pos h,if_pos ⟨trivial,trivial,h⟩]
    · rw [if_neg h,if_neg (fun g => h g.2.2)]
  · rename_i hne
    cases hb : H[id]? with
    | none => rfl
    | some b => cases b with
      | cells fz z cs => cases fz with
        | false => exact (hne _ _ hb).elim
        | true => rfl
      | _ => rfl
theorem xHo {es bytes n m id : Nat} {z z' : Bool} {ys cs : List AV} (h : n * es ≤ cs.length) (h2 : (n + m) * bytes ≤ 140737488355328) (h3 : n + m ≤ 140737488355328) : xX1 es bytes n m H z id ys (some (.cells false z' cs)) =
    some (.own (z && m == 0) H.length 0 (n + m) es,H.set id .dead ++ [.cells false (z && m == 0) (cs.take (n * es) ++ ys)]) := if_pos ⟨h,h2,h3⟩
theorem xWT {es n : Nat} {z : Bool} {cs : List AV} (h : cs.length = n * es) : src H es (.sl z n cs) = some (n,cs) := if_pos h
def yBf (off n es : Nat) : Option Blk → Option (Nat × List AV)
  | some (.cells _ _ cs) => if off + n * es ≤ cs.length then some (n,(cs.drop off).take (n * es)) else none
  | _ => none
theorem xTf (es n id off : Nat) (z : Bool) : src H es (.own z id off n es) = yBf off n es H[id]? := by
  simp only [src,yBf]
  cases H[id]? with
  | none => rfl
  | some b => cases b <;> simp
theorem xJA {es n off : Nat} {fz z : Bool} {cs : List AV} (h : off + n * es ≤ cs.length) : yBf off n es (some (.cells fz z cs)) = some (n,(cs.drop off).take (n * es)) := if_pos h
def xM2 (z : List AV) (bytes : Nat) (H : Heap) : AV → AV → Option (AV × Heap)
  | .sl true _ _,.int _ m => if 0 ≤ m ∧ m.toNat * bytes ≤ xBb ∧ m.toNat ≤ xBb ∧ z.all AV.isCell = true then xDb false (m.toNat == 0) m.toNat z.length (xCE z m.toNat) H else none
  | _,_ => none
theorem xJB (z : List AV) (bytes : Nat) (x n : Arg) : xAa R F H (.appendz z bytes x n) = xM2 z bytes H (opv F x) (opv F n) := by
  simp only [xAa]
  cases hn : opv F n with
  | int k m =>
    simp only [xBZ]
    by_cases h : 0 ≤ m
    · cases hx : opv F x with
      | sl zz nn cs => cases zz <;> simp [xM2,h]
      | _ => simp [xM2,h]
    · cases hx : opv F x with
      | sl zz nn cs => cases zz <;> simp [xM2,h]
      | _ => simp [xM2,h]
  | _ =>
    cases hx : opv F x with
    | sl zz nn cs => cases zz <;> simp [xM2,xBZ]
    | _ => simp [xM2,xBZ]
theorem xM3 {z : List AV} {bytes n : Nat} {cs : List AV} {k : IntKind} {m : Int} (h0 : 0 ≤ m) (h1 : m.toNat * bytes ≤ 140737488355328) (h2 : m.toNat ≤ 140737488355328) (h3 : z.all AV.isCell = true) : xM2 z bytes H (.sl true n cs) (.int k m) = xDb false (m.toNat == 0) m.toNat z.length (xCE z m.toNat) H := if_pos ⟨h0,h1,h2,h3⟩
def yBg : AV → AV → Option AV
  | .int k a,.int _ b => some (.int k (max a b))
  | _,_ => none
def yBh : AV → AV → Option AV
  | .int k a,.int _ b => some (.int k (min a b))
  | _,_ => none
theorem xPE (k k' : IntKind) (a b : Int) : yBg (.int k a) (.int k' b) = some (.int k (max a b)) := rfl
theorem xPF (k k' : IntKind) (a b : Int) : yBh (.int k a) (.int k' b) = some (.int k (min a b)) := rfl
theorem xTg (x y : Arg) : xAa R F H (.maxi x y) = xC8 H (yBg (opv F x) (opv F y)) := by
  simp only [xAa]
  cases opv F x with
  | int k a => cases opv F y with
    | int k' b => simp only [yBg,xC8]; congr 3; split <;> omega
    | _ => rfl
  | _ => rfl
theorem xTh (x y : Arg) : xAa R F H (.mini x y) = xC8 H (yBh (opv F x) (opv F y)) := by
  simp only [xAa]
  cases opv F x with
  | int k a => cases opv F y with
    | int k' b => simp only [yBh,xC8]; congr 3; split <;> omega
    | _ => rfl
  | _ => rfl
theorem xWU (z : List AV) : xCE z 0 = [] := rfl
theorem xWV (z : List AV) : xCE z 1 = z ++ ([]) := rfl
theorem xWW (z : List AV) : xCE z 2 = z ++ (z ++ ([])) := rfl
theorem xWX (z : List AV) : xCE z 3 = z ++ (z ++ (z ++ ([]))) := rfl
theorem xWY (z : List AV) : xCE z 4 = z ++ (z ++ (z ++ (z ++ ([])))) := rfl
theorem xWZ (z : List AV) : xCE z 5 = z ++ (z ++ (z ++ (z ++ (z ++ ([]))))) := rfl
theorem xW0 (z : List AV) : xCE z 6 = z ++ (z ++ (z ++ (z ++ (z ++ (z ++ ([])))))) := rfl
theorem xW1 (z : List AV) : xCE z 7 = z ++ (z ++ (z ++ (z ++ (z ++ (z ++ (z ++ ([]))))))) := rfl
theorem xW2 (z : List AV) : xCE z 8 = z ++ (z ++ (z ++ (z ++ (z ++ (z ++ (z ++ (z ++ ([])))))))) := rfl
theorem xW3 (z : List AV) : xCE z 9 = z ++ (z ++ (z ++ (z ++ (z ++ (z ++ (z ++ (z ++ (z ++ ([]))))))))) := rfl
theorem xTi (z : List AV) : xCE z 10 = z ++ (z ++ (z ++ (z ++ (z ++ (z ++ (z ++ (z ++ (z ++ (z ++ ([])))))))))) := rfl
theorem xTj (z : List AV) : xCE z 11 = z ++ (z ++ (z ++ (z ++ (z ++ (z ++ (z ++ (z ++ (z ++ (z ++ (z ++ ([]))))))))))) := rfl
theorem xTk (z : List AV) : xCE z 12 = z ++ (z ++ (z ++ (z ++ (z ++ (z ++ (z ++ (z ++ (z ++ (z ++ (z ++ (z ++ ([])))))))))))) := rfl
theorem xHp (d : Nat) (k : IntKind) (n : Int) : frz d H (.int k n) = some (.int k n) := by cases d <;> rfl
theorem xPG (d : Nat) (b : Bool) : frz d H (.bool b) = some (.bool b) := by cases d <;> rfl
theorem xTl (d : Nat) (b : ByteArray) : frz d H (.str b) = some (.str b) := by cases d <;> rfl
theorem xPH (d : Nat) : frz d H .nilp = some .nilp := by cases d <;> rfl
theorem xPI (d : Nat) : frz d H .nilf = some .nilf := by cases d <;> rfl
theorem xTm (d : Nat) : frz d H .any = some .any := by cases d <;> rfl
theorem xPJ (d f : Nat) : frz d H (.func f []) = some (.func f []) := by cases d <;> rfl
theorem xW4 (d : Nat) (z : Bool) (n : Nat) (cs : List AV) : frz d H (.sl z n cs) = some (.sl z n cs) := by cases d <;> rfl
theorem xTn (d : Nat) (cs : List AV) : frz (d + 1) H (.agg cs) = (cs.mapM (frz d H)).map AV.agg := rfl
theorem xTo (d : Nat) (cs : List AV) : frz (d + 1) H (.tup cs) = (cs.mapM (frz d H)).map AV.tup := rfl
def yBi (d : Nat) (H : Heap) (z : Bool) (off n es : Nat) : Option Blk → Option AV
  | some (.cells _ _ cs) => if off + n * es ≤ cs.length then slK z n (((cs.drop off).take (n * es)).mapM (frz d H)) else none
  | _ => none
theorem xAd (d : Nat) (z : Bool) (id off n es : Nat) : frz (d + 1) H (.own z id off n es) = yBi d H z off n es H[id]? := by
  simp only [frz,yBi]
  cases H[id]? with
  | none => rfl
  | some b => cases b with
    | cells fz z' cs =>
      simp only
      split
      · cases ((cs.drop off).take (n * es)).mapM (frz d H) <;> rfl
      · rfl
    | _ => rfl
theorem xJC {d off n es : Nat} {z fz z' : Bool} {cs : List AV} (h : off + n * es ≤ cs.length) : yBi d H z off n es (some (.cells fz z' cs)) = slK z n (((cs.drop off).take (n * es)).mapM (frz d H)) := if_pos h
theorem xFm (d : Nat) (k : IntKind) (n : Int) : bor d H (.int k n) = [] := by cases d <;> rfl
theorem xPK (d : Nat) (b : Bool) : bor d H (.bool b) = [] := by cases d <;> rfl
theorem xTp (d : Nat) (b : ByteArray) : bor d H (.str b) = [] := by cases d <;> rfl
theorem xPL (d : Nat) : bor d H .nilp = [] := by cases d <;> rfl
theorem xPM (d : Nat) : bor d H .nilf = [] := by cases d <;> rfl
theorem xTq (d : Nat) : bor d H .any = [] := by cases d <;> rfl
theorem xPN (d f : Nat) (cs : List AV) : bor d H (.func f cs) = [] := by cases d <;> rfl
theorem xW5 (ss : List Nat) (b : ACode) (s : St) : run R (.fz ss b) s = run R b ⟨s.F,fzIds s.H (ss.flatMap fun i => bor frzN s.H (s.F.getD i .any))⟩ := rfl
def yBj (R : Rec) (i : Nat) (b : ACode) (s : St) (ids : List Nat) : Option AV → Option (AExit × St)
  | some v => run R b ⟨s.F.set i v,fzIds s.H ids⟩
  | none => none
theorem xTr (i : Nat) (b : ACode) (s : St) : run R (.fzs i b) s = yBj R i b s (bor frzN s.H (s.F.getD i .any)) (frz frzN s.H (s.F.getD i .any)) := by
  simp only [run,yBj]
  cases frz frzN s.H (s.F.getD i .any) <;> rfl
theorem xM4 (i : Nat) (b : ACode) (s : St) (ids : List Nat) (v : AV) : yBj R i b s ids (some v) = run R b ⟨s.F.set i v,fzIds s.H ids⟩ := rfl
def yBk (d : Nat) (H : Heap) (off : Nat) : Option Blk → Option AV
  | some (.cells _ _ cs) => (cs.mapM (frz d H)).map fun cs' => .vptr cs' off
  | _ => none
theorem xTs (d i o : Nat) : frz (d + 1) H (.ptr i o) = yBk d H o H[i]? := by
  simp only [frz,yBk]
  cases H[i]? with
  | none => rfl
  | some b => cases b <;> rfl
theorem xJD (d : Nat) (o : Nat) (fz z : Bool) (cs : List AV) : yBk d H o (some (.cells fz z cs)) = (cs.mapM (frz d H)).map fun cs' => .vptr cs' o := rfl
theorem xPO (d : Nat) (cs : List AV) (o : Nat) : frz d H (.vptr cs o) = some (.vptr cs o) := by cases d <;> rfl
def xX2 (d : Nat) (H : Heap) : Option Blk → List Nat
  | some (.cells _ _ cs) => cs.flatMap (bor d H)
  | _ => []
theorem xTt (d i o : Nat) : bor (d + 1) H (.ptr i o) = i :: xX2 d H H[i]? := by
  simp only [bor,xX2]
  cases H[i]? with
  | none => rfl
  | some b => cases b <;> rfl
theorem xHq (d : Nat) (fz z : Bool) (cs : List AV) : xX2 d H (some (.cells fz z cs)) = cs.flatMap (bor d H) := rfl
theorem xPP (d : Nat) (cs : List AV) (o : Nat) : bor d H (.vptr cs o) = [] := by cases d <;> rfl
def xX3 : Option Blk → Bool
  | some (.cells true _ _) => true
  | _ => false
theorem xJE (i : Nat) : xFk H i = xX3 H[i]? := by
  simp only [xFk,xX3]
  cases H[i]? with
  | none => rfl
  | some b => cases b with
    | cells fz z cs => cases fz <;> rfl
    | _ => rfl
theorem xTu (z : Bool) (cs : List AV) : xX3 (some (.cells true z cs)) = true := rfl
theorem xW6 (d : Nat) (z : Bool) (n : Nat) (cs : List AV) : bor d H (.sl z n cs) = [] := by cases d <;> rfl
theorem xTv (d : Nat) (cs : List AV) : bor (d + 1) H (.agg cs) = cs.flatMap (bor d H) := rfl
theorem xTw (d : Nat) (cs : List AV) : bor (d + 1) H (.tup cs) = cs.flatMap (bor d H) := rfl
def yBl (d : Nat) (H : Heap) (off n es : Nat) : Option Blk → List Nat
  | some (.cells _ _ cs) => ((cs.drop off).take (n * es)).flatMap (bor d H)
  | _ => []
theorem xAe (d : Nat) (z : Bool) (id off n es : Nat) : bor (d + 1) H (.own z id off n es) = id :: yBl d H off n es H[id]? := by
  simp only [bor,yBl]
  cases H[id]? with
  | none => rfl
  | some b => cases b <;> rfl
theorem xJF (d off n es : Nat) (fz z : Bool) (cs : List AV) : yBl d H off n es (some (.cells fz z cs)) = ((cs.drop off).take (n * es)).flatMap (bor d H) := rfl
def xW7 (args : List AV) (H : Heap) : Option AV → Option (AV × Heap)
  | some r => some (r,if xAr r = true then H else fzIds H (args.flatMap (bor frzN H)))
  | none => none
theorem xM5 (args : List AV) (r : AV) : xW7 args H (some r) = some (r,if xAr r = true then H else fzIds H (args.flatMap (bor frzN H))) := rfl
theorem xM6 (args : List AV) : xW7 args H none = none := rfl
theorem xPQ (args : List AV) {c : Prop} [Decidable c] (x y : Option AV) : xW7 args H (if c then x else y) = if c then xW7 args H x else xW7 args H y := by split <;> rfl
def yBm (R : Rec) (f : Nat) (args : List AV) (H : Heap) : Option (List AV) → Option (AV × Heap)
  | some args' => xW7 args H (R.pcall f args')
  | none => none
theorem xM7 (f : Nat) (args args' : List AV) : yBm R f args H (some args') = xW7 args H (R.pcall f args') := rfl
theorem xM8 (f : Nat) (args : List AV) : xBq R f args H = yBm R f args H (args.mapM (frz frzN H)) := by
  simp only [xBq,yBm]
  cases args.mapM (frz frzN H) with
  | none => rfl
  | some args' => simp only [xW7]; cases R.pcall f args' <;> rfl
theorem xTx (f : Nat) (args : List Arg) : xAa R F H (.call f args) = xBq R f (args.map (opv F)) H := rfl
theorem xPR (f : Arg) (args : List Arg) : xAa R F H (.icall f args) = R.icall (opv F f) (args.map (opv F)) H := rfl
def xW8 (R : Rec) (args : List AV) (H : Heap) : AV → Option (AV × Heap)
  | .func g caps => xBq R g (args ++ caps) H
  | _ => none
theorem xHr (args : List AV) (g : Nat) (caps : List AV) : xW8 R args H (.func g caps) = xBq R g (args ++ caps) H := rfl
theorem xPS (f : Arg) (args : List Arg) : xAa R F H (.fcall f args) = xW8 R (args.map (opv F)) H (opv F f) := by
  simp only [xAa]
  cases opv F f <;> rfl
def xD3 (args : List AV) (H : Heap) : Option (AV × Heap) → Option (AV × Heap)
  | some (r,_) => if quietCall r H args = true then some (r,H) else none
  | none => none
theorem xHs (args : List AV) (r : AV) (H' : Heap) : xD3 args H (some (r,H')) = if quietCall r H args = true then some (r,H) else none := rfl
theorem xHt (args : List AV) : xD3 args H none = none := rfl
theorem xJG (args : List AV) {c : Prop} [Decidable c] (x y : Option (AV × Heap)) : xD3 args H (if c then x else y) = if c then xD3 args H x else xD3 args H y := by split <;> rfl
theorem xTy (f : Nat) (args : List Arg) : xAS R F H (.call f args) = xD3 (args.map (opv F)) H (xBq R f (args.map (opv F)) H) := by
  simp only [xAS,xAv,xD3]
  cases xBq R f (args.map (opv F)) H with
  | none => rfl
  | some r => obtain ⟨r,H'⟩ := r; simp only; split <;> rfl
def xOq (R : Rec) (args : List AV) (H : Heap) : AV → Option (AV × Heap)
  | .func g caps => xD3 (args ++ caps) H (xBq R g (args ++ caps) H)
  | _ => none
theorem xFS (args : List AV) (g : Nat) (caps : List AV) : xOq R args H (.func g caps) = xD3 (args ++ caps) H (xBq R g (args ++ caps) H) := rfl
theorem xPT (f : Arg) (args : List Arg) : xAS R F H (.fcall f args) = xOq R (args.map (opv F)) H (opv F f) := by
  simp only [xAS,xAv,xD3,xOq]
  cases opv F f with
  | func g caps =>
    simp only
    cases xBq R g (args.map (opv F) ++ caps) H with
    | none => rfl
    | some r => obtain ⟨r,H'⟩ := r; simp only; split <;> rfl
  | _ => rfl
theorem xW9 (v : AV) : xAS R F H (.box (.c v)) = if v.cells.all AV.isCell = true then some (.any,H) else none := by
  simp only [xAS,xAv]
  split <;> rfl
def xDR (H : Heap) : Option (AV × Heap) → Option (AV × Heap)
  | some (v,_) => some (v,H)
  | none => none
theorem xM9 (v : AV) (H' : Heap) : xDR H (some (v,H')) = some (v,H) := rfl
theorem xNa : xDR H none = none := rfl
theorem xPU {c : Prop} [Decidable c] (x y : Option (AV × Heap)) : xDR H (if c then x else y) = if c then xDR H x else xDR H y := by split <;> rfl
theorem xCa (op : AOp) (h : xAv R F H op = (xAa R F H op).map (·.1)) : xAS R F H op = xDR H (xAa R F H op) := by
  simp only [xAS,h,xDR]
  cases xAa R F H op <;> rfl
theorem xXa (x : Arg) : xAS R F H (.mov x) = xDR H (xAa R F H (.mov x)) := xCa _ rfl
theorem xTz (c a b : Arg) : xAS R F H (.pick c a b) = xDR H (xAa R F H (.pick c a b)) := xCa _ rfl
theorem xPV (z : List AV) (parts : List (Nat × Nat × Arg)) : xAS R F H (.build z parts) = xDR H (xAa R F H (.build z parts)) := xCa _ rfl
theorem xNb (z : List AV) (es n : Nat) (parts : List (Nat × Arg)) : xAS R F H (.bslice true z es n parts) = xDR H (xAa R F H (.bslice true z es n parts)) := xCa _ rfl
theorem xTA (g : Bool) (n : Nat) (p : Arg) : xAS R F H (.load g n p) = xDR H (xAa R F H (.load g n p)) := xCa _ rfl
theorem xNc (x : Arg) : xAS R F H (.nilchk x) = xDR H (xAa R F H (.nilchk x)) := xCa _ rfl
theorem xXb (op : BinOp) (x y : Arg) : xAS R F H (.bin op x y) = xDR H (xAa R F H (.bin op x y)) := xCa _ rfl
theorem xXc (neg : Bool) (x y : Arg) : xAS R F H (.beq neg x y) = xDR H (xAa R F H (.beq neg x y)) := xCa _ rfl
theorem xPW (neg : Bool) (x : Arg) : xAS R F H (.isnil neg x) = xDR H (xAa R F H (.isnil neg x)) := xCa _ rfl
theorem xZY (op : UnOp) (x : Arg) : xAS R F H (.un op x) = xDR H (xAa R F H (.un op x)) := xCa _ rfl
theorem xTB (k : IntKind) (x : Arg) : xAS R F H (.conv k x) = xDR H (xAa R F H (.conv k x)) := xCa _ rfl
theorem xNd (f : Nat) (caps : List Arg) : xAS R F H (.mkfunc f caps) = xDR H (xAa R F H (.mkfunc f caps)) := xCa _ rfl
theorem xJH (z : List AV) (bytes : Nat) (l c : Arg) : xAS R F H (.mkslice true z bytes l c) = xDR H (xAa R F H (.mkslice true z bytes l c)) := xCa _ rfl
theorem xPX (es : Nat) (x : Arg) (lo hi mx : Option Arg) : xAS R F H (.slice es x lo hi mx) = xDR H (xAa R F H (.slice es x lo hi mx)) := xCa _ rfl
theorem xPY (o : Nat) (x : Arg) : xAS R F H (.faddr o x) = xDR H (xAa R F H (.faddr o x)) := xCa _ rfl
theorem xPZ (g : Bool) (off n : Nat) (x : Arg) : xAS R F H (.field g off n x) = xDR H (xAa R F H (.field g off n x)) := xCa _ rfl
theorem xP0 (es : Nat) (x i : Arg) : xAS R F H (.iaddr es x i) = xDR H (xAa R F H (.iaddr es x i)) := xCa _ rfl
theorem xXd (i : Nat) (x : Arg) : xAS R F H (.ext i x) = xDR H (xAa R F H (.ext i x)) := xCa _ rfl
theorem xXe (x : Arg) : xAS R F H (.len x) = xDR H (xAa R F H (.len x)) := xCa _ rfl
theorem xXf (x : Arg) : xAS R F H (.cap x) = xDR H (xAa R F H (.cap x)) := xCa _ rfl
theorem xXg (neg : Bool) (n : Nat) (x y : Arg) : xAS R F H (.aeq neg n x y) = xDR H (xAa R F H (.aeq neg n x y)) := xCa _ rfl
theorem xTC (x y : Arg) : xAS R F H (.maxi x y) = xDR H (xAa R F H (.maxi x y)) := xCa _ rfl
theorem xTD (x y : Arg) : xAS R F H (.mini x y) = xDR H (xAa R F H (.mini x y)) := xCa _ rfl
def xX4 (es bytes : Nat) (H : Heap) (x : AV) (o : Option (Nat × List AV)) : Option (AV × Heap) := match x with
  | .sl _ _ _ => xDR H (xWS true es bytes H x o)
  | _ => none
theorem xP1 (es bytes : Nat) (z : Bool) (n : Nat) (cs : List AV) (o : Option (Nat × List AV)) : xX4 es bytes H (.sl z n cs) o = xDR H (xWS true es bytes H (.sl z n cs) o) := rfl
theorem xNe (es bytes : Nat) (x y : Arg) : xAS R F H (.append true es bytes x y) = xX4 es bytes H (opv F x) (src H es (opv F y)) := by
  simp only [xAS,xAv,xX4]
  cases h : opv F x with
  | sl z n cs =>
    simp only [xHn,h,xDR]
    cases xWS true es bytes H (.sl z n cs) (src H es (opv F y)) <;> rfl
  | _ => rfl
def xQ6 (H : Heap) : Option AV → Option (AV × Heap)
  | some v => some (v,H)
  | none => none
theorem xJI (v : AV) : xQ6 H (some v) = some (v,H) := rfl
def xNf (rs : List ARes) : Option (AExit × St) → Option (AV × Heap)
  | some (.normal,s) => xQ6 s.H (xBz rs s)
  | some (.ret,s) => xQ6 s.H (xBz rs s)
  | _ => none
theorem xFT (rs : List ARes) (F : List AV) (H : Heap) : xNf rs (some (.normal,⟨F,H⟩)) = xQ6 H (xBz rs ⟨F,H⟩) := rfl
theorem xNg (rs : List ARes) (F : List AV) (H : Heap) : xNf rs (some (.ret,⟨F,H⟩)) = xQ6 H (xBz rs ⟨F,H⟩) := rfl
theorem xJJ (rs : List ARes) : xNf rs none = none := rfl
theorem xNh (rs : List ARes) {c : Prop} [Decidable c] (x y : Option (AExit × St)) : xNf rs (if c then x else y) = if c then xNf rs x else xNf rs y := by split <;> rfl
def pads : Nat → List AV
  | 0 => []
  | n + 1 => .tup [] :: pads n
theorem xTE : ∀ n,List.replicate n (AV.tup []) = pads n
  | 0 => rfl
  | n + 1 => by rw [List.replicate_succ,xTE n]; rfl
theorem xBm (n : Nat) (code : ACode) (rs : List ARes) (args : List AV) : xBD R ⟨n,code,rs⟩ args H = xNf rs (run R code ⟨args ++ pads (n - args.length),H⟩) := by
  rw [← xTE]
  simp only [xBD,xNf,xLM,xQ6]
  cases h : run R code ⟨args ++ List.replicate (n - args.length) (.tup []),H⟩ with
  | none => rfl
  | some r =>
    obtain ⟨e,s⟩ := r
    cases e with
    | exit i => rfl
    | _ => simp only; cases xBz rs s <;> rfl
def xHu : Option (AV × Heap) → Option AV
  | some (r,H') => frz frzN H' r
  | none => none
theorem xHv (r : AV) (H' : Heap) : xHu (some (r,H')) = frz frzN H' r := rfl
theorem xHw : xHu none = none := rfl
theorem xJK {c : Prop} [Decidable c] (x y : Option (AV × Heap)) : xHu (if c then x else y) = if c then xHu x else xHu y := by split <;> rfl
theorem xAl (fn : AFunc) (args : List AV) : xAR R fn args = xHu (xBD R fn args []) := by
  simp only [xAR,xHu]
  cases xBD R fn args [] <;> rfl
def xX5 (g : Bool) : Option (List AV) → Option AV
  | some cs => mkv g cs
  | none => none
theorem xJL (g : Bool) (cs : List AV) : xX5 g (some cs) = mkv g cs := rfl
theorem xTF (t : Nat) : xRW ⟨F,H⟩ (.tmp t) = some (F.getD t .any) := rfl
theorem xP2 (t : Nat) (g : Bool) (n : Nat) : xRW ⟨F,H⟩ (.cell t g n) = xX5 g (rd H (F.getD t .any) n) := by
  simp only [xRW,xX5]
  cases rd H (F.getD t .any) n <;> rfl
theorem xNi : xBz [] s = some (.tup []) := rfl
theorem xNj (r : ARes) : xBz [r] s = xRW s r := rfl
def yBn (s : St) (rs : List ARes) : Option AV → Option (List AV)
  | some v => (xQ1 s rs).map (v :: ·)
  | none => none
theorem xNk (rs : List ARes) (v : AV) : yBn s rs (some v) = (xQ1 s rs).map (v :: ·) := rfl
theorem xP3 : xQ1 s [] = some [] := rfl
theorem xNl (r : ARes) (rs : List ARes) : xQ1 s (r :: rs) = yBn s rs (xRW s r) := by
  simp only [xQ1,yBn]
  cases xRW s r <;> rfl
theorem xNm (r r' : ARes) (rs : List ARes) : xBz (r :: r' :: rs) s = (xQ1 s (r :: r' :: rs)).map .tup := rfl
def xEO (F : List AV) (l : Nat) : Option (AV × Heap) → Option (AExit × St)
  | some (_,H') => match H'[l]? with
    | some (.loop st pend _ _ _ _) => if st = 1 then none else some ((match pend with | none => .normal | some e => e),⟨F,H'.set l .dead⟩)
    | _ => none
  | none => none
def xTG (R : Rec) (F : List AV) (H : Heap) (ps : List Nat) (asg body : ACode) : AV → Option (AExit × St)
  | .func g caps => xEO F H.length (R.icall (.func g caps) [.yield H.length] (H ++ [.loop 0 none F ps asg body]))
  | _ => none
theorem xNn (f : Arg) (ps : List Nat) (asg body : ACode) (F : List AV) (H : Heap) : run R (.range f ps asg body) ⟨F,H⟩ = xTG R F H ps asg body (opv F f) := by
  simp only [run]
  cases opv F f with
  | func g caps =>
    simp only [xTG,xEO]
    cases R.icall (.func g caps) [.yield H.length] (H ++ [.loop 0 none F ps asg body]) with
    | none => rfl
    | some r =>
      obtain ⟨v,H'⟩ := r
      simp only
      cases H'[H.length]? with
      | none => rfl
      | some b => cases b <;> rfl
  | _ => rfl
theorem xHx (ps : List Nat) (asg body : ACode) (g : Nat) (caps : List AV) : xTG R F H ps asg body (.func g caps) = xEO F H.length (R.icall (.func g caps) [.yield H.length] (H ++ [.loop 0 none F ps asg body])) := rfl
def xEP (l : Nat) (e : AExit) (H : Heap) : Option Blk → Option (AV × Heap)
  | some (.loop 1 _ F ps asg body) => some (match e with
    | .normal => (.bool true,H.set l (.loop 0 none F ps asg body))
    | e => (.bool false,H.set l (.loop 2 (some e) F ps asg body)))
  | _ => none
def xCp (l : Nat) : Option (AExit × St) → Option (AV × Heap)
  | some (e,s) => xEP l e s.H s.H[l]?
  | none => none
def xGk (R : Rec) (l : Nat) (body0 : ACode) (s : St) : Option Blk → Option (AV × Heap)
  | some (.loop 0 pend F ps asg body) => xCp l (run R body0 ⟨s.F,s.H.set l (.loop 1 pend F ps asg body)⟩)
  | _ => none
def xKQ (R : Rec) (l : Nat) (body0 : ACode) : Option (AExit × St) → Option (AV × Heap)
  | some (.normal,s) => xGk R l body0 s s.H[l]?
  | _ => none
theorem xHy (l : Nat) (args : List AV) (H : Heap) (asg body : ACode) (F : List AV) (ps : List Nat) (pend : Option AExit) (hH : H[l]? = some (.loop 0 pend F ps asg body)) (h1 : args.length = ps.length) (h2 : asg.noRange = true) (h3 : body.noRange = true) :
    xEA R l args H = xKQ R l body (run R asg ⟨(ps.zip args).foldl (fun F (p,v) => F.set p v) F,H⟩) := by
  unfold xEA
  rw [hH]
  simp only
  rw [if_pos ⟨h1,h2,h3⟩]
  cases ha : run R asg ⟨(ps.zip args).foldl (fun F (p,v) => F.set p v) F,H⟩ with
  | none => rfl
  | some r =>
    obtain ⟨e,s1⟩ := r
    cases e with
    | normal =>
      simp only [xKQ]
      cases hb : s1.H[l]? with
      | none => rfl
      | some b =>
        cases b with
        | loop st pend1 F1 ps1 asg1 body1 =>
          match st with
          | 0 =>
            simp only [xGk]
            cases hr : run R body ⟨s1.F,s1.H.set l (.loop 1 pend1 F1 ps1 asg1 body1)⟩ with
            | none => rfl
            | some r =>
              obtain ⟨e,s2⟩ := r
              simp only [xCp]
              cases hc : s2.H[l]? with
              | none => rfl
              | some b =>
                cases b with
                | loop st2 pend2 F2 ps2 asg2 body2 =>
                  match st2 with
                  | 0 => rfl
                  | 1 => rfl
                  | _ + 2 => rfl
                | _ => rfl
          | _ + 1 => rfl
        | _ => rfl
    | _ => rfl
theorem xDH (l : Nat) (body0 : ACode) (F : List AV) (H : Heap) : xKQ R l body0 (some (.normal,⟨F,H⟩)) = xGk R l body0 ⟨F,H⟩ H[l]? := rfl
theorem xEQ (l : Nat) (body0 : ACode) (F : List AV) (H : Heap) (pend : Option AExit) (F1 : List AV) (ps : List Nat) (asg body : ACode) : xGk R l body0 ⟨F,H⟩ (some (.loop 0 pend F1 ps asg body)) = xCp l (run R body0 ⟨F,H.set l (.loop 1 pend F1 ps asg body)⟩) := rfl
theorem xD4 (l : Nat) (e : AExit) (F : List AV) (H : Heap) : xCp l (some (e,⟨F,H⟩)) = xEP l e H H[l]? := rfl
theorem xER (l : Nat) {c : Prop} [Decidable c] (x y : Option (AExit × St)) : xCp l (if c then x else y) = if c then xCp l x else xCp l y := by split <;> rfl
theorem xDI (l : Nat) (H : Heap) (pend : Option AExit) (F : List AV) (ps : List Nat) (asg body : ACode) : xEP l .normal H (some (.loop 1 pend F ps asg body)) = some (.bool true,H.set l (.loop 0 none F ps asg body)) := rfl
theorem xES (l i : Nat) (H : Heap) (pend : Option AExit) (F : List AV) (ps : List Nat) (asg body : ACode) : xEP l (.exit i) H (some (.loop 1 pend F ps asg body)) = some (.bool false,H.set l (.loop 2 (some (.exit i)) F ps asg body)) := rfl
theorem xFU (l : Nat) (H : Heap) (pend : Option AExit) (F : List AV) (ps : List Nat) (asg body : ACode) : xEP l .ret H (some (.loop 1 pend F ps asg body)) = some (.bool false,H.set l (.loop 2 (some .ret) F ps asg body)) := rfl
def xGl (F : List AV) (l : Nat) (H : Heap) : Option Blk → Option (AExit × St)
  | some (.loop st pend _ _ _ _) => if st = 1 then none else some ((match pend with | none => .normal | some e => e),⟨F,H.set l .dead⟩)
  | _ => none
theorem xET (l : Nat) (v : AV) (H : Heap) : xEO F l (some (v,H)) = xGl F l H H[l]? := by
  simp only [xEO,xGl]
theorem xJM (l : Nat) (H : Heap) (F1 : List AV) (ps : List Nat) (asg body : ACode) : xGl F l H (some (.loop 0 none F1 ps asg body)) = some (.normal,⟨F,H.set l .dead⟩) := rfl
theorem xJN (l : Nat) (H : Heap) (e : AExit) (F1 : List AV) (ps : List Nat) (asg body : ACode) : xGl F l H (some (.loop 2 (some e) F1 ps asg body)) = some (e,⟨F,H.set l .dead⟩) := rfl
end
section
variable {R : Rec} {F : List AV} {H : Heap} {s : St}
def xTH : Option (AV × Heap) → Option (AV × List Blk)
  | some (r,H') => (xCF H' r).map fun (v,B) => (v,B.map (·.2))
  | none => none
theorem xBf (f : Nat) (args : List AV) : xBe R f args = xTH (R.icall (.func f []) args []) := by
  unfold xBe xTH
  cases R.icall (.func f []) args [] <;> rfl
theorem xHz (r : AV) (H' : Heap) : xTH (some (r,H')) = (xCF H' r).map fun (v,B) => (v,B.map (·.2)) := rfl
def ocK (H : Heap) (ids : List Nat) : Option (AV × List Blk) → Option (AV × Heap)
  | some (v,B) => some (xAz H.length v,fzIds H ids ++ B)
  | none => none
def xTI (R : Rec) (f : Nat) (H : Heap) (ids : List Nat) : Option (List AV) → Option (AV × Heap)
  | some args' => ocK H ids (xBe R f args')
  | none => none
theorem xP4 (f : Nat) (args : List Arg) : xAa R F H (.ocall f args) = xTI R f H ((args.map (opv F)).flatMap (bor frzN H)) ((args.map (opv F)).mapM (frz frzN H)) := by
  simp only [xAa,xTI]
  cases (args.map (opv F)).mapM (frz frzN H) with
  | none => rfl
  | some args' =>
    simp only [ocK]
    cases xBe R f args' <;> rfl
theorem xHA (f : Nat) (ids : List Nat) (args' : List AV) : xTI R f H ids (some args') = ocK H ids (xBe R f args') := rfl
theorem xP5 (ids : List Nat) (v : AV) (B : List Blk) : ocK H ids (some (v,B)) = some (xAz H.length v,fzIds H ids ++ B) := rfl
def t1B (z : Bool) (id off n es : Nat) (B : List (Nat × Blk)) : Option Blk → Option (AV × List (Nat × Blk))
  | some (.cells false z' cs) => if cs.all xAt = true then some (.own z B.length off n es,B ++ [(id,.cells false z' cs)]) else none
  | _ => none
def t1I (z : Bool) (id off n es : Nat) (B : List (Nat × Blk)) (b : Option Blk) : Option Nat → Option (AV × List (Nat × Blk))
  | some k => some (.own z k off n es,B)
  | none => t1B z id off n es B b
theorem xNo (H : Heap) (z : Bool) (id off n es : Nat) (B : List (Nat × Blk)) : xDX H (.own z id off n es) B = t1I z id off n es B H[id]? (B.findIdx? (fun p => p.1 == id)) := by
  simp only [xDX,t1I]
  cases B.findIdx? (fun p => p.1 == id) with
  | some k => rfl
  | none =>
    simp only [t1B]
    cases H[id]? with
    | none => rfl
    | some b => cases b with
      | cells fz z' cs => cases fz <;> rfl
      | _ => rfl
theorem xTJ (z : Bool) (id off n es : Nat) (B : List (Nat × Blk)) (b : Option Blk) (k : Nat) : t1I z id off n es B b (some k) = some (.own z k off n es,B) := rfl
theorem xTK (z : Bool) (id off n es : Nat) (B : List (Nat × Blk)) (z' : Bool) (cs : List AV) : t1I z id off n es B (some (.cells false z' cs)) none = if cs.all xAt = true then some (.own z B.length off n es,B ++ [(id,.cells false z' cs)]) else none := rfl
theorem xNp (H : Heap) (k : IntKind) (n : Int) (B : List (Nat × Blk)) : xDX H (.int k n) B = some (.int k n,B) := rfl
theorem xJO (H : Heap) (b : Bool) (B : List (Nat × Blk)) : xDX H (.bool b) B = some (.bool b,B) := rfl
theorem xP6 (H : Heap) (z : Bool) (n : Nat) (cs : List AV) (B : List (Nat × Blk)) : xDX H (.sl z n cs) B = some (.sl z n cs,B) := rfl
theorem xNq (H : Heap) (b : ByteArray) (B : List (Nat × Blk)) : xDX H (.str b) B = some (.str b,B) := rfl
def tkL (H : Heap) (vs : List AV) : Option (AV × List (Nat × Blk)) → Option (List AV × List (Nat × Blk))
  | some (v',B') => (xGO H vs B').map fun (vs',B2) => (v' :: vs',B2)
  | none => none
theorem xNr (H : Heap) (B : List (Nat × Blk)) : xGO H [] B = some ([],B) := rfl
theorem xJP (H : Heap) (v : AV) (vs : List AV) (B : List (Nat × Blk)) : xGO H (v :: vs) B = tkL H vs (xDX H v B) := by
  simp only [xGO,tkL]
  cases xDX H v B <;> rfl
theorem xP7 (H : Heap) (vs : List AV) (v' : AV) (B' : List (Nat × Blk)) : tkL H vs (some (v',B')) = (xGO H vs B').map fun (vs',B2) => (v' :: vs',B2) := rfl
theorem xNs (H : Heap) (cs : List AV) (B : List (Nat × Blk)) : xEy H (.agg cs) B = if cs.all AV.isCell = true then (xGO H cs B).map fun (cs',B') => (.agg cs',B') else none := rfl
theorem xNt (H : Heap) (z : Bool) (id off n es : Nat) (B : List (Nat × Blk)) : xEy H (.own z id off n es) B = xDX H (.own z id off n es) B := rfl
theorem xNu (H : Heap) (k : IntKind) (n : Int) (B : List (Nat × Blk)) : xEy H (.int k n) B = some (.int k n,B) := rfl
theorem xJQ (H : Heap) (b : Bool) (B : List (Nat × Blk)) : xEy H (.bool b) B = some (.bool b,B) := rfl
theorem xP8 (H : Heap) (z : Bool) (n : Nat) (cs : List AV) (B : List (Nat × Blk)) : xEy H (.sl z n cs) B = some (.sl z n cs,B) := rfl
def yBo (H : Heap) (vs : List AV) : Option (AV × List (Nat × Blk)) → Option (List AV × List (Nat × Blk))
  | some (v',B') => (xDC H vs B').map fun (vs',B2) => (v' :: vs',B2)
  | none => none
theorem xJR (H : Heap) (B : List (Nat × Blk)) : xDC H [] B = some ([],B) := rfl
theorem xHB (H : Heap) (v : AV) (vs : List AV) (B : List (Nat × Blk)) : xDC H (v :: vs) B = yBo H vs (xEy H v B) := by
  simp only [xDC,yBo]
  cases xEy H v B <;> rfl
theorem xNv (H : Heap) (vs : List AV) (v' : AV) (B' : List (Nat × Blk)) : yBo H vs (some (v',B')) = (xDC H vs B').map fun (vs',B2) => (v' :: vs',B2) := rfl
theorem xHC (H : Heap) (vs : List AV) : xCF H (.tup vs) = (xDC H vs []).map fun (vs',B) => (.tup vs',B) := rfl
theorem xHD (H : Heap) (cs : List AV) : xCF H (.agg cs) = xEy H (.agg cs) [] := rfl
theorem xHE (H : Heap) (z : Bool) (id off n es : Nat) : xCF H (.own z id off n es) = xDX H (.own z id off n es) [] := rfl
theorem xJS (H : Heap) (z : Bool) (n : Nat) (cs : List AV) : xCF H (.sl z n cs) = some (.sl z n cs,[]) := rfl
theorem xNw {α : Type} (p : α → Bool) : ([] : List α).findIdx? p = none := rfl
theorem xJT {α : Type} (p : α → Bool) (a : α) (l : List α) : (a :: l).findIdx? p = if p a = true then some 0 else (l.findIdx? p).map (· + 1) := by
  rw [List.findIdx?_cons]
def xTL (R : Rec) (als : List (Nat × Nat)) (ls : List (Nat × Nat × Nat × Nat)) (m : Nat) (ops : List AOper) : Option (St × List Pr) → Option (AExit × St)
  | some (s,pl) => xDG ls (xAy R (ops.drop m) (xBa als pl s))
  | none => none
theorem xNx (als : List (Nat × Nat)) (ls : List (Nat × Nat × Nat × Nat)) (m : Nat) (ops : List AOper) : run R (.drawp als ls m ops) s = xTL R als ls m ops (xAH R (ops.take m) s) := by
  simp only [run,xTL]
  cases xAH R (ops.take m) s with
  | none => rfl
  | some r =>
    obtain ⟨s1,pl⟩ := r
    simp only [xDG]
    cases xAy R (ops.drop m) (xBa als pl s1) <;> rfl
theorem xHF (als : List (Nat × Nat)) (ls : List (Nat × Nat × Nat × Nat)) (m : Nat) (ops : List AOper) (s : St) (pl : List Pr) : xTL R als ls m ops (some (s,pl)) = xDG ls (xAy R (ops.drop m) (xBa als pl s)) := rfl
theorem xJU (pl : List Pr) (s : St) : xBa [] pl s = adoptL pl s := rfl
def alK (als : List (Nat × Nat)) : St → St
  | ⟨F,H⟩ => ⟨xBB als F,H⟩
theorem xHG (p : Nat × Nat) (r : List (Nat × Nat)) (pl : List Pr) (s : St) : xBa (p :: r) pl s = alK (p :: r) (adoptL pl s) := rfl
theorem xXh (als : List (Nat × Nat)) (F : List AV) (H : Heap) : alK als ⟨F,H⟩ = ⟨xBB als F,H⟩ := rfl
theorem xJV (F : List AV) : xBB [] F = F := rfl
theorem xHH (d q : Nat) (r : List (Nat × Nat)) (F : List AV) : xBB ((d,q) :: r) F = xBB r (F.set d (F.getD q .any)) := rfl
def xTM (e : Pr) : Option (St × List Pr) → Option (St × List Pr)
  | some (s,l) => some (s,e :: l)
  | none => none
theorem xJW (e : Pr) (s : St) (l : List Pr) : xTM e (some (s,l)) = some (s,e :: l) := rfl
def xTN (R : Rec) (rest : List AOper) (s : St) : Option Nat → Option (AV × List Blk) → Option (St × List Pr)
  | some t,some (v,B) => xTM (some (t,v,B)) (xAH R rest ⟨s.F.set t .any,s.H⟩)
  | _,_ => none
def xTO (R : Rec) (rest : List AOper) : Option St → Option (St × List Pr)
  | some s => xTM none (xAH R rest s)
  | none => none
theorem xHI : xAH R [] s = some (s,[]) := rfl
theorem xFV (o : AOper) (rest : List AOper) : xAH R (o :: rest) s = if xAE o.op = true then xTN R rest s o.dst (xCG R s.F o.op) else xTO R rest (xAM R o s) := by
  simp only [xAH]
  split
  · cases o.dst with
    | none => rfl
    | some t => cases xCG R s.F o.op with
      | none => rfl
      | some r =>
        obtain ⟨v,B⟩ := r
        simp only [xTN]
        cases xAH R rest ⟨s.F.set t .any,s.H⟩ <;> rfl
  · cases xAM R o s with
    | none => rfl
    | some s1 =>
      simp only [xTO]
      cases xAH R rest s1 <;> rfl
theorem xHJ (rest : List AOper) (t : Nat) (v : AV) (B : List Blk) : xTN R rest s (some t) (some (v,B)) = xTM (some (t,v,B)) (xAH R rest ⟨s.F.set t .any,s.H⟩) := rfl
theorem xHK (rest : List AOper) (s : St) : xTO R rest (some s) = xTM none (xAH R rest s) := rfl
def xX6 : Option (AV × Heap) → Option (AV × List Blk)
  | some (v,B) => if xBj v = true ∧ xDD B = true then some (v,B) else none
  | none => none
theorem xP9 (op : AOp) : xCG R F op = if op.args.all (fun x => xAF (opv F x)) = true then xX6 (xAa R F [] op) else none := by
  unfold xCG xX6
  split
  · cases xAa R F [] op <;> rfl
  · rfl
theorem xJX (v : AV) (B : Heap) : xX6 (some (v,B)) = if xBj v = true ∧ xDD B = true then some (v,B) else none := rfl
theorem xFW (f : Nat) (as : List Arg) : xAE (.ocall f as) = true := rfl
theorem xJY (x : Arg) : xAE (.box x) = true := rfl
theorem xHL (z : List AV) (b : Nat) (x y : Arg) : xAE (.mkslice false z b x y) = true := rfl
theorem xHM (z : List AV) (b : Nat) (x y : Arg) : xAE (.mkslice true z b x y) = false := rfl
theorem xHN (z : List AV) (es n : Nat) (ps : List (Nat × Arg)) : xAE (.bslice false z es n ps) = true := rfl
theorem xHO (z : List AV) (es n : Nat) (ps : List (Nat × Arg)) : xAE (.bslice true z es n ps) = false := rfl
theorem xHP (es b : Nat) (x y : Arg) : xAE (.append false es b x y) = true := rfl
theorem xHQ (es b : Nat) (x y : Arg) : xAE (.append true es b x y) = false := rfl
theorem xHR (z : List AV) (b : Nat) (x y : Arg) : xAE (.appendz z b x y) = true := rfl
theorem xJZ (x : Arg) : xAE (.mov x) = false := rfl
theorem xHS (x y z : Arg) : xAE (.pick x y z) = false := rfl
theorem xFX (z : List AV) (ps : List (Nat × Nat × Arg)) : xAE (.build z ps) = false := rfl
theorem xHT (g : Bool) (n : Nat) (x : Arg) : xAE (.load g n x) = false := rfl
theorem xEU (x : Arg) : xAE (.nilchk x) = false := rfl
theorem xJ0 (op : BinOp) (x y : Arg) : xAE (.bin op x y) = false := rfl
theorem xJ1 (g : Bool) (x y : Arg) : xAE (.beq g x y) = false := rfl
theorem xFY (g : Bool) (x : Arg) : xAE (.isnil g x) = false := rfl
theorem xNy (op : UnOp) (x : Arg) : xAE (.un op x) = false := rfl
theorem xHU (k : IntKind) (x : Arg) : xAE (.conv k x) = false := rfl
theorem xEV (f : Nat) (as : List Arg) : xAE (.mkfunc f as) = false := rfl
theorem xFZ (es : Nat) (x : Arg) (a b c : Option Arg) : xAE (.slice es x a b c) = false := rfl
theorem xF0 (o : Nat) (x : Arg) : xAE (.faddr o x) = false := rfl
theorem xF1 (g : Bool) (o n : Nat) (x : Arg) : xAE (.field g o n x) = false := rfl
theorem xF2 (es : Nat) (x i : Arg) : xAE (.iaddr es x i) = false := rfl
theorem xJ2 (i : Nat) (x : Arg) : xAE (.ext i x) = false := rfl
theorem xJ3 (x : Arg) : xAE (.len x) = false := rfl
theorem xJ4 (x : Arg) : xAE (.cap x) = false := rfl
theorem xJ5 (g : Bool) (n : Nat) (x y : Arg) : xAE (.aeq g n x y) = false := rfl
theorem xHV (f : Nat) (as : List Arg) : xAE (.call f as) = false := rfl
theorem xF3 (f : Arg) (as : List Arg) : xAE (.fcall f as) = false := rfl
theorem xHW (x y : Arg) : xAE (.maxi x y) = false := rfl
theorem xHX (x y : Arg) : xAE (.mini x y) = false := rfl
theorem xHY : xDD [] = true := rfl
theorem xF4 (z : Bool) (cs : List AV) (B : List Blk) : xDD (.cells false z cs :: B) = (cs.all xAt && xDD B) := rfl
theorem xKR {α : Type} {f : α → AV} (h : ∀ a,xAt (f a) = true) (l : List α) : (l.map f).all xAt = true := by
  simp [List.all_eq_true,h]
end
section
variable {R : Rec} {F : List AV} {H : Heap}
end
end Go.Abs
