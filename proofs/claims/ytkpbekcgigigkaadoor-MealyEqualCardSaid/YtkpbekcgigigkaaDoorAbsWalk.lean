/- The interpreter's equations in the form that simp walks by: one equation for each construct,told apart by what has been computed already. -/
import Derived.Test.YtkpbekcgigigkaaDoorAbsLim
namespace Go.Abs
set_option linter.unusedVariables false
set_option linter.unusedSimpArgs false
theorem xDS : ∀ (scr : List Nat) (F : List AV) (i : Nat),(xAM scr F)[i]? = if i ∈ scr then (F[i]?).map (fun _ => AV.any) else F[i]?
  | [],F,i => by simp [xAM]
  | j :: scr,F,i => by
    have := xDS scr (F.set j .any) i
    simp only [xAM,List.foldl_cons] at this ⊢
    rw [this]
    by_cases h : i = j
    · subst h
      simp only [List.getElem?_set_self',List.mem_cons,true_or,if_true]
      cases F[i]? <;> simp
    · have h' : ¬ j = i := fun e => h e.symm
      simp [List.getElem?_set,h,h']
theorem xNX (scr : List Nat) (F : List AV) : xAM scr (xAM scr F) = xAM scr F := by
  apply List.ext_getElem?
  intro i
  rw [xDS,xDS]
  split
  · cases F[i]? <;> rfl
  · rfl
section
variable {prog : Nat → Option AFunc}
theorem xRR (prog : Nat → Option AFunc) (n : Nat) : Tends (fix prog n) (fun _ => lim prog) :=
  ⟨fun f a v h => .all fun _ => xEd ((xEq prog n).pcall f a v h),fun f a H v h => .all fun _ => xEd ((xEq prog n).icall f a H v h),fun scr b s v h => .all fun _ => xEd ((xEq prog n).loop scr b s v h)⟩
theorem Ev.const {p : Prop} (h : Ev fun _ => p) : p := let ⟨n,hn⟩ := h; hn n (Nat.le_refl n)
theorem xRS {α : Type} {a b : Option α} (h1 : ∀ v,a = some v → b = some v) (h2 : ∀ v,b = some v → a = some v) : a = b := by
  cases a with
  | some v => exact (h1 v rfl).symm
  | none =>
    cases b with
    | none => rfl
    | some v => exact h2 v rfl
theorem xAO {f : Nat} {fn : AFunc} (hf : prog f = some fn) (args : List AV) : (lim prog).pcall f args = xBt (lim prog) fn args := by
  refine xRS (fun v h => ?_) (fun v h => xLg hf h)
  obtain ⟨n,hn⟩ := xBQ (p := fun m => (fix prog m).pcall f args) h
  have h1 : (xCn prog (fix prog n)).pcall f args = some v := hn (n + 1) (by omega)
  have h2 := (xA8 (xRR prog n) prog).pcall f args v h1 |>.const
  simp only [xCn,hf] at h2
  exact h2
theorem xFN (f : AV) (args : List AV) (H : Heap) : (lim prog).icall f args H = xCP prog (lim prog) f args H := by
  refine xRS (fun v h => ?_) (fun v h => xLh h)
  obtain ⟨n,hn⟩ := xBQ (p := fun m => (fix prog m).icall f args H) h
  have h1 : (xCn prog (fix prog n)).icall f args H = some v := hn (n + 1) (by omega)
  exact (xA8 (xRR prog n) prog).icall f args H v h1 |>.const
theorem xEk (scr : List Nat) (b : ACode) (s : St) : (lim prog).loop scr b s = xGV (lim prog) scr b s := by
  refine xRS (fun v h => ?_) (fun v h => xN8 h)
  obtain ⟨n,hn⟩ := xBQ (p := fun m => (fix prog m).loop scr b s) h
  have h1 : (xCn prog (fix prog n)).loop scr b s = some v := hn (n + 1) (by omega)
  exact (xA8 (xRR prog n) prog).loop scr b s v h1 |>.const
theorem xAP {f : Nat} {fn : AFunc} (hf : prog f = some fn) (caps args : List AV) (H : Heap) : (lim prog).icall (.func f caps) args H = xBU (lim prog) fn (args ++ caps) H := by
  rw [xFN]
  simp only [xCP,hf]
theorem xL6 (l : Nat) (args : List AV) (H : Heap) : (lim prog).icall (.yield l) args H = xEF (lim prog) l args H := by
  rw [xFN]
  rfl
theorem xD8 (scr : List Nat) (b : ACode) (F : List AV) (H : Heap) : (lim prog).loop scr b ⟨F,H⟩ = (lim prog).loop scr b ⟨xAM scr F,H⟩ := by
  rw [xEk,xEk]
  unfold xGV
  simp only [xNX]
def xCh (R : Rec) (scr : List Nat) (b : ACode) : Option (AExit × St) → Option (AExit × St)
  | some (.normal,s) => R.loop scr b ⟨xAM scr s.F,s.H⟩
  | some (e,s) => some (e,⟨xAM scr s.F,s.H⟩)
  | none => none
theorem xAy (scr : List Nat) (b : ACode) (F : List AV) (H : Heap) (h : xAM scr F = F) : (lim prog).loop scr b ⟨F,H⟩ = xCh (lim prog) scr b (run (lim prog) b ⟨F,H⟩) := by
  rw [xEk]
  unfold xGV xCh
  simp only [h]
  split
  · rename_i s' hs
    rw [hs]
    exact xD8 scr b s'.F s'.H
  · rename_i e s' hne hs
    rw [hs]
    cases e with
    | normal => exact (hne rfl).elim
    | exit i => rfl
    | ret => rfl
  · rename_i hs
    rw [hs]
theorem xOC (scr : List Nat) (b : ACode) (F : List AV) (H : Heap) : run (lim prog) (.loop scr b) ⟨F,H⟩ = (lim prog).loop scr b ⟨xAM scr F,H⟩ := xD8 scr b F H
end
section
variable {R : Rec} {F : List AV} {H : Heap} {s : St}
def xUz (R : Rec) (b : ACode) : Option (AExit × St) → Option (AExit × St)
  | some (.normal,s) => run R b s
  | r => r
theorem xRT (a b : ACode) : run R (.seq a b) s = xUz R b (run R a s) := by
  simp only [run,xUz]
  split <;> simp_all
theorem xG4 (b : ACode) (s : St) : xUz R b (some (.normal,s)) = run R b s := rfl
theorem xL7 (b : ACode) (i : Nat) (s : St) : xUz R b (some (.exit i,s)) = some (.exit i,s) := rfl
theorem xOD (b : ACode) (s : St) : xUz R b (some (.ret,s)) = some (.ret,s) := rfl
theorem xL8 (b : ACode) : xUz R b none = none := rfl
theorem xOE (b : ACode) {c : Prop} [Decidable c] (x y : Option (AExit × St)) : xUz R b (if c then x else y) = if c then xUz R b x else xUz R b y := by split <;> rfl
def xWQ (R : Rec) (a b : ACode) (s : St) : AV → Option (AExit × St)
  | .bool t => if t = true then run R a s else run R b s
  | _ => none
theorem xOF (c : Arg) (a b : ACode) (F : List AV) (H : Heap) : run R (.cond c a b) ⟨F,H⟩ = xWQ R a b ⟨F,H⟩ (opv F c) := by
  simp only [run,xWQ]
  split <;> simp_all
theorem xI8 (a b : ACode) (t : Bool) : xWQ R a b s (.bool t) = if t = true then run R a s else run R b s := rfl
def xEP (id : Nat) : Option (AExit × St) → Option (AExit × St)
  | some (.exit i,s) => if i = id then some (.normal,s) else some (.exit i,s)
  | r => r
theorem xL9 (id : Nat) (b : ACode) : run R (.block id b) s = xEP id (run R b s) := by
  simp only [run,xEP]
  split <;> simp_all
theorem xG5 (id i : Nat) (s : St) : xEP id (some (.exit i,s)) = if i = id then some (.normal,s) else some (.exit i,s) := rfl
theorem xEQ (id : Nat) (s : St) : xEP id (some (.normal,s)) = some (.normal,s) := rfl
theorem xI9 (id : Nat) (s : St) : xEP id (some (.ret,s)) = some (.ret,s) := rfl
theorem xG6 (id : Nat) : xEP id none = none := rfl
theorem xJa (id : Nat) {c : Prop} [Decidable c] (x y : Option (AExit × St)) : xEP id (if c then x else y) = if c then xEP id x else xEP id y := by split <;> rfl
theorem xFO (scr : List Nat) (b : ACode) (F : List AV) (H : Heap) : xCh R scr b (some (.normal,⟨F,H⟩)) = R.loop scr b ⟨xAM scr F,H⟩ := rfl
theorem xJb (scr : List Nat) (b : ACode) (i : Nat) (F : List AV) (H : Heap) : xCh R scr b (some (.exit i,⟨F,H⟩)) = some (.exit i,⟨xAM scr F,H⟩) := rfl
theorem xMa (scr : List Nat) (b : ACode) (F : List AV) (H : Heap) : xCh R scr b (some (.ret,⟨F,H⟩)) = some (.ret,⟨xAM scr F,H⟩) := rfl
theorem xMb (scr : List Nat) (b : ACode) {c : Prop} [Decidable c] (x y : Option (AExit × St)) : xCh R scr b (if c then x else y) = if c then xCh R scr b x else xCh R scr b y := by split <;> rfl
def xTT : Option St → Option (AExit × St)
  | some s => some (.normal,s)
  | none => none
theorem xMc (s : St) : xTT (some s) = some (.normal,s) := rfl
theorem xMd : xTT none = none := rfl
theorem xOG {c : Prop} [Decidable c] (x y : Option St) : xTT (if c then x else y) = if c then xTT x else xTT y := by split <;> rfl
theorem xJc (ops : List AOper) : run R (.region ops) s = xTT (xAu R ops s) := by
  simp only [run,xTT]
  cases xAu R ops s <;> rfl
theorem xOH : run R .skip s = some (.normal,s) := rfl
theorem xMe : run R .label s = some (.normal,s) := rfl
theorem xOI (i : Nat) : run R (.exit i) s = some (.exit i,s) := rfl
theorem xRU : run R .ret s = some (.ret,s) := rfl
theorem xMf (b : ACode) : run R (.scope b) s = run R b s := rfl
theorem xMg : run R .stuck s = none := rfl
def xWR (R : Rec) (rest : List AOper) : Option St → Option St
  | some s => xAu R rest s
  | none => none
theorem xJd : xAu R [] s = some s := rfl
theorem xG7 (o : AOper) (rest : List AOper) : xAu R (o :: rest) s = xWR R rest (xAI R o s) := by
  simp only [xAu,xWR]
  cases xAI R o s <;> rfl
theorem xMh (rest : List AOper) (s : St) : xWR R rest (some s) = xAu R rest s := rfl
theorem xMi (rest : List AOper) : xWR R rest none = none := rfl
theorem xOJ (rest : List AOper) {c : Prop} [Decidable c] (x y : Option St) : xWR R rest (if c then x else y) = if c then xWR R rest x else xWR R rest y := by split <;> rfl
def xRV (F : List AV) (d : Option Nat) : Option (AV × Heap) → Option St
  | some (v,H) => some ⟨putA F d v,H⟩
  | none => none
theorem xRW (d : Nat) (v : AV) : xRV F (some d) (some (v,H)) = some ⟨F.set d v,H⟩ := rfl
theorem xRX (v : AV) : xRV F none (some (v,H)) = some ⟨F,H⟩ := rfl
theorem xMj (d : Option Nat) : xRV F d none = none := rfl
theorem xOK (d : Option Nat) {c : Prop} [Decidable c] (x y : Option (AV × Heap)) : xRV F d (if c then x else y) = if c then xRV F d x else xRV F d y := by split <;> rfl
theorem xMk (d : Option Nat) (op : AOp) : xAI R ⟨d,op,none⟩ ⟨F,H⟩ = xRV F d (xAa R F H op) := by
  simp only [xAI,xBD,xRV]
  cases xAa R F H op <;> rfl
def xOL (R : Rec) (d : Option Nat) (op : AOp) (w : Bool) (F : List AV) (H : Heap) : AV → Option St
  | .bool b => if b = w then xRV F d (xAa R F H op) else some ⟨putA F d (.tup []),H⟩
  | .any => none
  | _ => some ⟨putA F d (.tup []),H⟩
theorem xJe (d : Option Nat) (op : AOp) (t : Nat) (w : Bool) : xAI R ⟨d,op,some (t,w)⟩ ⟨F,H⟩ = xOL R d op w F H (F.getD t .any) := by
  simp only [xAI,xBD,xOL]
  cases F.getD t .any with
  | bool b =>
    cases b <;> cases w <;> simp [xRV] <;> cases xAa R F H op <;> rfl
  | _ => rfl
theorem xG8 (d : Option Nat) (op : AOp) (w b : Bool) : xOL R d op w F H (.bool b) = if b = w then xRV F d (xAa R F H op) else some ⟨putA F d (.tup []),H⟩ := rfl
theorem xJf (d : Option Nat) (op : AOp) (w : Bool) (vs : List AV) : xOL R d op w F H (.tup vs) = some ⟨putA F d (.tup []),H⟩ := rfl
theorem xRY (d : Nat) (v : AV) : putA F (some d) v = F.set d v := rfl
theorem xRZ (v : AV) : putA F none v = F := rfl
def xNY (R : Rec) (m : Nat) (ops : List AOper) : Option St → Option (AExit × St)
  | some s => xTT (xAu R (ops.drop m) (adopt (ops.take m) s))
  | none => none
theorem xOM (m : Nat) (ops : List AOper) : run R (.draw m ops) s = xNY R m ops (xAW R (ops.take m) s) := by
  simp only [run,xNY]
  cases xAW R (ops.take m) s with
  | none => rfl
  | some s1 =>
    simp only [xTT]
    cases xAu R (ops.drop m) (adopt (ops.take m) s1) <;> rfl
theorem xJg (m : Nat) (ops : List AOper) (s : St) : xNY R m ops (some s) = xTT (xAu R (ops.drop m) (adopt (ops.take m) s)) := rfl
theorem xJh (m : Nat) (ops : List AOper) : xNY R m ops none = none := rfl
theorem xMl (m : Nat) (ops : List AOper) {c : Prop} [Decidable c] (x y : Option St) : xNY R m ops (if c then x else y) = if c then xNY R m ops x else xNY R m ops y := by split <;> rfl
def xDG (ls : List (Nat × Nat × Nat × Nat)) : Option St → Option (AExit × St)
  | some s => if ls.all (apart s.F) = true then some (.normal,s) else none
  | none => none
def xG9 (R : Rec) (ls : List (Nat × Nat × Nat × Nat)) (m : Nat) (ops : List AOper) : Option St → Option (AExit × St)
  | some s => xDG ls (xAu R (ops.drop m) (adopt (ops.take m) s))
  | none => none
theorem xMm (ls : List (Nat × Nat × Nat × Nat)) (m : Nat) (ops : List AOper) : run R (.drawl ls m ops) s = xG9 R ls m ops (xAW R (ops.take m) s) := by
  simp only [run,xG9]
  cases xAW R (ops.take m) s with
  | none => rfl
  | some s1 =>
    simp only [xDG]
    cases xAu R (ops.drop m) (adopt (ops.take m) s1) <;> rfl
theorem xHa (ls : List (Nat × Nat × Nat × Nat)) (m : Nat) (ops : List AOper) (s : St) : xG9 R ls m ops (some s) = xDG ls (xAu R (ops.drop m) (adopt (ops.take m) s)) := rfl
theorem xHb (ls : List (Nat × Nat × Nat × Nat)) (m : Nat) (ops : List AOper) : xG9 R ls m ops none = none := rfl
theorem xJi (ls : List (Nat × Nat × Nat × Nat)) (m : Nat) (ops : List AOper) {c : Prop} [Decidable c] (x y : Option St) : xG9 R ls m ops (if c then x else y) = if c then xG9 R ls m ops x else xG9 R ls m ops y := by split <;> rfl
theorem xHc (ls : List (Nat × Nat × Nat × Nat)) (s : St) : xDG ls (some s) = if ls.all (apart s.F) = true then some (.normal,s) else none := rfl
theorem xHd (ls : List (Nat × Nat × Nat × Nat)) : xDG ls none = none := rfl
theorem xJj (ls : List (Nat × Nat × Nat × Nat)) {c : Prop} [Decidable c] (x y : Option St) : xDG ls (if c then x else y) = if c then xDG ls x else xDG ls y := by split <;> rfl
def xNZ (R : Rec) (rest : List AOper) : Option St → Option St
  | some s => xAW R rest s
  | none => none
theorem xHe : xAW R [] s = some s := rfl
theorem xFP (o : AOper) (rest : List AOper) : xAW R (o :: rest) s = xNZ R rest (xAE R o s) := by
  simp only [xAW,xNZ]
  cases xAE R o s <;> rfl
theorem xJk (rest : List AOper) (s : St) : xNZ R rest (some s) = xAW R rest s := rfl
theorem xJl (rest : List AOper) : xNZ R rest none = none := rfl
theorem xMn (rest : List AOper) {c : Prop} [Decidable c] (x y : Option St) : xNZ R rest (if c then x else y) = if c then xNZ R rest x else xNZ R rest y := by split <;> rfl
def xHf (F : List AV) (d : Option Nat) (H : Heap) : Option (AV × Heap) → Option St
  | some (v,_) => some ⟨putA F d v,H⟩
  | none => none
theorem xON (d : Nat) (v : AV) (H' : Heap) : xHf F (some d) H (some (v,H')) = some ⟨F.set d v,H⟩ := rfl
theorem xOO (v : AV) (H' : Heap) : xHf F none H (some (v,H')) = some ⟨F,H⟩ := rfl
theorem xJm (d : Option Nat) : xHf F d H none = none := rfl
theorem xMo (d : Option Nat) {c : Prop} [Decidable c] (x y : Option (AV × Heap)) : xHf F d H (if c then x else y) = if c then xHf F d H x else xHf F d H y := by split <;> rfl
def xAF (R : Rec) (F : List AV) (H : Heap) (op : AOp) : Option (AV × Heap) := (xAq R F H op).map fun v => (v,H)
theorem xJn (d : Option Nat) (op : AOp) : xAE R ⟨d,op,none⟩ ⟨F,H⟩ = xHf F d H (xAF R F H op) := by
  simp only [xAE,xBD,xHf,xAF]
  cases xAq R F H op <;> rfl
def xKL (R : Rec) (d : Option Nat) (op : AOp) (w : Bool) (F : List AV) (H : Heap) : AV → Option St
  | .bool b => if b = w then xHf F d H (xAF R F H op) else some ⟨putA F d (.tup []),H⟩
  | .any => none
  | _ => some ⟨putA F d (.tup []),H⟩
theorem xHg (d : Option Nat) (op : AOp) (t : Nat) (w : Bool) : xAE R ⟨d,op,some (t,w)⟩ ⟨F,H⟩ = xKL R d op w F H (F.getD t .any) := by
  simp only [xAE,xBD,xKL]
  cases F.getD t .any with
  | bool b =>
    cases b <;> cases w <;> simp [xHf,xAF] <;> cases xAq R F H op <;> rfl
  | _ => rfl
theorem xFQ (d : Option Nat) (op : AOp) (w b : Bool) : xKL R d op w F H (.bool b) = if b = w then xHf F d H (xAF R F H op) else some ⟨putA F d (.tup []),H⟩ := rfl
theorem xHh (d : Option Nat) (op : AOp) (w : Bool) (vs : List AV) : xKL R d op w F H (.tup vs) = some ⟨putA F d (.tup []),H⟩ := rfl
def xCi (H : Heap) : Option AV → Option (AV × Heap)
  | some v => some (v,H)
  | none => none
theorem xMp (v : AV) : xCi H (some v) = some (v,H) := rfl
theorem xMq : xCi H none = none := rfl
theorem xOP {c : Prop} [Decidable c] (x y : Option AV) : xCi H (if c then x else y) = if c then xCi H x else xCi H y := by split <;> rfl
theorem xVx (x : Arg) : xAa R F H (.mov x) = some (opv F x,H) := rfl
def xWS : AV → AV → AV → Option AV
  | .bool t,a,b => some (if t = true then a else b)
  | _,_,_ => none
theorem xJo (t : Bool) (a b : AV) : xWS (.bool t) a b = some (if t = true then a else b) := rfl
theorem xR0 (c a b : Arg) : xAa R F H (.pick c a b) = xCi H (xWS (opv F c) (opv F a) (opv F b)) := by
  simp only [xAa,xWS,xCi]
  split <;> simp_all
theorem xVy (x : Arg) : xAa R F H (.box x) = if (opv F x).cells.all AV.isCell = true then some (.ptr H.length 0,H ++ [.cells false false (opv F x).cells]) else none := rfl
theorem xOQ (z : List AV) (parts : List (Nat × Nat × Arg)) : xAa R F H (.build z parts) =
    if parts.all (fun p => (opv F p.2.2).cells.length == p.2.1) = true then xCi H ((fillA z (parts.map fun p => (p.1,(opv F p.2.2).cells))).map AV.agg) else none := by
  simp only [xAa,xCi]
  split
  · cases fillA z (parts.map fun p => (p.1,(opv F p.2.2).cells)) <;> rfl
  · rfl
def xZR (fz z : Bool) (n es : Nat) (H : Heap) : Option (List AV) → Option (AV × Heap)
  | some cs => xDb fz z n es cs H
  | none => none
theorem xMr (fz z : Bool) (n es : Nat) (cs : List AV) : xZR fz z n es H (some cs) = xDb fz z n es cs H := rfl
theorem xOR (z : Bool) (n es : Nat) (cs : List AV) : xDb false z n es cs H = some (.own z H.length 0 n es,H ++ [.cells false z cs]) := rfl
def slK (z : Bool) (n : Nat) : Option (List AV) → Option AV
  | some cs => some (.sl z n cs)
  | none => none
theorem xOS (z : Bool) (n : Nat) (cs : List AV) : slK z n (some cs) = some (.sl z n cs) := rfl
theorem xMs (z : Bool) (n es : Nat) (cs : List AV) : xDb true z n es cs H = if (cs.flatMap (bor frzN H)).isEmpty = true then xCi H (slK z n (cs.mapM (frz frzN H))) else none := by
  simp only [xDb,xCi,slK]
  split
  · rename_i h
    cases cs.mapM (frz frzN H) <;> simp_all
  · simp_all
theorem xMt (fz : Bool) (z : List AV) (es n : Nat) (parts : List (Nat × Arg)) : xAa R F H (.bslice fz z es n parts) =
    if parts.all (fun p => (opv F p.2).cells.length == es) = true then xZR fz false n es H (fillA (xCF z n) (parts.map fun p => (p.1 * es,(opv F p.2).cells))) else none := by
  simp only [xAa,xZR]
  split
  · cases fillA (xCF z n) (parts.map fun p => (p.1 * es,(opv F p.2).cells)) <;> rfl
  · rfl
def xUA (g : Bool) : Option (List AV) → Option AV
  | some cs => mkv g cs
  | none => none
theorem xR1 (v : AV) : xUA false (some [v]) = some v := rfl
theorem xR2 (cs : List AV) : xUA true (some cs) = some (.agg cs) := rfl
theorem xR3 (g : Bool) (n : Nat) (p : Arg) : xAa R F H (.load g n p) = xCi H (xUA g (rd H (opv F p) n)) := by
  simp only [xAa,xCi,xUA]
  cases rd H (opv F p) n with
  | none => rfl
  | some cs => simp only; cases mkv g cs <;> rfl
def rdK (off n : Nat) : Option Blk → Option (List AV)
  | some (.cells _ _ cs) => if off + n ≤ cs.length then some ((cs.drop off).take n) else none
  | _ => none
theorem xVz (id off n : Nat) : rd H (.ptr id off) n = rdK off n H[id]? := by
  simp only [rd,rdK]
  rfl
theorem xMu {off n : Nat} {fz z : Bool} {cs : List AV} (h : off + n ≤ cs.length) : rdK off n (some (.cells fz z cs)) = some ((cs.drop off).take n) := if_pos h
theorem xR4 {off n : Nat} {cs : List AV} (h : off + n ≤ cs.length) : rd H (.vptr cs off) n = some ((cs.drop off).take n) := if_pos h
def wrK (H : Heap) (id off : Nat) (vs : List AV) : Option Blk → Option Heap
  | some (.cells false z cs) => if off + vs.length ≤ cs.length ∧ vs.all AV.isCell = true then some (H.set id (.cells false z (splice cs off vs))) else none
  | _ => none
theorem xVA (id off : Nat) (vs : List AV) : wr H (.ptr id off) vs = wrK H id off vs H[id]? := by
  simp only [wr,wrK]
  rfl
theorem xMv {id off : Nat} {vs : List AV} {z : Bool} {cs : List AV} (h : off + vs.length ≤ cs.length) (h2 : vs.all AV.isCell = true) : wrK H id off vs (some (.cells false z cs)) = some (H.set id (.cells false z (splice cs off vs))) := if_pos ⟨h,h2⟩
def xR5 : Option Heap → Option (AV × Heap)
  | some H => some (.tup [],H)
  | none => none
theorem xHi (H : Heap) : xR5 (some H) = some (.tup [],H) := rfl
theorem xOT (n : Nat) (p v : Arg) : xAa R F H (.store n p v) = if (opv F v).cells.length = n then xR5 (wr H (opv F p) (opv F v).cells) else none := by
  simp only [xAa,xR5]
  split
  · cases wr H (opv F p) (opv F v).cells <;> rfl
  · rfl
def xYC : AV → Option AV
  | .ptr id off => some (.ptr id off)
  | .vptr cs off => some (.vptr cs off)
  | .func f caps => some (.func f caps)
  | .yield l => some (.yield l)
  | _ => none
theorem xOU (id off : Nat) : xYC (.ptr id off) = some (.ptr id off) := rfl
theorem xMw (cs : List AV) (off : Nat) : xYC (.vptr cs off) = some (.vptr cs off) := rfl
theorem xMx (f : Nat) (cs : List AV) : xYC (.func f cs) = some (.func f cs) := rfl
theorem xJp (l : Nat) : xYC (.yield l) = some (.yield l) := rfl
theorem xMy (x : Arg) : xAa R F H (.nilchk x) = xCi H (xYC (opv F x)) := by
  simp only [xAa]
  cases opv F x <;> rfl
theorem xVB (op : BinOp) (x y : Arg) : xAa R F H (.bin op x y) = xCi H (xC5 op (opv F x) (opv F y)) := by
  simp only [xAa,xCi]
  cases xC5 op (opv F x) (opv F y) <;> rfl
section
variable (k : IntKind) (a b : Int)
theorem xR6 : xC5 .add (.int k a) (.int k b) = some (.int k (k.wrap (a + b))) := by simp [xC5]
theorem xR7 : xC5 .sub (.int k a) (.int k b) = some (.int k (k.wrap (a - b))) := by simp [xC5]
theorem xR8 : xC5 .mul (.int k a) (.int k b) = some (.int k (k.wrap (a * b))) := by simp [xC5]
theorem xR9 (h : b ≠ 0) : xC5 .quo (.int k a) (.int k b) = some (.int k (k.wrap (a.tdiv b))) := by simp [xC5,h]
theorem xSa (h : b ≠ 0) : xC5 .rem (.int k a) (.int k b) = some (.int k (a.tmod b)) := by simp [xC5,h]
theorem xSb : xC5 .and (.int k a) (.int k b) = some (.int k (xIl .and k a b)) := by simp [xC5]
theorem xVC : xC5 .or (.int k a) (.int k b) = some (.int k (xIl .or k a b)) := by simp [xC5]
theorem xSc : xC5 .xor (.int k a) (.int k b) = some (.int k (xIl .xor k a b)) := by simp [xC5]
theorem xJq : xC5 .andNot (.int k a) (.int k b) = some (.int k (xIl .andNot k a b)) := by simp [xC5]
theorem xSd (k' : IntKind) (h : 0 ≤ b) : xC5 .shl (.int k a) (.int k' b) = some (.int k (k.wrap (a * 2 ^ (min b.toNat k.bits)))) := by simp only [xC5]; rw [if_neg (by omega)]
theorem xSe (k' : IntKind) (h : 0 ≤ b) : xC5 .shr (.int k a) (.int k' b) = some (.int k (a.fdiv (2 ^ (min b.toNat k.bits)))) := by simp only [xC5]; rw [if_neg (by omega)]
theorem xSf : xC5 .eql (.int k a) (.int k b) = some (.bool (decide (a = b))) := by simp [xC5]; rfl
theorem xSg : xC5 .neq (.int k a) (.int k b) = some (.bool (!decide (a = b))) := by simp [xC5]; rfl
theorem xSh : xC5 .lss (.int k a) (.int k b) = some (.bool (decide (a < b))) := by simp [xC5]
theorem xSi : xC5 .leq (.int k a) (.int k b) = some (.bool (decide (a ≤ b))) := by simp [xC5]
theorem xSj : xC5 .gtr (.int k a) (.int k b) = some (.bool (decide (b < a))) := by simp [xC5]
theorem xSk : xC5 .geq (.int k a) (.int k b) = some (.bool (decide (b ≤ a))) := by simp [xC5]
end
def xZS (neg : Bool) : AV → AV → Option AV
  | .bool a,.bool b => some (.bool (if neg = true then a != b else a == b))
  | _,_ => none
theorem xVD (a b : Bool) : xZS false (.bool a) (.bool b) = some (.bool (decide (a = b))) := by cases a <;> cases b <;> rfl
theorem xVE (a b : Bool) : xZS true (.bool a) (.bool b) = some (.bool (!decide (a = b))) := by cases a <;> cases b <;> rfl
theorem xVF (neg : Bool) (x y : Arg) : xAa R F H (.beq neg x y) = xCi H (xZS neg (opv F x) (opv F y)) := by
  simp only [xAa]
  cases opv F x <;> cases opv F y <;> rfl
def xMz (neg : Bool) : AV → Option AV
  | .sl z _ _ => some (.bool (z != neg))
  | .own z _ _ _ _ => some (.bool (z != neg))
  | _ => none
theorem xJr (z : Bool) (n : Nat) (cs : List AV) : xMz false (.sl z n cs) = some (.bool z) := by cases z <;> rfl
theorem xJs (z : Bool) (n : Nat) (cs : List AV) : xMz true (.sl z n cs) = some (.bool (!z)) := by cases z <;> rfl
theorem xHj (z : Bool) (id off n es : Nat) : xMz false (.own z id off n es) = some (.bool z) := by cases z <;> rfl
theorem xHk (z : Bool) (id off n es : Nat) : xMz true (.own z id off n es) = some (.bool (!z)) := by cases z <;> rfl
theorem xOV (neg : Bool) (x : Arg) : xAa R F H (.isnil neg x) = xCi H (xMz neg (opv F x)) := by
  simp only [xAa]
  cases opv F x <;> rfl
theorem xYD (op : UnOp) (x : Arg) : xAa R F H (.un op x) = xCi H (unA op (opv F x)) := by
  simp only [xAa,xCi]
  cases unA op (opv F x) <;> rfl
theorem xVG (b : Bool) : unA .not (.bool b) = some (.bool !b) := rfl
theorem xVH (k : IntKind) (n : Int) : unA .neg (.int k n) = some (.int k (k.wrap (0 - n))) := rfl
theorem xVI (k : IntKind) (n : Int) : unA .xor (.int k n) = some (.int k (xIl .xor k (if k.signed then -1 else k.max) n)) := rfl
def xYE (k : IntKind) : AV → Option AV
  | .int _ n => some (.int k (k.wrap n))
  | _ => none
theorem xMA (k k' : IntKind) (n : Int) : xYE k (.int k' n) = some (.int k (k.wrap n)) := rfl
theorem xSl (k : IntKind) (x : Arg) : xAa R F H (.conv k x) = xCi H (xYE k (opv F x)) := by
  simp only [xAa]
  cases opv F x <;> rfl
theorem xMB (f : Nat) (caps : List Arg) : xAa R F H (.mkfunc f caps) = some (.func f (caps.map (opv F)),H) := rfl
def yAG (fz : Bool) (z : List AV) (bytes : Nat) (H : Heap) : AV → AV → Option (AV × Heap)
  | .int _ l,.int _ c => if 0 ≤ l ∧ l ≤ c ∧ c * bytes ≤ xA4 ∧ c ≤ xA4 ∧ z.all AV.isCell = true then xDb fz false l.toNat z.length (xCF z l.toNat) H else none
  | _,_ => none
theorem xOW (fz : Bool) (z : List AV) (bytes : Nat) (k k' : IntKind) {l c : Int} (h1 : 0 ≤ l) (h2 : l ≤ c) (h3 : c * bytes ≤ 140737488355328) (h4 : c ≤ 140737488355328) (h5 : z.all AV.isCell = true) : yAG fz z bytes H (.int k l) (.int k' c) = xDb fz false l.toNat z.length (xCF z l.toNat) H := if_pos ⟨h1,h2,h3,h4,h5⟩
theorem xJt (fz : Bool) (z : List AV) (bytes : Nat) (l c : Arg) : xAa R F H (.mkslice fz z bytes l c) = yAG fz z bytes H (opv F l) (opv F c) := by
  simp only [xAa]
  cases opv F l <;> cases opv F c <;> rfl
def xWT (es : Nat) (H : Heap) (x : AV) : Option (Nat × Nat) → Option AV
  | none => none
  | some (l,h) => match x with
    | .sl z _ cs => some (.sl z (h - l) ((cs.drop (l * es)).take ((h - l) * es)))
    | .own z id off _ _ => some (.own z id (off + l * es) (h - l) es)
    | _ => none
def xOX (es : Nat) (H : Heap) (lo hi mx : Option AV) : AV → Option AV
  | .sl z n cs => if cs.length = n * es then xWT es H (.sl z n cs) (xA6 n lo hi mx) else none
  | .own z id off n es' => if es' = es then xWT es H (.own z id off n es') (xA6 n lo hi mx) else none
  | _ => none
theorem xOY (es : Nat) (x : Arg) (lo hi mx : Option Arg) : xAa R F H (.slice es x lo hi mx) = xCi H (xOX es H (lo.map (opv F)) (hi.map (opv F)) (mx.map (opv F)) (opv F x)) := by
  simp only [xAa,xCi,xOX,xWT]
  cases opv F x with
  | sl z n cs =>
    simp only
    split
    · cases xA6 n (lo.map (opv F)) (hi.map (opv F)) (mx.map (opv F)) <;> rfl
    · rfl
  | own z id off n es' =>
    simp only
    split
    · cases xA6 n (lo.map (opv F)) (hi.map (opv F)) (mx.map (opv F)) <;> rfl
    · rfl
  | _ => rfl
theorem xMC {es n : Nat} {z : Bool} {cs : List AV} (lo hi mx : Option AV) (h : cs.length = n * es) : xOX es H lo hi mx (.sl z n cs) = xWT es H (.sl z n cs) (xA6 n lo hi mx) := if_pos h
theorem xJu {es n id off : Nat} {z : Bool} (lo hi mx : Option AV) : xOX es H lo hi mx (.own z id off n es) = xWT es H (.own z id off n es) (xA6 n lo hi mx) := if_pos rfl
theorem xSm (es : Nat) (z : Bool) (n : Nat) (cs : List AV) (l h : Nat) : xWT es H (.sl z n cs) (some (l,h)) = some (.sl z (h - l) ((cs.drop (l * es)).take ((h - l) * es))) := rfl
theorem xOZ (es : Nat) (z : Bool) (id off n es' : Nat) (l h : Nat) : xWT es H (.own z id off n es') (some (l,h)) = some (.own z id (off + l * es) (h - l) es) := rfl
theorem xMD (n : Nat) : xA6 n none none none = some (0,n) := by simp [xA6]
theorem xME {n : Nat} {k : IntKind} {l : Int} (h0 : 0 ≤ l) (h : l ≤ n) : xA6 n (some (.int k l)) none none = some (l.toNat,n) := by
  simp only [xA6,xA1,if_pos h0]
  rw [if_pos ⟨by omega,by omega⟩]
theorem xMF {n : Nat} {k : IntKind} {m : Int} (h0 : 0 ≤ m) (h : m ≤ n) : xA6 n none (some (.int k m)) none = some (0,m.toNat) := by
  simp only [xA6,xA1,if_pos h0]
  rw [if_pos ⟨by omega,by omega⟩]
theorem xMG {n : Nat} {k k' : IntKind} {l m : Int} (h0 : 0 ≤ l) (h1 : l ≤ m) (h : m ≤ n) : xA6 n (some (.int k l)) (some (.int k' m)) none = some (l.toNat,m.toNat) := by
  have h2 : 0 ≤ m := by omega
  simp only [xA6,xA1,if_pos h0,if_pos h2]
  rw [if_pos ⟨by omega,by omega⟩]
def xSn (o : Nat) : AV → Option AV
  | .ptr id off => some (.ptr id (off + o))
  | .vptr cs off => some (.vptr cs (off + o))
  | _ => none
theorem xJv (o id off : Nat) : xSn o (.ptr id off) = some (.ptr id (off + o)) := rfl
theorem xHl (o : Nat) (cs : List AV) (off : Nat) : xSn o (.vptr cs off) = some (.vptr cs (off + o)) := rfl
theorem xO0 (o : Nat) (x : Arg) : xAa R F H (.faddr o x) = xCi H (xSn o (opv F x)) := by
  simp only [xAa]
  cases opv F x <;> rfl
def xSo (g : Bool) (off n : Nat) : AV → Option AV
  | .agg cs => if off + n ≤ cs.length then mkv g ((cs.drop off).take n) else none
  | _ => none
theorem xJw {g : Bool} {off n : Nat} {cs : List AV} (h : off + n ≤ cs.length) : xSo g off n (.agg cs) = mkv g ((cs.drop off).take n) := if_pos h
theorem xYF (v : AV) : mkv false [v] = some v := rfl
theorem xYG (cs : List AV) : mkv true cs = some (.agg cs) := rfl
theorem xO1 (g : Bool) (off n : Nat) (x : Arg) : xAa R F H (.field g off n x) = xCi H (xSo g off n (opv F x)) := by
  simp only [xAa]
  cases opv F x with
  | agg cs =>
    simp only [xSo,xCi]
    split
    · cases mkv g ((cs.drop off).take n) <;> rfl
    · rfl
  | _ => rfl
def xJx (es : Nat) : AV → AV → Option AV
  | .sl _ n cs,.int _ i => if 0 ≤ i ∧ i.toNat < n then some (.vptr cs (i.toNat * es)) else none
  | .own _ id off n es',.int _ i => if 0 ≤ i ∧ i.toNat < n ∧ es' = es then some (.ptr id (off + i.toNat * es)) else none
  | _,_ => none
theorem xMH {es n : Nat} {z : Bool} {cs : List AV} {k : IntKind} {i : Int} (h0 : 0 ≤ i) (h : i < n) : xJx es (.sl z n cs) (.int k i) = some (.vptr cs (i.toNat * es)) := if_pos ⟨h0,by omega⟩
theorem xJy {es n id off : Nat} {z : Bool} {k : IntKind} {i : Int} (h0 : 0 ≤ i) (h : i < n) : xJx es (.own z id off n es) (.int k i) = some (.ptr id (off + i.toNat * es)) := if_pos ⟨h0,by omega,rfl⟩
theorem xO2 (es : Nat) (x i : Arg) : xAa R F H (.iaddr es x i) = xCi H (xJx es (opv F x) (opv F i)) := by
  simp only [xAa]
  cases opv F x with
  | sl z n cs =>
    cases opv F i with
    | int k j =>
      simp only [xA1,xJx,xCi]
      by_cases h : 0 ≤ j
      · by_cases h2 : j.toNat < n <;> simp [h,h2]
      · simp [h]
    | _ => rfl
  | own z id off n es' =>
    cases opv F i with
    | int k j =>
      simp only [xA1,xJx,xCi]
      by_cases h : 0 ≤ j
      · by_cases h2 : j.toNat < n
        · by_cases h3 : es' = es <;> simp [h,h2,h3]
        · simp [h,h2]
      · simp [h]
    | _ => rfl
  | _ => cases opv F i <;> simp [xJx,xCi,xA1] <;> split <;> simp_all
def xZT (i : Nat) : AV → Option AV
  | .tup vs => vs[i]?
  | _ => none
theorem xO3 (i : Nat) (vs : List AV) : xZT i (.tup vs) = vs[i]? := rfl
theorem xVJ (i : Nat) (x : Arg) : xAa R F H (.ext i x) = xCi H (xZT i (opv F x)) := by
  simp only [xAa]
  cases opv F x with
  | tup vs => simp only [xZT,xCi]; cases vs[i]? <;> rfl
  | _ => rfl
def xZU : AV → Option AV
  | .sl _ n _ => some (.int .i64 n)
  | .own _ _ _ n _ => some (.int .i64 n)
  | _ => none
theorem xSp (z : Bool) (n : Nat) (cs : List AV) : xZU (.sl z n cs) = some (.int .i64 n) := rfl
theorem xO4 (z : Bool) (id off n es : Nat) : xZU (.own z id off n es) = some (.int .i64 n) := rfl
theorem xVK (x : Arg) : xAa R F H (.len x) = xCi H (xZU (opv F x)) := by
  simp only [xAa]
  cases opv F x <;> rfl
theorem xVL (x : Arg) : xAa R F H (.cap x) = match opv F x with
  | .sl true _ _ => some (.int .i64 0,H)
  | _ => none := rfl
def xZV (neg : Bool) (n : Nat) : AV → AV → Option AV
  | .agg cs,.agg ds => if cs.length = n then (xBu cs ds).map fun b => .bool (b != neg) else none
  | _,_ => none
theorem xO5 {neg : Bool} {n : Nat} {cs ds : List AV} (h : cs.length = n) : xZV neg n (.agg cs) (.agg ds) = (xBu cs ds).map fun b => .bool (b != neg) := if_pos h
theorem xVM (neg : Bool) (n : Nat) (x y : Arg) : xAa R F H (.aeq neg n x y) = xCi H (xZV neg n (opv F x) (opv F y)) := by
  simp only [xAa]
  cases opv F x with
  | agg cs => cases opv F y with
    | agg ds =>
      simp only [xZV,xCi]
      split
      · cases xBu cs ds <;> rfl
      · rfl
    | _ => rfl
  | _ => rfl
def xVN (fz : Bool) (es bytes : Nat) (H : Heap) (x : AV) : Option (Nat × List AV) → Option (AV × Heap)
  | none => none
  | some (m,ys) => match x with
    | .sl true _ _ => if m * bytes ≤ xA4 ∧ m ≤ xA4 then xDb fz (m == 0) m es ys H else none
    | .own z id off n es' => match H[id]? with
      | some (.cells false _ cs) => if off = 0 ∧ es' = es ∧ n * es ≤ cs.length ∧ (n + m) * bytes ≤ xA4 ∧ n + m ≤ xA4 then
          some (.own (z && m == 0) H.length 0 (n + m) es,H.set id .dead ++ [.cells false (z && m == 0) (cs.take (n * es) ++ ys)]) else none
      | _ => none
    | _ => none
theorem xHm (fz : Bool) (es bytes : Nat) (x y : Arg) : xAa R F H (.append fz es bytes x y) = xVN fz es bytes H (opv F x) (src H es (opv F y)) := by
  simp only [xAa,xVN]
  cases src H es (opv F y) <;> rfl
theorem xO6 {fz : Bool} {es bytes n m : Nat} {cs ys : List AV} (h : m * bytes ≤ 140737488355328) (h2 : m ≤ 140737488355328) : xVN fz es bytes H (.sl true n cs) (some (m,ys)) = xDb fz (m == 0) m es ys H := if_pos ⟨h,h2⟩
def xWU (es bytes n m : Nat) (H : Heap) (z : Bool) (id : Nat) (ys : List AV) : Option Blk → Option (AV × Heap)
  | some (.cells false _ cs) => if n * es ≤ cs.length ∧ (n + m) * bytes ≤ xA4 ∧ n + m ≤ xA4 then
      some (.own (z && m == 0) H.length 0 (n + m) es,H.set id .dead ++ [.cells false (z && m == 0) (cs.take (n * es) ++ ys)]) else none
  | _ => none
theorem xO7 (fz : Bool) (es bytes n m id : Nat) (z : Bool) (ys : List AV) : xVN fz es bytes H (.own z id 0 n es) (some (m,ys)) = xWU es bytes n m H z id ys H[id]? := by
  simp only [xVN,xWU]
  split
  · rename_i z' cs hb
    by_cases h : n * es ≤ cs.length ∧ (n + m) * bytes ≤ xA4 ∧ n + m ≤ xA4
    · rw [if_pos h,if_pos ⟨trivial,trivial,h⟩]
    · rw [if_neg h,if_neg (fun g => h g.2.2)]
  · rename_i hne
    cases hb : H[id]? with
    | none => rfl
    | some b => cases b with
      | cells fz z cs => cases fz with
        | false => exact (hne _ _ hb).elim
        | true => rfl
      | _ => rfl
theorem xHn {es bytes n m id : Nat} {z z' : Bool} {ys cs : List AV} (h : n * es ≤ cs.length) (h2 : (n + m) * bytes ≤ 140737488355328) (h3 : n + m ≤ 140737488355328) : xWU es bytes n m H z id ys (some (.cells false z' cs)) =
    some (.own (z && m == 0) H.length 0 (n + m) es,H.set id .dead ++ [.cells false (z && m == 0) (cs.take (n * es) ++ ys)]) := if_pos ⟨h,h2,h3⟩
theorem xVO {es n : Nat} {z : Bool} {cs : List AV} (h : cs.length = n * es) : src H es (.sl z n cs) = some (n,cs) := if_pos h
def xZW (off n es : Nat) : Option Blk → Option (Nat × List AV)
  | some (.cells _ _ cs) => if off + n * es ≤ cs.length then some (n,(cs.drop off).take (n * es)) else none
  | _ => none
theorem xSq (es n id off : Nat) (z : Bool) : src H es (.own z id off n es) = xZW off n es H[id]? := by
  simp only [src,xZW]
  cases H[id]? with
  | none => rfl
  | some b => cases b <;> simp
theorem xJz {es n off : Nat} {fz z : Bool} {cs : List AV} (h : off + n * es ≤ cs.length) : xZW off n es (some (.cells fz z cs)) = some (n,(cs.drop off).take (n * es)) := if_pos h
def xMI (z : List AV) (bytes : Nat) (H : Heap) : AV → AV → Option (AV × Heap)
  | .sl true _ _,.int _ m => if 0 ≤ m ∧ m.toNat * bytes ≤ xA4 ∧ m.toNat ≤ xA4 ∧ z.all AV.isCell = true then xDb false (m.toNat == 0) m.toNat z.length (xCF z m.toNat) H else none
  | _,_ => none
theorem xJA (z : List AV) (bytes : Nat) (x n : Arg) : xAa R F H (.appendz z bytes x n) = xMI z bytes H (opv F x) (opv F n) := by
  simp only [xAa]
  cases hn : opv F n with
  | int k m =>
    simp only [xA1]
    by_cases h : 0 ≤ m
    · cases hx : opv F x with
      | sl zz nn cs => cases zz <;> simp [xMI,h]
      | _ => simp [xMI,h]
    · cases hx : opv F x with
      | sl zz nn cs => cases zz <;> simp [xMI,h]
      | _ => simp [xMI,h]
  | _ =>
    cases hx : opv F x with
    | sl zz nn cs => cases zz <;> simp [xMI,xA1]
    | _ => simp [xMI,xA1]
theorem xMJ {z : List AV} {bytes n : Nat} {cs : List AV} {k : IntKind} {m : Int} (h0 : 0 ≤ m) (h1 : m.toNat * bytes ≤ 140737488355328) (h2 : m.toNat ≤ 140737488355328) (h3 : z.all AV.isCell = true) : xMI z bytes H (.sl true n cs) (.int k m) = xDb false (m.toNat == 0) m.toNat z.length (xCF z m.toNat) H := if_pos ⟨h0,h1,h2,h3⟩
def xZX : AV → AV → Option AV
  | .int k a,.int _ b => some (.int k (max a b))
  | _,_ => none
def xZY : AV → AV → Option AV
  | .int k a,.int _ b => some (.int k (min a b))
  | _,_ => none
theorem xO8 (k k' : IntKind) (a b : Int) : xZX (.int k a) (.int k' b) = some (.int k (max a b)) := rfl
theorem xO9 (k k' : IntKind) (a b : Int) : xZY (.int k a) (.int k' b) = some (.int k (min a b)) := rfl
theorem xSr (x y : Arg) : xAa R F H (.maxi x y) = xCi H (xZX (opv F x) (opv F y)) := by
  simp only [xAa]
  cases opv F x with
  | int k a => cases opv F y with
    | int k' b => simp only [xZX,xCi]; congr 3; split <;> omega
    | _ => rfl
  | _ => rfl
theorem xSs (x y : Arg) : xAa R F H (.mini x y) = xCi H (xZY (opv F x) (opv F y)) := by
  simp only [xAa]
  cases opv F x with
  | int k a => cases opv F y with
    | int k' b => simp only [xZY,xCi]; congr 3; split <;> omega
    | _ => rfl
  | _ => rfl
theorem xVP (z : List AV) : xCF z 0 = [] := rfl
theorem xVQ (z : List AV) : xCF z 1 = z ++ ([]) := rfl
theorem xVR (z : List AV) : xCF z 2 = z ++ (z ++ ([])) := rfl
theorem xVS (z : List AV) : xCF z 3 = z ++ (z ++ (z ++ ([]))) := rfl
theorem xVT (z : List AV) : xCF z 4 = z ++ (z ++ (z ++ (z ++ ([])))) := rfl
theorem xVU (z : List AV) : xCF z 5 = z ++ (z ++ (z ++ (z ++ (z ++ ([]))))) := rfl
theorem xVV (z : List AV) : xCF z 6 = z ++ (z ++ (z ++ (z ++ (z ++ (z ++ ([])))))) := rfl
theorem xVW (z : List AV) : xCF z 7 = z ++ (z ++ (z ++ (z ++ (z ++ (z ++ (z ++ ([]))))))) := rfl
theorem xVX (z : List AV) : xCF z 8 = z ++ (z ++ (z ++ (z ++ (z ++ (z ++ (z ++ (z ++ ([])))))))) := rfl
theorem xVY (z : List AV) : xCF z 9 = z ++ (z ++ (z ++ (z ++ (z ++ (z ++ (z ++ (z ++ (z ++ ([]))))))))) := rfl
theorem xSt (z : List AV) : xCF z 10 = z ++ (z ++ (z ++ (z ++ (z ++ (z ++ (z ++ (z ++ (z ++ (z ++ ([])))))))))) := rfl
theorem xSu (z : List AV) : xCF z 11 = z ++ (z ++ (z ++ (z ++ (z ++ (z ++ (z ++ (z ++ (z ++ (z ++ (z ++ ([]))))))))))) := rfl
theorem xSv (z : List AV) : xCF z 12 = z ++ (z ++ (z ++ (z ++ (z ++ (z ++ (z ++ (z ++ (z ++ (z ++ (z ++ (z ++ ([])))))))))))) := rfl
theorem xHo (d : Nat) (k : IntKind) (n : Int) : frz d H (.int k n) = some (.int k n) := by cases d <;> rfl
theorem xPa (d : Nat) (b : Bool) : frz d H (.bool b) = some (.bool b) := by cases d <;> rfl
theorem xSw (d : Nat) (b : ByteArray) : frz d H (.str b) = some (.str b) := by cases d <;> rfl
theorem xPb (d : Nat) : frz d H .nilp = some .nilp := by cases d <;> rfl
theorem xPc (d : Nat) : frz d H .nilf = some .nilf := by cases d <;> rfl
theorem xSx (d : Nat) : frz d H .any = some .any := by cases d <;> rfl
theorem xPd (d f : Nat) : frz d H (.func f []) = some (.func f []) := by cases d <;> rfl
theorem xVZ (d : Nat) (z : Bool) (n : Nat) (cs : List AV) : frz d H (.sl z n cs) = some (.sl z n cs) := by cases d <;> rfl
theorem xSy (d : Nat) (cs : List AV) : frz (d + 1) H (.agg cs) = (cs.mapM (frz d H)).map AV.agg := rfl
theorem xSz (d : Nat) (cs : List AV) : frz (d + 1) H (.tup cs) = (cs.mapM (frz d H)).map AV.tup := rfl
def xZZ (d : Nat) (H : Heap) (z : Bool) (off n es : Nat) : Option Blk → Option AV
  | some (.cells _ _ cs) => if off + n * es ≤ cs.length then slK z n (((cs.drop off).take (n * es)).mapM (frz d H)) else none
  | _ => none
theorem xAg (d : Nat) (z : Bool) (id off n es : Nat) : frz (d + 1) H (.own z id off n es) = xZZ d H z off n es H[id]? := by
  simp only [frz,xZZ]
  cases H[id]? with
  | none => rfl
  | some b => cases b with
    | cells fz z' cs =>
      simp only
      split
      · cases ((cs.drop off).take (n * es)).mapM (frz d H) <;> rfl
      · rfl
    | _ => rfl
theorem xJB {d off n es : Nat} {z fz z' : Bool} {cs : List AV} (h : off + n * es ≤ cs.length) : xZZ d H z off n es (some (.cells fz z' cs)) = slK z n (((cs.drop off).take (n * es)).mapM (frz d H)) := if_pos h
theorem xFq (d : Nat) (k : IntKind) (n : Int) : bor d H (.int k n) = [] := by cases d <;> rfl
theorem xPe (d : Nat) (b : Bool) : bor d H (.bool b) = [] := by cases d <;> rfl
theorem xSA (d : Nat) (b : ByteArray) : bor d H (.str b) = [] := by cases d <;> rfl
theorem xPf (d : Nat) : bor d H .nilp = [] := by cases d <;> rfl
theorem xPg (d : Nat) : bor d H .nilf = [] := by cases d <;> rfl
theorem xSB (d : Nat) : bor d H .any = [] := by cases d <;> rfl
theorem xPh (d f : Nat) (cs : List AV) : bor d H (.func f cs) = [] := by cases d <;> rfl
theorem xV0 (ss : List Nat) (b : ACode) (s : St) : run R (.fz ss b) s = run R b ⟨s.F,fzIds s.H (ss.flatMap fun i => bor frzN s.H (s.F.getD i .any))⟩ := rfl
def xZ0 (R : Rec) (i : Nat) (b : ACode) (s : St) (ids : List Nat) : Option AV → Option (AExit × St)
  | some v => run R b ⟨s.F.set i v,fzIds s.H ids⟩
  | none => none
theorem xSC (i : Nat) (b : ACode) (s : St) : run R (.fzs i b) s = xZ0 R i b s (bor frzN s.H (s.F.getD i .any)) (frz frzN s.H (s.F.getD i .any)) := by
  simp only [run,xZ0]
  cases frz frzN s.H (s.F.getD i .any) <;> rfl
theorem xMK (i : Nat) (b : ACode) (s : St) (ids : List Nat) (v : AV) : xZ0 R i b s ids (some v) = run R b ⟨s.F.set i v,fzIds s.H ids⟩ := rfl
def xZ1 (d : Nat) (H : Heap) (off : Nat) : Option Blk → Option AV
  | some (.cells _ _ cs) => (cs.mapM (frz d H)).map fun cs' => .vptr cs' off
  | _ => none
theorem xSD (d i o : Nat) : frz (d + 1) H (.ptr i o) = xZ1 d H o H[i]? := by
  simp only [frz,xZ1]
  cases H[i]? with
  | none => rfl
  | some b => cases b <;> rfl
theorem xJC (d : Nat) (o : Nat) (fz z : Bool) (cs : List AV) : xZ1 d H o (some (.cells fz z cs)) = (cs.mapM (frz d H)).map fun cs' => .vptr cs' o := rfl
theorem xPi (d : Nat) (cs : List AV) (o : Nat) : frz d H (.vptr cs o) = some (.vptr cs o) := by cases d <;> rfl
def xWV (d : Nat) (H : Heap) : Option Blk → List Nat
  | some (.cells _ _ cs) => cs.flatMap (bor d H)
  | _ => []
theorem xSE (d i o : Nat) : bor (d + 1) H (.ptr i o) = i :: xWV d H H[i]? := by
  simp only [bor,xWV]
  cases H[i]? with
  | none => rfl
  | some b => cases b <;> rfl
theorem xHp (d : Nat) (fz z : Bool) (cs : List AV) : xWV d H (some (.cells fz z cs)) = cs.flatMap (bor d H) := rfl
theorem xPj (d : Nat) (cs : List AV) (o : Nat) : bor d H (.vptr cs o) = [] := by cases d <;> rfl
def xWW : Option Blk → Bool
  | some (.cells true _ _) => true
  | _ => false
theorem xJD (i : Nat) : xFn H i = xWW H[i]? := by
  simp only [xFn,xWW]
  cases H[i]? with
  | none => rfl
  | some b => cases b with
    | cells fz z cs => cases fz <;> rfl
    | _ => rfl
theorem xSF (z : Bool) (cs : List AV) : xWW (some (.cells true z cs)) = true := rfl
theorem xV1 (d : Nat) (z : Bool) (n : Nat) (cs : List AV) : bor d H (.sl z n cs) = [] := by cases d <;> rfl
theorem xSG (d : Nat) (cs : List AV) : bor (d + 1) H (.agg cs) = cs.flatMap (bor d H) := rfl
theorem xSH (d : Nat) (cs : List AV) : bor (d + 1) H (.tup cs) = cs.flatMap (bor d H) := rfl
def xZ2 (d : Nat) (H : Heap) (off n es : Nat) : Option Blk → List Nat
  | some (.cells _ _ cs) => ((cs.drop off).take (n * es)).flatMap (bor d H)
  | _ => []
theorem xAh (d : Nat) (z : Bool) (id off n es : Nat) : bor (d + 1) H (.own z id off n es) = id :: xZ2 d H off n es H[id]? := by
  simp only [bor,xZ2]
  cases H[id]? with
  | none => rfl
  | some b => cases b <;> rfl
theorem xJE (d off n es : Nat) (fz z : Bool) (cs : List AV) : xZ2 d H off n es (some (.cells fz z cs)) = ((cs.drop off).take (n * es)).flatMap (bor d H) := rfl
def xV2 (args : List AV) (H : Heap) : Option AV → Option (AV × Heap)
  | some r => some (r,if xAD r = true then H else fzIds H (args.flatMap (bor frzN H)))
  | none => none
theorem xML (args : List AV) (r : AV) : xV2 args H (some r) = some (r,if xAD r = true then H else fzIds H (args.flatMap (bor frzN H))) := rfl
theorem xMM (args : List AV) : xV2 args H none = none := rfl
theorem xPk (args : List AV) {c : Prop} [Decidable c] (x y : Option AV) : xV2 args H (if c then x else y) = if c then xV2 args H x else xV2 args H y := by split <;> rfl
def xZ3 (R : Rec) (f : Nat) (args : List AV) (H : Heap) : Option (List AV) → Option (AV × Heap)
  | some args' => xV2 args H (R.pcall f args')
  | none => none
theorem xMN (f : Nat) (args args' : List AV) : xZ3 R f args H (some args') = xV2 args H (R.pcall f args') := rfl
theorem xMO (f : Nat) (args : List AV) : xBf R f args H = xZ3 R f args H (args.mapM (frz frzN H)) := by
  simp only [xBf,xZ3]
  cases args.mapM (frz frzN H) with
  | none => rfl
  | some args' => simp only [xV2]; cases R.pcall f args' <;> rfl
theorem xSI (f : Nat) (args : List Arg) : xAa R F H (.call f args) = xBf R f (args.map (opv F)) H := rfl
theorem xPl (f : Arg) (args : List Arg) : xAa R F H (.icall f args) = R.icall (opv F f) (args.map (opv F)) H := rfl
def xV3 (R : Rec) (args : List AV) (H : Heap) : AV → Option (AV × Heap)
  | .func g caps => xBf R g (args ++ caps) H
  | _ => none
theorem xHq (args : List AV) (g : Nat) (caps : List AV) : xV3 R args H (.func g caps) = xBf R g (args ++ caps) H := rfl
theorem xPm (f : Arg) (args : List Arg) : xAa R F H (.fcall f args) = xV3 R (args.map (opv F)) H (opv F f) := by
  simp only [xAa]
  cases opv F f <;> rfl
def xD9 (args : List AV) (H : Heap) : Option (AV × Heap) → Option (AV × Heap)
  | some (r,_) => if quietCall r H args = true then some (r,H) else none
  | none => none
theorem xHr (args : List AV) (r : AV) (H' : Heap) : xD9 args H (some (r,H')) = if quietCall r H args = true then some (r,H) else none := rfl
theorem xHs (args : List AV) : xD9 args H none = none := rfl
theorem xJF (args : List AV) {c : Prop} [Decidable c] (x y : Option (AV × Heap)) : xD9 args H (if c then x else y) = if c then xD9 args H x else xD9 args H y := by split <;> rfl
theorem xSJ (f : Nat) (args : List Arg) : xAF R F H (.call f args) = xD9 (args.map (opv F)) H (xBf R f (args.map (opv F)) H) := by
  simp only [xAF,xAq,xD9]
  cases xBf R f (args.map (opv F)) H with
  | none => rfl
  | some r => obtain ⟨r,H'⟩ := r; simp only; split <;> rfl
def xN0 (R : Rec) (args : List AV) (H : Heap) : AV → Option (AV × Heap)
  | .func g caps => xD9 (args ++ caps) H (xBf R g (args ++ caps) H)
  | _ => none
theorem xFR (args : List AV) (g : Nat) (caps : List AV) : xN0 R args H (.func g caps) = xD9 (args ++ caps) H (xBf R g (args ++ caps) H) := rfl
theorem xPn (f : Arg) (args : List Arg) : xAF R F H (.fcall f args) = xN0 R (args.map (opv F)) H (opv F f) := by
  simp only [xAF,xAq,xD9,xN0]
  cases opv F f with
  | func g caps =>
    simp only
    cases xBf R g (args.map (opv F) ++ caps) H with
    | none => rfl
    | some r => obtain ⟨r,H'⟩ := r; simp only; split <;> rfl
  | _ => rfl
theorem xV4 (v : AV) : xAF R F H (.box (.c v)) = if v.cells.all AV.isCell = true then some (.any,H) else none := by
  simp only [xAF,xAq]
  split <;> rfl
def xDc (H : Heap) : Option (AV × Heap) → Option (AV × Heap)
  | some (v,_) => some (v,H)
  | none => none
theorem xMP (v : AV) (H' : Heap) : xDc H (some (v,H')) = some (v,H) := rfl
theorem xMQ : xDc H none = none := rfl
theorem xPo {c : Prop} [Decidable c] (x y : Option (AV × Heap)) : xDc H (if c then x else y) = if c then xDc H x else xDc H y := by split <;> rfl
theorem xBL (op : AOp) (h : xAq R F H op = (xAa R F H op).map (·.1)) : xAF R F H op = xDc H (xAa R F H op) := by
  simp only [xAF,h,xDc]
  cases xAa R F H op <;> rfl
theorem xV5 (x : Arg) : xAF R F H (.mov x) = xDc H (xAa R F H (.mov x)) := xBL _ rfl
theorem xSK (c a b : Arg) : xAF R F H (.pick c a b) = xDc H (xAa R F H (.pick c a b)) := xBL _ rfl
theorem xPp (z : List AV) (parts : List (Nat × Nat × Arg)) : xAF R F H (.build z parts) = xDc H (xAa R F H (.build z parts)) := xBL _ rfl
theorem xMR (z : List AV) (es n : Nat) (parts : List (Nat × Arg)) : xAF R F H (.bslice true z es n parts) = xDc H (xAa R F H (.bslice true z es n parts)) := xBL _ rfl
theorem xSL (g : Bool) (n : Nat) (p : Arg) : xAF R F H (.load g n p) = xDc H (xAa R F H (.load g n p)) := xBL _ rfl
theorem xMS (x : Arg) : xAF R F H (.nilchk x) = xDc H (xAa R F H (.nilchk x)) := xBL _ rfl
theorem xV6 (op : BinOp) (x y : Arg) : xAF R F H (.bin op x y) = xDc H (xAa R F H (.bin op x y)) := xBL _ rfl
theorem xV7 (neg : Bool) (x y : Arg) : xAF R F H (.beq neg x y) = xDc H (xAa R F H (.beq neg x y)) := xBL _ rfl
theorem xPq (neg : Bool) (x : Arg) : xAF R F H (.isnil neg x) = xDc H (xAa R F H (.isnil neg x)) := xBL _ rfl
theorem xYH (op : UnOp) (x : Arg) : xAF R F H (.un op x) = xDc H (xAa R F H (.un op x)) := xBL _ rfl
theorem xSM (k : IntKind) (x : Arg) : xAF R F H (.conv k x) = xDc H (xAa R F H (.conv k x)) := xBL _ rfl
theorem xMT (f : Nat) (caps : List Arg) : xAF R F H (.mkfunc f caps) = xDc H (xAa R F H (.mkfunc f caps)) := xBL _ rfl
theorem xJG (z : List AV) (bytes : Nat) (l c : Arg) : xAF R F H (.mkslice true z bytes l c) = xDc H (xAa R F H (.mkslice true z bytes l c)) := xBL _ rfl
theorem xPr (es : Nat) (x : Arg) (lo hi mx : Option Arg) : xAF R F H (.slice es x lo hi mx) = xDc H (xAa R F H (.slice es x lo hi mx)) := xBL _ rfl
theorem xPs (o : Nat) (x : Arg) : xAF R F H (.faddr o x) = xDc H (xAa R F H (.faddr o x)) := xBL _ rfl
theorem xPt (g : Bool) (off n : Nat) (x : Arg) : xAF R F H (.field g off n x) = xDc H (xAa R F H (.field g off n x)) := xBL _ rfl
theorem xPu (es : Nat) (x i : Arg) : xAF R F H (.iaddr es x i) = xDc H (xAa R F H (.iaddr es x i)) := xBL _ rfl
theorem xV8 (i : Nat) (x : Arg) : xAF R F H (.ext i x) = xDc H (xAa R F H (.ext i x)) := xBL _ rfl
theorem xV9 (x : Arg) : xAF R F H (.len x) = xDc H (xAa R F H (.len x)) := xBL _ rfl
theorem xWa (x : Arg) : xAF R F H (.cap x) = xDc H (xAa R F H (.cap x)) := xBL _ rfl
theorem xWb (neg : Bool) (n : Nat) (x y : Arg) : xAF R F H (.aeq neg n x y) = xDc H (xAa R F H (.aeq neg n x y)) := xBL _ rfl
theorem xSN (x y : Arg) : xAF R F H (.maxi x y) = xDc H (xAa R F H (.maxi x y)) := xBL _ rfl
theorem xSO (x y : Arg) : xAF R F H (.mini x y) = xDc H (xAa R F H (.mini x y)) := xBL _ rfl
def xWX (es bytes : Nat) (H : Heap) (x : AV) (o : Option (Nat × List AV)) : Option (AV × Heap) := match x with
  | .sl _ _ _ => xDc H (xVN true es bytes H x o)
  | _ => none
theorem xPv (es bytes : Nat) (z : Bool) (n : Nat) (cs : List AV) (o : Option (Nat × List AV)) : xWX es bytes H (.sl z n cs) o = xDc H (xVN true es bytes H (.sl z n cs) o) := rfl
theorem xMU (es bytes : Nat) (x y : Arg) : xAF R F H (.append true es bytes x y) = xWX es bytes H (opv F x) (src H es (opv F y)) := by
  simp only [xAF,xAq,xWX]
  cases h : opv F x with
  | sl z n cs =>
    simp only [xHm,h,xDc]
    cases xVN true es bytes H (.sl z n cs) (src H es (opv F y)) <;> rfl
  | _ => rfl
def xQF (H : Heap) : Option AV → Option (AV × Heap)
  | some v => some (v,H)
  | none => none
theorem xJH (v : AV) : xQF H (some v) = some (v,H) := rfl
def xMV (rs : List ARes) : Option (AExit × St) → Option (AV × Heap)
  | some (.normal,s) => xQF s.H (xBq rs s)
  | some (.ret,s) => xQF s.H (xBq rs s)
  | _ => none
theorem xFS (rs : List ARes) (F : List AV) (H : Heap) : xMV rs (some (.normal,⟨F,H⟩)) = xQF H (xBq rs ⟨F,H⟩) := rfl
theorem xMW (rs : List ARes) (F : List AV) (H : Heap) : xMV rs (some (.ret,⟨F,H⟩)) = xQF H (xBq rs ⟨F,H⟩) := rfl
theorem xJI (rs : List ARes) : xMV rs none = none := rfl
theorem xMX (rs : List ARes) {c : Prop} [Decidable c] (x y : Option (AExit × St)) : xMV rs (if c then x else y) = if c then xMV rs x else xMV rs y := by split <;> rfl
def pads : Nat → List AV
  | 0 => []
  | n + 1 => .tup [] :: pads n
theorem xSP : ∀ n,List.replicate n (AV.tup []) = pads n
  | 0 => rfl
  | n + 1 => by rw [List.replicate_succ,xSP n]; rfl
theorem xDT (n : Nat) (code : ACode) (rs : List ARes) (args : List AV) : xBU R ⟨n,code,rs⟩ args H = xMV rs (run R code ⟨args ++ pads (n - args.length),H⟩) := by
  rw [← xSP]
  simp only [xBU,xMV,xLI,xQF]
  cases h : run R code ⟨args ++ List.replicate (n - args.length) (.tup []),H⟩ with
  | none => rfl
  | some r =>
    obtain ⟨e,s⟩ := r
    cases e with
    | exit i => rfl
    | _ => simp only; cases xBq rs s <;> rfl
def xHt : Option (AV × Heap) → Option AV
  | some (r,H') => frz frzN H' r
  | none => none
theorem xHu (r : AV) (H' : Heap) : xHt (some (r,H')) = frz frzN H' r := rfl
theorem xHv : xHt none = none := rfl
theorem xJJ {c : Prop} [Decidable c] (x y : Option (AV × Heap)) : xHt (if c then x else y) = if c then xHt x else xHt y := by split <;> rfl
theorem xAo (fn : AFunc) (args : List AV) : xBt R fn args = xHt (xBU R fn args []) := by
  simp only [xBt,xHt]
  cases xBU R fn args [] <;> rfl
def xWY (g : Bool) : Option (List AV) → Option AV
  | some cs => mkv g cs
  | none => none
theorem xJK (g : Bool) (cs : List AV) : xWY g (some cs) = mkv g cs := rfl
theorem xSQ (t : Nat) : xRn ⟨F,H⟩ (.tmp t) = some (F.getD t .any) := rfl
theorem xPw (t : Nat) (g : Bool) (n : Nat) : xRn ⟨F,H⟩ (.cell t g n) = xWY g (rd H (F.getD t .any) n) := by
  simp only [xRn,xWY]
  cases rd H (F.getD t .any) n <;> rfl
theorem xMY : xBq [] s = some (.tup []) := rfl
theorem xMZ (r : ARes) : xBq [r] s = xRn s r := rfl
def xZ4 (s : St) (rs : List ARes) : Option AV → Option (List AV)
  | some v => (xQA s rs).map (v :: ·)
  | none => none
theorem xM0 (rs : List ARes) (v : AV) : xZ4 s rs (some v) = (xQA s rs).map (v :: ·) := rfl
theorem xPx : xQA s [] = some [] := rfl
theorem xM1 (r : ARes) (rs : List ARes) : xQA s (r :: rs) = xZ4 s rs (xRn s r) := by
  simp only [xQA,xZ4]
  cases xRn s r <;> rfl
theorem xM2 (r r' : ARes) (rs : List ARes) : xBq (r :: r' :: rs) s = (xQA s (r :: r' :: rs)).map .tup := rfl
def xER (F : List AV) (l : Nat) : Option (AV × Heap) → Option (AExit × St)
  | some (_,H') => match H'[l]? with
    | some (.loop st pend _ _ _ _) => if st = 1 then none else some ((match pend with | none => .normal | some e => e),⟨F,H'.set l .dead⟩)
    | _ => none
  | none => none
def xSR (R : Rec) (F : List AV) (H : Heap) (ps : List Nat) (asg body : ACode) : AV → Option (AExit × St)
  | .func g caps => xER F H.length (R.icall (.func g caps) [.yield H.length] (H ++ [.loop 0 none F ps asg body]))
  | _ => none
theorem xM3 (f : Arg) (ps : List Nat) (asg body : ACode) (F : List AV) (H : Heap) : run R (.range f ps asg body) ⟨F,H⟩ = xSR R F H ps asg body (opv F f) := by
  simp only [run]
  cases opv F f with
  | func g caps =>
    simp only [xSR,xER]
    cases R.icall (.func g caps) [.yield H.length] (H ++ [.loop 0 none F ps asg body]) with
    | none => rfl
    | some r =>
      obtain ⟨v,H'⟩ := r
      simp only
      cases H'[H.length]? with
      | none => rfl
      | some b => cases b <;> rfl
  | _ => rfl
theorem xHw (ps : List Nat) (asg body : ACode) (g : Nat) (caps : List AV) : xSR R F H ps asg body (.func g caps) = xER F H.length (R.icall (.func g caps) [.yield H.length] (H ++ [.loop 0 none F ps asg body])) := rfl
def xES (l : Nat) (e : AExit) (H : Heap) : Option Blk → Option (AV × Heap)
  | some (.loop 1 _ F ps asg body) => some (match e with
    | .normal => (.bool true,H.set l (.loop 0 none F ps asg body))
    | e => (.bool false,H.set l (.loop 2 (some e) F ps asg body)))
  | _ => none
def xCj (l : Nat) : Option (AExit × St) → Option (AV × Heap)
  | some (e,s) => xES l e s.H s.H[l]?
  | none => none
def xGi (R : Rec) (l : Nat) (body0 : ACode) (s : St) : Option Blk → Option (AV × Heap)
  | some (.loop 0 pend F ps asg body) => xCj l (run R body0 ⟨s.F,s.H.set l (.loop 1 pend F ps asg body)⟩)
  | _ => none
def xKM (R : Rec) (l : Nat) (body0 : ACode) : Option (AExit × St) → Option (AV × Heap)
  | some (.normal,s) => xGi R l body0 s s.H[l]?
  | _ => none
theorem xSS (l : Nat) (args : List AV) (H : Heap) (asg body : ACode) (F : List AV) (ps : List Nat) (pend : Option AExit) (hH : H[l]? = some (.loop 0 pend F ps asg body)) (h1 : args.length = ps.length) (h2 : asg.noRange = true) (h3 : body.noRange = true) :
    xEF R l args H = xKM R l body (run R asg ⟨(ps.zip args).foldl (fun F (p,v) => F.set p v) F,H⟩) := by
  unfold xEF
  rw [hH]
  simp only
  rw [if_pos ⟨h1,h2,h3⟩]
  cases ha : run R asg ⟨(ps.zip args).foldl (fun F (p,v) => F.set p v) F,H⟩ with
  | none => rfl
  | some r =>
    obtain ⟨e,s1⟩ := r
    cases e with
    | normal =>
      simp only [xKM]
      cases hb : s1.H[l]? with
      | none => rfl
      | some b =>
        cases b with
        | loop st pend1 F1 ps1 asg1 body1 =>
          match st with
          | 0 =>
            simp only [xGi]
            cases hr : run R body ⟨s1.F,s1.H.set l (.loop 1 pend1 F1 ps1 asg1 body1)⟩ with
            | none => rfl
            | some r =>
              obtain ⟨e,s2⟩ := r
              simp only [xCj]
              cases hc : s2.H[l]? with
              | none => rfl
              | some b =>
                cases b with
                | loop st2 pend2 F2 ps2 asg2 body2 =>
                  match st2 with
                  | 0 => rfl
                  | 1 => rfl
                  | _ + 2 => rfl
                | _ => rfl
          | _ + 1 => rfl
        | _ => rfl
    | _ => rfl
theorem xDH (l : Nat) (body0 : ACode) (F : List AV) (H : Heap) : xKM R l body0 (some (.normal,⟨F,H⟩)) = xGi R l body0 ⟨F,H⟩ H[l]? := rfl
theorem xET (l : Nat) (body0 : ACode) (F : List AV) (H : Heap) (pend : Option AExit) (F1 : List AV) (ps : List Nat) (asg body : ACode) : xGi R l body0 ⟨F,H⟩ (some (.loop 0 pend F1 ps asg body)) = xCj l (run R body0 ⟨F,H.set l (.loop 1 pend F1 ps asg body)⟩) := rfl
theorem xEa (l : Nat) (e : AExit) (F : List AV) (H : Heap) : xCj l (some (e,⟨F,H⟩)) = xES l e H H[l]? := rfl
theorem xEU (l : Nat) {c : Prop} [Decidable c] (x y : Option (AExit × St)) : xCj l (if c then x else y) = if c then xCj l x else xCj l y := by split <;> rfl
theorem xDI (l : Nat) (H : Heap) (pend : Option AExit) (F : List AV) (ps : List Nat) (asg body : ACode) : xES l .normal H (some (.loop 1 pend F ps asg body)) = some (.bool true,H.set l (.loop 0 none F ps asg body)) := rfl
theorem xEV (l i : Nat) (H : Heap) (pend : Option AExit) (F : List AV) (ps : List Nat) (asg body : ACode) : xES l (.exit i) H (some (.loop 1 pend F ps asg body)) = some (.bool false,H.set l (.loop 2 (some (.exit i)) F ps asg body)) := rfl
theorem xFT (l : Nat) (H : Heap) (pend : Option AExit) (F : List AV) (ps : List Nat) (asg body : ACode) : xES l .ret H (some (.loop 1 pend F ps asg body)) = some (.bool false,H.set l (.loop 2 (some .ret) F ps asg body)) := rfl
def xGj (F : List AV) (l : Nat) (H : Heap) : Option Blk → Option (AExit × St)
  | some (.loop st pend _ _ _ _) => if st = 1 then none else some ((match pend with | none => .normal | some e => e),⟨F,H.set l .dead⟩)
  | _ => none
theorem xEW (l : Nat) (v : AV) (H : Heap) : xER F l (some (v,H)) = xGj F l H H[l]? := by
  simp only [xER,xGj]
theorem xJL (l : Nat) (H : Heap) (F1 : List AV) (ps : List Nat) (asg body : ACode) : xGj F l H (some (.loop 0 none F1 ps asg body)) = some (.normal,⟨F,H.set l .dead⟩) := rfl
theorem xJM (l : Nat) (H : Heap) (e : AExit) (F1 : List AV) (ps : List Nat) (asg body : ACode) : xGj F l H (some (.loop 2 (some e) F1 ps asg body)) = some (e,⟨F,H.set l .dead⟩) := rfl
end
section
variable {R : Rec} {F : List AV} {H : Heap} {s : St}
def xST : Option (AV × Heap) → Option (AV × List Blk)
  | some (r,H') => (xCB H' r).map fun (v,B) => (v,B.map (·.2))
  | none => none
theorem xEX (f : Nat) (args : List AV) : xCf R f args = xST (R.icall (.func f []) args []) := by
  unfold xCf xST
  cases R.icall (.func f []) args [] <;> rfl
theorem xHx (r : AV) (H' : Heap) : xST (some (r,H')) = (xCB H' r).map fun (v,B) => (v,B.map (·.2)) := rfl
def ocK (H : Heap) (ids : List Nat) : Option (AV × List Blk) → Option (AV × Heap)
  | some (v,B) => some (xAx H.length v,fzIds H ids ++ B)
  | none => none
def xSU (R : Rec) (f : Nat) (H : Heap) (ids : List Nat) : Option (List AV) → Option (AV × Heap)
  | some args' => ocK H ids (xCf R f args')
  | none => none
theorem xPy (f : Nat) (args : List Arg) : xAa R F H (.ocall f args) = xSU R f H ((args.map (opv F)).flatMap (bor frzN H)) ((args.map (opv F)).mapM (frz frzN H)) := by
  simp only [xAa,xSU]
  cases (args.map (opv F)).mapM (frz frzN H) with
  | none => rfl
  | some args' =>
    simp only [ocK]
    cases xCf R f args' <;> rfl
theorem xHy (f : Nat) (ids : List Nat) (args' : List AV) : xSU R f H ids (some args') = ocK H ids (xCf R f args') := rfl
theorem xPz (ids : List Nat) (v : AV) (B : List Blk) : ocK H ids (some (v,B)) = some (xAx H.length v,fzIds H ids ++ B) := rfl
def t1B (z : Bool) (id off n es : Nat) (B : List (Nat × Blk)) : Option Blk → Option (AV × List (Nat × Blk))
  | some (.cells false z' cs) => if cs.all xAs = true then some (.own z B.length off n es,B ++ [(id,.cells false z' cs)]) else none
  | _ => none
def t1I (z : Bool) (id off n es : Nat) (B : List (Nat × Blk)) (b : Option Blk) : Option Nat → Option (AV × List (Nat × Blk))
  | some k => some (.own z k off n es,B)
  | none => t1B z id off n es B b
theorem xM4 (H : Heap) (z : Bool) (id off n es : Nat) (B : List (Nat × Blk)) : xD1 H (.own z id off n es) B = t1I z id off n es B H[id]? (B.findIdx? (fun p => p.1 == id)) := by
  simp only [xD1,t1I]
  cases B.findIdx? (fun p => p.1 == id) with
  | some k => rfl
  | none =>
    simp only [t1B]
    cases H[id]? with
    | none => rfl
    | some b => cases b with
      | cells fz z' cs => cases fz <;> rfl
      | _ => rfl
theorem xSV (z : Bool) (id off n es : Nat) (B : List (Nat × Blk)) (b : Option Blk) (k : Nat) : t1I z id off n es B b (some k) = some (.own z k off n es,B) := rfl
theorem xSW (z : Bool) (id off n es : Nat) (B : List (Nat × Blk)) (z' : Bool) (cs : List AV) : t1I z id off n es B (some (.cells false z' cs)) none = if cs.all xAs = true then some (.own z B.length off n es,B ++ [(id,.cells false z' cs)]) else none := rfl
theorem xM5 (H : Heap) (k : IntKind) (n : Int) (B : List (Nat × Blk)) : xD1 H (.int k n) B = some (.int k n,B) := rfl
theorem xJN (H : Heap) (b : Bool) (B : List (Nat × Blk)) : xD1 H (.bool b) B = some (.bool b,B) := rfl
theorem xPA (H : Heap) (z : Bool) (n : Nat) (cs : List AV) (B : List (Nat × Blk)) : xD1 H (.sl z n cs) B = some (.sl z n cs,B) := rfl
theorem xM6 (H : Heap) (b : ByteArray) (B : List (Nat × Blk)) : xD1 H (.str b) B = some (.str b,B) := rfl
def tkL (H : Heap) (vs : List AV) : Option (AV × List (Nat × Blk)) → Option (List AV × List (Nat × Blk))
  | some (v',B') => (xGR H vs B').map fun (vs',B2) => (v' :: vs',B2)
  | none => none
theorem xM7 (H : Heap) (B : List (Nat × Blk)) : xGR H [] B = some ([],B) := rfl
theorem xJO (H : Heap) (v : AV) (vs : List AV) (B : List (Nat × Blk)) : xGR H (v :: vs) B = tkL H vs (xD1 H v B) := by
  simp only [xGR,tkL]
  cases xD1 H v B <;> rfl
theorem xPB (H : Heap) (vs : List AV) (v' : AV) (B' : List (Nat × Blk)) : tkL H vs (some (v',B')) = (xGR H vs B').map fun (vs',B2) => (v' :: vs',B2) := rfl
theorem xM8 (H : Heap) (cs : List AV) (B : List (Nat × Blk)) : xED H (.agg cs) B = if cs.all AV.isCell = true then (xGR H cs B).map fun (cs',B') => (.agg cs',B') else none := rfl
theorem xM9 (H : Heap) (z : Bool) (id off n es : Nat) (B : List (Nat × Blk)) : xED H (.own z id off n es) B = xD1 H (.own z id off n es) B := rfl
theorem xNa (H : Heap) (k : IntKind) (n : Int) (B : List (Nat × Blk)) : xED H (.int k n) B = some (.int k n,B) := rfl
theorem xJP (H : Heap) (b : Bool) (B : List (Nat × Blk)) : xED H (.bool b) B = some (.bool b,B) := rfl
theorem xPC (H : Heap) (z : Bool) (n : Nat) (cs : List AV) (B : List (Nat × Blk)) : xED H (.sl z n cs) B = some (.sl z n cs,B) := rfl
def xZ5 (H : Heap) (vs : List AV) : Option (AV × List (Nat × Blk)) → Option (List AV × List (Nat × Blk))
  | some (v',B') => (xDC H vs B').map fun (vs',B2) => (v' :: vs',B2)
  | none => none
theorem xJQ (H : Heap) (B : List (Nat × Blk)) : xDC H [] B = some ([],B) := rfl
theorem xHz (H : Heap) (v : AV) (vs : List AV) (B : List (Nat × Blk)) : xDC H (v :: vs) B = xZ5 H vs (xED H v B) := by
  simp only [xDC,xZ5]
  cases xED H v B <;> rfl
theorem xNb (H : Heap) (vs : List AV) (v' : AV) (B' : List (Nat × Blk)) : xZ5 H vs (some (v',B')) = (xDC H vs B').map fun (vs',B2) => (v' :: vs',B2) := rfl
theorem xHA (H : Heap) (vs : List AV) : xCB H (.tup vs) = (xDC H vs []).map fun (vs',B) => (.tup vs',B) := rfl
theorem xHB (H : Heap) (cs : List AV) : xCB H (.agg cs) = xED H (.agg cs) [] := rfl
theorem xHC (H : Heap) (z : Bool) (id off n es : Nat) : xCB H (.own z id off n es) = xD1 H (.own z id off n es) [] := rfl
theorem xJR (H : Heap) (z : Bool) (n : Nat) (cs : List AV) : xCB H (.sl z n cs) = some (.sl z n cs,[]) := rfl
theorem xNc {α : Type} (p : α → Bool) : ([] : List α).findIdx? p = none := rfl
theorem xJS {α : Type} (p : α → Bool) (a : α) (l : List α) : (a :: l).findIdx? p = if p a = true then some 0 else (l.findIdx? p).map (· + 1) := by
  rw [List.findIdx?_cons]
def xSX (R : Rec) (als : List (Nat × Nat)) (ls : List (Nat × Nat × Nat × Nat)) (m : Nat) (ops : List AOper) : Option (St × List Pr) → Option (AExit × St)
  | some (s,pl) => xDG ls (xAu R (ops.drop m) (xA3 als pl s))
  | none => none
theorem xNd (als : List (Nat × Nat)) (ls : List (Nat × Nat × Nat × Nat)) (m : Nat) (ops : List AOper) : run R (.drawp als ls m ops) s = xSX R als ls m ops (xAz R (ops.take m) s) := by
  simp only [run,xSX]
  cases xAz R (ops.take m) s with
  | none => rfl
  | some r =>
    obtain ⟨s1,pl⟩ := r
    simp only [xDG]
    cases xAu R (ops.drop m) (xA3 als pl s1) <;> rfl
theorem xHD (als : List (Nat × Nat)) (ls : List (Nat × Nat × Nat × Nat)) (m : Nat) (ops : List AOper) (s : St) (pl : List Pr) : xSX R als ls m ops (some (s,pl)) = xDG ls (xAu R (ops.drop m) (xA3 als pl s)) := rfl
theorem xJT (pl : List Pr) (s : St) : xA3 [] pl s = adoptL pl s := rfl
def alK (als : List (Nat × Nat)) : St → St
  | ⟨F,H⟩ => ⟨xBs als F,H⟩
theorem xHE (p : Nat × Nat) (r : List (Nat × Nat)) (pl : List Pr) (s : St) : xA3 (p :: r) pl s = alK (p :: r) (adoptL pl s) := rfl
theorem xWc (als : List (Nat × Nat)) (F : List AV) (H : Heap) : alK als ⟨F,H⟩ = ⟨xBs als F,H⟩ := rfl
theorem xJU (F : List AV) : xBs [] F = F := rfl
theorem xHF (d q : Nat) (r : List (Nat × Nat)) (F : List AV) : xBs ((d,q) :: r) F = xBs r (F.set d (F.getD q .any)) := rfl
def xSY (e : Pr) : Option (St × List Pr) → Option (St × List Pr)
  | some (s,l) => some (s,e :: l)
  | none => none
theorem xJV (e : Pr) (s : St) (l : List Pr) : xSY e (some (s,l)) = some (s,e :: l) := rfl
def xSZ (R : Rec) (rest : List AOper) (s : St) : Option Nat → Option (AV × List Blk) → Option (St × List Pr)
  | some t,some (v,B) => xSY (some (t,v,B)) (xAz R rest ⟨s.F.set t .any,s.H⟩)
  | _,_ => none
def xS0 (R : Rec) (rest : List AOper) : Option St → Option (St × List Pr)
  | some s => xSY none (xAz R rest s)
  | none => none
theorem xHG : xAz R [] s = some (s,[]) := rfl
theorem xFU (o : AOper) (rest : List AOper) : xAz R (o :: rest) s = if xAw o.op = true then xSZ R rest s o.dst (xCC R s.F o.op) else xS0 R rest (xAE R o s) := by
  simp only [xAz]
  split
  · cases o.dst with
    | none => rfl
    | some t => cases xCC R s.F o.op with
      | none => rfl
      | some r =>
        obtain ⟨v,B⟩ := r
        simp only [xSZ]
        cases xAz R rest ⟨s.F.set t .any,s.H⟩ <;> rfl
  · cases xAE R o s with
    | none => rfl
    | some s1 =>
      simp only [xS0]
      cases xAz R rest s1 <;> rfl
theorem xHH (rest : List AOper) (t : Nat) (v : AV) (B : List Blk) : xSZ R rest s (some t) (some (v,B)) = xSY (some (t,v,B)) (xAz R rest ⟨s.F.set t .any,s.H⟩) := rfl
theorem xHI (rest : List AOper) (s : St) : xS0 R rest (some s) = xSY none (xAz R rest s) := rfl
def xWZ : Option (AV × Heap) → Option (AV × List Blk)
  | some (v,B) => if xBg v = true ∧ xDD B = true then some (v,B) else none
  | none => none
theorem xPD (op : AOp) : xCC R F op = if op.args.all (fun x => xAA (opv F x)) = true then xWZ (xAa R F [] op) else none := by
  unfold xCC xWZ
  split
  · cases xAa R F [] op <;> rfl
  · rfl
theorem xJW (v : AV) (B : Heap) : xWZ (some (v,B)) = if xBg v = true ∧ xDD B = true then some (v,B) else none := rfl
theorem xFV (f : Nat) (as : List Arg) : xAw (.ocall f as) = true := rfl
theorem xJX (x : Arg) : xAw (.box x) = true := rfl
theorem xHJ (z : List AV) (b : Nat) (x y : Arg) : xAw (.mkslice false z b x y) = true := rfl
theorem xHK (z : List AV) (b : Nat) (x y : Arg) : xAw (.mkslice true z b x y) = false := rfl
theorem xHL (z : List AV) (es n : Nat) (ps : List (Nat × Arg)) : xAw (.bslice false z es n ps) = true := rfl
theorem xHM (z : List AV) (es n : Nat) (ps : List (Nat × Arg)) : xAw (.bslice true z es n ps) = false := rfl
theorem xHN (es b : Nat) (x y : Arg) : xAw (.append false es b x y) = true := rfl
theorem xHO (es b : Nat) (x y : Arg) : xAw (.append true es b x y) = false := rfl
theorem xHP (z : List AV) (b : Nat) (x y : Arg) : xAw (.appendz z b x y) = true := rfl
theorem xJY (x : Arg) : xAw (.mov x) = false := rfl
theorem xHQ (x y z : Arg) : xAw (.pick x y z) = false := rfl
theorem xFW (z : List AV) (ps : List (Nat × Nat × Arg)) : xAw (.build z ps) = false := rfl
theorem xHR (g : Bool) (n : Nat) (x : Arg) : xAw (.load g n x) = false := rfl
theorem xEY (x : Arg) : xAw (.nilchk x) = false := rfl
theorem xJZ (op : BinOp) (x y : Arg) : xAw (.bin op x y) = false := rfl
theorem xJ0 (g : Bool) (x y : Arg) : xAw (.beq g x y) = false := rfl
theorem xFX (g : Bool) (x : Arg) : xAw (.isnil g x) = false := rfl
theorem xNe (op : UnOp) (x : Arg) : xAw (.un op x) = false := rfl
theorem xHS (k : IntKind) (x : Arg) : xAw (.conv k x) = false := rfl
theorem xEZ (f : Nat) (as : List Arg) : xAw (.mkfunc f as) = false := rfl
theorem xFY (es : Nat) (x : Arg) (a b c : Option Arg) : xAw (.slice es x a b c) = false := rfl
theorem xFZ (o : Nat) (x : Arg) : xAw (.faddr o x) = false := rfl
theorem xF0 (g : Bool) (o n : Nat) (x : Arg) : xAw (.field g o n x) = false := rfl
theorem xF1 (es : Nat) (x i : Arg) : xAw (.iaddr es x i) = false := rfl
theorem xJ1 (i : Nat) (x : Arg) : xAw (.ext i x) = false := rfl
theorem xJ2 (x : Arg) : xAw (.len x) = false := rfl
theorem xJ3 (x : Arg) : xAw (.cap x) = false := rfl
theorem xJ4 (g : Bool) (n : Nat) (x y : Arg) : xAw (.aeq g n x y) = false := rfl
theorem xHT (f : Nat) (as : List Arg) : xAw (.call f as) = false := rfl
theorem xF2 (f : Arg) (as : List Arg) : xAw (.fcall f as) = false := rfl
theorem xHU (x y : Arg) : xAw (.maxi x y) = false := rfl
theorem xHV (x y : Arg) : xAw (.mini x y) = false := rfl
theorem xHW : xDD [] = true := rfl
theorem xF3 (z : Bool) (cs : List AV) (B : List Blk) : xDD (.cells false z cs :: B) = (cs.all xAs && xDD B) := rfl
theorem xKN {α : Type} {f : α → AV} (h : ∀ a,xAs (f a) = true) (l : List α) : (l.map f).all xAs = true := by
  simp [List.all_eq_true,h]
end
section
variable {R : Rec} {F : List AV} {H : Heap}
def xZq (g : Bool) (es len : Nat) : AV → AV → Option AV
  | .agg cs,.int _ i => if 0 ≤ i ∧ i.toNat < len ∧ i.toNat * es + es ≤ cs.length then mkv g ((cs.drop (i.toNat * es)).take es) else none
  | _,_ => none
theorem xPE {g : Bool} {es len : Nat} {cs : List AV} {k : IntKind} {i : Int} (h0 : 0 ≤ i) (h : i < len) (h2 : i.toNat * es + es ≤ cs.length) : xZq g es len (.agg cs) (.int k i) = mkv g ((cs.drop (i.toNat * es)).take es) := if_pos ⟨h0,by omega,h2⟩
theorem xWd (g : Bool) (es len : Nat) (x i : Arg) : xAa R F H (.idx g es len x i) = xCi H (xZq g es len (opv F x) (opv F i)) := by
  simp only [xAa]
  cases opv F x with
  | agg cs => cases opv F i with
    | int k n =>
      by_cases h0 : 0 ≤ n
      · have e : xA1 (.int k n) = some n.toNat := by simp [xA1,h0]
        simp only [e,xZq,h0,true_and]
        by_cases c : n.toNat < len ∧ n.toNat * es + es ≤ cs.length
        · rw [if_pos c,if_pos c]
          cases mkv g ((cs.drop (n.toNat * es)).take es) <;> rfl
        · rw [if_neg c,if_neg c]; rfl
      · have e : xA1 (.int k n) = none := by simp [xA1,h0]
        simp only [e,xZq,h0,false_and,if_false,xCi]
    | _ => rfl
  | _ => rfl
def xHX (es len : Nat) : AV → AV → Option AV
  | .ptr id off,.int _ i => if 0 ≤ i ∧ i.toNat < len then some (.ptr id (off + i.toNat * es)) else none
  | .vptr cs off,.int _ i => if 0 ≤ i ∧ i.toNat < len then some (.vptr cs (off + i.toNat * es)) else none
  | _,_ => none
theorem xJ5 {es len id off : Nat} {k : IntKind} {i : Int} (h0 : 0 ≤ i) (h : i < len) : xHX es len (.ptr id off) (.int k i) = some (.ptr id (off + i.toNat * es)) := if_pos ⟨h0,by omega⟩
theorem xHY {es len off : Nat} {cs : List AV} {k : IntKind} {i : Int} (h0 : 0 ≤ i) (h : i < len) : xHX es len (.vptr cs off) (.int k i) = some (.vptr cs (off + i.toNat * es)) := if_pos ⟨h0,by omega⟩
theorem xPF (es len : Nat) (x i : Arg) : xAa R F H (.arrat es len x i) = xCi H (xHX es len (opv F x) (opv F i)) := by
  simp only [xAa]
  cases opv F x with
  | ptr id off => cases opv F i with
    | int k n =>
      by_cases h0 : 0 ≤ n
      · have e : xA1 (.int k n) = some n.toNat := by simp [xA1,h0]
        simp only [e,xHX,h0,true_and]
        by_cases c : n.toNat < len
        · rw [if_pos c,if_pos c]; rfl
        · rw [if_neg c,if_neg c]; rfl
      · have e : xA1 (.int k n) = none := by simp [xA1,h0]
        simp only [e,xHX,h0,false_and,if_false,xCi]
    | _ => rfl
  | vptr cs off => cases opv F i with
    | int k n =>
      by_cases h0 : 0 ≤ n
      · have e : xA1 (.int k n) = some n.toNat := by simp [xA1,h0]
        simp only [e,xHX,h0,true_and]
        by_cases c : n.toNat < len
        · rw [if_pos c,if_pos c]; rfl
        · rw [if_neg c,if_neg c]; rfl
      · have e : xA1 (.int k n) = none := by simp [xA1,h0]
        simp only [e,xHX,h0,false_and,if_false,xCi]
    | _ => rfl
  | _ => rfl
def xUB (es len : Nat) : Option (List AV) → AV → Option AV
  | some cs,.int _ i => if 0 ≤ i ∧ i.toNat < len then some (.vptr cs (i.toNat * es)) else none
  | _,_ => none
theorem xJ6 {es len : Nat} {cs : List AV} {k : IntKind} {i : Int} (h0 : 0 ≤ i) (h : i < len) : xUB es len (some cs) (.int k i) = some (.vptr cs (i.toNat * es)) := if_pos ⟨h0,by omega⟩
theorem xS1 (b es len : Nat) (i : Arg) : xAa R F H (.garr b es len i) = xCi H (xUB es len (xQw b) (opv F i)) := by
  simp only [xAa]
  cases xQw b with
  | none => rfl
  | some cs => cases opv F i with
    | int k n =>
      by_cases h0 : 0 ≤ n
      · have e : xA1 (.int k n) = some n.toNat := by simp [xA1,h0]
        simp only [e,xUB,h0,true_and]
        by_cases c : n.toNat < len
        · rw [if_pos c,if_pos c]; rfl
        · rw [if_neg c,if_neg c]; rfl
      · have e : xA1 (.int k n) = none := by simp [xA1,h0]
        simp only [e,xUB,h0,false_and,if_false,xCi]
    | _ => rfl
def xYI : AV → Option AV
  | .str s => some (.int .i64 s.size)
  | _ => none
theorem xNf (s : ByteArray) : xYI (.str s) = some (.int .i64 s.size) := rfl
theorem xS2 (x : Arg) : xAa R F H (.slen x) = xCi H (xYI (opv F x)) := by
  simp only [xAa]
  cases opv F x <;> rfl
theorem xWe (g : Bool) (es len : Nat) (x i : Arg) : xAF R F H (.idx g es len x i) = xDc H (xAa R F H (.idx g es len x i)) := xBL _ rfl
theorem xPG (es len : Nat) (x i : Arg) : xAF R F H (.arrat es len x i) = xDc H (xAa R F H (.arrat es len x i)) := xBL _ rfl
theorem xS3 (b es len : Nat) (i : Arg) : xAF R F H (.garr b es len i) = xDc H (xAa R F H (.garr b es len i)) := xBL _ rfl
theorem xS4 (x : Arg) : xAF R F H (.slen x) = xDc H (xAa R F H (.slen x)) := xBL _ rfl
end
end Go.Abs
