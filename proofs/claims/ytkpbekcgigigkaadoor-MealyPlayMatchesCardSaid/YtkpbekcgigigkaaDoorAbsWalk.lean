/- The interpreter's equations in the form that simp walks by: one equation for each construct,told apart by what has been computed already. -/
import Derived.Test.YtkpbekcgigigkaaDoorAbsLim
namespace Go.Abs
set_option linter.unusedVariables false
set_option linter.unusedSimpArgs false
theorem xDR : ∀ (scr : List Nat) (F : List AV) (i : Nat),(xAI scr F)[i]? = if i ∈ scr then (F[i]?).map (fun _ => AV.any) else F[i]?
  | [],F,i => by simp [xAI]
  | j :: scr,F,i => by
    have := xDR scr (F.set j .any) i
    simp only [xAI,List.foldl_cons] at this ⊢
    rw [this]
    by_cases h : i = j
    · subst h
      simp only [List.getElem?_set_self',List.mem_cons,true_or,if_true]
      cases F[i]? <;> simp
    · have h' : ¬ j = i := fun e => h e.symm
      simp [List.getElem?_set,h,h']
theorem xOk (scr : List Nat) (F : List AV) : xAI scr (xAI scr F) = xAI scr F := by
  apply List.ext_getElem?
  intro i
  rw [xDR,xDR]
  split
  · cases F[i]? <;> rfl
  · rfl
section
variable {prog : Nat → Option AFunc}
theorem xSz (prog : Nat → Option AFunc) (n : Nat) : Tends (fix prog n) (fun _ => lim prog) :=
  ⟨fun f a v h => .all fun _ => xD7 ((xEq prog n).pcall f a v h),fun f a H v h => .all fun _ => xD7 ((xEq prog n).icall f a H v h),fun scr b s v h => .all fun _ => xD7 ((xEq prog n).loop scr b s v h)⟩
theorem Ev.const {p : Prop} (h : Ev fun _ => p) : p := let ⟨n,hn⟩ := h; hn n (Nat.le_refl n)
theorem xSA {α : Type} {a b : Option α} (h1 : ∀ v,a = some v → b = some v) (h2 : ∀ v,b = some v → a = some v) : a = b := by
  cases a with
  | some v => exact (h1 v rfl).symm
  | none =>
    cases b with
    | none => rfl
    | some v => exact h2 v rfl
theorem xAp {f : Nat} {fn : AFunc} (hf : prog f = some fn) (args : List AV) : (lim prog).pcall f args = xAT (lim prog) fn args := by
  refine xSA (fun v h => ?_) (fun v h => xLg hf h)
  obtain ⟨n,hn⟩ := xBU (p := fun m => (fix prog m).pcall f args) h
  have h1 : (xCl prog (fix prog n)).pcall f args = some v := hn (n + 1) (by omega)
  have h2 := (xBe (xSz prog n) prog).pcall f args v h1 |>.const
  simp only [xCl,hf] at h2
  exact h2
theorem xMs (f : AV) (args : List AV) (H : xAj) : (lim prog).icall f args H = xCI prog (lim prog) f args H := by
  refine xSA (fun v h => ?_) (fun v h => xLh h)
  obtain ⟨n,hn⟩ := xBU (p := fun m => (fix prog m).icall f args H) h
  have h1 : (xCl prog (fix prog n)).icall f args H = some v := hn (n + 1) (by omega)
  exact (xBe (xSz prog n) prog).icall f args H v h1 |>.const
theorem xEf (scr : List Nat) (b : ACode) (s : St) : (lim prog).loop scr b s = xGV (lim prog) scr b s := by
  refine xSA (fun v h => ?_) (fun v h => xOw h)
  obtain ⟨n,hn⟩ := xBU (p := fun m => (fix prog m).loop scr b s) h
  have h1 : (xCl prog (fix prog n)).loop scr b s = some v := hn (n + 1) (by omega)
  exact (xBe (xSz prog n) prog).loop scr b s v h1 |>.const
theorem xBc {f : Nat} {fn : AFunc} (hf : prog f = some fn) (caps args : List AV) (H : xAj) : (lim prog).icall (.func f caps) args H = xCf (lim prog) fn (args ++ caps) H := by
  rw [xMs]
  simp only [xCI,hf]
theorem xD4 (scr : List Nat) (b : ACode) (F : List AV) (H : xAj) : (lim prog).loop scr b ⟨F,H⟩ = (lim prog).loop scr b ⟨xAI scr F,H⟩ := by
  rw [xEf,xEf]
  unfold xGV
  simp only [xOk]
def xBz (R : Rec) (scr : List Nat) (b : ACode) : Option (AExit × St) → Option (AExit × St)
  | some (.normal,s) => R.loop scr b ⟨xAI scr s.F,s.H⟩
  | some (e,s) => some (e,⟨xAI scr s.F,s.H⟩)
  | none => none
theorem xAn (scr : List Nat) (b : ACode) (F : List AV) (H : xAj) (h : xAI scr F = F) : (lim prog).loop scr b ⟨F,H⟩ = xBz (lim prog) scr b (run (lim prog) b ⟨F,H⟩) := by
  rw [xEf]
  unfold xGV xBz
  simp only [h]
  split
  · rename_i s' hs
    rw [hs]
    exact xD4 scr b s'.F s'.H
  · rename_i e s' hne hs
    rw [hs]
    cases e with
    | normal => exact (hne rfl).elim
    | exit i => rfl
    | ret => rfl
  · rename_i hs
    rw [hs]
theorem xO5 (scr : List Nat) (b : ACode) (F : List AV) (H : xAj) : run (lim prog) (.loop scr b) ⟨F,H⟩ = (lim prog).loop scr b ⟨xAI scr F,H⟩ := xD4 scr b F H
end
section
variable {R : Rec} {F : List AV} {H : xAj} {s : St}
def xVC (R : Rec) (b : ACode) : Option (AExit × St) → Option (AExit × St)
  | some (.normal,s) => run R b s
  | r => r
theorem xSB (a b : ACode) : run R (.seq a b) s = xVC R b (run R a s) := by
  simp only [run,xVC]
  split <;> simp_all
theorem xG7 (b : ACode) (s : St) : xVC R b (some (.normal,s)) = run R b s := rfl
theorem xMt (b : ACode) (i : Nat) (s : St) : xVC R b (some (.exit i,s)) = some (.exit i,s) := rfl
theorem xO6 (b : ACode) (s : St) : xVC R b (some (.ret,s)) = some (.ret,s) := rfl
theorem xMu (b : ACode) : xVC R b none = none := rfl
theorem xO7 (b : ACode) {c : Prop} [Decidable c] (x y : Option (AExit × St)) : xVC R b (if c then x else y) = if c then xVC R b x else xVC R b y := by split <;> rfl
def xXQ (R : Rec) (a b : ACode) (s : St) : AV → Option (AExit × St)
  | .bool t => if t = true then run R a s else run R b s
  | _ => none
theorem xO8 (c : Arg) (a b : ACode) (F : List AV) (H : xAj) : run R (.cond c a b) ⟨F,H⟩ = xXQ R a b ⟨F,H⟩ (opv F c) := by
  simp only [run,xXQ]
  split <;> simp_all
theorem xJa (a b : ACode) (t : Bool) : xXQ R a b s (.bool t) = if t = true then run R a s else run R b s := rfl
def xER (id : Nat) : Option (AExit × St) → Option (AExit × St)
  | some (.exit i,s) => if i = id then some (.normal,s) else some (.exit i,s)
  | r => r
theorem xMv (id : Nat) (b : ACode) : run R (.block id b) s = xER id (run R b s) := by
  simp only [run,xER]
  split <;> simp_all
theorem xG8 (id i : Nat) (s : St) : xER id (some (.exit i,s)) = if i = id then some (.normal,s) else some (.exit i,s) := rfl
theorem xES (id : Nat) (s : St) : xER id (some (.normal,s)) = some (.normal,s) := rfl
theorem xJb (id : Nat) (s : St) : xER id (some (.ret,s)) = some (.ret,s) := rfl
theorem xG9 (id : Nat) : xER id none = none := rfl
theorem xJc (id : Nat) {c : Prop} [Decidable c] (x y : Option (AExit × St)) : xER id (if c then x else y) = if c then xER id x else xER id y := by split <;> rfl
theorem xFQ (scr : List Nat) (b : ACode) (F : List AV) (H : xAj) : xBz R scr b (some (.normal,⟨F,H⟩)) = R.loop scr b ⟨xAI scr F,H⟩ := rfl
theorem xJd (scr : List Nat) (b : ACode) (i : Nat) (F : List AV) (H : xAj) : xBz R scr b (some (.exit i,⟨F,H⟩)) = some (.exit i,⟨xAI scr F,H⟩) := rfl
theorem xMw (scr : List Nat) (b : ACode) (F : List AV) (H : xAj) : xBz R scr b (some (.ret,⟨F,H⟩)) = some (.ret,⟨xAI scr F,H⟩) := rfl
theorem xMx (scr : List Nat) (b : ACode) {c : Prop} [Decidable c] (x y : Option (AExit × St)) : xBz R scr b (if c then x else y) = if c then xBz R scr b x else xBz R scr b y := by split <;> rfl
def xUL : Option St → Option (AExit × St)
  | some s => some (.normal,s)
  | none => none
theorem xMy (s : St) : xUL (some s) = some (.normal,s) := rfl
theorem xMz : xUL none = none := rfl
theorem xO9 {c : Prop} [Decidable c] (x y : Option St) : xUL (if c then x else y) = if c then xUL x else xUL y := by split <;> rfl
theorem xJe (ops : List AOper) : run R (.region ops) s = xUL (xAA R ops s) := by
  simp only [run,xUL]
  cases xAA R ops s <;> rfl
theorem xPa : run R .skip s = some (.normal,s) := rfl
theorem xMA : run R .label s = some (.normal,s) := rfl
theorem xPb (i : Nat) : run R (.exit i) s = some (.exit i,s) := rfl
theorem xSC : run R .ret s = some (.ret,s) := rfl
theorem xMB (b : ACode) : run R (.scope b) s = run R b s := rfl
theorem xMC : run R .stuck s = none := rfl
def xXR (R : Rec) (rest : List AOper) : Option St → Option St
  | some s => xAA R rest s
  | none => none
theorem xJf : xAA R [] s = some s := rfl
theorem xHa (o : AOper) (rest : List AOper) : xAA R (o :: rest) s = xXR R rest (xAM R o s) := by
  simp only [xAA,xXR]
  cases xAM R o s <;> rfl
theorem xMD (rest : List AOper) (s : St) : xXR R rest (some s) = xAA R rest s := rfl
theorem xME (rest : List AOper) : xXR R rest none = none := rfl
theorem xPc (rest : List AOper) {c : Prop} [Decidable c] (x y : Option St) : xXR R rest (if c then x else y) = if c then xXR R rest x else xXR R rest y := by split <;> rfl
def xSD (F : List AV) (d : Option Nat) : Option (AV × xAj) → Option St
  | some (v,H) => some ⟨putA F d v,H⟩
  | none => none
theorem xSE (d : Nat) (v : AV) : xSD F (some d) (some (v,H)) = some ⟨F.set d v,H⟩ := rfl
theorem xSF (v : AV) : xSD F none (some (v,H)) = some ⟨F,H⟩ := rfl
theorem xMF (d : Option Nat) : xSD F d none = none := rfl
theorem xPd (d : Option Nat) {c : Prop} [Decidable c] (x y : Option (AV × xAj)) : xSD F d (if c then x else y) = if c then xSD F d x else xSD F d y := by split <;> rfl
theorem xMG (d : Option Nat) (op : AOp) : xAM R ⟨d,op,none⟩ ⟨F,H⟩ = xSD F d (xAa R F H op) := by
  simp only [xAM,xBH,xSD]
  cases xAa R F H op <;> rfl
def xPe (R : Rec) (d : Option Nat) (op : AOp) (w : Bool) (F : List AV) (H : xAj) : AV → Option St
  | .bool b => if b = w then xSD F d (xAa R F H op) else some ⟨putA F d (.tup []),H⟩
  | .any => none
  | _ => some ⟨putA F d (.tup []),H⟩
theorem xJg (d : Option Nat) (op : AOp) (t : Nat) (w : Bool) : xAM R ⟨d,op,some (t,w)⟩ ⟨F,H⟩ = xPe R d op w F H (F.getD t .any) := by
  simp only [xAM,xBH,xPe]
  cases F.getD t .any with
  | bool b =>
    cases b <;> cases w <;> simp [xSD] <;> cases xAa R F H op <;> rfl
  | _ => rfl
theorem xHb (d : Option Nat) (op : AOp) (w b : Bool) : xPe R d op w F H (.bool b) = if b = w then xSD F d (xAa R F H op) else some ⟨putA F d (.tup []),H⟩ := rfl
theorem xJh (d : Option Nat) (op : AOp) (w : Bool) (vs : List AV) : xPe R d op w F H (.tup vs) = some ⟨putA F d (.tup []),H⟩ := rfl
theorem xSG (d : Nat) (v : AV) : putA F (some d) v = F.set d v := rfl
theorem xSH (v : AV) : putA F none v = F := rfl
def xOl (R : Rec) (m : Nat) (ops : List AOper) : Option St → Option (AExit × St)
  | some s => xUL (xAA R (ops.drop m) (adopt (ops.take m) s))
  | none => none
theorem xPf (m : Nat) (ops : List AOper) : run R (.draw m ops) s = xOl R m ops (xA0 R (ops.take m) s) := by
  simp only [run,xOl]
  cases xA0 R (ops.take m) s with
  | none => rfl
  | some s1 =>
    simp only [xUL]
    cases xAA R (ops.drop m) (adopt (ops.take m) s1) <;> rfl
theorem xJi (m : Nat) (ops : List AOper) (s : St) : xOl R m ops (some s) = xUL (xAA R (ops.drop m) (adopt (ops.take m) s)) := rfl
theorem xJj (m : Nat) (ops : List AOper) : xOl R m ops none = none := rfl
theorem xMH (m : Nat) (ops : List AOper) {c : Prop} [Decidable c] (x y : Option St) : xOl R m ops (if c then x else y) = if c then xOl R m ops x else xOl R m ops y := by split <;> rfl
def xDD (ls : List (Nat × Nat × Nat × Nat)) : Option St → Option (AExit × St)
  | some s => if ls.all (apart s.F) = true then some (.normal,s) else none
  | none => none
def xHc (R : Rec) (ls : List (Nat × Nat × Nat × Nat)) (m : Nat) (ops : List AOper) : Option St → Option (AExit × St)
  | some s => xDD ls (xAA R (ops.drop m) (adopt (ops.take m) s))
  | none => none
theorem xMI (ls : List (Nat × Nat × Nat × Nat)) (m : Nat) (ops : List AOper) : run R (.drawl ls m ops) s = xHc R ls m ops (xA0 R (ops.take m) s) := by
  simp only [run,xHc]
  cases xA0 R (ops.take m) s with
  | none => rfl
  | some s1 =>
    simp only [xDD]
    cases xAA R (ops.drop m) (adopt (ops.take m) s1) <;> rfl
theorem xHd (ls : List (Nat × Nat × Nat × Nat)) (m : Nat) (ops : List AOper) (s : St) : xHc R ls m ops (some s) = xDD ls (xAA R (ops.drop m) (adopt (ops.take m) s)) := rfl
theorem xHe (ls : List (Nat × Nat × Nat × Nat)) (m : Nat) (ops : List AOper) : xHc R ls m ops none = none := rfl
theorem xJk (ls : List (Nat × Nat × Nat × Nat)) (m : Nat) (ops : List AOper) {c : Prop} [Decidable c] (x y : Option St) : xHc R ls m ops (if c then x else y) = if c then xHc R ls m ops x else xHc R ls m ops y := by split <;> rfl
theorem xHf (ls : List (Nat × Nat × Nat × Nat)) (s : St) : xDD ls (some s) = if ls.all (apart s.F) = true then some (.normal,s) else none := rfl
theorem xHg (ls : List (Nat × Nat × Nat × Nat)) : xDD ls none = none := rfl
theorem xJl (ls : List (Nat × Nat × Nat × Nat)) {c : Prop} [Decidable c] (x y : Option St) : xDD ls (if c then x else y) = if c then xDD ls x else xDD ls y := by split <;> rfl
def xOm (R : Rec) (rest : List AOper) : Option St → Option St
  | some s => xA0 R rest s
  | none => none
theorem xHh : xA0 R [] s = some s := rfl
theorem xFR (o : AOper) (rest : List AOper) : xA0 R (o :: rest) s = xOm R rest (xAK R o s) := by
  simp only [xA0,xOm]
  cases xAK R o s <;> rfl
theorem xJm (rest : List AOper) (s : St) : xOm R rest (some s) = xA0 R rest s := rfl
theorem xJn (rest : List AOper) : xOm R rest none = none := rfl
theorem xMJ (rest : List AOper) {c : Prop} [Decidable c] (x y : Option St) : xOm R rest (if c then x else y) = if c then xOm R rest x else xOm R rest y := by split <;> rfl
def xHi (F : List AV) (d : Option Nat) (H : xAj) : Option (AV × xAj) → Option St
  | some (v,_) => some ⟨putA F d v,H⟩
  | none => none
theorem xPg (d : Nat) (v : AV) (H' : xAj) : xHi F (some d) H (some (v,H')) = some ⟨F.set d v,H⟩ := rfl
theorem xPh (v : AV) (H' : xAj) : xHi F none H (some (v,H')) = some ⟨F,H⟩ := rfl
theorem xJo (d : Option Nat) : xHi F d H none = none := rfl
theorem xMK (d : Option Nat) {c : Prop} [Decidable c] (x y : Option (AV × xAj)) : xHi F d H (if c then x else y) = if c then xHi F d H x else xHi F d H y := by split <;> rfl
def xAQ (R : Rec) (F : List AV) (H : xAj) (op : AOp) : Option (AV × xAj) := (xAv R F H op).map fun v => (v,H)
theorem xJp (d : Option Nat) (op : AOp) : xAK R ⟨d,op,none⟩ ⟨F,H⟩ = xHi F d H (xAQ R F H op) := by
  simp only [xAK,xBH,xHi,xAQ]
  cases xAv R F H op <;> rfl
def xKO (R : Rec) (d : Option Nat) (op : AOp) (w : Bool) (F : List AV) (H : xAj) : AV → Option St
  | .bool b => if b = w then xHi F d H (xAQ R F H op) else some ⟨putA F d (.tup []),H⟩
  | .any => none
  | _ => some ⟨putA F d (.tup []),H⟩
theorem xHj (d : Option Nat) (op : AOp) (t : Nat) (w : Bool) : xAK R ⟨d,op,some (t,w)⟩ ⟨F,H⟩ = xKO R d op w F H (F.getD t .any) := by
  simp only [xAK,xBH,xKO]
  cases F.getD t .any with
  | bool b =>
    cases b <;> cases w <;> simp [xHi,xAQ] <;> cases xAv R F H op <;> rfl
  | _ => rfl
theorem xFS (d : Option Nat) (op : AOp) (w b : Bool) : xKO R d op w F H (.bool b) = if b = w then xHi F d H (xAQ R F H op) else some ⟨putA F d (.tup []),H⟩ := rfl
theorem xHk (d : Option Nat) (op : AOp) (w : Bool) (vs : List AV) : xKO R d op w F H (.tup vs) = some ⟨putA F d (.tup []),H⟩ := rfl
def xC3 (H : xAj) : Option AV → Option (AV × xAj)
  | some v => some (v,H)
  | none => none
theorem xML (v : AV) : xC3 H (some v) = some (v,H) := rfl
theorem xMM : xC3 H none = none := rfl
theorem xPi {c : Prop} [Decidable c] (x y : Option AV) : xC3 H (if c then x else y) = if c then xC3 H x else xC3 H y := by split <;> rfl
theorem xWw (x : Arg) : xAa R F H (.mov x) = some (opv F x,H) := rfl
def xXS : AV → AV → AV → Option AV
  | .bool t,a,b => some (if t = true then a else b)
  | _,_,_ => none
theorem xJq (t : Bool) (a b : AV) : xXS (.bool t) a b = some (if t = true then a else b) := rfl
theorem xSI (c a b : Arg) : xAa R F H (.pick c a b) = xC3 H (xXS (opv F c) (opv F a) (opv F b)) := by
  simp only [xAa,xXS,xC3]
  split <;> simp_all
theorem xWx (x : Arg) : xAa R F H (.box x) = if (opv F x).cells.all AV.isCell = true then some (.ptr H.length 0,H ++ [.cells false false (opv F x).cells]) else none := rfl
theorem xPj (z : List AV) (parts : List (Nat × Nat × Arg)) : xAa R F H (.build z parts) =
    if parts.all (fun p => (opv F p.2.2).cells.length == p.2.1) = true then xC3 H ((fillA z (parts.map fun p => (p.1,(opv F p.2.2).cells))).map AV.agg) else none := by
  simp only [xAa,xC3]
  split
  · cases fillA z (parts.map fun p => (p.1,(opv F p.2.2).cells)) <;> rfl
  · rfl
def yAQ (fz z : Bool) (n es : Nat) (H : xAj) : Option (List AV) → Option (AV × xAj)
  | some cs => xC9 fz z n es cs H
  | none => none
theorem xMN (fz z : Bool) (n es : Nat) (cs : List AV) : yAQ fz z n es H (some cs) = xC9 fz z n es cs H := rfl
theorem xPk (z : Bool) (n es : Nat) (cs : List AV) : xC9 false z n es cs H = some (.own z H.length 0 n es,H ++ [.cells false z cs]) := rfl
def slK (z : Bool) (n : Nat) : Option (List AV) → Option AV
  | some cs => some (.sl z n cs)
  | none => none
theorem xPl (z : Bool) (n : Nat) (cs : List AV) : slK z n (some cs) = some (.sl z n cs) := rfl
theorem xMO (z : Bool) (n es : Nat) (cs : List AV) : xC9 true z n es cs H = if (cs.flatMap (bor frzN H)).isEmpty = true then xC3 H (slK z n (cs.mapM (frz frzN H))) else none := by
  simp only [xC9,xC3,slK]
  split
  · rename_i h
    cases cs.mapM (frz frzN H) <;> simp_all
  · simp_all
theorem xMP (fz : Bool) (z : List AV) (es n : Nat) (parts : List (Nat × Arg)) : xAa R F H (.bslice fz z es n parts) =
    if parts.all (fun p => (opv F p.2).cells.length == es) = true then yAQ fz false n es H (fillA (xCr z n) (parts.map fun p => (p.1 * es,(opv F p.2).cells))) else none := by
  simp only [xAa,yAQ]
  split
  · cases fillA (xCr z n) (parts.map fun p => (p.1 * es,(opv F p.2).cells)) <;> rfl
  · rfl
def xVD (g : Bool) : Option (List AV) → Option AV
  | some cs => mkv g cs
  | none => none
theorem xSJ (v : AV) : xVD false (some [v]) = some v := rfl
theorem xSK (cs : List AV) : xVD true (some cs) = some (.agg cs) := rfl
theorem xSL (g : Bool) (n : Nat) (p : Arg) : xAa R F H (.load g n p) = xC3 H (xVD g (rd H (opv F p) n)) := by
  simp only [xAa,xC3,xVD]
  cases rd H (opv F p) n with
  | none => rfl
  | some cs => simp only; cases mkv g cs <;> rfl
def rdK (off n : Nat) : Option Blk → Option (List AV)
  | some (.cells _ _ cs) => if off + n ≤ cs.length then some ((cs.drop off).take n) else none
  | _ => none
theorem xWy (id off n : Nat) : rd H (.ptr id off) n = rdK off n H[id]? := by
  simp only [rd,rdK]
  rfl
theorem xMQ {off n : Nat} {fz z : Bool} {cs : List AV} (h : off + n ≤ cs.length) : rdK off n (some (.cells fz z cs)) = some ((cs.drop off).take n) := if_pos h
theorem xSM {off n : Nat} {cs : List AV} (h : off + n ≤ cs.length) : rd H (.vptr cs off) n = some ((cs.drop off).take n) := if_pos h
def wrK (H : xAj) (id off : Nat) (vs : List AV) : Option Blk → Option xAj
  | some (.cells false z cs) => if off + vs.length ≤ cs.length ∧ vs.all AV.isCell = true then some (H.set id (.cells false z (splice cs off vs))) else none
  | _ => none
theorem xWz (id off : Nat) (vs : List AV) : wr H (.ptr id off) vs = wrK H id off vs H[id]? := by
  simp only [wr,wrK]
  rfl
theorem xMR {id off : Nat} {vs : List AV} {z : Bool} {cs : List AV} (h : off + vs.length ≤ cs.length) (h2 : vs.all AV.isCell = true) : wrK H id off vs (some (.cells false z cs)) = some (H.set id (.cells false z (splice cs off vs))) := if_pos ⟨h,h2⟩
def xSN : Option xAj → Option (AV × xAj)
  | some H => some (.tup [],H)
  | none => none
theorem xHl (H : xAj) : xSN (some H) = some (.tup [],H) := rfl
theorem xPm (n : Nat) (p v : Arg) : xAa R F H (.store n p v) = if (opv F v).cells.length = n then xSN (wr H (opv F p) (opv F v).cells) else none := by
  simp only [xAa,xSN]
  split
  · cases wr H (opv F p) (opv F v).cells <;> rfl
  · rfl
def xZE : AV → Option AV
  | .ptr id off => some (.ptr id off)
  | .vptr cs off => some (.vptr cs off)
  | .func f caps => some (.func f caps)
  | .yield l => some (.yield l)
  | _ => none
theorem xPn (id off : Nat) : xZE (.ptr id off) = some (.ptr id off) := rfl
theorem xMS (cs : List AV) (off : Nat) : xZE (.vptr cs off) = some (.vptr cs off) := rfl
theorem xMT (f : Nat) (cs : List AV) : xZE (.func f cs) = some (.func f cs) := rfl
theorem xJr (l : Nat) : xZE (.yield l) = some (.yield l) := rfl
theorem xMU (x : Arg) : xAa R F H (.nilchk x) = xC3 H (xZE (opv F x)) := by
  simp only [xAa]
  cases opv F x <;> rfl
theorem xWA (op : BinOp) (x y : Arg) : xAa R F H (.bin op x y) = xC3 H (xC2 op (opv F x) (opv F y)) := by
  simp only [xAa,xC3]
  cases xC2 op (opv F x) (opv F y) <;> rfl
section
variable (k : IntKind) (a b : Int)
theorem xSO : xC2 .add (.int k a) (.int k b) = some (.int k (k.wrap (a + b))) := by simp [xC2]
theorem xSP : xC2 .sub (.int k a) (.int k b) = some (.int k (k.wrap (a - b))) := by simp [xC2]
theorem xSQ : xC2 .mul (.int k a) (.int k b) = some (.int k (k.wrap (a * b))) := by simp [xC2]
theorem xSR (h : b ≠ 0) : xC2 .quo (.int k a) (.int k b) = some (.int k (k.wrap (a.tdiv b))) := by simp [xC2,h]
theorem xSS (h : b ≠ 0) : xC2 .rem (.int k a) (.int k b) = some (.int k (a.tmod b)) := by simp [xC2,h]
theorem xST : xC2 .and (.int k a) (.int k b) = some (.int k (xGe .and k a b)) := by simp [xC2]
theorem xWB : xC2 .or (.int k a) (.int k b) = some (.int k (xGe .or k a b)) := by simp [xC2]
theorem xSU : xC2 .xor (.int k a) (.int k b) = some (.int k (xGe .xor k a b)) := by simp [xC2]
theorem xJs : xC2 .andNot (.int k a) (.int k b) = some (.int k (xGe .andNot k a b)) := by simp [xC2]
theorem xSV (k' : IntKind) (h : 0 ≤ b) : xC2 .shl (.int k a) (.int k' b) = some (.int k (k.wrap (a * 2 ^ (min b.toNat k.bits)))) := by simp only [xC2]; rw [if_neg (by omega)]
theorem xSW (k' : IntKind) (h : 0 ≤ b) : xC2 .shr (.int k a) (.int k' b) = some (.int k (a.fdiv (2 ^ (min b.toNat k.bits)))) := by simp only [xC2]; rw [if_neg (by omega)]
theorem xSX : xC2 .eql (.int k a) (.int k b) = some (.bool (decide (a = b))) := by simp [xC2]; rfl
theorem xSY : xC2 .neq (.int k a) (.int k b) = some (.bool (!decide (a = b))) := by simp [xC2]; rfl
theorem xSZ : xC2 .lss (.int k a) (.int k b) = some (.bool (decide (a < b))) := by simp [xC2]
theorem xS0 : xC2 .leq (.int k a) (.int k b) = some (.bool (decide (a ≤ b))) := by simp [xC2]
theorem xS1 : xC2 .gtr (.int k a) (.int k b) = some (.bool (decide (b < a))) := by simp [xC2]
theorem xS2 : xC2 .geq (.int k a) (.int k b) = some (.bool (decide (b ≤ a))) := by simp [xC2]
end
def yAR (neg : Bool) : AV → AV → Option AV
  | .bool a,.bool b => some (.bool (if neg = true then a != b else a == b))
  | _,_ => none
theorem xWC (a b : Bool) : yAR false (.bool a) (.bool b) = some (.bool (decide (a = b))) := by cases a <;> cases b <;> rfl
theorem xWD (a b : Bool) : yAR true (.bool a) (.bool b) = some (.bool (!decide (a = b))) := by cases a <;> cases b <;> rfl
theorem xWE (neg : Bool) (x y : Arg) : xAa R F H (.beq neg x y) = xC3 H (yAR neg (opv F x) (opv F y)) := by
  simp only [xAa]
  cases opv F x <;> cases opv F y <;> rfl
def xMV (neg : Bool) : AV → Option AV
  | .sl z _ _ => some (.bool (z != neg))
  | .own z _ _ _ _ => some (.bool (z != neg))
  | _ => none
theorem xJt (z : Bool) (n : Nat) (cs : List AV) : xMV false (.sl z n cs) = some (.bool z) := by cases z <;> rfl
theorem xJu (z : Bool) (n : Nat) (cs : List AV) : xMV true (.sl z n cs) = some (.bool (!z)) := by cases z <;> rfl
theorem xHm (z : Bool) (id off n es : Nat) : xMV false (.own z id off n es) = some (.bool z) := by cases z <;> rfl
theorem xHn (z : Bool) (id off n es : Nat) : xMV true (.own z id off n es) = some (.bool (!z)) := by cases z <;> rfl
theorem xPo (neg : Bool) (x : Arg) : xAa R F H (.isnil neg x) = xC3 H (xMV neg (opv F x)) := by
  simp only [xAa]
  cases opv F x <;> rfl
theorem xZF (op : UnOp) (x : Arg) : xAa R F H (.un op x) = xC3 H (unA op (opv F x)) := by
  simp only [xAa,xC3]
  cases unA op (opv F x) <;> rfl
theorem xWF (b : Bool) : unA .not (.bool b) = some (.bool !b) := rfl
theorem xWG (k : IntKind) (n : Int) : unA .neg (.int k n) = some (.int k (k.wrap (0 - n))) := rfl
theorem xWH (k : IntKind) (n : Int) : unA .xor (.int k n) = some (.int k (xGe .xor k (if k.signed then -1 else k.max) n)) := rfl
def xZG (k : IntKind) : AV → Option AV
  | .int _ n => some (.int k (k.wrap n))
  | _ => none
theorem xMW (k k' : IntKind) (n : Int) : xZG k (.int k' n) = some (.int k (k.wrap n)) := rfl
theorem xS3 (k : IntKind) (x : Arg) : xAa R F H (.conv k x) = xC3 H (xZG k (opv F x)) := by
  simp only [xAa]
  cases opv F x <;> rfl
theorem xMX (f : Nat) (caps : List Arg) : xAa R F H (.mkfunc f caps) = some (.func f (caps.map (opv F)),H) := rfl
def yBw (fz : Bool) (z : List AV) (bytes : Nat) (H : xAj) : AV → AV → Option (AV × xAj)
  | .int _ l,.int _ c => if 0 ≤ l ∧ l ≤ c ∧ c * bytes ≤ xA9 ∧ c ≤ xA9 ∧ z.all AV.isCell = true then xC9 fz false l.toNat z.length (xCr z l.toNat) H else none
  | _,_ => none
theorem xPp (fz : Bool) (z : List AV) (bytes : Nat) (k k' : IntKind) {l c : Int} (h1 : 0 ≤ l) (h2 : l ≤ c) (h3 : c * bytes ≤ 140737488355328) (h4 : c ≤ 140737488355328) (h5 : z.all AV.isCell = true) : yBw fz z bytes H (.int k l) (.int k' c) = xC9 fz false l.toNat z.length (xCr z l.toNat) H := if_pos ⟨h1,h2,h3,h4,h5⟩
theorem xJv (fz : Bool) (z : List AV) (bytes : Nat) (l c : Arg) : xAa R F H (.mkslice fz z bytes l c) = yBw fz z bytes H (opv F l) (opv F c) := by
  simp only [xAa]
  cases opv F l <;> cases opv F c <;> rfl
def xXT (es : Nat) (H : xAj) (x : AV) : Option (Nat × Nat) → Option AV
  | none => none
  | some (l,h) => match x with
    | .sl z _ cs => some (.sl z (h - l) ((cs.drop (l * es)).take ((h - l) * es)))
    | .own z id off _ _ => some (.own z id (off + l * es) (h - l) es)
    | _ => none
def xPq (es : Nat) (H : xAj) (lo hi mx : Option AV) : AV → Option AV
  | .sl z n cs => if cs.length = n * es then xXT es H (.sl z n cs) (xBb n lo hi mx) else none
  | .own z id off n es' => if es' = es then xXT es H (.own z id off n es') (xBb n lo hi mx) else none
  | _ => none
theorem xPr (es : Nat) (x : Arg) (lo hi mx : Option Arg) : xAa R F H (.slice es x lo hi mx) = xC3 H (xPq es H (lo.map (opv F)) (hi.map (opv F)) (mx.map (opv F)) (opv F x)) := by
  simp only [xAa,xC3,xPq,xXT]
  cases opv F x with
  | sl z n cs =>
    simp only
    split
    · cases xBb n (lo.map (opv F)) (hi.map (opv F)) (mx.map (opv F)) <;> rfl
    · rfl
  | own z id off n es' =>
    simp only
    split
    · cases xBb n (lo.map (opv F)) (hi.map (opv F)) (mx.map (opv F)) <;> rfl
    · rfl
  | _ => rfl
theorem xMY {es n : Nat} {z : Bool} {cs : List AV} (lo hi mx : Option AV) (h : cs.length = n * es) : xPq es H lo hi mx (.sl z n cs) = xXT es H (.sl z n cs) (xBb n lo hi mx) := if_pos h
theorem xJw {es n id off : Nat} {z : Bool} (lo hi mx : Option AV) : xPq es H lo hi mx (.own z id off n es) = xXT es H (.own z id off n es) (xBb n lo hi mx) := if_pos rfl
theorem xS4 (es : Nat) (z : Bool) (n : Nat) (cs : List AV) (l h : Nat) : xXT es H (.sl z n cs) (some (l,h)) = some (.sl z (h - l) ((cs.drop (l * es)).take ((h - l) * es))) := rfl
theorem xPs (es : Nat) (z : Bool) (id off n es' : Nat) (l h : Nat) : xXT es H (.own z id off n es') (some (l,h)) = some (.own z id (off + l * es) (h - l) es) := rfl
theorem xMZ (n : Nat) : xBb n none none none = some (0,n) := by simp [xBb]
theorem xM0 {n : Nat} {k : IntKind} {l : Int} (h0 : 0 ≤ l) (h : l ≤ n) : xBb n (some (.int k l)) none none = some (l.toNat,n) := by
  simp only [xBb,xBS,if_pos h0]
  rw [if_pos ⟨by omega,by omega⟩]
theorem xM1 {n : Nat} {k : IntKind} {m : Int} (h0 : 0 ≤ m) (h : m ≤ n) : xBb n none (some (.int k m)) none = some (0,m.toNat) := by
  simp only [xBb,xBS,if_pos h0]
  rw [if_pos ⟨by omega,by omega⟩]
theorem xM2 {n : Nat} {k k' : IntKind} {l m : Int} (h0 : 0 ≤ l) (h1 : l ≤ m) (h : m ≤ n) : xBb n (some (.int k l)) (some (.int k' m)) none = some (l.toNat,m.toNat) := by
  have h2 : 0 ≤ m := by omega
  simp only [xBb,xBS,if_pos h0,if_pos h2]
  rw [if_pos ⟨by omega,by omega⟩]
def xS5 (o : Nat) : AV → Option AV
  | .ptr id off => some (.ptr id (off + o))
  | .vptr cs off => some (.vptr cs (off + o))
  | _ => none
theorem xJx (o id off : Nat) : xS5 o (.ptr id off) = some (.ptr id (off + o)) := rfl
theorem xHo (o : Nat) (cs : List AV) (off : Nat) : xS5 o (.vptr cs off) = some (.vptr cs (off + o)) := rfl
theorem xPt (o : Nat) (x : Arg) : xAa R F H (.faddr o x) = xC3 H (xS5 o (opv F x)) := by
  simp only [xAa]
  cases opv F x <;> rfl
def xS6 (g : Bool) (off n : Nat) : AV → Option AV
  | .agg cs => if off + n ≤ cs.length then mkv g ((cs.drop off).take n) else none
  | _ => none
theorem xJy {g : Bool} {off n : Nat} {cs : List AV} (h : off + n ≤ cs.length) : xS6 g off n (.agg cs) = mkv g ((cs.drop off).take n) := if_pos h
theorem xZH (v : AV) : mkv false [v] = some v := rfl
theorem xZI (cs : List AV) : mkv true cs = some (.agg cs) := rfl
theorem xPu (g : Bool) (off n : Nat) (x : Arg) : xAa R F H (.field g off n x) = xC3 H (xS6 g off n (opv F x)) := by
  simp only [xAa]
  cases opv F x with
  | agg cs =>
    simp only [xS6,xC3]
    split
    · cases mkv g ((cs.drop off).take n) <;> rfl
    · rfl
  | _ => rfl
def xJz (es : Nat) : AV → AV → Option AV
  | .sl _ n cs,.int _ i => if 0 ≤ i ∧ i.toNat < n then some (.vptr cs (i.toNat * es)) else none
  | .own _ id off n es',.int _ i => if 0 ≤ i ∧ i.toNat < n ∧ es' = es then some (.ptr id (off + i.toNat * es)) else none
  | _,_ => none
theorem xM3 {es n : Nat} {z : Bool} {cs : List AV} {k : IntKind} {i : Int} (h0 : 0 ≤ i) (h : i < n) : xJz es (.sl z n cs) (.int k i) = some (.vptr cs (i.toNat * es)) := if_pos ⟨h0,by omega⟩
theorem xJA {es n id off : Nat} {z : Bool} {k : IntKind} {i : Int} (h0 : 0 ≤ i) (h : i < n) : xJz es (.own z id off n es) (.int k i) = some (.ptr id (off + i.toNat * es)) := if_pos ⟨h0,by omega,rfl⟩
theorem xPv (es : Nat) (x i : Arg) : xAa R F H (.iaddr es x i) = xC3 H (xJz es (opv F x) (opv F i)) := by
  simp only [xAa]
  cases opv F x with
  | sl z n cs =>
    cases opv F i with
    | int k j =>
      simp only [xBS,xJz,xC3]
      by_cases h : 0 ≤ j
      · by_cases h2 : j.toNat < n <;> simp [h,h2]
      · simp [h]
    | _ => rfl
  | own z id off n es' =>
    cases opv F i with
    | int k j =>
      simp only [xBS,xJz,xC3]
      by_cases h : 0 ≤ j
      · by_cases h2 : j.toNat < n
        · by_cases h3 : es' = es <;> simp [h,h2,h3]
        · simp [h,h2]
      · simp [h]
    | _ => rfl
  | _ => cases opv F i <;> simp [xJz,xC3,xBS] <;> split <;> simp_all
def yAS (i : Nat) : AV → Option AV
  | .tup vs => vs[i]?
  | _ => none
theorem xPw (i : Nat) (vs : List AV) : yAS i (.tup vs) = vs[i]? := rfl
theorem xWI (i : Nat) (x : Arg) : xAa R F H (.ext i x) = xC3 H (yAS i (opv F x)) := by
  simp only [xAa]
  cases opv F x with
  | tup vs => simp only [yAS,xC3]; cases vs[i]? <;> rfl
  | _ => rfl
def yAm : AV → Option AV
  | .sl _ n _ => some (.int .i64 n)
  | .own _ _ _ n _ => some (.int .i64 n)
  | _ => none
theorem xS7 (z : Bool) (n : Nat) (cs : List AV) : yAm (.sl z n cs) = some (.int .i64 n) := rfl
theorem xPx (z : Bool) (id off n es : Nat) : yAm (.own z id off n es) = some (.int .i64 n) := rfl
theorem xWJ (x : Arg) : xAa R F H (.len x) = xC3 H (yAm (opv F x)) := by
  simp only [xAa]
  cases opv F x <;> rfl
theorem xWK (x : Arg) : xAa R F H (.cap x) = match opv F x with
  | .sl true _ _ => some (.int .i64 0,H)
  | _ => none := rfl
def yAT (neg : Bool) (n : Nat) : AV → AV → Option AV
  | .agg cs,.agg ds => if cs.length = n then (xBk cs ds).map fun b => .bool (b != neg) else none
  | _,_ => none
theorem xPy {neg : Bool} {n : Nat} {cs ds : List AV} (h : cs.length = n) : yAT neg n (.agg cs) (.agg ds) = (xBk cs ds).map fun b => .bool (b != neg) := if_pos h
theorem xWL (neg : Bool) (n : Nat) (x y : Arg) : xAa R F H (.aeq neg n x y) = xC3 H (yAT neg n (opv F x) (opv F y)) := by
  simp only [xAa]
  cases opv F x with
  | agg cs => cases opv F y with
    | agg ds =>
      simp only [yAT,xC3]
      split
      · cases xBk cs ds <;> rfl
      · rfl
    | _ => rfl
  | _ => rfl
def xWM (fz : Bool) (es bytes : Nat) (H : xAj) (x : AV) : Option (Nat × List AV) → Option (AV × xAj)
  | none => none
  | some (m,ys) => match x with
    | .sl true _ _ => if m * bytes ≤ xA9 ∧ m ≤ xA9 then xC9 fz (m == 0) m es ys H else none
    | .own z id off n es' => match H[id]? with
      | some (.cells false _ cs) => if off = 0 ∧ es' = es ∧ n * es ≤ cs.length ∧ (n + m) * bytes ≤ xA9 ∧ n + m ≤ xA9 then
          some (.own (z && m == 0) H.length 0 (n + m) es,H.set id .dead ++ [.cells false (z && m == 0) (cs.take (n * es) ++ ys)]) else none
      | _ => none
    | _ => none
theorem xHp (fz : Bool) (es bytes : Nat) (x y : Arg) : xAa R F H (.append fz es bytes x y) = xWM fz es bytes H (opv F x) (src H es (opv F y)) := by
  simp only [xAa,xWM]
  cases src H es (opv F y) <;> rfl
theorem xPz {fz : Bool} {es bytes n m : Nat} {cs ys : List AV} (h : m * bytes ≤ 140737488355328) (h2 : m ≤ 140737488355328) : xWM fz es bytes H (.sl true n cs) (some (m,ys)) = xC9 fz (m == 0) m es ys H := if_pos ⟨h,h2⟩
def xXU (es bytes n m : Nat) (H : xAj) (z : Bool) (id : Nat) (ys : List AV) : Option Blk → Option (AV × xAj)
  | some (.cells false _ cs) => if n * es ≤ cs.length ∧ (n + m) * bytes ≤ xA9 ∧ n + m ≤ xA9 then
      some (.own (z && m == 0) H.length 0 (n + m) es,H.set id .dead ++ [.cells false (z && m == 0) (cs.take (n * es) ++ ys)]) else none
  | _ => none
theorem xPA (fz : Bool) (es bytes n m id : Nat) (z : Bool) (ys : List AV) : xWM fz es bytes H (.own z id 0 n es) (some (m,ys)) = xXU es bytes n m H z id ys H[id]? := by
  simp only [xWM,xXU]
  split
  · rename_i z' cs hb
    by_cases h : n * es ≤ cs.length ∧ (n + m) * bytes ≤ xA9 ∧ n + m ≤ xA9
    · rw [if_pos h,if_pos ⟨trivial,trivial,h⟩]
    · rw [if_neg h,if_neg (fun g => h g.2.2)]
  · rename_i hne
    cases hb : H[id]? with
    | none => rfl
    | some b => cases b with
      | cells fz z cs => cases fz with
        | false => exact (hne _ _ hb).elim
        | true => rfl
      | _ => rfl
theorem xHq {es bytes n m id : Nat} {z z' : Bool} {ys cs : List AV} (h : n * es ≤ cs.length) (h2 : (n + m) * bytes ≤ 140737488355328) (h3 : n + m ≤ 140737488355328) : xXU es bytes n m H z id ys (some (.cells false z' cs)) =
    some (.own (z && m == 0) H.length 0 (n + m) es,H.set id .dead ++ [.cells false (z && m == 0) (cs.take (n * es) ++ ys)]) := if_pos ⟨h,h2,h3⟩
theorem xWN {es n : Nat} {z : Bool} {cs : List AV} (h : cs.length = n * es) : src H es (.sl z n cs) = some (n,cs) := if_pos h
def yAU (off n es : Nat) : Option Blk → Option (Nat × List AV)
  | some (.cells _ _ cs) => if off + n * es ≤ cs.length then some (n,(cs.drop off).take (n * es)) else none
  | _ => none
theorem xS8 (es n id off : Nat) (z : Bool) : src H es (.own z id off n es) = yAU off n es H[id]? := by
  simp only [src,yAU]
  cases H[id]? with
  | none => rfl
  | some b => cases b <;> simp
theorem xJB {es n off : Nat} {fz z : Bool} {cs : List AV} (h : off + n * es ≤ cs.length) : yAU off n es (some (.cells fz z cs)) = some (n,(cs.drop off).take (n * es)) := if_pos h
def xM4 (z : List AV) (bytes : Nat) (H : xAj) : AV → AV → Option (AV × xAj)
  | .sl true _ _,.int _ m => if 0 ≤ m ∧ m.toNat * bytes ≤ xA9 ∧ m.toNat ≤ xA9 ∧ z.all AV.isCell = true then xC9 false (m.toNat == 0) m.toNat z.length (xCr z m.toNat) H else none
  | _,_ => none
theorem xJC (z : List AV) (bytes : Nat) (x n : Arg) : xAa R F H (.appendz z bytes x n) = xM4 z bytes H (opv F x) (opv F n) := by
  simp only [xAa]
  cases hn : opv F n with
  | int k m =>
    simp only [xBS]
    by_cases h : 0 ≤ m
    · cases hx : opv F x with
      | sl zz nn cs => cases zz <;> simp [xM4,h]
      | _ => simp [xM4,h]
    · cases hx : opv F x with
      | sl zz nn cs => cases zz <;> simp [xM4,h]
      | _ => simp [xM4,h]
  | _ =>
    cases hx : opv F x with
    | sl zz nn cs => cases zz <;> simp [xM4,xBS]
    | _ => simp [xM4,xBS]
theorem xM5 {z : List AV} {bytes n : Nat} {cs : List AV} {k : IntKind} {m : Int} (h0 : 0 ≤ m) (h1 : m.toNat * bytes ≤ 140737488355328) (h2 : m.toNat ≤ 140737488355328) (h3 : z.all AV.isCell = true) : xM4 z bytes H (.sl true n cs) (.int k m) = xC9 false (m.toNat == 0) m.toNat z.length (xCr z m.toNat) H := if_pos ⟨h0,h1,h2,h3⟩
def yAV : AV → AV → Option AV
  | .int k a,.int _ b => some (.int k (max a b))
  | _,_ => none
def yAW : AV → AV → Option AV
  | .int k a,.int _ b => some (.int k (min a b))
  | _,_ => none
theorem xPB (k k' : IntKind) (a b : Int) : yAV (.int k a) (.int k' b) = some (.int k (max a b)) := rfl
theorem xPC (k k' : IntKind) (a b : Int) : yAW (.int k a) (.int k' b) = some (.int k (min a b)) := rfl
theorem xS9 (x y : Arg) : xAa R F H (.maxi x y) = xC3 H (yAV (opv F x) (opv F y)) := by
  simp only [xAa]
  cases opv F x with
  | int k a => cases opv F y with
    | int k' b => simp only [yAV,xC3]; congr 3; split <;> omega
    | _ => rfl
  | _ => rfl
theorem xTa (x y : Arg) : xAa R F H (.mini x y) = xC3 H (yAW (opv F x) (opv F y)) := by
  simp only [xAa]
  cases opv F x with
  | int k a => cases opv F y with
    | int k' b => simp only [yAW,xC3]; congr 3; split <;> omega
    | _ => rfl
  | _ => rfl
theorem xWO (z : List AV) : xCr z 0 = [] := rfl
theorem xWP (z : List AV) : xCr z 1 = z ++ ([]) := rfl
theorem xWQ (z : List AV) : xCr z 2 = z ++ (z ++ ([])) := rfl
theorem xWR (z : List AV) : xCr z 3 = z ++ (z ++ (z ++ ([]))) := rfl
theorem xWS (z : List AV) : xCr z 4 = z ++ (z ++ (z ++ (z ++ ([])))) := rfl
theorem xWT (z : List AV) : xCr z 5 = z ++ (z ++ (z ++ (z ++ (z ++ ([]))))) := rfl
theorem xWU (z : List AV) : xCr z 6 = z ++ (z ++ (z ++ (z ++ (z ++ (z ++ ([])))))) := rfl
theorem xWV (z : List AV) : xCr z 7 = z ++ (z ++ (z ++ (z ++ (z ++ (z ++ (z ++ ([]))))))) := rfl
theorem xWW (z : List AV) : xCr z 8 = z ++ (z ++ (z ++ (z ++ (z ++ (z ++ (z ++ (z ++ ([])))))))) := rfl
theorem xWX (z : List AV) : xCr z 9 = z ++ (z ++ (z ++ (z ++ (z ++ (z ++ (z ++ (z ++ (z ++ ([]))))))))) := rfl
theorem xTb (z : List AV) : xCr z 10 = z ++ (z ++ (z ++ (z ++ (z ++ (z ++ (z ++ (z ++ (z ++ (z ++ ([])))))))))) := rfl
theorem xTc (z : List AV) : xCr z 11 = z ++ (z ++ (z ++ (z ++ (z ++ (z ++ (z ++ (z ++ (z ++ (z ++ (z ++ ([]))))))))))) := rfl
theorem xTd (z : List AV) : xCr z 12 = z ++ (z ++ (z ++ (z ++ (z ++ (z ++ (z ++ (z ++ (z ++ (z ++ (z ++ (z ++ ([])))))))))))) := rfl
theorem xEg (d : Nat) (k : IntKind) (n : Int) : frz d H (.int k n) = some (.int k n) := by cases d <;> rfl
theorem xPD (d : Nat) (b : Bool) : frz d H (.bool b) = some (.bool b) := by cases d <;> rfl
theorem xTe (d : Nat) (b : ByteArray) : frz d H (.str b) = some (.str b) := by cases d <;> rfl
theorem xPE (d : Nat) : frz d H .nilp = some .nilp := by cases d <;> rfl
theorem xPF (d : Nat) : frz d H .nilf = some .nilf := by cases d <;> rfl
theorem xTf (d : Nat) : frz d H .any = some .any := by cases d <;> rfl
theorem xPG (d f : Nat) : frz d H (.func f []) = some (.func f []) := by cases d <;> rfl
theorem xWY (d : Nat) (z : Bool) (n : Nat) (cs : List AV) : frz d H (.sl z n cs) = some (.sl z n cs) := by cases d <;> rfl
theorem xTg (d : Nat) (cs : List AV) : frz (d + 1) H (.agg cs) = (cs.mapM (frz d H)).map AV.agg := rfl
theorem xTh (d : Nat) (cs : List AV) : frz (d + 1) H (.tup cs) = (cs.mapM (frz d H)).map AV.tup := rfl
def yAX (d : Nat) (H : xAj) (z : Bool) (off n es : Nat) : Option Blk → Option AV
  | some (.cells _ _ cs) => if off + n * es ≤ cs.length then slK z n (((cs.drop off).take (n * es)).mapM (frz d H)) else none
  | _ => none
theorem xAd (d : Nat) (z : Bool) (id off n es : Nat) : frz (d + 1) H (.own z id off n es) = yAX d H z off n es H[id]? := by
  simp only [frz,yAX]
  cases H[id]? with
  | none => rfl
  | some b => cases b with
    | cells fz z' cs =>
      simp only
      split
      · cases ((cs.drop off).take (n * es)).mapM (frz d H) <;> rfl
      · rfl
    | _ => rfl
theorem xJD {d off n es : Nat} {z fz z' : Bool} {cs : List AV} (h : off + n * es ≤ cs.length) : yAX d H z off n es (some (.cells fz z' cs)) = slK z n (((cs.drop off).take (n * es)).mapM (frz d H)) := if_pos h
theorem xDE (d : Nat) (k : IntKind) (n : Int) : bor d H (.int k n) = [] := by cases d <;> rfl
theorem xPH (d : Nat) (b : Bool) : bor d H (.bool b) = [] := by cases d <;> rfl
theorem xTi (d : Nat) (b : ByteArray) : bor d H (.str b) = [] := by cases d <;> rfl
theorem xPI (d : Nat) : bor d H .nilp = [] := by cases d <;> rfl
theorem xPJ (d : Nat) : bor d H .nilf = [] := by cases d <;> rfl
theorem xTj (d : Nat) : bor d H .any = [] := by cases d <;> rfl
theorem xPK (d f : Nat) (cs : List AV) : bor d H (.func f cs) = [] := by cases d <;> rfl
theorem xWZ (ss : List Nat) (b : ACode) (s : St) : run R (.fz ss b) s = run R b ⟨s.F,fzIds s.H (ss.flatMap fun i => bor frzN s.H (s.F.getD i .any))⟩ := rfl
def yAY (R : Rec) (i : Nat) (b : ACode) (s : St) (ids : List Nat) : Option AV → Option (AExit × St)
  | some v => run R b ⟨s.F.set i v,fzIds s.H ids⟩
  | none => none
theorem xTk (i : Nat) (b : ACode) (s : St) : run R (.fzs i b) s = yAY R i b s (bor frzN s.H (s.F.getD i .any)) (frz frzN s.H (s.F.getD i .any)) := by
  simp only [run,yAY]
  cases frz frzN s.H (s.F.getD i .any) <;> rfl
theorem xM6 (i : Nat) (b : ACode) (s : St) (ids : List Nat) (v : AV) : yAY R i b s ids (some v) = run R b ⟨s.F.set i v,fzIds s.H ids⟩ := rfl
def yAZ (d : Nat) (H : xAj) (off : Nat) : Option Blk → Option AV
  | some (.cells _ _ cs) => (cs.mapM (frz d H)).map fun cs' => .vptr cs' off
  | _ => none
theorem xTl (d i o : Nat) : frz (d + 1) H (.ptr i o) = yAZ d H o H[i]? := by
  simp only [frz,yAZ]
  cases H[i]? with
  | none => rfl
  | some b => cases b <;> rfl
theorem xJE (d : Nat) (o : Nat) (fz z : Bool) (cs : List AV) : yAZ d H o (some (.cells fz z cs)) = (cs.mapM (frz d H)).map fun cs' => .vptr cs' o := rfl
theorem xPL (d : Nat) (cs : List AV) (o : Nat) : frz d H (.vptr cs o) = some (.vptr cs o) := by cases d <;> rfl
def xXV (d : Nat) (H : xAj) : Option Blk → List Nat
  | some (.cells _ _ cs) => cs.flatMap (bor d H)
  | _ => []
theorem xTm (d i o : Nat) : bor (d + 1) H (.ptr i o) = i :: xXV d H H[i]? := by
  simp only [bor,xXV]
  cases H[i]? with
  | none => rfl
  | some b => cases b <;> rfl
theorem xHr (d : Nat) (fz z : Bool) (cs : List AV) : xXV d H (some (.cells fz z cs)) = cs.flatMap (bor d H) := rfl
theorem xPM (d : Nat) (cs : List AV) (o : Nat) : bor d H (.vptr cs o) = [] := by cases d <;> rfl
def xXW : Option Blk → Bool
  | some (.cells true _ _) => true
  | _ => false
theorem xJF (i : Nat) : xFl H i = xXW H[i]? := by
  simp only [xFl,xXW]
  cases H[i]? with
  | none => rfl
  | some b => cases b with
    | cells fz z cs => cases fz <;> rfl
    | _ => rfl
theorem xTn (z : Bool) (cs : List AV) : xXW (some (.cells true z cs)) = true := rfl
theorem xW0 (d : Nat) (z : Bool) (n : Nat) (cs : List AV) : bor d H (.sl z n cs) = [] := by cases d <;> rfl
theorem xTo (d : Nat) (cs : List AV) : bor (d + 1) H (.agg cs) = cs.flatMap (bor d H) := rfl
theorem xTp (d : Nat) (cs : List AV) : bor (d + 1) H (.tup cs) = cs.flatMap (bor d H) := rfl
def yA0 (d : Nat) (H : xAj) (off n es : Nat) : Option Blk → List Nat
  | some (.cells _ _ cs) => ((cs.drop off).take (n * es)).flatMap (bor d H)
  | _ => []
theorem xAe (d : Nat) (z : Bool) (id off n es : Nat) : bor (d + 1) H (.own z id off n es) = id :: yA0 d H off n es H[id]? := by
  simp only [bor,yA0]
  cases H[id]? with
  | none => rfl
  | some b => cases b <;> rfl
theorem xJG (d off n es : Nat) (fz z : Bool) (cs : List AV) : yA0 d H off n es (some (.cells fz z cs)) = ((cs.drop off).take (n * es)).flatMap (bor d H) := rfl
def xW1 (args : List AV) (H : xAj) : Option AV → Option (AV × xAj)
  | some r => some (r,if xAu r = true then H else fzIds H (args.flatMap (bor frzN H)))
  | none => none
theorem xM7 (args : List AV) (r : AV) : xW1 args H (some r) = some (r,if xAu r = true then H else fzIds H (args.flatMap (bor frzN H))) := rfl
theorem xM8 (args : List AV) : xW1 args H none = none := rfl
theorem xPN (args : List AV) {c : Prop} [Decidable c] (x y : Option AV) : xW1 args H (if c then x else y) = if c then xW1 args H x else xW1 args H y := by split <;> rfl
def yA1 (R : Rec) (f : Nat) (args : List AV) (H : xAj) : Option (List AV) → Option (AV × xAj)
  | some args' => xW1 args H (R.pcall f args')
  | none => none
theorem xM9 (f : Nat) (args args' : List AV) : yA1 R f args H (some args') = xW1 args H (R.pcall f args') := rfl
theorem xNa (f : Nat) (args : List AV) : xBm R f args H = yA1 R f args H (args.mapM (frz frzN H)) := by
  simp only [xBm,yA1]
  cases args.mapM (frz frzN H) with
  | none => rfl
  | some args' => simp only [xW1]; cases R.pcall f args' <;> rfl
theorem xTq (f : Nat) (args : List Arg) : xAa R F H (.call f args) = xBm R f (args.map (opv F)) H := rfl
theorem xPO (f : Arg) (args : List Arg) : xAa R F H (.icall f args) = R.icall (opv F f) (args.map (opv F)) H := rfl
def xW2 (R : Rec) (args : List AV) (H : xAj) : AV → Option (AV × xAj)
  | .func g caps => xBm R g (args ++ caps) H
  | _ => none
theorem xHs (args : List AV) (g : Nat) (caps : List AV) : xW2 R args H (.func g caps) = xBm R g (args ++ caps) H := rfl
theorem xPP (f : Arg) (args : List Arg) : xAa R F H (.fcall f args) = xW2 R (args.map (opv F)) H (opv F f) := by
  simp only [xAa]
  cases opv F f <;> rfl
def xD5 (args : List AV) (H : xAj) : Option (AV × xAj) → Option (AV × xAj)
  | some (r,_) => if quietCall r H args = true then some (r,H) else none
  | none => none
theorem xHt (args : List AV) (r : AV) (H' : xAj) : xD5 args H (some (r,H')) = if quietCall r H args = true then some (r,H) else none := rfl
theorem xHu (args : List AV) : xD5 args H none = none := rfl
theorem xJH (args : List AV) {c : Prop} [Decidable c] (x y : Option (AV × xAj)) : xD5 args H (if c then x else y) = if c then xD5 args H x else xD5 args H y := by split <;> rfl
theorem xTr (f : Nat) (args : List Arg) : xAQ R F H (.call f args) = xD5 (args.map (opv F)) H (xBm R f (args.map (opv F)) H) := by
  simp only [xAQ,xAv,xD5]
  cases xBm R f (args.map (opv F)) H with
  | none => rfl
  | some r => obtain ⟨r,H'⟩ := r; simp only; split <;> rfl
def xOn (R : Rec) (args : List AV) (H : xAj) : AV → Option (AV × xAj)
  | .func g caps => xD5 (args ++ caps) H (xBm R g (args ++ caps) H)
  | _ => none
theorem xFT (args : List AV) (g : Nat) (caps : List AV) : xOn R args H (.func g caps) = xD5 (args ++ caps) H (xBm R g (args ++ caps) H) := rfl
theorem xPQ (f : Arg) (args : List Arg) : xAQ R F H (.fcall f args) = xOn R (args.map (opv F)) H (opv F f) := by
  simp only [xAQ,xAv,xD5,xOn]
  cases opv F f with
  | func g caps =>
    simp only
    cases xBm R g (args.map (opv F) ++ caps) H with
    | none => rfl
    | some r => obtain ⟨r,H'⟩ := r; simp only; split <;> rfl
  | _ => rfl
theorem xW3 (v : AV) : xAQ R F H (.box (.c v)) = if v.cells.all AV.isCell = true then some (.any,H) else none := by
  simp only [xAQ,xAv]
  split <;> rfl
def xDS (H : xAj) : Option (AV × xAj) → Option (AV × xAj)
  | some (v,_) => some (v,H)
  | none => none
theorem xNb (v : AV) (H' : xAj) : xDS H (some (v,H')) = some (v,H) := rfl
theorem xNc : xDS H none = none := rfl
theorem xPR {c : Prop} [Decidable c] (x y : Option (AV × xAj)) : xDS H (if c then x else y) = if c then xDS H x else xDS H y := by split <;> rfl
theorem xB4 (op : AOp) (h : xAv R F H op = (xAa R F H op).map (·.1)) : xAQ R F H op = xDS H (xAa R F H op) := by
  simp only [xAQ,h,xDS]
  cases xAa R F H op <;> rfl
theorem xW4 (x : Arg) : xAQ R F H (.mov x) = xDS H (xAa R F H (.mov x)) := xB4 _ rfl
theorem xTs (c a b : Arg) : xAQ R F H (.pick c a b) = xDS H (xAa R F H (.pick c a b)) := xB4 _ rfl
theorem xPS (z : List AV) (parts : List (Nat × Nat × Arg)) : xAQ R F H (.build z parts) = xDS H (xAa R F H (.build z parts)) := xB4 _ rfl
theorem xNd (z : List AV) (es n : Nat) (parts : List (Nat × Arg)) : xAQ R F H (.bslice true z es n parts) = xDS H (xAa R F H (.bslice true z es n parts)) := xB4 _ rfl
theorem xTt (g : Bool) (n : Nat) (p : Arg) : xAQ R F H (.load g n p) = xDS H (xAa R F H (.load g n p)) := xB4 _ rfl
theorem xNe (x : Arg) : xAQ R F H (.nilchk x) = xDS H (xAa R F H (.nilchk x)) := xB4 _ rfl
theorem xW5 (op : BinOp) (x y : Arg) : xAQ R F H (.bin op x y) = xDS H (xAa R F H (.bin op x y)) := xB4 _ rfl
theorem xW6 (neg : Bool) (x y : Arg) : xAQ R F H (.beq neg x y) = xDS H (xAa R F H (.beq neg x y)) := xB4 _ rfl
theorem xPT (neg : Bool) (x : Arg) : xAQ R F H (.isnil neg x) = xDS H (xAa R F H (.isnil neg x)) := xB4 _ rfl
theorem xZJ (op : UnOp) (x : Arg) : xAQ R F H (.un op x) = xDS H (xAa R F H (.un op x)) := xB4 _ rfl
theorem xTu (k : IntKind) (x : Arg) : xAQ R F H (.conv k x) = xDS H (xAa R F H (.conv k x)) := xB4 _ rfl
theorem xNf (f : Nat) (caps : List Arg) : xAQ R F H (.mkfunc f caps) = xDS H (xAa R F H (.mkfunc f caps)) := xB4 _ rfl
theorem xJI (z : List AV) (bytes : Nat) (l c : Arg) : xAQ R F H (.mkslice true z bytes l c) = xDS H (xAa R F H (.mkslice true z bytes l c)) := xB4 _ rfl
theorem xPU (es : Nat) (x : Arg) (lo hi mx : Option Arg) : xAQ R F H (.slice es x lo hi mx) = xDS H (xAa R F H (.slice es x lo hi mx)) := xB4 _ rfl
theorem xPV (o : Nat) (x : Arg) : xAQ R F H (.faddr o x) = xDS H (xAa R F H (.faddr o x)) := xB4 _ rfl
theorem xPW (g : Bool) (off n : Nat) (x : Arg) : xAQ R F H (.field g off n x) = xDS H (xAa R F H (.field g off n x)) := xB4 _ rfl
theorem xPX (es : Nat) (x i : Arg) : xAQ R F H (.iaddr es x i) = xDS H (xAa R F H (.iaddr es x i)) := xB4 _ rfl
theorem xW7 (i : Nat) (x : Arg) : xAQ R F H (.ext i x) = xDS H (xAa R F H (.ext i x)) := xB4 _ rfl
theorem xW8 (x : Arg) : xAQ R F H (.len x) = xDS H (xAa R F H (.len x)) := xB4 _ rfl
theorem xW9 (x : Arg) : xAQ R F H (.cap x) = xDS H (xAa R F H (.cap x)) := xB4 _ rfl
theorem xXa (neg : Bool) (n : Nat) (x y : Arg) : xAQ R F H (.aeq neg n x y) = xDS H (xAa R F H (.aeq neg n x y)) := xB4 _ rfl
theorem xTv (x y : Arg) : xAQ R F H (.maxi x y) = xDS H (xAa R F H (.maxi x y)) := xB4 _ rfl
theorem xTw (x y : Arg) : xAQ R F H (.mini x y) = xDS H (xAa R F H (.mini x y)) := xB4 _ rfl
def xXX (es bytes : Nat) (H : xAj) (x : AV) (o : Option (Nat × List AV)) : Option (AV × xAj) := match x with
  | .sl _ _ _ => xDS H (xWM true es bytes H x o)
  | _ => none
theorem xPY (es bytes : Nat) (z : Bool) (n : Nat) (cs : List AV) (o : Option (Nat × List AV)) : xXX es bytes H (.sl z n cs) o = xDS H (xWM true es bytes H (.sl z n cs) o) := rfl
theorem xNg (es bytes : Nat) (x y : Arg) : xAQ R F H (.append true es bytes x y) = xXX es bytes H (opv F x) (src H es (opv F y)) := by
  simp only [xAQ,xAv,xXX]
  cases h : opv F x with
  | sl z n cs =>
    simp only [xHp,h,xDS]
    cases xWM true es bytes H (.sl z n cs) (src H es (opv F y)) <;> rfl
  | _ => rfl
def xQ2 (H : xAj) : Option AV → Option (AV × xAj)
  | some v => some (v,H)
  | none => none
theorem xJJ (v : AV) : xQ2 H (some v) = some (v,H) := rfl
def xNh (rs : List ARes) : Option (AExit × St) → Option (AV × xAj)
  | some (.normal,s) => xQ2 s.H (xBx rs s)
  | some (.ret,s) => xQ2 s.H (xBx rs s)
  | _ => none
theorem xFU (rs : List ARes) (F : List AV) (H : xAj) : xNh rs (some (.normal,⟨F,H⟩)) = xQ2 H (xBx rs ⟨F,H⟩) := rfl
theorem xNi (rs : List ARes) (F : List AV) (H : xAj) : xNh rs (some (.ret,⟨F,H⟩)) = xQ2 H (xBx rs ⟨F,H⟩) := rfl
theorem xJK (rs : List ARes) : xNh rs none = none := rfl
theorem xNj (rs : List ARes) {c : Prop} [Decidable c] (x y : Option (AExit × St)) : xNh rs (if c then x else y) = if c then xNh rs x else xNh rs y := by split <;> rfl
def pads : Nat → List AV
  | 0 => []
  | n + 1 => .tup [] :: pads n
theorem xTx : ∀ n,List.replicate n (AV.tup []) = pads n
  | 0 => rfl
  | n + 1 => by rw [List.replicate_succ,xTx n]; rfl
theorem xDT (n : Nat) (code : ACode) (rs : List ARes) (args : List AV) : xCf R ⟨n,code,rs⟩ args H = xNh rs (run R code ⟨args ++ pads (n - args.length),H⟩) := by
  rw [← xTx]
  simp only [xCf,xNh,xLI,xQ2]
  cases h : run R code ⟨args ++ List.replicate (n - args.length) (.tup []),H⟩ with
  | none => rfl
  | some r =>
    obtain ⟨e,s⟩ := r
    cases e with
    | exit i => rfl
    | _ => simp only; cases xBx rs s <;> rfl
def xHv : Option (AV × xAj) → Option AV
  | some (r,H') => frz frzN H' r
  | none => none
theorem xHw (r : AV) (H' : xAj) : xHv (some (r,H')) = frz frzN H' r := rfl
theorem xHx : xHv none = none := rfl
theorem xJL {c : Prop} [Decidable c] (x y : Option (AV × xAj)) : xHv (if c then x else y) = if c then xHv x else xHv y := by split <;> rfl
theorem xAm (fn : AFunc) (args : List AV) : xAT R fn args = xHv (xCf R fn args []) := by
  simp only [xAT,xHv]
  cases xCf R fn args [] <;> rfl
def xXY (g : Bool) : Option (List AV) → Option AV
  | some cs => mkv g cs
  | none => none
theorem xJM (g : Bool) (cs : List AV) : xXY g (some cs) = mkv g cs := rfl
theorem xTy (t : Nat) : xRY ⟨F,H⟩ (.tmp t) = some (F.getD t .any) := rfl
theorem xPZ (t : Nat) (g : Bool) (n : Nat) : xRY ⟨F,H⟩ (.cell t g n) = xXY g (rd H (F.getD t .any) n) := by
  simp only [xRY,xXY]
  cases rd H (F.getD t .any) n <;> rfl
theorem xNk : xBx [] s = some (.tup []) := rfl
theorem xNl (r : ARes) : xBx [r] s = xRY s r := rfl
def yA2 (s : St) (rs : List ARes) : Option AV → Option (List AV)
  | some v => (xQX s rs).map (v :: ·)
  | none => none
theorem xNm (rs : List ARes) (v : AV) : yA2 s rs (some v) = (xQX s rs).map (v :: ·) := rfl
theorem xP0 : xQX s [] = some [] := rfl
theorem xNn (r : ARes) (rs : List ARes) : xQX s (r :: rs) = yA2 s rs (xRY s r) := by
  simp only [xQX,yA2]
  cases xRY s r <;> rfl
theorem xNo (r r' : ARes) (rs : List ARes) : xBx (r :: r' :: rs) s = (xQX s (r :: r' :: rs)).map .tup := rfl
def xET (F : List AV) (l : Nat) : Option (AV × xAj) → Option (AExit × St)
  | some (_,H') => match H'[l]? with
    | some (.loop st pend _ _ _ _) => if st = 1 then none else some ((match pend with | none => .normal | some e => e),⟨F,H'.set l .dead⟩)
    | _ => none
  | none => none
def xTz (R : Rec) (F : List AV) (H : xAj) (ps : List Nat) (asg body : ACode) : AV → Option (AExit × St)
  | .func g caps => xET F H.length (R.icall (.func g caps) [.yield H.length] (H ++ [.loop 0 none F ps asg body]))
  | _ => none
theorem xNp (f : Arg) (ps : List Nat) (asg body : ACode) (F : List AV) (H : xAj) : run R (.range f ps asg body) ⟨F,H⟩ = xTz R F H ps asg body (opv F f) := by
  simp only [run]
  cases opv F f with
  | func g caps =>
    simp only [xTz,xET]
    cases R.icall (.func g caps) [.yield H.length] (H ++ [.loop 0 none F ps asg body]) with
    | none => rfl
    | some r =>
      obtain ⟨v,H'⟩ := r
      simp only
      cases H'[H.length]? with
      | none => rfl
      | some b => cases b <;> rfl
  | _ => rfl
theorem xHy (ps : List Nat) (asg body : ACode) (g : Nat) (caps : List AV) : xTz R F H ps asg body (.func g caps) = xET F H.length (R.icall (.func g caps) [.yield H.length] (H ++ [.loop 0 none F ps asg body])) := rfl
def xEU (l : Nat) (e : AExit) (H : xAj) : Option Blk → Option (AV × xAj)
  | some (.loop 1 _ F ps asg body) => some (match e with
    | .normal => (.bool true,H.set l (.loop 0 none F ps asg body))
    | e => (.bool false,H.set l (.loop 2 (some e) F ps asg body)))
  | _ => none
def xCM (l : Nat) : Option (AExit × St) → Option (AV × xAj)
  | some (e,s) => xEU l e s.H s.H[l]?
  | none => none
def xKP (R : Rec) (l : Nat) (body0 : ACode) (s : St) : Option Blk → Option (AV × xAj)
  | some (.loop 0 pend F ps asg body) => xCM l (run R body0 ⟨s.F,s.H.set l (.loop 1 pend F ps asg body)⟩)
  | _ => none
def xVE (R : Rec) (l : Nat) (body0 : ACode) : Option (AExit × St) → Option (AV × xAj)
  | some (.normal,s) => xKP R l body0 s s.H[l]?
  | _ => none
theorem xDF (l : Nat) (body0 : ACode) (F : List AV) (H : xAj) : xVE R l body0 (some (.normal,⟨F,H⟩)) = xKP R l body0 ⟨F,H⟩ H[l]? := rfl
theorem xEV (l : Nat) (body0 : ACode) (F : List AV) (H : xAj) (pend : Option AExit) (F1 : List AV) (ps : List Nat) (asg body : ACode) : xKP R l body0 ⟨F,H⟩ (some (.loop 0 pend F1 ps asg body)) = xCM l (run R body0 ⟨F,H.set l (.loop 1 pend F1 ps asg body)⟩) := rfl
theorem xD6 (l : Nat) (e : AExit) (F : List AV) (H : xAj) : xCM l (some (e,⟨F,H⟩)) = xEU l e H H[l]? := rfl
theorem xEW (l : Nat) {c : Prop} [Decidable c] (x y : Option (AExit × St)) : xCM l (if c then x else y) = if c then xCM l x else xCM l y := by split <;> rfl
theorem xDG (l : Nat) (H : xAj) (pend : Option AExit) (F : List AV) (ps : List Nat) (asg body : ACode) : xEU l .normal H (some (.loop 1 pend F ps asg body)) = some (.bool true,H.set l (.loop 0 none F ps asg body)) := rfl
theorem xEX (l i : Nat) (H : xAj) (pend : Option AExit) (F : List AV) (ps : List Nat) (asg body : ACode) : xEU l (.exit i) H (some (.loop 1 pend F ps asg body)) = some (.bool false,H.set l (.loop 2 (some (.exit i)) F ps asg body)) := rfl
theorem xFV (l : Nat) (H : xAj) (pend : Option AExit) (F : List AV) (ps : List Nat) (asg body : ACode) : xEU l .ret H (some (.loop 1 pend F ps asg body)) = some (.bool false,H.set l (.loop 2 (some .ret) F ps asg body)) := rfl
def xGo (F : List AV) (l : Nat) (H : xAj) : Option Blk → Option (AExit × St)
  | some (.loop st pend _ _ _ _) => if st = 1 then none else some ((match pend with | none => .normal | some e => e),⟨F,H.set l .dead⟩)
  | _ => none
theorem xEY (l : Nat) (v : AV) (H : xAj) : xET F l (some (v,H)) = xGo F l H H[l]? := by
  simp only [xET,xGo]
theorem xJN (l : Nat) (H : xAj) (F1 : List AV) (ps : List Nat) (asg body : ACode) : xGo F l H (some (.loop 0 none F1 ps asg body)) = some (.normal,⟨F,H.set l .dead⟩) := rfl
theorem xJO (l : Nat) (H : xAj) (e : AExit) (F1 : List AV) (ps : List Nat) (asg body : ACode) : xGo F l H (some (.loop 2 (some e) F1 ps asg body)) = some (e,⟨F,H.set l .dead⟩) := rfl
end
section
variable {R : Rec} {F : List AV} {H : xAj} {s : St}
def xTA : Option (AV × xAj) → Option (AV × List Blk)
  | some (r,H') => (xCz H' r).map fun (v,B) => (v,B.map (·.2))
  | none => none
theorem xEZ (f : Nat) (args : List AV) : xBO R f args = xTA (R.icall (.func f []) args []) := by
  unfold xBO xTA
  cases R.icall (.func f []) args [] <;> rfl
theorem xHz (r : AV) (H' : xAj) : xTA (some (r,H')) = (xCz H' r).map fun (v,B) => (v,B.map (·.2)) := rfl
def ocK (H : xAj) (ids : List Nat) : Option (AV × List Blk) → Option (AV × xAj)
  | some (v,B) => some (xAD H.length v,fzIds H ids ++ B)
  | none => none
def xTB (R : Rec) (f : Nat) (H : xAj) (ids : List Nat) : Option (List AV) → Option (AV × xAj)
  | some args' => ocK H ids (xBO R f args')
  | none => none
theorem xP1 (f : Nat) (args : List Arg) : xAa R F H (.ocall f args) = xTB R f H ((args.map (opv F)).flatMap (bor frzN H)) ((args.map (opv F)).mapM (frz frzN H)) := by
  simp only [xAa,xTB]
  cases (args.map (opv F)).mapM (frz frzN H) with
  | none => rfl
  | some args' =>
    simp only [ocK]
    cases xBO R f args' <;> rfl
theorem xHA (f : Nat) (ids : List Nat) (args' : List AV) : xTB R f H ids (some args') = ocK H ids (xBO R f args') := rfl
theorem xP2 (ids : List Nat) (v : AV) (B : List Blk) : ocK H ids (some (v,B)) = some (xAD H.length v,fzIds H ids ++ B) := rfl
def t1B (z : Bool) (id off n es : Nat) (B : List (Nat × Blk)) : Option Blk → Option (AV × List (Nat × Blk))
  | some (.cells false z' cs) => if cs.all xAy = true then some (.own z B.length off n es,B ++ [(id,.cells false z' cs)]) else none
  | _ => none
def t1I (z : Bool) (id off n es : Nat) (B : List (Nat × Blk)) (b : Option Blk) : Option Nat → Option (AV × List (Nat × Blk))
  | some k => some (.own z k off n es,B)
  | none => t1B z id off n es B b
theorem xNq (H : xAj) (z : Bool) (id off n es : Nat) (B : List (Nat × Blk)) : xDZ H (.own z id off n es) B = t1I z id off n es B H[id]? (B.findIdx? (fun p => p.1 == id)) := by
  simp only [xDZ,t1I]
  cases B.findIdx? (fun p => p.1 == id) with
  | some k => rfl
  | none =>
    simp only [t1B]
    cases H[id]? with
    | none => rfl
    | some b => cases b with
      | cells fz z' cs => cases fz <;> rfl
      | _ => rfl
theorem xTC (z : Bool) (id off n es : Nat) (B : List (Nat × Blk)) (b : Option Blk) (k : Nat) : t1I z id off n es B b (some k) = some (.own z k off n es,B) := rfl
theorem xTD (z : Bool) (id off n es : Nat) (B : List (Nat × Blk)) (z' : Bool) (cs : List AV) : t1I z id off n es B (some (.cells false z' cs)) none = if cs.all xAy = true then some (.own z B.length off n es,B ++ [(id,.cells false z' cs)]) else none := rfl
theorem xNr (H : xAj) (k : IntKind) (n : Int) (B : List (Nat × Blk)) : xDZ H (.int k n) B = some (.int k n,B) := rfl
theorem xJP (H : xAj) (b : Bool) (B : List (Nat × Blk)) : xDZ H (.bool b) B = some (.bool b,B) := rfl
theorem xP3 (H : xAj) (z : Bool) (n : Nat) (cs : List AV) (B : List (Nat × Blk)) : xDZ H (.sl z n cs) B = some (.sl z n cs,B) := rfl
theorem xNs (H : xAj) (b : ByteArray) (B : List (Nat × Blk)) : xDZ H (.str b) B = some (.str b,B) := rfl
def tkL (H : xAj) (vs : List AV) : Option (AV × List (Nat × Blk)) → Option (List AV × List (Nat × Blk))
  | some (v',B') => (xGR H vs B').map fun (vs',B2) => (v' :: vs',B2)
  | none => none
theorem xNt (H : xAj) (B : List (Nat × Blk)) : xGR H [] B = some ([],B) := rfl
theorem xJQ (H : xAj) (v : AV) (vs : List AV) (B : List (Nat × Blk)) : xGR H (v :: vs) B = tkL H vs (xDZ H v B) := by
  simp only [xGR,tkL]
  cases xDZ H v B <;> rfl
theorem xP4 (H : xAj) (vs : List AV) (v' : AV) (B' : List (Nat × Blk)) : tkL H vs (some (v',B')) = (xGR H vs B').map fun (vs',B2) => (v' :: vs',B2) := rfl
theorem xNu (H : xAj) (cs : List AV) (B : List (Nat × Blk)) : xEC H (.agg cs) B = if cs.all AV.isCell = true then (xGR H cs B).map fun (cs',B') => (.agg cs',B') else none := rfl
theorem xNv (H : xAj) (z : Bool) (id off n es : Nat) (B : List (Nat × Blk)) : xEC H (.own z id off n es) B = xDZ H (.own z id off n es) B := rfl
theorem xNw (H : xAj) (k : IntKind) (n : Int) (B : List (Nat × Blk)) : xEC H (.int k n) B = some (.int k n,B) := rfl
theorem xJR (H : xAj) (b : Bool) (B : List (Nat × Blk)) : xEC H (.bool b) B = some (.bool b,B) := rfl
theorem xP5 (H : xAj) (z : Bool) (n : Nat) (cs : List AV) (B : List (Nat × Blk)) : xEC H (.sl z n cs) B = some (.sl z n cs,B) := rfl
def yA3 (H : xAj) (vs : List AV) : Option (AV × List (Nat × Blk)) → Option (List AV × List (Nat × Blk))
  | some (v',B') => (xDB H vs B').map fun (vs',B2) => (v' :: vs',B2)
  | none => none
theorem xJS (H : xAj) (B : List (Nat × Blk)) : xDB H [] B = some ([],B) := rfl
theorem xHB (H : xAj) (v : AV) (vs : List AV) (B : List (Nat × Blk)) : xDB H (v :: vs) B = yA3 H vs (xEC H v B) := by
  simp only [xDB,yA3]
  cases xEC H v B <;> rfl
theorem xNx (H : xAj) (vs : List AV) (v' : AV) (B' : List (Nat × Blk)) : yA3 H vs (some (v',B')) = (xDB H vs B').map fun (vs',B2) => (v' :: vs',B2) := rfl
theorem xHC (H : xAj) (vs : List AV) : xCz H (.tup vs) = (xDB H vs []).map fun (vs',B) => (.tup vs',B) := rfl
theorem xHD (H : xAj) (cs : List AV) : xCz H (.agg cs) = xEC H (.agg cs) [] := rfl
theorem xHE (H : xAj) (z : Bool) (id off n es : Nat) : xCz H (.own z id off n es) = xDZ H (.own z id off n es) [] := rfl
theorem xJT (H : xAj) (z : Bool) (n : Nat) (cs : List AV) : xCz H (.sl z n cs) = some (.sl z n cs,[]) := rfl
theorem xNy {α : Type} (p : α → Bool) : ([] : List α).findIdx? p = none := rfl
theorem xJU {α : Type} (p : α → Bool) (a : α) (l : List α) : (a :: l).findIdx? p = if p a = true then some 0 else (l.findIdx? p).map (· + 1) := by
  rw [List.findIdx?_cons]
def xTE (R : Rec) (als : List (Nat × Nat)) (ls : List (Nat × Nat × Nat × Nat)) (m : Nat) (ops : List AOper) : Option (St × List Pr) → Option (AExit × St)
  | some (s,pl) => xDD ls (xAA R (ops.drop m) (xA8 als pl s))
  | none => none
theorem xNz (als : List (Nat × Nat)) (ls : List (Nat × Nat × Nat × Nat)) (m : Nat) (ops : List AOper) : run R (.drawp als ls m ops) s = xTE R als ls m ops (xAE R (ops.take m) s) := by
  simp only [run,xTE]
  cases xAE R (ops.take m) s with
  | none => rfl
  | some r =>
    obtain ⟨s1,pl⟩ := r
    simp only [xDD]
    cases xAA R (ops.drop m) (xA8 als pl s1) <;> rfl
theorem xHF (als : List (Nat × Nat)) (ls : List (Nat × Nat × Nat × Nat)) (m : Nat) (ops : List AOper) (s : St) (pl : List Pr) : xTE R als ls m ops (some (s,pl)) = xDD ls (xAA R (ops.drop m) (xA8 als pl s)) := rfl
theorem xJV (pl : List Pr) (s : St) : xA8 [] pl s = adoptL pl s := rfl
def alK (als : List (Nat × Nat)) : St → St
  | ⟨F,H⟩ => ⟨xBy als F,H⟩
theorem xHG (p : Nat × Nat) (r : List (Nat × Nat)) (pl : List Pr) (s : St) : xA8 (p :: r) pl s = alK (p :: r) (adoptL pl s) := rfl
theorem xXb (als : List (Nat × Nat)) (F : List AV) (H : xAj) : alK als ⟨F,H⟩ = ⟨xBy als F,H⟩ := rfl
theorem xJW (F : List AV) : xBy [] F = F := rfl
theorem xHH (d q : Nat) (r : List (Nat × Nat)) (F : List AV) : xBy ((d,q) :: r) F = xBy r (F.set d (F.getD q .any)) := rfl
def xTF (e : Pr) : Option (St × List Pr) → Option (St × List Pr)
  | some (s,l) => some (s,e :: l)
  | none => none
theorem xJX (e : Pr) (s : St) (l : List Pr) : xTF e (some (s,l)) = some (s,e :: l) := rfl
def xTG (R : Rec) (rest : List AOper) (s : St) : Option Nat → Option (AV × List Blk) → Option (St × List Pr)
  | some t,some (v,B) => xTF (some (t,v,B)) (xAE R rest ⟨s.F.set t .any,s.H⟩)
  | _,_ => none
def xTH (R : Rec) (rest : List AOper) : Option St → Option (St × List Pr)
  | some s => xTF none (xAE R rest s)
  | none => none
theorem xHI : xAE R [] s = some (s,[]) := rfl
theorem xFW (o : AOper) (rest : List AOper) : xAE R (o :: rest) s = if xAC o.op = true then xTG R rest s o.dst (xCA R s.F o.op) else xTH R rest (xAK R o s) := by
  simp only [xAE]
  split
  · cases o.dst with
    | none => rfl
    | some t => cases xCA R s.F o.op with
      | none => rfl
      | some r =>
        obtain ⟨v,B⟩ := r
        simp only [xTG]
        cases xAE R rest ⟨s.F.set t .any,s.H⟩ <;> rfl
  · cases xAK R o s with
    | none => rfl
    | some s1 =>
      simp only [xTH]
      cases xAE R rest s1 <;> rfl
theorem xHJ (rest : List AOper) (t : Nat) (v : AV) (B : List Blk) : xTG R rest s (some t) (some (v,B)) = xTF (some (t,v,B)) (xAE R rest ⟨s.F.set t .any,s.H⟩) := rfl
theorem xHK (rest : List AOper) (s : St) : xTH R rest (some s) = xTF none (xAE R rest s) := rfl
def xXZ : Option (AV × xAj) → Option (AV × List Blk)
  | some (v,B) => if xBn v = true ∧ xDC B = true then some (v,B) else none
  | none => none
theorem xP6 (op : AOp) : xCA R F op = if op.args.all (fun x => xAG (opv F x)) = true then xXZ (xAa R F [] op) else none := by
  unfold xCA xXZ
  split
  · cases xAa R F [] op <;> rfl
  · rfl
theorem xJY (v : AV) (B : xAj) : xXZ (some (v,B)) = if xBn v = true ∧ xDC B = true then some (v,B) else none := rfl
theorem xFX (f : Nat) (as : List Arg) : xAC (.ocall f as) = true := rfl
theorem xJZ (x : Arg) : xAC (.box x) = true := rfl
theorem xHL (z : List AV) (b : Nat) (x y : Arg) : xAC (.mkslice false z b x y) = true := rfl
theorem xHM (z : List AV) (b : Nat) (x y : Arg) : xAC (.mkslice true z b x y) = false := rfl
theorem xHN (z : List AV) (es n : Nat) (ps : List (Nat × Arg)) : xAC (.bslice false z es n ps) = true := rfl
theorem xHO (z : List AV) (es n : Nat) (ps : List (Nat × Arg)) : xAC (.bslice true z es n ps) = false := rfl
theorem xHP (es b : Nat) (x y : Arg) : xAC (.append false es b x y) = true := rfl
theorem xHQ (es b : Nat) (x y : Arg) : xAC (.append true es b x y) = false := rfl
theorem xHR (z : List AV) (b : Nat) (x y : Arg) : xAC (.appendz z b x y) = true := rfl
theorem xJ0 (x : Arg) : xAC (.mov x) = false := rfl
theorem xHS (x y z : Arg) : xAC (.pick x y z) = false := rfl
theorem xFY (z : List AV) (ps : List (Nat × Nat × Arg)) : xAC (.build z ps) = false := rfl
theorem xHT (g : Bool) (n : Nat) (x : Arg) : xAC (.load g n x) = false := rfl
theorem xE0 (x : Arg) : xAC (.nilchk x) = false := rfl
theorem xJ1 (op : BinOp) (x y : Arg) : xAC (.bin op x y) = false := rfl
theorem xJ2 (g : Bool) (x y : Arg) : xAC (.beq g x y) = false := rfl
theorem xFZ (g : Bool) (x : Arg) : xAC (.isnil g x) = false := rfl
theorem xNA (op : UnOp) (x : Arg) : xAC (.un op x) = false := rfl
theorem xHU (k : IntKind) (x : Arg) : xAC (.conv k x) = false := rfl
theorem xE1 (f : Nat) (as : List Arg) : xAC (.mkfunc f as) = false := rfl
theorem xF0 (es : Nat) (x : Arg) (a b c : Option Arg) : xAC (.slice es x a b c) = false := rfl
theorem xF1 (o : Nat) (x : Arg) : xAC (.faddr o x) = false := rfl
theorem xF2 (g : Bool) (o n : Nat) (x : Arg) : xAC (.field g o n x) = false := rfl
theorem xF3 (es : Nat) (x i : Arg) : xAC (.iaddr es x i) = false := rfl
theorem xJ3 (i : Nat) (x : Arg) : xAC (.ext i x) = false := rfl
theorem xJ4 (x : Arg) : xAC (.len x) = false := rfl
theorem xJ5 (x : Arg) : xAC (.cap x) = false := rfl
theorem xJ6 (g : Bool) (n : Nat) (x y : Arg) : xAC (.aeq g n x y) = false := rfl
theorem xHV (f : Nat) (as : List Arg) : xAC (.call f as) = false := rfl
theorem xF4 (f : Arg) (as : List Arg) : xAC (.fcall f as) = false := rfl
theorem xHW (x y : Arg) : xAC (.maxi x y) = false := rfl
theorem xHX (x y : Arg) : xAC (.mini x y) = false := rfl
theorem xHY : xDC [] = true := rfl
theorem xF5 (z : Bool) (cs : List AV) (B : List Blk) : xDC (.cells false z cs :: B) = (cs.all xAy && xDC B) := rfl
theorem xKQ {α : Type} {f : α → AV} (h : ∀ a,xAy (f a) = true) (l : List α) : (l.map f).all xAy = true := by
  simp [List.all_eq_true,h]
end
section
variable {R : Rec} {F : List AV} {H : xAj}
end
end Go.Abs
