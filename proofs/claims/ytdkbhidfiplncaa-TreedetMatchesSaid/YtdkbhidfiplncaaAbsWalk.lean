/- The interpreter's equations in the form that simp walks by: one equation for each construct,told apart by what has been computed already. -/
import Derived.Test.YtdkbhidfiplncaaAbsLim
namespace Go.Abs
set_option linter.unusedVariables false
set_option linter.unusedSimpArgs false
theorem xDW : ∀ (scr : List Nat) (F : List AV) (i : Nat),(xAm scr F)[i]? = if i ∈ scr then (F[i]?).map (fun _ => AV.any) else F[i]?
 | [],F,i => by simp [xAm]
 | j :: scr,F,i => by
  have := xDW scr (F.set j .any) i
  simp only [xAm,List.foldl_cons] at this ⊢
  rw [this]
  by_cases h : i = j
  ·subst h
   simp only [List.getElem?_set_self',List.mem_cons,true_or,if_true]
   cases F[i]? <;> simp
  ·have h' : ¬ j = i := fun e => h e.symm
   simp [List.getElem?_set,h,h']
theorem xQN (scr : List Nat) (F : List AV) : xAm scr (xAm scr F) = xAm scr F := by
 apply List.ext_getElem?
 intro i
 rw [xDW,xDW]
 split
 ·cases F[i]? <;> rfl
 ·rfl
section
variable {prog : Nat → Option AFunc}
theorem xWv (prog : Nat → Option AFunc) (n : Nat) : Tends (fix prog n) (fun _ => lim prog) :=
 ⟨fun f a v h => .all fun _ => xFB ((xE3 prog n).pcall f a v h),fun f a H v h => .all fun _ => xFB ((xE3 prog n).icall f a H v h),fun scr b s v h => .all fun _ => xFB ((xE3 prog n).loop scr b s v h)⟩
theorem Ev.const {p : Prop} (h : Ev fun _ => p) : p := let ⟨n,hn⟩ := h; hn n (Nat.le_refl n)
theorem xWw {α : Type} {a b : Option α} (h1 : ∀ v,a = some v → b = some v) (h2 : ∀ v,b = some v → a = some v) : a = b := by
 cases a with
 | some v => exact (h1 v rfl).symm
 | none =>
  cases b with
  | none => rfl
  | some v => exact h2 v rfl
theorem xAh {f : Nat} {fn : AFunc} (hf : prog f = some fn) (args : List AV) : (lim prog).pcall f args = xAy (lim prog) fn args := by
 refine xWw (fun v h => ?_) (fun v h => xPE hf h)
 obtain ⟨n,hn⟩ := xB0 (p := fun m => (fix prog m).pcall f args) h
 have h1 : (xCG prog (fix prog n)).pcall f args = some v := hn (n + 1) (by omega)
 have h2 := (xBn (xWv prog n) prog).pcall f args v h1 |>.const
 simp only [xCG,hf] at h2
 exact h2
theorem xOt (f : AV) (args : List AV) (H : xAc) : (lim prog).icall f args H = xCX prog (lim prog) f args H := by
 refine xWw (fun v h => ?_) (fun v h => xPF h)
 obtain ⟨n,hn⟩ := xB0 (p := fun m => (fix prog m).icall f args H) h
 have h1 : (xCG prog (fix prog n)).icall f args H = some v := hn (n + 1) (by omega)
 exact (xBn (xWv prog n) prog).icall f args H v h1 |>.const
theorem xEs (scr : List Nat) (b : ACode) (s : St) : (lim prog).loop scr b s = xIQ (lim prog) scr b s := by
 refine xWw (fun v h => ?_) (fun v h => xTE h)
 obtain ⟨n,hn⟩ := xB0 (p := fun m => (fix prog m).loop scr b s) h
 have h1 : (xCG prog (fix prog n)).loop scr b s = some v := hn (n + 1) (by omega)
 exact (xBn (xWv prog n) prog).loop scr b s v h1 |>.const
theorem xAo {f : Nat} {fn : AFunc} (hf : prog f = some fn) (caps args : List AV) (H : xAc) : (lim prog).icall (.func f caps) args H = xA3 (lim prog) fn (args ++ caps) H := by
 rw [xOt]
 simp only [xCX,hf]
theorem xEf (scr : List Nat) (b : ACode) (F : List AV) (H : xAc) : (lim prog).loop scr b ⟨F,H⟩ = (lim prog).loop scr b ⟨xAm scr F,H⟩ := by
 rw [xEs,xEs]
 unfold xIQ
 simp only [xQN]
def xAD (R : Rec) (scr : List Nat) (b : ACode) : Option (AExit × St) → Option (AExit × St)
 | some (.normal,s) => R.loop scr b ⟨xAm scr s.F,s.H⟩
 | some (e,s) => some (e,⟨xAm scr s.F,s.H⟩)
 | none => none
theorem xAd (scr : List Nat) (b : ACode) (F : List AV) (H : xAc) (h : xAm scr F = F) : (lim prog).loop scr b ⟨F,H⟩ = xAD (lim prog) scr b (run (lim prog) b ⟨F,H⟩) := by
 rw [xEs]
 unfold xIQ xAD
 simp only [h]
 split
 ·rename_i s' hs
  rw [hs]
  exact xEf scr b s'.F s'.H
 ·rename_i e s' hne hs
  rw [hs]
  cases e with
  | normal => exact (hne rfl).elim
  | exit i => rfl
  | ret => rfl
 ·rename_i hs
  rw [hs]
theorem xSB (scr : List Nat) (b : ACode) (F : List AV) (H : xAc) : run (lim prog) (.loop scr b) ⟨F,H⟩ = (lim prog).loop scr b ⟨xAm scr F,H⟩ := xEf scr b F H
end
section
variable {R : Rec} {F : List AV} {H : xAc} {s : St}
def yAA (R : Rec) (b : ACode) : Option (AExit × St) → Option (AExit × St)
 | some (.normal,s) => run R b s
 | r => r
theorem xWx (a b : ACode) : run R (.seq a b) s = yAA R b (run R a s) := by
 simp only [run,yAA]
 split <;> simp_all
theorem xHw (b : ACode) (s : St) : yAA R b (some (.normal,s)) = run R b s := rfl
theorem xOu (b : ACode) (i : Nat) (s : St) : yAA R b (some (.exit i,s)) = some (.exit i,s) := rfl
theorem xSC (b : ACode) (s : St) : yAA R b (some (.ret,s)) = some (.ret,s) := rfl
theorem xOv (b : ACode) : yAA R b none = none := rfl
theorem xSD (b : ACode) {c : Prop} [Decidable c] (x y : Option (AExit × St)) : yAA R b (if c then x else y) = if c then yAA R b x else yAA R b y := by split <;> rfl
def yDM (R : Rec) (a b : ACode) (s : St) : AV → Option (AExit × St)
 | .bool t => if t = true then run R a s else run R b s
 | _ => none
theorem xSE (c : Arg) (a b : ACode) (F : List AV) (H : xAc) : run R (.cond c a b) ⟨F,H⟩ = yDM R a b ⟨F,H⟩ (opv F c) := by
 simp only [run,yDM]
 split <;> simp_all
theorem xJ5 (a b : ACode) (t : Bool) : yDM R a b s (.bool t) = if t = true then run R a s else run R b s := rfl
def xEQ (id : Nat) : Option (AExit × St) → Option (AExit × St)
 | some (.exit i,s) => if i = id then some (.normal,s) else some (.exit i,s)
 | r => r
theorem xOw (id : Nat) (b : ACode) : run R (.block id b) s = xEQ id (run R b s) := by
 simp only [run,xEQ]
 split <;> simp_all
theorem xHx (id i : Nat) (s : St) : xEQ id (some (.exit i,s)) = if i = id then some (.normal,s) else some (.exit i,s) := rfl
theorem xER (id : Nat) (s : St) : xEQ id (some (.normal,s)) = some (.normal,s) := rfl
theorem xJ6 (id : Nat) (s : St) : xEQ id (some (.ret,s)) = some (.ret,s) := rfl
theorem xHy (id : Nat) : xEQ id none = none := rfl
theorem xJ7 (id : Nat) {c : Prop} [Decidable c] (x y : Option (AExit × St)) : xEQ id (if c then x else y) = if c then xEQ id x else xEQ id y := by split <;> rfl
theorem xF6 (scr : List Nat) (b : ACode) (F : List AV) (H : xAc) : xAD R scr b (some (.normal,⟨F,H⟩)) = R.loop scr b ⟨xAm scr F,H⟩ := rfl
theorem xJ8 (scr : List Nat) (b : ACode) (i : Nat) (F : List AV) (H : xAc) : xAD R scr b (some (.exit i,⟨F,H⟩)) = some (.exit i,⟨xAm scr F,H⟩) := rfl
theorem xOx (scr : List Nat) (b : ACode) (F : List AV) (H : xAc) : xAD R scr b (some (.ret,⟨F,H⟩)) = some (.ret,⟨xAm scr F,H⟩) := rfl
theorem xOy (scr : List Nat) (b : ACode) {c : Prop} [Decidable c] (x y : Option (AExit × St)) : xAD R scr b (if c then x else y) = if c then xAD R scr b x else xAD R scr b y := by split <;> rfl
def xZM : Option St → Option (AExit × St)
 | some s => some (.normal,s)
 | none => none
theorem xOz (s : St) : xZM (some s) = some (.normal,s) := rfl
theorem xOA : xZM none = none := rfl
theorem xSF {c : Prop} [Decidable c] (x y : Option St) : xZM (if c then x else y) = if c then xZM x else xZM y := by split <;> rfl
theorem xJ9 (ops : List AOper) : run R (.region ops) s = xZM (xAA R ops s) := by
 simp only [run,xZM]
 cases xAA R ops s <;> rfl
theorem xSG : run R .skip s = some (.normal,s) := rfl
theorem xOB : run R .label s = some (.normal,s) := rfl
theorem xSH (i : Nat) : run R (.exit i) s = some (.exit i,s) := rfl
theorem xWy : run R .ret s = some (.ret,s) := rfl
theorem xOC (b : ACode) : run R (.scope b) s = run R b s := rfl
theorem xOD : run R .stuck s = none := rfl
def yDN (R : Rec) (rest : List AOper) : Option St → Option St
 | some s => xAA R rest s
 | none => none
theorem xKa : xAA R [] s = some s := rfl
theorem xEt (o : AOper) (rest : List AOper) : xAA R (o :: rest) s = yDN R rest (xAB R o s) := by
 simp only [xAA,yDN]
 cases xAB R o s <;> rfl
theorem xHz (rest : List AOper) (s : St) : yDN R rest (some s) = xAA R rest s := rfl
theorem xOE (rest : List AOper) : yDN R rest none = none := rfl
theorem xSI (rest : List AOper) {c : Prop} [Decidable c] (x y : Option St) : yDN R rest (if c then x else y) = if c then yDN R rest x else yDN R rest y := by split <;> rfl
def xWz (F : List AV) (d : Option Nat) : Option (AV × xAc) → Option St
 | some (v,H) => some ⟨putA F d v,H⟩
 | none => none
theorem xWA (d : Nat) (v : AV) : xWz F (some d) (some (v,H)) = some ⟨F.set d v,H⟩ := rfl
theorem xWB (v : AV) : xWz F none (some (v,H)) = some ⟨F,H⟩ := rfl
theorem xOF (d : Option Nat) : xWz F d none = none := rfl
theorem xSJ (d : Option Nat) {c : Prop} [Decidable c] (x y : Option (AV × xAc)) : xWz F d (if c then x else y) = if c then xWz F d x else xWz F d y := by split <;> rfl
theorem xOG (d : Option Nat) (op : AOp) : xAB R ⟨d,op,none⟩ ⟨F,H⟩ = xWz F d (xAb R F H op) := by
 simp only [xAB,xBH,xWz]
 cases xAb R F H op <;> rfl
def xSK (R : Rec) (d : Option Nat) (op : AOp) (w : Bool) (F : List AV) (H : xAc) : AV → Option St
 | .bool b => if b = w then xWz F d (xAb R F H op) else some ⟨putA F d (.tup []),H⟩
 | .any => none
 | _ => some ⟨putA F d (.tup []),H⟩
theorem xKb (d : Option Nat) (op : AOp) (t : Nat) (w : Bool) : xAB R ⟨d,op,some (t,w)⟩ ⟨F,H⟩ = xSK R d op w F H (F.getD t .any) := by
 simp only [xAB,xBH,xSK]
 cases F.getD t .any with
 | bool b =>
  cases b <;> cases w <;> simp [xWz] <;> cases xAb R F H op <;> rfl
 | _ => rfl
theorem xHA (d : Option Nat) (op : AOp) (w b : Bool) : xSK R d op w F H (.bool b) = if b = w then xWz F d (xAb R F H op) else some ⟨putA F d (.tup []),H⟩ := rfl
theorem xKc (d : Option Nat) (op : AOp) (w : Bool) (vs : List AV) : xSK R d op w F H (.tup vs) = some ⟨putA F d (.tup []),H⟩ := rfl
theorem xWC (d : Nat) (v : AV) : putA F (some d) v = F.set d v := rfl
theorem xWD (v : AV) : putA F none v = F := rfl
def xQO (R : Rec) (m : Nat) (ops : List AOper) : Option St → Option (AExit × St)
 | some s => xZM (xAA R (ops.drop m) (adopt (ops.take m) s))
 | none => none
theorem xSL (m : Nat) (ops : List AOper) : run R (.draw m ops) s = xQO R m ops (xA4 R (ops.take m) s) := by
 simp only [run,xQO]
 cases xA4 R (ops.take m) s with
 | none => rfl
 | some s1 =>
  simp only [xZM]
  cases xAA R (ops.drop m) (adopt (ops.take m) s1) <;> rfl
theorem xKd (m : Nat) (ops : List AOper) (s : St) : xQO R m ops (some s) = xZM (xAA R (ops.drop m) (adopt (ops.take m) s)) := rfl
theorem xKe (m : Nat) (ops : List AOper) : xQO R m ops none = none := rfl
theorem xOH (m : Nat) (ops : List AOper) {c : Prop} [Decidable c] (x y : Option St) : xQO R m ops (if c then x else y) = if c then xQO R m ops x else xQO R m ops y := by split <;> rfl
def xCm (ls : List (Nat × Nat × Nat × Nat)) : Option St → Option (AExit × St)
 | some s => if ls.all (apart s.F) = true then some (.normal,s) else none
 | none => none
def xHB (R : Rec) (ls : List (Nat × Nat × Nat × Nat)) (m : Nat) (ops : List AOper) : Option St → Option (AExit × St)
 | some s => xCm ls (xAA R (ops.drop m) (adopt (ops.take m) s))
 | none => none
theorem xOI (ls : List (Nat × Nat × Nat × Nat)) (m : Nat) (ops : List AOper) : run R (.drawl ls m ops) s = xHB R ls m ops (xA4 R (ops.take m) s) := by
 simp only [run,xHB]
 cases xA4 R (ops.take m) s with
 | none => rfl
 | some s1 =>
  simp only [xCm]
  cases xAA R (ops.drop m) (adopt (ops.take m) s1) <;> rfl
theorem xHC (ls : List (Nat × Nat × Nat × Nat)) (m : Nat) (ops : List AOper) (s : St) : xHB R ls m ops (some s) = xCm ls (xAA R (ops.drop m) (adopt (ops.take m) s)) := rfl
theorem xHD (ls : List (Nat × Nat × Nat × Nat)) (m : Nat) (ops : List AOper) : xHB R ls m ops none = none := rfl
theorem xKf (ls : List (Nat × Nat × Nat × Nat)) (m : Nat) (ops : List AOper) {c : Prop} [Decidable c] (x y : Option St) : xHB R ls m ops (if c then x else y) = if c then xHB R ls m ops x else xHB R ls m ops y := by split <;> rfl
theorem xHE (ls : List (Nat × Nat × Nat × Nat)) (s : St) : xCm ls (some s) = if ls.all (apart s.F) = true then some (.normal,s) else none := rfl
theorem xHF (ls : List (Nat × Nat × Nat × Nat)) : xCm ls none = none := rfl
theorem xKg (ls : List (Nat × Nat × Nat × Nat)) {c : Prop} [Decidable c] (x y : Option St) : xCm ls (if c then x else y) = if c then xCm ls x else xCm ls y := by split <;> rfl
def xQP (R : Rec) (rest : List AOper) : Option St → Option St
 | some s => xA4 R rest s
 | none => none
theorem xHG : xA4 R [] s = some s := rfl
theorem xF7 (o : AOper) (rest : List AOper) : xA4 R (o :: rest) s = xQP R rest (xAH R o s) := by
 simp only [xA4,xQP]
 cases xAH R o s <;> rfl
theorem xKh (rest : List AOper) (s : St) : xQP R rest (some s) = xA4 R rest s := rfl
theorem xKi (rest : List AOper) : xQP R rest none = none := rfl
theorem xOJ (rest : List AOper) {c : Prop} [Decidable c] (x y : Option St) : xQP R rest (if c then x else y) = if c then xQP R rest x else xQP R rest y := by split <;> rfl
def xHH (F : List AV) (d : Option Nat) (H : xAc) : Option (AV × xAc) → Option St
 | some (v,_) => some ⟨putA F d v,H⟩
 | none => none
theorem xSM (d : Nat) (v : AV) (H' : xAc) : xHH F (some d) H (some (v,H')) = some ⟨F.set d v,H⟩ := rfl
theorem xSN (v : AV) (H' : xAc) : xHH F none H (some (v,H')) = some ⟨F,H⟩ := rfl
theorem xKj (d : Option Nat) : xHH F d H none = none := rfl
theorem xOK (d : Option Nat) {c : Prop} [Decidable c] (x y : Option (AV × xAc)) : xHH F d H (if c then x else y) = if c then xHH F d H x else xHH F d H y := by split <;> rfl
def xAJ (R : Rec) (F : List AV) (H : xAc) (op : AOp) : Option (AV × xAc) := (xAt R F H op).map fun v => (v,H)
theorem xKk (d : Option Nat) (op : AOp) : xAH R ⟨d,op,none⟩ ⟨F,H⟩ = xHH F d H (xAJ R F H op) := by
 simp only [xAH,xBH,xHH,xAJ]
 cases xAt R F H op <;> rfl
def xLX (R : Rec) (d : Option Nat) (op : AOp) (w : Bool) (F : List AV) (H : xAc) : AV → Option St
 | .bool b => if b = w then xHH F d H (xAJ R F H op) else some ⟨putA F d (.tup []),H⟩
 | .any => none
 | _ => some ⟨putA F d (.tup []),H⟩
theorem xHI (d : Option Nat) (op : AOp) (t : Nat) (w : Bool) : xAH R ⟨d,op,some (t,w)⟩ ⟨F,H⟩ = xLX R d op w F H (F.getD t .any) := by
 simp only [xAH,xBH,xLX]
 cases F.getD t .any with
 | bool b =>
  cases b <;> cases w <;> simp [xHH,xAJ] <;> cases xAt R F H op <;> rfl
 | _ => rfl
theorem xF8 (d : Option Nat) (op : AOp) (w b : Bool) : xLX R d op w F H (.bool b) = if b = w then xHH F d H (xAJ R F H op) else some ⟨putA F d (.tup []),H⟩ := rfl
theorem xHJ (d : Option Nat) (op : AOp) (w : Bool) (vs : List AV) : xLX R d op w F H (.tup vs) = some ⟨putA F d (.tup []),H⟩ := rfl
def xCn (H : xAc) : Option AV → Option (AV × xAc)
 | some v => some (v,H)
 | none => none
theorem xOL (v : AV) : xCn H (some v) = some (v,H) := rfl
theorem xOM : xCn H none = none := rfl
theorem xSO {c : Prop} [Decidable c] (x y : Option AV) : xCn H (if c then x else y) = if c then xCn H x else xCn H y := by split <;> rfl
theorem yCz (x : Arg) : xAb R F H (.mov x) = some (opv F x,H) := rfl
def yDO : AV → AV → AV → Option AV
 | .bool t,a,b => some (if t = true then a else b)
 | _,_,_ => none
theorem xKl (t : Bool) (a b : AV) : yDO (.bool t) a b = some (if t = true then a else b) := rfl
theorem xWE (c a b : Arg) : xAb R F H (.pick c a b) = xCn H (yDO (opv F c) (opv F a) (opv F b)) := by
 simp only [xAb,yDO,xCn]
 split <;> simp_all
theorem yCA (x : Arg) : xAb R F H (.box x) = if (opv F x).cells.all AV.isCell = true then some (.ptr H.length 0,H ++ [.cells false false (opv F x).cells]) else none := rfl
theorem xSP (z : List AV) (parts : List (Nat × Nat × Arg)) : xAb R F H (.build z parts) =
  if parts.all (fun p => (opv F p.2.2).cells.length == p.2.1) = true then xCn H ((fillA z (parts.map fun p => (p.1,(opv F p.2.2).cells))).map AV.agg) else none := by
 simp only [xAb,xCn]
 split
 ·cases fillA z (parts.map fun p => (p.1,(opv F p.2.2).cells)) <;> rfl
 ·rfl
def yHX (fz z : Bool) (n es : Nat) (H : xAc) : Option (List AV) → Option (AV × xAc)
 | some cs => xDm fz z n es cs H
 | none => none
theorem xON (fz z : Bool) (n es : Nat) (cs : List AV) : yHX fz z n es H (some cs) = xDm fz z n es cs H := rfl
theorem xSQ (z : Bool) (n es : Nat) (cs : List AV) : xDm false z n es cs H = some (.own z H.length 0 n es,H ++ [.cells false z cs]) := rfl
def slK (z : Bool) (n : Nat) : Option (List AV) → Option AV
 | some cs => some (.sl z n cs)
 | none => none
theorem xSR (z : Bool) (n : Nat) (cs : List AV) : slK z n (some cs) = some (.sl z n cs) := rfl
theorem xOO (z : Bool) (n es : Nat) (cs : List AV) : xDm true z n es cs H = if (cs.flatMap (bor frzN H)).isEmpty = true then xCn H (slK z n (cs.mapM (frz frzN H))) else none := by
 simp only [xDm,xCn,slK]
 split
 ·rename_i h
  cases cs.mapM (frz frzN H) <;> simp_all
 ·simp_all
theorem xOP (fz : Bool) (z : List AV) (es n : Nat) (parts : List (Nat × Arg)) : xAb R F H (.bslice fz z es n parts) =
  if parts.all (fun p => (opv F p.2).cells.length == es) = true then yHX fz false n es H (fillA (xCD z n) (parts.map fun p => (p.1 * es,(opv F p.2).cells))) else none := by
 simp only [xAb,yHX]
 split
 ·cases fillA (xCD z n) (parts.map fun p => (p.1 * es,(opv F p.2).cells)) <;> rfl
 ·rfl
def yAB (g : Bool) : Option (List AV) → Option AV
 | some cs => mkv g cs
 | none => none
theorem xWF (v : AV) : yAB false (some [v]) = some v := rfl
theorem xWG (cs : List AV) : yAB true (some cs) = some (.agg cs) := rfl
theorem xWH (g : Bool) (n : Nat) (p : Arg) : xAb R F H (.load g n p) = xCn H (yAB g (rd H (opv F p) n)) := by
 simp only [xAb,xCn,yAB]
 cases rd H (opv F p) n with
 | none => rfl
 | some cs => simp only; cases mkv g cs <;> rfl
def rdK (off n : Nat) : Option Blk → Option (List AV)
 | some (.cells _ _ cs) => if off + n ≤ cs.length then some ((cs.drop off).take n) else none
 | _ => none
theorem xF9 (id off n : Nat) : rd H (.ptr id off) n = rdK off n H[id]? := by
 simp only [rd,rdK]
 rfl
theorem xBY {off n : Nat} {fz z : Bool} {cs : List AV} (h : off + n ≤ cs.length) : rdK off n (some (.cells fz z cs)) = some ((cs.drop off).take n) := if_pos h
theorem xWI {off n : Nat} {cs : List AV} (h : off + n ≤ cs.length) : rd H (.vptr cs off) n = some ((cs.drop off).take n) := if_pos h
def wrK (H : xAc) (id off : Nat) (vs : List AV) : Option Blk → Option xAc
 | some (.cells false z cs) => if off + vs.length ≤ cs.length ∧ vs.all AV.isCell = true then some (H.set id (.cells false z (splice cs off vs))) else none
 | _ => none
theorem yCB (id off : Nat) (vs : List AV) : wr H (.ptr id off) vs = wrK H id off vs H[id]? := by
 simp only [wr,wrK]
 rfl
theorem xOQ {id off : Nat} {vs : List AV} {z : Bool} {cs : List AV} (h : off + vs.length ≤ cs.length) (h2 : vs.all AV.isCell = true) : wrK H id off vs (some (.cells false z cs)) = some (H.set id (.cells false z (splice cs off vs))) := if_pos ⟨h,h2⟩
def xWJ : Option xAc → Option (AV × xAc)
 | some H => some (.tup [],H)
 | none => none
theorem xHK (H : xAc) : xWJ (some H) = some (.tup [],H) := rfl
theorem xSS (n : Nat) (p v : Arg) : xAb R F H (.store n p v) = if (opv F v).cells.length = n then xWJ (wr H (opv F p) (opv F v).cells) else none := by
 simp only [xAb,xWJ]
 split
 ·cases wr H (opv F p) (opv F v).cells <;> rfl
 ·rfl
def yFW : AV → Option AV
 | .ptr id off => some (.ptr id off)
 | .vptr cs off => some (.vptr cs off)
 | .func f caps => some (.func f caps)
 | .yield l => some (.yield l)
 | _ => none
theorem xST (id off : Nat) : yFW (.ptr id off) = some (.ptr id off) := rfl
theorem xOR (cs : List AV) (off : Nat) : yFW (.vptr cs off) = some (.vptr cs off) := rfl
theorem xOS (f : Nat) (cs : List AV) : yFW (.func f cs) = some (.func f cs) := rfl
theorem xKm (l : Nat) : yFW (.yield l) = some (.yield l) := rfl
theorem xOT (x : Arg) : xAb R F H (.nilchk x) = xCn H (yFW (opv F x)) := by
 simp only [xAb]
 cases opv F x <;> rfl
theorem yCC (op : BinOp) (x y : Arg) : xAb R F H (.bin op x y) = xCn H (xDb op (opv F x) (opv F y)) := by
 simp only [xAb,xCn]
 cases xDb op (opv F x) (opv F y) <;> rfl
section
variable (k : IntKind) (a b : Int)
theorem xWK : xDb .add (.int k a) (.int k b) = some (.int k (k.wrap (a + b))) := by simp [xDb]
theorem xWL : xDb .sub (.int k a) (.int k b) = some (.int k (k.wrap (a - b))) := by simp [xDb]
theorem xWM : xDb .mul (.int k a) (.int k b) = some (.int k (k.wrap (a * b))) := by simp [xDb]
theorem xWN (h : b ≠ 0) : xDb .quo (.int k a) (.int k b) = some (.int k (k.wrap (a.tdiv b))) := by simp [xDb,h]
theorem xWO (h : b ≠ 0) : xDb .rem (.int k a) (.int k b) = some (.int k (a.tmod b)) := by simp [xDb,h]
theorem xWP : xDb .and (.int k a) (.int k b) = some (.int k (xJr .and k a b)) := by simp [xDb]
theorem yCD : xDb .or (.int k a) (.int k b) = some (.int k (xJr .or k a b)) := by simp [xDb]
theorem xWQ : xDb .xor (.int k a) (.int k b) = some (.int k (xJr .xor k a b)) := by simp [xDb]
theorem xKn : xDb .andNot (.int k a) (.int k b) = some (.int k (xJr .andNot k a b)) := by simp [xDb]
theorem xWR (k' : IntKind) (h : 0 ≤ b) : xDb .shl (.int k a) (.int k' b) = some (.int k (k.wrap (a * 2 ^ (min b.toNat k.bits)))) := by simp only [xDb]; rw [if_neg (by omega)]
theorem xWS (k' : IntKind) (h : 0 ≤ b) : xDb .shr (.int k a) (.int k' b) = some (.int k (a.fdiv (2 ^ (min b.toNat k.bits)))) := by simp only [xDb]; rw [if_neg (by omega)]
theorem xWT : xDb .eql (.int k a) (.int k b) = some (.bool (decide (a = b))) := by simp [xDb]; rfl
theorem xWU : xDb .neq (.int k a) (.int k b) = some (.bool (!decide (a = b))) := by simp [xDb]; rfl
theorem xWV : xDb .lss (.int k a) (.int k b) = some (.bool (decide (a < b))) := by simp [xDb]
theorem xWW : xDb .leq (.int k a) (.int k b) = some (.bool (decide (a ≤ b))) := by simp [xDb]
theorem xWX : xDb .gtr (.int k a) (.int k b) = some (.bool (decide (b < a))) := by simp [xDb]
theorem xWY : xDb .geq (.int k a) (.int k b) = some (.bool (decide (b ≤ a))) := by simp [xDb]
end
def yHY (neg : Bool) : AV → AV → Option AV
 | .bool a,.bool b => some (.bool (if neg = true then a != b else a == b))
 | _,_ => none
theorem yCE (a b : Bool) : yHY false (.bool a) (.bool b) = some (.bool (decide (a = b))) := by cases a <;> cases b <;> rfl
theorem yCF (a b : Bool) : yHY true (.bool a) (.bool b) = some (.bool (!decide (a = b))) := by cases a <;> cases b <;> rfl
theorem yCG (neg : Bool) (x y : Arg) : xAb R F H (.beq neg x y) = xCn H (yHY neg (opv F x) (opv F y)) := by
 simp only [xAb]
 cases opv F x <;> cases opv F y <;> rfl
def xOU (neg : Bool) : AV → Option AV
 | .sl z _ _ => some (.bool (z != neg))
 | .own z _ _ _ _ => some (.bool (z != neg))
 | _ => none
theorem xKo (z : Bool) (n : Nat) (cs : List AV) : xOU false (.sl z n cs) = some (.bool z) := by cases z <;> rfl
theorem xKp (z : Bool) (n : Nat) (cs : List AV) : xOU true (.sl z n cs) = some (.bool (!z)) := by cases z <;> rfl
theorem xHL (z : Bool) (id off n es : Nat) : xOU false (.own z id off n es) = some (.bool z) := by cases z <;> rfl
theorem xHM (z : Bool) (id off n es : Nat) : xOU true (.own z id off n es) = some (.bool (!z)) := by cases z <;> rfl
theorem xSU (neg : Bool) (x : Arg) : xAb R F H (.isnil neg x) = xCn H (xOU neg (opv F x)) := by
 simp only [xAb]
 cases opv F x <;> rfl
theorem yFX (op : UnOp) (x : Arg) : xAb R F H (.un op x) = xCn H (unA op (opv F x)) := by
 simp only [xAb,xCn]
 cases unA op (opv F x) <;> rfl
theorem yCH (b : Bool) : unA .not (.bool b) = some (.bool !b) := rfl
theorem yCI (k : IntKind) (n : Int) : unA .neg (.int k n) = some (.int k (k.wrap (0 - n))) := rfl
theorem yCJ (k : IntKind) (n : Int) : unA .xor (.int k n) = some (.int k (xJr .xor k (if k.signed then -1 else k.max) n)) := rfl
def yFY (k : IntKind) : AV → Option AV
 | .int _ n => some (.int k (k.wrap n))
 | _ => none
theorem xOV (k k' : IntKind) (n : Int) : yFY k (.int k' n) = some (.int k (k.wrap n)) := rfl
theorem xWZ (k : IntKind) (x : Arg) : xAb R F H (.conv k x) = xCn H (yFY k (opv F x)) := by
 simp only [xAb]
 cases opv F x <;> rfl
theorem xOW (f : Nat) (caps : List Arg) : xAb R F H (.mkfunc f caps) = some (.func f (caps.map (opv F)),H) := rfl
def yIZ (fz : Bool) (z : List AV) (bytes : Nat) (H : xAc) : AV → AV → Option (AV × xAc)
 | .int _ l,.int _ c => if 0 ≤ l ∧ l ≤ c ∧ c * bytes ≤ xBi ∧ c ≤ xBi ∧ z.all AV.isCell = true then xDm fz false l.toNat z.length (xCD z l.toNat) H else none
 | _,_ => none
theorem xSV (fz : Bool) (z : List AV) (bytes : Nat) (k k' : IntKind) {l c : Int} (h1 : 0 ≤ l) (h2 : l ≤ c) (h3 : c * bytes ≤ 140737488355328) (h4 : c ≤ 140737488355328) (h5 : z.all AV.isCell = true) : yIZ fz z bytes H (.int k l) (.int k' c) = xDm fz false l.toNat z.length (xCD z l.toNat) H := if_pos ⟨h1,h2,h3,h4,h5⟩
theorem xKq (fz : Bool) (z : List AV) (bytes : Nat) (l c : Arg) : xAb R F H (.mkslice fz z bytes l c) = yIZ fz z bytes H (opv F l) (opv F c) := by
 simp only [xAb]
 cases opv F l <;> cases opv F c <;> rfl
def yDP (es : Nat) (H : xAc) (x : AV) : Option (Nat × Nat) → Option AV
 | none => none
 | some (l,h) => match x with
  | .sl z _ cs => some (.sl z (h - l) ((cs.drop (l * es)).take ((h - l) * es)))
  | .own z id off _ _ => some (.own z id (off + l * es) (h - l) es)
  | _ => none
def xSW (es : Nat) (H : xAc) (lo hi mx : Option AV) : AV → Option AV
 | .sl z n cs => if cs.length = n * es then yDP es H (.sl z n cs) (xBd n lo hi mx) else none
 | .own z id off n es' => if es' = es then yDP es H (.own z id off n es') (xBd n lo hi mx) else none
 | _ => none
theorem xSX (es : Nat) (x : Arg) (lo hi mx : Option Arg) : xAb R F H (.slice es x lo hi mx) = xCn H (xSW es H (lo.map (opv F)) (hi.map (opv F)) (mx.map (opv F)) (opv F x)) := by
 simp only [xAb,xCn,xSW,yDP]
 cases opv F x with
 | sl z n cs =>
  simp only
  split
  ·cases xBd n (lo.map (opv F)) (hi.map (opv F)) (mx.map (opv F)) <;> rfl
  ·rfl
 | own z id off n es' =>
  simp only
  split
  ·cases xBd n (lo.map (opv F)) (hi.map (opv F)) (mx.map (opv F)) <;> rfl
  ·rfl
 | _ => rfl
theorem xOX {es n : Nat} {z : Bool} {cs : List AV} (lo hi mx : Option AV) (h : cs.length = n * es) : xSW es H lo hi mx (.sl z n cs) = yDP es H (.sl z n cs) (xBd n lo hi mx) := if_pos h
theorem xKr {es n id off : Nat} {z : Bool} (lo hi mx : Option AV) : xSW es H lo hi mx (.own z id off n es) = yDP es H (.own z id off n es) (xBd n lo hi mx) := if_pos rfl
theorem xW0 (es : Nat) (z : Bool) (n : Nat) (cs : List AV) (l h : Nat) : yDP es H (.sl z n cs) (some (l,h)) = some (.sl z (h - l) ((cs.drop (l * es)).take ((h - l) * es))) := rfl
theorem xSY (es : Nat) (z : Bool) (id off n es' : Nat) (l h : Nat) : yDP es H (.own z id off n es') (some (l,h)) = some (.own z id (off + l * es) (h - l) es) := rfl
theorem xOY (n : Nat) : xBd n none none none = some (0,n) := by simp [xBd]
theorem xOZ {n : Nat} {k : IntKind} {l : Int} (h0 : 0 ≤ l) (h : l ≤ n) : xBd n (some (.int k l)) none none = some (l.toNat,n) := by
 simp only [xBd,xA9,if_pos h0]
 rw [if_pos ⟨by omega,by omega⟩]
theorem xO0 {n : Nat} {k : IntKind} {m : Int} (h0 : 0 ≤ m) (h : m ≤ n) : xBd n none (some (.int k m)) none = some (0,m.toNat) := by
 simp only [xBd,xA9,if_pos h0]
 rw [if_pos ⟨by omega,by omega⟩]
theorem xO1 {n : Nat} {k k' : IntKind} {l m : Int} (h0 : 0 ≤ l) (h1 : l ≤ m) (h : m ≤ n) : xBd n (some (.int k l)) (some (.int k' m)) none = some (l.toNat,m.toNat) := by
 have h2 : 0 ≤ m := by omega
 simp only [xBd,xA9,if_pos h0,if_pos h2]
 rw [if_pos ⟨by omega,by omega⟩]
def xW1 (o : Nat) : AV → Option AV
 | .ptr id off => some (.ptr id (off + o))
 | .vptr cs off => some (.vptr cs (off + o))
 | _ => none
theorem xKs (o id off : Nat) : xW1 o (.ptr id off) = some (.ptr id (off + o)) := rfl
theorem xHN (o : Nat) (cs : List AV) (off : Nat) : xW1 o (.vptr cs off) = some (.vptr cs (off + o)) := rfl
theorem xSZ (o : Nat) (x : Arg) : xAb R F H (.faddr o x) = xCn H (xW1 o (opv F x)) := by
 simp only [xAb]
 cases opv F x <;> rfl
def xW2 (g : Bool) (off n : Nat) : AV → Option AV
 | .agg cs => if off + n ≤ cs.length then mkv g ((cs.drop off).take n) else none
 | _ => none
theorem xKt {g : Bool} {off n : Nat} {cs : List AV} (h : off + n ≤ cs.length) : xW2 g off n (.agg cs) = mkv g ((cs.drop off).take n) := if_pos h
theorem yFZ (v : AV) : mkv false [v] = some v := rfl
theorem yF0 (cs : List AV) : mkv true cs = some (.agg cs) := rfl
theorem xS0 (g : Bool) (off n : Nat) (x : Arg) : xAb R F H (.field g off n x) = xCn H (xW2 g off n (opv F x)) := by
 simp only [xAb]
 cases opv F x with
 | agg cs =>
  simp only [xW2,xCn]
  split
  ·cases mkv g ((cs.drop off).take n) <;> rfl
  ·rfl
 | _ => rfl
def xKu (es : Nat) : AV → AV → Option AV
 | .sl _ n cs,.int _ i => if 0 ≤ i ∧ i.toNat < n then some (.vptr cs (i.toNat * es)) else none
 | .own _ id off n es',.int _ i => if 0 ≤ i ∧ i.toNat < n ∧ es' = es then some (.ptr id (off + i.toNat * es)) else none
 | _,_ => none
theorem xO2 {es n : Nat} {z : Bool} {cs : List AV} {k : IntKind} {i : Int} (h0 : 0 ≤ i) (h : i < n) : xKu es (.sl z n cs) (.int k i) = some (.vptr cs (i.toNat * es)) := if_pos ⟨h0,by omega⟩
theorem xKv {es n id off : Nat} {z : Bool} {k : IntKind} {i : Int} (h0 : 0 ≤ i) (h : i < n) : xKu es (.own z id off n es) (.int k i) = some (.ptr id (off + i.toNat * es)) := if_pos ⟨h0,by omega,rfl⟩
theorem xS1 (es : Nat) (x i : Arg) : xAb R F H (.iaddr es x i) = xCn H (xKu es (opv F x) (opv F i)) := by
 simp only [xAb]
 cases opv F x with
 | sl z n cs =>
  cases opv F i with
  | int k j =>
   simp only [xA9,xKu,xCn]
   by_cases h : 0 ≤ j
   ·by_cases h2 : j.toNat < n <;> simp [h,h2]
   ·simp [h]
  | _ => rfl
 | own z id off n es' =>
  cases opv F i with
  | int k j =>
   simp only [xA9,xKu,xCn]
   by_cases h : 0 ≤ j
   ·by_cases h2 : j.toNat < n
    ·by_cases h3 : es' = es <;> simp [h,h2,h3]
    ·simp [h,h2]
   ·simp [h]
  | _ => rfl
 | _ => cases opv F i <;> simp [xKu,xCn,xA9] <;> split <;> simp_all
def yHZ (i : Nat) : AV → Option AV
 | .tup vs => vs[i]?
 | _ => none
theorem xS2 (i : Nat) (vs : List AV) : yHZ i (.tup vs) = vs[i]? := rfl
theorem yCK (i : Nat) (x : Arg) : xAb R F H (.ext i x) = xCn H (yHZ i (opv F x)) := by
 simp only [xAb]
 cases opv F x with
 | tup vs => simp only [yHZ,xCn]; cases vs[i]? <;> rfl
 | _ => rfl
def yH0 : AV → Option AV
 | .sl _ n _ => some (.int .i64 n)
 | .own _ _ _ n _ => some (.int .i64 n)
 | _ => none
theorem xW3 (z : Bool) (n : Nat) (cs : List AV) : yH0 (.sl z n cs) = some (.int .i64 n) := rfl
theorem xS3 (z : Bool) (id off n es : Nat) : yH0 (.own z id off n es) = some (.int .i64 n) := rfl
theorem yCL (x : Arg) : xAb R F H (.len x) = xCn H (yH0 (opv F x)) := by
 simp only [xAb]
 cases opv F x <;> rfl
theorem yCM (x : Arg) : xAb R F H (.cap x) = match opv F x with
 | .sl true _ _ => some (.int .i64 0,H)
 | _ => none := rfl
def yH1 (neg : Bool) (n : Nat) : AV → AV → Option AV
 | .agg cs,.agg ds => if cs.length = n then (xBS cs ds).map fun b => .bool (b != neg) else none
 | _,_ => none
theorem xS4 {neg : Bool} {n : Nat} {cs ds : List AV} (h : cs.length = n) : yH1 neg n (.agg cs) (.agg ds) = (xBS cs ds).map fun b => .bool (b != neg) := if_pos h
theorem yCN (neg : Bool) (n : Nat) (x y : Arg) : xAb R F H (.aeq neg n x y) = xCn H (yH1 neg n (opv F x) (opv F y)) := by
 simp only [xAb]
 cases opv F x with
 | agg cs => cases opv F y with
  | agg ds =>
   simp only [yH1,xCn]
   split
   ·cases xBS cs ds <;> rfl
   ·rfl
  | _ => rfl
 | _ => rfl
def xQQ (fz : Bool) (es bytes : Nat) (H : xAc) (x : AV) : Option (Nat × List AV) → Option (AV × xAc)
 | none => none
 | some (m,ys) => match x with
  | .sl true _ _ => if m * bytes ≤ xBi ∧ m ≤ xBi then xDm fz (m == 0) m es ys H else none
  | .own z id off n es' => match H[id]? with
   | some (.cells false _ cs) => if off = 0 ∧ es' = es ∧ n * es ≤ cs.length ∧ (n + m) * bytes ≤ xBi ∧ n + m ≤ xBi then
     some (.own (z && m == 0) H.length 0 (n + m) es,H.set id .dead ++ [.cells false (z && m == 0) (cs.take (n * es) ++ ys)]) else none
   | _ => none
  | _ => none
theorem xHO (fz : Bool) (es bytes : Nat) (x y : Arg) : xAb R F H (.append fz es bytes x y) = xQQ fz es bytes H (opv F x) (src H es (opv F y)) := by
 simp only [xAb,xQQ]
 cases src H es (opv F y) <;> rfl
theorem xES {fz : Bool} {es bytes n m : Nat} {cs ys : List AV} (h : m * bytes ≤ 140737488355328) (h2 : m ≤ 140737488355328) : xQQ fz es bytes H (.sl true n cs) (some (m,ys)) = xDm fz (m == 0) m es ys H := if_pos ⟨h,h2⟩
def yDQ (es bytes n m : Nat) (H : xAc) (z : Bool) (id : Nat) (ys : List AV) : Option Blk → Option (AV × xAc)
 | some (.cells false _ cs) => if n * es ≤ cs.length ∧ (n + m) * bytes ≤ xBi ∧ n + m ≤ xBi then
   some (.own (z && m == 0) H.length 0 (n + m) es,H.set id .dead ++ [.cells false (z && m == 0) (cs.take (n * es) ++ ys)]) else none
 | _ => none
theorem xGA (fz : Bool) (es bytes n m id : Nat) (z : Bool) (ys : List AV) : xQQ fz es bytes H (.own z id 0 n es) (some (m,ys)) = yDQ es bytes n m H z id ys H[id]? := by
 simp only [xQQ,yDQ]
 split
 ·rename_i z' cs hb
  by_cases h : n * es ≤ cs.length ∧ (n + m) * bytes ≤ xBi ∧ n + m ≤ xBi
  ·rw [if_pos h,if_pos ⟨trivial,trivial,h⟩]
  ·rw [if_neg h,if_neg (fun g => h g.2.2)]
 ·rename_i hne
  cases hb : H[id]? with
  | none => rfl
  | some b => cases b with
   | cells fz z cs => cases fz with
    | false => exact (hne _ _ hb).elim
    | true => rfl
   | _ => rfl
theorem xHP {es bytes n m id : Nat} {z z' : Bool} {ys cs : List AV} (h : n * es ≤ cs.length) (h2 : (n + m) * bytes ≤ 140737488355328) (h3 : n + m ≤ 140737488355328) : yDQ es bytes n m H z id ys (some (.cells false z' cs)) =
  some (.own (z && m == 0) H.length 0 (n + m) es,H.set id .dead ++ [.cells false (z && m == 0) (cs.take (n * es) ++ ys)]) := if_pos ⟨h,h2,h3⟩
theorem yCO {es n : Nat} {z : Bool} {cs : List AV} (h : cs.length = n * es) : src H es (.sl z n cs) = some (n,cs) := if_pos h
def yH2 (off n es : Nat) : Option Blk → Option (Nat × List AV)
 | some (.cells _ _ cs) => if off + n * es ≤ cs.length then some (n,(cs.drop off).take (n * es)) else none
 | _ => none
theorem xW4 (es n id off : Nat) (z : Bool) : src H es (.own z id off n es) = yH2 off n es H[id]? := by
 simp only [src,yH2]
 cases H[id]? with
 | none => rfl
 | some b => cases b <;> simp
theorem xKw {es n off : Nat} {fz z : Bool} {cs : List AV} (h : off + n * es ≤ cs.length) : yH2 off n es (some (.cells fz z cs)) = some (n,(cs.drop off).take (n * es)) := if_pos h
def xO3 (z : List AV) (bytes : Nat) (H : xAc) : AV → AV → Option (AV × xAc)
 | .sl true _ _,.int _ m => if 0 ≤ m ∧ m.toNat * bytes ≤ xBi ∧ m.toNat ≤ xBi ∧ z.all AV.isCell = true then xDm false (m.toNat == 0) m.toNat z.length (xCD z m.toNat) H else none
 | _,_ => none
theorem xKx (z : List AV) (bytes : Nat) (x n : Arg) : xAb R F H (.appendz z bytes x n) = xO3 z bytes H (opv F x) (opv F n) := by
 simp only [xAb]
 cases hn : opv F n with
 | int k m =>
  simp only [xA9]
  by_cases h : 0 ≤ m
  ·cases hx : opv F x with
   | sl zz nn cs => cases zz <;> simp [xO3,h]
   | _ => simp [xO3,h]
  ·cases hx : opv F x with
   | sl zz nn cs => cases zz <;> simp [xO3,h]
   | _ => simp [xO3,h]
 | _ =>
  cases hx : opv F x with
  | sl zz nn cs => cases zz <;> simp [xO3,xA9]
  | _ => simp [xO3,xA9]
theorem xO4 {z : List AV} {bytes n : Nat} {cs : List AV} {k : IntKind} {m : Int} (h0 : 0 ≤ m) (h1 : m.toNat * bytes ≤ 140737488355328) (h2 : m.toNat ≤ 140737488355328) (h3 : z.all AV.isCell = true) : xO3 z bytes H (.sl true n cs) (.int k m) = xDm false (m.toNat == 0) m.toNat z.length (xCD z m.toNat) H := if_pos ⟨h0,h1,h2,h3⟩
def yH3 : AV → AV → Option AV
 | .int k a,.int _ b => some (.int k (max a b))
 | _,_ => none
def yH4 : AV → AV → Option AV
 | .int k a,.int _ b => some (.int k (min a b))
 | _,_ => none
theorem xS5 (k k' : IntKind) (a b : Int) : yH3 (.int k a) (.int k' b) = some (.int k (max a b)) := rfl
theorem xS6 (k k' : IntKind) (a b : Int) : yH4 (.int k a) (.int k' b) = some (.int k (min a b)) := rfl
theorem xW5 (x y : Arg) : xAb R F H (.maxi x y) = xCn H (yH3 (opv F x) (opv F y)) := by
 simp only [xAb]
 cases opv F x with
 | int k a => cases opv F y with
  | int k' b => simp only [yH3,xCn]; congr 3; split <;> omega
  | _ => rfl
 | _ => rfl
theorem xW6 (x y : Arg) : xAb R F H (.mini x y) = xCn H (yH4 (opv F x) (opv F y)) := by
 simp only [xAb]
 cases opv F x with
 | int k a => cases opv F y with
  | int k' b => simp only [yH4,xCn]; congr 3; split <;> omega
  | _ => rfl
 | _ => rfl
theorem yCP (z : List AV) : xCD z 0 = [] := rfl
theorem yCQ (z : List AV) : xCD z 1 = z ++ ([]) := rfl
theorem yCR (z : List AV) : xCD z 2 = z ++ (z ++ ([])) := rfl
theorem yCS (z : List AV) : xCD z 3 = z ++ (z ++ (z ++ ([]))) := rfl
theorem yCT (z : List AV) : xCD z 4 = z ++ (z ++ (z ++ (z ++ ([])))) := rfl
theorem yCU (z : List AV) : xCD z 5 = z ++ (z ++ (z ++ (z ++ (z ++ ([]))))) := rfl
theorem yCV (z : List AV) : xCD z 6 = z ++ (z ++ (z ++ (z ++ (z ++ (z ++ ([])))))) := rfl
theorem yCW (z : List AV) : xCD z 7 = z ++ (z ++ (z ++ (z ++ (z ++ (z ++ (z ++ ([]))))))) := rfl
theorem yCX (z : List AV) : xCD z 8 = z ++ (z ++ (z ++ (z ++ (z ++ (z ++ (z ++ (z ++ ([])))))))) := rfl
theorem yCY (z : List AV) : xCD z 9 = z ++ (z ++ (z ++ (z ++ (z ++ (z ++ (z ++ (z ++ (z ++ ([]))))))))) := rfl
theorem xW7 (z : List AV) : xCD z 10 = z ++ (z ++ (z ++ (z ++ (z ++ (z ++ (z ++ (z ++ (z ++ (z ++ ([])))))))))) := rfl
theorem xW8 (z : List AV) : xCD z 11 = z ++ (z ++ (z ++ (z ++ (z ++ (z ++ (z ++ (z ++ (z ++ (z ++ (z ++ ([]))))))))))) := rfl
theorem xW9 (z : List AV) : xCD z 12 = z ++ (z ++ (z ++ (z ++ (z ++ (z ++ (z ++ (z ++ (z ++ (z ++ (z ++ (z ++ ([])))))))))))) := rfl
theorem xCy (d : Nat) (k : IntKind) (n : Int) : frz d H (.int k n) = some (.int k n) := by cases d <;> rfl
theorem xS7 (d : Nat) (b : Bool) : frz d H (.bool b) = some (.bool b) := by cases d <;> rfl
theorem xXa (d : Nat) (b : ByteArray) : frz d H (.str b) = some (.str b) := by cases d <;> rfl
theorem xS8 (d : Nat) : frz d H .nilp = some .nilp := by cases d <;> rfl
theorem xS9 (d : Nat) : frz d H .nilf = some .nilf := by cases d <;> rfl
theorem xXb (d : Nat) : frz d H .any = some .any := by cases d <;> rfl
theorem xTa (d f : Nat) : frz d H (.func f []) = some (.func f []) := by cases d <;> rfl
theorem xXc (d : Nat) (z : Bool) (n : Nat) (cs : List AV) : frz d H (.sl z n cs) = some (.sl z n cs) := by cases d <;> rfl
theorem xLY (d : Nat) (cs : List AV) : frz (d + 1) H (.agg cs) = (cs.mapM (frz d H)).map AV.agg := rfl
theorem xXd (d : Nat) (cs : List AV) : frz (d + 1) H (.tup cs) = (cs.mapM (frz d H)).map AV.tup := rfl
def yF1 (d : Nat) (H : xAc) (z : Bool) (off n es : Nat) : Option Blk → Option AV
 | some (.cells _ _ cs) => if off + n * es ≤ cs.length then slK z n (((cs.drop off).take (n * es)).mapM (frz d H)) else none
 | _ => none
theorem xAY (d : Nat) (z : Bool) (id off n es : Nat) : frz (d + 1) H (.own z id off n es) = yF1 d H z off n es H[id]? := by
 simp only [frz,yF1]
 cases H[id]? with
 | none => rfl
 | some b => cases b with
  | cells fz z' cs =>
   simp only
   split
   ·cases ((cs.drop off).take (n * es)).mapM (frz d H) <;> rfl
   ·rfl
  | _ => rfl
theorem xKy {d off n es : Nat} {z fz z' : Bool} {cs : List AV} (h : off + n * es ≤ cs.length) : yF1 d H z off n es (some (.cells fz z' cs)) = slK z n (((cs.drop off).take (n * es)).mapM (frz d H)) := if_pos h
theorem xFA (d : Nat) (k : IntKind) (n : Int) : bor d H (.int k n) = [] := by cases d <;> rfl
theorem xTb (d : Nat) (b : Bool) : bor d H (.bool b) = [] := by cases d <;> rfl
theorem xXe (d : Nat) (b : ByteArray) : bor d H (.str b) = [] := by cases d <;> rfl
theorem xTc (d : Nat) : bor d H .nilp = [] := by cases d <;> rfl
theorem xTd (d : Nat) : bor d H .nilf = [] := by cases d <;> rfl
theorem xXf (d : Nat) : bor d H .any = [] := by cases d <;> rfl
theorem xTe (d f : Nat) (cs : List AV) : bor d H (.func f cs) = [] := by cases d <;> rfl
theorem yCZ (ss : List Nat) (b : ACode) (s : St) : run R (.fz ss b) s = run R b ⟨s.F,fzIds s.H (ss.flatMap fun i => bor frzN s.H (s.F.getD i .any))⟩ := rfl
def yH5 (R : Rec) (i : Nat) (b : ACode) (s : St) (ids : List Nat) : Option AV → Option (AExit × St)
 | some v => run R b ⟨s.F.set i v,fzIds s.H ids⟩
 | none => none
theorem xXg (i : Nat) (b : ACode) (s : St) : run R (.fzs i b) s = yH5 R i b s (bor frzN s.H (s.F.getD i .any)) (frz frzN s.H (s.F.getD i .any)) := by
 simp only [run,yH5]
 cases frz frzN s.H (s.F.getD i .any) <;> rfl
theorem xO5 (i : Nat) (b : ACode) (s : St) (ids : List Nat) (v : AV) : yH5 R i b s ids (some v) = run R b ⟨s.F.set i v,fzIds s.H ids⟩ := rfl
def yH6 (d : Nat) (H : xAc) (off : Nat) : Option Blk → Option AV
 | some (.cells _ _ cs) => (cs.mapM (frz d H)).map fun cs' => .vptr cs' off
 | _ => none
theorem xXh (d i o : Nat) : frz (d + 1) H (.ptr i o) = yH6 d H o H[i]? := by
 simp only [frz,yH6]
 cases H[i]? with
 | none => rfl
 | some b => cases b <;> rfl
theorem xKz (d : Nat) (o : Nat) (fz z : Bool) (cs : List AV) : yH6 d H o (some (.cells fz z cs)) = (cs.mapM (frz d H)).map fun cs' => .vptr cs' o := rfl
theorem xTf (d : Nat) (cs : List AV) (o : Nat) : frz d H (.vptr cs o) = some (.vptr cs o) := by cases d <;> rfl
def yDR (d : Nat) (H : xAc) : Option Blk → List Nat
 | some (.cells _ _ cs) => cs.flatMap (bor d H)
 | _ => []
theorem xXi (d i o : Nat) : bor (d + 1) H (.ptr i o) = i :: yDR d H H[i]? := by
 simp only [bor,yDR]
 cases H[i]? with
 | none => rfl
 | some b => cases b <;> rfl
theorem xHQ (d : Nat) (fz z : Bool) (cs : List AV) : yDR d H (some (.cells fz z cs)) = cs.flatMap (bor d H) := rfl
theorem xTg (d : Nat) (cs : List AV) (o : Nat) : bor d H (.vptr cs o) = [] := by cases d <;> rfl
def yDS : Option Blk → Bool
 | some (.cells true _ _) => true
 | _ => false
theorem xKA (i : Nat) : xFP H i = yDS H[i]? := by
 simp only [xFP,yDS]
 cases H[i]? with
 | none => rfl
 | some b => cases b with
  | cells fz z cs => cases fz <;> rfl
  | _ => rfl
theorem xXj (z : Bool) (cs : List AV) : yDS (some (.cells true z cs)) = true := rfl
theorem yC0 (d : Nat) (z : Bool) (n : Nat) (cs : List AV) : bor d H (.sl z n cs) = [] := by cases d <;> rfl
theorem xXk (d : Nat) (cs : List AV) : bor (d + 1) H (.agg cs) = cs.flatMap (bor d H) := rfl
theorem xXl (d : Nat) (cs : List AV) : bor (d + 1) H (.tup cs) = cs.flatMap (bor d H) := rfl
def xXm (d : Nat) (H : xAc) (off n es : Nat) : Option Blk → List Nat
 | some (.cells _ _ cs) => ((cs.drop off).take (n * es)).flatMap (bor d H)
 | _ => []
theorem xHR (d : Nat) (z : Bool) (id off n es : Nat) : bor (d + 1) H (.own z id off n es) = id :: xXm d H off n es H[id]? := by
 simp only [bor,xXm]
 cases H[id]? with
 | none => rfl
 | some b => cases b <;> rfl
theorem xKB (d off n es : Nat) (fz z : Bool) (cs : List AV) : xXm d H off n es (some (.cells fz z cs)) = ((cs.drop off).take (n * es)).flatMap (bor d H) := rfl
def yC1 (args : List AV) (H : xAc) : Option AV → Option (AV × xAc)
 | some r => some (r,if xA0 r = true then H else fzIds H (args.flatMap (bor frzN H)))
 | none => none
theorem xO6 (args : List AV) (r : AV) : yC1 args H (some r) = some (r,if xA0 r = true then H else fzIds H (args.flatMap (bor frzN H))) := rfl
theorem xO7 (args : List AV) : yC1 args H none = none := rfl
theorem xTh (args : List AV) {c : Prop} [Decidable c] (x y : Option AV) : yC1 args H (if c then x else y) = if c then yC1 args H x else yC1 args H y := by split <;> rfl
def yH7 (R : Rec) (f : Nat) (args : List AV) (H : xAc) : Option (List AV) → Option (AV × xAc)
 | some args' => yC1 args H (R.pcall f args')
 | none => none
theorem xO8 (f : Nat) (args args' : List AV) : yH7 R f args H (some args') = yC1 args H (R.pcall f args') := rfl
theorem xO9 (f : Nat) (args : List AV) : xBl R f args H = yH7 R f args H (args.mapM (frz frzN H)) := by
 simp only [xBl,yH7]
 cases args.mapM (frz frzN H) with
 | none => rfl
 | some args' => simp only [yC1]; cases R.pcall f args' <;> rfl
theorem xXn (f : Nat) (args : List Arg) : xAb R F H (.call f args) = xBl R f (args.map (opv F)) H := rfl
theorem xTi (f : Arg) (args : List Arg) : xAb R F H (.icall f args) = R.icall (opv F f) (args.map (opv F)) H := rfl
def yC2 (R : Rec) (args : List AV) (H : xAc) : AV → Option (AV × xAc)
 | .func g caps => xBl R g (args ++ caps) H
 | _ => none
theorem xHS (args : List AV) (g : Nat) (caps : List AV) : yC2 R args H (.func g caps) = xBl R g (args ++ caps) H := rfl
theorem xTj (f : Arg) (args : List Arg) : xAb R F H (.fcall f args) = yC2 R (args.map (opv F)) H (opv F f) := by
 simp only [xAb]
 cases opv F f <;> rfl
def xEg (args : List AV) (H : xAc) : Option (AV × xAc) → Option (AV × xAc)
 | some (r,_) => if quietCall r H args = true then some (r,H) else none
 | none => none
theorem xHT (args : List AV) (r : AV) (H' : xAc) : xEg args H (some (r,H')) = if quietCall r H args = true then some (r,H) else none := rfl
theorem xHU (args : List AV) : xEg args H none = none := rfl
theorem xKC (args : List AV) {c : Prop} [Decidable c] (x y : Option (AV × xAc)) : xEg args H (if c then x else y) = if c then xEg args H x else xEg args H y := by split <;> rfl
theorem xXo (f : Nat) (args : List Arg) : xAJ R F H (.call f args) = xEg (args.map (opv F)) H (xBl R f (args.map (opv F)) H) := by
 simp only [xAJ,xAt,xEg]
 cases xBl R f (args.map (opv F)) H with
 | none => rfl
 | some r => obtain ⟨r,H'⟩ := r; simp only; split <;> rfl
def xQR (R : Rec) (args : List AV) (H : xAc) : AV → Option (AV × xAc)
 | .func g caps => xEg (args ++ caps) H (xBl R g (args ++ caps) H)
 | _ => none
theorem xGa (args : List AV) (g : Nat) (caps : List AV) : xQR R args H (.func g caps) = xEg (args ++ caps) H (xBl R g (args ++ caps) H) := rfl
theorem xTk (f : Arg) (args : List Arg) : xAJ R F H (.fcall f args) = xQR R (args.map (opv F)) H (opv F f) := by
 simp only [xAJ,xAt,xEg,xQR]
 cases opv F f with
 | func g caps =>
  simp only
  cases xBl R g (args.map (opv F) ++ caps) H with
  | none => rfl
  | some r => obtain ⟨r,H'⟩ := r; simp only; split <;> rfl
 | _ => rfl
theorem yC3 (v : AV) : xAJ R F H (.box (.c v)) = if v.cells.all AV.isCell = true then some (.any,H) else none := by
 simp only [xAJ,xAt]
 split <;> rfl
def xDl (H : xAc) : Option (AV × xAc) → Option (AV × xAc)
 | some (v,_) => some (v,H)
 | none => none
theorem xPa (v : AV) (H' : xAc) : xDl H (some (v,H')) = some (v,H) := rfl
theorem xPb : xDl H none = none := rfl
theorem xTl {c : Prop} [Decidable c] (x y : Option (AV × xAc)) : xDl H (if c then x else y) = if c then xDl H x else xDl H y := by split <;> rfl
theorem xBM (op : AOp) (h : xAt R F H op = (xAb R F H op).map (·.1)) : xAJ R F H op = xDl H (xAb R F H op) := by
 simp only [xAJ,h,xDl]
 cases xAb R F H op <;> rfl
theorem yC4 (x : Arg) : xAJ R F H (.mov x) = xDl H (xAb R F H (.mov x)) := xBM _ rfl
theorem xXp (c a b : Arg) : xAJ R F H (.pick c a b) = xDl H (xAb R F H (.pick c a b)) := xBM _ rfl
theorem xTm (z : List AV) (parts : List (Nat × Nat × Arg)) : xAJ R F H (.build z parts) = xDl H (xAb R F H (.build z parts)) := xBM _ rfl
theorem xPc (z : List AV) (es n : Nat) (parts : List (Nat × Arg)) : xAJ R F H (.bslice true z es n parts) = xDl H (xAb R F H (.bslice true z es n parts)) := xBM _ rfl
theorem xXq (g : Bool) (n : Nat) (p : Arg) : xAJ R F H (.load g n p) = xDl H (xAb R F H (.load g n p)) := xBM _ rfl
theorem xPd (x : Arg) : xAJ R F H (.nilchk x) = xDl H (xAb R F H (.nilchk x)) := xBM _ rfl
theorem yC5 (op : BinOp) (x y : Arg) : xAJ R F H (.bin op x y) = xDl H (xAb R F H (.bin op x y)) := xBM _ rfl
theorem yC6 (neg : Bool) (x y : Arg) : xAJ R F H (.beq neg x y) = xDl H (xAb R F H (.beq neg x y)) := xBM _ rfl
theorem xTn (neg : Bool) (x : Arg) : xAJ R F H (.isnil neg x) = xDl H (xAb R F H (.isnil neg x)) := xBM _ rfl
theorem yF2 (op : UnOp) (x : Arg) : xAJ R F H (.un op x) = xDl H (xAb R F H (.un op x)) := xBM _ rfl
theorem xXr (k : IntKind) (x : Arg) : xAJ R F H (.conv k x) = xDl H (xAb R F H (.conv k x)) := xBM _ rfl
theorem xPe (f : Nat) (caps : List Arg) : xAJ R F H (.mkfunc f caps) = xDl H (xAb R F H (.mkfunc f caps)) := xBM _ rfl
theorem xKD (z : List AV) (bytes : Nat) (l c : Arg) : xAJ R F H (.mkslice true z bytes l c) = xDl H (xAb R F H (.mkslice true z bytes l c)) := xBM _ rfl
theorem xTo (es : Nat) (x : Arg) (lo hi mx : Option Arg) : xAJ R F H (.slice es x lo hi mx) = xDl H (xAb R F H (.slice es x lo hi mx)) := xBM _ rfl
theorem xTp (o : Nat) (x : Arg) : xAJ R F H (.faddr o x) = xDl H (xAb R F H (.faddr o x)) := xBM _ rfl
theorem xTq (g : Bool) (off n : Nat) (x : Arg) : xAJ R F H (.field g off n x) = xDl H (xAb R F H (.field g off n x)) := xBM _ rfl
theorem xTr (es : Nat) (x i : Arg) : xAJ R F H (.iaddr es x i) = xDl H (xAb R F H (.iaddr es x i)) := xBM _ rfl
theorem yC7 (i : Nat) (x : Arg) : xAJ R F H (.ext i x) = xDl H (xAb R F H (.ext i x)) := xBM _ rfl
theorem yC8 (x : Arg) : xAJ R F H (.len x) = xDl H (xAb R F H (.len x)) := xBM _ rfl
theorem yC9 (x : Arg) : xAJ R F H (.cap x) = xDl H (xAb R F H (.cap x)) := xBM _ rfl
theorem yDa (neg : Bool) (n : Nat) (x y : Arg) : xAJ R F H (.aeq neg n x y) = xDl H (xAb R F H (.aeq neg n x y)) := xBM _ rfl
theorem xXs (x y : Arg) : xAJ R F H (.maxi x y) = xDl H (xAb R F H (.maxi x y)) := xBM _ rfl
theorem xXt (x y : Arg) : xAJ R F H (.mini x y) = xDl H (xAb R F H (.mini x y)) := xBM _ rfl
def yDT (es bytes : Nat) (H : xAc) (x : AV) (o : Option (Nat × List AV)) : Option (AV × xAc) := match x with
 | .sl _ _ _ => xDl H (xQQ true es bytes H x o)
 | _ => none
theorem xTs (es bytes : Nat) (z : Bool) (n : Nat) (cs : List AV) (o : Option (Nat × List AV)) : yDT es bytes H (.sl z n cs) o = xDl H (xQQ true es bytes H (.sl z n cs) o) := rfl
theorem xPf (es bytes : Nat) (x y : Arg) : xAJ R F H (.append true es bytes x y) = yDT es bytes H (opv F x) (src H es (opv F y)) := by
 simp only [xAJ,xAt,yDT]
 cases h : opv F x with
 | sl z n cs =>
  simp only [xHO,h,xDl]
  cases xQQ true es bytes H (.sl z n cs) (src H es (opv F y)) <;> rfl
 | _ => rfl
def xUL (H : xAc) : Option AV → Option (AV × xAc)
 | some v => some (v,H)
 | none => none
theorem xKE (v : AV) : xUL H (some v) = some (v,H) := rfl
def xPg (rs : List ARes) : Option (AExit × St) → Option (AV × xAc)
 | some (.normal,s) => xUL s.H (xBw rs s)
 | some (.ret,s) => xUL s.H (xBw rs s)
 | _ => none
theorem xGb (rs : List ARes) (F : List AV) (H : xAc) : xPg rs (some (.normal,⟨F,H⟩)) = xUL H (xBw rs ⟨F,H⟩) := rfl
theorem xPh (rs : List ARes) (F : List AV) (H : xAc) : xPg rs (some (.ret,⟨F,H⟩)) = xUL H (xBw rs ⟨F,H⟩) := rfl
theorem xKF (rs : List ARes) : xPg rs none = none := rfl
theorem xPi (rs : List ARes) {c : Prop} [Decidable c] (x y : Option (AExit × St)) : xPg rs (if c then x else y) = if c then xPg rs x else xPg rs y := by split <;> rfl
def pads : Nat → List AV
 | 0 => []
 | n + 1 => .tup [] :: pads n
theorem xXu : ∀ n,List.replicate n (AV.tup []) = pads n
 | 0 => rfl
 | n + 1 => by rw [List.replicate_succ,xXu n]; rfl
theorem xGB (n : Nat) (code : ACode) (rs : List ARes) (args : List AV) : xA3 R ⟨n,code,rs⟩ args H = xPg rs (run R code ⟨args ++ pads (n - args.length),H⟩) := by
 rw [← xXu]
 simp only [xA3,xPg,xP9,xUL]
 cases h : run R code ⟨args ++ List.replicate (n - args.length) (.tup []),H⟩ with
 | none => rfl
 | some r =>
  obtain ⟨e,s⟩ := r
  cases e with
  | exit i => rfl
  | _ => simp only; cases xBw rs s <;> rfl
def xHV : Option (AV × xAc) → Option AV
 | some (r,H') => frz frzN H' r
 | none => none
theorem xHW (r : AV) (H' : xAc) : xHV (some (r,H')) = frz frzN H' r := rfl
theorem xHX : xHV none = none := rfl
theorem xKG {c : Prop} [Decidable c] (x y : Option (AV × xAc)) : xHV (if c then x else y) = if c then xHV x else xHV y := by split <;> rfl
theorem xAf (fn : AFunc) (args : List AV) : xAy R fn args = xHV (xA3 R fn args []) := by
 simp only [xAy,xHV]
 cases xA3 R fn args [] <;> rfl
def yDU (g : Bool) : Option (List AV) → Option AV
 | some cs => mkv g cs
 | none => none
theorem xKH (g : Bool) (cs : List AV) : yDU g (some cs) = mkv g cs := rfl
theorem xXv (t : Nat) : xYf ⟨F,H⟩ (.tmp t) = some (F.getD t .any) := rfl
theorem xTt (t : Nat) (g : Bool) (n : Nat) : xYf ⟨F,H⟩ (.cell t g n) = yDU g (rd H (F.getD t .any) n) := by
 simp only [xYf,yDU]
 cases rd H (F.getD t .any) n <;> rfl
theorem xPj : xBw [] s = some (.tup []) := rfl
theorem xPk (r : ARes) : xBw [r] s = xYf s r := rfl
def yH8 (s : St) (rs : List ARes) : Option AV → Option (List AV)
 | some v => (xU8 s rs).map (v :: ·)
 | none => none
theorem xPl (rs : List ARes) (v : AV) : yH8 s rs (some v) = (xU8 s rs).map (v :: ·) := rfl
theorem xTu : xU8 s [] = some [] := rfl
theorem xPm (r : ARes) (rs : List ARes) : xU8 s (r :: rs) = yH8 s rs (xYf s r) := by
 simp only [xU8,yH8]
 cases xYf s r <;> rfl
theorem xPn (r r' : ARes) (rs : List ARes) : xBw (r :: r' :: rs) s = (xU8 s (r :: r' :: rs)).map .tup := rfl
def xET (F : List AV) (l : Nat) : Option (AV × xAc) → Option (AExit × St)
 | some (_,H') => match H'[l]? with
  | some (.loop st pend _ _ _ _) => if st = 1 then none else some ((match pend with | none => .normal | some e => e),⟨F,H'.set l .dead⟩)
  | _ => none
 | none => none
def xXw (R : Rec) (F : List AV) (H : xAc) (ps : List Nat) (asg body : ACode) : AV → Option (AExit × St)
 | .func g caps => xET F H.length (R.icall (.func g caps) [.yield H.length] (H ++ [.loop 0 none F ps asg body]))
 | _ => none
theorem xPo (f : Arg) (ps : List Nat) (asg body : ACode) (F : List AV) (H : xAc) : run R (.range f ps asg body) ⟨F,H⟩ = xXw R F H ps asg body (opv F f) := by
 simp only [run]
 cases opv F f with
 | func g caps =>
  simp only [xXw,xET]
  cases R.icall (.func g caps) [.yield H.length] (H ++ [.loop 0 none F ps asg body]) with
  | none => rfl
  | some r =>
   obtain ⟨v,H'⟩ := r
   simp only
   cases H'[H.length]? with
   | none => rfl
   | some b => cases b <;> rfl
 | _ => rfl
theorem xHY (ps : List Nat) (asg body : ACode) (g : Nat) (caps : List AV) : xXw R F H ps asg body (.func g caps) = xET F H.length (R.icall (.func g caps) [.yield H.length] (H ++ [.loop 0 none F ps asg body])) := rfl
def xEU (l : Nat) (e : AExit) (H : xAc) : Option Blk → Option (AV × xAc)
 | some (.loop 1 _ F ps asg body) => some (match e with
  | .normal => (.bool true,H.set l (.loop 0 none F ps asg body))
  | e => (.bool false,H.set l (.loop 2 (some e) F ps asg body)))
 | _ => none
def xCO (l : Nat) : Option (AExit × St) → Option (AV × xAc)
 | some (e,s) => xEU l e s.H s.H[l]?
 | none => none
def xLZ (R : Rec) (l : Nat) (body0 : ACode) (s : St) : Option Blk → Option (AV × xAc)
 | some (.loop 0 pend F ps asg body) => xCO l (run R body0 ⟨s.F,s.H.set l (.loop 1 pend F ps asg body)⟩)
 | _ => none
def yAC (R : Rec) (l : Nat) (body0 : ACode) : Option (AExit × St) → Option (AV × xAc)
 | some (.normal,s) => xLZ R l body0 s s.H[l]?
 | _ => none
theorem xDq (l : Nat) (body0 : ACode) (F : List AV) (H : xAc) : yAC R l body0 (some (.normal,⟨F,H⟩)) = xLZ R l body0 ⟨F,H⟩ H[l]? := rfl
theorem xEV (l : Nat) (body0 : ACode) (F : List AV) (H : xAc) (pend : Option AExit) (F1 : List AV) (ps : List Nat) (asg body : ACode) : xLZ R l body0 ⟨F,H⟩ (some (.loop 0 pend F1 ps asg body)) = xCO l (run R body0 ⟨F,H.set l (.loop 1 pend F1 ps asg body)⟩) := rfl
theorem xEh (l : Nat) (e : AExit) (F : List AV) (H : xAc) : xCO l (some (e,⟨F,H⟩)) = xEU l e H H[l]? := rfl
theorem xEW (l : Nat) {c : Prop} [Decidable c] (x y : Option (AExit × St)) : xCO l (if c then x else y) = if c then xCO l x else xCO l y := by split <;> rfl
theorem xDr (l : Nat) (H : xAc) (pend : Option AExit) (F : List AV) (ps : List Nat) (asg body : ACode) : xEU l .normal H (some (.loop 1 pend F ps asg body)) = some (.bool true,H.set l (.loop 0 none F ps asg body)) := rfl
theorem xEX (l i : Nat) (H : xAc) (pend : Option AExit) (F : List AV) (ps : List Nat) (asg body : ACode) : xEU l (.exit i) H (some (.loop 1 pend F ps asg body)) = some (.bool false,H.set l (.loop 2 (some (.exit i)) F ps asg body)) := rfl
theorem xGc (l : Nat) (H : xAc) (pend : Option AExit) (F : List AV) (ps : List Nat) (asg body : ACode) : xEU l .ret H (some (.loop 1 pend F ps asg body)) = some (.bool false,H.set l (.loop 2 (some .ret) F ps asg body)) := rfl
def xGC (F : List AV) (l : Nat) (H : xAc) : Option Blk → Option (AExit × St)
 | some (.loop st pend _ _ _ _) => if st = 1 then none else some ((match pend with | none => .normal | some e => e),⟨F,H.set l .dead⟩)
 | _ => none
theorem xEY (l : Nat) (v : AV) (H : xAc) : xET F l (some (v,H)) = xGC F l H H[l]? := by
 simp only [xET,xGC]
theorem xKI (l : Nat) (H : xAc) (F1 : List AV) (ps : List Nat) (asg body : ACode) : xGC F l H (some (.loop 0 none F1 ps asg body)) = some (.normal,⟨F,H.set l .dead⟩) := rfl
theorem xKJ (l : Nat) (H : xAc) (e : AExit) (F1 : List AV) (ps : List Nat) (asg body : ACode) : xGC F l H (some (.loop 2 (some e) F1 ps asg body)) = some (e,⟨F,H.set l .dead⟩) := rfl
end
section
variable {R : Rec} {F : List AV} {H : xAc} {s : St}
def yF3 : Option (AV × xAc) → Option (AV × List Blk)
 | some (r,H') => (xCE H' r).map fun (v,B) => (v,B.map (·.2))
 | none => none
theorem xHZ (r : AV) (H' : xAc) : yF3 (some (r,H')) = (xCE H' r).map fun (v,B) => (v,B.map (·.2)) := rfl
def ocK (H : xAc) (ids : List Nat) : Option (AV × List Blk) → Option (AV × xAc)
 | some (v,B) => some (xB4 H.length v,fzIds H ids ++ B)
 | none => none
def xXx (R : Rec) (f : Nat) (H : xAc) (ids : List Nat) : Option (List AV) → Option (AV × xAc)
 | some args' => ocK H ids (xEm R f args')
 | none => none
theorem xTv (f : Nat) (args : List Arg) : xAb R F H (.ocall f args) = xXx R f H ((args.map (opv F)).flatMap (bor frzN H)) ((args.map (opv F)).mapM (frz frzN H)) := by
 simp only [xAb,xXx]
 cases (args.map (opv F)).mapM (frz frzN H) with
 | none => rfl
 | some args' =>
  simp only [ocK]
  cases xEm R f args' <;> rfl
theorem xH0 (f : Nat) (ids : List Nat) (args' : List AV) : xXx R f H ids (some args') = ocK H ids (xEm R f args') := rfl
theorem xTw (ids : List Nat) (v : AV) (B : List Blk) : ocK H ids (some (v,B)) = some (xB4 H.length v,fzIds H ids ++ B) := rfl
def yHf (H : xAc) (ids : List Nat) : Option (AV × xAc) → Option (AV × xAc)
 | some (v,B) => some (xB4 H.length v,fzIds H ids ++ B.map (xAP H.length))
 | none => none
def xQS (R : Rec) (f : Nat) (H : xAc) (ids : List Nat) : Option (List AV) → Option (AV × xAc)
 | some args' => yHf H ids (xAL R f args')
 | none => none
theorem xDs (f : Nat) (args : List Arg) : xAb R F H (.ocallw f args) = xQS R f H ((args.map (opv F)).flatMap (bor frzN H)) ((args.map (opv F)).mapM (frz frzN H)) := by
 simp only [xAb,xQS]
 cases (args.map (opv F)).mapM (frz frzN H) with
 | none => rfl
 | some args' =>
  simp only [yHf]
  cases xAL R f args' <;> rfl
theorem xBZ (f : Nat) (ids : List Nat) (args' : List AV) : xQS R f H ids (some args') = yHf H ids (xAL R f args') := rfl
theorem xDt (ids : List Nat) (v : AV) (B : xAc) : yHf H ids (some (v,B)) = some (xB4 H.length v,fzIds H ids ++ B.map (xAP H.length)) := rfl
theorem xA1 {f : Nat} {args : List AV} {v : AV} {B : xAc} (h : R.icall (.func f []) args [] = some (v,B)) (h1 : xVB v = true) : xAL R f args = some (v,B) := by
 unfold xAL
 rw [h]
 exact if_pos h1
def t1B (z : Bool) (id off n es : Nat) (B : List (Nat × Blk)) : Option Blk → Option (AV × List (Nat × Blk))
 | some (.cells false z' cs) => if cs.all xAX = true then some (.own z B.length off n es,B ++ [(id,.cells false z' cs)]) else none
 | _ => none
def t1I (z : Bool) (id off n es : Nat) (B : List (Nat × Blk)) (b : Option Blk) : Option Nat → Option (AV × List (Nat × Blk))
 | some k => some (.own z k off n es,B)
 | none => t1B z id off n es B b
theorem xPp (H : xAc) (z : Bool) (id off n es : Nat) (B : List (Nat × Blk)) : xEb H (.own z id off n es) B = t1I z id off n es B H[id]? (B.findIdx? (fun p => p.1 == id)) := by
 simp only [xEb,t1I]
 cases B.findIdx? (fun p => p.1 == id) with
 | some k => rfl
 | none =>
  simp only [t1B]
  cases H[id]? with
  | none => rfl
  | some b => cases b with
   | cells fz z' cs => cases fz <;> rfl
   | _ => rfl
theorem xXy (z : Bool) (id off n es : Nat) (B : List (Nat × Blk)) (b : Option Blk) (k : Nat) : t1I z id off n es B b (some k) = some (.own z k off n es,B) := rfl
theorem xXz (z : Bool) (id off n es : Nat) (B : List (Nat × Blk)) (z' : Bool) (cs : List AV) : t1I z id off n es B (some (.cells false z' cs)) none = if cs.all xAX = true then some (.own z B.length off n es,B ++ [(id,.cells false z' cs)]) else none := rfl
theorem xPq (H : xAc) (k : IntKind) (n : Int) (B : List (Nat × Blk)) : xEb H (.int k n) B = some (.int k n,B) := rfl
theorem xKK (H : xAc) (b : Bool) (B : List (Nat × Blk)) : xEb H (.bool b) B = some (.bool b,B) := rfl
theorem xTx (H : xAc) (z : Bool) (n : Nat) (cs : List AV) (B : List (Nat × Blk)) : xEb H (.sl z n cs) B = some (.sl z n cs,B) := rfl
theorem xPr (H : xAc) (b : ByteArray) (B : List (Nat × Blk)) : xEb H (.str b) B = some (.str b,B) := rfl
def tkL (H : xAc) (vs : List AV) : Option (AV × List (Nat × Blk)) → Option (List AV × List (Nat × Blk))
 | some (v',B') => (xIO H vs B').map fun (vs',B2) => (v' :: vs',B2)
 | none => none
theorem xPs (H : xAc) (B : List (Nat × Blk)) : xIO H [] B = some ([],B) := rfl
theorem xKL (H : xAc) (v : AV) (vs : List AV) (B : List (Nat × Blk)) : xIO H (v :: vs) B = tkL H vs (xEb H v B) := by
 simp only [xIO,tkL]
 cases xEb H v B <;> rfl
theorem xTy (H : xAc) (vs : List AV) (v' : AV) (B' : List (Nat × Blk)) : tkL H vs (some (v',B')) = (xIO H vs B').map fun (vs',B2) => (v' :: vs',B2) := rfl
theorem xPt (H : xAc) (cs : List AV) (B : List (Nat × Blk)) : xFf H (.agg cs) B = if cs.all AV.isCell = true then (xIO H cs B).map fun (cs',B') => (.agg cs',B') else none := rfl
theorem xPu (H : xAc) (z : Bool) (id off n es : Nat) (B : List (Nat × Blk)) : xFf H (.own z id off n es) B = xEb H (.own z id off n es) B := rfl
theorem xPv (H : xAc) (k : IntKind) (n : Int) (B : List (Nat × Blk)) : xFf H (.int k n) B = some (.int k n,B) := rfl
theorem xKM (H : xAc) (b : Bool) (B : List (Nat × Blk)) : xFf H (.bool b) B = some (.bool b,B) := rfl
theorem xTz (H : xAc) (z : Bool) (n : Nat) (cs : List AV) (B : List (Nat × Blk)) : xFf H (.sl z n cs) B = some (.sl z n cs,B) := rfl
def yH9 (H : xAc) (vs : List AV) : Option (AV × List (Nat × Blk)) → Option (List AV × List (Nat × Blk))
 | some (v',B') => (xDK H vs B').map fun (vs',B2) => (v' :: vs',B2)
 | none => none
theorem xKN (H : xAc) (B : List (Nat × Blk)) : xDK H [] B = some ([],B) := rfl
theorem xH1 (H : xAc) (v : AV) (vs : List AV) (B : List (Nat × Blk)) : xDK H (v :: vs) B = yH9 H vs (xFf H v B) := by
 simp only [xDK,yH9]
 cases xFf H v B <;> rfl
theorem xPw (H : xAc) (vs : List AV) (v' : AV) (B' : List (Nat × Blk)) : yH9 H vs (some (v',B')) = (xDK H vs B').map fun (vs',B2) => (v' :: vs',B2) := rfl
theorem xH2 (H : xAc) (vs : List AV) : xCE H (.tup vs) = (xDK H vs []).map fun (vs',B) => (.tup vs',B) := rfl
theorem xH3 (H : xAc) (cs : List AV) : xCE H (.agg cs) = xFf H (.agg cs) [] := rfl
theorem xH4 (H : xAc) (z : Bool) (id off n es : Nat) : xCE H (.own z id off n es) = xEb H (.own z id off n es) [] := rfl
theorem xKO (H : xAc) (z : Bool) (n : Nat) (cs : List AV) : xCE H (.sl z n cs) = some (.sl z n cs,[]) := rfl
theorem xPx {α : Type} (p : α → Bool) : ([] : List α).findIdx? p = none := rfl
theorem xKP {α : Type} (p : α → Bool) (a : α) (l : List α) : (a :: l).findIdx? p = if p a = true then some 0 else (l.findIdx? p).map (· + 1) := by
 rw [List.findIdx?_cons]
def xXA (R : Rec) (als : List (Nat × Nat)) (ls : List (Nat × Nat × Nat × Nat)) (m : Nat) (ops : List AOper) : Option (St × List Pr) → Option (AExit × St)
 | some (s,pl) => xCm ls (xAA R (ops.drop m) (xBe als pl s))
 | none => none
theorem xPy (als : List (Nat × Nat)) (ls : List (Nat × Nat × Nat × Nat)) (m : Nat) (ops : List AOper) : run R (.drawp als ls m ops) s = xXA R als ls m ops (xAC R (ops.take m) s) := by
 simp only [run,xXA]
 cases xAC R (ops.take m) s with
 | none => rfl
 | some r =>
  obtain ⟨s1,pl⟩ := r
  simp only [xCm]
  cases xAA R (ops.drop m) (xBe als pl s1) <;> rfl
theorem xH5 (als : List (Nat × Nat)) (ls : List (Nat × Nat × Nat × Nat)) (m : Nat) (ops : List AOper) (s : St) (pl : List Pr) : xXA R als ls m ops (some (s,pl)) = xCm ls (xAA R (ops.drop m) (xBe als pl s)) := rfl
theorem xKQ (pl : List Pr) (s : St) : xBe [] pl s = adoptL pl s := rfl
def alK (als : List (Nat × Nat)) : St → St
 | ⟨F,H⟩ => ⟨xBx als F,H⟩
theorem xH6 (p : Nat × Nat) (r : List (Nat × Nat)) (pl : List Pr) (s : St) : xBe (p :: r) pl s = alK (p :: r) (adoptL pl s) := rfl
theorem yDb (als : List (Nat × Nat)) (F : List AV) (H : xAc) : alK als ⟨F,H⟩ = ⟨xBx als F,H⟩ := rfl
theorem xKR (F : List AV) : xBx [] F = F := rfl
theorem xH7 (d q : Nat) (r : List (Nat × Nat)) (F : List AV) : xBx ((d,q) :: r) F = xBx r (F.set d (F.getD q .any)) := rfl
def xXB (e : Pr) : Option (St × List Pr) → Option (St × List Pr)
 | some (s,l) => some (s,e :: l)
 | none => none
theorem xKS (e : Pr) (s : St) (l : List Pr) : xXB e (some (s,l)) = some (s,e :: l) := rfl
def xXC (R : Rec) (rest : List AOper) (s : St) : Option Nat → Option (AV × List Blk) → Option (St × List Pr)
 | some t,some (v,B) => xXB (some (t,v,B)) (xAC R rest ⟨s.F.set t .any,s.H⟩)
 | _,_ => none
def xXD (R : Rec) (rest : List AOper) : Option St → Option (St × List Pr)
 | some s => xXB none (xAC R rest s)
 | none => none
theorem xH8 : xAC R [] s = some (s,[]) := rfl
theorem xGd (o : AOper) (rest : List AOper) : xAC R (o :: rest) s = if xAz o.op = true then xXC R rest s o.dst (xCF R s.F o.op) else xXD R rest (xAH R o s) := by
 simp only [xAC]
 split
 ·cases o.dst with
  | none => rfl
  | some t => cases xCF R s.F o.op with
   | none => rfl
   | some r =>
    obtain ⟨v,B⟩ := r
    simp only [xXC]
    cases xAC R rest ⟨s.F.set t .any,s.H⟩ <;> rfl
 ·cases xAH R o s with
  | none => rfl
  | some s1 =>
   simp only [xXD]
   cases xAC R rest s1 <;> rfl
theorem xH9 (rest : List AOper) (t : Nat) (v : AV) (B : List Blk) : xXC R rest s (some t) (some (v,B)) = xXB (some (t,v,B)) (xAC R rest ⟨s.F.set t .any,s.H⟩) := rfl
theorem xIa (rest : List AOper) (s : St) : xXD R rest (some s) = xXB none (xAC R rest s) := rfl
def yDV : Option (AV × xAc) → Option (AV × List Blk)
 | some (v,B) => if xVB v = true ∧ xDL B = true then some (v,B) else none
 | none => none
theorem xTA (op : AOp) : xCF R F op = if op.args.all (fun x => xJt (opv F x)) = true then yDV (xAb R F [] op) else none := by
 unfold xCF yDV
 split
 ·cases xAb R F [] op <;> rfl
 ·rfl
theorem xKT (v : AV) (B : xAc) : yDV (some (v,B)) = if xVB v = true ∧ xDL B = true then some (v,B) else none := rfl
theorem xGe (f : Nat) (as : List Arg) : xAz (.ocall f as) = true := rfl
theorem xKU (x : Arg) : xAz (.box x) = true := rfl
theorem xIb (z : List AV) (b : Nat) (x y : Arg) : xAz (.mkslice false z b x y) = true := rfl
theorem xIc (z : List AV) (b : Nat) (x y : Arg) : xAz (.mkslice true z b x y) = false := rfl
theorem xId (z : List AV) (es n : Nat) (ps : List (Nat × Arg)) : xAz (.bslice false z es n ps) = true := rfl
theorem xIe (z : List AV) (es n : Nat) (ps : List (Nat × Arg)) : xAz (.bslice true z es n ps) = false := rfl
theorem xIf (es b : Nat) (x y : Arg) : xAz (.append false es b x y) = true := rfl
theorem xIg (es b : Nat) (x y : Arg) : xAz (.append true es b x y) = false := rfl
theorem xIh (z : List AV) (b : Nat) (x y : Arg) : xAz (.appendz z b x y) = true := rfl
theorem xKV (x : Arg) : xAz (.mov x) = false := rfl
theorem xIi (x y z : Arg) : xAz (.pick x y z) = false := rfl
theorem xGf (z : List AV) (ps : List (Nat × Nat × Arg)) : xAz (.build z ps) = false := rfl
theorem xIj (g : Bool) (n : Nat) (x : Arg) : xAz (.load g n x) = false := rfl
theorem xEZ (x : Arg) : xAz (.nilchk x) = false := rfl
theorem xKW (op : BinOp) (x y : Arg) : xAz (.bin op x y) = false := rfl
theorem xKX (g : Bool) (x y : Arg) : xAz (.beq g x y) = false := rfl
theorem xGg (g : Bool) (x : Arg) : xAz (.isnil g x) = false := rfl
theorem xPz (op : UnOp) (x : Arg) : xAz (.un op x) = false := rfl
theorem xIk (k : IntKind) (x : Arg) : xAz (.conv k x) = false := rfl
theorem xE0 (f : Nat) (as : List Arg) : xAz (.mkfunc f as) = false := rfl
theorem xGh (es : Nat) (x : Arg) (a b c : Option Arg) : xAz (.slice es x a b c) = false := rfl
theorem xGi (o : Nat) (x : Arg) : xAz (.faddr o x) = false := rfl
theorem xGj (g : Bool) (o n : Nat) (x : Arg) : xAz (.field g o n x) = false := rfl
theorem xGk (es : Nat) (x i : Arg) : xAz (.iaddr es x i) = false := rfl
theorem xKY (i : Nat) (x : Arg) : xAz (.ext i x) = false := rfl
theorem xKZ (x : Arg) : xAz (.len x) = false := rfl
theorem xK0 (x : Arg) : xAz (.cap x) = false := rfl
theorem xK1 (g : Bool) (n : Nat) (x y : Arg) : xAz (.aeq g n x y) = false := rfl
theorem xIl (f : Nat) (as : List Arg) : xAz (.call f as) = false := rfl
theorem xGl (f : Arg) (as : List Arg) : xAz (.fcall f as) = false := rfl
theorem xIm (x y : Arg) : xAz (.maxi x y) = false := rfl
theorem xIn (x y : Arg) : xAz (.mini x y) = false := rfl
theorem xIo : xDL [] = true := rfl
theorem xGm (z : Bool) (cs : List AV) (B : List Blk) : xDL (.cells false z cs :: B) = (cs.all xAX && xDL B) := rfl
theorem xL0 {α : Type} {f : α → AV} (h : ∀ a,xAX (f a) = true) (l : List α) : (l.map f).all xAX = true := by
 simp [List.all_eq_true,h]
end
section
variable {R : Rec} {F : List AV} {H : xAc}
def yHg (g : Bool) (es len : Nat) : AV → AV → Option AV
 | .agg cs,.int _ i => if 0 ≤ i ∧ i.toNat < len ∧ i.toNat * es + es ≤ cs.length then mkv g ((cs.drop (i.toNat * es)).take es) else none
 | _,_ => none
theorem xTB {g : Bool} {es len : Nat} {cs : List AV} {k : IntKind} {i : Int} (h0 : 0 ≤ i) (h : i < len) (h2 : i.toNat * es + es ≤ cs.length) : yHg g es len (.agg cs) (.int k i) = mkv g ((cs.drop (i.toNat * es)).take es) := if_pos ⟨h0,by omega,h2⟩
theorem yDc (g : Bool) (es len : Nat) (x i : Arg) : xAb R F H (.idx g es len x i) = xCn H (yHg g es len (opv F x) (opv F i)) := by
 simp only [xAb]
 cases opv F x with
 | agg cs => cases opv F i with
  | int k n =>
   by_cases h0 : 0 ≤ n
   ·have e : xA9 (.int k n) = some n.toNat := by simp [xA9,h0]
    simp only [e,yHg,h0,true_and]
    by_cases c : n.toNat < len ∧ n.toNat * es + es ≤ cs.length
    ·rw [if_pos c,if_pos c]
     cases mkv g ((cs.drop (n.toNat * es)).take es) <;> rfl
    ·rw [if_neg c,if_neg c]; rfl
   ·have e : xA9 (.int k n) = none := by simp [xA9,h0]
    simp only [e,yHg,h0,false_and,if_false,xCn]
  | _ => rfl
 | _ => rfl
def xIp (es len : Nat) : AV → AV → Option AV
 | .ptr id off,.int _ i => if 0 ≤ i ∧ i.toNat < len then some (.ptr id (off + i.toNat * es)) else none
 | .vptr cs off,.int _ i => if 0 ≤ i ∧ i.toNat < len then some (.vptr cs (off + i.toNat * es)) else none
 | _,_ => none
theorem xK2 {es len id off : Nat} {k : IntKind} {i : Int} (h0 : 0 ≤ i) (h : i < len) : xIp es len (.ptr id off) (.int k i) = some (.ptr id (off + i.toNat * es)) := if_pos ⟨h0,by omega⟩
theorem xIq {es len off : Nat} {cs : List AV} {k : IntKind} {i : Int} (h0 : 0 ≤ i) (h : i < len) : xIp es len (.vptr cs off) (.int k i) = some (.vptr cs (off + i.toNat * es)) := if_pos ⟨h0,by omega⟩
theorem xTC (es len : Nat) (x i : Arg) : xAb R F H (.arrat es len x i) = xCn H (xIp es len (opv F x) (opv F i)) := by
 simp only [xAb]
 cases opv F x with
 | ptr id off => cases opv F i with
  | int k n =>
   by_cases h0 : 0 ≤ n
   ·have e : xA9 (.int k n) = some n.toNat := by simp [xA9,h0]
    simp only [e,xIp,h0,true_and]
    by_cases c : n.toNat < len
    ·rw [if_pos c,if_pos c]; rfl
    ·rw [if_neg c,if_neg c]; rfl
   ·have e : xA9 (.int k n) = none := by simp [xA9,h0]
    simp only [e,xIp,h0,false_and,if_false,xCn]
  | _ => rfl
 | vptr cs off => cases opv F i with
  | int k n =>
   by_cases h0 : 0 ≤ n
   ·have e : xA9 (.int k n) = some n.toNat := by simp [xA9,h0]
    simp only [e,xIp,h0,true_and]
    by_cases c : n.toNat < len
    ·rw [if_pos c,if_pos c]; rfl
    ·rw [if_neg c,if_neg c]; rfl
   ·have e : xA9 (.int k n) = none := by simp [xA9,h0]
    simp only [e,xIp,h0,false_and,if_false,xCn]
  | _ => rfl
 | _ => rfl
def yAD (es len : Nat) : Option (List AV) → AV → Option AV
 | some cs,.int _ i => if 0 ≤ i ∧ i.toNat < len then some (.vptr cs (i.toNat * es)) else none
 | _,_ => none
theorem xK3 {es len : Nat} {cs : List AV} {k : IntKind} {i : Int} (h0 : 0 ≤ i) (h : i < len) : yAD es len (some cs) (.int k i) = some (.vptr cs (i.toNat * es)) := if_pos ⟨h0,by omega⟩
theorem xXE (b es len : Nat) (i : Arg) : xAb R F H (.garr b es len i) = xCn H (yAD es len (xU6 b) (opv F i)) := by
 simp only [xAb]
 cases xU6 b with
 | none => rfl
 | some cs => cases opv F i with
  | int k n =>
   by_cases h0 : 0 ≤ n
   ·have e : xA9 (.int k n) = some n.toNat := by simp [xA9,h0]
    simp only [e,yAD,h0,true_and]
    by_cases c : n.toNat < len
    ·rw [if_pos c,if_pos c]; rfl
    ·rw [if_neg c,if_neg c]; rfl
   ·have e : xA9 (.int k n) = none := by simp [xA9,h0]
    simp only [e,yAD,h0,false_and,if_false,xCn]
  | _ => rfl
def yF4 : AV → Option AV
 | .str s => some (.int .i64 s.size)
 | _ => none
theorem xPA (s : ByteArray) : yF4 (.str s) = some (.int .i64 s.size) := rfl
theorem xXF (x : Arg) : xAb R F H (.slen x) = xCn H (yF4 (opv F x)) := by
 simp only [xAb]
 cases opv F x <;> rfl
theorem yDd (g : Bool) (es len : Nat) (x i : Arg) : xAJ R F H (.idx g es len x i) = xDl H (xAb R F H (.idx g es len x i)) := xBM _ rfl
theorem xTD (es len : Nat) (x i : Arg) : xAJ R F H (.arrat es len x i) = xDl H (xAb R F H (.arrat es len x i)) := xBM _ rfl
theorem xXG (b es len : Nat) (i : Arg) : xAJ R F H (.garr b es len i) = xDl H (xAb R F H (.garr b es len i)) := xBM _ rfl
theorem xXH (x : Arg) : xAJ R F H (.slen x) = xDl H (xAb R F H (.slen x)) := xBM _ rfl
end
end Go.Abs
