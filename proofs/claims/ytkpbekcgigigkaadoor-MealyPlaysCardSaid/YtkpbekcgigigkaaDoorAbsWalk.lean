/- The interpreter's equations in the form that simp walks by: one equation for each construct,told apart by what has been computed already. -/
import Derived.Test.YtkpbekcgigigkaaDoorAbsLim
namespace Go.Abs
set_option linter.unusedVariables false
set_option linter.unusedSimpArgs false
theorem xDW : ∀ (scr : List Nat) (F : List AV) (i : Nat),(xAG scr F)[i]? = if i ∈ scr then (F[i]?).map (fun _ => AV.any) else F[i]?
  | [],F,i => by simp [xAG]
  | j :: scr,F,i => by
    have := xDW scr (F.set j .any) i
    simp only [xAG,List.foldl_cons] at this ⊢
    rw [this]
    by_cases h : i = j
    · subst h
      simp only [List.getElem?_set_self',List.mem_cons,true_or,if_true]
      cases F[i]? <;> simp
    · have h' : ¬ j = i := fun e => h e.symm
      simp [List.getElem?_set,h,h']
theorem xOy (scr : List Nat) (F : List AV) : xAG scr (xAG scr F) = xAG scr F := by
  apply List.ext_getElem?
  intro i
  rw [xDW,xDW]
  split
  · cases F[i]? <;> rfl
  · rfl
section
variable {prog : Nat → Option AFunc}
theorem xS2 (prog : Nat → Option AFunc) (n : Nat) : Tends (fix prog n) (fun _ => lim prog) :=
  ⟨fun f a v h => .all fun _ => xEd ((xEr prog n).pcall f a v h),fun f a H v h => .all fun _ => xEd ((xEr prog n).icall f a H v h),fun scr b s v h => .all fun _ => xEd ((xEr prog n).loop scr b s v h)⟩
theorem Ev.const {p : Prop} (h : Ev fun _ => p) : p := let ⟨n,hn⟩ := h; hn n (Nat.le_refl n)
theorem xS3 {α : Type} {a b : Option α} (h1 : ∀ v,a = some v → b = some v) (h2 : ∀ v,b = some v → a = some v) : a = b := by
  cases a with
  | some v => exact (h1 v rfl).symm
  | none =>
    cases b with
    | none => rfl
    | some v => exact h2 v rfl
theorem xAn {f : Nat} {fn : AFunc} (hf : prog f = some fn) (args : List AV) : (lim prog).pcall f args = xAS (lim prog) fn args := by
  refine xS3 (fun v h => ?_) (fun v h => xLq hf h)
  obtain ⟨n,hn⟩ := xB0 (p := fun m => (fix prog m).pcall f args) h
  have h1 : (xCq prog (fix prog n)).pcall f args = some v := hn (n + 1) (by omega)
  have h2 := (xBg (xS2 prog n) prog).pcall f args v h1 |>.const
  simp only [xCq,hf] at h2
  exact h2
theorem xF0 (f : AV) (args : List AV) (H : Heap) : (lim prog).icall f args H = xCN prog (lim prog) f args H := by
  refine xS3 (fun v h => ?_) (fun v h => xLr h)
  obtain ⟨n,hn⟩ := xB0 (p := fun m => (fix prog m).icall f args H) h
  have h1 : (xCq prog (fix prog n)).icall f args H = some v := hn (n + 1) (by omega)
  exact (xBg (xS2 prog n) prog).icall f args H v h1 |>.const
theorem xEl (scr : List Nat) (b : ACode) (s : St) : (lim prog).loop scr b s = xG6 (lim prog) scr b s := by
  refine xS3 (fun v h => ?_) (fun v h => xOS h)
  obtain ⟨n,hn⟩ := xB0 (p := fun m => (fix prog m).loop scr b s) h
  have h1 : (xCq prog (fix prog n)).loop scr b s = some v := hn (n + 1) (by omega)
  exact (xBg (xS2 prog n) prog).loop scr b s v h1 |>.const
theorem xAD {f : Nat} {fn : AFunc} (hf : prog f = some fn) (caps args : List AV) (H : Heap) : (lim prog).icall (.func f caps) args H = xBE (lim prog) fn (args ++ caps) H := by
  rw [xF0]
  simp only [xCN,hf]
theorem xDH (l : Nat) (args : List AV) (H : Heap) : (lim prog).icall (.yield l) args H = xEG (lim prog) l args H := by
  rw [xF0]
  rfl
theorem xEa (scr : List Nat) (b : ACode) (F : List AV) (H : Heap) : (lim prog).loop scr b ⟨F,H⟩ = (lim prog).loop scr b ⟨xAG scr F,H⟩ := by
  rw [xEl,xEl]
  unfold xG6
  simp only [xOy]
def xBG (R : Rec) (scr : List Nat) (b : ACode) : Option (AExit × St) → Option (AExit × St)
  | some (.normal,s) => R.loop scr b ⟨xAG scr s.F,s.H⟩
  | some (e,s) => some (e,⟨xAG scr s.F,s.H⟩)
  | none => none
theorem xAo (scr : List Nat) (b : ACode) (F : List AV) (H : Heap) (h : xAG scr F = F) : (lim prog).loop scr b ⟨F,H⟩ = xBG (lim prog) scr b (run (lim prog) b ⟨F,H⟩) := by
  rw [xEl]
  unfold xG6 xBG
  simp only [h]
  split
  · rename_i s' hs
    rw [hs]
    exact xEa scr b s'.F s'.H
  · rename_i e s' hne hs
    rw [hs]
    cases e with
    | normal => exact (hne rfl).elim
    | exit i => rfl
    | ret => rfl
  · rename_i hs
    rw [hs]
theorem xPn (scr : List Nat) (b : ACode) (F : List AV) (H : Heap) : run (lim prog) (.loop scr b) ⟨F,H⟩ = (lim prog).loop scr b ⟨xAG scr F,H⟩ := xEa scr b F H
end
section
variable {R : Rec} {F : List AV} {H : Heap} {s : St}
def xV1 (R : Rec) (b : ACode) : Option (AExit × St) → Option (AExit × St)
  | some (.normal,s) => run R b s
  | r => r
theorem xS4 (a b : ACode) : run R (.seq a b) s = xV1 R b (run R a s) := by
  simp only [run,xV1]
  split <;> simp_all
theorem xHg (b : ACode) (s : St) : xV1 R b (some (.normal,s)) = run R b s := rfl
theorem xMy (b : ACode) (i : Nat) (s : St) : xV1 R b (some (.exit i,s)) = some (.exit i,s) := rfl
theorem xPo (b : ACode) (s : St) : xV1 R b (some (.ret,s)) = some (.ret,s) := rfl
theorem xMz (b : ACode) : xV1 R b none = none := rfl
theorem xPp (b : ACode) {c : Prop} [Decidable c] (x y : Option (AExit × St)) : xV1 R b (if c then x else y) = if c then xV1 R b x else xV1 R b y := by split <;> rfl
def xYn (R : Rec) (a b : ACode) (s : St) : AV → Option (AExit × St)
  | .bool t => if t = true then run R a s else run R b s
  | _ => none
theorem xPq (c : Arg) (a b : ACode) (F : List AV) (H : Heap) : run R (.cond c a b) ⟨F,H⟩ = xYn R a b ⟨F,H⟩ (opv F c) := by
  simp only [run,xYn]
  split <;> simp_all
theorem xJk (a b : ACode) (t : Bool) : xYn R a b s (.bool t) = if t = true then run R a s else run R b s := rfl
def xES (id : Nat) : Option (AExit × St) → Option (AExit × St)
  | some (.exit i,s) => if i = id then some (.normal,s) else some (.exit i,s)
  | r => r
theorem xMA (id : Nat) (b : ACode) : run R (.block id b) s = xES id (run R b s) := by
  simp only [run,xES]
  split <;> simp_all
theorem xHh (id i : Nat) (s : St) : xES id (some (.exit i,s)) = if i = id then some (.normal,s) else some (.exit i,s) := rfl
theorem xET (id : Nat) (s : St) : xES id (some (.normal,s)) = some (.normal,s) := rfl
theorem xJl (id : Nat) (s : St) : xES id (some (.ret,s)) = some (.ret,s) := rfl
theorem xHi (id : Nat) : xES id none = none := rfl
theorem xJm (id : Nat) {c : Prop} [Decidable c] (x y : Option (AExit × St)) : xES id (if c then x else y) = if c then xES id x else xES id y := by split <;> rfl
theorem xF1 (scr : List Nat) (b : ACode) (F : List AV) (H : Heap) : xBG R scr b (some (.normal,⟨F,H⟩)) = R.loop scr b ⟨xAG scr F,H⟩ := rfl
theorem xJn (scr : List Nat) (b : ACode) (i : Nat) (F : List AV) (H : Heap) : xBG R scr b (some (.exit i,⟨F,H⟩)) = some (.exit i,⟨xAG scr F,H⟩) := rfl
theorem xMB (scr : List Nat) (b : ACode) (F : List AV) (H : Heap) : xBG R scr b (some (.ret,⟨F,H⟩)) = some (.ret,⟨xAG scr F,H⟩) := rfl
theorem xMC (scr : List Nat) (b : ACode) {c : Prop} [Decidable c] (x y : Option (AExit × St)) : xBG R scr b (if c then x else y) = if c then xBG R scr b x else xBG R scr b y := by split <;> rfl
def xVa : Option St → Option (AExit × St)
  | some s => some (.normal,s)
  | none => none
theorem xMD (s : St) : xVa (some s) = some (.normal,s) := rfl
theorem xME : xVa none = none := rfl
theorem xPr {c : Prop} [Decidable c] (x y : Option St) : xVa (if c then x else y) = if c then xVa x else xVa y := by split <;> rfl
theorem xJo (ops : List AOper) : run R (.region ops) s = xVa (xAz R ops s) := by
  simp only [run,xVa]
  cases xAz R ops s <;> rfl
theorem xPs : run R .skip s = some (.normal,s) := rfl
theorem xMF : run R .label s = some (.normal,s) := rfl
theorem xPt (i : Nat) : run R (.exit i) s = some (.exit i,s) := rfl
theorem xS5 : run R .ret s = some (.ret,s) := rfl
theorem xMG (b : ACode) : run R (.scope b) s = run R b s := rfl
theorem xMH : run R .stuck s = none := rfl
def xYo (R : Rec) (rest : List AOper) : Option St → Option St
  | some s => xAz R rest s
  | none => none
theorem xJp : xAz R [] s = some s := rfl
theorem xHj (o : AOper) (rest : List AOper) : xAz R (o :: rest) s = xYo R rest (xAN R o s) := by
  simp only [xAz,xYo]
  cases xAN R o s <;> rfl
theorem xMI (rest : List AOper) (s : St) : xYo R rest (some s) = xAz R rest s := rfl
theorem xMJ (rest : List AOper) : xYo R rest none = none := rfl
theorem xPu (rest : List AOper) {c : Prop} [Decidable c] (x y : Option St) : xYo R rest (if c then x else y) = if c then xYo R rest x else xYo R rest y := by split <;> rfl
def xS6 (F : List AV) (d : Option Nat) : Option (AV × Heap) → Option St
  | some (v,H) => some ⟨putA F d v,H⟩
  | none => none
theorem xS7 (d : Nat) (v : AV) : xS6 F (some d) (some (v,H)) = some ⟨F.set d v,H⟩ := rfl
theorem xS8 (v : AV) : xS6 F none (some (v,H)) = some ⟨F,H⟩ := rfl
theorem xMK (d : Option Nat) : xS6 F d none = none := rfl
theorem xPv (d : Option Nat) {c : Prop} [Decidable c] (x y : Option (AV × Heap)) : xS6 F d (if c then x else y) = if c then xS6 F d x else xS6 F d y := by split <;> rfl
theorem xML (d : Option Nat) (op : AOp) : xAN R ⟨d,op,none⟩ ⟨F,H⟩ = xS6 F d (xAb R F H op) := by
  simp only [xAN,xBM,xS6]
  cases xAb R F H op <;> rfl
def xPw (R : Rec) (d : Option Nat) (op : AOp) (w : Bool) (F : List AV) (H : Heap) : AV → Option St
  | .bool b => if b = w then xS6 F d (xAb R F H op) else some ⟨putA F d (.tup []),H⟩
  | .any => none
  | _ => some ⟨putA F d (.tup []),H⟩
theorem xJq (d : Option Nat) (op : AOp) (t : Nat) (w : Bool) : xAN R ⟨d,op,some (t,w)⟩ ⟨F,H⟩ = xPw R d op w F H (F.getD t .any) := by
  simp only [xAN,xBM,xPw]
  cases F.getD t .any with
  | bool b =>
    cases b <;> cases w <;> simp [xS6] <;> cases xAb R F H op <;> rfl
  | _ => rfl
theorem xHk (d : Option Nat) (op : AOp) (w b : Bool) : xPw R d op w F H (.bool b) = if b = w then xS6 F d (xAb R F H op) else some ⟨putA F d (.tup []),H⟩ := rfl
theorem xJr (d : Option Nat) (op : AOp) (w : Bool) (vs : List AV) : xPw R d op w F H (.tup vs) = some ⟨putA F d (.tup []),H⟩ := rfl
theorem xS9 (d : Nat) (v : AV) : putA F (some d) v = F.set d v := rfl
theorem xTa (v : AV) : putA F none v = F := rfl
def xOz (R : Rec) (m : Nat) (ops : List AOper) : Option St → Option (AExit × St)
  | some s => xVa (xAz R (ops.drop m) (adopt (ops.take m) s))
  | none => none
theorem xPx (m : Nat) (ops : List AOper) : run R (.draw m ops) s = xOz R m ops (xA1 R (ops.take m) s) := by
  simp only [run,xOz]
  cases xA1 R (ops.take m) s with
  | none => rfl
  | some s1 =>
    simp only [xVa]
    cases xAz R (ops.drop m) (adopt (ops.take m) s1) <;> rfl
theorem xJs (m : Nat) (ops : List AOper) (s : St) : xOz R m ops (some s) = xVa (xAz R (ops.drop m) (adopt (ops.take m) s)) := rfl
theorem xJt (m : Nat) (ops : List AOper) : xOz R m ops none = none := rfl
theorem xMM (m : Nat) (ops : List AOper) {c : Prop} [Decidable c] (x y : Option St) : xOz R m ops (if c then x else y) = if c then xOz R m ops x else xOz R m ops y := by split <;> rfl
def xDI (ls : List (Nat × Nat × Nat × Nat)) : Option St → Option (AExit × St)
  | some s => if ls.all (apart s.F) = true then some (.normal,s) else none
  | none => none
def xHl (R : Rec) (ls : List (Nat × Nat × Nat × Nat)) (m : Nat) (ops : List AOper) : Option St → Option (AExit × St)
  | some s => xDI ls (xAz R (ops.drop m) (adopt (ops.take m) s))
  | none => none
theorem xMN (ls : List (Nat × Nat × Nat × Nat)) (m : Nat) (ops : List AOper) : run R (.drawl ls m ops) s = xHl R ls m ops (xA1 R (ops.take m) s) := by
  simp only [run,xHl]
  cases xA1 R (ops.take m) s with
  | none => rfl
  | some s1 =>
    simp only [xDI]
    cases xAz R (ops.drop m) (adopt (ops.take m) s1) <;> rfl
theorem xHm (ls : List (Nat × Nat × Nat × Nat)) (m : Nat) (ops : List AOper) (s : St) : xHl R ls m ops (some s) = xDI ls (xAz R (ops.drop m) (adopt (ops.take m) s)) := rfl
theorem xHn (ls : List (Nat × Nat × Nat × Nat)) (m : Nat) (ops : List AOper) : xHl R ls m ops none = none := rfl
theorem xJu (ls : List (Nat × Nat × Nat × Nat)) (m : Nat) (ops : List AOper) {c : Prop} [Decidable c] (x y : Option St) : xHl R ls m ops (if c then x else y) = if c then xHl R ls m ops x else xHl R ls m ops y := by split <;> rfl
theorem xHo (ls : List (Nat × Nat × Nat × Nat)) (s : St) : xDI ls (some s) = if ls.all (apart s.F) = true then some (.normal,s) else none := rfl
theorem xHp (ls : List (Nat × Nat × Nat × Nat)) : xDI ls none = none := rfl
theorem xJv (ls : List (Nat × Nat × Nat × Nat)) {c : Prop} [Decidable c] (x y : Option St) : xDI ls (if c then x else y) = if c then xDI ls x else xDI ls y := by split <;> rfl
def xOA (R : Rec) (rest : List AOper) : Option St → Option St
  | some s => xA1 R rest s
  | none => none
theorem xHq : xA1 R [] s = some s := rfl
theorem xF2 (o : AOper) (rest : List AOper) : xA1 R (o :: rest) s = xOA R rest (xAK R o s) := by
  simp only [xA1,xOA]
  cases xAK R o s <;> rfl
theorem xJw (rest : List AOper) (s : St) : xOA R rest (some s) = xA1 R rest s := rfl
theorem xJx (rest : List AOper) : xOA R rest none = none := rfl
theorem xMO (rest : List AOper) {c : Prop} [Decidable c] (x y : Option St) : xOA R rest (if c then x else y) = if c then xOA R rest x else xOA R rest y := by split <;> rfl
def xHr (F : List AV) (d : Option Nat) (H : Heap) : Option (AV × Heap) → Option St
  | some (v,_) => some ⟨putA F d v,H⟩
  | none => none
theorem xPy (d : Nat) (v : AV) (H' : Heap) : xHr F (some d) H (some (v,H')) = some ⟨F.set d v,H⟩ := rfl
theorem xPz (v : AV) (H' : Heap) : xHr F none H (some (v,H')) = some ⟨F,H⟩ := rfl
theorem xJy (d : Option Nat) : xHr F d H none = none := rfl
theorem xMP (d : Option Nat) {c : Prop} [Decidable c] (x y : Option (AV × Heap)) : xHr F d H (if c then x else y) = if c then xHr F d H x else xHr F d H y := by split <;> rfl
def xAQ (R : Rec) (F : List AV) (H : Heap) (op : AOp) : Option (AV × Heap) := (xAv R F H op).map fun v => (v,H)
theorem xJz (d : Option Nat) (op : AOp) : xAK R ⟨d,op,none⟩ ⟨F,H⟩ = xHr F d H (xAQ R F H op) := by
  simp only [xAK,xBM,xHr,xAQ]
  cases xAv R F H op <;> rfl
def xK5 (R : Rec) (d : Option Nat) (op : AOp) (w : Bool) (F : List AV) (H : Heap) : AV → Option St
  | .bool b => if b = w then xHr F d H (xAQ R F H op) else some ⟨putA F d (.tup []),H⟩
  | .any => none
  | _ => some ⟨putA F d (.tup []),H⟩
theorem xHs (d : Option Nat) (op : AOp) (t : Nat) (w : Bool) : xAK R ⟨d,op,some (t,w)⟩ ⟨F,H⟩ = xK5 R d op w F H (F.getD t .any) := by
  simp only [xAK,xBM,xK5]
  cases F.getD t .any with
  | bool b =>
    cases b <;> cases w <;> simp [xHr,xAQ] <;> cases xAv R F H op <;> rfl
  | _ => rfl
theorem xF3 (d : Option Nat) (op : AOp) (w b : Bool) : xK5 R d op w F H (.bool b) = if b = w then xHr F d H (xAQ R F H op) else some ⟨putA F d (.tup []),H⟩ := rfl
theorem xHt (d : Option Nat) (op : AOp) (w : Bool) (vs : List AV) : xK5 R d op w F H (.tup vs) = some ⟨putA F d (.tup []),H⟩ := rfl
def xC8 (H : Heap) : Option AV → Option (AV × Heap)
  | some v => some (v,H)
  | none => none
theorem xMQ (v : AV) : xC8 H (some v) = some (v,H) := rfl
theorem xMR : xC8 H none = none := rfl
theorem xPA {c : Prop} [Decidable c] (x y : Option AV) : xC8 H (if c then x else y) = if c then xC8 H x else xC8 H y := by split <;> rfl
theorem xW1 (x : Arg) : xAb R F H (.mov x) = some (opv F x,H) := rfl
def xYp : AV → AV → AV → Option AV
  | .bool t,a,b => some (if t = true then a else b)
  | _,_,_ => none
theorem xJA (t : Bool) (a b : AV) : xYp (.bool t) a b = some (if t = true then a else b) := rfl
theorem xTb (c a b : Arg) : xAb R F H (.pick c a b) = xC8 H (xYp (opv F c) (opv F a) (opv F b)) := by
  simp only [xAb,xYp,xC8]
  split <;> simp_all
theorem xW2 (x : Arg) : xAb R F H (.box x) = if (opv F x).cells.all AV.isCell = true then some (.ptr H.length 0,H ++ [.cells false false (opv F x).cells]) else none := rfl
theorem xPB (z : List AV) (parts : List (Nat × Nat × Arg)) : xAb R F H (.build z parts) =
    if parts.all (fun p => (opv F p.2.2).cells.length == p.2.1) = true then xC8 H ((fillA z (parts.map fun p => (p.1,(opv F p.2.2).cells))).map AV.agg) else none := by
  simp only [xAb,xC8]
  split
  · cases fillA z (parts.map fun p => (p.1,(opv F p.2.2).cells)) <;> rfl
  · rfl
def yBz (fz z : Bool) (n es : Nat) (H : Heap) : Option (List AV) → Option (AV × Heap)
  | some cs => xDd fz z n es cs H
  | none => none
theorem xMS (fz z : Bool) (n es : Nat) (cs : List AV) : yBz fz z n es H (some cs) = xDd fz z n es cs H := rfl
theorem xPC (z : Bool) (n es : Nat) (cs : List AV) : xDd false z n es cs H = some (.own z H.length 0 n es,H ++ [.cells false z cs]) := rfl
def slK (z : Bool) (n : Nat) : Option (List AV) → Option AV
  | some cs => some (.sl z n cs)
  | none => none
theorem xPD (z : Bool) (n : Nat) (cs : List AV) : slK z n (some cs) = some (.sl z n cs) := rfl
theorem xMT (z : Bool) (n es : Nat) (cs : List AV) : xDd true z n es cs H = if (cs.flatMap (bor frzN H)).isEmpty = true then xC8 H (slK z n (cs.mapM (frz frzN H))) else none := by
  simp only [xDd,xC8,slK]
  split
  · rename_i h
    cases cs.mapM (frz frzN H) <;> simp_all
  · simp_all
theorem xMU (fz : Bool) (z : List AV) (es n : Nat) (parts : List (Nat × Arg)) : xAb R F H (.bslice fz z es n parts) =
    if parts.all (fun p => (opv F p.2).cells.length == es) = true then yBz fz false n es H (fillA (xCD z n) (parts.map fun p => (p.1 * es,(opv F p.2).cells))) else none := by
  simp only [xAb,yBz]
  split
  · cases fillA (xCD z n) (parts.map fun p => (p.1 * es,(opv F p.2).cells)) <;> rfl
  · rfl
def xV2 (g : Bool) : Option (List AV) → Option AV
  | some cs => mkv g cs
  | none => none
theorem xTc (v : AV) : xV2 false (some [v]) = some v := rfl
theorem xTd (cs : List AV) : xV2 true (some cs) = some (.agg cs) := rfl
theorem xTe (g : Bool) (n : Nat) (p : Arg) : xAb R F H (.load g n p) = xC8 H (xV2 g (rd H (opv F p) n)) := by
  simp only [xAb,xC8,xV2]
  cases rd H (opv F p) n with
  | none => rfl
  | some cs => simp only; cases mkv g cs <;> rfl
def rdK (off n : Nat) : Option Blk → Option (List AV)
  | some (.cells _ _ cs) => if off + n ≤ cs.length then some ((cs.drop off).take n) else none
  | _ => none
theorem xW3 (id off n : Nat) : rd H (.ptr id off) n = rdK off n H[id]? := by
  simp only [rd,rdK]
  rfl
theorem xMV {off n : Nat} {fz z : Bool} {cs : List AV} (h : off + n ≤ cs.length) : rdK off n (some (.cells fz z cs)) = some ((cs.drop off).take n) := if_pos h
theorem xTf {off n : Nat} {cs : List AV} (h : off + n ≤ cs.length) : rd H (.vptr cs off) n = some ((cs.drop off).take n) := if_pos h
def wrK (H : Heap) (id off : Nat) (vs : List AV) : Option Blk → Option Heap
  | some (.cells false z cs) => if off + vs.length ≤ cs.length ∧ vs.all AV.isCell = true then some (H.set id (.cells false z (splice cs off vs))) else none
  | _ => none
theorem xW4 (id off : Nat) (vs : List AV) : wr H (.ptr id off) vs = wrK H id off vs H[id]? := by
  simp only [wr,wrK]
  rfl
theorem xMW {id off : Nat} {vs : List AV} {z : Bool} {cs : List AV} (h : off + vs.length ≤ cs.length) (h2 : vs.all AV.isCell = true) : wrK H id off vs (some (.cells false z cs)) = some (H.set id (.cells false z (splice cs off vs))) := if_pos ⟨h,h2⟩
def xTg : Option Heap → Option (AV × Heap)
  | some H => some (.tup [],H)
  | none => none
theorem xHu (H : Heap) : xTg (some H) = some (.tup [],H) := rfl
theorem xPE (n : Nat) (p v : Arg) : xAb R F H (.store n p v) = if (opv F v).cells.length = n then xTg (wr H (opv F p) (opv F v).cells) else none := by
  simp only [xAb,xTg]
  split
  · cases wr H (opv F p) (opv F v).cells <;> rfl
  · rfl
def yAj : AV → Option AV
  | .ptr id off => some (.ptr id off)
  | .vptr cs off => some (.vptr cs off)
  | .func f caps => some (.func f caps)
  | .yield l => some (.yield l)
  | _ => none
theorem xPF (id off : Nat) : yAj (.ptr id off) = some (.ptr id off) := rfl
theorem xMX (cs : List AV) (off : Nat) : yAj (.vptr cs off) = some (.vptr cs off) := rfl
theorem xMY (f : Nat) (cs : List AV) : yAj (.func f cs) = some (.func f cs) := rfl
theorem xJB (l : Nat) : yAj (.yield l) = some (.yield l) := rfl
theorem xMZ (x : Arg) : xAb R F H (.nilchk x) = xC8 H (yAj (opv F x)) := by
  simp only [xAb]
  cases opv F x <;> rfl
theorem xW5 (op : BinOp) (x y : Arg) : xAb R F H (.bin op x y) = xC8 H (xC6 op (opv F x) (opv F y)) := by
  simp only [xAb,xC8]
  cases xC6 op (opv F x) (opv F y) <;> rfl
section
variable (k : IntKind) (a b : Int)
theorem xTh : xC6 .add (.int k a) (.int k b) = some (.int k (k.wrap (a + b))) := by simp [xC6]
theorem xTi : xC6 .sub (.int k a) (.int k b) = some (.int k (k.wrap (a - b))) := by simp [xC6]
theorem xTj : xC6 .mul (.int k a) (.int k b) = some (.int k (k.wrap (a * b))) := by simp [xC6]
theorem xTk (h : b ≠ 0) : xC6 .quo (.int k a) (.int k b) = some (.int k (k.wrap (a.tdiv b))) := by simp [xC6,h]
theorem xTl (h : b ≠ 0) : xC6 .rem (.int k a) (.int k b) = some (.int k (a.tmod b)) := by simp [xC6,h]
theorem xTm : xC6 .and (.int k a) (.int k b) = some (.int k (xEi .and k a b)) := by simp [xC6]
theorem xW6 : xC6 .or (.int k a) (.int k b) = some (.int k (xEi .or k a b)) := by simp [xC6]
theorem xTn : xC6 .xor (.int k a) (.int k b) = some (.int k (xEi .xor k a b)) := by simp [xC6]
theorem xJC : xC6 .andNot (.int k a) (.int k b) = some (.int k (xEi .andNot k a b)) := by simp [xC6]
theorem xTo (k' : IntKind) (h : 0 ≤ b) : xC6 .shl (.int k a) (.int k' b) = some (.int k (k.wrap (a * 2 ^ (min b.toNat k.bits)))) := by simp only [xC6]; rw [if_neg (by omega)]
theorem xTp (k' : IntKind) (h : 0 ≤ b) : xC6 .shr (.int k a) (.int k' b) = some (.int k (a.fdiv (2 ^ (min b.toNat k.bits)))) := by simp only [xC6]; rw [if_neg (by omega)]
theorem xTq : xC6 .eql (.int k a) (.int k b) = some (.bool (decide (a = b))) := by simp [xC6]; rfl
theorem xTr : xC6 .neq (.int k a) (.int k b) = some (.bool (!decide (a = b))) := by simp [xC6]; rfl
theorem xTs : xC6 .lss (.int k a) (.int k b) = some (.bool (decide (a < b))) := by simp [xC6]
theorem xTt : xC6 .leq (.int k a) (.int k b) = some (.bool (decide (a ≤ b))) := by simp [xC6]
theorem xTu : xC6 .gtr (.int k a) (.int k b) = some (.bool (decide (b < a))) := by simp [xC6]
theorem xTv : xC6 .geq (.int k a) (.int k b) = some (.bool (decide (b ≤ a))) := by simp [xC6]
end
def yBA (neg : Bool) : AV → AV → Option AV
  | .bool a,.bool b => some (.bool (if neg = true then a != b else a == b))
  | _,_ => none
theorem xW7 (a b : Bool) : yBA false (.bool a) (.bool b) = some (.bool (decide (a = b))) := by cases a <;> cases b <;> rfl
theorem xW8 (a b : Bool) : yBA true (.bool a) (.bool b) = some (.bool (!decide (a = b))) := by cases a <;> cases b <;> rfl
theorem xW9 (neg : Bool) (x y : Arg) : xAb R F H (.beq neg x y) = xC8 H (yBA neg (opv F x) (opv F y)) := by
  simp only [xAb]
  cases opv F x <;> cases opv F y <;> rfl
def xM0 (neg : Bool) : AV → Option AV
  | .sl z _ _ => some (.bool (z != neg))
  | .own z _ _ _ _ => some (.bool (z != neg))
  | _ => none
theorem xJD (z : Bool) (n : Nat) (cs : List AV) : xM0 false (.sl z n cs) = some (.bool z) := by cases z <;> rfl
theorem xJE (z : Bool) (n : Nat) (cs : List AV) : xM0 true (.sl z n cs) = some (.bool (!z)) := by cases z <;> rfl
theorem xHv (z : Bool) (id off n es : Nat) : xM0 false (.own z id off n es) = some (.bool z) := by cases z <;> rfl
theorem xHw (z : Bool) (id off n es : Nat) : xM0 true (.own z id off n es) = some (.bool (!z)) := by cases z <;> rfl
theorem xPG (neg : Bool) (x : Arg) : xAb R F H (.isnil neg x) = xC8 H (xM0 neg (opv F x)) := by
  simp only [xAb]
  cases opv F x <;> rfl
theorem yAk (op : UnOp) (x : Arg) : xAb R F H (.un op x) = xC8 H (unA op (opv F x)) := by
  simp only [xAb,xC8]
  cases unA op (opv F x) <;> rfl
theorem xXa (b : Bool) : unA .not (.bool b) = some (.bool !b) := rfl
theorem xXb (k : IntKind) (n : Int) : unA .neg (.int k n) = some (.int k (k.wrap (0 - n))) := rfl
theorem xXc (k : IntKind) (n : Int) : unA .xor (.int k n) = some (.int k (xEi .xor k (if k.signed then -1 else k.max) n)) := rfl
def yAl (k : IntKind) : AV → Option AV
  | .int _ n => some (.int k (k.wrap n))
  | _ => none
theorem xM1 (k k' : IntKind) (n : Int) : yAl k (.int k' n) = some (.int k (k.wrap n)) := rfl
theorem xTw (k : IntKind) (x : Arg) : xAb R F H (.conv k x) = xC8 H (yAl k (opv F x)) := by
  simp only [xAb]
  cases opv F x <;> rfl
theorem xM2 (f : Nat) (caps : List Arg) : xAb R F H (.mkfunc f caps) = some (.func f (caps.map (opv F)),H) := rfl
def yCs (fz : Bool) (z : List AV) (bytes : Nat) (H : Heap) : AV → AV → Option (AV × Heap)
  | .int _ l,.int _ c => if 0 ≤ l ∧ l ≤ c ∧ c * bytes ≤ xBa ∧ c ≤ xBa ∧ z.all AV.isCell = true then xDd fz false l.toNat z.length (xCD z l.toNat) H else none
  | _,_ => none
theorem xPH (fz : Bool) (z : List AV) (bytes : Nat) (k k' : IntKind) {l c : Int} (h1 : 0 ≤ l) (h2 : l ≤ c) (h3 : c * bytes ≤ 140737488355328) (h4 : c ≤ 140737488355328) (h5 : z.all AV.isCell = true) : yCs fz z bytes H (.int k l) (.int k' c) = xDd fz false l.toNat z.length (xCD z l.toNat) H := if_pos ⟨h1,h2,h3,h4,h5⟩
theorem xJF (fz : Bool) (z : List AV) (bytes : Nat) (l c : Arg) : xAb R F H (.mkslice fz z bytes l c) = yCs fz z bytes H (opv F l) (opv F c) := by
  simp only [xAb]
  cases opv F l <;> cases opv F c <;> rfl
def xYq (es : Nat) (H : Heap) (x : AV) : Option (Nat × Nat) → Option AV
  | none => none
  | some (l,h) => match x with
    | .sl z _ cs => some (.sl z (h - l) ((cs.drop (l * es)).take ((h - l) * es)))
    | .own z id off _ _ => some (.own z id (off + l * es) (h - l) es)
    | _ => none
def xPI (es : Nat) (H : Heap) (lo hi mx : Option AV) : AV → Option AV
  | .sl z n cs => if cs.length = n * es then xYq es H (.sl z n cs) (xBf n lo hi mx) else none
  | .own z id off n es' => if es' = es then xYq es H (.own z id off n es') (xBf n lo hi mx) else none
  | _ => none
theorem xPJ (es : Nat) (x : Arg) (lo hi mx : Option Arg) : xAb R F H (.slice es x lo hi mx) = xC8 H (xPI es H (lo.map (opv F)) (hi.map (opv F)) (mx.map (opv F)) (opv F x)) := by
  simp only [xAb,xC8,xPI,xYq]
  cases opv F x with
  | sl z n cs =>
    simp only
    split
    · cases xBf n (lo.map (opv F)) (hi.map (opv F)) (mx.map (opv F)) <;> rfl
    · rfl
  | own z id off n es' =>
    simp only
    split
    · cases xBf n (lo.map (opv F)) (hi.map (opv F)) (mx.map (opv F)) <;> rfl
    · rfl
  | _ => rfl
theorem xM3 {es n : Nat} {z : Bool} {cs : List AV} (lo hi mx : Option AV) (h : cs.length = n * es) : xPI es H lo hi mx (.sl z n cs) = xYq es H (.sl z n cs) (xBf n lo hi mx) := if_pos h
theorem xJG {es n id off : Nat} {z : Bool} (lo hi mx : Option AV) : xPI es H lo hi mx (.own z id off n es) = xYq es H (.own z id off n es) (xBf n lo hi mx) := if_pos rfl
theorem xTx (es : Nat) (z : Bool) (n : Nat) (cs : List AV) (l h : Nat) : xYq es H (.sl z n cs) (some (l,h)) = some (.sl z (h - l) ((cs.drop (l * es)).take ((h - l) * es))) := rfl
theorem xPK (es : Nat) (z : Bool) (id off n es' : Nat) (l h : Nat) : xYq es H (.own z id off n es') (some (l,h)) = some (.own z id (off + l * es) (h - l) es) := rfl
theorem xM4 (n : Nat) : xBf n none none none = some (0,n) := by simp [xBf]
theorem xM5 {n : Nat} {k : IntKind} {l : Int} (h0 : 0 ≤ l) (h : l ≤ n) : xBf n (some (.int k l)) none none = some (l.toNat,n) := by
  simp only [xBf,xBV,if_pos h0]
  rw [if_pos ⟨by omega,by omega⟩]
theorem xM6 {n : Nat} {k : IntKind} {m : Int} (h0 : 0 ≤ m) (h : m ≤ n) : xBf n none (some (.int k m)) none = some (0,m.toNat) := by
  simp only [xBf,xBV,if_pos h0]
  rw [if_pos ⟨by omega,by omega⟩]
theorem xM7 {n : Nat} {k k' : IntKind} {l m : Int} (h0 : 0 ≤ l) (h1 : l ≤ m) (h : m ≤ n) : xBf n (some (.int k l)) (some (.int k' m)) none = some (l.toNat,m.toNat) := by
  have h2 : 0 ≤ m := by omega
  simp only [xBf,xBV,if_pos h0,if_pos h2]
  rw [if_pos ⟨by omega,by omega⟩]
def xTy (o : Nat) : AV → Option AV
  | .ptr id off => some (.ptr id (off + o))
  | .vptr cs off => some (.vptr cs (off + o))
  | _ => none
theorem xJH (o id off : Nat) : xTy o (.ptr id off) = some (.ptr id (off + o)) := rfl
theorem xHx (o : Nat) (cs : List AV) (off : Nat) : xTy o (.vptr cs off) = some (.vptr cs (off + o)) := rfl
theorem xPL (o : Nat) (x : Arg) : xAb R F H (.faddr o x) = xC8 H (xTy o (opv F x)) := by
  simp only [xAb]
  cases opv F x <;> rfl
def xTz (g : Bool) (off n : Nat) : AV → Option AV
  | .agg cs => if off + n ≤ cs.length then mkv g ((cs.drop off).take n) else none
  | _ => none
theorem xJI {g : Bool} {off n : Nat} {cs : List AV} (h : off + n ≤ cs.length) : xTz g off n (.agg cs) = mkv g ((cs.drop off).take n) := if_pos h
theorem yAm (v : AV) : mkv false [v] = some v := rfl
theorem yAn (cs : List AV) : mkv true cs = some (.agg cs) := rfl
theorem xPM (g : Bool) (off n : Nat) (x : Arg) : xAb R F H (.field g off n x) = xC8 H (xTz g off n (opv F x)) := by
  simp only [xAb]
  cases opv F x with
  | agg cs =>
    simp only [xTz,xC8]
    split
    · cases mkv g ((cs.drop off).take n) <;> rfl
    · rfl
  | _ => rfl
def xJJ (es : Nat) : AV → AV → Option AV
  | .sl _ n cs,.int _ i => if 0 ≤ i ∧ i.toNat < n then some (.vptr cs (i.toNat * es)) else none
  | .own _ id off n es',.int _ i => if 0 ≤ i ∧ i.toNat < n ∧ es' = es then some (.ptr id (off + i.toNat * es)) else none
  | _,_ => none
theorem xM8 {es n : Nat} {z : Bool} {cs : List AV} {k : IntKind} {i : Int} (h0 : 0 ≤ i) (h : i < n) : xJJ es (.sl z n cs) (.int k i) = some (.vptr cs (i.toNat * es)) := if_pos ⟨h0,by omega⟩
theorem xJK {es n id off : Nat} {z : Bool} {k : IntKind} {i : Int} (h0 : 0 ≤ i) (h : i < n) : xJJ es (.own z id off n es) (.int k i) = some (.ptr id (off + i.toNat * es)) := if_pos ⟨h0,by omega,rfl⟩
theorem xPN (es : Nat) (x i : Arg) : xAb R F H (.iaddr es x i) = xC8 H (xJJ es (opv F x) (opv F i)) := by
  simp only [xAb]
  cases opv F x with
  | sl z n cs =>
    cases opv F i with
    | int k j =>
      simp only [xBV,xJJ,xC8]
      by_cases h : 0 ≤ j
      · by_cases h2 : j.toNat < n <;> simp [h,h2]
      · simp [h]
    | _ => rfl
  | own z id off n es' =>
    cases opv F i with
    | int k j =>
      simp only [xBV,xJJ,xC8]
      by_cases h : 0 ≤ j
      · by_cases h2 : j.toNat < n
        · by_cases h3 : es' = es <;> simp [h,h2,h3]
        · simp [h,h2]
      · simp [h]
    | _ => rfl
  | _ => cases opv F i <;> simp [xJJ,xC8,xBV] <;> split <;> simp_all
def yBB (i : Nat) : AV → Option AV
  | .tup vs => vs[i]?
  | _ => none
theorem xPO (i : Nat) (vs : List AV) : yBB i (.tup vs) = vs[i]? := rfl
theorem xXd (i : Nat) (x : Arg) : xAb R F H (.ext i x) = xC8 H (yBB i (opv F x)) := by
  simp only [xAb]
  cases opv F x with
  | tup vs => simp only [yBB,xC8]; cases vs[i]? <;> rfl
  | _ => rfl
def yAo : AV → Option AV
  | .sl _ n _ => some (.int .i64 n)
  | .own _ _ _ n _ => some (.int .i64 n)
  | _ => none
theorem xTA (z : Bool) (n : Nat) (cs : List AV) : yAo (.sl z n cs) = some (.int .i64 n) := rfl
theorem xPP (z : Bool) (id off n es : Nat) : yAo (.own z id off n es) = some (.int .i64 n) := rfl
theorem xXe (x : Arg) : xAb R F H (.len x) = xC8 H (yAo (opv F x)) := by
  simp only [xAb]
  cases opv F x <;> rfl
theorem xXf (x : Arg) : xAb R F H (.cap x) = match opv F x with
  | .sl true _ _ => some (.int .i64 0,H)
  | _ => none := rfl
def yBC (neg : Bool) (n : Nat) : AV → AV → Option AV
  | .agg cs,.agg ds => if cs.length = n then (xBB cs ds).map fun b => .bool (b != neg) else none
  | _,_ => none
theorem xPQ {neg : Bool} {n : Nat} {cs ds : List AV} (h : cs.length = n) : yBC neg n (.agg cs) (.agg ds) = (xBB cs ds).map fun b => .bool (b != neg) := if_pos h
theorem xXg (neg : Bool) (n : Nat) (x y : Arg) : xAb R F H (.aeq neg n x y) = xC8 H (yBC neg n (opv F x) (opv F y)) := by
  simp only [xAb]
  cases opv F x with
  | agg cs => cases opv F y with
    | agg ds =>
      simp only [yBC,xC8]
      split
      · cases xBB cs ds <;> rfl
      · rfl
    | _ => rfl
  | _ => rfl
def xXh (fz : Bool) (es bytes : Nat) (H : Heap) (x : AV) : Option (Nat × List AV) → Option (AV × Heap)
  | none => none
  | some (m,ys) => match x with
    | .sl true _ _ => if m * bytes ≤ xBa ∧ m ≤ xBa then xDd fz (m == 0) m es ys H else none
    | .own z id off n es' => match H[id]? with
      | some (.cells false _ cs) => if off = 0 ∧ es' = es ∧ n * es ≤ cs.length ∧ (n + m) * bytes ≤ xBa ∧ n + m ≤ xBa then
          some (.own (z && m == 0) H.length 0 (n + m) es,H.set id .dead ++ [.cells false (z && m == 0) (cs.take (n * es) ++ ys)]) else none
      | _ => none
    | _ => none
theorem xHy (fz : Bool) (es bytes : Nat) (x y : Arg) : xAb R F H (.append fz es bytes x y) = xXh fz es bytes H (opv F x) (src H es (opv F y)) := by
  simp only [xAb,xXh]
  cases src H es (opv F y) <;> rfl
theorem xPR {fz : Bool} {es bytes n m : Nat} {cs ys : List AV} (h : m * bytes ≤ 140737488355328) (h2 : m ≤ 140737488355328) : xXh fz es bytes H (.sl true n cs) (some (m,ys)) = xDd fz (m == 0) m es ys H := if_pos ⟨h,h2⟩
def xYr (es bytes n m : Nat) (H : Heap) (z : Bool) (id : Nat) (ys : List AV) : Option Blk → Option (AV × Heap)
  | some (.cells false _ cs) => if n * es ≤ cs.length ∧ (n + m) * bytes ≤ xBa ∧ n + m ≤ xBa then
      some (.own (z && m == 0) H.length 0 (n + m) es,H.set id .dead ++ [.cells false (z && m == 0) (cs.take (n * es) ++ ys)]) else none
  | _ => none
theorem xPS (fz : Bool) (es bytes n m id : Nat) (z : Bool) (ys : List AV) : xXh fz es bytes H (.own z id 0 n es) (some (m,ys)) = xYr es bytes n m H z id ys H[id]? := by
  simp only [xXh,xYr]
  split
  · rename_i z' cs hb
    by_cases h : n * es ≤ cs.length ∧ (n + m) * bytes ≤ xBa ∧ n + m ≤ xBa
    · rw [if_pos h,if_pos ⟨trivial,trivial,h⟩]
    · rw [if_neg h,if_neg (fun g => h g.2.2)]
  · rename_i hne
    cases hb : H[id]? with
    | none => rfl
    | some b => cases b with
      | cells fz z cs => cases fz with
        | false => exact (hne _ _ hb).elim
        | true => rfl
      | _ => rfl
theorem xHz {es bytes n m id : Nat} {z z' : Bool} {ys cs : List AV} (h : n * es ≤ cs.length) (h2 : (n + m) * bytes ≤ 140737488355328) (h3 : n + m ≤ 140737488355328) : xYr es bytes n m H z id ys (some (.cells false z' cs)) =
    some (.own (z && m == 0) H.length 0 (n + m) es,H.set id .dead ++ [.cells false (z && m == 0) (cs.take (n * es) ++ ys)]) := if_pos ⟨h,h2,h3⟩
theorem xXi {es n : Nat} {z : Bool} {cs : List AV} (h : cs.length = n * es) : src H es (.sl z n cs) = some (n,cs) := if_pos h
def yBD (off n es : Nat) : Option Blk → Option (Nat × List AV)
  | some (.cells _ _ cs) => if off + n * es ≤ cs.length then some (n,(cs.drop off).take (n * es)) else none
  | _ => none
theorem xTB (es n id off : Nat) (z : Bool) : src H es (.own z id off n es) = yBD off n es H[id]? := by
  simp only [src,yBD]
  cases H[id]? with
  | none => rfl
  | some b => cases b <;> simp
theorem xJL {es n off : Nat} {fz z : Bool} {cs : List AV} (h : off + n * es ≤ cs.length) : yBD off n es (some (.cells fz z cs)) = some (n,(cs.drop off).take (n * es)) := if_pos h
def xM9 (z : List AV) (bytes : Nat) (H : Heap) : AV → AV → Option (AV × Heap)
  | .sl true _ _,.int _ m => if 0 ≤ m ∧ m.toNat * bytes ≤ xBa ∧ m.toNat ≤ xBa ∧ z.all AV.isCell = true then xDd false (m.toNat == 0) m.toNat z.length (xCD z m.toNat) H else none
  | _,_ => none
theorem xJM (z : List AV) (bytes : Nat) (x n : Arg) : xAb R F H (.appendz z bytes x n) = xM9 z bytes H (opv F x) (opv F n) := by
  simp only [xAb]
  cases hn : opv F n with
  | int k m =>
    simp only [xBV]
    by_cases h : 0 ≤ m
    · cases hx : opv F x with
      | sl zz nn cs => cases zz <;> simp [xM9,h]
      | _ => simp [xM9,h]
    · cases hx : opv F x with
      | sl zz nn cs => cases zz <;> simp [xM9,h]
      | _ => simp [xM9,h]
  | _ =>
    cases hx : opv F x with
    | sl zz nn cs => cases zz <;> simp [xM9,xBV]
    | _ => simp [xM9,xBV]
theorem xNa {z : List AV} {bytes n : Nat} {cs : List AV} {k : IntKind} {m : Int} (h0 : 0 ≤ m) (h1 : m.toNat * bytes ≤ 140737488355328) (h2 : m.toNat ≤ 140737488355328) (h3 : z.all AV.isCell = true) : xM9 z bytes H (.sl true n cs) (.int k m) = xDd false (m.toNat == 0) m.toNat z.length (xCD z m.toNat) H := if_pos ⟨h0,h1,h2,h3⟩
def yBE : AV → AV → Option AV
  | .int k a,.int _ b => some (.int k (max a b))
  | _,_ => none
def yBF : AV → AV → Option AV
  | .int k a,.int _ b => some (.int k (min a b))
  | _,_ => none
theorem xPT (k k' : IntKind) (a b : Int) : yBE (.int k a) (.int k' b) = some (.int k (max a b)) := rfl
theorem xPU (k k' : IntKind) (a b : Int) : yBF (.int k a) (.int k' b) = some (.int k (min a b)) := rfl
theorem xTC (x y : Arg) : xAb R F H (.maxi x y) = xC8 H (yBE (opv F x) (opv F y)) := by
  simp only [xAb]
  cases opv F x with
  | int k a => cases opv F y with
    | int k' b => simp only [yBE,xC8]; congr 3; split <;> omega
    | _ => rfl
  | _ => rfl
theorem xTD (x y : Arg) : xAb R F H (.mini x y) = xC8 H (yBF (opv F x) (opv F y)) := by
  simp only [xAb]
  cases opv F x with
  | int k a => cases opv F y with
    | int k' b => simp only [yBF,xC8]; congr 3; split <;> omega
    | _ => rfl
  | _ => rfl
theorem xXj (z : List AV) : xCD z 0 = [] := rfl
theorem xXk (z : List AV) : xCD z 1 = z ++ ([]) := rfl
theorem xXl (z : List AV) : xCD z 2 = z ++ (z ++ ([])) := rfl
theorem xXm (z : List AV) : xCD z 3 = z ++ (z ++ (z ++ ([]))) := rfl
theorem xXn (z : List AV) : xCD z 4 = z ++ (z ++ (z ++ (z ++ ([])))) := rfl
theorem xXo (z : List AV) : xCD z 5 = z ++ (z ++ (z ++ (z ++ (z ++ ([]))))) := rfl
theorem xXp (z : List AV) : xCD z 6 = z ++ (z ++ (z ++ (z ++ (z ++ (z ++ ([])))))) := rfl
theorem xXq (z : List AV) : xCD z 7 = z ++ (z ++ (z ++ (z ++ (z ++ (z ++ (z ++ ([]))))))) := rfl
theorem xXr (z : List AV) : xCD z 8 = z ++ (z ++ (z ++ (z ++ (z ++ (z ++ (z ++ (z ++ ([])))))))) := rfl
theorem xXs (z : List AV) : xCD z 9 = z ++ (z ++ (z ++ (z ++ (z ++ (z ++ (z ++ (z ++ (z ++ ([]))))))))) := rfl
theorem xTE (z : List AV) : xCD z 10 = z ++ (z ++ (z ++ (z ++ (z ++ (z ++ (z ++ (z ++ (z ++ (z ++ ([])))))))))) := rfl
theorem xTF (z : List AV) : xCD z 11 = z ++ (z ++ (z ++ (z ++ (z ++ (z ++ (z ++ (z ++ (z ++ (z ++ (z ++ ([]))))))))))) := rfl
theorem xTG (z : List AV) : xCD z 12 = z ++ (z ++ (z ++ (z ++ (z ++ (z ++ (z ++ (z ++ (z ++ (z ++ (z ++ (z ++ ([])))))))))))) := rfl
theorem xHA (d : Nat) (k : IntKind) (n : Int) : frz d H (.int k n) = some (.int k n) := by cases d <;> rfl
theorem xPV (d : Nat) (b : Bool) : frz d H (.bool b) = some (.bool b) := by cases d <;> rfl
theorem xTH (d : Nat) (b : ByteArray) : frz d H (.str b) = some (.str b) := by cases d <;> rfl
theorem xPW (d : Nat) : frz d H .nilp = some .nilp := by cases d <;> rfl
theorem xPX (d : Nat) : frz d H .nilf = some .nilf := by cases d <;> rfl
theorem xTI (d : Nat) : frz d H .any = some .any := by cases d <;> rfl
theorem xPY (d f : Nat) : frz d H (.func f []) = some (.func f []) := by cases d <;> rfl
theorem xXt (d : Nat) (z : Bool) (n : Nat) (cs : List AV) : frz d H (.sl z n cs) = some (.sl z n cs) := by cases d <;> rfl
theorem xTJ (d : Nat) (cs : List AV) : frz (d + 1) H (.agg cs) = (cs.mapM (frz d H)).map AV.agg := rfl
theorem xTK (d : Nat) (cs : List AV) : frz (d + 1) H (.tup cs) = (cs.mapM (frz d H)).map AV.tup := rfl
def yBG (d : Nat) (H : Heap) (z : Bool) (off n es : Nat) : Option Blk → Option AV
  | some (.cells _ _ cs) => if off + n * es ≤ cs.length then slK z n (((cs.drop off).take (n * es)).mapM (frz d H)) else none
  | _ => none
theorem xAd (d : Nat) (z : Bool) (id off n es : Nat) : frz (d + 1) H (.own z id off n es) = yBG d H z off n es H[id]? := by
  simp only [frz,yBG]
  cases H[id]? with
  | none => rfl
  | some b => cases b with
    | cells fz z' cs =>
      simp only
      split
      · cases ((cs.drop off).take (n * es)).mapM (frz d H) <;> rfl
      · rfl
    | _ => rfl
theorem xJN {d off n es : Nat} {z fz z' : Bool} {cs : List AV} (h : off + n * es ≤ cs.length) : yBG d H z off n es (some (.cells fz z' cs)) = slK z n (((cs.drop off).take (n * es)).mapM (frz d H)) := if_pos h
theorem xFt (d : Nat) (k : IntKind) (n : Int) : bor d H (.int k n) = [] := by cases d <;> rfl
theorem xPZ (d : Nat) (b : Bool) : bor d H (.bool b) = [] := by cases d <;> rfl
theorem xTL (d : Nat) (b : ByteArray) : bor d H (.str b) = [] := by cases d <;> rfl
theorem xP0 (d : Nat) : bor d H .nilp = [] := by cases d <;> rfl
theorem xP1 (d : Nat) : bor d H .nilf = [] := by cases d <;> rfl
theorem xTM (d : Nat) : bor d H .any = [] := by cases d <;> rfl
theorem xP2 (d f : Nat) (cs : List AV) : bor d H (.func f cs) = [] := by cases d <;> rfl
theorem xXu (ss : List Nat) (b : ACode) (s : St) : run R (.fz ss b) s = run R b ⟨s.F,fzIds s.H (ss.flatMap fun i => bor frzN s.H (s.F.getD i .any))⟩ := rfl
def yBH (R : Rec) (i : Nat) (b : ACode) (s : St) (ids : List Nat) : Option AV → Option (AExit × St)
  | some v => run R b ⟨s.F.set i v,fzIds s.H ids⟩
  | none => none
theorem xTN (i : Nat) (b : ACode) (s : St) : run R (.fzs i b) s = yBH R i b s (bor frzN s.H (s.F.getD i .any)) (frz frzN s.H (s.F.getD i .any)) := by
  simp only [run,yBH]
  cases frz frzN s.H (s.F.getD i .any) <;> rfl
theorem xNb (i : Nat) (b : ACode) (s : St) (ids : List Nat) (v : AV) : yBH R i b s ids (some v) = run R b ⟨s.F.set i v,fzIds s.H ids⟩ := rfl
def yBI (d : Nat) (H : Heap) (off : Nat) : Option Blk → Option AV
  | some (.cells _ _ cs) => (cs.mapM (frz d H)).map fun cs' => .vptr cs' off
  | _ => none
theorem xTO (d i o : Nat) : frz (d + 1) H (.ptr i o) = yBI d H o H[i]? := by
  simp only [frz,yBI]
  cases H[i]? with
  | none => rfl
  | some b => cases b <;> rfl
theorem xJO (d : Nat) (o : Nat) (fz z : Bool) (cs : List AV) : yBI d H o (some (.cells fz z cs)) = (cs.mapM (frz d H)).map fun cs' => .vptr cs' o := rfl
theorem xP3 (d : Nat) (cs : List AV) (o : Nat) : frz d H (.vptr cs o) = some (.vptr cs o) := by cases d <;> rfl
def xYs (d : Nat) (H : Heap) : Option Blk → List Nat
  | some (.cells _ _ cs) => cs.flatMap (bor d H)
  | _ => []
theorem xTP (d i o : Nat) : bor (d + 1) H (.ptr i o) = i :: xYs d H H[i]? := by
  simp only [bor,xYs]
  cases H[i]? with
  | none => rfl
  | some b => cases b <;> rfl
theorem xHB (d : Nat) (fz z : Bool) (cs : List AV) : xYs d H (some (.cells fz z cs)) = cs.flatMap (bor d H) := rfl
theorem xP4 (d : Nat) (cs : List AV) (o : Nat) : bor d H (.vptr cs o) = [] := by cases d <;> rfl
def xYt : Option Blk → Bool
  | some (.cells true _ _) => true
  | _ => false
theorem xJP (i : Nat) : xFr H i = xYt H[i]? := by
  simp only [xFr,xYt]
  cases H[i]? with
  | none => rfl
  | some b => cases b with
    | cells fz z cs => cases fz <;> rfl
    | _ => rfl
theorem xTQ (z : Bool) (cs : List AV) : xYt (some (.cells true z cs)) = true := rfl
theorem xXv (d : Nat) (z : Bool) (n : Nat) (cs : List AV) : bor d H (.sl z n cs) = [] := by cases d <;> rfl
theorem xTR (d : Nat) (cs : List AV) : bor (d + 1) H (.agg cs) = cs.flatMap (bor d H) := rfl
theorem xTS (d : Nat) (cs : List AV) : bor (d + 1) H (.tup cs) = cs.flatMap (bor d H) := rfl
def yBJ (d : Nat) (H : Heap) (off n es : Nat) : Option Blk → List Nat
  | some (.cells _ _ cs) => ((cs.drop off).take (n * es)).flatMap (bor d H)
  | _ => []
theorem xAe (d : Nat) (z : Bool) (id off n es : Nat) : bor (d + 1) H (.own z id off n es) = id :: yBJ d H off n es H[id]? := by
  simp only [bor,yBJ]
  cases H[id]? with
  | none => rfl
  | some b => cases b <;> rfl
theorem xJQ (d off n es : Nat) (fz z : Bool) (cs : List AV) : yBJ d H off n es (some (.cells fz z cs)) = ((cs.drop off).take (n * es)).flatMap (bor d H) := rfl
def xXw (args : List AV) (H : Heap) : Option AV → Option (AV × Heap)
  | some r => some (r,if xAt r = true then H else fzIds H (args.flatMap (bor frzN H)))
  | none => none
theorem xNc (args : List AV) (r : AV) : xXw args H (some r) = some (r,if xAt r = true then H else fzIds H (args.flatMap (bor frzN H))) := rfl
theorem xNd (args : List AV) : xXw args H none = none := rfl
theorem xP5 (args : List AV) {c : Prop} [Decidable c] (x y : Option AV) : xXw args H (if c then x else y) = if c then xXw args H x else xXw args H y := by split <;> rfl
def yBK (R : Rec) (f : Nat) (args : List AV) (H : Heap) : Option (List AV) → Option (AV × Heap)
  | some args' => xXw args H (R.pcall f args')
  | none => none
theorem xNe (f : Nat) (args args' : List AV) : yBK R f args H (some args') = xXw args H (R.pcall f args') := rfl
theorem xNf (f : Nat) (args : List AV) : xBm R f args H = yBK R f args H (args.mapM (frz frzN H)) := by
  simp only [xBm,yBK]
  cases args.mapM (frz frzN H) with
  | none => rfl
  | some args' => simp only [xXw]; cases R.pcall f args' <;> rfl
theorem xTT (f : Nat) (args : List Arg) : xAb R F H (.call f args) = xBm R f (args.map (opv F)) H := rfl
theorem xP6 (f : Arg) (args : List Arg) : xAb R F H (.icall f args) = R.icall (opv F f) (args.map (opv F)) H := rfl
def xXx (R : Rec) (args : List AV) (H : Heap) : AV → Option (AV × Heap)
  | .func g caps => xBm R g (args ++ caps) H
  | _ => none
theorem xHC (args : List AV) (g : Nat) (caps : List AV) : xXx R args H (.func g caps) = xBm R g (args ++ caps) H := rfl
theorem xP7 (f : Arg) (args : List Arg) : xAb R F H (.fcall f args) = xXx R (args.map (opv F)) H (opv F f) := by
  simp only [xAb]
  cases opv F f <;> rfl
def xEb (args : List AV) (H : Heap) : Option (AV × Heap) → Option (AV × Heap)
  | some (r,_) => if quietCall r H args = true then some (r,H) else none
  | none => none
theorem xHD (args : List AV) (r : AV) (H' : Heap) : xEb args H (some (r,H')) = if quietCall r H args = true then some (r,H) else none := rfl
theorem xHE (args : List AV) : xEb args H none = none := rfl
theorem xJR (args : List AV) {c : Prop} [Decidable c] (x y : Option (AV × Heap)) : xEb args H (if c then x else y) = if c then xEb args H x else xEb args H y := by split <;> rfl
theorem xTU (f : Nat) (args : List Arg) : xAQ R F H (.call f args) = xEb (args.map (opv F)) H (xBm R f (args.map (opv F)) H) := by
  simp only [xAQ,xAv,xEb]
  cases xBm R f (args.map (opv F)) H with
  | none => rfl
  | some r => obtain ⟨r,H'⟩ := r; simp only; split <;> rfl
def xOB (R : Rec) (args : List AV) (H : Heap) : AV → Option (AV × Heap)
  | .func g caps => xEb (args ++ caps) H (xBm R g (args ++ caps) H)
  | _ => none
theorem xF4 (args : List AV) (g : Nat) (caps : List AV) : xOB R args H (.func g caps) = xEb (args ++ caps) H (xBm R g (args ++ caps) H) := rfl
theorem xP8 (f : Arg) (args : List Arg) : xAQ R F H (.fcall f args) = xOB R (args.map (opv F)) H (opv F f) := by
  simp only [xAQ,xAv,xEb,xOB]
  cases opv F f with
  | func g caps =>
    simp only
    cases xBm R g (args.map (opv F) ++ caps) H with
    | none => rfl
    | some r => obtain ⟨r,H'⟩ := r; simp only; split <;> rfl
  | _ => rfl
theorem xXy (v : AV) : xAQ R F H (.box (.c v)) = if v.cells.all AV.isCell = true then some (.any,H) else none := by
  simp only [xAQ,xAv]
  split <;> rfl
def xDX (H : Heap) : Option (AV × Heap) → Option (AV × Heap)
  | some (v,_) => some (v,H)
  | none => none
theorem xNg (v : AV) (H' : Heap) : xDX H (some (v,H')) = some (v,H) := rfl
theorem xNh : xDX H none = none := rfl
theorem xP9 {c : Prop} [Decidable c] (x y : Option (AV × Heap)) : xDX H (if c then x else y) = if c then xDX H x else xDX H y := by split <;> rfl
theorem xB9 (op : AOp) (h : xAv R F H op = (xAb R F H op).map (·.1)) : xAQ R F H op = xDX H (xAb R F H op) := by
  simp only [xAQ,h,xDX]
  cases xAb R F H op <;> rfl
theorem xXz (x : Arg) : xAQ R F H (.mov x) = xDX H (xAb R F H (.mov x)) := xB9 _ rfl
theorem xTV (c a b : Arg) : xAQ R F H (.pick c a b) = xDX H (xAb R F H (.pick c a b)) := xB9 _ rfl
theorem xQa (z : List AV) (parts : List (Nat × Nat × Arg)) : xAQ R F H (.build z parts) = xDX H (xAb R F H (.build z parts)) := xB9 _ rfl
theorem xNi (z : List AV) (es n : Nat) (parts : List (Nat × Arg)) : xAQ R F H (.bslice true z es n parts) = xDX H (xAb R F H (.bslice true z es n parts)) := xB9 _ rfl
theorem xTW (g : Bool) (n : Nat) (p : Arg) : xAQ R F H (.load g n p) = xDX H (xAb R F H (.load g n p)) := xB9 _ rfl
theorem xNj (x : Arg) : xAQ R F H (.nilchk x) = xDX H (xAb R F H (.nilchk x)) := xB9 _ rfl
theorem xXA (op : BinOp) (x y : Arg) : xAQ R F H (.bin op x y) = xDX H (xAb R F H (.bin op x y)) := xB9 _ rfl
theorem xXB (neg : Bool) (x y : Arg) : xAQ R F H (.beq neg x y) = xDX H (xAb R F H (.beq neg x y)) := xB9 _ rfl
theorem xQb (neg : Bool) (x : Arg) : xAQ R F H (.isnil neg x) = xDX H (xAb R F H (.isnil neg x)) := xB9 _ rfl
theorem yAp (op : UnOp) (x : Arg) : xAQ R F H (.un op x) = xDX H (xAb R F H (.un op x)) := xB9 _ rfl
theorem xTX (k : IntKind) (x : Arg) : xAQ R F H (.conv k x) = xDX H (xAb R F H (.conv k x)) := xB9 _ rfl
theorem xNk (f : Nat) (caps : List Arg) : xAQ R F H (.mkfunc f caps) = xDX H (xAb R F H (.mkfunc f caps)) := xB9 _ rfl
theorem xJS (z : List AV) (bytes : Nat) (l c : Arg) : xAQ R F H (.mkslice true z bytes l c) = xDX H (xAb R F H (.mkslice true z bytes l c)) := xB9 _ rfl
theorem xQc (es : Nat) (x : Arg) (lo hi mx : Option Arg) : xAQ R F H (.slice es x lo hi mx) = xDX H (xAb R F H (.slice es x lo hi mx)) := xB9 _ rfl
theorem xQd (o : Nat) (x : Arg) : xAQ R F H (.faddr o x) = xDX H (xAb R F H (.faddr o x)) := xB9 _ rfl
theorem xQe (g : Bool) (off n : Nat) (x : Arg) : xAQ R F H (.field g off n x) = xDX H (xAb R F H (.field g off n x)) := xB9 _ rfl
theorem xQf (es : Nat) (x i : Arg) : xAQ R F H (.iaddr es x i) = xDX H (xAb R F H (.iaddr es x i)) := xB9 _ rfl
theorem xXC (i : Nat) (x : Arg) : xAQ R F H (.ext i x) = xDX H (xAb R F H (.ext i x)) := xB9 _ rfl
theorem xXD (x : Arg) : xAQ R F H (.len x) = xDX H (xAb R F H (.len x)) := xB9 _ rfl
theorem xXE (x : Arg) : xAQ R F H (.cap x) = xDX H (xAb R F H (.cap x)) := xB9 _ rfl
theorem xXF (neg : Bool) (n : Nat) (x y : Arg) : xAQ R F H (.aeq neg n x y) = xDX H (xAb R F H (.aeq neg n x y)) := xB9 _ rfl
theorem xTY (x y : Arg) : xAQ R F H (.maxi x y) = xDX H (xAb R F H (.maxi x y)) := xB9 _ rfl
theorem xTZ (x y : Arg) : xAQ R F H (.mini x y) = xDX H (xAb R F H (.mini x y)) := xB9 _ rfl
def xYu (es bytes : Nat) (H : Heap) (x : AV) (o : Option (Nat × List AV)) : Option (AV × Heap) := match x with
  | .sl _ _ _ => xDX H (xXh true es bytes H x o)
  | _ => none
theorem xQg (es bytes : Nat) (z : Bool) (n : Nat) (cs : List AV) (o : Option (Nat × List AV)) : xYu es bytes H (.sl z n cs) o = xDX H (xXh true es bytes H (.sl z n cs) o) := rfl
theorem xNl (es bytes : Nat) (x y : Arg) : xAQ R F H (.append true es bytes x y) = xYu es bytes H (opv F x) (src H es (opv F y)) := by
  simp only [xAQ,xAv,xYu]
  cases h : opv F x with
  | sl z n cs =>
    simp only [xHy,h,xDX]
    cases xXh true es bytes H (.sl z n cs) (src H es (opv F y)) <;> rfl
  | _ => rfl
def xRm (H : Heap) : Option AV → Option (AV × Heap)
  | some v => some (v,H)
  | none => none
theorem xJT (v : AV) : xRm H (some v) = some (v,H) := rfl
def xNm (rs : List ARes) : Option (AExit × St) → Option (AV × Heap)
  | some (.normal,s) => xRm s.H (xBx rs s)
  | some (.ret,s) => xRm s.H (xBx rs s)
  | _ => none
theorem xF5 (rs : List ARes) (F : List AV) (H : Heap) : xNm rs (some (.normal,⟨F,H⟩)) = xRm H (xBx rs ⟨F,H⟩) := rfl
theorem xNn (rs : List ARes) (F : List AV) (H : Heap) : xNm rs (some (.ret,⟨F,H⟩)) = xRm H (xBx rs ⟨F,H⟩) := rfl
theorem xJU (rs : List ARes) : xNm rs none = none := rfl
theorem xNo (rs : List ARes) {c : Prop} [Decidable c] (x y : Option (AExit × St)) : xNm rs (if c then x else y) = if c then xNm rs x else xNm rs y := by split <;> rfl
def pads : Nat → List AV
  | 0 => []
  | n + 1 => .tup [] :: pads n
theorem xT0 : ∀ n,List.replicate n (AV.tup []) = pads n
  | 0 => rfl
  | n + 1 => by rw [List.replicate_succ,xT0 n]; rfl
theorem xCx (n : Nat) (code : ACode) (rs : List ARes) (args : List AV) : xBE R ⟨n,code,rs⟩ args H = xNm rs (run R code ⟨args ++ pads (n - args.length),H⟩) := by
  rw [← xT0]
  simp only [xBE,xNm,xLS,xRm]
  cases h : run R code ⟨args ++ List.replicate (n - args.length) (.tup []),H⟩ with
  | none => rfl
  | some r =>
    obtain ⟨e,s⟩ := r
    cases e with
    | exit i => rfl
    | _ => simp only; cases xBx rs s <;> rfl
def xHF : Option (AV × Heap) → Option AV
  | some (r,H') => frz frzN H' r
  | none => none
theorem xHG (r : AV) (H' : Heap) : xHF (some (r,H')) = frz frzN H' r := rfl
theorem xHH : xHF none = none := rfl
theorem xJV {c : Prop} [Decidable c] (x y : Option (AV × Heap)) : xHF (if c then x else y) = if c then xHF x else xHF y := by split <;> rfl
theorem xAl (fn : AFunc) (args : List AV) : xAS R fn args = xHF (xBE R fn args []) := by
  simp only [xAS,xHF]
  cases xBE R fn args [] <;> rfl
def xYv (g : Bool) : Option (List AV) → Option AV
  | some cs => mkv g cs
  | none => none
theorem xJW (g : Bool) (cs : List AV) : xYv g (some cs) = mkv g cs := rfl
theorem xT1 (t : Nat) : xSk ⟨F,H⟩ (.tmp t) = some (F.getD t .any) := rfl
theorem xQh (t : Nat) (g : Bool) (n : Nat) : xSk ⟨F,H⟩ (.cell t g n) = xYv g (rd H (F.getD t .any) n) := by
  simp only [xSk,xYv]
  cases rd H (F.getD t .any) n <;> rfl
theorem xNp : xBx [] s = some (.tup []) := rfl
theorem xNq (r : ARes) : xBx [r] s = xSk s r := rfl
def yBL (s : St) (rs : List ARes) : Option AV → Option (List AV)
  | some v => (xRi s rs).map (v :: ·)
  | none => none
theorem xNr (rs : List ARes) (v : AV) : yBL s rs (some v) = (xRi s rs).map (v :: ·) := rfl
theorem xQi : xRi s [] = some [] := rfl
theorem xNs (r : ARes) (rs : List ARes) : xRi s (r :: rs) = yBL s rs (xSk s r) := by
  simp only [xRi,yBL]
  cases xSk s r <;> rfl
theorem xNt (r r' : ARes) (rs : List ARes) : xBx (r :: r' :: rs) s = (xRi s (r :: r' :: rs)).map .tup := rfl
def xEU (F : List AV) (l : Nat) : Option (AV × Heap) → Option (AExit × St)
  | some (_,H') => match H'[l]? with
    | some (.loop st pend _ _ _ _) => if st = 1 then none else some ((match pend with | none => .normal | some e => e),⟨F,H'.set l .dead⟩)
    | _ => none
  | none => none
def xT2 (R : Rec) (F : List AV) (H : Heap) (ps : List Nat) (asg body : ACode) : AV → Option (AExit × St)
  | .func g caps => xEU F H.length (R.icall (.func g caps) [.yield H.length] (H ++ [.loop 0 none F ps asg body]))
  | _ => none
theorem xNu (f : Arg) (ps : List Nat) (asg body : ACode) (F : List AV) (H : Heap) : run R (.range f ps asg body) ⟨F,H⟩ = xT2 R F H ps asg body (opv F f) := by
  simp only [run]
  cases opv F f with
  | func g caps =>
    simp only [xT2,xEU]
    cases R.icall (.func g caps) [.yield H.length] (H ++ [.loop 0 none F ps asg body]) with
    | none => rfl
    | some r =>
      obtain ⟨v,H'⟩ := r
      simp only
      cases H'[H.length]? with
      | none => rfl
      | some b => cases b <;> rfl
  | _ => rfl
theorem xHI (ps : List Nat) (asg body : ACode) (g : Nat) (caps : List AV) : xT2 R F H ps asg body (.func g caps) = xEU F H.length (R.icall (.func g caps) [.yield H.length] (H ++ [.loop 0 none F ps asg body])) := rfl
def xEV (l : Nat) (e : AExit) (H : Heap) : Option Blk → Option (AV × Heap)
  | some (.loop 1 _ F ps asg body) => some (match e with
    | .normal => (.bool true,H.set l (.loop 0 none F ps asg body))
    | e => (.bool false,H.set l (.loop 2 (some e) F ps asg body)))
  | _ => none
def xCm (l : Nat) : Option (AExit × St) → Option (AV × Heap)
  | some (e,s) => xEV l e s.H s.H[l]?
  | none => none
def xGt (R : Rec) (l : Nat) (body0 : ACode) (s : St) : Option Blk → Option (AV × Heap)
  | some (.loop 0 pend F ps asg body) => xCm l (run R body0 ⟨s.F,s.H.set l (.loop 1 pend F ps asg body)⟩)
  | _ => none
def xK6 (R : Rec) (l : Nat) (body0 : ACode) : Option (AExit × St) → Option (AV × Heap)
  | some (.normal,s) => xGt R l body0 s s.H[l]?
  | _ => none
theorem xHJ (l : Nat) (args : List AV) (H : Heap) (asg body : ACode) (F : List AV) (ps : List Nat) (pend : Option AExit) (hH : H[l]? = some (.loop 0 pend F ps asg body)) (h1 : args.length = ps.length) (h2 : asg.noRange = true) (h3 : body.noRange = true) :
    xEG R l args H = xK6 R l body (run R asg ⟨(ps.zip args).foldl (fun F (p,v) => F.set p v) F,H⟩) := by
  unfold xEG
  rw [hH]
  simp only
  rw [if_pos ⟨h1,h2,h3⟩]
  cases ha : run R asg ⟨(ps.zip args).foldl (fun F (p,v) => F.set p v) F,H⟩ with
  | none => rfl
  | some r =>
    obtain ⟨e,s1⟩ := r
    cases e with
    | normal =>
      simp only [xK6]
      cases hb : s1.H[l]? with
      | none => rfl
      | some b =>
        cases b with
        | loop st pend1 F1 ps1 asg1 body1 =>
          match st with
          | 0 =>
            simp only [xGt]
            cases hr : run R body ⟨s1.F,s1.H.set l (.loop 1 pend1 F1 ps1 asg1 body1)⟩ with
            | none => rfl
            | some r =>
              obtain ⟨e,s2⟩ := r
              simp only [xCm]
              cases hc : s2.H[l]? with
              | none => rfl
              | some b =>
                cases b with
                | loop st2 pend2 F2 ps2 asg2 body2 =>
                  match st2 with
                  | 0 => rfl
                  | 1 => rfl
                  | _ + 2 => rfl
                | _ => rfl
          | _ + 1 => rfl
        | _ => rfl
    | _ => rfl
theorem xDJ (l : Nat) (body0 : ACode) (F : List AV) (H : Heap) : xK6 R l body0 (some (.normal,⟨F,H⟩)) = xGt R l body0 ⟨F,H⟩ H[l]? := rfl
theorem xEW (l : Nat) (body0 : ACode) (F : List AV) (H : Heap) (pend : Option AExit) (F1 : List AV) (ps : List Nat) (asg body : ACode) : xGt R l body0 ⟨F,H⟩ (some (.loop 0 pend F1 ps asg body)) = xCm l (run R body0 ⟨F,H.set l (.loop 1 pend F1 ps asg body)⟩) := rfl
theorem xEc (l : Nat) (e : AExit) (F : List AV) (H : Heap) : xCm l (some (e,⟨F,H⟩)) = xEV l e H H[l]? := rfl
theorem xEX (l : Nat) {c : Prop} [Decidable c] (x y : Option (AExit × St)) : xCm l (if c then x else y) = if c then xCm l x else xCm l y := by split <;> rfl
theorem xDK (l : Nat) (H : Heap) (pend : Option AExit) (F : List AV) (ps : List Nat) (asg body : ACode) : xEV l .normal H (some (.loop 1 pend F ps asg body)) = some (.bool true,H.set l (.loop 0 none F ps asg body)) := rfl
theorem xEY (l i : Nat) (H : Heap) (pend : Option AExit) (F : List AV) (ps : List Nat) (asg body : ACode) : xEV l (.exit i) H (some (.loop 1 pend F ps asg body)) = some (.bool false,H.set l (.loop 2 (some (.exit i)) F ps asg body)) := rfl
theorem xF6 (l : Nat) (H : Heap) (pend : Option AExit) (F : List AV) (ps : List Nat) (asg body : ACode) : xEV l .ret H (some (.loop 1 pend F ps asg body)) = some (.bool false,H.set l (.loop 2 (some .ret) F ps asg body)) := rfl
def xGu (F : List AV) (l : Nat) (H : Heap) : Option Blk → Option (AExit × St)
  | some (.loop st pend _ _ _ _) => if st = 1 then none else some ((match pend with | none => .normal | some e => e),⟨F,H.set l .dead⟩)
  | _ => none
theorem xEZ (l : Nat) (v : AV) (H : Heap) : xEU F l (some (v,H)) = xGu F l H H[l]? := by
  simp only [xEU,xGu]
theorem xJX (l : Nat) (H : Heap) (F1 : List AV) (ps : List Nat) (asg body : ACode) : xGu F l H (some (.loop 0 none F1 ps asg body)) = some (.normal,⟨F,H.set l .dead⟩) := rfl
theorem xJY (l : Nat) (H : Heap) (e : AExit) (F1 : List AV) (ps : List Nat) (asg body : ACode) : xGu F l H (some (.loop 2 (some e) F1 ps asg body)) = some (e,⟨F,H.set l .dead⟩) := rfl
end
section
variable {R : Rec} {F : List AV} {H : Heap} {s : St}
def xT3 : Option (AV × Heap) → Option (AV × List Blk)
  | some (r,H') => (xCE H' r).map fun (v,B) => (v,B.map (·.2))
  | none => none
theorem xCR (f : Nat) (args : List AV) : xBD R f args = xT3 (R.icall (.func f []) args []) := by
  unfold xBD xT3
  cases R.icall (.func f []) args [] <;> rfl
theorem xHK (r : AV) (H' : Heap) : xT3 (some (r,H')) = (xCE H' r).map fun (v,B) => (v,B.map (·.2)) := rfl
def ocK (H : Heap) (ids : List Nat) : Option (AV × List Blk) → Option (AV × Heap)
  | some (v,B) => some (xAF H.length v,fzIds H ids ++ B)
  | none => none
def xT4 (R : Rec) (f : Nat) (H : Heap) (ids : List Nat) : Option (List AV) → Option (AV × Heap)
  | some args' => ocK H ids (xBD R f args')
  | none => none
theorem xQj (f : Nat) (args : List Arg) : xAb R F H (.ocall f args) = xT4 R f H ((args.map (opv F)).flatMap (bor frzN H)) ((args.map (opv F)).mapM (frz frzN H)) := by
  simp only [xAb,xT4]
  cases (args.map (opv F)).mapM (frz frzN H) with
  | none => rfl
  | some args' =>
    simp only [ocK]
    cases xBD R f args' <;> rfl
theorem xHL (f : Nat) (ids : List Nat) (args' : List AV) : xT4 R f H ids (some args') = ocK H ids (xBD R f args') := rfl
theorem xQk (ids : List Nat) (v : AV) (B : List Blk) : ocK H ids (some (v,B)) = some (xAF H.length v,fzIds H ids ++ B) := rfl
def t1B (z : Bool) (id off n es : Nat) (B : List (Nat × Blk)) : Option Blk → Option (AV × List (Nat × Blk))
  | some (.cells false z' cs) => if cs.all xAA = true then some (.own z B.length off n es,B ++ [(id,.cells false z' cs)]) else none
  | _ => none
def t1I (z : Bool) (id off n es : Nat) (B : List (Nat × Blk)) (b : Option Blk) : Option Nat → Option (AV × List (Nat × Blk))
  | some k => some (.own z k off n es,B)
  | none => t1B z id off n es B b
theorem xNv (H : Heap) (z : Bool) (id off n es : Nat) (B : List (Nat × Blk)) : xD5 H (.own z id off n es) B = t1I z id off n es B H[id]? (B.findIdx? (fun p => p.1 == id)) := by
  simp only [xD5,t1I]
  cases B.findIdx? (fun p => p.1 == id) with
  | some k => rfl
  | none =>
    simp only [t1B]
    cases H[id]? with
    | none => rfl
    | some b => cases b with
      | cells fz z' cs => cases fz <;> rfl
      | _ => rfl
theorem xT5 (z : Bool) (id off n es : Nat) (B : List (Nat × Blk)) (b : Option Blk) (k : Nat) : t1I z id off n es B b (some k) = some (.own z k off n es,B) := rfl
theorem xT6 (z : Bool) (id off n es : Nat) (B : List (Nat × Blk)) (z' : Bool) (cs : List AV) : t1I z id off n es B (some (.cells false z' cs)) none = if cs.all xAA = true then some (.own z B.length off n es,B ++ [(id,.cells false z' cs)]) else none := rfl
theorem xNw (H : Heap) (k : IntKind) (n : Int) (B : List (Nat × Blk)) : xD5 H (.int k n) B = some (.int k n,B) := rfl
theorem xJZ (H : Heap) (b : Bool) (B : List (Nat × Blk)) : xD5 H (.bool b) B = some (.bool b,B) := rfl
theorem xQl (H : Heap) (z : Bool) (n : Nat) (cs : List AV) (B : List (Nat × Blk)) : xD5 H (.sl z n cs) B = some (.sl z n cs,B) := rfl
theorem xNx (H : Heap) (b : ByteArray) (B : List (Nat × Blk)) : xD5 H (.str b) B = some (.str b,B) := rfl
def tkL (H : Heap) (vs : List AV) : Option (AV × List (Nat × Blk)) → Option (List AV × List (Nat × Blk))
  | some (v',B') => (xG2 H vs B').map fun (vs',B2) => (v' :: vs',B2)
  | none => none
theorem xNy (H : Heap) (B : List (Nat × Blk)) : xG2 H [] B = some ([],B) := rfl
theorem xJ0 (H : Heap) (v : AV) (vs : List AV) (B : List (Nat × Blk)) : xG2 H (v :: vs) B = tkL H vs (xD5 H v B) := by
  simp only [xG2,tkL]
  cases xD5 H v B <;> rfl
theorem xQm (H : Heap) (vs : List AV) (v' : AV) (B' : List (Nat × Blk)) : tkL H vs (some (v',B')) = (xG2 H vs B').map fun (vs',B2) => (v' :: vs',B2) := rfl
theorem xNz (H : Heap) (cs : List AV) (B : List (Nat × Blk)) : xEE H (.agg cs) B = if cs.all AV.isCell = true then (xG2 H cs B).map fun (cs',B') => (.agg cs',B') else none := rfl
theorem xNA (H : Heap) (z : Bool) (id off n es : Nat) (B : List (Nat × Blk)) : xEE H (.own z id off n es) B = xD5 H (.own z id off n es) B := rfl
theorem xNB (H : Heap) (k : IntKind) (n : Int) (B : List (Nat × Blk)) : xEE H (.int k n) B = some (.int k n,B) := rfl
theorem xJ1 (H : Heap) (b : Bool) (B : List (Nat × Blk)) : xEE H (.bool b) B = some (.bool b,B) := rfl
theorem xQn (H : Heap) (z : Bool) (n : Nat) (cs : List AV) (B : List (Nat × Blk)) : xEE H (.sl z n cs) B = some (.sl z n cs,B) := rfl
def yBM (H : Heap) (vs : List AV) : Option (AV × List (Nat × Blk)) → Option (List AV × List (Nat × Blk))
  | some (v',B') => (xDE H vs B').map fun (vs',B2) => (v' :: vs',B2)
  | none => none
theorem xJ2 (H : Heap) (B : List (Nat × Blk)) : xDE H [] B = some ([],B) := rfl
theorem xHM (H : Heap) (v : AV) (vs : List AV) (B : List (Nat × Blk)) : xDE H (v :: vs) B = yBM H vs (xEE H v B) := by
  simp only [xDE,yBM]
  cases xEE H v B <;> rfl
theorem xNC (H : Heap) (vs : List AV) (v' : AV) (B' : List (Nat × Blk)) : yBM H vs (some (v',B')) = (xDE H vs B').map fun (vs',B2) => (v' :: vs',B2) := rfl
theorem xHN (H : Heap) (vs : List AV) : xCE H (.tup vs) = (xDE H vs []).map fun (vs',B) => (.tup vs',B) := rfl
theorem xHO (H : Heap) (cs : List AV) : xCE H (.agg cs) = xEE H (.agg cs) [] := rfl
theorem xHP (H : Heap) (z : Bool) (id off n es : Nat) : xCE H (.own z id off n es) = xD5 H (.own z id off n es) [] := rfl
theorem xJ3 (H : Heap) (z : Bool) (n : Nat) (cs : List AV) : xCE H (.sl z n cs) = some (.sl z n cs,[]) := rfl
theorem xND {α : Type} (p : α → Bool) : ([] : List α).findIdx? p = none := rfl
theorem xJ4 {α : Type} (p : α → Bool) (a : α) (l : List α) : (a :: l).findIdx? p = if p a = true then some 0 else (l.findIdx? p).map (· + 1) := by
  rw [List.findIdx?_cons]
def xT7 (R : Rec) (als : List (Nat × Nat)) (ls : List (Nat × Nat × Nat × Nat)) (m : Nat) (ops : List AOper) : Option (St × List Pr) → Option (AExit × St)
  | some (s,pl) => xDI ls (xAz R (ops.drop m) (xA9 als pl s))
  | none => none
theorem xNE (als : List (Nat × Nat)) (ls : List (Nat × Nat × Nat × Nat)) (m : Nat) (ops : List AOper) : run R (.drawp als ls m ops) s = xT7 R als ls m ops (xAE R (ops.take m) s) := by
  simp only [run,xT7]
  cases xAE R (ops.take m) s with
  | none => rfl
  | some r =>
    obtain ⟨s1,pl⟩ := r
    simp only [xDI]
    cases xAz R (ops.drop m) (xA9 als pl s1) <;> rfl
theorem xHQ (als : List (Nat × Nat)) (ls : List (Nat × Nat × Nat × Nat)) (m : Nat) (ops : List AOper) (s : St) (pl : List Pr) : xT7 R als ls m ops (some (s,pl)) = xDI ls (xAz R (ops.drop m) (xA9 als pl s)) := rfl
theorem xJ5 (pl : List Pr) (s : St) : xA9 [] pl s = adoptL pl s := rfl
def alK (als : List (Nat × Nat)) : St → St
  | ⟨F,H⟩ => ⟨xBA als F,H⟩
theorem xHR (p : Nat × Nat) (r : List (Nat × Nat)) (pl : List Pr) (s : St) : xA9 (p :: r) pl s = alK (p :: r) (adoptL pl s) := rfl
theorem xXG (als : List (Nat × Nat)) (F : List AV) (H : Heap) : alK als ⟨F,H⟩ = ⟨xBA als F,H⟩ := rfl
theorem xJ6 (F : List AV) : xBA [] F = F := rfl
theorem xHS (d q : Nat) (r : List (Nat × Nat)) (F : List AV) : xBA ((d,q) :: r) F = xBA r (F.set d (F.getD q .any)) := rfl
def xT8 (e : Pr) : Option (St × List Pr) → Option (St × List Pr)
  | some (s,l) => some (s,e :: l)
  | none => none
theorem xJ7 (e : Pr) (s : St) (l : List Pr) : xT8 e (some (s,l)) = some (s,e :: l) := rfl
def xT9 (R : Rec) (rest : List AOper) (s : St) : Option Nat → Option (AV × List Blk) → Option (St × List Pr)
  | some t,some (v,B) => xT8 (some (t,v,B)) (xAE R rest ⟨s.F.set t .any,s.H⟩)
  | _,_ => none
def xUa (R : Rec) (rest : List AOper) : Option St → Option (St × List Pr)
  | some s => xT8 none (xAE R rest s)
  | none => none
theorem xHT : xAE R [] s = some (s,[]) := rfl
theorem xF7 (o : AOper) (rest : List AOper) : xAE R (o :: rest) s = if xAC o.op = true then xT9 R rest s o.dst (xCF R s.F o.op) else xUa R rest (xAK R o s) := by
  simp only [xAE]
  split
  · cases o.dst with
    | none => rfl
    | some t => cases xCF R s.F o.op with
      | none => rfl
      | some r =>
        obtain ⟨v,B⟩ := r
        simp only [xT9]
        cases xAE R rest ⟨s.F.set t .any,s.H⟩ <;> rfl
  · cases xAK R o s with
    | none => rfl
    | some s1 =>
      simp only [xUa]
      cases xAE R rest s1 <;> rfl
theorem xHU (rest : List AOper) (t : Nat) (v : AV) (B : List Blk) : xT9 R rest s (some t) (some (v,B)) = xT8 (some (t,v,B)) (xAE R rest ⟨s.F.set t .any,s.H⟩) := rfl
theorem xHV (rest : List AOper) (s : St) : xUa R rest (some s) = xT8 none (xAE R rest s) := rfl
def xYw : Option (AV × Heap) → Option (AV × List Blk)
  | some (v,B) => if xBz v = true ∧ xDF B = true then some (v,B) else none
  | none => none
theorem xQo (op : AOp) : xCF R F op = if op.args.all (fun x => xAH (opv F x)) = true then xYw (xAb R F [] op) else none := by
  unfold xCF xYw
  split
  · cases xAb R F [] op <;> rfl
  · rfl
theorem xJ8 (v : AV) (B : Heap) : xYw (some (v,B)) = if xBz v = true ∧ xDF B = true then some (v,B) else none := rfl
theorem xF8 (f : Nat) (as : List Arg) : xAC (.ocall f as) = true := rfl
theorem xJ9 (x : Arg) : xAC (.box x) = true := rfl
theorem xHW (z : List AV) (b : Nat) (x y : Arg) : xAC (.mkslice false z b x y) = true := rfl
theorem xHX (z : List AV) (b : Nat) (x y : Arg) : xAC (.mkslice true z b x y) = false := rfl
theorem xHY (z : List AV) (es n : Nat) (ps : List (Nat × Arg)) : xAC (.bslice false z es n ps) = true := rfl
theorem xHZ (z : List AV) (es n : Nat) (ps : List (Nat × Arg)) : xAC (.bslice true z es n ps) = false := rfl
theorem xH0 (es b : Nat) (x y : Arg) : xAC (.append false es b x y) = true := rfl
theorem xH1 (es b : Nat) (x y : Arg) : xAC (.append true es b x y) = false := rfl
theorem xH2 (z : List AV) (b : Nat) (x y : Arg) : xAC (.appendz z b x y) = true := rfl
theorem xKa (x : Arg) : xAC (.mov x) = false := rfl
theorem xH3 (x y z : Arg) : xAC (.pick x y z) = false := rfl
theorem xF9 (z : List AV) (ps : List (Nat × Nat × Arg)) : xAC (.build z ps) = false := rfl
theorem xH4 (g : Bool) (n : Nat) (x : Arg) : xAC (.load g n x) = false := rfl
theorem xE0 (x : Arg) : xAC (.nilchk x) = false := rfl
theorem xKb (op : BinOp) (x y : Arg) : xAC (.bin op x y) = false := rfl
theorem xKc (g : Bool) (x y : Arg) : xAC (.beq g x y) = false := rfl
theorem xGa (g : Bool) (x : Arg) : xAC (.isnil g x) = false := rfl
theorem xNF (op : UnOp) (x : Arg) : xAC (.un op x) = false := rfl
theorem xH5 (k : IntKind) (x : Arg) : xAC (.conv k x) = false := rfl
theorem xE1 (f : Nat) (as : List Arg) : xAC (.mkfunc f as) = false := rfl
theorem xGb (es : Nat) (x : Arg) (a b c : Option Arg) : xAC (.slice es x a b c) = false := rfl
theorem xGc (o : Nat) (x : Arg) : xAC (.faddr o x) = false := rfl
theorem xGd (g : Bool) (o n : Nat) (x : Arg) : xAC (.field g o n x) = false := rfl
theorem xGe (es : Nat) (x i : Arg) : xAC (.iaddr es x i) = false := rfl
theorem xKd (i : Nat) (x : Arg) : xAC (.ext i x) = false := rfl
theorem xKe (x : Arg) : xAC (.len x) = false := rfl
theorem xKf (x : Arg) : xAC (.cap x) = false := rfl
theorem xKg (g : Bool) (n : Nat) (x y : Arg) : xAC (.aeq g n x y) = false := rfl
theorem xH6 (f : Nat) (as : List Arg) : xAC (.call f as) = false := rfl
theorem xGf (f : Arg) (as : List Arg) : xAC (.fcall f as) = false := rfl
theorem xH7 (x y : Arg) : xAC (.maxi x y) = false := rfl
theorem xH8 (x y : Arg) : xAC (.mini x y) = false := rfl
theorem xH9 : xDF [] = true := rfl
theorem xGg (z : Bool) (cs : List AV) (B : List Blk) : xDF (.cells false z cs :: B) = (cs.all xAA && xDF B) := rfl
theorem xK7 {α : Type} {f : α → AV} (h : ∀ a,xAA (f a) = true) (l : List α) : (l.map f).all xAA = true := by
  simp [List.all_eq_true,h]
end
section
variable {R : Rec} {F : List AV} {H : Heap}
end
end Go.Abs
