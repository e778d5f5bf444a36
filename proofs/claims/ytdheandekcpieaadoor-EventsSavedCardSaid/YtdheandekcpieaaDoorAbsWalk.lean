/- The interpreter's equations in the form that simp walks by: one equation for each construct,told apart by what has been computed already. -/
import Derived.Test.YtdheandekcpieaaDoorAbsLim
namespace Go.Abs
set_option linter.unusedVariables false
set_option linter.unusedSimpArgs false
theorem xEL : ∀ (scr : List Nat) (F : List AV) (i : Nat),(xA5 scr F)[i]? = if i ∈ scr then (F[i]?).map (fun _ => AV.any) else F[i]?
  | [],F,i => by simp [xA5]
  | j :: scr,F,i => by
    have := xEL scr (F.set j .any) i
    simp only [xA5,List.foldl_cons] at this ⊢
    rw [this]
    by_cases h : i = j
    · subst h
      simp only [List.getElem?_set_self',List.mem_cons,true_or,if_true]
      cases F[i]? <;> simp
    · have h' : ¬ j = i := fun e => h e.symm
      simp [List.getElem?_set,h,h']
theorem xPH (scr : List Nat) (F : List AV) : xA5 scr (xA5 scr F) = xA5 scr F := by
  apply List.ext_getElem?
  intro i
  rw [xEL,xEL]
  split
  · cases F[i]? <;> rfl
  · rfl
section
variable {prog : Nat → Option AFunc}
theorem xUh (prog : Nat → Option AFunc) (n : Nat) : Tends (fix prog n) (fun _ => lim prog) :=
  ⟨fun f a v h => .all fun _ => xEY ((xFl prog n).pcall f a v h),fun f a H v h => .all fun _ => xEY ((xFl prog n).icall f a H v h),fun scr b s v h => .all fun _ => xEY ((xFl prog n).loop scr b s v h)⟩
theorem Ev.const {p : Prop} (h : Ev fun _ => p) : p := let ⟨n,hn⟩ := h; hn n (Nat.le_refl n)
theorem xUi {α : Type} {a b : Option α} (h1 : ∀ v,a = some v → b = some v) (h2 : ∀ v,b = some v → a = some v) : a = b := by
  cases a with
  | some v => exact (h1 v rfl).symm
  | none =>
    cases b with
    | none => rfl
    | some v => exact h2 v rfl
theorem xAt {f : Nat} {fn : AFunc} (hf : prog f = some fn) (args : List AV) : (lim prog).pcall f args = xBj (lim prog) fn args := by
  refine xUi (fun v h => ?_) (fun v h => xTa hf h)
  obtain ⟨n,hn⟩ := xCM (p := fun m => (fix prog m).pcall f args) h
  have h1 : (xDr prog (fix prog n)).pcall f args = some v := hn (n + 1) (by omega)
  have h2 := (xB7 (xUh prog n) prog).pcall f args v h1 |>.const
  simp only [xDr,hf] at h2
  exact h2
theorem xNo (f : AV) (args : List AV) (H : Heap) : (lim prog).icall f args H = xDB prog (lim prog) f args H := by
  refine xUi (fun v h => ?_) (fun v h => xTb h)
  obtain ⟨n,hn⟩ := xCM (p := fun m => (fix prog m).icall f args H) h
  have h1 : (xDr prog (fix prog n)).icall f args H = some v := hn (n + 1) (by omega)
  exact (xB7 (xUh prog n) prog).icall f args H v h1 |>.const
theorem xE7 (scr : List Nat) (b : ACode) (s : St) : (lim prog).loop scr b s = xH9 (lim prog) scr b s := by
  refine xUi (fun v h => ?_) (fun v h => xWJ h)
  obtain ⟨n,hn⟩ := xCM (p := fun m => (fix prog m).loop scr b s) h
  have h1 : (xDr prog (fix prog n)).loop scr b s = some v := hn (n + 1) (by omega)
  exact (xB7 (xUh prog n) prog).loop scr b s v h1 |>.const
theorem xAI {f : Nat} {fn : AFunc} (hf : prog f = some fn) (caps args : List AV) (H : Heap) : (lim prog).icall (.func f caps) args H = xBU (lim prog) fn (args ++ caps) H := by
  rw [xNo]
  simp only [xDB,hf]
theorem xEU (scr : List Nat) (b : ACode) (F : List AV) (H : Heap) : (lim prog).loop scr b ⟨F,H⟩ = (lim prog).loop scr b ⟨xA5 scr F,H⟩ := by
  rw [xE7,xE7]
  unfold xH9
  simp only [xPH]
def xB5 (R : Rec) (scr : List Nat) (b : ACode) : Option (AExit × St) → Option (AExit × St)
  | some (.normal,s) => R.loop scr b ⟨xA5 scr s.F,s.H⟩
  | some (e,s) => some (e,⟨xA5 scr s.F,s.H⟩)
  | none => none
theorem xAw (scr : List Nat) (b : ACode) (F : List AV) (H : Heap) (h : xA5 scr F = F) : (lim prog).loop scr b ⟨F,H⟩ = xB5 (lim prog) scr b (run (lim prog) b ⟨F,H⟩) := by
  rw [xE7]
  unfold xH9 xB5
  simp only [h]
  split
  · rename_i s' hs
    rw [hs]
    exact xEU scr b s'.F s'.H
  · rename_i e s' hne hs
    rw [hs]
    cases e with
    | normal => exact (hne rfl).elim
    | exit i => rfl
    | ret => rfl
  · rename_i hs
    rw [hs]
theorem xQG (scr : List Nat) (b : ACode) (F : List AV) (H : Heap) : run (lim prog) (.loop scr b) ⟨F,H⟩ = (lim prog).loop scr b ⟨xA5 scr F,H⟩ := xEU scr b F H
end
section
variable {R : Rec} {F : List AV} {H : Heap} {s : St}
def xXv (R : Rec) (b : ACode) : Option (AExit × St) → Option (AExit × St)
  | some (.normal,s) => run R b s
  | r => r
theorem xUj (a b : ACode) : run R (.seq a b) s = xXv R b (run R a s) := by
  simp only [run,xXv]
  split <;> simp_all
theorem xIi (b : ACode) (s : St) : xXv R b (some (.normal,s)) = run R b s := rfl
theorem xNp (b : ACode) (i : Nat) (s : St) : xXv R b (some (.exit i,s)) = some (.exit i,s) := rfl
theorem xQH (b : ACode) (s : St) : xXv R b (some (.ret,s)) = some (.ret,s) := rfl
theorem xNq (b : ACode) : xXv R b none = none := rfl
theorem xQI (b : ACode) {c : Prop} [Decidable c] (x y : Option (AExit × St)) : xXv R b (if c then x else y) = if c then xXv R b x else xXv R b y := by split <;> rfl
def xZY (R : Rec) (a b : ACode) (s : St) : AV → Option (AExit × St)
  | .bool t => if t = true then run R a s else run R b s
  | _ => none
theorem xQJ (c : Arg) (a b : ACode) (F : List AV) (H : Heap) : run R (.cond c a b) ⟨F,H⟩ = xZY R a b ⟨F,H⟩ (opv F c) := by
  simp only [run,xZY]
  split <;> simp_all
theorem xKj (a b : ACode) (t : Bool) : xZY R a b s (.bool t) = if t = true then run R a s else run R b s := rfl
def xFD (id : Nat) : Option (AExit × St) → Option (AExit × St)
  | some (.exit i,s) => if i = id then some (.normal,s) else some (.exit i,s)
  | r => r
theorem xNr (id : Nat) (b : ACode) : run R (.block id b) s = xFD id (run R b s) := by
  simp only [run,xFD]
  split <;> simp_all
theorem xIj (id i : Nat) (s : St) : xFD id (some (.exit i,s)) = if i = id then some (.normal,s) else some (.exit i,s) := rfl
theorem xFE (id : Nat) (s : St) : xFD id (some (.normal,s)) = some (.normal,s) := rfl
theorem xKk (id : Nat) (s : St) : xFD id (some (.ret,s)) = some (.ret,s) := rfl
theorem xIk (id : Nat) : xFD id none = none := rfl
theorem xKl (id : Nat) {c : Prop} [Decidable c] (x y : Option (AExit × St)) : xFD id (if c then x else y) = if c then xFD id x else xFD id y := by split <;> rfl
theorem xGX (scr : List Nat) (b : ACode) (F : List AV) (H : Heap) : xB5 R scr b (some (.normal,⟨F,H⟩)) = R.loop scr b ⟨xA5 scr F,H⟩ := rfl
theorem xKm (scr : List Nat) (b : ACode) (i : Nat) (F : List AV) (H : Heap) : xB5 R scr b (some (.exit i,⟨F,H⟩)) = some (.exit i,⟨xA5 scr F,H⟩) := rfl
theorem xNs (scr : List Nat) (b : ACode) (F : List AV) (H : Heap) : xB5 R scr b (some (.ret,⟨F,H⟩)) = some (.ret,⟨xA5 scr F,H⟩) := rfl
theorem xNt (scr : List Nat) (b : ACode) {c : Prop} [Decidable c] (x y : Option (AExit × St)) : xB5 R scr b (if c then x else y) = if c then xB5 R scr b x else xB5 R scr b y := by split <;> rfl
def xWH : Option St → Option (AExit × St)
  | some s => some (.normal,s)
  | none => none
theorem xNu (s : St) : xWH (some s) = some (.normal,s) := rfl
theorem xNv : xWH none = none := rfl
theorem xQK {c : Prop} [Decidable c] (x y : Option St) : xWH (if c then x else y) = if c then xWH x else xWH y := by split <;> rfl
theorem xKn (ops : List AOper) : run R (.region ops) s = xWH (xAP R ops s) := by
  simp only [run,xWH]
  cases xAP R ops s <;> rfl
theorem xQL : run R .skip s = some (.normal,s) := rfl
theorem xNw : run R .label s = some (.normal,s) := rfl
theorem xQM (i : Nat) : run R (.exit i) s = some (.exit i,s) := rfl
theorem xUk : run R .ret s = some (.ret,s) := rfl
theorem xNx (b : ACode) : run R (.scope b) s = run R b s := rfl
theorem xNy : run R .stuck s = none := rfl
def xZZ (R : Rec) (rest : List AOper) : Option St → Option St
  | some s => xAP R rest s
  | none => none
theorem xKo : xAP R [] s = some s := rfl
theorem xIl (o : AOper) (rest : List AOper) : xAP R (o :: rest) s = xZZ R rest (xBl R o s) := by
  simp only [xAP,xZZ]
  cases xBl R o s <;> rfl
theorem xNz (rest : List AOper) (s : St) : xZZ R rest (some s) = xAP R rest s := rfl
theorem xNA (rest : List AOper) : xZZ R rest none = none := rfl
theorem xQN (rest : List AOper) {c : Prop} [Decidable c] (x y : Option St) : xZZ R rest (if c then x else y) = if c then xZZ R rest x else xZZ R rest y := by split <;> rfl
def xUl (F : List AV) (d : Option Nat) : Option (AV × Heap) → Option St
  | some (v,H) => some ⟨putA F d v,H⟩
  | none => none
theorem xUm (d : Nat) (v : AV) : xUl F (some d) (some (v,H)) = some ⟨F.set d v,H⟩ := rfl
theorem xUn (v : AV) : xUl F none (some (v,H)) = some ⟨F,H⟩ := rfl
theorem xNB (d : Option Nat) : xUl F d none = none := rfl
theorem xQO (d : Option Nat) {c : Prop} [Decidable c] (x y : Option (AV × Heap)) : xUl F d (if c then x else y) = if c then xUl F d x else xUl F d y := by split <;> rfl
theorem xNC (d : Option Nat) (op : AOp) : xBl R ⟨d,op,none⟩ ⟨F,H⟩ = xUl F d (xAb R F H op) := by
  simp only [xBl,xCi,xUl]
  cases xAb R F H op <;> rfl
def xQP (R : Rec) (d : Option Nat) (op : AOp) (w : Bool) (F : List AV) (H : Heap) : AV → Option St
  | .bool b => if b = w then xUl F d (xAb R F H op) else some ⟨putA F d (.tup []),H⟩
  | .any => none
  | _ => some ⟨putA F d (.tup []),H⟩
theorem xKp (d : Option Nat) (op : AOp) (t : Nat) (w : Bool) : xBl R ⟨d,op,some (t,w)⟩ ⟨F,H⟩ = xQP R d op w F H (F.getD t .any) := by
  simp only [xBl,xCi,xQP]
  cases F.getD t .any with
  | bool b =>
    cases b <;> cases w <;> simp [xUl] <;> cases xAb R F H op <;> rfl
  | _ => rfl
theorem xIm (d : Option Nat) (op : AOp) (w b : Bool) : xQP R d op w F H (.bool b) = if b = w then xUl F d (xAb R F H op) else some ⟨putA F d (.tup []),H⟩ := rfl
theorem xKq (d : Option Nat) (op : AOp) (w : Bool) (vs : List AV) : xQP R d op w F H (.tup vs) = some ⟨putA F d (.tup []),H⟩ := rfl
theorem xUo (d : Nat) (v : AV) : putA F (some d) v = F.set d v := rfl
theorem xUp (v : AV) : putA F none v = F := rfl
def xPI (R : Rec) (m : Nat) (ops : List AOper) : Option St → Option (AExit × St)
  | some s => xWH (xAP R (ops.drop m) (adopt (ops.take m) s))
  | none => none
theorem xQQ (m : Nat) (ops : List AOper) : run R (.draw m ops) s = xPI R m ops (xBM R (ops.take m) s) := by
  simp only [run,xPI]
  cases xBM R (ops.take m) s with
  | none => rfl
  | some s1 =>
    simp only [xWH]
    cases xAP R (ops.drop m) (adopt (ops.take m) s1) <;> rfl
theorem xKr (m : Nat) (ops : List AOper) (s : St) : xPI R m ops (some s) = xWH (xAP R (ops.drop m) (adopt (ops.take m) s)) := rfl
theorem xKs (m : Nat) (ops : List AOper) : xPI R m ops none = none := rfl
theorem xND (m : Nat) (ops : List AOper) {c : Prop} [Decidable c] (x y : Option St) : xPI R m ops (if c then x else y) = if c then xPI R m ops x else xPI R m ops y := by split <;> rfl
def xEs (ls : List (Nat × Nat × Nat × Nat)) : Option St → Option (AExit × St)
  | some s => if ls.all (apart s.F) = true then some (.normal,s) else none
  | none => none
def xIn (R : Rec) (ls : List (Nat × Nat × Nat × Nat)) (m : Nat) (ops : List AOper) : Option St → Option (AExit × St)
  | some s => xEs ls (xAP R (ops.drop m) (adopt (ops.take m) s))
  | none => none
theorem xNE (ls : List (Nat × Nat × Nat × Nat)) (m : Nat) (ops : List AOper) : run R (.drawl ls m ops) s = xIn R ls m ops (xBM R (ops.take m) s) := by
  simp only [run,xIn]
  cases xBM R (ops.take m) s with
  | none => rfl
  | some s1 =>
    simp only [xEs]
    cases xAP R (ops.drop m) (adopt (ops.take m) s1) <;> rfl
theorem xIo (ls : List (Nat × Nat × Nat × Nat)) (m : Nat) (ops : List AOper) (s : St) : xIn R ls m ops (some s) = xEs ls (xAP R (ops.drop m) (adopt (ops.take m) s)) := rfl
theorem xIp (ls : List (Nat × Nat × Nat × Nat)) (m : Nat) (ops : List AOper) : xIn R ls m ops none = none := rfl
theorem xKt (ls : List (Nat × Nat × Nat × Nat)) (m : Nat) (ops : List AOper) {c : Prop} [Decidable c] (x y : Option St) : xIn R ls m ops (if c then x else y) = if c then xIn R ls m ops x else xIn R ls m ops y := by split <;> rfl
theorem xIq (ls : List (Nat × Nat × Nat × Nat)) (s : St) : xEs ls (some s) = if ls.all (apart s.F) = true then some (.normal,s) else none := rfl
theorem xIr (ls : List (Nat × Nat × Nat × Nat)) : xEs ls none = none := rfl
theorem xKu (ls : List (Nat × Nat × Nat × Nat)) {c : Prop} [Decidable c] (x y : Option St) : xEs ls (if c then x else y) = if c then xEs ls x else xEs ls y := by split <;> rfl
def xPJ (R : Rec) (rest : List AOper) : Option St → Option St
  | some s => xBM R rest s
  | none => none
theorem xIs : xBM R [] s = some s := rfl
theorem xGY (o : AOper) (rest : List AOper) : xBM R (o :: rest) s = xPJ R rest (xBm R o s) := by
  simp only [xBM,xPJ]
  cases xBm R o s <;> rfl
theorem xKv (rest : List AOper) (s : St) : xPJ R rest (some s) = xBM R rest s := rfl
theorem xKw (rest : List AOper) : xPJ R rest none = none := rfl
theorem xNF (rest : List AOper) {c : Prop} [Decidable c] (x y : Option St) : xPJ R rest (if c then x else y) = if c then xPJ R rest x else xPJ R rest y := by split <;> rfl
def xIt (F : List AV) (d : Option Nat) (H : Heap) : Option (AV × Heap) → Option St
  | some (v,_) => some ⟨putA F d v,H⟩
  | none => none
theorem xQR (d : Nat) (v : AV) (H' : Heap) : xIt F (some d) H (some (v,H')) = some ⟨F.set d v,H⟩ := rfl
theorem xQS (v : AV) (H' : Heap) : xIt F none H (some (v,H')) = some ⟨F,H⟩ := rfl
theorem xKx (d : Option Nat) : xIt F d H none = none := rfl
theorem xNG (d : Option Nat) {c : Prop} [Decidable c] (x y : Option (AV × Heap)) : xIt F d H (if c then x else y) = if c then xIt F d H x else xIt F d H y := by split <;> rfl
def xBn (R : Rec) (F : List AV) (H : Heap) (op : AOp) : Option (AV × Heap) := (xAR R F H op).map fun v => (v,H)
theorem xKy (d : Option Nat) (op : AOp) : xBm R ⟨d,op,none⟩ ⟨F,H⟩ = xIt F d H (xBn R F H op) := by
  simp only [xBm,xCi,xIt,xBn]
  cases xAR R F H op <;> rfl
def xMe (R : Rec) (d : Option Nat) (op : AOp) (w : Bool) (F : List AV) (H : Heap) : AV → Option St
  | .bool b => if b = w then xIt F d H (xBn R F H op) else some ⟨putA F d (.tup []),H⟩
  | .any => none
  | _ => some ⟨putA F d (.tup []),H⟩
theorem xIu (d : Option Nat) (op : AOp) (t : Nat) (w : Bool) : xBm R ⟨d,op,some (t,w)⟩ ⟨F,H⟩ = xMe R d op w F H (F.getD t .any) := by
  simp only [xBm,xCi,xMe]
  cases F.getD t .any with
  | bool b =>
    cases b <;> cases w <;> simp [xIt,xBn] <;> cases xAR R F H op <;> rfl
  | _ => rfl
theorem xGZ (d : Option Nat) (op : AOp) (w b : Bool) : xMe R d op w F H (.bool b) = if b = w then xIt F d H (xBn R F H op) else some ⟨putA F d (.tup []),H⟩ := rfl
theorem xIv (d : Option Nat) (op : AOp) (w : Bool) (vs : List AV) : xMe R d op w F H (.tup vs) = some ⟨putA F d (.tup []),H⟩ := rfl
def xCS (H : Heap) : Option AV → Option (AV × Heap)
  | some v => some (v,H)
  | none => none
theorem xNH (v : AV) : xCS H (some v) = some (v,H) := rfl
theorem xNI : xCS H none = none := rfl
theorem xQT {c : Prop} [Decidable c] (x y : Option AV) : xCS H (if c then x else y) = if c then xCS H x else xCS H y := by split <;> rfl
theorem xYg (x : Arg) : xAb R F H (.mov x) = some (opv F x,H) := rfl
def xZ0 : AV → AV → AV → Option AV
  | .bool t,a,b => some (if t = true then a else b)
  | _,_,_ => none
theorem xKz (t : Bool) (a b : AV) : xZ0 (.bool t) a b = some (if t = true then a else b) := rfl
theorem xUq (c a b : Arg) : xAb R F H (.pick c a b) = xCS H (xZ0 (opv F c) (opv F a) (opv F b)) := by
  simp only [xAb,xZ0,xCS]
  split <;> simp_all
theorem xYh (x : Arg) : xAb R F H (.box x) = if (opv F x).cells.all AV.isCell = true then some (.ptr H.length 0,H ++ [.cells false false (opv F x).cells]) else none := rfl
theorem xQU (z : List AV) (parts : List (Nat × Nat × Arg)) : xAb R F H (.build z parts) =
    if parts.all (fun p => (opv F p.2.2).cells.length == p.2.1) = true then xCS H ((fillA z (parts.map fun p => (p.1,(opv F p.2.2).cells))).map AV.agg) else none := by
  simp only [xAb,xCS]
  split
  · cases fillA z (parts.map fun p => (p.1,(opv F p.2.2).cells)) <;> rfl
  · rfl
def yDf (fz z : Bool) (n es : Nat) (H : Heap) : Option (List AV) → Option (AV × Heap)
  | some cs => xD0 fz z n es cs H
  | none => none
theorem xNJ (fz z : Bool) (n es : Nat) (cs : List AV) : yDf fz z n es H (some cs) = xD0 fz z n es cs H := rfl
theorem xQV (z : Bool) (n es : Nat) (cs : List AV) : xD0 false z n es cs H = some (.own z H.length 0 n es,H ++ [.cells false z cs]) := rfl
def slK (z : Bool) (n : Nat) : Option (List AV) → Option AV
  | some cs => some (.sl z n cs)
  | none => none
theorem xQW (z : Bool) (n : Nat) (cs : List AV) : slK z n (some cs) = some (.sl z n cs) := rfl
theorem xNK (z : Bool) (n es : Nat) (cs : List AV) : xD0 true z n es cs H = if (cs.flatMap (bor frzN H)).isEmpty = true then xCS H (slK z n (cs.mapM (frz frzN H))) else none := by
  simp only [xD0,xCS,slK]
  split
  · rename_i h
    cases cs.mapM (frz frzN H) <;> simp_all
  · simp_all
theorem xNL (fz : Bool) (z : List AV) (es n : Nat) (parts : List (Nat × Arg)) : xAb R F H (.bslice fz z es n parts) =
    if parts.all (fun p => (opv F p.2).cells.length == es) = true then yDf fz false n es H (fillA (xCR z n) (parts.map fun p => (p.1 * es,(opv F p.2).cells))) else none := by
  simp only [xAb,yDf]
  split
  · cases fillA (xCR z n) (parts.map fun p => (p.1 * es,(opv F p.2).cells)) <;> rfl
  · rfl
def xXw (g : Bool) : Option (List AV) → Option AV
  | some cs => mkv g cs
  | none => none
theorem xUr (v : AV) : xXw false (some [v]) = some v := rfl
theorem xUs (cs : List AV) : xXw true (some cs) = some (.agg cs) := rfl
theorem xUt (g : Bool) (n : Nat) (p : Arg) : xAb R F H (.load g n p) = xCS H (xXw g (rd H (opv F p) n)) := by
  simp only [xAb,xCS,xXw]
  cases rd H (opv F p) n with
  | none => rfl
  | some cs => simp only; cases mkv g cs <;> rfl
def rdK (off n : Nat) : Option Blk → Option (List AV)
  | some (.cells _ _ cs) => if off + n ≤ cs.length then some ((cs.drop off).take n) else none
  | _ => none
theorem xYi (id off n : Nat) : rd H (.ptr id off) n = rdK off n H[id]? := by
  simp only [rd,rdK]
  rfl
theorem xNM {off n : Nat} {fz z : Bool} {cs : List AV} (h : off + n ≤ cs.length) : rdK off n (some (.cells fz z cs)) = some ((cs.drop off).take n) := if_pos h
theorem xUu {off n : Nat} {cs : List AV} (h : off + n ≤ cs.length) : rd H (.vptr cs off) n = some ((cs.drop off).take n) := if_pos h
def wrK (H : Heap) (id off : Nat) (vs : List AV) : Option Blk → Option Heap
  | some (.cells false z cs) => if off + vs.length ≤ cs.length ∧ vs.all AV.isCell = true then some (H.set id (.cells false z (splice cs off vs))) else none
  | _ => none
theorem xYj (id off : Nat) (vs : List AV) : wr H (.ptr id off) vs = wrK H id off vs H[id]? := by
  simp only [wr,wrK]
  rfl
theorem xIw {id off : Nat} {vs : List AV} {z : Bool} {cs : List AV} (h : off + vs.length ≤ cs.length) (h2 : vs.all AV.isCell = true) : wrK H id off vs (some (.cells false z cs)) = some (H.set id (.cells false z (splice cs off vs))) := if_pos ⟨h,h2⟩
def xUv : Option Heap → Option (AV × Heap)
  | some H => some (.tup [],H)
  | none => none
theorem xIx (H : Heap) : xUv (some H) = some (.tup [],H) := rfl
theorem xQX (n : Nat) (p v : Arg) : xAb R F H (.store n p v) = if (opv F v).cells.length = n then xUv (wr H (opv F p) (opv F v).cells) else none := by
  simp only [xAb,xUv]
  split
  · cases wr H (opv F p) (opv F v).cells <;> rfl
  · rfl
def yBM : AV → Option AV
  | .ptr id off => some (.ptr id off)
  | .vptr cs off => some (.vptr cs off)
  | .func f caps => some (.func f caps)
  | .yield l => some (.yield l)
  | _ => none
theorem xQY (id off : Nat) : yBM (.ptr id off) = some (.ptr id off) := rfl
theorem xNN (cs : List AV) (off : Nat) : yBM (.vptr cs off) = some (.vptr cs off) := rfl
theorem xNO (f : Nat) (cs : List AV) : yBM (.func f cs) = some (.func f cs) := rfl
theorem xKA (l : Nat) : yBM (.yield l) = some (.yield l) := rfl
theorem xNP (x : Arg) : xAb R F H (.nilchk x) = xCS H (yBM (opv F x)) := by
  simp only [xAb]
  cases opv F x <;> rfl
theorem xYk (op : BinOp) (x y : Arg) : xAb R F H (.bin op x y) = xCS H (xDS op (opv F x) (opv F y)) := by
  simp only [xAb,xCS]
  cases xDS op (opv F x) (opv F y) <;> rfl
section
variable (k : IntKind) (a b : Int)
theorem xUw : xDS .add (.int k a) (.int k b) = some (.int k (k.wrap (a + b))) := by simp [xDS]
theorem xUx : xDS .sub (.int k a) (.int k b) = some (.int k (k.wrap (a - b))) := by simp [xDS]
theorem xUy : xDS .mul (.int k a) (.int k b) = some (.int k (k.wrap (a * b))) := by simp [xDS]
theorem xUz (h : b ≠ 0) : xDS .quo (.int k a) (.int k b) = some (.int k (k.wrap (a.tdiv b))) := by simp [xDS,h]
theorem xUA (h : b ≠ 0) : xDS .rem (.int k a) (.int k b) = some (.int k (a.tmod b)) := by simp [xDS,h]
theorem xUB : xDS .and (.int k a) (.int k b) = some (.int k (xDz .and k a b)) := by simp [xDS]
theorem xYl : xDS .or (.int k a) (.int k b) = some (.int k (xDz .or k a b)) := by simp [xDS]
theorem xUC : xDS .xor (.int k a) (.int k b) = some (.int k (xDz .xor k a b)) := by simp [xDS]
theorem xKB : xDS .andNot (.int k a) (.int k b) = some (.int k (xDz .andNot k a b)) := by simp [xDS]
theorem xUD (k' : IntKind) (h : 0 ≤ b) : xDS .shl (.int k a) (.int k' b) = some (.int k (k.wrap (a * 2 ^ (min b.toNat k.bits)))) := by simp only [xDS]; rw [if_neg (by omega)]
theorem xUE (k' : IntKind) (h : 0 ≤ b) : xDS .shr (.int k a) (.int k' b) = some (.int k (a.fdiv (2 ^ (min b.toNat k.bits)))) := by simp only [xDS]; rw [if_neg (by omega)]
theorem xUF : xDS .eql (.int k a) (.int k b) = some (.bool (decide (a = b))) := by simp [xDS]; rfl
theorem xUG : xDS .neq (.int k a) (.int k b) = some (.bool (!decide (a = b))) := by simp [xDS]; rfl
theorem xUH : xDS .lss (.int k a) (.int k b) = some (.bool (decide (a < b))) := by simp [xDS]
theorem xUI : xDS .leq (.int k a) (.int k b) = some (.bool (decide (a ≤ b))) := by simp [xDS]
theorem xUJ : xDS .gtr (.int k a) (.int k b) = some (.bool (decide (b < a))) := by simp [xDS]
theorem xUK : xDS .geq (.int k a) (.int k b) = some (.bool (decide (b ≤ a))) := by simp [xDS]
end
def yDg (neg : Bool) : AV → AV → Option AV
  | .bool a,.bool b => some (.bool (if neg = true then a != b else a == b))
  | _,_ => none
theorem xYm (a b : Bool) : yDg false (.bool a) (.bool b) = some (.bool (decide (a = b))) := by cases a <;> cases b <;> rfl
theorem xYn (a b : Bool) : yDg true (.bool a) (.bool b) = some (.bool (!decide (a = b))) := by cases a <;> cases b <;> rfl
theorem xYo (neg : Bool) (x y : Arg) : xAb R F H (.beq neg x y) = xCS H (yDg neg (opv F x) (opv F y)) := by
  simp only [xAb]
  cases opv F x <;> cases opv F y <;> rfl
def xNQ (neg : Bool) : AV → Option AV
  | .sl z _ _ => some (.bool (z != neg))
  | .own z _ _ _ _ => some (.bool (z != neg))
  | _ => none
theorem xKC (z : Bool) (n : Nat) (cs : List AV) : xNQ false (.sl z n cs) = some (.bool z) := by cases z <;> rfl
theorem xKD (z : Bool) (n : Nat) (cs : List AV) : xNQ true (.sl z n cs) = some (.bool (!z)) := by cases z <;> rfl
theorem xIy (z : Bool) (id off n es : Nat) : xNQ false (.own z id off n es) = some (.bool z) := by cases z <;> rfl
theorem xIz (z : Bool) (id off n es : Nat) : xNQ true (.own z id off n es) = some (.bool (!z)) := by cases z <;> rfl
theorem xQZ (neg : Bool) (x : Arg) : xAb R F H (.isnil neg x) = xCS H (xNQ neg (opv F x)) := by
  simp only [xAb]
  cases opv F x <;> rfl
theorem yBN (op : UnOp) (x : Arg) : xAb R F H (.un op x) = xCS H (unA op (opv F x)) := by
  simp only [xAb,xCS]
  cases unA op (opv F x) <;> rfl
theorem xYp (b : Bool) : unA .not (.bool b) = some (.bool !b) := rfl
theorem xYq (k : IntKind) (n : Int) : unA .neg (.int k n) = some (.int k (k.wrap (0 - n))) := rfl
theorem xYr (k : IntKind) (n : Int) : unA .xor (.int k n) = some (.int k (xDz .xor k (if k.signed then -1 else k.max) n)) := rfl
def yBO (k : IntKind) : AV → Option AV
  | .int _ n => some (.int k (k.wrap n))
  | _ => none
theorem xNR (k k' : IntKind) (n : Int) : yBO k (.int k' n) = some (.int k (k.wrap n)) := rfl
theorem xUL (k : IntKind) (x : Arg) : xAb R F H (.conv k x) = xCS H (yBO k (opv F x)) := by
  simp only [xAb]
  cases opv F x <;> rfl
theorem xNS (f : Nat) (caps : List Arg) : xAb R F H (.mkfunc f caps) = some (.func f (caps.map (opv F)),H) := rfl
def yEw (fz : Bool) (z : List AV) (bytes : Nat) (H : Heap) : AV → AV → Option (AV × Heap)
  | .int _ l,.int _ c => if 0 ≤ l ∧ l ≤ c ∧ c * bytes ≤ xBC ∧ c ≤ xBC ∧ z.all AV.isCell = true then xD0 fz false l.toNat z.length (xCR z l.toNat) H else none
  | _,_ => none
theorem xQ0 (fz : Bool) (z : List AV) (bytes : Nat) (k k' : IntKind) {l c : Int} (h1 : 0 ≤ l) (h2 : l ≤ c) (h3 : c * bytes ≤ 140737488355328) (h4 : c ≤ 140737488355328) (h5 : z.all AV.isCell = true) : yEw fz z bytes H (.int k l) (.int k' c) = xD0 fz false l.toNat z.length (xCR z l.toNat) H := if_pos ⟨h1,h2,h3,h4,h5⟩
theorem xKE (fz : Bool) (z : List AV) (bytes : Nat) (l c : Arg) : xAb R F H (.mkslice fz z bytes l c) = yEw fz z bytes H (opv F l) (opv F c) := by
  simp only [xAb]
  cases opv F l <;> cases opv F c <;> rfl
def xZ1 (es : Nat) (H : Heap) (x : AV) : Option (Nat × Nat) → Option AV
  | none => none
  | some (l,h) => match x with
    | .sl z _ cs => some (.sl z (h - l) ((cs.drop (l * es)).take ((h - l) * es)))
    | .own z id off _ _ => some (.own z id (off + l * es) (h - l) es)
    | _ => none
def xQ1 (es : Nat) (H : Heap) (lo hi mx : Option AV) : AV → Option AV
  | .sl z n cs => if cs.length = n * es then xZ1 es H (.sl z n cs) (xBI n lo hi mx) else none
  | .own z id off n es' => if es' = es then xZ1 es H (.own z id off n es') (xBI n lo hi mx) else none
  | _ => none
theorem xQ2 (es : Nat) (x : Arg) (lo hi mx : Option Arg) : xAb R F H (.slice es x lo hi mx) = xCS H (xQ1 es H (lo.map (opv F)) (hi.map (opv F)) (mx.map (opv F)) (opv F x)) := by
  simp only [xAb,xCS,xQ1,xZ1]
  cases opv F x with
  | sl z n cs =>
    simp only
    split
    · cases xBI n (lo.map (opv F)) (hi.map (opv F)) (mx.map (opv F)) <;> rfl
    · rfl
  | own z id off n es' =>
    simp only
    split
    · cases xBI n (lo.map (opv F)) (hi.map (opv F)) (mx.map (opv F)) <;> rfl
    · rfl
  | _ => rfl
theorem xNT {es n : Nat} {z : Bool} {cs : List AV} (lo hi mx : Option AV) (h : cs.length = n * es) : xQ1 es H lo hi mx (.sl z n cs) = xZ1 es H (.sl z n cs) (xBI n lo hi mx) := if_pos h
theorem xKF {es n id off : Nat} {z : Bool} (lo hi mx : Option AV) : xQ1 es H lo hi mx (.own z id off n es) = xZ1 es H (.own z id off n es) (xBI n lo hi mx) := if_pos rfl
theorem xUM (es : Nat) (z : Bool) (n : Nat) (cs : List AV) (l h : Nat) : xZ1 es H (.sl z n cs) (some (l,h)) = some (.sl z (h - l) ((cs.drop (l * es)).take ((h - l) * es))) := rfl
theorem xQ3 (es : Nat) (z : Bool) (id off n es' : Nat) (l h : Nat) : xZ1 es H (.own z id off n es') (some (l,h)) = some (.own z id (off + l * es) (h - l) es) := rfl
theorem xNU (n : Nat) : xBI n none none none = some (0,n) := by simp [xBI]
theorem xNV {n : Nat} {k : IntKind} {l : Int} (h0 : 0 ≤ l) (h : l ≤ n) : xBI n (some (.int k l)) none none = some (l.toNat,n) := by
  simp only [xBI,xBL,if_pos h0]
  rw [if_pos ⟨by omega,by omega⟩]
theorem xEt {n : Nat} {k : IntKind} {m : Int} (h0 : 0 ≤ m) (h : m ≤ n) : xBI n none (some (.int k m)) none = some (0,m.toNat) := by
  simp only [xBI,xBL,if_pos h0]
  rw [if_pos ⟨by omega,by omega⟩]
theorem xIA {n : Nat} {k k' : IntKind} {l m : Int} (h0 : 0 ≤ l) (h1 : l ≤ m) (h : m ≤ n) : xBI n (some (.int k l)) (some (.int k' m)) none = some (l.toNat,m.toNat) := by
  have h2 : 0 ≤ m := by omega
  simp only [xBI,xBL,if_pos h0,if_pos h2]
  rw [if_pos ⟨by omega,by omega⟩]
def xUN (o : Nat) : AV → Option AV
  | .ptr id off => some (.ptr id (off + o))
  | .vptr cs off => some (.vptr cs (off + o))
  | _ => none
theorem xKG (o id off : Nat) : xUN o (.ptr id off) = some (.ptr id (off + o)) := rfl
theorem xIB (o : Nat) (cs : List AV) (off : Nat) : xUN o (.vptr cs off) = some (.vptr cs (off + o)) := rfl
theorem xQ4 (o : Nat) (x : Arg) : xAb R F H (.faddr o x) = xCS H (xUN o (opv F x)) := by
  simp only [xAb]
  cases opv F x <;> rfl
def xUO (g : Bool) (off n : Nat) : AV → Option AV
  | .agg cs => if off + n ≤ cs.length then mkv g ((cs.drop off).take n) else none
  | _ => none
theorem xKH {g : Bool} {off n : Nat} {cs : List AV} (h : off + n ≤ cs.length) : xUO g off n (.agg cs) = mkv g ((cs.drop off).take n) := if_pos h
theorem yBP (v : AV) : mkv false [v] = some v := rfl
theorem yBQ (cs : List AV) : mkv true cs = some (.agg cs) := rfl
theorem xQ5 (g : Bool) (off n : Nat) (x : Arg) : xAb R F H (.field g off n x) = xCS H (xUO g off n (opv F x)) := by
  simp only [xAb]
  cases opv F x with
  | agg cs =>
    simp only [xUO,xCS]
    split
    · cases mkv g ((cs.drop off).take n) <;> rfl
    · rfl
  | _ => rfl
def xKI (es : Nat) : AV → AV → Option AV
  | .sl _ n cs,.int _ i => if 0 ≤ i ∧ i.toNat < n then some (.vptr cs (i.toNat * es)) else none
  | .own _ id off n es',.int _ i => if 0 ≤ i ∧ i.toNat < n ∧ es' = es then some (.ptr id (off + i.toNat * es)) else none
  | _,_ => none
theorem xNW {es n : Nat} {z : Bool} {cs : List AV} {k : IntKind} {i : Int} (h0 : 0 ≤ i) (h : i < n) : xKI es (.sl z n cs) (.int k i) = some (.vptr cs (i.toNat * es)) := if_pos ⟨h0,by omega⟩
theorem xKJ {es n id off : Nat} {z : Bool} {k : IntKind} {i : Int} (h0 : 0 ≤ i) (h : i < n) : xKI es (.own z id off n es) (.int k i) = some (.ptr id (off + i.toNat * es)) := if_pos ⟨h0,by omega,rfl⟩
theorem xQ6 (es : Nat) (x i : Arg) : xAb R F H (.iaddr es x i) = xCS H (xKI es (opv F x) (opv F i)) := by
  simp only [xAb]
  cases opv F x with
  | sl z n cs =>
    cases opv F i with
    | int k j =>
      simp only [xBL,xKI,xCS]
      by_cases h : 0 ≤ j
      · by_cases h2 : j.toNat < n <;> simp [h,h2]
      · simp [h]
    | _ => rfl
  | own z id off n es' =>
    cases opv F i with
    | int k j =>
      simp only [xBL,xKI,xCS]
      by_cases h : 0 ≤ j
      · by_cases h2 : j.toNat < n
        · by_cases h3 : es' = es <;> simp [h,h2,h3]
        · simp [h,h2]
      · simp [h]
    | _ => rfl
  | _ => cases opv F i <;> simp [xKI,xCS,xBL] <;> split <;> simp_all
def yDh (i : Nat) : AV → Option AV
  | .tup vs => vs[i]?
  | _ => none
theorem xQ7 (i : Nat) (vs : List AV) : yDh i (.tup vs) = vs[i]? := rfl
theorem xYs (i : Nat) (x : Arg) : xAb R F H (.ext i x) = xCS H (yDh i (opv F x)) := by
  simp only [xAb]
  cases opv F x with
  | tup vs => simp only [yDh,xCS]; cases vs[i]? <;> rfl
  | _ => rfl
def yDi : AV → Option AV
  | .sl _ n _ => some (.int .i64 n)
  | .own _ _ _ n _ => some (.int .i64 n)
  | _ => none
theorem xUP (z : Bool) (n : Nat) (cs : List AV) : yDi (.sl z n cs) = some (.int .i64 n) := rfl
theorem xQ8 (z : Bool) (id off n es : Nat) : yDi (.own z id off n es) = some (.int .i64 n) := rfl
theorem xYt (x : Arg) : xAb R F H (.len x) = xCS H (yDi (opv F x)) := by
  simp only [xAb]
  cases opv F x <;> rfl
theorem xYu (x : Arg) : xAb R F H (.cap x) = match opv F x with
  | .sl true _ _ => some (.int .i64 0,H)
  | _ => none := rfl
def yDj (neg : Bool) (n : Nat) : AV → AV → Option AV
  | .agg cs,.agg ds => if cs.length = n then (xCh cs ds).map fun b => .bool (b != neg) else none
  | _,_ => none
theorem xQ9 {neg : Bool} {n : Nat} {cs ds : List AV} (h : cs.length = n) : yDj neg n (.agg cs) (.agg ds) = (xCh cs ds).map fun b => .bool (b != neg) := if_pos h
theorem xYv (neg : Bool) (n : Nat) (x y : Arg) : xAb R F H (.aeq neg n x y) = xCS H (yDj neg n (opv F x) (opv F y)) := by
  simp only [xAb]
  cases opv F x with
  | agg cs => cases opv F y with
    | agg ds =>
      simp only [yDj,xCS]
      split
      · cases xCh cs ds <;> rfl
      · rfl
    | _ => rfl
  | _ => rfl
def xYw (fz : Bool) (es bytes : Nat) (H : Heap) (x : AV) : Option (Nat × List AV) → Option (AV × Heap)
  | none => none
  | some (m,ys) => match x with
    | .sl true _ _ => if m * bytes ≤ xBC ∧ m ≤ xBC then xD0 fz (m == 0) m es ys H else none
    | .own z id off n es' => match H[id]? with
      | some (.cells false _ cs) => if off = 0 ∧ es' = es ∧ n * es ≤ cs.length ∧ (n + m) * bytes ≤ xBC ∧ n + m ≤ xBC then
          some (.own (z && m == 0) H.length 0 (n + m) es,H.set id .dead ++ [.cells false (z && m == 0) (cs.take (n * es) ++ ys)]) else none
      | _ => none
    | _ => none
theorem xIC (fz : Bool) (es bytes : Nat) (x y : Arg) : xAb R F H (.append fz es bytes x y) = xYw fz es bytes H (opv F x) (src H es (opv F y)) := by
  simp only [xAb,xYw]
  cases src H es (opv F y) <;> rfl
theorem xRa {fz : Bool} {es bytes n m : Nat} {cs ys : List AV} (h : m * bytes ≤ 140737488355328) (h2 : m ≤ 140737488355328) : xYw fz es bytes H (.sl true n cs) (some (m,ys)) = xD0 fz (m == 0) m es ys H := if_pos ⟨h,h2⟩
def xZ2 (es bytes n m : Nat) (H : Heap) (z : Bool) (id : Nat) (ys : List AV) : Option Blk → Option (AV × Heap)
  | some (.cells false _ cs) => if n * es ≤ cs.length ∧ (n + m) * bytes ≤ xBC ∧ n + m ≤ xBC then
      some (.own (z && m == 0) H.length 0 (n + m) es,H.set id .dead ++ [.cells false (z && m == 0) (cs.take (n * es) ++ ys)]) else none
  | _ => none
theorem xRb (fz : Bool) (es bytes n m id : Nat) (z : Bool) (ys : List AV) : xYw fz es bytes H (.own z id 0 n es) (some (m,ys)) = xZ2 es bytes n m H z id ys H[id]? := by
  simp only [xYw,xZ2]
  split
  · rename_i z' cs hb
    by_cases h : n * es ≤ cs.length ∧ (n + m) * bytes ≤ xBC ∧ n + m ≤ xBC
    · rw [if_pos h,if_pos ⟨trivial,trivial,h⟩]
    · rw [if_neg h,if_neg (fun g => h g.2.2)]
  · rename_i hne
    cases hb : H[id]? with
    | none => rfl
    | some b => cases b with
      | cells fz z cs => cases fz with
        | false => exact (hne _ _ hb).elim
        | true => rfl
      | _ => rfl
theorem xID {es bytes n m id : Nat} {z z' : Bool} {ys cs : List AV} (h : n * es ≤ cs.length) (h2 : (n + m) * bytes ≤ 140737488355328) (h3 : n + m ≤ 140737488355328) : xZ2 es bytes n m H z id ys (some (.cells false z' cs)) =
    some (.own (z && m == 0) H.length 0 (n + m) es,H.set id .dead ++ [.cells false (z && m == 0) (cs.take (n * es) ++ ys)]) := if_pos ⟨h,h2,h3⟩
theorem xYx {es n : Nat} {z : Bool} {cs : List AV} (h : cs.length = n * es) : src H es (.sl z n cs) = some (n,cs) := if_pos h
def yDk (off n es : Nat) : Option Blk → Option (Nat × List AV)
  | some (.cells _ _ cs) => if off + n * es ≤ cs.length then some (n,(cs.drop off).take (n * es)) else none
  | _ => none
theorem xUQ (es n id off : Nat) (z : Bool) : src H es (.own z id off n es) = yDk off n es H[id]? := by
  simp only [src,yDk]
  cases H[id]? with
  | none => rfl
  | some b => cases b <;> simp
theorem xKK {es n off : Nat} {fz z : Bool} {cs : List AV} (h : off + n * es ≤ cs.length) : yDk off n es (some (.cells fz z cs)) = some (n,(cs.drop off).take (n * es)) := if_pos h
def xUR (z : List AV) (bytes id off k es m : Nat) (H : Heap) : Option Blk → Option (AV × Heap)
  | some (.cells false _ cs) => if off = 0 ∧ es = z.length ∧ k * z.length ≤ cs.length ∧ (k + m) * bytes ≤ xBC ∧ k + m ≤ xBC ∧ 0 < m ∧ z.all AV.isCell = true then
      some (.own false H.length 0 (k + m) z.length,H.set id .dead ++ [.cells false false (cs.take (k * z.length) ++ xCR z m)]) else none
  | _ => none
def xGj (z : List AV) (bytes : Nat) (H : Heap) : AV → AV → Option (AV × Heap)
  | .sl true _ _,.int _ m => if 0 ≤ m ∧ m.toNat * bytes ≤ xBC ∧ m.toNat ≤ xBC ∧ z.all AV.isCell = true then xD0 false (m.toNat == 0) m.toNat z.length (xCR z m.toNat) H else none
  | .own false id off k es,.int _ m => if 0 ≤ m then xUR z bytes id off k es m.toNat H H[id]? else none
  | _,_ => none
theorem xPK (z : List AV) (bytes id off k es m : Nat) (H : Heap) (b : Option Blk) : (match b with
      | some (.cells false _ cs) => if off = 0 ∧ es = z.length ∧ k * z.length ≤ cs.length ∧ (k + m) * bytes ≤ xBC ∧ k + m ≤ xBC ∧ 0 < m ∧ z.all AV.isCell = true then
          some (AV.own false H.length 0 (k + m) z.length,H.set id .dead ++ [.cells false false (cs.take (k * z.length) ++ xCR z m)]) else none
      | _ => none) = xUR z bytes id off k es m H b := by
  rcases b with _ | b
  · rfl
  · cases b with
    | cells fz zz cs => cases fz <;> rfl
    | _ => rfl
theorem xKL (z : List AV) (bytes : Nat) (x n : Arg) : xAb R F H (.appendz z bytes x n) = xGj z bytes H (opv F x) (opv F n) := by
  simp only [xAb]
  cases hn : opv F n with
  | int k m =>
    simp only [xBL]
    by_cases h : 0 ≤ m
    · cases hx : opv F x with
      | sl zz nn cs => cases zz <;> simp [xGj,h]
      | own zz id off kk es =>
        cases zz with
        | true => simp [xGj,h]
        | false => simp only [h,if_true,xGj]; exact xPK _ _ _ _ _ _ _ _ _
      | _ => simp [xGj,h]
    · cases hx : opv F x with
      | sl zz nn cs => cases zz <;> simp [xGj,h]
      | own zz id off kk es => cases zz <;> simp [xGj,h]
      | _ => simp [xGj,h]
  | _ =>
    cases hx : opv F x with
    | sl zz nn cs => cases zz <;> simp [xGj,xBL]
    | own zz id off kk es => cases zz <;> simp [xGj,xBL]
    | _ => simp [xGj,xBL]
theorem xUS {z : List AV} {bytes id off k es : Nat} {kk : IntKind} {m : Int} (h0 : 0 ≤ m) : xGj z bytes H (.own false id off k es) (.int kk m) = xUR z bytes id off k es m.toNat H H[id]? := if_pos h0
theorem xPL {z : List AV} {bytes id k m : Nat} {zz : Bool} {cs : List AV} (h1 : k * z.length ≤ cs.length) (h2 : (k + m) * bytes ≤ 140737488355328) (h3 : k + m ≤ 140737488355328) (h4 : 0 < m) (h5 : z.all AV.isCell = true) :
    xUR z bytes id 0 k z.length m H (some (.cells false zz cs)) = some (.own false H.length 0 (k + m) z.length,H.set id .dead ++ [.cells false false (cs.take (k * z.length) ++ xCR z m)]) := if_pos ⟨rfl,rfl,h1,h2,h3,h4,h5⟩
theorem xNX {z : List AV} {bytes n : Nat} {cs : List AV} {k : IntKind} {m : Int} (h0 : 0 ≤ m) (h1 : m.toNat * bytes ≤ 140737488355328) (h2 : m.toNat ≤ 140737488355328) (h3 : z.all AV.isCell = true) : xGj z bytes H (.sl true n cs) (.int k m) = xD0 false (m.toNat == 0) m.toNat z.length (xCR z m.toNat) H := if_pos ⟨h0,h1,h2,h3⟩
def yDl : AV → AV → Option AV
  | .int k a,.int _ b => some (.int k (max a b))
  | _,_ => none
def yDm : AV → AV → Option AV
  | .int k a,.int _ b => some (.int k (min a b))
  | _,_ => none
theorem xRc (k k' : IntKind) (a b : Int) : yDl (.int k a) (.int k' b) = some (.int k (max a b)) := rfl
theorem xRd (k k' : IntKind) (a b : Int) : yDm (.int k a) (.int k' b) = some (.int k (min a b)) := rfl
theorem xUT (x y : Arg) : xAb R F H (.maxi x y) = xCS H (yDl (opv F x) (opv F y)) := by
  simp only [xAb]
  cases opv F x with
  | int k a => cases opv F y with
    | int k' b => simp only [yDl,xCS]; congr 3; split <;> omega
    | _ => rfl
  | _ => rfl
theorem xUU (x y : Arg) : xAb R F H (.mini x y) = xCS H (yDm (opv F x) (opv F y)) := by
  simp only [xAb]
  cases opv F x with
  | int k a => cases opv F y with
    | int k' b => simp only [yDm,xCS]; congr 3; split <;> omega
    | _ => rfl
  | _ => rfl
theorem xYy (z : List AV) : xCR z 0 = [] := rfl
theorem xYz (z : List AV) : xCR z 1 = z ++ ([]) := rfl
theorem xYA (z : List AV) : xCR z 2 = z ++ (z ++ ([])) := rfl
theorem xYB (z : List AV) : xCR z 3 = z ++ (z ++ (z ++ ([]))) := rfl
theorem xYC (z : List AV) : xCR z 4 = z ++ (z ++ (z ++ (z ++ ([])))) := rfl
theorem xYD (z : List AV) : xCR z 5 = z ++ (z ++ (z ++ (z ++ (z ++ ([]))))) := rfl
theorem xYE (z : List AV) : xCR z 6 = z ++ (z ++ (z ++ (z ++ (z ++ (z ++ ([])))))) := rfl
theorem xYF (z : List AV) : xCR z 7 = z ++ (z ++ (z ++ (z ++ (z ++ (z ++ (z ++ ([]))))))) := rfl
theorem xYG (z : List AV) : xCR z 8 = z ++ (z ++ (z ++ (z ++ (z ++ (z ++ (z ++ (z ++ ([])))))))) := rfl
theorem xYH (z : List AV) : xCR z 9 = z ++ (z ++ (z ++ (z ++ (z ++ (z ++ (z ++ (z ++ (z ++ ([]))))))))) := rfl
theorem xUV (z : List AV) : xCR z 10 = z ++ (z ++ (z ++ (z ++ (z ++ (z ++ (z ++ (z ++ (z ++ (z ++ ([])))))))))) := rfl
theorem xUW (z : List AV) : xCR z 11 = z ++ (z ++ (z ++ (z ++ (z ++ (z ++ (z ++ (z ++ (z ++ (z ++ (z ++ ([]))))))))))) := rfl
theorem xUX (z : List AV) : xCR z 12 = z ++ (z ++ (z ++ (z ++ (z ++ (z ++ (z ++ (z ++ (z ++ (z ++ (z ++ (z ++ ([])))))))))))) := rfl
theorem xEu (d : Nat) (k : IntKind) (n : Int) : frz d H (.int k n) = some (.int k n) := by cases d <;> rfl
theorem xHw (d : Nat) (b : Bool) : frz d H (.bool b) = some (.bool b) := by cases d <;> rfl
theorem xUY (d : Nat) (b : ByteArray) : frz d H (.str b) = some (.str b) := by cases d <;> rfl
theorem xRe (d : Nat) : frz d H .nilp = some .nilp := by cases d <;> rfl
theorem xRf (d : Nat) : frz d H .nilf = some .nilf := by cases d <;> rfl
theorem xUZ (d : Nat) : frz d H .any = some .any := by cases d <;> rfl
theorem xRg (d f : Nat) : frz d H (.func f []) = some (.func f []) := by cases d <;> rfl
theorem xFF (d : Nat) (z : Bool) (n : Nat) (cs : List AV) : frz d H (.sl z n cs) = some (.sl z n cs) := by cases d <;> rfl
theorem xU0 (d : Nat) (cs : List AV) : frz (d + 1) H (.agg cs) = (cs.mapM (frz d H)).map AV.agg := rfl
theorem xU1 (d : Nat) (cs : List AV) : frz (d + 1) H (.tup cs) = (cs.mapM (frz d H)).map AV.tup := rfl
def yDn (d : Nat) (H : Heap) (z : Bool) (off n es : Nat) : Option Blk → Option AV
  | some (.cells _ _ cs) => if off + n * es ≤ cs.length then slK z n (((cs.drop off).take (n * es)).mapM (frz d H)) else none
  | _ => none
theorem xAg (d : Nat) (z : Bool) (id off n es : Nat) : frz (d + 1) H (.own z id off n es) = yDn d H z off n es H[id]? := by
  simp only [frz,yDn]
  cases H[id]? with
  | none => rfl
  | some b => cases b with
    | cells fz z' cs =>
      simp only
      split
      · cases ((cs.drop off).take (n * es)).mapM (frz d H) <;> rfl
      · rfl
    | _ => rfl
theorem xGk {d off n es : Nat} {z fz z' : Bool} {cs : List AV} (h : off + n * es ≤ cs.length) : yDn d H z off n es (some (.cells fz z' cs)) = slK z n (((cs.drop off).take (n * es)).mapM (frz d H)) := if_pos h
theorem xE8 (d : Nat) (k : IntKind) (n : Int) : bor d H (.int k n) = [] := by cases d <;> rfl
theorem xRh (d : Nat) (b : Bool) : bor d H (.bool b) = [] := by cases d <;> rfl
theorem xU2 (d : Nat) (b : ByteArray) : bor d H (.str b) = [] := by cases d <;> rfl
theorem xRi (d : Nat) : bor d H .nilp = [] := by cases d <;> rfl
theorem xRj (d : Nat) : bor d H .nilf = [] := by cases d <;> rfl
theorem xU3 (d : Nat) : bor d H .any = [] := by cases d <;> rfl
theorem xRk (d f : Nat) (cs : List AV) : bor d H (.func f cs) = [] := by cases d <;> rfl
theorem xYI (ss : List Nat) (b : ACode) (s : St) : run R (.fz ss b) s = run R b ⟨s.F,fzIds s.H (ss.flatMap fun i => bor frzN s.H (s.F.getD i .any))⟩ := rfl
def yDo (R : Rec) (i : Nat) (b : ACode) (s : St) (ids : List Nat) : Option AV → Option (AExit × St)
  | some v => run R b ⟨s.F.set i v,fzIds s.H ids⟩
  | none => none
theorem xU4 (i : Nat) (b : ACode) (s : St) : run R (.fzs i b) s = yDo R i b s (bor frzN s.H (s.F.getD i .any)) (frz frzN s.H (s.F.getD i .any)) := by
  simp only [run,yDo]
  cases frz frzN s.H (s.F.getD i .any) <;> rfl
theorem xNY (i : Nat) (b : ACode) (s : St) (ids : List Nat) (v : AV) : yDo R i b s ids (some v) = run R b ⟨s.F.set i v,fzIds s.H ids⟩ := rfl
def yDp (d : Nat) (H : Heap) (off : Nat) : Option Blk → Option AV
  | some (.cells _ _ cs) => (cs.mapM (frz d H)).map fun cs' => .vptr cs' off
  | _ => none
theorem xU5 (d i o : Nat) : frz (d + 1) H (.ptr i o) = yDp d H o H[i]? := by
  simp only [frz,yDp]
  cases H[i]? with
  | none => rfl
  | some b => cases b <;> rfl
theorem xKM (d : Nat) (o : Nat) (fz z : Bool) (cs : List AV) : yDp d H o (some (.cells fz z cs)) = (cs.mapM (frz d H)).map fun cs' => .vptr cs' o := rfl
theorem xRl (d : Nat) (cs : List AV) (o : Nat) : frz d H (.vptr cs o) = some (.vptr cs o) := by cases d <;> rfl
def xZ3 (d : Nat) (H : Heap) : Option Blk → List Nat
  | some (.cells _ _ cs) => cs.flatMap (bor d H)
  | _ => []
theorem xU6 (d i o : Nat) : bor (d + 1) H (.ptr i o) = i :: xZ3 d H H[i]? := by
  simp only [bor,xZ3]
  cases H[i]? with
  | none => rfl
  | some b => cases b <;> rfl
theorem xIE (d : Nat) (fz z : Bool) (cs : List AV) : xZ3 d H (some (.cells fz z cs)) = cs.flatMap (bor d H) := rfl
theorem xRm (d : Nat) (cs : List AV) (o : Nat) : bor d H (.vptr cs o) = [] := by cases d <;> rfl
def xZ4 : Option Blk → Bool
  | some (.cells true _ _) => true
  | _ => false
theorem xKN (i : Nat) : xGf H i = xZ4 H[i]? := by
  simp only [xGf,xZ4]
  cases H[i]? with
  | none => rfl
  | some b => cases b with
    | cells fz z cs => cases fz <;> rfl
    | _ => rfl
theorem xU7 (z : Bool) (cs : List AV) : xZ4 (some (.cells true z cs)) = true := rfl
theorem xU8 (d : Nat) (z : Bool) (n : Nat) (cs : List AV) : bor d H (.sl z n cs) = [] := by cases d <;> rfl
theorem xU9 (d : Nat) (cs : List AV) : bor (d + 1) H (.agg cs) = cs.flatMap (bor d H) := rfl
theorem xVa (d : Nat) (cs : List AV) : bor (d + 1) H (.tup cs) = cs.flatMap (bor d H) := rfl
def yDq (d : Nat) (H : Heap) (off n es : Nat) : Option Blk → List Nat
  | some (.cells _ _ cs) => ((cs.drop off).take (n * es)).flatMap (bor d H)
  | _ => []
theorem xAh (d : Nat) (z : Bool) (id off n es : Nat) : bor (d + 1) H (.own z id off n es) = id :: yDq d H off n es H[id]? := by
  simp only [bor,yDq]
  cases H[id]? with
  | none => rfl
  | some b => cases b <;> rfl
theorem xKO (d off n es : Nat) (fz z : Bool) (cs : List AV) : yDq d H off n es (some (.cells fz z cs)) = ((cs.drop off).take (n * es)).flatMap (bor d H) := rfl
def xYJ (args : List AV) (H : Heap) : Option AV → Option (AV × Heap)
  | some r => some (r,if xAC r = true then H else fzIds H (args.flatMap (bor frzN H)))
  | none => none
theorem xNZ (args : List AV) (r : AV) : xYJ args H (some r) = some (r,if xAC r = true then H else fzIds H (args.flatMap (bor frzN H))) := rfl
theorem xN0 (args : List AV) : xYJ args H none = none := rfl
theorem xRn (args : List AV) {c : Prop} [Decidable c] (x y : Option AV) : xYJ args H (if c then x else y) = if c then xYJ args H x else xYJ args H y := by split <;> rfl
def yDr (R : Rec) (f : Nat) (args : List AV) (H : Heap) : Option (List AV) → Option (AV × Heap)
  | some args' => xYJ args H (R.pcall f args')
  | none => none
theorem xN1 (f : Nat) (args args' : List AV) : yDr R f args H (some args') = xYJ args H (R.pcall f args') := rfl
theorem xN2 (f : Nat) (args : List AV) : xB2 R f args H = yDr R f args H (args.mapM (frz frzN H)) := by
  simp only [xB2,yDr]
  cases args.mapM (frz frzN H) with
  | none => rfl
  | some args' => simp only [xYJ]; cases R.pcall f args' <;> rfl
theorem xVb (f : Nat) (args : List Arg) : xAb R F H (.call f args) = xB2 R f (args.map (opv F)) H := rfl
theorem xRo (f : Arg) (args : List Arg) : xAb R F H (.icall f args) = R.icall (opv F f) (args.map (opv F)) H := rfl
def xYK (R : Rec) (args : List AV) (H : Heap) : AV → Option (AV × Heap)
  | .func g caps => xB2 R g (args ++ caps) H
  | _ => none
theorem xIF (args : List AV) (g : Nat) (caps : List AV) : xYK R args H (.func g caps) = xB2 R g (args ++ caps) H := rfl
theorem xRp (f : Arg) (args : List Arg) : xAb R F H (.fcall f args) = xYK R (args.map (opv F)) H (opv F f) := by
  simp only [xAb]
  cases opv F f <;> rfl
def xEV (args : List AV) (H : Heap) : Option (AV × Heap) → Option (AV × Heap)
  | some (r,_) => if quietCall r H args = true then some (r,H) else none
  | none => none
theorem xIG (args : List AV) (r : AV) (H' : Heap) : xEV args H (some (r,H')) = if quietCall r H args = true then some (r,H) else none := rfl
theorem xIH (args : List AV) : xEV args H none = none := rfl
theorem xKP (args : List AV) {c : Prop} [Decidable c] (x y : Option (AV × Heap)) : xEV args H (if c then x else y) = if c then xEV args H x else xEV args H y := by split <;> rfl
theorem xVc (f : Nat) (args : List Arg) : xBn R F H (.call f args) = xEV (args.map (opv F)) H (xB2 R f (args.map (opv F)) H) := by
  simp only [xBn,xAR,xEV]
  cases xB2 R f (args.map (opv F)) H with
  | none => rfl
  | some r => obtain ⟨r,H'⟩ := r; simp only; split <;> rfl
def xPM (R : Rec) (args : List AV) (H : Heap) : AV → Option (AV × Heap)
  | .func g caps => xEV (args ++ caps) H (xB2 R g (args ++ caps) H)
  | _ => none
theorem xG0 (args : List AV) (g : Nat) (caps : List AV) : xPM R args H (.func g caps) = xEV (args ++ caps) H (xB2 R g (args ++ caps) H) := rfl
theorem xRq (f : Arg) (args : List Arg) : xBn R F H (.fcall f args) = xPM R (args.map (opv F)) H (opv F f) := by
  simp only [xBn,xAR,xEV,xPM]
  cases opv F f with
  | func g caps =>
    simp only
    cases xB2 R g (args.map (opv F) ++ caps) H with
    | none => rfl
    | some r => obtain ⟨r,H'⟩ := r; simp only; split <;> rfl
  | _ => rfl
theorem xYL (v : AV) : xBn R F H (.box (.c v)) = if v.cells.all AV.isCell = true then some (.any,H) else none := by
  simp only [xBn,xAR]
  split <;> rfl
def xD1 (H : Heap) : Option (AV × Heap) → Option (AV × Heap)
  | some (v,_) => some (v,H)
  | none => none
theorem xN3 (v : AV) (H' : Heap) : xD1 H (some (v,H')) = some (v,H) := rfl
theorem xN4 : xD1 H none = none := rfl
theorem xRr {c : Prop} [Decidable c] (x y : Option (AV × Heap)) : xD1 H (if c then x else y) = if c then xD1 H x else xD1 H y := by split <;> rfl
theorem xCB (op : AOp) (h : xAR R F H op = (xAb R F H op).map (·.1)) : xBn R F H op = xD1 H (xAb R F H op) := by
  simp only [xBn,h,xD1]
  cases xAb R F H op <;> rfl
theorem xYM (x : Arg) : xBn R F H (.mov x) = xD1 H (xAb R F H (.mov x)) := xCB _ rfl
theorem xVd (c a b : Arg) : xBn R F H (.pick c a b) = xD1 H (xAb R F H (.pick c a b)) := xCB _ rfl
theorem xRs (z : List AV) (parts : List (Nat × Nat × Arg)) : xBn R F H (.build z parts) = xD1 H (xAb R F H (.build z parts)) := xCB _ rfl
theorem xN5 (z : List AV) (es n : Nat) (parts : List (Nat × Arg)) : xBn R F H (.bslice true z es n parts) = xD1 H (xAb R F H (.bslice true z es n parts)) := xCB _ rfl
theorem xVe (g : Bool) (n : Nat) (p : Arg) : xBn R F H (.load g n p) = xD1 H (xAb R F H (.load g n p)) := xCB _ rfl
theorem xN6 (x : Arg) : xBn R F H (.nilchk x) = xD1 H (xAb R F H (.nilchk x)) := xCB _ rfl
theorem xYN (op : BinOp) (x y : Arg) : xBn R F H (.bin op x y) = xD1 H (xAb R F H (.bin op x y)) := xCB _ rfl
theorem xYO (neg : Bool) (x y : Arg) : xBn R F H (.beq neg x y) = xD1 H (xAb R F H (.beq neg x y)) := xCB _ rfl
theorem xRt (neg : Bool) (x : Arg) : xBn R F H (.isnil neg x) = xD1 H (xAb R F H (.isnil neg x)) := xCB _ rfl
theorem yBR (op : UnOp) (x : Arg) : xBn R F H (.un op x) = xD1 H (xAb R F H (.un op x)) := xCB _ rfl
theorem xVf (k : IntKind) (x : Arg) : xBn R F H (.conv k x) = xD1 H (xAb R F H (.conv k x)) := xCB _ rfl
theorem xN7 (f : Nat) (caps : List Arg) : xBn R F H (.mkfunc f caps) = xD1 H (xAb R F H (.mkfunc f caps)) := xCB _ rfl
theorem xKQ (z : List AV) (bytes : Nat) (l c : Arg) : xBn R F H (.mkslice true z bytes l c) = xD1 H (xAb R F H (.mkslice true z bytes l c)) := xCB _ rfl
theorem xRu (es : Nat) (x : Arg) (lo hi mx : Option Arg) : xBn R F H (.slice es x lo hi mx) = xD1 H (xAb R F H (.slice es x lo hi mx)) := xCB _ rfl
theorem xRv (o : Nat) (x : Arg) : xBn R F H (.faddr o x) = xD1 H (xAb R F H (.faddr o x)) := xCB _ rfl
theorem xRw (g : Bool) (off n : Nat) (x : Arg) : xBn R F H (.field g off n x) = xD1 H (xAb R F H (.field g off n x)) := xCB _ rfl
theorem xRx (es : Nat) (x i : Arg) : xBn R F H (.iaddr es x i) = xD1 H (xAb R F H (.iaddr es x i)) := xCB _ rfl
theorem xYP (i : Nat) (x : Arg) : xBn R F H (.ext i x) = xD1 H (xAb R F H (.ext i x)) := xCB _ rfl
theorem xYQ (x : Arg) : xBn R F H (.len x) = xD1 H (xAb R F H (.len x)) := xCB _ rfl
theorem xYR (x : Arg) : xBn R F H (.cap x) = xD1 H (xAb R F H (.cap x)) := xCB _ rfl
theorem xYS (neg : Bool) (n : Nat) (x y : Arg) : xBn R F H (.aeq neg n x y) = xD1 H (xAb R F H (.aeq neg n x y)) := xCB _ rfl
theorem xVg (x y : Arg) : xBn R F H (.maxi x y) = xD1 H (xAb R F H (.maxi x y)) := xCB _ rfl
theorem xVh (x y : Arg) : xBn R F H (.mini x y) = xD1 H (xAb R F H (.mini x y)) := xCB _ rfl
def xZ5 (es bytes : Nat) (H : Heap) (x : AV) (o : Option (Nat × List AV)) : Option (AV × Heap) := match x with
  | .sl _ _ _ => xD1 H (xYw true es bytes H x o)
  | _ => none
theorem xRy (es bytes : Nat) (z : Bool) (n : Nat) (cs : List AV) (o : Option (Nat × List AV)) : xZ5 es bytes H (.sl z n cs) o = xD1 H (xYw true es bytes H (.sl z n cs) o) := rfl
theorem xN8 (es bytes : Nat) (x y : Arg) : xBn R F H (.append true es bytes x y) = xZ5 es bytes H (opv F x) (src H es (opv F y)) := by
  simp only [xBn,xAR,xZ5]
  cases h : opv F x with
  | sl z n cs =>
    simp only [xIC,h,xD1]
    cases xYw true es bytes H (.sl z n cs) (src H es (opv F y)) <;> rfl
  | _ => rfl
def xSY (H : Heap) : Option AV → Option (AV × Heap)
  | some v => some (v,H)
  | none => none
theorem xKR (v : AV) : xSY H (some v) = some (v,H) := rfl
def xN9 (rs : List ARes) : Option (AExit × St) → Option (AV × Heap)
  | some (.normal,s) => xSY s.H (xBG rs s)
  | some (.ret,s) => xSY s.H (xBG rs s)
  | _ => none
theorem xG1 (rs : List ARes) (F : List AV) (H : Heap) : xN9 rs (some (.normal,⟨F,H⟩)) = xSY H (xBG rs ⟨F,H⟩) := rfl
theorem xOa (rs : List ARes) (F : List AV) (H : Heap) : xN9 rs (some (.ret,⟨F,H⟩)) = xSY H (xBG rs ⟨F,H⟩) := rfl
theorem xKS (rs : List ARes) : xN9 rs none = none := rfl
theorem xOb (rs : List ARes) {c : Prop} [Decidable c] (x y : Option (AExit × St)) : xN9 rs (if c then x else y) = if c then xN9 rs x else xN9 rs y := by split <;> rfl
def pads : Nat → List AV
  | 0 => []
  | n + 1 => .tup [] :: pads n
theorem xVi : ∀ n,List.replicate n (AV.tup []) = pads n
  | 0 => rfl
  | n + 1 => by rw [List.replicate_succ,xVi n]; rfl
theorem xAS (n : Nat) (code : ACode) (rs : List ARes) (args : List AV) : xBU R ⟨n,code,rs⟩ args H = xN9 rs (run R code ⟨args ++ pads (n - args.length),H⟩) := by
  rw [← xVi]
  simp only [xBU,xN9,xNc,xSY]
  cases h : run R code ⟨args ++ List.replicate (n - args.length) (.tup []),H⟩ with
  | none => rfl
  | some r =>
    obtain ⟨e,s⟩ := r
    cases e with
    | exit i => rfl
    | _ => simp only; cases xBG rs s <;> rfl
def xII : Option (AV × Heap) → Option AV
  | some (r,H') => frz frzN H' r
  | none => none
theorem xIJ (r : AV) (H' : Heap) : xII (some (r,H')) = frz frzN H' r := rfl
theorem xIK : xII none = none := rfl
theorem xKT {c : Prop} [Decidable c] (x y : Option (AV × Heap)) : xII (if c then x else y) = if c then xII x else xII y := by split <;> rfl
theorem xAl (fn : AFunc) (args : List AV) : xBj R fn args = xII (xBU R fn args []) := by
  simp only [xBj,xII]
  cases xBU R fn args [] <;> rfl
def xZ6 (g : Bool) : Option (List AV) → Option AV
  | some cs => mkv g cs
  | none => none
theorem xKU (g : Bool) (cs : List AV) : xZ6 g (some cs) = mkv g cs := rfl
theorem xVj (t : Nat) : xTJ ⟨F,H⟩ (.tmp t) = some (F.getD t .any) := rfl
theorem xRz (t : Nat) (g : Bool) (n : Nat) : xTJ ⟨F,H⟩ (.cell t g n) = xZ6 g (rd H (F.getD t .any) n) := by
  simp only [xTJ,xZ6]
  cases rd H (F.getD t .any) n <;> rfl
theorem xOc : xBG [] s = some (.tup []) := rfl
theorem xOd (r : ARes) : xBG [r] s = xTJ s r := rfl
def yDs (s : St) (rs : List ARes) : Option AV → Option (List AV)
  | some v => (xSO s rs).map (v :: ·)
  | none => none
theorem xOe (rs : List ARes) (v : AV) : yDs s rs (some v) = (xSO s rs).map (v :: ·) := rfl
theorem xRA : xSO s [] = some [] := rfl
theorem xOf (r : ARes) (rs : List ARes) : xSO s (r :: rs) = yDs s rs (xTJ s r) := by
  simp only [xSO,yDs]
  cases xTJ s r <;> rfl
theorem xOg (r r' : ARes) (rs : List ARes) : xBG (r :: r' :: rs) s = (xSO s (r :: r' :: rs)).map .tup := rfl
def xFG (F : List AV) (l : Nat) : Option (AV × Heap) → Option (AExit × St)
  | some (_,H') => match H'[l]? with
    | some (.loop st pend _ _ _ _) => if st = 1 then none else some ((match pend with | none => .normal | some e => e),⟨F,H'.set l .dead⟩)
    | _ => none
  | none => none
def xVk (R : Rec) (F : List AV) (H : Heap) (ps : List Nat) (asg body : ACode) : AV → Option (AExit × St)
  | .func g caps => xFG F H.length (R.icall (.func g caps) [.yield H.length] (H ++ [.loop 0 none F ps asg body]))
  | _ => none
theorem xOh (f : Arg) (ps : List Nat) (asg body : ACode) (F : List AV) (H : Heap) : run R (.range f ps asg body) ⟨F,H⟩ = xVk R F H ps asg body (opv F f) := by
  simp only [run]
  cases opv F f with
  | func g caps =>
    simp only [xVk,xFG]
    cases R.icall (.func g caps) [.yield H.length] (H ++ [.loop 0 none F ps asg body]) with
    | none => rfl
    | some r =>
      obtain ⟨v,H'⟩ := r
      simp only
      cases H'[H.length]? with
      | none => rfl
      | some b => cases b <;> rfl
  | _ => rfl
theorem xIL (ps : List Nat) (asg body : ACode) (g : Nat) (caps : List AV) : xVk R F H ps asg body (.func g caps) = xFG F H.length (R.icall (.func g caps) [.yield H.length] (H ++ [.loop 0 none F ps asg body])) := rfl
def xFH (l : Nat) (e : AExit) (H : Heap) : Option Blk → Option (AV × Heap)
  | some (.loop 1 _ F ps asg body) => some (match e with
    | .normal => (.bool true,H.set l (.loop 0 none F ps asg body))
    | e => (.bool false,H.set l (.loop 2 (some e) F ps asg body)))
  | _ => none
def xDE (l : Nat) : Option (AExit × St) → Option (AV × Heap)
  | some (e,s) => xFH l e s.H s.H[l]?
  | none => none
def xMf (R : Rec) (l : Nat) (body0 : ACode) (s : St) : Option Blk → Option (AV × Heap)
  | some (.loop 0 pend F ps asg body) => xDE l (run R body0 ⟨s.F,s.H.set l (.loop 1 pend F ps asg body)⟩)
  | _ => none
def xXx (R : Rec) (l : Nat) (body0 : ACode) : Option (AExit × St) → Option (AV × Heap)
  | some (.normal,s) => xMf R l body0 s s.H[l]?
  | _ => none
theorem xEv (l : Nat) (body0 : ACode) (F : List AV) (H : Heap) : xXx R l body0 (some (.normal,⟨F,H⟩)) = xMf R l body0 ⟨F,H⟩ H[l]? := rfl
theorem xFI (l : Nat) (body0 : ACode) (F : List AV) (H : Heap) (pend : Option AExit) (F1 : List AV) (ps : List Nat) (asg body : ACode) : xMf R l body0 ⟨F,H⟩ (some (.loop 0 pend F1 ps asg body)) = xDE l (run R body0 ⟨F,H.set l (.loop 1 pend F1 ps asg body)⟩) := rfl
theorem xEW (l : Nat) (e : AExit) (F : List AV) (H : Heap) : xDE l (some (e,⟨F,H⟩)) = xFH l e H H[l]? := rfl
theorem xFJ (l : Nat) {c : Prop} [Decidable c] (x y : Option (AExit × St)) : xDE l (if c then x else y) = if c then xDE l x else xDE l y := by split <;> rfl
theorem xEw (l : Nat) (H : Heap) (pend : Option AExit) (F : List AV) (ps : List Nat) (asg body : ACode) : xFH l .normal H (some (.loop 1 pend F ps asg body)) = some (.bool true,H.set l (.loop 0 none F ps asg body)) := rfl
theorem xFK (l i : Nat) (H : Heap) (pend : Option AExit) (F : List AV) (ps : List Nat) (asg body : ACode) : xFH l (.exit i) H (some (.loop 1 pend F ps asg body)) = some (.bool false,H.set l (.loop 2 (some (.exit i)) F ps asg body)) := rfl
theorem xG2 (l : Nat) (H : Heap) (pend : Option AExit) (F : List AV) (ps : List Nat) (asg body : ACode) : xFH l .ret H (some (.loop 1 pend F ps asg body)) = some (.bool false,H.set l (.loop 2 (some .ret) F ps asg body)) := rfl
def xHx (F : List AV) (l : Nat) (H : Heap) : Option Blk → Option (AExit × St)
  | some (.loop st pend _ _ _ _) => if st = 1 then none else some ((match pend with | none => .normal | some e => e),⟨F,H.set l .dead⟩)
  | _ => none
theorem xFL (l : Nat) (v : AV) (H : Heap) : xFG F l (some (v,H)) = xHx F l H H[l]? := by
  simp only [xFG,xHx]
theorem xKV (l : Nat) (H : Heap) (F1 : List AV) (ps : List Nat) (asg body : ACode) : xHx F l H (some (.loop 0 none F1 ps asg body)) = some (.normal,⟨F,H.set l .dead⟩) := rfl
theorem xKW (l : Nat) (H : Heap) (e : AExit) (F1 : List AV) (ps : List Nat) (asg body : ACode) : xHx F l H (some (.loop 2 (some e) F1 ps asg body)) = some (e,⟨F,H.set l .dead⟩) := rfl
end
section
variable {R : Rec} {F : List AV} {H : Heap} {s : St}
def xVl : Option (AV × Heap) → Option (AV × List Blk)
  | some (r,H') => (xDp H' r).map fun (v,B) => (v,B.map (·.2))
  | none => none
theorem xVm (f : Nat) (args : List AV) : xDA R f args = xVl (R.icall (.func f []) args []) := by
  unfold xDA xVl
  cases R.icall (.func f []) args [] <;> rfl
theorem xIM (r : AV) (H' : Heap) : xVl (some (r,H')) = (xDp H' r).map fun (v,B) => (v,B.map (·.2)) := rfl
def ocK (H : Heap) (ids : List Nat) : Option (AV × List Blk) → Option (AV × Heap)
  | some (v,B) => some (xBk H.length v,fzIds H ids ++ B)
  | none => none
def xVn (R : Rec) (f : Nat) (H : Heap) (ids : List Nat) : Option (List AV) → Option (AV × Heap)
  | some args' => ocK H ids (xDA R f args')
  | none => none
theorem xRB (f : Nat) (args : List Arg) : xAb R F H (.ocall f args) = xVn R f H ((args.map (opv F)).flatMap (bor frzN H)) ((args.map (opv F)).mapM (frz frzN H)) := by
  simp only [xAb,xVn]
  cases (args.map (opv F)).mapM (frz frzN H) with
  | none => rfl
  | some args' =>
    simp only [ocK]
    cases xDA R f args' <;> rfl
theorem xIN (f : Nat) (ids : List Nat) (args' : List AV) : xVn R f H ids (some args') = ocK H ids (xDA R f args') := rfl
theorem xRC (ids : List Nat) (v : AV) (B : List Blk) : ocK H ids (some (v,B)) = some (xBk H.length v,fzIds H ids ++ B) := rfl
def t1B (z : Bool) (id off n es : Nat) (B : List (Nat × Blk)) : Option Blk → Option (AV × List (Nat × Blk))
  | some (.cells false z' cs) => if cs.all xA2 = true then some (.own z B.length off n es,B ++ [(id,.cells false z' cs)]) else none
  | _ => none
def t1I (z : Bool) (id off n es : Nat) (B : List (Nat × Blk)) (b : Option Blk) : Option Nat → Option (AV × List (Nat × Blk))
  | some k => some (.own z k off n es,B)
  | none => t1B z id off n es B b
theorem xOi (H : Heap) (z : Bool) (id off n es : Nat) (B : List (Nat × Blk)) : xEO H (.own z id off n es) B = t1I z id off n es B H[id]? (B.findIdx? (fun p => p.1 == id)) := by
  simp only [xEO,t1I]
  cases B.findIdx? (fun p => p.1 == id) with
  | some k => rfl
  | none =>
    simp only [t1B]
    cases H[id]? with
    | none => rfl
    | some b => cases b with
      | cells fz z' cs => cases fz <;> rfl
      | _ => rfl
theorem xVo (z : Bool) (id off n es : Nat) (B : List (Nat × Blk)) (b : Option Blk) (k : Nat) : t1I z id off n es B b (some k) = some (.own z k off n es,B) := rfl
theorem xVp (z : Bool) (id off n es : Nat) (B : List (Nat × Blk)) (z' : Bool) (cs : List AV) : t1I z id off n es B (some (.cells false z' cs)) none = if cs.all xA2 = true then some (.own z B.length off n es,B ++ [(id,.cells false z' cs)]) else none := rfl
theorem xOj (H : Heap) (k : IntKind) (n : Int) (B : List (Nat × Blk)) : xEO H (.int k n) B = some (.int k n,B) := rfl
theorem xKX (H : Heap) (b : Bool) (B : List (Nat × Blk)) : xEO H (.bool b) B = some (.bool b,B) := rfl
theorem xRD (H : Heap) (z : Bool) (n : Nat) (cs : List AV) (B : List (Nat × Blk)) : xEO H (.sl z n cs) B = some (.sl z n cs,B) := rfl
theorem xOk (H : Heap) (b : ByteArray) (B : List (Nat × Blk)) : xEO H (.str b) B = some (.str b,B) := rfl
def tkL (H : Heap) (vs : List AV) : Option (AV × List (Nat × Blk)) → Option (List AV × List (Nat × Blk))
  | some (v',B') => (xH5 H vs B').map fun (vs',B2) => (v' :: vs',B2)
  | none => none
theorem xOl (H : Heap) (B : List (Nat × Blk)) : xH5 H [] B = some ([],B) := rfl
theorem xKY (H : Heap) (v : AV) (vs : List AV) (B : List (Nat × Blk)) : xH5 H (v :: vs) B = tkL H vs (xEO H v B) := by
  simp only [xH5,tkL]
  cases xEO H v B <;> rfl
theorem xRE (H : Heap) (vs : List AV) (v' : AV) (B' : List (Nat × Blk)) : tkL H vs (some (v',B')) = (xH5 H vs B').map fun (vs',B2) => (v' :: vs',B2) := rfl
theorem xOm (H : Heap) (cs : List AV) (B : List (Nat × Blk)) : xFx H (.agg cs) B = if cs.all AV.isCell = true then (xH5 H cs B).map fun (cs',B') => (.agg cs',B') else none := rfl
theorem xOn (H : Heap) (z : Bool) (id off n es : Nat) (B : List (Nat × Blk)) : xFx H (.own z id off n es) B = xEO H (.own z id off n es) B := rfl
theorem xOo (H : Heap) (k : IntKind) (n : Int) (B : List (Nat × Blk)) : xFx H (.int k n) B = some (.int k n,B) := rfl
theorem xKZ (H : Heap) (b : Bool) (B : List (Nat × Blk)) : xFx H (.bool b) B = some (.bool b,B) := rfl
theorem xRF (H : Heap) (z : Bool) (n : Nat) (cs : List AV) (B : List (Nat × Blk)) : xFx H (.sl z n cs) B = some (.sl z n cs,B) := rfl
def yDt (H : Heap) (vs : List AV) : Option (AV × List (Nat × Blk)) → Option (List AV × List (Nat × Blk))
  | some (v',B') => (xEp H vs B').map fun (vs',B2) => (v' :: vs',B2)
  | none => none
theorem xK0 (H : Heap) (B : List (Nat × Blk)) : xEp H [] B = some ([],B) := rfl
theorem xIO (H : Heap) (v : AV) (vs : List AV) (B : List (Nat × Blk)) : xEp H (v :: vs) B = yDt H vs (xFx H v B) := by
  simp only [xEp,yDt]
  cases xFx H v B <;> rfl
theorem xOp (H : Heap) (vs : List AV) (v' : AV) (B' : List (Nat × Blk)) : yDt H vs (some (v',B')) = (xEp H vs B').map fun (vs',B2) => (v' :: vs',B2) := rfl
theorem xIP (H : Heap) (vs : List AV) : xDp H (.tup vs) = (xEp H vs []).map fun (vs',B) => (.tup vs',B) := rfl
theorem xIQ (H : Heap) (cs : List AV) : xDp H (.agg cs) = xFx H (.agg cs) [] := rfl
theorem xIR (H : Heap) (z : Bool) (id off n es : Nat) : xDp H (.own z id off n es) = xEO H (.own z id off n es) [] := rfl
theorem xK1 (H : Heap) (z : Bool) (n : Nat) (cs : List AV) : xDp H (.sl z n cs) = some (.sl z n cs,[]) := rfl
theorem xOq {α : Type} (p : α → Bool) : ([] : List α).findIdx? p = none := rfl
theorem xK2 {α : Type} (p : α → Bool) (a : α) (l : List α) : (a :: l).findIdx? p = if p a = true then some 0 else (l.findIdx? p).map (· + 1) := by
  rw [List.findIdx?_cons]
def xVq (R : Rec) (als : List (Nat × Nat)) (ls : List (Nat × Nat × Nat × Nat)) (m : Nat) (ops : List AOper) : Option (St × List Pr) → Option (AExit × St)
  | some (s,pl) => xEs ls (xAP R (ops.drop m) (xBR als pl s))
  | none => none
theorem xOr (als : List (Nat × Nat)) (ls : List (Nat × Nat × Nat × Nat)) (m : Nat) (ops : List AOper) : run R (.drawp als ls m ops) s = xVq R als ls m ops (xA3 R (ops.take m) s) := by
  simp only [run,xVq]
  cases xA3 R (ops.take m) s with
  | none => rfl
  | some r =>
    obtain ⟨s1,pl⟩ := r
    simp only [xEs]
    cases xAP R (ops.drop m) (xBR als pl s1) <;> rfl
theorem xIS (als : List (Nat × Nat)) (ls : List (Nat × Nat × Nat × Nat)) (m : Nat) (ops : List AOper) (s : St) (pl : List Pr) : xVq R als ls m ops (some (s,pl)) = xEs ls (xAP R (ops.drop m) (xBR als pl s)) := rfl
theorem xK3 (pl : List Pr) (s : St) : xBR [] pl s = adoptL pl s := rfl
def alK (als : List (Nat × Nat)) : St → St
  | ⟨F,H⟩ => ⟨xCf als F,H⟩
theorem xIT (p : Nat × Nat) (r : List (Nat × Nat)) (pl : List Pr) (s : St) : xBR (p :: r) pl s = alK (p :: r) (adoptL pl s) := rfl
theorem xYT (als : List (Nat × Nat)) (F : List AV) (H : Heap) : alK als ⟨F,H⟩ = ⟨xCf als F,H⟩ := rfl
theorem xK4 (F : List AV) : xCf [] F = F := rfl
theorem xIU (d q : Nat) (r : List (Nat × Nat)) (F : List AV) : xCf ((d,q) :: r) F = xCf r (F.set d (xW8 (q / 4096) (F.getD (q % 4096) .any))) := rfl
theorem xA7 (v : AV) : xW8 0 v = v := rfl
theorem xA8 (vs : List AV) : xW8 1 (.tup vs) = vs.getD 0 .any := rfl
theorem xA9 (vs : List AV) : xW8 2 (.tup vs) = vs.getD 1 .any := rfl
theorem xBa (vs : List AV) : xW8 3 (.tup vs) = vs.getD 2 .any := rfl
theorem xBb (z : Bool) (i o n e : Nat) : xCE (.own z i o n e) = .any := rfl
theorem xBc (i o : Nat) : xCE (.ptr i o) = .any := rfl
theorem xBH (z : Bool) (n : Nat) (cs : List AV) : xCE (.sl z n cs) = .any := rfl
theorem xBd (cs : List AV) : xCE (.agg cs) = .any := rfl
theorem xBe (k : IntKind) (n : Int) : xCE (.int k n) = .any := rfl
theorem xAT (b : Bool) : xCE (.bool b) = .any := rfl
theorem xBf (vs : List AV) : xCE (.tup vs) = .tup (vs.map xEr) := rfl
theorem xAU (z : Bool) (i o n e : Nat) : xEr (.own z i o n e) = .any := rfl
theorem xAV (i o : Nat) : xEr (.ptr i o) = .any := rfl
theorem xBg (z : Bool) (n : Nat) (cs : List AV) : xEr (.sl z n cs) = .any := rfl
theorem xAW (cs : List AV) : xEr (.agg cs) = .any := rfl
theorem xAX (k : IntKind) (n : Int) : xEr (.int k n) = .int k n := rfl
theorem xAD (b : Bool) : xEr (.bool b) = .bool b := rfl
def xVr (e : Pr) : Option (St × List Pr) → Option (St × List Pr)
  | some (s,l) => some (s,e :: l)
  | none => none
theorem xK5 (e : Pr) (s : St) (l : List Pr) : xVr e (some (s,l)) = some (s,e :: l) := rfl
def xVs (R : Rec) (rest : List AOper) (s : St) : Option Nat → Option (AV × List Blk) → Option (St × List Pr)
  | some t,some (v,B) => xVr (some (t,v,B)) (xA3 R rest ⟨s.F.set t (xCE v),s.H⟩)
  | _,_ => none
def xVt (R : Rec) (rest : List AOper) : Option St → Option (St × List Pr)
  | some s => xVr none (xA3 R rest s)
  | none => none
theorem xIV : xA3 R [] s = some (s,[]) := rfl
theorem xG3 (o : AOper) (rest : List AOper) : xA3 R (o :: rest) s = if xAZ o.op = true then xVs R rest s o.dst (xDq R s.F o.op) else xVt R rest (xBm R o s) := by
  simp only [xA3]
  split
  · cases o.dst with
    | none => rfl
    | some t => cases xDq R s.F o.op with
      | none => rfl
      | some r =>
        obtain ⟨v,B⟩ := r
        simp only [xVs]
        cases xA3 R rest ⟨s.F.set t (xCE v),s.H⟩ <;> rfl
  · cases xBm R o s with
    | none => rfl
    | some s1 =>
      simp only [xVt]
      cases xA3 R rest s1 <;> rfl
theorem xIW (rest : List AOper) (t : Nat) (v : AV) (B : List Blk) : xVs R rest s (some t) (some (v,B)) = xVr (some (t,v,B)) (xA3 R rest ⟨s.F.set t (xCE v),s.H⟩) := rfl
theorem xIX (rest : List AOper) (s : St) : xVt R rest (some s) = xVr none (xA3 R rest s) := rfl
def xZ7 : Option (AV × Heap) → Option (AV × List Blk)
  | some (v,B) => if xCt v = true ∧ xEq B = true then some (v,B) else none
  | none => none
theorem xRG (op : AOp) : xDq R F op = if op.args.all (fun x => xBt (opv F x)) = true then xZ7 (xAb R F [] op) else none := by
  unfold xDq xZ7
  split
  · cases xAb R F [] op <;> rfl
  · rfl
theorem xK6 (v : AV) (B : Heap) : xZ7 (some (v,B)) = if xCt v = true ∧ xEq B = true then some (v,B) else none := rfl
theorem xG4 (f : Nat) (as : List Arg) : xAZ (.ocall f as) = true := rfl
theorem xK7 (x : Arg) : xAZ (.box x) = true := rfl
theorem xIY (z : List AV) (b : Nat) (x y : Arg) : xAZ (.mkslice false z b x y) = true := rfl
theorem xIZ (z : List AV) (b : Nat) (x y : Arg) : xAZ (.mkslice true z b x y) = false := rfl
theorem xI0 (z : List AV) (es n : Nat) (ps : List (Nat × Arg)) : xAZ (.bslice false z es n ps) = true := rfl
theorem xI1 (z : List AV) (es n : Nat) (ps : List (Nat × Arg)) : xAZ (.bslice true z es n ps) = false := rfl
theorem xI2 (es b : Nat) (x y : Arg) : xAZ (.append false es b x y) = true := rfl
theorem xI3 (es b : Nat) (x y : Arg) : xAZ (.append true es b x y) = false := rfl
theorem xI4 (z : List AV) (b : Nat) (x y : Arg) : xAZ (.appendz z b x y) = true := rfl
theorem xK8 (x : Arg) : xAZ (.mov x) = false := rfl
theorem xI5 (x y z : Arg) : xAZ (.pick x y z) = false := rfl
theorem xG5 (z : List AV) (ps : List (Nat × Nat × Arg)) : xAZ (.build z ps) = false := rfl
theorem xI6 (g : Bool) (n : Nat) (x : Arg) : xAZ (.load g n x) = false := rfl
theorem xFM (x : Arg) : xAZ (.nilchk x) = false := rfl
theorem xK9 (op : BinOp) (x y : Arg) : xAZ (.bin op x y) = false := rfl
theorem xLa (g : Bool) (x y : Arg) : xAZ (.beq g x y) = false := rfl
theorem xG6 (g : Bool) (x : Arg) : xAZ (.isnil g x) = false := rfl
theorem xOs (op : UnOp) (x : Arg) : xAZ (.un op x) = false := rfl
theorem xI7 (k : IntKind) (x : Arg) : xAZ (.conv k x) = false := rfl
theorem xFN (f : Nat) (as : List Arg) : xAZ (.mkfunc f as) = false := rfl
theorem xG7 (es : Nat) (x : Arg) (a b c : Option Arg) : xAZ (.slice es x a b c) = false := rfl
theorem xG8 (o : Nat) (x : Arg) : xAZ (.faddr o x) = false := rfl
theorem xG9 (g : Bool) (o n : Nat) (x : Arg) : xAZ (.field g o n x) = false := rfl
theorem xHa (es : Nat) (x i : Arg) : xAZ (.iaddr es x i) = false := rfl
theorem xLb (i : Nat) (x : Arg) : xAZ (.ext i x) = false := rfl
theorem xLc (x : Arg) : xAZ (.len x) = false := rfl
theorem xLd (x : Arg) : xAZ (.cap x) = false := rfl
theorem xLe (g : Bool) (n : Nat) (x y : Arg) : xAZ (.aeq g n x y) = false := rfl
theorem xI8 (f : Nat) (as : List Arg) : xAZ (.call f as) = false := rfl
theorem xHb (f : Arg) (as : List Arg) : xAZ (.fcall f as) = false := rfl
theorem xI9 (x y : Arg) : xAZ (.maxi x y) = false := rfl
theorem xJa (x y : Arg) : xAZ (.mini x y) = false := rfl
theorem xJb : xEq [] = true := rfl
theorem xHc (z : Bool) (cs : List AV) (B : List Blk) : xEq (.cells false z cs :: B) = (cs.all xA2 && xEq B) := rfl
theorem xMg {α : Type} {f : α → AV} (h : ∀ a,xA2 (f a) = true) (l : List α) : (l.map f).all xA2 = true := by
  simp [List.all_eq_true,h]
end
section
variable {R : Rec} {F : List AV} {H : Heap}
def yCY (g : Bool) (es len : Nat) : AV → AV → Option AV
  | .agg cs,.int _ i => if 0 ≤ i ∧ i.toNat < len ∧ i.toNat * es + es ≤ cs.length then mkv g ((cs.drop (i.toNat * es)).take es) else none
  | _,_ => none
theorem xRH {g : Bool} {es len : Nat} {cs : List AV} {k : IntKind} {i : Int} (h0 : 0 ≤ i) (h : i < len) (h2 : i.toNat * es + es ≤ cs.length) : yCY g es len (.agg cs) (.int k i) = mkv g ((cs.drop (i.toNat * es)).take es) := if_pos ⟨h0,by omega,h2⟩
theorem xYU (g : Bool) (es len : Nat) (x i : Arg) : xAb R F H (.idx g es len x i) = xCS H (yCY g es len (opv F x) (opv F i)) := by
  simp only [xAb]
  cases opv F x with
  | agg cs => cases opv F i with
    | int k n =>
      by_cases h0 : 0 ≤ n
      · have e : xBL (.int k n) = some n.toNat := by simp [xBL,h0]
        simp only [e,yCY,h0,true_and]
        by_cases c : n.toNat < len ∧ n.toNat * es + es ≤ cs.length
        · rw [if_pos c,if_pos c]
          cases mkv g ((cs.drop (n.toNat * es)).take es) <;> rfl
        · rw [if_neg c,if_neg c]; rfl
      · have e : xBL (.int k n) = none := by simp [xBL,h0]
        simp only [e,yCY,h0,false_and,if_false,xCS]
    | _ => rfl
  | _ => rfl
def xJc (es len : Nat) : AV → AV → Option AV
  | .ptr id off,.int _ i => if 0 ≤ i ∧ i.toNat < len then some (.ptr id (off + i.toNat * es)) else none
  | .vptr cs off,.int _ i => if 0 ≤ i ∧ i.toNat < len then some (.vptr cs (off + i.toNat * es)) else none
  | _,_ => none
theorem xLf {es len id off : Nat} {k : IntKind} {i : Int} (h0 : 0 ≤ i) (h : i < len) : xJc es len (.ptr id off) (.int k i) = some (.ptr id (off + i.toNat * es)) := if_pos ⟨h0,by omega⟩
theorem xJd {es len off : Nat} {cs : List AV} {k : IntKind} {i : Int} (h0 : 0 ≤ i) (h : i < len) : xJc es len (.vptr cs off) (.int k i) = some (.vptr cs (off + i.toNat * es)) := if_pos ⟨h0,by omega⟩
theorem xRI (es len : Nat) (x i : Arg) : xAb R F H (.arrat es len x i) = xCS H (xJc es len (opv F x) (opv F i)) := by
  simp only [xAb]
  cases opv F x with
  | ptr id off => cases opv F i with
    | int k n =>
      by_cases h0 : 0 ≤ n
      · have e : xBL (.int k n) = some n.toNat := by simp [xBL,h0]
        simp only [e,xJc,h0,true_and]
        by_cases c : n.toNat < len
        · rw [if_pos c,if_pos c]; rfl
        · rw [if_neg c,if_neg c]; rfl
      · have e : xBL (.int k n) = none := by simp [xBL,h0]
        simp only [e,xJc,h0,false_and,if_false,xCS]
    | _ => rfl
  | vptr cs off => cases opv F i with
    | int k n =>
      by_cases h0 : 0 ≤ n
      · have e : xBL (.int k n) = some n.toNat := by simp [xBL,h0]
        simp only [e,xJc,h0,true_and]
        by_cases c : n.toNat < len
        · rw [if_pos c,if_pos c]; rfl
        · rw [if_neg c,if_neg c]; rfl
      · have e : xBL (.int k n) = none := by simp [xBL,h0]
        simp only [e,xJc,h0,false_and,if_false,xCS]
    | _ => rfl
  | _ => rfl
def xXy (es len : Nat) : Option (List AV) → AV → Option AV
  | some cs,.int _ i => if 0 ≤ i ∧ i.toNat < len then some (.vptr cs (i.toNat * es)) else none
  | _,_ => none
theorem xLg {es len : Nat} {cs : List AV} {k : IntKind} {i : Int} (h0 : 0 ≤ i) (h : i < len) : xXy es len (some cs) (.int k i) = some (.vptr cs (i.toNat * es)) := if_pos ⟨h0,by omega⟩
theorem xVu (b es len : Nat) (i : Arg) : xAb R F H (.garr b es len i) = xCS H (xXy es len (xNb b) (opv F i)) := by
  simp only [xAb]
  cases xNb b with
  | none => rfl
  | some cs => cases opv F i with
    | int k n =>
      by_cases h0 : 0 ≤ n
      · have e : xBL (.int k n) = some n.toNat := by simp [xBL,h0]
        simp only [e,xXy,h0,true_and]
        by_cases c : n.toNat < len
        · rw [if_pos c,if_pos c]; rfl
        · rw [if_neg c,if_neg c]; rfl
      · have e : xBL (.int k n) = none := by simp [xBL,h0]
        simp only [e,xXy,h0,false_and,if_false,xCS]
    | _ => rfl
def yBS : AV → Option AV
  | .str s => some (.int .i64 s.size)
  | _ => none
theorem xOt (s : ByteArray) : yBS (.str s) = some (.int .i64 s.size) := rfl
theorem xVv (x : Arg) : xAb R F H (.slen x) = xCS H (yBS (opv F x)) := by
  simp only [xAb]
  cases opv F x <;> rfl
theorem xYV (g : Bool) (es len : Nat) (x i : Arg) : xBn R F H (.idx g es len x i) = xD1 H (xAb R F H (.idx g es len x i)) := xCB _ rfl
theorem xRJ (es len : Nat) (x i : Arg) : xBn R F H (.arrat es len x i) = xD1 H (xAb R F H (.arrat es len x i)) := xCB _ rfl
theorem xVw (b es len : Nat) (i : Arg) : xBn R F H (.garr b es len i) = xD1 H (xAb R F H (.garr b es len i)) := xCB _ rfl
theorem xVx (x : Arg) : xBn R F H (.slen x) = xD1 H (xAb R F H (.slen x)) := xCB _ rfl
end
end Go.Abs
